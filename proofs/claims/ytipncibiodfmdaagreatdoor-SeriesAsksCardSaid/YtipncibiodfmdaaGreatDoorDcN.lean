/- Numbers as arguments of a law: their cells, and what reads them. -/
import Derived.Test.YtipncibiodfmdaaGreatDoorDcL
set_option linter.unusedSimpArgs false
set_option linter.unusedVariables false
set_option linter.constructorNameAsVariable false
namespace Go.Proofs.YtipncibiodfmdaaGreatDoor
open Go.ChangeShapes Go.WideShapes Go.ChangeAt Go.RowKit Go.ChangeMaps Go.Abs
section
variable {H : Type} {enc : TypeId × Value → H} {w : World} {base : Nat} {spare : Nat → Bool} {held : Bool}

theorem num_size : Tryz.prog.cellsOf 33 = 2 := by kernel_rfl
theorem bool_size : Tryz.prog.cellsOf 4 = 1 := by kernel_rfl
theorem i64_size : Tryz.prog.cellsOf 2 = 1 := by kernel_rfl

set_option maxRecDepth 100000 in
theorem open_num {r : Reach} {b0 : Nat} {v : Value} {d : DataW H} {ps : List MemPlace} (hval : Value.okWide Tryz.prog w r b0 33 v) (hd : DataW.Trod enc Tryz.prog w base spare held 33 v d ps) :
    ∃ (b : Bool) (n : Int), v = .agg #[.bool b, .int .i64 n] ∧ d = .agg [.lit (.bool b), .lit (.int .i64 n)] ∧ ps = [] ∧ (Lit.int .i64 n).wf = true := by
  obtain ⟨cs, rfl, hsz⟩ := okWide_struct Tryz.underlying33 hval
  obtain ⟨fuel, hf⟩ := hd
  obtain ⟨xs, n, rfl, hx, hl, hxl, hall⟩ := DataW.trod_struct Tryz.underlying33 hf
  have hx2 : xs.length = 2 := hxl
  obtain ⟨x0, x1, rfl⟩ : ∃ x0 x1, xs = [x0, x1] := by
    match xs, hx2 with
    | [a, b], _ => exact ⟨a, b, rfl⟩
  have hl2 : cs.size = 2 := by rw [hsz, num_size]
  obtain ⟨c0, c1, rfl⟩ : ∃ c0 c1, cs = #[c0, c1] := by
    obtain ⟨l⟩ := cs
    match l, hl2 with
    | [a, b], _ => exact ⟨a, b, rfl⟩
  have h0 : DataW.trod enc Tryz.prog w base spare held n 4 [c0] = some x0 := by simpa [bool_size, Value.cells] using hall 0 _ rfl
  have h1 : DataW.trod enc Tryz.prog w base spare held n 2 [c1] = some x1 := by simpa [i64_size, Value.cells] using hall 1 _ rfl
  obtain ⟨b, e0, e0'⟩ := DataW.trod_bool Tryz.underlying4 h0
  obtain ⟨m, e1, e1', hw⟩ := DataW.trod_int Tryz.underlying2 h1
  simp only [List.cons.injEq, and_true] at e0 e1
  subst e0 e1 e0' e1'
  simp only [Prod.mk.injEq] at hx
  exact ⟨b, m, rfl, hx.1, hx.2, hw⟩
set_option maxRecDepth 100000 in
theorem shut_num (b : Bool) {n : Int} (hw : (Lit.int .i64 n).wf = true) : DataW.Trod enc Tryz.prog w base spare held 33 (.agg #[.bool b, .int .i64 n]) (.agg [.lit (.bool b), .lit (.int .i64 n)]) [] := by
  refine ⟨2, ?_⟩
  have e0 : DataW.trod enc Tryz.prog w base spare held 1 4 [.bool b] = some (.lit (.bool b), []) := by simp [DataW.trod, Tryz.underlying4]
  have e1 : DataW.trod enc Tryz.prog w base spare held 1 2 [.int .i64 n] = some (.lit (.int .i64 n), []) := by simp [DataW.trod, Tryz.underlying2, hw]
  rw [DataW.trod.eq_def]
  simp only [Tryz.underlying33, Value.cells, num_size]
  simp [bool_size, i64_size, e0, e1]
end
theorem ir_num (W : World) (b : Bool) (n : Int) : IR noIm W (.agg [.bool b, .int .i64 n]) (.agg #[.bool b, .int .i64 n]) :=
  .agg _ [_, _] (by simp [AV.one]) rfl fun j hj hj' => by
    match j, hj with
    | 0, _ => exact .bool _
    | 1, _ => exact .int _ _
theorem wf_i64 {n : Int} (h : (Lit.int .i64 n).wf = true) : -9223372036854775808 ≤ n ∧ n ≤ 9223372036854775807 := by
  simp only [Lit.wf, Bool.and_eq_true, decide_eq_true_eq] at h
  have h1 : IntKind.i64.min = -9223372036854775808 := rfl
  have h2 : IntKind.i64.max = 9223372036854775807 := rfl
  omega
end Go.Proofs.YtipncibiodfmdaaGreatDoor
