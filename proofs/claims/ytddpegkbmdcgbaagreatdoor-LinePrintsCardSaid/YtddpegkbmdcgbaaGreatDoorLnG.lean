/- Samples and rows of four bytes as arguments of a law. -/
import Derived.Test.YtddpegkbmdcgbaaGreatDoorDcQ
import Derived.OpenShut
set_option linter.unusedSimpArgs false
set_option linter.unusedVariables false
set_option linter.constructorNameAsVariable false
namespace Go.Proofs.YtddpegkbmdcgbaaGreatDoor
open Go.ChangeShapes Go.WideShapes Go.ChangeAt Go.RowKit Go.ChangeMaps Go.Abs
section
variable {H : Type} {enc : TypeId × Value → H} {w : World} {base : Nat} {spare : Nat → Bool} {held : Bool}
theorem samp_size : Tryz.prog.cellsOf 24 = 3 := by kernel_rfl
theorem str_size3 : Tryz.prog.cellsOf 9 = 1 := by kernel_rfl
theorem int_size3 : Tryz.prog.cellsOf 3 = 1 := by kernel_rfl
theorem i64_size3 : Tryz.prog.cellsOf 2 = 1 := by kernel_rfl
theorem u8_size3 : Tryz.prog.cellsOf 5 = 1 := by kernel_rfl
theorem ir_bytes3 {Im : Addr → Prop} {w : World} (s : ByteArray) : IR Im w (.str s.data.toList) (.string s) := by
  have : (.string s : Value) = .string ⟨s.data.toList.toArray⟩ := by cases s; simp
  rw [this]; exact .str _
set_option maxRecDepth 100000 in
theorem open_samp {r : Reach} {b0 : Nat} {v : Value} {d : DataW H} {ps : List MemPlace} (hval : Value.okWide Tryz.prog w r b0 24 v) (hd : DataW.Trod enc Tryz.prog w base spare held 24 v d ps) :
    ∃ (p : List UInt8) (n t : Int), p.length ≤ 9223372036854775807 ∧ (Lit.int .i64 n).wf = true ∧ (Lit.int .i64 t).wf = true ∧ ∀ Im W, IR Im W (.agg [.str p, .int .i64 n, .int .i64 t]) v := by
  obtain ⟨cs, rfl, hsz⟩ := okWide_struct Tryz.underlying24 hval
  obtain ⟨fuel, hf⟩ := hd
  obtain ⟨xs, n, rfl, hx, hl, hxl, hall⟩ := DataW.trod_struct Tryz.underlying24 hf
  have hx2 : xs.length = 3 := hxl
  obtain ⟨x0, x1, x2, rfl⟩ : ∃ x0 x1 x2, xs = [x0, x1, x2] := by
    match xs, hx2 with
    | [a, b, c], _ => exact ⟨a, b, c, rfl⟩
  have hl2 : cs.size = 3 := by rw [hsz, samp_size]
  obtain ⟨c0, c1, c2, rfl⟩ : ∃ c0 c1 c2, cs = #[c0, c1, c2] := by
    obtain ⟨l⟩ := cs
    match l, hl2 with
    | [a, b, c], _ => exact ⟨a, b, c, rfl⟩
  have h0 : DataW.trod enc Tryz.prog w base spare held n 9 [c0] = some x0 := by simpa [str_size3, Value.cells] using hall 0 _ rfl
  have h1 : DataW.trod enc Tryz.prog w base spare held n 2 [c1] = some x1 := by simpa [i64_size3, Value.cells] using hall 1 _ rfl
  have h2 : DataW.trod enc Tryz.prog w base spare held n 3 [c2] = some x2 := by simpa [int_size3, Value.cells] using hall 2 _ rfl
  obtain ⟨s0, e0, _, w0⟩ := DataW.trod_string Tryz.underlying9 h0
  obtain ⟨m1, e1, _, w1⟩ := DataW.trod_int Tryz.underlying2 h1
  obtain ⟨m2, e2, _, w2⟩ := DataW.trod_int Tryz.underlying3 h2
  simp only [List.cons.injEq, and_true] at e0 e1 e2
  subst e0 e1 e2
  refine ⟨s0.data.toList, m1, m2, by rw [Array.length_toList]; exact w0, w1, w2, fun Im W => ?_⟩
  exact .agg _ [_, _, _] (by simp [AV.one]) rfl fun j hj hj' => by
    match j, hj with
    | 0, _ => exact ir_bytes3 _
    | 1, _ => exact .int _ _
    | 2, _ => exact .int _ _
theorem u8_of {n : Int} (h : (Lit.int .u8 n).wf = true) : ∃ c : UInt8, n = c.toNat := by
  have h1 : IntKind.u8.min = 0 := rfl
  have h2 : IntKind.u8.max = 255 := rfl
  simp only [Lit.wf, Bool.and_eq_true, decide_eq_true_eq] at h
  exact ⟨n.toNat.toUInt8, by simp; omega⟩
theorem okWide_array {r : Reach} {b0 : Nat} {t e : TypeId} {n : Nat} {v : Value} (ht : Tryz.prog.underlying t = some (.array n e)) (h : Value.okWide Tryz.prog w r b0 t v) : ∃ cs, v = .agg cs ∧ cs.size = Tryz.prog.cellsOf t := by
  simp only [Value.okWide, ht] at h
  obtain ⟨cs, h1, h2, _⟩ := h
  exact ⟨cs, h1, h2⟩
end
end Go.Proofs.YtddpegkbmdcgbaaGreatDoor
