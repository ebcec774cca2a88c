/- A series as an argument of a law. -/
import Derived.Test.YtipncibiodfmdaaGreatDoorSeB
import Derived.Test.YtipncibiodfmdaaGreatDoorDcQ
import Derived.OpenShut
set_option linter.unusedSimpArgs false
set_option linter.unusedVariables false
set_option linter.constructorNameAsVariable false
namespace Go.Proofs.YtipncibiodfmdaaGreatDoor
open Go.ChangeShapes Go.WideShapes Go.ChangeAt Go.RowKit Go.ChangeMaps Go.Abs Go.Ser
theorem u8_of {n : Int} (h : (Lit.int .u8 n).wf = true) : ∃ c : UInt8, n = c.toNat := by
  have h1 : IntKind.u8.min = 0 := rfl
  have h2 : IntKind.u8.max = 255 := rfl
  simp only [Lit.wf, Bool.and_eq_true, decide_eq_true_eq] at h
  exact ⟨n.toNat.toUInt8, by simp; omega⟩
section
variable {H : Type} {enc : TypeId × Value → H} {w : World} {base : Nat} {spare : Nat → Bool} {held : Bool}
theorem ser_size : Tryz.prog.cellsOf 24 = 4 := by kernel_rfl
theorem ser_types : Tryz.prog.cellTypes Tryz.prog.depth 24 = some [9, 3, 3, 22] := by kernel_rfl
theorem str_size4 : Tryz.prog.cellsOf 9 = 1 := by kernel_rfl
theorem int_size4 : Tryz.prog.cellsOf 3 = 1 := by kernel_rfl
theorem nums_size4 : Tryz.prog.cellsOf 22 = 1 := by kernel_rfl
theorem ir_bytes4 {Im : Addr → Prop} {w : World} (s : ByteArray) : IR Im w (.str s.data.toList) (.string s) := by
  have : (.string s : Value) = .string ⟨s.data.toList.toArray⟩ := by cases s; simp
  rw [this]; exact .str _
set_option maxRecDepth 100000 in
theorem open_ser {r : Reach} {b0 : Nat} {v : Value} {d : DataW H} {ps : List MemPlace} (hval : Value.okWide Tryz.prog w r b0 24 v) (hd : DataW.Trod enc Tryz.prog w base spare held 24 v d ps) :
    ∃ s : Sr, SrOk s ∧ IR (oldIm w) w (srA s) v := by
  have hval' := hval
  simp only [Value.okWide, Tryz.underlying24] at hval'
  obtain ⟨cs, rfl, hsz, ts, hts, _, hcell⟩ := hval'
  rw [ser_types] at hts
  simp only [Option.some.injEq] at hts
  subst hts
  obtain ⟨fuel, hf⟩ := hd
  obtain ⟨xs, n, rfl, hx, hl, hxl, hall⟩ := DataW.trod_struct Tryz.underlying24 hf
  have hx2 : xs.length = 4 := hxl
  obtain ⟨x0, x1, x2, x3, rfl⟩ : ∃ x0 x1 x2 x3, xs = [x0, x1, x2, x3] := by
    match xs, hx2 with
    | [a, b, c, d], _ => exact ⟨a, b, c, d, rfl⟩
  have hl2 : cs.size = 4 := by rw [hsz, ser_size]
  obtain ⟨c0, c1, c2, c3, rfl⟩ : ∃ c0 c1 c2 c3, cs = #[c0, c1, c2, c3] := by
    obtain ⟨l⟩ := cs
    match l, hl2 with
    | [a, b, c, d], _ => exact ⟨a, b, c, d, rfl⟩
  have h0 : DataW.trod enc Tryz.prog w base spare held n 9 [c0] = some x0 := by simpa [str_size4, Value.cells] using hall 0 _ rfl
  have h1 : DataW.trod enc Tryz.prog w base spare held n 3 [c1] = some x1 := by simpa [int_size4, Value.cells] using hall 1 _ rfl
  have h2 : DataW.trod enc Tryz.prog w base spare held n 3 [c2] = some x2 := by simpa [int_size4, Value.cells] using hall 2 _ rfl
  have h3 : DataW.trod enc Tryz.prog w base spare held n 22 [c3] = some x3 := by simpa [nums_size4, Value.cells] using hall 3 _ rfl
  obtain ⟨s0, e0, _, w0⟩ := DataW.trod_string Tryz.underlying9 h0
  obtain ⟨m1, e1, _, w1⟩ := DataW.trod_int Tryz.underlying3 h1
  obtain ⟨m2, e2, _, w2⟩ := DataW.trod_int Tryz.underlying3 h2
  simp only [List.cons.injEq, and_true] at e0 e1 e2
  subst e0 e1 e2
  obtain ⟨u, hu, hck⟩ := hcell 3 c3 rfl
  have hu2 : u = 22 := by simpa using hu.symm
  subst hu2
  have hval3 : Value.okWide Tryz.prog w r b0 22 c3 := by simp only [Value.okWide, Tryz.underlying22]; exact hck
  have hcs : c3.cells = #[c3] := by
    rcases DataW.trod_slice Tryz.underlying22 h3 with ⟨hc, _⟩ | ⟨a, len, cap, elems, rest, n', _, hc, _⟩
    · simp only [List.cons.injEq, and_true] at hc; subst hc; rfl
    · simp only [List.cons.injEq, and_true] at hc; subst hc; rfl
  have hd3 : DataW.Trod enc Tryz.prog w base spare held 22 c3 x3.1 x3.2 := ⟨n, by rw [hcs]; exact h3⟩
  obtain ⟨l, wl, wk, hir⟩ := open_nums hval3 hd3
  obtain ⟨a1, a2⟩ := wf_i64 w1
  obtain ⟨b1, b2⟩ := wf_i64 w2
  refine ⟨⟨s0.data.toList, m1, m2, l⟩, ⟨by rw [Array.length_toList]; exact w0, a1, a2, b1, b2, wk, wl⟩, ?_⟩
  exact .agg _ [_, _, _, _] (by simp [srC, AV.one]) rfl fun j hj hj' => by
    match j, hj with
    | 0, _ => exact ir_bytes4 _
    | 1, _ => exact .int _ _
    | 2, _ => exact .int _ _
    | 3, _ => exact hir
end
end Go.Proofs.YtipncibiodfmdaaGreatDoor
