/- A list of tokens as an argument of a law. -/
import Derived.Test.YtkclehdmdnfikaaDoorDcQ
import Derived.Test.YtkclehdmdnfikaaDoorTkD
set_option linter.unusedSimpArgs false
set_option linter.unusedVariables false
set_option linter.constructorNameAsVariable false
namespace Go.Proofs.YtkclehdmdnfikaaDoor
open Go.ChangeShapes Go.WideShapes Go.ChangeAt Go.RowKit Go.ChangeMaps Go.Abs
theorem ir_bytes {Im : Addr → Prop} {w : World} (s : ByteArray) : IR Im w (.str s.data.toList) (.string s) := by
  have : (.string s : Value) = .string ⟨s.data.toList.toArray⟩ := by cases s; simp
  rw [this]; exact .str _
/-- A token's cells: kind, text, place. -/
structure TokC where
  kind : Int
  text : ByteArray
  place : Int
def tokEls (l : List TokC) : List (List AV) := l.map fun x => [.int .i64 x.kind, .str x.text.data.toList, .int .i64 x.place]
section
variable {H : Type} {enc : TypeId × Value → H} {w : World} {base : Nat} {spare : Nat → Bool} {held : Bool}
theorem tok_size : Tryd.prog.cellsOf 39 = 3 := by kernel_rfl
theorem int_size : Tryd.prog.cellsOf 3 = 1 := by kernel_rfl
theorem str_size : Tryd.prog.cellsOf 9 = 1 := by kernel_rfl

set_option maxRecDepth 100000 in
theorem tok_cells {n : Nat} {cs : List Value} {y : DataW H × List MemPlace} (hf : DataW.trod enc Tryd.prog w base spare held n 39 cs = some y) :
    ∃ (x : TokC), cs = [.int .i64 x.kind, .string x.text, .int .i64 x.place] ∧ (Lit.int .i64 x.kind).wf = true ∧ (Lit.int .i64 x.place).wf = true ∧ x.text.size ≤ maxLen := by
  obtain ⟨xs, n, rfl, hx, hl, hxl, hall⟩ := DataW.trod_struct Tryd.underlying39 hf
  have hx2 : xs.length = 3 := hxl
  obtain ⟨x0, x1, x2, rfl⟩ : ∃ x0 x1 x2, xs = [x0, x1, x2] := by
    match xs, hx2 with
    | [a, b, c], _ => exact ⟨a, b, c, rfl⟩
  have hl2 : cs.length = 3 := by rw [hl, tok_size]
  obtain ⟨c0, c1, c2, rfl⟩ : ∃ c0 c1 c2, cs = [c0, c1, c2] := by
    match cs, hl2 with
    | [a, b, c], _ => exact ⟨a, b, c, rfl⟩
  have h0 : DataW.trod enc Tryd.prog w base spare held n 3 [c0] = some x0 := by simpa [int_size, Value.cells] using hall 0 _ rfl
  have h1 : DataW.trod enc Tryd.prog w base spare held n 9 [c1] = some x1 := by simpa [str_size, Value.cells] using hall 1 _ rfl
  have h2 : DataW.trod enc Tryd.prog w base spare held n 3 [c2] = some x2 := by simpa [int_size, Value.cells] using hall 2 _ rfl
  obtain ⟨m0, e0, _, w0⟩ := DataW.trod_int Tryd.underlying3 h0
  obtain ⟨s1, e1, _, w1⟩ := DataW.trod_string Tryd.underlying9 h1
  obtain ⟨m2, e2, _, w2⟩ := DataW.trod_int Tryd.underlying3 h2
  simp only [List.cons.injEq, and_true] at e0 e1 e2
  subst e0 e1 e2
  exact ⟨⟨m0, s1, m2⟩, rfl, w0, w2, w1⟩
def cellT (w : World) (a : Addr) : ByteArray := match w.cell? a with | some (.string s) => s | _ => ByteArray.empty

set_option maxRecDepth 100000 in
theorem open_toks {r : Reach} {b0 : Nat} {v : Value} {d : DataW H} {ps : List MemPlace} (hval : Value.okWide Tryd.prog w r b0 34 v) (hd : DataW.Trod enc Tryd.prog w base spare held 34 v d ps) :
    ∃ l : List TokC, (∀ x ∈ l, (-9223372036854775808 ≤ x.kind ∧ x.kind ≤ 9223372036854775807) ∧ (-9223372036854775808 ≤ x.place ∧ x.place ≤ 9223372036854775807) ∧ x.text.size ≤ maxLen) ∧ l.length ≤ 9223372036854775807 ∧ IR (oldIm w) w (.lst (tokEls l)) v := by
  obtain ⟨fuel, hf⟩ := hd
  obtain ⟨a0, len, cap, rfl⟩ := okWide_slice Tryd.underlying34 hval
  rcases DataW.trod_slice Tryd.underlying34 hf with ⟨hcs, hx⟩ | ⟨a, len', cap', elems, rest, n, _, hcs, hx, hb, hl, hm, hlen, hel, _⟩
  · simp [Value.cells] at hcs
    obtain ⟨rfl, rfl, rfl⟩ := hcs
    exact ⟨[], by simp, by simp, .lnil⟩
  · simp [Value.cells] at hcs
    obtain ⟨rfl, rfl, rfl⟩ := hcs
    have hspot : a.spot = none := by
      simp only [Value.okWide, Tryd.underlying34, Cell.okWide, Cell.ok, World.has] at hval
      exact hval.2.2.2.1
    obtain ⟨b, o, sp⟩ := a
    simp only at hspot
    subst hspot
    rw [tok_size] at hel
    have each : ∀ i, i < len → ∃ x : TokC, x.kind = cellI w ⟨b, o + (i * 3 + 0), none⟩ ∧ x.text = cellT w ⟨b, o + (i * 3 + 1), none⟩ ∧ x.place = cellI w ⟨b, o + (i * 3 + 2), none⟩ ∧ w.cell? ⟨b, o + (i * 3 + 0), none⟩ = some (.int .i64 x.kind) ∧ w.cell? ⟨b, o + (i * 3 + 1), none⟩ = some (.string x.text) ∧ w.cell? ⟨b, o + (i * 3 + 2), none⟩ = some (.int .i64 x.place) ∧ (Lit.int .i64 x.kind).wf = true ∧ (Lit.int .i64 x.place).wf = true ∧ x.text.size ≤ maxLen := by
      intro i hi
      have h1 := hel i hi
      obtain ⟨y, hy⟩ : ∃ y, elems[i]? = some y := ⟨_, List.getElem?_eq_getElem (by omega)⟩
      rw [hy, Option.bind_eq_some_iff] at h1
      obtain ⟨cs, hc1, hc2⟩ := h1
      obtain ⟨x, rfl, hw1, hw2, hw3⟩ := tok_cells hc2
      unfold World.cells? at hc1
      split at hc1
      · obtain ⟨y0, g0, g0'⟩ : ∃ y0, some (Value.int .i64 x.kind) = some y0 ∧ w.cell? ((Addr.add ⟨b, o, none⟩ (i * 3)).add 0) = some y0 := by
          have := Lib.mapM_at hc1 0 0 (by simp)
          simpa using this
        obtain ⟨y1, g1, g1'⟩ : ∃ y1, some (Value.string x.text) = some y1 ∧ w.cell? ((Addr.add ⟨b, o, none⟩ (i * 3)).add 1) = some y1 := by
          have := Lib.mapM_at hc1 1 1 (by simp)
          simpa using this
        obtain ⟨y2, g2, g2'⟩ : ∃ y2, some (Value.int .i64 x.place) = some y2 ∧ w.cell? ((Addr.add ⟨b, o, none⟩ (i * 3)).add 2) = some y2 := by
          have := Lib.mapM_at hc1 2 2 (by simp)
          simpa using this
        cases g0; cases g1; cases g2
        have aa : ∀ x y : Nat, Addr.add ⟨b, x, none⟩ y = ⟨b, x + y, none⟩ := fun x y => by unfold Addr.add; split <;> simp_all
        rw [aa, aa, Nat.add_assoc] at g0' g1' g2'
        exact ⟨x, by unfold cellI; rw [g0'], by unfold cellT; rw [g1'], by unfold cellI; rw [g2'], g0', g1', g2', hw1, hw2, hw3⟩
      · cases hc1
    refine ⟨(List.range len).map fun i => ⟨cellI w ⟨b, o + (i * 3 + 0), none⟩, cellT w ⟨b, o + (i * 3 + 1), none⟩, cellI w ⟨b, o + (i * 3 + 2), none⟩⟩, ?_, ?_, ?_⟩
    · intro x hx
      simp only [List.mem_map, List.mem_range] at hx
      obtain ⟨i, hi, rfl⟩ := hx
      obtain ⟨x, e1, e2, e3, _, _, _, k1, k2, k3⟩ := each i hi
      rw [e1] at k1
      rw [e3] at k2
      rw [e2] at k3
      exact ⟨wf_i64 k1, wf_i64 k2, k3⟩
    · have : cap ≤ 9223372036854775807 := hm
      simp; omega
    · have hnl : (tokEls ((List.range len).map fun i => ⟨cellI w ⟨b, o + (i * 3 + 0), none⟩, cellT w ⟨b, o + (i * 3 + 1), none⟩, cellI w ⟨b, o + (i * 3 + 2), none⟩⟩)).length = len := by simp [tokEls]
      have hold : ∀ i j v, w.cell? ⟨b, o + (i * 3 + j), none⟩ = some v → oldIm w ⟨b, o + (i * 3 + j), none⟩ := fun i j v h => by
        refine ⟨rfl, ?_⟩
        rcases Nat.lt_or_ge b w.heap.size with h' | h'
        · exact h'
        · simp [World.cell?, Array.getElem?_eq_none h'] at h
      have := IR.lst (Im := oldIm w) (w := w) (tokEls ((List.range len).map fun i => ⟨cellI w ⟨b, o + (i * 3 + 0), none⟩, cellT w ⟨b, o + (i * 3 + 1), none⟩, cellI w ⟨b, o + (i * 3 + 2), none⟩⟩)) 3 b o cap
        (fun i j => if j = 0 then .int .i64 (cellI w ⟨b, o + (i * 3 + 0), none⟩) else if j = 1 then .string (cellT w ⟨b, o + (i * 3 + 1), none⟩) else .int .i64 (cellI w ⟨b, o + (i * 3 + 2), none⟩)) (by rw [hnl]; exact hl) hm
        (fun c hc => by
          simp only [tokEls, List.mem_map] at hc
          obtain ⟨x, _, rfl⟩ := hc
          rfl)
        (fun c hc x hx => by
          simp only [tokEls, List.mem_map] at hc
          obtain ⟨y, _, rfl⟩ := hc
          simp at hx
          rcases hx with rfl | rfl | rfl <;> rfl)
        (fun k j hk hj => by
          rw [hnl] at hk
          obtain ⟨x, e1, e2, e3, g0, g1, g2, _⟩ := each k hk
          match j, hj with
          | 0, _ => exact ⟨hold k 0 _ g0, by rw [g0, e1]; rfl⟩
          | 1, _ => exact ⟨hold k 1 _ g1, by rw [g1, e2]; rfl⟩
          | 2, _ => exact ⟨hold k 2 _ g2, by rw [g2, e3]; rfl⟩)
        (fun k j hk hj => by
          have hj2 : j < 3 := by simpa [tokEls] using hj
          match j, hj2 with
          | 0, _ => simp [tokEls]; exact .int _ _
          | 1, _ => simp [tokEls]; exact ir_bytes _
          | 2, _ => simp [tokEls]; exact .int _ _)
      rw [hnl] at this
      exact this
end
end Go.Proofs.YtkclehdmdnfikaaDoor
