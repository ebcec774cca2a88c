/- A list of series as an argument of a law. -/
import Derived.Test.YtjkajkhomklikaaGreatDoorSeO
set_option linter.unusedSimpArgs false
set_option linter.unusedVariables false
set_option linter.constructorNameAsVariable false
namespace Go.Proofs.YtjkajkhomklikaaGreatDoor
open Go.ChangeShapes Go.WideShapes Go.ChangeAt Go.RowKit Go.ChangeMaps Go.Abs Go.Ser Go.Num
section
variable {H : Type} {enc : TypeId × Value → H} {w : World} {base : Nat} {spare : Nat → Bool} {held : Bool}
theorem spot_of {a : Addr} {n : Nat} {cs : List Value} (h : w.cells? base a (n + 1) = some cs) : a.spot = none := by
  unfold World.cells? at h
  split at h
  · obtain ⟨y, _, hy⟩ : ∃ y, cs[0]? = some y ∧ w.cell? (a.add 0) = some y := by
      have hl := Lib.mapM_at h 0 0 (by simp)
      simpa using hl
    have e : a.add 0 = a := by simp [Addr.add]
    rw [e] at hy
    unfold World.cell? at hy
    split at hy
    · split at hy
      · cases hy
      · rename_i hs; simpa using hs
    · cases hy
  · cases h
theorem spot_row {a : Addr} {len cap size : Nat} {elems rest : List (DataW H × List MemPlace)} {n : Nat} {e : TypeId} (hc : cap ≠ 0) (hlen : elems.length = len)
    (hel : ∀ i, i < len → (w.cells? base (a.add (i * (size + 1))) (size + 1)).bind (DataW.trod enc Tryz.prog w base spare held n e) = elems[i]?)
    (hrl : rest.length = cap - len) (hre : ∀ j, j < cap - len → (w.cells? base (a.add ((len + j) * (size + 1))) (size + 1)).bind (DataW.trod enc Tryz.prog w base spare held n e) = rest[j]?) : a.spot = none := by
  have key : ∃ cs, w.cells? base (a.add (0 * (size + 1))) (size + 1) = some cs := by
    rcases Nat.eq_zero_or_pos len with h0 | h0
    · have h1 := hre 0 (by omega)
      obtain ⟨y, hy⟩ : ∃ y, rest[0]? = some y := ⟨_, List.getElem?_eq_getElem (by omega)⟩
      rw [hy, Option.bind_eq_some_iff, h0, Nat.zero_add] at h1
      obtain ⟨cs, hcs, _⟩ := h1
      exact ⟨cs, hcs⟩
    · have h1 := hel 0 h0
      obtain ⟨y, hy⟩ : ∃ y, elems[0]? = some y := ⟨_, List.getElem?_eq_getElem (by omega)⟩
      rw [hy, Option.bind_eq_some_iff] at h1
      obtain ⟨cs, hcs, _⟩ := h1
      exact ⟨cs, hcs⟩
  obtain ⟨cs, hcs⟩ := key
  have e : a.add (0 * (size + 1)) = a := by simp [Addr.add]
  rw [e] at hcs
  exact spot_of hcs

set_option maxRecDepth 100000 in
theorem nums_cells (hsp : ∀ b, spare b = true) {n : Nat} {c : Value} {x : DataW H × List MemPlace} (hf : DataW.trod enc Tryz.prog w base spare held n 22 [c] = some x) :
    ∃ l : List N, oksN l ∧ l.length ≤ 9223372036854775807 ∧ IR (oldIm w) w (.lst (numEls l)) c := by
  rcases DataW.trod_slice Tryz.underlying22 hf with ⟨hcs, hx⟩ | ⟨a, len, cap, elems, rest, n, _, hcs, hx, hb, hl, hm, hlen, hel, hre, _⟩
  · simp only [List.cons.injEq, and_true] at hcs
    subst hcs
    exact ⟨[], fun n hn => by simp at hn, by simp, .lnil none⟩
  · simp only [List.cons.injEq, and_true] at hcs
    subst hcs
    obtain ⟨hrl, hre⟩ := hre (hsp _)
    rw [num_size] at hel hre
    by_cases hcap : cap = 0
    · have : len = 0 := by omega
      subst this; subst hcap
      exact ⟨[], fun n hn => by simp at hn, by simp, .lnil _⟩
    have hspot : a.spot = none := spot_row (size := 1) hcap hlen hel hrl hre
    obtain ⟨b, o, sp⟩ := a
    simp only at hspot
    subst hspot
    have each : ∀ i, i < len → w.cell? ⟨b, o + (i * 2 + 0), none⟩ = some (.bool (cellB w ⟨b, o + (i * 2 + 0), none⟩)) ∧ w.cell? ⟨b, o + (i * 2 + 1), none⟩ = some (.int .i64 (cellI w ⟨b, o + (i * 2 + 1), none⟩)) ∧ (Lit.int .i64 (cellI w ⟨b, o + (i * 2 + 1), none⟩)).wf = true := by
      intro i hi
      have h1 := hel i hi
      obtain ⟨y, hy⟩ : ∃ y, elems[i]? = some y := ⟨_, List.getElem?_eq_getElem (by omega)⟩
      rw [hy, Option.bind_eq_some_iff] at h1
      obtain ⟨cs, hc1, hc2⟩ := h1
      obtain ⟨bb, m, rfl, hw⟩ := num_cells hc2
      unfold World.cells? at hc1
      split at hc1
      · obtain ⟨y0, g0, g0'⟩ : ∃ y0, some (Value.bool bb) = some y0 ∧ w.cell? ((Addr.add ⟨b, o, none⟩ (i * 2)).add 0) = some y0 := by
          have := Lib.mapM_at hc1 0 0 (by simp)
          simpa using this
        obtain ⟨y1, g1, g1'⟩ : ∃ y1, some (Value.int .i64 m) = some y1 ∧ w.cell? ((Addr.add ⟨b, o, none⟩ (i * 2)).add 1) = some y1 := by
          have := Lib.mapM_at hc1 1 1 (by simp)
          simpa using this
        cases g0; cases g1
        have aa : ∀ x y : Nat, Addr.add ⟨b, x, none⟩ y = ⟨b, x + y, none⟩ := fun x y => by unfold Addr.add; split <;> simp_all
        have a0 : (Addr.add ⟨b, o, none⟩ (i * 2)).add 0 = ⟨b, o + (i * 2 + 0), none⟩ := by rw [aa, aa, Nat.add_assoc]
        have a1 : (Addr.add ⟨b, o, none⟩ (i * 2)).add 1 = ⟨b, o + (i * 2 + 1), none⟩ := by rw [aa, aa, Nat.add_assoc]
        rw [a0] at g0'
        rw [a1] at g1'
        have c0 : cellB w ⟨b, o + (i * 2 + 0), none⟩ = bb := by unfold cellB; rw [g0']
        have c1 : cellI w ⟨b, o + (i * 2 + 1), none⟩ = m := by unfold cellI; rw [g1']
        rw [c0, c1]
        exact ⟨g0', g1', hw⟩
      · cases hc1
    refine ⟨(List.range len).map fun i => (cellB w ⟨b, o + (i * 2 + 0), none⟩, cellI w ⟨b, o + (i * 2 + 1), none⟩), ?_, ?_, ?_⟩
    · intro x hx
      simp only [List.mem_map, List.mem_range] at hx
      obtain ⟨i, hi, rfl⟩ := hx
      exact wf_i64 (each i hi).2.2
    · have : cap ≤ 9223372036854775807 := hm
      simp; omega
    · have hnl : (numEls ((List.range len).map fun i => (cellB w ⟨b, o + (i * 2 + 0), none⟩, cellI w ⟨b, o + (i * 2 + 1), none⟩))).length = len := by simp [numEls]
      have hold : ∀ i j v, w.cell? ⟨b, o + (i * 2 + j), none⟩ = some v → oldIm w ⟨b, o + (i * 2 + j), none⟩ := fun i j v h => by
        refine ⟨rfl, ?_⟩
        rcases Nat.lt_or_ge b w.heap.size with h' | h'
        · exact h'
        · simp [World.cell?, Array.getElem?_eq_none h'] at h
      have := IR.lst (Im := oldIm w) (w := w) (numEls ((List.range len).map fun i => (cellB w ⟨b, o + (i * 2 + 0), none⟩, cellI w ⟨b, o + (i * 2 + 1), none⟩))) 2 b o cap
        (fun i j => if j = 0 then .bool (cellB w ⟨b, o + (i * 2 + 0), none⟩) else .int .i64 (cellI w ⟨b, o + (i * 2 + 1), none⟩)) (by rw [hnl]; exact hl) hm
        (numEls_two _)
        (fun c hc x hx => by
          simp only [numEls, List.mem_map] at hc
          obtain ⟨y, _, rfl⟩ := hc
          simp at hx
          rcases hx with rfl | rfl <;> rfl)
        (fun k j hk hj => by
          rw [hnl] at hk
          obtain ⟨e0, e1, _⟩ := each k hk
          match j, hj with
          | 0, _ => exact ⟨hold k 0 _ e0, e0⟩
          | 1, _ => exact ⟨hold k 1 _ e1, e1⟩)
        (fun k j hk hj => by
          have hj2 : j < 2 := by simpa [numEls] using hj
          match j, hj2 with
          | 0, _ => simp [numEls]; exact .bool _
          | 1, _ => simp [numEls]; exact .int _ _)
      rw [hnl] at this
      exact this

set_option maxRecDepth 100000 in
theorem ser_cells (hsp : ∀ b, spare b = true) {n : Nat} {cs : List Value} {y : DataW H × List MemPlace} (hf : DataW.trod enc Tryz.prog w base spare held n 29 cs = some y) :
    ∃ (s : Sr) (c0 c1 c2 c3 : Value), SrOk s ∧ cs = [c0, c1, c2, c3] ∧ IR (oldIm w) w (.str s.name) c0 ∧ IR (oldIm w) w (.int .i64 s.start) c1 ∧ IR (oldIm w) w (.int .i64 s.step) c2 ∧ IR (oldIm w) w (.lst (numEls s.vals)) c3 := by
  obtain ⟨xs, n, rfl, hx, hl, hxl, hall⟩ := DataW.trod_struct Tryz.underlying29 hf
  have hx2 : xs.length = 4 := hxl
  obtain ⟨x0, x1, x2, x3, rfl⟩ : ∃ x0 x1 x2 x3, xs = [x0, x1, x2, x3] := by
    match xs, hx2 with
    | [a, b, c, d], _ => exact ⟨a, b, c, d, rfl⟩
  have hl2 : cs.length = 4 := by rw [hl, ser_size]
  obtain ⟨c0, c1, c2, c3, rfl⟩ : ∃ c0 c1 c2 c3, cs = [c0, c1, c2, c3] := by
    match cs, hl2 with
    | [a, b, c, d], _ => exact ⟨a, b, c, d, rfl⟩
  have h0 : DataW.trod enc Tryz.prog w base spare held n 9 [c0] = some x0 := by simpa [str_size4, Value.cells] using hall 0 _ rfl
  have h1 : DataW.trod enc Tryz.prog w base spare held n 3 [c1] = some x1 := by simpa [int_size4, Value.cells] using hall 1 _ rfl
  have h2 : DataW.trod enc Tryz.prog w base spare held n 3 [c2] = some x2 := by simpa [int_size4, Value.cells] using hall 2 _ rfl
  have h3 : DataW.trod enc Tryz.prog w base spare held n 22 [c3] = some x3 := by simpa [nums_size4, Value.cells] using hall 3 _ rfl
  obtain ⟨s0, e0, _, w0⟩ := DataW.trod_string Tryz.underlying9 h0
  obtain ⟨m1, e1, _, w1⟩ := DataW.trod_int Tryz.underlying3 h1
  obtain ⟨m2, e2, _, w2⟩ := DataW.trod_int Tryz.underlying3 h2
  simp only [List.cons.injEq, and_true] at e0 e1 e2
  subst e0 e1 e2
  obtain ⟨l, wl, wk, hir⟩ := nums_cells hsp h3
  obtain ⟨a1, a2⟩ := wf_i64 w1
  obtain ⟨b1, b2⟩ := wf_i64 w2
  exact ⟨⟨s0.data.toList, m1, m2, l⟩, _, _, _, _, ⟨by rw [Array.length_toList]; exact w0, a1, a2, b1, b2, wk, wl⟩, rfl, ir_bytes4 _, .int _ _, .int _ _, hir⟩

theorem srC_one (s : Sr) : ∀ x ∈ srC s, x.one = true := by simp [srC, AV.one]
theorem srC_four (s : Sr) : (srC s).length = 4 := rfl

set_option maxRecDepth 100000 in
theorem open_sers (hsp : ∀ b, spare b = true) {r : Reach} {b0 : Nat} {v : Value} {d : DataW H} {ps : List MemPlace} (hval : Value.okWide Tryz.prog w r b0 37 v) (hd : DataW.Trod enc Tryz.prog w base spare held 37 v d ps) :
    ∃ l : List Sr, (∀ s ∈ l, SrOk s) ∧ l.length ≤ 9223372036854775807 ∧ IR (oldIm w) w (.lst (l.map srC)) v := by
  obtain ⟨fuel, hf⟩ := hd
  obtain ⟨a0, len, cap, rfl⟩ := okWide_slice Tryz.underlying37 hval
  rcases DataW.trod_slice Tryz.underlying37 hf with ⟨hcs, hx⟩ | ⟨a, len', cap', elems, rest, n, _, hcs, hx, hb, hl, hm, hlen, hel, hre, _⟩
  · simp [Value.cells] at hcs
    obtain ⟨rfl, rfl, rfl⟩ := hcs
    exact ⟨[], by simp, by simp, .lnil none⟩
  · simp [Value.cells] at hcs
    obtain ⟨rfl, rfl, rfl⟩ := hcs
    obtain ⟨hrl, hre⟩ := hre (hsp _)
    rw [ser_size] at hel hre
    by_cases hcap : cap = 0
    · have : len = 0 := by omega
      subst this; subst hcap
      exact ⟨[], by simp, by simp, .lnil _⟩
    have hspot : a.spot = none := spot_row (size := 3) hcap hlen hel hrl hre
    obtain ⟨b, o, sp⟩ := a
    simp only at hspot
    subst hspot
    have aa : ∀ x y : Nat, Addr.add ⟨b, x, none⟩ y = ⟨b, x + y, none⟩ := fun x y => by unfold Addr.add; split <;> simp_all
    have each : ∀ i, ∃ s : Sr, i < len → SrOk s ∧ ∀ j (h : j < (srC s).length), ∃ c, w.cell? ⟨b, o + (i * 4 + j), none⟩ = some c ∧ IR (oldIm w) w (srC s)[j] c := by
      intro i
      by_cases hi : i < len
      · have h1 := hel i hi
        obtain ⟨y, hy⟩ : ∃ y, elems[i]? = some y := ⟨_, List.getElem?_eq_getElem (by omega)⟩
        rw [hy, Option.bind_eq_some_iff] at h1
        obtain ⟨cs, hc1, hc2⟩ := h1
        obtain ⟨s, c0, c1, c2, c3, hs, rfl, i0, i1, i2, i3⟩ := ser_cells hsp hc2
        refine ⟨s, fun _ => ⟨hs, ?_⟩⟩
        unfold World.cells? at hc1
        split at hc1
        · have at' : ∀ j, j < 4 → ∃ c, [c0, c1, c2, c3][j]? = some c ∧ w.cell? ⟨b, o + (i * 4 + j), none⟩ = some c := by
            intro j hj
            obtain ⟨c, e1, e2⟩ := Lib.mapM_at hc1 j j (by simp [hj])
            rw [aa, aa, Nat.add_assoc] at e2
            exact ⟨c, e1, e2⟩
          intro j hj
          have hj' : j < 4 := hj
          obtain ⟨c, e1, e2⟩ := at' j hj'
          refine ⟨c, e2, ?_⟩
          match j, hj' with
          | 0, _ => simp at e1; subst e1; exact i0
          | 1, _ => simp at e1; subst e1; exact i1
          | 2, _ => simp at e1; subst e1; exact i2
          | 3, _ => simp at e1; subst e1; exact i3
        · cases hc1
      · exact ⟨⟨[], 0, 0, []⟩, fun h => absurd h hi⟩
    obtain ⟨f, hfs⟩ := Classical.axiomOfChoice each
    refine ⟨(List.range len).map f, ?_, ?_, ?_⟩
    · intro s hs
      simp only [List.mem_map, List.mem_range] at hs
      obtain ⟨i, hi, rfl⟩ := hs
      exact (hfs i hi).1
    · have : cap ≤ 9223372036854775807 := hm
      simp; omega
    · have hnl : (((List.range len).map f).map srC).length = len := by simp
      have hold : ∀ i j v, w.cell? ⟨b, o + (i * 4 + j), none⟩ = some v → oldIm w ⟨b, o + (i * 4 + j), none⟩ := fun i j v h => by
        refine ⟨rfl, ?_⟩
        rcases Nat.lt_or_ge b w.heap.size with h' | h'
        · exact h'
        · simp [World.cell?, Array.getElem?_eq_none h'] at h
      have := IR.lst (Im := oldIm w) (w := w) (((List.range len).map f).map srC) 4 b o cap
        (fun i j => (w.cell? ⟨b, o + (i * 4 + j), none⟩).getD undef) (by rw [hnl]; exact hl) hm
        (fun c hc => by
          obtain ⟨s, _, rfl⟩ := List.mem_map.1 hc
          rfl)
        (fun c hc x hx => by
          obtain ⟨s, _, rfl⟩ := List.mem_map.1 hc
          exact srC_one s x hx)
        (fun k j hk hj => by
          rw [hnl] at hk
          obtain ⟨c, hc, _⟩ := (hfs k hk).2 j hj
          exact ⟨hold k j _ hc, by rw [hc]; rfl⟩)
        (fun k j hk hj => by
          rw [hnl] at hk
          have e : (((List.range len).map f).map srC)[k] = srC (f k) := by simp
          have hj' : j < (srC (f k)).length := by rw [← e]; exact hj
          obtain ⟨c, hc, hir⟩ := (hfs k hk).2 j hj'
          simp only [hc, Option.getD_some, e]
          exact hir)
      rw [hnl] at this
      exact this
end
end Go.Proofs.YtjkajkhomklikaaGreatDoor
