/- A list of numbers as an argument of a law. -/
import Derived.Test.YtipncibiodfmdaaGreatDoorDcN
set_option linter.unusedSimpArgs false
set_option linter.unusedVariables false
set_option linter.constructorNameAsVariable false
namespace Go.Abs
open Go.RowKit
/-- The cells that were there ahead of the call. -/
def oldIm (w : World) : Addr → Prop := fun a => a.spot = none ∧ a.block < w.heap.size
theorem law_calls_old {G : Globs} {P : Program} {f : FuncId} {args : List AV} {vs : List Value} {w : World} (h : PCalls P f args (fun r => r = .bool true)) (hg : GlobsIn w) (hv : IRL (oldIm w) w args vs) : Calls P f vs.toArray w fun e w' => e = .returned (.bool true) ∧ Below w.heap.size w w' := by
  have hG : GOK w.heap.size (oldIm w) w := fun p hp => by
    obtain ⟨h1, h2, h3⟩ := hg p hp
    refine ⟨h1, h2, h3.mono (fun a ha => ?_) (fun _ _ => rfl)⟩
    obtain ⟨ha1, q, hq, ha2⟩ := ha
    exact ⟨ha1, by rw [ha2]; exact (hg q hq).1⟩
  have hS : SRel w.heap.size noKey (oldIm w) [] w := ⟨Nat.le_refl _, fun id n v h => by simp [noKey] at h, fun id e h => by simp at h, fun i j e e' b _ h => by simp at h, fun a h => ⟨h.2, h.1⟩, hG⟩
  refine (h w.heap.size noKey (oldIm w) w vs hS ⟨hv.1, fun j h h' => .im _ _ (hv.2 j h h')⟩).mono ?_
  rintro e w' ⟨r, σ', v, κ', Im', rfl, ⟨_, rfl⟩, _, hg, hr⟩
  exact ⟨by rw [hr.bool_inv], hg.below⟩
theorem iro_nil {Im : Addr → Prop} (w : World) : IRL Im w [] [] := ⟨rfl, fun j h => by simp at h⟩
theorem iro_cons {Im : Addr → Prop} {w : World} {a : AV} {v : Value} {l : List AV} {vs : List Value} (h : IR Im w a v) (hl : IRL Im w l vs) : IRL Im w (a :: l) (v :: vs) := by
  refine ⟨by simp [hl.1], fun j hj hj' => ?_⟩
  cases j with
  | zero => exact h
  | succ j => exact hl.2 j (by simpa using hj) (by simpa using hj')
end Go.Abs
namespace Go.Proofs.YtipncibiodfmdaaGreatDoor
open Go.ChangeShapes Go.WideShapes Go.ChangeAt Go.RowKit Go.ChangeMaps Go.Abs

def numEls (l : List (Bool × Int)) : List (List AV) := l.map fun x => [.bool x.1, .int .i64 x.2]
section
variable {H : Type} {enc : TypeId × Value → H} {w : World} {base : Nat} {spare : Nat → Bool} {held : Bool}

set_option maxRecDepth 100000 in
theorem num_cells {n : Nat} {cs : List Value} {y : DataW H × List MemPlace} (hf : DataW.trod enc Tryz.prog w base spare held n 33 cs = some y) : ∃ (b : Bool) (m : Int), cs = [.bool b, .int .i64 m] ∧ (Lit.int .i64 m).wf = true := by
  obtain ⟨xs, n, rfl, hx, hl, hxl, hall⟩ := DataW.trod_struct Tryz.underlying33 hf
  have hx2 : xs.length = 2 := hxl
  obtain ⟨x0, x1, rfl⟩ : ∃ x0 x1, xs = [x0, x1] := by
    match xs, hx2 with
    | [a, b], _ => exact ⟨a, b, rfl⟩
  have hl2 : cs.length = 2 := by rw [hl, num_size]
  obtain ⟨c0, c1, rfl⟩ : ∃ c0 c1, cs = [c0, c1] := by
    match cs, hl2 with
    | [a, b], _ => exact ⟨a, b, rfl⟩
  have h0 : DataW.trod enc Tryz.prog w base spare held n 4 [c0] = some x0 := by simpa [bool_size, Value.cells] using hall 0 _ rfl
  have h1 : DataW.trod enc Tryz.prog w base spare held n 2 [c1] = some x1 := by simpa [i64_size, Value.cells] using hall 1 _ rfl
  obtain ⟨b, e0, _⟩ := DataW.trod_bool Tryz.underlying4 h0
  obtain ⟨m, e1, _, hw⟩ := DataW.trod_int Tryz.underlying2 h1
  simp only [List.cons.injEq, and_true] at e0 e1
  subst e0 e1
  exact ⟨b, m, rfl, hw⟩

def cellB (w : World) (a : Addr) : Bool := match w.cell? a with | some (.bool b) => b | _ => false
def cellI (w : World) (a : Addr) : Int := match w.cell? a with | some (.int _ n) => n | _ => 0

set_option maxRecDepth 100000 in
theorem open_nums {r : Reach} {b0 : Nat} {v : Value} {d : DataW H} {ps : List MemPlace} (hval : Value.okWide Tryz.prog w r b0 22 v) (hd : DataW.Trod enc Tryz.prog w base spare held 22 v d ps) :
    ∃ l : List (Bool × Int), (∀ x ∈ l, -9223372036854775808 ≤ x.2 ∧ x.2 ≤ 9223372036854775807) ∧ l.length ≤ 9223372036854775807 ∧ IR (oldIm w) w (.lst (numEls l)) v := by
  obtain ⟨fuel, hf⟩ := hd
  obtain ⟨a0, len, cap, rfl⟩ := okWide_slice Tryz.underlying22 hval
  rcases DataW.trod_slice Tryz.underlying22 hf with ⟨hcs, hx⟩ | ⟨a, len', cap', elems, rest, n, _, hcs, hx, hb, hl, hm, hlen, hel, _⟩
  · simp [Value.cells] at hcs
    obtain ⟨rfl, rfl, rfl⟩ := hcs
    exact ⟨[], by simp, by simp, .lnil none⟩
  · simp [Value.cells] at hcs
    obtain ⟨rfl, rfl, rfl⟩ := hcs
    have hspot : a.spot = none := by
      simp only [Value.okWide, Tryz.underlying22, Cell.okWide, Cell.ok, World.has] at hval
      exact hval.2.2.2.1
    obtain ⟨b, o, sp⟩ := a
    simp only at hspot
    subst hspot
    rw [num_size] at hel
    have each : ∀ i, i < len → w.cell? ⟨b, o + (i * 2 + 0), none⟩ = some (.bool (cellB w ⟨b, o + (i * 2 + 0), none⟩)) ∧ w.cell? ⟨b, o + (i * 2 + 1), none⟩ = some (.int .i64 (cellI w ⟨b, o + (i * 2 + 1), none⟩)) ∧ (Lit.int .i64 (cellI w ⟨b, o + (i * 2 + 1), none⟩)).wf = true := by
      intro i hi
      have h1 := hel i hi
      obtain ⟨y, hy⟩ : ∃ y, elems[i]? = some y := ⟨_, List.getElem?_eq_getElem (by omega)⟩
      rw [hy, Option.bind_eq_some_iff] at h1
      obtain ⟨cs, hc1, hc2⟩ := h1
      obtain ⟨bb, m, rfl, hw⟩ := num_cells hc2
      unfold World.cells? at hc1
      split at hc1
      · obtain ⟨y0, g0, g0'⟩ : ∃ y0, some (Value.bool bb) = some y0 ∧ w.cell? ((Addr.add ⟨b, o, none⟩ (i * 2)).add 0) = some y0 := by
          have := Lib.mapM_at hc1 0 0 (by simp)
          simpa using this
        obtain ⟨y1, g1, g1'⟩ : ∃ y1, some (Value.int .i64 m) = some y1 ∧ w.cell? ((Addr.add ⟨b, o, none⟩ (i * 2)).add 1) = some y1 := by
          have := Lib.mapM_at hc1 1 1 (by simp)
          simpa using this
        cases g0; cases g1
        have aa : ∀ x y : Nat, Addr.add ⟨b, x, none⟩ y = ⟨b, x + y, none⟩ := fun x y => by unfold Addr.add; split <;> simp_all
        have a0 : (Addr.add ⟨b, o, none⟩ (i * 2)).add 0 = ⟨b, o + (i * 2 + 0), none⟩ := by rw [aa, aa, Nat.add_assoc]
        have a1 : (Addr.add ⟨b, o, none⟩ (i * 2)).add 1 = ⟨b, o + (i * 2 + 1), none⟩ := by rw [aa, aa, Nat.add_assoc]
        rw [a0] at g0'
        rw [a1] at g1'
        have c0 : cellB w ⟨b, o + (i * 2 + 0), none⟩ = bb := by unfold cellB; rw [g0']
        have c1 : cellI w ⟨b, o + (i * 2 + 1), none⟩ = m := by unfold cellI; rw [g1']
        rw [c0, c1]
        exact ⟨g0', g1', hw⟩
      · cases hc1
    refine ⟨(List.range len).map fun i => (cellB w ⟨b, o + (i * 2 + 0), none⟩, cellI w ⟨b, o + (i * 2 + 1), none⟩), ?_, ?_, ?_⟩
    · intro x hx
      simp only [List.mem_map, List.mem_range] at hx
      obtain ⟨i, hi, rfl⟩ := hx
      exact wf_i64 (each i hi).2.2
    · have : cap ≤ 9223372036854775807 := hm
      simp; omega
    · have hnl : (numEls ((List.range len).map fun i => (cellB w ⟨b, o + (i * 2 + 0), none⟩, cellI w ⟨b, o + (i * 2 + 1), none⟩))).length = len := by simp [numEls]
      have hold : ∀ i j v, w.cell? ⟨b, o + (i * 2 + j), none⟩ = some v → oldIm w ⟨b, o + (i * 2 + j), none⟩ := fun i j v h => by
        refine ⟨rfl, ?_⟩
        rcases Nat.lt_or_ge b w.heap.size with h' | h'
        · exact h'
        · simp [World.cell?, Array.getElem?_eq_none h'] at h
      have := IR.lst (Im := oldIm w) (w := w) (numEls ((List.range len).map fun i => (cellB w ⟨b, o + (i * 2 + 0), none⟩, cellI w ⟨b, o + (i * 2 + 1), none⟩))) 2 b o cap
        (fun i j => if j = 0 then .bool (cellB w ⟨b, o + (i * 2 + 0), none⟩) else .int .i64 (cellI w ⟨b, o + (i * 2 + 1), none⟩)) (by rw [hnl]; exact hl) hm
        (fun c hc => by
          simp only [numEls, List.mem_map] at hc
          obtain ⟨x, _, rfl⟩ := hc
          rfl)
        (fun c hc x hx => by
          simp only [numEls, List.mem_map] at hc
          obtain ⟨y, _, rfl⟩ := hc
          simp at hx
          rcases hx with rfl | rfl <;> rfl)
        (fun k j hk hj => by
          rw [hnl] at hk
          obtain ⟨e0, e1, _⟩ := each k hk
          match j, hj with
          | 0, _ => exact ⟨hold k 0 _ e0, e0⟩
          | 1, _ => exact ⟨hold k 1 _ e1, e1⟩)
        (fun k j hk hj => by
          have hj2 : j < 2 := by simpa [numEls] using hj
          match j, hj2 with
          | 0, _ => simp [numEls]; exact .bool _
          | 1, _ => simp [numEls]; exact .int _ _)
      rw [hnl] at this
      exact this
end
end Go.Proofs.YtipncibiodfmdaaGreatDoor
