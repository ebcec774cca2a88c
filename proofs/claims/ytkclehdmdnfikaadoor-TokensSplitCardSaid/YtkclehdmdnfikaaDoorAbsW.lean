/- Abstract machine, part 23: calls by the library's contracts; the package's variables. -/
import Derived.Test.YtkclehdmdnfikaaDoorAbsV
set_option linter.unusedSimpArgs false
set_option linter.unusedVariables false
set_option linter.constructorNameAsVariable false
namespace Go.Abs
open Go.RowKit
variable {G : Globs}
/-- The relation of a call that touches no entry is kept along a world that grows. -/
theorem srel_grow {base : Nat} {κ : Key} {Im : Addr → Prop} {w w' : World} (hs : SRel base κ Im [] w) (hb : Below w.heap.size w w') : SRel base κ Im [] w' ∧ Grow base κ Im w κ Im w' := by
  have hcl : ∀ a, Im a → w'.cell? a = w.cell? a := fun a ha => World.cell?_of_block (hb.block _ (hs.imlt a ha).1)
  exact ⟨hs.world (fun _ h => h) (fun _ h => .inl h) hb.size hb.block, ⟨fun _ _ _ h => h, fun _ h => h, hcl, fun _ h => .inl h, hb.mono hs.hb⟩⟩
/-- A call of a function of one value, by the library's contract. -/
theorem pcalls1 {P : Program} {f : FuncId} {a : AV} {R : AV → Prop} (h : ∀ base κ Im w v, SRel base κ Im [] w → VR κ Im w a v → Calls P f #[v] w fun e w' => ∃ r u, e = .returned u ∧ R r ∧ Below w.heap.size w w' ∧ ∀ Im', IR Im' w' r u) : PCalls P f [a] R := by
  intro base κ Im w vs hs hv
  obtain ⟨v0, rfl⟩ : ∃ v0, vs = [v0] := by
    match vs, hv.1 with
    | [a], _ => exact ⟨a, rfl⟩
  refine (h base κ Im w v0 hs (hv.2 0 (by simp) (by simp))).mono ?_
  rintro e w' ⟨r, u, rfl, hR, hb, hr⟩
  obtain ⟨h1, h2⟩ := srel_grow hs hb
  exact ⟨r, [], u, κ, Im, rfl, ⟨rfl, hR⟩, h1, h2, .im _ _ (hr _)⟩
theorem pcalls2 {P : Program} {f : FuncId} {a b : AV} {R : AV → Prop} (h : ∀ base κ Im w v u, SRel base κ Im [] w → VR κ Im w a v → VR κ Im w b u → Calls P f #[v, u] w fun e w' => ∃ r u, e = .returned u ∧ R r ∧ Below w.heap.size w w' ∧ ∀ Im', IR Im' w' r u) : PCalls P f [a, b] R := by
  intro base κ Im w vs hs hv
  obtain ⟨v0, v1, rfl⟩ : ∃ v0 v1, vs = [v0, v1] := by
    match vs, hv.1 with
    | [a, b], _ => exact ⟨a, b, rfl⟩
  refine (h base κ Im w v0 v1 hs (hv.2 0 (by simp) (by simp)) (hv.2 1 (by simp) (by simp))).mono ?_
  rintro e w' ⟨r, u, rfl, hR, hb, hr⟩
  obtain ⟨h1, h2⟩ := srel_grow hs hb
  exact ⟨r, [], u, κ, Im, rfl, ⟨rfl, hR⟩, h1, h2, .im _ _ (hr _)⟩
theorem pcalls3 {P : Program} {f : FuncId} {a b c : AV} {R : AV → Prop} (h : ∀ base κ Im w v u x, SRel base κ Im [] w → VR κ Im w a v → VR κ Im w b u → VR κ Im w c x → Calls P f #[v, u, x] w fun e w' => ∃ r u, e = .returned u ∧ R r ∧ Below w.heap.size w w' ∧ ∀ Im', IR Im' w' r u) : PCalls P f [a, b, c] R := by
  intro base κ Im w vs hs hv
  obtain ⟨v0, v1, v2, rfl⟩ : ∃ v0 v1 v2, vs = [v0, v1, v2] := by
    match vs, hv.1 with
    | [a, b, c], _ => exact ⟨a, b, c, rfl⟩
  refine (h base κ Im w v0 v1 v2 hs (hv.2 0 (by simp) (by simp)) (hv.2 1 (by simp) (by simp)) (hv.2 2 (by simp) (by simp))).mono ?_
  rintro e w' ⟨r, u, rfl, hR, hb, hr⟩
  obtain ⟨h1, h2⟩ := srel_grow hs hb
  exact ⟨r, [], u, κ, Im, rfl, ⟨rfl, hR⟩, h1, h2, .im _ _ (hr _)⟩
/-- What a package's variable holds, cell by cell, and as a whole. -/
theorem glob_cell {base : Nat} {κ : Key} {Im : Addr → Prop} {σ : Store} {w : World} (hs : SRel base κ Im σ w) {g : Nat} {cells : List AV} (hm : (g, cells) ∈ Globs.tab) : ∃ vals : Nat → Value, (∀ j, j < cells.length → w.cell? ⟨g, j, none⟩ = some (vals j)) ∧ ∀ j (h : j < cells.length), IR Im w (cells[j]) (vals j) := by
  obtain ⟨_, _, h⟩ := hs.glob _ hm
  obtain ⟨b, o, vals, hb, _, hc, hv⟩ := (VR.im (κ := κ) _ _ h).rptr_inv
  simp only [Value.pointer.injEq, Option.some.injEq, Addr.mk.injEq, and_true] at hb
  obtain ⟨rfl, rfl⟩ := hb
  exact ⟨vals, fun j hj => by have := (hc j hj).2; simpa using this, hv⟩
theorem glob_ints {base : Nat} {κ : Key} {Im : Addr → Prop} {σ : Store} {w : World} (hs : SRel base κ Im σ w) {g : Nat} {k : IntKind} {zs : List Int} (hm : (g, zs.map (AV.int k)) ∈ Globs.tab) : ∃ t fz, w.heap[g]? = some (.cells (zs.map (Value.int k)).toArray t fz) ∧ g < base := by
  obtain ⟨h1, ⟨cs, t, fz, h2, h3⟩, _⟩ := hs.glob _ hm
  obtain ⟨vals, hc, hv⟩ := glob_cell hs hm
  refine ⟨t, fz, ?_, h1⟩
  rw [h2]
  have : cs = (zs.map (Value.int k)).toArray := by
    apply Array.ext
    · simpa using h3
    · intro j hj hj'
      have hjl : j < (zs.map (AV.int k)).length := by simpa using hj'
      have e1 := hc j hjl
      have e2 : w.cell? ⟨g, j, none⟩ = some cs[j] := by simp [World.cell?, h2, hj]
      rw [e2] at e1
      have e4 := hv j hjl
      simp only [List.getElem_map] at e4
      have e3 := (VR.im (κ := κ) _ _ e4).int_inv
      rw [e3] at e1
      simpa using e1
  rw [this]
end Go.Abs
