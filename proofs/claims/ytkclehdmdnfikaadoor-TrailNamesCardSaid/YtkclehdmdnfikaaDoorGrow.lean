/- slices.Grow of no slice, over the abstract machine, of any program and any numbering. -/
import Derived.Test.YtkclehdmdnfikaaDoorAbs2
import Derived.Shelf.Spec.SlicesGrow
set_option linter.unusedSimpArgs false
set_option linter.unusedVariables false
set_option linter.constructorNameAsVariable false
namespace Go.Abs
open Go.RowKit Go.Proofs Go.Shelf
variable {G : Globs}
section
variable {P : Program} {ρ : Ren} {σ : Store}

theorem grow_nil_ok (L : Lays8.n4 P ρ) (i0 : TypeInfo) (z : Value) (hi0 : P.info? (ρ.t 25) = some i0) (hz0 : i0.zero = some z) (hs0 : 0 < i0.size) (hzs : z.cells.size = i0.size) (im : Bool) {n : Nat} (hb : n * i0.bytes ≤ 140737488355328) (h62 : n ≤ 4611686018427387904) :
    ACalls P (ρ.f 4) [.nils, .int .i64 n] σ (fun r σ' => r = .row σ.length 0 ∧ σ' = σ ++ [.row (ρ.t 25) i0.size [] im]) := by
  intro base κ Im w vs hs hv
  obtain ⟨u, v, rfl, hu, hv⟩ : ∃ u v, vs = [u, v] ∧ VR κ Im w .nils u ∧ VR κ Im w (.int .i64 n) v := by
    match vs, hv.1 with
    | [u, v], _ => exact ⟨u, v, rfl, hv.2 0 (by simp) (by simp), hv.2 1 (by simp) (by simp)⟩
  have e1 := hu.nils_inv
  have e2 := hv.int_inv
  subst e1; subst e2
  by_cases hn : n = 0
  · subst hn
    refine (Any8.slices_Grow_room L none 0 0 0 w (Nat.le_refl _) (by omega) (by omega) (Nat.le_refl _)).mono ?_
    rintro e w' ⟨rfl, rfl⟩
    obtain ⟨κ', Im', h1, h2, h3⟩ := new_row (e := ρ.t 25) (size := i0.size) (n := 0) (m := []) (im := im) (v := .slice none 0 0) (w' := w') (xs := []) hs rfl hs0 (by simp) (by simp) ⟨by simp, .inl ⟨rfl, rfl⟩⟩ (fun _ _ => rfl) (Nat.le_refl _) rfl rfl rfl ⟨rfl, fun j h => by simp at h⟩ (fun _ => ⟨rfl, fun j h => by simp at h⟩)
    exact ⟨_, _, _, κ', Im', rfl, ⟨rfl, rfl⟩, h2, h3, h1⟩
  · refine (Any8.slices_Grow_grow L i0 z hi0 hz0 hs0 none 0 0 n [] w (Nat.le_refl _) (by omega) (by simpa using hb) (by omega) (by simp) (fun _ => rfl) (fun _ h => by cases h)).mono ?_
    rintro e w' ⟨rfl, rfl⟩
    have hge := grownCap_ge w (0 + n) 0 (ρ.t 25)
    have hle := grownCap_le_maxLen w (0 + n) 0 (ρ.t 25) (by unfold maxLen; omega)
    have hown : (w.drew.alloc (.cells (([] : List Value).toArray ++ Builtin.zeroCells z.cells (0 + n - 0) ++ Builtin.zeroCells z.cells (grownCap w (0 + n) 0 (ρ.t 25) - (0 + n))) (ρ.t 25))).ownsRow w.heap.size (ρ.t 25) i0.size (.slice (some ⟨w.heap.size, 0, none⟩) 0 (grownCap w (0 + n) 0 (ρ.t 25))) 0 [] := by
      refine ⟨by simp, .inr ⟨w.heap.size, _, _, rfl, Nat.le_refl _, heap_alloc_new w.drew _, Nat.zero_le _, hle, ?_, by simp⟩⟩
      simp only [Array.size_append, size_zeroCells, List.size_toArray, List.length_nil, Nat.zero_add, hzs, ← Nat.add_mul]
      rw [Nat.zero_add] at hge; congr 1; omega
    obtain ⟨κ', Im', h1, h2, h3⟩ := new_row (e := ρ.t 25) (size := i0.size) (n := 0) (m := []) (im := im) (xs := []) hs rfl hs0 (by simp) (by simp) hown (fun k hk => heap_alloc_old w.drew _ hk) (by simp) rfl rfl rfl ⟨rfl, fun j h => by simp at h⟩ (fun _ => ⟨rfl, fun j h => by simp at h⟩)
    exact ⟨_, _, _, κ', Im', rfl, ⟨rfl, rfl⟩, h2, h3, h1⟩
end
end Go.Abs
