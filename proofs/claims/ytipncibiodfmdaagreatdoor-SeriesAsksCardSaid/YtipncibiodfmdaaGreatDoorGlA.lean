/- Patterns of one name: the small functions. -/
import Derived.Test.YtipncibiodfmdaaGreatDoorCode
import Derived.Test.YtipncibiodfmdaaGreatDoorShelf
import Derived.Test.YtipncibiodfmdaaGreatDoorAbs2
import Derived.Test.YtipncibiodfmdaaGreatDoorGlLaws
import Derived.Lib.IndexAny
set_option linter.unusedSimpArgs false
set_option linter.unusedVariables false
set_option linter.constructorNameAsVariable false
namespace Go.Proofs.YtipncibiodfmdaaGreatDoor
open Go.Abs Go.Glob
variable {G : Globs}

/-- strings.IndexByte. -/
theorem indexByte_ok (s : List UInt8) (c : UInt8) : PCalls Tryz.prog 215 [.str s, .int .u8 c.toNat] (fun r => r = .int .i64 (Lib.indexByte s c)) := by
  intro base κ Im w vs hs hv
  obtain ⟨v0, v1, rfl⟩ : ∃ v0 v1, vs = [v0, v1] := by
    match vs, hv.1 with
    | [a, b], _ => exact ⟨a, b, rfl⟩
  have e0 := (hv.2 0 (by simp) (by simp)).str_inv
  have e1 := (hv.2 1 (by simp) (by simp)).int_inv
  simp only [List.getElem_cons_zero, List.getElem_cons_succ] at e0 e1
  subst e0; subst e1
  refine (Tryz.strings_IndexByte ⟨s.toArray⟩ c.toNat w).mono ?_
  rintro e w' ⟨rfl, rfl⟩
  exact ⟨_, [], _, κ, Im, rfl, ⟨rfl, rfl⟩, hs, Grow.refl _ _ _ _, .im _ _ (by simpa using IR.int (Im := Im) (w := w') .i64 (Lib.indexByte s c))⟩

theorem nb_index (c : UInt8) : nb c = ((97 ≤ c && c ≤ 122) || (65 ≤ c && c ≤ 90) || (48 ≤ c && c ≤ 57) || decide (0 ≤ Lib.indexByte [95, 45, 58, 37, 35, 64, 43, 61] c)) := by
  unfold nb
  rw [Lib.contains_iff_indexByte]

/-- A list of texts. -/
def strEls (l : List (List UInt8)) : List (List AV) := l.map fun s => [.str s]

end Go.Proofs.YtipncibiodfmdaaGreatDoor
