/- Numbers over time: lists of series that are the same; the law Again. -/
import Derived.Test.YtjkajkhomklikaaGreatDoorSeU
import Derived.Test.YtjkajkhomklikaaGreatDoorSeE
set_option linter.unusedSimpArgs false
set_option linter.unusedVariables false
set_option linter.constructorNameAsVariable false
set_option maxHeartbeats 4000000
namespace Go.Proofs.YtjkajkhomklikaaGreatDoor
open Go.Abs Go.Num Go.Ser
variable {G : Globs}
theorem sameList_ok (l : List Sr) (hl : l.length ≤ 9223372036854775807) (h : ∀ s ∈ l, s.vals.length ≤ 9223372036854775807) : PCalls Tryz.prog n_isobarref24_SameList [serL l, serL l] (fun r => r = .bool true) := by
  refine pcalls_of_awp hmix c_isobarref24_SameList rfl ?_
  have hle := serEls_len l
  simp [a_isobarref24_SameList, serL]
  refine lp_startx (fun x f σ => ∃ (i : Nat), x = l.length - i ∧ i ≤ l.length ∧ f 0 = .lst (serEls l) ∧ f 1 = .lst (serEls l) ∧ f 5 = .int .i64 i ∧ σ = []) l.length ?_ ?_
  · exact ⟨0, by simp, by simp, by simp, by simp, by simp, by simp⟩
  rintro x f σ ⟨i, hx, hi, f0, f1, f5, rfl⟩
  by_cases hlt : i < l.length
  · have hlt' : (i : Int) < l.length := by omega
    have hwi : IntKind.i64.wrap ((i : Int) + 1) = (i : Int) + 1 := wrap_i64 (by omega) (by omega)
    obtain ⟨y, hy⟩ : ∃ y, l[i]? = some y := ⟨_, List.getElem?_eq_getElem hlt⟩
    have hse := serEls_get hy
    obtain ⟨hx1, hx2⟩ := List.getElem?_eq_some_iff.1 hse
    have kS := sameS_ok (G := G) y (h y (List.mem_of_getElem? hy))
    rw [srA_eq] at kS
    simp [f0, f1, f5, hle, hlt, hlt', hx1, hx2, hwi]
    refine qc_same kS (by simp) (by simp) ?_
    simp [f5, hwi]
    refine nx_intro (l.length - (i + 1)) (by omega) ⟨i + 1, rfl, by omega, by simp [f0], by simp [f1], by simp, rfl⟩
  · have hil : i = l.length := by omega
    have hlt' : ¬ (i : Int) < l.length := by omega
    simp [f0, f5, hle, hlt, hlt', hil]
end Go.Proofs.YtjkajkhomklikaaGreatDoor
