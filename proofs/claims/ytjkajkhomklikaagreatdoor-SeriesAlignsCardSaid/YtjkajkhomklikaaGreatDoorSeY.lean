/- Numbers over time: the law Aligns. -/
import Derived.Test.YtjkajkhomklikaaGreatDoorSeV
import Derived.Test.YtjkajkhomklikaaGreatDoorSeW
set_option linter.unusedSimpArgs false
set_option linter.unusedVariables false
set_option linter.constructorNameAsVariable false
set_option maxHeartbeats 4000000
namespace Go.Proofs.YtjkajkhomklikaaGreatDoor
open Go.Abs Go.Num Go.Ser
variable {G : Globs}
theorem aligns_law [GPow] (l : List Sr) (hl : l.length ≤ 9223372036854775807) (ho : ∀ s ∈ l, SrOk s) : PCalls Tryz.prog n_isobarlaw24_SeriesAligns [serL l] (fun r => r = .bool true) := by
  refine pcalls_of_awp hmix c_isobarlaw24_SeriesAligns rfl ?_
  have hle := serEls_len l
  have kA := align_ok (G := G) l hl ho
  have kB := rAlign_ok (G := G) l hl ho
  obtain ⟨⟨r, e⟩, hre⟩ : ∃ p, p = alS l := ⟨_, rfl⟩
  rw [← hre] at kA kB
  have hr : r.length ≤ 9223372036854775807 ∧ ∀ s ∈ r, s.vals.length ≤ 9223372036854775807 := by
    by_cases he : e = 0
    · subst he
      obtain ⟨_, h2, h3, _⟩ := again ho hre.symm
      exact ⟨by omega, fun s hs => (h3 s hs).vl⟩
    · have : r = [] := alS_err hre.symm he
      subst this
      exact ⟨by simp, by simp⟩
  have kS := sameList_ok (G := G) r hr.1 hr.2
  unfold alA serL at kA kB
  unfold serL at kS ⊢
  simp only at kA kB
  simp [a_isobarlaw24_SeriesAligns]
  refine ac_same salive_ok (by simp) ?_
  rintro r' rfl
  simp
  refine lp_startx (fun x f σ => ∃ (i : Nat), x = l.length - i ∧ i ≤ l.length ∧ f 0 = .lst (serEls l) ∧ (∃ n : Int, f 3 = .int .i64 n) ∧ f 4 = .int .i64 i ∧ σ = []) l.length ?_ ?_
  · exact ⟨0, by simp, by simp, by simp, by simp, by simp, by simp⟩
  rintro x f σ ⟨i, hx, hi, f0, ⟨n, f3⟩, f4, rfl⟩
  have fin : True := trivial
  by_cases hgo : i < l.length ∧ n ≤ 400
  · obtain ⟨hlt, hn⟩ := hgo
    have hlt' : (i : Int) < l.length := by omega
    have hwi : IntKind.i64.wrap ((i : Int) + 1) = (i : Int) + 1 := wrap_i64 (by omega) (by omega)
    obtain ⟨y, hy⟩ : ∃ y, l[i]? = some y := ⟨_, List.getElem?_eq_getElem hlt⟩
    have hse := serEls_get hy
    obtain ⟨hx1, hx2⟩ := List.getElem?_eq_some_iff.1 hse
    have hlen := numEls_len y.vals
    simp [f0, f3, f4, hle, hlt, hlt', hx1, hx2, hwi, hn, hlen]
    refine nx_intro (l.length - (i + 1)) (by omega) ⟨i + 1, rfl, by omega, by simp [f0], by simp, by simp, rfl⟩
  · by_cases hn : n ≤ 400
    · have hlt : ¬ i < l.length := fun h => hgo ⟨h, hn⟩
      have hlt' : ¬ (i : Int) < l.length := by omega
      have hn' : ¬ 400 < n := by omega
      simp [f0, f3, f4, hle, hlt, hlt', hn, hn']
      refine ac_same kA (by simp) ?_
      rintro r' rfl
      simp [f0]
      refine ac_same kB (by simp) ?_
      rintro r' rfl
      simp
      refine ac_same kS (by simp) ?_
      rintro r' rfl
      simp
    · have hn' : 400 < n := by omega
      by_cases hlt : i < l.length
      · have hlt' : (i : Int) < l.length := by omega
        simp [f0, f3, f4, hle, hlt, hlt', hn, hn']
      · have hlt' : ¬ (i : Int) < l.length := by omega
        simp [f0, f3, f4, hle, hlt, hlt', hn, hn']
end Go.Proofs.YtjkajkhomklikaaGreatDoor
