/- Numbers over time: lists of series that are the same; the law Again. -/
import Derived.Test.YtjkajkhomklikaaDoorSeU
import Derived.Test.YtjkajkhomklikaaDoorSeE
set_option linter.unusedSimpArgs false
set_option linter.unusedVariables false
set_option linter.constructorNameAsVariable false
set_option maxHeartbeats 4000000
namespace Go.Proofs.YtjkajkhomklikaaDoor
open Go.Abs Go.Num Go.Ser
variable {G : Globs}
theorem sameList_ok (l : List Sr) (hl : l.length ≤ 9223372036854775807) (h : ∀ s ∈ l, s.vals.length ≤ 9223372036854775807) : PCalls Tryd.prog n_isobarref24_SameList [serL l, serL l] (fun r => r = .bool true) := by
  refine pcalls_of_awp hmix c_isobarref24_SameList rfl ?_
  have hle := serEls_len l
  simp [a_isobarref24_SameList, serL]
  refine lp_startx (fun x f σ => ∃ (i : Nat), x = l.length - i ∧ i ≤ l.length ∧ f 0 = .lst (serEls l) ∧ f 1 = .lst (serEls l) ∧ f 5 = .int .i64 i ∧ σ = []) l.length ?_ ?_
  · exact ⟨0, by simp, by simp, by simp, by simp, by simp, by simp⟩
  rintro x f σ ⟨i, hx, hi, f0, f1, f5, rfl⟩
  by_cases hlt : i < l.length
  · have hlt' : (i : Int) < l.length := by omega
    have hwi : IntKind.i64.wrap ((i : Int) + 1) = (i : Int) + 1 := wrap_i64 (by omega) (by omega)
    obtain ⟨y, hy⟩ : ∃ y, l[i]? = some y := ⟨_, List.getElem?_eq_getElem hlt⟩
    have hse := serEls_get hy
    obtain ⟨hx1, hx2⟩ := List.getElem?_eq_some_iff.1 hse
    have kS := sameS_ok (G := G) y (h y (List.mem_of_getElem? hy))
    rw [srA_eq] at kS
    simp [f0, f1, f5, hle, hlt, hlt', hx1, hx2, hwi]
    refine qc_same kS (by simp) (by simp) ?_
    simp [f5, hwi]
    refine nx_intro (l.length - (i + 1)) (by omega) ⟨i + 1, rfl, by omega, by simp [f0], by simp [f1], by simp, rfl⟩
  · have hil : i = l.length := by omega
    have hlt' : ¬ (i : Int) < l.length := by omega
    simp [f0, f5, hle, hlt, hlt', hil]
theorem many_ok (l : List Sr) (hl : l.length ≤ 9223372036854775807) : PCalls Tryd.prog n_isobarlaw24_many [serL l] (fun r => ∃ b : Bool, r = .bool b) := by
  refine pcalls_of_awp hmix c_isobarlaw24_many rfl ?_
  have hle := serEls_len l
  simp [a_isobarlaw24_many, serL]
  refine lp_startx (fun x f σ => ∃ (i : Nat), x = l.length - i ∧ i ≤ l.length ∧ f 0 = .lst (serEls l) ∧ (∃ n : Int, f 3 = .int .i64 n) ∧ f 4 = .int .i64 i ∧ σ = []) l.length ?_ ?_
  · exact ⟨0, by simp, by simp, by simp, by simp, by simp, by simp⟩
  rintro x f σ ⟨i, hx, hi, f0, ⟨n, f3⟩, f4, rfl⟩
  by_cases hlt : i < l.length
  · have hlt' : (i : Int) < l.length := by omega
    have hwi : IntKind.i64.wrap ((i : Int) + 1) = (i : Int) + 1 := wrap_i64 (by omega) (by omega)
    obtain ⟨y, hy⟩ : ∃ y, l[i]? = some y := ⟨_, List.getElem?_eq_getElem hlt⟩
    have hse := serEls_get hy
    obtain ⟨hx1, hx2⟩ := List.getElem?_eq_some_iff.1 hse
    have hlen := numEls_len y.vals
    by_cases hn : n ≤ 5000
    · simp [f0, f3, f4, hle, hlt, hlt', hx1, hx2, hwi, hn, hlen]
      refine nx_intro (l.length - (i + 1)) (by omega) ⟨i + 1, rfl, by omega, by simp [f0], by simp, by simp, rfl⟩
    · simp [f0, f3, f4, hle, hlt, hlt', hx1, hx2, hwi, hn, hlen]
  · have hlt' : ¬ (i : Int) < l.length := by omega
    simp [f0, f3, f4, hle, hlt, hlt']
theorem sagain_law [GPow] (l : List Sr) (hl : l.length ≤ 9223372036854775807) (ho : ∀ s ∈ l, SrOk s) : PCalls Tryd.prog n_isobarlaw24_SeriesAgain [serL l] (fun r => r = .bool true) := by
  refine pcalls_of_awp hmix c_isobarlaw24_SeriesAgain rfl ?_
  have hle := serEls_len l
  have kM := many_ok (G := G) l hl
  have kA := align_ok (G := G) l hl ho
  obtain ⟨⟨r, e⟩, hre⟩ : ∃ p, p = alS l := ⟨_, rfl⟩
  rw [← hre] at kA
  unfold alA serL at kA
  unfold serL at kM ⊢
  simp only at kA
  simp [a_isobarlaw24_SeriesAgain]
  refine ac_same salive_ok (by simp) ?_
  rintro r' rfl
  simp
  refine ac_same kM (by simp) ?_
  rintro r' ⟨b, rfl⟩
  cases b with
  | true => simp
  | false =>
    by_cases h20 : 20 < l.length
    · have h20' : (20 : Int) < l.length := by omega
      simp [hle, h20, h20']
    have h20' : ¬ (20 : Int) < l.length := by omega
    simp [hle, h20, h20']
    refine ac_same kA (by simp) ?_
    rintro r' rfl
    by_cases he : e = 0
    · subst he
      obtain ⟨hal, hrl, hro, a, st, n, hall⟩ := again ho hre.symm
      have hrle := serEls_len r
      have kB := align_ok (G := G) r (by omega) hro
      rw [hal] at kB
      unfold alA serL at kB
      simp only at kB
      have kS := sameList_ok (G := G) r (by omega) fun s hs => (hro s hs).vl
      unfold serL at kS
      simp [hle, hrle, hrl]
      refine lp_startx (fun x f σ => ∃ (i : Nat), x = l.length - i ∧ i ≤ l.length ∧ f 0 = .lst (serEls l) ∧ f 3 = .lst (serEls r) ∧ f 5 = .int .i64 i ∧ σ = []) l.length ?_ ?_
      · exact ⟨0, by simp, by simp, by simp, by simp, by simp, by simp⟩
      rintro x f σ ⟨i, hx, hi, f0, f3, f5, rfl⟩
      by_cases hlt : i < l.length
      · have hlt' : (i : Int) < l.length := by omega
        have hpos : 0 < l.length := by omega
        have hpos' : (0 : Int) < l.length := by omega
        have hwi : IntKind.i64.wrap ((i : Int) + 1) = (i : Int) + 1 := wrap_i64 (by omega) (by omega)
        have a1 := hall i hlt (by omega)
        have a0 := hall 0 hpos (by omega)
        obtain ⟨y, hy⟩ : ∃ y, l[i]? = some y := ⟨_, List.getElem?_eq_getElem hlt⟩
        obtain ⟨z, hz⟩ : ∃ z, r[i]? = some z := ⟨_, List.getElem?_eq_getElem (by omega)⟩
        obtain ⟨z0, hz0⟩ : ∃ z, r[0]? = some z := ⟨_, List.getElem?_eq_getElem (by omega)⟩
        obtain ⟨_, hy'⟩ := List.getElem?_eq_some_iff.1 hy
        obtain ⟨_, hz'⟩ := List.getElem?_eq_some_iff.1 hz
        obtain ⟨_, hz0'⟩ := List.getElem?_eq_some_iff.1 hz0
        rw [hy', hz'] at a1
        rw [hz0'] at a0
        obtain ⟨b1, b2, b3, b4⟩ := a1
        obtain ⟨_, d2, d3, d4⟩ := a0
        have hse := serEls_get hy
        obtain ⟨hx1, hx2⟩ := List.getElem?_eq_some_iff.1 hse
        have hse1 := serEls_get hz
        obtain ⟨hx3, hx4⟩ := List.getElem?_eq_some_iff.1 hse1
        have hse0 := serEls_get hz0
        obtain ⟨hx5, hx6⟩ := List.getElem?_eq_some_iff.1 hse0
        have hlen1 := numEls_len z.vals
        have hlen0 := numEls_len z0.vals
        rw [b4] at hlen1
        rw [d4] at hlen0
        rw [b1, b2, b3] at hx4
        rw [d2, d3] at hx6
        simp [f0, f3, f5, hle, hrle, hrl, hlt, hlt', hpos, hpos', hx1, hx2, hx3, hx4, hx5, hx6, hwi, hlen1, hlen0]
        refine nx_intro (l.length - (i + 1)) (by omega) ⟨i + 1, rfl, by omega, by simp [f0], by simp [f3], by simp, rfl⟩
      · have hlt' : ¬ (i : Int) < l.length := by omega
        simp [f0, f3, f5, hle, hrle, hrl, hlt, hlt']
        refine ac_same kB (by simp) ?_
        rintro r' rfl
        simp [f3]
        refine ac_same kS (by simp) ?_
        rintro r' rfl
        simp
    · have hr : r = [] := alS_err hre.symm he
      subst hr
      have he' : ¬ (e : Int) = 0 := by omega
      simp [he, he', serEls]
end Go.Proofs.YtjkajkhomklikaaDoor
