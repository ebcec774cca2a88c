/- Numbers over time: Coarser, and the document's functions. -/
import Derived.Test.YtipncibiodfmdaaGreatDoorSeB
set_option linter.unusedSimpArgs false
set_option linter.unusedVariables false
set_option linter.constructorNameAsVariable false
set_option maxHeartbeats 2000000
namespace Go.Ser
open Go.Abs Go.Num
def coarserS (s : Sr) (step way : Int) : Option Sr :=
  if 1 ≤ way ∧ way ≤ 5 ∧ 1 ≤ step ∧ step ≤ 86400 ∧ rightS s = true ∧ step % s.step = 0 then
    some ⟨s.name, s.start - s.start % step, step, if s.vals = [] then [] else slots s (s.start - s.start % step) step way (countN (s.start - s.start % step) (endS s) step)⟩
  else none
theorem betw_all (s : Sr) (h : SrR s) (a b : Int) : betw s.start s.step a b 0 s.vals = slice s a b := by
  rw [betw_slice s.start s.step a b (by have := h.p0; omega) s.vals s.vals 0 (by simp) (Nat.zero_le _)]
  rw [Nat.max_eq_right (Nat.zero_le _)]; rfl
theorem betw_take (st sp f u : Int) : ∀ (l : List N) (i k : Nat) (n : N), l[k]? = some n → betw st sp f u i (l.take (k + 1)) = betw st sp f u i (l.take k) ++ (if f ≤ st + ((i + k : Nat) : Int) * sp ∧ st + ((i + k : Nat) : Int) * sp < u then [n] else [])
  | [], i, k, n, h => by simp at h
  | m :: l, i, 0, n, h => by
    simp only [List.getElem?_cons_zero, Option.some.injEq] at h
    subst h
    simp only [Nat.zero_add, List.take_succ_cons, List.take_zero, betw, Nat.add_zero]
    split <;> simp
  | m :: l, i, k + 1, n, h => by
    have ih := betw_take st sp f u l (i + 1) k n (by simpa using h)
    have e : i + 1 + k = i + (k + 1) := by omega
    rw [e] at ih
    rw [List.take_succ_cons, List.take_succ_cons, betw, betw, ih]
    split <;> simp
end Go.Ser
namespace Go.Proofs.YtipncibiodfmdaaGreatDoor
open Go.Abs Go.Num Go.Ser
variable {G : Globs}
def coarserA : Option Sr → AV
  | some x => .tup [srA x, .int .i64 0]
  | none => .tup [srA ⟨[], 0, 0, []⟩, .int .i64 1]
theorem tmod_pos {a b : Int} (h : 0 ≤ a) : a.tmod b = a % b := Int.tmod_eq_emod_of_nonneg h
theorem coarser_ok (s : Sr) (h : SrOk s) (step way : Int) (h0 : -9223372036854775808 ≤ step) (h1 : step ≤ 9223372036854775807) : PCalls Tryz.prog n_series_Coarser [srA s, .int .i64 step, .int .i64 way] (fun r => r = coarserA (coarserS s step way)) := by
  refine pcalls_of_awp hmix c_series_Coarser rfl ?_
  have kR := sRight_ok (G := G) s h
  rw [srA_eq s] at kR ⊢
  by_cases c1 : way < 1
  · have e : coarserS s step way = none := by unfold coarserS; rw [if_neg]; omega
    rw [e]; simp [a_series_Coarser, c1, coarserA, srA, srC, numEls]
  by_cases c2 : 5 < way
  · have e : coarserS s step way = none := by unfold coarserS; rw [if_neg]; omega
    rw [e]; simp [a_series_Coarser, c1, c2, coarserA, srA, srC, numEls]
  by_cases c3 : step < 1
  · have e : coarserS s step way = none := by unfold coarserS; rw [if_neg]; omega
    rw [e]; simp [a_series_Coarser, c1, c2, c3, coarserA, srA, srC, numEls]
  by_cases c4 : 86400 < step
  · have e : coarserS s step way = none := by unfold coarserS; rw [if_neg]; omega
    rw [e]; simp [a_series_Coarser, c1, c2, c3, c4, coarserA, srA, srC, numEls]
  simp [a_series_Coarser, c1, c2, c3, c4]
  refine ac_same kR (by simp) ?_
  rintro r rfl
  cases hr : rightS s with
  | false =>
    have e : coarserS s step way = none := by unfold coarserS; rw [if_neg]; simp [hr]
    rw [e]; simp [coarserA, srA, srC, numEls]
  | true =>
    have hR := right_iff.1 hr
    have hp0 := hR.p0
    have hp1 := hR.p1
    have hs0 := hR.s0
    have hs1 := hR.s1
    obtain ⟨e1, e2, e3, e4⟩ := end_bd hR
    have htm : step.tmod s.step = step % s.step := tmod_pos (by omega)
    have hps : ¬ s.step = 0 := by omega
    have hm0 : 0 ≤ step % s.step := Int.emod_nonneg _ hps
    by_cases hm : step % s.step = 0
    · have e : coarserS s step way = some ⟨s.name, s.start - s.start % step, step, if s.vals = [] then [] else slots s (s.start - s.start % step) step way (countN (s.start - s.start % step) (endS s) step)⟩ := by
        unfold coarserS; rw [if_pos]; exact ⟨by omega, by omega, by omega, by omega, hr, hm⟩
      rw [e]
      have hst0 : ¬ step = 0 := by omega
      have hq0 : 0 ≤ s.start % step := Int.emod_nonneg _ hst0
      have hq1 : s.start % step < step := Int.emod_lt_of_pos _ (by omega)
      have hq2 : s.start % step ≤ s.start := by
        obtain ⟨a, ha⟩ := Int.eq_ofNat_of_zero_le hs0
        obtain ⟨b, hb⟩ := Int.eq_ofNat_of_zero_le (show 0 ≤ step by omega)
        rw [ha, hb, u_mod]
        have := Nat.mod_le a b
        omega
      have htm2 : s.start.tmod step = s.start % step := tmod_pos hs0
      obtain ⟨st, hst⟩ : ∃ st, st = s.start - s.start % step := ⟨_, rfl⟩
      have hw : IntKind.i64.wrap (s.start - s.start % step) = st := by rw [hst]; exact wrap_i64 (by omega) (by omega)
      have kE := send_ok (G := G) s hR
      have kL := laid_ok (G := G) s hR h.vs st (endS s) step way (by omega) (by omega) (by omega) (by omega) (by omega)
      rw [srA_eq s] at kE kL
      rw [← hst]
      have hlen := numEls_len s.vals
      simp [htm, hps, hm, hst0, htm2, hw]
      by_cases hv : s.vals = []
      · simp [hv, numEls, coarserA, srA, srC]
      · have hvl : ¬ (s.vals.length : Int) = 0 := by
          have : s.vals.length ≠ 0 := fun h => hv (List.length_eq_zero_iff.1 h)
          omega
        have hvl' : ¬ s.vals.length = 0 := fun h => hv (List.length_eq_zero_iff.1 h)
        have hne : ¬ numEls s.vals = [] := fun h => by rw [h] at hlen; exact hvl' hlen.symm
        rw [if_neg hv]
        simp [hne]
        refine qc_same kE (by simp) (by simp) ?_
        try simp
        refine qc_any kL (by simp) ?_
        simp [coarserA, srA, srC]
    · have e : coarserS s step way = none := by unfold coarserS; rw [if_neg]; exact fun h => hm h.2.2.2.2.2
      have hm' : 0 < step % s.step := by omega
      rw [e]; simp [htm, hps, hm, hm', coarserA, srA, srC, numEls]
/-- The document's functions. -/
theorem timed_ok (t : Int) : PCalls Tryz.prog n_isobarref13_Timed [.int .i64 t] (fun r => r = .bool (decide (0 ≤ t) && decide (t ≤ 1099511627776))) := by
  refine pcalls_of_awp hmix c_isobarref13_Timed rfl ?_
  by_cases h : 0 ≤ t <;> simp [a_isobarref13_Timed, h]
theorem rKnown_ok (l : List N) (hok : oksN l) (hl : l.length ≤ 1000000000) : PCalls Tryz.prog n_isobarref24_known [.lst (numEls l)] (fun r => r = .lst (numEls (known l))) := by
  refine pcalls_of_awp hmix c_isobarref24_known rfl ?_
  have hlen := numEls_len l
  simp [a_isobarref24_known]
  refine lp_startx (fun x f σ => ∃ (i : Nat), x = l.length - i ∧ i ≤ l.length ∧ f 0 = .lst (numEls l) ∧ f 3 = rowV 0 (numEls (known (l.take i))) ∧ f 4 = .int .i64 i ∧ σ = [] ++ rowE 33 2 (numEls (known (l.take i))) true) l.length ?_ ?_
  · exact ⟨0, by simp, by simp, by simp, by simp [known, numEls, rowV_nil], by simp, by simp [known, numEls, rowE_nil]⟩
  rintro x f σ ⟨i, hx, hi, f0, f3, f4, rfl⟩
  simp [f0, f4, hlen]
  refine cb_dec (fun hlt => ?_) (fun hge => ?_)
  · have hlt' : i < l.length := by omega
    have hwi : IntKind.i64.wrap ((i : Int) + 1) = ((i + 1 : Nat) : Int) := by rw [wrap_i64 (by omega) (by omega)]; omega
    obtain ⟨n, hn⟩ : ∃ n, l[i]? = some n := ⟨_, List.getElem?_eq_getElem hlt'⟩
    have hse := numEls_get hn
    obtain ⟨hx1, hx2⟩ := List.getElem?_eq_some_iff.1 hse
    have hno := hok n (List.mem_of_getElem? hn)
    have kR := rnRight_ok (G := G) n hno
    rw [numA_eq] at kR
    have hg := right_good n
    have htk : known (l.take (i + 1)) = if good n = true then known (l.take i) ++ [n] else known (l.take i) := by
      unfold known
      rw [List.take_add_one, hn, List.filter_append]
      cases hgn : good n <;> simp [hgn]
    have hkl : (known (l.take i)).length ≤ i := Nat.le_trans (List.length_filter_le _ _) (by simp; omega)
    simp [f0, f4, hse, hx1, hx2]
    refine ac_same kR (by simp) ?_
    rintro r rfl
    by_cases hgn : good n = true
    · rw [if_pos hgn] at htk
      rw [hgn] at hg
      have hr1 : rightN n = true := by cases hq : rightN n <;> simp_all
      have hr2 : n.1 = false := by cases hq : n.1 <;> simp_all
      simp [hr1, hr2, f0, f3, f4, hse, hx1, hx2]
      refine ap_acc_at (pre := []) rfl (numEls (known (l.take i))) [[.bool false, .int .i64 n.2]] true (by decide) (by simp) (by simp) ?_ ?_ ?_
      · rw [numEls_len]; simp; omega
      · rw [numEls_len]; simp; omega
      have e : numEls (known (l.take i)) ++ [[AV.bool false, AV.int .i64 n.2]] = numEls (known (l.take (i + 1))) := by rw [htk, numEls_app, ← hr2]; rfl
      rw [e]
      simp [f4, hwi]
      refine nx_intro (l.length - (i + 1)) (by omega) ⟨i + 1, rfl, by omega, by simp [f0], by simp, by simp, by simp⟩
    · rw [if_neg hgn] at htk
      have hgf : good n = false := by simpa using hgn
      rw [hgf] at hg
      have hbr : rightN n = false ∨ (rightN n = true ∧ n.1 = true) := by cases h1 : rightN n <;> cases h2 : n.1 <;> simp_all
      rcases hbr with h1 | ⟨h1, h2⟩
      · simp [h1, f4, hwi]
        refine nx_intro (l.length - (i + 1)) (by omega) ⟨i + 1, rfl, by omega, by simp [f0], by simp [f3, htk], by simp, by simp [htk]⟩
      · simp [h1, h2, f0, f4, hse, hx1, hx2, hwi]
        refine nx_intro (l.length - (i + 1)) (by omega) ⟨i + 1, rfl, by omega, by simp [f0], by simp [f3, htk], by simp, by simp [htk]⟩
  · have hil : i = l.length := by omega
    rw [hil, List.take_length] at f3
    have hfin := fin1_acc_at (pre := []) (n := 0) rfl (e := 33) (size := 2) (l := numEls (known (l.take i))) (m := 0)
    rw [hil, List.take_length] at hfin
    simp only [List.nil_append] at hfin
    simp [f3, hil, hfin]
end Go.Proofs.YtipncibiodfmdaaGreatDoor
