/- Numbers over time: Coarser, and the document's functions. -/
import Derived.Test.YtjkajkhomklikaaDoorSeB
set_option linter.unusedSimpArgs false
set_option linter.unusedVariables false
set_option linter.constructorNameAsVariable false
set_option maxHeartbeats 2000000
namespace Go.Ser
open Go.Abs Go.Num
def coarserS (s : Sr) (step way : Int) : Option Sr :=
  if 1 ≤ way ∧ way ≤ 5 ∧ 1 ≤ step ∧ step ≤ 86400 ∧ rightS s = true ∧ step % s.step = 0 then
    some ⟨s.name, s.start - s.start % step, step, if s.vals = [] then [] else slots s (s.start - s.start % step) step way (countN (s.start - s.start % step) (endS s) step)⟩
  else none
theorem betw_all (s : Sr) (h : SrR s) (a b : Int) : betw s.start s.step a b 0 s.vals = slice s a b := by
  rw [betw_slice s.start s.step a b (by have := h.p0; omega) s.vals s.vals 0 (by simp) (Nat.zero_le _)]
  rw [Nat.max_eq_right (Nat.zero_le _)]; rfl
theorem betw_take (st sp f u : Int) : ∀ (l : List N) (i k : Nat) (n : N), l[k]? = some n → betw st sp f u i (l.take (k + 1)) = betw st sp f u i (l.take k) ++ (if f ≤ st + ((i + k : Nat) : Int) * sp ∧ st + ((i + k : Nat) : Int) * sp < u then [n] else [])
  | [], i, k, n, h => by simp at h
  | m :: l, i, 0, n, h => by
    simp only [List.getElem?_cons_zero, Option.some.injEq] at h
    subst h
    simp only [Nat.zero_add, List.take_succ_cons, List.take_zero, betw, Nat.add_zero]
    split <;> simp
  | m :: l, i, k + 1, n, h => by
    have ih := betw_take st sp f u l (i + 1) k n (by simpa using h)
    have e : i + 1 + k = i + (k + 1) := by omega
    rw [e] at ih
    rw [List.take_succ_cons, List.take_succ_cons, betw, betw, ih]
    split <;> simp
end Go.Ser
namespace Go.Proofs.YtjkajkhomklikaaDoor
open Go.Abs Go.Num Go.Ser
variable {G : Globs}
def coarserA : Option Sr → AV
  | some x => .tup [srA x, .int .i64 0]
  | none => .tup [srA ⟨[], 0, 0, []⟩, .int .i64 1]
theorem tmod_pos {a b : Int} (h : 0 ≤ a) : a.tmod b = a % b := Int.tmod_eq_emod_of_nonneg h
theorem coarser_ok (s : Sr) (h : SrOk s) (step way : Int) (h0 : -9223372036854775808 ≤ step) (h1 : step ≤ 9223372036854775807) : PCalls Tryd.prog n_series_Coarser [srA s, .int .i64 step, .int .i64 way] (fun r => r = coarserA (coarserS s step way)) := by
  refine pcalls_of_awp hmix c_series_Coarser rfl ?_
  have kR := sRight_ok (G := G) s h
  rw [srA_eq s] at kR ⊢
  by_cases c1 : way < 1
  · have e : coarserS s step way = none := by unfold coarserS; rw [if_neg]; omega
    rw [e]; simp [a_series_Coarser, c1, coarserA, srA, srC, numEls]
  by_cases c2 : 5 < way
  · have e : coarserS s step way = none := by unfold coarserS; rw [if_neg]; omega
    rw [e]; simp [a_series_Coarser, c1, c2, coarserA, srA, srC, numEls]
  by_cases c3 : step < 1
  · have e : coarserS s step way = none := by unfold coarserS; rw [if_neg]; omega
    rw [e]; simp [a_series_Coarser, c1, c2, c3, coarserA, srA, srC, numEls]
  by_cases c4 : 86400 < step
  · have e : coarserS s step way = none := by unfold coarserS; rw [if_neg]; omega
    rw [e]; simp [a_series_Coarser, c1, c2, c3, c4, coarserA, srA, srC, numEls]
  simp [a_series_Coarser, c1, c2, c3, c4]
  refine ac_same kR (by simp) ?_
  rintro r rfl
  cases hr : rightS s with
  | false =>
    have e : coarserS s step way = none := by unfold coarserS; rw [if_neg]; simp [hr]
    rw [e]; simp [coarserA, srA, srC, numEls]
  | true =>
    have hR := right_iff.1 hr
    have hp0 := hR.p0
    have hp1 := hR.p1
    have hs0 := hR.s0
    have hs1 := hR.s1
    obtain ⟨e1, e2, e3, e4⟩ := end_bd hR
    have htm : step.tmod s.step = step % s.step := tmod_pos (by omega)
    have hps : ¬ s.step = 0 := by omega
    have hm0 : 0 ≤ step % s.step := Int.emod_nonneg _ hps
    by_cases hm : step % s.step = 0
    · have e : coarserS s step way = some ⟨s.name, s.start - s.start % step, step, if s.vals = [] then [] else slots s (s.start - s.start % step) step way (countN (s.start - s.start % step) (endS s) step)⟩ := by
        unfold coarserS; rw [if_pos]; exact ⟨by omega, by omega, by omega, by omega, hr, hm⟩
      rw [e]
      have hst0 : ¬ step = 0 := by omega
      have hq0 : 0 ≤ s.start % step := Int.emod_nonneg _ hst0
      have hq1 : s.start % step < step := Int.emod_lt_of_pos _ (by omega)
      have hq2 : s.start % step ≤ s.start := by
        obtain ⟨a, ha⟩ := Int.eq_ofNat_of_zero_le hs0
        obtain ⟨b, hb⟩ := Int.eq_ofNat_of_zero_le (show 0 ≤ step by omega)
        rw [ha, hb, u_mod]
        have := Nat.mod_le a b
        omega
      have htm2 : s.start.tmod step = s.start % step := tmod_pos hs0
      obtain ⟨st, hst⟩ : ∃ st, st = s.start - s.start % step := ⟨_, rfl⟩
      have hw : IntKind.i64.wrap (s.start - s.start % step) = st := by rw [hst]; exact wrap_i64 (by omega) (by omega)
      have kE := send_ok (G := G) s hR
      have kL := laid_ok (G := G) s hR h.vs st (endS s) step way (by omega) (by omega) (by omega) (by omega) (by omega)
      rw [srA_eq s] at kE kL
      rw [← hst]
      have hlen := numEls_len s.vals
      simp [htm, hps, hm, hst0, htm2, hw]
      by_cases hv : s.vals = []
      · simp [hv, numEls, coarserA, srA, srC]
      · have hvl : ¬ (s.vals.length : Int) = 0 := by
          have : s.vals.length ≠ 0 := fun h => hv (List.length_eq_zero_iff.1 h)
          omega
        have hvl' : ¬ s.vals.length = 0 := fun h => hv (List.length_eq_zero_iff.1 h)
        have hne : ¬ numEls s.vals = [] := fun h => by rw [h] at hlen; exact hvl' hlen.symm
        rw [if_neg hv]
        simp [hne]
        refine qc_same kE (by simp) (by simp) ?_
        try simp
        refine qc_any kL (by simp) ?_
        simp [coarserA, srA, srC]
    · have e : coarserS s step way = none := by unfold coarserS; rw [if_neg]; exact fun h => hm h.2.2.2.2.2
      have hm' : 0 < step % s.step := by omega
      rw [e]; simp [htm, hps, hm, hm', coarserA, srA, srC, numEls]
/-- The document's functions. -/
theorem timed_ok (t : Int) : PCalls Tryd.prog n_isobarref13_Timed [.int .i64 t] (fun r => r = .bool (decide (0 ≤ t) && decide (t ≤ 1099511627776))) := by
  refine pcalls_of_awp hmix c_isobarref13_Timed rfl ?_
  by_cases h : 0 ≤ t <;> simp [a_isobarref13_Timed, h]
end Go.Proofs.YtjkajkhomklikaaDoor
