/- Numbers over time: the document's Coarser, and the law. -/
import Derived.Test.YtipncibiodfmdaaGreatDoorSeF
set_option linter.unusedSimpArgs false
set_option linter.unusedVariables false
set_option linter.constructorNameAsVariable false
set_option maxHeartbeats 4000000
namespace Go.Proofs.YtipncibiodfmdaaGreatDoor
open Go.Abs Go.Num Go.Ser
variable {G : Globs}
theorem rsCoarser_ok (s : Sr) (h : SrOk s) (step way : Int) (h0 : -9223372036854775808 ≤ step) (h1 : step ≤ 9223372036854775807) : PCalls Tryz.prog n_isobarref24_Coarser [srA s, .int .i64 step, .int .i64 way] (fun r => r = coarserA (coarserS s step way)) := by
  refine pcalls_of_awp hmix c_isobarref24_Coarser rfl ?_
  have kR := rsRight_ok (G := G) s h
  have kE := rsEnd_ok (G := G) s h
  rw [srA_eq s] at kR kE ⊢
  simp [a_isobarref24_Coarser]
  refine ac_same kR (by simp) ?_
  rintro r rfl
  cases hr : rightS s with
  | false =>
    have e : coarserS s step way = none := by unfold coarserS; rw [if_neg]; simp [hr]
    rw [e]; simp [coarserA, srA, srC, numEls]
  | true =>
    have hR := right_iff.1 hr
    have hp0 := hR.p0
    have hp1 := hR.p1
    have hs0 := hR.s0
    have hs1 := hR.s1
    obtain ⟨e1, e2, e3, e4⟩ := end_bd hR
    have hps : ¬ s.step = 0 := by omega
    rw [if_pos hr] at kE
    by_cases c3 : step < 1
    · have e : coarserS s step way = none := by unfold coarserS; rw [if_neg]; omega
      rw [e]; simp [c3, coarserA, srA, srC, numEls]
    by_cases c4 : 86400 < step
    · have e : coarserS s step way = none := by unfold coarserS; rw [if_neg]; omega
      rw [e]; simp [c3, c4, coarserA, srA, srC, numEls]
    have htm : step.tmod s.step = step % s.step := tmod_pos (by omega)
    by_cases hm : step % s.step = 0
    · by_cases c1 : way < 1
      · have e : coarserS s step way = none := by unfold coarserS; rw [if_neg]; omega
        rw [e]; simp [c1, c3, c4, htm, hps, hm, coarserA, srA, srC, numEls]
      by_cases c2 : 5 < way
      · have e : coarserS s step way = none := by unfold coarserS; rw [if_neg]; omega
        rw [e]; simp [c1, c2, c3, c4, htm, hps, hm, coarserA, srA, srC, numEls]
      have e : coarserS s step way = some ⟨s.name, s.start - s.start % step, step, if s.vals = [] then [] else slots s (s.start - s.start % step) step way (countN (s.start - s.start % step) (endS s) step)⟩ := by
        unfold coarserS; rw [if_pos]; exact ⟨by omega, by omega, by omega, by omega, hr, hm⟩
      rw [e]
      have hst0 : ¬ step = 0 := by omega
      have hq0 : 0 ≤ s.start % step := Int.emod_nonneg _ hst0
      have hq1 : s.start % step < step := Int.emod_lt_of_pos _ (by omega)
      have hq2 : s.start % step ≤ s.start := by
        obtain ⟨a, ha⟩ := Int.eq_ofNat_of_zero_le hs0
        obtain ⟨b, hb⟩ := Int.eq_ofNat_of_zero_le (show 0 ≤ step by omega)
        rw [ha, hb, u_mod]
        have := Nat.mod_le a b
        omega
      have htm2 : s.start.tmod step = s.start % step := tmod_pos hs0
      obtain ⟨st, hst⟩ : ∃ st, st = s.start - s.start % step := ⟨_, rfl⟩
      have hw : IntKind.i64.wrap (s.start - s.start % step) = st := by rw [hst]; exact wrap_i64 (by omega) (by omega)
      have hlen := numEls_len s.vals
      rw [← hst]
      obtain ⟨c, hc⟩ : ∃ c, c = if s.vals = [] then 0 else countN st (endS s) step := ⟨_, rfl⟩
      have hcb : c ≤ 1000000000 := by
        rw [hc]
        split
        · omega
        · rcases Nat.eq_zero_or_pos (countN st (endS s) step) with h0 | h0
          · omega
          · have h5 := (count_iff (a := st) (b := endS s) (step := step) (by omega) (countN st (endS s) step - 1)).1 (by omega)
            have h6 : ((countN st (endS s) step - 1 : Nat) : Int) * 1 ≤ ((countN st (endS s) step - 1 : Nat) : Int) * step := Int.mul_le_mul_of_nonneg_left (by omega) (Int.natCast_nonneg _)
            omega
      have hvc : (if s.vals = [] then [] else slots s st step way (countN st (endS s) step)) = slots s st step way c := by
        rw [hc]
        split
        · rfl
        · rfl
      rw [hvc]
      simp [c1, c2, c3, c4, htm, hps, hm, hst0, htm2, hw]
      refine lp_startx (fun x f σ => ∃ (i : Nat), x = c - i ∧ i ≤ c ∧ f 1 = .int .i64 step ∧ f 2 = .int .i64 way ∧ f 3 = .ptr 0 0 ∧ f 6 = .ptr 1 0 ∧ f 8 = .ptr 2 0 ∧ f 9 = .int .i64 (st + i * step) ∧
        σ = [.var 24 [.str s.name, .int .i64 s.start, .int .i64 s.step, .lst (numEls s.vals)], .var 24 [.str [], .int .i64 0, .int .i64 0, .nils],
          .var 24 [.str s.name, .int .i64 st, .int .i64 step, rowV 3 (numEls (slots s st step way i))]] ++ rowE 33 2 (numEls (slots s st step way i)) true) c ?_ ?_
      · exact ⟨0, by simp, by simp, by simp, by simp, by simp, by simp, by simp, by simp, by simp [slots, numEls, rowV_nil, rowE_nil, splice]⟩
      rintro x f σ ⟨i, hx, hi, f1, f2, f3, f6, f8, f9, rfl⟩
      have hmul : 0 ≤ (i : Int) * step := Int.mul_nonneg (Int.natCast_nonneg _) (by omega)
      have fin : i = c → PPost (fun r => r = coarserA (some ⟨s.name, st, step, slots s st step way c⟩)) (.mk _) [(6, some (true, 4)), (7, none)] .ret f ([.var 24 [.str s.name, .int .i64 s.start, .int .i64 s.step, .lst (numEls s.vals)], .var 24 [.str [], .int .i64 0, .int .i64 0, .nils],
          .var 24 [.str s.name, .int .i64 st, .int .i64 step, rowV 3 (numEls (slots s st step way i))]] ++ rowE 33 2 (numEls (slots s st step way i)) true) → True := fun _ _ => trivial
      have hfin := fin1_acc_at (pre := [.var 24 [.str s.name, .int .i64 s.start, .int .i64 s.step, .lst (numEls s.vals)], .var 24 [.str s.name, .int .i64 st, .int .i64 step, rowV 3 (numEls (slots s st step way c))], .var 24 [.str s.name, .int .i64 st, .int .i64 step, rowV 3 (numEls (slots s st step way c))]]) (n := 3) rfl (e := 33) (size := 2) (l := numEls (slots s st step way c)) (m := 0)
      simp only [List.cons_append, List.nil_append] at hfin
      simp [f3, f9]
      refine ac_same kE (by simp) ?_
      rintro r rfl
      by_cases hte : st + (i : Int) * step < endS s
      · by_cases hv : s.vals = []
        · have hl0 : (numEls s.vals).length = 0 := by rw [hlen, hv]; rfl
          have hic : i = c := by rw [if_pos hv] at hc; omega
          subst hic
          simp [hte, f3, hl0, f6, f8, hfin, coarserA, srA, srC]
        · rw [if_neg hv] at hc
          have hiff := count_iff (a := st) (b := endS s) (step := step) (by omega) i
          rw [← hc] at hiff
          have hlt' : i < c := hiff.2 hte
          have hvl : 0 < s.vals.length := by
            rcases Nat.eq_zero_or_pos s.vals.length with h | h
            · exact absurd (List.length_eq_zero_iff.1 h) hv
            · exact h
          have hvl' : 0 < (numEls s.vals).length := by omega
          have hvl'' : (0 : Int) < (s.vals.length : Int) := by omega
          obtain ⟨t, ht⟩ : ∃ t, t = st + i * step := ⟨_, rfl⟩
          rw [← ht] at f9 hte
          have hwt : IntKind.i64.wrap (t + step) = t + step := wrap_i64 (by omega) (by omega)
          have hnext : t + step = st + ((i + 1 : Nat) : Int) * step := by
            rw [ht]; push_cast; rw [Int.add_mul, Int.one_mul]; omega
          have kB := between_ok (G := G) s hR t (t + step)
          rw [srA_eq s] at kB
          have hslo := slice_ok (s := s) h.vs t (t + step)
          have hsll := slice_len s t (t + step)
          have kK := rReckon_ok (G := G) way (slice s t (t + step)) hslo (by have := hR.vl; omega)
          rw [numA_eq] at kK
          have hstp := slot_step s st step way i
          rw [← ht] at hstp ⊢
          obtain ⟨z, hz⟩ : ∃ z, z = reckon way (slice s t (t + step)) := ⟨_, rfl⟩
          rw [← hz] at hstp kK
          have hne : ¬ numEls s.vals = [] := fun h => by rw [h] at hvl'; simp at hvl'
          simp [hte, f1, f2, f3, f8, f9, hlen, hvl, hvl', hvl'', hwt, hne]
          refine qc_any kB (by simp) ?_
          simp [f2]
          refine qc_same kK (by simp) (by simp) ?_
          simp
          refine ap_acc_at (pre := [_, _, _]) (n := 3) (size := 2) (bytes := 16) rfl (numEls (slots s st step way i)) [[.bool z.1, .int .i64 z.2]] true (by decide) (by simp) (by simp) ?_ ?_ ?_
          · rw [numEls_len, slots_len]; simp; omega
          · rw [numEls_len, slots_len]; simp; omega
          have hst3 : numEls (slots s st step way i) ++ [[AV.bool z.1, AV.int .i64 z.2]] = numEls (slots s st step way (i + 1)) := by rw [hstp, numEls_app]; rfl
          rw [hst3]
          simp [f1, f8, f9, hwt]
          refine nx_intro (c - (i + 1)) (by omega) ⟨i + 1, rfl, by omega, by simp [f1], by simp [f2], by simp [f3], by simp [f6], by simp [f8], by simp [hnext], by simp [splice]⟩
      · have hic : i = c := by
          by_cases hv : s.vals = []
          · rw [if_pos hv] at hc; omega
          · rw [if_neg hv] at hc
            have hiff := count_iff (a := st) (b := endS s) (step := step) (by omega) i
            rw [← hc] at hiff
            rcases Nat.lt_or_ge i c with h | h
            · exact absurd (hiff.1 h) hte
            · omega
        subst hic
        simp [hte, f6, f8, hfin, coarserA, srA, srC]
    · have e : coarserS s step way = none := by unfold coarserS; rw [if_neg]; exact fun h => hm h.2.2.2.2.2
      rw [e]; simp [c3, c4, htm, hps, hm, coarserA, srA, srC, numEls]
end Go.Proofs.YtipncibiodfmdaaGreatDoor
