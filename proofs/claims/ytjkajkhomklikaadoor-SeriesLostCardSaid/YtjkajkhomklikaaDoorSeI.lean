/- Numbers over time: what is made coarser loses neither the sum, nor the least, nor the greatest value: the law. -/
import Derived.Test.YtjkajkhomklikaaDoorSeF
import Derived.Test.YtjkajkhomklikaaDoorSeH
set_option linter.unusedSimpArgs false
set_option linter.unusedVariables false
set_option linter.constructorNameAsVariable false
set_option maxHeartbeats 4000000
namespace Go.Ser
open Go.Num
theorem slots_map (s : Sr) (st step w : Int) (c : Nat) : slots s st step w c = ((List.range c).map fun (i : Nat) => slice s (st + i * step) (st + i * step + step)).map (reckon w) := by
  rw [slots, List.map_map]; rfl
theorem lost3 (s : Sr) (h : SrR s) (st step : Int) (h1 : st ≤ s.start) (h2 : 1 ≤ step) : reckon 3 (slots s st step 3 (countN st (endS s) step)) = reckon 3 s.vals := by
  have e : reckon 3 = red lessN := funext reckon3
  rw [slots_map, e, red_flat less_monoid, slices_all s h st step h1 h2]
theorem lost4 (s : Sr) (h : SrR s) (st step : Int) (h1 : st ≤ s.start) (h2 : 1 ≤ step) : reckon 4 (slots s st step 4 (countN st (endS s) step)) = reckon 4 s.vals := by
  have e : reckon 4 = red moreN := funext reckon4
  rw [slots_map, e, red_flat more_monoid, slices_all s h st step h1 h2]
theorem lost2 (s : Sr) (h : SrR s) (st step : Int) (h1 : st ≤ s.start) (h2 : 1 ≤ step) (hb : ∀ n ∈ s.vals, -1125899906842624 ≤ n.2 ∧ n.2 ≤ 1125899906842624) : reckon 2 (slots s st step 2 (countN st (endS s) step)) = reckon 2 s.vals := by
  have hall := slices_all s h st step h1 h2
  rw [slots_map, sum_flat, hall]
  · intro l hl n hn
    refine hb n ?_
    rw [← hall]
    exact List.mem_flatten.2 ⟨l, hl, hn⟩
  · rw [hall]; have := h.vl; omega
end Go.Ser
namespace Go.Proofs.YtjkajkhomklikaaDoor
open Go.Abs Go.Num Go.Ser
variable {G : Globs}
theorem sgreat_ok (s : Sr) : PCalls Tryd.prog n_isobarlaw24_great [srA s] (fun r => r = .bool (decide (2100 < s.vals.length) || decide (2000 < s.name.length))) := by
  refine pcalls_of_awp hmix c_isobarlaw24_great rfl ?_
  rw [srA_eq]
  have hlen := numEls_len s.vals
  by_cases h : 2100 < s.vals.length
  · have h' : (2100 : Int) < s.vals.length := by omega
    simp [a_isobarlaw24_great, hlen, h, h']
  · have h' : ¬ (2100 : Int) < s.vals.length := by omega
    by_cases h2 : 2000 < s.name.length
    · have h2' : (2000 : Int) < s.name.length := by omega
      simp [a_isobarlaw24_great, hlen, h, h', h2, h2']
    · have h2' : ¬ (2000 : Int) < s.name.length := by omega
      simp [a_isobarlaw24_great, hlen, h, h', h2, h2']
/-- Coarser, of a series that is right, by a step that is a multiple of its own. -/
theorem coarser_mul (s : Sr) (hr : rightS s = true) (k w : Int) (hk : 1 ≤ k) (hs : s.step * k ≤ 86400) (hw : 1 ≤ w ∧ w ≤ 5) :
    coarserS s (s.step * k) w = some ⟨s.name, s.start - s.start % (s.step * k), s.step * k, if s.vals = [] then [] else slots s (s.start - s.start % (s.step * k)) (s.step * k) w (countN (s.start - s.start % (s.step * k)) (endS s) (s.step * k))⟩ := by
  have hR := right_iff.1 hr
  have h1 : 1 * 1 ≤ s.step * k := Int.mul_le_mul hR.p0 hk (by omega) (by have := hR.p0; omega)
  unfold coarserS
  rw [if_pos]
  exact ⟨hw.1, hw.2, by omega, hs, hr, Int.mul_emod_right _ _⟩
theorem lost_law [GPow] (s : Sr) (h : SrOk s) (c : UInt8) : PCalls Tryd.prog n_isobarlaw24_SeriesLost [srA s, .int .u8 c.toNat] (fun r => r = .bool true) := by
  refine pcalls_of_awp hmix c_isobarlaw24_SeriesLost rfl ?_
  have kG := sgreat_ok (G := G) s
  have kR := rsRight_ok (G := G) s h
  rw [srA_eq s] at kG kR ⊢
  have hlen := numEls_len s.vals
  simp [a_isobarlaw24_SeriesLost]
  refine ac_same salive_ok (by simp) ?_
  rintro r rfl
  simp
  refine ac_same kG (by simp) ?_
  rintro r rfl
  cases hg : (decide (2100 < s.vals.length) || decide (2000 < s.name.length)) with
  | true => simp
  | false =>
    simp
    refine ac_same kR (by simp) ?_
    rintro r rfl
    cases hr : rightS s with
    | false => simp
    | true =>
      have hR := right_iff.1 hr
      have hp0 := hR.p0
      have hp1 := hR.p1
      have hs0 := hR.s0
      have hvl := hR.vl
      have hcb : c.toNat < 256 := c.toNat_lt
      obtain ⟨m, hm⟩ : ∃ m, m = c.toNat % 20 := ⟨_, rfl⟩
      have hw1 : IntKind.i64.wrap (c.toNat : Int) = c.toNat := wrap_i64 (by omega) (by omega)
      have hw2 : (c.toNat : Int).tmod 20 = m := by rw [Int.tmod_eq_emod_of_nonneg (by omega)]; omega
      obtain ⟨k, hk⟩ : ∃ k : Int, k = 1 + m := ⟨_, rfl⟩
      have hw3 : IntKind.i64.wrap (1 + (m : Int)) = k := by rw [wrap_i64 (by omega) (by omega), hk]
      have hk1 : 1 ≤ k := by omega
      have hk2 : k ≤ 20 := by omega
      have hq1 : s.step * k ≤ 86400 * 20 := Int.mul_le_mul hp1 hk2 (by omega) (by decide)
      have hq0 : 1 * 1 ≤ s.step * k := Int.mul_le_mul hp0 hk1 (by omega) (by omega)
      have hw4 : IntKind.i64.wrap (s.step * k) = s.step * k := wrap_i64 (by omega) (by omega)
      simp [hw1, hw2, hw3, hw4]
      by_cases hst : 86400 < s.step * k
      · simp [hst]
      have hstq : 1 ≤ s.step * k := by omega
      have hq : s.start - s.start % (s.step * k) ≤ s.start := by
        have := Int.emod_nonneg s.start (show s.step * k ≠ 0 by omega)
        omega
      have kc : ∀ w : Int, 1 ≤ w → w ≤ 5 → PCalls Tryd.prog n_series_Coarser [.agg [.str s.name, .int .i64 s.start, .int .i64 s.step, .lst (numEls s.vals)], .int .i64 (s.step * k), .int .i64 w]
          (fun r => r = .tup [.agg [.str s.name, .int .i64 (s.start - s.start % (s.step * k)), .int .i64 (s.step * k), .lst (numEls (if s.vals = [] then [] else slots s (s.start - s.start % (s.step * k)) (s.step * k) w (countN (s.start - s.start % (s.step * k)) (endS s) (s.step * k))))], .int .i64 0]) := fun w h1 h2 => by
        have := coarser_ok (G := G) s h (s.step * k) w (by omega) (by omega)
        rw [coarser_mul s hr k w hk1 (by omega) ⟨h1, h2⟩, srA_eq s] at this
        exact this
      obtain ⟨st, hst2⟩ : ∃ st, st = s.start - s.start % (s.step * k) := ⟨_, rfl⟩
      obtain ⟨sp, hsp⟩ : ∃ sp, sp = s.step * k := ⟨_, rfl⟩
      rw [← hsp] at hst2 hstq hst
      have kc' : ∀ w : Int, 1 ≤ w → w ≤ 5 → PCalls Tryd.prog n_series_Coarser [.agg [.str s.name, .int .i64 s.start, .int .i64 s.step, .lst (numEls s.vals)], .int .i64 sp, .int .i64 w]
          (fun r => r = .tup [.agg [.str s.name, .int .i64 st, .int .i64 sp, .lst (numEls (if s.vals = [] then [] else slots s st sp w (countN st (endS s) sp)))], .int .i64 0]) := fun w h1 h2 => by
        have := kc w h1 h2
        rw [← hsp, ← hst2] at this
        exact this
      have hq' : st ≤ s.start := by rw [hst2, hsp]; exact hq
      obtain ⟨V, hV⟩ : ∃ V : Int → List N, V = fun w => if s.vals = [] then [] else slots s st sp w (countN st (endS s) sp) := ⟨_, rfl⟩
      have e3 : reckon 3 (V 3) = reckon 3 s.vals := by
        rw [hV]; simp only
        by_cases hv : s.vals = []
        · rw [if_pos hv, hv]
        · rw [if_neg hv]; exact lost3 s hR st sp hq' hstq
      have e4 : reckon 4 (V 4) = reckon 4 s.vals := by
        rw [hV]; simp only
        by_cases hv : s.vals = []
        · rw [if_pos hv, hv]
        · rw [if_neg hv]; exact lost4 s hR st sp hq' hstq
      have e2 : (∀ n ∈ s.vals, -1125899906842624 ≤ n.2 ∧ n.2 ≤ 1125899906842624) → reckon 2 (V 2) = reckon 2 s.vals := by
        intro hb
        rw [hV]; simp only
        by_cases hv : s.vals = []
        · rw [if_pos hv, hv]
        · rw [if_neg hv]; exact lost2 s hR st sp hq' hstq hb
      have hVok : ∀ w, oksN (V w) := fun w => by
        rw [hV]; simp only
        split
        · intro n hn; cases hn
        · exact slots_ok h.vs _ _ _ _
      have hVl : ∀ w, (V w).length ≤ 1000000000 := fun w => by
        rw [hV]; simp only
        split
        · simp
        · rw [slots_len]
          obtain ⟨q1, q2, q3, q4⟩ := end_bd hR
          have hstlo : s.start - sp < st := by
            rw [hst2]
            have := Int.emod_lt_of_pos s.start (show 0 < sp by omega)
            omega
          rcases Nat.eq_zero_or_pos (countN st (endS s) sp) with h0 | h0
          · omega
          · have h5 := (count_iff (a := st) (b := endS s) (step := sp) (by omega) (countN st (endS s) sp - 1)).1 (by omega)
            have h6 : ((countN st (endS s) sp - 1 : Nat) : Int) * 1 ≤ ((countN st (endS s) sp - 1 : Nat) : Int) * sp := Int.mul_le_mul_of_nonneg_left hstq (Int.natCast_nonneg _)
            omega
      have kc2 : ∀ w : Int, 1 ≤ w → w ≤ 5 → PCalls Tryd.prog n_series_Coarser [.agg [.str s.name, .int .i64 s.start, .int .i64 s.step, .lst (numEls s.vals)], .int .i64 sp, .int .i64 w] (fun r => r = .tup [.agg [.str s.name, .int .i64 st, .int .i64 sp, .lst (numEls (V w))], .int .i64 0]) := fun w h1 h2 => by
        have := kc' w h1 h2
        rw [hV]; exact this
      clear kc kc' hV
      have hvl2 : s.vals.length ≤ 1000000000 := by omega
      rw [← hsp]
      simp [hst]
      refine ac_same (kc2 2 (by decide) (by decide)) (by simp) ?_
      rintro r rfl
      simp
      refine ac_same (kc2 3 (by decide) (by decide)) (by simp) ?_
      rintro r rfl
      simp
      refine ac_same (kc2 4 (by decide) (by decide)) (by simp) ?_
      rintro r rfl
      have r3a := reckon_ok (G := G) 3 (V 3) (hVok 3) (hVl 3)
      have r3b := reckon_ok (G := G) 3 s.vals h.vs hvl2
      have r4a := reckon_ok (G := G) 4 (V 4) (hVok 4) (hVl 4)
      have r4b := reckon_ok (G := G) 4 s.vals h.vs hvl2
      have r2a := reckon_ok (G := G) 2 (V 2) (hVok 2) (hVl 2)
      have r2b := reckon_ok (G := G) 2 s.vals h.vs hvl2
      rw [e3] at r3a
      rw [e4] at r4a
      rw [numA_eq] at r3a r3b r4a r4b r2a r2b
      simp
      refine qc_same r3a (by simp) (by simp) ?_
      simp
      refine qc_same r3b (by simp) (by simp) ?_
      simp
      refine qc_same r4a (by simp) (by simp) ?_
      simp
      refine qc_same r4b (by simp) (by simp) ?_
      simp
      refine lp_startx (fun x f σ => ∃ (i : Nat), x = s.vals.length - i ∧ i ≤ s.vals.length ∧ f 2 = .ptr 0 0 ∧ f 6 = .ptr 1 0 ∧ f 12 = .int .i64 i ∧ (∀ n ∈ s.vals.take i, -1125899906842624 ≤ n.2 ∧ n.2 ≤ 1125899906842624) ∧
        ∃ tl : Store, σ = .var 24 [.str s.name, .int .i64 s.start, .int .i64 s.step, .lst (numEls s.vals)] :: .var 24 [.str s.name, .int .i64 st, .int .i64 sp, .lst (numEls (V 2))] :: tl) s.vals.length ?_ ?_
      · exact ⟨0, by simp, by simp, by simp, by simp, by simp, by simp, _, rfl⟩
      rintro x f σ ⟨i, hx, hi, f2, f6, f12, hall, tl, rfl⟩
      simp [f2, f12, hlen]
      refine cb_dec (fun hlt => ?_) (fun hge => ?_)
      · have hlt' : i < s.vals.length := by omega
        have hwi : IntKind.i64.wrap ((i : Int) + 1) = ((i + 1 : Nat) : Int) := by rw [wrap_i64 (by omega) (by omega)]; omega
        obtain ⟨n, hn⟩ : ∃ n, s.vals[i]? = some n := ⟨_, List.getElem?_eq_getElem hlt'⟩
        have hse := numEls_get hn
        obtain ⟨hx1, hx2⟩ := List.getElem?_eq_some_iff.1 hse
        simp [f2, f12, hse, hx1, hx2]
        by_cases hb1 : 1125899906842624 < n.2
        · simp [hb1]
        · by_cases hb2 : n.2 < -1125899906842624
          · simp [hb1, hb2, f2, f12, hse, hx1, hx2]
          · simp [hb1, hb2, f2, f12, hse, hx1, hx2, hwi]
            refine nx_intro (s.vals.length - (i + 1)) (by omega) ⟨i + 1, rfl, by omega, by simp [f2], by simp [f6], by simp, fun m hm => ?_, tl, by simp⟩
            rw [List.take_add_one, hn] at hm
            simp only [Option.toList_some, List.mem_append, List.mem_singleton] at hm
            rcases hm with hm | rfl
            · exact hall m hm
            · omega
      · have hil : i = s.vals.length := by omega
        rw [hil, List.take_length] at hall
        rw [e2 hall] at r2a
        simp [f2, f6]
        refine qc_same r2a (by simp) (by simp) ?_
        simp [f2, f6]
        refine qc_same r2b (by simp) (by simp) ?_
        simp
end Go.Proofs.YtjkajkhomklikaaDoor
