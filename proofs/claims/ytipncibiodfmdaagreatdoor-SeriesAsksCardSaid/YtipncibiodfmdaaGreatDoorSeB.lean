/- Numbers over time: series.Right, place, laid, Coarser. -/
import Derived.Test.YtipncibiodfmdaaGreatDoorSeA
import Derived.Test.YtipncibiodfmdaaGreatDoorSeSpec
set_option linter.unusedSimpArgs false
set_option linter.unusedVariables false
set_option linter.constructorNameAsVariable false
set_option maxHeartbeats 2000000
namespace Go.Ser
open Go.Abs Go.Num
structure Sr where
  name : List UInt8
  start : Int
  step : Int
  vals : List N
def rightS (s : Sr) : Bool := decide (s.name.length ≤ 400) && decide (s.vals.length ≤ 2000) && decide (1 ≤ s.step) && decide (s.step ≤ 86400) && decide (0 ≤ s.start) && decide (s.start ≤ 1099511627776) && s.vals.all rightN
structure SrOk (s : Sr) : Prop where
  nm : s.name.length ≤ 9223372036854775807
  s0 : -9223372036854775808 ≤ s.start
  s1 : s.start ≤ 9223372036854775807
  p0 : -9223372036854775808 ≤ s.step
  p1 : s.step ≤ 9223372036854775807
  vl : s.vals.length ≤ 9223372036854775807
  vs : oksN s.vals
structure SrR (s : Sr) : Prop where
  nm : s.name.length ≤ 400
  vl : s.vals.length ≤ 2000
  p0 : 1 ≤ s.step
  p1 : s.step ≤ 86400
  s0 : 0 ≤ s.start
  s1 : s.start ≤ 1099511627776
  rs : ∀ n ∈ s.vals, rightN n = true
theorem right_iff {s : Sr} : rightS s = true ↔ SrR s := by
  unfold rightS
  simp only [Bool.and_eq_true, decide_eq_true_eq, List.all_eq_true]
  constructor
  · rintro ⟨⟨⟨⟨⟨⟨h1, h2⟩, h3⟩, h4⟩, h5⟩, h6⟩, h7⟩; exact ⟨h1, h2, h3, h4, h5, h6, h7⟩
  · rintro ⟨h1, h2, h3, h4, h5, h6, h7⟩; exact ⟨⟨⟨⟨⟨⟨h1, h2⟩, h3⟩, h4⟩, h5⟩, h6⟩, h7⟩
def endS (s : Sr) : Int := s.start + s.step * s.vals.length
theorem end_bd {s : Sr} (h : SrR s) : s.start ≤ endS s ∧ endS s ≤ s.start + 172800000 ∧ 0 ≤ s.step * s.vals.length ∧ s.step * s.vals.length ≤ 172800000 := by
  have h1 : 0 ≤ s.step * (s.vals.length : Int) := Int.mul_nonneg (by have := h.p0; omega) (Int.natCast_nonneg _)
  have h2 : s.step * (s.vals.length : Int) ≤ 86400 * 2000 := Int.mul_le_mul h.p1 (by have := h.vl; omega) (Int.natCast_nonneg _) (by decide)
  unfold endS
  omega
/-- Of a series the values that stand in a span. -/
def slice (s : Sr) (a b : Int) : List N := (s.vals.take (placeN s.start s.step s.vals.length b)).drop (placeN s.start s.step s.vals.length a)
def countN (a b step : Int) : Nat := ((b - a + step - 1) / step).toNat
def slots (s : Sr) (start step way : Int) (c : Nat) : List N := (List.range c).map fun (i : Nat) => reckon way (slice s (start + i * step) (start + i * step + step))
theorem count_iff {a b step : Int} (hs : 0 < step) (i : Nat) : i < countN a b step ↔ a + i * step < b := by
  unfold countN
  have key : (i : Int) + 1 ≤ (b - a + step - 1) / step ↔ ((i : Int) + 1) * step ≤ b - a + step - 1 := Int.le_ediv_iff_mul_le hs
  have e : ((i : Int) + 1) * step = i * step + step := by rw [Int.add_mul, Int.one_mul]
  rw [e] at key
  constructor
  · intro h
    have := key.1 (by omega)
    omega
  · intro h
    have := key.2 (by omega)
    omega
theorem placeN_mono {st sp : Int} {n : Nat} (hs : 0 < sp) {a b : Int} (h : a ≤ b) : placeN st sp n a ≤ placeN st sp n b := by
  unfold placeN
  split
  · exact Nat.zero_le _
  · rw [if_neg (by omega)]
    have h1 : (a - st + sp - 1) / sp ≤ (b - st + sp - 1) / sp := Int.ediv_le_ediv hs (by omega)
    have h2 : ((a - st + sp - 1) / sp).toNat ≤ ((b - st + sp - 1) / sp).toNat := by omega
    generalize ((a - st + sp - 1) / sp).toNat = x at *
    generalize ((b - st + sp - 1) / sp).toNat = y at *
    omega
theorem slice_ok {s : Sr} (h : oksN s.vals) (a b : Int) : oksN (slice s a b) := fun n hn => h n (List.mem_of_mem_take (List.mem_of_mem_drop hn))
theorem slice_len (s : Sr) (a b : Int) : (slice s a b).length ≤ s.vals.length := by unfold slice; simp; omega
theorem reckon_oks (way : Int) {l : List N} (h : oksN l) : okN (reckon way l) := by
  have hk : oksN (known l) := fun n hn => h n (List.mem_filter.1 hn).1
  unfold reckon
  generalize known l = K at *
  cases K with
  | nil => exact ok_nothing
  | cons k ks =>
    have hk0 := hk k (by simp)
    have hks : oksN ks := fun n hn => hk n (by simp [hn])
    have fo : ∀ {two : N → N → N}, (∀ a b, okN a → okN b → okN (two a b)) → ∀ (l : List N) (k : N), okN k → oksN l → okN (l.foldl two k) := by
      intro two h2 l
      induction l with
      | nil => intro k hk _; exact hk
      | cons n l ih => intro k hk h; rw [List.foldl_cons]; exact ih _ (h2 k n hk (h n (by simp))) fun m hm => h m (by simp [hm])
    simp only
    unfold reckonK
    repeat' split
    · exact ok_div _ _
    · exact fo (fun a b _ _ => ok_add a b) ks k hk0 hks
    · exact fo (fun a b ha hb => ok_less ha hb) ks k hk0 hks
    · exact fo (fun a b ha hb => ok_more ha hb) ks k hk0 hks
    · exact hk _ (List.getLast_mem _)
    · exact ok_nothing
end Go.Ser
namespace Go.Proofs.YtipncibiodfmdaaGreatDoor
open Go.Abs Go.Num Go.Ser
variable {G : Globs}
def srC (s : Sr) : List AV := [.str s.name, .int .i64 s.start, .int .i64 s.step, .lst (numEls s.vals)]
def srA (s : Sr) : AV := .agg (srC s)
theorem srA_eq (s : Sr) : srA s = .agg [.str s.name, .int .i64 s.start, .int .i64 s.step, .lst (numEls s.vals)] := rfl
theorem contains_ok (l : List N) (hl : l.length ≤ 9223372036854775807) (p : N → Bool) (g : Nat) (hb : hasBody Tryz.prog g = true) (hg : ∀ n ∈ l, PCalls Tryz.prog g [numA n] (fun r => r = .bool (p n))) :
    PCalls Tryz.prog n_slices_ContainsFunc_api_Num_api_Num [.lst (numEls l), .fn (.func g) [] []] (fun r => r = .bool (l.any p)) := by
  refine pcalls_of_awp hmix c_slices_ContainsFunc_api_Num_api_Num rfl ?_
  simp [a_slices_ContainsFunc_api_Num_api_Num]
  refine ac_same (indexFunc_ok l (by omega) p g hb hg) (by simp) ?_
  rintro r rfl
  rcases idxP_cases p l with ⟨h1, h2⟩ | ⟨k, n, h1, h2, _, h4⟩
  · have : l.any p = false := List.any_eq_false.2 fun n hn => by simp [h2 n hn]
    simp [h1, this]
  · have : l.any p = true := List.any_eq_true.2 ⟨n, List.mem_of_getElem? h1, h2⟩
    have h0 : (0 : Int) ≤ k := by omega
    simp [h4, this, h0]
theorem right1_ok (n : N) : PCalls Tryz.prog n_series_Right_1 [numA n] (fun r => r = .bool (!rightN n)) := by
  refine pcalls_of_awp hmix c_series_Right_1 rfl ?_
  have k := fRight_ok (G := G) n
  rw [numA_eq] at k ⊢
  simp [a_series_Right_1]
  refine ac_same k (by simp) ?_
  rintro r rfl
  simp
theorem any_right (l : List N) : (!l.any fun n => !rightN n) = l.all rightN := by
  induction l with
  | nil => rfl
  | cons a l ih => simp only [List.any_cons, List.all_cons, Bool.not_or, Bool.not_not, ih]
theorem sRight_ok (s : Sr) (h : SrOk s) : PCalls Tryz.prog n_series_Right [srA s] (fun r => r = .bool (rightS s)) := by
  refine pcalls_of_awp hmix c_series_Right rfl ?_
  rw [srA_eq]
  have hlen := numEls_len s.vals
  have kc := contains_ok (G := G) s.vals h.vl (fun n => !rightN n) n_series_Right_1 b_series_Right_1 (fun n _ => right1_ok n)
  obtain ⟨b, hb⟩ : ∃ b, b = s.vals.any fun n => !rightN n := ⟨_, rfl⟩
  have hall : s.vals.all rightN = !b := by rw [hb, any_right]
  rw [← hb] at kc
  unfold rightS
  rw [hall]
  by_cases h1 : s.name.length ≤ 400
  · have h1' : ¬ (400 : Int) < s.name.length := by omega
    have h1'' : ¬ 400 < s.name.length := by omega
    by_cases h2 : s.vals.length ≤ 2000
    · have h2' : ¬ (2000 : Int) < s.vals.length := by omega
      have h2'' : ¬ 2000 < s.vals.length := by omega
      by_cases h3 : 1 ≤ s.step
      · have h3' : ¬ s.step < 1 := by omega
        by_cases h4 : s.step ≤ 86400
        · have h4' : ¬ 86400 < s.step := by omega
          by_cases h5 : 0 ≤ s.start
          · have h5' : ¬ s.start < 0 := by omega
            by_cases h6 : s.start ≤ 1099511627776
            · have h6' : ¬ 1099511627776 < s.start := by omega
              simp [a_series_Right, h1, h1', h1'', hlen, h2, h2', h2'', h3, h3', h4, h4', h5, h5', h6, h6']
              refine ac_same kc (by simp) ?_
              rintro r rfl
              simp
              exact fun _ => ⟨⟨⟨⟨⟨h1, h2⟩, h3⟩, h4⟩, h5⟩, h6⟩
            · have h6' : 1099511627776 < s.start := by omega
              simp [a_series_Right, h1, h1', h1'', hlen, h2, h2', h2'', h3, h3', h4, h4', h5, h5', h6, h6']
          · have h5' : s.start < 0 := by omega
            simp [a_series_Right, h1, h1', h1'', hlen, h2, h2', h2'', h3, h3', h4, h4', h5, h5']
        · have h4' : 86400 < s.step := by omega
          simp [a_series_Right, h1, h1', h1'', hlen, h2, h2', h2'', h3, h3', h4, h4']
      · have h3' : s.step < 1 := by omega
        simp [a_series_Right, h1, h1', h1'', hlen, h2, h2', h2'', h3, h3']
    · have h2' : (2000 : Int) < s.vals.length := by omega
      have h2'' : 2000 < s.vals.length := by omega
      simp [a_series_Right, h1, h1', h1'', hlen, h2, h2', h2'']
  · have h1' : (400 : Int) < s.name.length := by omega
    have h1'' : 400 < s.name.length := by omega
    simp [a_series_Right, h1, h1', h1'']
theorem send_ok (s : Sr) (h : SrR s) : PCalls Tryz.prog n_series_end [srA s] (fun r => r = .int .i64 (endS s)) := by
  refine pcalls_of_awp hmix c_series_end rfl ?_
  rw [srA_eq]
  obtain ⟨e1, e2, e3, e4⟩ := end_bd h
  have hs0 := h.s0
  have hs1 := h.s1
  have hw1 : IntKind.i64.wrap (s.step * (s.vals.length : Int)) = s.step * s.vals.length := wrap_i64 (by omega) (by omega)
  have hw2 : IntKind.i64.wrap (s.start + s.step * (s.vals.length : Int)) = endS s := by unfold endS; exact wrap_i64 (by omega) (by omega)
  simp [a_series_end, numEls_len, hw1, hw2]
theorem place_ok (s : Sr) (h : SrR s) (t : Int) (h0 : -4000000000000 ≤ t) (h1 : t ≤ 4000000000000) : PCalls Tryz.prog n_series_place [srA s, .int .i64 t] (fun r => r = .int .i64 (placeN s.start s.step s.vals.length t)) := by
  refine pcalls_of_awp hmix c_series_place rfl ?_
  rw [srA_eq]
  have hs0 := h.s0
  have hs1 := h.s1
  have hp0 := h.p0
  have hp1 := h.p1
  simp [a_series_place, numEls_len]
  refine cb_dec (fun hle => ?_) (fun hgt => ?_)
  · have : placeN s.start s.step s.vals.length t = 0 := by unfold placeN; rw [if_pos hle]
    simp [this]
  · have hw1 : IntKind.i64.wrap (t - s.start) = t - s.start := wrap_i64 (by omega) (by omega)
    have hw2 : IntKind.i64.wrap (t - s.start + s.step) = t - s.start + s.step := wrap_i64 (by omega) (by omega)
    have hw3 : IntKind.i64.wrap (t - s.start + s.step - 1) = t - s.start + s.step - 1 := wrap_i64 (by omega) (by omega)
    have hs : ¬ s.step = 0 := by omega
    obtain ⟨q, hq⟩ : ∃ q, q = (t - s.start + s.step - 1) / s.step := ⟨_, rfl⟩
    have hq0 : 0 ≤ q := by rw [hq]; exact Int.ediv_nonneg (by omega) (by omega)
    have hq1 : q ≤ t - s.start + s.step - 1 := by rw [hq]; exact Int.ediv_le_self _ (by omega)
    have htd : (t - s.start + s.step - 1).tdiv s.step = q := by rw [Int.tdiv_eq_ediv_of_nonneg (by omega), hq]
    have hw4 : IntKind.i64.wrap q = q := wrap_i64 (by omega) (by omega)
    have hp : placeN s.start s.step s.vals.length t = min s.vals.length q.toNat := by unfold placeN; rw [if_neg (by omega), hq]
    rw [hp]
    simp [hw1, hw2, hw3, hs, htd, hw4]
    rw [numEls_len]
    split <;> omega
theorem slot_step (s : Sr) (start step way : Int) (c : Nat) : slots s start step way (c + 1) = slots s start step way c ++ [reckon way (slice s (start + c * step) (start + c * step + step))] := by
  unfold slots
  rw [List.range_succ, List.map_append]
  rfl
theorem slots_len (s : Sr) (start step way : Int) (c : Nat) : (slots s start step way c).length = c := by simp [slots]
theorem slots_ok {s : Sr} (h : oksN s.vals) (start step way : Int) (c : Nat) : oksN (slots s start step way c) := fun n hn => by
  simp only [slots, List.mem_map] at hn
  obtain ⟨i, _, rfl⟩ := hn
  exact reckon_oks way (slice_ok h _ _)
theorem mul_step_bd {i c : Nat} {step d : Int} (hs : 0 < step) (h : i * step < d) : 0 ≤ (i : Int) * step := Int.mul_nonneg (Int.natCast_nonneg _) (by omega)
theorem laid_ok (s : Sr) (h : SrR s) (ho : oksN s.vals) (start until' step way : Int) (h0 : 0 ≤ start) (h1 : until' ≤ 2000000000000) (h2 : 1 ≤ step) (h3 : step ≤ 86400) (h4 : until' - start ≤ 1000000000) :
    PCalls Tryz.prog n_series_laid [srA s, .int .i64 start, .int .i64 until', .int .i64 step, .int .i64 way] (fun r => r = srA ⟨s.name, start, step, slots s start step way (countN start until' step)⟩) := by
  refine pcalls_of_awp hmix c_series_laid rfl ?_
  obtain ⟨c, hc⟩ : ∃ c, c = countN start until' step := ⟨_, rfl⟩
  have hcb : c ≤ 1000000000 := by
    rcases Nat.eq_zero_or_pos c with h | h
    · omega
    · have := (count_iff (a := start) (b := until') (step := step) (by omega) (c - 1)).1 (by rw [← hc]; omega)
      have h5 : ((c - 1 : Nat) : Int) * 1 ≤ ((c - 1 : Nat) : Int) * step := Int.mul_le_mul_of_nonneg_left h2 (Int.natCast_nonneg _)
      omega
  rw [← hc]
  have hlen := numEls_len s.vals
  have htwo := numEls_two s.vals
  rw [srA_eq s]
  simp [a_series_laid]
  refine lp_startx (fun x f σ => ∃ (i : Nat), x = c - i ∧ i ≤ c ∧ f 1 = .int .i64 start ∧ f 2 = .int .i64 until' ∧ f 3 = .int .i64 step ∧ f 4 = .int .i64 way ∧ f 5 = .ptr 0 0 ∧ f 10 = .ptr 1 0 ∧ f 11 = .ptr 2 0 ∧ f 12 = .int .i64 (start + i * step) ∧
    σ = [.var 24 [.str s.name, .int .i64 s.start, .int .i64 s.step, .lst (numEls s.vals)], .var 24 [.str [], .int .i64 0, .int .i64 0, .nils],
      .var 24 [.str s.name, .int .i64 start, .int .i64 step, rowV 3 (numEls (slots s start step way i))]] ++ rowE 33 2 (numEls (slots s start step way i)) true) c ?_ ?_
  · exact ⟨0, by simp, by simp, by simp, by simp, by simp, by simp, by simp, by simp, by simp, by simp, by simp [slots, numEls, rowV_nil, rowE_nil, splice]⟩
  rintro x f σ ⟨i, hx, hi, f1, f2, f3, f4, f5, f10, f11, f12, rfl⟩
  simp [f2, f12]
  have hiff := count_iff (a := start) (b := until') (step := step) (by omega) i
  rw [← hc] at hiff
  refine cb_dec (fun hlt => ?_) (fun hge => ?_)
  · have hlt' : i < c := hiff.2 hlt
    have hmul : 0 ≤ (i : Int) * step := Int.mul_nonneg (Int.natCast_nonneg _) (by omega)
    obtain ⟨t, ht⟩ : ∃ t, t = start + i * step := ⟨_, rfl⟩
    rw [← ht] at f12 hlt
    have hwt : IntKind.i64.wrap (t + step) = t + step := wrap_i64 (by omega) (by omega)
    have hnext : t + step = start + ((i + 1 : Nat) : Int) * step := by
      rw [ht]; push_cast; rw [Int.add_mul, Int.one_mul]; omega
    have k1 := place_ok (G := G) s h t (by omega) (by omega)
    have k2 := place_ok (G := G) s h (t + step) (by omega) (by omega)
    have hmono := placeN_mono (st := s.start) (sp := s.step) (n := s.vals.length) (by have := h.p0; omega) (a := t) (b := t + step) (by omega)
    have hple := placeN_le s.start s.step s.vals.length (t + step)
    obtain ⟨pa, hpa⟩ : ∃ p, p = placeN s.start s.step s.vals.length t := ⟨_, rfl⟩
    obtain ⟨pb, hpb⟩ : ∃ p, p = placeN s.start s.step s.vals.length (t + step) := ⟨_, rfl⟩
    have hsl : slice s t (t + step) = (s.vals.take pb).drop pa := by rw [slice, ← hpa, ← hpb]
    rw [← hpa, srA_eq] at k1
    rw [← hpb, srA_eq] at k2
    rw [← hpa, ← hpb] at hmono
    rw [← hpb] at hple
    have hslo := slice_ok (s := s) ho t (t + step)
    have hsll := slice_len s t (t + step)
    have k3 := reckon_ok (G := G) way (slice s t (t + step)) hslo (by have := h.vl; omega)
    have hstp := slot_step s start step way i
    rw [← ht] at hstp
    obtain ⟨z, hz⟩ : ∃ z, z = reckon way (slice s t (t + step)) := ⟨_, rfl⟩
    rw [← hz] at hstp k3
    rw [hsl] at k3
    rw [numA_eq] at k3
    simp [f3, f4, f5, f11, f12, hwt]
    refine qc_same k1 (by simp) (by simp) ?_
    simp [f3, f5, f12, hwt]
    refine qc_same k2 (by simp) (by simp) ?_
    simp [hlen, hple, hmono, numEls_take, numEls_drop]
    rw [if_pos htwo]
    simp
    refine qc_same k3 (by simp) (by simp) ?_
    simp
    refine ap_acc_at (pre := [_, _, _]) rfl (numEls (slots s start step way i)) [[.bool z.1, .int .i64 z.2]] true (by decide) (by simp) (by simp) ?_ ?_ ?_
    · rw [numEls_len, slots_len]; simp; omega
    · rw [numEls_len, slots_len]; simp; omega
    have hst2 : numEls (slots s start step way i) ++ [[AV.bool z.1, AV.int .i64 z.2]] = numEls (slots s start step way (i + 1)) := by rw [hstp, numEls_app]; rfl
    rw [hst2]
    simp [f3, f11, f12, hwt]
    refine nx_intro (c - (i + 1)) (by omega) ⟨i + 1, rfl, by omega, by simp [f1], by simp [f2], by simp [f3], by simp [f4], by simp [f5], by simp [f10], by simp [f11], by simp [hnext], by simp [splice]⟩
  · have hil : i = c := by
      rcases Nat.lt_or_ge i c with h | h
      · exact absurd (hiff.1 h) (by omega)
      · omega
    subst hil
    simp [f10, f11]
    have hfin := fin1_acc_at (pre := [.var 24 [.str s.name, .int .i64 s.start, .int .i64 s.step, .lst (numEls s.vals)], .var 24 [.str s.name, .int .i64 start, .int .i64 step, rowV 3 (numEls (slots s start step way i))], .var 24 [.str s.name, .int .i64 start, .int .i64 step, rowV 3 (numEls (slots s start step way i))]]) (n := 3) rfl (e := 33) (size := 2) (l := numEls (slots s start step way i)) (m := 0)
    simp only [List.cons_append, List.nil_append] at hfin
    simp [hfin, srA, srC]
end Go.Proofs.YtipncibiodfmdaaGreatDoor
