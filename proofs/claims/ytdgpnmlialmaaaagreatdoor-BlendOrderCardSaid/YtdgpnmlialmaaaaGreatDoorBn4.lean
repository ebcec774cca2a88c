/- Numbers over time: series.Right, place, laid, Coarser. Numbers over time: Coarser, and the document's functions. Numbers over time: the document's Rec -/
import Derived.Test.YtdgpnmlialmaaaaGreatDoorAbs2
import Derived.Lib.Split
import Derived.Test.YtdgpnmlialmaaaaGreatDoorBn1
import Derived.Test.YtdgpnmlialmaaaaGreatDoorBn2
import Derived.Test.YtdgpnmlialmaaaaGreatDoorBn3
set_option linter.unusedSimpArgs false
set_option linter.unusedVariables false
set_option linter.constructorNameAsVariable false
section
set_option maxHeartbeats 2000000
namespace Go.Ser
open Go.Abs Go.Num
structure Sr where
  name : List UInt8
  start : Int
  step : Int
  vals : List N
def rightS (s : Sr) : Bool := decide (s.name.length ≤ 400) && decide (s.vals.length ≤ 2000) && decide (1 ≤ s.step) && decide (s.step ≤ 86400) && decide (0 ≤ s.start) && decide (s.start ≤ 1099511627776) && s.vals.all rightN
structure SrOk (s : Sr) : Prop where
  nm : s.name.length ≤ 9223372036854775807
  s0 : -9223372036854775808 ≤ s.start
  s1 : s.start ≤ 9223372036854775807
  p0 : -9223372036854775808 ≤ s.step
  p1 : s.step ≤ 9223372036854775807
  vl : s.vals.length ≤ 9223372036854775807
  vs : oksN s.vals
structure SrR (s : Sr) : Prop where
  nm : s.name.length ≤ 400
  vl : s.vals.length ≤ 2000
  p0 : 1 ≤ s.step
  p1 : s.step ≤ 86400
  s0 : 0 ≤ s.start
  s1 : s.start ≤ 1099511627776
  rs : ∀ n ∈ s.vals, rightN n = true
theorem right_iff {s : Sr} : rightS s = true ↔ SrR s := by
  unfold rightS
  simp only [Bool.and_eq_true, decide_eq_true_eq, List.all_eq_true]
  constructor
  · rintro ⟨⟨⟨⟨⟨⟨h1, h2⟩, h3⟩, h4⟩, h5⟩, h6⟩, h7⟩; exact ⟨h1, h2, h3, h4, h5, h6, h7⟩
  · rintro ⟨h1, h2, h3, h4, h5, h6, h7⟩; exact ⟨⟨⟨⟨⟨⟨h1, h2⟩, h3⟩, h4⟩, h5⟩, h6⟩, h7⟩
def endS (s : Sr) : Int := s.start + s.step * s.vals.length
theorem end_bd {s : Sr} (h : SrR s) : s.start ≤ endS s ∧ endS s ≤ s.start + 172800000 ∧ 0 ≤ s.step * s.vals.length ∧ s.step * s.vals.length ≤ 172800000 := by
  have h1 : 0 ≤ s.step * (s.vals.length : Int) := Int.mul_nonneg (by have := h.p0; omega) (Int.natCast_nonneg _)
  have h2 : s.step * (s.vals.length : Int) ≤ 86400 * 2000 := Int.mul_le_mul h.p1 (by have := h.vl; omega) (Int.natCast_nonneg _) (by decide)
  unfold endS
  omega
/-- Of a series the values that stand in a span. -/
def slice (s : Sr) (a b : Int) : List N := (s.vals.take (placeN s.start s.step s.vals.length b)).drop (placeN s.start s.step s.vals.length a)
def countN (a b step : Int) : Nat := ((b - a + step - 1) / step).toNat
def slots (s : Sr) (start step way : Int) (c : Nat) : List N := (List.range c).map fun (i : Nat) => reckon way (slice s (start + i * step) (start + i * step + step))
theorem count_iff {a b step : Int} (hs : 0 < step) (i : Nat) : i < countN a b step ↔ a + i * step < b := by
  unfold countN
  have key : (i : Int) + 1 ≤ (b - a + step - 1) / step ↔ ((i : Int) + 1) * step ≤ b - a + step - 1 := Int.le_ediv_iff_mul_le hs
  have e : ((i : Int) + 1) * step = i * step + step := by rw [Int.add_mul, Int.one_mul]
  rw [e] at key
  constructor
  · intro h
    have := key.1 (by omega)
    omega
  · intro h
    have := key.2 (by omega)
    omega
theorem placeN_mono {st sp : Int} {n : Nat} (hs : 0 < sp) {a b : Int} (h : a ≤ b) : placeN st sp n a ≤ placeN st sp n b := by
  unfold placeN
  split
  · exact Nat.zero_le _
  · rw [if_neg (by omega)]
    have h1 : (a - st + sp - 1) / sp ≤ (b - st + sp - 1) / sp := Int.ediv_le_ediv hs (by omega)
    have h2 : ((a - st + sp - 1) / sp).toNat ≤ ((b - st + sp - 1) / sp).toNat := by omega
    generalize ((a - st + sp - 1) / sp).toNat = x at *
    generalize ((b - st + sp - 1) / sp).toNat = y at *
    omega
theorem slice_ok {s : Sr} (h : oksN s.vals) (a b : Int) : oksN (slice s a b) := fun n hn => h n (List.mem_of_mem_take (List.mem_of_mem_drop hn))
theorem slice_len (s : Sr) (a b : Int) : (slice s a b).length ≤ s.vals.length := by unfold slice; simp; omega
theorem reckon_oks (way : Int) {l : List N} (h : oksN l) : okN (reckon way l) := by
  have hk : oksN (known l) := fun n hn => h n (List.mem_filter.1 hn).1
  unfold reckon
  generalize known l = K at *
  cases K with
  | nil => exact ok_nothing
  | cons k ks =>
    have hk0 := hk k (by simp)
    have hks : oksN ks := fun n hn => hk n (by simp [hn])
    have fo : ∀ {two : N → N → N}, (∀ a b, okN a → okN b → okN (two a b)) → ∀ (l : List N) (k : N), okN k → oksN l → okN (l.foldl two k) := by
      intro two h2 l
      induction l with
      | nil => intro k hk _; exact hk
      | cons n l ih => intro k hk h; rw [List.foldl_cons]; exact ih _ (h2 k n hk (h n (by simp))) fun m hm => h m (by simp [hm])
    simp only
    unfold reckonK
    repeat' split
    · exact ok_div _ _
    · exact fo (fun a b _ _ => ok_add a b) ks k hk0 hks
    · exact fo (fun a b ha hb => ok_less ha hb) ks k hk0 hks
    · exact fo (fun a b ha hb => ok_more ha hb) ks k hk0 hks
    · exact hk _ (List.getLast_mem _)
    · exact ok_nothing
end Go.Ser
namespace Go.Proofs.YtdgpnmlialmaaaaGreatDoor
open Go.Abs Go.Num Go.Ser
variable {G : Globs}
def srC (s : Sr) : List AV := [.str s.name, .int .i64 s.start, .int .i64 s.step, .lst (numEls s.vals)]
def srA (s : Sr) : AV := .agg (srC s)
theorem srA_eq (s : Sr) : srA s = .agg [.str s.name, .int .i64 s.start, .int .i64 s.step, .lst (numEls s.vals)] := rfl
theorem contains_ok (l : List N) (hl : l.length ≤ 9223372036854775807) (p : N → Bool) (g : Nat) (hb : hasBody Tryz.prog g = true) (hg : ∀ n ∈ l, PCalls Tryz.prog g [numA n] (fun r => r = .bool (p n))) :
    PCalls Tryz.prog n_slices_ContainsFunc_api_Num_api_Num [.lst (numEls l), .fn (.func g) [] []] (fun r => r = .bool (l.any p)) := by
  refine pcalls_of_awp hmix c_slices_ContainsFunc_api_Num_api_Num rfl ?_
  simp [a_slices_ContainsFunc_api_Num_api_Num]
  refine ac_same (indexFunc_ok l (by omega) p g hb hg) (by simp) ?_
  rintro r rfl
  rcases idxP_cases p l with ⟨h1, h2⟩ | ⟨k, n, h1, h2, _, h4⟩
  · have : l.any p = false := List.any_eq_false.2 fun n hn => by simp [h2 n hn]
    simp [h1, this]
  · have : l.any p = true := List.any_eq_true.2 ⟨n, List.mem_of_getElem? h1, h2⟩
    have h0 : (0 : Int) ≤ k := by omega
    simp [h4, this, h0]
theorem right1_ok (n : N) : PCalls Tryz.prog n_series_Right_1 [numA n] (fun r => r = .bool (!rightN n)) := by
  refine pcalls_of_awp hmix c_series_Right_1 rfl ?_
  have k := fRight_ok (G := G) n
  rw [numA_eq] at k ⊢
  simp [a_series_Right_1]
  refine ac_same k (by simp) ?_
  rintro r rfl
  simp
theorem any_right (l : List N) : (!l.any fun n => !rightN n) = l.all rightN := by
  induction l with
  | nil => rfl
  | cons a l ih => simp only [List.any_cons, List.all_cons, Bool.not_or, Bool.not_not, ih]
theorem sRight_ok (s : Sr) (h : SrOk s) : PCalls Tryz.prog n_series_Right [srA s] (fun r => r = .bool (rightS s)) := by
  refine pcalls_of_awp hmix c_series_Right rfl ?_
  rw [srA_eq]
  have hlen := numEls_len s.vals
  have kc := contains_ok (G := G) s.vals h.vl (fun n => !rightN n) n_series_Right_1 b_series_Right_1 (fun n _ => right1_ok n)
  obtain ⟨b, hb⟩ : ∃ b, b = s.vals.any fun n => !rightN n := ⟨_, rfl⟩
  have hall : s.vals.all rightN = !b := by rw [hb, any_right]
  rw [← hb] at kc
  unfold rightS
  rw [hall]
  by_cases h1 : s.name.length ≤ 400
  · have h1' : ¬ (400 : Int) < s.name.length := by omega
    have h1'' : ¬ 400 < s.name.length := by omega
    by_cases h2 : s.vals.length ≤ 2000
    · have h2' : ¬ (2000 : Int) < s.vals.length := by omega
      have h2'' : ¬ 2000 < s.vals.length := by omega
      by_cases h3 : 1 ≤ s.step
      · have h3' : ¬ s.step < 1 := by omega
        by_cases h4 : s.step ≤ 86400
        · have h4' : ¬ 86400 < s.step := by omega
          by_cases h5 : 0 ≤ s.start
          · have h5' : ¬ s.start < 0 := by omega
            by_cases h6 : s.start ≤ 1099511627776
            · have h6' : ¬ 1099511627776 < s.start := by omega
              simp [a_series_Right, h1, h1', h1'', hlen, h2, h2', h2'', h3, h3', h4, h4', h5, h5', h6, h6']
              refine ac_same kc (by simp) ?_
              rintro r rfl
              simp
              exact fun _ => ⟨⟨⟨⟨⟨h1, h2⟩, h3⟩, h4⟩, h5⟩, h6⟩
            · have h6' : 1099511627776 < s.start := by omega
              simp [a_series_Right, h1, h1', h1'', hlen, h2, h2', h2'', h3, h3', h4, h4', h5, h5', h6, h6']
          · have h5' : s.start < 0 := by omega
            simp [a_series_Right, h1, h1', h1'', hlen, h2, h2', h2'', h3, h3', h4, h4', h5, h5']
        · have h4' : 86400 < s.step := by omega
          simp [a_series_Right, h1, h1', h1'', hlen, h2, h2', h2'', h3, h3', h4, h4']
      · have h3' : s.step < 1 := by omega
        simp [a_series_Right, h1, h1', h1'', hlen, h2, h2', h2'', h3, h3']
    · have h2' : (2000 : Int) < s.vals.length := by omega
      have h2'' : 2000 < s.vals.length := by omega
      simp [a_series_Right, h1, h1', h1'', hlen, h2, h2', h2'']
  · have h1' : (400 : Int) < s.name.length := by omega
    have h1'' : 400 < s.name.length := by omega
    simp [a_series_Right, h1, h1', h1'']
theorem send_ok (s : Sr) (h : SrR s) : PCalls Tryz.prog n_series_end [srA s] (fun r => r = .int .i64 (endS s)) := by
  refine pcalls_of_awp hmix c_series_end rfl ?_
  rw [srA_eq]
  obtain ⟨e1, e2, e3, e4⟩ := end_bd h
  have hs0 := h.s0
  have hs1 := h.s1
  have hw1 : IntKind.i64.wrap (s.step * (s.vals.length : Int)) = s.step * s.vals.length := wrap_i64 (by omega) (by omega)
  have hw2 : IntKind.i64.wrap (s.start + s.step * (s.vals.length : Int)) = endS s := by unfold endS; exact wrap_i64 (by omega) (by omega)
  simp [a_series_end, numEls_len, hw1, hw2]
theorem place_ok (s : Sr) (h : SrR s) (t : Int) (h0 : -4000000000000 ≤ t) (h1 : t ≤ 4000000000000) : PCalls Tryz.prog n_series_place [srA s, .int .i64 t] (fun r => r = .int .i64 (placeN s.start s.step s.vals.length t)) := by
  refine pcalls_of_awp hmix c_series_place rfl ?_
  rw [srA_eq]
  have hs0 := h.s0
  have hs1 := h.s1
  have hp0 := h.p0
  have hp1 := h.p1
  simp [a_series_place, numEls_len]
  refine cb_dec (fun hle => ?_) (fun hgt => ?_)
  · have : placeN s.start s.step s.vals.length t = 0 := by unfold placeN; rw [if_pos hle]
    simp [this]
  · have hw1 : IntKind.i64.wrap (t - s.start) = t - s.start := wrap_i64 (by omega) (by omega)
    have hw2 : IntKind.i64.wrap (t - s.start + s.step) = t - s.start + s.step := wrap_i64 (by omega) (by omega)
    have hw3 : IntKind.i64.wrap (t - s.start + s.step - 1) = t - s.start + s.step - 1 := wrap_i64 (by omega) (by omega)
    have hs : ¬ s.step = 0 := by omega
    obtain ⟨q, hq⟩ : ∃ q, q = (t - s.start + s.step - 1) / s.step := ⟨_, rfl⟩
    have hq0 : 0 ≤ q := by rw [hq]; exact Int.ediv_nonneg (by omega) (by omega)
    have hq1 : q ≤ t - s.start + s.step - 1 := by rw [hq]; exact Int.ediv_le_self _ (by omega)
    have htd : (t - s.start + s.step - 1).tdiv s.step = q := by rw [Int.tdiv_eq_ediv_of_nonneg (by omega), hq]
    have hw4 : IntKind.i64.wrap q = q := wrap_i64 (by omega) (by omega)
    have hp : placeN s.start s.step s.vals.length t = min s.vals.length q.toNat := by unfold placeN; rw [if_neg (by omega), hq]
    rw [hp]
    simp [hw1, hw2, hw3, hs, htd, hw4]
    rw [numEls_len]
    split <;> omega
theorem slot_step (s : Sr) (start step way : Int) (c : Nat) : slots s start step way (c + 1) = slots s start step way c ++ [reckon way (slice s (start + c * step) (start + c * step + step))] := by
  unfold slots
  rw [List.range_succ, List.map_append]
  rfl
theorem slots_len (s : Sr) (start step way : Int) (c : Nat) : (slots s start step way c).length = c := by simp [slots]
theorem laid_ok (s : Sr) (h : SrR s) (ho : oksN s.vals) (start until' step way : Int) (h0 : 0 ≤ start) (h1 : until' ≤ 2000000000000) (h2 : 1 ≤ step) (h3 : step ≤ 86400) (h4 : until' - start ≤ 1000000000) :
    PCalls Tryz.prog n_series_laid [srA s, .int .i64 start, .int .i64 until', .int .i64 step, .int .i64 way] (fun r => r = srA ⟨s.name, start, step, slots s start step way (countN start until' step)⟩) := by
  refine pcalls_of_awp hmix c_series_laid rfl ?_
  obtain ⟨c, hc⟩ : ∃ c, c = countN start until' step := ⟨_, rfl⟩
  have hcb : c ≤ 1000000000 := by
    rcases Nat.eq_zero_or_pos c with h | h
    · omega
    · have := (count_iff (a := start) (b := until') (step := step) (by omega) (c - 1)).1 (by rw [← hc]; omega)
      have h5 : ((c - 1 : Nat) : Int) * 1 ≤ ((c - 1 : Nat) : Int) * step := Int.mul_le_mul_of_nonneg_left h2 (Int.natCast_nonneg _)
      omega
  rw [← hc]
  have hlen := numEls_len s.vals
  have htwo := numEls_two s.vals
  rw [srA_eq s]
  simp [a_series_laid]
  refine lp_startx (fun x f σ => ∃ (i : Nat), x = c - i ∧ i ≤ c ∧ f 1 = .int .i64 start ∧ f 2 = .int .i64 until' ∧ f 3 = .int .i64 step ∧ f 4 = .int .i64 way ∧ f 5 = .ptr 0 0 ∧ f 10 = .ptr 1 0 ∧ f 11 = .ptr 2 0 ∧ f 12 = .int .i64 (start + i * step) ∧
    σ = [.var 41 [.str s.name, .int .i64 s.start, .int .i64 s.step, .lst (numEls s.vals)], .var 41 [.str [], .int .i64 0, .int .i64 0, .nils],
      .var 41 [.str s.name, .int .i64 start, .int .i64 step, rowV 3 (numEls (slots s start step way i))]] ++ rowE 35 2 (numEls (slots s start step way i)) true) c ?_ ?_
  · exact ⟨0, by simp, by simp, by simp, by simp, by simp, by simp, by simp, by simp, by simp, by simp, by simp [slots, numEls, rowV_nil, rowE_nil, splice]⟩
  rintro x f σ ⟨i, hx, hi, f1, f2, f3, f4, f5, f10, f11, f12, rfl⟩
  simp [f2, f12]
  have hiff := count_iff (a := start) (b := until') (step := step) (by omega) i
  rw [← hc] at hiff
  refine cb_dec (fun hlt => ?_) (fun hge => ?_)
  · have hlt' : i < c := hiff.2 hlt
    have hmul : 0 ≤ (i : Int) * step := Int.mul_nonneg (Int.natCast_nonneg _) (by omega)
    obtain ⟨t, ht⟩ : ∃ t, t = start + i * step := ⟨_, rfl⟩
    rw [← ht] at f12 hlt
    have hwt : IntKind.i64.wrap (t + step) = t + step := wrap_i64 (by omega) (by omega)
    have hnext : t + step = start + ((i + 1 : Nat) : Int) * step := by
      rw [ht]; push_cast; rw [Int.add_mul, Int.one_mul]; omega
    have k1 := place_ok (G := G) s h t (by omega) (by omega)
    have k2 := place_ok (G := G) s h (t + step) (by omega) (by omega)
    have hmono := placeN_mono (st := s.start) (sp := s.step) (n := s.vals.length) (by have := h.p0; omega) (a := t) (b := t + step) (by omega)
    have hple := placeN_le s.start s.step s.vals.length (t + step)
    obtain ⟨pa, hpa⟩ : ∃ p, p = placeN s.start s.step s.vals.length t := ⟨_, rfl⟩
    obtain ⟨pb, hpb⟩ : ∃ p, p = placeN s.start s.step s.vals.length (t + step) := ⟨_, rfl⟩
    have hsl : slice s t (t + step) = (s.vals.take pb).drop pa := by rw [slice, ← hpa, ← hpb]
    rw [← hpa, srA_eq] at k1
    rw [← hpb, srA_eq] at k2
    rw [← hpa, ← hpb] at hmono
    rw [← hpb] at hple
    have hslo := slice_ok (s := s) ho t (t + step)
    have hsll := slice_len s t (t + step)
    have k3 := reckon_ok (G := G) way (slice s t (t + step)) hslo (by have := h.vl; omega)
    have hstp := slot_step s start step way i
    rw [← ht] at hstp
    obtain ⟨z, hz⟩ : ∃ z, z = reckon way (slice s t (t + step)) := ⟨_, rfl⟩
    rw [← hz] at hstp k3
    rw [hsl] at k3
    rw [numA_eq] at k3
    simp [f3, f4, f5, f11, f12, hwt]
    refine qc_same k1 (by simp) (by simp) ?_
    simp [f3, f5, f12, hwt]
    refine qc_same k2 (by simp) (by simp) ?_
    simp [hlen, hple, hmono, numEls_take, numEls_drop]
    rw [if_pos htwo]
    simp
    refine qc_same k3 (by simp) (by simp) ?_
    simp
    refine ap_acc_at (pre := [_, _, _]) rfl (numEls (slots s start step way i)) [[.bool z.1, .int .i64 z.2]] true (by decide) (by simp) (by simp) ?_ ?_ ?_
    · rw [numEls_len, slots_len]; simp; omega
    · rw [numEls_len, slots_len]; simp; omega
    have hst2 : numEls (slots s start step way i) ++ [[AV.bool z.1, AV.int .i64 z.2]] = numEls (slots s start step way (i + 1)) := by rw [hstp, numEls_app]; rfl
    rw [hst2]
    simp [f3, f11, f12, hwt]
    refine nx_intro (c - (i + 1)) (by omega) ⟨i + 1, rfl, by omega, by simp [f1], by simp [f2], by simp [f3], by simp [f4], by simp [f5], by simp [f10], by simp [f11], by simp [hnext], by simp [splice]⟩
  · have hil : i = c := by
      rcases Nat.lt_or_ge i c with h | h
      · exact absurd (hiff.1 h) (by omega)
      · omega
    subst hil
    simp [f10, f11]
    have hfin := fin1_acc_at (pre := [.var 41 [.str s.name, .int .i64 s.start, .int .i64 s.step, .lst (numEls s.vals)], .var 41 [.str s.name, .int .i64 start, .int .i64 step, rowV 3 (numEls (slots s start step way i))], .var 41 [.str s.name, .int .i64 start, .int .i64 step, rowV 3 (numEls (slots s start step way i))]]) (n := 3) rfl (e := 35) (size := 2) (l := numEls (slots s start step way i)) (m := 0)
    simp only [List.cons_append, List.nil_append] at hfin
    simp [hfin, srA, srC]
end Go.Proofs.YtdgpnmlialmaaaaGreatDoor
end
section
set_option maxHeartbeats 2000000
namespace Go.Ser
open Go.Abs Go.Num
end Go.Ser
namespace Go.Proofs.YtdgpnmlialmaaaaGreatDoor
open Go.Abs Go.Num Go.Ser
variable {G : Globs}
end Go.Proofs.YtdgpnmlialmaaaaGreatDoor
end
section
set_option maxHeartbeats 4000000
namespace Go.Abs
end Go.Abs
namespace Go.Num
end Go.Num
namespace Go.Proofs.YtdgpnmlialmaaaaGreatDoor
open Go.Abs Go.Num Go.Ser
variable {G : Globs}
end Go.Proofs.YtdgpnmlialmaaaaGreatDoor
end
section
set_option maxHeartbeats 4000000
namespace Go.Ser
open Go.Abs Go.Num Go.Dec
end Go.Ser
namespace Go.Proofs.YtdgpnmlialmaaaaGreatDoor
open Go.Abs Go.Num Go.Ser Go.Dec
variable {G : Globs}
def s0 : Sr := ⟨[97], 60, 60, [(false, 1000000), (true, 0)]⟩
end Go.Proofs.YtdgpnmlialmaaaaGreatDoor
end
section
set_option maxHeartbeats 4000000
namespace Go.Proofs.YtdgpnmlialmaaaaGreatDoor
open Go.Abs Go.Num Go.Ser
variable {G : Globs}
/-- isobarref02.Same, of a list and itself. -/
theorem same_ok (a : List N) (ha : a.length ≤ 9223372036854775807) : PCalls Tryz.prog n_isobarref02_Same [.lst (numEls a), .lst (numEls a)] (fun r => r = .bool true) := by
  refine pcalls_of_awp hmix c_isobarref02_Same rfl ?_
  have hla := numEls_len a
  simp [a_isobarref02_Same, hla]
  refine lp_startx (fun x f σ => ∃ (i : Nat), x = a.length - i ∧ i ≤ a.length ∧ f 0 = .lst (numEls a) ∧ f 1 = .lst (numEls a) ∧ f 5 = .int .i64 i ∧ σ = []) a.length ?_ ?_
  · exact ⟨0, by simp, by simp, by simp, by simp, by simp, by simp⟩
  rintro x f σ ⟨i, hx, hi, f0, f1, f5, rfl⟩
  simp [f0, f5, hla]
  refine cb_dec (fun hlt => ?_) (fun hge => ?_)
  · have hlt' : i < a.length := by omega
    have hwi : IntKind.i64.wrap ((i : Int) + 1) = ((i + 1 : Nat) : Int) := by rw [wrap_i64 (by omega) (by omega)]; omega
    obtain ⟨n, hn⟩ : ∃ n, a[i]? = some n := ⟨_, List.getElem?_eq_getElem hlt'⟩
    have hsa := numEls_get hn
    obtain ⟨ha1, ha2⟩ := List.getElem?_eq_some_iff.1 hsa
    simp [f0, f1, f5, hsa, ha1, ha2, hwi]
    refine nx_intro (a.length - (i + 1)) (by omega) ⟨i + 1, rfl, by omega, by simp [f0], by simp [f1], by simp, rfl⟩
  · simp
theorem sameS_ok (s : Sr) (h : s.vals.length ≤ 9223372036854775807) : PCalls Tryz.prog n_isobarref14_SameSeries [srA s, srA s] (fun r => r = .bool true) := by
  refine pcalls_of_awp hmix c_isobarref14_SameSeries rfl ?_
  rw [srA_eq s]
  simp [a_isobarref14_SameSeries]
  refine ac_same (same_ok s.vals h) (by simp) ?_
  rintro r rfl
  simp
end Go.Proofs.YtdgpnmlialmaaaaGreatDoor
end
section
set_option maxHeartbeats 2000000
namespace Go.Ser
open Go.Abs Go.Num
/-- The least common multiple, as both compute it. -/
def cm (a b : Nat) : Nat := a / Nat.gcd a b * b
def scanS : Nat → Int → Int → List Sr → Option (Nat × Int × Int)
  | st, a, b, [] => some (st, a, b)
  | st, a, b, s :: l => if cm st s.step.toNat ≤ 86400 then scanS (cm st s.step.toNat) (min a s.start) (max b (endS s)) l else none
def alS (l : List Sr) : List Sr × Nat :=
  if (l.any fun s => !rightS s) = true then ([], 1) else if 128 < l.length then ([], 11) else
  match l with
  | [] => ([], 0)
  | s :: _ => match scanS 1 s.start 0 l with
    | none => ([], 3)
    | some (st, a, b) =>
      if 2000 < ((b + st - 1) / st * st - (a - a % st)) / st ∨ 1099511714176 < (b + st - 1) / st * st then ([], 20)
      else (l.map fun s => ⟨s.name, a - a % st, st, slots s (a - a % st) st 1 (countN (a - a % st) ((b + st - 1) / st * st) st)⟩, 0)
theorem cm_pos {a b : Nat} (ha : 0 < a) (hb : 0 < b) : 0 < cm a b := by
  unfold cm
  have h1 : 0 < Nat.gcd a b := Nat.gcd_pos_of_pos_left b ha
  have h2 : 0 < a / Nat.gcd a b := Nat.div_pos (Nat.le_of_dvd ha (Nat.gcd_dvd_left a b)) h1
  exact Nat.mul_pos h2 hb
theorem cm_le {a b : Nat} (ha : a ≤ 86400) (hb : b ≤ 86400) : cm a b ≤ 86400 * 86400 := by
  unfold cm
  exact Nat.mul_le_mul (Nat.le_trans (Nat.div_le_self _ _) ha) hb
def idxS (p : Sr → Bool) : List Sr → Int
  | [] => -1
  | n :: l => if p n then 0 else if idxS p l = -1 then -1 else idxS p l + 1
theorem idxS_none {p : Sr → Bool} : ∀ {l : List Sr}, (∀ n ∈ l, p n = false) → idxS p l = -1
  | [], _ => rfl
  | n :: l, h => by
    unfold idxS
    rw [if_neg (by simp [h n (by simp)]), if_pos (idxS_none fun m hm => h m (by simp [hm]))]
theorem idxS_some {p : Sr → Bool} : ∀ {l : List Sr} {i : Nat} {n : Sr}, l[i]? = some n → p n = true → (∀ m ∈ l.take i, p m = false) → idxS p l = i
  | m :: l, 0, n, h, hp, _ => by simp at h; subst h; simp [idxS, hp]
  | m :: l, i + 1, n, h, hp, ha => by
    have h1 := idxS_some (l := l) (i := i) (by simpa using h) hp fun x hx => ha x (by simp [hx])
    have h2 : p m = false := ha m (by simp)
    unfold idxS
    rw [if_neg (by simp [h2]), if_neg (by omega)]
    omega
theorem idxS_cases (p : Sr → Bool) : ∀ l : List Sr, (idxS p l = -1 ∧ ∀ n ∈ l, p n = false) ∨ ∃ (i : Nat) (n : Sr), l[i]? = some n ∧ p n = true ∧ idxS p l = i
  | [] => .inl ⟨rfl, by simp⟩
  | n :: l => by
    by_cases hp : p n = true
    · exact .inr ⟨0, n, rfl, hp, by simp [idxS, hp]⟩
    · have hp' : p n = false := by simpa using hp
      rcases idxS_cases p l with ⟨h1, h2⟩ | ⟨i, m, h1, h2, h3⟩
      · refine .inl ⟨by simp [idxS, hp', h1], fun x hx => ?_⟩
        rcases List.mem_cons.1 hx with rfl | hx
        · exact hp'
        · exact h2 x hx
      · refine .inr ⟨i + 1, m, by simpa using h1, h2, ?_⟩
        unfold idxS
        rw [if_neg hp, if_neg (by omega)]
        omega
end Go.Ser
namespace Go.Proofs.YtdgpnmlialmaaaaGreatDoor
open Go.Abs Go.Num Go.Ser
variable {G : Globs}
def serEls (l : List Sr) : List (List AV) := l.map srC
def serL (l : List Sr) : AV := .lst (serEls l)
theorem serEls_len (l : List Sr) : (serEls l).length = l.length := by simp [serEls]
theorem serEls_get {l : List Sr} {i : Nat} {s : Sr} (h : l[i]? = some s) : (serEls l)[i]? = some [.str s.name, .int .i64 s.start, .int .i64 s.step, .lst (numEls s.vals)] := by simp [serEls, h, srC]
theorem serEls_fz (σ : Store) (m k : Nat) (l : List Sr) : ((serEls l).mapM fun (c : List AV) => c.mapM (fz σ m (k + 1))) = some (serEls l) := by
  induction l with
  | nil => rfl
  | cons a l ih =>
    show ((srC a :: serEls l).mapM _) = some (srC a :: serEls l)
    rw [List.mapM_cons, ih]
    simp [srC, fz]
theorem align1_ok (s : Sr) (h : SrOk s) : PCalls Tryz.prog n_series_Align_1 [srA s] (fun r => r = .bool (!rightS s)) := by
  refine pcalls_of_awp hmix c_series_Align_1 rfl ?_
  have k := sRight_ok (G := G) s h
  rw [srA_eq] at k ⊢
  simp [a_series_Align_1]
  refine ac_same k (by simp) ?_
  rintro r rfl
  simp
theorem indexFuncS_ok (l : List Sr) (hl : l.length ≤ 9223372036854775807) (p : Sr → Bool) (g : Nat) (hb : hasBody Tryz.prog g = true) (hg : ∀ n ∈ l, PCalls Tryz.prog g [srA n] (fun r => r = .bool (p n))) :
    PCalls Tryz.prog n_slices_IndexFunc_api_Series_api_Series [serL l, .fn (.func g) [] []] (fun r => r = .int .i64 (idxS p l)) := by
  refine pcalls_of_awp hmix c_slices_IndexFunc_api_Series_api_Series rfl ?_
  have hle := serEls_len l
  simp [a_slices_IndexFunc_api_Series_api_Series, serL]
  refine lp_startx (fun x f σ => ∃ (i : Nat), x = l.length - i ∧ i ≤ l.length ∧ f 0 = .lst (serEls l) ∧ f 1 = .fn (.func g) [] [] ∧ f 7 = .int .i64 l.length ∧ f 8 = .int .i64 i ∧ (∀ m ∈ l.take i, p m = false) ∧ σ = []) l.length ?_ ?_
  · exact ⟨0, by simp, by simp, by simp, by simp, by simp [hle], by simp, by simp, by simp⟩
  rintro x f σ ⟨i, hx, hi, h0, h1, h7, h8, hall, rfl⟩
  simp [h7, h8]
  refine cb_dec (fun hlt => ?_) (fun hge => ?_)
  · have hlt' : i < l.length := by omega
    have hwi : IntKind.i64.wrap ((i : Int) + 1) = ((i + 1 : Nat) : Int) := by rw [wrap_i64 (by omega) (by omega)]; omega
    obtain ⟨y, hy⟩ : ∃ y, l[i]? = some y := ⟨_, List.getElem?_eq_getElem hlt'⟩
    have hse := serEls_get hy
    obtain ⟨hx1, hx2⟩ := List.getElem?_eq_some_iff.1 hse
    have hk := hg y (List.mem_of_getElem? hy)
    rw [srA_eq] at hk
    simp [h0, h1, h8, hx1, hx2]
    refine cv_fn hb ?_
    refine ac_same hk (by simp) ?_
    rintro r rfl
    cases hp : p y with
    | true =>
      have := idxS_some hy hp hall
      simp [this]
    | false =>
      simp [h8, hwi]
      refine nx_intro (l.length - (i + 1)) (by omega) ⟨i + 1, rfl, by omega, by simp [h0], by simp [h1], by simp [h7], by simp, fun m hm => ?_, rfl⟩
      rw [List.take_add_one, hy] at hm
      simp only [Option.toList_some, List.mem_append, List.mem_singleton] at hm
      rcases hm with hm | rfl
      · exact hall m hm
      · exact hp
  · have hil : i = l.length := by omega
    rw [hil, List.take_length] at hall
    simp [idxS_none hall]
theorem containsS_ok (l : List Sr) (hl : l.length ≤ 9223372036854775807) (p : Sr → Bool) (g : Nat) (hb : hasBody Tryz.prog g = true) (hg : ∀ n ∈ l, PCalls Tryz.prog g [srA n] (fun r => r = .bool (p n))) :
    PCalls Tryz.prog n_slices_ContainsFunc_api_Series_api_Series [serL l, .fn (.func g) [] []] (fun r => r = .bool (l.any p)) := by
  refine pcalls_of_awp hmix c_slices_ContainsFunc_api_Series_api_Series rfl ?_
  have k := indexFuncS_ok (G := G) l hl p g hb hg
  unfold serL at k ⊢
  simp [a_slices_ContainsFunc_api_Series_api_Series]
  refine ac_same k (by simp) ?_
  rintro r rfl
  rcases idxS_cases p l with ⟨h1, h2⟩ | ⟨k, n, h1, h2, h4⟩
  · have : l.any p = false := List.any_eq_false.2 fun n hn => by simp [h2 n hn]
    simp [h1, this]
  · have : l.any p = true := List.any_eq_true.2 ⟨n, List.mem_of_getElem? h1, h2⟩
    have h0 : (0 : Int) ≤ k := by omega
    simp [h4, this, h0]
theorem common_ok (a b : Nat) (ha : 0 < a) (ha2 : a ≤ 86400) (hb : 0 < b) (hb2 : b ≤ 86400) : PCalls Tryz.prog n_series_common [.int .i64 a, .int .i64 b] (fun r => r = .int .i64 (cm a b)) := by
  refine pcalls_of_awp hmix c_series_common rfl ?_
  simp [a_series_common]
  refine lp_startx (fun x f σ => ∃ (p q : Nat), x = q ∧ Nat.gcd p q = Nat.gcd a b ∧ p ≤ 86400 ∧ q ≤ 86400 ∧ f 0 = .int .i64 a ∧ f 1 = .int .i64 b ∧ f 5 = .int .i64 p ∧ f 6 = .int .i64 q ∧ σ = []) b ?_ ?_
  · exact ⟨a, b, by simp, rfl, ha2, hb2, by simp, by simp, by simp, by simp, rfl⟩
  rintro x f σ ⟨p, q, rfl, hg, hp, hq, f0, f1, f5, f6, rfl⟩
  simp [f6]
  by_cases h0 : x = 0
  · subst h0
    rw [Nat.gcd_zero_right] at hg
    subst hg
    have hgp : 0 < Nat.gcd a b := Nat.gcd_pos_of_pos_left b ha
    have hc := cm_le ha2 hb2
    have hd : ((a : Int)).tdiv (Nat.gcd a b : Nat) = ((a / Nat.gcd a b : Nat) : Int) := by rw [Int.tdiv_eq_ediv_of_nonneg (by omega)]; simp
    obtain ⟨d, hdd⟩ : ∃ d, d = a / Nat.gcd a b := ⟨_, rfl⟩
    have hcm : cm a b = d * b := by rw [hdd]; rfl
    obtain ⟨g, hgg⟩ : ∃ g, g = Nat.gcd a b := ⟨_, rfl⟩
    rw [← hdd] at hd
    rw [← hgg] at hd hgp f5
    rw [hcm] at hc
    have hd2 : d ≤ 86400 := by rw [hdd]; exact Nat.le_trans (Nat.div_le_self _ _) ha2
    have hw1 : IntKind.i64.wrap (d : Int) = d := wrap_i64 (by omega) (by omega)
    have hw2 : IntKind.i64.wrap ((d : Int) * b) = d * b := by
      have e : ((d : Int) * b) = ((d * b : Nat) : Int) := by simp
      rw [e]; exact wrap_i64 (by omega) (by omega)
    have hg0 : ¬ (g : Int) = 0 := by omega
    have hg0' : ¬ g = 0 := by omega
    simp [f0, f1, f5, hg0, hg0', hd, hw1, hw2, hcm]
  · have hx0 : (0 : Int) < x := by omega
    have hx0' : 0 < x := by omega
    have hx1 : ¬ (x : Int) = 0 := by omega
    have hlt : p % x < x := Nat.mod_lt _ (by omega)
    have hd : ((p : Int)).tmod (x : Nat) = ((p % x : Nat) : Int) := by rw [Int.tmod_eq_emod_of_nonneg (by omega)]; simp
    have hw : IntKind.i64.wrap (((p % x : Nat)) : Int) = ((p % x : Nat) : Int) := wrap_i64 (by omega) (by omega)
    obtain ⟨z, hz⟩ : ∃ z, z = p % x := ⟨_, rfl⟩
    rw [← hz] at hd hw hlt
    simp [f5, f6, hx0, hx0', hx1, h0, hd, hw]
    refine nx_intro z (by omega) ⟨x, z, rfl, ?_, hq, by omega, by simp [f0], by simp [f1], by simp, by simp, rfl⟩
    rw [hz, ← hg, Nat.gcd_comm p x, Nat.gcd_rec x p, Nat.gcd_comm]
end Go.Proofs.YtdgpnmlialmaaaaGreatDoor
end
section
namespace Go.Ble
/-- The pieces of a name between points. -/
def dots : List UInt8 → List (List UInt8)
  | [] => [[]]
  | c :: s => if c = 46 then [] :: dots s else match dots s with
    | [] => [[c]]
    | p :: ps => (c :: p) :: ps
theorem dots_miss : ∀ {s : List UInt8}, 46 ∉ s → dots s = [s]
  | [], _ => rfl
  | c :: s, h => by
    have hc : c ≠ 46 := fun e => h (by simp [e])
    have hs : 46 ∉ s := fun e => h (by simp [e])
    unfold dots
    rw [if_neg hc, dots_miss hs]
theorem dots_hit : ∀ {a t : List UInt8}, 46 ∉ a → dots (a ++ 46 :: t) = a :: dots t
  | [], t, _ => by rw [List.nil_append, dots, if_pos rfl]
  | c :: a, t, h => by
    have hc : c ≠ 46 := fun e => h (by simp [e])
    have hs : 46 ∉ a := fun e => h (by simp [e])
    rw [List.cons_append, dots, if_neg hc, dots_hit hs]
theorem occ46 (s : List UInt8) (i : Nat) : Lib.occAt s [46] i = true ↔ s[i]? = some 46 := by
  unfold Lib.occAt
  constructor
  · intro h
    obtain ⟨t, ht⟩ := List.isPrefixOf_iff_prefix.1 h
    have : (s.drop i)[0]? = some 46 := by rw [← ht]; rfl
    simpa using this
  · intro h
    obtain ⟨h1, h2⟩ := List.getElem?_eq_some_iff.1 h
    rw [List.drop_eq_getElem_cons h1, h2]
    simp
theorem idx_miss {s : List UInt8} (h : 46 ∉ s) : Lib.index s [46] = -1 := by
  refine Lib.index_none fun j _ => ?_
  cases ho : Lib.occAt s [46] j with
  | false => rfl
  | true => exact absurd (List.mem_of_getElem? ((occ46 s j).1 ho)) h
theorem idx_hit {a t : List UInt8} (h : 46 ∉ a) : Lib.index (a ++ 46 :: t) [46] = a.length := by
  refine Lib.index_first (by simp) ((occ46 _ _).2 (by simp)) fun j hj => ?_
  cases ho : Lib.occAt (a ++ 46 :: t) [46] j with
  | false => rfl
  | true =>
    have h1 := (occ46 _ j).1 ho
    rw [List.getElem?_append_left hj] at h1
    exact absurd (List.mem_of_getElem? h1) h
theorem cut46 : ∀ s : List UInt8, 46 ∉ s ∨ ∃ a t, s = a ++ 46 :: t ∧ 46 ∉ a
  | [] => .inl (by simp)
  | c :: s => by
    by_cases hc : c = 46
    · subst hc; exact .inr ⟨[], s, rfl, by simp⟩
    rcases cut46 s with h | ⟨a, t, rfl, h⟩
    · exact .inl (by simp [h]; exact fun e => hc e.symm)
    · exact .inr ⟨c :: a, t, rfl, by simp [h]; exact fun e => hc e.symm⟩
theorem split_dots_n : ∀ (n : Nat) (s : List UInt8), s.length ≤ n → Lib.splitK [46] 0 (Lib.count s [46]) s = dots s := by
  intro n
  induction n with
  | zero =>
    intro s hs
    have : s = [] := List.eq_nil_of_length_eq_zero (by omega)
    subst this
    rw [Lib.count_miss (idx_miss (by simp))]
    rfl
  | succ n ih =>
    intro s hs
    rcases cut46 s with h | ⟨a, t, rfl, h⟩
    · rw [Lib.count_miss (idx_miss h), dots_miss h]; rfl
    · have e := idx_hit (t := t) h
      have ed : (a ++ 46 :: t).drop (a.length + 1) = t := by
        rw [← List.drop_drop, List.drop_left]; rfl
      have ed' : (a ++ 46 :: t).drop (a.length + [(46 : UInt8)].length) = t := ed
      rw [Lib.count_hit (by simp) e, ed', Nat.add_comm, Lib.splitK, if_neg (by rw [e]; simp), e, dots_hit h]
      simp only [Int.toNat_natCast, Nat.add_zero, List.take_left, ed']
      rw [ih t (by simp at hs; omega)]
theorem split_dots (s : List UInt8) : Lib.splitK [46] 0 (Lib.count s [46]) s = dots s := split_dots_n _ s (Nat.le_refl _)
theorem dots_length : ∀ s : List UInt8, (dots s).length ≤ s.length + 1
  | [] => Nat.le_refl _
  | c :: s => by
    have := dots_length s
    unfold dots
    split
    · simp; exact this
    · split
      · simp
      · rename_i p ps h
        rw [h] at this
        simp at this ⊢; omega
theorem dots_count (s : List UInt8) : (dots s).length = Lib.count s [46] + 1 := by
  rw [← split_dots]
  have : ∀ (n : Nat) (s : List UInt8), s.length ≤ n → (Lib.splitK [46] 0 (Lib.count s [46]) s).length = Lib.count s [46] + 1 := by
    intro n
    induction n with
    | zero =>
      intro s hs
      have : s = [] := List.eq_nil_of_length_eq_zero (by omega)
      subst this
      rw [Lib.count_miss (idx_miss (by simp))]
      rfl
    | succ n ih =>
      intro s hs
      rcases cut46 s with h | ⟨a, t, rfl, h⟩
      · rw [Lib.count_miss (idx_miss h)]; rfl
      · have e := idx_hit (t := t) h
        have ed : (a ++ 46 :: t).drop (a.length + [(46 : UInt8)].length) = t := by
          show (a ++ 46 :: t).drop (a.length + 1) = t
          rw [← List.drop_drop, List.drop_left]; rfl
        rw [Lib.count_hit (by simp) e, ed, Nat.add_comm 1, Lib.splitK, if_neg (by rw [e]; simp), e]
        simp only [Int.toNat_natCast]
        rw [ed, List.length_cons, ih t (by simp at hs; omega)]
  exact this _ s (Nat.le_refl _)
/-- The piece at a place, or nothing. -/
def pieceS (name : List UInt8) (n : Nat) : List UInt8 := (dots name).getD n []
end Go.Ble
end
section
namespace Go.Shp
open Go.Num Go.Ser Go.Dec
inductive Wd where
  | absolute
  | negate
  | squareRoot
  | invert
  | derivative
  | integral
  | isNonNull
  | nonNegativeDerivative
  | perSecond
  | keepLastValue
  | transformNull
  | scale
  | offset
  | delay
  | movingAverage
  | movingSum
  | movingMin
  | movingMax
  | removeAboveValue
  | removeBelowValue
  | round
  | summarize
  | clamp
  deriving DecidableEq
def Wd.txt : Wd → List UInt8
  | .absolute => [97, 98, 115, 111, 108, 117, 116, 101]
  | .negate => [110, 101, 103, 97, 116, 101]
  | .squareRoot => [115, 113, 117, 97, 114, 101, 82, 111, 111, 116]
  | .invert => [105, 110, 118, 101, 114, 116]
  | .derivative => [100, 101, 114, 105, 118, 97, 116, 105, 118, 101]
  | .integral => [105, 110, 116, 101, 103, 114, 97, 108]
  | .isNonNull => [105, 115, 78, 111, 110, 78, 117, 108, 108]
  | .nonNegativeDerivative => [110, 111, 110, 78, 101, 103, 97, 116, 105, 118, 101, 68, 101, 114, 105, 118, 97, 116, 105, 118, 101]
  | .perSecond => [112, 101, 114, 83, 101, 99, 111, 110, 100]
  | .keepLastValue => [107, 101, 101, 112, 76, 97, 115, 116, 86, 97, 108, 117, 101]
  | .transformNull => [116, 114, 97, 110, 115, 102, 111, 114, 109, 78, 117, 108, 108]
  | .scale => [115, 99, 97, 108, 101]
  | .offset => [111, 102, 102, 115, 101, 116]
  | .delay => [100, 101, 108, 97, 121]
  | .movingAverage => [109, 111, 118, 105, 110, 103, 65, 118, 101, 114, 97, 103, 101]
  | .movingSum => [109, 111, 118, 105, 110, 103, 83, 117, 109]
  | .movingMin => [109, 111, 118, 105, 110, 103, 77, 105, 110]
  | .movingMax => [109, 111, 118, 105, 110, 103, 77, 97, 120]
  | .removeAboveValue => [114, 101, 109, 111, 118, 101, 65, 98, 111, 118, 101, 86, 97, 108, 117, 101]
  | .removeBelowValue => [114, 101, 109, 111, 118, 101, 66, 101, 108, 111, 119, 86, 97, 108, 117, 101]
  | .round => [114, 111, 117, 110, 100]
  | .summarize => [115, 117, 109, 109, 97, 114, 105, 122, 101]
  | .clamp => [99, 108, 97, 109, 112]
def Wd.all : List Wd := [.absolute, .negate, .squareRoot, .invert, .derivative, .integral, .isNonNull, .nonNegativeDerivative, .perSecond, .keepLastValue, .transformNull, .scale, .offset, .delay, .movingAverage, .movingSum, .movingMin, .movingMax, .removeAboveValue, .removeBelowValue, .round, .summarize, .clamp]
/-- How many numbers a call has, at least and at most. -/
def Wd.takes : Wd → Nat × Nat
  | .absolute | .negate | .squareRoot | .invert | .derivative | .integral | .isNonNull => (0, 0)
  | .nonNegativeDerivative | .perSecond | .keepLastValue | .transformNull => (0, 1)
  | .clamp => (2, 2)
  | _ => (1, 1)
def Wd.way : Wd → Int
  | .movingAverage => 1
  | .movingSum => 2
  | .movingMin => 3
  | _ => 4
def wholeS (n : N) (low high : Int) : Option Int := if n.2 % 1000000 = 0 ∧ low ≤ n.2 / 1000000 ∧ n.2 / 1000000 ≤ high then some (n.2 / 1000000) else none
def nameM : Nat → List UInt8
  | 1 => [97, 118, 101, 114, 97, 103, 101]
  | 2 => [115, 117, 109]
  | 3 => [109, 105, 110]
  | 4 => [109, 97, 120]
  | 5 => [108, 97, 115, 116]
  | _ => []
def methodS (t : List UInt8) : Option Int := if t = nameM 1 then some 1 else if t = nameM 2 then some 2 else if t = nameM 3 then some 3 else if t = nameM 4 then some 4 else if t = nameM 5 then some 5 else none
end Go.Shp
end
section
namespace Go.Ble
open Go.Num Go.Ser Go.Dec Go.Shp
def Cw.txt : Cw → List UInt8
  | .sum => [115, 117, 109, 83, 101, 114, 105, 101, 115]
  | .average => [97, 118, 101, 114, 97, 103, 101, 83, 101, 114, 105, 101, 115]
  | .least => [109, 105, 110, 83, 101, 114, 105, 101, 115]
  | .greatest => [109, 97, 120, 83, 101, 114, 105, 101, 115]
  | .multiply => [109, 117, 108, 116, 105, 112, 108, 121, 83, 101, 114, 105, 101, 115]
  | .diff => [100, 105, 102, 102, 83, 101, 114, 105, 101, 115]
  | .range => [114, 97, 110, 103, 101, 79, 102, 83, 101, 114, 105, 101, 115]
  | .count => [99, 111, 117, 110, 116, 83, 101, 114, 105, 101, 115]
  | .median => [109, 101, 100, 105, 97, 110, 83, 101, 114, 105, 101, 115]
  | .divide => [100, 105, 118, 105, 100, 101, 83, 101, 114, 105, 101, 115]
  | .percent => [97, 115, 80, 101, 114, 99, 101, 110, 116]
  | .percentile => [112, 101, 114, 99, 101, 110, 116, 105, 108, 101, 79, 102, 83, 101, 114, 105, 101, 115]
  | .group => [103, 114, 111, 117, 112, 66, 121, 78, 111, 100, 101]
def Cw.all : List Cw := [.sum, .average, .least, .greatest, .multiply, .diff, .range, .count, .median, .divide, .percent, .percentile, .group]
def cwOf (s : List UInt8) : Option Cw := Cw.all.find? fun w => decide (w.txt = s)
theorem cwOf_txt (w : Cw) : cwOf w.txt = some w := by cases w <;> decide
theorem cwOf_none {s : List UInt8} (h : cwOf s = none) (w : Cw) : ¬ s = w.txt := fun he => by
  subst he; rw [cwOf_txt] at h; cases h
theorem cwOf_some {s : List UInt8} {w : Cw} (h : cwOf s = some w) : s = w.txt := by
  have := List.find?_some h
  have h2 : w.txt = s := by simpa using this
  exact h2.symm
/-- How many numbers a call has, and whether a text. -/
def Cw.takes : Cw → Nat × Bool
  | .percentile => (1, false)
  | .group => (1, true)
  | _ => (0, false)
/-- The values of an aligned list at a place. -/
def togN (l : List Sr) (k : Nat) : List N := l.map fun s => s.vals.getD k nothing
/-- The pieces of names, each once, in the order of their first ones. -/
def keysS (n : Nat) : List Sr → List (List UInt8) → List (List UInt8)
  | [], ks => ks
  | s :: l, ks => keysS n l (if pieceS s.name n ∈ ks then ks else ks ++ [pieceS s.name n])
def oneG (name : List UInt8) (f : List N → N) (a : List Sr) : Sr := ⟨name, (a.headD ⟨[], 0, 0, []⟩).start, (a.headD ⟨[], 0, 0, []⟩).step, (List.range (a.headD ⟨[], 0, 0, []⟩).vals.length).map fun k => f (togN a k)⟩
def groupsS (l : List Sr) (n : Nat) (method : Int) : List (List UInt8) → List Sr → List Sr × Nat
  | [], out => (out, 0)
  | k :: ks, out => match alS (l.filter fun s => decide (pieceS s.name n = k)) with
    | (a, 0) => groupsS l n method ks (out ++ [oneG k (reckon method) a])
    | (_, e) => ([], e)
def percentN (l : List Sr) (s : Sr) (k : Nat) : N := mulN (divN (s.vals.getD k nothing) (reckon 2 (togN l k))) (tell 100000000)
def percentName (s : Sr) : List UInt8 := Cw.percent.txt ++ [40] ++ s.name ++ [41]
def percentS (a : List Sr) : List Sr × Nat := if a.any (fun s => decide (400 < (percentName s).length)) = true then ([], 20) else (a.map fun s => ⟨percentName s, s.start, s.step, (List.range s.vals.length).map (percentN a s)⟩, 0)
def nameB (w : Cw) (l : List Sr) (args : List N) : List UInt8 := w.txt ++ [40] ++ Lib.join (l.map (·.name) ++ prns args) [44] ++ [41]
/-- Whether a call's own bounds hold; by which piece, by which method. -/
def checkB (w : Cw) (l : List Sr) (args : List N) (text : List UInt8) : Option (Int × Int) := match w with
  | .divide => if l.length = 2 then some (0, 0) else none
  | .percentile => if 0 ≤ (args.headD nothing).2 ∧ (args.headD nothing).2 ≤ 100000000 then some (0, 0) else none
  | .group => match methodS text, wholeS (args.headD nothing) 0 1099511627776 with
    | some m, some n => some (n, m)
    | _, _ => none
  | _ => some (0, 0)
def applyB (call : List UInt8) (l : List Sr) (args : List N) (text : List UInt8) : List Sr × Nat := match cwOf call with
  | none => ([], 15)
  | some w =>
    if l.any (fun s => !rightS s) = true then ([], 1)
    else if 128 < l.length then ([], 11)
    else if args.length ≠ w.takes.1 ∨ args.any (fun n => !good n) = true ∨ (text ≠ [] ∧ w.takes.2 = false) then ([], 18)
    else match checkB w l args text with
      | none => ([], 1)
      | some (n, m) =>
        if l = [] then ([], 0)
        else if w = .group then groupsS l n.toNat m (keysS n.toNat l []) []
        else match alS l with
          | (a, 0) =>
            if w = .percent then percentS a
            else if 400 < (nameB w l args).length then ([], 20)
            else ([oneG (nameB w l args) (valueS w args) a], 0)
          | (_, e) => ([], e)
end Go.Ble
end
section
namespace Go.Abs
/-- A slice that grows: its elements never change; τ lies behind lo entries. -/
def AccT (e size lo : Nat) (τ : Store) (v : AV) (l : List (List AV)) : Prop := (l = [] ∧ v = .nils) ∨ (l ≠ [] ∧ ∃ p, v = .row (lo + p) l.length ∧ τ[p]? = some (.row e size l true))
theorem accT_nil {e size lo : Nat} {τ : Store} : AccT e size lo τ .nils [] := .inl ⟨rfl, rfl⟩
theorem AccT.more {e size lo : Nat} {τ : Store} {v : AV} {l : List (List AV)} (h : AccT e size lo τ v l) (x : Store) : AccT e size lo (τ ++ x) v l := by
  rcases h with h | ⟨h1, p, h2, h3⟩
  · exact .inl h
  · exact .inr ⟨h1, p, h2, by rw [List.getElem?_append_left (List.getElem?_eq_some_iff.1 h3).1]; exact h3⟩
theorem AccT.get {e size : Nat} {σ τ : Store} {v : AV} {l : List (List AV)} (h : AccT e size σ.length τ v l) : (l = [] ∧ v = .nils) ∨ (l ≠ [] ∧ ∃ id, σ.length ≤ id ∧ v = .row id l.length ∧ (σ ++ τ)[id]? = some (.row e size l true)) := by
  rcases h with h | ⟨h1, p, h2, h3⟩
  · exact .inl h
  · exact .inr ⟨h1, _, by omega, h2, by rw [List.getElem?_append_right (by omega), Nat.add_sub_cancel_left]; exact h3⟩
theorem ap_accG {K : AV → Store → Prop} {t : Tg K} {e size bytes : Nat} {σ τ : Store} {v : AV} {l : List (List AV)} (h : AccT e size σ.length τ v l) (x : List AV) (hs : 0 < size) (hx : x.length = size) (hb : (l.length + 1) * bytes ≤ 140737488355328) (h63 : l.length + 1 ≤ 9223372036854775807)
    (hK : ∀ v' τ', AccT e size σ.length τ' v' (l ++ [x]) → τ.length ≤ τ'.length → (∀ (p : Nat) (en : Entry), τ[p]? = some en → v ≠ .row (σ.length + p) l.length → τ'[p]? = some en) → (∀ en ∈ τ', en ∈ τ ∨ en = .row e size (l ++ [x]) true) → K v' (σ ++ τ')) : ap K t (σ ++ τ) e size bytes v (.lst [x]) := by
  rcases h with ⟨rfl, rfl⟩ | ⟨h1, p, rfl, h3⟩
  · refine ap_new true [x] rfl hs (by simp [hx]) (fun _ => .inl rfl) (by simpa using hb) (by simp) ?_
    have := hK (.row (σ.length + τ.length) 1) (τ ++ [.row e size [x] true]) (.inr ⟨by simp, τ.length, by simp, by simp⟩) (by simp) (fun p en hp _ => by rw [List.getElem?_append_left (List.getElem?_eq_some_iff.1 hp).1]; exact hp) (fun en he => by
      rcases List.mem_append.1 he with he | he
      · exact .inl he
      · simp at he; exact .inr he)
    simpa using this
  · have hlt := (List.getElem?_eq_some_iff.1 h3).1
    have hg : (σ ++ τ)[σ.length + p]? = some (.row e size l true) := by rw [List.getElem?_append_right (by omega), Nat.add_sub_cancel_left]; exact h3
    refine ap_row l [x] true hg rfl hs (by simp [hx]) (fun _ => .inl rfl) rfl (by simpa using hb) (by simpa using h63) ?_
    have := hK (.row (σ.length + p) (l.length + 1)) (τ.set p (.row e size (l ++ [x]) true)) (.inr ⟨by simp, p, by simp, by simp [hlt]⟩) (by simp) (fun q en hq hv => by
      have hne : p ≠ q := fun e => hv (by rw [e])
      rw [List.getElem?_set_ne hne]; exact hq) (fun en he => (List.mem_or_eq_of_mem_set he).imp id id)
    rw [List.set_append_right _ _ (by omega), Nat.add_sub_cancel_left]
    simpa using this
theorem ap_accT {K : AV → Store → Prop} {t : Tg K} {e size bytes : Nat} {σ τ : Store} {v : AV} {l : List (List AV)} (h : AccT e size σ.length τ v l) (x : List AV) (hs : 0 < size) (hx : x.length = size) (hb : (l.length + 1) * bytes ≤ 140737488355328) (h63 : l.length + 1 ≤ 9223372036854775807)
    (hK : ∀ v' τ', AccT e size σ.length τ' v' (l ++ [x]) → τ.length ≤ τ'.length → (∀ (p : Nat) (en : Entry), τ[p]? = some en → v ≠ .row (σ.length + p) l.length → τ'[p]? = some en) → K v' (σ ++ τ')) : ap K t (σ ++ τ) e size bytes v (.lst [x]) :=
  ap_accG h x hs hx hb h63 fun v' τ' h1 h2 h3 _ => hK v' τ' h1 h2 h3
theorem AccT.coe {e size : Nat} {σ τ : Store} {v : AV} {l : List (List AV)} (h : AccT e size σ.length τ v l) (lend : Bool) : Coe (σ ++ τ) lend v (.lst l) := by
  rcases h.get with ⟨rfl, rfl⟩ | ⟨h1, id, _, rfl, h3⟩
  · exact .nils
  · exact .row id _ e size l true h3 rfl (.inl rfl)
theorem AccT.fin1 {e size : Nat} {σ τ : Store} {v : AV} {l : List (List AV)} (h : AccT e size σ.length τ v l) (m : Nat) : fin1 (σ ++ τ) m v = some (.lst l) := by
  rcases h.get with ⟨rfl, rfl⟩ | ⟨h1, id, _, rfl, h3⟩
  · rfl
  · simp [Abs.fin1, fz, h3]
theorem AccT.view {e size : Nat} {σ τ : Store} {v : AV} {l : List (List AV)} (h : AccT e size σ.length τ v l) : view (σ ++ τ) v = some l := by
  rcases h.get with ⟨rfl, rfl⟩ | ⟨h1, id, _, rfl, h3⟩
  · rfl
  · simp [Abs.view, h3]
theorem AccT.share {e size : Nat} {σ τ : Store} {v : AV} {l : List (List AV)} (h : AccT e size σ.length τ v l) : share1 (σ ++ τ) v = some (.lst l) := by
  rcases h.get with ⟨rfl, rfl⟩ | ⟨h1, id, _, rfl, h3⟩
  · rfl
  · simp [share1, h3]
theorem AccT.pos {e size lo : Nat} {τ : Store} {v : AV} {l : List (List AV)} (h : AccT e size lo τ v l) : v.one = true ∧ v.cells = [v] ∧ (v = .nils ∨ ∃ p n, v = .row (lo + p) n) := by
  rcases h with ⟨_, rfl⟩ | ⟨_, p, rfl, _⟩
  · exact ⟨rfl, rfl, .inl rfl⟩
  · exact ⟨rfl, rfl, .inr ⟨_, _, rfl⟩⟩
theorem AccT.under {e size lo : Nat} {τ : Store} {v : AV} {l : List (List AV)} (h : AccT e size lo τ v l) {m : Nat} (hm : lo + τ.length ≤ m) : v.under m = true := by
  rcases h with ⟨_, rfl⟩ | ⟨_, p, rfl, h3⟩
  · simp [AV.under]
  · have := (List.getElem?_eq_some_iff.1 h3).1
    simp [AV.under]; omega
theorem pre_get0 {σ τ : Store} {a : Entry} : (σ ++ a :: τ)[σ.length]? = some a := by simp
theorem pre_get1 {σ τ : Store} {a b : Entry} : (σ ++ a :: b :: τ)[σ.length + 1]? = some b := by
  rw [List.getElem?_append_right (by omega), Nat.add_sub_cancel_left]; rfl
theorem pre_set0 {σ τ : Store} {a x : Entry} : (σ ++ a :: τ).set σ.length x = σ ++ x :: τ := by simp
theorem pre_set1 {σ τ : Store} {a b x : Entry} : (σ ++ a :: b :: τ).set (σ.length + 1) x = σ ++ a :: x :: τ := by
  rw [List.set_append_right _ _ (by omega), Nat.add_sub_cancel_left]; rfl
theorem end_get {σ τ : Store} {v : Entry} : (σ ++ (τ ++ [v]))[σ.length + τ.length]? = some v := by
  rw [List.getElem?_append_right (by omega), Nat.add_sub_cancel_left]; simp
theorem end_set {σ τ : Store} {v x : Entry} : (σ ++ (τ ++ [v])).set (σ.length + τ.length) x = σ ++ (τ ++ [x]) := by
  rw [List.set_append_right _ _ (by omega), Nat.add_sub_cancel_left]; simp
theorem ap_acc0 {K : AV → Store → Prop} {t : Tg K} {e size bytes : Nat} {τ : Store} {v : AV} {l : List (List AV)} (h : AccT e size 0 τ v l) (x : List AV) (hs : 0 < size) (hx : x.length = size) (hb : (l.length + 1) * bytes ≤ 140737488355328) (h63 : l.length + 1 ≤ 9223372036854775807)
    (hK : ∀ v' τ', AccT e size 0 τ' v' (l ++ [x]) → τ.length ≤ τ'.length → (∀ (p : Nat) (en : Entry), τ[p]? = some en → v ≠ .row p l.length → τ'[p]? = some en) → K v' τ') : ap K t τ e size bytes v (.lst [x]) :=
  ap_accT (σ := []) h x hs hx hb h63 fun v' τ' h1 h2 h3 => hK v' τ' h1 h2 fun p en hp hv => h3 p en hp (by simpa using hv)
theorem AccT.coe0 {e size : Nat} {τ : Store} {v : AV} {l : List (List AV)} (h : AccT e size 0 τ v l) (lend : Bool) : Coe τ lend v (.lst l) := AccT.coe (σ := []) h lend
theorem tail_get {τ : Store} {v : Entry} : (τ ++ [v])[τ.length]? = some v := by simp
theorem tail_set {τ : Store} {v x : Entry} : (τ ++ [v]).set τ.length x = τ ++ [x] := by simp
theorem pre2_get {σ τ : Store} {a b v : Entry} : (σ ++ a :: b :: (τ ++ [v]))[σ.length + (τ.length + 1 + 1)]? = some v := by
  rw [List.getElem?_append_right (by omega), Nat.add_sub_cancel_left]; simp
theorem pre2_set {σ τ : Store} {a b v x : Entry} : (σ ++ a :: b :: (τ ++ [v])).set (σ.length + (τ.length + 1 + 1)) x = σ ++ a :: b :: (τ ++ [x]) := by
  rw [List.set_append_right _ _ (by omega), Nat.add_sub_cancel_left]; simp
theorem pre1_get {σ τ : Store} {a v : Entry} : (σ ++ a :: (τ ++ [v]))[σ.length + (τ.length + 1)]? = some v := by
  rw [List.getElem?_append_right (by omega), Nat.add_sub_cancel_left]; simp
theorem pre1_set {σ τ : Store} {a v x : Entry} : (σ ++ a :: (τ ++ [v])).set (σ.length + (τ.length + 1)) x = σ ++ a :: (τ ++ [x]) := by
  rw [List.set_append_right _ _ (by omega), Nat.add_sub_cancel_left]; simp
theorem AccT.finT {e size : Nat} {σ τ : Store} {v : AV} {l : List (List AV)} (h : AccT e size σ.length τ v l) (m : Nat) : Abs.finT (σ ++ τ) m v = some (.lst l) := by
  have h1 := h.fin1 m
  rcases h.get with ⟨_, rfl⟩ | ⟨_, id, _, rfl, _⟩ <;> exact h1
theorem accT1 {e size : Nat} {σ τ : Store} {a : Entry} {v : AV} {l : List (List AV)} (h : AccT e size (σ.length + 1) τ v l) : AccT e size (σ ++ [a]).length τ v l := by simpa using h
theorem accT2 {e size : Nat} {σ τ : Store} {a b : Entry} {v : AV} {l : List (List AV)} (h : AccT e size (σ.length + 2) τ v l) : AccT e size (σ ++ [a, b]).length τ v l := by simpa using h
theorem app1 {σ τ : Store} {a : Entry} : (σ ++ [a]) ++ τ = σ ++ a :: τ := by simp
theorem app2 {σ τ : Store} {a b : Entry} : (σ ++ [a, b]) ++ τ = σ ++ a :: b :: τ := by simp
theorem ap_acc2 {K : AV → Store → Prop} {t : Tg K} {e size bytes : Nat} {σ τ : Store} {a b : Entry} {v : AV} {l : List (List AV)} (h : AccT e size (σ.length + 2) τ v l) (x : List AV) (hs : 0 < size) (hx : x.length = size) (hb : (l.length + 1) * bytes ≤ 140737488355328) (h63 : l.length + 1 ≤ 9223372036854775807)
    (hK : ∀ v' τ', AccT e size (σ.length + 2) τ' v' (l ++ [x]) → τ.length ≤ τ'.length → K v' (σ ++ a :: b :: τ')) : ap K t (σ ++ a :: b :: τ) e size bytes v (.lst [x]) := by
  rw [← app2]
  exact ap_accT (accT2 h) x hs hx hb h63 fun v' τ' h1 h2 _ => by rw [app2]; exact hK v' τ' (by simpa using h1) h2
theorem AccT.share2 {e size : Nat} {σ τ : Store} {a b : Entry} {v : AV} {l : List (List AV)} (h : AccT e size (σ.length + 2) τ v l) : share1 (σ ++ a :: b :: τ) v = some (.lst l) := by
  rw [← app2]; exact AccT.share (accT2 h)
theorem share1_str (σ : Store) (s : List UInt8) : share1 σ (.str s) = some (.str s) := by simp [share1, AV.pure]
theorem share1_int (σ : Store) (k : IntKind) (n : Int) : share1 σ (.int k n) = some (.int k n) := by simp [share1, AV.pure]
theorem pre1_at {σ τ : Store} {a : Entry} {p : Nat} : (σ ++ a :: τ)[σ.length + 1 + p]? = τ[p]? := by
  rw [List.getElem?_append_right (by omega), show σ.length + 1 + p - σ.length = p + 1 by omega]; rfl
theorem pre1_setat {σ τ : Store} {a x : Entry} {p : Nat} : (σ ++ a :: τ).set (σ.length + 1 + p) x = σ ++ a :: τ.set p x := by
  rw [List.set_append_right _ _ (by omega), show σ.length + 1 + p - σ.length = p + 1 by omega]; rfl
theorem under_more {σ t : Store} (h : ∀ e ∈ t, e.under (σ ++ t).length = true) : ∀ (i : Nat) (e : Entry), (σ ++ t)[i]? = some e → σ[i]? = some e ∨ e.under (σ ++ t).length = true := by
  intro i e he
  by_cases hi : i < σ.length
  · rw [List.getElem?_append_left hi] at he; exact .inl he
  · right
    rw [List.getElem?_append_right (by omega)] at he
    exact h e (List.mem_of_getElem? he)
def joinB (J : Frame → Store → Prop) (_ : Tg J) (Q : AExit → Frame → Store → Prop) : AExit → Frame → Store → Prop
  | .normal, f, σ => jn J (.mk J) f (.mk f) σ
  | e, f, σ => Q e f σ
theorem joinB_normal {J : Frame → Store → Prop} {t : Tg J} {Q : AExit → Frame → Store → Prop} {f : Frame} {σ : Store} : joinB J t Q .normal f σ = jn J (.mk J) f (.mk f) σ := rfl
theorem joinB_ret {J : Frame → Store → Prop} {t : Tg J} {Q : AExit → Frame → Store → Prop} {f : Frame} {σ : Store} : joinB J t Q .ret f σ = Q .ret f σ := rfl
theorem joinB_exit {J : Frame → Store → Prop} {t : Tg J} {Q : AExit → Frame → Store → Prop} {f : Frame} {σ : Store} {i : Nat} : joinB J t Q (.exit i) f σ = Q (.exit i) f σ := rfl
attribute [simp ↓] joinB_normal joinB_ret joinB_exit
end Go.Abs
end
