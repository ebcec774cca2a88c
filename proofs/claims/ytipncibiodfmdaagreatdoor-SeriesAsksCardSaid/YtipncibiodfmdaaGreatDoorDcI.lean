/- What is printed is parsed as it was; a text without its first or its last byte says something else. -/
import Derived.Test.YtipncibiodfmdaaGreatDoorDcF
set_option linter.unusedSimpArgs false
set_option linter.unusedVariables false
set_option linter.constructorNameAsVariable false
namespace Go.Dec

theorem dig_of {d : Nat} (h : d < 10) : dig (UInt8.ofNat (48 + d)) = d := by
  unfold dig
  rw [UInt8.toNat_ofNat', Nat.mod_eq_of_lt (by omega)]
  omega
theorem isD_of {d : Nat} (h : d < 10) : isD (UInt8.ofNat (48 + d)) = true := by
  rw [isD_iff, UInt8.toNat_ofNat', Nat.mod_eq_of_lt (by omega)]
  omega
theorem dval_from (n : Nat) (l : List UInt8) : dval n l = n * 10 ^ l.length + dval 0 l := by
  induction l generalizing n with
  | nil => simp [dval_nil]
  | cons c l ih =>
    rw [dval_cons, dval_cons, ih, ih (0 * 10 + dig c)]
    simp only [List.length_cons, Nat.pow_succ, Nat.zero_mul, Nat.zero_add, Nat.add_mul]
    rw [Nat.mul_assoc n 10, Nat.mul_comm 10, Nat.add_assoc]
theorem dval_snoc (n : Nat) (l : List UInt8) (c : UInt8) : dval n (l ++ [c]) = dval n l * 10 + dig c := by
  rw [dval_append, dval_cons, dval_nil]

/-! ## a number's digits -/
theorem dd_all : ∀ (n : Nat), (Lib.decDigits n).all isD = true ∧ dval 0 (Lib.decDigits n) = n := by
  intro n
  induction n using Nat.strongRecOn with
  | _ n ih =>
    rw [Lib.decDigits]
    split
    · rename_i h
      refine ⟨by simp only [List.all_cons, List.all_nil, isD_of h, Bool.and_self], ?_⟩
      rw [dval_cons, dval_nil, dig_of h]; omega
    · rename_i h
      obtain ⟨h1, h2⟩ := ih (n / 10) (by omega)
      have h10 : n % 10 < 10 := by omega
      refine ⟨by simp only [List.all_append, List.all_cons, List.all_nil, h1, isD_of h10, Bool.and_self], ?_⟩
      rw [dval_snoc, h2, dig_of h10]; omega
theorem dd_ne (n : Nat) : Lib.decDigits n ≠ [] := by
  rw [Lib.decDigits]
  split <;> simp
theorem dd_head : ∀ (n : Nat), 0 < n → ∃ c t, Lib.decDigits n = c :: t ∧ 1 ≤ dig c := by
  intro n
  induction n using Nat.strongRecOn with
  | _ n ih =>
    intro h0
    rw [Lib.decDigits]
    split
    · rename_i h
      exact ⟨_, _, rfl, by rw [dig_of h]; omega⟩
    · rename_i h
      obtain ⟨c, t, he, hc⟩ := ih (n / 10) (by omega) (by omega)
      exact ⟨c, t ++ [UInt8.ofNat (48 + n % 10)], by rw [he]; rfl, hc⟩
theorem dd_len13 {n : Nat} (h : n ≤ 9223372036854) : (Lib.decDigits n).length ≤ 13 := by
  rcases Nat.lt_or_ge n 10 with h10 | h10
  · rw [Lib.decDigits_one h10]; simp
  · have hne := dd_ne n
    obtain ⟨c, t, he, hc⟩ := dd_head n (by omega)
    have hv := (dd_all n).2
    rw [he, dval_cons, dval_from] at hv
    rw [he]
    rcases Nat.lt_or_ge 12 t.length with hl | hl
    · exfalso
      have h1 : 10 ^ 13 ≤ 10 ^ t.length := Nat.pow_le_pow_right (by omega) (by omega)
      have h2 : 1 * 10 ^ t.length ≤ (0 * 10 + dig c) * 10 ^ t.length := Nat.mul_le_mul_right _ (by omega)
      have h3 : (10 : Nat) ^ 13 = 10000000000000 := by decide
      omega
    · simp; omega

/-! ## the digits behind the point -/
theorem fr_pad : ∀ (k p m : Nat), k ≤ m → (fr k p ++ List.replicate m 48).take k = dgs k p
  | 0, p, m, h => by simp [dgs]
  | k + 1, p, m, h => by
    unfold fr
    split
    · rename_i h0
      subst h0
      have := fr_pad k 0 (m - 1) (by omega)
      obtain ⟨m', rfl⟩ : ∃ m', m = m' + 1 := ⟨m - 1, by omega⟩
      have e0 : fr k 0 = [] := by cases k <;> simp [fr]
      rw [e0] at this
      simp only [List.nil_append, Nat.add_sub_cancel] at this
      simp only [dgs, List.nil_append, List.replicate_succ, List.take_succ_cons, this, Nat.zero_mod, Nat.zero_mul, Nat.zero_div, Nat.add_zero]
      rfl
    · simp only [dgs, List.cons_append, List.take_succ_cons, List.cons.injEq, true_and]
      exact fr_pad k _ m (by omega)
theorem pad_fr (p : Nat) : pad (fr 6 p) = dgs 6 p := fr_pad 6 p 6 (Nat.le_refl _)
theorem dgs6_val (n p : Nat) (h : p < 1000000) : dval n (dgs 6 p) = n * 1000000 + p := by
  simp only [dgs, dval_cons, dval_nil]
  rw [dig_of (by omega), dig_of (by omega), dig_of (by omega), dig_of (by omega), dig_of (by omega), dig_of (by omega)]
  omega
theorem fr_all : ∀ (k p : Nat), p < 1000000 → (fr k p).all isD = true
  | 0, _, _ => rfl
  | k + 1, p, h => by
    unfold fr
    split
    · rfl
    · simp only [List.all_cons, isD_of (show p / 100000 < 10 by omega), fr_all k (p % 100000 * 10) (by omega), Bool.and_self]
/-- The last digit is no nought. -/
theorem fr_last : ∀ (k p : Nat), p < 1000000 → p ≠ 0 → p * 10 ^ k % 1000000 = 0 → ∃ l c, fr k p = l ++ [c] ∧ 1 ≤ dig c
  | 0, p, h, h0, hm => by simp at hm; omega
  | k + 1, p, h, h0, hm => by
    have hq : (p % 100000 * 10) * 10 ^ k % 1000000 = 0 := by
      have e : p * 10 ^ (k + 1) = (p % 100000 * 10) * 10 ^ k + p / 100000 * 10 ^ k * 1000000 := by
        have := Nat.div_add_mod p 100000
        rw [Nat.pow_succ]
        generalize p / 100000 = a at *
        generalize p % 100000 = b at *
        rw [← this, Nat.add_mul, ← Nat.mul_assoc, ← Nat.mul_assoc, Nat.mul_assoc 100000, Nat.mul_right_comm b 10]
        omega
      rw [e] at hm
      omega
    unfold fr
    rw [if_neg h0]
    by_cases hr : p % 100000 * 10 = 0
    · have e0 : fr k (p % 100000 * 10) = [] := by rw [hr]; cases k <;> simp [fr]
      exact ⟨[], _, by rw [e0]; rfl, by rw [dig_of (by omega)]; omega⟩
    · obtain ⟨l, c, he, hc⟩ := fr_last k _ (by omega) hr hq
      exact ⟨_ :: l, c, by rw [he]; rfl, hc⟩

/-! ## a text of a sign, digits, and perhaps a point and digits -/
theorem dval_rep (n m : Nat) : dval n (List.replicate m 48) = n * 10 ^ m := by
  induction m generalizing n with
  | zero => simp [dval_nil]
  | succ m ih =>
    rw [List.replicate_succ, dval_cons, ih, Nat.pow_succ]
    have : dig 48 = 0 := rfl
    rw [this, Nat.add_zero, Nat.mul_assoc, Nat.mul_comm 10]
theorem pad_val {f : List UInt8} (hf : f.length ≤ 6) (n : Nat) : dval n (pad f) = dval n f * 10 ^ (6 - f.length) := by
  have : pad f = f ++ List.replicate (6 - f.length) 48 := by
    unfold pad
    rw [List.take_append, List.take_of_length_le hf]
    congr 1
    have e : ([48, 48, 48, 48, 48, 48] : List UInt8) = List.replicate 6 48 := rfl
    rw [e, List.take_replicate]
    congr 1
    omega
  rw [this, dval_append, dval_rep]
theorem upB_short {f : List UInt8} (hf : f.length ≤ 6) : upB f = false := by
  unfold upB
  rw [List.getElem?_eq_none (by omega)]

def tailOk (f t : List UInt8) : Prop := (t = [] ∧ f = []) ∨ t = 46 :: f
theorem parts_ok {D f t : List UInt8} (hD : D.all isD = true) (hf : f.all isD = true) (ht : tailOk f t) (hne : D ++ f ≠ []) : parts (D ++ t) = some (D, f) := by
  have htw : (D ++ t).takeWhile isD = D ∧ (D ++ t).dropWhile isD = t := tw_app hD (fun c r e => by
    rcases ht with ⟨rfl, _⟩ | rfl
    · cases e
    · cases e; exact isD_pt)
  unfold parts
  rw [htw.1, htw.2]
  rcases ht with ⟨rfl, rfl⟩ | rfl
  · have : D ≠ [] := by simpa using hne
    simp [this]
  · have : f.dropWhile isD = [] := by have := (tw_app (R := []) hf (fun c t h => by cases h)).2; simpa using this
    simp only [this, true_and]
    rw [if_pos hne]
theorem parse_num {neg : Bool} {D f t : List UInt8} (hD : D.all isD = true) (hf : f.all isD = true) (ht : tailOk f t) (hne : D ++ f ≠ []) (hl : f.length ≤ 6) (hlen : D.length + t.length + 1 ≤ 64)
    (hv : (dval 0 D) * 1000000 + dval 0 f * 10 ^ (6 - f.length) ≤ 9223372036854775807) :
    parse ((if neg then [45] else []) ++ (D ++ t)) = .ok (if neg then -(((dval 0 D) * 1000000 + dval 0 f * 10 ^ (6 - f.length) : Nat) : Int) else (((dval 0 D) * 1000000 + dval 0 f * 10 ^ (6 - f.length) : Nat) : Int)) := by
  have hval : dval 0 (D ++ pad f) = (dval 0 D) * 1000000 + dval 0 f * 10 ^ (6 - f.length) := by
    rw [dval_append, pad_val hl, dval_from, Nat.add_mul, Nat.mul_assoc, ← Nat.pow_add, show f.length + (6 - f.length) = 6 by omega]
  have hhead : ∀ c r, D ++ t = c :: r → ¬ (c = 45 ∨ c = 43) ∧ ¬ c = 45 := by
    intro c r e
    have : isD c = true ∨ c = 46 := by
      cases D with
      | nil =>
        rcases ht with ⟨rfl, _⟩ | rfl
        · cases e
        · cases e; exact .inr rfl
      | cons d D =>
        cases e
        simp only [List.all_cons, Bool.and_eq_true] at hD
        exact .inl hD.1
    rcases this with h | h
    · have := (isD_iff c).1 h
      refine ⟨fun h => ?_, fun h => ?_⟩
      · rcases h with rfl | rfl <;> simp at this
      · subst h; simp at this
    · subst h; decide
  have hne' : D ++ t ≠ [] := by
    rcases ht with ⟨rfl, rfl⟩ | rfl
    · exact hne
    · simp
  have hun : unsign ((if neg then [45] else []) ++ (D ++ t)) = D ++ t ∧ below ((if neg then [45] else []) ++ (D ++ t)) = neg := by
    cases neg with
    | true => exact ⟨rfl, rfl⟩
    | false =>
      simp only [Bool.false_eq_true, if_false, List.nil_append]
      cases e : D ++ t with
      | nil => exact absurd e hne'
      | cons c r =>
        obtain ⟨h1, h2⟩ := hhead c r e
        simp [unsign, below, h1, h2]
        intro h3
        exact absurd (Or.inr h3) h1
  have hlen' : ¬ 64 < ((if neg then [45] else []) ++ (D ++ t)).length := by
    cases neg <;> simp <;> omega
  unfold parse
  rw [if_neg hlen', hun.1, hun.2, parts_ok hD hf ht hne]
  simp only [upB_short hl, hval, Bool.false_eq_true, if_false, Nat.add_zero]
  rw [if_neg (by omega)]

theorem frac_tail (p : Nat) : tailOk (fr 6 p) (frac p) := by
  unfold frac tailOk
  split
  · rename_i h; subst h; exact .inl ⟨rfl, by simp [fr]⟩
  · exact .inr rfl
theorem fr_val {p : Nat} (h : p < 1000000) : dval 0 (fr 6 p) * 10 ^ (6 - (fr 6 p).length) = p := by
  rw [← pad_val (fr_len 6 p), pad_fr, dgs6_val 0 p h]; omega
theorem frac_len (p : Nat) : (frac p).length ≤ 7 := by
  have := fr_len 6 p
  unfold frac
  split <;> simp
  omega

theorem prn_eq {v : Int} (h0 : v ≠ -9223372036854775808) : prn false v = (if decide (v < 0) then [45] else []) ++ (Lib.decDigits (v.natAbs / 1000000) ++ frac (v.natAbs % 1000000)) := by
  simp [prn, h0]
theorem prn_len {v : Int} (h0 : v ≠ -9223372036854775808) (hb : v.natAbs ≤ 9223372036854775807) : (prn false v).length ≤ 21 := by
  rw [prn_eq h0]
  have h1 := dd_len13 (n := v.natAbs / 1000000) (by omega)
  have h2 := frac_len (v.natAbs % 1000000)
  simp only [List.length_append]
  split <;> simp <;> omega
theorem parse_prn {v : Int} (h0 : v ≠ -9223372036854775808) (hb : v.natAbs ≤ 9223372036854775807) : parse (prn false v) = .ok v := by
  have h1 := dd_len13 (n := v.natAbs / 1000000) (by omega)
  have h2 := frac_len (v.natAbs % 1000000)
  obtain ⟨h3, h4⟩ := dd_all (v.natAbs / 1000000)
  have h5 := fr_val (p := v.natAbs % 1000000) (by omega)
  rw [prn_eq h0, parse_num h3 (fr_all 6 _ (by omega)) (frac_tail _) (by simp [dd_ne]) (fr_len 6 _) (by omega) (by rw [h4, h5]; omega), h4, h5]
  congr 1
  by_cases hneg : v < 0
  · simp [hneg]; omega
  · simp [hneg]; omega
theorem parse_none (h : Bool) (v : Int) (hn : h = true ∨ v = -9223372036854775808) : prn h v = [78, 111, 110, 101] := by
  simp [prn, hn]
theorem parse_None : parse [78, 111, 110, 101] = .error 2 := by rfl

/-! ## shorter texts -/
theorem take_pred {A : List UInt8} {c : UInt8} : (A ++ [c]).take ((A ++ [c]).length - 1) = A := by simp
theorem sgn_lt {b : Bool} {v : Int} {n : Nat} (hb : b = decide (v < 0)) (h : n < v.natAbs) : (if b then -(n : Int) else (n : Int)) ≠ v := by
  by_cases hv : v < 0
  · simp [hb, hv]; omega
  · simp [hb, hv]; omega
theorem drop_last {v : Int} (h0 : v ≠ -9223372036854775808) (hb : v.natAbs ≤ 9223372036854775807) {r : Int} (hr : parse ((prn false v).take ((prn false v).length - 1)) = .ok r) : r ≠ v := by
  have h1 := dd_len13 (n := v.natAbs / 1000000) (by omega)
  obtain ⟨h3, h4⟩ := dd_all (v.natAbs / 1000000)
  have hfl := fr_len 6 (v.natAbs % 1000000)
  have hfv := fr_val (p := v.natAbs % 1000000) (by omega)
  have hfa := fr_all 6 (v.natAbs % 1000000) (by omega)
  have hfz := fr_last 6 (v.natAbs % 1000000) (by omega)
  obtain ⟨q, hq⟩ : ∃ q, q = v.natAbs / 1000000 := ⟨_, rfl⟩
  obtain ⟨p, hp⟩ : ∃ p, p = v.natAbs % 1000000 := ⟨_, rfl⟩
  have huv : v.natAbs = q * 1000000 + p := by omega
  obtain ⟨b, hbv⟩ : ∃ b, b = decide (v < 0) := ⟨_, rfl⟩
  have hp6 : p < 1000000 := by omega
  rw [prn_eq h0] at hr
  rw [← hq] at h1 h3 h4 hr
  rw [← hp] at hfl hfv hfa hfz hr
  rw [← hbv] at hr
  clear hq hp
  by_cases hp0 : p = 0
  · have hF : frac p = [] := by simp [frac, hp0]
    rw [hF, List.append_nil] at hr
    by_cases hq10 : q < 10
    · rw [Lib.decDigits_one hq10, take_pred] at hr
      cases b <;> simp [parse, unsign, parts] at hr
    · have hD : Lib.decDigits q = Lib.decDigits (q / 10) ++ [UInt8.ofNat (48 + q % 10)] := by rw [Lib.decDigits, dif_neg hq10]
      obtain ⟨h5, h6⟩ := dd_all (q / 10)
      have hl5 : (Lib.decDigits (q / 10)).length + 1 ≤ 13 := by rw [hD] at h1; simpa using h1
      rw [hD, ← List.append_assoc, take_pred] at hr
      have := parse_num (neg := b) (D := Lib.decDigits (q / 10)) (f := []) (t := []) h5 rfl (.inl ⟨rfl, rfl⟩) (by simp [dd_ne]) (by simp) (by simp; omega) (by rw [h6, dval_nil]; omega)
      rw [List.append_nil] at this
      rw [this, h6, dval_nil] at hr
      cases hr
      exact sgn_lt hbv (by omega)
  · obtain ⟨l, c, hlc, hc⟩ := hfz hp0 (by omega)
    have hF : frac p = 46 :: l ++ [c] := by simp [frac, hp0, hlc]
    rw [hlc] at hfl hfv hfa
    simp only [List.length_append, List.length_cons, List.length_nil] at hfl
    simp only [List.all_append, Bool.and_eq_true] at hfa
    rw [dval_snoc] at hfv
    rw [hF, ← List.append_assoc, ← List.append_assoc, take_pred, List.append_assoc] at hr
    have hx : 10 ^ (6 - l.length) = 10 * 10 ^ (5 - l.length) := by rw [show 6 - l.length = (5 - l.length) + 1 by omega, Nat.pow_succ, Nat.mul_comm]
    have hx1 : 1 ≤ 10 ^ (5 - l.length) := Nat.pos_of_ne_zero (by simp)
    have hx2 : 6 - (l ++ [c]).length = 5 - l.length := by simp
    rw [hx2, Nat.add_mul, Nat.mul_assoc, ← hx] at hfv
    have hx3 : 1 ≤ dig c * 10 ^ (5 - l.length) := Nat.mul_le_mul hc hx1
    have hlt : dval 0 l * 10 ^ (6 - l.length) < p := by omega
    have := parse_num (neg := b) (D := Lib.decDigits q) (f := l) (t := 46 :: l) h3 hfa.1 (.inr rfl) (by simp [dd_ne]) (by omega) (by simp; omega) (by rw [h4]; omega)
    rw [this, h4] at hr
    cases hr
    exact sgn_lt hbv (by omega)
theorem drop_first {v : Int} (h0 : v ≠ -9223372036854775808) (hb : v.natAbs ≤ 9223372036854775807) {r : Int} (hr : parse ((prn false v).drop 1) = .ok r) : (0 < v ∧ v < 1000000) ↔ r = v := by
  have h1 := dd_len13 (n := v.natAbs / 1000000) (by omega)
  obtain ⟨h3, h4⟩ := dd_all (v.natAbs / 1000000)
  have hfl := fr_len 6 (v.natAbs % 1000000)
  have hfv := fr_val (p := v.natAbs % 1000000) (by omega)
  have hfa := fr_all 6 (v.natAbs % 1000000) (by omega)
  have hft := frac_tail (v.natAbs % 1000000)
  have hf7 := frac_len (v.natAbs % 1000000)
  obtain ⟨q, hq⟩ : ∃ q, q = v.natAbs / 1000000 := ⟨_, rfl⟩
  obtain ⟨p, hp⟩ : ∃ p, p = v.natAbs % 1000000 := ⟨_, rfl⟩
  have huv : v.natAbs = q * 1000000 + p := by omega
  have hp6 : p < 1000000 := by omega
  rw [prn_eq h0] at hr
  rw [← hq] at h1 h3 h4 hr
  rw [← hp] at hfl hfv hfa hft hf7 hr
  clear hq hp
  by_cases hneg : v < 0
  · simp only [hneg, decide_true, if_true, List.cons_append, List.nil_append, List.drop_one, List.tail_cons] at hr
    have := parse_num (neg := false) h3 hfa hft (by simp [dd_ne]) hfl (by omega) (by rw [h4, hfv]; omega)
    simp only [Bool.false_eq_true, if_false, List.nil_append, h4, hfv] at this
    rw [this] at hr
    cases hr
    omega
  · simp only [hneg, decide_false, Bool.false_eq_true, if_false, List.nil_append] at hr
    by_cases hq10 : q < 10
    · rw [Lib.decDigits_one hq10] at hr
      simp only [List.cons_append, List.nil_append, List.drop_one, List.tail_cons] at hr
      by_cases hp0 : p = 0
      · have hF : frac p = [] := by simp [frac, hp0]
        rw [hF] at hr
        simp [parse, unsign, parts] at hr
      · have hfn : fr 6 p ≠ [] := by
          intro h
          rw [h, dval_nil] at hfv
          omega
        have := parse_num (neg := false) (D := []) rfl hfa hft (by simpa using hfn) hfl (by simp; omega) (by rw [hfv, dval_nil]; omega)
        simp only [Bool.false_eq_true, if_false, List.nil_append, hfv, dval_nil] at this
        rw [this] at hr
        cases hr
        omega
    · obtain ⟨c, t, he, hc⟩ := dd_head q (by omega)
      rw [he] at h1 h3 h4 hr
      simp only [List.length_cons] at h1
      simp only [List.all_cons, Bool.and_eq_true] at h3
      simp only [List.cons_append, List.drop_one, List.tail_cons] at hr
      rw [dval_cons, dval_from] at h4
      have hc9 : dig c ≤ 9 := by have := (isD_iff c).1 h3.1; unfold dig; omega
      have htn : t ≠ [] := by
        intro h
        subst h
        simp [dval_nil] at h4
        omega
      have hx1 : 1 ≤ 10 ^ t.length := Nat.pos_of_ne_zero (by simp)
      have hx2 : 1 ≤ (0 * 10 + dig c) * 10 ^ t.length := Nat.mul_pos (by omega) (by omega)
      have := parse_num (neg := false) (D := t) h3.2 hfa hft (by simp [htn]) hfl (by omega) (by rw [hfv]; omega)
      simp only [Bool.false_eq_true, if_false, List.nil_append, hfv] at this
      rw [this] at hr
      cases hr
      omega
end Go.Dec
