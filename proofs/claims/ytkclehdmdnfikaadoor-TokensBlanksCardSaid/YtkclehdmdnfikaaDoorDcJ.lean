/- Numbers as text: the laws of what is printed and parsed again, and of shorter texts. -/
import Derived.Test.YtkclehdmdnfikaaDoorDcG
import Derived.Test.YtkclehdmdnfikaaDoorDcI
set_option linter.unusedSimpArgs false
set_option linter.unusedVariables false
set_option linter.constructorNameAsVariable false
set_option maxHeartbeats 2000000
namespace Go.Dec
theorem parse_bound {s : List UInt8} {m : Int} (h : parse s = .ok m) : m ≠ -9223372036854775808 ∧ m.natAbs ≤ 9223372036854775807 := by
  unfold parse at h
  by_cases h1 : 64 < s.length
  · rw [if_pos h1] at h; cases h
  rw [if_neg h1] at h
  cases hp : parts (unsign s) with
  | none => rw [hp] at h; cases h
  | some wp =>
    obtain ⟨w, p⟩ := wp
    rw [hp] at h
    dsimp only at h
    obtain ⟨n, hn⟩ : ∃ n, n = dval 0 (w ++ pad p) + (if upB p = true then 1 else 0) := ⟨_, rfl⟩
    rw [← hn] at h
    by_cases hx : 9223372036854775807 < n
    · rw [if_pos hx] at h; cases h
    · rw [if_neg hx] at h
      cases hb : below s <;> simp [hb] at h <;> omega
theorem parse_err {s : List UInt8} {e : Nat} (h : parse s = .error e) : e ≠ 0 := by
  unfold parse at h
  by_cases h1 : 64 < s.length
  · rw [if_pos h1] at h; cases h; decide
  rw [if_neg h1] at h
  cases hp : parts (unsign s) with
  | none => rw [hp] at h; cases h; decide
  | some wp =>
    obtain ⟨w, p⟩ := wp
    rw [hp] at h
    dsimp only at h
    obtain ⟨n, hn⟩ : ∃ n, n = dval 0 (w ++ pad p) + (if upB p = true then 1 else 0) := ⟨_, rfl⟩
    rw [← hn] at h
    by_cases hx : 9223372036854775807 < n
    · rw [if_pos hx] at h; cases h; decide
    · rw [if_neg hx] at h
      cases h
theorem prn_pos (v : Int) : 1 ≤ (prn false v).length := by
  unfold prn
  split
  · simp
  · have := dd_ne (v.natAbs / 1000000)
    have : 1 ≤ (Lib.decDigits (v.natAbs / 1000000)).length := by
      cases h : Lib.decDigits (v.natAbs / 1000000) with
      | nil => exact absurd h this
      | cons => simp
    simp only [List.length_append]
    omega
end Go.Dec
namespace Go.Proofs.YtkclehdmdnfikaaDoor
open Go.Abs Go.Dec
variable {G : Globs}

theorem rRight_ok (nl : Bool) (v : Int) : PCalls Tryd.prog n_isobarref02_Right [.agg [.bool nl, .int .i64 v]] (fun r => r = .bool (if nl then decide (v = 0) else !decide (v = -9223372036854775808))) := by
  refine pcalls_of_awp hmix c_isobarref02_Right rfl ?_
  simp [a_isobarref02_Right]
  cases nl with
  | true => simp
  | false => simp

/-- What is printed of a number is parsed as it. -/
theorem back_law [GDec] (nl : Bool) (v : Int) (s : List UInt8) (h0 : -9223372036854775808 ≤ v) (h1 : v ≤ 9223372036854775807) (hs : s.length ≤ 9223372036854775807) :
    PCalls Tryd.prog n_isobarlaw03_DecimalBack [.agg [.bool nl, .int .i64 v], .str s] (fun r => r = .bool true) := by
  refine pcalls_of_awp hmix c_isobarlaw03_DecimalBack rfl ?_
  simp [a_isobarlaw03_DecimalBack]
  refine ac_same aliveD_ok (by simp) ?_
  rintro r rfl
  simp
  refine ac_same (dParse_ok s hs) (by simp) ?_
  rintro r rfl
  cases hps : parse s with
  | ok m =>
    obtain ⟨hm0, hm1⟩ := parse_bound hps
    simp [numAV]
    refine ac_same (dPrint_ok false m (by omega) (by omega)) (by simp) ?_
    rintro r rfl
    simp
    have hpl := prn_len hm0 hm1
    refine ac_same (dParse_ok (prn false m) (by omega)) (by simp) ?_
    rintro r rfl
    rw [parse_prn hm0 hm1]
    simp [numAV]
    refine ac_same (rRight_ok false m) (by simp) ?_
    rintro r rfl
    simp [hm0]
    refine ac_same (dPrint_ok nl v h0 h1) (by simp) ?_
    rintro r rfl
    by_cases hn : nl = true ∨ v = -9223372036854775808
    · rw [parse_none nl v hn]
      simp
      refine ac_same (dParse_ok [78, 111, 110, 101] (by simp)) (by simp) ?_
      rintro r rfl
      rw [parse_None]
      simp [numAV]
      refine ac_same (rRight_ok nl v) (by simp) ?_
      rintro r rfl
      cases nl with
      | true =>
        by_cases hv : v = 0
        · simp [hv]
        · simp [hv]
      | false =>
        have hv : v = -9223372036854775808 := by simpa using hn
        simp [hv]
    · have hnl : nl = false := by cases nl <;> simp_all
      subst hnl
      have hv : ¬ v = -9223372036854775808 := by simpa using hn
      have hvl := prn_len hv (by omega)
      have hvp := parse_prn hv (by omega)
      have hvl' : ((prn false v).length : Int) ≤ 21 := by omega
      simp
      refine ac_same (dParse_ok (prn false v) (by omega)) (by simp) ?_
      rintro r rfl
      rw [hvp]
      simp [numAV]
      refine ac_same (rRight_ok false v) (by simp) ?_
      rintro r rfl
      simp [hv, hvl, hvl']
  | error e =>
    have he := parse_err hps
    simp [numAV, he]
    refine ac_same (dPrint_ok nl v h0 h1) (by simp) ?_
    rintro r rfl
    by_cases hn : nl = true ∨ v = -9223372036854775808
    · rw [parse_none nl v hn]
      simp
      refine ac_same (dParse_ok [78, 111, 110, 101] (by simp)) (by simp) ?_
      rintro r rfl
      rw [parse_None]
      simp [numAV]
      refine ac_same (rRight_ok nl v) (by simp) ?_
      rintro r rfl
      cases nl with
      | true =>
        by_cases hv : v = 0
        · simp [hv]
        · simp [hv]
      | false =>
        have hv : v = -9223372036854775808 := by simpa using hn
        simp [hv]
    · have hnl : nl = false := by cases nl <;> simp_all
      subst hnl
      have hv : ¬ v = -9223372036854775808 := by simpa using hn
      have hvl := prn_len hv (by omega)
      have hvp := parse_prn hv (by omega)
      have hvl' : ((prn false v).length : Int) ≤ 21 := by omega
      simp
      refine ac_same (dParse_ok (prn false v) (by omega)) (by simp) ?_
      rintro r rfl
      rw [hvp]
      simp [numAV]
      refine ac_same (rRight_ok false v) (by simp) ?_
      rintro r rfl
      simp [hv, hvl, hvl']
theorem short_law [GDec] (nl : Bool) (v : Int) (h0 : -9223372036854775808 ≤ v) (h1 : v ≤ 9223372036854775807) :
    PCalls Tryd.prog n_isobarlaw03_DecimalShort [.agg [.bool nl, .int .i64 v]] (fun r => r = .bool true) := by
  refine pcalls_of_awp hmix c_isobarlaw03_DecimalShort rfl ?_
  simp [a_isobarlaw03_DecimalShort]
  refine ac_same aliveD_ok (by simp) ?_
  rintro r rfl
  simp
  refine ac_same (dPrint_ok nl v h0 h1) (by simp) ?_
  rintro r rfl
  by_cases hn : nl = true ∨ v = -9223372036854775808
  · rw [parse_none nl v hn]
    simp
    refine ac_same (rRight_ok nl v) (by simp) ?_
    rintro r rfl
    cases nl with
    | true =>
      by_cases hv : v = 0
      · simp [hv]
      · simp [hv]
    | false =>
      have hv : v = -9223372036854775808 := by simpa using hn
      simp [hv]
  · have hnl : nl = false := by cases nl <;> simp_all
    subst hnl
    have hv : ¬ v = -9223372036854775808 := by simpa using hn
    have hvl := prn_len hv (by omega)
    have hvp := prn_pos v
    obtain ⟨k, hk⟩ : ∃ k, (prn false v).length = k + 1 := ⟨(prn false v).length - 1, by omega⟩
    have hwk : IntKind.i64.wrap (k : Int) = (k : Int) := wrap_i64 (by omega) (by omega)
    have hl : ∀ r, parse ((prn false v).take k) = .ok r → r ≠ v := fun r hr => drop_last hv (by omega) (by rw [hk, Nat.add_sub_cancel]; exact hr)
    have hf : ∀ r, parse ((prn false v).drop 1) = .ok r → ((0 < v ∧ v < 1000000) ↔ r = v) := fun r hr => drop_first hv (by omega) hr
    simp
    refine ac_same (rRight_ok false v) (by simp) ?_
    rintro r rfl
    have hd0 : ((prn false v).drop 1).length ≤ 9223372036854775807 := by rw [List.length_drop]; omega
    have ht0 : ((prn false v).take k).length ≤ 9223372036854775807 := by rw [List.length_take]; omega
    have hkk : (k : Int) ≤ (k : Int) + 1 := by omega
    have hk1 : (1 : Int) ≤ (k : Int) + 1 := by omega
    generalize prn false v = T at *
    simp only [List.drop_one] at hd0 hf
    have hT1 : T.take (k + 1) = T := List.take_of_length_le (by omega)
    simp [hv, hk, hwk, hkk, hk1, hT1]
    refine ac_same (dParse_ok (T.take k) ht0) (by simp) ?_
    rintro r rfl
    obtain ⟨n, e, h1⟩ : ∃ (n : Int) (e : Int), numAV (parse (T.take k)) = .tup [.agg [.bool false, .int .i64 n], .int .i64 e] ∧ (e = 0 → n ≠ v) := by
      cases hp : parse (T.take k) with
      | ok m => exact ⟨m, 0, rfl, fun _ => hl m hp⟩
      | error e => exact ⟨0, e, rfl, fun h => absurd (by omega) (parse_err hp)⟩
    obtain ⟨m, f, h2⟩ : ∃ (n : Int) (e : Int), numAV (parse T.tail) = .tup [.agg [.bool false, .int .i64 n], .int .i64 e] ∧ (e = 0 → ((0 < v ∧ v < 1000000) ↔ n = v)) := by
      cases hp : parse T.tail with
      | ok m => exact ⟨m, 0, rfl, fun _ => hf m hp⟩
      | error e => exact ⟨0, e, rfl, fun h => absurd (by omega) (parse_err hp)⟩
    rw [h1.1]
    simp [hk, hk1, hT1]
    refine ac_same (dParse_ok T.tail hd0) (by simp) ?_
    rintro r rfl
    rw [h2.1]
    have hx := h1.2
    have hy := h2.2
    clear h1 h2 hl hf
    by_cases he : e = 0
    · have hnv : ¬ n = v := hx he
      by_cases hf0 : f = 0
      · have hiff := hy hf0
        by_cases ha : 0 < v
        · by_cases hb : v < 1000000
          · have hc : m = v := by omega
            simp [he, hf0, ha, hb, hc, hnv]
          · have hc : ¬ m = v := by omega
            simp [he, hf0, ha, hb, hc, hnv]
        · have hc : ¬ m = v := by omega
          simp [he, hf0, ha, hc, hnv]
      · by_cases ha : 0 < v
        · simp [he, hf0, ha, hnv]
        · simp [he, hf0, ha, hnv]
    · by_cases hf0 : f = 0
      · have hiff := hy hf0
        by_cases ha : 0 < v
        · by_cases hb : v < 1000000
          · have hc : m = v := by omega
            simp [he, hf0, ha, hb, hc]
          · have hc : ¬ m = v := by omega
            simp [he, hf0, ha, hb, hc]
        · have hc : ¬ m = v := by omega
          simp [he, hf0, ha, hc]
      · by_cases ha : 0 < v
        · simp [he, hf0, ha]
        · simp [he, hf0, ha]
end Go.Proofs.YtkclehdmdnfikaaDoor
