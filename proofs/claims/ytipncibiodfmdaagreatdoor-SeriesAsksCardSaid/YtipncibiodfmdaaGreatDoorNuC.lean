/- Numbers: quotients of wide, and of fixed. -/
import Derived.Test.YtipncibiodfmdaaGreatDoorNuB
set_option linter.unusedSimpArgs false
set_option linter.unusedVariables false
set_option linter.constructorNameAsVariable false
set_option maxHeartbeats 2000000
namespace Go.Num
open Go.Abs
theorem wA_eq {hi lo n : Nat} (h1 : hi = n / 18446744073709551616) (h2 : lo = n % 18446744073709551616) : wA n = .agg [.int .u64 (hi : Int), .int .u64 (lo : Int)] := by subst h1 h2; rfl
end Go.Num
namespace Go.Proofs.YtipncibiodfmdaaGreatDoor
open Go.Abs Go.Num
variable {G : Globs}
theorem wAdd_ok (a b : Nat) (ha : a < 340282366920938463463374607431768211456) (hb : b < 340282366920938463463374607431768211456) :
    PCalls Tryz.prog n_wide_Add [wA a, wA b] (fun r => r = .tup [wA ((a + b) % 340282366920938463463374607431768211456), .bool (decide (340282366920938463463374607431768211456 ≤ a + b))]) := by
  obtain ⟨ah, hah⟩ : ∃ x, x = a / 18446744073709551616 := ⟨_, rfl⟩
  obtain ⟨al, hal⟩ : ∃ x, x = a % 18446744073709551616 := ⟨_, rfl⟩
  obtain ⟨bh, hbh⟩ : ∃ x, x = b / 18446744073709551616 := ⟨_, rfl⟩
  obtain ⟨bl, hbl⟩ : ∃ x, x = b % 18446744073709551616 := ⟨_, rfl⟩
  rw [wA_eq hah hal, wA_eq hbh hbl]
  obtain ⟨s0, hs0⟩ : ∃ x, x = (al + bl) % 18446744073709551616 := ⟨_, rfl⟩
  obtain ⟨c0, hc0⟩ : ∃ x, x = (al + bl) / 18446744073709551616 := ⟨_, rfl⟩
  obtain ⟨s1, hs1⟩ : ∃ x, x = (ah + bh + c0) % 18446744073709551616 := ⟨_, rfl⟩
  obtain ⟨c1, hc1⟩ : ∃ x, x = (ah + bh + c0) / 18446744073709551616 := ⟨_, rfl⟩
  rw [wA_eq (hi := s1) (lo := s0) (n := (a + b) % 340282366920938463463374607431768211456) (by omega) (by omega)]
  have e1 : ((al : Int) + bl) % 18446744073709551616 = s0 := by omega
  have e2 : ((al : Int) + bl) / 18446744073709551616 = c0 := by omega
  have e3 : ((ah : Int) + bh + c0) % 18446744073709551616 = s1 := by omega
  have e4 : ((ah : Int) + bh + c0) / 18446744073709551616 = c1 := by omega
  have hc : (c0 : Int) ≤ 1 := by omega
  have hcn : c0 ≤ 1 := by omega
  have e5 : decide (c1 = 1) = decide (340282366920938463463374607431768211456 ≤ a + b) := by
    congr 1; apply propext; omega
  have e6 : decide ((c1 : Int) = 1) = decide (340282366920938463463374607431768211456 ≤ a + b) := by
    congr 1; apply propext; omega
  refine pcalls_of_awp hmix c_wide_Add rfl ?_
  simp [a_wide_Add, e1, e2, e3, e4, hc, hcn, e5, e6]
  try omega
theorem wDiv_ok (a d : Nat) (ha : a < 340282366920938463463374607431768211456) (hd : d < 18446744073709551616) :
    PCalls Tryz.prog n_wide_Div [wA a, .int .u64 d] (fun r => r = if d = 0 then .tup [wA 0, .int .u64 0, .int .i64 1] else .tup [wA (a / d), .int .u64 ((a % d : Nat) : Int), .int .i64 0]) := by
  refine pcalls_of_awp hmix c_wide_Div rfl ?_
  by_cases h0 : d = 0
  · subst h0
    simp [a_wide_Div, wA]
  obtain ⟨ah, hah⟩ : ∃ x, x = a / 18446744073709551616 := ⟨_, rfl⟩
  obtain ⟨al, hal⟩ : ∃ x, x = a % 18446744073709551616 := ⟨_, rfl⟩
  rw [wA_eq hah hal]
  have h0' : ¬ (d : Int) = 0 := by omega
  obtain ⟨q1, hq1⟩ : ∃ x, x = ah / d := ⟨_, rfl⟩
  obtain ⟨r1, hr1⟩ : ∃ x, x = ah % d := ⟨_, rfl⟩
  have e1 : IntKind.u64.wrap ((ah : Int) / d) = q1 := by rw [u_div ah d (by omega), hq1]
  have e2 : (ah : Int).tmod d = r1 := by rw [Int.tmod_eq_emod_of_nonneg (by omega), u_mod, hr1]
  have hr1d : r1 < d := by rw [hr1]; exact Nat.mod_lt _ (by omega)
  obtain ⟨t1, t2⟩ := two_digits (y := d) (h := ah) (l := al) (B := 18446744073709551616) (by omega)
  have hal' : ah * 18446744073709551616 + al = a := by omega
  rw [hal', ← hq1, ← hr1] at t1
  rw [hal', ← hr1] at t2
  obtain ⟨q0, hq0⟩ : ∃ x, x = (r1 * 18446744073709551616 + al) / d := ⟨_, rfl⟩
  have hq0M : q0 < 18446744073709551616 := by
    rw [hq0, Nat.div_lt_iff_lt_mul (by omega)]
    have : (r1 + 1) * 18446744073709551616 ≤ d * 18446744073709551616 := Nat.mul_le_mul_right _ hr1d
    rw [Nat.mul_comm 18446744073709551616 d]; omega
  rw [← hq0] at t1
  have hAD : wA (a / d) = .agg [.int .u64 (q1 : Int), .int .u64 (q0 : Int)] := wA_eq (by omega) (by omega)
  rw [if_neg h0, hAD, t2]
  simp [a_wide_Div, h0, h0', e1, e2]
  refine ac_same (div64_ok r1 al d hr1d hd (by omega)) (by simp) ?_
  rw [← hq0]
  rintro r rfl
  simp
theorem wRound_ok (a d : Nat) (ha : a < 340282366920938463463374607431768211456) (hd : d < 18446744073709551616) :
    PCalls Tryz.prog n_wide_Round [wA a, .int .u64 d] (fun r => r = if d = 0 then .tup [.int .u64 0, .int .i64 1] else if rnd a d < 18446744073709551616 then .tup [.int .u64 ((rnd a d : Nat) : Int), .int .i64 0] else .tup [.int .u64 0, .int .i64 3]) := by
  refine pcalls_of_awp hmix c_wide_Round rfl ?_
  have hwb : wA a = .agg [.int .u64 ((a / 18446744073709551616 : Nat) : Int), .int .u64 ((a % 18446744073709551616 : Nat) : Int)] := rfl
  by_cases h0 : d = 0
  · subst h0
    rw [hwb]
    simp [a_wide_Round]
    refine ac_same (wDiv_ok a 0 ha (by decide)) (by simp [wA]) ?_
    rintro r rfl
    simp [wA]
  rw [if_neg h0]
  rw [hwb]
  simp [a_wide_Round]
  refine ac_same (wDiv_ok a d ha hd) (by simp [wA]) ?_
  rw [if_neg h0]
  obtain ⟨q, hq⟩ : ∃ x, x = a / d := ⟨_, rfl⟩
  obtain ⟨m, hm⟩ : ∃ x, x = a % d := ⟨_, rfl⟩
  have hmd : m < d := by rw [hm]; exact Nat.mod_lt _ (by omega)
  rw [← hq, ← hm]
  rintro r rfl
  have hrnd : rnd a d = q + (if d - m ≤ m then 1 else 0) := by rw [rnd, ← hq, ← hm]
  rw [hrnd]
  have hwq : wA q = .agg [.int .u64 ((q / 18446744073709551616 : Nat) : Int), .int .u64 ((q % 18446744073709551616 : Nat) : Int)] := rfl
  have hsub : IntKind.u64.wrap ((d : Int) - m) = ((d - m : Nat) : Int) := by rw [wrap_u]; omega
  obtain ⟨dm, hdm⟩ : ∃ x, x = d - m := ⟨_, rfl⟩
  rw [← hdm] at hsub
  have hqa : q < 340282366920938463463374607431768211456 := by rw [hq]; exact Nat.lt_of_le_of_lt (Nat.div_le_self _ _) ha
  obtain ⟨qh, hqh⟩ : ∃ x, x = q / 18446744073709551616 := ⟨_, rfl⟩
  obtain ⟨ql, hql⟩ : ∃ x, x = q % 18446744073709551616 := ⟨_, rfl⟩
  rw [wA_eq hqh hql]
  simp [hsub]
  refine cb_dec (fun h => ?_) (fun h => ?_)
  · have h' : d - m ≤ m := by omega
    have hq2 : q + 1 < 340282366920938463463374607431768211456 := by
      have hd2 : 2 ≤ d := by omega
      have : a / d ≤ a / 2 := Nat.div_le_div_left hd2 (by decide)
      omega
    simp
    have hA := wAdd_ok (G := G) q 1 hqa (by decide)
    rw [wA_eq hqh hql, show wA 1 = .agg [.int .u64 0, .int .u64 1] from rfl] at hA
    refine ac_same hA (by simp) ?_
    rintro r rfl
    rw [Nat.mod_eq_of_lt hq2, if_pos h']
    obtain ⟨ph, hph⟩ : ∃ x, x = (q + 1) / 18446744073709551616 := ⟨_, rfl⟩
    obtain ⟨pl, hpl⟩ : ∃ x, x = (q + 1) % 18446744073709551616 := ⟨_, rfl⟩
    rw [wA_eq hph hpl]
    simp
    refine cb_dec (fun hh => ?_) (fun hh => ?_)
    · have : ¬ q + 1 < 18446744073709551616 := by omega
      rw [if_neg this]; simp
    · have : q + 1 < 18446744073709551616 := by omega
      have e : pl = q + 1 := by omega
      rw [if_pos this]; simp [e]
  · have h' : ¬ d - m ≤ m := by omega
    rw [if_neg h', Nat.add_zero]
    simp
    refine cb_dec (fun hh => ?_) (fun hh => ?_)
    · have : ¬ q < 18446744073709551616 := by omega
      rw [if_neg this]; simp
    · have : q < 18446744073709551616 := by omega
      have e : ql = q := by omega
      rw [if_pos this]; simp [e]
theorem quotient_ok (x y d : Nat) (hx : x < 18446744073709551616) (hy : y < 18446744073709551616) (hd : d < 18446744073709551616) (b : Bool) :
    PCalls Tryz.prog n_fixed_quotient [.int .u64 x, .int .u64 y, .int .u64 d, .bool b] (fun r => r = numA (if d = 0 then nothing else tell (sgn b (rnd (x * y) d)))) := by
  refine pcalls_of_awp hmix c_fixed_quotient rfl ?_
  simp [a_fixed_quotient]
  refine ac_same (wMul_ok x y hx hy) (by simp) ?_
  rintro r rfl
  have hxy : x * y < 340282366920938463463374607431768211456 := by
    have h1 : x * y ≤ x * 18446744073709551615 := Nat.mul_le_mul_left x (by omega)
    omega
  have hwb : wA (x * y) = .agg [.int .u64 ((x * y / 18446744073709551616 : Nat) : Int), .int .u64 ((x * y % 18446744073709551616 : Nat) : Int)] := rfl
  rw [hwb]
  simp
  refine ac_same (wRound_ok (x * y) d hxy hd) (by simp [wA]) ?_
  rintro r rfl
  by_cases h0 : d = 0
  · rw [if_pos h0, if_pos h0]
    simp
    refine ac_same nothing_ok (by simp) ?_
    rintro r rfl
    simp [numA]
  · rw [if_neg h0, if_neg h0]
    by_cases h1 : rnd (x * y) d < 18446744073709551616
    · rw [if_pos h1]
      simp
      refine ac_same (told_ok _ h1 b) (by simp) ?_
      rintro r rfl
      simp [numA]
    · rw [if_neg h1]
      have : tell (sgn b (rnd (x * y) d)) = nothing := by
        unfold tell sgn most
        cases b <;> simp <;> omega
      simp [this]
      refine ac_same nothing_ok (by simp) ?_
      rintro r rfl
      simp [numA, this]
theorem fDiv_ok (a b : N) (ha : okN a) (hb : okN b) : PCalls Tryz.prog n_fixed_Div [numA a, numA b] (fun r => r = numA (divN a b)) := by
  refine pcalls_of_awp hmix c_fixed_Div rfl ?_
  obtain ⟨a1, a2⟩ := ha
  obtain ⟨b1, b2⟩ := hb
  simp [a_fixed_Div, numA]
  refine ac_same (there_ok a) (by simp [numA]) ?_
  rintro r rfl
  cases hga : good a with
  | false =>
    simp
    refine ac_same nothing_ok (by simp) ?_
    rintro r rfl
    simp [divN, hga, numA]
  | true =>
    simp
    refine ac_same (there_ok b) (by simp [numA]) ?_
    rintro r rfl
    cases hgb : good b with
    | false =>
      simp
      refine ac_same nothing_ok (by simp) ?_
      rintro r rfl
      simp [divN, hga, hgb, numA]
    | true =>
      have va := (good_iff.1 hga).2
      have vb := (good_iff.1 hgb).2
      simp only [most] at va vb
      simp
      refine ac_same (size_ok a va a2) (by simp [numA]) ?_
      rintro r rfl
      simp
      refine ac_same (size_ok b vb b2) (by simp [numA]) ?_
      rintro r rfl
      simp
      refine ac_same (quotient_ok a.2.natAbs 1000000 b.2.natAbs (by omega) (by omega) (by omega) (decide (a.2 < 0) != decide (b.2 < 0))) (by simp) ?_
      rintro r rfl
      by_cases hb0 : b.2 = 0
      · simp [divN, hga, hgb, hb0, numA]
      · simp [divN, hga, hgb, hb0, numA]
end Go.Proofs.YtipncibiodfmdaaGreatDoor
