/- Numbers: the document's products and quotients of 128 bits. -/
import Derived.Test.YtipncibiodfmdaaGreatDoorNuD
set_option linter.unusedSimpArgs false
set_option linter.unusedVariables false
set_option linter.constructorNameAsVariable false
set_option maxHeartbeats 2000000
namespace Go.Proofs.YtipncibiodfmdaaGreatDoor
open Go.Abs Go.Num
variable {G : Globs}
theorem rMul_ok (x y : Nat) (hx : x < 18446744073709551616) (hy : y < 18446744073709551616) : PCalls Tryz.prog n_isobarref01_Mul [.int .u64 x, .int .u64 y] (fun r => r = wA (x * y)) := by
  refine pcalls_of_awp hmix c_isobarref01_Mul rfl ?_
  simp [a_isobarref01_Mul]
  have p64 : (2 : Nat) ^ 64 = 18446744073709551616 := by decide
  have bnd : ∀ i ≤ 64, x * 2 ^ i < 340282366920938463463374607431768211456 := fun i hi => by
    have h1 : (2 : Nat) ^ i ≤ 2 ^ 64 := Nat.pow_le_pow_right (by decide) hi
    have h2 : x * 2 ^ i ≤ x * 2 ^ 64 := Nat.mul_le_mul_left x h1
    rw [p64] at h2; omega
  have bnd2 : ∀ i, x * (y % 2 ^ i) < 340282366920938463463374607431768211456 := fun i => by
    have h1 : x * (y % 2 ^ i) ≤ x * 18446744073709551615 := Nat.mul_le_mul_left x (by have := Nat.mod_le y (2 ^ i); omega)
    omega
  refine lp_startx (fun z f σ => ∃ (i oh ol ph pl : Nat), z = 64 - i ∧ i ≤ 64 ∧ wA (x * (y % 2 ^ i)) = .agg [.int .u64 oh, .int .u64 ol] ∧ wA (x * 2 ^ i) = .agg [.int .u64 ph, .int .u64 pl] ∧ f 1 = .int .u64 y ∧ f 4 = .ptr 0 0 ∧ f 5 = .ptr 1 0 ∧ f 6 = .ptr 2 0 ∧ f 7 = .int .i64 i ∧
    σ = [.var 132 [.int .u64 0, .int .u64 0], .var 132 [.int .u64 oh, .int .u64 ol], .var 132 [.int .u64 ph, .int .u64 pl]]) 64 ?_ ?_
  · refine ⟨0, 0, 0, 0, x, rfl, by omega, by simp [Nat.mod_one, wA], ?_, by simp, by simp, by simp, by simp, by simp, by simp⟩
    rw [Nat.pow_zero, Nat.mul_one]; exact wA_eq (by omega) (by omega)
  rintro z f σ ⟨i, oh, ol, ph, pl, hz, hi, hO, hP, f1, f4, f5, f6, f7, rfl⟩
  have hwi : IntKind.i64.wrap ((i : Int) + 1) = ((i + 1 : Nat) : Int) := by rw [wrap_i (by omega) (by omega)]; omega
  simp [f7]
  refine cb_dec (fun hlt => ?_) (fun hge => ?_)
  · have hlt' : i < 64 := by omega
    have hw2 : IntKind.u64.wrap (i : Int) = i := by rw [wrap_u]; omega
    obtain ⟨v, hv⟩ : ∃ v, v = y / 2 ^ i := ⟨_, rfl⟩
    have hvM : v < 18446744073709551616 := by rw [hv]; exact Nat.lt_of_le_of_lt (Nat.div_le_self _ _) hy
    have s1 : shiftOp .shr .u64 (y : Int) i = some (v : Int) := by rw [shr_nat y i hy (by omega), hv]
    obtain ⟨d, hd⟩ : ∃ d, d = v % 2 := ⟨_, rfl⟩
    have s2 : bitOp .and .u64 (v : Int) 1 = some (d : Int) := by rw [Go.Num.and_one v hvM, hd]
    have hbt : bt y i = d := by rw [hd, hv]; rfl
    have hst := mul_step x y i
    rw [hbt] at hst
    have k2 := rDouble_ok (G := G) (x * 2 ^ i) (bnd i (by omega))
    have e2 : 2 * (x * 2 ^ i) % 340282366920938463463374607431768211456 = x * 2 ^ (i + 1) := by
      have e : 2 * (x * 2 ^ i) = x * 2 ^ (i + 1) := by rw [Nat.pow_succ, Nat.mul_left_comm, Nat.mul_comm 2]
      rw [e]; exact Nat.mod_eq_of_lt (bnd (i + 1) (by omega))
    rw [e2, hP, wA_eq (n := x * 2 ^ (i + 1)) rfl rfl] at k2
    simp [-shiftOp, -bitOp, f1, f7, hw2, s1, s2]
    refine cb_dec (fun h => ?_) (fun h => ?_)
    · have hd1 : d = 1 := by omega
      rw [if_pos hd1] at hst
      have k1 := rAdd_ok (G := G) (x * (y % 2 ^ i)) (x * 2 ^ i) (bnd2 i) (bnd i (by omega))
      rw [← hst, Nat.mod_eq_of_lt (bnd2 (i + 1)), hO, hP, wA_eq (n := x * (y % 2 ^ (i + 1))) rfl rfl] at k1
      simp [f5, f6]
      refine ac_same k1 (by simp) ?_
      rintro r rfl
      simp [f5, f6]
      refine ac_same k2 (by simp) ?_
      rintro r rfl
      simp [f5, f6, f7, hwi]
      refine nx_intro (64 - (i + 1)) (by omega) ⟨i + 1, _, _, _, _, rfl, by omega, wA_eq rfl rfl, wA_eq rfl rfl, by simp [f1], by simp [f4], by simp [f5], by simp [f6], by simp, by simp⟩
    · have hd1 : ¬ d = 1 := by omega
      rw [if_neg hd1, Nat.add_zero] at hst
      simp [f5, f6]
      refine ac_same k2 (by simp) ?_
      rintro r rfl
      simp [f5, f6, f7, hwi]
      refine nx_intro (64 - (i + 1)) (by omega) ⟨i + 1, oh, ol, _, _, rfl, by omega, by rw [hst]; exact hO, wA_eq rfl rfl, by simp [f1], by simp [f4], by simp [f5], by simp [f6], by simp, by simp⟩
  · have hi64 : i = 64 := by omega
    subst hi64
    rw [p64, Nat.mod_eq_of_lt hy] at hO
    rw [hO]
    simp [f4, f5]
theorem rDiv_ok (a d : Nat) (ha : a < 340282366920938463463374607431768211456) (hd : d < 18446744073709551616) :
    PCalls Tryz.prog n_isobarref01_Div [wA a, .int .u64 d] (fun r => r = if d = 0 then .tup [wA 0, .int .u64 0, .int .i64 1] else .tup [wA (a / d), .int .u64 ((a % d : Nat) : Int), .int .i64 0]) := by
  refine pcalls_of_awp hmix c_isobarref01_Div rfl ?_
  by_cases h0 : d = 0
  · subst h0
    simp [a_isobarref01_Div, wA]
  rw [if_neg h0]
  have h0' : ¬ (d : Int) = 0 := by omega
  obtain ⟨ah, hah⟩ : ∃ h, h = a / 18446744073709551616 := ⟨_, rfl⟩
  obtain ⟨al, hal⟩ : ∃ l, l = a % 18446744073709551616 := ⟨_, rfl⟩
  have hA := wA_eq hah hal
  rw [hA]
  obtain ⟨md, hmd⟩ : ∃ m, m = a % d := ⟨_, rfl⟩
  rw [← hmd]
  simp [a_isobarref01_Div, h0, h0']
  have p128 : (2 : Nat) ^ 128 = 340282366920938463463374607431768211456 := by decide
  have p63 : (2 : Nat) ^ 63 = 9223372036854775808 := by decide
  refine lp_startx (fun z f σ => ∃ (k r qh ql : Nat), z = k ∧ k ≤ 128 ∧ wA (a / 2 ^ k / d * 2 ^ k) = .agg [.int .u64 qh, .int .u64 ql] ∧ r = a / 2 ^ k % d ∧ f 1 = .int .u64 d ∧ f 2 = .ptr 0 0 ∧ f 4 = .ptr 1 0 ∧ f 7 = .ptr 2 0 ∧ f 8 = .int .u64 r ∧ f 9 = .int .i64 ((k : Int) - 1) ∧
    σ = [.var 132 [.int .u64 ah, .int .u64 al], .var 132 [.int .u64 0, .int .u64 0], .var 132 [.int .u64 qh, .int .u64 ql]]) 128 ?_ ?_
  · have e : a / 2 ^ 128 = 0 := Nat.div_eq_of_lt (by rw [p128]; exact ha)
    refine ⟨128, 0, 0, 0, rfl, by omega, by rw [e, Nat.zero_div, Nat.zero_mul]; rfl, by rw [e, Nat.zero_mod], by simp, by simp, by simp, by simp, by simp, by simp, by simp⟩
  rintro z f σ ⟨k, r, qh, ql, hz, hk, hO, hr, f1, f2, f4, f7, f8, f9, rfl⟩
  simp [f9]
  refine cb_dec (fun hlt => ?_) (fun hge => ?_)
  · obtain ⟨i, rfl⟩ : ∃ i, k = i + 1 := ⟨k - 1, by omega⟩
    have hki : (((i + 1 : Nat) : Int) - 1) = i := by omega
    rw [hki] at f9
    have hi128 : i < 128 := by omega
    have hwi : IntKind.i64.wrap ((i : Int) - 1) = (i : Int) - 1 := wrap_i (by omega) (by omega)
    have k1 := rBit_ok (G := G) a i ha hi128
    rw [hA] at k1
    have hst := div_step a i
    obtain ⟨b, hb⟩ : ∃ b, b = bt a i := ⟨_, rfl⟩
    have hb2 : b < 2 := by rw [hb]; exact bt_lt a i
    rw [← hb] at k1 hst
    have hrd : r < d := by rw [hr]; exact Nat.mod_lt _ (by omega)
    obtain ⟨n, hn⟩ : ∃ n, n = a / 2 ^ (i + 1) := ⟨_, rfl⟩
    rw [← hn] at hst hr hO
    have hnd := Nat.div_add_mod n d
    rw [← hr] at hnd
    obtain ⟨q, hq⟩ : ∃ q, q = n / d := ⟨_, rfl⟩
    rw [← hq] at hnd hO
    obtain ⟨nx1, nx2⟩ := div_next (n := n) (d := d) (q := q) (r := r) (b := b) (by rw [Nat.mul_comm]; exact hnd.symm) hrd hb2
    obtain ⟨t, ht⟩ : ∃ t, t = r / 9223372036854775808 := ⟨_, rfl⟩
    have s19 : shiftOp .shr .u64 (r : Int) 63 = some (t : Int) := by rw [shr_nat r 63 (by omega) (by decide), ht, p63]
    obtain ⟨r2, hr2⟩ : ∃ r2, r2 = r * 2 % 18446744073709551616 := ⟨_, rfl⟩
    have s21 : shiftOp .shl .u64 (r : Int) 1 = some (r2 : Int) := by rw [shl_nat r 1 (by decide), hr2]
    obtain ⟨r3, hr3⟩ : ∃ r3, r3 = r2 + b := ⟨_, rfl⟩
    have s25 : bitOp .or .u64 (r2 : Int) (b : Int) = some (r3 : Int) := by
      rw [or_nat r2 b (by omega) (by omega), hr3]
      have := Nat.two_pow_add_eq_or_of_lt (show b < 2 ^ 1 by omega) (r2 / 2)
      have e2 : 2 ^ 1 * (r2 / 2) = r2 := by omega
      rw [e2] at this
      rw [this]
    simp [-shiftOp, -bitOp, f8, f2, f9, s19, s21]
    refine ac_same k1 (by simp) ?_
    rintro rr rfl
    simp [-shiftOp, -bitOp, f1, f7, s25]
    by_cases hge2 : d ≤ 2 * r + b
    · obtain ⟨nx3, nx4⟩ := nx2 hge2
      have hcond : t = 1 ∨ d ≤ r3 := by omega
      have hsub : IntKind.u64.wrap ((r3 : Int) - d) = ((2 * r + b - d : Nat) : Int) := by rw [wrap_u]; omega
      obtain ⟨r4, hr4⟩ : ∃ r4, r4 = 2 * r + b - d := ⟨_, rfl⟩
      rw [← hr4] at hsub nx3 nx4
      have h2q : 2 * n + b = (2 * q + 1) * d + r4 := nx3
      have hn2 : a / 2 ^ i = 2 * n + b := hst
      have hdq : a / 2 ^ i / d = 2 * q + 1 := by
        rw [hn2, h2q, Nat.mul_comm, Nat.mul_add_div (by omega), Nat.div_eq_of_lt nx4, Nat.add_zero]
      have hdr : a / 2 ^ i % d = r4 := by
        rw [hn2, h2q, Nat.mul_comm, Nat.mul_add_mod, Nat.mod_eq_of_lt nx4]
      have hqe : q * 2 ^ (i + 1) + 2 ^ i = (2 * q + 1) * 2 ^ i := by rw [Nat.add_mul, Nat.one_mul, Nat.pow_succ, Nat.mul_comm (2 ^ i) 2, ← Nat.mul_assoc, Nat.mul_comm q 2]
      have hqb : (2 * q + 1) * 2 ^ i < 340282366920938463463374607431768211456 := by
        rw [← hdq]
        have h1 : a / 2 ^ i / d ≤ a / 2 ^ i := Nat.div_le_self _ _
        have h2 : a / 2 ^ i / d * 2 ^ i ≤ a / 2 ^ i * 2 ^ i := Nat.mul_le_mul_right _ h1
        have h3 := Nat.div_mul_le_self a (2 ^ i)
        omega
      have k3 := rWith_ok (G := G) (q * 2 ^ (i + 1)) i (Nat.lt_of_le_of_lt (Nat.le_add_right _ (2 ^ i)) (by rw [hqe]; exact hqb)) hi128 (bt_mul q i (i + 1) (by omega))
      rw [hqe, hO, wA_eq (n := (2 * q + 1) * 2 ^ i) rfl rfl] at k3
      have fin : ∀ f' : Abs.Frame, True := fun _ => trivial
      by_cases ht1 : t = 1
      · have ht1' : (t : Int) = 1 := by omega
        simp [ht1, ht1', hsub, f1, f7, f9]
        refine ac_same k3 (by simp) ?_
        rintro rr rfl
        simp [f7, f9, hwi]
        refine nx_intro i (by omega) ⟨i, r4, _, _, rfl, by omega, by rw [hdq]; exact wA_eq rfl rfl, hdr.symm, by simp [f1], by simp [f2], by simp [f4], by simp [f7], by simp, by simp, by simp⟩
      · have ht1' : ¬ (t : Int) = 1 := by omega
        have hdr3 : d ≤ r3 := by omega
        have hdr3' : (d : Int) ≤ r3 := by omega
        simp [ht1, ht1', hdr3, hdr3', hsub, f1, f7, f9]
        refine ac_same k3 (by simp) ?_
        rintro rr rfl
        simp [f7, f9, hwi]
        refine nx_intro i (by omega) ⟨i, r4, _, _, rfl, by omega, by rw [hdq]; exact wA_eq rfl rfl, hdr.symm, by simp [f1], by simp [f2], by simp [f4], by simp [f7], by simp, by simp, by simp⟩
    · have nx3 := nx1 (by omega)
      have ht1 : ¬ t = 1 := by omega
      have ht1' : ¬ (t : Int) = 1 := by omega
      have hdr3 : ¬ d ≤ r3 := by omega
      have hdr3' : ¬ (d : Int) ≤ r3 := by omega
      have hr3e : r3 = 2 * r + b := by omega
      have hn2 : a / 2 ^ i = 2 * n + b := hst
      have hdq : a / 2 ^ i / d = 2 * q := by
        rw [hn2, nx3, Nat.mul_comm, Nat.mul_add_div (by omega), Nat.div_eq_of_lt (by omega), Nat.add_zero]
      have hdr : a / 2 ^ i % d = r3 := by
        rw [hn2, nx3, Nat.mul_comm, Nat.mul_add_mod, Nat.mod_eq_of_lt (by omega), hr3e]
      have hqe : 2 * q * 2 ^ i = q * 2 ^ (i + 1) := by rw [Nat.pow_succ, Nat.mul_comm (2 ^ i) 2, ← Nat.mul_assoc, Nat.mul_comm q 2]
      simp [ht1, ht1', hdr3, hdr3', f1, f7, f9, hwi]
      refine nx_intro i (by omega) ⟨i, r3, qh, ql, rfl, by omega, by rw [hdq, hqe]; exact hO, hdr.symm, by simp [f1], by simp [f2], by simp [f4], by simp [f7], by simp, by simp, by simp⟩
  · have hk0 : k = 0 := by omega
    subst hk0
    rw [Nat.pow_zero, Nat.div_one, Nat.mul_one] at hO
    rw [Nat.pow_zero, Nat.div_one] at hr
    rw [← hmd] at hr
    rw [hO]
    simp [f4, f7, f8, hr]
theorem rRound_ok (a d : Nat) (ha : a < 340282366920938463463374607431768211456) (hd : d < 18446744073709551616) :
    PCalls Tryz.prog n_isobarref01_Round [wA a, .int .u64 d] (fun r => r = if d = 0 then .tup [.int .u64 0, .int .i64 1] else if rnd a d < 18446744073709551616 then .tup [.int .u64 ((rnd a d : Nat) : Int), .int .i64 0] else .tup [.int .u64 0, .int .i64 3]) := by
  refine pcalls_of_awp hmix c_isobarref01_Round rfl ?_
  obtain ⟨ah, hah⟩ : ∃ h, h = a / 18446744073709551616 := ⟨_, rfl⟩
  obtain ⟨al, hal⟩ : ∃ l, l = a % 18446744073709551616 := ⟨_, rfl⟩
  have hA := wA_eq hah hal
  have kd := rDiv_ok (G := G) a d ha hd
  rw [hA] at kd ⊢
  by_cases h0 : d = 0
  · subst h0
    simp [a_isobarref01_Round]
    refine ac_same kd (by simp) ?_
    rintro r rfl
    simp [wA]
  rw [if_neg h0]
  simp [a_isobarref01_Round]
  refine ac_same kd (by simp) ?_
  rw [if_neg h0]
  obtain ⟨q, hq⟩ : ∃ x, x = a / d := ⟨_, rfl⟩
  obtain ⟨m, hm⟩ : ∃ x, x = a % d := ⟨_, rfl⟩
  have hmd : m < d := by rw [hm]; exact Nat.mod_lt _ (by omega)
  rw [← hq, ← hm]
  rintro r rfl
  have hrnd : rnd a d = q + (if d - m ≤ m then 1 else 0) := by rw [rnd, ← hq, ← hm]
  rw [hrnd]
  have hsub : IntKind.u64.wrap ((d : Int) - m) = ((d - m : Nat) : Int) := by rw [wrap_u]; omega
  obtain ⟨dm, hdm⟩ : ∃ x, x = d - m := ⟨_, rfl⟩
  rw [← hdm] at hsub
  have hqa : q < 340282366920938463463374607431768211456 := by rw [hq]; exact Nat.lt_of_le_of_lt (Nat.div_le_self _ _) ha
  obtain ⟨qh, hqh⟩ : ∃ x, x = q / 18446744073709551616 := ⟨_, rfl⟩
  obtain ⟨ql, hql⟩ : ∃ x, x = q % 18446744073709551616 := ⟨_, rfl⟩
  rw [wA_eq hqh hql]
  simp [hsub]
  refine cb_dec (fun h => ?_) (fun h => ?_)
  · have h' : d - m ≤ m := by omega
    have hq2 : q + 1 < 340282366920938463463374607431768211456 := by
      have hd2 : 2 ≤ d := by omega
      have : a / d ≤ a / 2 := Nat.div_le_div_left hd2 (by decide)
      omega
    simp
    have hA := rAdd_ok (G := G) q 1 hqa (by decide)
    rw [wA_eq hqh hql, show wA 1 = .agg [.int .u64 0, .int .u64 1] from rfl] at hA
    refine ac_same hA (by simp) ?_
    rintro r rfl
    rw [Nat.mod_eq_of_lt hq2, if_pos h']
    obtain ⟨ph, hph⟩ : ∃ x, x = (q + 1) / 18446744073709551616 := ⟨_, rfl⟩
    obtain ⟨pl, hpl⟩ : ∃ x, x = (q + 1) % 18446744073709551616 := ⟨_, rfl⟩
    rw [wA_eq hph hpl]
    by_cases hp0 : ph = 0
    · have : q + 1 < 18446744073709551616 := by omega
      have e : pl = q + 1 := by omega
      rw [if_pos this]; simp [hp0, e]
    · have : ¬ q + 1 < 18446744073709551616 := by omega
      have hp0' : ¬ (ph : Int) = 0 := by omega
      rw [if_neg this]; simp [hp0, hp0']
  · have h' : ¬ d - m ≤ m := by omega
    rw [if_neg h', Nat.add_zero]
    by_cases hp0 : qh = 0
    · have : q < 18446744073709551616 := by omega
      have e : ql = q := by omega
      rw [if_pos this]; simp [hp0, e]
    · have : ¬ q < 18446744073709551616 := by omega
      have hp0' : ¬ (qh : Int) = 0 := by omega
      rw [if_neg this]; simp [hp0, hp0']
end Go.Proofs.YtipncibiodfmdaaGreatDoor
