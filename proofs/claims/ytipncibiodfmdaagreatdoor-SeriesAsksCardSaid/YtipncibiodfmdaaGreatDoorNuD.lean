/- Numbers: the document's numbers of 128 bits. -/
import Derived.Test.YtipncibiodfmdaaGreatDoorNuC
set_option linter.unusedSimpArgs false
set_option linter.unusedVariables false
set_option linter.constructorNameAsVariable false
set_option maxHeartbeats 2000000
namespace Go.Num
open Go.Abs
theorem or_add_bit {x i : Nat} (h : x / 2 ^ i % 2 = 0) : x ||| 2 ^ i = x + 2 ^ i := by
  have hp := Nat.two_pow_pos i
  obtain ⟨q, hq⟩ : ∃ q, q = x / 2 ^ i / 2 := ⟨_, rfl⟩
  obtain ⟨r, hr⟩ : ∃ r, r = x % 2 ^ i := ⟨_, rfl⟩
  have hrl : r < 2 ^ i := by rw [hr]; exact Nat.mod_lt _ hp
  have h2 : x / 2 ^ i = 2 * q := by omega
  have hx : x = 2 ^ i * (2 * q) + r := by
    have := Nat.div_add_mod x (2 ^ i)
    rw [h2, ← hr] at this; exact this.symm
  have e0 : 2 ^ i * (2 * q) = 2 ^ (i + 1) * q := by rw [Nat.pow_succ, Nat.mul_assoc]
  have e1 := Nat.two_pow_add_eq_or_of_lt hrl (2 * q)
  have e2 := Nat.two_pow_add_eq_or_of_lt (show 2 ^ i < 2 ^ (i + 1) by rw [Nat.pow_succ]; omega) q
  have e3 := Nat.two_pow_add_eq_or_of_lt hrl (2 * q + 1)
  have e4 : 2 ^ i * (2 * q + 1) = 2 ^ (i + 1) * q + 2 ^ i := by rw [Nat.mul_add, e0, Nat.mul_one]
  have l1 : x ||| 2 ^ i = 2 ^ i * (2 * q) ||| r ||| 2 ^ i := by rw [← e1, ← hx]
  rw [l1, Nat.or_assoc, Nat.or_comm r, ← Nat.or_assoc, e0, ← e2, ← e4, ← e3]
  rw [Nat.mul_add, Nat.mul_one]
  omega
theorem bt_zero {x i : Nat} (h : x < 2 ^ i) : bt x i = 0 := by unfold bt; rw [Nat.div_eq_of_lt h]
theorem bt_mul (c i k : Nat) (h : i < k) : bt (c * 2 ^ k) i = 0 := by
  unfold bt
  obtain ⟨j, rfl⟩ : ∃ j, k = i + 1 + j := ⟨k - i - 1, by omega⟩
  have : c * 2 ^ (i + 1 + j) = 2 ^ i * (2 * (c * 2 ^ j)) := by
    rw [Nat.pow_add, Nat.pow_succ]
    simp only [Nat.mul_comm, Nat.mul_left_comm, Nat.mul_assoc]
  rw [this, Nat.mul_div_cancel_left _ (Nat.two_pow_pos i), Nat.mul_mod_right]
theorem split64 (x : Nat) : x / 18446744073709551616 * 18446744073709551616 + x % 18446744073709551616 = x := by omega
end Go.Num
namespace Go.Proofs.YtipncibiodfmdaaGreatDoor
open Go.Abs Go.Num
variable {G : Globs}
theorem rBit_ok (x i : Nat) (hx : x < 340282366920938463463374607431768211456) (hi : i < 128) : PCalls Tryz.prog n_isobarref01_bit [wA x, .int .i64 i] (fun r => r = .int .u64 (bt x i)) := by
  refine pcalls_of_awp hmix c_isobarref01_bit rfl ?_
  obtain ⟨h, hh⟩ : ∃ h, h = x / 18446744073709551616 := ⟨_, rfl⟩
  obtain ⟨l, hl⟩ : ∃ l, l = x % 18446744073709551616 := ⟨_, rfl⟩
  have hxs : h * 18446744073709551616 + l = x := by omega
  rw [wA_eq hh hl]
  by_cases h64 : 64 ≤ i
  · have h64' : (64 : Int) ≤ i := by omega
    have hw1 : IntKind.i64.wrap ((i : Int) - 64) = ((i - 64 : Nat) : Int) := by rw [wrap_i (by omega) (by omega)]; omega
    obtain ⟨k, hk⟩ : ∃ k, k = i - 64 := ⟨_, rfl⟩
    rw [← hk] at hw1
    have hw2 : IntKind.u64.wrap (k : Int) = k := by rw [wrap_u]; omega
    have e := bt_hi (hi := h) (lo := l) (i := i) (by omega) h64
    rw [hxs, ← hk] at e
    obtain ⟨v, hv⟩ : ∃ v, v = h / 2 ^ k := ⟨_, rfl⟩
    have hvM : v < 18446744073709551616 := by rw [hv]; exact Nat.lt_of_le_of_lt (Nat.div_le_self _ _) (by omega)
    have s1 : shiftOp .shr .u64 (h : Int) k = some (v : Int) := by rw [shr_nat h k (by omega) (by omega), hv]
    obtain ⟨b, hb⟩ : ∃ b, b = v % 2 := ⟨_, rfl⟩
    have s2 : bitOp .and .u64 (v : Int) 1 = some (b : Int) := by rw [Go.Num.and_one v hvM, hb]
    rw [← hv, ← hb] at e
    rw [e]
    simp [-shiftOp, -bitOp, a_isobarref01_bit, h64, h64', hw1, hw2, s1, s2]
  · have h64' : ¬ (64 : Int) ≤ i := by omega
    have hw2 : IntKind.u64.wrap (i : Int) = i := by rw [wrap_u]; omega
    have e := bt_lo (hi := h) (lo := l) (i := i) (by omega) (by omega)
    rw [hxs] at e
    obtain ⟨v, hv⟩ : ∃ v, v = l / 2 ^ i := ⟨_, rfl⟩
    have hvM : v < 18446744073709551616 := by rw [hv]; exact Nat.lt_of_le_of_lt (Nat.div_le_self _ _) (by omega)
    have s1 : shiftOp .shr .u64 (l : Int) i = some (v : Int) := by rw [shr_nat l i (by omega) (by omega), hv]
    obtain ⟨b, hb⟩ : ∃ b, b = v % 2 := ⟨_, rfl⟩
    have s2 : bitOp .and .u64 (v : Int) 1 = some (b : Int) := by rw [Go.Num.and_one v hvM, hb]
    rw [← hv, ← hb] at e
    rw [e]
    simp [-shiftOp, -bitOp, a_isobarref01_bit, h64, h64', hw2, s1, s2]
theorem rWith_ok (x i : Nat) (hx : x < 340282366920938463463374607431768211456) (hi : i < 128) (h0 : bt x i = 0) : PCalls Tryz.prog n_isobarref01_with [wA x, .int .i64 i] (fun r => r = wA (x + 2 ^ i)) := by
  refine pcalls_of_awp hmix c_isobarref01_with rfl ?_
  obtain ⟨h, hh⟩ : ∃ h, h = x / 18446744073709551616 := ⟨_, rfl⟩
  obtain ⟨l, hl⟩ : ∃ l, l = x % 18446744073709551616 := ⟨_, rfl⟩
  have hxs : h * 18446744073709551616 + l = x := by omega
  rw [wA_eq hh hl]
  by_cases h64 : 64 ≤ i
  · have h64' : (64 : Int) ≤ i := by omega
    have hw1 : IntKind.i64.wrap ((i : Int) - 64) = ((i - 64 : Nat) : Int) := by rw [wrap_i (by omega) (by omega)]; omega
    obtain ⟨k, hk⟩ : ∃ k, k = i - 64 := ⟨_, rfl⟩
    rw [← hk] at hw1
    have hw2 : IntKind.u64.wrap (k : Int) = k := by rw [wrap_u]; omega
    have e := bt_hi (hi := h) (lo := l) (i := i) (by omega) h64
    rw [hxs, ← hk, h0] at e
    have hor := or_add_bit (x := h) (i := k) e.symm
    obtain ⟨p, hp⟩ : ∃ p, p = 2 ^ k := ⟨_, rfl⟩
    have hpM : p < 18446744073709551616 := by rw [hp, show (18446744073709551616 : Nat) = 2 ^ 64 by decide]; exact Nat.pow_lt_pow_right (by decide) (by omega)
    have s1 : shiftOp .shl .u64 1 k = some (p : Int) := by
      have := shl_nat 1 k (by omega)
      rw [Nat.one_mul, ← hp, Nat.mod_eq_of_lt hpM] at this
      simpa using this
    have s2 : bitOp .or .u64 (h : Int) (p : Int) = some ((h ||| p : Nat) : Int) := or_nat h p (by omega) hpM
    have hlt : h ||| p < 18446744073709551616 := Nat.or_lt_two_pow (n := 64) (by omega) hpM
    obtain ⟨h', hh'⟩ : ∃ h', h' = h ||| p := ⟨_, rfl⟩
    rw [← hh'] at s2 hlt
    have hsum : h' = h + p := by rw [hh', hp]; exact hor
    have hpi : 2 ^ i = p * 18446744073709551616 := by rw [hp, show (18446744073709551616 : Nat) = 2 ^ 64 by decide, ← Nat.pow_add, show k + 64 = i by omega]
    rw [wA_eq (hi := h') (lo := l) (n := x + 2 ^ i) (by rw [hpi]; omega) (by rw [hpi]; omega)]
    simp [-shiftOp, -bitOp, a_isobarref01_with, h64, h64', hw1, hw2, s1, s2]
  · have h64' : ¬ (64 : Int) ≤ i := by omega
    have hw2 : IntKind.u64.wrap (i : Int) = i := by rw [wrap_u]; omega
    have e := bt_lo (hi := h) (lo := l) (i := i) (by omega) (by omega)
    rw [hxs, h0] at e
    have hor := or_add_bit (x := l) (i := i) e.symm
    obtain ⟨p, hp⟩ : ∃ p, p = 2 ^ i := ⟨_, rfl⟩
    have hpM : p < 18446744073709551616 := by rw [hp, show (18446744073709551616 : Nat) = 2 ^ 64 by decide]; exact Nat.pow_lt_pow_right (by decide) (by omega)
    have s1 : shiftOp .shl .u64 1 i = some (p : Int) := by
      have := shl_nat 1 i (by omega)
      rw [Nat.one_mul, ← hp, Nat.mod_eq_of_lt hpM] at this
      simpa using this
    have s2 : bitOp .or .u64 (l : Int) (p : Int) = some ((l ||| p : Nat) : Int) := or_nat l p (by omega) hpM
    have hlt : l ||| p < 18446744073709551616 := Nat.or_lt_two_pow (n := 64) (by omega) hpM
    obtain ⟨l', hl'⟩ : ∃ l', l' = l ||| p := ⟨_, rfl⟩
    rw [← hl'] at s2 hlt
    have hsum : l' = l + p := by rw [hl', hp]; exact hor
    rw [← hp, wA_eq (hi := h) (lo := l') (n := x + p) (by omega) (by omega)]
    simp [-shiftOp, -bitOp, a_isobarref01_with, h64, h64', hw2, s1, s2]
theorem rDouble_ok (x : Nat) (hx : x < 340282366920938463463374607431768211456) : PCalls Tryz.prog n_isobarref01_Double [wA x] (fun r => r = .tup [wA (2 * x % 340282366920938463463374607431768211456), .bool (decide (170141183460469231731687303715884105728 ≤ x))]) := by
  refine pcalls_of_awp hmix c_isobarref01_Double rfl ?_
  obtain ⟨h, hh⟩ : ∃ h, h = x / 18446744073709551616 := ⟨_, rfl⟩
  obtain ⟨l, hl⟩ : ∃ l, l = x % 18446744073709551616 := ⟨_, rfl⟩
  rw [wA_eq hh hl]
  obtain ⟨h2, hh2⟩ : ∃ k, k = h * 2 % 18446744073709551616 := ⟨_, rfl⟩
  obtain ⟨l2, hl2⟩ : ∃ k, k = l * 2 % 18446744073709551616 := ⟨_, rfl⟩
  obtain ⟨lt, hlt⟩ : ∃ k, k = l / 9223372036854775808 := ⟨_, rfl⟩
  obtain ⟨ht, hht⟩ : ∃ k, k = h / 9223372036854775808 := ⟨_, rfl⟩
  have s6 : shiftOp .shl .u64 (h : Int) 1 = some (h2 : Int) := by rw [shl_nat h 1 (by decide), hh2]
  have s13 : shiftOp .shl .u64 (l : Int) 1 = some (l2 : Int) := by rw [shl_nat l 1 (by decide), hl2]
  have s9 : shiftOp .shr .u64 (l : Int) 63 = some (lt : Int) := by rw [shr_nat l 63 (by omega) (by decide), hlt]
  have s17 : shiftOp .shr .u64 (h : Int) 63 = some (ht : Int) := by rw [shr_nat h 63 (by omega) (by decide), hht]
  obtain ⟨o, ho⟩ : ∃ k, k = h2 + lt := ⟨_, rfl⟩
  have s10 : bitOp .or .u64 (h2 : Int) (lt : Int) = some (o : Int) := by
    rw [or_nat h2 lt (by omega) (by omega), ho]
    have h3 : lt < 2 ^ 1 := by omega
    have := Nat.two_pow_add_eq_or_of_lt h3 (h2 / 2)
    have e2 : 2 ^ 1 * (h2 / 2) = h2 := by omega
    rw [e2] at this
    rw [this]
  have e1 : decide ((ht : Int) = 1) = decide (170141183460469231731687303715884105728 ≤ x) := by congr 1; apply propext; omega
  have e2 : decide (ht = 1) = decide (170141183460469231731687303715884105728 ≤ x) := by congr 1; apply propext; omega
  rw [wA_eq (hi := o) (lo := l2) (n := 2 * x % 340282366920938463463374607431768211456) (by omega) (by omega)]
  simp [-shiftOp, -bitOp, a_isobarref01_Double, s6, s13, s9, s17, s10, e1, e2]
  try omega
theorem rAdd_ok (a b : Nat) (ha : a < 340282366920938463463374607431768211456) (hb : b < 340282366920938463463374607431768211456) :
    PCalls Tryz.prog n_isobarref01_Add [wA a, wA b] (fun r => r = .tup [wA ((a + b) % 340282366920938463463374607431768211456), .bool (decide (340282366920938463463374607431768211456 ≤ a + b))]) := by
  refine pcalls_of_awp hmix c_isobarref01_Add rfl ?_
  obtain ⟨ah, hah⟩ : ∃ h, h = a / 18446744073709551616 := ⟨_, rfl⟩
  obtain ⟨al, hal⟩ : ∃ l, l = a % 18446744073709551616 := ⟨_, rfl⟩
  obtain ⟨bh, hbh⟩ : ∃ h, h = b / 18446744073709551616 := ⟨_, rfl⟩
  obtain ⟨bl, hbl⟩ : ∃ l, l = b % 18446744073709551616 := ⟨_, rfl⟩
  have hA := wA_eq hah hal
  have hB := wA_eq hbh hbl
  rw [hA, hB]
  simp [a_isobarref01_Add]
  have hlo0 : sumLo a b 0 = 0 := by simp [sumLo, Nat.mod_one]
  have hc0 : sumC a b 0 = 0 := by simp [sumC, Nat.mod_one]
  refine lp_startx (fun x f σ => ∃ (i c oh ol : Nat), x = 128 - i ∧ i ≤ 128 ∧ c = sumC a b i ∧ wA (sumLo a b i) = .agg [.int .u64 oh, .int .u64 ol] ∧ f 2 = .ptr 0 0 ∧ f 3 = .ptr 1 0 ∧ f 4 = .ptr 2 0 ∧ f 6 = .ptr 3 0 ∧ f 7 = .int .u64 c ∧ f 8 = .int .i64 i ∧
    σ = [.var 132 [.int .u64 ah, .int .u64 al], .var 132 [.int .u64 bh, .int .u64 bl], .var 132 [.int .u64 0, .int .u64 0], .var 132 [.int .u64 oh, .int .u64 ol]]) 128 ?_ ?_
  · exact ⟨0, 0, 0, 0, rfl, by omega, hc0.symm, by rw [hlo0]; rfl, by simp, by simp, by simp, by simp, by simp, by simp, by simp⟩
  rintro x f σ ⟨i, c, oh, ol, hx, hi, hc, hO, f2, f3, f4, f6, f7, f8, rfl⟩
  have hwi : IntKind.i64.wrap ((i : Int) + 1) = ((i + 1 : Nat) : Int) := by rw [wrap_i (by omega) (by omega)]; omega
  have hcl := sumC_le a b i
  simp [f8]
  refine cb_dec (fun hlt => ?_) (fun hge => ?_)
  · have hlt' : i < 128 := by omega
    have k1 := rBit_ok (G := G) a i ha hlt'
    have k2 := rBit_ok (G := G) b i hb hlt'
    rw [hA] at k1
    rw [hB] at k2
    obtain ⟨st1, st2⟩ := sum_step a b i
    obtain ⟨u, hu⟩ : ∃ u, u = bt a i := ⟨_, rfl⟩
    obtain ⟨v, hv⟩ : ∃ v, v = bt b i := ⟨_, rfl⟩
    have hu2 : u < 2 := by rw [hu]; exact bt_lt a i
    have hv2 : v < 2 := by rw [hv]; exact bt_lt b i
    rw [← hu] at k1 st1 st2
    rw [← hv] at k2 st1 st2
    rw [← hc] at st1 st2 hcl
    obtain ⟨s, hs⟩ : ∃ s, s = u + v + c := ⟨_, rfl⟩
    rw [← hs] at st1 st2
    have w1 : IntKind.u64.wrap ((u : Int) + v) = (u : Int) + v := by rw [wrap_u]; omega
    have w2 : IntKind.u64.wrap ((u : Int) + v + c) = (s : Int) := by rw [wrap_u]; omega
    obtain ⟨c', hc'⟩ : ∃ c', c' = s / 2 := ⟨_, rfl⟩
    have s1 : shiftOp .shr .u64 (s : Int) 1 = some (c' : Int) := by rw [shr_nat s 1 (by omega) (by decide), hc']
    obtain ⟨d, hd⟩ : ∃ d, d = s % 2 := ⟨_, rfl⟩
    have s2 : bitOp .and .u64 (s : Int) 1 = some (d : Int) := by rw [Go.Num.and_one s (by omega), hd]
    rw [← hc'] at st2
    rw [← hd] at st1
    simp [f2, f3, f7, f8]
    refine qc_same k1 (by simp) (by simp) ?_
    simp [f2, f3, f7, f8]
    refine qc_same k2 (by simp) (by simp) ?_
    simp [-shiftOp, -bitOp, f2, f3, f6, f7, f8, w1, w2, s1, s2]
    refine cb_dec (fun h => ?_) (fun h => ?_)
    · have hd1 : d = 1 := by omega
      have hsl : sumLo a b i < 2 ^ i := Nat.mod_lt _ (Nat.two_pow_pos i)
      have hpw : 2 ^ i * 2 ≤ 340282366920938463463374607431768211456 := by
        rw [← Nat.pow_succ, show (340282366920938463463374607431768211456 : Nat) = 2 ^ 128 by decide]; exact Nat.pow_le_pow_right (by decide) (by omega)
      have k3 := rWith_ok (G := G) (sumLo a b i) i (by omega) hlt' (bt_zero hsl)
      rw [hO] at k3
      have e1 : sumLo a b i + 2 ^ i = sumLo a b (i + 1) := by rw [st1, hd1, Nat.mul_one]
      rw [e1, wA_eq (n := sumLo a b (i + 1)) rfl rfl] at k3
      simp [f6, f8]
      refine ac_same k3 (by simp) ?_
      rintro r rfl
      simp [f6, f8, hwi]
      refine nx_intro (128 - (i + 1)) (by omega) ⟨i + 1, c', _, _, rfl, by omega, st2.symm, wA_eq rfl rfl, by simp [f2], by simp [f3], by simp [f4], by simp [f6], by simp, by simp, by simp⟩
    · have hd0 : d = 0 := by omega
      have e1 : sumLo a b (i + 1) = sumLo a b i := by rw [st1, hd0, Nat.mul_zero, Nat.add_zero]
      simp [f6, f8, hwi]
      refine nx_intro (128 - (i + 1)) (by omega) ⟨i + 1, c', oh, ol, rfl, by omega, st2.symm, by rw [e1]; exact hO, by simp [f2], by simp [f3], by simp [f4], by simp [f6], by simp, by simp, by simp⟩
  · have hi8 : i = 128 := by omega
    subst hi8
    have p1 : (2 : Nat) ^ 128 = 340282366920938463463374607431768211456 := by decide
    have a1 : a % 2 ^ 128 = a := Nat.mod_eq_of_lt (by rw [p1]; exact ha)
    have b1 : b % 2 ^ 128 = b := Nat.mod_eq_of_lt (by rw [p1]; exact hb)
    have e1 : sumLo a b 128 = (a + b) % 340282366920938463463374607431768211456 := by
      unfold sumLo
      rw [a1, b1, p1]
    have e2 : sumC a b 128 = (a + b) / 340282366920938463463374607431768211456 := by
      unfold sumC
      rw [a1, b1, p1]
    rw [e1] at hO
    have e3 : decide ((c : Int) = 1) = decide (340282366920938463463374607431768211456 ≤ a + b) := by
      rw [hc, e2]; congr 1; apply propext; omega
    have e4 : decide (c = 1) = decide (340282366920938463463374607431768211456 ≤ a + b) := by
      rw [hc, e2]; congr 1; apply propext; omega
    rw [hO]
    simp [f4, f6, f7, e3, e4]
    try omega
end Go.Proofs.YtipncibiodfmdaaGreatDoor
