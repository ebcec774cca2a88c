/- Numbers: the functions of fixed and wide. -/
import Derived.Test.YtipncibiodfmdaaGreatDoorCode
import Derived.Test.YtipncibiodfmdaaGreatDoorShelf
import Derived.Test.YtipncibiodfmdaaGreatDoorNuAv
import Derived.Test.YtipncibiodfmdaaGreatDoorNuRef
import Derived.Test.YtipncibiodfmdaaGreatDoorAbs2
import Derived.Lib.ItoaNum
set_option linter.unusedSimpArgs false
set_option linter.unusedVariables false
set_option linter.constructorNameAsVariable false
set_option maxHeartbeats 1000000
namespace Go.Num
open Go.Abs
def numA (n : N) : AV := .agg [.bool n.1, .int .i64 n.2]
/-- A number of 128 bits. -/
def wA (n : Nat) : AV := .agg [.int .u64 ((n / 18446744073709551616 : Nat) : Int), .int .u64 ((n % 18446744073709551616 : Nat) : Int)]
def okN (n : N) : Prop := -9223372036854775808 ≤ n.2 ∧ n.2 ≤ 9223372036854775807
theorem wrap_u (x : Int) : IntKind.u64.wrap x = x % 18446744073709551616 := by simp [IntKind.wrap, IntKind.signed, IntKind.bits]
theorem wrap_i {x : Int} (h1 : -9223372036854775808 ≤ x) (h2 : x ≤ 9223372036854775807) : IntKind.i64.wrap x = x := wrap_i64 h1 h2
theorem ok_tell (s : Int) : okN (tell s) := by
  unfold tell okN
  split
  · rename_i h; simp only [most] at h; simp only; omega
  · simp [nothing]
theorem ok_nothing : okN nothing := by simp [okN, nothing]
theorem ok_add (a b : N) : okN (addN a b) := by
  unfold addN; split
  · exact ok_tell _
  · exact ok_nothing
theorem ok_less {a b : N} (ha : okN a) (hb : okN b) : okN (lessN a b) := by
  unfold lessN; repeat' split
  all_goals first | exact ha | exact hb | exact ok_nothing
theorem ok_more {a b : N} (ha : okN a) (hb : okN b) : okN (moreN a b) := by
  unfold moreN; repeat' split
  all_goals first | exact ha | exact hb | exact ok_nothing
theorem ok_div (a b : N) : okN (divN a b) := by
  unfold divN; split
  · exact ok_tell _
  · exact ok_nothing
theorem and_mask (a : Nat) (h : a < 18446744073709551616) : bitOp .and .u64 (a : Int) 4294967295 = some ((a % 4294967296 : Nat) : Int) := by
  have e : (BitVec.ofInt 64 (a : Int) &&& BitVec.ofInt 64 4294967295).toNat = a % 4294967296 := by
    rw [BitVec.toNat_and, u64_of a h, show (BitVec.ofInt 64 4294967295).toNat = 2 ^ 32 - 1 by decide, Nat.and_two_pow_sub_one_eq_mod]
  show some (IntKind.u64.wrap ((BitVec.ofInt 64 (a : Int) &&& BitVec.ofInt 64 4294967295).toNat : Int)) = _
  rw [e, u64_wrap _ (by omega)]
theorem norm_or {hi lo y s : Nat} (hhi : hi < y) (hy : y * 2 ^ s < 18446744073709551616) (hs : s ≤ 63) (hlo : lo < 18446744073709551616) : (hi * 2 ^ s % 18446744073709551616 ||| lo / 2 ^ (64 - s)) = hi * 2 ^ s + lo / 2 ^ (64 - s) := by
  have h1 : hi * 2 ^ s < 18446744073709551616 := Nat.lt_of_le_of_lt (Nat.mul_le_mul_right _ (Nat.le_of_lt hhi)) hy
  rw [Nat.mod_eq_of_lt h1]
  have h2 : lo / 2 ^ (64 - s) < 2 ^ s := by
    rw [Nat.div_lt_iff_lt_mul (Nat.two_pow_pos _), ← Nat.pow_add, show s + (64 - s) = 64 by omega]; exact hlo
  have := Nat.two_pow_add_eq_or_of_lt h2 hi
  rw [Nat.mul_comm (2 ^ s) hi] at this
  exact this.symm
theorem bitLen_norm {y : Nat} (h0 : 0 < y) (h : y < 18446744073709551616) : ∃ s : Nat, s ≤ 63 ∧ Lib.bitLen y = 64 - s ∧ 9223372036854775808 ≤ y * 2 ^ s ∧ y * 2 ^ s < 18446744073709551616 := by
  obtain ⟨h1, h2, h3⟩ := Lib.bitLenAux_bounds 64 y (by simpa using h) (by omega)
  have h4 : Lib.bitLen y ≤ 64 := Lib.bitLen_le y 64 (by decide) (by simpa using h)
  change 1 ≤ Lib.bitLen y at h1
  change 2 ^ (Lib.bitLen y - 1) ≤ y at h2
  change y < 2 ^ Lib.bitLen y at h3
  refine ⟨64 - Lib.bitLen y, by omega, by omega, ?_, ?_⟩
  · have e : 2 ^ (Lib.bitLen y - 1) * 2 ^ (64 - Lib.bitLen y) = 9223372036854775808 := by
      rw [← Nat.pow_add, show Lib.bitLen y - 1 + (64 - Lib.bitLen y) = 63 by omega]
    rw [← e]; exact Nat.mul_le_mul_right _ h2
  · have e : 2 ^ Lib.bitLen y * 2 ^ (64 - Lib.bitLen y) = 18446744073709551616 := by
      rw [← Nat.pow_add, show Lib.bitLen y + (64 - Lib.bitLen y) = 64 by omega]
    rw [← e]; exact Nat.mul_lt_mul_of_pos_right h3 (Nat.two_pow_pos _)
end Go.Num
namespace Go.Proofs.YtipncibiodfmdaaGreatDoor
open Go.Abs Go.Num
variable {G : Globs}
theorem there_ok (n : N) : PCalls Tryz.prog n_fixed_there [numA n] (fun r => r = .bool (good n)) := by
  refine pcalls_of_awp hmix c_fixed_there rfl ?_
  obtain ⟨b, v⟩ := n
  cases b <;> simp [a_fixed_there, numA, good, most]
theorem fRight_ok (n : N) : PCalls Tryz.prog n_fixed_Right [numA n] (fun r => r = .bool (rightN n)) := by
  refine pcalls_of_awp hmix c_fixed_Right rfl ?_
  obtain ⟨b, v⟩ := n
  cases b <;> simp [a_fixed_Right, numA, rightN, most]
theorem nothing_ok : PCalls Tryz.prog n_fixed_nothing [] (fun r => r = numA nothing) := by
  refine pcalls_of_awp hmix c_fixed_nothing rfl ?_
  simp [a_fixed_nothing, numA, nothing]
theorem size_ok (n : N) (h : -9223372036854775807 ≤ n.2) (h2 : n.2 ≤ 9223372036854775807) : PCalls Tryz.prog n_fixed_size [numA n] (fun r => r = .tup [.int .u64 n.2.natAbs, .bool (decide (n.2 < 0))]) := by
  refine pcalls_of_awp hmix c_fixed_size rfl ?_
  obtain ⟨b, v⟩ := n
  simp only at h h2
  simp [a_fixed_size, numA]
  refine cb_dec (fun hlt => ?_) (fun hge => ?_)
  · have hw : IntKind.i64.wrap (-v) = -v := wrap_i (by omega) (by omega)
    have hw2 : IntKind.u64.wrap (-v) = -v := by rw [wrap_u]; omega
    simp [hw, hw2, hlt]
    omega
  · have hw2 : IntKind.u64.wrap v = v := by rw [wrap_u]; omega
    have hn : ¬ v < 0 := by omega
    simp [hw2, hn]
    omega
theorem told_ok (n : Nat) (hn : n < 18446744073709551616) (b : Bool) : PCalls Tryz.prog n_fixed_told [.int .u64 n, .bool b] (fun r => r = numA (tell (sgn b n))) := by
  refine pcalls_of_awp hmix c_fixed_told rfl ?_
  simp [a_fixed_told]
  refine cb_dec (fun hlt => ?_) (fun hge => ?_)
  · simp
    refine ac_same nothing_ok (by simp) ?_
    rintro r rfl
    have : tell (sgn b n) = nothing := by
      unfold tell sgn most
      cases b <;> simp <;> omega
    simp [this, numA]
  · have hw : IntKind.i64.wrap (n : Int) = n := wrap_i (by omega) (by omega)
    have hw2 : IntKind.i64.wrap (-(n : Int)) = -n := wrap_i (by omega) (by omega)
    cases b
    · have : tell (sgn false n) = (false, (n : Int)) := by
        unfold tell sgn most; simp; omega
      simp [hw, this, numA]
    · have : tell (sgn true n) = (false, -(n : Int)) := by
        unfold tell sgn most; simp; omega
      simp [hw, hw2, this, numA]
theorem fInt_ok (n : Int) (h0 : -9223372036854775808 ≤ n) (h1 : n ≤ 9223372036854775807) : PCalls Tryz.prog n_fixed_Int [.int .i64 n] (fun r => r = numA (tell (n * 1000000))) := by
  refine pcalls_of_awp hmix c_fixed_Int rfl ?_
  by_cases hc : 9223372036854 < n ∨ n < -9223372036854
  · have ht : tell (n * 1000000) = nothing := by unfold tell most; rw [if_neg]; omega
    have e : (decide (9223372036854 < n) || decide (n < -9223372036854)) = true := by simpa using hc
    rcases Decidable.em (9223372036854 < n) with h | h
    · simp [a_fixed_Int, h]
      refine ac_same nothing_ok (by simp) ?_
      rintro r rfl
      simp [ht, numA]
    · have h' : n < -9223372036854 := by omega
      simp [a_fixed_Int, h, h']
      refine ac_same nothing_ok (by simp) ?_
      rintro r rfl
      simp [ht, numA]
  · have a1 : ¬ 9223372036854 < n := by omega
    have a2 : ¬ n < -9223372036854 := by omega
    have ht : tell (n * 1000000) = (false, n * 1000000) := by unfold tell most; rw [if_pos]; omega
    have hw : IntKind.i64.wrap (n * 1000000) = n * 1000000 := wrap_i (by omega) (by omega)
    simp [a_fixed_Int, a1, a2, hw, ht, numA]
theorem fAdd_ok (a b : N) (ha : okN a) (hb : okN b) : PCalls Tryz.prog n_fixed_Add [numA a, numA b] (fun r => r = numA (addN a b)) := by
  refine pcalls_of_awp hmix c_fixed_Add rfl ?_
  obtain ⟨a1, a2⟩ := ha
  obtain ⟨b1, b2⟩ := hb
  simp [a_fixed_Add, numA]
  refine ac_same (there_ok a) (by simp [numA]) ?_
  rintro r rfl
  by_cases hga : good a = true
  · simp [hga]
    refine ac_same (there_ok b) (by simp [numA]) ?_
    rintro r rfl
    by_cases hgb : good b = true
    · obtain ⟨x, v⟩ := a
      obtain ⟨y, u⟩ := b
      simp only at a1 a2 b1 b2
      obtain ⟨hx, hv⟩ := good_iff.1 hga
      obtain ⟨hy, hu⟩ := good_iff.1 hgb
      simp only [most] at hx hv hy hu
      subst hx hy
      have e : addN (false, v) (false, u) = tell (v + u) := by simp [addN, hga, hgb]
      rw [e]
      simp [hgb]
      by_cases hu0 : 0 < u
      · have hw : IntKind.i64.wrap (9223372036854775807 - u) = 9223372036854775807 - u := wrap_i (by omega) (by omega)
        have hu1 : ¬ u < 0 := by omega
        by_cases hov : 9223372036854775807 - u < v
        · have ht : tell (v + u) = nothing := by unfold tell most; rw [if_neg]; omega
          simp [hu0, hw, hov, ht]
          refine ac_same nothing_ok (by simp) ?_
          rintro r rfl
          simp [numA, ht]
        · have ht : tell (v + u) = (false, v + u) := by unfold tell most; rw [if_pos]; omega
          have hw2 : IntKind.i64.wrap (v + u) = v + u := wrap_i (by omega) (by omega)
          simp [hu0, hu1, hw, hov, ht, hw2]
      · by_cases hu1 : u < 0
        · have hw : IntKind.i64.wrap (-9223372036854775807 - u) = -9223372036854775807 - u := wrap_i (by omega) (by omega)
          by_cases hov : v < -9223372036854775807 - u
          · have ht : tell (v + u) = nothing := by unfold tell most; rw [if_neg]; omega
            simp [hu0, hu1, hw, hov, ht]
            refine ac_same nothing_ok (by simp) ?_
            rintro r rfl
            simp [numA, ht]
          · have ht : tell (v + u) = (false, v + u) := by unfold tell most; rw [if_pos]; omega
            have hw2 : IntKind.i64.wrap (v + u) = v + u := wrap_i (by omega) (by omega)
            simp [hu0, hu1, hw, hov, ht, hw2]
        · have ht : tell (v + u) = (false, v + u) := by unfold tell most; rw [if_pos]; omega
          have hw2 : IntKind.i64.wrap (v + u) = v + u := wrap_i (by omega) (by omega)
          simp [hu0, hu1, ht, hw2]
    · have hgb' : good b = false := by simpa using hgb
      simp [hgb']
      refine ac_same nothing_ok (by simp) ?_
      rintro r rfl
      simp [addN, hga, hgb', numA]
  · have hga' : good a = false := by simpa using hga
    simp [hga']
    refine ac_same nothing_ok (by simp) ?_
    rintro r rfl
    simp [addN, hga', numA]
theorem pick_ok (a b : N) (first : Bool) : PCalls Tryz.prog n_fixed_pick [numA a, numA b, .bool first] (fun r => r = numA (if good a then (if good b then (if first then a else b) else a) else if good b then b else nothing)) := by
  refine pcalls_of_awp hmix c_fixed_pick rfl ?_
  simp [a_fixed_pick, numA]
  refine qc_same (there_ok a) (by simp [numA]) (by simp) ?_
  simp
  refine qc_same (there_ok b) (by simp [numA]) (by simp) ?_
  cases hga : good a <;> cases hgb : good b
  · simp
    refine ac_same nothing_ok (by simp) ?_
    rintro r rfl
    simp [numA]
  · simp
  · simp
  · cases first <;> simp
theorem fLess_ok (a b : N) : PCalls Tryz.prog n_fixed_Less [numA a, numA b] (fun r => r = numA (lessN a b)) := by
  refine pcalls_of_awp hmix c_fixed_Less rfl ?_
  simp [a_fixed_Less, numA]
  refine ac_same (pick_ok a b (decide (a.2 ≤ b.2))) (by simp [numA]) ?_
  rintro r rfl
  simp [numA, lessN]
theorem fMore_ok (a b : N) : PCalls Tryz.prog n_fixed_More [numA a, numA b] (fun r => r = numA (moreN a b)) := by
  refine pcalls_of_awp hmix c_fixed_More rfl ?_
  simp [a_fixed_More, numA]
  refine ac_same (pick_ok a b (decide (b.2 ≤ a.2))) (by simp [numA]) ?_
  rintro r rfl
  simp [numA, moreN]
theorem mul64_ok (x y : Nat) (hx : x < 18446744073709551616) (hy : y < 18446744073709551616) : PCalls Tryz.prog 183 [.int .u64 x, .int .u64 y] (fun r => r = .tup [.int .u64 ((x * y / 18446744073709551616 : Nat) : Int), .int .u64 ((x * y % 18446744073709551616 : Nat) : Int)]) :=
  pcalls2 fun base κ Im w v u hs e1 e2 => by
    cases e1.int_inv; cases e2.int_inv
    refine (Tryz.bits_Mul64 x y hx hy w).mono ?_
    rintro e w' ⟨rfl, rfl⟩
    exact ⟨_, _, rfl, rfl, Go.RowKit.Below.refl _ _, fun Im' => .tup _ [_, _] rfl fun j hj hj' => by
      match j, hj with
      | 0, _ => exact .int _ _
      | 1, _ => exact .int _ _⟩
theorem wMul_ok (x y : Nat) (hx : x < 18446744073709551616) (hy : y < 18446744073709551616) : PCalls Tryz.prog n_wide_Mul [.int .u64 x, .int .u64 y] (fun r => r = wA (x * y)) := by
  refine pcalls_of_awp hmix c_wide_Mul rfl ?_
  simp [a_wide_Mul]
  refine ac_same (mul64_ok x y hx hy) (by simp) ?_
  rintro r rfl
  simp [wA]
end Go.Proofs.YtipncibiodfmdaaGreatDoor
