/- Numbers: the document's numbers of 128 bits. -/
import Derived.Test.YtjkajkhomklikaaDoorNuC
set_option linter.unusedSimpArgs false
set_option linter.unusedVariables false
set_option linter.constructorNameAsVariable false
set_option maxHeartbeats 2000000
namespace Go.Num
open Go.Abs
theorem or_add_bit {x i : Nat} (h : x / 2 ^ i % 2 = 0) : x ||| 2 ^ i = x + 2 ^ i := by
  have hp := Nat.two_pow_pos i
  obtain ⟨q, hq⟩ : ∃ q, q = x / 2 ^ i / 2 := ⟨_, rfl⟩
  obtain ⟨r, hr⟩ : ∃ r, r = x % 2 ^ i := ⟨_, rfl⟩
  have hrl : r < 2 ^ i := by rw [hr]; exact Nat.mod_lt _ hp
  have h2 : x / 2 ^ i = 2 * q := by omega
  have hx : x = 2 ^ i * (2 * q) + r := by
    have := Nat.div_add_mod x (2 ^ i)
    rw [h2, ← hr] at this; exact this.symm
  have e0 : 2 ^ i * (2 * q) = 2 ^ (i + 1) * q := by rw [Nat.pow_succ, Nat.mul_assoc]
  have e1 := Nat.two_pow_add_eq_or_of_lt hrl (2 * q)
  have e2 := Nat.two_pow_add_eq_or_of_lt (show 2 ^ i < 2 ^ (i + 1) by rw [Nat.pow_succ]; omega) q
  have e3 := Nat.two_pow_add_eq_or_of_lt hrl (2 * q + 1)
  have e4 : 2 ^ i * (2 * q + 1) = 2 ^ (i + 1) * q + 2 ^ i := by rw [Nat.mul_add, e0, Nat.mul_one]
  have l1 : x ||| 2 ^ i = 2 ^ i * (2 * q) ||| r ||| 2 ^ i := by rw [← e1, ← hx]
  rw [l1, Nat.or_assoc, Nat.or_comm r, ← Nat.or_assoc, e0, ← e2, ← e4, ← e3]
  rw [Nat.mul_add, Nat.mul_one]
  omega
theorem bt_zero {x i : Nat} (h : x < 2 ^ i) : bt x i = 0 := by unfold bt; rw [Nat.div_eq_of_lt h]
theorem bt_mul (c i k : Nat) (h : i < k) : bt (c * 2 ^ k) i = 0 := by
  unfold bt
  obtain ⟨j, rfl⟩ : ∃ j, k = i + 1 + j := ⟨k - i - 1, by omega⟩
  have : c * 2 ^ (i + 1 + j) = 2 ^ i * (2 * (c * 2 ^ j)) := by
    rw [Nat.pow_add, Nat.pow_succ]
    simp only [Nat.mul_comm, Nat.mul_left_comm, Nat.mul_assoc]
  rw [this, Nat.mul_div_cancel_left _ (Nat.two_pow_pos i), Nat.mul_mod_right]
theorem split64 (x : Nat) : x / 18446744073709551616 * 18446744073709551616 + x % 18446744073709551616 = x := by omega
end Go.Num
namespace Go.Proofs.YtjkajkhomklikaaDoor
open Go.Abs Go.Num
variable {G : Globs}
end Go.Proofs.YtjkajkhomklikaaDoor
