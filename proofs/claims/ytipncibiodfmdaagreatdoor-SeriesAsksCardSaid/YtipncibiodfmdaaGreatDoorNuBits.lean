/- Numbers of 128 bits, bit by bit, in plain Lean. -/
import Derived.WalkKit
set_option linter.unusedSimpArgs false
set_option linter.unusedVariables false
namespace Go.Num
/-- The i-th bit. -/
def bt (a i : Nat) : Nat := a / 2 ^ i % 2
theorem bt_lt (a i : Nat) : bt a i < 2 := Nat.mod_lt _ (by decide)
theorem bt_lo {hi lo i : Nat} (hl : lo < 18446744073709551616) (h : i < 64) : bt (hi * 18446744073709551616 + lo) i = lo / 2 ^ i % 2 := by
  unfold bt
  have e : hi * 18446744073709551616 = 2 ^ i * (hi * 2 ^ (64 - i)) := by
    rw [show (18446744073709551616 : Nat) = 2 ^ i * 2 ^ (64 - i) by rw [← Nat.pow_add, show i + (64 - i) = 64 by omega]]
    rw [Nat.mul_left_comm]
  rw [e, Nat.mul_add_div (Nat.two_pow_pos i)]
  have e2 : hi * 2 ^ (64 - i) = 2 * (hi * 2 ^ (63 - i)) := by
    rw [show 64 - i = (63 - i) + 1 by omega, Nat.pow_succ]
    rw [Nat.mul_comm (2 ^ (63 - i)) 2, Nat.mul_left_comm]
  rw [e2, Nat.mul_add_mod]
theorem bt_hi {hi lo i : Nat} (hl : lo < 18446744073709551616) (h : 64 ≤ i) : bt (hi * 18446744073709551616 + lo) i = hi / 2 ^ (i - 64) % 2 := by
  unfold bt
  have e : 2 ^ i = 18446744073709551616 * 2 ^ (i - 64) := by
    rw [show (18446744073709551616 : Nat) = 2 ^ 64 by decide, ← Nat.pow_add, show 64 + (i - 64) = i by omega]
  rw [e, ← Nat.div_div_eq_div_mul]
  congr 2
  omega
/-- A sum, bit by bit: what stands below the i-th one, and what is carried. -/
def sumLo (a b i : Nat) : Nat := (a % 2 ^ i + b % 2 ^ i) % 2 ^ i
def sumC (a b i : Nat) : Nat := (a % 2 ^ i + b % 2 ^ i) / 2 ^ i
theorem sum_step (a b i : Nat) : sumLo a b (i + 1) = sumLo a b i + 2 ^ i * ((bt a i + bt b i + sumC a b i) % 2) ∧ sumC a b (i + 1) = (bt a i + bt b i + sumC a b i) / 2 := by
  have hp := Nat.two_pow_pos i
  have h1 := Nat.mod_pow_succ (x := a) (b := 2) (k := i)
  have h2 := Nat.mod_pow_succ (x := b) (b := 2) (k := i)
  have h3 := Nat.div_add_mod (a % 2 ^ i + b % 2 ^ i) (2 ^ i)
  have e : a % 2 ^ (i + 1) + b % 2 ^ (i + 1) = 2 ^ i * (bt a i + bt b i + sumC a b i) + sumLo a b i := by
    rw [h1, h2]
    unfold sumC sumLo bt
    rw [Nat.mul_add, Nat.mul_add]
    omega
  have hlo : sumLo a b i < 2 ^ i := Nat.mod_lt _ hp
  obtain ⟨s, hs⟩ : ∃ s, bt a i + bt b i + sumC a b i = s := ⟨_, rfl⟩
  rw [hs] at e ⊢
  have e2 : 2 ^ i * s + sumLo a b i = 2 ^ (i + 1) * (s / 2) + (sumLo a b i + 2 ^ i * (s % 2)) := by
    have := Nat.div_add_mod s 2
    have h : 2 ^ i * s = 2 ^ i * (2 * (s / 2) + s % 2) := by rw [this]
    rw [h, Nat.mul_add, Nat.pow_succ, Nat.mul_assoc]; omega
  have hlt : sumLo a b i + 2 ^ i * (s % 2) < 2 ^ (i + 1) := by
    have hm : s % 2 ≤ 1 := by have := Nat.mod_lt s (show 0 < 2 by decide); omega
    have := Nat.mul_le_mul_left (2 ^ i) hm
    rw [Nat.pow_succ]; omega
  have hpp := Nat.two_pow_pos (i + 1)
  constructor
  · show (a % 2 ^ (i + 1) + b % 2 ^ (i + 1)) % 2 ^ (i + 1) = _
    rw [e, e2, Nat.mul_add_mod, Nat.mod_eq_of_lt hlt]
  · show (a % 2 ^ (i + 1) + b % 2 ^ (i + 1)) / 2 ^ (i + 1) = _
    rw [e, e2, Nat.mul_add_div hpp, Nat.div_eq_of_lt hlt]; omega
theorem sumC_le (a b i : Nat) : sumC a b i ≤ 1 := by
  have hp := Nat.two_pow_pos i
  have h1 := Nat.mod_lt a hp
  have h2 := Nat.mod_lt b hp
  unfold sumC
  have : (a % 2 ^ i + b % 2 ^ i) / 2 ^ i < 2 := by
    rw [Nat.div_lt_iff_lt_mul hp]; omega
  omega
/-- A product, bit by bit. -/
theorem mul_step (x y i : Nat) : x * (y % 2 ^ (i + 1)) = x * (y % 2 ^ i) + (if bt y i = 1 then x * 2 ^ i else 0) := by
  have h := Nat.mod_pow_succ (x := y) (b := 2) (k := i)
  have hb := bt_lt y i
  unfold bt at *
  rw [h, Nat.mul_add]
  split
  · rename_i h1; rw [h1, Nat.mul_one]
  · have : y / 2 ^ i % 2 = 0 := by omega
    rw [this]; simp
/-- A quotient, bit by bit from the greatest on. -/
theorem div_step (a i : Nat) : a / 2 ^ i = 2 * (a / 2 ^ (i + 1)) + bt a i := by
  have : a / 2 ^ (i + 1) = a / 2 ^ i / 2 := by rw [Nat.pow_succ, Nat.div_div_eq_div_mul]
  rw [this]
  unfold bt
  omega
theorem div_next {n d q r b : Nat} (h : n = q * d + r) (hr : r < d) (hb : b < 2) : (2 * r + b < d → 2 * n + b = (2 * q) * d + (2 * r + b)) ∧ (d ≤ 2 * r + b → 2 * n + b = (2 * q + 1) * d + (2 * r + b - d) ∧ 2 * r + b - d < d) := by
  subst h
  constructor
  · intro _
    rw [Nat.mul_add, Nat.mul_assoc]; omega
  · intro h
    refine ⟨?_, by omega⟩
    rw [Nat.mul_add, Nat.add_mul, Nat.mul_assoc]; omega
theorem or_add {x i : Nat} (h : x < 2 ^ i) : x ||| 2 ^ i = x + 2 ^ i := by
  have := Nat.two_pow_add_eq_or_of_lt h 1
  rw [Nat.mul_one] at this
  rw [Nat.or_comm, ← this, Nat.add_comm]
end Go.Num
