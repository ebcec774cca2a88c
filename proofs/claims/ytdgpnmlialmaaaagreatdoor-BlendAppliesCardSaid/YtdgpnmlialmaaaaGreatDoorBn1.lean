/- Numbers of 128 bits, bit by bit, in plain Lean. Bits of 64-bit numbers, as the machine's operations yield them. Numbers with six decimals, and quotien -/
import Derived.WalkKit
import Derived.Test.YtdgpnmlialmaaaaGreatDoorAbs2
import Derived.Test.YtdgpnmlialmaaaaGreatDoorCode
import Derived.Test.YtdgpnmlialmaaaaGreatDoorShelf
import Derived.Lib.ItoaNum
set_option linter.unusedSimpArgs false
set_option linter.unusedVariables false
set_option linter.constructorNameAsVariable false
section
namespace Go.Num
/-- The i-th bit. -/
def bt (a i : Nat) : Nat := a / 2 ^ i % 2
theorem bt_lt (a i : Nat) : bt a i < 2 := Nat.mod_lt _ (by decide)
theorem bt_lo {hi lo i : Nat} (hl : lo < 18446744073709551616) (h : i < 64) : bt (hi * 18446744073709551616 + lo) i = lo / 2 ^ i % 2 := by
  unfold bt
  have e : hi * 18446744073709551616 = 2 ^ i * (hi * 2 ^ (64 - i)) := by
    rw [show (18446744073709551616 : Nat) = 2 ^ i * 2 ^ (64 - i) by rw [← Nat.pow_add, show i + (64 - i) = 64 by omega]]
    rw [Nat.mul_left_comm]
  rw [e, Nat.mul_add_div (Nat.two_pow_pos i)]
  have e2 : hi * 2 ^ (64 - i) = 2 * (hi * 2 ^ (63 - i)) := by
    rw [show 64 - i = (63 - i) + 1 by omega, Nat.pow_succ]
    rw [Nat.mul_comm (2 ^ (63 - i)) 2, Nat.mul_left_comm]
  rw [e2, Nat.mul_add_mod]
theorem bt_hi {hi lo i : Nat} (hl : lo < 18446744073709551616) (h : 64 ≤ i) : bt (hi * 18446744073709551616 + lo) i = hi / 2 ^ (i - 64) % 2 := by
  unfold bt
  have e : 2 ^ i = 18446744073709551616 * 2 ^ (i - 64) := by
    rw [show (18446744073709551616 : Nat) = 2 ^ 64 by decide, ← Nat.pow_add, show 64 + (i - 64) = i by omega]
  rw [e, ← Nat.div_div_eq_div_mul]
  congr 2
  omega
/-- A sum, bit by bit: what stands below the i-th one, and what is carried. -/
def sumLo (a b i : Nat) : Nat := (a % 2 ^ i + b % 2 ^ i) % 2 ^ i
def sumC (a b i : Nat) : Nat := (a % 2 ^ i + b % 2 ^ i) / 2 ^ i
theorem sum_step (a b i : Nat) : sumLo a b (i + 1) = sumLo a b i + 2 ^ i * ((bt a i + bt b i + sumC a b i) % 2) ∧ sumC a b (i + 1) = (bt a i + bt b i + sumC a b i) / 2 := by
  have hp := Nat.two_pow_pos i
  have h1 := Nat.mod_pow_succ (x := a) (b := 2) (k := i)
  have h2 := Nat.mod_pow_succ (x := b) (b := 2) (k := i)
  have h3 := Nat.div_add_mod (a % 2 ^ i + b % 2 ^ i) (2 ^ i)
  have e : a % 2 ^ (i + 1) + b % 2 ^ (i + 1) = 2 ^ i * (bt a i + bt b i + sumC a b i) + sumLo a b i := by
    rw [h1, h2]
    unfold sumC sumLo bt
    rw [Nat.mul_add, Nat.mul_add]
    omega
  have hlo : sumLo a b i < 2 ^ i := Nat.mod_lt _ hp
  obtain ⟨s, hs⟩ : ∃ s, bt a i + bt b i + sumC a b i = s := ⟨_, rfl⟩
  rw [hs] at e ⊢
  have e2 : 2 ^ i * s + sumLo a b i = 2 ^ (i + 1) * (s / 2) + (sumLo a b i + 2 ^ i * (s % 2)) := by
    have := Nat.div_add_mod s 2
    have h : 2 ^ i * s = 2 ^ i * (2 * (s / 2) + s % 2) := by rw [this]
    rw [h, Nat.mul_add, Nat.pow_succ, Nat.mul_assoc]; omega
  have hlt : sumLo a b i + 2 ^ i * (s % 2) < 2 ^ (i + 1) := by
    have hm : s % 2 ≤ 1 := by have := Nat.mod_lt s (show 0 < 2 by decide); omega
    have := Nat.mul_le_mul_left (2 ^ i) hm
    rw [Nat.pow_succ]; omega
  have hpp := Nat.two_pow_pos (i + 1)
  constructor
  · show (a % 2 ^ (i + 1) + b % 2 ^ (i + 1)) % 2 ^ (i + 1) = _
    rw [e, e2, Nat.mul_add_mod, Nat.mod_eq_of_lt hlt]
  · show (a % 2 ^ (i + 1) + b % 2 ^ (i + 1)) / 2 ^ (i + 1) = _
    rw [e, e2, Nat.mul_add_div hpp, Nat.div_eq_of_lt hlt]; omega
theorem sumC_le (a b i : Nat) : sumC a b i ≤ 1 := by
  have hp := Nat.two_pow_pos i
  have h1 := Nat.mod_lt a hp
  have h2 := Nat.mod_lt b hp
  unfold sumC
  have : (a % 2 ^ i + b % 2 ^ i) / 2 ^ i < 2 := by
    rw [Nat.div_lt_iff_lt_mul hp]; omega
  omega
/-- A product, bit by bit. -/
theorem mul_step (x y i : Nat) : x * (y % 2 ^ (i + 1)) = x * (y % 2 ^ i) + (if bt y i = 1 then x * 2 ^ i else 0) := by
  have h := Nat.mod_pow_succ (x := y) (b := 2) (k := i)
  have hb := bt_lt y i
  unfold bt at *
  rw [h, Nat.mul_add]
  split
  · rename_i h1; rw [h1, Nat.mul_one]
  · have : y / 2 ^ i % 2 = 0 := by omega
    rw [this]; simp
/-- A quotient, bit by bit from the greatest on. -/
theorem div_step (a i : Nat) : a / 2 ^ i = 2 * (a / 2 ^ (i + 1)) + bt a i := by
  have : a / 2 ^ (i + 1) = a / 2 ^ i / 2 := by rw [Nat.pow_succ, Nat.div_div_eq_div_mul]
  rw [this]
  unfold bt
  omega
theorem div_next {n d q r b : Nat} (h : n = q * d + r) (hr : r < d) (hb : b < 2) : (2 * r + b < d → 2 * n + b = (2 * q) * d + (2 * r + b)) ∧ (d ≤ 2 * r + b → 2 * n + b = (2 * q + 1) * d + (2 * r + b - d) ∧ 2 * r + b - d < d) := by
  subst h
  constructor
  · intro _
    rw [Nat.mul_add, Nat.mul_assoc]; omega
  · intro h
    refine ⟨?_, by omega⟩
    rw [Nat.mul_add, Nat.add_mul, Nat.mul_assoc]; omega
end Go.Num
end
section
namespace Go.Num
open Go.Abs
theorem u64_of (a : Nat) (h : a < 18446744073709551616) : (BitVec.ofInt 64 (a : Int)).toNat = a := by
  rw [BitVec.toNat_ofInt]
  omega
theorem u64_wrap (a : Nat) (h : a < 18446744073709551616) : IntKind.u64.wrap (a : Int) = a := by
  have := Go.IntKind.wrap
  simp [IntKind.wrap, IntKind.signed, IntKind.bits]; omega
theorem and_one (a : Nat) (h : a < 18446744073709551616) : bitOp .and .u64 (a : Int) 1 = some ((a % 2 : Nat) : Int) := by
  have e : (BitVec.ofInt 64 (a : Int) &&& BitVec.ofInt 64 1).toNat = a % 2 := by
    rw [BitVec.toNat_and, u64_of a h, show (BitVec.ofInt 64 1).toNat = 1 by decide, Nat.and_one_is_mod]
  show some (IntKind.u64.wrap ((BitVec.ofInt 64 (a : Int) &&& BitVec.ofInt 64 1).toNat : Int)) = _
  rw [e, u64_wrap _ (by omega)]
theorem or_nat (a b : Nat) (h : a < 18446744073709551616) (h2 : b < 18446744073709551616) : bitOp .or .u64 (a : Int) (b : Int) = some ((a ||| b : Nat) : Int) := by
  have e : (BitVec.ofInt 64 (a : Int) ||| BitVec.ofInt 64 (b : Int)).toNat = a ||| b := by
    rw [BitVec.toNat_or, u64_of a h, u64_of b h2]
  have hlt : a ||| b < 18446744073709551616 := Nat.or_lt_two_pow (n := 64) h h2
  show some (IntKind.u64.wrap ((BitVec.ofInt 64 (a : Int) ||| BitVec.ofInt 64 (b : Int)).toNat : Int)) = _
  rw [e, u64_wrap _ hlt]
theorem shr_nat (a n : Nat) (h : a < 18446744073709551616) (hn : n ≤ 64) : shiftOp .shr .u64 (a : Int) n = some ((a / 2 ^ n : Nat) : Int) := by
  show some ((a : Int).fdiv (2 ^ min n 64)) = _
  rw [Nat.min_eq_left hn]
  congr 1
  rw [show ((2 : Int) ^ n) = ((2 ^ n : Nat) : Int) by push_cast; rfl]
  exact Int.ofNat_fdiv _ _ |>.symm
theorem shl_nat (a n : Nat) (hn : n ≤ 64) : shiftOp .shl .u64 (a : Int) n = some ((a * 2 ^ n % 18446744073709551616 : Nat) : Int) := by
  show some (IntKind.u64.wrap ((a : Int) * 2 ^ min n 64)) = _
  rw [Nat.min_eq_left hn]
  rw [show (a : Int) * 2 ^ n = ((a * 2 ^ n : Nat) : Int) by push_cast; rfl]
  simp [IntKind.wrap, IntKind.signed, IntKind.bits]
end Go.Num
end
section
namespace Go.Num
theorem kn_mul {a b u v q r B : Nat} (hr : q * a + r = u) : q * (a * B + b) + (B * r + v) = u * B + v + q * b := by
  subst hr
  rw [Nat.mul_add, Nat.add_mul, Nat.mul_assoc, Nat.mul_comm B r]
  omega
/-- The guess isn't too great: it is the digit. -/
theorem kn_exit {a b u v q r B : Nat} (hy : 0 < a * B + b) (hq : (u * B + v) / (a * B + b) ≤ q) (hr : q * a + r = u) (h : q * b ≤ B * r + v) : q = (u * B + v) / (a * B + b) := by
  have := kn_mul (b := b) (v := v) (B := B) hr
  exact Nat.le_antisymm ((Nat.le_div_iff_mul_le hy).2 (by omega)) hq
/-- The rest is great: the guess is the digit. -/
theorem kn_break {a b u v q r B : Nat} (hy : 0 < a * B + b) (hq : (u * B + v) / (a * B + b) ≤ q) (hr : q * a + r = u) (hB : B ≤ r) (hqB : q ≤ B) (hb : b < B) : q = (u * B + v) / (a * B + b) := by
  refine kn_exit hy hq hr ?_
  have h1 : q * b ≤ B * B := Nat.mul_le_mul hqB (Nat.le_of_lt hb)
  have h2 : B * B ≤ B * r := Nat.mul_le_mul_left B hB
  omega
/-- The guess is too great. -/
theorem kn_next {a b u v q r B : Nat} (hy : 0 < a * B + b) (hu : u < a * B + b) (hv : v < B) (hr : q * a + r = u) (h : B ≤ q ∨ B * r + v < q * b) : (u * B + v) / (a * B + b) < q := by
  rw [Nat.div_lt_iff_lt_mul hy]
  rcases h with h | h
  · have h1 : u * B + v < (u + 1) * B := by rw [Nat.add_mul]; omega
    have h2 : (u + 1) * B ≤ (a * B + b) * B := Nat.mul_le_mul_right B hu
    have h3 : (a * B + b) * B ≤ q * (a * B + b) := by rw [Nat.mul_comm q]; exact Nat.mul_le_mul_left _ h
    omega
  · have := kn_mul (b := b) (v := v) (B := B) hr
    omega
/-- The first guess is at most two too great. -/
theorem kn_guess {a b u v B : Nat} (ha : 0 < a) (hv : v < B) : (u * B + v) / (a * B + b) ≤ u / a := by
  have hB : 0 < B := by omega
  rw [Nat.le_div_iff_mul_le ha]
  have h1 : (u * B + v) / (a * B + b) * (a * B + b) ≤ u * B + v := Nat.div_mul_le_self _ _
  have h2 : (u * B + v) / (a * B + b) * (a * B) ≤ (u * B + v) / (a * B + b) * (a * B + b) := Nat.mul_le_mul_left _ (Nat.le_add_right _ _)
  have h3 : (u * B + v) / (a * B + b) * a * B < (u + 1) * B := by
    rw [Nat.mul_assoc, Nat.add_mul]; omega
  have := Nat.lt_of_mul_lt_mul_right h3
  omega
theorem kn_first {a b u B : Nat} (ha : B ≤ 2 * a) (hb : b < B) (hu : u < a * B + b) : u / a ≤ B + 1 := by
  have ha0 : 0 < a := by omega
  have : u < (B + 2) * a := by
    have e : (B + 2) * a = a * B + 2 * a := by rw [Nat.add_mul, Nat.mul_comm B a]
    omega
  have := (Nat.div_lt_iff_lt_mul ha0).2 this
  omega
/-- Two digits make the quotient. -/
theorem two_digits {y h l B : Nat} (hy : 0 < y) : let q1 := h / y; let r1 := h % y; (h * B + l) / y = q1 * B + (r1 * B + l) / y ∧ (h * B + l) % y = (r1 * B + l) % y := by
  intro q1 r1
  have e : h * B + l = y * (q1 * B) + (r1 * B + l) := by
    have := Nat.div_add_mod h y
    have h2 : h * B = (y * q1 + r1) * B := by rw [this]
    rw [h2, Nat.add_mul, Nat.mul_assoc]; omega
  rw [e]
  exact ⟨Nat.mul_add_div hy _ _, Nat.mul_add_mod _ _ _⟩
/-- A quotient of 128 bits by 64, by two digits of 32, all moved to the left: M is 2^64, B 2^32, P 2^s, R 2^(64-s). -/
theorem div64_join {hi lo y M B P R : Nat} (hM : M = R * P) (hMB : M = B * B) (hp : 0 < P) (hy : 0 < y) {u32 u10 h q1 u21 g : Nat}
    (e1 : u32 = hi * P + lo / R) (e2 : u10 = lo * P % M) (e3 : h = u32 * B + u10 / B) (e4 : q1 = h / (y * P)) (e5 : u21 = h % (y * P)) (e6 : g = u21 * B + u10 % B) :
    (hi * M + lo) / y = q1 * B + g / (y * P) ∧ (hi * M + lo) % y = g % (y * P) / P := by
  have hyp : 0 < y * P := Nat.mul_pos hy hp
  have elo : lo * P = lo / R * M + u10 := by
    have h1 := Nat.div_add_mod (lo * P) M
    have h2 : lo * P / M = lo / R := by
      rw [hM]; exact Nat.mul_div_mul_right _ _ hp
    rw [h2, Nat.mul_comm, ← e2] at h1
    exact h1.symm
  have eu : u10 / B * B + u10 % B = u10 := by
    have := Nat.div_add_mod u10 B
    rw [Nat.mul_comm] at this; exact this
  have en : (hi * M + lo) * P = h * B + u10 % B := by
    have h1 : (hi * M + lo) * P = hi * P * M + lo * P := by
      rw [Nat.add_mul, Nat.mul_assoc, Nat.mul_comm M P, ← Nat.mul_assoc]
    have h2 : h * B = u32 * M + u10 / B * B := by
      rw [e3, Nat.add_mul, Nat.mul_assoc, ← hMB]
    have h3 : u32 * M = hi * P * M + lo / R * M := by rw [e1, Nat.add_mul]
    rw [h1, elo, h2, h3, Nat.add_assoc (hi * P * M + lo / R * M), eu, Nat.add_assoc]
  obtain ⟨t1, t2⟩ := two_digits (y := y * P) (h := h) (l := u10 % B) (B := B) hyp
  rw [← e4, ← e5, ← e6] at t1
  rw [← e5, ← e6] at t2
  have d1 : (hi * M + lo) / y = (hi * M + lo) * P / (y * P) := (Nat.mul_div_mul_right _ _ hp).symm
  have d2 : (hi * M + lo) * P % (y * P) = (hi * M + lo) % y * P := Nat.mul_mod_mul_right _ _ _
  constructor
  · rw [d1, en]; exact t1
  · rw [en, t2] at d2
    rw [d2, Nat.mul_div_cancel _ hp]
abbrev N := Bool × Int
abbrev most : Int := 9223372036854775807
/-- Does a number count? -/
def good (n : N) : Bool := !n.1 && decide (-most ≤ n.2)
/-- Is it a number as it must be? -/
def rightN (n : N) : Bool := if n.1 then decide (n.2 = 0) else decide (-most ≤ n.2)
def nothing : N := (true, 0)
def tell (s : Int) : N := if -most ≤ s ∧ s ≤ most then (false, s) else nothing
def addN (a b : N) : N := if good a && good b then tell (a.2 + b.2) else nothing
def lessN (a b : N) : N := if good a then (if good b then (if a.2 ≤ b.2 then a else b) else a) else if good b then b else nothing
def moreN (a b : N) : N := if good a then (if good b then (if b.2 ≤ a.2 then a else b) else a) else if good b then b else nothing
/-- A quotient to the nearest number. -/
def rnd (x d : Nat) : Nat := x / d + (if d - x % d ≤ x % d then 1 else 0)
def sgn (below : Bool) (n : Nat) : Int := if below then -(n : Int) else n
def divN (a b : N) : N := if good a && good b && decide (b.2 ≠ 0) then tell (sgn (decide (a.2 < 0) != decide (b.2 < 0)) (rnd (a.2.natAbs * 1000000) b.2.natAbs)) else nothing
def known (l : List N) : List N := l.filter good
/-- What values that count make, by a way. -/
def reckonK (way : Int) (k : N) (ks : List N) : N :=
  if way = 1 then divN (ks.foldl addN k) (tell (((k :: ks).length : Int) * 1000000))
  else if way = 2 then ks.foldl addN k
  else if way = 3 then ks.foldl lessN k
  else if way = 4 then ks.foldl moreN k
  else if way = 5 then (k :: ks).getLast (by simp)
  else nothing
def reckon (way : Int) (l : List N) : N := match known l with
  | [] => nothing
  | k :: ks => reckonK way k ks
end Go.Num
end
section
namespace Go.Num
theorem good_iff {n : N} : good n = true ↔ n.1 = false ∧ -most ≤ n.2 := by
  simp [good]
theorem known_good (l : List N) : ∀ n ∈ known l, good n = true := fun n hn => (List.mem_filter.1 hn).2
theorem tell_zero : tell 0 = (false, 0) := by decide
/-- Nought and a number that counts is the number. -/
theorem add_zero {k : N} (h : good k = true) (h2 : k.2 ≤ most) : addN (tell 0) k = k := by
  obtain ⟨h1, h3⟩ := good_iff.1 h
  have hz : good (tell 0) = true := by decide
  unfold addN
  rw [hz, h]
  simp only [Bool.and_self, if_true]
  rw [tell_zero]
  unfold tell
  simp only [Int.zero_add]
  rw [if_pos ⟨h3, h2⟩, ← h1]
theorem less_self (k : N) (h : good k = true) : lessN k k = k := by simp [lessN, h]
theorem more_self (k : N) (h : good k = true) : moreN k k = k := by simp [moreN, h]
theorem div_len {s : N} {n : Nat} (hs : good s = true) (hn : 0 < n) (h2 : n ≤ 3000) : divN s (tell ((n : Int) * 1000000)) = tell (sgn (decide (s.2 < 0)) (rnd (s.2.natAbs * 1000000) (n * 1000000))) := by
  have hmost : most = 9223372036854775807 := rfl
  have e : tell ((n : Int) * 1000000) = (false, (n : Int) * 1000000) := by rw [tell, if_pos ⟨by omega, by omega⟩]
  rw [e]
  have hg : good (false, (n : Int) * 1000000) = true := good_iff.2 ⟨rfl, by simp only; omega⟩
  unfold divN
  rw [hs, hg]
  have h0 : decide ((n : Int) * 1000000 ≠ 0) = true := by simp; omega
  have hneg : decide ((n : Int) * 1000000 < 0) = false := by simp; omega
  have habs : ((n : Int) * 1000000).natAbs = n * 1000000 := by omega
  simp only [h0, hneg, habs, Bool.and_self, if_true]
  have : (decide (s.2 < 0) != false) = decide (s.2 < 0) := by cases decide (s.2 < 0) <;> rfl
  rw [this]
end Go.Num
end
section
set_option maxHeartbeats 1000000
namespace Go.Num
open Go.Abs
def numA (n : N) : AV := .agg [.bool n.1, .int .i64 n.2]
/-- A number of 128 bits. -/
def wA (n : Nat) : AV := .agg [.int .u64 ((n / 18446744073709551616 : Nat) : Int), .int .u64 ((n % 18446744073709551616 : Nat) : Int)]
def okN (n : N) : Prop := -9223372036854775808 ≤ n.2 ∧ n.2 ≤ 9223372036854775807
theorem wrap_u (x : Int) : IntKind.u64.wrap x = x % 18446744073709551616 := by simp [IntKind.wrap, IntKind.signed, IntKind.bits]
theorem wrap_i {x : Int} (h1 : -9223372036854775808 ≤ x) (h2 : x ≤ 9223372036854775807) : IntKind.i64.wrap x = x := wrap_i64 h1 h2
theorem ok_tell (s : Int) : okN (tell s) := by
  unfold tell okN
  split
  · rename_i h; simp only [most] at h; simp only; omega
  · simp [nothing]
theorem ok_nothing : okN nothing := by simp [okN, nothing]
theorem ok_add (a b : N) : okN (addN a b) := by
  unfold addN; split
  · exact ok_tell _
  · exact ok_nothing
theorem ok_less {a b : N} (ha : okN a) (hb : okN b) : okN (lessN a b) := by
  unfold lessN; repeat' split
  all_goals first | exact ha | exact hb | exact ok_nothing
theorem ok_more {a b : N} (ha : okN a) (hb : okN b) : okN (moreN a b) := by
  unfold moreN; repeat' split
  all_goals first | exact ha | exact hb | exact ok_nothing
theorem ok_div (a b : N) : okN (divN a b) := by
  unfold divN; split
  · exact ok_tell _
  · exact ok_nothing
theorem and_mask (a : Nat) (h : a < 18446744073709551616) : bitOp .and .u64 (a : Int) 4294967295 = some ((a % 4294967296 : Nat) : Int) := by
  have e : (BitVec.ofInt 64 (a : Int) &&& BitVec.ofInt 64 4294967295).toNat = a % 4294967296 := by
    rw [BitVec.toNat_and, u64_of a h, show (BitVec.ofInt 64 4294967295).toNat = 2 ^ 32 - 1 by decide, Nat.and_two_pow_sub_one_eq_mod]
  show some (IntKind.u64.wrap ((BitVec.ofInt 64 (a : Int) &&& BitVec.ofInt 64 4294967295).toNat : Int)) = _
  rw [e, u64_wrap _ (by omega)]
theorem norm_or {hi lo y s : Nat} (hhi : hi < y) (hy : y * 2 ^ s < 18446744073709551616) (hs : s ≤ 63) (hlo : lo < 18446744073709551616) : (hi * 2 ^ s % 18446744073709551616 ||| lo / 2 ^ (64 - s)) = hi * 2 ^ s + lo / 2 ^ (64 - s) := by
  have h1 : hi * 2 ^ s < 18446744073709551616 := Nat.lt_of_le_of_lt (Nat.mul_le_mul_right _ (Nat.le_of_lt hhi)) hy
  rw [Nat.mod_eq_of_lt h1]
  have h2 : lo / 2 ^ (64 - s) < 2 ^ s := by
    rw [Nat.div_lt_iff_lt_mul (Nat.two_pow_pos _), ← Nat.pow_add, show s + (64 - s) = 64 by omega]; exact hlo
  have := Nat.two_pow_add_eq_or_of_lt h2 hi
  rw [Nat.mul_comm (2 ^ s) hi] at this
  exact this.symm
theorem bitLen_norm {y : Nat} (h0 : 0 < y) (h : y < 18446744073709551616) : ∃ s : Nat, s ≤ 63 ∧ Lib.bitLen y = 64 - s ∧ 9223372036854775808 ≤ y * 2 ^ s ∧ y * 2 ^ s < 18446744073709551616 := by
  obtain ⟨h1, h2, h3⟩ := Lib.bitLenAux_bounds 64 y (by simpa using h) (by omega)
  have h4 : Lib.bitLen y ≤ 64 := Lib.bitLen_le y 64 (by decide) (by simpa using h)
  change 1 ≤ Lib.bitLen y at h1
  change 2 ^ (Lib.bitLen y - 1) ≤ y at h2
  change y < 2 ^ Lib.bitLen y at h3
  refine ⟨64 - Lib.bitLen y, by omega, by omega, ?_, ?_⟩
  · have e : 2 ^ (Lib.bitLen y - 1) * 2 ^ (64 - Lib.bitLen y) = 9223372036854775808 := by
      rw [← Nat.pow_add, show Lib.bitLen y - 1 + (64 - Lib.bitLen y) = 63 by omega]
    rw [← e]; exact Nat.mul_le_mul_right _ h2
  · have e : 2 ^ Lib.bitLen y * 2 ^ (64 - Lib.bitLen y) = 18446744073709551616 := by
      rw [← Nat.pow_add, show Lib.bitLen y + (64 - Lib.bitLen y) = 64 by omega]
    rw [← e]; exact Nat.mul_lt_mul_of_pos_right h3 (Nat.two_pow_pos _)
end Go.Num
namespace Go.Proofs.YtdgpnmlialmaaaaGreatDoor
open Go.Abs Go.Num
variable {G : Globs}
theorem there_ok (n : N) : PCalls Tryz.prog n_fixed_there [numA n] (fun r => r = .bool (good n)) := by
  refine pcalls_of_awp hmix c_fixed_there rfl ?_
  obtain ⟨b, v⟩ := n
  cases b <;> simp [a_fixed_there, numA, good, most]
theorem fRight_ok (n : N) : PCalls Tryz.prog n_fixed_Right [numA n] (fun r => r = .bool (rightN n)) := by
  refine pcalls_of_awp hmix c_fixed_Right rfl ?_
  obtain ⟨b, v⟩ := n
  cases b <;> simp [a_fixed_Right, numA, rightN, most]
theorem nothing_ok : PCalls Tryz.prog n_fixed_nothing [] (fun r => r = numA nothing) := by
  refine pcalls_of_awp hmix c_fixed_nothing rfl ?_
  simp [a_fixed_nothing, numA, nothing]
theorem size_ok (n : N) (h : -9223372036854775807 ≤ n.2) (h2 : n.2 ≤ 9223372036854775807) : PCalls Tryz.prog n_fixed_size [numA n] (fun r => r = .tup [.int .u64 n.2.natAbs, .bool (decide (n.2 < 0))]) := by
  refine pcalls_of_awp hmix c_fixed_size rfl ?_
  obtain ⟨b, v⟩ := n
  simp only at h h2
  simp [a_fixed_size, numA]
  refine cb_dec (fun hlt => ?_) (fun hge => ?_)
  · have hw : IntKind.i64.wrap (-v) = -v := wrap_i (by omega) (by omega)
    have hw2 : IntKind.u64.wrap (-v) = -v := by rw [wrap_u]; omega
    simp [hw, hw2, hlt]
    omega
  · have hw2 : IntKind.u64.wrap v = v := by rw [wrap_u]; omega
    have hn : ¬ v < 0 := by omega
    simp [hw2, hn]
    omega
theorem told_ok (n : Nat) (hn : n < 18446744073709551616) (b : Bool) : PCalls Tryz.prog n_fixed_told [.int .u64 n, .bool b] (fun r => r = numA (tell (sgn b n))) := by
  refine pcalls_of_awp hmix c_fixed_told rfl ?_
  simp [a_fixed_told]
  refine cb_dec (fun hlt => ?_) (fun hge => ?_)
  · simp
    refine ac_same nothing_ok (by simp) ?_
    rintro r rfl
    have : tell (sgn b n) = nothing := by
      unfold tell sgn most
      cases b <;> simp <;> omega
    simp [this, numA]
  · have hw : IntKind.i64.wrap (n : Int) = n := wrap_i (by omega) (by omega)
    have hw2 : IntKind.i64.wrap (-(n : Int)) = -n := wrap_i (by omega) (by omega)
    cases b
    · have : tell (sgn false n) = (false, (n : Int)) := by
        unfold tell sgn most; simp; omega
      simp [hw, this, numA]
    · have : tell (sgn true n) = (false, -(n : Int)) := by
        unfold tell sgn most; simp; omega
      simp [hw, hw2, this, numA]
theorem fInt_ok (n : Int) (h0 : -9223372036854775808 ≤ n) (h1 : n ≤ 9223372036854775807) : PCalls Tryz.prog n_fixed_Int [.int .i64 n] (fun r => r = numA (tell (n * 1000000))) := by
  refine pcalls_of_awp hmix c_fixed_Int rfl ?_
  by_cases hc : 9223372036854 < n ∨ n < -9223372036854
  · have ht : tell (n * 1000000) = nothing := by unfold tell most; rw [if_neg]; omega
    have e : (decide (9223372036854 < n) || decide (n < -9223372036854)) = true := by simpa using hc
    rcases Decidable.em (9223372036854 < n) with h | h
    · simp [a_fixed_Int, h]
      refine ac_same nothing_ok (by simp) ?_
      rintro r rfl
      simp [ht, numA]
    · have h' : n < -9223372036854 := by omega
      simp [a_fixed_Int, h, h']
      refine ac_same nothing_ok (by simp) ?_
      rintro r rfl
      simp [ht, numA]
  · have a1 : ¬ 9223372036854 < n := by omega
    have a2 : ¬ n < -9223372036854 := by omega
    have ht : tell (n * 1000000) = (false, n * 1000000) := by unfold tell most; rw [if_pos]; omega
    have hw : IntKind.i64.wrap (n * 1000000) = n * 1000000 := wrap_i (by omega) (by omega)
    simp [a_fixed_Int, a1, a2, hw, ht, numA]
theorem fAdd_ok (a b : N) (ha : okN a) (hb : okN b) : PCalls Tryz.prog n_fixed_Add [numA a, numA b] (fun r => r = numA (addN a b)) := by
  refine pcalls_of_awp hmix c_fixed_Add rfl ?_
  obtain ⟨a1, a2⟩ := ha
  obtain ⟨b1, b2⟩ := hb
  simp [a_fixed_Add, numA]
  refine ac_same (there_ok a) (by simp [numA]) ?_
  rintro r rfl
  by_cases hga : good a = true
  · simp [hga]
    refine ac_same (there_ok b) (by simp [numA]) ?_
    rintro r rfl
    by_cases hgb : good b = true
    · obtain ⟨x, v⟩ := a
      obtain ⟨y, u⟩ := b
      simp only at a1 a2 b1 b2
      obtain ⟨hx, hv⟩ := good_iff.1 hga
      obtain ⟨hy, hu⟩ := good_iff.1 hgb
      simp only [most] at hx hv hy hu
      subst hx hy
      have e : addN (false, v) (false, u) = tell (v + u) := by simp [addN, hga, hgb]
      rw [e]
      simp [hgb]
      by_cases hu0 : 0 < u
      · have hw : IntKind.i64.wrap (9223372036854775807 - u) = 9223372036854775807 - u := wrap_i (by omega) (by omega)
        have hu1 : ¬ u < 0 := by omega
        by_cases hov : 9223372036854775807 - u < v
        · have ht : tell (v + u) = nothing := by unfold tell most; rw [if_neg]; omega
          simp [hu0, hw, hov, ht]
          refine ac_same nothing_ok (by simp) ?_
          rintro r rfl
          simp [numA, ht]
        · have ht : tell (v + u) = (false, v + u) := by unfold tell most; rw [if_pos]; omega
          have hw2 : IntKind.i64.wrap (v + u) = v + u := wrap_i (by omega) (by omega)
          simp [hu0, hu1, hw, hov, ht, hw2]
      · by_cases hu1 : u < 0
        · have hw : IntKind.i64.wrap (-9223372036854775807 - u) = -9223372036854775807 - u := wrap_i (by omega) (by omega)
          by_cases hov : v < -9223372036854775807 - u
          · have ht : tell (v + u) = nothing := by unfold tell most; rw [if_neg]; omega
            simp [hu0, hu1, hw, hov, ht]
            refine ac_same nothing_ok (by simp) ?_
            rintro r rfl
            simp [numA, ht]
          · have ht : tell (v + u) = (false, v + u) := by unfold tell most; rw [if_pos]; omega
            have hw2 : IntKind.i64.wrap (v + u) = v + u := wrap_i (by omega) (by omega)
            simp [hu0, hu1, hw, hov, ht, hw2]
        · have ht : tell (v + u) = (false, v + u) := by unfold tell most; rw [if_pos]; omega
          have hw2 : IntKind.i64.wrap (v + u) = v + u := wrap_i (by omega) (by omega)
          simp [hu0, hu1, ht, hw2]
    · have hgb' : good b = false := by simpa using hgb
      simp [hgb']
      refine ac_same nothing_ok (by simp) ?_
      rintro r rfl
      simp [addN, hga, hgb', numA]
  · have hga' : good a = false := by simpa using hga
    simp [hga']
    refine ac_same nothing_ok (by simp) ?_
    rintro r rfl
    simp [addN, hga', numA]
theorem pick_ok (a b : N) (first : Bool) : PCalls Tryz.prog n_fixed_pick [numA a, numA b, .bool first] (fun r => r = numA (if good a then (if good b then (if first then a else b) else a) else if good b then b else nothing)) := by
  refine pcalls_of_awp hmix c_fixed_pick rfl ?_
  simp [a_fixed_pick, numA]
  refine qc_same (there_ok a) (by simp [numA]) (by simp) ?_
  simp
  refine qc_same (there_ok b) (by simp [numA]) (by simp) ?_
  cases hga : good a <;> cases hgb : good b
  · simp
    refine ac_same nothing_ok (by simp) ?_
    rintro r rfl
    simp [numA]
  · simp
  · simp
  · cases first <;> simp
theorem fLess_ok (a b : N) : PCalls Tryz.prog n_fixed_Less [numA a, numA b] (fun r => r = numA (lessN a b)) := by
  refine pcalls_of_awp hmix c_fixed_Less rfl ?_
  simp [a_fixed_Less, numA]
  refine ac_same (pick_ok a b (decide (a.2 ≤ b.2))) (by simp [numA]) ?_
  rintro r rfl
  simp [numA, lessN]
theorem fMore_ok (a b : N) : PCalls Tryz.prog n_fixed_More [numA a, numA b] (fun r => r = numA (moreN a b)) := by
  refine pcalls_of_awp hmix c_fixed_More rfl ?_
  simp [a_fixed_More, numA]
  refine ac_same (pick_ok a b (decide (b.2 ≤ a.2))) (by simp [numA]) ?_
  rintro r rfl
  simp [numA, moreN]
theorem mul64_ok (x y : Nat) (hx : x < 18446744073709551616) (hy : y < 18446744073709551616) : PCalls Tryz.prog 112 [.int .u64 x, .int .u64 y] (fun r => r = .tup [.int .u64 ((x * y / 18446744073709551616 : Nat) : Int), .int .u64 ((x * y % 18446744073709551616 : Nat) : Int)]) :=
  pcalls2 fun base κ Im w v u hs e1 e2 => by
    cases e1.int_inv; cases e2.int_inv
    refine (Tryz.bits_Mul64 x y hx hy w).mono ?_
    rintro e w' ⟨rfl, rfl⟩
    exact ⟨_, _, rfl, rfl, Go.RowKit.Below.refl _ _, fun Im' => .tup _ [_, _] rfl fun j hj hj' => by
      match j, hj with
      | 0, _ => exact .int _ _
      | 1, _ => exact .int _ _⟩
theorem wMul_ok (x y : Nat) (hx : x < 18446744073709551616) (hy : y < 18446744073709551616) : PCalls Tryz.prog n_wide_Mul [.int .u64 x, .int .u64 y] (fun r => r = wA (x * y)) := by
  refine pcalls_of_awp hmix c_wide_Mul rfl ?_
  simp [a_wide_Mul]
  refine ac_same (mul64_ok x y hx hy) (by simp) ?_
  rintro r rfl
  simp [wA]
end Go.Proofs.YtdgpnmlialmaaaaGreatDoor
end
section
set_option maxHeartbeats 4000000
namespace Go.Proofs.YtdgpnmlialmaaaaGreatDoor
open Go.Abs Go.Num
variable {G : Globs}
theorem lead_ok (y s : Nat) (hy : y < 18446744073709551616) (hs : s ≤ 63) (hb : Lib.bitLen y = 64 - s) : PCalls Tryz.prog 139 [.int .u64 y] (fun r => r = .int .i64 s) :=
  pcalls1 fun base κ Im w v hh e1 => by
    cases e1.int_inv
    refine (Tryz.bits_LeadingZeros64 y w (by omega) (by omega)).mono ?_
    rintro e w' ⟨rfl, rfl⟩
    refine ⟨_, _, rfl, rfl, Go.RowKit.Below.refl _ _, fun Im' => ?_⟩
    have e : (64 - (Lib.bitLen (y : Int).toNat : Int)) = s := by rw [Int.toNat_natCast, hb]; omega
    rw [e]
    exact .int _ _
theorem u_div (n a : Nat) (hn : n < 18446744073709551616) : IntKind.u64.wrap ((n : Int) / a) = ((n / a : Nat) : Int) := by
  have h2 : n / a ≤ n := Nat.div_le_self _ _
  have h3 : ((n / a : Nat) : Int) = (n : Int) / a := Int.natCast_ediv n a
  rw [wrap_u, ← h3]
  generalize n / a = k at *
  omega
theorem u_mod (n a : Nat) : (n : Int) % a = ((n % a : Nat) : Int) := (Int.natCast_emod n a).symm
/-- One digit: the guess, and a step. -/
theorem dg_lt {u a q r v B b Y : Nat} (hB : B = 4294967296) (ha : a < B) (hq : q ≤ B + 1) (hr : r < B) (hv : v < B) (hb : b < B) (hqa : q * a + r = u) (huM : u < 18446744073709551616) : (q : Int) * a % 18446744073709551616 = q * a ∧ (B : Int) * r % 18446744073709551616 = B * r ∧ ((B : Int) * r + v) % 18446744073709551616 = B * r + v := by
  have h1 : ((q * a : Nat) : Int) = (q : Int) * a := by push_cast; rfl
  have h2 : ((B * r : Nat) : Int) = (B : Int) * r := by push_cast; rfl
  have h3 : B * r ≤ B * (B - 1) := Nat.mul_le_mul_left B (by omega)
  subst hB
  rw [← h1, ← h2]
  omega
theorem div64_ok (hi lo y : Nat) (hhi : hi < y) (hyM : y < 18446744073709551616) (hlo : lo < 18446744073709551616) :
    PCalls Tryz.prog n_math_bits_Div64 [.int .u64 hi, .int .u64 lo, .int .u64 y] (fun r => r = .tup [.int .u64 (((hi * 18446744073709551616 + lo) / y : Nat) : Int), .int .u64 (((hi * 18446744073709551616 + lo) % y : Nat) : Int)]) := by
  obtain ⟨Q, hQ⟩ : ∃ Q, Q = (hi * 18446744073709551616 + lo) / y := ⟨_, rfl⟩
  obtain ⟨R, hR⟩ : ∃ R, R = (hi * 18446744073709551616 + lo) % y := ⟨_, rfl⟩
  rw [← hQ, ← hR]
  refine pcalls_of_awp hmix c_math_bits_Div64 rfl ?_
  have hy0 : ¬ (y : Int) = 0 := by omega
  have hy0n : ¬ y = 0 := by omega
  have hyh : ¬ (y : Int) ≤ hi := by omega
  have hyh2 : ¬ y ≤ hi := by omega
  by_cases h0 : hi = 0
  · subst h0
    have e1 : IntKind.u64.wrap ((lo : Int) / y) = Q := by rw [u_div lo y hlo, hQ, Nat.zero_mul, Nat.zero_add]
    have e2 : (lo : Int).tmod y = R := by rw [Int.tmod_eq_emod_of_nonneg (by omega), u_mod, hR, Nat.zero_mul, Nat.zero_add]
    simp [a_math_bits_Div64, hy0, hy0n, hyh, hyh2, e1, e2]
  have h0' : ¬ (hi : Int) = 0 := by omega
  obtain ⟨s, hs, hbl, hY1, hY2⟩ := bitLen_norm (y := y) (by omega) hyM
  obtain ⟨Y, hYd⟩ : ∃ Y, Y = y * 2 ^ s := ⟨_, rfl⟩
  obtain ⟨B, hB⟩ : ∃ B : Nat, B = 4294967296 := ⟨_, rfl⟩
  rw [← hYd] at hY1 hY2
  have hsw : IntKind.u64.wrap (s : Int) = s := by rw [wrap_u]; omega
  have s2 : shiftOp .shl .u64 (y : Int) s = some (Y : Int) := by rw [shl_nat y s (by omega), hYd, Nat.mod_eq_of_lt (by rw [← hYd]; exact hY2)]
  obtain ⟨a, ha⟩ : ∃ a, a = Y / 4294967296 := ⟨_, rfl⟩
  obtain ⟨b, hb⟩ : ∃ b, b = Y % 4294967296 := ⟨_, rfl⟩
  have s9 : shiftOp .shr .u64 (Y : Int) 32 = some (a : Int) := by rw [shr_nat Y 32 hY2 (by decide), ha]
  have s10 : bitOp .and .u64 (Y : Int) 4294967295 = some (b : Int) := by rw [and_mask Y hY2, hb]
  obtain ⟨uh, huh⟩ : ∃ uh, uh = hi * 2 ^ s % 18446744073709551616 := ⟨_, rfl⟩
  obtain ⟨ul, hul⟩ : ∃ ul, ul = lo / 2 ^ (64 - s) := ⟨_, rfl⟩
  obtain ⟨u, hu⟩ : ∃ u, u = hi * 2 ^ s + lo / 2 ^ (64 - s) := ⟨_, rfl⟩
  have hor := norm_or (lo := lo) hhi (by rw [← hYd]; exact hY2) hs hlo
  rw [← huh, ← hul] at hor
  have huY : u < Y := by
    rw [hu, hYd]
    have h1 : lo / 2 ^ (64 - s) < 2 ^ s := by
      rw [Nat.div_lt_iff_lt_mul (Nat.two_pow_pos _), ← Nat.pow_add, show s + (64 - s) = 64 by omega]; exact hlo
    have h2 : (hi + 1) * 2 ^ s ≤ y * 2 ^ s := Nat.mul_le_mul_right _ hhi
    rw [Nat.add_mul] at h2; omega
  have hulM : ul < 18446744073709551616 := by rw [hul]; exact Nat.lt_of_le_of_lt (Nat.div_le_self _ _) hlo
  have huhM : uh < 18446744073709551616 := by rw [huh]; exact Nat.mod_lt _ (by decide)
  have s46 : shiftOp .shl .u64 (hi : Int) s = some (uh : Int) := by rw [shl_nat hi s (by omega), huh]
  have s49 : IntKind.u64.wrap (64 - (s : Int)) = ((64 - s : Nat) : Int) := by rw [wrap_u]; omega
  have s50 : shiftOp .shr .u64 (lo : Int) (64 - s) = some (ul : Int) := by rw [shr_nat lo (64 - s) hlo (by omega), hul]
  have s51 : bitOp .or .u64 (uh : Int) (ul : Int) = some (u : Int) := by rw [or_nat uh ul huhM hulM, hor, hul, hu]
  obtain ⟨u10, hu10⟩ : ∃ u10, u10 = lo * 2 ^ s % 18446744073709551616 := ⟨_, rfl⟩
  have hu10M : u10 < 18446744073709551616 := by rw [hu10]; exact Nat.mod_lt _ (by decide)
  have s54 : shiftOp .shl .u64 (lo : Int) s = some (u10 : Int) := by rw [shl_nat lo s (by omega), hu10]
  obtain ⟨u1, hu1⟩ : ∃ u1, u1 = u10 / 4294967296 := ⟨_, rfl⟩
  obtain ⟨u0, hu0⟩ : ∃ u0, u0 = u10 % 4294967296 := ⟨_, rfl⟩
  have s56 : shiftOp .shr .u64 (u10 : Int) 32 = some (u1 : Int) := by rw [shr_nat u10 32 hu10M (by decide), hu1]
  have s58 : bitOp .and .u64 (u10 : Int) 4294967295 = some (u0 : Int) := by rw [and_mask u10 hu10M, hu0]
  have haB : a < B := by omega
  have hbB : b < B := by omega
  have hu1B : u1 < B := by omega
  have hu0B : u0 < B := by omega
  have ha2 : B ≤ 2 * a := by omega
  have hYab : a * B + b = Y := by rw [ha, hb, hB]; omega
  have ha0 : 0 < a := by omega
  have ha0' : ¬ (a : Int) = 0 := by omega
  have ha0n : ¬ a = 0 := by omega
  have hY0 : 0 < a * B + b := by omega
  -- a digit's first guess
  have guess : ∀ n : Nat, n < Y → ∃ q r : Nat, IntKind.u64.wrap ((n : Int) / a) = q ∧ IntKind.u64.wrap ((n : Int) - IntKind.u64.wrap ((q : Int) * a)) = r ∧ q * a + r = n ∧ r < B ∧ q ≤ B + 1 ∧ n / a ≤ q := by
    intro n hn
    refine ⟨n / a, n % a, ?_, ?_, ?_, ?_, ?_, Nat.le_refl _⟩
    · exact u_div n a (by omega)
    · have e : ((n / a * a : Nat) : Int) = ((n / a : Nat) : Int) * a := by push_cast; rfl
      rw [wrap_u, wrap_u, ← e]
      have := Nat.div_add_mod n a
      rw [Nat.mul_comm] at this
      omega
    · rw [Nat.mul_comm]; exact Nat.div_add_mod n a
    · have := Nat.mod_lt n ha0; omega
    · exact kn_first (b := b) ha2 hbB (by rw [hYab]; exact hn)
  simp [a_math_bits_Div64, hy0, hy0n, hyh, hyh2, h0, h0']
  refine ac_same (lead_ok y s hyM hs hbl) (by simp) ?_
  rintro r rfl
  obtain ⟨q0, r0, g1, g2, g3, g4, g5, g6⟩ := guess u huY
  have hg0 := Nat.le_trans (kn_guess (b := b) (u := u) (v := u1) ha0 hu1B) g6
  simp [-shiftOp, -bitOp, hsw, s2, s9, s10, s46, s49, s50, s51, s54, s56, s58, ha0, ha0', ha0n, g1, g2, Int.toNat_natCast]
  -- the first digit
  refine lp_join 0 (fun f σ => ∃ q : Nat, f 15 = .int .u64 q ∧ q = (u * B + u1) / Y ∧ f 2 = .int .u64 Y ∧ f 8 = .int .u64 s ∧ f 9 = .int .u64 a ∧ f 10 = .int .u64 b ∧ f 11 = .int .u64 u ∧ f 13 = .int .u64 u1 ∧ f 14 = .int .u64 u0 ∧ σ = []) ?_ ?_
  · rintro f σ ⟨q1, f15, hq1, f2, f8, f9, f10, f11, f13, f14, rfl⟩
    obtain ⟨u21, hu21d⟩ : ∃ u21, u21 = (u * B + u1) % Y := ⟨_, rfl⟩
    have hYpos : 0 < Y := by omega
    have hu21 : u21 < Y := by rw [hu21d]; exact Nat.mod_lt _ hYpos
    have hdm := Nat.div_add_mod (u * B + u1) Y
    rw [← hq1, ← hu21d] at hdm
    obtain ⟨p1, hp1⟩ : ∃ p1, p1 = Y * q1 := ⟨_, rfl⟩
    have hp1i : (q1 : Int) * Y = p1 := by rw [hp1, Nat.mul_comm]; push_cast; rfl
    have e17 : IntKind.u64.wrap (IntKind.u64.wrap (IntKind.u64.wrap ((u : Int) * 4294967296) + u1) - IntKind.u64.wrap ((q1 : Int) * Y)) = u21 := by
      rw [hp1i]
      simp only [wrap_u]
      rw [← hp1] at hdm
      subst hB
      omega
    obtain ⟨q2, r2, e1, e2, e3, e4, e5, e6⟩ := guess u21 hu21
    have hg2 := Nat.le_trans (kn_guess (b := b) (u := u21) (v := u0) ha0 hu0B) e6
    simp [-shiftOp, -bitOp, f2, f8, f9, f10, f11, f13, f14, f15, e17, ha0', ha0n, e1, e2]
    refine lp_join 2 (fun f σ => ∃ q : Nat, f 18 = .int .u64 q ∧ q = (u21 * B + u0) / Y ∧ f 2 = .int .u64 Y ∧ f 8 = .int .u64 s ∧ f 10 = .int .u64 b ∧ f 14 = .int .u64 u0 ∧ f 9 = .int .u64 a ∧ f 15 = .int .u64 q1 ∧ f 17 = .int .u64 u21 ∧ σ = []) ?_ ?_
    · clear f2 f8 f9 f10 f11 f13 f14 f15
      rintro f σ ⟨q3, f18, hq3, f2, f8, f10, f14, f9, f15, f17, rfl⟩
      obtain ⟨j1, j2⟩ := div64_join (hi := hi) (lo := lo) (y := y) (M := 18446744073709551616) (B := B) (P := 2 ^ s) (R := 2 ^ (64 - s)) (by rw [← Nat.pow_add, show 64 - s + s = 64 by omega]) (by rw [hB]) (Nat.two_pow_pos _) (by omega) (u32 := u) (u10 := u10) (h := u * B + u1) (q1 := q1) (u21 := u21) (g := u21 * B + u0) hu hu10 (by rw [hu1, hB]) (by rw [hq1, hYd]) (by rw [hu21d, hYd]) (by rw [hu0, hB])
      rw [← hYd, ← hq3, ← hQ] at j1
      obtain ⟨gm, hgm⟩ : ∃ gm, gm = (u21 * B + u0) % Y := ⟨_, rfl⟩
      rw [← hYd, ← hgm, ← hR] at j2
      have hQM : Q < 18446744073709551616 := by
        rw [hQ, Nat.div_lt_iff_lt_mul (by omega)]
        have : (hi + 1) * 18446744073709551616 ≤ y * 18446744073709551616 := Nat.mul_le_mul_right _ hhi
        rw [Nat.mul_comm 18446744073709551616 y]; omega
      have k6 : IntKind.u64.wrap (IntKind.u64.wrap ((q1 : Int) * 4294967296) + q3) = Q := by
        simp only [wrap_u]
        subst hB
        omega
      have hgmY : gm < Y := by rw [hgm]; exact Nat.mod_lt _ hYpos
      have hdm2 := Nat.div_add_mod (u21 * B + u0) Y
      rw [← hq3, ← hgm] at hdm2
      obtain ⟨p3, hp3⟩ : ∃ p3, p3 = Y * q3 := ⟨_, rfl⟩
      have hp3i : (q3 : Int) * Y = p3 := by rw [hp3, Nat.mul_comm]; push_cast; rfl
      have k132 : IntKind.u64.wrap (IntKind.u64.wrap (IntKind.u64.wrap ((u21 : Int) * 4294967296) + u0) - IntKind.u64.wrap ((q3 : Int) * Y)) = gm := by
        rw [hp3i]
        simp only [wrap_u]
        rw [← hp3] at hdm2
        subst hB
        omega
      have k134 : shiftOp .shr .u64 (gm : Int) s = some (R : Int) := by rw [shr_nat gm s (by omega) (by omega), j2]
      simp [-shiftOp, -bitOp, f2, f8, f9, f10, f14, f15, f17, f18, k6, k132, k134]
    · -- its loop
      refine lp_startx (fun x f σ => ∃ q r : Nat, x = q ∧ f 18 = .int .u64 q ∧ f 16 = .int .u64 r ∧ (u21 * B + u0) / Y ≤ q ∧ q * a + r = u21 ∧ r < B ∧ q ≤ B + 1 ∧ f 2 = .int .u64 Y ∧ f 8 = .int .u64 s ∧ f 10 = .int .u64 b ∧ f 14 = .int .u64 u0 ∧ f 9 = .int .u64 a ∧ f 15 = .int .u64 q1 ∧ f 17 = .int .u64 u21 ∧ σ = []) q2 ?_ ?_
      · exact ⟨q2, r2, rfl, by simp, by simp, by rw [← hYab]; exact hg2, e3, e4, e5, by simp [f2], by simp [f8], by simp [f10], by simp [f14], by simp [f9], by simp [f15], by simp, rfl⟩
      rintro x f σ ⟨q, r, hxq, fq, fr, hle, hqr, hr, hqB, f2, f8, f10, f14, f9, f15, f17, rfl⟩
      obtain ⟨m1, m2, m3⟩ := dg_lt (Y := Y) hB haB hqB hr hu0B hbB hqr (by omega)
      rw [← hYab] at hle
      obtain ⟨r', hr'⟩ : ∃ r', r' = r + a := ⟨_, rfl⟩
      have hra : IntKind.u64.wrap ((r : Int) + a) = (r' : Int) := by rw [wrap_u]; omega
      have hmB : IntKind.u64.wrap (4294967296 * (r : Int)) = 4294967296 * r := by rw [wrap_u]; omega
      have hmBv : IntKind.u64.wrap (4294967296 * (r : Int) + u0) = 4294967296 * r + u0 := by rw [wrap_u]; omega
      have body : B ≤ q ∨ B * r + u0 < q * b → 1 ≤ q ∧ (u21 * B + u0) / (a * B + b) ≤ q - 1 ∧ (q - 1) * a + r' = u21 ∧ IntKind.u64.wrap ((q : Int) - 1) = ((q - 1 : Nat) : Int) := by
        intro h
        have hn := kn_next (v := u0) hY0 (by rw [hYab]; exact hu21) hu0B hqr h
        have h1q : 1 ≤ q := Nat.lt_of_le_of_lt (Nat.zero_le _) hn
        refine ⟨h1q, Nat.le_sub_one_of_lt hn, ?_, by rw [wrap_u]; omega⟩
        obtain ⟨k, rfl⟩ : ∃ k, q = k + 1 := ⟨q - 1, by omega⟩
        rw [Nat.add_mul] at hqr
        simp only [Nat.add_sub_cancel]; omega
      by_cases hqb : B ≤ q
      · obtain ⟨b1, b2, b3, b4⟩ := body (.inl hqb)
        have hqb' : (4294967296 : Int) ≤ q := by omega
        have hqb'' : 4294967296 ≤ q := by omega
        simp [fq, fr, f2, f8, f10, f14, f9, f15, f17, hqb', hqb'', b4, hra]
        refine cb_dec (fun h => ?_) (fun h => ?_)
        · simp
          refine jn_intro ⟨q - 1, by simp, ?_, by simp [f2], by simp [f8], by simp [f10], by simp [f14], by simp [f9], by simp [f15], by simp [f17], rfl⟩
          rw [← hYab]
          exact kn_break hY0 b2 b3 (by omega) (by omega) hbB
        · simp
          refine nx_intro (q - 1) (by omega) ⟨q - 1, r', rfl, by simp, by simp, by rw [← hYab]; exact b2, b3, by omega, by omega, by simp [f2], by simp [f8], by simp [f10], by simp [f14], by simp [f9], by simp [f15], by simp [f17], rfl⟩
      · have hqb' : ¬ (4294967296 : Int) ≤ q := by omega
        have hqb'' : ¬ 4294967296 ≤ q := by omega
        have hqbM : q * b < 18446744073709551616 := by
          have h1 : q * b ≤ (B - 1) * (B - 1) := Nat.mul_le_mul (by omega) (by omega)
          subst hB; omega
        obtain ⟨p, hp⟩ : ∃ p, p = q * b := ⟨_, rfl⟩
        have hpi : (q : Int) * b = p := by rw [hp]; push_cast; rfl
        have hwp : IntKind.u64.wrap ((q : Int) * b) = p := by rw [hpi, wrap_u]; omega
        simp [fq, fr, f2, f8, f10, f14, f9, f15, f17, hqb', hqb'', hwp, hmB, hmBv]
        refine cb_dec (fun h => ?_) (fun h => ?_)
        · have h' : B * r + u0 < q * b := by rw [← hp, hB]; omega
          obtain ⟨b1, b2, b3, b4⟩ := body (.inr h')
          simp [fq, fr, f2, f8, f10, f14, f9, f15, f17, b4, hra]
          refine cb_dec (fun h => ?_) (fun h => ?_)
          · simp
            refine jn_intro ⟨q - 1, by simp, ?_, by simp [f2], by simp [f8], by simp [f10], by simp [f14], by simp [f9], by simp [f15], by simp [f17], rfl⟩
            rw [← hYab]
            exact kn_break hY0 b2 b3 (by omega) (by omega) hbB
          · simp
            refine nx_intro (q - 1) (by omega) ⟨q - 1, r', rfl, by simp, by simp, by rw [← hYab]; exact b2, b3, by omega, by omega, by simp [f2], by simp [f8], by simp [f10], by simp [f14], by simp [f9], by simp [f15], by simp [f17], rfl⟩
        · simp
          refine jn_intro ⟨q, by simp [fq], ?_, by simp [f2], by simp [f8], by simp [f10], by simp [f14], by simp [f9], by simp [f15], by simp [f17], rfl⟩
          rw [← hYab]
          exact kn_exit hY0 hle hqr (by rw [← hp, hB]; omega)
  · -- its loop
    refine lp_startx (fun x f σ => ∃ q r : Nat, x = q ∧ f 15 = .int .u64 q ∧ f 16 = .int .u64 r ∧ (u * B + u1) / Y ≤ q ∧ q * a + r = u ∧ r < B ∧ q ≤ B + 1 ∧ f 2 = .int .u64 Y ∧ f 8 = .int .u64 s ∧ f 9 = .int .u64 a ∧ f 10 = .int .u64 b ∧ f 11 = .int .u64 u ∧ f 13 = .int .u64 u1 ∧ f 14 = .int .u64 u0 ∧ σ = []) q0 ?_ ?_
    · exact ⟨q0, r0, rfl, by simp, by simp, by rw [← hYab]; exact hg0, g3, g4, g5, by simp [hsw], by simp [hsw], by simp [hsw], by simp [hsw], by simp [hsw], by simp [hsw], by simp [hsw], rfl⟩
    rintro x f σ ⟨q, r, hxq, fq, fr, hle, hqr, hr, hqB, f2, f8, f9, f10, f11, f13, f14, rfl⟩
    obtain ⟨m1, m2, m3⟩ := dg_lt (Y := Y) hB haB hqB hr hu1B hbB hqr (by omega)
    rw [← hYab] at hle
    obtain ⟨r', hr'⟩ : ∃ r', r' = r + a := ⟨_, rfl⟩
    have hra : IntKind.u64.wrap ((r : Int) + a) = (r' : Int) := by rw [wrap_u]; omega
    have hmB : IntKind.u64.wrap (4294967296 * (r : Int)) = 4294967296 * r := by rw [wrap_u]; omega
    have hmBv : IntKind.u64.wrap (4294967296 * (r : Int) + u1) = 4294967296 * r + u1 := by rw [wrap_u]; omega
    have body : B ≤ q ∨ B * r + u1 < q * b → 1 ≤ q ∧ (u * B + u1) / (a * B + b) ≤ q - 1 ∧ (q - 1) * a + r' = u ∧ IntKind.u64.wrap ((q : Int) - 1) = ((q - 1 : Nat) : Int) := by
      intro h
      have hn := kn_next (v := u1) hY0 (by rw [hYab]; exact huY) hu1B hqr h
      have h1q : 1 ≤ q := Nat.lt_of_le_of_lt (Nat.zero_le _) hn
      refine ⟨h1q, Nat.le_sub_one_of_lt hn, ?_, by rw [wrap_u]; omega⟩
      obtain ⟨k, rfl⟩ : ∃ k, q = k + 1 := ⟨q - 1, by omega⟩
      rw [Nat.add_mul] at hqr
      simp only [Nat.add_sub_cancel]; omega
    by_cases hqb : B ≤ q
    · obtain ⟨b1, b2, b3, b4⟩ := body (.inl hqb)
      have hqb' : (4294967296 : Int) ≤ q := by omega
      have hqb'' : 4294967296 ≤ q := by omega
      simp [fq, fr, f2, f8, f9, f10, f11, f13, f14, hqb', hqb'', b4, hra]
      refine cb_dec (fun h => ?_) (fun h => ?_)
      · simp
        refine jn_intro ⟨q - 1, by simp, ?_, by simp [f2], by simp [f8], by simp [f9], by simp [f10], by simp [f11], by simp [f13], by simp [f14], rfl⟩
        rw [← hYab]
        exact kn_break hY0 b2 b3 (by omega) (by omega) hbB
      · simp
        refine nx_intro (q - 1) (by omega) ⟨q - 1, r', rfl, by simp, by simp, by rw [← hYab]; exact b2, b3, by omega, by omega, by simp [f2], by simp [f8], by simp [f9], by simp [f10], by simp [f11], by simp [f13], by simp [f14], rfl⟩
    · have hqb' : ¬ (4294967296 : Int) ≤ q := by omega
      have hqb'' : ¬ 4294967296 ≤ q := by omega
      have hqbM : q * b < 18446744073709551616 := by
        have h1 : q * b ≤ (B - 1) * (B - 1) := Nat.mul_le_mul (by omega) (by omega)
        subst hB; omega
      obtain ⟨p, hp⟩ : ∃ p, p = q * b := ⟨_, rfl⟩
      have hpi : (q : Int) * b = p := by rw [hp]; push_cast; rfl
      have hwp : IntKind.u64.wrap ((q : Int) * b) = p := by rw [hpi, wrap_u]; omega
      simp [fq, fr, f2, f8, f9, f10, f11, f13, f14, hqb', hqb'', hwp, hmB, hmBv]
      refine cb_dec (fun h => ?_) (fun h => ?_)
      · have h' : B * r + u1 < q * b := by rw [← hp, hB]; omega
        obtain ⟨b1, b2, b3, b4⟩ := body (.inr h')
        simp [fq, fr, f2, f8, f9, f10, f11, f13, f14, b4, hra]
        refine cb_dec (fun h => ?_) (fun h => ?_)
        · simp
          refine jn_intro ⟨q - 1, by simp, ?_, by simp [f2], by simp [f8], by simp [f9], by simp [f10], by simp [f11], by simp [f13], by simp [f14], rfl⟩
          rw [← hYab]
          exact kn_break hY0 b2 b3 (by omega) (by omega) hbB
        · simp
          refine nx_intro (q - 1) (by omega) ⟨q - 1, r', rfl, by simp, by simp, by rw [← hYab]; exact b2, b3, by omega, by omega, by simp [f2], by simp [f8], by simp [f9], by simp [f10], by simp [f11], by simp [f13], by simp [f14], rfl⟩
      · simp
        refine jn_intro ⟨q, by simp [fq], ?_, by simp [f2], by simp [f8], by simp [f9], by simp [f10], by simp [f11], by simp [f13], by simp [f14], rfl⟩
        rw [← hYab]
        exact kn_exit hY0 hle hqr (by rw [← hp, hB]; omega)
end Go.Proofs.YtdgpnmlialmaaaaGreatDoor
end
section
set_option maxHeartbeats 2000000
namespace Go.Num
open Go.Abs
theorem wA_eq {hi lo n : Nat} (h1 : hi = n / 18446744073709551616) (h2 : lo = n % 18446744073709551616) : wA n = .agg [.int .u64 (hi : Int), .int .u64 (lo : Int)] := by subst h1 h2; rfl
end Go.Num
namespace Go.Proofs.YtdgpnmlialmaaaaGreatDoor
open Go.Abs Go.Num
variable {G : Globs}
theorem wAdd_ok (a b : Nat) (ha : a < 340282366920938463463374607431768211456) (hb : b < 340282366920938463463374607431768211456) :
    PCalls Tryz.prog n_wide_Add [wA a, wA b] (fun r => r = .tup [wA ((a + b) % 340282366920938463463374607431768211456), .bool (decide (340282366920938463463374607431768211456 ≤ a + b))]) := by
  obtain ⟨ah, hah⟩ : ∃ x, x = a / 18446744073709551616 := ⟨_, rfl⟩
  obtain ⟨al, hal⟩ : ∃ x, x = a % 18446744073709551616 := ⟨_, rfl⟩
  obtain ⟨bh, hbh⟩ : ∃ x, x = b / 18446744073709551616 := ⟨_, rfl⟩
  obtain ⟨bl, hbl⟩ : ∃ x, x = b % 18446744073709551616 := ⟨_, rfl⟩
  rw [wA_eq hah hal, wA_eq hbh hbl]
  obtain ⟨s0, hs0⟩ : ∃ x, x = (al + bl) % 18446744073709551616 := ⟨_, rfl⟩
  obtain ⟨c0, hc0⟩ : ∃ x, x = (al + bl) / 18446744073709551616 := ⟨_, rfl⟩
  obtain ⟨s1, hs1⟩ : ∃ x, x = (ah + bh + c0) % 18446744073709551616 := ⟨_, rfl⟩
  obtain ⟨c1, hc1⟩ : ∃ x, x = (ah + bh + c0) / 18446744073709551616 := ⟨_, rfl⟩
  rw [wA_eq (hi := s1) (lo := s0) (n := (a + b) % 340282366920938463463374607431768211456) (by omega) (by omega)]
  have e1 : ((al : Int) + bl) % 18446744073709551616 = s0 := by omega
  have e2 : ((al : Int) + bl) / 18446744073709551616 = c0 := by omega
  have e3 : ((ah : Int) + bh + c0) % 18446744073709551616 = s1 := by omega
  have e4 : ((ah : Int) + bh + c0) / 18446744073709551616 = c1 := by omega
  have hc : (c0 : Int) ≤ 1 := by omega
  have hcn : c0 ≤ 1 := by omega
  have e5 : decide (c1 = 1) = decide (340282366920938463463374607431768211456 ≤ a + b) := by
    congr 1; apply propext; omega
  have e6 : decide ((c1 : Int) = 1) = decide (340282366920938463463374607431768211456 ≤ a + b) := by
    congr 1; apply propext; omega
  refine pcalls_of_awp hmix c_wide_Add rfl ?_
  simp [a_wide_Add, e1, e2, e3, e4, hc, hcn, e5, e6]
  try omega
theorem wDiv_ok (a d : Nat) (ha : a < 340282366920938463463374607431768211456) (hd : d < 18446744073709551616) :
    PCalls Tryz.prog n_wide_Div [wA a, .int .u64 d] (fun r => r = if d = 0 then .tup [wA 0, .int .u64 0, .int .i64 1] else .tup [wA (a / d), .int .u64 ((a % d : Nat) : Int), .int .i64 0]) := by
  refine pcalls_of_awp hmix c_wide_Div rfl ?_
  by_cases h0 : d = 0
  · subst h0
    simp [a_wide_Div, wA]
  obtain ⟨ah, hah⟩ : ∃ x, x = a / 18446744073709551616 := ⟨_, rfl⟩
  obtain ⟨al, hal⟩ : ∃ x, x = a % 18446744073709551616 := ⟨_, rfl⟩
  rw [wA_eq hah hal]
  have h0' : ¬ (d : Int) = 0 := by omega
  obtain ⟨q1, hq1⟩ : ∃ x, x = ah / d := ⟨_, rfl⟩
  obtain ⟨r1, hr1⟩ : ∃ x, x = ah % d := ⟨_, rfl⟩
  have e1 : IntKind.u64.wrap ((ah : Int) / d) = q1 := by rw [u_div ah d (by omega), hq1]
  have e2 : (ah : Int).tmod d = r1 := by rw [Int.tmod_eq_emod_of_nonneg (by omega), u_mod, hr1]
  have hr1d : r1 < d := by rw [hr1]; exact Nat.mod_lt _ (by omega)
  obtain ⟨t1, t2⟩ := two_digits (y := d) (h := ah) (l := al) (B := 18446744073709551616) (by omega)
  have hal' : ah * 18446744073709551616 + al = a := by omega
  rw [hal', ← hq1, ← hr1] at t1
  rw [hal', ← hr1] at t2
  obtain ⟨q0, hq0⟩ : ∃ x, x = (r1 * 18446744073709551616 + al) / d := ⟨_, rfl⟩
  have hq0M : q0 < 18446744073709551616 := by
    rw [hq0, Nat.div_lt_iff_lt_mul (by omega)]
    have : (r1 + 1) * 18446744073709551616 ≤ d * 18446744073709551616 := Nat.mul_le_mul_right _ hr1d
    rw [Nat.mul_comm 18446744073709551616 d]; omega
  rw [← hq0] at t1
  have hAD : wA (a / d) = .agg [.int .u64 (q1 : Int), .int .u64 (q0 : Int)] := wA_eq (by omega) (by omega)
  rw [if_neg h0, hAD, t2]
  simp [a_wide_Div, h0, h0', e1, e2]
  refine ac_same (div64_ok r1 al d hr1d hd (by omega)) (by simp) ?_
  rw [← hq0]
  rintro r rfl
  simp
theorem wRound_ok (a d : Nat) (ha : a < 340282366920938463463374607431768211456) (hd : d < 18446744073709551616) :
    PCalls Tryz.prog n_wide_Round [wA a, .int .u64 d] (fun r => r = if d = 0 then .tup [.int .u64 0, .int .i64 1] else if rnd a d < 18446744073709551616 then .tup [.int .u64 ((rnd a d : Nat) : Int), .int .i64 0] else .tup [.int .u64 0, .int .i64 3]) := by
  refine pcalls_of_awp hmix c_wide_Round rfl ?_
  have hwb : wA a = .agg [.int .u64 ((a / 18446744073709551616 : Nat) : Int), .int .u64 ((a % 18446744073709551616 : Nat) : Int)] := rfl
  by_cases h0 : d = 0
  · subst h0
    rw [hwb]
    simp [a_wide_Round]
    refine ac_same (wDiv_ok a 0 ha (by decide)) (by simp [wA]) ?_
    rintro r rfl
    simp [wA]
  rw [if_neg h0]
  rw [hwb]
  simp [a_wide_Round]
  refine ac_same (wDiv_ok a d ha hd) (by simp [wA]) ?_
  rw [if_neg h0]
  obtain ⟨q, hq⟩ : ∃ x, x = a / d := ⟨_, rfl⟩
  obtain ⟨m, hm⟩ : ∃ x, x = a % d := ⟨_, rfl⟩
  have hmd : m < d := by rw [hm]; exact Nat.mod_lt _ (by omega)
  rw [← hq, ← hm]
  rintro r rfl
  have hrnd : rnd a d = q + (if d - m ≤ m then 1 else 0) := by rw [rnd, ← hq, ← hm]
  rw [hrnd]
  have hwq : wA q = .agg [.int .u64 ((q / 18446744073709551616 : Nat) : Int), .int .u64 ((q % 18446744073709551616 : Nat) : Int)] := rfl
  have hsub : IntKind.u64.wrap ((d : Int) - m) = ((d - m : Nat) : Int) := by rw [wrap_u]; omega
  obtain ⟨dm, hdm⟩ : ∃ x, x = d - m := ⟨_, rfl⟩
  rw [← hdm] at hsub
  have hqa : q < 340282366920938463463374607431768211456 := by rw [hq]; exact Nat.lt_of_le_of_lt (Nat.div_le_self _ _) ha
  obtain ⟨qh, hqh⟩ : ∃ x, x = q / 18446744073709551616 := ⟨_, rfl⟩
  obtain ⟨ql, hql⟩ : ∃ x, x = q % 18446744073709551616 := ⟨_, rfl⟩
  rw [wA_eq hqh hql]
  simp [hsub]
  refine cb_dec (fun h => ?_) (fun h => ?_)
  · have h' : d - m ≤ m := by omega
    have hq2 : q + 1 < 340282366920938463463374607431768211456 := by
      have hd2 : 2 ≤ d := by omega
      have : a / d ≤ a / 2 := Nat.div_le_div_left hd2 (by decide)
      omega
    simp
    have hA := wAdd_ok (G := G) q 1 hqa (by decide)
    rw [wA_eq hqh hql, show wA 1 = .agg [.int .u64 0, .int .u64 1] from rfl] at hA
    refine ac_same hA (by simp) ?_
    rintro r rfl
    rw [Nat.mod_eq_of_lt hq2, if_pos h']
    obtain ⟨ph, hph⟩ : ∃ x, x = (q + 1) / 18446744073709551616 := ⟨_, rfl⟩
    obtain ⟨pl, hpl⟩ : ∃ x, x = (q + 1) % 18446744073709551616 := ⟨_, rfl⟩
    rw [wA_eq hph hpl]
    simp
    refine cb_dec (fun hh => ?_) (fun hh => ?_)
    · have : ¬ q + 1 < 18446744073709551616 := by omega
      rw [if_neg this]; simp
    · have : q + 1 < 18446744073709551616 := by omega
      have e : pl = q + 1 := by omega
      rw [if_pos this]; simp [e]
  · have h' : ¬ d - m ≤ m := by omega
    rw [if_neg h', Nat.add_zero]
    simp
    refine cb_dec (fun hh => ?_) (fun hh => ?_)
    · have : ¬ q < 18446744073709551616 := by omega
      rw [if_neg this]; simp
    · have : q < 18446744073709551616 := by omega
      have e : ql = q := by omega
      rw [if_pos this]; simp [e]
theorem quotient_ok (x y d : Nat) (hx : x < 18446744073709551616) (hy : y < 18446744073709551616) (hd : d < 18446744073709551616) (b : Bool) :
    PCalls Tryz.prog n_fixed_quotient [.int .u64 x, .int .u64 y, .int .u64 d, .bool b] (fun r => r = numA (if d = 0 then nothing else tell (sgn b (rnd (x * y) d)))) := by
  refine pcalls_of_awp hmix c_fixed_quotient rfl ?_
  simp [a_fixed_quotient]
  refine ac_same (wMul_ok x y hx hy) (by simp) ?_
  rintro r rfl
  have hxy : x * y < 340282366920938463463374607431768211456 := by
    have h1 : x * y ≤ x * 18446744073709551615 := Nat.mul_le_mul_left x (by omega)
    omega
  have hwb : wA (x * y) = .agg [.int .u64 ((x * y / 18446744073709551616 : Nat) : Int), .int .u64 ((x * y % 18446744073709551616 : Nat) : Int)] := rfl
  rw [hwb]
  simp
  refine ac_same (wRound_ok (x * y) d hxy hd) (by simp [wA]) ?_
  rintro r rfl
  by_cases h0 : d = 0
  · rw [if_pos h0, if_pos h0]
    simp
    refine ac_same nothing_ok (by simp) ?_
    rintro r rfl
    simp [numA]
  · rw [if_neg h0, if_neg h0]
    by_cases h1 : rnd (x * y) d < 18446744073709551616
    · rw [if_pos h1]
      simp
      refine ac_same (told_ok _ h1 b) (by simp) ?_
      rintro r rfl
      simp [numA]
    · rw [if_neg h1]
      have : tell (sgn b (rnd (x * y) d)) = nothing := by
        unfold tell sgn most
        cases b <;> simp <;> omega
      simp [this]
      refine ac_same nothing_ok (by simp) ?_
      rintro r rfl
      simp [numA, this]
theorem fDiv_ok (a b : N) (ha : okN a) (hb : okN b) : PCalls Tryz.prog n_fixed_Div [numA a, numA b] (fun r => r = numA (divN a b)) := by
  refine pcalls_of_awp hmix c_fixed_Div rfl ?_
  obtain ⟨a1, a2⟩ := ha
  obtain ⟨b1, b2⟩ := hb
  simp [a_fixed_Div, numA]
  refine ac_same (there_ok a) (by simp [numA]) ?_
  rintro r rfl
  cases hga : good a with
  | false =>
    simp
    refine ac_same nothing_ok (by simp) ?_
    rintro r rfl
    simp [divN, hga, numA]
  | true =>
    simp
    refine ac_same (there_ok b) (by simp [numA]) ?_
    rintro r rfl
    cases hgb : good b with
    | false =>
      simp
      refine ac_same nothing_ok (by simp) ?_
      rintro r rfl
      simp [divN, hga, hgb, numA]
    | true =>
      have va := (good_iff.1 hga).2
      have vb := (good_iff.1 hgb).2
      simp only [most] at va vb
      simp
      refine ac_same (size_ok a va a2) (by simp [numA]) ?_
      rintro r rfl
      simp
      refine ac_same (size_ok b vb b2) (by simp [numA]) ?_
      rintro r rfl
      simp
      refine ac_same (quotient_ok a.2.natAbs 1000000 b.2.natAbs (by omega) (by omega) (by omega) (decide (a.2 < 0) != decide (b.2 < 0))) (by simp) ?_
      rintro r rfl
      by_cases hb0 : b.2 = 0
      · simp [divN, hga, hgb, hb0, numA]
      · simp [divN, hga, hgb, hb0, numA]
end Go.Proofs.YtdgpnmlialmaaaaGreatDoor
end
section
set_option maxHeartbeats 2000000
namespace Go.Num
open Go.Abs
theorem or_add_bit {x i : Nat} (h : x / 2 ^ i % 2 = 0) : x ||| 2 ^ i = x + 2 ^ i := by
  have hp := Nat.two_pow_pos i
  obtain ⟨q, hq⟩ : ∃ q, q = x / 2 ^ i / 2 := ⟨_, rfl⟩
  obtain ⟨r, hr⟩ : ∃ r, r = x % 2 ^ i := ⟨_, rfl⟩
  have hrl : r < 2 ^ i := by rw [hr]; exact Nat.mod_lt _ hp
  have h2 : x / 2 ^ i = 2 * q := by omega
  have hx : x = 2 ^ i * (2 * q) + r := by
    have := Nat.div_add_mod x (2 ^ i)
    rw [h2, ← hr] at this; exact this.symm
  have e0 : 2 ^ i * (2 * q) = 2 ^ (i + 1) * q := by rw [Nat.pow_succ, Nat.mul_assoc]
  have e1 := Nat.two_pow_add_eq_or_of_lt hrl (2 * q)
  have e2 := Nat.two_pow_add_eq_or_of_lt (show 2 ^ i < 2 ^ (i + 1) by rw [Nat.pow_succ]; omega) q
  have e3 := Nat.two_pow_add_eq_or_of_lt hrl (2 * q + 1)
  have e4 : 2 ^ i * (2 * q + 1) = 2 ^ (i + 1) * q + 2 ^ i := by rw [Nat.mul_add, e0, Nat.mul_one]
  have l1 : x ||| 2 ^ i = 2 ^ i * (2 * q) ||| r ||| 2 ^ i := by rw [← e1, ← hx]
  rw [l1, Nat.or_assoc, Nat.or_comm r, ← Nat.or_assoc, e0, ← e2, ← e4, ← e3]
  rw [Nat.mul_add, Nat.mul_one]
  omega
theorem bt_zero {x i : Nat} (h : x < 2 ^ i) : bt x i = 0 := by unfold bt; rw [Nat.div_eq_of_lt h]
theorem bt_mul (c i k : Nat) (h : i < k) : bt (c * 2 ^ k) i = 0 := by
  unfold bt
  obtain ⟨j, rfl⟩ : ∃ j, k = i + 1 + j := ⟨k - i - 1, by omega⟩
  have : c * 2 ^ (i + 1 + j) = 2 ^ i * (2 * (c * 2 ^ j)) := by
    rw [Nat.pow_add, Nat.pow_succ]
    simp only [Nat.mul_comm, Nat.mul_left_comm, Nat.mul_assoc]
  rw [this, Nat.mul_div_cancel_left _ (Nat.two_pow_pos i), Nat.mul_mod_right]
end Go.Num
namespace Go.Proofs.YtdgpnmlialmaaaaGreatDoor
open Go.Abs Go.Num
variable {G : Globs}
theorem rBit_ok (x i : Nat) (hx : x < 340282366920938463463374607431768211456) (hi : i < 128) : PCalls Tryz.prog n_isobarref01_bit [wA x, .int .i64 i] (fun r => r = .int .u64 (bt x i)) := by
  refine pcalls_of_awp hmix c_isobarref01_bit rfl ?_
  obtain ⟨h, hh⟩ : ∃ h, h = x / 18446744073709551616 := ⟨_, rfl⟩
  obtain ⟨l, hl⟩ : ∃ l, l = x % 18446744073709551616 := ⟨_, rfl⟩
  have hxs : h * 18446744073709551616 + l = x := by omega
  rw [wA_eq hh hl]
  by_cases h64 : 64 ≤ i
  · have h64' : (64 : Int) ≤ i := by omega
    have hw1 : IntKind.i64.wrap ((i : Int) - 64) = ((i - 64 : Nat) : Int) := by rw [wrap_i (by omega) (by omega)]; omega
    obtain ⟨k, hk⟩ : ∃ k, k = i - 64 := ⟨_, rfl⟩
    rw [← hk] at hw1
    have hw2 : IntKind.u64.wrap (k : Int) = k := by rw [wrap_u]; omega
    have e := bt_hi (hi := h) (lo := l) (i := i) (by omega) h64
    rw [hxs, ← hk] at e
    obtain ⟨v, hv⟩ : ∃ v, v = h / 2 ^ k := ⟨_, rfl⟩
    have hvM : v < 18446744073709551616 := by rw [hv]; exact Nat.lt_of_le_of_lt (Nat.div_le_self _ _) (by omega)
    have s1 : shiftOp .shr .u64 (h : Int) k = some (v : Int) := by rw [shr_nat h k (by omega) (by omega), hv]
    obtain ⟨b, hb⟩ : ∃ b, b = v % 2 := ⟨_, rfl⟩
    have s2 : bitOp .and .u64 (v : Int) 1 = some (b : Int) := by rw [Go.Num.and_one v hvM, hb]
    rw [← hv, ← hb] at e
    rw [e]
    simp [-shiftOp, -bitOp, a_isobarref01_bit, h64, h64', hw1, hw2, s1, s2]
  · have h64' : ¬ (64 : Int) ≤ i := by omega
    have hw2 : IntKind.u64.wrap (i : Int) = i := by rw [wrap_u]; omega
    have e := bt_lo (hi := h) (lo := l) (i := i) (by omega) (by omega)
    rw [hxs] at e
    obtain ⟨v, hv⟩ : ∃ v, v = l / 2 ^ i := ⟨_, rfl⟩
    have hvM : v < 18446744073709551616 := by rw [hv]; exact Nat.lt_of_le_of_lt (Nat.div_le_self _ _) (by omega)
    have s1 : shiftOp .shr .u64 (l : Int) i = some (v : Int) := by rw [shr_nat l i (by omega) (by omega), hv]
    obtain ⟨b, hb⟩ : ∃ b, b = v % 2 := ⟨_, rfl⟩
    have s2 : bitOp .and .u64 (v : Int) 1 = some (b : Int) := by rw [Go.Num.and_one v hvM, hb]
    rw [← hv, ← hb] at e
    rw [e]
    simp [-shiftOp, -bitOp, a_isobarref01_bit, h64, h64', hw2, s1, s2]
theorem rWith_ok (x i : Nat) (hx : x < 340282366920938463463374607431768211456) (hi : i < 128) (h0 : bt x i = 0) : PCalls Tryz.prog n_isobarref01_with [wA x, .int .i64 i] (fun r => r = wA (x + 2 ^ i)) := by
  refine pcalls_of_awp hmix c_isobarref01_with rfl ?_
  obtain ⟨h, hh⟩ : ∃ h, h = x / 18446744073709551616 := ⟨_, rfl⟩
  obtain ⟨l, hl⟩ : ∃ l, l = x % 18446744073709551616 := ⟨_, rfl⟩
  have hxs : h * 18446744073709551616 + l = x := by omega
  rw [wA_eq hh hl]
  by_cases h64 : 64 ≤ i
  · have h64' : (64 : Int) ≤ i := by omega
    have hw1 : IntKind.i64.wrap ((i : Int) - 64) = ((i - 64 : Nat) : Int) := by rw [wrap_i (by omega) (by omega)]; omega
    obtain ⟨k, hk⟩ : ∃ k, k = i - 64 := ⟨_, rfl⟩
    rw [← hk] at hw1
    have hw2 : IntKind.u64.wrap (k : Int) = k := by rw [wrap_u]; omega
    have e := bt_hi (hi := h) (lo := l) (i := i) (by omega) h64
    rw [hxs, ← hk, h0] at e
    have hor := or_add_bit (x := h) (i := k) e.symm
    obtain ⟨p, hp⟩ : ∃ p, p = 2 ^ k := ⟨_, rfl⟩
    have hpM : p < 18446744073709551616 := by rw [hp, show (18446744073709551616 : Nat) = 2 ^ 64 by decide]; exact Nat.pow_lt_pow_right (by decide) (by omega)
    have s1 : shiftOp .shl .u64 1 k = some (p : Int) := by
      have := shl_nat 1 k (by omega)
      rw [Nat.one_mul, ← hp, Nat.mod_eq_of_lt hpM] at this
      simpa using this
    have s2 : bitOp .or .u64 (h : Int) (p : Int) = some ((h ||| p : Nat) : Int) := or_nat h p (by omega) hpM
    have hlt : h ||| p < 18446744073709551616 := Nat.or_lt_two_pow (n := 64) (by omega) hpM
    obtain ⟨h', hh'⟩ : ∃ h', h' = h ||| p := ⟨_, rfl⟩
    rw [← hh'] at s2 hlt
    have hsum : h' = h + p := by rw [hh', hp]; exact hor
    have hpi : 2 ^ i = p * 18446744073709551616 := by rw [hp, show (18446744073709551616 : Nat) = 2 ^ 64 by decide, ← Nat.pow_add, show k + 64 = i by omega]
    rw [wA_eq (hi := h') (lo := l) (n := x + 2 ^ i) (by rw [hpi]; omega) (by rw [hpi]; omega)]
    simp [-shiftOp, -bitOp, a_isobarref01_with, h64, h64', hw1, hw2, s1, s2]
  · have h64' : ¬ (64 : Int) ≤ i := by omega
    have hw2 : IntKind.u64.wrap (i : Int) = i := by rw [wrap_u]; omega
    have e := bt_lo (hi := h) (lo := l) (i := i) (by omega) (by omega)
    rw [hxs, h0] at e
    have hor := or_add_bit (x := l) (i := i) e.symm
    obtain ⟨p, hp⟩ : ∃ p, p = 2 ^ i := ⟨_, rfl⟩
    have hpM : p < 18446744073709551616 := by rw [hp, show (18446744073709551616 : Nat) = 2 ^ 64 by decide]; exact Nat.pow_lt_pow_right (by decide) (by omega)
    have s1 : shiftOp .shl .u64 1 i = some (p : Int) := by
      have := shl_nat 1 i (by omega)
      rw [Nat.one_mul, ← hp, Nat.mod_eq_of_lt hpM] at this
      simpa using this
    have s2 : bitOp .or .u64 (l : Int) (p : Int) = some ((l ||| p : Nat) : Int) := or_nat l p (by omega) hpM
    have hlt : l ||| p < 18446744073709551616 := Nat.or_lt_two_pow (n := 64) (by omega) hpM
    obtain ⟨l', hl'⟩ : ∃ l', l' = l ||| p := ⟨_, rfl⟩
    rw [← hl'] at s2 hlt
    have hsum : l' = l + p := by rw [hl', hp]; exact hor
    rw [← hp, wA_eq (hi := h) (lo := l') (n := x + p) (by omega) (by omega)]
    simp [-shiftOp, -bitOp, a_isobarref01_with, h64, h64', hw2, s1, s2]
theorem rDouble_ok (x : Nat) (hx : x < 340282366920938463463374607431768211456) : PCalls Tryz.prog n_isobarref01_Double [wA x] (fun r => r = .tup [wA (2 * x % 340282366920938463463374607431768211456), .bool (decide (170141183460469231731687303715884105728 ≤ x))]) := by
  refine pcalls_of_awp hmix c_isobarref01_Double rfl ?_
  obtain ⟨h, hh⟩ : ∃ h, h = x / 18446744073709551616 := ⟨_, rfl⟩
  obtain ⟨l, hl⟩ : ∃ l, l = x % 18446744073709551616 := ⟨_, rfl⟩
  rw [wA_eq hh hl]
  obtain ⟨h2, hh2⟩ : ∃ k, k = h * 2 % 18446744073709551616 := ⟨_, rfl⟩
  obtain ⟨l2, hl2⟩ : ∃ k, k = l * 2 % 18446744073709551616 := ⟨_, rfl⟩
  obtain ⟨lt, hlt⟩ : ∃ k, k = l / 9223372036854775808 := ⟨_, rfl⟩
  obtain ⟨ht, hht⟩ : ∃ k, k = h / 9223372036854775808 := ⟨_, rfl⟩
  have s6 : shiftOp .shl .u64 (h : Int) 1 = some (h2 : Int) := by rw [shl_nat h 1 (by decide), hh2]
  have s13 : shiftOp .shl .u64 (l : Int) 1 = some (l2 : Int) := by rw [shl_nat l 1 (by decide), hl2]
  have s9 : shiftOp .shr .u64 (l : Int) 63 = some (lt : Int) := by rw [shr_nat l 63 (by omega) (by decide), hlt]
  have s17 : shiftOp .shr .u64 (h : Int) 63 = some (ht : Int) := by rw [shr_nat h 63 (by omega) (by decide), hht]
  obtain ⟨o, ho⟩ : ∃ k, k = h2 + lt := ⟨_, rfl⟩
  have s10 : bitOp .or .u64 (h2 : Int) (lt : Int) = some (o : Int) := by
    rw [or_nat h2 lt (by omega) (by omega), ho]
    have h3 : lt < 2 ^ 1 := by omega
    have := Nat.two_pow_add_eq_or_of_lt h3 (h2 / 2)
    have e2 : 2 ^ 1 * (h2 / 2) = h2 := by omega
    rw [e2] at this
    rw [this]
  have e1 : decide ((ht : Int) = 1) = decide (170141183460469231731687303715884105728 ≤ x) := by congr 1; apply propext; omega
  have e2 : decide (ht = 1) = decide (170141183460469231731687303715884105728 ≤ x) := by congr 1; apply propext; omega
  rw [wA_eq (hi := o) (lo := l2) (n := 2 * x % 340282366920938463463374607431768211456) (by omega) (by omega)]
  simp [-shiftOp, -bitOp, a_isobarref01_Double, s6, s13, s9, s17, s10, e1, e2]
  try omega
theorem rAdd_ok (a b : Nat) (ha : a < 340282366920938463463374607431768211456) (hb : b < 340282366920938463463374607431768211456) :
    PCalls Tryz.prog n_isobarref01_Add [wA a, wA b] (fun r => r = .tup [wA ((a + b) % 340282366920938463463374607431768211456), .bool (decide (340282366920938463463374607431768211456 ≤ a + b))]) := by
  refine pcalls_of_awp hmix c_isobarref01_Add rfl ?_
  obtain ⟨ah, hah⟩ : ∃ h, h = a / 18446744073709551616 := ⟨_, rfl⟩
  obtain ⟨al, hal⟩ : ∃ l, l = a % 18446744073709551616 := ⟨_, rfl⟩
  obtain ⟨bh, hbh⟩ : ∃ h, h = b / 18446744073709551616 := ⟨_, rfl⟩
  obtain ⟨bl, hbl⟩ : ∃ l, l = b % 18446744073709551616 := ⟨_, rfl⟩
  have hA := wA_eq hah hal
  have hB := wA_eq hbh hbl
  rw [hA, hB]
  simp [a_isobarref01_Add]
  have hlo0 : sumLo a b 0 = 0 := by simp [sumLo, Nat.mod_one]
  have hc0 : sumC a b 0 = 0 := by simp [sumC, Nat.mod_one]
  refine lp_startx (fun x f σ => ∃ (i c oh ol : Nat), x = 128 - i ∧ i ≤ 128 ∧ c = sumC a b i ∧ wA (sumLo a b i) = .agg [.int .u64 oh, .int .u64 ol] ∧ f 2 = .ptr 0 0 ∧ f 3 = .ptr 1 0 ∧ f 4 = .ptr 2 0 ∧ f 6 = .ptr 3 0 ∧ f 7 = .int .u64 c ∧ f 8 = .int .i64 i ∧
    σ = [.var 76 [.int .u64 ah, .int .u64 al], .var 76 [.int .u64 bh, .int .u64 bl], .var 76 [.int .u64 0, .int .u64 0], .var 76 [.int .u64 oh, .int .u64 ol]]) 128 ?_ ?_
  · exact ⟨0, 0, 0, 0, rfl, by omega, hc0.symm, by rw [hlo0]; rfl, by simp, by simp, by simp, by simp, by simp, by simp, by simp⟩
  rintro x f σ ⟨i, c, oh, ol, hx, hi, hc, hO, f2, f3, f4, f6, f7, f8, rfl⟩
  have hwi : IntKind.i64.wrap ((i : Int) + 1) = ((i + 1 : Nat) : Int) := by rw [wrap_i (by omega) (by omega)]; omega
  have hcl := sumC_le a b i
  simp [f8]
  refine cb_dec (fun hlt => ?_) (fun hge => ?_)
  · have hlt' : i < 128 := by omega
    have k1 := rBit_ok (G := G) a i ha hlt'
    have k2 := rBit_ok (G := G) b i hb hlt'
    rw [hA] at k1
    rw [hB] at k2
    obtain ⟨st1, st2⟩ := sum_step a b i
    obtain ⟨u, hu⟩ : ∃ u, u = bt a i := ⟨_, rfl⟩
    obtain ⟨v, hv⟩ : ∃ v, v = bt b i := ⟨_, rfl⟩
    have hu2 : u < 2 := by rw [hu]; exact bt_lt a i
    have hv2 : v < 2 := by rw [hv]; exact bt_lt b i
    rw [← hu] at k1 st1 st2
    rw [← hv] at k2 st1 st2
    rw [← hc] at st1 st2 hcl
    obtain ⟨s, hs⟩ : ∃ s, s = u + v + c := ⟨_, rfl⟩
    rw [← hs] at st1 st2
    have w1 : IntKind.u64.wrap ((u : Int) + v) = (u : Int) + v := by rw [wrap_u]; omega
    have w2 : IntKind.u64.wrap ((u : Int) + v + c) = (s : Int) := by rw [wrap_u]; omega
    obtain ⟨c', hc'⟩ : ∃ c', c' = s / 2 := ⟨_, rfl⟩
    have s1 : shiftOp .shr .u64 (s : Int) 1 = some (c' : Int) := by rw [shr_nat s 1 (by omega) (by decide), hc']
    obtain ⟨d, hd⟩ : ∃ d, d = s % 2 := ⟨_, rfl⟩
    have s2 : bitOp .and .u64 (s : Int) 1 = some (d : Int) := by rw [Go.Num.and_one s (by omega), hd]
    rw [← hc'] at st2
    rw [← hd] at st1
    simp [f2, f3, f7, f8]
    refine qc_same k1 (by simp) (by simp) ?_
    simp [f2, f3, f7, f8]
    refine qc_same k2 (by simp) (by simp) ?_
    simp [-shiftOp, -bitOp, f2, f3, f6, f7, f8, w1, w2, s1, s2]
    refine cb_dec (fun h => ?_) (fun h => ?_)
    · have hd1 : d = 1 := by omega
      have hsl : sumLo a b i < 2 ^ i := Nat.mod_lt _ (Nat.two_pow_pos i)
      have hpw : 2 ^ i * 2 ≤ 340282366920938463463374607431768211456 := by
        rw [← Nat.pow_succ, show (340282366920938463463374607431768211456 : Nat) = 2 ^ 128 by decide]; exact Nat.pow_le_pow_right (by decide) (by omega)
      have k3 := rWith_ok (G := G) (sumLo a b i) i (by omega) hlt' (bt_zero hsl)
      rw [hO] at k3
      have e1 : sumLo a b i + 2 ^ i = sumLo a b (i + 1) := by rw [st1, hd1, Nat.mul_one]
      rw [e1, wA_eq (n := sumLo a b (i + 1)) rfl rfl] at k3
      simp [f6, f8]
      refine ac_same k3 (by simp) ?_
      rintro r rfl
      simp [f6, f8, hwi]
      refine nx_intro (128 - (i + 1)) (by omega) ⟨i + 1, c', _, _, rfl, by omega, st2.symm, wA_eq rfl rfl, by simp [f2], by simp [f3], by simp [f4], by simp [f6], by simp, by simp, by simp⟩
    · have hd0 : d = 0 := by omega
      have e1 : sumLo a b (i + 1) = sumLo a b i := by rw [st1, hd0, Nat.mul_zero, Nat.add_zero]
      simp [f6, f8, hwi]
      refine nx_intro (128 - (i + 1)) (by omega) ⟨i + 1, c', oh, ol, rfl, by omega, st2.symm, by rw [e1]; exact hO, by simp [f2], by simp [f3], by simp [f4], by simp [f6], by simp, by simp, by simp⟩
  · have hi8 : i = 128 := by omega
    subst hi8
    have p1 : (2 : Nat) ^ 128 = 340282366920938463463374607431768211456 := by decide
    have a1 : a % 2 ^ 128 = a := Nat.mod_eq_of_lt (by rw [p1]; exact ha)
    have b1 : b % 2 ^ 128 = b := Nat.mod_eq_of_lt (by rw [p1]; exact hb)
    have e1 : sumLo a b 128 = (a + b) % 340282366920938463463374607431768211456 := by
      unfold sumLo
      rw [a1, b1, p1]
    have e2 : sumC a b 128 = (a + b) / 340282366920938463463374607431768211456 := by
      unfold sumC
      rw [a1, b1, p1]
    rw [e1] at hO
    have e3 : decide ((c : Int) = 1) = decide (340282366920938463463374607431768211456 ≤ a + b) := by
      rw [hc, e2]; congr 1; apply propext; omega
    have e4 : decide (c = 1) = decide (340282366920938463463374607431768211456 ≤ a + b) := by
      rw [hc, e2]; congr 1; apply propext; omega
    rw [hO]
    simp [f4, f6, f7, e3, e4]
    try omega
end Go.Proofs.YtdgpnmlialmaaaaGreatDoor
end
section
set_option maxHeartbeats 2000000
namespace Go.Proofs.YtdgpnmlialmaaaaGreatDoor
open Go.Abs Go.Num
variable {G : Globs}
theorem rMul_ok (x y : Nat) (hx : x < 18446744073709551616) (hy : y < 18446744073709551616) : PCalls Tryz.prog n_isobarref01_Mul [.int .u64 x, .int .u64 y] (fun r => r = wA (x * y)) := by
  refine pcalls_of_awp hmix c_isobarref01_Mul rfl ?_
  simp [a_isobarref01_Mul]
  have p64 : (2 : Nat) ^ 64 = 18446744073709551616 := by decide
  have bnd : ∀ i ≤ 64, x * 2 ^ i < 340282366920938463463374607431768211456 := fun i hi => by
    have h1 : (2 : Nat) ^ i ≤ 2 ^ 64 := Nat.pow_le_pow_right (by decide) hi
    have h2 : x * 2 ^ i ≤ x * 2 ^ 64 := Nat.mul_le_mul_left x h1
    rw [p64] at h2; omega
  have bnd2 : ∀ i, x * (y % 2 ^ i) < 340282366920938463463374607431768211456 := fun i => by
    have h1 : x * (y % 2 ^ i) ≤ x * 18446744073709551615 := Nat.mul_le_mul_left x (by have := Nat.mod_le y (2 ^ i); omega)
    omega
  refine lp_startx (fun z f σ => ∃ (i oh ol ph pl : Nat), z = 64 - i ∧ i ≤ 64 ∧ wA (x * (y % 2 ^ i)) = .agg [.int .u64 oh, .int .u64 ol] ∧ wA (x * 2 ^ i) = .agg [.int .u64 ph, .int .u64 pl] ∧ f 1 = .int .u64 y ∧ f 4 = .ptr 0 0 ∧ f 5 = .ptr 1 0 ∧ f 6 = .ptr 2 0 ∧ f 7 = .int .i64 i ∧
    σ = [.var 76 [.int .u64 0, .int .u64 0], .var 76 [.int .u64 oh, .int .u64 ol], .var 76 [.int .u64 ph, .int .u64 pl]]) 64 ?_ ?_
  · refine ⟨0, 0, 0, 0, x, rfl, by omega, by simp [Nat.mod_one, wA], ?_, by simp, by simp, by simp, by simp, by simp, by simp⟩
    rw [Nat.pow_zero, Nat.mul_one]; exact wA_eq (by omega) (by omega)
  rintro z f σ ⟨i, oh, ol, ph, pl, hz, hi, hO, hP, f1, f4, f5, f6, f7, rfl⟩
  have hwi : IntKind.i64.wrap ((i : Int) + 1) = ((i + 1 : Nat) : Int) := by rw [wrap_i (by omega) (by omega)]; omega
  simp [f7]
  refine cb_dec (fun hlt => ?_) (fun hge => ?_)
  · have hlt' : i < 64 := by omega
    have hw2 : IntKind.u64.wrap (i : Int) = i := by rw [wrap_u]; omega
    obtain ⟨v, hv⟩ : ∃ v, v = y / 2 ^ i := ⟨_, rfl⟩
    have hvM : v < 18446744073709551616 := by rw [hv]; exact Nat.lt_of_le_of_lt (Nat.div_le_self _ _) hy
    have s1 : shiftOp .shr .u64 (y : Int) i = some (v : Int) := by rw [shr_nat y i hy (by omega), hv]
    obtain ⟨d, hd⟩ : ∃ d, d = v % 2 := ⟨_, rfl⟩
    have s2 : bitOp .and .u64 (v : Int) 1 = some (d : Int) := by rw [Go.Num.and_one v hvM, hd]
    have hbt : bt y i = d := by rw [hd, hv]; rfl
    have hst := mul_step x y i
    rw [hbt] at hst
    have k2 := rDouble_ok (G := G) (x * 2 ^ i) (bnd i (by omega))
    have e2 : 2 * (x * 2 ^ i) % 340282366920938463463374607431768211456 = x * 2 ^ (i + 1) := by
      have e : 2 * (x * 2 ^ i) = x * 2 ^ (i + 1) := by rw [Nat.pow_succ, Nat.mul_left_comm, Nat.mul_comm 2]
      rw [e]; exact Nat.mod_eq_of_lt (bnd (i + 1) (by omega))
    rw [e2, hP, wA_eq (n := x * 2 ^ (i + 1)) rfl rfl] at k2
    simp [-shiftOp, -bitOp, f1, f7, hw2, s1, s2]
    refine cb_dec (fun h => ?_) (fun h => ?_)
    · have hd1 : d = 1 := by omega
      rw [if_pos hd1] at hst
      have k1 := rAdd_ok (G := G) (x * (y % 2 ^ i)) (x * 2 ^ i) (bnd2 i) (bnd i (by omega))
      rw [← hst, Nat.mod_eq_of_lt (bnd2 (i + 1)), hO, hP, wA_eq (n := x * (y % 2 ^ (i + 1))) rfl rfl] at k1
      simp [f5, f6]
      refine ac_same k1 (by simp) ?_
      rintro r rfl
      simp [f5, f6]
      refine ac_same k2 (by simp) ?_
      rintro r rfl
      simp [f5, f6, f7, hwi]
      refine nx_intro (64 - (i + 1)) (by omega) ⟨i + 1, _, _, _, _, rfl, by omega, wA_eq rfl rfl, wA_eq rfl rfl, by simp [f1], by simp [f4], by simp [f5], by simp [f6], by simp, by simp⟩
    · have hd1 : ¬ d = 1 := by omega
      rw [if_neg hd1, Nat.add_zero] at hst
      simp [f5, f6]
      refine ac_same k2 (by simp) ?_
      rintro r rfl
      simp [f5, f6, f7, hwi]
      refine nx_intro (64 - (i + 1)) (by omega) ⟨i + 1, oh, ol, _, _, rfl, by omega, by rw [hst]; exact hO, wA_eq rfl rfl, by simp [f1], by simp [f4], by simp [f5], by simp [f6], by simp, by simp⟩
  · have hi64 : i = 64 := by omega
    subst hi64
    rw [p64, Nat.mod_eq_of_lt hy] at hO
    rw [hO]
    simp [f4, f5]
theorem rDiv_ok (a d : Nat) (ha : a < 340282366920938463463374607431768211456) (hd : d < 18446744073709551616) :
    PCalls Tryz.prog n_isobarref01_Div [wA a, .int .u64 d] (fun r => r = if d = 0 then .tup [wA 0, .int .u64 0, .int .i64 1] else .tup [wA (a / d), .int .u64 ((a % d : Nat) : Int), .int .i64 0]) := by
  refine pcalls_of_awp hmix c_isobarref01_Div rfl ?_
  by_cases h0 : d = 0
  · subst h0
    simp [a_isobarref01_Div, wA]
  rw [if_neg h0]
  have h0' : ¬ (d : Int) = 0 := by omega
  obtain ⟨ah, hah⟩ : ∃ h, h = a / 18446744073709551616 := ⟨_, rfl⟩
  obtain ⟨al, hal⟩ : ∃ l, l = a % 18446744073709551616 := ⟨_, rfl⟩
  have hA := wA_eq hah hal
  rw [hA]
  obtain ⟨md, hmd⟩ : ∃ m, m = a % d := ⟨_, rfl⟩
  rw [← hmd]
  simp [a_isobarref01_Div, h0, h0']
  have p128 : (2 : Nat) ^ 128 = 340282366920938463463374607431768211456 := by decide
  have p63 : (2 : Nat) ^ 63 = 9223372036854775808 := by decide
  refine lp_startx (fun z f σ => ∃ (k r qh ql : Nat), z = k ∧ k ≤ 128 ∧ wA (a / 2 ^ k / d * 2 ^ k) = .agg [.int .u64 qh, .int .u64 ql] ∧ r = a / 2 ^ k % d ∧ f 1 = .int .u64 d ∧ f 2 = .ptr 0 0 ∧ f 4 = .ptr 1 0 ∧ f 7 = .ptr 2 0 ∧ f 8 = .int .u64 r ∧ f 9 = .int .i64 ((k : Int) - 1) ∧
    σ = [.var 76 [.int .u64 ah, .int .u64 al], .var 76 [.int .u64 0, .int .u64 0], .var 76 [.int .u64 qh, .int .u64 ql]]) 128 ?_ ?_
  · have e : a / 2 ^ 128 = 0 := Nat.div_eq_of_lt (by rw [p128]; exact ha)
    refine ⟨128, 0, 0, 0, rfl, by omega, by rw [e, Nat.zero_div, Nat.zero_mul]; rfl, by rw [e, Nat.zero_mod], by simp, by simp, by simp, by simp, by simp, by simp, by simp⟩
  rintro z f σ ⟨k, r, qh, ql, hz, hk, hO, hr, f1, f2, f4, f7, f8, f9, rfl⟩
  simp [f9]
  refine cb_dec (fun hlt => ?_) (fun hge => ?_)
  · obtain ⟨i, rfl⟩ : ∃ i, k = i + 1 := ⟨k - 1, by omega⟩
    have hki : (((i + 1 : Nat) : Int) - 1) = i := by omega
    rw [hki] at f9
    have hi128 : i < 128 := by omega
    have hwi : IntKind.i64.wrap ((i : Int) - 1) = (i : Int) - 1 := wrap_i (by omega) (by omega)
    have k1 := rBit_ok (G := G) a i ha hi128
    rw [hA] at k1
    have hst := div_step a i
    obtain ⟨b, hb⟩ : ∃ b, b = bt a i := ⟨_, rfl⟩
    have hb2 : b < 2 := by rw [hb]; exact bt_lt a i
    rw [← hb] at k1 hst
    have hrd : r < d := by rw [hr]; exact Nat.mod_lt _ (by omega)
    obtain ⟨n, hn⟩ : ∃ n, n = a / 2 ^ (i + 1) := ⟨_, rfl⟩
    rw [← hn] at hst hr hO
    have hnd := Nat.div_add_mod n d
    rw [← hr] at hnd
    obtain ⟨q, hq⟩ : ∃ q, q = n / d := ⟨_, rfl⟩
    rw [← hq] at hnd hO
    obtain ⟨nx1, nx2⟩ := div_next (n := n) (d := d) (q := q) (r := r) (b := b) (by rw [Nat.mul_comm]; exact hnd.symm) hrd hb2
    obtain ⟨t, ht⟩ : ∃ t, t = r / 9223372036854775808 := ⟨_, rfl⟩
    have s19 : shiftOp .shr .u64 (r : Int) 63 = some (t : Int) := by rw [shr_nat r 63 (by omega) (by decide), ht, p63]
    obtain ⟨r2, hr2⟩ : ∃ r2, r2 = r * 2 % 18446744073709551616 := ⟨_, rfl⟩
    have s21 : shiftOp .shl .u64 (r : Int) 1 = some (r2 : Int) := by rw [shl_nat r 1 (by decide), hr2]
    obtain ⟨r3, hr3⟩ : ∃ r3, r3 = r2 + b := ⟨_, rfl⟩
    have s25 : bitOp .or .u64 (r2 : Int) (b : Int) = some (r3 : Int) := by
      rw [or_nat r2 b (by omega) (by omega), hr3]
      have := Nat.two_pow_add_eq_or_of_lt (show b < 2 ^ 1 by omega) (r2 / 2)
      have e2 : 2 ^ 1 * (r2 / 2) = r2 := by omega
      rw [e2] at this
      rw [this]
    simp [-shiftOp, -bitOp, f8, f2, f9, s19, s21]
    refine ac_same k1 (by simp) ?_
    rintro rr rfl
    simp [-shiftOp, -bitOp, f1, f7, s25]
    by_cases hge2 : d ≤ 2 * r + b
    · obtain ⟨nx3, nx4⟩ := nx2 hge2
      have hcond : t = 1 ∨ d ≤ r3 := by omega
      have hsub : IntKind.u64.wrap ((r3 : Int) - d) = ((2 * r + b - d : Nat) : Int) := by rw [wrap_u]; omega
      obtain ⟨r4, hr4⟩ : ∃ r4, r4 = 2 * r + b - d := ⟨_, rfl⟩
      rw [← hr4] at hsub nx3 nx4
      have h2q : 2 * n + b = (2 * q + 1) * d + r4 := nx3
      have hn2 : a / 2 ^ i = 2 * n + b := hst
      have hdq : a / 2 ^ i / d = 2 * q + 1 := by
        rw [hn2, h2q, Nat.mul_comm, Nat.mul_add_div (by omega), Nat.div_eq_of_lt nx4, Nat.add_zero]
      have hdr : a / 2 ^ i % d = r4 := by
        rw [hn2, h2q, Nat.mul_comm, Nat.mul_add_mod, Nat.mod_eq_of_lt nx4]
      have hqe : q * 2 ^ (i + 1) + 2 ^ i = (2 * q + 1) * 2 ^ i := by rw [Nat.add_mul, Nat.one_mul, Nat.pow_succ, Nat.mul_comm (2 ^ i) 2, ← Nat.mul_assoc, Nat.mul_comm q 2]
      have hqb : (2 * q + 1) * 2 ^ i < 340282366920938463463374607431768211456 := by
        rw [← hdq]
        have h1 : a / 2 ^ i / d ≤ a / 2 ^ i := Nat.div_le_self _ _
        have h2 : a / 2 ^ i / d * 2 ^ i ≤ a / 2 ^ i * 2 ^ i := Nat.mul_le_mul_right _ h1
        have h3 := Nat.div_mul_le_self a (2 ^ i)
        omega
      have k3 := rWith_ok (G := G) (q * 2 ^ (i + 1)) i (Nat.lt_of_le_of_lt (Nat.le_add_right _ (2 ^ i)) (by rw [hqe]; exact hqb)) hi128 (bt_mul q i (i + 1) (by omega))
      rw [hqe, hO, wA_eq (n := (2 * q + 1) * 2 ^ i) rfl rfl] at k3
      have fin : ∀ f' : Abs.Frame, True := fun _ => trivial
      by_cases ht1 : t = 1
      · have ht1' : (t : Int) = 1 := by omega
        simp [ht1, ht1', hsub, f1, f7, f9]
        refine ac_same k3 (by simp) ?_
        rintro rr rfl
        simp [f7, f9, hwi]
        refine nx_intro i (by omega) ⟨i, r4, _, _, rfl, by omega, by rw [hdq]; exact wA_eq rfl rfl, hdr.symm, by simp [f1], by simp [f2], by simp [f4], by simp [f7], by simp, by simp, by simp⟩
      · have ht1' : ¬ (t : Int) = 1 := by omega
        have hdr3 : d ≤ r3 := by omega
        have hdr3' : (d : Int) ≤ r3 := by omega
        simp [ht1, ht1', hdr3, hdr3', hsub, f1, f7, f9]
        refine ac_same k3 (by simp) ?_
        rintro rr rfl
        simp [f7, f9, hwi]
        refine nx_intro i (by omega) ⟨i, r4, _, _, rfl, by omega, by rw [hdq]; exact wA_eq rfl rfl, hdr.symm, by simp [f1], by simp [f2], by simp [f4], by simp [f7], by simp, by simp, by simp⟩
    · have nx3 := nx1 (by omega)
      have ht1 : ¬ t = 1 := by omega
      have ht1' : ¬ (t : Int) = 1 := by omega
      have hdr3 : ¬ d ≤ r3 := by omega
      have hdr3' : ¬ (d : Int) ≤ r3 := by omega
      have hr3e : r3 = 2 * r + b := by omega
      have hn2 : a / 2 ^ i = 2 * n + b := hst
      have hdq : a / 2 ^ i / d = 2 * q := by
        rw [hn2, nx3, Nat.mul_comm, Nat.mul_add_div (by omega), Nat.div_eq_of_lt (by omega), Nat.add_zero]
      have hdr : a / 2 ^ i % d = r3 := by
        rw [hn2, nx3, Nat.mul_comm, Nat.mul_add_mod, Nat.mod_eq_of_lt (by omega), hr3e]
      have hqe : 2 * q * 2 ^ i = q * 2 ^ (i + 1) := by rw [Nat.pow_succ, Nat.mul_comm (2 ^ i) 2, ← Nat.mul_assoc, Nat.mul_comm q 2]
      simp [ht1, ht1', hdr3, hdr3', f1, f7, f9, hwi]
      refine nx_intro i (by omega) ⟨i, r3, qh, ql, rfl, by omega, by rw [hdq, hqe]; exact hO, hdr.symm, by simp [f1], by simp [f2], by simp [f4], by simp [f7], by simp, by simp, by simp⟩
  · have hk0 : k = 0 := by omega
    subst hk0
    rw [Nat.pow_zero, Nat.div_one, Nat.mul_one] at hO
    rw [Nat.pow_zero, Nat.div_one] at hr
    rw [← hmd] at hr
    rw [hO]
    simp [f4, f7, f8, hr]
theorem rRound_ok (a d : Nat) (ha : a < 340282366920938463463374607431768211456) (hd : d < 18446744073709551616) :
    PCalls Tryz.prog n_isobarref01_Round [wA a, .int .u64 d] (fun r => r = if d = 0 then .tup [.int .u64 0, .int .i64 1] else if rnd a d < 18446744073709551616 then .tup [.int .u64 ((rnd a d : Nat) : Int), .int .i64 0] else .tup [.int .u64 0, .int .i64 3]) := by
  refine pcalls_of_awp hmix c_isobarref01_Round rfl ?_
  obtain ⟨ah, hah⟩ : ∃ h, h = a / 18446744073709551616 := ⟨_, rfl⟩
  obtain ⟨al, hal⟩ : ∃ l, l = a % 18446744073709551616 := ⟨_, rfl⟩
  have hA := wA_eq hah hal
  have kd := rDiv_ok (G := G) a d ha hd
  rw [hA] at kd ⊢
  by_cases h0 : d = 0
  · subst h0
    simp [a_isobarref01_Round]
    refine ac_same kd (by simp) ?_
    rintro r rfl
    simp [wA]
  rw [if_neg h0]
  simp [a_isobarref01_Round]
  refine ac_same kd (by simp) ?_
  rw [if_neg h0]
  obtain ⟨q, hq⟩ : ∃ x, x = a / d := ⟨_, rfl⟩
  obtain ⟨m, hm⟩ : ∃ x, x = a % d := ⟨_, rfl⟩
  have hmd : m < d := by rw [hm]; exact Nat.mod_lt _ (by omega)
  rw [← hq, ← hm]
  rintro r rfl
  have hrnd : rnd a d = q + (if d - m ≤ m then 1 else 0) := by rw [rnd, ← hq, ← hm]
  rw [hrnd]
  have hsub : IntKind.u64.wrap ((d : Int) - m) = ((d - m : Nat) : Int) := by rw [wrap_u]; omega
  obtain ⟨dm, hdm⟩ : ∃ x, x = d - m := ⟨_, rfl⟩
  rw [← hdm] at hsub
  have hqa : q < 340282366920938463463374607431768211456 := by rw [hq]; exact Nat.lt_of_le_of_lt (Nat.div_le_self _ _) ha
  obtain ⟨qh, hqh⟩ : ∃ x, x = q / 18446744073709551616 := ⟨_, rfl⟩
  obtain ⟨ql, hql⟩ : ∃ x, x = q % 18446744073709551616 := ⟨_, rfl⟩
  rw [wA_eq hqh hql]
  simp [hsub]
  refine cb_dec (fun h => ?_) (fun h => ?_)
  · have h' : d - m ≤ m := by omega
    have hq2 : q + 1 < 340282366920938463463374607431768211456 := by
      have hd2 : 2 ≤ d := by omega
      have : a / d ≤ a / 2 := Nat.div_le_div_left hd2 (by decide)
      omega
    simp
    have hA := rAdd_ok (G := G) q 1 hqa (by decide)
    rw [wA_eq hqh hql, show wA 1 = .agg [.int .u64 0, .int .u64 1] from rfl] at hA
    refine ac_same hA (by simp) ?_
    rintro r rfl
    rw [Nat.mod_eq_of_lt hq2, if_pos h']
    obtain ⟨ph, hph⟩ : ∃ x, x = (q + 1) / 18446744073709551616 := ⟨_, rfl⟩
    obtain ⟨pl, hpl⟩ : ∃ x, x = (q + 1) % 18446744073709551616 := ⟨_, rfl⟩
    rw [wA_eq hph hpl]
    by_cases hp0 : ph = 0
    · have : q + 1 < 18446744073709551616 := by omega
      have e : pl = q + 1 := by omega
      rw [if_pos this]; simp [hp0, e]
    · have : ¬ q + 1 < 18446744073709551616 := by omega
      have hp0' : ¬ (ph : Int) = 0 := by omega
      rw [if_neg this]; simp [hp0, hp0']
  · have h' : ¬ d - m ≤ m := by omega
    rw [if_neg h', Nat.add_zero]
    by_cases hp0 : qh = 0
    · have : q < 18446744073709551616 := by omega
      have e : ql = q := by omega
      rw [if_pos this]; simp [hp0, e]
    · have : ¬ q < 18446744073709551616 := by omega
      have hp0' : ¬ (qh : Int) = 0 := by omega
      rw [if_neg this]; simp [hp0, hp0']
end Go.Proofs.YtdgpnmlialmaaaaGreatDoor
end
section
set_option maxHeartbeats 2000000
namespace Go.Num
open Go.Abs
theorem numA_eq (n : N) : numA n = .agg [.bool n.1, .int .i64 n.2] := rfl
end Go.Num
namespace Go.Proofs.YtdgpnmlialmaaaaGreatDoor
open Go.Abs Go.Num
variable {G : Globs}
theorem rnRight_ok (n : N) (h : okN n) : PCalls Tryz.prog n_isobarref02_Right [numA n] (fun r => r = .bool (rightN n)) := by
  refine pcalls_of_awp hmix c_isobarref02_Right rfl ?_
  obtain ⟨b, v⟩ := n
  obtain ⟨h1, h2⟩ := h
  simp only at h1 h2
  cases b
  · have e : (!decide (v = -9223372036854775808)) = decide (-most ≤ v) := by
      unfold most
      by_cases h : v = -9223372036854775808
      · have : ¬ (-9223372036854775807 ≤ v) := by omega
        simp [h]
      · have : -9223372036854775807 ≤ v := by omega
        simp [h, this]
    simp [a_isobarref02_Right, numA, rightN]
    rw [← e]; simp
  · simp [a_isobarref02_Right, numA, rightN]
theorem right_good (n : N) : (rightN n && !n.1) = good n := by
  obtain ⟨b, v⟩ := n
  cases b <;> simp [rightN, good]
theorem rIs_ok (n : N) (h : okN n) : PCalls Tryz.prog n_isobarref02_is [numA n] (fun r => r = .bool (good n)) := by
  refine pcalls_of_awp hmix c_isobarref02_is rfl ?_
  have k := rnRight_ok (G := G) n h
  have hg := right_good n
  rw [numA_eq] at k ⊢
  simp [a_isobarref02_is]
  refine ac_same k (by simp) ?_
  rintro r rfl
  cases hr : rightN n
  · rw [hr] at hg; simp at hg; simp [hg]
  · rw [hr] at hg; simp at hg; simp [← hg]
theorem rNothing_ok : PCalls Tryz.prog n_isobarref02_Nothing [] (fun r => r = numA nothing) := by
  refine pcalls_of_awp hmix c_isobarref02_Nothing rfl ?_
  simp [a_isobarref02_Nothing, numA, nothing]
theorem rOf_ok (v : Int) (h0 : -9223372036854775808 ≤ v) (h1 : v ≤ 9223372036854775807) : PCalls Tryz.prog n_isobarref02_Of [.int .i64 v] (fun r => r = numA (tell v)) := by
  refine pcalls_of_awp hmix c_isobarref02_Of rfl ?_
  have k := rnRight_ok (G := G) (false, v) ⟨h0, h1⟩
  rw [numA_eq] at k
  simp [a_isobarref02_Of]
  refine ac_same k (by simp) ?_
  rintro r rfl
  by_cases hv : -9223372036854775807 ≤ v
  · have e : tell v = (false, v) := by unfold tell most; rw [if_pos]; omega
    simp [rightN, most, hv, e, numA]
  · have e : tell v = nothing := by unfold tell most; rw [if_neg]; omega
    simp [rightN, most, hv, e]
    refine ac_same rNothing_ok (by simp) ?_
    rintro r rfl
    simp [numA, e]
theorem rSize_ok (v : Int) (h0 : -9223372036854775808 ≤ v) (h1 : v ≤ 9223372036854775807) : PCalls Tryz.prog n_isobarref02_size [.int .i64 v] (fun r => r = .int .u64 v.natAbs) := by
  refine pcalls_of_awp hmix c_isobarref02_size rfl ?_
  simp [a_isobarref02_size]
  refine cb_dec (fun hlt => ?_) (fun hge => ?_)
  · have w1 : IntKind.i64.wrap (v + 1) = v + 1 := wrap_i (by omega) (by omega)
    have w2 : IntKind.i64.wrap (-(v + 1)) = -(v + 1) := wrap_i (by omega) (by omega)
    have w2' : IntKind.i64.wrap (-1 + -v) = -(v + 1) := by rw [wrap_i (by omega) (by omega)]; omega
    have w3 : IntKind.u64.wrap (-(v + 1)) = -(v + 1) := by rw [wrap_u]; omega
    have w4 : IntKind.u64.wrap (-(v + 1) + 1) = -v := by rw [wrap_u]; omega
    simp [w1, w2, w2', w3, w4]
    omega
  · have w : IntKind.u64.wrap v = v := by rw [wrap_u]; omega
    simp [w]
    omega
theorem rSigned_ok (n : Nat) (hn : n < 18446744073709551616) (b : Bool) : PCalls Tryz.prog n_isobarref02_signed [.int .u64 n, .bool b] (fun r => r = numA (tell (sgn b n))) := by
  refine pcalls_of_awp hmix c_isobarref02_signed rfl ?_
  simp [a_isobarref02_signed]
  refine cb_dec (fun hlt => ?_) (fun hge => ?_)
  · simp
    refine ac_same rNothing_ok (by simp) ?_
    rintro r rfl
    have : tell (sgn b n) = nothing := by
      unfold tell sgn most
      cases b <;> simp <;> omega
    simp [this, numA]
  · have hw : IntKind.i64.wrap (n : Int) = n := wrap_i (by omega) (by omega)
    have hw2 : IntKind.i64.wrap (-(n : Int)) = -n := wrap_i (by omega) (by omega)
    cases b
    · have : tell (sgn false n) = (false, (n : Int)) := by
        unfold tell sgn most; simp; omega
      simp [hw, this, numA]
    · have : tell (sgn true n) = (false, -(n : Int)) := by
        unfold tell sgn most; simp; omega
      simp [hw, hw2, this, numA]
theorem rInt_ok (n : Int) (h0 : -9223372036854775808 ≤ n) (h1 : n ≤ 9223372036854775807) : PCalls Tryz.prog n_isobarref02_Int [.int .i64 n] (fun r => r = numA (tell (n * 1000000))) := by
  refine pcalls_of_awp hmix c_isobarref02_Int rfl ?_
  simp [a_isobarref02_Int]
  refine ac_same (rSize_ok n h0 h1) (by simp) ?_
  rintro r rfl
  obtain ⟨s, hs⟩ : ∃ s, s = n.natAbs := ⟨_, rfl⟩
  obtain ⟨h, hh⟩ : ∃ x, x = s * 1000000 / 18446744073709551616 := ⟨_, rfl⟩
  obtain ⟨l, hl⟩ : ∃ x, x = s * 1000000 % 18446744073709551616 := ⟨_, rfl⟩
  have k := rMul_ok (G := G) s 1000000 (by omega) (by decide)
  rw [wA_eq hh hl] at k
  rw [← hs]
  simp
  refine ac_same k (by simp) ?_
  rintro r rfl
  by_cases hz : h = 0
  · have hsg : sgn (decide (n < 0)) l = n * 1000000 := by
      unfold sgn; by_cases hn : n < 0 <;> simp [hn] <;> omega
    simp [hz]
    refine ac_same (rSigned_ok l (by omega) (decide (n < 0))) (by simp) ?_
    rintro r rfl
    rw [hsg]
    simp [numA]
  · have hz' : ¬ (h : Int) = 0 := by omega
    have : tell (n * 1000000) = nothing := by unfold tell most; rw [if_neg]; omega
    simp [hz, hz', this]
    refine ac_same rNothing_ok (by simp) ?_
    rintro r rfl
    simp [this, numA]
theorem rnAdd_ok (a b : N) (ha : okN a) (hb : okN b) : PCalls Tryz.prog n_isobarref02_Add [numA a, numA b] (fun r => r = numA (addN a b)) := by
  refine pcalls_of_awp hmix c_isobarref02_Add rfl ?_
  have ka := rIs_ok (G := G) a ha
  have kb := rIs_ok (G := G) b hb
  obtain ⟨a1, a2⟩ := ha
  obtain ⟨b1, b2⟩ := hb
  rw [numA_eq] at ka kb
  rw [numA_eq a, numA_eq b]
  simp [a_isobarref02_Add]
  refine ac_same ka (by simp) ?_
  rintro r rfl
  cases hga : good a with
  | false =>
    simp
    refine ac_same rNothing_ok (by simp) ?_
    rintro r rfl
    simp [addN, hga, numA]
  | true =>
    simp
    refine ac_same kb (by simp) ?_
    rintro r rfl
    cases hgb : good b with
    | false =>
      simp
      refine ac_same rNothing_ok (by simp) ?_
      rintro r rfl
      simp [addN, hga, hgb, numA]
    | true =>
      have va := (good_iff.1 hga).2
      have vb := (good_iff.1 hgb).2
      simp only [most] at va vb
      have e : addN a b = tell (a.2 + b.2) := by simp [addN, hga, hgb]
      rw [e]
      by_cases hs : (decide (a.2 < 0)) = (decide (b.2 < 0))
      · have hs' : (decide (a.2 < 0) == decide (b.2 < 0)) = true := by simp [hs]
        have hsi : (a.2 < 0 ↔ b.2 < 0) := by simpa using hs
        have hw : IntKind.u64.wrap ((a.2.natAbs : Int) + b.2.natAbs) = ((a.2.natAbs + b.2.natAbs : Nat) : Int) := by rw [wrap_u]; omega
        obtain ⟨sa, hsa⟩ : ∃ s, s = a.2.natAbs := ⟨_, rfl⟩
        obtain ⟨sb, hsb⟩ : ∃ s, s = b.2.natAbs := ⟨_, rfl⟩
        obtain ⟨sc, hsc⟩ : ∃ s, s = sa + sb := ⟨_, rfl⟩
        rw [← hsa, ← hsb, ← hsc] at hw
        have ksa := rSize_ok (G := G) a.2 a1 a2
        have ksb := rSize_ok (G := G) b.2 b1 b2
        rw [← hsa] at ksa
        rw [← hsb] at ksb
        have hsg : sgn (decide (a.2 < 0)) sc = a.2 + b.2 := by
          unfold sgn; by_cases hn : a.2 < 0 <;> simp [hn] <;> omega
        simp [hs']
        refine qc_same ksa (by simp) (by simp) ?_
        simp
        refine qc_same ksb (by simp) (by simp) ?_
        simp [hw]
        refine qc_same (rSigned_ok sc (by omega) (decide (a.2 < 0))) (by simp) (by simp [numA]) ?_
        rw [hsg]
        simp [numA]
      · have hs' : (decide (a.2 < 0) == decide (b.2 < 0)) = false := by simpa using hs
        have hsi : ¬ (a.2 < 0 ↔ b.2 < 0) := by simpa using hs
        have hw : IntKind.i64.wrap (a.2 + b.2) = a.2 + b.2 := wrap_i (by omega) (by omega)
        have ht : tell (a.2 + b.2) = (false, a.2 + b.2) := by unfold tell most; rw [if_pos]; omega
        rw [ht]
        simp [hs', hw, numA]
theorem rnDiv_ok (a b : N) (ha : okN a) (hb : okN b) : PCalls Tryz.prog n_isobarref02_Div [numA a, numA b] (fun r => r = numA (divN a b)) := by
  refine pcalls_of_awp hmix c_isobarref02_Div rfl ?_
  have ka := rIs_ok (G := G) a ha
  have kb := rIs_ok (G := G) b hb
  obtain ⟨a1, a2⟩ := ha
  obtain ⟨b1, b2⟩ := hb
  rw [numA_eq] at ka kb
  rw [numA_eq a, numA_eq b]
  simp [a_isobarref02_Div]
  refine ac_same ka (by simp) ?_
  rintro r rfl
  cases hga : good a with
  | false =>
    simp
    refine ac_same rNothing_ok (by simp) ?_
    rintro r rfl
    simp [divN, hga, numA]
  | true =>
    simp
    refine ac_same kb (by simp) ?_
    rintro r rfl
    cases hgb : good b with
    | false =>
      simp
      refine ac_same rNothing_ok (by simp) ?_
      rintro r rfl
      simp [divN, hga, hgb, numA]
    | true =>
      have va := (good_iff.1 hga).2
      have vb := (good_iff.1 hgb).2
      simp only [most] at va vb
      by_cases hb0 : b.2 = 0
      · simp [hb0]
        refine ac_same rNothing_ok (by simp) ?_
        rintro r rfl
        simp [divN, hga, hgb, hb0, numA]
      · obtain ⟨sa, hsa⟩ : ∃ s, s = a.2.natAbs := ⟨_, rfl⟩
        obtain ⟨sb, hsb⟩ : ∃ s, s = b.2.natAbs := ⟨_, rfl⟩
        have e : divN a b = tell (sgn (decide (a.2 < 0) != decide (b.2 < 0)) (rnd (sa * 1000000) sb)) := by simp [divN, hga, hgb, hb0, hsa, hsb]
        rw [e]
        have ksa := rSize_ok (G := G) a.2 a1 a2
        have ksb := rSize_ok (G := G) b.2 b1 b2
        rw [← hsa] at ksa
        rw [← hsb] at ksb
        have km := rMul_ok (G := G) sa 1000000 (by omega) (by decide)
        have hxy : sa * 1000000 < 340282366920938463463374607431768211456 := by omega
        have kr := rRound_ok (G := G) (sa * 1000000) sb hxy (by omega)
        have hsb0 : ¬ sb = 0 := by omega
        rw [if_neg hsb0] at kr
        obtain ⟨h, hh⟩ : ∃ x, x = sa * 1000000 / 18446744073709551616 := ⟨_, rfl⟩
        obtain ⟨l, hl⟩ : ∃ x, x = sa * 1000000 % 18446744073709551616 := ⟨_, rfl⟩
        rw [wA_eq hh hl] at km kr
        obtain ⟨q, hq⟩ : ∃ q, q = rnd (sa * 1000000) sb := ⟨_, rfl⟩
        rw [← hq] at kr ⊢
        simp [hb0]
        refine qc_same ksa (by simp) (by simp) ?_
        simp
        refine qc_same km (by simp) (by simp) ?_
        simp
        refine qc_same ksb (by simp) (by simp) ?_
        simp
        by_cases hqM : q < 18446744073709551616
        · rw [if_pos hqM] at kr
          refine qc_same kr (by simp) (by simp) ?_
          simp
          refine ac_same (rSigned_ok q hqM (decide (a.2 < 0) != decide (b.2 < 0))) (by simp) ?_
          rintro r rfl
          simp [numA]
        · rw [if_neg hqM] at kr
          have : tell (sgn (decide (a.2 < 0) != decide (b.2 < 0)) q) = nothing := by
            unfold tell sgn most
            cases (decide (a.2 < 0) != decide (b.2 < 0)) <;> simp <;> omega
          rw [this]
          refine qc_same kr (by simp) (by simp) ?_
          simp
          refine ac_same rNothing_ok (by simp) ?_
          rintro r rfl
          simp [numA]
theorem rnLess_ok (a b : N) (ha : okN a) (hb : okN b) : PCalls Tryz.prog n_isobarref02_Less [numA a, numA b] (fun r => r = numA (lessN a b)) := by
  refine pcalls_of_awp hmix c_isobarref02_Less rfl ?_
  have ka := rIs_ok (G := G) a ha
  have kb := rIs_ok (G := G) b hb
  rw [numA_eq] at ka kb
  rw [numA_eq a, numA_eq b]
  simp [a_isobarref02_Less]
  refine ac_same ka (by simp) ?_
  rintro r rfl
  cases hga : good a with
  | false =>
    simp
    refine ac_same kb (by simp) ?_
    rintro r rfl
    cases hgb : good b with
    | false =>
      simp
      refine ac_same rNothing_ok (by simp) ?_
      rintro r rfl
      simp [lessN, hga, hgb, numA]
    | true =>
      simp
      refine ac_same ka (by simp) ?_
      rintro r rfl
      simp [hga, lessN, hgb, numA]
  | true =>
    simp
    refine ac_same ka (by simp) ?_
    rintro r rfl
    simp [hga]
    refine ac_same kb (by simp) ?_
    rintro r rfl
    cases hgb : good b with
    | false => simp [lessN, hga, hgb, numA]
    | true =>
      by_cases hle : a.2 ≤ b.2
      · simp [lessN, hga, hgb, hle, numA]
      · simp [lessN, hga, hgb, hle, numA]
theorem rnMore_ok (a b : N) (ha : okN a) (hb : okN b) : PCalls Tryz.prog n_isobarref02_More [numA a, numA b] (fun r => r = numA (moreN a b)) := by
  refine pcalls_of_awp hmix c_isobarref02_More rfl ?_
  have ka := rIs_ok (G := G) a ha
  have kb := rIs_ok (G := G) b hb
  rw [numA_eq] at ka kb
  rw [numA_eq a, numA_eq b]
  simp [a_isobarref02_More]
  refine ac_same ka (by simp) ?_
  rintro r rfl
  cases hga : good a with
  | false =>
    simp
    refine ac_same kb (by simp) ?_
    rintro r rfl
    cases hgb : good b with
    | false =>
      simp
      refine ac_same rNothing_ok (by simp) ?_
      rintro r rfl
      simp [moreN, hga, hgb, numA]
    | true =>
      simp
      refine ac_same ka (by simp) ?_
      rintro r rfl
      simp [hga, moreN, hgb, numA]
  | true =>
    simp
    refine ac_same ka (by simp) ?_
    rintro r rfl
    simp [hga]
    refine ac_same kb (by simp) ?_
    rintro r rfl
    cases hgb : good b with
    | false => simp [moreN, hga, hgb, numA]
    | true =>
      by_cases hle : b.2 ≤ a.2
      · simp [moreN, hga, hgb, hle, numA]
      · simp [moreN, hga, hgb, hle, numA]
end Go.Proofs.YtdgpnmlialmaaaaGreatDoor
end
