/- Numbers with six decimals, and quotients of 128 bits, in plain Lean. -/
import Derived.WalkKit
set_option linter.unusedSimpArgs false
set_option linter.unusedVariables false
namespace Go.Num

/-! ## One digit of a quotient: the guess, and when it is right (Knuth) -/
theorem kn_mul {a b u v q r B : Nat} (hr : q * a + r = u) : q * (a * B + b) + (B * r + v) = u * B + v + q * b := by
  subst hr
  rw [Nat.mul_add, Nat.add_mul, Nat.mul_assoc, Nat.mul_comm B r]
  omega
/-- The guess isn't too great: it is the digit. -/
theorem kn_exit {a b u v q r B : Nat} (hy : 0 < a * B + b) (hq : (u * B + v) / (a * B + b) ≤ q) (hr : q * a + r = u) (h : q * b ≤ B * r + v) : q = (u * B + v) / (a * B + b) := by
  have := kn_mul (b := b) (v := v) (B := B) hr
  exact Nat.le_antisymm ((Nat.le_div_iff_mul_le hy).2 (by omega)) hq
/-- The rest is great: the guess is the digit. -/
theorem kn_break {a b u v q r B : Nat} (hy : 0 < a * B + b) (hq : (u * B + v) / (a * B + b) ≤ q) (hr : q * a + r = u) (hB : B ≤ r) (hqB : q ≤ B) (hb : b < B) : q = (u * B + v) / (a * B + b) := by
  refine kn_exit hy hq hr ?_
  have h1 : q * b ≤ B * B := Nat.mul_le_mul hqB (Nat.le_of_lt hb)
  have h2 : B * B ≤ B * r := Nat.mul_le_mul_left B hB
  omega
/-- The guess is too great. -/
theorem kn_next {a b u v q r B : Nat} (hy : 0 < a * B + b) (hu : u < a * B + b) (hv : v < B) (hr : q * a + r = u) (h : B ≤ q ∨ B * r + v < q * b) : (u * B + v) / (a * B + b) < q := by
  rw [Nat.div_lt_iff_lt_mul hy]
  rcases h with h | h
  · have h1 : u * B + v < (u + 1) * B := by rw [Nat.add_mul]; omega
    have h2 : (u + 1) * B ≤ (a * B + b) * B := Nat.mul_le_mul_right B hu
    have h3 : (a * B + b) * B ≤ q * (a * B + b) := by rw [Nat.mul_comm q]; exact Nat.mul_le_mul_left _ h
    omega
  · have := kn_mul (b := b) (v := v) (B := B) hr
    omega
/-- The first guess is at most two too great. -/
theorem kn_guess {a b u v B : Nat} (ha : 0 < a) (hv : v < B) : (u * B + v) / (a * B + b) ≤ u / a := by
  have hB : 0 < B := by omega
  rw [Nat.le_div_iff_mul_le ha]
  have h1 : (u * B + v) / (a * B + b) * (a * B + b) ≤ u * B + v := Nat.div_mul_le_self _ _
  have h2 : (u * B + v) / (a * B + b) * (a * B) ≤ (u * B + v) / (a * B + b) * (a * B + b) := Nat.mul_le_mul_left _ (Nat.le_add_right _ _)
  have h3 : (u * B + v) / (a * B + b) * a * B < (u + 1) * B := by
    rw [Nat.mul_assoc, Nat.add_mul]; omega
  have := Nat.lt_of_mul_lt_mul_right h3
  omega
theorem kn_first {a b u B : Nat} (ha : B ≤ 2 * a) (hb : b < B) (hu : u < a * B + b) : u / a ≤ B + 1 := by
  have ha0 : 0 < a := by omega
  have : u < (B + 2) * a := by
    have e : (B + 2) * a = a * B + 2 * a := by rw [Nat.add_mul, Nat.mul_comm B a]
    omega
  have := (Nat.div_lt_iff_lt_mul ha0).2 this
  omega
/-- Two digits make the quotient. -/
theorem two_digits {y h l B : Nat} (hy : 0 < y) : let q1 := h / y; let r1 := h % y; (h * B + l) / y = q1 * B + (r1 * B + l) / y ∧ (h * B + l) % y = (r1 * B + l) % y := by
  intro q1 r1
  have e : h * B + l = y * (q1 * B) + (r1 * B + l) := by
    have := Nat.div_add_mod h y
    have h2 : h * B = (y * q1 + r1) * B := by rw [this]
    rw [h2, Nat.add_mul, Nat.mul_assoc]; omega
  rw [e]
  exact ⟨Nat.mul_add_div hy _ _, Nat.mul_add_mod _ _ _⟩

/-- A quotient of 128 bits by 64, by two digits of 32, all moved to the left: M is 2^64, B 2^32, P 2^s, R 2^(64-s). -/
theorem div64_join {hi lo y M B P R : Nat} (hM : M = R * P) (hMB : M = B * B) (hp : 0 < P) (hy : 0 < y) {u32 u10 h q1 u21 g : Nat}
    (e1 : u32 = hi * P + lo / R) (e2 : u10 = lo * P % M) (e3 : h = u32 * B + u10 / B) (e4 : q1 = h / (y * P)) (e5 : u21 = h % (y * P)) (e6 : g = u21 * B + u10 % B) :
    (hi * M + lo) / y = q1 * B + g / (y * P) ∧ (hi * M + lo) % y = g % (y * P) / P := by
  have hyp : 0 < y * P := Nat.mul_pos hy hp
  have elo : lo * P = lo / R * M + u10 := by
    have h1 := Nat.div_add_mod (lo * P) M
    have h2 : lo * P / M = lo / R := by
      rw [hM]; exact Nat.mul_div_mul_right _ _ hp
    rw [h2, Nat.mul_comm, ← e2] at h1
    exact h1.symm
  have eu : u10 / B * B + u10 % B = u10 := by
    have := Nat.div_add_mod u10 B
    rw [Nat.mul_comm] at this; exact this
  have en : (hi * M + lo) * P = h * B + u10 % B := by
    have h1 : (hi * M + lo) * P = hi * P * M + lo * P := by
      rw [Nat.add_mul, Nat.mul_assoc, Nat.mul_comm M P, ← Nat.mul_assoc]
    have h2 : h * B = u32 * M + u10 / B * B := by
      rw [e3, Nat.add_mul, Nat.mul_assoc, ← hMB]
    have h3 : u32 * M = hi * P * M + lo / R * M := by rw [e1, Nat.add_mul]
    rw [h1, elo, h2, h3, Nat.add_assoc (hi * P * M + lo / R * M), eu, Nat.add_assoc]
  obtain ⟨t1, t2⟩ := two_digits (y := y * P) (h := h) (l := u10 % B) (B := B) hyp
  rw [← e4, ← e5, ← e6] at t1
  rw [← e5, ← e6] at t2
  have d1 : (hi * M + lo) / y = (hi * M + lo) * P / (y * P) := (Nat.mul_div_mul_right _ _ hp).symm
  have d2 : (hi * M + lo) * P % (y * P) = (hi * M + lo) % y * P := Nat.mul_mod_mul_right _ _ _
  constructor
  · rw [d1, en]; exact t1
  · rw [en, t2] at d2
    rw [d2, Nat.mul_div_cancel _ hp]

/-! ## Numbers -/
abbrev N := Bool × Int
abbrev most : Int := 9223372036854775807
/-- Does a number count? -/
def good (n : N) : Bool := !n.1 && decide (-most ≤ n.2)
/-- Is it a number as it must be? -/
def rightN (n : N) : Bool := if n.1 then decide (n.2 = 0) else decide (-most ≤ n.2)
def nothing : N := (true, 0)
def tell (s : Int) : N := if -most ≤ s ∧ s ≤ most then (false, s) else nothing
def addN (a b : N) : N := if good a && good b then tell (a.2 + b.2) else nothing
def lessN (a b : N) : N := if good a then (if good b then (if a.2 ≤ b.2 then a else b) else a) else if good b then b else nothing
def moreN (a b : N) : N := if good a then (if good b then (if b.2 ≤ a.2 then a else b) else a) else if good b then b else nothing
/-- A quotient to the nearest number. -/
def rnd (x d : Nat) : Nat := x / d + (if d - x % d ≤ x % d then 1 else 0)
def sgn (below : Bool) (n : Nat) : Int := if below then -(n : Int) else n
def divN (a b : N) : N := if good a && good b && decide (b.2 ≠ 0) then tell (sgn (decide (a.2 < 0) != decide (b.2 < 0)) (rnd (a.2.natAbs * 1000000) b.2.natAbs)) else nothing
def known (l : List N) : List N := l.filter good
/-- What values that count make, by a way. -/
def reckonK (way : Int) (k : N) (ks : List N) : N :=
  if way = 1 then divN (ks.foldl addN k) (tell (((k :: ks).length : Int) * 1000000))
  else if way = 2 then ks.foldl addN k
  else if way = 3 then ks.foldl lessN k
  else if way = 4 then ks.foldl moreN k
  else if way = 5 then (k :: ks).getLast (by simp)
  else nothing
def reckon (way : Int) (l : List N) : N := match known l with
  | [] => nothing
  | k :: ks => reckonK way k ks
end Go.Num
