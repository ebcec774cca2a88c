/- Numbers of 128 bits, bit by bit, in plain Lean. Bits of 64-bit numbers, as the machine's operations yield them. Numbers with six decimals, and quotien -/
import Derived.WalkKit
import Derived.Test.YtdgpnmlialmaaaaGreatDoorAbs2
import Derived.Test.YtdgpnmlialmaaaaGreatDoorCode
import Derived.Test.YtdgpnmlialmaaaaGreatDoorShelf
import Derived.Lib.ItoaNum
set_option linter.unusedSimpArgs false
set_option linter.unusedVariables false
set_option linter.constructorNameAsVariable false
section
namespace Go.Num
end Go.Num
end
section
namespace Go.Num
open Go.Abs
theorem u64_of (a : Nat) (h : a < 18446744073709551616) : (BitVec.ofInt 64 (a : Int)).toNat = a := by
  rw [BitVec.toNat_ofInt]
  omega
theorem u64_wrap (a : Nat) (h : a < 18446744073709551616) : IntKind.u64.wrap (a : Int) = a := by
  have := Go.IntKind.wrap
  simp [IntKind.wrap, IntKind.signed, IntKind.bits]; omega
theorem or_nat (a b : Nat) (h : a < 18446744073709551616) (h2 : b < 18446744073709551616) : bitOp .or .u64 (a : Int) (b : Int) = some ((a ||| b : Nat) : Int) := by
  have e : (BitVec.ofInt 64 (a : Int) ||| BitVec.ofInt 64 (b : Int)).toNat = a ||| b := by
    rw [BitVec.toNat_or, u64_of a h, u64_of b h2]
  have hlt : a ||| b < 18446744073709551616 := Nat.or_lt_two_pow (n := 64) h h2
  show some (IntKind.u64.wrap ((BitVec.ofInt 64 (a : Int) ||| BitVec.ofInt 64 (b : Int)).toNat : Int)) = _
  rw [e, u64_wrap _ hlt]
theorem shr_nat (a n : Nat) (h : a < 18446744073709551616) (hn : n ≤ 64) : shiftOp .shr .u64 (a : Int) n = some ((a / 2 ^ n : Nat) : Int) := by
  show some ((a : Int).fdiv (2 ^ min n 64)) = _
  rw [Nat.min_eq_left hn]
  congr 1
  rw [show ((2 : Int) ^ n) = ((2 ^ n : Nat) : Int) by push_cast; rfl]
  exact Int.ofNat_fdiv _ _ |>.symm
theorem shl_nat (a n : Nat) (hn : n ≤ 64) : shiftOp .shl .u64 (a : Int) n = some ((a * 2 ^ n % 18446744073709551616 : Nat) : Int) := by
  show some (IntKind.u64.wrap ((a : Int) * 2 ^ min n 64)) = _
  rw [Nat.min_eq_left hn]
  rw [show (a : Int) * 2 ^ n = ((a * 2 ^ n : Nat) : Int) by push_cast; rfl]
  simp [IntKind.wrap, IntKind.signed, IntKind.bits]
end Go.Num
end
section
namespace Go.Num
theorem kn_mul {a b u v q r B : Nat} (hr : q * a + r = u) : q * (a * B + b) + (B * r + v) = u * B + v + q * b := by
  subst hr
  rw [Nat.mul_add, Nat.add_mul, Nat.mul_assoc, Nat.mul_comm B r]
  omega
/-- The guess isn't too great: it is the digit. -/
theorem kn_exit {a b u v q r B : Nat} (hy : 0 < a * B + b) (hq : (u * B + v) / (a * B + b) ≤ q) (hr : q * a + r = u) (h : q * b ≤ B * r + v) : q = (u * B + v) / (a * B + b) := by
  have := kn_mul (b := b) (v := v) (B := B) hr
  exact Nat.le_antisymm ((Nat.le_div_iff_mul_le hy).2 (by omega)) hq
/-- The rest is great: the guess is the digit. -/
theorem kn_break {a b u v q r B : Nat} (hy : 0 < a * B + b) (hq : (u * B + v) / (a * B + b) ≤ q) (hr : q * a + r = u) (hB : B ≤ r) (hqB : q ≤ B) (hb : b < B) : q = (u * B + v) / (a * B + b) := by
  refine kn_exit hy hq hr ?_
  have h1 : q * b ≤ B * B := Nat.mul_le_mul hqB (Nat.le_of_lt hb)
  have h2 : B * B ≤ B * r := Nat.mul_le_mul_left B hB
  omega
/-- The guess is too great. -/
theorem kn_next {a b u v q r B : Nat} (hy : 0 < a * B + b) (hu : u < a * B + b) (hv : v < B) (hr : q * a + r = u) (h : B ≤ q ∨ B * r + v < q * b) : (u * B + v) / (a * B + b) < q := by
  rw [Nat.div_lt_iff_lt_mul hy]
  rcases h with h | h
  · have h1 : u * B + v < (u + 1) * B := by rw [Nat.add_mul]; omega
    have h2 : (u + 1) * B ≤ (a * B + b) * B := Nat.mul_le_mul_right B hu
    have h3 : (a * B + b) * B ≤ q * (a * B + b) := by rw [Nat.mul_comm q]; exact Nat.mul_le_mul_left _ h
    omega
  · have := kn_mul (b := b) (v := v) (B := B) hr
    omega
/-- The first guess is at most two too great. -/
theorem kn_guess {a b u v B : Nat} (ha : 0 < a) (hv : v < B) : (u * B + v) / (a * B + b) ≤ u / a := by
  have hB : 0 < B := by omega
  rw [Nat.le_div_iff_mul_le ha]
  have h1 : (u * B + v) / (a * B + b) * (a * B + b) ≤ u * B + v := Nat.div_mul_le_self _ _
  have h2 : (u * B + v) / (a * B + b) * (a * B) ≤ (u * B + v) / (a * B + b) * (a * B + b) := Nat.mul_le_mul_left _ (Nat.le_add_right _ _)
  have h3 : (u * B + v) / (a * B + b) * a * B < (u + 1) * B := by
    rw [Nat.mul_assoc, Nat.add_mul]; omega
  have := Nat.lt_of_mul_lt_mul_right h3
  omega
theorem kn_first {a b u B : Nat} (ha : B ≤ 2 * a) (hb : b < B) (hu : u < a * B + b) : u / a ≤ B + 1 := by
  have ha0 : 0 < a := by omega
  have : u < (B + 2) * a := by
    have e : (B + 2) * a = a * B + 2 * a := by rw [Nat.add_mul, Nat.mul_comm B a]
    omega
  have := (Nat.div_lt_iff_lt_mul ha0).2 this
  omega
/-- Two digits make the quotient. -/
theorem two_digits {y h l B : Nat} (hy : 0 < y) : let q1 := h / y; let r1 := h % y; (h * B + l) / y = q1 * B + (r1 * B + l) / y ∧ (h * B + l) % y = (r1 * B + l) % y := by
  intro q1 r1
  have e : h * B + l = y * (q1 * B) + (r1 * B + l) := by
    have := Nat.div_add_mod h y
    have h2 : h * B = (y * q1 + r1) * B := by rw [this]
    rw [h2, Nat.add_mul, Nat.mul_assoc]; omega
  rw [e]
  exact ⟨Nat.mul_add_div hy _ _, Nat.mul_add_mod _ _ _⟩
/-- A quotient of 128 bits by 64, by two digits of 32, all moved to the left: M is 2^64, B 2^32, P 2^s, R 2^(64-s). -/
theorem div64_join {hi lo y M B P R : Nat} (hM : M = R * P) (hMB : M = B * B) (hp : 0 < P) (hy : 0 < y) {u32 u10 h q1 u21 g : Nat}
    (e1 : u32 = hi * P + lo / R) (e2 : u10 = lo * P % M) (e3 : h = u32 * B + u10 / B) (e4 : q1 = h / (y * P)) (e5 : u21 = h % (y * P)) (e6 : g = u21 * B + u10 % B) :
    (hi * M + lo) / y = q1 * B + g / (y * P) ∧ (hi * M + lo) % y = g % (y * P) / P := by
  have hyp : 0 < y * P := Nat.mul_pos hy hp
  have elo : lo * P = lo / R * M + u10 := by
    have h1 := Nat.div_add_mod (lo * P) M
    have h2 : lo * P / M = lo / R := by
      rw [hM]; exact Nat.mul_div_mul_right _ _ hp
    rw [h2, Nat.mul_comm, ← e2] at h1
    exact h1.symm
  have eu : u10 / B * B + u10 % B = u10 := by
    have := Nat.div_add_mod u10 B
    rw [Nat.mul_comm] at this; exact this
  have en : (hi * M + lo) * P = h * B + u10 % B := by
    have h1 : (hi * M + lo) * P = hi * P * M + lo * P := by
      rw [Nat.add_mul, Nat.mul_assoc, Nat.mul_comm M P, ← Nat.mul_assoc]
    have h2 : h * B = u32 * M + u10 / B * B := by
      rw [e3, Nat.add_mul, Nat.mul_assoc, ← hMB]
    have h3 : u32 * M = hi * P * M + lo / R * M := by rw [e1, Nat.add_mul]
    rw [h1, elo, h2, h3, Nat.add_assoc (hi * P * M + lo / R * M), eu, Nat.add_assoc]
  obtain ⟨t1, t2⟩ := two_digits (y := y * P) (h := h) (l := u10 % B) (B := B) hyp
  rw [← e4, ← e5, ← e6] at t1
  rw [← e5, ← e6] at t2
  have d1 : (hi * M + lo) / y = (hi * M + lo) * P / (y * P) := (Nat.mul_div_mul_right _ _ hp).symm
  have d2 : (hi * M + lo) * P % (y * P) = (hi * M + lo) % y * P := Nat.mul_mod_mul_right _ _ _
  constructor
  · rw [d1, en]; exact t1
  · rw [en, t2] at d2
    rw [d2, Nat.mul_div_cancel _ hp]
abbrev N := Bool × Int
abbrev most : Int := 9223372036854775807
/-- Does a number count? -/
def good (n : N) : Bool := !n.1 && decide (-most ≤ n.2)
/-- Is it a number as it must be? -/
def rightN (n : N) : Bool := if n.1 then decide (n.2 = 0) else decide (-most ≤ n.2)
def nothing : N := (true, 0)
def tell (s : Int) : N := if -most ≤ s ∧ s ≤ most then (false, s) else nothing
def addN (a b : N) : N := if good a && good b then tell (a.2 + b.2) else nothing
def lessN (a b : N) : N := if good a then (if good b then (if a.2 ≤ b.2 then a else b) else a) else if good b then b else nothing
def moreN (a b : N) : N := if good a then (if good b then (if b.2 ≤ a.2 then a else b) else a) else if good b then b else nothing
/-- A quotient to the nearest number. -/
def rnd (x d : Nat) : Nat := x / d + (if d - x % d ≤ x % d then 1 else 0)
def sgn (below : Bool) (n : Nat) : Int := if below then -(n : Int) else n
def divN (a b : N) : N := if good a && good b && decide (b.2 ≠ 0) then tell (sgn (decide (a.2 < 0) != decide (b.2 < 0)) (rnd (a.2.natAbs * 1000000) b.2.natAbs)) else nothing
def known (l : List N) : List N := l.filter good
/-- What values that count make, by a way. -/
def reckonK (way : Int) (k : N) (ks : List N) : N :=
  if way = 1 then divN (ks.foldl addN k) (tell (((k :: ks).length : Int) * 1000000))
  else if way = 2 then ks.foldl addN k
  else if way = 3 then ks.foldl lessN k
  else if way = 4 then ks.foldl moreN k
  else if way = 5 then (k :: ks).getLast (by simp)
  else nothing
def reckon (way : Int) (l : List N) : N := match known l with
  | [] => nothing
  | k :: ks => reckonK way k ks
end Go.Num
end
section
namespace Go.Num
theorem good_iff {n : N} : good n = true ↔ n.1 = false ∧ -most ≤ n.2 := by
  simp [good]
theorem known_good (l : List N) : ∀ n ∈ known l, good n = true := fun n hn => (List.mem_filter.1 hn).2
theorem nothing_bad : good nothing = false := rfl
theorem tell_zero : tell 0 = (false, 0) := by decide
/-- Nought and a number that counts is the number. -/
theorem add_zero {k : N} (h : good k = true) (h2 : k.2 ≤ most) : addN (tell 0) k = k := by
  obtain ⟨h1, h3⟩ := good_iff.1 h
  have hz : good (tell 0) = true := by decide
  unfold addN
  rw [hz, h]
  simp only [Bool.and_self, if_true]
  rw [tell_zero]
  unfold tell
  simp only [Int.zero_add]
  rw [if_pos ⟨h3, h2⟩, ← h1]
/-- The lesser of two is one of them, and no greater. -/
theorem less_of {a b : N} (ha : good a = true) (hb : good b = true) : good (lessN a b) = true ∧ (lessN a b).2 ≤ a.2 ∧ (lessN a b).2 ≤ b.2 := by
  unfold lessN
  rw [ha, hb]
  simp only [if_true]
  split
  · rename_i h; exact ⟨ha, Int.le_refl _, h⟩
  · exact ⟨hb, by omega, Int.le_refl _⟩
theorem more_of {a b : N} (ha : good a = true) (hb : good b = true) : good (moreN a b) = true ∧ a.2 ≤ (moreN a b).2 ∧ b.2 ≤ (moreN a b).2 := by
  unfold moreN
  rw [ha, hb]
  simp only [if_true]
  split
  · rename_i h; exact ⟨ha, Int.le_refl _, h⟩
  · exact ⟨hb, by omega, Int.le_refl _⟩
theorem fold_less : ∀ (l : List N) (k : N), good k = true → (∀ n ∈ l, good n = true) → good (l.foldl lessN k) = true ∧ (l.foldl lessN k).2 ≤ k.2 ∧ ∀ n ∈ l, (l.foldl lessN k).2 ≤ n.2
  | [], k, hk, _ => ⟨hk, Int.le_refl _, by simp⟩
  | n :: l, k, hk, h => by
    have hn := h n (by simp)
    obtain ⟨h1, h2, h3⟩ := less_of hk hn
    obtain ⟨g1, g2, g3⟩ := fold_less l (lessN k n) h1 fun m hm => h m (by simp [hm])
    rw [List.foldl_cons]
    refine ⟨g1, by omega, fun m hm => ?_⟩
    rcases List.mem_cons.1 hm with rfl | hm
    · omega
    · exact g3 m hm
theorem fold_more : ∀ (l : List N) (k : N), good k = true → (∀ n ∈ l, good n = true) → good (l.foldl moreN k) = true ∧ k.2 ≤ (l.foldl moreN k).2 ∧ ∀ n ∈ l, n.2 ≤ (l.foldl moreN k).2
  | [], k, hk, _ => ⟨hk, Int.le_refl _, by simp⟩
  | n :: l, k, hk, h => by
    have hn := h n (by simp)
    obtain ⟨h1, h2, h3⟩ := more_of hk hn
    obtain ⟨g1, g2, g3⟩ := fold_more l (moreN k n) h1 fun m hm => h m (by simp [hm])
    rw [List.foldl_cons]
    refine ⟨g1, by omega, fun m hm => ?_⟩
    rcases List.mem_cons.1 hm with rfl | hm
    · omega
    · exact g3 m hm
/-- A rounded quotient lies between whole bounds. -/
theorem rnd_le {x d m : Nat} (hd : 0 < d) (h : x ≤ m * d) : rnd x d ≤ m := by
  unfold rnd
  have h1 := Nat.div_add_mod x d
  have hr := Nat.mod_lt x hd
  have hq : x / d ≤ m := by
    have : x / d * d ≤ m * d := Nat.le_trans (Nat.div_mul_le_self _ _) h
    exact Nat.le_of_mul_le_mul_right this hd
  by_cases he : x / d = m
  · have hz : x % d = 0 := by
      rw [he, Nat.mul_comm d m] at h1; omega
    rw [hz, if_neg (by omega)]; omega
  · split <;> omega
theorem le_rnd {x d m : Nat} (hd : 0 < d) (h : m * d ≤ x) : m ≤ rnd x d := by
  unfold rnd
  have : m ≤ x / d := (Nat.le_div_iff_mul_le hd).2 h
  omega
theorem add_nothing (n : N) : addN nothing n = nothing := by simp [addN, nothing_bad]
theorem fold_nothing : ∀ l : List N, l.foldl addN nothing = nothing
  | [] => rfl
  | n :: l => by rw [List.foldl_cons, add_nothing, fold_nothing l]
def total (l : List N) : Int := (l.map (·.2)).sum
theorem fold_add : ∀ (l : List N) (k : N), good k = true → k.2 ≤ most → (∀ n ∈ l, good n = true) → l.foldl addN k = nothing ∨ (good (l.foldl addN k) = true ∧ (l.foldl addN k).2 ≤ most ∧ (l.foldl addN k).2 = k.2 + total l)
  | [], k, hk, hm, _ => .inr ⟨hk, hm, by simp [total]⟩
  | n :: l, k, hk, hm, h => by
    have hn := h n (by simp)
    rw [List.foldl_cons]
    have e : addN k n = tell (k.2 + n.2) := by simp [addN, hk, hn]
    rw [e]
    by_cases hr : -most ≤ k.2 + n.2 ∧ k.2 + n.2 ≤ most
    · have e2 : tell (k.2 + n.2) = (false, k.2 + n.2) := by rw [tell, if_pos hr]
      rw [e2]
      rcases fold_add l (false, k.2 + n.2) (good_iff.2 ⟨rfl, hr.1⟩) hr.2 (fun m hm => h m (by simp [hm])) with h1 | ⟨h1, h2, h3⟩
      · exact .inl h1
      · refine .inr ⟨h1, h2, ?_⟩
        rw [h3]
        simp [total]; omega
    · have e2 : tell (k.2 + n.2) = nothing := by rw [tell, if_neg hr]
      rw [e2, fold_nothing]; exact .inl rfl
theorem total_ge {m : Int} : ∀ (l : List N), (∀ n ∈ l, m ≤ n.2) → m * l.length ≤ total l
  | [], _ => by simp [total]
  | n :: l, h => by
    have ih := total_ge l fun x hx => h x (by simp [hx])
    have hn := h n (by simp)
    have e : total (n :: l) = n.2 + total l := by simp [total]
    rw [e, List.length_cons]
    have : m * ((l.length + 1 : Nat) : Int) = m * l.length + m := by rw [Int.natCast_add, Int.mul_add]; simp
    rw [this]; omega
theorem total_le {m : Int} : ∀ (l : List N), (∀ n ∈ l, n.2 ≤ m) → total l ≤ m * l.length
  | [], _ => by simp [total]
  | n :: l, h => by
    have ih := total_le l fun x hx => h x (by simp [hx])
    have hn := h n (by simp)
    have e : total (n :: l) = n.2 + total l := by simp [total]
    rw [e, List.length_cons]
    have : m * ((l.length + 1 : Nat) : Int) = m * l.length + m := by rw [Int.natCast_add, Int.mul_add]; simp
    rw [this]; omega
/-- A rounded average lies between. -/
theorem avg_between {S L H : Int} {n : Nat} (hn : 0 < n) (h1 : L * n ≤ S) (h2 : S ≤ H * n) : L ≤ sgn (decide (S < 0)) (rnd (S.natAbs * 1000000) (n * 1000000)) ∧ sgn (decide (S < 0)) (rnd (S.natAbs * 1000000) (n * 1000000)) ≤ H := by
  have hd : 0 < n * 1000000 := by omega
  by_cases hS : S < 0
  · have e : sgn (decide (S < 0)) (rnd (S.natAbs * 1000000) (n * 1000000)) = -((rnd (S.natAbs * 1000000) (n * 1000000) : Nat) : Int) := by simp [sgn, hS]
    rw [e]
    have hL : L < 0 := by
      rcases Int.lt_or_le L 0 with h | h
      · exact h
      · have := Int.mul_nonneg h (Int.natCast_nonneg n); omega
    constructor
    · have : rnd (S.natAbs * 1000000) (n * 1000000) ≤ L.natAbs := by
        refine rnd_le hd ?_
        have h3 : S.natAbs ≤ L.natAbs * n := by
          have : ((L.natAbs * n : Nat) : Int) = -(L * n) := by rw [Int.natCast_mul, Int.ofNat_natAbs_of_nonpos (by omega), Int.neg_mul]
          omega
        rw [← Nat.mul_assoc]; exact Nat.mul_le_mul_right _ h3
      omega
    · rcases Int.lt_or_le H 0 with hH | hH
      · have : H.natAbs ≤ rnd (S.natAbs * 1000000) (n * 1000000) := by
          refine le_rnd hd ?_
          have h3 : H.natAbs * n ≤ S.natAbs := by
            have : ((H.natAbs * n : Nat) : Int) = -(H * n) := by rw [Int.natCast_mul, Int.ofNat_natAbs_of_nonpos (by omega), Int.neg_mul]
            omega
          rw [← Nat.mul_assoc]; exact Nat.mul_le_mul_right _ h3
        omega
      · omega
  · have e : sgn (decide (S < 0)) (rnd (S.natAbs * 1000000) (n * 1000000)) = ((rnd (S.natAbs * 1000000) (n * 1000000) : Nat) : Int) := by simp [sgn, hS]
    rw [e]
    have hH : 0 ≤ H := by
      rcases Int.lt_or_le H 0 with h | h
      · have h3 : H * n ≤ -1 * n := Int.mul_le_mul_of_nonneg_right (by omega) (Int.natCast_nonneg n)
        omega
      · exact h
    constructor
    · rcases Int.lt_or_le L 0 with hL | hL
      · omega
      · have : L.natAbs ≤ rnd (S.natAbs * 1000000) (n * 1000000) := by
          refine le_rnd hd ?_
          have h3 : L.natAbs * n ≤ S.natAbs := by
            have : ((L.natAbs * n : Nat) : Int) = L * n := by rw [Int.natCast_mul, Int.natAbs_of_nonneg hL]
            omega
          rw [← Nat.mul_assoc]; exact Nat.mul_le_mul_right _ h3
        omega
    · have : rnd (S.natAbs * 1000000) (n * 1000000) ≤ H.natAbs := by
        refine rnd_le hd ?_
        have h3 : S.natAbs ≤ H.natAbs * n := by
          have : ((H.natAbs * n : Nat) : Int) = H * n := by rw [Int.natCast_mul, Int.natAbs_of_nonneg hH]
          omega
        rw [← Nat.mul_assoc]; exact Nat.mul_le_mul_right _ h3
      omega
theorem div_nothing (n : N) : divN nothing n = nothing := by
  unfold divN
  rw [nothing_bad]
  rfl
theorem div_len {s : N} {n : Nat} (hs : good s = true) (hn : 0 < n) (h2 : n ≤ 3000) : divN s (tell ((n : Int) * 1000000)) = tell (sgn (decide (s.2 < 0)) (rnd (s.2.natAbs * 1000000) (n * 1000000))) := by
  have hmost : most = 9223372036854775807 := rfl
  have e : tell ((n : Int) * 1000000) = (false, (n : Int) * 1000000) := by rw [tell, if_pos ⟨by omega, by omega⟩]
  rw [e]
  have hg : good (false, (n : Int) * 1000000) = true := good_iff.2 ⟨rfl, by simp only; omega⟩
  unfold divN
  rw [hs, hg]
  have h0 : decide ((n : Int) * 1000000 ≠ 0) = true := by simp; omega
  have hneg : decide ((n : Int) * 1000000 < 0) = false := by simp; omega
  have habs : ((n : Int) * 1000000).natAbs = n * 1000000 := by omega
  simp only [h0, hneg, habs, Bool.and_self, if_true]
  have : (decide (s.2 < 0) != false) = decide (s.2 < 0) := by cases decide (s.2 < 0) <;> rfl
  rw [this]
theorem between_plain (l : List N) (hl : l.length ≤ 3000) (hm : ∀ n ∈ l, n.2 ≤ most) :
    (reckon 1 l).1 = true ∨ ((reckon 3 l).1 = false ∧ (reckon 4 l).1 = false ∧ (reckon 3 l).2 ≤ (reckon 1 l).2 ∧ (reckon 1 l).2 ≤ (reckon 4 l).2) := by
  have hkg := known_good l
  have hkl : (known l).length ≤ l.length := List.length_filter_le _ _
  have hkm : ∀ n ∈ known l, n.2 ≤ most := fun n hn => hm n (List.mem_filter.1 hn).1
  unfold reckon
  generalize known l = K at *
  cases K with
  | nil => exact .inl rfl
  | cons k ks =>
    simp only
    have hk := hkg k (by simp)
    have hks : ∀ n ∈ ks, good n = true := fun n hn => hkg n (by simp [hn])
    obtain ⟨l1, l2, l3⟩ := fold_less ks k hk hks
    obtain ⟨m1, m2, m3⟩ := fold_more ks k hk hks
    have r1 : reckonK 1 k ks = divN (ks.foldl addN k) (tell (((k :: ks).length : Int) * 1000000)) := by simp [reckonK]
    have r3 : reckonK 3 k ks = ks.foldl lessN k := by simp [reckonK]
    have r4 : reckonK 4 k ks = ks.foldl moreN k := by simp [reckonK]
    rw [r1, r3, r4]
    rcases fold_add ks k hk (hkm k (by simp)) hks with hS | ⟨s1, s2, s3⟩
    · rw [hS]
      rw [div_nothing]
      exact .inl rfl
    · rw [div_len s1 (by simp) (by omega)]
      generalize hX : sgn (decide ((ks.foldl addN k).2 < 0)) (rnd ((ks.foldl addN k).2.natAbs * 1000000) ((k :: ks).length * 1000000)) = X
      by_cases hr : -most ≤ X ∧ X ≤ most
      · rw [tell, if_pos hr]
        have hlo : (ks.foldl lessN k).2 * ((k :: ks).length : Int) ≤ (ks.foldl addN k).2 := by
          have := total_ge (m := (ks.foldl lessN k).2) (k :: ks) (fun n hn => by
            rcases List.mem_cons.1 hn with rfl | hn
            · exact l2
            · exact l3 n hn)
          have e : total (k :: ks) = k.2 + total ks := by simp [total]
          rw [e] at this; rw [s3]; exact this
        have hhi : (ks.foldl addN k).2 ≤ (ks.foldl moreN k).2 * ((k :: ks).length : Int) := by
          have := total_le (m := (ks.foldl moreN k).2) (k :: ks) (fun n hn => by
            rcases List.mem_cons.1 hn with rfl | hn
            · exact m2
            · exact m3 n hn)
          have e : total (k :: ks) = k.2 + total ks := by simp [total]
          rw [e] at this; rw [s3]; exact this
        have := avg_between (n := (k :: ks).length) (by simp) hlo hhi
        rw [hX] at this
        exact .inr ⟨(good_iff.1 l1).1, (good_iff.1 m1).1, this.1, this.2⟩
      · rw [tell, if_neg hr]; exact .inl rfl
end Go.Num
end
section
set_option maxHeartbeats 1000000
namespace Go.Num
open Go.Abs
def numA (n : N) : AV := .agg [.bool n.1, .int .i64 n.2]
/-- A number of 128 bits. -/
def wA (n : Nat) : AV := .agg [.int .u64 ((n / 18446744073709551616 : Nat) : Int), .int .u64 ((n % 18446744073709551616 : Nat) : Int)]
def okN (n : N) : Prop := -9223372036854775808 ≤ n.2 ∧ n.2 ≤ 9223372036854775807
theorem wrap_u (x : Int) : IntKind.u64.wrap x = x % 18446744073709551616 := by simp [IntKind.wrap, IntKind.signed, IntKind.bits]
theorem wrap_i {x : Int} (h1 : -9223372036854775808 ≤ x) (h2 : x ≤ 9223372036854775807) : IntKind.i64.wrap x = x := wrap_i64 h1 h2
theorem ok_tell (s : Int) : okN (tell s) := by
  unfold tell okN
  split
  · rename_i h; simp only [most] at h; simp only; omega
  · simp [nothing]
theorem ok_nothing : okN nothing := by simp [okN, nothing]
theorem ok_add (a b : N) : okN (addN a b) := by
  unfold addN; split
  · exact ok_tell _
  · exact ok_nothing
theorem ok_less {a b : N} (ha : okN a) (hb : okN b) : okN (lessN a b) := by
  unfold lessN; repeat' split
  all_goals first | exact ha | exact hb | exact ok_nothing
theorem ok_more {a b : N} (ha : okN a) (hb : okN b) : okN (moreN a b) := by
  unfold moreN; repeat' split
  all_goals first | exact ha | exact hb | exact ok_nothing
theorem ok_div (a b : N) : okN (divN a b) := by
  unfold divN; split
  · exact ok_tell _
  · exact ok_nothing
theorem and_mask (a : Nat) (h : a < 18446744073709551616) : bitOp .and .u64 (a : Int) 4294967295 = some ((a % 4294967296 : Nat) : Int) := by
  have e : (BitVec.ofInt 64 (a : Int) &&& BitVec.ofInt 64 4294967295).toNat = a % 4294967296 := by
    rw [BitVec.toNat_and, u64_of a h, show (BitVec.ofInt 64 4294967295).toNat = 2 ^ 32 - 1 by decide, Nat.and_two_pow_sub_one_eq_mod]
  show some (IntKind.u64.wrap ((BitVec.ofInt 64 (a : Int) &&& BitVec.ofInt 64 4294967295).toNat : Int)) = _
  rw [e, u64_wrap _ (by omega)]
theorem norm_or {hi lo y s : Nat} (hhi : hi < y) (hy : y * 2 ^ s < 18446744073709551616) (hs : s ≤ 63) (hlo : lo < 18446744073709551616) : (hi * 2 ^ s % 18446744073709551616 ||| lo / 2 ^ (64 - s)) = hi * 2 ^ s + lo / 2 ^ (64 - s) := by
  have h1 : hi * 2 ^ s < 18446744073709551616 := Nat.lt_of_le_of_lt (Nat.mul_le_mul_right _ (Nat.le_of_lt hhi)) hy
  rw [Nat.mod_eq_of_lt h1]
  have h2 : lo / 2 ^ (64 - s) < 2 ^ s := by
    rw [Nat.div_lt_iff_lt_mul (Nat.two_pow_pos _), ← Nat.pow_add, show s + (64 - s) = 64 by omega]; exact hlo
  have := Nat.two_pow_add_eq_or_of_lt h2 hi
  rw [Nat.mul_comm (2 ^ s) hi] at this
  exact this.symm
theorem bitLen_norm {y : Nat} (h0 : 0 < y) (h : y < 18446744073709551616) : ∃ s : Nat, s ≤ 63 ∧ Lib.bitLen y = 64 - s ∧ 9223372036854775808 ≤ y * 2 ^ s ∧ y * 2 ^ s < 18446744073709551616 := by
  obtain ⟨h1, h2, h3⟩ := Lib.bitLenAux_bounds 64 y (by simpa using h) (by omega)
  have h4 : Lib.bitLen y ≤ 64 := Lib.bitLen_le y 64 (by decide) (by simpa using h)
  change 1 ≤ Lib.bitLen y at h1
  change 2 ^ (Lib.bitLen y - 1) ≤ y at h2
  change y < 2 ^ Lib.bitLen y at h3
  refine ⟨64 - Lib.bitLen y, by omega, by omega, ?_, ?_⟩
  · have e : 2 ^ (Lib.bitLen y - 1) * 2 ^ (64 - Lib.bitLen y) = 9223372036854775808 := by
      rw [← Nat.pow_add, show Lib.bitLen y - 1 + (64 - Lib.bitLen y) = 63 by omega]
    rw [← e]; exact Nat.mul_le_mul_right _ h2
  · have e : 2 ^ Lib.bitLen y * 2 ^ (64 - Lib.bitLen y) = 18446744073709551616 := by
      rw [← Nat.pow_add, show Lib.bitLen y + (64 - Lib.bitLen y) = 64 by omega]
    rw [← e]; exact Nat.mul_lt_mul_of_pos_right h3 (Nat.two_pow_pos _)
end Go.Num
namespace Go.Proofs.YtdgpnmlialmaaaaGreatDoor
open Go.Abs Go.Num
variable {G : Globs}
theorem there_ok (n : N) : PCalls Tryz.prog n_fixed_there [numA n] (fun r => r = .bool (good n)) := by
  refine pcalls_of_awp hmix c_fixed_there rfl ?_
  obtain ⟨b, v⟩ := n
  cases b <;> simp [a_fixed_there, numA, good, most]
theorem fRight_ok (n : N) : PCalls Tryz.prog n_fixed_Right [numA n] (fun r => r = .bool (rightN n)) := by
  refine pcalls_of_awp hmix c_fixed_Right rfl ?_
  obtain ⟨b, v⟩ := n
  cases b <;> simp [a_fixed_Right, numA, rightN, most]
theorem nothing_ok : PCalls Tryz.prog n_fixed_nothing [] (fun r => r = numA nothing) := by
  refine pcalls_of_awp hmix c_fixed_nothing rfl ?_
  simp [a_fixed_nothing, numA, nothing]
theorem size_ok (n : N) (h : -9223372036854775807 ≤ n.2) (h2 : n.2 ≤ 9223372036854775807) : PCalls Tryz.prog n_fixed_size [numA n] (fun r => r = .tup [.int .u64 n.2.natAbs, .bool (decide (n.2 < 0))]) := by
  refine pcalls_of_awp hmix c_fixed_size rfl ?_
  obtain ⟨b, v⟩ := n
  simp only at h h2
  simp [a_fixed_size, numA]
  refine cb_dec (fun hlt => ?_) (fun hge => ?_)
  · have hw : IntKind.i64.wrap (-v) = -v := wrap_i (by omega) (by omega)
    have hw2 : IntKind.u64.wrap (-v) = -v := by rw [wrap_u]; omega
    simp [hw, hw2, hlt]
    omega
  · have hw2 : IntKind.u64.wrap v = v := by rw [wrap_u]; omega
    have hn : ¬ v < 0 := by omega
    simp [hw2, hn]
    omega
theorem told_ok (n : Nat) (hn : n < 18446744073709551616) (b : Bool) : PCalls Tryz.prog n_fixed_told [.int .u64 n, .bool b] (fun r => r = numA (tell (sgn b n))) := by
  refine pcalls_of_awp hmix c_fixed_told rfl ?_
  simp [a_fixed_told]
  refine cb_dec (fun hlt => ?_) (fun hge => ?_)
  · simp
    refine ac_same nothing_ok (by simp) ?_
    rintro r rfl
    have : tell (sgn b n) = nothing := by
      unfold tell sgn most
      cases b <;> simp <;> omega
    simp [this, numA]
  · have hw : IntKind.i64.wrap (n : Int) = n := wrap_i (by omega) (by omega)
    have hw2 : IntKind.i64.wrap (-(n : Int)) = -n := wrap_i (by omega) (by omega)
    cases b
    · have : tell (sgn false n) = (false, (n : Int)) := by
        unfold tell sgn most; simp; omega
      simp [hw, this, numA]
    · have : tell (sgn true n) = (false, -(n : Int)) := by
        unfold tell sgn most; simp; omega
      simp [hw, hw2, this, numA]
theorem fInt_ok (n : Int) (h0 : -9223372036854775808 ≤ n) (h1 : n ≤ 9223372036854775807) : PCalls Tryz.prog n_fixed_Int [.int .i64 n] (fun r => r = numA (tell (n * 1000000))) := by
  refine pcalls_of_awp hmix c_fixed_Int rfl ?_
  by_cases hc : 9223372036854 < n ∨ n < -9223372036854
  · have ht : tell (n * 1000000) = nothing := by unfold tell most; rw [if_neg]; omega
    have e : (decide (9223372036854 < n) || decide (n < -9223372036854)) = true := by simpa using hc
    rcases Decidable.em (9223372036854 < n) with h | h
    · simp [a_fixed_Int, h]
      refine ac_same nothing_ok (by simp) ?_
      rintro r rfl
      simp [ht, numA]
    · have h' : n < -9223372036854 := by omega
      simp [a_fixed_Int, h, h']
      refine ac_same nothing_ok (by simp) ?_
      rintro r rfl
      simp [ht, numA]
  · have a1 : ¬ 9223372036854 < n := by omega
    have a2 : ¬ n < -9223372036854 := by omega
    have ht : tell (n * 1000000) = (false, n * 1000000) := by unfold tell most; rw [if_pos]; omega
    have hw : IntKind.i64.wrap (n * 1000000) = n * 1000000 := wrap_i (by omega) (by omega)
    simp [a_fixed_Int, a1, a2, hw, ht, numA]
theorem fAdd_ok (a b : N) (ha : okN a) (hb : okN b) : PCalls Tryz.prog n_fixed_Add [numA a, numA b] (fun r => r = numA (addN a b)) := by
  refine pcalls_of_awp hmix c_fixed_Add rfl ?_
  obtain ⟨a1, a2⟩ := ha
  obtain ⟨b1, b2⟩ := hb
  simp [a_fixed_Add, numA]
  refine ac_same (there_ok a) (by simp [numA]) ?_
  rintro r rfl
  by_cases hga : good a = true
  · simp [hga]
    refine ac_same (there_ok b) (by simp [numA]) ?_
    rintro r rfl
    by_cases hgb : good b = true
    · obtain ⟨x, v⟩ := a
      obtain ⟨y, u⟩ := b
      simp only at a1 a2 b1 b2
      obtain ⟨hx, hv⟩ := good_iff.1 hga
      obtain ⟨hy, hu⟩ := good_iff.1 hgb
      simp only [most] at hx hv hy hu
      subst hx hy
      have e : addN (false, v) (false, u) = tell (v + u) := by simp [addN, hga, hgb]
      rw [e]
      simp [hgb]
      by_cases hu0 : 0 < u
      · have hw : IntKind.i64.wrap (9223372036854775807 - u) = 9223372036854775807 - u := wrap_i (by omega) (by omega)
        have hu1 : ¬ u < 0 := by omega
        by_cases hov : 9223372036854775807 - u < v
        · have ht : tell (v + u) = nothing := by unfold tell most; rw [if_neg]; omega
          simp [hu0, hw, hov, ht]
          refine ac_same nothing_ok (by simp) ?_
          rintro r rfl
          simp [numA, ht]
        · have ht : tell (v + u) = (false, v + u) := by unfold tell most; rw [if_pos]; omega
          have hw2 : IntKind.i64.wrap (v + u) = v + u := wrap_i (by omega) (by omega)
          simp [hu0, hu1, hw, hov, ht, hw2]
      · by_cases hu1 : u < 0
        · have hw : IntKind.i64.wrap (-9223372036854775807 - u) = -9223372036854775807 - u := wrap_i (by omega) (by omega)
          by_cases hov : v < -9223372036854775807 - u
          · have ht : tell (v + u) = nothing := by unfold tell most; rw [if_neg]; omega
            simp [hu0, hu1, hw, hov, ht]
            refine ac_same nothing_ok (by simp) ?_
            rintro r rfl
            simp [numA, ht]
          · have ht : tell (v + u) = (false, v + u) := by unfold tell most; rw [if_pos]; omega
            have hw2 : IntKind.i64.wrap (v + u) = v + u := wrap_i (by omega) (by omega)
            simp [hu0, hu1, hw, hov, ht, hw2]
        · have ht : tell (v + u) = (false, v + u) := by unfold tell most; rw [if_pos]; omega
          have hw2 : IntKind.i64.wrap (v + u) = v + u := wrap_i (by omega) (by omega)
          simp [hu0, hu1, ht, hw2]
    · have hgb' : good b = false := by simpa using hgb
      simp [hgb']
      refine ac_same nothing_ok (by simp) ?_
      rintro r rfl
      simp [addN, hga, hgb', numA]
  · have hga' : good a = false := by simpa using hga
    simp [hga']
    refine ac_same nothing_ok (by simp) ?_
    rintro r rfl
    simp [addN, hga', numA]
theorem pick_ok (a b : N) (first : Bool) : PCalls Tryz.prog n_fixed_pick [numA a, numA b, .bool first] (fun r => r = numA (if good a then (if good b then (if first then a else b) else a) else if good b then b else nothing)) := by
  refine pcalls_of_awp hmix c_fixed_pick rfl ?_
  simp [a_fixed_pick, numA]
  refine qc_same (there_ok a) (by simp [numA]) (by simp) ?_
  simp
  refine qc_same (there_ok b) (by simp [numA]) (by simp) ?_
  cases hga : good a <;> cases hgb : good b
  · simp
    refine ac_same nothing_ok (by simp) ?_
    rintro r rfl
    simp [numA]
  · simp
  · simp
  · cases first <;> simp
theorem fLess_ok (a b : N) : PCalls Tryz.prog n_fixed_Less [numA a, numA b] (fun r => r = numA (lessN a b)) := by
  refine pcalls_of_awp hmix c_fixed_Less rfl ?_
  simp [a_fixed_Less, numA]
  refine ac_same (pick_ok a b (decide (a.2 ≤ b.2))) (by simp [numA]) ?_
  rintro r rfl
  simp [numA, lessN]
theorem fMore_ok (a b : N) : PCalls Tryz.prog n_fixed_More [numA a, numA b] (fun r => r = numA (moreN a b)) := by
  refine pcalls_of_awp hmix c_fixed_More rfl ?_
  simp [a_fixed_More, numA]
  refine ac_same (pick_ok a b (decide (b.2 ≤ a.2))) (by simp [numA]) ?_
  rintro r rfl
  simp [numA, moreN]
theorem mul64_ok (x y : Nat) (hx : x < 18446744073709551616) (hy : y < 18446744073709551616) : PCalls Tryz.prog 112 [.int .u64 x, .int .u64 y] (fun r => r = .tup [.int .u64 ((x * y / 18446744073709551616 : Nat) : Int), .int .u64 ((x * y % 18446744073709551616 : Nat) : Int)]) :=
  pcalls2 fun base κ Im w v u hs e1 e2 => by
    cases e1.int_inv; cases e2.int_inv
    refine (Tryz.bits_Mul64 x y hx hy w).mono ?_
    rintro e w' ⟨rfl, rfl⟩
    exact ⟨_, _, rfl, rfl, Go.RowKit.Below.refl _ _, fun Im' => .tup _ [_, _] rfl fun j hj hj' => by
      match j, hj with
      | 0, _ => exact .int _ _
      | 1, _ => exact .int _ _⟩
theorem wMul_ok (x y : Nat) (hx : x < 18446744073709551616) (hy : y < 18446744073709551616) : PCalls Tryz.prog n_wide_Mul [.int .u64 x, .int .u64 y] (fun r => r = wA (x * y)) := by
  refine pcalls_of_awp hmix c_wide_Mul rfl ?_
  simp [a_wide_Mul]
  refine ac_same (mul64_ok x y hx hy) (by simp) ?_
  rintro r rfl
  simp [wA]
end Go.Proofs.YtdgpnmlialmaaaaGreatDoor
end
section
set_option maxHeartbeats 4000000
namespace Go.Proofs.YtdgpnmlialmaaaaGreatDoor
open Go.Abs Go.Num
variable {G : Globs}
theorem lead_ok (y s : Nat) (hy : y < 18446744073709551616) (hs : s ≤ 63) (hb : Lib.bitLen y = 64 - s) : PCalls Tryz.prog 139 [.int .u64 y] (fun r => r = .int .i64 s) :=
  pcalls1 fun base κ Im w v hh e1 => by
    cases e1.int_inv
    refine (Tryz.bits_LeadingZeros64 y w (by omega) (by omega)).mono ?_
    rintro e w' ⟨rfl, rfl⟩
    refine ⟨_, _, rfl, rfl, Go.RowKit.Below.refl _ _, fun Im' => ?_⟩
    have e : (64 - (Lib.bitLen (y : Int).toNat : Int)) = s := by rw [Int.toNat_natCast, hb]; omega
    rw [e]
    exact .int _ _
theorem u_div (n a : Nat) (hn : n < 18446744073709551616) : IntKind.u64.wrap ((n : Int) / a) = ((n / a : Nat) : Int) := by
  have h2 : n / a ≤ n := Nat.div_le_self _ _
  have h3 : ((n / a : Nat) : Int) = (n : Int) / a := Int.natCast_ediv n a
  rw [wrap_u, ← h3]
  generalize n / a = k at *
  omega
theorem u_mod (n a : Nat) : (n : Int) % a = ((n % a : Nat) : Int) := (Int.natCast_emod n a).symm
/-- One digit: the guess, and a step. -/
theorem dg_lt {u a q r v B b Y : Nat} (hB : B = 4294967296) (ha : a < B) (hq : q ≤ B + 1) (hr : r < B) (hv : v < B) (hb : b < B) (hqa : q * a + r = u) (huM : u < 18446744073709551616) : (q : Int) * a % 18446744073709551616 = q * a ∧ (B : Int) * r % 18446744073709551616 = B * r ∧ ((B : Int) * r + v) % 18446744073709551616 = B * r + v := by
  have h1 : ((q * a : Nat) : Int) = (q : Int) * a := by push_cast; rfl
  have h2 : ((B * r : Nat) : Int) = (B : Int) * r := by push_cast; rfl
  have h3 : B * r ≤ B * (B - 1) := Nat.mul_le_mul_left B (by omega)
  subst hB
  rw [← h1, ← h2]
  omega
theorem div64_ok (hi lo y : Nat) (hhi : hi < y) (hyM : y < 18446744073709551616) (hlo : lo < 18446744073709551616) :
    PCalls Tryz.prog n_math_bits_Div64 [.int .u64 hi, .int .u64 lo, .int .u64 y] (fun r => r = .tup [.int .u64 (((hi * 18446744073709551616 + lo) / y : Nat) : Int), .int .u64 (((hi * 18446744073709551616 + lo) % y : Nat) : Int)]) := by
  obtain ⟨Q, hQ⟩ : ∃ Q, Q = (hi * 18446744073709551616 + lo) / y := ⟨_, rfl⟩
  obtain ⟨R, hR⟩ : ∃ R, R = (hi * 18446744073709551616 + lo) % y := ⟨_, rfl⟩
  rw [← hQ, ← hR]
  refine pcalls_of_awp hmix c_math_bits_Div64 rfl ?_
  have hy0 : ¬ (y : Int) = 0 := by omega
  have hy0n : ¬ y = 0 := by omega
  have hyh : ¬ (y : Int) ≤ hi := by omega
  have hyh2 : ¬ y ≤ hi := by omega
  by_cases h0 : hi = 0
  · subst h0
    have e1 : IntKind.u64.wrap ((lo : Int) / y) = Q := by rw [u_div lo y hlo, hQ, Nat.zero_mul, Nat.zero_add]
    have e2 : (lo : Int).tmod y = R := by rw [Int.tmod_eq_emod_of_nonneg (by omega), u_mod, hR, Nat.zero_mul, Nat.zero_add]
    simp [a_math_bits_Div64, hy0, hy0n, hyh, hyh2, e1, e2]
  have h0' : ¬ (hi : Int) = 0 := by omega
  obtain ⟨s, hs, hbl, hY1, hY2⟩ := bitLen_norm (y := y) (by omega) hyM
  obtain ⟨Y, hYd⟩ : ∃ Y, Y = y * 2 ^ s := ⟨_, rfl⟩
  obtain ⟨B, hB⟩ : ∃ B : Nat, B = 4294967296 := ⟨_, rfl⟩
  rw [← hYd] at hY1 hY2
  have hsw : IntKind.u64.wrap (s : Int) = s := by rw [wrap_u]; omega
  have s2 : shiftOp .shl .u64 (y : Int) s = some (Y : Int) := by rw [shl_nat y s (by omega), hYd, Nat.mod_eq_of_lt (by rw [← hYd]; exact hY2)]
  obtain ⟨a, ha⟩ : ∃ a, a = Y / 4294967296 := ⟨_, rfl⟩
  obtain ⟨b, hb⟩ : ∃ b, b = Y % 4294967296 := ⟨_, rfl⟩
  have s9 : shiftOp .shr .u64 (Y : Int) 32 = some (a : Int) := by rw [shr_nat Y 32 hY2 (by decide), ha]
  have s10 : bitOp .and .u64 (Y : Int) 4294967295 = some (b : Int) := by rw [and_mask Y hY2, hb]
  obtain ⟨uh, huh⟩ : ∃ uh, uh = hi * 2 ^ s % 18446744073709551616 := ⟨_, rfl⟩
  obtain ⟨ul, hul⟩ : ∃ ul, ul = lo / 2 ^ (64 - s) := ⟨_, rfl⟩
  obtain ⟨u, hu⟩ : ∃ u, u = hi * 2 ^ s + lo / 2 ^ (64 - s) := ⟨_, rfl⟩
  have hor := norm_or (lo := lo) hhi (by rw [← hYd]; exact hY2) hs hlo
  rw [← huh, ← hul] at hor
  have huY : u < Y := by
    rw [hu, hYd]
    have h1 : lo / 2 ^ (64 - s) < 2 ^ s := by
      rw [Nat.div_lt_iff_lt_mul (Nat.two_pow_pos _), ← Nat.pow_add, show s + (64 - s) = 64 by omega]; exact hlo
    have h2 : (hi + 1) * 2 ^ s ≤ y * 2 ^ s := Nat.mul_le_mul_right _ hhi
    rw [Nat.add_mul] at h2; omega
  have hulM : ul < 18446744073709551616 := by rw [hul]; exact Nat.lt_of_le_of_lt (Nat.div_le_self _ _) hlo
  have huhM : uh < 18446744073709551616 := by rw [huh]; exact Nat.mod_lt _ (by decide)
  have s46 : shiftOp .shl .u64 (hi : Int) s = some (uh : Int) := by rw [shl_nat hi s (by omega), huh]
  have s49 : IntKind.u64.wrap (64 - (s : Int)) = ((64 - s : Nat) : Int) := by rw [wrap_u]; omega
  have s50 : shiftOp .shr .u64 (lo : Int) (64 - s) = some (ul : Int) := by rw [shr_nat lo (64 - s) hlo (by omega), hul]
  have s51 : bitOp .or .u64 (uh : Int) (ul : Int) = some (u : Int) := by rw [or_nat uh ul huhM hulM, hor, hul, hu]
  obtain ⟨u10, hu10⟩ : ∃ u10, u10 = lo * 2 ^ s % 18446744073709551616 := ⟨_, rfl⟩
  have hu10M : u10 < 18446744073709551616 := by rw [hu10]; exact Nat.mod_lt _ (by decide)
  have s54 : shiftOp .shl .u64 (lo : Int) s = some (u10 : Int) := by rw [shl_nat lo s (by omega), hu10]
  obtain ⟨u1, hu1⟩ : ∃ u1, u1 = u10 / 4294967296 := ⟨_, rfl⟩
  obtain ⟨u0, hu0⟩ : ∃ u0, u0 = u10 % 4294967296 := ⟨_, rfl⟩
  have s56 : shiftOp .shr .u64 (u10 : Int) 32 = some (u1 : Int) := by rw [shr_nat u10 32 hu10M (by decide), hu1]
  have s58 : bitOp .and .u64 (u10 : Int) 4294967295 = some (u0 : Int) := by rw [and_mask u10 hu10M, hu0]
  have haB : a < B := by omega
  have hbB : b < B := by omega
  have hu1B : u1 < B := by omega
  have hu0B : u0 < B := by omega
  have ha2 : B ≤ 2 * a := by omega
  have hYab : a * B + b = Y := by rw [ha, hb, hB]; omega
  have ha0 : 0 < a := by omega
  have ha0' : ¬ (a : Int) = 0 := by omega
  have ha0n : ¬ a = 0 := by omega
  have hY0 : 0 < a * B + b := by omega
  -- a digit's first guess
  have guess : ∀ n : Nat, n < Y → ∃ q r : Nat, IntKind.u64.wrap ((n : Int) / a) = q ∧ IntKind.u64.wrap ((n : Int) - IntKind.u64.wrap ((q : Int) * a)) = r ∧ q * a + r = n ∧ r < B ∧ q ≤ B + 1 ∧ n / a ≤ q := by
    intro n hn
    refine ⟨n / a, n % a, ?_, ?_, ?_, ?_, ?_, Nat.le_refl _⟩
    · exact u_div n a (by omega)
    · have e : ((n / a * a : Nat) : Int) = ((n / a : Nat) : Int) * a := by push_cast; rfl
      rw [wrap_u, wrap_u, ← e]
      have := Nat.div_add_mod n a
      rw [Nat.mul_comm] at this
      omega
    · rw [Nat.mul_comm]; exact Nat.div_add_mod n a
    · have := Nat.mod_lt n ha0; omega
    · exact kn_first (b := b) ha2 hbB (by rw [hYab]; exact hn)
  simp [a_math_bits_Div64, hy0, hy0n, hyh, hyh2, h0, h0']
  refine ac_same (lead_ok y s hyM hs hbl) (by simp) ?_
  rintro r rfl
  obtain ⟨q0, r0, g1, g2, g3, g4, g5, g6⟩ := guess u huY
  have hg0 := Nat.le_trans (kn_guess (b := b) (u := u) (v := u1) ha0 hu1B) g6
  simp [-shiftOp, -bitOp, hsw, s2, s9, s10, s46, s49, s50, s51, s54, s56, s58, ha0, ha0', ha0n, g1, g2, Int.toNat_natCast]
  -- the first digit
  refine lp_join 0 (fun f σ => ∃ q : Nat, f 15 = .int .u64 q ∧ q = (u * B + u1) / Y ∧ f 2 = .int .u64 Y ∧ f 8 = .int .u64 s ∧ f 9 = .int .u64 a ∧ f 10 = .int .u64 b ∧ f 11 = .int .u64 u ∧ f 13 = .int .u64 u1 ∧ f 14 = .int .u64 u0 ∧ σ = []) ?_ ?_
  · rintro f σ ⟨q1, f15, hq1, f2, f8, f9, f10, f11, f13, f14, rfl⟩
    obtain ⟨u21, hu21d⟩ : ∃ u21, u21 = (u * B + u1) % Y := ⟨_, rfl⟩
    have hYpos : 0 < Y := by omega
    have hu21 : u21 < Y := by rw [hu21d]; exact Nat.mod_lt _ hYpos
    have hdm := Nat.div_add_mod (u * B + u1) Y
    rw [← hq1, ← hu21d] at hdm
    obtain ⟨p1, hp1⟩ : ∃ p1, p1 = Y * q1 := ⟨_, rfl⟩
    have hp1i : (q1 : Int) * Y = p1 := by rw [hp1, Nat.mul_comm]; push_cast; rfl
    have e17 : IntKind.u64.wrap (IntKind.u64.wrap (IntKind.u64.wrap ((u : Int) * 4294967296) + u1) - IntKind.u64.wrap ((q1 : Int) * Y)) = u21 := by
      rw [hp1i]
      simp only [wrap_u]
      rw [← hp1] at hdm
      subst hB
      omega
    obtain ⟨q2, r2, e1, e2, e3, e4, e5, e6⟩ := guess u21 hu21
    have hg2 := Nat.le_trans (kn_guess (b := b) (u := u21) (v := u0) ha0 hu0B) e6
    simp [-shiftOp, -bitOp, f2, f8, f9, f10, f11, f13, f14, f15, e17, ha0', ha0n, e1, e2]
    refine lp_join 2 (fun f σ => ∃ q : Nat, f 18 = .int .u64 q ∧ q = (u21 * B + u0) / Y ∧ f 2 = .int .u64 Y ∧ f 8 = .int .u64 s ∧ f 10 = .int .u64 b ∧ f 14 = .int .u64 u0 ∧ f 9 = .int .u64 a ∧ f 15 = .int .u64 q1 ∧ f 17 = .int .u64 u21 ∧ σ = []) ?_ ?_
    · clear f2 f8 f9 f10 f11 f13 f14 f15
      rintro f σ ⟨q3, f18, hq3, f2, f8, f10, f14, f9, f15, f17, rfl⟩
      obtain ⟨j1, j2⟩ := div64_join (hi := hi) (lo := lo) (y := y) (M := 18446744073709551616) (B := B) (P := 2 ^ s) (R := 2 ^ (64 - s)) (by rw [← Nat.pow_add, show 64 - s + s = 64 by omega]) (by rw [hB]) (Nat.two_pow_pos _) (by omega) (u32 := u) (u10 := u10) (h := u * B + u1) (q1 := q1) (u21 := u21) (g := u21 * B + u0) hu hu10 (by rw [hu1, hB]) (by rw [hq1, hYd]) (by rw [hu21d, hYd]) (by rw [hu0, hB])
      rw [← hYd, ← hq3, ← hQ] at j1
      obtain ⟨gm, hgm⟩ : ∃ gm, gm = (u21 * B + u0) % Y := ⟨_, rfl⟩
      rw [← hYd, ← hgm, ← hR] at j2
      have hQM : Q < 18446744073709551616 := by
        rw [hQ, Nat.div_lt_iff_lt_mul (by omega)]
        have : (hi + 1) * 18446744073709551616 ≤ y * 18446744073709551616 := Nat.mul_le_mul_right _ hhi
        rw [Nat.mul_comm 18446744073709551616 y]; omega
      have k6 : IntKind.u64.wrap (IntKind.u64.wrap ((q1 : Int) * 4294967296) + q3) = Q := by
        simp only [wrap_u]
        subst hB
        omega
      have hgmY : gm < Y := by rw [hgm]; exact Nat.mod_lt _ hYpos
      have hdm2 := Nat.div_add_mod (u21 * B + u0) Y
      rw [← hq3, ← hgm] at hdm2
      obtain ⟨p3, hp3⟩ : ∃ p3, p3 = Y * q3 := ⟨_, rfl⟩
      have hp3i : (q3 : Int) * Y = p3 := by rw [hp3, Nat.mul_comm]; push_cast; rfl
      have k132 : IntKind.u64.wrap (IntKind.u64.wrap (IntKind.u64.wrap ((u21 : Int) * 4294967296) + u0) - IntKind.u64.wrap ((q3 : Int) * Y)) = gm := by
        rw [hp3i]
        simp only [wrap_u]
        rw [← hp3] at hdm2
        subst hB
        omega
      have k134 : shiftOp .shr .u64 (gm : Int) s = some (R : Int) := by rw [shr_nat gm s (by omega) (by omega), j2]
      simp [-shiftOp, -bitOp, f2, f8, f9, f10, f14, f15, f17, f18, k6, k132, k134]
    · -- its loop
      refine lp_startx (fun x f σ => ∃ q r : Nat, x = q ∧ f 18 = .int .u64 q ∧ f 16 = .int .u64 r ∧ (u21 * B + u0) / Y ≤ q ∧ q * a + r = u21 ∧ r < B ∧ q ≤ B + 1 ∧ f 2 = .int .u64 Y ∧ f 8 = .int .u64 s ∧ f 10 = .int .u64 b ∧ f 14 = .int .u64 u0 ∧ f 9 = .int .u64 a ∧ f 15 = .int .u64 q1 ∧ f 17 = .int .u64 u21 ∧ σ = []) q2 ?_ ?_
      · exact ⟨q2, r2, rfl, by simp, by simp, by rw [← hYab]; exact hg2, e3, e4, e5, by simp [f2], by simp [f8], by simp [f10], by simp [f14], by simp [f9], by simp [f15], by simp, rfl⟩
      rintro x f σ ⟨q, r, hxq, fq, fr, hle, hqr, hr, hqB, f2, f8, f10, f14, f9, f15, f17, rfl⟩
      obtain ⟨m1, m2, m3⟩ := dg_lt (Y := Y) hB haB hqB hr hu0B hbB hqr (by omega)
      rw [← hYab] at hle
      obtain ⟨r', hr'⟩ : ∃ r', r' = r + a := ⟨_, rfl⟩
      have hra : IntKind.u64.wrap ((r : Int) + a) = (r' : Int) := by rw [wrap_u]; omega
      have hmB : IntKind.u64.wrap (4294967296 * (r : Int)) = 4294967296 * r := by rw [wrap_u]; omega
      have hmBv : IntKind.u64.wrap (4294967296 * (r : Int) + u0) = 4294967296 * r + u0 := by rw [wrap_u]; omega
      have body : B ≤ q ∨ B * r + u0 < q * b → 1 ≤ q ∧ (u21 * B + u0) / (a * B + b) ≤ q - 1 ∧ (q - 1) * a + r' = u21 ∧ IntKind.u64.wrap ((q : Int) - 1) = ((q - 1 : Nat) : Int) := by
        intro h
        have hn := kn_next (v := u0) hY0 (by rw [hYab]; exact hu21) hu0B hqr h
        have h1q : 1 ≤ q := Nat.lt_of_le_of_lt (Nat.zero_le _) hn
        refine ⟨h1q, Nat.le_sub_one_of_lt hn, ?_, by rw [wrap_u]; omega⟩
        obtain ⟨k, rfl⟩ : ∃ k, q = k + 1 := ⟨q - 1, by omega⟩
        rw [Nat.add_mul] at hqr
        simp only [Nat.add_sub_cancel]; omega
      by_cases hqb : B ≤ q
      · obtain ⟨b1, b2, b3, b4⟩ := body (.inl hqb)
        have hqb' : (4294967296 : Int) ≤ q := by omega
        have hqb'' : 4294967296 ≤ q := by omega
        simp [fq, fr, f2, f8, f10, f14, f9, f15, f17, hqb', hqb'', b4, hra]
        refine cb_dec (fun h => ?_) (fun h => ?_)
        · simp
          refine jn_intro ⟨q - 1, by simp, ?_, by simp [f2], by simp [f8], by simp [f10], by simp [f14], by simp [f9], by simp [f15], by simp [f17], rfl⟩
          rw [← hYab]
          exact kn_break hY0 b2 b3 (by omega) (by omega) hbB
        · simp
          refine nx_intro (q - 1) (by omega) ⟨q - 1, r', rfl, by simp, by simp, by rw [← hYab]; exact b2, b3, by omega, by omega, by simp [f2], by simp [f8], by simp [f10], by simp [f14], by simp [f9], by simp [f15], by simp [f17], rfl⟩
      · have hqb' : ¬ (4294967296 : Int) ≤ q := by omega
        have hqb'' : ¬ 4294967296 ≤ q := by omega
        have hqbM : q * b < 18446744073709551616 := by
          have h1 : q * b ≤ (B - 1) * (B - 1) := Nat.mul_le_mul (by omega) (by omega)
          subst hB; omega
        obtain ⟨p, hp⟩ : ∃ p, p = q * b := ⟨_, rfl⟩
        have hpi : (q : Int) * b = p := by rw [hp]; push_cast; rfl
        have hwp : IntKind.u64.wrap ((q : Int) * b) = p := by rw [hpi, wrap_u]; omega
        simp [fq, fr, f2, f8, f10, f14, f9, f15, f17, hqb', hqb'', hwp, hmB, hmBv]
        refine cb_dec (fun h => ?_) (fun h => ?_)
        · have h' : B * r + u0 < q * b := by rw [← hp, hB]; omega
          obtain ⟨b1, b2, b3, b4⟩ := body (.inr h')
          simp [fq, fr, f2, f8, f10, f14, f9, f15, f17, b4, hra]
          refine cb_dec (fun h => ?_) (fun h => ?_)
          · simp
            refine jn_intro ⟨q - 1, by simp, ?_, by simp [f2], by simp [f8], by simp [f10], by simp [f14], by simp [f9], by simp [f15], by simp [f17], rfl⟩
            rw [← hYab]
            exact kn_break hY0 b2 b3 (by omega) (by omega) hbB
          · simp
            refine nx_intro (q - 1) (by omega) ⟨q - 1, r', rfl, by simp, by simp, by rw [← hYab]; exact b2, b3, by omega, by omega, by simp [f2], by simp [f8], by simp [f10], by simp [f14], by simp [f9], by simp [f15], by simp [f17], rfl⟩
        · simp
          refine jn_intro ⟨q, by simp [fq], ?_, by simp [f2], by simp [f8], by simp [f10], by simp [f14], by simp [f9], by simp [f15], by simp [f17], rfl⟩
          rw [← hYab]
          exact kn_exit hY0 hle hqr (by rw [← hp, hB]; omega)
  · -- its loop
    refine lp_startx (fun x f σ => ∃ q r : Nat, x = q ∧ f 15 = .int .u64 q ∧ f 16 = .int .u64 r ∧ (u * B + u1) / Y ≤ q ∧ q * a + r = u ∧ r < B ∧ q ≤ B + 1 ∧ f 2 = .int .u64 Y ∧ f 8 = .int .u64 s ∧ f 9 = .int .u64 a ∧ f 10 = .int .u64 b ∧ f 11 = .int .u64 u ∧ f 13 = .int .u64 u1 ∧ f 14 = .int .u64 u0 ∧ σ = []) q0 ?_ ?_
    · exact ⟨q0, r0, rfl, by simp, by simp, by rw [← hYab]; exact hg0, g3, g4, g5, by simp [hsw], by simp [hsw], by simp [hsw], by simp [hsw], by simp [hsw], by simp [hsw], by simp [hsw], rfl⟩
    rintro x f σ ⟨q, r, hxq, fq, fr, hle, hqr, hr, hqB, f2, f8, f9, f10, f11, f13, f14, rfl⟩
    obtain ⟨m1, m2, m3⟩ := dg_lt (Y := Y) hB haB hqB hr hu1B hbB hqr (by omega)
    rw [← hYab] at hle
    obtain ⟨r', hr'⟩ : ∃ r', r' = r + a := ⟨_, rfl⟩
    have hra : IntKind.u64.wrap ((r : Int) + a) = (r' : Int) := by rw [wrap_u]; omega
    have hmB : IntKind.u64.wrap (4294967296 * (r : Int)) = 4294967296 * r := by rw [wrap_u]; omega
    have hmBv : IntKind.u64.wrap (4294967296 * (r : Int) + u1) = 4294967296 * r + u1 := by rw [wrap_u]; omega
    have body : B ≤ q ∨ B * r + u1 < q * b → 1 ≤ q ∧ (u * B + u1) / (a * B + b) ≤ q - 1 ∧ (q - 1) * a + r' = u ∧ IntKind.u64.wrap ((q : Int) - 1) = ((q - 1 : Nat) : Int) := by
      intro h
      have hn := kn_next (v := u1) hY0 (by rw [hYab]; exact huY) hu1B hqr h
      have h1q : 1 ≤ q := Nat.lt_of_le_of_lt (Nat.zero_le _) hn
      refine ⟨h1q, Nat.le_sub_one_of_lt hn, ?_, by rw [wrap_u]; omega⟩
      obtain ⟨k, rfl⟩ : ∃ k, q = k + 1 := ⟨q - 1, by omega⟩
      rw [Nat.add_mul] at hqr
      simp only [Nat.add_sub_cancel]; omega
    by_cases hqb : B ≤ q
    · obtain ⟨b1, b2, b3, b4⟩ := body (.inl hqb)
      have hqb' : (4294967296 : Int) ≤ q := by omega
      have hqb'' : 4294967296 ≤ q := by omega
      simp [fq, fr, f2, f8, f9, f10, f11, f13, f14, hqb', hqb'', b4, hra]
      refine cb_dec (fun h => ?_) (fun h => ?_)
      · simp
        refine jn_intro ⟨q - 1, by simp, ?_, by simp [f2], by simp [f8], by simp [f9], by simp [f10], by simp [f11], by simp [f13], by simp [f14], rfl⟩
        rw [← hYab]
        exact kn_break hY0 b2 b3 (by omega) (by omega) hbB
      · simp
        refine nx_intro (q - 1) (by omega) ⟨q - 1, r', rfl, by simp, by simp, by rw [← hYab]; exact b2, b3, by omega, by omega, by simp [f2], by simp [f8], by simp [f9], by simp [f10], by simp [f11], by simp [f13], by simp [f14], rfl⟩
    · have hqb' : ¬ (4294967296 : Int) ≤ q := by omega
      have hqb'' : ¬ 4294967296 ≤ q := by omega
      have hqbM : q * b < 18446744073709551616 := by
        have h1 : q * b ≤ (B - 1) * (B - 1) := Nat.mul_le_mul (by omega) (by omega)
        subst hB; omega
      obtain ⟨p, hp⟩ : ∃ p, p = q * b := ⟨_, rfl⟩
      have hpi : (q : Int) * b = p := by rw [hp]; push_cast; rfl
      have hwp : IntKind.u64.wrap ((q : Int) * b) = p := by rw [hpi, wrap_u]; omega
      simp [fq, fr, f2, f8, f9, f10, f11, f13, f14, hqb', hqb'', hwp, hmB, hmBv]
      refine cb_dec (fun h => ?_) (fun h => ?_)
      · have h' : B * r + u1 < q * b := by rw [← hp, hB]; omega
        obtain ⟨b1, b2, b3, b4⟩ := body (.inr h')
        simp [fq, fr, f2, f8, f9, f10, f11, f13, f14, b4, hra]
        refine cb_dec (fun h => ?_) (fun h => ?_)
        · simp
          refine jn_intro ⟨q - 1, by simp, ?_, by simp [f2], by simp [f8], by simp [f9], by simp [f10], by simp [f11], by simp [f13], by simp [f14], rfl⟩
          rw [← hYab]
          exact kn_break hY0 b2 b3 (by omega) (by omega) hbB
        · simp
          refine nx_intro (q - 1) (by omega) ⟨q - 1, r', rfl, by simp, by simp, by rw [← hYab]; exact b2, b3, by omega, by omega, by simp [f2], by simp [f8], by simp [f9], by simp [f10], by simp [f11], by simp [f13], by simp [f14], rfl⟩
      · simp
        refine jn_intro ⟨q, by simp [fq], ?_, by simp [f2], by simp [f8], by simp [f9], by simp [f10], by simp [f11], by simp [f13], by simp [f14], rfl⟩
        rw [← hYab]
        exact kn_exit hY0 hle hqr (by rw [← hp, hB]; omega)
end Go.Proofs.YtdgpnmlialmaaaaGreatDoor
end
section
set_option maxHeartbeats 2000000
namespace Go.Num
open Go.Abs
theorem wA_eq {hi lo n : Nat} (h1 : hi = n / 18446744073709551616) (h2 : lo = n % 18446744073709551616) : wA n = .agg [.int .u64 (hi : Int), .int .u64 (lo : Int)] := by subst h1 h2; rfl
end Go.Num
namespace Go.Proofs.YtdgpnmlialmaaaaGreatDoor
open Go.Abs Go.Num
variable {G : Globs}
theorem wAdd_ok (a b : Nat) (ha : a < 340282366920938463463374607431768211456) (hb : b < 340282366920938463463374607431768211456) :
    PCalls Tryz.prog n_wide_Add [wA a, wA b] (fun r => r = .tup [wA ((a + b) % 340282366920938463463374607431768211456), .bool (decide (340282366920938463463374607431768211456 ≤ a + b))]) := by
  obtain ⟨ah, hah⟩ : ∃ x, x = a / 18446744073709551616 := ⟨_, rfl⟩
  obtain ⟨al, hal⟩ : ∃ x, x = a % 18446744073709551616 := ⟨_, rfl⟩
  obtain ⟨bh, hbh⟩ : ∃ x, x = b / 18446744073709551616 := ⟨_, rfl⟩
  obtain ⟨bl, hbl⟩ : ∃ x, x = b % 18446744073709551616 := ⟨_, rfl⟩
  rw [wA_eq hah hal, wA_eq hbh hbl]
  obtain ⟨s0, hs0⟩ : ∃ x, x = (al + bl) % 18446744073709551616 := ⟨_, rfl⟩
  obtain ⟨c0, hc0⟩ : ∃ x, x = (al + bl) / 18446744073709551616 := ⟨_, rfl⟩
  obtain ⟨s1, hs1⟩ : ∃ x, x = (ah + bh + c0) % 18446744073709551616 := ⟨_, rfl⟩
  obtain ⟨c1, hc1⟩ : ∃ x, x = (ah + bh + c0) / 18446744073709551616 := ⟨_, rfl⟩
  rw [wA_eq (hi := s1) (lo := s0) (n := (a + b) % 340282366920938463463374607431768211456) (by omega) (by omega)]
  have e1 : ((al : Int) + bl) % 18446744073709551616 = s0 := by omega
  have e2 : ((al : Int) + bl) / 18446744073709551616 = c0 := by omega
  have e3 : ((ah : Int) + bh + c0) % 18446744073709551616 = s1 := by omega
  have e4 : ((ah : Int) + bh + c0) / 18446744073709551616 = c1 := by omega
  have hc : (c0 : Int) ≤ 1 := by omega
  have hcn : c0 ≤ 1 := by omega
  have e5 : decide (c1 = 1) = decide (340282366920938463463374607431768211456 ≤ a + b) := by
    congr 1; apply propext; omega
  have e6 : decide ((c1 : Int) = 1) = decide (340282366920938463463374607431768211456 ≤ a + b) := by
    congr 1; apply propext; omega
  refine pcalls_of_awp hmix c_wide_Add rfl ?_
  simp [a_wide_Add, e1, e2, e3, e4, hc, hcn, e5, e6]
  try omega
theorem wDiv_ok (a d : Nat) (ha : a < 340282366920938463463374607431768211456) (hd : d < 18446744073709551616) :
    PCalls Tryz.prog n_wide_Div [wA a, .int .u64 d] (fun r => r = if d = 0 then .tup [wA 0, .int .u64 0, .int .i64 1] else .tup [wA (a / d), .int .u64 ((a % d : Nat) : Int), .int .i64 0]) := by
  refine pcalls_of_awp hmix c_wide_Div rfl ?_
  by_cases h0 : d = 0
  · subst h0
    simp [a_wide_Div, wA]
  obtain ⟨ah, hah⟩ : ∃ x, x = a / 18446744073709551616 := ⟨_, rfl⟩
  obtain ⟨al, hal⟩ : ∃ x, x = a % 18446744073709551616 := ⟨_, rfl⟩
  rw [wA_eq hah hal]
  have h0' : ¬ (d : Int) = 0 := by omega
  obtain ⟨q1, hq1⟩ : ∃ x, x = ah / d := ⟨_, rfl⟩
  obtain ⟨r1, hr1⟩ : ∃ x, x = ah % d := ⟨_, rfl⟩
  have e1 : IntKind.u64.wrap ((ah : Int) / d) = q1 := by rw [u_div ah d (by omega), hq1]
  have e2 : (ah : Int).tmod d = r1 := by rw [Int.tmod_eq_emod_of_nonneg (by omega), u_mod, hr1]
  have hr1d : r1 < d := by rw [hr1]; exact Nat.mod_lt _ (by omega)
  obtain ⟨t1, t2⟩ := two_digits (y := d) (h := ah) (l := al) (B := 18446744073709551616) (by omega)
  have hal' : ah * 18446744073709551616 + al = a := by omega
  rw [hal', ← hq1, ← hr1] at t1
  rw [hal', ← hr1] at t2
  obtain ⟨q0, hq0⟩ : ∃ x, x = (r1 * 18446744073709551616 + al) / d := ⟨_, rfl⟩
  have hq0M : q0 < 18446744073709551616 := by
    rw [hq0, Nat.div_lt_iff_lt_mul (by omega)]
    have : (r1 + 1) * 18446744073709551616 ≤ d * 18446744073709551616 := Nat.mul_le_mul_right _ hr1d
    rw [Nat.mul_comm 18446744073709551616 d]; omega
  rw [← hq0] at t1
  have hAD : wA (a / d) = .agg [.int .u64 (q1 : Int), .int .u64 (q0 : Int)] := wA_eq (by omega) (by omega)
  rw [if_neg h0, hAD, t2]
  simp [a_wide_Div, h0, h0', e1, e2]
  refine ac_same (div64_ok r1 al d hr1d hd (by omega)) (by simp) ?_
  rw [← hq0]
  rintro r rfl
  simp
theorem wRound_ok (a d : Nat) (ha : a < 340282366920938463463374607431768211456) (hd : d < 18446744073709551616) :
    PCalls Tryz.prog n_wide_Round [wA a, .int .u64 d] (fun r => r = if d = 0 then .tup [.int .u64 0, .int .i64 1] else if rnd a d < 18446744073709551616 then .tup [.int .u64 ((rnd a d : Nat) : Int), .int .i64 0] else .tup [.int .u64 0, .int .i64 3]) := by
  refine pcalls_of_awp hmix c_wide_Round rfl ?_
  have hwb : wA a = .agg [.int .u64 ((a / 18446744073709551616 : Nat) : Int), .int .u64 ((a % 18446744073709551616 : Nat) : Int)] := rfl
  by_cases h0 : d = 0
  · subst h0
    rw [hwb]
    simp [a_wide_Round]
    refine ac_same (wDiv_ok a 0 ha (by decide)) (by simp [wA]) ?_
    rintro r rfl
    simp [wA]
  rw [if_neg h0]
  rw [hwb]
  simp [a_wide_Round]
  refine ac_same (wDiv_ok a d ha hd) (by simp [wA]) ?_
  rw [if_neg h0]
  obtain ⟨q, hq⟩ : ∃ x, x = a / d := ⟨_, rfl⟩
  obtain ⟨m, hm⟩ : ∃ x, x = a % d := ⟨_, rfl⟩
  have hmd : m < d := by rw [hm]; exact Nat.mod_lt _ (by omega)
  rw [← hq, ← hm]
  rintro r rfl
  have hrnd : rnd a d = q + (if d - m ≤ m then 1 else 0) := by rw [rnd, ← hq, ← hm]
  rw [hrnd]
  have hwq : wA q = .agg [.int .u64 ((q / 18446744073709551616 : Nat) : Int), .int .u64 ((q % 18446744073709551616 : Nat) : Int)] := rfl
  have hsub : IntKind.u64.wrap ((d : Int) - m) = ((d - m : Nat) : Int) := by rw [wrap_u]; omega
  obtain ⟨dm, hdm⟩ : ∃ x, x = d - m := ⟨_, rfl⟩
  rw [← hdm] at hsub
  have hqa : q < 340282366920938463463374607431768211456 := by rw [hq]; exact Nat.lt_of_le_of_lt (Nat.div_le_self _ _) ha
  obtain ⟨qh, hqh⟩ : ∃ x, x = q / 18446744073709551616 := ⟨_, rfl⟩
  obtain ⟨ql, hql⟩ : ∃ x, x = q % 18446744073709551616 := ⟨_, rfl⟩
  rw [wA_eq hqh hql]
  simp [hsub]
  refine cb_dec (fun h => ?_) (fun h => ?_)
  · have h' : d - m ≤ m := by omega
    have hq2 : q + 1 < 340282366920938463463374607431768211456 := by
      have hd2 : 2 ≤ d := by omega
      have : a / d ≤ a / 2 := Nat.div_le_div_left hd2 (by decide)
      omega
    simp
    have hA := wAdd_ok (G := G) q 1 hqa (by decide)
    rw [wA_eq hqh hql, show wA 1 = .agg [.int .u64 0, .int .u64 1] from rfl] at hA
    refine ac_same hA (by simp) ?_
    rintro r rfl
    rw [Nat.mod_eq_of_lt hq2, if_pos h']
    obtain ⟨ph, hph⟩ : ∃ x, x = (q + 1) / 18446744073709551616 := ⟨_, rfl⟩
    obtain ⟨pl, hpl⟩ : ∃ x, x = (q + 1) % 18446744073709551616 := ⟨_, rfl⟩
    rw [wA_eq hph hpl]
    simp
    refine cb_dec (fun hh => ?_) (fun hh => ?_)
    · have : ¬ q + 1 < 18446744073709551616 := by omega
      rw [if_neg this]; simp
    · have : q + 1 < 18446744073709551616 := by omega
      have e : pl = q + 1 := by omega
      rw [if_pos this]; simp [e]
  · have h' : ¬ d - m ≤ m := by omega
    rw [if_neg h', Nat.add_zero]
    simp
    refine cb_dec (fun hh => ?_) (fun hh => ?_)
    · have : ¬ q < 18446744073709551616 := by omega
      rw [if_neg this]; simp
    · have : q < 18446744073709551616 := by omega
      have e : ql = q := by omega
      rw [if_pos this]; simp [e]
theorem quotient_ok (x y d : Nat) (hx : x < 18446744073709551616) (hy : y < 18446744073709551616) (hd : d < 18446744073709551616) (b : Bool) :
    PCalls Tryz.prog n_fixed_quotient [.int .u64 x, .int .u64 y, .int .u64 d, .bool b] (fun r => r = numA (if d = 0 then nothing else tell (sgn b (rnd (x * y) d)))) := by
  refine pcalls_of_awp hmix c_fixed_quotient rfl ?_
  simp [a_fixed_quotient]
  refine ac_same (wMul_ok x y hx hy) (by simp) ?_
  rintro r rfl
  have hxy : x * y < 340282366920938463463374607431768211456 := by
    have h1 : x * y ≤ x * 18446744073709551615 := Nat.mul_le_mul_left x (by omega)
    omega
  have hwb : wA (x * y) = .agg [.int .u64 ((x * y / 18446744073709551616 : Nat) : Int), .int .u64 ((x * y % 18446744073709551616 : Nat) : Int)] := rfl
  rw [hwb]
  simp
  refine ac_same (wRound_ok (x * y) d hxy hd) (by simp [wA]) ?_
  rintro r rfl
  by_cases h0 : d = 0
  · rw [if_pos h0, if_pos h0]
    simp
    refine ac_same nothing_ok (by simp) ?_
    rintro r rfl
    simp [numA]
  · rw [if_neg h0, if_neg h0]
    by_cases h1 : rnd (x * y) d < 18446744073709551616
    · rw [if_pos h1]
      simp
      refine ac_same (told_ok _ h1 b) (by simp) ?_
      rintro r rfl
      simp [numA]
    · rw [if_neg h1]
      have : tell (sgn b (rnd (x * y) d)) = nothing := by
        unfold tell sgn most
        cases b <;> simp <;> omega
      simp [this]
      refine ac_same nothing_ok (by simp) ?_
      rintro r rfl
      simp [numA, this]
theorem fDiv_ok (a b : N) (ha : okN a) (hb : okN b) : PCalls Tryz.prog n_fixed_Div [numA a, numA b] (fun r => r = numA (divN a b)) := by
  refine pcalls_of_awp hmix c_fixed_Div rfl ?_
  obtain ⟨a1, a2⟩ := ha
  obtain ⟨b1, b2⟩ := hb
  simp [a_fixed_Div, numA]
  refine ac_same (there_ok a) (by simp [numA]) ?_
  rintro r rfl
  cases hga : good a with
  | false =>
    simp
    refine ac_same nothing_ok (by simp) ?_
    rintro r rfl
    simp [divN, hga, numA]
  | true =>
    simp
    refine ac_same (there_ok b) (by simp [numA]) ?_
    rintro r rfl
    cases hgb : good b with
    | false =>
      simp
      refine ac_same nothing_ok (by simp) ?_
      rintro r rfl
      simp [divN, hga, hgb, numA]
    | true =>
      have va := (good_iff.1 hga).2
      have vb := (good_iff.1 hgb).2
      simp only [most] at va vb
      simp
      refine ac_same (size_ok a va a2) (by simp [numA]) ?_
      rintro r rfl
      simp
      refine ac_same (size_ok b vb b2) (by simp [numA]) ?_
      rintro r rfl
      simp
      refine ac_same (quotient_ok a.2.natAbs 1000000 b.2.natAbs (by omega) (by omega) (by omega) (decide (a.2 < 0) != decide (b.2 < 0))) (by simp) ?_
      rintro r rfl
      by_cases hb0 : b.2 = 0
      · simp [divN, hga, hgb, hb0, numA]
      · simp [divN, hga, hgb, hb0, numA]
end Go.Proofs.YtdgpnmlialmaaaaGreatDoor
end
section
set_option maxHeartbeats 2000000
namespace Go.Num
open Go.Abs
end Go.Num
namespace Go.Proofs.YtdgpnmlialmaaaaGreatDoor
open Go.Abs Go.Num
variable {G : Globs}
end Go.Proofs.YtdgpnmlialmaaaaGreatDoor
end
section
set_option maxHeartbeats 2000000
namespace Go.Proofs.YtdgpnmlialmaaaaGreatDoor
open Go.Abs Go.Num
variable {G : Globs}
end Go.Proofs.YtdgpnmlialmaaaaGreatDoor
end
section
set_option maxHeartbeats 2000000
namespace Go.Num
open Go.Abs
theorem numA_eq (n : N) : numA n = .agg [.bool n.1, .int .i64 n.2] := rfl
end Go.Num
namespace Go.Proofs.YtdgpnmlialmaaaaGreatDoor
open Go.Abs Go.Num
variable {G : Globs}
theorem right_good (n : N) : (rightN n && !n.1) = good n := by
  obtain ⟨b, v⟩ := n
  cases b <;> simp [rightN, good]
end Go.Proofs.YtdgpnmlialmaaaaGreatDoor
end
