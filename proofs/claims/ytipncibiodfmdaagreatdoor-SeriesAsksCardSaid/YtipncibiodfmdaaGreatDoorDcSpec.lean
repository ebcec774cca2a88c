/- Numbers as text, in plain Lean. -/
import Derived.WalkKit
import Derived.Lib.ParseIntB
import Derived.Lib.ItoaNum
set_option linter.unusedSimpArgs false
set_option linter.unusedVariables false
namespace Go.Dec

def isD (c : UInt8) : Bool := 48 ≤ c && c ≤ 57
def dig (c : UInt8) : Nat := c.toNat - 48
def dval (n : Nat) (l : List UInt8) : Nat := l.foldl (fun n c => n * 10 + dig c) n
theorem dval_nil (n : Nat) : dval n [] = n := rfl
theorem dval_cons (n : Nat) (c : UInt8) (l : List UInt8) : dval n (c :: l) = dval (n * 10 + dig c) l := by unfold dval; rw [List.foldl_cons]
theorem dval_append (l m : List UInt8) (n : Nat) : dval n (l ++ m) = dval (dval n l) m := by unfold dval; rw [List.foldl_append]
theorem dval_ge : ∀ (l : List UInt8) (n : Nat), n * 10 ^ l.length ≤ dval n l
  | [], n => by simp [dval_nil]
  | c :: l, n => by
    have := dval_ge l (n * 10 + dig c)
    simp only [dval_cons, List.length_cons, Nat.pow_succ]
    refine Nat.le_trans ?_ this
    rw [show n * (10 ^ l.length * 10) = (n * 10) * 10 ^ l.length by rw [Nat.mul_assoc, Nat.mul_comm 10]]
    exact Nat.mul_le_mul_right _ (by omega)
theorem isD_iff (c : UInt8) : isD c = true ↔ 48 ≤ c.toNat ∧ c.toNat ≤ 57 := by
  simp [isD, UInt8.le_iff_toNat_le]

/-- The last part's six digits. -/
def pad (part : List UInt8) : List UInt8 := (part ++ [48, 48, 48, 48, 48, 48]).take 6
/-- Is the seventh digit five or more? -/
def upB (part : List UInt8) : Bool := match part[6]? with
  | some c => decide (53 ≤ c)
  | none => false

/-- A text's parts: the digits ahead of the point, and behind it; none: it is no number's text. -/
def parts (s : List UInt8) : Option (List UInt8 × List UInt8) :=
  let w := s.takeWhile isD
  match s.dropWhile isD with
  | [] => if w = [] then none else some (w, [])
  | c :: t => if c = 46 ∧ t.dropWhile isD = [] ∧ w ++ t ≠ [] then some (w, t) else none

def unsign (s : List UInt8) : List UInt8 := match s with
  | c :: t => if c = 45 ∨ c = 43 then t else s
  | [] => []
def below (s : List UInt8) : Bool := match s with
  | c :: _ => decide (c = 45)
  | [] => false

/-- A number's text: the number of millionths, or an error. -/
def parse (s : List UInt8) : Except Nat Int :=
  if 64 < s.length then .error 12
  else match parts (unsign s) with
    | none => .error 2
    | some (w, p) =>
      let n := dval 0 (w ++ pad p) + (if upB p then 1 else 0)
      if 9223372036854775807 < n then .error 3 else .ok (if below s then -(n : Int) else n)

/-- A whole text. -/
def whole (s : List UInt8) : Except Nat Int :=
  if 64 < s.length then .error 12
  else if s = [] ∨ s.all isD = false then .error 2
  else if 1099511627776 < dval 0 s then .error 3 else .ok (dval 0 s)

/-! ## strconv.ParseInt at digits -/
theorem parseUintM_digits (M : Nat) (hM : M < 18446744073709551616) : ∀ (l : List UInt8) (acc : Nat), l.all isD = true → acc ≤ M → Lib.parseUintM M acc l = if dval acc l ≤ M then .ok (dval acc l) else .range
  | [], acc, _, h => by simp [Lib.parseUintM, dval_nil, h]
  | c :: l, acc, hl, h => by
    simp only [List.all_cons, Bool.and_eq_true] at hl
    have hc := (isD_iff c).1 hl.1
    have hge := dval_ge l (acc * 10 + dig c)
    have h10 : 1 ≤ 10 ^ l.length := Nat.pos_of_ne_zero (by simp)
    have hge' : acc * 10 + dig c ≤ dval (acc * 10 + dig c) l := Nat.le_trans (Nat.le_mul_of_pos_right _ h10) hge
    rw [dval_cons]
    simp only [Lib.parseUintM, if_pos hc]
    split
    · rename_i hov
      rw [if_neg (by omega)]
    · split
      · rename_i h1 h2
        have : dig c = c.toNat - 48 := rfl
        rw [if_neg (by omega)]
      · rename_i h1 h2
        exact parseUintM_digits M hM l _ hl.2 (by have : dig c = c.toNat - 48 := rfl; omega)

theorem parseIntB_digits {l : List UInt8} (hl : l.all isD = true) (hne : l ≠ []) : Lib.parseIntB 64 l = if dval 0 l ≤ 9223372036854775807 then .ok (dval 0 l) else .range := by
  match l, hne with
  | c :: r, _ =>
    have hc : 48 ≤ c.toNat ∧ c.toNat ≤ 57 := (isD_iff c).1 (by simp only [List.all_cons, Bool.and_eq_true] at hl; exact hl.1)
    have h1 : ¬ (c.toNat = 43 ∨ c.toNat = 45) := by omega
    have h2 : ¬ c.toNat = 45 := by omega
    simp only [Lib.parseIntB, if_neg h1, Lib.parseUintB]
    rw [if_neg (by simp), parseUintM_digits _ (by decide) _ _ hl (by omega)]
    by_cases hx : dval 0 (c :: r) ≤ 2 ^ 64 - 1
    · rw [if_pos hx]
      by_cases hy : dval 0 (c :: r) ≤ 9223372036854775807
      · simp [h2, hy]; omega
      · simp [h2, hy]; omega
    · rw [if_neg hx]
      have : ¬ dval 0 (c :: r) ≤ 9223372036854775807 := by
        have e : (2 : Nat) ^ 64 - 1 = 18446744073709551615 := by decide
        omega
      simp [this]
end Go.Dec
