/- A target's tokens, in plain Lean. -/
import Derived.Test.YtkclehdmdnfikaaDoorGlSpec
import Derived.Test.YtkclehdmdnfikaaDoorDcSpec
import Derived.Lib.IndexAny
set_option linter.unusedSimpArgs false
set_option linter.unusedVariables false
namespace Go.Tok
open Go.Glob

/-- A byte that may not stand within brackets. -/
def bstop (c : UInt8) : Bool := c == 39 || c == 34 || c == 32 || c == 40 || c == 41
/-- How many bytes up to and with the ] that shuts a class. -/
def clsN : List UInt8 → Option Nat
  | [] => none
  | c :: r => if bstop c then none else if c = 93 then some 1 else (clsN r).map (· + 1)
def deeper (d : Nat) (c : UInt8) : Nat := if c = 123 then d + 1 else if c = 125 then d - 1 else d
/-- How many bytes up to and with the } that shuts the braces. -/
def brcN : Nat → List UInt8 → Option Nat
  | _, [] => none
  | d, c :: r => if bstop c then none else if deeper d c = 0 then some 1 else (brcN (deeper d c) r).map (· + 1)
def bword (c : UInt8) : Bool := nb c || c == 46 || c == 63 || c == 42
/-- How many bword bytes stand ahead; none: something isn't shut. -/
def rowF : Nat → List UInt8 → Option Nat
  | 0, _ => some 0
  | _ + 1, [] => some 0
  | n + 1, c :: r =>
    if bword c then (rowF n r).map (· + 1)
    else if c = 91 then (clsN (c :: r)).bind fun k => (rowF n ((c :: r).drop k)).map (· + k)
    else if c = 123 then (brcN 0 (c :: r)).bind fun k => (rowF n ((c :: r).drop k)).map (· + k)
    else some 0

structure Tk where
  kind : Int
  text : List UInt8
  place : Nat
def isNum (t : List UInt8) : Bool := match Dec.parse t with | .ok _ => true | .error _ => false
/-- The token that stands ahead: its kind, its text, how many bytes. -/
def nextT : List UInt8 → Option (Int × List UInt8 × Nat)
  | [] => none
  | c :: r =>
    if c = 40 then some (4, [], 1) else if c = 41 then some (5, [], 1) else if c = 44 then some (6, [], 1)
    else if c = 39 ∨ c = 34 then (if Lib.indexByte r c < 0 then none else some (3, r.take (Lib.indexByte r c).toNat, (Lib.indexByte r c).toNat + 2))
    else match rowF (r.length + 1) (c :: r) with
      | none => none
      | some 0 => none
      | some (k + 1) => some (if isNum ((c :: r).take (k + 1)) then 2 else 1, (c :: r).take (k + 1), k + 1)
def splitF : Nat → Nat → List UInt8 → Option (List Tk)
  | _, _, [] => some []
  | 0, _, _ => some []
  | n + 1, a, c :: r =>
    if c = 32 then splitF n (a + 1) r else (nextT (c :: r)).bind fun x => (splitF n (a + x.2.2) ((c :: r).drop x.2.2)).map (⟨x.1, x.2.1, a⟩ :: ·)
/-- A target's tokens, or an error. -/
def split (s : List UInt8) : Except Nat (List Tk) :=
  if 1024 < s.length then .error 12 else match splitF s.length 0 s with
    | none => .error 16
    | some l => if 256 < l.length then .error 11 else .ok l

theorem clsN_le : ∀ (s : List UInt8) (k : Nat), clsN s = some k → 1 ≤ k ∧ k ≤ s.length
  | [], k, h => by simp [clsN] at h
  | c :: r, k, h => by
    unfold clsN at h
    split at h
    · cases h
    · split at h
      · cases h; simp
      · cases hr : clsN r with
        | none => rw [hr] at h; cases h
        | some j =>
          rw [hr] at h; cases h
          have := clsN_le r j hr
          simp; omega
theorem brcN_le : ∀ (s : List UInt8) (d k : Nat), brcN d s = some k → 1 ≤ k ∧ k ≤ s.length
  | [], d, k, h => by simp [brcN] at h
  | c :: r, d, k, h => by
    unfold brcN at h
    split at h
    · cases h
    · split at h
      · cases h; simp
      · cases hr : brcN (deeper d c) r with
        | none => rw [hr] at h; cases h
        | some j =>
          rw [hr] at h; cases h
          have := brcN_le r _ j hr
          simp; omega
theorem rowF_le : ∀ (n : Nat) (s : List UInt8) (k : Nat), rowF n s = some k → k ≤ s.length
  | 0, s, k, h => by simp [rowF] at h; omega
  | n + 1, [], k, h => by simp [rowF] at h; omega
  | n + 1, c :: r, k, h => by
    unfold rowF at h
    split at h
    · cases hr : rowF n r with
      | none => rw [hr] at h; cases h
      | some j =>
        rw [hr] at h; cases h
        have := rowF_le n r j hr
        simp; omega
    · split at h
      · cases hc : clsN (c :: r) with
        | none => rw [hc] at h; cases h
        | some a =>
          rw [hc] at h
          simp only [Option.bind_some] at h
          cases hr : rowF n ((c :: r).drop a) with
          | none => rw [hr] at h; cases h
          | some j =>
            rw [hr] at h; cases h
            have h1 := rowF_le n _ j hr
            have h2 := clsN_le _ _ hc
            rw [List.length_drop] at h1
            show j + a ≤ _
            omega
      · split at h
        · cases hc : brcN 0 (c :: r) with
          | none => rw [hc] at h; cases h
          | some a =>
            rw [hc] at h
            simp only [Option.bind_some] at h
            cases hr : rowF n ((c :: r).drop a) with
            | none => rw [hr] at h; cases h
            | some j =>
              rw [hr] at h; cases h
              have h1 := rowF_le n _ j hr
              have h2 := brcN_le _ _ _ hc
              rw [List.length_drop] at h1
              show j + a ≤ _
              omega
        · cases h; simp
theorem idx_mem : ∀ (l : List UInt8) (c : UInt8), 0 ≤ Lib.indexByte l c ↔ c ∈ l
  | [], c => by simp [Lib.indexByte]
  | b :: l, c => by
    have ih := idx_mem l c
    have hge := Lib.indexByte_ge l c
    unfold Lib.indexByte
    by_cases h : b = c
    · simp [h]
    · have h' : (b == c) = false := by simpa using h
      have h2 : ¬ c = b := fun e => h e.symm
      simp only [h', Bool.false_eq_true, if_false, List.mem_cons, h2, false_or]
      rw [← ih]
      by_cases hm : Lib.indexByte l c = -1
      · simp [hm]
      · have hm' : (Lib.indexByte l c == -1) = false := by simpa using hm
        simp only [hm', Bool.false_eq_true, if_false]
        omega
theorem idx_stop (c : UInt8) : (0 ≤ Lib.indexByte [39, 34, 32, 40, 41] c) ↔ bstop c = true := by
  rw [idx_mem]
  simp [bstop, or_assoc]
theorem idx_quote (c : UInt8) : (0 ≤ Lib.indexByte [39, 34] c) ↔ (c = 39 ∨ c = 34) := by
  rw [idx_mem]
  simp
end Go.Tok
