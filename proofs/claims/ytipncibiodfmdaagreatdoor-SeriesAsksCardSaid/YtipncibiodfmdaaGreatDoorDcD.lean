/- Numbers as text: Whole, and the document's Parse and Whole. -/
import Derived.Test.YtipncibiodfmdaaGreatDoorDcC
set_option linter.unusedSimpArgs false
set_option linter.unusedVariables false
set_option linter.constructorNameAsVariable false
set_option maxHeartbeats 2000000
namespace Go.Dec
/-- Digits, then what is none. -/
theorem tw_app {A R : List UInt8} (hA : A.all isD = true) (hR : ∀ c t, R = c :: t → isD c = false) : (A ++ R).takeWhile isD = A ∧ (A ++ R).dropWhile isD = R := by
  induction A with
  | nil =>
    cases R with
    | nil => simp
    | cons c t => simp [hR c t rfl]
  | cons a A ih =>
    simp only [List.all_cons, Bool.and_eq_true] at hA
    have := ih hA.2
    simp [hA.1, this.1, this.2]
theorem tw_full {s : List UInt8} : (s.takeWhile isD).length < s.length ↔ s.all isD = false := by
  constructor
  · intro h
    cases ha : s.all isD with
    | false => rfl
    | true =>
      exfalso
      have : s.takeWhile isD = s := by
        have := (tw_app (R := []) ha (fun c t h => by simp at h)).1
        simpa using this
      rw [this] at h; omega
  · intro h
    refine Nat.lt_of_le_of_ne (tw_len s) fun he => ?_
    have h1 := tw_take s
    rw [he, List.take_length] at h1
    have := all_tw s
    rw [← h1] at this
    rw [this] at h; cases h

theorem isD_pt : isD 46 = false := by decide

/-- How far a text has been read: the digits ahead of the first point, the digits behind it, the points. -/
def Rd (t A B : List UInt8) (pts : Nat) : Prop := A.all isD = true ∧ B.all isD = true ∧
  ((pts = 0 ∧ t = A ∧ B = []) ∨ (pts = 1 ∧ t = A ++ 46 :: B) ∨ (2 ≤ pts ∧ ∃ C, t = A ++ 46 :: C ∧ 46 ∈ C))
theorem Rd.end {t A B : List UInt8} {pts : Nat} (h : Rd t A B pts) : parts t = if A.length + B.length = 0 ∨ 1 < pts then none else some (A, B) := by
  obtain ⟨hA, hB, ⟨rfl, rfl, rfl⟩ | ⟨rfl, rfl⟩ | ⟨hp, C, rfl, hC⟩⟩ := h
  · have := tw_app (R := []) hA (fun c t h => by simp at h)
    simp only [List.append_nil] at this
    unfold parts
    simp only [this.1, this.2]
    by_cases h0 : t = []
    · simp [h0]
    · simp [h0]
  · have := tw_app (R := 46 :: B) hA (fun c t h => by cases h; exact isD_pt)
    have h2 := tw_app (R := []) hB (fun c t h => by simp at h)
    simp only [List.append_nil] at h2
    unfold parts
    simp only [this.1, this.2, h2.2]
    by_cases h0 : A = [] ∧ B = []
    · simp [h0.1, h0.2]
    · have : ¬ (A.length + B.length = 0) := fun he => h0 ⟨List.eq_nil_of_length_eq_zero (by omega), List.eq_nil_of_length_eq_zero (by omega)⟩
      have h3 : A = [] → ¬ B = [] := fun ha hb => h0 ⟨ha, hb⟩
      simp
      rw [if_pos h3, if_neg h0]
  · have := tw_app (R := 46 :: C) hA (fun c t h => by cases h; exact isD_pt)
    unfold parts
    simp only [this.1, this.2]
    have hd : ¬ C.dropWhile isD = [] := fun he => by
      have := tw_all C he
      have h1 := all_tw C
      rw [this, List.all_eq_true] at h1
      have := h1 46 hC
      simp [isD_pt] at this
    simp [hd]; omega
theorem Rd.bad {t A B r : List UInt8} {pts : Nat} {c : UInt8} (h : Rd t A B pts) (h1 : isD c = false) (h2 : c ≠ 46) : parts (t ++ c :: r) = none := by
  obtain ⟨hA, hB, ⟨rfl, rfl, rfl⟩ | ⟨rfl, rfl⟩ | ⟨hp, C, rfl, hC⟩⟩ := h
  · have := tw_app (R := c :: r) hA (fun c t h => by cases h; exact h1)
    unfold parts
    simp only [this.1, this.2]
    simp [h2]
  · have := tw_app (R := 46 :: (B ++ c :: r)) hA (fun c t h => by cases h; exact isD_pt)
    have h2 := tw_app (R := c :: r) hB (fun c t h => by cases h; exact h1)
    unfold parts
    simp only [List.append_assoc, List.cons_append, this.1, this.2, h2.2]
    simp
  · have := tw_app (R := 46 :: (C ++ c :: r)) hA (fun c t h => by cases h; exact isD_pt)
    unfold parts
    simp only [List.append_assoc, List.cons_append, this.1, this.2]
    have hd : ¬ (C ++ c :: r).dropWhile isD = [] := fun he => by
      have := tw_all _ he
      have h1 := all_tw (C ++ c :: r)
      rw [this, List.all_eq_true] at h1
      have := h1 46 (by simp [hC])
      simp [isD_pt] at this
    simp [hd]
theorem Rd.pt {t A B : List UInt8} {pts : Nat} (h : Rd t A B pts) : Rd (t ++ [46]) A B (pts + 1) := by
  obtain ⟨hA, hB, ⟨rfl, rfl, rfl⟩ | ⟨rfl, rfl⟩ | ⟨hp, C, rfl, hC⟩⟩ := h
  · exact ⟨hA, hB, .inr (.inl ⟨rfl, by simp⟩)⟩
  · exact ⟨hA, hB, .inr (.inr ⟨by omega, B ++ [46], by simp, by simp⟩)⟩
  · exact ⟨hA, hB, .inr (.inr ⟨by omega, C ++ [46], by simp, by simp⟩)⟩
theorem Rd.ahead {t A B : List UInt8} {c : UInt8} (h : Rd t A B 0) (hc : isD c = true) : Rd (t ++ [c]) (A ++ [c]) B 0 := by
  obtain ⟨hA, hB, ⟨_, rfl, rfl⟩ | ⟨h0, _⟩ | ⟨hp, _⟩⟩ := h
  · exact ⟨by simpa [hc] using hA, hB, .inl ⟨rfl, rfl, rfl⟩⟩
  · omega
  · omega
theorem Rd.behind {t A B : List UInt8} {pts : Nat} {c : UInt8} (h : Rd t A B pts) (hp : 0 < pts) (hc : isD c = true) : Rd (t ++ [c]) A (B ++ [c]) pts := by
  obtain ⟨hA, hB, ⟨h0, _⟩ | ⟨rfl, rfl⟩ | ⟨hp, C, rfl, hC⟩⟩ := h
  · omega
  · exact ⟨hA, by simpa [hc] using hB, .inr (.inl ⟨rfl, by simp⟩)⟩
  · exact ⟨hA, by simpa [hc] using hB, .inr (.inr ⟨hp, C ++ [c], by simp, by simp [hC]⟩)⟩

/-- The number so far, or far beyond. -/
def Num (l : List UInt8) (n : Nat) (far : Bool) : Prop := n ≤ 11529215046068469769 ∧ (far = false → n = dval 0 l) ∧ (far = true → 1152921504606846976 < n ∧ 9223372036854775807 < dval 0 l)
theorem Num.far {l : List UInt8} {n : Nat} {far : Bool} {c : UInt8} (h : Num l n far) (hn : 1152921504606846976 < n) : Num (l ++ [c]) n true := by
  refine ⟨h.1, by simp, fun _ => ⟨hn, ?_⟩⟩
  have e : dval 0 (l ++ [c]) = dval 0 l * 10 + dig c := by rw [dval_append, dval_cons, dval_nil]
  rw [e]
  cases far with
  | false => have := h.2.1 rfl; omega
  | true => have := (h.2.2 rfl).2; omega
theorem Num.step {l : List UInt8} {n : Nat} {far : Bool} {c : UInt8} (h : Num l n far) (hn : n ≤ 1152921504606846976) (hc : dig c ≤ 9) : far = false ∧ Num (l ++ [c]) (n * 10 + dig c) far := by
  have hf : far = false := by
    cases far with
    | false => rfl
    | true => have := (h.2.2 rfl).1; omega
  subst hf
  have e : dval 0 (l ++ [c]) = dval 0 l * 10 + dig c := by rw [dval_append, dval_cons, dval_nil]
  refine ⟨rfl, by omega, fun _ => ?_, by simp⟩
  rw [e, ← h.2.1 rfl]
theorem dig_le {c : UInt8} (h : isD c = true) : dig c ≤ 9 := by
  have := (isD_iff c).1 h
  unfold dig; omega
theorem pad_eq (B : List UInt8) : pad B = B.take 6 ++ List.replicate (6 - B.length) 48 := by
  unfold pad
  by_cases h : 6 ≤ B.length
  · rw [List.take_append_of_le_length h]
    have : 6 - B.length = 0 := by omega
    simp [this]
  · have h' : B.length ≤ 6 := by omega
    rw [List.take_append, List.take_of_length_le h', show [(48 : UInt8), 48, 48, 48, 48, 48] = List.replicate 6 48 from rfl, List.take_replicate, Nat.min_eq_left (by omega)]
end Go.Dec
namespace Go.Proofs.YtipncibiodfmdaaGreatDoor
open Go.Abs Go.Dec
variable {G : Globs}

theorem wrap_u64 {x : Int} (h1 : 0 ≤ x) (h2 : x ≤ 18446744073709551615) : IntKind.u64.wrap x = x := by
  simp [IntKind.wrap, IntKind.signed, IntKind.bits]; omega
theorem wrap_u8 {x : Int} (h1 : 0 ≤ x) (h2 : x ≤ 255) : IntKind.u8.wrap x = x := by
  simp [IntKind.wrap, IntKind.signed, IntKind.bits]; omega

/-- The code behind so many steps; a loop's parts. -/
def tailC : Nat → ACode → ACode
  | n + 1, .seq _ b => tailC n b
  | _, c => c
def headC : ACode → ACode
  | .seq a _ => a
  | c => c
/-- From a block on. -/
def toBlock (id : Nat) : ACode → ACode
  | .seq (.block i c) b => if i = id then .seq (.block i c) b else toBlock id b
  | .seq (.seq a (.block i c)) b => if i = id then .seq (.block i c) b else toBlock id b
  | .seq _ b => toBlock id b
  | c => c
theorem upB_app (B : List UInt8) (c : UInt8) : upB (B ++ [c]) = if B.length = 6 then decide (53 ≤ c) else upB B := by
  unfold upB
  by_cases h : B.length = 6
  · rw [if_pos h, List.getElem?_append_right (by omega)]; simp [h]
  · rw [if_neg h]
    by_cases h6 : 6 < B.length
    · rw [List.getElem?_append_left h6]
    · rw [List.getElem?_eq_none (by simp; omega), List.getElem?_eq_none (by omega)]

end Go.Proofs.YtipncibiodfmdaaGreatDoor
