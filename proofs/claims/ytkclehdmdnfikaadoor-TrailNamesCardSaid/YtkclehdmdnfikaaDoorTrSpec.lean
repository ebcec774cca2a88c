/- Paths of names, in plain Lean. -/
import Derived.Test.YtkclehdmdnfikaaDoorGlLaws
import Derived.Lib.Bytealg
set_option linter.unusedSimpArgs false
set_option linter.unusedVariables false
namespace Go.Trail
open Go.Glob

/-- A text's pieces between points. -/
def sp : List UInt8 → List (List UInt8)
  | [] => [[]]
  | c :: s => if c = 46 then [] :: sp s else match sp s with
    | p :: ps => (c :: p) :: ps
    | [] => [[c]]
/-- .. the first n of them, and the rest. -/
def cutN : Nat → List UInt8 → List (List UInt8)
  | 0, s => [s]
  | n + 1, s => if Lib.indexByte s 46 = -1 then [s] else s.take (Lib.indexByte s 46).toNat :: cutN n (s.drop ((Lib.indexByte s 46).toNat + 1))

theorem sp_ne (s : List UInt8) : sp s ≠ [] := by
  cases s with
  | nil => simp [sp]
  | cons c s =>
    simp only [sp]
    split
    · simp
    · split <;> simp
theorem sp_cons {c : UInt8} (h : c ≠ 46) (s : List UInt8) : ∃ p ps, sp s = p :: ps ∧ sp (c :: s) = (c :: p) :: ps := by
  cases hs : sp s with
  | nil => exact absurd hs (sp_ne s)
  | cons p ps => exact ⟨p, ps, rfl, by simp [sp, h, hs]⟩
/-- Where the first point stands. -/
theorem sp_index : ∀ (s : List UInt8), (Lib.indexByte s 46 = -1 ∧ sp s = [s]) ∨ (∃ m : Nat, Lib.indexByte s 46 = m ∧ m < s.length ∧ sp s = s.take m :: sp (s.drop (m + 1)))
  | [] => .inl ⟨rfl, rfl⟩
  | c :: s => by
    by_cases hc : c = 46
    · subst hc
      exact .inr ⟨0, by simp [Lib.indexByte], by simp, by simp [sp]⟩
    · obtain ⟨p, ps, h1, h2⟩ := sp_cons hc s
      have hb : (c == 46) = false := by simpa using hc
      rcases sp_index s with ⟨g1, g2⟩ | ⟨m, g1, g2, g3⟩
      · refine .inl ⟨by simp [Lib.indexByte, hb, g1], ?_⟩
        rw [h1] at g2
        simp only [List.cons.injEq] at g2
        rw [h2, g2.1, g2.2]
      · refine .inr ⟨m + 1, ?_, by simp; omega, ?_⟩
        · simp only [Lib.indexByte, hb, g1]
          have : ¬ ((m : Int) == -1) = true := by simp
          rw [if_neg this]; simp
        · rw [h1] at g3
          simp only [List.cons.injEq] at g3
          rw [h2, g3.1, g3.2]; simp
theorem cutN_eq : ∀ (n : Nat) (s : List UInt8), (sp s).length ≤ n + 1 → cutN n s = sp s
  | 0, s, h => by
    rcases sp_index s with ⟨_, g⟩ | ⟨m, _, _, g⟩
    · simp [cutN, g]
    · rw [g] at h
      have := List.length_pos_iff.2 (sp_ne (s.drop (m + 1)))
      rw [List.length_cons] at h; omega
  | n + 1, s, h => by
    rcases sp_index s with ⟨g1, g⟩ | ⟨m, g1, _, g⟩
    · simp [cutN, g, g1]
    · rw [g] at h
      have hne : ¬ ((m : Int) = -1) := by omega
      simp only [cutN, g1, if_neg hne, g]
      rw [show ((m : Int)).toNat = m from rfl, cutN_eq n _ (by simpa using h)]
theorem cutN_long : ∀ (n : Nat) (s : List UInt8), n + 1 ≤ (sp s).length → (cutN n s).length = n + 1
  | 0, s, h => rfl
  | n + 1, s, h => by
    rcases sp_index s with ⟨g1, g⟩ | ⟨m, g1, _, g⟩
    · rw [g] at h; simp at h
    · rw [g] at h
      have hne : ¬ ((m : Int) = -1) := by omega
      simp only [cutN, g1, if_neg hne]
      rw [List.length_cons, show ((m : Int)).toNat = m from rfl, cutN_long n _ (by simpa using h)]

/-- A name. -/
def nameB (s : List UInt8) : Bool := decide (s.length ≤ 32) && (s.all nb && !s.isEmpty)
/-- A path's names, or none. -/
def path (s : List UInt8) : Option (List (List UInt8)) := if (sp s).length ≤ 8 ∧ (sp s).all nameB = true then some (sp s) else none
/-- Names with points between. -/
def join : List (List UInt8) → List UInt8
  | [] => []
  | [p] => p
  | p :: ps => p ++ 46 :: join ps

theorem join_sp : ∀ s, join (sp s) = s
  | [] => rfl
  | c :: s => by
    have ih := join_sp s
    by_cases hc : c = 46
    · subst hc
      simp only [sp, if_true]
      cases hs : sp s with
      | nil => exact absurd hs (sp_ne s)
      | cons p ps => rw [hs] at ih; simp [join, ih]
    · obtain ⟨p, ps, h1, h2⟩ := sp_cons hc s
      rw [h1] at ih
      rw [h2]
      cases ps with
      | nil => simp [join] at ih ⊢; exact ih
      | cons q qs => simp [join] at ih ⊢; exact ih
theorem sp_plain : ∀ (p : List UInt8), (∀ c ∈ p, c ≠ 46) → sp p = [p]
  | [], _ => rfl
  | c :: p, h => by
    have := sp_plain p (fun x hx => h x (by simp [hx]))
    simp [sp, h c (by simp), this]
theorem sp_app : ∀ (p s : List UInt8), (∀ c ∈ p, c ≠ 46) → sp (p ++ 46 :: s) = p :: sp s
  | [], s, _ => by simp [sp]
  | c :: p, s, h => by
    have := sp_app p s (fun x hx => h x (by simp [hx]))
    simp [sp, h c (by simp), this]
theorem sp_join : ∀ (l : List (List UInt8)), l ≠ [] → (∀ p ∈ l, ∀ c ∈ p, c ≠ 46) → sp (join l) = l
  | [], h, _ => absurd rfl h
  | [p], _, h => by simp only [join]; exact sp_plain p (h p (by simp))
  | p :: q :: ps, _, h => by
    simp only [join]
    rw [sp_app p _ (h p (by simp)), sp_join (q :: ps) (by simp) (fun x hx => h x (by simp [hx]))]
theorem name_plain {p : List UInt8} (h : nameB p = true) : ∀ c ∈ p, c ≠ 46 := by
  intro c hc he
  subst he
  unfold nameB at h
  simp only [Bool.and_eq_true] at h
  have := List.all_eq_true.1 h.2.1 46 hc
  exact absurd this (by decide)
theorem path_head {s : List UInt8} {l : List (List UInt8)} (h : path s = some l) (n : Nat) (h1 : 1 ≤ n) : path (join (l.take n)) = some (l.take n) := by
  unfold path at h
  split at h
  case isFalse => cases h
  rename_i hc
  simp only [Option.some.injEq] at h
  subst h
  have hne : (sp s).take n ≠ [] := by
    have := List.length_pos_iff.2 (sp_ne s)
    intro he
    have h0 : ((sp s).take n).length = 0 := by rw [he]; rfl
    rw [List.length_take] at h0; omega
  have hall : ∀ p ∈ (sp s).take n, nameB p = true := fun p hp => List.all_eq_true.1 hc.2 p (List.mem_of_mem_take hp)
  have e := sp_join ((sp s).take n) hne (fun p hp => name_plain (hall p hp))
  unfold path
  rw [e, if_pos ⟨by simp; omega, List.all_eq_true.2 hall⟩]
theorem path_whole {s : List UInt8} {l : List (List UInt8)} (h : path s = some l) (n : Nat) (h1 : 1 ≤ n) (h2 : n ≤ l.length) : (n = l.length) ↔ join (l.take n) = s := by
  have hp := path_head h n h1
  have hl : l = sp s := by
    unfold path at h
    split at h
    · simpa using h.symm
    · cases h
  constructor
  · rintro rfl
    rw [List.take_length, hl, join_sp]
  · intro he
    rw [he, h] at hp
    simp only [Option.some.injEq] at hp
    have := congrArg List.length hp
    rw [List.length_take] at this; omega
end Go.Trail
