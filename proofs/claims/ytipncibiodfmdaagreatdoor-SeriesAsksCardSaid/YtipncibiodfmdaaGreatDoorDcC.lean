/- Numbers as text: the program's Parse and Whole. -/
import Derived.Test.YtipncibiodfmdaaGreatDoorDcB
set_option linter.unusedSimpArgs false
set_option linter.unusedVariables false
set_option linter.constructorNameAsVariable false
set_option maxHeartbeats 1000000
namespace Go.Dec
theorem tw_take (s : List UInt8) : s.take (s.takeWhile isD).length = s.takeWhile isD :=
  (congrArg (List.take (s.takeWhile isD).length) (List.takeWhile_append_dropWhile (p := isD) (l := s)).symm).trans (List.take_left' rfl)
theorem tw_drop (s : List UInt8) : s.drop (s.takeWhile isD).length = s.dropWhile isD :=
  (congrArg (List.drop (s.takeWhile isD).length) (List.takeWhile_append_dropWhile (p := isD) (l := s)).symm).trans (List.drop_left' rfl)
theorem tw_len (s : List UInt8) : (s.takeWhile isD).length ≤ s.length := List.Sublist.length_le (List.takeWhile_sublist _)
/-- Where the digits end. -/
theorem tw_at : ∀ (s : List UInt8) (i : Nat), i ≤ s.length → (s.take i).all isD = true → (∀ h : i < s.length, isD s[i] = false) → (s.takeWhile isD).length = i
  | [], i, h, _, _ => by simp at h; simp [h]
  | c :: s, 0, _, _, hn => by
    have := hn (by simp)
    simp only [List.getElem_cons_zero] at this
    simp [List.takeWhile_cons, this]
  | c :: s, i + 1, h, ha, hn => by
    simp only [List.take_succ_cons, List.all_cons, Bool.and_eq_true] at ha
    simp only [List.takeWhile_cons, ha.1, if_true, List.length_cons]
    rw [tw_at s i (by simpa using h) ha.2 (fun h' => by have := hn (by simpa using h'); rw [List.getElem_cons_succ] at this; exact this)]

/-- What the program's split makes of a text. -/
def splitW (s : List UInt8) : List UInt8 := s.takeWhile isD
def splitP (s : List UInt8) : List UInt8 := match s.dropWhile isD with
  | c :: t => if c = 46 then t.takeWhile isD else []
  | [] => []
def splitR (s : List UInt8) : List UInt8 := match s.dropWhile isD with
  | c :: t => if c = 46 then t.dropWhile isD else c :: t
  | [] => []
theorem tw_all : ∀ (s : List UInt8), s.dropWhile isD = [] → s.takeWhile isD = s
  | s, h => by have := List.takeWhile_append_dropWhile (p := isD) (l := s); rw [h, List.append_nil] at this; exact this
theorem parts_some {s : List UInt8} : (splitR s = [] ∧ splitW s ++ splitP s ≠ []) ↔ parts s = some (splitW s, splitP s) := by
  unfold splitR splitW splitP parts
  cases hd : s.dropWhile isD with
  | nil => simp
  | cons c t =>
    by_cases hc : c = 46
    · subst hc
      by_cases ht : t.dropWhile isD = []
      · simp only [ht, if_true, true_and]
        rw [tw_all t ht]
        by_cases hw : s.takeWhile isD ++ t = []
        · simp [hw]
        · simp [hw]
      · simp [ht]
    · simp [hc]
theorem parts_none {s : List UInt8} (h : ¬ (splitR s = [] ∧ splitW s ++ splitP s ≠ [])) : parts s = none := by
  cases hp : parts s with
  | none => rfl
  | some x =>
    exfalso
    apply h
    rw [parts_some, hp]
    unfold parts at hp
    unfold splitW splitP
    cases hd : s.dropWhile isD with
    | nil =>
      rw [hd] at hp; simp only at hp
      split at hp
      · cases hp
      · simpa using hp.symm
    | cons c t =>
      rw [hd] at hp; simp only at hp
      split at hp
      · rename_i hc
        obtain ⟨rfl, h2, h3⟩ := hc
        simp only [if_true, tw_all t h2]
        simpa using hp.symm
      · cases hp
theorem all_tw (s : List UInt8) : (s.takeWhile isD).all isD = true := by
  exact List.all_takeWhile
end Go.Dec
namespace Go.Proofs.YtipncibiodfmdaaGreatDoor
open Go.Abs Go.Dec
variable {G : Globs}

theorem hp_cons (c d : UInt8) (t : List UInt8) : Lib.hasPrefix (c :: t) [d] = decide (c = d) := by
  by_cases h : c = d
  · subst h; simp [Lib.hasPrefix]
  · have : ¬ d = c := fun h' => h h'.symm
    have e : (d == c) = false := by simpa using this
    show (d == c && List.isPrefixOf [] t) = decide (c = d)
    simp [e, h]
theorem tp_cons (c d : UInt8) (t : List UInt8) : Lib.trimPrefix (c :: t) [d] = if c = d then t else c :: t := by
  simp only [Lib.trimPrefix, hp_cons]; split <;> simp_all
theorem hp_nil (d : UInt8) : Lib.hasPrefix [] [d] = false := rfl
theorem tp_nil (d : UInt8) : Lib.trimPrefix [] [d] = [] := rfl
theorem u8_ge (c : UInt8) (n : Nat) (hn : n < 256) : decide ((n : Int) ≤ (c.toNat : Int)) = decide (UInt8.ofNat n ≤ c) := by
  have e : (UInt8.ofNat n).toNat = n := by simp [UInt8.toNat_ofNat']; omega
  simp [UInt8.le_iff_toNat_le, e]
theorem unsign_len (s : List UInt8) : (unsign s).length ≤ s.length := by
  unfold unsign; split
  · split <;> simp
  · simp
theorem pad_len (p : List UInt8) : (pad p).length = 6 := by simp [pad]
theorem splitW_len (s : List UInt8) : (splitW s).length ≤ s.length := tw_len s
theorem splitP_len (s : List UInt8) : (splitP s).length ≤ s.length := by
  unfold splitP
  have h := List.Sublist.length_le (List.dropWhile_sublist (p := isD) (l := s))
  split
  · rename_i c t hd
    rw [hd] at h; simp only [List.length_cons] at h
    split
    · have := tw_len t; omega
    · simp
  · simp
theorem pad_all {p : List UInt8} (h : p.all isD = true) : (pad p).all isD = true := by
  rw [List.all_eq_true] at h ⊢
  intro x hx
  have := List.mem_of_mem_take hx
  rcases List.mem_append.1 this with h1 | h1
  · exact h x h1
  · simp at h1; subst h1; decide
theorem splitP_all (s : List UInt8) : (splitP s).all isD = true := by
  unfold splitP
  split
  · split
    · exact all_tw _
    · rfl
  · rfl

def numAV (x : Except Nat Int) : AV := match x with
  | .ok n => .tup [.agg [.bool false, .int .i64 n], .int .i64 0]
  | .error e => .tup [.agg [.bool false, .int .i64 0], .int .i64 e]
end Go.Proofs.YtipncibiodfmdaaGreatDoor
