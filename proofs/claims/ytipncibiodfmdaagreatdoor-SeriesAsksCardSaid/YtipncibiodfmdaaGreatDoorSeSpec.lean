/- Numbers over time, in plain Lean: which values of a series stand in a span of time. -/
import Derived.Test.YtipncibiodfmdaaGreatDoorNuRef
set_option linter.unusedSimpArgs false
set_option linter.unusedVariables false
namespace Go.Ser
open Go.Num
/-- How many values of a series (its start, its step, how many) stand ahead of a time. -/
def placeN (st sp : Int) (n : Nat) (t : Int) : Nat := if t ≤ st then 0 else min n ((t - st + sp - 1) / sp).toNat
theorem placeN_le (st sp : Int) (n : Nat) (t : Int) : placeN st sp n t ≤ n := by
  unfold placeN; split
  · omega
  · exact Nat.min_le_left _ _
theorem place_iff {st sp t : Int} {n i : Nat} (hs : 0 < sp) (hi : i < n) : placeN st sp n t ≤ i ↔ t ≤ st + i * sp := by
  unfold placeN
  have hip : 0 ≤ (i : Int) * sp := Int.mul_nonneg (Int.natCast_nonneg i) (by omega)
  split
  · constructor
    · intro _; omega
    · intro _; omega
  · have hq : 0 ≤ (t - st + sp - 1) / sp := Int.ediv_nonneg (by omega) (by omega)
    have key : (t - st + sp - 1) / sp < (i : Int) + 1 ↔ t - st + sp - 1 < ((i : Int) + 1) * sp := Int.ediv_lt_iff_lt_mul hs
    have e : ((i : Int) + 1) * sp = i * sp + sp := by rw [Int.add_mul, Int.one_mul]
    rw [e] at key
    constructor
    · intro h
      have : ((t - st + sp - 1) / sp).toNat ≤ i := by omega
      have := key.1 (by omega)
      omega
    · intro h
      have := key.2 (by omega)
      omega
/-- The values from a time on, and ahead of another one, one by one. -/
def betw (st sp f u : Int) : Nat → List N → List N
  | _, [] => []
  | i, v :: l => if f ≤ st + i * sp ∧ st + i * sp < u then v :: betw st sp f u (i + 1) l else betw st sp f u (i + 1) l
theorem betw_slice (st sp f u : Int) (hs : 0 < sp) (V : List N) : ∀ (l : List N) (i : Nat), l = V.drop i → i ≤ V.length →
    betw st sp f u i l = (V.take (placeN st sp V.length u)).drop (max i (placeN st sp V.length f))
  | [], i, h, hi => by
    have hl := congrArg List.length h
    rw [List.length_drop] at hl
    simp only [List.length_nil] at hl
    rw [betw, List.drop_of_length_le]
    rw [List.length_take]; omega
  | v :: l, i, h, hi => by
    have hl := congrArg List.length h
    rw [List.length_drop, List.length_cons] at hl
    have hiV : i < V.length := by omega
    have hv : V[i]? = some v := by
      have := congrArg (fun l => l[0]?) h
      simpa using this.symm
    have hl2 : l = V.drop (i + 1) := by
      have := congrArg (List.drop 1) h
      simpa [List.drop_drop, Nat.add_comm] using this
    have ih := betw_slice st sp f u hs V l (i + 1) hl2 (by omega)
    have hf := place_iff (t := f) (st := st) hs hiV
    have hu := place_iff (t := u) (st := st) hs hiV
    rw [betw, ih]
    by_cases h1 : f ≤ st + i * sp ∧ st + i * sp < u
    · rw [if_pos h1]
      have p1 := hf.2 h1.1
      have p2 : ¬ placeN st sp V.length u ≤ i := fun h => by have := hu.1 h; omega
      rw [Nat.max_eq_left p1, Nat.max_eq_left (by omega)]
      have : (V.take (placeN st sp V.length u))[i]? = some v := by rw [List.getElem?_take_of_lt (by omega)]; exact hv
      obtain ⟨hlt, hge⟩ := List.getElem?_eq_some_iff.1 this
      rw [List.drop_eq_getElem_cons hlt, hge]
    · rw [if_neg h1]
      by_cases p1 : placeN st sp V.length f ≤ i
      · have q1 := hf.1 p1
        have p2 : placeN st sp V.length u ≤ i := hu.2 (by omega)
        rw [List.drop_of_length_le (by rw [List.length_take]; omega), List.drop_of_length_le (by rw [List.length_take]; omega)]
      · rw [Nat.max_eq_right (by omega), Nat.max_eq_right (by omega)]
end Go.Ser
