/- Numbers as text: the laws of what is printed and parsed again, and of shorter texts. -/
import Derived.Test.YtipncibiodfmdaaGreatDoorDcG
import Derived.Test.YtipncibiodfmdaaGreatDoorDcI
set_option linter.unusedSimpArgs false
set_option linter.unusedVariables false
set_option linter.constructorNameAsVariable false
set_option maxHeartbeats 2000000
namespace Go.Dec
theorem parse_bound {s : List UInt8} {m : Int} (h : parse s = .ok m) : m ≠ -9223372036854775808 ∧ m.natAbs ≤ 9223372036854775807 := by
  unfold parse at h
  by_cases h1 : 64 < s.length
  · rw [if_pos h1] at h; cases h
  rw [if_neg h1] at h
  cases hp : parts (unsign s) with
  | none => rw [hp] at h; cases h
  | some wp =>
    obtain ⟨w, p⟩ := wp
    rw [hp] at h
    dsimp only at h
    obtain ⟨n, hn⟩ : ∃ n, n = dval 0 (w ++ pad p) + (if upB p = true then 1 else 0) := ⟨_, rfl⟩
    rw [← hn] at h
    by_cases hx : 9223372036854775807 < n
    · rw [if_pos hx] at h; cases h
    · rw [if_neg hx] at h
      cases hb : below s <;> simp [hb] at h <;> omega
theorem parse_err {s : List UInt8} {e : Nat} (h : parse s = .error e) : e ≠ 0 := by
  unfold parse at h
  by_cases h1 : 64 < s.length
  · rw [if_pos h1] at h; cases h; decide
  rw [if_neg h1] at h
  cases hp : parts (unsign s) with
  | none => rw [hp] at h; cases h; decide
  | some wp =>
    obtain ⟨w, p⟩ := wp
    rw [hp] at h
    dsimp only at h
    obtain ⟨n, hn⟩ : ∃ n, n = dval 0 (w ++ pad p) + (if upB p = true then 1 else 0) := ⟨_, rfl⟩
    rw [← hn] at h
    by_cases hx : 9223372036854775807 < n
    · rw [if_pos hx] at h; cases h; decide
    · rw [if_neg hx] at h
      cases h
theorem prn_pos (v : Int) : 1 ≤ (prn false v).length := by
  unfold prn
  split
  · simp
  · have := dd_ne (v.natAbs / 1000000)
    have : 1 ≤ (Lib.decDigits (v.natAbs / 1000000)).length := by
      cases h : Lib.decDigits (v.natAbs / 1000000) with
      | nil => exact absurd h this
      | cons => simp
    simp only [List.length_append]
    omega
end Go.Dec
namespace Go.Proofs.YtipncibiodfmdaaGreatDoor
open Go.Abs Go.Dec
variable {G : Globs}

theorem rRight_ok (nl : Bool) (v : Int) : PCalls Tryz.prog n_isobarref02_Right [.agg [.bool nl, .int .i64 v]] (fun r => r = .bool (if nl then decide (v = 0) else !decide (v = -9223372036854775808))) := by
  refine pcalls_of_awp hmix c_isobarref02_Right rfl ?_
  simp [a_isobarref02_Right]
  cases nl with
  | true => simp
  | false => simp

end Go.Proofs.YtipncibiodfmdaaGreatDoor
