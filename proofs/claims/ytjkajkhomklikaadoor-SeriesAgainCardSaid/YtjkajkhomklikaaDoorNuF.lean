/- Numbers: the document's numbers. -/
import Derived.Test.YtjkajkhomklikaaDoorNuE
set_option linter.unusedSimpArgs false
set_option linter.unusedVariables false
set_option linter.constructorNameAsVariable false
set_option maxHeartbeats 2000000
namespace Go.Num
open Go.Abs
theorem numA_eq (n : N) : numA n = .agg [.bool n.1, .int .i64 n.2] := rfl
theorem sgn_abs (v : Int) : sgn (decide (v < 0)) v.natAbs = v := by
  unfold sgn; by_cases h : v < 0 <;> simp [h] <;> omega
end Go.Num
namespace Go.Proofs.YtjkajkhomklikaaDoor
open Go.Abs Go.Num
variable {G : Globs}
theorem rnRight_ok (n : N) (h : okN n) : PCalls Tryd.prog n_isobarref02_Right [numA n] (fun r => r = .bool (rightN n)) := by
  refine pcalls_of_awp hmix c_isobarref02_Right rfl ?_
  obtain ⟨b, v⟩ := n
  obtain ⟨h1, h2⟩ := h
  simp only at h1 h2
  cases b
  · have e : (!decide (v = -9223372036854775808)) = decide (-most ≤ v) := by
      unfold most
      by_cases h : v = -9223372036854775808
      · have : ¬ (-9223372036854775807 ≤ v) := by omega
        simp [h]
      · have : -9223372036854775807 ≤ v := by omega
        simp [h, this]
    simp [a_isobarref02_Right, numA, rightN]
    rw [← e]; simp
  · simp [a_isobarref02_Right, numA, rightN]
theorem right_good (n : N) : (rightN n && !n.1) = good n := by
  obtain ⟨b, v⟩ := n
  cases b <;> simp [rightN, good]
end Go.Proofs.YtjkajkhomklikaaDoor
