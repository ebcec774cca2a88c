/- Numbers as text: the document's Digits and Print. -/
import Derived.Test.YtjkajkhomklikaaDoorDcJ
set_option linter.unusedSimpArgs false
set_option linter.unusedVariables false
set_option linter.constructorNameAsVariable false
set_option maxHeartbeats 2000000
namespace Go.Dec
theorem dig_text {d : Nat} (h : d < 10) : ([48, 49, 50, 51, 52, 53, 54, 55, 56, 57] : List UInt8)[d]? = some (UInt8.ofNat (48 + d)) := by
  have : ∀ i : Fin 10, ([48, 49, 50, 51, 52, 53, 54, 55, 56, 57] : List UInt8)[i.val]? = some (UInt8.ofNat (48 + i.val)) := by decide
  exact this ⟨d, h⟩
theorem dig_slice {d : Nat} (h : d < 10) : (([48, 49, 50, 51, 52, 53, 54, 55, 56, 57] : List UInt8).take (d + 1)).drop d = [UInt8.ofNat (48 + d)] := by
  have : ∀ i : Fin 10, (([48, 49, 50, 51, 52, 53, 54, 55, 56, 57] : List UInt8).take (i.val + 1)).drop i.val = [UInt8.ofNat (48 + i.val)] := by decide
  exact this ⟨d, h⟩
theorem fr_step {k p : Nat} (hm : p * 10 ^ (k + 1) % 1000000 = 0) : (p % 100000 * 10) * 10 ^ k % 1000000 = 0 := by
  have e : p * 10 ^ (k + 1) = (p % 100000 * 10) * 10 ^ k + p / 100000 * 10 ^ k * 1000000 := by
    have := Nat.div_add_mod p 100000
    rw [Nat.pow_succ]
    generalize p / 100000 = a at *
    generalize p % 100000 = b at *
    rw [← this, Nat.add_mul, ← Nat.mul_assoc, ← Nat.mul_assoc, Nat.mul_assoc 100000, Nat.mul_right_comm b 10]
    omega
  rw [e] at hm
  omega
theorem dd_step (m : Nat) : Lib.decDigits m = (if m / 10 = 0 then [] else Lib.decDigits (m / 10)) ++ [UInt8.ofNat (48 + m % 10)] := by
  rw [Lib.decDigits]
  split
  · rename_i h
    have h1 : m / 10 = 0 := by omega
    have h2 : m % 10 = m := by omega
    rw [if_pos h1, h2]
    rfl
  · rename_i h
    rw [if_neg (by omega)]
end Go.Dec
namespace Go.Proofs.YtjkajkhomklikaaDoor
open Go.Abs Go.Dec
variable {G : Globs}

end Go.Proofs.YtjkajkhomklikaaDoor
