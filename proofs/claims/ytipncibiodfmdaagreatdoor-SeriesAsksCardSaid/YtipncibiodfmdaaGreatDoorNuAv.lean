/- Bits of 64-bit numbers, as the machine's operations yield them. -/
import Derived.Test.YtipncibiodfmdaaGreatDoorAbs2
import Derived.Test.YtipncibiodfmdaaGreatDoorNuBits
set_option linter.unusedSimpArgs false
set_option linter.unusedVariables false
namespace Go.Num
open Go.Abs
theorem u64_of (a : Nat) (h : a < 18446744073709551616) : (BitVec.ofInt 64 (a : Int)).toNat = a := by
  rw [BitVec.toNat_ofInt]
  omega
theorem u64_wrap (a : Nat) (h : a < 18446744073709551616) : IntKind.u64.wrap (a : Int) = a := by
  have := Go.IntKind.wrap
  simp [IntKind.wrap, IntKind.signed, IntKind.bits]; omega
theorem and_one (a : Nat) (h : a < 18446744073709551616) : bitOp .and .u64 (a : Int) 1 = some ((a % 2 : Nat) : Int) := by
  have e : (BitVec.ofInt 64 (a : Int) &&& BitVec.ofInt 64 1).toNat = a % 2 := by
    rw [BitVec.toNat_and, u64_of a h, show (BitVec.ofInt 64 1).toNat = 1 by decide, Nat.and_one_is_mod]
  show some (IntKind.u64.wrap ((BitVec.ofInt 64 (a : Int) &&& BitVec.ofInt 64 1).toNat : Int)) = _
  rw [e, u64_wrap _ (by omega)]
theorem or_nat (a b : Nat) (h : a < 18446744073709551616) (h2 : b < 18446744073709551616) : bitOp .or .u64 (a : Int) (b : Int) = some ((a ||| b : Nat) : Int) := by
  have e : (BitVec.ofInt 64 (a : Int) ||| BitVec.ofInt 64 (b : Int)).toNat = a ||| b := by
    rw [BitVec.toNat_or, u64_of a h, u64_of b h2]
  have hlt : a ||| b < 18446744073709551616 := Nat.or_lt_two_pow (n := 64) h h2
  show some (IntKind.u64.wrap ((BitVec.ofInt 64 (a : Int) ||| BitVec.ofInt 64 (b : Int)).toNat : Int)) = _
  rw [e, u64_wrap _ hlt]
theorem shr_nat (a n : Nat) (h : a < 18446744073709551616) (hn : n ≤ 64) : shiftOp .shr .u64 (a : Int) n = some ((a / 2 ^ n : Nat) : Int) := by
  show some ((a : Int).fdiv (2 ^ min n 64)) = _
  rw [Nat.min_eq_left hn]
  congr 1
  rw [show ((2 : Int) ^ n) = ((2 ^ n : Nat) : Int) by push_cast; rfl]
  exact Int.ofNat_fdiv _ _ |>.symm
theorem shl_nat (a n : Nat) (hn : n ≤ 64) : shiftOp .shl .u64 (a : Int) n = some ((a * 2 ^ n % 18446744073709551616 : Nat) : Int) := by
  show some (IntKind.u64.wrap ((a : Int) * 2 ^ min n 64)) = _
  rw [Nat.min_eq_left hn]
  rw [show (a : Int) * 2 ^ n = ((a * 2 ^ n : Nat) : Int) by push_cast; rfl]
  simp [IntKind.wrap, IntKind.signed, IntKind.bits]
end Go.Num
