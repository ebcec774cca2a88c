/- Numbers as text: Whole, and the document's. -/
import Derived.Test.YtipncibiodfmdaaGreatDoorDcD
set_option linter.unusedSimpArgs false
set_option linter.unusedVariables false
set_option linter.constructorNameAsVariable false
set_option maxHeartbeats 2000000
namespace Go.Proofs.YtipncibiodfmdaaGreatDoor
open Go.Abs Go.Dec
variable {G : Globs}
def wholeAV (x : Except Nat Int) : AV := match x with
  | .ok n => .tup [.int .i64 n, .int .i64 0]
  | .error e => .tup [.int .i64 0, .int .i64 e]
theorem dval_mono {l : List UInt8} {n : Nat} (c : UInt8) (h : n < dval 0 l) : n < dval 0 (l ++ [c]) := by
  have e : dval 0 (l ++ [c]) = dval 0 l * 10 + dig c := by rw [dval_append, dval_cons, dval_nil]
  omega
theorem dval_more {n : Nat} : ∀ (m l : List UInt8), n < dval 0 l → n < dval 0 (l ++ m)
  | [], l, h => by simpa using h
  | c :: m, l, h => by
    have := dval_more m (l ++ [c]) (dval_mono c h)
    simpa using this

end Go.Proofs.YtipncibiodfmdaaGreatDoor
