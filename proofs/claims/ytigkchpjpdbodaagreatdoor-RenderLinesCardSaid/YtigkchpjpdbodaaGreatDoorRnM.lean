/- Render: a constant line, whatever the number and the time. -/
import Derived.Test.YtigkchpjpdbodaaGreatDoorBn1
import Derived.Test.YtigkchpjpdbodaaGreatDoorBn2
import Derived.Test.YtigkchpjpdbodaaGreatDoorBn3
import Derived.Test.YtigkchpjpdbodaaGreatDoorBn4
import Derived.Test.YtigkchpjpdbodaaGreatDoorBn5
import Derived.Test.YtigkchpjpdbodaaGreatDoorBn6
import Derived.Test.YtigkchpjpdbodaaGreatDoorBn7
import Derived.Test.YtigkchpjpdbodaaGreatDoorRnX
set_option linter.unusedSimpArgs false
set_option linter.unusedVariables false
set_option linter.constructorNameAsVariable false
namespace Go.Proofs.YtigkchpjpdbodaaGreatDoor
open Go.Abs Go.Tgt Go.Rnd
variable {G : Globs}
theorem text28_ok (v : Int) (h0 : -9223372036854775808 ≤ v) (h1 : v ≤ 9223372036854775807) : PCalls Tryz.prog n_isobarlaw28_text [.agg [.bool false, .int .i64 v]] (fun r => r = .str (Dec.prn false v)) := by
  refine pcalls_of_awp hmix c_isobarlaw28_text rfl ?_
  simp [a_isobarlaw28_text]
  refine ac_same (rPrint_ok false v h0 h1) (by simp) ?_
  rintro r rfl
  simp
theorem lines28_law [GDec] [GSpcT] [GFam] (nl : Bool) (v : Int) (h0 : -9223372036854775808 ≤ v) (h1 : v ≤ 9223372036854775807) (a b : Nat) (ha : a ≤ 65535) (hb : b ≤ 65535) :
    PCalls Tryz.prog n_isobarlaw28_RenderLines [.agg [.bool nl, .int .i64 v], .int .u16 a, .int .u16 b] (fun r => r = .bool true) := by
  refine lines_law alive28_ok board_ok (text28_ok v h0 h1) (fun hv => ?_) a b ha hb (fun hv => ?_)
  · have := Dec.prn_len hv (by omega)
    omega
  · have hl := line_len hv (by omega)
    exact rEval_ok (dPrint_ok false v h0 h1) bright_ok (parseT_ok (by omega) (parse_line hv (by omega))) a (a + 1 + b) ha (by omega) (by omega)
end Go.Proofs.YtigkchpjpdbodaaGreatDoor
