/- Render: the fixed fact of the laws, evaluated. -/
import Derived.Test.YtigkchpjpdbodaaGreatDoorBn1
import Derived.Test.YtigkchpjpdbodaaGreatDoorBn2
import Derived.Test.YtigkchpjpdbodaaGreatDoorBn3
import Derived.Test.YtigkchpjpdbodaaGreatDoorBn4
import Derived.Test.YtigkchpjpdbodaaGreatDoorBn5
import Derived.Test.YtigkchpjpdbodaaGreatDoorBn6
import Derived.Test.YtigkchpjpdbodaaGreatDoorBn7
set_option linter.unusedSimpArgs false
set_option linter.unusedVariables false
set_option linter.constructorNameAsVariable false
set_option maxHeartbeats 2000000
namespace Go.Proofs.YtigkchpjpdbodaaGreatDoor
open Go.Abs Go.Tgt Go.Rnd
def tg1 : List UInt8 := [115, 117, 109, 83, 101, 114, 105, 101, 115, 40, 97, 46, 42, 41]
def tg2 : List UInt8 := [116, 105, 109, 101, 83, 104, 105, 102, 116, 40, 97, 46, 98, 44, 54, 48, 41]
def nds1 : List Nd := [⟨1, [97, 46, 42], 0, []⟩, ⟨4, [115, 117, 109, 83, 101, 114, 105, 101, 115], 0, [0]⟩]
def nds2 : List Nd := [⟨1, [97, 46, 98], 0, []⟩, ⟨2, [], 60000000, []⟩, ⟨4, [116, 105, 109, 101, 83, 104, 105, 102, 116], 0, [0, 1]⟩]
theorem tg1_eq : parseS nodE tg1 = .ok nds1 := by kernel_rfl
theorem tg2_eq : parseS nodE tg2 = .ok nds2 := by kernel_rfl
variable [Globs]
noncomputable def cfgA : Evr := { P := Tryz.prog, code := compFn Tryz.prog [38, 1000000 + 78], keep := fun g => Nat.beq g 38, wr := fun g => Nat.beq g 38, orac := noE }
noncomputable def copE : ECall := fun g args σ => if Nat.beq g 38 = true then evFn cfgA 10000 50 g args σ else none
theorem copE_ok : CallOK Tryz.prog copE := by
  intro g args σ r σ' h
  unfold copE at h
  split at h
  · exact evFn_ok (C := cfgA) hmix (fun g af h => ⟨_, h⟩) noE_ok 10000 50 _ _ _ _ _ h
  · cases h
noncomputable def cfgB : Evr := { P := Tryz.prog, code := compFn Tryz.prog [78, 38, 1000000 + 78], keep := fun g => [78, 38].contains g, wr := fun _ => false, orac := copE }
theorem board_ev : evFn cfgB 100000 60 7 [] [] = some (.agg boardC, []) := by kernel_rfl
theorem board_ok : PCalls Tryz.prog 7 [] (fun r => r = .agg boardC) :=
  ev_pure (evFn_ok (C := cfgB) hmix (fun g af h => ⟨_, h⟩) copE_ok 100000 60) board_ev
def ldX : List Nat := [321, 372, 373, 395, 374, 324,
  1000000 + 224, 139, 302, 1000000 + 139, 18, 20,
  45, 50, 65, 64, 13, 30, 31, 1000000 + 116]
def kpX : List Nat := [321, 372, 373, 395, 139, 302,
  18, 20, 45, 50, 65, 64, 13, 30, 31]
noncomputable def cfgX (o : ECall) : Evr := { P := Tryz.prog, code := compFn Tryz.prog ldX, keep := fun g => kpX.contains g, wr := fun g => Nat.beq g 65, orac := o }
theorem cfgX_ok {o : ECall} (h : CallOK Tryz.prog o) : CallOK Tryz.prog (evFn (cfgX o) 100000 60) := evFn_ok (C := cfgX o) hmix (fun g af h => ⟨_, h⟩) h 100000 60
theorem right_ev : evFn (cfgX libE) 100000 60 11 [.agg boardC] [] = some (.bool true, []) := by kernel_rfl
theorem bright_ok [GSpcT] [GPow] : PCalls Tryz.prog 11 [.agg boardC] (fun r => r = .bool true) := ev_pure (cfgX_ok libE_ok) right_ev
theorem parseT_ok [GDec] [GSpcT] [GFam] {s : List UInt8} {l : List Nd} (hs : s.length ≤ 1024) (h : parseS nodE s = .ok l) : PCalls Tryz.prog 12 [.str s] (fun r => r = .tup [.lst (ndEls l), .int .i64 0]) := by
  have := tParse_ok s (by omega) fun t ht => (split_tkOk ht).1
  rw [h] at this
  exact this
noncomputable def orP : ECall := orE (facE 12 [.str tg1] (.tup [.lst (ndEls nds1), .int .i64 0])) (orE (facE 12 [.str tg2] (.tup [.lst (ndEls nds2), .int .i64 0])) (orE (facE 11 [.agg boardC] (.bool true)) libE))
theorem orP_ok [GDec] [GSpcT] [GFam] : CallOK Tryz.prog orP :=
  orE_ok (facE_ok (parseT_ok (by decide) tg1_eq)) (orE_ok (facE_ok (parseT_ok (by decide) tg2_eq)) (orE_ok (facE_ok bright_ok) libE_ok))
def rq1 : AV := .agg [.str tg1, .int .i64 180, .int .i64 301, .bool false]
def rq2 : AV := .agg [.str tg2, .int .i64 240, .int .i64 301, .bool true]
def an1 : AV := .tup [.lst [[.str [115, 117, 109, 83, 101, 114, 105, 101, 115, 40, 97, 46, 98, 44, 97, 46, 99, 41], .int .i64 180, .int .i64 60, .lst [[.bool true, .int .i64 0], [.bool false, .int .i64 3000000], [.bool true, .int .i64 0]]]], .int .i64 0]
def an2 : AV := .tup [.lst [[.str tg2, .int .i64 240, .int .i64 60, .lst [[.bool true, .int .i64 0], [.bool false, .int .i64 1000000]]]], .int .i64 0]
theorem eval1_ev : evFn (cfgX orP) 100000 60 6 [.agg boardC, rq1] [] = some (an1, []) := by kernel_rfl
theorem eval2_ev : evFn (cfgX orP) 100000 60 6 [.agg boardC, rq2] [] = some (an2, []) := by kernel_rfl
noncomputable def orR : ECall := orE (facE 6 [.agg boardC, rq1] an1) (orE (facE 6 [.agg boardC, rq2] an2) libE)
theorem orR_ok [GDec] [GSpcT] [GFam] : CallOK Tryz.prog orR :=
  orE_ok (facE_ok (ev_pure (cfgX_ok orP_ok) eval1_ev)) (orE_ok (facE_ok (ev_pure (cfgX_ok orP_ok) eval2_ev)) libE_ok)
def rp1 : AV := .tup [.str [115, 117, 109, 83, 101, 114, 105, 101, 115, 40, 97, 46, 98, 44, 97, 46, 99, 41, 44, 49, 56, 48, 44, 51, 54, 48, 44, 54, 48, 124, 78, 111, 110, 101, 44, 51, 44, 78, 111, 110, 101, 10], .int .i64 0]
def rp2 : AV := .tup [.str ([34] ++ tg2 ++ [34, 44, 50, 52, 48, 44, 10, 34] ++ tg2 ++ [34, 44, 51, 48, 48, 44, 49, 10]), .int .i64 0]
theorem reply1_ev : evFn (cfgX orR) 100000 60 8 [.agg boardC, rq1] [] = some (rp1, []) := by kernel_rfl
theorem reply2_ev : evFn (cfgX orR) 100000 60 8 [.agg boardC, rq2] [] = some (rp2, []) := by kernel_rfl
noncomputable def orL : ECall := orE (facE 8 [.agg boardC, rq1] rp1) (orE (facE 8 [.agg boardC, rq2] rp2) (facE 7 [] (.agg boardC)))
theorem orL_ok [GDec] [GSpcT] [GFam] : CallOK Tryz.prog orL :=
  orE_ok (facE_ok (ev_pure (cfgX_ok orR_ok) reply1_ev)) (orE_ok (facE_ok (ev_pure (cfgX_ok orR_ok) reply2_ev)) (facE_ok board_ok))
theorem alive_ev : evFn (cfgX orL) 100000 60 4 [] [] = some (.bool true, []) := by kernel_rfl
theorem alive28_ok [GDec] [GSpcT] [GFam] : PCalls Tryz.prog 4 [] (fun r => r = .bool true) := ev_pure (cfgX_ok orL_ok) alive_ev
end Go.Proofs.YtigkchpjpdbodaaGreatDoor
