import Derived.Test.YtdbhocoeolhjhaaGreatDoorFaLJz
import Derived.Test.YtdbhocoeolhjhaaGreatDoorBn12
import Derived.Test.YtdbhocoeolhjhaaGreatDoorCards
import Derived.Test.YtdbhocoeolhjhaaGreatDoorTie
import Derived.Test.YtdbhocoeolhjhaaGreatDoorRnG
namespace Go.Proofs.YtdbhocoeolhjhaaGreatDoor
open Go.ChangeShapes Go.WideShapes Go.ChangeAt Go.RowKit Go.ChangeMaps Go.Abs
theorem z2t:Rows.ShelfFallsSaid:=OpenClaim.holds_of_wide 5 Tryz.f5 rfl rfl rfl rfl rfl rfl rfl ⟨rfl,rfl,rfl,rfl,rfl⟩ rfl rfl rfl rfl rfl (by kernel_rfl) Tryz.func5 zww
  (of_decide_eq_true (by kernel_rfl)) (by unfold Func.isWrapper;first|(rw[if_pos (by decide+kernel)];kernel_rfl)|(rw[if_neg (by decide+kernel)];exact⟨rfl,rfl⟩))
  (λc a H b _=>zuZ c a H b)
theorem sfalls_holds:Rows.ShelfFallsCardSaid:=
 Claim7.holds_tied_plain_at .later [] [.data,.data,.data,.data,.sentinel,.sentinel,.data,.pinned] true (true, "401ee0bb4ff5e615c932a5be95cd3973cec291ae7f7d160821d4b3326a133d54") true z2t (λ_ h=>by cases h) (by kernel_rfl) (λ_ h=>by cases h) shelfFalls_row_tie rfl ⟨rfl,rfl⟩ (by kernel_rfl) rfl
 (λf g a b=>by
  obtain rfl:f=5:=Option.some.inj ((show Tryz.prog.funcNamed "isobar/isobarlaw21.ShelfFalls" =some 5 by kernel_rfl).symm.trans a) |>.symm
  obtain rfl:g=Tryz.f5:=(Option.some.inj (Tryz.func5.symm.trans b)).symm
  exact⟨by kernel_rfl,λj t h=>by
   rw[Tryz.params5]at h
   match j,h with
   |0,h=>obtain rfl:t=22:=(by simpa using h.symm);exact(show Tryz.prog.wantsStandIn 22=false by kernel_rfl)
   |1,h=>obtain rfl:t=78:=(by simpa using h.symm);exact(show Tryz.prog.wantsStandIn 78=false by kernel_rfl)
   |j+2,h=>simp at h⟩)
 (zyp zCf rfl)
end Go.Proofs.YtdbhocoeolhjhaaGreatDoor
