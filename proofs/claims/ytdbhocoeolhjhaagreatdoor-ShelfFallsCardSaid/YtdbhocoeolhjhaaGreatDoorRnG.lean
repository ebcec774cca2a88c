import Derived.Test.YtdbhocoeolhjhaaGreatDoorRows
import Derived.SevenTiedAt
namespace Go.Proofs.YtdbhocoeolhjhaaGreatDoor
theorem z90 {l:List FuncId}{P:Program}(h:P.funcs.any Func.goes=false):(l.any fun g => (P.funcs[g]?).any Func.goes)=false:=by
 rw[List.any_eq_false]
 intro g _ hg
 cases hx:P.funcs[g]? with
 | none => rw[hx] at hg; cases hg
 | some fn =>
   rw[hx] at hg
   have:P.funcs.any Func.goes=true:=Array.any_eq_true'.2 ⟨fn, Array.mem_of_getElem? hx, hg⟩
   rw[h] at this
   cases this
theorem z6o {P:Program}(h:P.funcs.any Func.goes=false) (f:FuncId):P.goes f=false:=by
 unfold Program.goes
 rw[z90 h, h, Bool.and_false]; rfl
theorem zyp {P:Program}(h:P.funcs.any Func.goes=false){c:OpenClaim}(hs:c.start=.entering):false=c.goesBy P:=by
 unfold OpenClaim.goesBy Program.goesAt Program.goesFrom
 rw[hs]
 cases P.funcNamed c.func with
 | none => rfl
 | some f => simp [z6o h f]
theorem zCf:Tryz.prog.funcs.any Func.goes=false:=by kernel_rfl
