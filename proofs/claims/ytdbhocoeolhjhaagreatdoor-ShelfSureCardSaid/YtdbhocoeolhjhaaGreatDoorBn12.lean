/- The package's variables that Shelf reads: the steps of a sum; what the row's condition says. The package's variables that shelf.Open reads: the steps  -/
import Derived.Test.YtdbhocoeolhjhaaGreatDoorRows
import Derived.ProofKit
import Derived.LaidLaws
import Derived.Lib.LaidIn
import Derived.Lib.LaidU8
import Derived.Stop.LaidErr
import Derived.Shelf.Vars
import Derived.Carry
import Derived.Handed
import Derived.SevenTiedAt
import Derived.Test.YtdbhocoeolhjhaaGreatDoorSfSUJz
import Derived.Test.YtdbhocoeolhjhaaGreatDoorBn1
import Derived.Test.YtdbhocoeolhjhaaGreatDoorBn2
import Derived.Test.YtdbhocoeolhjhaaGreatDoorBn3
import Derived.Test.YtdbhocoeolhjhaaGreatDoorBn4
import Derived.Test.YtdbhocoeolhjhaaGreatDoorBn5
import Derived.Test.YtdbhocoeolhjhaaGreatDoorBn6
import Derived.Test.YtdbhocoeolhjhaaGreatDoorBn7
import Derived.Test.YtdbhocoeolhjhaaGreatDoorBn8
import Derived.Test.YtdbhocoeolhjhaaGreatDoorBn9
import Derived.Test.YtdbhocoeolhjhaaGreatDoorBn10
import Derived.Test.YtdbhocoeolhjhaaGreatDoorBn11
set_option linter.unusedSimpArgs false
set_option linter.unusedVariables false
set_option linter.constructorNameAsVariable false
section
namespace Go.Proofs.YtdbhocoeolhjhaaGreatDoor
open Go.ChangeShapes Go.WideShapes Go.ChangeAt Go.RowKit Go.ChangeMaps Go.Abs Go.Sf
theorem z6O {P:Program}{w:World}{n:String}{d:DataW Unit}:∀{l:List (String×DataW Unit)},laidMet P l w->(n,d)∈l->∃r,laidMet P ((n,d)::r) w
 | [],_,hm=>by cases hm
 |x::l,h,hm=>by
  rcases ybb.1 hm with e|e
  ·subst e;exact⟨l,h⟩
  ·exact z6O h.tail e
theorem z1e {P:Program}{w:World}{n:String}{g:Nat}{cs:Array Value}{avs:List AV}{Im:Addr->Prop}(hg:P.globalNamed n=some g)(hv:w.var? P n=some cs)(hlen:cs.size=avs.length)
  (hone:∀c∈avs,c.one=true) (hr:∀j (h:j<avs.length),IR Im w (avs[j]) ((cs[j]?).getD (.bool false))) (hIm:∀j,Im ⟨g,j,none⟩):
  g<w.heap.size/\(∃cs t fz,w.heap[g]? =some (.cells cs t fz)/\cs.size=avs.length)/\IR Im w (.rptr avs) (.pointer (some ⟨g,0,none⟩)):=by
 have b:∃t fz,w.heap[g]? =some (.cells cs t fz):=by
  unfold World.var? at hv
  simp only[hg,ydz]at hv
  split at hv
  ·rename_i c t fz a
   cases hv
   exact⟨t,fz,a⟩
  ·cases hv
 obtain⟨t,fz,a⟩:=b
 refine⟨?_,⟨cs,t,fz,a,hlen⟩, ?_⟩
 ·rcases yd2 g w.heap.size with h|h
  ·exact h
  ·rw[Array.getElem?_eq_none h]at a;cases a
 ·refine .rptr avs g 0 (λj=>(cs[j]?).getD (.bool false)) hone (λj d=>⟨?_, ?_⟩) hr
  ·simpa using hIm j
  ·have:j<cs.size:=by omega
   simp[World.cell?,a,this]
abbrev gStp:Nat:=2
instance sfGlobs:Globs:=⟨[(gStp,stepsC)]⟩
end Go.Proofs.YtdbhocoeolhjhaaGreatDoor
end
section
namespace Go.Proofs.YtdbhocoeolhjhaaGreatDoor
open Go.ChangeShapes Go.WideShapes Go.ChangeAt Go.RowKit Go.ChangeMaps Go.Abs Go.Sf
abbrev gMx:Nat:=0
abbrev zgs (m:Int):Globs:=⟨[(gStp,stepsC),(gMx,[AV.int .i64 m])]⟩
theorem z0D (m:Int):zgo (zgs m):=rfl
theorem sfM (m:Int): @GMaxL (zgs m):= @GMaxL.mk (zgs m) ⟨m,.tail _ (List.Mem.head _)⟩
theorem zAj {w : World} (h : w.ShapedOpen Tryz.prog) : ∃ m, w.var? Tryz.prog "internal/bytealg.MaxLen" = some #[.int .i64 m] := by
 obtain⟨cs,hh,hs, -⟩:=h.1 gMx #[.int .i64 0] 3 (of_decide_eq_true (by kernel_rfl)) (by kernel_rfl)
 obtain⟨m,hm⟩:=Go.Proofs.cell_of_shapedOpen_int (zero:= #[.int .i64 0]) (g:=gMx) (t:=3) h (of_decide_eq_true (by kernel_rfl)) (by kernel_rfl) rfl (by kernel_rfl) (by kernel_rfl) Tryz.underlying3
 have h1:cs.size=1:=hs
 obtain⟨v,rfl⟩:∃v,cs= #[v]:=by
  obtain⟨l⟩:=cs
  match l,h1 with
  | [v],_=>exact⟨v,rfl⟩
 have hg : Tryz.prog.globalNamed "internal/bytealg.MaxLen" = some gMx := by kernel_rfl
 simp[World.cell?,hh]at hm
 subst hm
 exact⟨m,by unfold World.var?;rw[hg];simp[hh]⟩
theorem z8T {l : List (String × DataW Unit)} {w : World} (h : laidMet Tryz.prog l w) (h1 : ("isobar/crc.steps", Rows.laid_isobar_crc_steps) ∈ l) (hs : w.ShapedOpen Tryz.prog) : ∃ m, @z2i (zgs m) w := by
 obtain⟨m,hm⟩:=zAj hs
 refine⟨m, ?_⟩
 letI:Globs:=zgs m
 intro p hp
 have hI:∀g,(∃p∈(zgs m).tab,g=p.1)->∀j, @gIm (zgs m) ⟨g,j,none⟩:=λg hg j=>⟨rfl,hg⟩
 rcases hp with _|⟨_,_|⟨_,hp⟩⟩
 ·obtain⟨r,h⟩:=z6O h h1
  have e:(Rows.laid_isobar_crc_steps:DataW Unit)=Lib.tabData .u32 stepsT:=by kernel_rfl
  rw[e]at h
  have:=Lib.tabIs_of_head (g:=gStp) (by kernel_rfl) (by kernel_rfl) Tryz.underlying364 Tryz.underlying286 (by kernel_rfl) (by kernel_rfl) h
  refine z1e (n := "isobar/crc.steps") (by kernel_rfl) this (by simp [stepsC]) (by simp [AV.one, stepsC]) ?_ (hI _ ⟨_, List.Mem.head _, rfl⟩)
  intro j hj
  have hj':j<stepsT.length:=by simpa[stepsC]using hj
  simp[hj',stepsC]
  exact .int _ _
 ·refine z1e (n := "internal/bytealg.MaxLen") (by kernel_rfl) hm rfl (by simp [AV.one]) ?_ (hI _ ⟨_, .tail _ (List.Mem.head _), rfl⟩)
  intro j hj
  have:j=0:=by simp at hj;omega
  subst this
  exact .int _ _
 ·cases hp
end Go.Proofs.YtdbhocoeolhjhaaGreatDoor
end
section
namespace Go.Proofs.YtdbhocoeolhjhaaGreatDoor
open Go.ChangeShapes Go.WideShapes Go.ChangeAt Go.RowKit Go.ChangeMaps Go.Abs
theorem Tryz.own:ownKnob Tryz.prog.godebug=none:=by kernel_rfl
theorem Tryz.laidOut:laidOutB Tryz.prog=true:=by kernel_rfl
set_option maxRecDepth 1000000 in
theorem z17 (os:Os)(args:Array Value):laidMet Tryz.prog Rows.shelfSureRow.laid ((World.laidAll Tryz.prog os Rows.shelfSureRow.laid).forCall (λ_ _=>0) ⟨#[],args,[]⟩).memory:=
 laidMet_laidAll args (by kernel_rfl) (by kernel_rfl)
set_option maxRecDepth 100000 in
theorem ztF (os:Os)(started:os.Started)(H:Type)(enc:TypeId×Value->H):
  ReturnsInHanded {} Tryz.checked os 6 .any (λw args=>(Rows.shelfSureSpec.pre enc Tryz.prog Tryz.f6 Rows.shelfSureRow.domain false w args/\laidMet Tryz.prog Rows.shelfSureRow.laid w)/\sizedMet enc Tryz.prog Tryz.f6 (OpenSpec.ofChange Rows.shelfSureSpec) false w args)
   (Rows.shelfSureSpec.post enc Tryz.prog Tryz.f6 false true false false):=by
 refine zmU (C:=Tryz.checked) (X:=λw _=>laidMet Tryz.prog Rows.shelfSureRow.laid w) (λ_ _ _ P h=>h.of_heap P) Tryz.own started (by kernel_rfl) Tryz.func6
  (zvU (enc:=enc) (C:=Tryz.checked) (os:=os) (X:=λw _=>laidMet Tryz.prog Rows.shelfSureRow.laid w) (World.laidAll Tryz.prog os Rows.shelfSureRow.laid) #[.slice none 0 0] 8 (World.laidAll_os _ _ _) (by kernel_rfl) (by kernel_rfl) (by kernel_rfl) (by kernel_rfl) (by kernel_rfl) (z17 os _)) ?_
 intro W i args T Z n k a F U y
 have b:∀(j:Nat) t v,Tryz.f6.params[j]? =some t->args[j]? =some v->Value.okWide Tryz.prog W .any i t v:=a
 have c:=F
 obtain⟨p,q,d,I,rfl,J,K⟩:=F
 have G:DataW.TrodAll enc Tryz.prog W 0 (λ_=>true) true Tryz.f6.params.toList args.toList T p:=d
 rw[Tryz.params6]at G b
 obtain⟨L,M,rfl,rfl,D⟩:=trodAll_one G
 obtain⟨rfl,rfl⟩:=trodVars_none I
 simp only[yb4]at c
 have l:∀x∈p,x.block<W.heap.size:=λx Q=>by simpa using c.lt x Q
 have z:=D
 obtain⟨O,o,r,s,f⟩:=z3U (λ_=>rfl) (b 0 _ L rfl rfl) D
 have m:∀q∈M.weights Tryz.prog 22,q≤reachBytes:=λq R=>of_decide_eq_true (ya1.1 y q (DataW.weights_mem_each (j:=0) (by rw[Tryz.params6];rfl) rfl q R))
 have A:=z58 r m
 have B:=z6h s m
 clear d a
 obtain⟨u,g⟩:=(z8T U (.tail _ (.tail _ (.tail _ (.tail _ (.tail _ (.tail _ (List.Mem.head _))))))) k)
 refine(zsr (@z8Z (zgs u) (sfM u) (z0D u) O A B o) g (z6H f (z9p W))).mono λe Y ⟨S,E⟩=> ?_
 subst S
 refine⟨_,rfl,_,_,_,[],p,[],c, ?_, ?_,rfl,E.frame _,λh=>by cases h⟩
 ·exact trodAll_mk1 (shut_bool Tryz.underlying4 true)
 ·exact trodAll_mk1 (Below.trod Tryz.laidOut (by kernel_rfl) (of_decide_eq_true (by kernel_rfl)) z E l)
end Go.Proofs.YtdbhocoeolhjhaaGreatDoor
end
section
namespace Go.Proofs.YtdbhocoeolhjhaaGreatDoor
open Go.ChangeShapes Go.WideShapes Go.ChangeAt Go.RowKit Go.ChangeMaps Go.Abs
theorem z1o:Rows.ShelfSureSaid:=
 OpenClaim.holds_of_wide 6 Tryz.f6 rfl rfl rfl rfl rfl rfl rfl ⟨rfl,rfl,rfl,rfl,rfl⟩ rfl rfl rfl rfl rfl (by kernel_rfl) Tryz.func6 zuk
  (of_decide_eq_true (by kernel_rfl)) (by unfold Func.isWrapper;first|(rw[if_pos (by decide+kernel)];kernel_rfl)|(rw[if_neg (by decide+kernel)];exact⟨rfl,rfl⟩))
  (λc a H b _=>ztF c a H b)
end Go.Proofs.YtdbhocoeolhjhaaGreatDoor
end
