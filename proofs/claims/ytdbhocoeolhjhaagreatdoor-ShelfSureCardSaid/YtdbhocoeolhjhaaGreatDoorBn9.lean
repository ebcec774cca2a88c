/- Shelf: the document's heads, as bytes. Shelf: the document's heads, as bytes: the middle. Shelf: the document's heads, as bytes: a rung. Shelf: the do -/
import Derived.Test.YtdbhocoeolhjhaaGreatDoorBn1
import Derived.Test.YtdbhocoeolhjhaaGreatDoorBn2
import Derived.Test.YtdbhocoeolhjhaaGreatDoorBn3
import Derived.Test.YtdbhocoeolhjhaaGreatDoorBn4
import Derived.Test.YtdbhocoeolhjhaaGreatDoorBn5
import Derived.Test.YtdbhocoeolhjhaaGreatDoorBn6
import Derived.Test.YtdbhocoeolhjhaaGreatDoorBn7
import Derived.Test.YtdbhocoeolhjhaaGreatDoorBn8
set_option linter.unusedSimpArgs false
set_option linter.unusedVariables false
set_option linter.constructorNameAsVariable false
section
set_option maxHeartbeats 8000000
namespace Go.Proofs.YtdbhocoeolhjhaaGreatDoor
open Go.Abs Go.RowKit Go.Sf
variable {G:Globs}
attribute [-simp] zaZ zc9 zbQ zax
def hb2 (p:Txt):Txt:= [lo8 1]++leB p.length 2
def hb5 (p:Txt):Txt:=hb2 p++p++leB 1 1++leB 500000 4++leB 2 1
def hb7 (p:Txt):Txt:=hb5 p++leB 10 4++leB 6 2
end Go.Proofs.YtdbhocoeolhjhaaGreatDoor
end
section
set_option maxHeartbeats 8000000
namespace Go.Proofs.YtdbhocoeolhjhaaGreatDoor
open Go.Abs Go.RowKit Go.Sf
variable {G:Globs}
attribute [-simp] zaZ zc9 zbQ zax
end Go.Proofs.YtdbhocoeolhjhaaGreatDoor
end
section
set_option maxHeartbeats 8000000
namespace Go.Proofs.YtdbhocoeolhjhaaGreatDoor
open Go.Abs Go.RowKit Go.Sf
variable {G:Globs}
attribute [-simp] zaZ zc9 zbQ zax
end Go.Proofs.YtdbhocoeolhjhaaGreatDoor
end
section
set_option maxHeartbeats 8000000
namespace Go.Proofs.YtdbhocoeolhjhaaGreatDoor
open Go.Abs Go.RowKit Go.Sf
variable {G:Globs}
attribute [-simp] zaZ zc9 zbQ zax
end Go.Proofs.YtdbhocoeolhjhaaGreatDoor
end
section
set_option maxHeartbeats 8000000
namespace Go.Proofs.YtdbhocoeolhjhaaGreatDoor
open Go.Abs Go.RowKit Go.Sf
variable {G:Globs}
attribute [-simp] zaZ zc9 zbQ zax
end Go.Proofs.YtdbhocoeolhjhaaGreatDoor
end
section
set_option maxHeartbeats 8000000
namespace Go.Sf
theorem z7h {t k:Nat}(h:t<256^k):leN (leB t k)=t:=by
 have a:=ztx t k
 have b:((t:Int)%((256^k:Nat):Int))=t:=by rw[<-Int.natCast_emod,ybj h]
 omega
theorem z2R {v:Int}(h:i64 v):IntKind.i64.wrap (leN (leB v 8):Int)=v:=by
 have a:=ztx v 8
 have b:((256^8:Nat):Int)=18446744073709551616:=rfl
 rw[b]at a
 rw[a]
 have:=h.1
 have:=h.2
 simp[IntKind.wrap,IntKind.signed,IntKind.bits]
 omega
theorem zi8:∀b:Txt,Abs.bytesOf (Abs.byteEls b)=some b
 | []=>rfl
 |x::b=>by
  have h:=zi8 b
  simp only[Abs.byteEls,yci]at h⊢
  simp[Abs.bytesOf,h]
end Go.Sf
namespace Go.Proofs.YtdbhocoeolhjhaaGreatDoor
open Go.Abs Go.RowKit Go.Sf
variable {G:Globs}
attribute [-simp] zaZ zc9 zbQ zax
end Go.Proofs.YtdbhocoeolhjhaaGreatDoor
end
section
set_option maxHeartbeats 8000000
namespace Go.Sf
open Go.Abs
inductive RecM where
 |pt (t now:Nat) (v:Int)
 |sl (i t:Nat) (v:Int)
def payB:RecM->Txt
 | .pt t now v=>zdw t now v
 | .sl i t v=>zgN i t v
def recC:RecM->List AV
 | .pt t now v=>zci (.lst []) t now v
 | .sl i t v=>zdN (.lst []) i t v
def OkR:RecM->Prop
 | .pt t now v=>t≤1099511627776/\now≤1099511627776/\v≠ -9223372036854775808/\i64 v
 | .sl i t v=>i<4/\t≤1099511627776/\v≠ -9223372036854775808/\i64 v
def zcJ (l:List RecM):Txt:=l.flatMap λr=>zaI (payB r)
def zf5 (path:Txt)(l:List RecM):Txt:=zaI (zdf path)++zcJ l
theorem zzc (l:List RecM)(r:RecM):zcJ (l++ [r])=zcJ l++zaI (payB r):=by simp[zcJ]
theorem z2Z (r:RecM):1≤(payB r).length/\(payB r).length≤512:=by
 cases r
 ·simp[payB,zjC]
 ·simp[payB,zlX]
theorem zpZ (l:List RecM):l.length≤(zcJ l).length:=by
 induction l with
 |nil=>simp
 |cons a l b=>
  have:zcJ (a::l)=zaI (payB a)++zcJ l:=rfl
  rw[this,yaj,zb1,ybc]
  omega
end Go.Sf
namespace Go.Proofs.YtdbhocoeolhjhaaGreatDoor
open Go.Abs Go.RowKit Go.Sf
variable {G:Globs}
attribute [-simp] zaZ zc9 zbQ zax
end Go.Proofs.YtdbhocoeolhjhaaGreatDoor
end
section
set_option maxHeartbeats 1000000
namespace Go.Proofs.YtdbhocoeolhjhaaGreatDoor
open Go.Sf Go.Num
def ptR (a:ArrM):RecM:=.pt a.time a.now a.value
def slM (s:SlR):RecM:=.sl s.rung s.t s.v
theorem ziw (bs:List ArrM):zbT bs=zcJ (bs.map ptR):=by simp[zbT,zcJ,ptR,payB,List.flatMap_map]
theorem zvS (p:Txt)(l:List SlR):zmo p l=zf5 p (l.map slM):=by simp[zmo,zf5,zmV,zcJ,slM,payB,List.flatMap_map]
def Body (path b:Txt):Prop:=∃l,(∀r∈l,OkR r)/\b=zf5 path l
theorem z6S {bs:List ArrM}(h:∀x∈bs,OkA x/\OkV x):∀r∈bs.map ptR,OkR r:=λr d=>by
 obtain⟨x,b,rfl⟩:=yav.1 d
 obtain⟨a,c⟩:=h x b
 have:=a.t
 have:=a.n
 exact⟨by omega,by omega,c,a.v⟩
theorem z9M {l:List SlR}(h:∀x∈l,OkSl x):∀r∈l.map slM,OkR r:=λr b=>by
 obtain⟨x,a,rfl⟩:=yav.1 b
 have:=h x a
 exact⟨this.r,this.t,this.n,this.v⟩
theorem Body.more {p b:Txt}(h:Body p b){bs:List ArrM}(hb:∀x∈bs,OkA x/\OkV x):Body p (b++zbT bs):=by
 obtain⟨l,c,rfl⟩:=h
 refine⟨l++bs.map ptR,λr a=> ?_, ?_⟩
 ·rcases yag.1 a with a|a
  ·exact c r a
  ·exact z6S hb r a
 ·rw[ziw];simp[zf5,zcJ,ya3]
def zAH (s:ShM):Prop:=∀x∈s.mets,∀q kd f,q<70->kd∈zjj->At s.disk (zaD x.id q kd) f->Body x.path f.bytes
variable {s:ShM}{a k:Nat}{p:Txt}
end Go.Proofs.YtdbhocoeolhjhaaGreatDoor
end
section
set_option maxHeartbeats 1000000
namespace Go.Sf
theorem zjf {α:Type}{P:List α->Prop}(h0:P [])(h1:∀l a,P l->P (l++ [a]))(l:List α):P l:=by
 rw[<-List.reverse_reverse l]
 induction l.reverse with
 |nil=>exact h0
 |cons a l b=>rw[List.reverse_cons];exact h1 _ _ b
def zlq (step:Nat)(l A:List Slot):List Slot:=A.foldl (λl s=>setR step l s.1.toNat s.2) l
theorem zzr (step:Nat)(l A:List Slot)(s:Slot):zlq step l (A++ [s])=setR step (zlq step l A) s.1.toNat s.2:=by simp[zlq]
theorem zur (step:Nat)(l A:List Slot):(zlq step l A).length=l.length:=by
 unfold zlq
 induction A generalizing l with
 |nil=>rfl
 |cons s A a=>rw[yep,a,zcM]
theorem zy1 {step n i:Nat}{s:Slot}(h:z6U step n i s)(h1:s.1≠ -1)(hs:0<step):s.1.toNat/step%n=i/\(((s.1.toNat/step*step:Nat):Int),s.2)=s:=by
 rcases h with ⟨a,_⟩|⟨k,a,_,b,_,_⟩
 ·exact absurd a h1
 ·have e:s.1.toNat=k*step:=by rw[a];exact ydk _
  rw[e,ydd _ hs]
  exact⟨b,Prod.ext a.symm rfl⟩
theorem z8w {step:Nat}{l:List Slot}(h:zdc step l)(hs:0<step):∀{A:List Slot},(∀s∈A,s∈l/\s.1≠ -1)->∀(i:Nat) (s:Slot),l[i]? =some s->(zlq step (List.replicate l.length (-1,0)) A)[i]? =some (if s∈A then s else(-1,0)):=λ{A}=>by
 refine zjf (P:=λA=>(∀s∈A,s∈l/\s.1≠ -1)->∀(i:Nat) (s:Slot),l[i]? =some s->(zlq step (List.replicate l.length (-1,0)) A)[i]? =some (if s∈A then s else(-1,0))) ?_ ?_ A
 ·intro _ i s b
  have:=(yaa.1 b).1
  simp[zlq,this]
 ·intro A a u p i s b
  have m:=(yaa.1 b).1
  have n:=u (λs k=>p s (by simp[k])) i s b
  obtain⟨g,c⟩:=p a (by simp)
  obtain⟨j,o⟩:=ybe g
  obtain⟨r,t⟩:=zy1 (h j a o) c hs
  have q:(zlq step (List.replicate l.length (-1,0)) A).length=l.length:=by rw[zur];simp
  rw[zzr]
  unfold setR
  rw[q,r,t,List.getElem?_set]
  by_cases d:j=i
  ·subst d
   rw[o]at b
   simp only[yab]at b
   subst b
   simp[q,m]
  ·rw[if_neg d,n]
   by_cases e:s=a
   ·subst e
    by_cases f:s.1= -1
    ·exact absurd f c
    ·have:=(zy1 (h i s b) f hs).1
     omega
   ·simp[e]
theorem zvI {step:Nat}{l A:List Slot}(h:zdc step l)(hs:0<step)(hA:A.Perm (zhf l)):zlq step (List.replicate l.length (-1,0)) A=l:=by
 have d:∀s,s∈A↔s∈l/\s.1≠ -1:=λs=>by rw[hA.mem_iff];simp[zhf]
 apply yea
 intro i
 by_cases a:i<l.length
 ·rw[z8w h hs (λs c=>(d s).1 c) i _ (yac a),yac a]
  split
  ·rfl
  ·rename_i f
   rcases h i _ (yac a)with ⟨b,e⟩|⟨k,b,_⟩
   ·rw[show l[i]=(-1,0) from Prod.ext b e]
   ·exact absurd ((d _).2 ⟨yaw a,by rw[b];omega⟩) f
 ·rw[ybx (by rw[zur];simp;omega),ybx (by omega)]
def putS (l:LadM)(r:SlR):LadM:=if r.rung=0 then⟨setR 10 l.fine r.t r.v,l.wide⟩else⟨l.fine,setR 60 l.wide r.t r.v⟩
def zeS (rs:List SlR):LadM:=rs.foldl putS newL
theorem zyT (l:LadM)(A:List Slot):(A.map λs=>(⟨0,s.1.toNat,s.2⟩:SlR)).foldl putS l=⟨zlq 10 l.fine A,l.wide⟩:=by
 induction A generalizing l with
 |nil=>rfl
 |cons s A a=>rw[yci,yep,a];rfl
theorem zzs (l:LadM)(A:List Slot):(A.map λs=>(⟨1,s.1.toNat,s.2⟩:SlR)).foldl putS l=⟨l.fine,zlq 60 l.wide A⟩:=by
 induction A generalizing l with
 |nil=>rfl
 |cons s A a=>rw[yci,yep,a];rfl
theorem z0v {l:LadM}(h:RightL l):zeS (zgD l)=l:=by
 unfold zeS zgD
 rw[List.foldl_append,zyT,zzs]
 have a:=zvI h.r1 (by omega) (zgd l.fine)
 have b:=zvI h.r2 (by omega) (zgd l.wide)
 rw[h.n1]at a
 rw[h.n2]at b
 show LadM.mk (zlq 10 (List.replicate 6 (-1,0)) _) (zlq 60 (List.replicate 5 (-1,0)) _)=l
 rw[a,b]
structure OkPut (r:SlR):Prop where
 rung:r.rung<2
 t:r.t≤1099511627776
 al:r.t%(if r.rung=0 then 10 else 60)=0
 v:i64 r.v
 n:r.v≠ -9223372036854775808
theorem zxS {l:LadM}(h:RightL l):∀r∈zgD l,OkPut r:=λr b=>by
 unfold zgD at b
 rcases yag.1 b with b|b<;>obtain⟨s,m,rfl⟩:=yav.1 b<;>obtain⟨n,g⟩:=ztp m<;>obtain⟨i,j⟩:=ybe n
 ·rcases h.r1 i s j with ⟨a,_⟩|⟨k,a,c,_,d,f⟩
  ·exact absurd a g
  ·have e:s.1.toNat=k*10:=by rw[a];exact ydk _
   exact⟨by simp,by simp only[e];exact c,by simp[e],d,f⟩
 ·rcases h.r2 i s j with ⟨a,_⟩|⟨k,a,c,_,d,f⟩
  ·exact absurd a g
  ·have e:s.1.toNat=k*60:=by rw[a];exact ydk _
   exact⟨by simp,by simp only[e];exact c,by simp[e],d,f⟩
theorem z0A {l:LadM}{r:SlR}(h:RightL l)(hr:OkPut r):RightL (putS l r):=by
 unfold putS
 split
 ·exact⟨by rw[zcM];exact h.n1,h.n2,zeE h.r1 hr.t hr.v hr.n,h.r2⟩
 ·exact⟨h.n1,by rw[zcM];exact h.n2,h.r1,zeE h.r2 hr.t hr.v hr.n⟩
theorem zwv {rs:List SlR}(h:∀r∈rs,OkPut r):RightL (zeS rs):=by
 refine zjf (P:=λrs=>(∀r∈rs,OkPut r)->RightL (zeS rs)) (λ_=>zeG) (λrs r b a=> ?_) rs h
 have:zeS (rs++ [r])=putS (zeS rs) r:=by simp[zeS]
 rw[this]
 exact z0A (b λx c=>a x (by simp[c])) (a r (by simp))
end Go.Sf
end
section
set_option maxHeartbeats 1000000
namespace Go.Proofs.YtdbhocoeolhjhaaGreatDoor
open Go.Sf Go.Num
structure MoreInv (s:ShM)(u:Nat):Prop where
 cont:zAH s
 used:zbf s.disk≤u
end Go.Proofs.YtdbhocoeolhjhaaGreatDoor
end
