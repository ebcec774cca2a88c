/- Shelf: a ladder is built of slots; a segment is read. Shelf: a segment of the disk is read. Shelf: segments are sorted. Shelf: the segments of a disk  -/
import Derived.Test.YtdbhocoeolhjhaaGreatDoorAbs2
import Derived.ProofKit
import Derived.LaidLaws
import Derived.Handed
import Derived.Carry
import Derived.Lib.LaidTab
import Derived.OpenShut
import Derived.SizedLaws
import Derived.Test.YtdbhocoeolhjhaaGreatDoorBn1
import Derived.Test.YtdbhocoeolhjhaaGreatDoorBn2
import Derived.Test.YtdbhocoeolhjhaaGreatDoorBn3
import Derived.Test.YtdbhocoeolhjhaaGreatDoorBn4
import Derived.Test.YtdbhocoeolhjhaaGreatDoorBn5
import Derived.Test.YtdbhocoeolhjhaaGreatDoorBn6
import Derived.Test.YtdbhocoeolhjhaaGreatDoorBn7
import Derived.Test.YtdbhocoeolhjhaaGreatDoorBn8
import Derived.Test.YtdbhocoeolhjhaaGreatDoorBn9
import Derived.Test.YtdbhocoeolhjhaaGreatDoorBn10
set_option linter.unusedSimpArgs false
set_option linter.unusedVariables false
set_option linter.constructorNameAsVariable false
section
set_option maxHeartbeats 8000000
namespace Go.Proofs.YtdbhocoeolhjhaaGreatDoor
open Go.Abs Go.RowKit Go.Sf Go.Num
variable {G:Globs}
theorem zza (t1 t2:TypeId)(c1 c2:List AV):ACalls Tryz.prog znQ [.agg schC] [.var t1 c1,.var t2 c2] (λr σ'=>r=.tup [.agg [.int .i64 1,.int .i64 500000,.row 7 2],.int .i64 0]/\∃a b c d e tl,σ'=.var t1 c1:: .var t2 c2::a::b::c::d::e:: .row 112 2 (zan newL) false::tl):=by
 refine zaf hmix zok rfl ?_
 have A:=zjA (G:=G) 10 6 (by omega) (by omega) (by omega) (by omega)
 have B:=zjA (G:=G) 60 5 (by omega) (by omega) (by omega) (by omega)
 simp only[zah]at A B
 simp[zi2,schC]
 refine zac zx0 (by simp) ?_
 rintro r rfl
 simp
 refine zac zi0 (by simp[AV.pure]) ?_
 rintro r rfl
 simp[splice]
 obtain⟨y,s⟩:∃n:Entry,n=.var t1 c1:=⟨_,rfl⟩
 obtain⟨z,t⟩:∃n:Entry,n=.var t2 c2:=⟨_,rfl⟩
 obtain⟨n,u⟩:∃n:Entry,n=.var 52 schC:=⟨_,rfl⟩
 obtain⟨v,w⟩:∃v:Entry,v=.var 55 [.int .i64 0,.int .i64 0,.nils]:=⟨_,rfl⟩
 rw[<-s,<-t]
 refine zag (λx f σ=>∃(i:Nat),x=2-i/\i≤2/\f 2=.ptr 3 0/\f 4=.ptr 4 0/\f 28=.lst rungsC/\f 29=.int .i64 2/\f 30=.int .i64 i/\
  ((i=0/\σ= [y,z,n,v,.var 55 [.int .i64 1,.int .i64 500000,.nils]])∨
   (i=1/\∃a b,(∀m,a.under m=true/\b.under m=true)/\σ= [y,z,n,v,.var 55 [.int .i64 1,.int .i64 500000,.row 7 1],a,b,.row 112 2 [zah 10 (zh0 6)] false])∨
   (i=2/\∃a b c d,(∀m,a.under m=true/\b.under m=true/\c.under m=true/\d.under m=true)/\σ= [y,z,n,v,.var 55 [.int .i64 1,.int .i64 500000,.row 7 2],a,b,.row 112 2 [zah 10 (zh0 6),zah 60 (zh0 5)] false,c,d]))) 2 ?_ ?_
 ·exact⟨0,by simp,by simp,by simp,by simp,by simp,by simp[rungsC],by simp,.inl ⟨rfl,by simp[u,w,schC]⟩⟩
 rintro x f σ ⟨i,rfl,C,q,o,p,k,l,⟨rfl,rfl⟩|⟨rfl,a,b,j,rfl⟩|⟨rfl,a,b,c,d,j,rfl⟩⟩
 ·simp[q,o,p,k,l,rungsC,splice]
  refine zac A (by simp) ?_
  rintro r rfl
  simp[o,splice]
  refine zeX false [zah 10 (zh0 6)] (by simp[view,zah]) (by decide) (by simp[zah]) (λh=>by cases h) (by simp) (by simp) ?_
  simp[o,l,splice,wk1]
  exact zad 1 (by omega) ⟨1,rfl,by omega,by simp[q],by simp[o],by simp[p,rungsC],by simp[k],by simp,.inr (.inl ⟨rfl,_,_,λm=>by simp[Entry.under,AV.under],rfl⟩)⟩
 ·simp[q,o,p,k,l,rungsC,splice]
  refine zac B (by simp) ?_
  rintro r rfl
  simp[o,splice]
  refine zbm [zah 10 (zh0 6)] [zah 60 (zh0 5)] false (by simp) (by simp[view,zah]) (by decide) (by simp[zah]) (λh=>by cases h) rfl (by simp) (by simp) ?_
  simp[o,l,splice,wk2]
  exact zad 0 (by omega) ⟨2,rfl,by omega,by simp[q],by simp[o],by simp[p,rungsC],by simp[k],by simp,.inr (.inr ⟨rfl,a,b,_,_,λm=>⟨(j m).1,(j m).2,by simp[Entry.under,AV.under],by simp[Entry.under,AV.under]⟩,rfl⟩)⟩
 ·simp[q,o,k,l,w,splice]
  refine zav [y,z,n,.var 55 [.int .i64 1,.int .i64 500000,.row 7 2],.var 55 [.int .i64 1,.int .i64 500000,.row 7 2],a,b,.row 112 2 [zah 10 (zh0 6),zah 60 (zh0 5)] false,c,d] (.tup [.agg [.int .i64 1,.int .i64 500000,.row 7 2],.int .i64 0]) (by simp[za5,q]) [] (by simp) (by simp) (by simp[AV.under]) (λi e g=> ?_) ⟨rfl,_,_,_,_,_,_,rfl⟩
  match i,g with
  |0,g=>exact .inl (by simpa[s]using g)
  |1,g=>exact .inl (by simpa[t]using g)
  |2,g=>simp at g;subst g;exact .inr (by simp[u,Entry.under,schC,AV.under])
  |3,g=>simp at g;subst g;exact .inr (by simp[Entry.under,AV.under])
  |4,g=>simp at g;subst g;exact .inr (by simp[Entry.under,AV.under])
  |5,g=>simp at g;subst g;exact .inr (j _).1
  |6,g=>simp at g;subst g;exact .inr (j _).2.1
  |7,g=>simp at g;subst g;exact .inr (za3 (by simp[zah,AV.pure]))
  |8,g=>simp at g;subst g;exact .inr (j _).2.2.1
  |9,g=>simp at g;subst g;exact .inr (j _).2.2.2
  |i+10,g=>simp at g
theorem z1W (s:SlR):PCalls Tryz.prog zqS [.agg (slRC s)] (λr=>r=.bool true):=by
 refine zaa hmix zqW rfl ?_
 simp[zka,slRC,zdN]
theorem zxT (rs:List SlR)(hr:∀r∈rs,OkPut r)(hl:rs.length≤1000):PCalls Tryz.prog zqE [.agg schC,.lst (zfq rs)] (λr=>r=.tup [.agg (ladC (zeS rs)),.int .i64 0]):=by
 refine zaa hmix zqP rfl ?_
 have Q:=zmn rs
 have kN:=zza (G:=G) 52 55 schC [.int .i64 0,.int .i64 0,.nils]
 simp only[schC]at kN
 simp[zkf,schC]
 refine zam kN ?_
 rintro r σ ⟨rfl,a,b,c,d,e,W,rfl⟩
 simp[splice,Q]
 refine zag (λx f σ=>∃(i:Nat) (j:Nat),x=rs.length-i/\i≤rs.length/\f 6=.ptr j 0/\f 4=.ptr 1 0/\f 22=.lst (zfq rs)/\f 23=.int .i64 rs.length/\f 24=.int .i64 i/\7<j/\σ[1]? =some (.var 55 [.int .i64 0,.int .i64 0,.nils])/\σ[7]? =some (.row 112 2 (zan (zeS (rs.take i))) false)/\σ[j]? =some (.var 55 [.int .i64 1,.int .i64 500000,.row 7 2])) rs.length ?_ ?_
 ·exact⟨0,W.length+8,by simp,by simp,by simp,by simp,by simp,by simp,by simp,by omega,by simp,by simp[zeS],by simp⟩
 clear W a b c d e
 rintro x f σ ⟨i,j,rfl,hi,q,P,s,A,o,F,L,m,u⟩
 simp[A,o]
 refine zaq (λZ=> ?_) (λaa=> ?_)
 ·have H:i<rs.length:=by omega
  have I:IntKind.i64.wrap ((i:Int)+1)=((i+1:Nat):Int):=by rw[wrap_i64 (by omega) (by omega)];omega
  obtain⟨r,M⟩:∃r,rs[i]? =some r:=⟨_,yac H⟩
  have R:=ztZ M
  obtain⟨Y,E⟩:=yaa.1 R
  have B:=hr r (yae M)
  have C:zeS (rs.take (i+1))=putS (zeS (rs.take i)) r:=by rw[yau,M];simp[zeS]
  have y:RightL (zeS (rs.take i)):=zwv λx hx=>hr x (yan hx)
  obtain⟨l,O⟩:∃l,l=zeS (rs.take i):=⟨_,rfl⟩
  rw[<-O]at m C y
  have J:=z1W (G:=G) r
  simp only[slRC,zdN]at J
  have g:∀(k:Nat) (e:Entry) (t:zab),σ[k]? =some e->(σ++t)[k]? =some e:=λk e t h=>zaP h t
  have S:r.rung=0∨r.rung=1:=by have:=B.rung;omega
  have z:=B.al
  have X:=B.n
  rcases S with w|w
  ·rw[w]at J
   have p:r.t/10*10=r.t:=by rw[w]at z;simp at z;omega
   have D:=zme (G:=G) 10 l.fine (zq8 y) y.r1 r.t B.t
   have K:=zpI (G:=G) 10 l.fine (zq8 y) y.r1 r.t B.t r.v X
   rw[p]at D
   simp only[zah]at D K
   simp[s,o,R,E,slRC,zdN,zai,zak,splice,w]
   refine zac J (by simp[AV.pure]) ?_
   rintro x rfl
   simp[q,g j _ _ u,g 7 _ _ m,zai,zak,splice,zan,zah]
   refine zac D (by simp[AV.pure]) ?_
   rintro x rfl
   simp[q,g j _ _ u,g 7 _ _ m,zai,zak,splice,zan,zah]
   refine zbu K (by simp[AV.pure]) ?_
   simp[q,o,I,g j _ _ u,g 7 _ _ m,zai,zak,splice,zan,zah]
   refine zad (rs.length-(i+1)) (by omega) ⟨i+1,j,rfl,by omega,by simp[q],by simp[P],by simp[s],by simp[A],by simp,F, ?_, ?_, ?_⟩
   ·rw[yai (by omega)];exact g 1 _ _ L
   ·rw[zaY (g 7 _ _ m),C]
    simp[putS,w,zan,zah]
   ·rw[yai (by omega)];exact g j _ _ u
  ·rw[w]at J
   have p:r.t/60*60=r.t:=by rw[w]at z;simp at z;omega
   have D:=zme (G:=G) 60 l.wide (zor y) y.r2 r.t B.t
   have K:=zpI (G:=G) 60 l.wide (zor y) y.r2 r.t B.t r.v X
   rw[p]at D
   simp only[zah]at D K
   simp[s,o,R,E,slRC,zdN,zai,zak,splice,w]
   refine zac J (by simp[AV.pure]) ?_
   rintro x rfl
   simp[q,g j _ _ u,g 7 _ _ m,zai,zak,splice,zan,zah]
   refine zac D (by simp[AV.pure]) ?_
   rintro x rfl
   simp[q,g j _ _ u,g 7 _ _ m,zai,zak,splice,zan,zah]
   refine zbu K (by simp[AV.pure]) ?_
   simp[q,o,I,g j _ _ u,g 7 _ _ m,zai,zak,splice,zan,zah]
   refine zad (rs.length-(i+1)) (by omega) ⟨i+1,j,rfl,by omega,by simp[q],by simp[P],by simp[s],by simp[A],by simp,F, ?_, ?_, ?_⟩
   ·rw[yai (by omega)];exact g 1 _ _ L
   ·rw[zaY (g 7 _ _ m),C]
    simp[putS,w,zan,zah]
   ·rw[yai (by omega)];exact g j _ _ u
 ·have T:i=rs.length:=by omega
  subst T
  rw[ya0]at m
  have e1:=zaY L
  have e7:∀x,(σ.set 1 x)[7]? =some (.row 112 2 (zan (zeS rs)) false):=λx=>by rw[yai (by omega)];exact m
  have U:(zan (zeS rs)).length=2:=rfl
  simp[P,q,L,u,m,splice,ladC,e1,e7,U,Abs.fin,Abs.finT,Abs.fin1,fz,zqj]
end Go.Proofs.YtdbhocoeolhjhaaGreatDoor
end
section
set_option maxHeartbeats 8000000
namespace Go.Proofs.YtdbhocoeolhjhaaGreatDoor
open Go.Abs Go.RowKit Go.Sf Go.Num
variable {G:Globs}
theorem zvz (p:Txt):PCalls Tryz.prog zrc [.agg (zbS p)] (λr=>r=.agg schC):=by
 refine zaa hmix zra rfl ?_
 simp[zkr,zbS,splice,schC]
theorem zzn:PCalls Tryz.prog zet [.lst rungsC,.lst rungsC] (λr=>r=.bool true):=by
 refine zaa hmix ze5 rfl ?_
 simp[zcx,rungsC]
 refine zag (λx f σ=>∃(i:Nat),x=2-i/\i≤2/\f 0=.lst rungsC/\f 1=.lst rungsC/\f 12=.int .i64 2/\f 13=.int .i64 i/\σ= []) 2 ?_ ?_
 ·exact⟨0,by simp,by simp,by simp[rungsC],by simp[rungsC],by simp,by simp,by simp⟩
 rintro x f σ ⟨i,rfl,g,c,d,a,b,rfl⟩
 have e:i=0∨i=1∨i=2:=by omega
 rcases e with rfl|rfl|rfl
 ·simp[c,d,a,b,rungsC,zi5,wk1]
  exact zad 1 (by omega) ⟨1,rfl,by omega,by simp[c,rungsC],by simp[d,rungsC],by simp[a],by simp,rfl⟩
 ·simp[c,d,a,b,rungsC,zi5,wk2]
  exact zad 0 (by omega) ⟨2,rfl,by omega,by simp[c,rungsC],by simp[d,rungsC],by simp[a],by simp,rfl⟩
 ·simp[a,b]
theorem zxc (p:Txt):PCalls Tryz.prog zoo [.agg (zbS p),.agg (zbS p)] (λr=>r=.bool true):=by
 refine zaa hmix zon rfl ?_
 simp[zih,zbS]
 refine zac zzn (by simp[AV.pure]) ?_
 rintro r rfl
 simp
theorem z5g (a:ArrM):PCalls Tryz.prog zeK [.agg (recC (ptR a))] (λr=>r=.bool false):=by
 refine zaa hmix zrd rfl ?_
 simp[zjR,ptR,recC,zci]
theorem zvA (g:List ArrM)(hl:g.length≤1000000):PCalls Tryz.prog zcD [.lst ((g.map ptR).map recC),.fn (.func zeK) [] []] (λr=>r=.bool false):=by
 have n:PCalls Tryz.prog zcN [.lst ((g.map ptR).map recC),.fn (.func zeK) [] []] (λr=>r=.int .i64 (-1)):=by
  refine zaa hmix zcO rfl ?_
  have b:((g.map ptR).map recC).length=g.length:=by simp
  obtain⟨L,j⟩:∃L,L=(g.map ptR).map recC:=⟨_,rfl⟩
  rw[<-j]at b⊢
  simp[zbw]
  refine zag (λx f σ=>∃(i:Nat),x=g.length-i/\i≤g.length/\f 0=.lst L/\f 1=.fn (.func zeK) [] []/\f 7=.int .i64 g.length/\f 8=.int .i64 i/\σ= []) g.length ?_ ?_
  ·exact⟨0,by simp,by simp,by simp,by simp,by simp[b],by simp,by simp⟩
  rintro x f σ ⟨i,rfl,v,k,l,m,e,rfl⟩
  simp[m,e]
  refine zaq (λt=> ?_) (λu=> ?_)
  ·have c:i<g.length:=by omega
   have h:IntKind.i64.wrap ((i:Int)+1)=((i+1:Nat):Int):=by rw[wrap_i64 (by omega) (by omega)];omega
   obtain⟨a,q⟩:∃a,g[i]? =some a:=⟨_,yac c⟩
   have o:L[i]? =some (recC (ptR a)):=by rw[j];simp[q]
   obtain⟨s,d⟩:=yaa.1 o
   have p:=z5g (G:=G) a
   simp only[ptR,recC,zci]at p
   simp[k,l,e,o,d,ptR,recC,zci]
   refine zqV zqI ?_
   refine zac p (by simp[AV.pure]) ?_
   rintro r rfl
   simp[e,h]
   exact zad (g.length-(i+1)) (by omega) ⟨i+1,rfl,by omega,by simp[k],by simp[l],by simp[m],by simp,rfl⟩
  ·simp
 rw[yeb]at n⊢
 refine zaa hmix zcB rfl ?_
 simp[zbg]
 refine zac n (by simp[AV.pure]) ?_
 rintro r rfl
 simp
theorem zyt (l:LadM):((zgD l).map slM).map recC=zfq (zgD l):=by
 simp[zfq,yeb]
 intro a _
 rfl
theorem zxM (p:Txt)(l:List RecM):zf5 p l≠ []:=λe=>by
 have:=congrArg List.length e
 simp[zf5,zb1,zcW]at this
theorem z7l [GMaxL](hT:zgo G)(d:DiskM)(h:RightM d)(hl:Fits d)(r:RdM)(ho:OkRd r){f:FileM}(hA:At d r.name f)(hb:f.bytes=zf5 r.path r.recs)(hbl:f.bytes.length≤1000000):PCalls Tryz.prog zv9 [.agg (zal d),.str r.name] (λx=>x=.tup [.agg (rdC r),.bool true]):=by
 refine zaa hmix zvi rfl ?_
 have p:okS r.name:=zcY r.id ho.id5 r.seq ho.q70 r.kind (kd3 r.kd)
 have e:∀P∈P4,P≠ []/\P.length≤100:=by decide
 have k:=zxE (G:=G) r.id r.seq r.kind ho.id1 ho.id5 ho.q1 ho.q70 r.kd
 have m:=z4e (G:=G) d r.name h hl p hA (by rw[hb];exact zxM _ _)
 have n:∀x∈r.recs,OkR x:=λx o=>by
  unfold RdM.recs at o
  split at o
  ·rename_i l hl
   exact z9M (z0S (ho.lad l hl)) x o
  ·rename_i g w
   exact z6S (ho.pts g w) x o
 have i:=z4b (G:=G) hT r.path (e _ ho.path).1 (e _ ho.path).2 r.recs n (by rw[<-hb];exact hbl)
 have q:=zyx (G:=G) ho.path
 have j:=zvz (G:=G) r.path
 have kN:=zqt (G:=G)
 have s:=zaj f.bytes
 rw[<-hb]at i
 simp only[zal]at m
 simp only[zbS]at i j
 simp only[schC,ladC]at kN
 have y:zaD r.id r.seq r.kind=r.name:=rfl
 rw[y]at k
 simp[znA,zal]
 refine zac k (by simp) ?_
 rintro x rfl
 simp[splice]
 refine zac m (by simp[AV.pure]) ?_
 rintro x rfl
 simp
 refine zac i (by simp[AV.pure]) ?_
 rintro x rfl
 simp[splice]
 refine zac q (by simp) ?_
 rintro x rfl
 simp[splice]
 refine zac j (by simp[AV.pure]) ?_
 rintro x rfl
 simp[schC]
 refine zac kN (by simp[AV.pure]) ?_
 rintro x rfl
 cases a:r.body with
 |inl l=>
  have b:r.kind=kindC:=by unfold RdM.kind;rw[a]
  have c:r.recs.map recC=zfq (zgD l):=by unfold RdM.recs;rw[a];exact zyt l
  have t:=zxT (G:=G) (zgD l) (zxS (ho.lad l a)) (by have:=zo6 (ho.lad l a);omega)
  simp only[schC,ladC]at t
  rw[<-c]at t
  simp[splice,b,kindC]
  refine zac j (by simp[AV.pure]) ?_
  rintro x rfl
  simp[schC]
  refine zac t (by simp[AV.pure]) ?_
  rintro x rfl
  simp[splice,s,rdC,b,kindC]
 |inr g=>
  have b:r.kind=kindP:=by unfold RdM.kind;rw[a]
  have c:r.recs=g.map ptR:=by unfold RdM.recs;rw[a]
  have u:g.length≤1000000:=by
   rw[hb,c]at hbl
   have z:=zpZ (g.map ptR)
   simp only[zf5,yaj,ycc]at hbl z
   omega
  have v:=zvA (G:=G) g u
  rw[<-c]at v
  simp[splice,b,kindP]
  refine zac v (by simp[AV.pure]) ?_
  rintro x rfl
  simp[splice,rdC,b,kindP]
end Go.Proofs.YtdbhocoeolhjhaaGreatDoor
end
section
set_option maxHeartbeats 8000000
namespace Go.Proofs.YtdbhocoeolhjhaaGreatDoor
open Go.Shelf Go.RowKit Go.Lib Go.Sort Go.Proofs Go.Sf Go.Abs
def krR (r:RdM):Nat:=match r.body with
 | .inl _=>0
 | .inr _=>1
def ltR (x y:RdM):Prop:=x.id<y.id∨(x.id=y.id/\(x.seq<y.seq∨(x.seq=y.seq/\krR x<krR y)))
instance (x y:RdM):Decidable (ltR x y):=by unfold ltR;infer_instance
def cmpR (x y:RdM):Int:=or3 (Lib.compareInt x.id y.id) (Lib.compareInt x.seq y.seq) (cmpB ⟨x.kind.toArray⟩ ⟨y.kind.toArray⟩)
theorem z0K (x y:RdM):cmpB ⟨x.kind.toArray⟩ ⟨y.kind.toArray⟩=Lib.compareInt (krR x) (krR y):=by
 have a:cmpB ⟨kindC.toArray⟩ ⟨kindC.toArray⟩=0:=by kernel_rfl
 have b:cmpB ⟨kindC.toArray⟩ ⟨kindP.toArray⟩= -1:=by kernel_rfl
 have c:cmpB ⟨kindP.toArray⟩ ⟨kindC.toArray⟩=1:=by kernel_rfl
 have d:cmpB ⟨kindP.toArray⟩ ⟨kindP.toArray⟩=0:=by kernel_rfl
 unfold RdM.kind krR
 cases x.body<;>cases y.body<;>simp[a,b,c,d,Lib.compareInt]
theorem zAv (x y:RdM):decide (cmpR x y<0)=decide (ltR x y):=by
 unfold cmpR ltR or3
 rw[z0K]
 unfold Lib.compareInt
 congr 1
 refine propext ?_
 split<;>split<;>(try split)<;>(try split)<;>(try split)<;>(try split)<;>omega
section
variable {κ:Key}{Im:Addr->Prop}{w:World}
def cfR (x y:SRd κ Im w):Int:=cmpR (rdR x) (rdR y)
theorem ltC (x y:SRd κ Im w):ltOf cfR x y=decide (ltR (rdR x) (rdR y)):=zAv _ _
theorem swoC:SWO (ltOf (cfR (κ:=κ) (Im:=Im) (w:=w))) where
 irrefl x:=by
  rw[ltC]
  refine decide_eq_false ?_
  unfold ltR;omega
 trans x y z a b:=by
  rw[ltC]at a b⊢
  have a:=of_decide_eq_true a
  have b:=of_decide_eq_true b
  refine decide_eq_true ?_
  unfold ltR at*;omega
 ntrans x y z a b:=by
  rw[ltC]at a b⊢
  have a:=of_decide_eq_false a
  have b:=of_decide_eq_false b
  refine decide_eq_false ?_
  unfold ltR at*;omega
theorem z2v {r:RdM}{l:List Value}(h:VRL κ Im w (rdC r) l):∃x0 x1 x2 x3 x4 x5 x6 x7 x8 x9,l= [.string ⟨r.name.toArray⟩,.int .i64 r.id,.int .i64 r.seq,.string ⟨r.kind.toArray⟩,x0,x1,x2,x3,x4,x5,x6,x7,x8,x9]:=by
 obtain⟨v,f,m⟩:=h.get? (i:=0) (a:=.str r.name) rfl
 obtain⟨x,g,n⟩:=h.get? (i:=1) (a:=.int .i64 r.id) rfl
 obtain⟨y,j,o⟩:=h.get? (i:=2) (a:=.int .i64 r.seq) rfl
 obtain⟨z,k,p⟩:=h.get? (i:=3) (a:=.str r.kind) rfl
 have q:=m.str_inv
 have s:=n.int_inv
 have t:=o.int_inv
 have u:=p.str_inv
 subst q;subst s;subst t;subst u
 have e:14=l.length:=h.1
 match l,e with
 | [a,b,c,d,x0,x1,x2,x3,x4,x5,x6,x7,x8,x9],_=>
  simp at f g j k
  subst f;subst g;subst j;subst k
  exact⟨x0,x1,x2,x3,x4,x5,x6,x7,x8,x9,rfl⟩
theorem z44 [Inhabited (SRd κ Im w)](blk off size:Nat)(w':World):CmpLays Tryz.prog 120 #[] (zdz (κ:=κ) (Im:=Im) (w:=w)) 14 cfR blk off size w':=λ_ _ _ _ x y=>by
 obtain⟨c,d,e,f,g,h,i,j,k,l,m⟩:=z2v x.2
 obtain⟨n,o,p,q,r,s,t,u,v,z,A⟩:=z2v y.2
 have a:zdz x=_:=m
 have b:zdz y=_:=A
 rw[a,b]
 exact zzq _ _ _ _ _ _ _ _ c d e f g h i j k l n o p q r s t u v z _
theorem z4C [Inhabited (SRd κ Im w)]{l:List (SRd κ Im w)}{d:Array (SRd κ Im w)}(h:PermIn 0 l.toArray.size l.toArray d):d.toList.Perm l:=by
 obtain⟨b,_,a⟩:=h
 have c:(d.extract 0 l.toArray.size).toList=d.toList:=by
  rw[<-b];simp
 have e:(l.toArray.extract 0 l.toArray.size).toList=l:=by simp
 rw[c,e]at a
 exact a
theorem zzC [Inhabited (SRd κ Im w)]{l:List (SRd κ Im w)}{d:Array (SRd κ Im w)}(ho:∀x∈d.toList,OkRd (rdR x))(hs:d.size=l.length)(h:SortedIn (ltOf cfR) 0 l.toArray.size d):d.toList.Pairwise λa b=>kR (rdR a)≤kR (rdR b):=by
 rw[ybi]
 intro i j k m e
 have c:j<d.size:=by simpa using m
 have f:i<d.size:=by simpa using k
 have:=h i j (ydp _) e (by simpa[hs]using c)
 rw[ltC,getElem!_pos d j c,getElem!_pos d i f]at this
 have o:=(ho _ (yaw k)).q70
 have p:=(ho _ (yaw m)).q70
 have g:∀a b:RdM,a.seq<70->b.seq<70->¬ltR b a->kR a≤kR b:=λa b q r n=>by
  simp only[ltR]at n
  simp only[kR]
  omega
 exact g _ _ o p (by simpa using this)
end
variable {G:Globs}
theorem zz9 {σ:zab}:ACalls Tryz.prog 119 [.nils,.fn (.func 120) [] []] σ λr σ'=>r=.tup []/\σ'=σ:=by
 intro base κ Im w m o g
 obtain⟨q,c,f⟩:=g.get? (i:=0) (a:=.nils) rfl
 obtain⟨l,d,n⟩:=g.get? (i:=1) (a:=.fn (.func 120) [] []) rfl
 have p:=f.nils_inv
 subst p
 have k:m= [.slice none 0 0,l]:=by
  have e:=g.1
  match m,e with
  | [a,b],_=>
   simp at c d
   rw[c,d]
 subst k
 refine Calls.mono (AnyF.slices_SortFunc_none Tryz.sortRead none 0 l w) ?_
 rintro s t ⟨rfl,rfl⟩
 exact⟨.tup [],σ,.tuple #[],κ,Im,rfl,⟨rfl,rfl⟩,o,Grow.refl _ _ _ _,.im _ _ (by first|exact .tup _ _ rfl (λj h=>by simp at h)|constructor<;>simp)⟩
theorem z2C {σ:zab}{id e:Nat}{A:List RdM}(he:σ[id]? =some (.row e 14 (rdsC A) false))(hA:A≠ [])(hl:A.length≤1000000)(ho:∀r∈A,OkRd r):
  ACalls Tryz.prog 119 [.row id A.length,.fn (.func 120) [] []] σ λr σ'=>r=.tup []/\∃A':List RdM,A'.Perm A/\(A'.Pairwise λx y=>kR x≤kR y)/\σ'=σ.set id (.row e 14 (rdsC A') false):=by
 intro base κ Im w Q hs J
 have aa:0<A.length:=ycu.2 hA
 obtain⟨B,g,l,m,R,S,c⟩:=zva hs he hA
 have f:B.length=A.length:=by rw[<-m];simp
 obtain⟨T,U⟩:∃b,b∈B:=by
  cases B with
  |nil=>simp at f;omega
  |cons b _=>exact⟨b,by simp⟩
 letI:Inhabited (SRd κ Im w):=⟨T⟩
 obtain⟨W,c⟩:=c
 obtain⟨u0,o,E⟩:=J.get? (i:=0) (a:=.row id A.length) rfl
 obtain⟨u1,p,F⟩:=J.get? (i:=1) (a:=.fn (.func 120) [] []) rfl
 obtain⟨_,_,_,M⟩:=E.row_inv
 rw[R]at M
 have e0:=Option.some.inj M
 subst e0
 obtain⟨X,Y,rfl,G,H⟩:=F.fn_inv
 have s:X= []:=yal G.1.symm
 have t:Y= []:=yal H.1.symm
 subst s;subst t
 have K:Q= [.slice (some ⟨g,0,none⟩) A.length l,.func (.func 120) #[] #[]]:=by
  have u:=J.1
  match Q,u with
  | [a,b],_=>
   simp at o p
   rw[o,p]
 subst K
 have eg:∀d w,(callFunc 120 d).run Tryz.prog w=.ok (.enter 120 d) w:=enters_of Tryz.func120 (by kernel_rfl) rfl
 have hc:=AnyQ.slices_SortFunc Tryz.sortRead 14 Tryz.isAgg149 Tryz.sizeOf149 zdz zmH zzY cfR swoC 120 #[] g 0 l B.toArray w eg (z44 g 0 _ w) W S (by simp;omega)
 have v:B.toArray.size=A.length:=by simp[f]
 have z:=hc
 rw[v]at z
 refine Calls.mono z ?_
 rintro e' w' ⟨rfl,k,n,Z,I,q,rfl⟩
 rw[<-v]at I q
 have C:k.size=B.length:=by simpa using I.1
 have L:=z4C I
 obtain⟨O,P⟩:=c k.toList n Z (by simpa[f]using C)
 have hd:k.toList.toArray=k:=by simp
 rw[hd]at O P
 have D:(k.toList.map rdR).Perm A:=by rw[<-m];exact L.map rdR
 refine⟨.tup [],_,.tuple #[],κ,Im,rfl,⟨rfl,k.toList.map rdR,D, ?_,rfl⟩,O,P,.im _ _ (by first|exact .tup _ _ rfl (λj h=>by simp at h)|constructor<;>simp)⟩
 rw[ybv]
 exact zzC (λx hx=>ho _ (D.mem_iff.1 (List.mem_map_of_mem hx))) C q
end Go.Proofs.YtdbhocoeolhjhaaGreatDoor
end
section
set_option maxHeartbeats 8000000
namespace Go.Proofs.YtdbhocoeolhjhaaGreatDoor
open Go.Abs Go.RowKit Go.Sf Go.Num
variable {G:Globs}
theorem z7W (σ:zab)(m k:Nat)(l:List RdM):((rdsC l).mapM λ(c:List AV)=>c.mapM (fz σ m k))=some (rdsC l):=zeb (zoH l).2.1 (λc a=>by obtain⟨n,_,rfl⟩:=yav.1 a;simp[rdC])
theorem z59 [GMaxL](hT:zgo G){s:ShM}{a k:Nat}{L:MetM->LadM}{Gs:MetM->List (List ArrM)}(h:InvS s a k)(ha:a≤69)(hB:zm2 s L Gs)(hl:Fits s.disk)(hb:∀f∈s.disk.files,f.bytes.length≤1000000):
  PCalls Tryz.prog zsv [.agg (zal s.disk),.lst (zaX (zfV s.disk))] (λx=>x=.lst (rdsC (allR s.mets L Gs))):=by
 refine zaa hmix ztn rfl ?_
 have d:=z3l h ha hB
 obtain⟨R,w⟩:∃R,R=allR s.mets L Gs:=⟨_,rfl⟩
 obtain⟨T,g⟩:∃T,T=zfV s.disk:=⟨_,rfl⟩
 have an:T.length≤1000000:=by rw[g,zfV,ycc];exact hl.nnames
 have X:(zaX T).length=T.length:=zd3 T
 have p:∀t∈T,rdOf R t∈R/\(rdOf R t).name=t:=λt q=>by
  rw[w]
  exact z1Y ((zp3 h ha hB).1 (zmY.1 (by rw[<-g];exact q)))
 have c:=λ(l:List RdM) W h2=>zze h ha hB (l:=l) W h2
 rw[<-w,<-g]at c
 rw[<-w]at d⊢
 rw[<-g]
 simp[zmi,zal,X]
 obtain⟨D,K⟩:∃D:Entry,D=.var 30 (zal s.disk):=⟨_,rfl⟩
 refine zag (λx f σ=>∃(i:Nat) (m:zab),x=T.length-i/\i≤T.length/\f 2=.ptr 0 0/\f 10=.lst (zaX T)/\f 11=.int .i64 T.length/\f 12=.int .i64 i/\((i=0/\f 5=.nils)∨∃j,0<i/\f 5=.row (j+1) i/\m[j]? =some (.row 149 14 (rdsC ((T.take i).map (rdOf R))) false))/\σ=D::m) T.length ?_ ?_
 ·exact⟨0,[],by simp,by simp,by simp,by simp,by simp,by simp,.inl ⟨rfl,by simp⟩,by simp[K,zal]⟩
 rintro x f σ ⟨i,m,rfl,hi,S,u,v,n,b,rfl⟩
 simp[v,n]
 refine zaq (λal=> ?_) (λam=> ?_)
 ·have B:i<T.length:=by omega
  have Y:IntKind.i64.wrap ((i:Int)+1)=((i+1:Nat):Int):=by rw[wrap_i64 (by omega) (by omega)];omega
  obtain⟨t,q⟩:∃t,T[i]? =some t:=⟨_,yac B⟩
  have C:(zaX T)[i]? =some [.str t]:=by simp[zaX,q]
  obtain⟨ak,P⟩:=yaa.1 C
  obtain⟨M,m2⟩:=p t (yae q)
  obtain⟨r,O⟩:∃r,r=rdOf R t:=⟨_,rfl⟩
  rw[<-O]at M m2
  have Z:=d r M
  have E:hasK kN s.disk.names r.name:=(zp3 h ha hB).2 ⟨r,by rw[<-w];exact M,rfl⟩
  obtain⟨f0,y,Q⟩:=h.size.right.file E
  have F:At s.disk r.name f0:=⟨E,yae y,Q⟩
  have kS:=z7l (G:=G) hT s.disk h.size.right hl r Z F (zui hB (by rw[<-w];exact M) F) (hb f0 (yae y))
  rw[m2]at kS
  simp only[zal,rdC]at kS
  have H:(T.take (i+1)).map (rdOf R)=(T.take i).map (rdOf R)++ [r]:=by rw[yau,q,O];simp
  have aa:(rdsC ((T.take i).map (rdOf R))).length=i:=by rw[zcc];simp;omega
  have ab:rdsC ((T.take i).map (rdOf R))++ [rdC r]=rdsC ((T.take (i+1)).map (rdOf R)):=by rw[H];simp[rdsC]
  simp[u,n,C,P,S,K,zal]
  refine zac kS (by simp[AV.pure]) ?_
  rintro x rfl
  simp[splice,zai,zak]
  rcases b with ⟨rfl,b⟩|⟨j,_,b,z⟩
  ·have W:rdsC ((T.take 1).map (rdOf R))= [rdC r]:=by rw[show(1:Nat)=0+1 from rfl,H];simp[rdsC]
   simp[b,zai]
   refine zeX false [rdC r] rfl (by decide) (by simp[rdC]) (λh=>by cases h) (by simp) (by simp) ?_
   simp[n,wk1]
   refine zad (T.length-1) (by omega) ⟨1,_,rfl,by omega,by simp[S],by simp[u],by simp[v],by simp,.inr ⟨m.length+1,by omega,by simp, ?_⟩,by simp[K,zal];rfl⟩
   rw[W,yak (by omega),show m.length+1-m.length=1 by omega];rfl
  ·have ad:=(yaa.1 z).1
   have I:∀t:zab,(m++t)[j]? =some (.row 149 14 (rdsC ((T.take i).map (rdOf R))) false):=λt=>by rw[yam ad];exact z
   simp[b,zai]
   refine zbm (rdsC ((T.take i).map (rdOf R))) [rdC r] false ?_ rfl (by decide) (by simp[rdC]) (λh=>by cases h) aa (by simp;omega) (by simp;omega) ?_
   ·show(D::(m++ [_]))[j+1]? =_
    rw[ycz];exact I _
   rw[ab]
   simp[n,Y]
   refine zad (T.length-(i+1)) (by omega) ⟨i+1,_,rfl,by omega,by simp[S],by simp[u],by simp[v],by simp,.inr ⟨j,by omega,by simp, ?_⟩,by simp[K,zal];rfl⟩
   have:=zaY (I [.var 149 (rdC r)]) (.row 149 14 (rdsC ((T.take (i+1)).map (rdOf R))) false)
   simpa[rdC]using this
 ·have ae:i=T.length:=by omega
  subst ae
  rw[ya0]at b
  rcases b with ⟨h0,b⟩|⟨j,h0,b,z⟩
  ·have af:T= []:=yc0.1 h0
   have ag:([]:List RdM)=R:=c [] (by rw[af];simp) List.Pairwise.nil
   simp[b]
   refine zam zz9 ?_
   rintro x σ' ⟨rfl,rfl⟩
   simp[b,<-ag,rdsC]
  ·have o:(T.map (rdOf R)).length=T.length:=by simp
   have ah:T.map (rdOf R)≠ []:=λe=>by rw[e]at o;simp at o;omega
   have J:=z2C (G:=G) (σ:=D::m) (id:=j+1) (A:=T.map (rdOf R)) (by simpa using z) ah (by omega) (λr O=>by
    obtain⟨t,q,rfl⟩:=yav.1 O
    exact d _ (p t q).1)
   rw[o]at J
   simp[b]
   refine zam J ?_
   rintro x σ' ⟨rfl,U,hp,hs,rfl⟩
   have hA:=c U hp hs
   subst hA
   have ai:(rdsC U).length=T.length:=by rw[zcc,hp.length_eq,o]
   have aj:=zaY z (.row 149 14 (rdsC U) false)
   simp[b,aj,ai,Abs.fin,Abs.finT,Abs.fin1,fz,z7W]
end Go.Proofs.YtdbhocoeolhjhaaGreatDoor
end
section
set_option maxHeartbeats 8000000
namespace Go.Proofs.YtdbhocoeolhjhaaGreatDoor
open Go.Abs Go.RowKit Go.Sf Go.Num
def stR (st:LadM×Nat×Nat)(r:RdM):LadM×Nat×Nat:=match r.body with
 | .inl l=>(l,r.seq,st.2.2)
 | .inr g=>(zba st.1 g,st.2.1,r.seq)
def stsR (l:List RdM):LadM×Nat×Nat:=l.foldl stR (newL,0,0)
theorem zuw (l:List RdM)(r:RdM):stsR (l++ [r])=stR (stsR l) r:=by simp[stsR]
theorem st_P (m:MetM):∀(i:Nat) (gs:List (List ArrM)) (l:LadM) (q:Nat),(rdP m i gs).foldl stR (l,m.base,q)=(zba l gs.flatten,m.base,if gs= []then q else m.base+i+gs.length)
 |i,[],l,q=>rfl
 |i,g::gs,l,q=>by
  rw[rdP,yep]
  show(rdP m (i+1) gs).foldl stR (zba l g,m.base,m.base+1+i)=_
  rw[st_P m (i+1) gs]
  refine Prod.ext (by simp[zba]) (Prod.ext rfl ?_)
  simp only
  cases gs
  ·simp;omega
  ·simp;omega
theorem z9i {d:DiskM}{m:MetM}{l0:LadM}{gs:List (List ArrM)}(h:Hist d m l0 gs):stsR (rdsM m l0 gs)=(m.lad,m.base,m.last):=by
 have b:=h.last
 unfold stsR rdsM
 rw[h.lad]
 split
 ·rw[List.foldl_append]
  show(rdP m 0 gs).foldl stR (l0,m.base,0)=_
  rw[st_P,b];rfl
 ·rename_i c
  have a:m.base=0:=by omega
  have:=st_P m 0 gs newL 0
  rw[a]at this
  show(rdP m 0 gs).foldl stR (newL,0,0)=_
  rw[this,b,h.b0 a,a]
theorem zBx {m:MetM}{l0:LadM}{gs:List (List ArrM)}{i:Nat}{r:RdM}{l:LadM}(h:(rdsM m l0 gs)[i]? =some r)(hb:r.body=.inl l):i=0:=by
 unfold rdsM at h
 split at h
 ·cases i with
  |zero=>rfl
  |succ i=>
   have a:(rdP m 0 gs)[i]? =some r:=h
   obtain⟨j,g,_,rfl⟩:=zmR.1 (yae a)
   cases hb
 ·have a:(rdP m 0 gs)[i]? =some r:=h
  obtain⟨j,g,_,rfl⟩:=zmR.1 (yae a)
  cases hb
def mcR (m:MetM)(st:LadM×Nat×Nat):List AV:=metC ⟨m.id,m.path,st.1,st.2.1,st.2.2,16⟩
theorem z2x {m:MetM}{R:List RdM}(ho:∀r∈R,OkRd r):RightL (stsR R).1:=by
 refine zjf (P:=λR=>(∀r∈R,OkRd r)->RightL (stsR R).1) (λ_=>zeG) (λR r b h=> ?_) R ho
 rw[zuw]
 have f:=b λx c=>h x (by simp[c])
 have a:=h r (by simp)
 unfold stR
 split
 ·rename_i l d;exact a.lad l d
 ·rename_i g e;exact zdm f (a.pts g e)
variable {G:Globs}
theorem z2Y {d:DiskM}{m:MetM}{l0:LadM}{gs:List (List ArrM)}(h:Hist d m l0 gs)(hne:gs≠ []∨0<m.base)(ho:∀r∈rdsM m l0 gs,OkRd r)(hl:gs.length≤1000)(hg:∀g∈gs,g.length≤100000):
  PCalls Tryz.prog zki [.lst (rdsC (rdsM m l0 gs))] (λx=>x=.tup [.agg (metC (c16 m)),.lst (zaX ((rdsM m l0 gs).map RdM.name))]):=by
 refine zaa hmix zqO rfl ?_
 have bn:=z9i h
 have hC:=λ(i:Nat) (r:RdM) (l:LadM)=>zBx (m:=m) (l0:=l0) (gs:=gs) (i:=i) (r:=r) (l:=l)
 have hS:=zrC m l0 gs
 have az:∀r∈rdsM m l0 gs,r.id=m.id/\r.path=m.path:=λr Q=>by
  rcases zjg.1 Q with ⟨_,rfl⟩|⟨_,_,_,rfl⟩<;>exact⟨rfl,rfl⟩
 have bo:∀r∈rdsM m l0 gs,∀g,r.body=.inr g->g.length≤100000:=λr Q g u=>by
  rcases zjg.1 Q with ⟨_,rfl⟩|⟨j,g',hj,rfl⟩
  ·cases u
  ·cases u;exact hg _ (yae hj)
 have bp:(rdsM m l0 gs).length≤1001:=by
  unfold rdsM;rw[yaj,zw2];split<;>simp<;>omega
 have aq:rdsM m l0 gs≠ []:=by
  unfold rdsM
  rcases hne with h1|h1
  ·cases gs
   ·exact absurd rfl h1
   ·simp[rdP]
  ·simp[h1]
 obtain⟨R,hR⟩:∃R,R=rdsM m l0 gs:=⟨_,rfl⟩
 rw[<-hR]at ho bn hC hS az bo bp aq⊢
 have a0:=zcc R
 have b7:=(zoH R).1
 obtain⟨M,ah⟩:∃M,R[0]? =some M:=by
  cases R with
  |nil=>exact absurd rfl aq
  |cons a l=>exact⟨a,rfl⟩
 have bq:=zml ah
 obtain⟨cg,bf⟩:=yaa.1 bq
 have ch:0<R.length:=(yaa.1 ah).1
 obtain⟨i0,p0⟩:=az M (yae ah)
 simp[zjS,a0]
 obtain⟨Z,hZ⟩:∃Z:Entry,Z=.var 57 [.int .i64 0,.str [],.nils,.int .i64 0,.int .i64 0,.int .i64 0,.int .i64 0,.nils,.int .i64 0,.int .i64 0,.int .i64 0]:=⟨_,rfl⟩
 rw[<-hZ]
 refine zag (λx f σ=>∃(i:Nat) (tl:zab),x=R.length-i/\i≤R.length/\f 0=.lst (rdsC R)/\f 2=.ptr 0 0/\f 3=.nils/\f 4=.int .i64 0/\f 16=.lst (rdsC R)/\f 17=.int .i64 R.length/\f 18=.int .i64 i/\σ=Z::tl) R.length ?_ ?_
 ·exact⟨0,[],by simp,by simp,by simp,by simp,by simp,by simp,by simp,by simp,by simp,rfl⟩
 rintro x f σ ⟨i,tl,rfl,hi,f0,f2,f3,f4,X,ai,aj,rfl⟩
 simp[ai,aj]
 refine zaq (λb6=> ?_) (λbk=> ?_)
 ·have ad:i<R.length:=by omega
  have a1:IntKind.i64.wrap ((i:Int)+1)=((i+1:Nat):Int):=by rw[wrap_i64 (by omega) (by omega)];omega
  obtain⟨r,Q⟩:∃r,R[i]? =some r:=⟨_,yac ad⟩
  have S:=zml Q
  obtain⟨b3,O⟩:=yaa.1 S
  cases u:r.body with
  |inl l=>
   have a2:=hC i r l Q u
   subst a2
   have E:r.kind=kindC:=by unfold RdM.kind;rw[u]
   simp[X,aj,S,O,rdC,zai,zak,splice,E,kindC,wk1]
   exact zad (R.length-1) (by omega) ⟨1,_,rfl,by omega,by simp[f0],by simp[f2],by simp[f3],by simp,by simp[X],by simp[ai],by simp,rfl⟩
  |inr g=>
   have E:r.kind=kindP:=by unfold RdM.kind;rw[u]
   simp[X,aj,S,O,rdC,zai,zak,splice,E,kindP,a1]
   exact zad (R.length-(i+1)) (by omega) ⟨i+1,_,rfl,by omega,by simp[f0],by simp[f2],by simp[f3],by simp[f4],by simp[X],by simp[ai],by simp,rfl⟩
 ·have br:=zvz (G:=G) M.path
  have kN:=zqt (G:=G)
  simp only[zbS]at br
  simp only[schC,ladC]at kN
  simp[f0,f4,a0]
  rw[if_pos b7,yao (by omega)]
  simp[bq,bf,rdC,zai,zak,splice]
  refine zbu br (by simp[AV.pure]) ?_
  simp[schC,splice]
  refine zac kN (by simp[AV.pure]) ?_
  rintro x rfl
  simp[zaQ,zay,zmg,zc7,splice]
  refine zag (λx f σ=>∃(i y q:Nat),x=R.length-i/\i≤R.length/\f 2=.ptr 0 0/\f 7=.ptr y 0/\f 8=.ptr q 0/\f 52=.lst (rdsC R)/\f 53=.int .i64 R.length/\f 54=.int .i64 i/\0<y/\y<q/\σ[0]? =some Z/\σ[y]? =some (.var 149 (rdC M))/\σ[q]? =some (.var 57 (mcR m (stsR (R.take i))))/\
   ((i=0/\f 9=.nils)∨∃j,0<i/\q<j/\f 9=.row j i/\σ[j]? =some (.row 9 1 (zaX ((R.take i).map RdM.name)) false))) R.length ?_ ?_
  ·refine⟨0,tl.length+1,tl.length+2,by simp,by simp,by simp[f2],by simp,by simp,by simp,by simp[a0],by simp,by omega,by omega,by simp,by simp[rdC], ?_,.inl ⟨rfl,by simp⟩⟩
   show(Z::(tl++_))[tl.length+1+1]? =_
   rw[ycz,zay]
   simp[mcR,metC,stsR,i0,p0]
  clear f0 f2 f3 f4 X ai aj hi bk tl i f
  rintro x f σ ⟨i,y,q,rfl,hi,f2,f7,f8,P,ak,H,ax,ay,z0,z7,z8,al⟩
  simp[ak,H]
  refine zaq (λb6=> ?_) (λbk=> ?_)
  ·have ad:i<R.length:=by omega
   have a1:IntKind.i64.wrap ((i:Int)+1)=((i+1:Nat):Int):=by rw[wrap_i64 (by omega) (by omega)];omega
   obtain⟨r,Q⟩:∃r,R[i]? =some r:=⟨_,yac ad⟩
   have S:=zml Q
   obtain⟨b3,O⟩:=yaa.1 S
   have a3:=yae Q
   have ae:=ho r a3
   obtain⟨ir,pr⟩:=az r a3
   have an:R.take (i+1)=R.take i++ [r]:=by rw[yau,Q];rfl
   have kH:=zxc (G:=G) m.path
   simp only[zbS]at kH
   have g1:∀(k:Nat) (e:Entry) (t:zab),σ[k]? =some e->(σ++t)[k]? =some e:=λk e t h=>zaP h t
   have b8:0<i->¬((r.seq:Int)=M.seq):=λh0 e=>by
    have:=zg5 hS h0 ah Q
    simp only[kR,ir,i0]at this
    omega
   have n7:(σ++ [.var 149 (rdC r)])[y]? =some (.var 149 (rdC M)):=g1 y _ _ z7
   have n8:(σ++ [.var 149 (rdC r)])[q]? =some (.var 57 (mcR m (stsR (R.take i)))):=g1 q _ _ z8
   have am:M.kind=kindC∨M.kind=kindP:=M.kd.symm
   simp only[rdC,pr,p0,mcR,metC]at n7 n8
   have a4:(i=0/\f 9=.nils/\∃l,r.body=.inl l)∨∃g,r.body=.inr g:=by
    cases u:r.body with
    |inl l=>
     have h0:=hC i r l Q u
     rcases al with ⟨_,h9⟩|⟨j,h9,_⟩
     ·exact .inl ⟨h0,h9,l,rfl⟩
     ·omega
    |inr g=>exact .inr ⟨g,rfl⟩
   rcases a4 with ⟨rfl,h9,l,u⟩|⟨g,u⟩
   ·have E:r.kind=kindC:=by unfold RdM.kind;rw[u]
    have ao:r.recs.map recC=zfq (zgD l):=by unfold RdM.recs;rw[u];exact zyt l
    have a5:=ae.lad l u
    have kB:=zxT (G:=G) (zgD l) (zxS a5) (by have:=zo6 a5;omega)
    rw[z0v a5,<-ao]at kB
    simp only[schC,ladC]at kB
    have L:stsR (R.take (0+1))=(l,r.seq,0):=by rw[an];simp[stsR,stR,u]
    have F:∀t,(σ++t)[q]? =some (.var 57 (metC ⟨m.id,m.path,newL,0,0,16⟩)):=λt=>g1 q _ t z8
    have ar:=(yaa.1 z8).1
    have a6:∀(a b x:Entry) (h:σ.length<((σ++ [a,b]).set q x).length),((σ++ [a,b]).set q x)[σ.length]=a:=λa b x h=>by rw[ydv (by omega)];simp
    have a7:∀t x,((σ++t).set q x)[q]? =some x:=λt=>zaY (F t)
    simp only[metC]at F
    simp[P,H,S,O,rdC,zai,zak,splice,f7,n7,pr]
    refine zac kH (by simp[AV.pure]) ?_
    rintro x rfl
    simp[h9,zai]
    refine zeX false [[.str r.name]] rfl (by decide) (by simp) (λh=>by cases h) (by simp) (by simp) ?_
    simp[E,kindC,zai,zaQ,f8,F,splice,a6,a7]
    refine zac kB (by simp[AV.pure]) ?_
    rintro x rfl
    simp[f8,H,a7,splice,wk1]
    refine zad (R.length-(0+1)) (by omega) ⟨0+1,y,q,rfl,by omega,by simp[f2],by simp[f7],by simp[f8],by simp[P],by simp[ak],by simp,ax,ay, ?_, ?_, ?_,.inr ⟨σ.length+1,by omega,by omega,by simp, ?_⟩⟩
    ·rw[yai (by omega)];exact g1 0 _ _ z0
    ·rw[yai (by omega)];exact g1 y _ _ z7
    ·rw[a7,L];simp[mcR,metC]
    ·rw[yai (by omega),zay,an];simp[zaX]
   ·have E:r.kind=kindP:=by unfold RdM.kind;rw[u]
    obtain⟨o,T⟩:∃o,o=(stsR (R.take i)).1:=⟨_,rfl⟩
    obtain⟨bs,bg⟩:∃bs,bs=(stsR (R.take i)).2.1:=⟨_,rfl⟩
    obtain⟨ls,b4⟩:∃ls,ls=(stsR (R.take i)).2.2:=⟨_,rfl⟩
    have F:∀t,(σ++t)[q]? =some (.var 57 (metC ⟨m.id,m.path,o,bs,ls,16⟩)):=λt=>by rw[T,bg,b4];exact g1 q _ t z8
    have bu:∀t,(σ++t)[0]? =some Z:=λt=>g1 0 _ t z0
    have bw:∀t,(σ++t)[y]? =some (.var 149 (rdC M)):=λt=>g1 y _ t z7
    have L:stsR (R.take (i+1))=(zba o g,bs,r.seq):=by rw[an,zuw,T,bg];unfold stR;rw[u]
    have a8:(zaX ((R.take i).map RdM.name)).length=i:=by rw[zd3];simp;omega
    have a9:zaX ((R.take i).map RdM.name)++ [[.str r.name]]=zaX ((R.take (i+1)).map RdM.name):=by rw[an];simp[zaX]
    have ao:r.recs.map recC=(g.map ptR).map recC:=by unfold RdM.recs;rw[u]
    have bx:r.recs.length=g.length:=by unfold RdM.recs;rw[u];simp
    have ci:=bo r a3 g u
    obtain⟨N',av⟩:∃N',N'=zaX ((R.take (i+1)).map RdM.name):=⟨_,rfl⟩
    have af:RightL o:=by rw[T];exact z2x (m:=m) λx hx=>ho x (yan hx)
    simp only[metC]at F
    rw[<-av]at a9
    rcases al with ⟨rfl,h9⟩|⟨j,bj,b5,h9,hj⟩
    ·have bz:N'= [[.str r.name]]:=by rw[<-a9];simp[zaX]
     simp[P,H,S,O,rdC,zai,zak,splice,f7,n7,pr]
     refine zac kH (by simp[AV.pure]) ?_
     rintro x rfl
     simp[h9,zai]
     refine zeX false [[.str r.name]] rfl (by decide) (by simp) (λh=>by cases h) (by simp) (by simp) ?_
     rw[<-bz]
     have ar:=(yaa.1 z8).1
     obtain⟨jn,bh⟩:∃jn,jn=σ.length+1:=⟨_,rfl⟩
     have a6:∀(a b x:Entry) (h:σ.length<((σ++ [a,b]).set q x).length),((σ++ [a,b]).set q x)[σ.length]=a:=λa b x h=>by rw[ydv (by omega)];simp
     simp[E,kindP,zai,zaQ,f8,F,splice,a6]
     refine zag (λx f σ=>∃(k:Nat),x=g.length-k/\k≤g.length/\f 2=.ptr 0 0/\f 7=.ptr y 0/\f 8=.ptr q 0/\f 9=.row jn (0+1)/\f 52=.lst (rdsC R)/\f 53=.int .i64 R.length/\f 54=.int .i64 0/\f 114=.lst (r.recs.map recC)/\f 115=.int .i64 g.length/\f 116=.int .i64 k/\σ[0]? =some Z/\σ[y]? =some (.var 149 (rdC M))/\σ[jn]? =some (.row 9 1 N' false)/\σ[q]? =some (.var 57 (metC ⟨m.id,m.path,zba o (g.take k),bs,r.seq,16⟩))) g.length ?_ ?_
     ·refine⟨0,by simp,by simp,by simp[f2],by simp[f7],by simp[f8],by simp[bh,bz],by simp[P],by simp[ak],by simp[H],by simp,by simp[bx],by simp, ?_, ?_, ?_, ?_⟩
      ·rw[yai (by omega)];exact bu _
      ·rw[yai (by omega)];exact bw _
      ·rw[yai (by omega),bh];exact zay
      ·rw[zaY (F _)];simp[metC,zba]
     rintro x f' σ' ⟨k,rfl,hk,Y,aa,w,ab,z,A,B,C,D,s,y0,y7,yj,y8⟩
     simp[D,s]
     refine zaq (λbl=> ?_) (λbm=> ?_)
     ·have I:k<g.length:=by omega
      have ba:IntKind.i64.wrap ((k:Int)+1)=((k+1:Nat):Int):=by rw[wrap_i64 (by omega) (by omega)];omega
      obtain⟨p,hp⟩:∃p,g[k]? =some p:=⟨_,yac I⟩
      have ag:(r.recs.map recC)[k]? =some (recC (ptR p)):=by rw[ao];simp[hp]
      obtain⟨bi,U⟩:=yaa.1 ag
      obtain⟨W,aw⟩:=ae.pts g u p (yae hp)
      have bb:zba o (g.take (k+1))=zc3 (zba o (g.take k)) p.time p.now p.value:=by rw[yau,hp];exact zgS _ _ _
      have bc:RightL (zba o (g.take k)):=zdm af λx hx=>ae.pts g u x (yan hx)
      have J:=zm4 (G:=G) (zba o (g.take k)) bc p.time p.now p.value W.t W.n W.le W.ge W.v aw
      rw[<-bb]at J
      simp only[ladC]at J
      have K:∀t,(σ'++t)[q]? =some (.var 57 (metC ⟨m.id,m.path,zba o (g.take k),bs,r.seq,16⟩)):=λt=>zaP y8 t
      have bd:∀t x,((σ'++t).set q x)[q]? =some x:=λt=>zaY (zaP y8 t)
      simp only[metC]at K
      simp[C,s,ag,U,ptR,recC,zci,zai,zak,splice,w,K]
      refine zac J (by simp[AV.pure]) ?_
      rintro x rfl
      simp[zay,zc7,zaQ,zmg,zai,zak,splice,w,s,ba,K]
      refine zad (g.length-(k+1)) (by omega) ⟨k+1,rfl,by omega,by simp[Y],by simp[aa],by simp[w],by simp[ab],by simp[z],by simp[A],by simp[B],by simp[C],by simp[D],by simp, ?_, ?_, ?_, ?_⟩
      ·rw[yai (by omega)];exact zaP y0 _
      ·rw[yai (by omega)];exact zaP y7 _
      ·rw[yai (by omega)];exact zaP yj _
      ·rw[bd];simp[metC]
     ·have be:k=g.length:=by omega
      subst be
      rw[ya0]at y8
      simp[B,wk1]
      exact zad (R.length-(0+1)) (by omega) ⟨0+1,y,q,rfl,by omega,by simp[Y],by simp[aa],by simp[w],by simp[z],by simp[A],by simp,ax,ay,y0,y7,by rw[L];exact y8,.inr ⟨jn,by omega,by omega,by simp[ab],by rw[<-av];exact yj⟩⟩
    ·have b0:(0:Int)<i:=by omega
     have hq:=b8 bj
     have b1:∀t,(σ++t)[j]? =some (.row 9 1 (zaX ((R.take i).map RdM.name)) false):=λt=>g1 j _ t hj
     have au:∀t x,((σ++t).set j x)[q]? =some (.var 57 [.int .i64 m.id,.str m.path,.lst rungsC,.int .i64 1,.int .i64 500000,.int .i64 1,.int .i64 500000,.lst (zan o),.int .i64 bs,.int .i64 ls,.int .i64 16]):=λt x=>by rw[yai (by omega)];exact F t
     have a2:¬(i:Int)=0:=by omega
     have b2:¬i=0:=by omega
     have cj:=(yaa.1 hj).1
     have ar:=(yaa.1 z8).1
     have b9:∀(a b:Entry) (h:σ.length<((σ++ [a]).set j b).length),((σ++ [a]).set j b)[σ.length]=a:=λa b h=>by rw[ydv (by omega)];simp
     have ca:∀(a b c:Entry) (h:σ.length<(((σ++ [a]).set j b).set q c).length),(((σ++ [a]).set j b).set q c)[σ.length]=a:=λa b c h=>by rw[ydv (by omega),ydv (by omega)];simp
     rcases am with am|am
     all_goals
      simp only[am,kindC,kindP]at n7
      simp[P,H,S,O,rdC,zai,zak,splice,f7,n7,b0,bj,hq,pr]
      refine zac kH (by simp[AV.pure]) ?_
      rintro x rfl
      simp[h9,zai]
      refine zbm (zaX ((R.take i).map RdM.name)) [[.str r.name]] false (b1 _) rfl (by decide) (by simp) (λh=>by cases h) a8 (by simp;omega) (by simp;omega) ?_
      rw[a9]
      simp[E,kindP,zai,f8,au,splice,a2,b2,b9,ca]
      refine zag (λx f σ=>∃(k:Nat),x=g.length-k/\k≤g.length/\f 2=.ptr 0 0/\f 7=.ptr y 0/\f 8=.ptr q 0/\f 9=.row j (i+1)/\f 52=.lst (rdsC R)/\f 53=.int .i64 R.length/\f 54=.int .i64 i/\f 114=.lst (r.recs.map recC)/\f 115=.int .i64 g.length/\f 116=.int .i64 k/\σ[0]? =some Z/\σ[y]? =some (.var 149 (rdC M))/\σ[j]? =some (.row 9 1 N' false)/\σ[q]? =some (.var 57 (metC ⟨m.id,m.path,zba o (g.take k),bs,r.seq,16⟩))) g.length ?_ ?_
      ·refine⟨0,by simp,by simp,by simp[f2],by simp[f7],by simp[f8],by simp[h9],by simp[P],by simp[ak],by simp[H],by simp,by simp[bx],by simp, ?_, ?_, ?_, ?_⟩
       ·rw[yai (by omega),yai (by omega)];exact bu _
       ·rw[yai (by omega),yai (by omega)];exact bw _
       ·rw[yai (by omega),zaY (b1 _)]
       ·rw[zaY (au _ _)];simp[metC,zba]
      rintro x f' σ' ⟨k,rfl,hk,Y,aa,w,ab,z,A,B,C,D,s,y0,y7,yj,y8⟩
      simp[D,s]
      refine zaq (λbl=> ?_) (λbm=> ?_)
      ·have I:k<g.length:=by omega
       have ba:IntKind.i64.wrap ((k:Int)+1)=((k+1:Nat):Int):=by rw[wrap_i64 (by omega) (by omega)];omega
       obtain⟨p,hp⟩:∃p,g[k]? =some p:=⟨_,yac I⟩
       have ag:(r.recs.map recC)[k]? =some (recC (ptR p)):=by rw[ao];simp[hp]
       obtain⟨bi,U⟩:=yaa.1 ag
       obtain⟨W,aw⟩:=ae.pts g u p (yae hp)
       have bb:zba o (g.take (k+1))=zc3 (zba o (g.take k)) p.time p.now p.value:=by rw[yau,hp];exact zgS _ _ _
       have bc:RightL (zba o (g.take k)):=zdm af λx hx=>ae.pts g u x (yan hx)
       have J:=zm4 (G:=G) (zba o (g.take k)) bc p.time p.now p.value W.t W.n W.le W.ge W.v aw
       rw[<-bb]at J
       simp only[ladC]at J
       have K:∀t,(σ'++t)[q]? =some (.var 57 (metC ⟨m.id,m.path,zba o (g.take k),bs,r.seq,16⟩)):=λt=>zaP y8 t
       have bd:∀t x,((σ'++t).set q x)[q]? =some x:=λt=>zaY (zaP y8 t)
       simp only[metC]at K
       simp[C,s,ag,U,ptR,recC,zci,zai,zak,splice,w,K]
       refine zac J (by simp[AV.pure]) ?_
       rintro x rfl
       simp[zay,zc7,zaQ,zmg,zai,zak,splice,w,s,ba,K]
       refine zad (g.length-(k+1)) (by omega) ⟨k+1,rfl,by omega,by simp[Y],by simp[aa],by simp[w],by simp[ab],by simp[z],by simp[A],by simp[B],by simp[C],by simp[D],by simp, ?_, ?_, ?_, ?_⟩
       ·rw[yai (by omega)];exact zaP y0 _
       ·rw[yai (by omega)];exact zaP y7 _
       ·rw[yai (by omega)];exact zaP yj _
       ·rw[bd];simp[metC]
      ·have be:k=g.length:=by omega
       subst be
       rw[ya0]at y8
       simp[B,a1]
       exact zad (R.length-(i+1)) (by omega) ⟨i+1,y,q,rfl,by omega,by simp[Y],by simp[aa],by simp[w],by simp[z],by simp[A],by simp,ax,ay,y0,y7,by rw[L];exact y8,.inr ⟨j,by omega,by omega,by simp[ab],by rw[<-av];exact yj⟩⟩
  ·have cc:i=R.length:=by omega
   subst cc
   rw[ya0]at z8 al
   rcases al with ⟨h0,_⟩|⟨j,_,b5,h9,hj⟩
   ·omega
   rw[bn]at z8
   have cd:∀x,(σ.set 0 x)[0]? =some x:=zaY z0
   have a8:(zaX (R.map RdM.name)).length=R.length:=by rw[zd3];simp
   have ce:∀x,(σ.set 0 x)[j]? =some (.row 9 1 (zaX (R.map RdM.name)) false):=λx=>by rw[yai (by omega)];exact hj
   have cf:∀(σ:zab) (m k:Nat),((zaX (R.map RdM.name)).mapM λ(c:List AV)=>c.mapM (fz σ m k))=some (zaX (R.map RdM.name)):=λσ m k=>zeb (λc S x hx=>by
    obtain⟨t,_,rfl⟩:=yav.1 S
    simp at hx;subst hx;simp[AV.pure]) (λc S=>by obtain⟨t,_,rfl⟩:=yav.1 S;simp)
   simp only[mcR,metC]at z8
   simp[f2,f8,h9,z0,z8,splice,hZ,cd,ce,a8,cf,metC,c16,Abs.fin,Abs.finT,Abs.fin1,fz]
end Go.Proofs.YtdbhocoeolhjhaaGreatDoor
end
section
set_option maxHeartbeats 8000000
namespace Go.Proofs.YtdbhocoeolhjhaaGreatDoor
open Go.Abs Go.RowKit Go.Sf Go.Num
variable {G:Globs}
theorem z23 (pre:zab)(els:List (List AV))(he:Els 3 els)(hl:els.length≤1000000000)(p:List AV->Bool)(g:Nat)(capt:List AV)(hb:zaE Tryz.prog g=true)(hg:Asks Tryz.prog pre g capt .agg p els)(hn:∀c∈els,p c=false):
  ACalls Tryz.prog zaM [.row pre.length els.length,.fn (.func g) [] capt] (pre++ [.row 97 3 els false]) (λr σ'=>r=.row pre.length els.length/\σ'=pre++ [.row 97 3 els false]):=by
 refine zaf hmix zaN rfl ?_
 simp[zaA]
 refine zam (z2r pre els he hl p g capt hb hg) ?_
 rintro r σ ⟨rfl,rfl⟩
 rcases zhb p els with ⟨d,f⟩|⟨k,n,h,a,b,j⟩
 ·simp[d]
  exact zav (pre++ [.row 97 3 els false]) (.row pre.length els.length) (by simp[za5]) [] (by simp) (by simp) (by simp[AV.under]) (λi e he=> .inl he) ⟨rfl,rfl⟩
 ·have:=hn n (yae h)
  rw[this]at a;cases a
theorem zzd {σ:zab}(g:Nat)(capt:List AV):ACalls Tryz.prog zds [.nils,.fn (.func g) [] capt] σ (λr σ'=>r=.int .i64 (-1)/\σ'=σ):=by
 refine zaf hmix zd5 rfl ?_
 simp[zbG]
 refine zag (λx f σ'=>f 7=.int .i64 0/\f 8=.int .i64 0/\σ'=σ) 0 ?_ ?_
 ·exact⟨by simp,by simp,rfl⟩
 rintro x f σ' ⟨a,b,rfl⟩
 simp[a,b]
 exact zav σ' (.int .i64 (-1)) (by simp[za5]) [] (by simp) (by simp) (by simp[AV.under]) (λi e c=> .inl c) ⟨rfl,rfl⟩
theorem z7D (b:Txt)(h:b≠ [])(hl:b.length≤1000000000):PCalls Tryz.prog zhQ [.lst (byteEls b)] (λr=>r=.lst (byteEls b)):=by
 refine zaa hmix zmr rfl ?_
 have a:=zaj b
 simp[zhF]
 refine zqK λc d=> ?_
 cases c
 ·simp
  refine zbm [] (byteEls b) false (by simp) rfl (by decide) (za4 b).1 (λh=>by cases h) rfl (by omega) (by omega) ?_
  simp[zeI]
 ·have e:byteEls b= []:=by
   refine Classical.byContradiction λh=> ?_
   cases d h
  rw[e]at a
  exact absurd (yc0.1 a.symm) h
structure Quiet (d:DiskM):Prop where
 right:RightM d
 moves:d.moves= []
 kept:d.kept=d.names
 sure:∀f∈d.files,f.sure=f.bytes.length/\f.bytes≠ []/\∃n∈d.names,n.id=f.id
theorem zvC {m:Nat}{l:zab}(h:∀e∈l,e.under m=true){i:Nat}{e:Entry}(he:l[i]? =some e):e.under m=true:=h e (yae he)
theorem zwl (d:DiskM)(h:Quiet d)(hl:Fits d)(t1 t2:TypeId)(c1 c2:List AV):ACalls Tryz.prog zkm [.agg (zal d),.lst (zao d.names)] [.var t1 c1,.var t2 c2]
  (λr σ'=>∃V tl,r=.agg [.int .i64 d.quota,V,.lst (zao d.names),.lst (zao d.names),.nils,.int .i64 d.next]/\σ'=.var t1 c1:: .var t2 c2::tl/\((V=.nils/\d.files= [])∨∃j,V=.row (j+2) d.files.length/\tl[j]? =some (.row 97 3 (za2 d.files) false))):=by
 refine zaf hmix zjT rfl ?_
 have R:=za6 d.names
 have af:=hl.nnames
 have S:=zbJ d.files
 have ag:=hl.nfiles
 simp[zgE,zal]
 obtain⟨ids,o⟩:∃ids,ids=d.names.map (·.id):=⟨_,rfl⟩
 have T:ids.Nodup:=by rw[o];exact h.right.names.ids
 refine zag (λx f σ=>∃(i:Nat) (tl:zab),x=d.names.length-i/\i≤d.names.length/\f 1=.lst (zao d.names)/\f 2=.ptr 2 0/\f 4=.ptr 3 0/\f 5=.ptr 5 0/\f 9=.lst (zao d.names)/\f 10=.int .i64 d.names.length/\f 11=.int .i64 i/\NoI tl/\(∀e∈tl,∀m,e.under m=true)/\
  σ=.var t1 c1:: .var t2 c2:: .var 30 (zal d):: .var 30 [.int .i64 0,.nils,.nils,.nils,.nils,.int .i64 0]:: .mp (kvs (ids.take i)):: .var 99 [.map 4]::tl) d.names.length ?_ ?_
 ·exact⟨0,[],by simp,by simp,by simp,by simp,by simp,by simp,by simp,by simp[R],by simp,NoI.nil,by simp,by simp[zal,kvs]⟩
 rintro x f σ ⟨i,tl,hx,hi,I,y,v,J,h9,z,A,B,u,rfl⟩
 simp[z,A]
 refine zaq (λad=> ?_) (λae=> ?_)
 ·have C:i<d.names.length:=by omega
  have U:IntKind.i64.wrap ((i:Int)+1)=((i+1:Nat):Int):=by rw[wrap_i64 (by omega) (by omega)];omega
  obtain⟨n,H⟩:∃n,d.names[i]? =some n:=⟨_,yac C⟩
  have w:=zcH H
  obtain⟨ab,K⟩:=yaa.1 w
  have q:ids[i]? =some n.id:=by rw[o,yb8,H];rfl
  have W:=zhq q
  have X:∀(a b c L e:Entry) (kv:List (AV×AV)) (t:TypeId) (M:List AV),a.isItr=false->b.isItr=false->c.isItr=false->L.isItr=false->e.isItr=false->zbP (a::b::c::L:: .mp kv::e::(tl++ [.var t M]))=true:=λa b c L e kv t M ha hb O P Q=>by
   have:=(B.var t M).eq
   simp only[zbP,List.all_cons,ha,hb,O,P,Q]at this⊢
   simp[Entry.isItr]at this⊢
   exact this
  have s:=X (.var t1 c1) (.var t2 c2) (.var 30 (zal d)) (.var 30 [.int .i64 0,.nils,.nils,.nils,.nils,.int .i64 0]) (.var 99 [.map 4]) (kvs (ids.take i)) 101 (zc5 n) rfl rfl rfl rfl rfl
  simp only[zal,zc5]at s
  simp[I,y,v,J,h9,A,w,K,zc5,zal,zai,zak,splice,zsb (zpa T q),s,U, -zaO, -zdt, -zbP, -Entry.isItr]
  refine zad (d.names.length-(i+1)) (by omega) ⟨i+1,tl++ [.var 101 (zc5 n)],rfl,by omega,by simp[I],by simp[y],by simp[v],by simp[J],by simp[h9],by simp[z],by simp,B.var _ _,λe g m=> ?_, ?_⟩
  ·rcases yag.1 g with g|g
   ·exact u e g m
   ·simp at g;subst g;simp[Entry.under,zc5,AV.under]
  ·rw[W];simp[zal,zc5]
 ·have Y:i=d.names.length:=by omega
  have D:ids.length=d.names.length:=by rw[o];simp
  rw[Y,<-D,ya0]
  have E:∀c∈zao d.names,∀x∈c,x≠ .nils:=λc w=>by obtain⟨n,_,rfl⟩:=yav.1 w;simp[zc5]
  have F:∀m,(Entry.mp (kvs ids)).under m=true:=λm=>by simp[Entry.under,kvs,AV.under]
  simp[I]
  refine zac (zoI (zao d.names) (zde _) (by omega) E) (by simp[AV.pure]) ?_
  rintro r rfl
  simp[I]
  refine zac (zoI (zao d.names) (zde _) (by omega) E) (by simp[AV.pure]) ?_
  rintro r rfl
  simp[y,zal,splice]
  refine zam (zsU (za2 d.files) (zdg d.files) (by omega)) ?_
  rintro r σ (⟨h0,rfl,rfl⟩|⟨rfl,rfl⟩)
  ·simp[J]
   refine zam (zuO zbU [.ptr 5 0]) ?_
   rintro r σ ⟨rfl,rfl⟩
   have Z:d.files= []:=by simpa[za2]using h0
   simp[y,v,splice]
   refine zav _ (.agg [.int .i64 d.quota,.nils,.lst (zao d.names),.lst (zao d.names),.nils,.int .i64 d.next]) (by simp[za5,v]) [] (by simp;rfl) (by simp) (by simp[AV.under]) (λi e g=> ?_) ⟨_,_,rfl,rfl,.inl ⟨rfl,Z⟩⟩
   match i,g with
   |0,g=>exact .inl g
   |1,g=>exact .inl g
   |i+2,g=>
    refine .inr (zvC (l:=_::_::_::_::tl) (λe g=> ?_) g)
    simp only[ybb]at g
    rcases g with rfl|rfl|rfl|rfl|g
    ·simp[Entry.under,AV.under]
    ·simp[Entry.under,AV.under]
    ·exact F _
    ·simp[Entry.under,AV.under]
    ·exact u e g _
  ·simp[J]
   obtain⟨pre,p⟩:∃pre:zab,pre=.var t1 c1:: .var t2 c2:: .var 30 [.int .i64 d.quota,.lst (za2 d.files),.lst (zao d.names),.lst (zao d.names),.nils,.int .i64 d.next]:: .var 30 [.int .i64 0,.nils,.nils,.nils,.nils,.int .i64 0]:: .mp (kvs ids):: .var 99 [.map 4]::tl:=⟨_,rfl⟩
   have aa:pre.length=tl.length+1+1+1+1+1+1:=by rw[p];rfl
   have kA:=zn6 (G:=G) (pre:=pre) (k:=5) (j:=4) (ids:=ids) (by rw[p];rfl) (by rw[p];rfl) d.files (λc=> !decide (idC c∈ids)) (λf=>by rw[zoK])
   have kD:=z23 (G:=G) pre (za2 d.files) (zdg d.files) (by omega) (λc=> !decide (idC c∈ids)) zbU [.ptr 5 0] zin kA (λc w=>by
    obtain⟨f,hf,rfl⟩:=yav.1 w
    obtain⟨n,H,g⟩:=(h.sure f hf).2.2
    have:f.id∈ids:=by rw[o,<-g];exact yav.2 ⟨n,H,rfl⟩
    simp[zoK,this])
   rw[aa,p]at kD
   simp only[ybq]at kD
   refine zam kD ?_
   rintro r σ ⟨rfl,rfl⟩
   simp[y,v,splice,S]
   refine zav _ (.agg [.int .i64 d.quota,.row (tl.length+4+2) d.files.length,.lst (zao d.names),.lst (zao d.names),.nils,.int .i64 d.next]) (by simp[za5,v]) [] (by simp;rfl) (by simp) (by simp[AV.under]) (λi e g=> ?_) ⟨_,_,rfl,rfl,.inr ⟨tl.length+4,rfl,by simp⟩⟩
   match i,g with
   |0,g=>exact .inl g
   |1,g=>exact .inl g
   |i+2,g=>
    refine .inr (zvC (l:=_::_::_::_::(tl++ [_])) (λe g=> ?_) g)
    simp only[ybb,yag,ydy,or_false]at g
    rcases g with rfl|rfl|rfl|rfl|g|rfl
    ·simp[Entry.under,AV.under]
    ·simp[Entry.under,AV.under]
    ·exact F _
    ·simp[Entry.under,AV.under]
    ·exact u e g _
    ·exact za3 (zdg _).2.1
theorem zxW {α:Type}{l:List α}{i:Nat}{x:α}(h:l[i]? =some x):l.set i x=l:=by
 obtain⟨b,a⟩:=yaa.1 h
 rw[<-a,ycf]
theorem z3R (d:DiskM)(h:Quiet d)(hl:Fits d):PCalls Tryz.prog zv4 [.agg (zal d),.int .i64 0,.nils] (λr=>r=.tup [.agg (zal d),.int .i64 0]):=by
 refine zaa hmix zum rfl ?_
 have o:=zbJ d.files
 have X:=hl.nfiles
 have b:zbv d.moves= []:=by rw[h.moves];rfl
 have c:zao d.kept=zao d.names:=by rw[h.kept]
 have kR:=zjk (G:=G) d h.right hl
 have P:=zwl (G:=G) d h hl 30 30 (zal d) [.int .i64 0,.nils,.nils,.nils,.nils,.int .i64 0]
 simp only[zal,b,c]at kR P
 simp[zn3,zal,b,c]
 refine zac kR (by simp[AV.pure]) ?_
 rintro r rfl
 simp
 refine zag (λx f σ=>f 2=.nils/\f 3=.ptr 0 0/\f 6=.ptr 1 0/\f 7=.int .i64 0/\f 8=.lst (zao d.names)/\f 30=.int .i64 0/\f 31=.int .i64 0/\σ= [.var 30 (zal d),.var 30 [.int .i64 0,.nils,.nils,.nils,.nils,.int .i64 0]]) 0 ?_ ?_
 ·exact⟨by simp,by simp,by simp,by simp,by simp,by simp,by simp,by simp[zal,b,c]⟩
 rintro x f σ ⟨y,k,p,q,O,z,A,rfl⟩
 simp[k,O,z,A,zal,b,c]
 refine zam P ?_
 rintro r σ ⟨V,a,rfl,rfl,S⟩
 rcases S with ⟨rfl,T⟩|⟨j,rfl,s⟩
 ·simp[k,splice]
  refine zag (λx f σ=>∃a,f 3=.ptr 0 0/\f 6=.ptr 1 0/\f 7=.int .i64 0/\f 47=.int .i64 0/\f 48=.int .i64 0/\σ=.var 30 [.int .i64 d.quota,.nils,.lst (zao d.names),.lst (zao d.names),.nils,.int .i64 d.next]:: .var 30 [.int .i64 0,.nils,.nils,.nils,.nils,.int .i64 0]::a) 0 ?_ ?_
  ·exact⟨a,by simp[k],by simp[p],by simp[q],by simp,by simp,rfl⟩
  rintro x f σ ⟨a,k,p,q,n,l,rfl⟩
  simp[k,p,q,n,l,splice,T,za2,c,b]
 ·simp[k,splice,s,o]
  refine zag (λx f σ=>∃(i:Nat) (a:zab),x=d.files.length-i/\i≤d.files.length/\f 2=.nils/\f 3=.ptr 0 0/\f 6=.ptr 1 0/\f 7=.int .i64 0/\f 46=.row (j+2) d.files.length/\f 47=.int .i64 d.files.length/\f 48=.int .i64 i/\a[j]? =some (.row 97 3 (za2 d.files) false)/\σ=.var 30 [.int .i64 d.quota,.row (j+2) d.files.length,.lst (zao d.names),.lst (zao d.names),.nils,.int .i64 d.next]:: .var 30 [.int .i64 0,.nils,.nils,.nils,.nils,.int .i64 0]::a) d.files.length ?_ ?_
  ·exact⟨0,a,by simp,by simp,by simp[y],by simp[k],by simp[p],by simp[q],by simp,by simp,by simp,s,rfl⟩
  clear s y k p q O z A a
  rintro x f σ ⟨i,a,rfl,hi,y,k,p,q,t,n,l,s,rfl⟩
  simp[n,l]
  refine zaq (λU=> ?_) (λW=> ?_)
  ·have m:i<d.files.length:=by omega
   have H:IntKind.i64.wrap ((i:Int)+1)=((i+1:Nat):Int):=by rw[wrap_i64 (by omega) (by omega)];omega
   obtain⟨g,E⟩:∃g,d.files[i]? =some g:=⟨_,yac m⟩
   have D:=zcG E
   obtain⟨Q,w⟩:=yaa.1 D
   obtain⟨F,R,_⟩:=h.sure g (yae E)
   have Y:=hl.bytes g (yae E)
   have B:=zaj g.bytes
   have Z:IntKind.i64.wrap ((g.bytes.length:Int)+0)=g.bytes.length:=by rw[wrap_i64 (by omega) (by omega)];omega
   have I:IntKind.i64.wrap (g.bytes.length:Int)=g.bytes.length:=wrap_i64 (by omega) (by omega)
   have C:=(za4 g.bytes).1
   have J:(byteEls g.bytes).take g.bytes.length=byteEls g.bytes:=yao (by omega)
   have u:(za2 d.files).set i (zbR g)=za2 d.files:=zxW D
   have K:=(yaa.1 s).1
   have v:∀e:Entry,(a++ [e])[j]? =some (.row 97 3 (za2 d.files) false):=λe=>by rw[yam K];exact s
   have L:∀e:Entry,(a++ [e]).set j (.row 97 3 (za2 d.files) false)=a++ [e]:=λe=>zxW (v e)
   have M:(zbR g).drop 3= []:=rfl
   simp only[zbR]at u
   rw[F]at u
   simp[y,t,l,s,D,w,zbR,zai,zak,splice,o,m]
   refine zam (zzd _ _) ?_
   rintro r σ ⟨rfl,rfl⟩
   simp[zai,zak,splice,F,Z,I,B]
   rw[if_pos C,J]
   simp
   refine zac (z7D g.bytes R (by omega)) (by simp[AV.pure]) ?_
   rintro r rfl
   simp[zai,zak,splice,B,k,t,l,v,D,w,M,u,L,o,m,H,F]
   refine zad (d.files.length-(i+1)) (by omega) ⟨i+1,_,rfl,by omega,by simp[y],by simp[k],by simp[p],by simp[q],by simp[t],by simp[n],by simp, ?_,rfl⟩
   exact v _
  ·simp[k,p,q,splice,s,o,Abs.fin,Abs.finT,Abs.fin1,fz,zoY,c,b]
theorem z6F (s:ShM)(h:Quiet s.disk)(hl:Fits s.disk):PCalls Tryz.prog zuN [.agg (shC s),.int .i64 0,.nils] (λr=>r=.tup [.agg (zal s.disk),.int .i64 0]):=by
 refine zaa hmix zu8 rfl ?_
 have a:=z3R (G:=G) s.disk h hl
 simp only[zal]at a
 simp[znT,shC]
 refine zac a (by simp[AV.pure]) ?_
 rintro r rfl
 simp[zal]
end Go.Proofs.YtdbhocoeolhjhaaGreatDoor
end
section
set_option maxHeartbeats 16000000
namespace Go.Abs
def kvT (l:List Sf.Txt):List (AV×AV):=l.map λt=>(AV.str t,AV.bool true)
theorem z42 (l:List Sf.Txt)(t:Sf.Txt):kvT (l++ [t])=kvT l++ [(AV.str t,AV.bool true)]:=by simp[kvT]
theorem z7J {l:List Sf.Txt}{t:Sf.Txt}(h:t∉l)(p:Nat):zaO 1 (.str t) (kvT l) p=some none:=by
 induction l generalizing p with
 |nil=>rfl
 |cons x l c=>
  have a:¬x=t:=λe=>h (by simp[e])
  have:=c (λb=>h (by simp[b])) (p+1)
  simp only[kvT,yci,zaO]
  simp only[kvT]at this
  simp[eq1,a,Ne.symm a,this]
theorem zAo {l:List Sf.Txt}{t:Sf.Txt}(h:t∉l):zdt 1 (.str t) (.bool true) (kvT l)=some (kvT (l++ [t])):=by
 rw[zdt,z7J h,z42];rfl
theorem z81 {l:List Sf.Txt}{t:Sf.Txt}(h:t∈l)(p:Nat):∃q,zaO 1 (.str t) (kvT l) p=some (some (q,.bool true)):=by
 induction l generalizing p with
 |nil=>simp at h
 |cons x l c=>
  simp only[kvT,yci,zaO]
  by_cases a:x=t
  ·subst a;simp[eq1]
  ·obtain⟨q,b⟩:=c (by rcases ybb.1 h with h|h;exact absurd h.symm a;exact h) (p+1)
   simp only[kvT]at b
   simp[eq1,a,Ne.symm a,b]
theorem zuE {σ τ:zab}(h:zbP σ=true)(h2:zbP τ=true):zbP (σ++τ)=true:=by
 simp only[zbP,List.all_append,yb6]at*;exact⟨h,h2⟩
theorem zql {σ:zab}{k:Nat}{x:Entry}(h:zbP σ=true)(h2:x.isItr=false):zbP (σ.set k x)=true:=by
 simp only[zbP,ya1]at*
 intro e b
 rcases yd7 b with a|rfl
 ·exact h e a
 ·rw[h2];rfl
end Go.Abs
namespace Go.Proofs.YtdbhocoeolhjhaaGreatDoor
open Go.Abs Go.RowKit Go.Sf Go.Num
variable {G:Globs}
theorem z6f {σ:zab}{k:Nat}(l:List RdM)(r r0:RdM)(h0:l[0]? =some r0)(hk:σ[k]? =some (.var 143 [.lst (rdsC l)])):ACalls Tryz.prog zgI [.agg (rdC r),.ptr k 0] σ (λx σ'=>x=.bool (decide (r.id≠r0.id))/\σ'=σ):=by
 refine zaf hmix zqz rfl ?_
 have b:=zml h0
 obtain⟨c,a⟩:=yaa.1 b
 have d:=λt=>zaP hk t
 simp[zjZ,rdC,d,b,a]
 refine zgC (.bool (decide (r.id≠r0.id))) ?_ (by simp[AV.under]) ⟨rfl,rfl⟩
 simp[za5]
 omega
theorem zz3 {σ:zab}{k:Nat}(A B:List RdM)(r0:RdM)(h0:(A++B)[0]? =some r0)(hA:∀r∈A,r.id=r0.id)(hB:∀r,B[0]? =some r->r.id≠r0.id)(hl:(A++B).length≤1000000)(hk:σ[k]? =some (.var 143 [.lst (rdsC (A++B))])):
  ACalls Tryz.prog zcR [.lst (rdsC (A++B)),.fn (.func zgI) [] [.ptr k 0]] σ (λx σ'=>x=.int .i64 (if B= []then -1 else A.length)/\σ'=σ):=by
 refine zaf hmix zcQ rfl ?_
 have g:=zcc (A++B)
 have c:(A++B).length=A.length+B.length:=yaj
 obtain⟨L,l⟩:∃L,L=A++B:=⟨_,rfl⟩
 rw[<-l]at g hk h0 hl c⊢
 simp[zbt]
 refine zag (λx f σ'=>∃(i:Nat),x=L.length-i/\i≤A.length/\f 0=.lst (rdsC L)/\f 1=.fn (.func zgI) [] [.ptr k 0]/\f 7=.int .i64 L.length/\f 8=.int .i64 i/\σ'=σ) L.length ?_ ?_
 ·exact⟨0,by simp,by simp,by simp,by simp,by simp[g],by simp,by simp⟩
 rintro x f σ' ⟨i,rfl,E,t,u,v,j,rfl⟩
 simp[v,j]
 refine zaq (λC=> ?_) (λD=> ?_)
 ·have h:i<L.length:=by omega
  have o:IntKind.i64.wrap ((i:Int)+1)=((i+1:Nat):Int):=by rw[wrap_i64 (by omega) (by omega)];omega
  obtain⟨r,d⟩:∃r,L[i]? =some r:=⟨_,yac h⟩
  have w:=zml d
  obtain⟨z,m⟩:=yaa.1 w
  have y:=z6f (G:=G) L r r0 h0 hk
  simp only[rdC]at y
  simp[t,u,j,w,m,rdC]
  refine zqV zqN ?_
  refine zam y ?_
  rintro x σ' ⟨rfl,rfl⟩
  by_cases s:i<A.length
  ·have p:r.id=r0.id:=hA r (by
    rw[l,yam s]at d
    exact yae d)
   simp[j,o,p]
   exact zad (L.length-(i+1)) (by omega) ⟨i+1,rfl,by omega,by simp[t],by simp[u],by simp[v],by simp,rfl⟩
  ·have b:i=A.length:=by omega
   have q:r.id≠r0.id:=hB r (by
    rw[l,b,yak (yap _),yc3]at d
    exact d)
   have a:B≠ []:=λe=>by rw[e]at c;simp at c;omega
   simp[j,q,a,b]
   exact zav σ' (.int .i64 A.length) (by simp[za5]) [] (by simp) (by simp) (by simp[AV.under]) (λi e n=> .inl n) ⟨by simp[a],rfl⟩
 ·have a:B= []:=yc0.1 (by omega)
  simp[a]
  exact zav σ' (.int .i64 (-1)) (by simp[za5]) [] (by simp) (by simp) (by simp[AV.under]) (λi e n=> .inl n) ⟨by simp[a],rfl⟩
theorem zAn (d:DiskM):PCalls Tryz.prog zvY [.agg [.int .i64 d.quota,.lst (za2 d.files),.lst (zao d.names),.lst (zao d.kept),.lst (zbv d.moves),.int .i64 d.next,.nils,.int .i64 1,.int .i64 0,.bool false],.int .i64 (-1)] (λr=>r=.agg (shC ⟨d,[],1⟩)):=by
 refine zaa hmix zw4 rfl ?_
 simp[zoZ,splice,shC,zc0]
theorem z2X {d:DiskM}{l:List MetM}(h:∀m∈l,m.id<5):(zed d l).next≤5:=by
 refine zjf (P:=λl=>(∀m∈l,m.id<5)->(zed d l).next≤5) (λ_=>by simp[zed]) (λl m a h=> ?_) l h
 have e:zed d (l++ [m])=zbB (zed d l) (c16 m):=by simp[zed]
 rw[e]
 have c:=a λx b=>h x (by simp[b])
 have f:=h m (by simp)
 unfold zbB
 split
 ·exact c
 ·show max _ (m.id+1)≤5
  omega
theorem z15 {s:ShM}{a k:Nat}{L:MetM->LadM}{Gs:MetM->List (List ArrM)}(h:InvS s a k)(ha:a≤69)(hB:zm2 s L Gs):((allR s.mets L Gs).map RdM.name).Nodup:=by
 have c:=zns h ha hB
 have b:=z3l h ha hB
 rw[ybg,ybv]
 refine List.Pairwise.imp_of_mem (R:=λx y=>kR x<kR y) (λ{x y} hx hy hlt he=> ?_) c
 have:=zsE (b x hx) (b y hy) he
 omega
theorem zpw {α β:Type}{F:α->List β}{n:Nat}:∀(l:List α),(∀x∈l,(F x).length≤n)->(l.flatMap F).length≤n*l.length
 | [],_=>by simp
 |a::l,h=>by
  have c:=h a (by simp)
  have d:=zpw l λx b=>h x (by simp[b])
  rw[yes,yaj,ybc,Nat.mul_succ]
  omega
theorem z8r [GMaxL](hT:zgo G){s:ShM}{a k:Nat}{L:MetM->LadM}{Gs:MetM->List (List ArrM)}(h:InvS s a k)(ha:a≤69)(hB:zm2 s L Gs)(hQ:Quiet s.disk)(hl:Fits s.disk)(hb:∀f∈s.disk.files,f.bytes.length≤1000000)(hgl:∀m∈s.mets,∀g∈Gs m,g.length≤100000):
  PCalls Tryz.prog zux [.agg (zal s.disk),.int .i64 (-1)] (λx=>x=.tup [.agg (shC (zed s.disk (byId s.mets))),.int .i64 0]):=by
 refine zaa hmix zvq rfl ?_
 have kF:=z59 (G:=G) hT h ha hB hl hb
 have kA:=zAn (G:=G) s.disk
 have kD:=λσ=>zt0 (G:=G) σ s.disk hQ.right hl
 have aq:=z15 h ha hB
 have ak:=λt=>(zp3 h ha hB (t:=t)).1
 obtain⟨M,hM⟩:∃M,M=byId s.mets:=⟨_,rfl⟩
 obtain⟨F,hF⟩:∃F:MetM->List RdM,F=λm=>rdsM m (L m) (Gs m):=⟨_,rfl⟩
 have hR:allR s.mets L Gs=M.flatMap F:=by rw[hM,hF];rfl
 have ah:∀m,m∈M↔m∈s.mets:=λm=>by rw[hM];exact(zfi s.mets).mem_iff
 have b3:M.Pairwise λa b=>a.id<b.id:=by rw[hM];exact zqm h.idn
 have c0:M.length≤4:=by rw[hM,(zfi s.mets).length_eq];exact h.len
 have ar:(M.map MetM.path).Nodup:=by rw[hM];exact((zfi s.mets).map MetM.path).nodup_iff.2 (zlL h.srt)
 have be:∀m∈s.mets,∀r∈F m,r.id=m.id/\OkRd r:=λm v r O=>by rw[hF]at O;exact⟨z1R O,z08 h ha hB v O⟩
 have b4:∀m∈s.mets,F m≠ []:=λm v e=>by
  rw[hF]at e
  simp only[rdsM,List.append_eq_nil_iff]at e
  rcases(hB m v).2 with h1|h1
  ·cases hg:Gs m with
   |nil=>exact h1 hg
   |cons g gs=>rw[hg]at e;simp[rdP]at e
  ·rw[if_pos h1]at e;exact absurd e.1 (by simp)
 have bf:∀m∈s.mets,(F m).length≤71:=λm v=>by
  have hi:=(hB m v).1
  have:=hi.top
  have:=h.seq m v
  rw[hF]
  simp only[rdsM,yaj,zw2]
  split<;>simp<;>omega
 have b5:∀m∈s.mets,PCalls Tryz.prog zki [.lst (rdsC (F m))] (λx=>x=.tup [.agg (metC (c16 m)),.lst (zaX ((F m).map RdM.name))]):=λm v=>by
  have hi:=(hB m v).1
  have:=hi.top
  have:=h.seq m v
  rw[hF]
  exact z2Y hi (hB m v).2 (λr O=>z08 h ha hB v O) (by omega) (hgl m v)
 rw[hR]at kF aq ak
 rw[<-hM]
 have au:(zaX (zfV s.disk)).length=s.disk.names.length:=by rw[zd3,zfV,ycc]
 have av:∀c∈zaX (zfV s.disk),∀x∈c,x.pure=true/\x≠ .nils:=λc hc x D=>by
  obtain⟨t,_,rfl⟩:=yav.1 hc
  simp at D;subst D;simp[AV.pure]
 obtain⟨T,ae⟩:∃T,T=zfV s.disk:=⟨_,rfl⟩
 have b6:s.disk.names.map (·.name)=T:=ae.symm
 rw[<-ae]at kF au av
 simp only[zal,b6]at kD kF
 simp[znS,zal]
 refine zam (kD _) ?_
 rintro r σ' ⟨rfl,rfl⟩
 simp
 refine zac kA (by simp[AV.pure]) ?_
 rintro r rfl
 simp[shC,splice]
 refine zAV (id:=3) (e:=9) (size:=1) (els:=zaX T) rfl (λc hc x D=>(av c hc x D).1) (λc hc x D=>(av c hc x D).2) kF (.cons (.pure _ (by simp[AV.pure])) (.cons (.row 3 _ 9 1 (zaX T) true rfl au (.inl rfl)) .nil)) ?_
 rintro r rfl
 simp
 have aw:T.length=s.disk.names.length:=by rw[ae,zfV,ycc]
 obtain⟨Z,hZ⟩:∃Z:Entry,Z=.var 33 [.int .i64 0,.nils,.nils,.nils,.nils,.int .i64 0,.nils,.int .i64 0,.int .i64 0,.bool false]:=⟨_,rfl⟩
 refine zag (λx f σ=>∃(i H:Nat),x=M.length-i/\i≤M.length/\f 4=.ptr 1 0/\f 5=.int .i64 0/\f 6=.row 3 T.length/\f 8=.ptr 4 0/\f 9=.map 5/\f 10=.ptr H 0/\5<H/\σ[1]? =some Z/\σ[3]? =some (.row 9 1 (zaX T) true)/\σ[4]? =some (.var 33 (shC (zed s.disk (M.take i))))/\σ[5]? =some (.mp (kvT (((M.take i).flatMap F).map RdM.name)))/\
  σ[H]? =some (.var 143 [.lst (rdsC ((M.drop i).flatMap F))])/\zbP σ=true) M.length ?_ ?_
 ·refine⟨0,6,by simp,by simp,by simp,by simp, ?_,by simp,by simp,by simp,by omega,by simp[hZ],by simp,by simp[zed,shC],by simp[kvT],by simp,by simp[zbP,Entry.isItr]⟩
  simp[aw]
 rintro x f σ ⟨i,H,rfl,hi,f4,f5,f6,f8,f9,z,cz,z1,z3,z4,z5,Q,b2⟩
 have p:=zcc ((M.drop i).flatMap F)
 by_cases ag:i<M.length
 ·obtain⟨m,v⟩:∃m,M[i]? =some m:=⟨_,yac ag⟩
  have Y:m∈s.mets:=(ah m).1 (yae v)
  have hd:(M.drop i).flatMap F=F m++(M.drop (i+1)).flatMap F:=by
   rw[ybn ag,(yaa.1 v).2];rfl
  obtain⟨A,hA⟩:∃A,A=F m:=⟨_,rfl⟩
  obtain⟨B,af⟩:∃B,B=(M.drop (i+1)).flatMap F:=⟨_,rfl⟩
  rw[<-hA,<-af]at hd
  have ax:A≠ []:=by rw[hA];exact b4 m Y
  have b7:0<A.length:=ycu.2 ax
  rw[hd]at Q p
  have b8:(A++B).length=A.length+B.length:=yaj
  obtain⟨r0,am⟩:∃r0,(A++B)[0]? =some r0:=⟨_,yac (by omega)⟩
  have al:r0∈A:=by
   rw[yam b7]at am
   exact yae am
  have aa:∀r∈A,r.id=m.id:=λr O=>(be m Y r (by rw[<-hA];exact O)).1
  have c1:B.length≤1000:=by
   rw[af]
   have h1:=zpw (F:=F) (n:=71) (M.drop (i+1)) λx D=>bf x ((ah x).1 (yax D))
   have h2:(M.drop (i+1)).length≤4:=by rw[ya4];omega
   omega
  have bg:∀r,B[0]? =some r->r.id≠r0.id:=λr O=>by
   have bh:=yae O
   rw[af,yd0]at bh
   obtain⟨y,hy,b0⟩:=bh
   obtain⟨q,K⟩:=ybe hy
   rw[yb2]at K
   have:=zg5 b3 (show i<i+1+q by omega) v K
   have e1:=(be y ((ah y).1 (yae K)) r b0).1
   have e2:=aa r0 al
   omega
  have b9:=bf m Y
  rw[<-hA]at b9
  have kI:=zz3 (G:=G) (σ:=σ) (k:=H) A B r0 am (λr O=>by rw[aa r O,aa r0 al]) bg (by omega) Q
  have ay:¬((A++B).length=0):=by omega
  have bi:0<A.length+B.length:=by omega
  have c2:¬(A= []/\B= []):=λh=>ax h.1
  have az:(0:Int)<(A.length:Int)+B.length:=by omega
  simp[z,Q,p,bi,az,ax]
  refine zam kI ?_
  rintro r σ' ⟨rfl,rfl⟩
  have I:=b5 m Y
  rw[<-hA]at I
  simp only[metC,c16]at I
  obtain⟨S,hS⟩:∃S,S=zed s.disk (M.take i):=⟨_,rfl⟩
  have ca:zed s.disk (M.take (i+1))=zbB S (c16 m):=by rw[yau,v,hS];simp[zed]
  have cc:((M.take i).map MetM.path).Nodup:=ar.sublist ((List.take_sublist i M).map _)
  obtain⟨v1,v2,v3,v4⟩:=zpj s.disk cc
  have cd:=z2X (d:=s.disk) (l:=M.take i) λx D=>h.id5 ((ah x).1 (yan D))
  rw[<-hS]at v1 v2 v3 v4 cd z4
  have c3:S.mets.length≤4:=by rw[v4,yas];omega
  have ce:¬hasK kM S.mets m.path:=by
   rintro⟨x,D,hk⟩
   obtain⟨y,hy,rfl⟩:=(v2 x).1 D
   obtain⟨q,K⟩:=ybe hy
   have bj:=(yaa.1 K).1
   rw[yct (by simp at bj;omega)]at K
   have bk:q<i:=by simp at bj;omega
   have ay:=ybg.1 ar
   rw[ybv]at ay
   exact zg5 ay bk K v hk
  have kP:=zlH (G:=G) S m.path v1 (by omega)
  have kW:=zyC (G:=G) S (c16 m) v1 (by omega) (by omega) (by have:=h.id5 Y;show m.id≤_;omega)
  have cf:(zc0 S.mets).length=S.mets.length:=zb9 _
  have cg:¬(64≤(S.mets.length:Int)):=by omega
  have bl:¬(64≤S.mets.length):=by omega
  have J:=(zoH (A++B)).1
  have bm:rdsC (A++B)=rdsC A++rdsC B:=by simp[rdsC]
  have bn:(rdsC (A++B)).take A.length=rdsC A:=by rw[bm,ycb (zcc A)]
  have ch:(rdsC (A++B)).drop A.length=rdsC B:=by rw[bm,List.drop_left' (zcc A)]
  have ci:(rdsC (A++B)).take (A.length+B.length)=rdsC (A++B):=yao (by rw[zcc,b8];exact yap _)
  have bo:A.length≤A.length+B.length:=by omega
  have C:∀(q:Nat) (e:Entry) (t:zab),σ'[q]? =some e->(σ'++t)[q]? =some e:=λq e t h=>zaP h t
  simp only[shC,ce,decide_false]at kP
  simp only[shC,metC,c16,Int.cast_ofNat_Int]at kW
  have bp:B= []->B.length=0:=λe=>by rw[e];rfl
  have cj:B= []->AV.lst []=AV.lst (rdsC B):=λe=>by rw[e];rfl
  have bq:¬((A.length:Int)<0):=by omega
  obtain⟨u,R⟩:∃u,u=A.map RdM.name:=⟨_,rfl⟩
  obtain⟨j,E⟩:∃j,j=((M.take i).flatMap F).map RdM.name:=⟨_,rfl⟩
  have cw:u.length≤71:=by rw[R,ycc];omega
  have ck:(j++u).Nodup:=by
   have e:M=M.take i++m::M.drop (i+1):=by
    conv=>lhs;rw[<-yba i M,ybn ag,(yaa.1 v).2]
   rw[e,List.flatMap_append,ycw,yes,ycw,<-ya3,<-hA,<-R,<-E]at aq
   exact(ydb.1 aq).1
  have br:((M.take (i+1)).flatMap F).map RdM.name=j++u:=by
   rw[yau,v,List.flatMap_append,ycw,<-E,R,hA];simp
  by_cases ad:B= []
  rw[if_pos ad]
  simp[z,Q,p,bp ad,zai]
  rw[if_pos J,bn]
  simp
  refine zac I (by simp[AV.pure]) ?_
  rintro r rfl
  simp[z,C H _ _ Q,zai,zak,splice,p,bp ad]
  rw[if_pos J,cj ad]
  rotate_left
  rw[if_neg ad]
  simp[z,Q,p,zai,bq]
  rw[if_pos J,bn]
  simp
  refine zac I (by simp[AV.pure]) ?_
  rintro r rfl
  simp[z,C H _ _ Q,zai,zak,splice,p,bo]
  rw[if_pos J,ci,ch]
  all_goals
   obtain⟨km,a2⟩:∃km,km=σ'.length:=⟨_,rfl⟩
   obtain⟨σ2,o⟩:∃σ2:zab,σ2=(σ'++ [Entry.var 57 (metC (c16 m))]).set H (Entry.var 143 [.lst (rdsC B)]):=⟨_,rfl⟩
   have cx:=(yaa.1 Q).1
   have y1:σ2[1]? =some Z:=by rw[o,yai (by omega)];exact C 1 _ _ z1
   have y3:σ2[3]? =some (.row 9 1 (zaX T) true):=by rw[o,yai (by omega)];exact C 3 _ _ z3
   have y4:σ2[4]? =some (.var 33 (shC S)):=by rw[o,yai (by omega)];exact C 4 _ _ z4
   have y5:σ2[5]? =some (.mp (kvT (((M.take i).flatMap F).map RdM.name))):=by rw[o,yai (by omega)];exact C 5 _ _ z5
   have yl:σ2[H]? =some (.var 143 [.lst (rdsC B)]):=by rw[o];exact zaY (C H _ _ Q) _
   have ym:σ2[km]? =some (.var 57 (metC (c16 m))):=by rw[o,a2,yai (by omega)];exact zai
   have bs:zbP σ2=true:=by rw[o];exact zql (zuE b2 rfl) rfl
   have cy:H<km:=by omega
   simp only[metC,c16,Int.cast_ofNat_Int]at o ym
   simp only[shC]at y4
   simp[z,C H _ _ Q,splice]
   rw[<-o,<-a2]
   simp[f8,y4,ym]
   refine zac kP (by simp[AV.pure]) ?_
   rintro r rfl
   simp[f8,y4,ym,cf,cg,bl]
   refine zac kW (by simp[AV.pure]) ?_
   rintro r rfl
   simp[f8,y4,splice]
   refine zag (λx f σ=>∃k,x=u.length-k/\k≤u.length/\f 4=.ptr 1 0/\f 5=.int .i64 0/\f 6=.row 3 T.length/\f 8=.ptr 4 0/\f 9=.map 5/\f 10=.ptr H 0/\f 75=.lst (zaX u)/\f 76=.int .i64 u.length/\f 77=.int .i64 k/\σ[1]? =some Z/\σ[3]? =some (.row 9 1 (zaX T) true)/\σ[4]? =some (.var 33 (shC (zbB S (c16 m))))/\σ[5]? =some (.mp (kvT (j++u.take k)))/\
    σ[H]? =some (.var 143 [.lst (rdsC B)])/\zbP σ=true) u.length ?_ ?_
   ·refine⟨0,by simp,by simp,by simp[f4],by simp[f5],by simp[f6],by simp[f8],by simp[f9],by simp[z],by simp[R],by simp[R,zd3],by simp, ?_, ?_, ?_, ?_, ?_, ?_⟩
    ·rw[yai (by omega)];exact y1
    ·rw[yai (by omega)];exact y3
    ·rw[zaY y4];simp[shC,c16]
    ·rw[yai (by omega)];simpa[E]using y5
    ·rw[yai (by omega)];exact yl
    ·exact zql bs rfl
   rintro x f' σ3 ⟨k,rfl,hk,U,W,a4,a5,P,ai,a6,a7,a8,w1,w3,w4,w5,wl,X⟩
   simp[a7,a8]
   refine zaq (λbc=> ?_) (λbd=> ?_)
   ·have w:k<u.length:=by omega
    have a0:IntKind.i64.wrap ((k:Int)+1)=((k+1:Nat):Int):=by rw[wrap_i64 (by omega) (by omega)];omega
    obtain⟨t,ht⟩:∃t,u[k]? =some t:=⟨_,yac w⟩
    have ab:(zaX u)[k]? =some [.str t]:=by simp[zaX,ht]
    obtain⟨b1,an⟩:=yaa.1 ab
    have cl:t∉j++u.take k:=λaj=>by
     have h1:(j++u)[j.length+k]? =some t:=by rw[yak (by omega),ya2];exact ht
     have h2:j++u.take k=(j++u).take (j.length+k):=by rw[List.take_length_add_append]
     rw[h2]at aj
     obtain⟨q,K⟩:=ybe aj
     have cm:=(yaa.1 K).1
     have bu:q<j.length+k:=by simp at cm;omega
     rw[yct bu]at K
     exact zg5 (ybg.1 ck) bu K h1 rfl
    have bw:=zAo cl
    have cn:j++u.take k++ [t]=j++u.take (k+1):=by rw[yau,ht];simp
    rw[cn]at bw
    simp[P,a6,a8,ab,an,w5,bw,X,a0, -zdt, -zbP, -Entry.isItr]
    refine zad (u.length-(k+1)) (by omega) ⟨k+1,rfl,by omega,by simp[U],by simp[W],by simp[a4],by simp[a5],by simp[P],by simp[ai],by simp[a6],by simp[a7],by simp, ?_, ?_, ?_, ?_, ?_, ?_⟩
    ·rw[yai (by omega)];exact w1
    ·rw[yai (by omega)];exact w3
    ·rw[yai (by omega)];exact w4
    ·exact zaY w5 _
    ·rw[yai (by omega)];exact wl
    ·exact zql X rfl
   ·have co:k=u.length:=by omega
    subst co
    rw[ya0]at w5
    simp[ai,wl]
    refine zad (M.length-(i+1)) (by omega) ⟨i+1,σ3.length,rfl,by omega,by simp[U],by simp[W],by simp[a4],by simp[a5],by simp[P],by simp, ?_, ?_, ?_, ?_, ?_, ?_, ?_⟩
    ·have:=(yaa.1 wl).1;omega
    ·exact zaP w1 _
    ·exact zaP w3 _
    ·rw[ca];exact zaP w4 _
    ·rw[br];exact zaP w5 _
    ·rw[<-af];exact zai
    ·exact zuE X rfl
 ·have cq:i=M.length:=by omega
  subst cq
  rw[yd1]at Q p
  simp[z,Q,rdsC]
  have c4:∀x∈s.mets,x.id<5:=λx D=>h.id5 D
  obtain⟨v1,v2,v3,v4⟩:=zpj s.disk ar
  rw[ya0]at z4 z5
  obtain⟨S,hS⟩:∃S,S=zed s.disk M:=⟨_,rfl⟩
  rw[<-hS]at z4 v1 v2 v3 v4⊢
  simp only[shC]at z4
  have hv:∀t,view (σ++t) (.row 3 T.length)=some (zaX T):=λt=>by
   have h3:=zaP z3 t
   simp[view,h3,au,aw]
  have bx:(zaX T).length=T.length:=zd3 T
  have cr:∀t∈T,t∈(M.flatMap F).map RdM.name:=λt ht=>by
   rw[ae,zmY]at ht
   obtain⟨r,O,rfl⟩:=ak t ht
   exact List.mem_map_of_mem O
  have c5:T.length≤1000000:=by rw[aw];exact hl.nnames
  obtain⟨σ2,o⟩:∃σ2:zab,σ2=σ++ [Entry.var 127 (wkC S)]:=⟨_,rfl⟩
  have y3:σ2[3]? =some (.row 9 1 (zaX T) true):=by rw[o];exact zaP z3 _
  have y5:σ2[5]? =some (.mp (kvT ((M.flatMap F).map RdM.name))):=by rw[o];exact zaP z5 _
  have yk:σ2[σ.length]? =some (.var 127 (wkC S)):=by rw[o];exact zai
  have y1:σ2[1]? =some Z:=by rw[o];exact zaP z1 _
  obtain⟨kw,a3⟩:∃kw,kw=σ.length:=⟨_,rfl⟩
  have y4:σ2[4]? =some (.var 33 (shC S)):=by rw[o];exact zaP (by simpa only[shC]using z4) _
  have c6:4<kw:=by have:=(yaa.1 z5).1;omega
  simp[f8,f6,z4,hv]
  simp only[wkC]at o
  rw[<-o,<-a3]
  rw[<-a3]at yk
  refine zag (λx f σ=>∃k,x=T.length-k/\k≤T.length/\f 4=.ptr 1 0/\f 5=.int .i64 0/\f 9=.map 5/\f 18=.ptr kw 0/\f 88=.row 3 T.length/\f 89=.int .i64 T.length/\f 90=.int .i64 k/\σ=σ2) T.length ?_ ?_
  ·exact⟨0,by simp,by simp,by simp[f4],by simp[f5],by simp[f9],by simp,by simp,by simp[bx],by simp,rfl⟩
  rintro x f' σ3 ⟨k,rfl,hk,U,W,P,ao,a9,ba,bb,rfl⟩
  simp[ba,bb]
  refine zaq (λbc=> ?_) (λbd=> ?_)
  ·have w:k<T.length:=by omega
   have a0:IntKind.i64.wrap ((k:Int)+1)=((k+1:Nat):Int):=by rw[wrap_i64 (by omega) (by omega)];omega
   obtain⟨t,ht⟩:∃t,T[k]? =some t:=⟨_,yac w⟩
   have ab:(zaX T)[k]? =some [.str t]:=by simp[zaX,ht]
   obtain⟨b1,an⟩:=yaa.1 ab
   obtain⟨q,K⟩:=z81 (cr t (yae ht)) 0
   simp[P,a9,bb,ab,an,y3,y5,bx,K,a0,w, -zaO]
   exact zad (T.length-(k+1)) (by omega) ⟨k+1,rfl,by omega,by simp[U],by simp[W],by simp[P],by simp[ao],by simp[a9],by simp[ba],by simp,rfl⟩
  ·simp[ao]
   have cs:RightM S.disk:=by rw[v3];exact hQ.right
   have ct:S.disk.moves= []:=by rw[v3];exact hQ.moves
   have kW:=zoB (G:=G) S yk cs (by rw[v3];exact hl)
   rw[if_pos ct]at kW
   refine zam kW ?_
   rintro r σ' ⟨rfl,rfl⟩
   have a1:σ3.set kw (.var 127 (wkC {disk:=S.disk,mets:=S.mets,next:=S.next}))=σ3:=by
    obtain⟨ag,D⟩:=yaa.1 yk
    rw[<-D,ycf]
   rw[a1]
   simp only[wkC]at yk
   simp only[shC]at y4
   have ys:∀x,(σ3.set 4 x)[kw]? =some (.var 127 (wkC S)):=λx=>by rw[yai (by omega)];exact yk
   have c7:∀x,(σ3.set 4 x)[4]? =some x:=zaY y4
   simp only[wkC]at ys
   have bz:∀x,(σ3.set 1 x)[kw]? =some (.var 127 (wkC S)):=λx=>by rw[yai (by omega)];exact yk
   have cu:∀x,(σ3.set 1 x)[1]? =some x:=zaY y1
   simp only[wkC]at bz
   rw[hZ]at y1
   simp[U,W,ao,yk,y1,bz,cu,splice]
end Go.Proofs.YtdbhocoeolhjhaaGreatDoor
end
section
set_option maxHeartbeats 16000000
namespace Go.Proofs.YtdbhocoeolhjhaaGreatDoor
open Go.Abs Go.RowKit Go.Sf Go.Num
variable {G:Globs}
theorem zzu {s:ShM}{a k:Nat}{L:MetM->LadM}{Gs:MetM->List (List ArrM)}(h:InvS s a k)(hB:zm2 s L Gs)(hb:∀f∈s.disk.files,f.bytes.length≤100000):∀m∈s.mets,∀g∈Gs m,g.length≤100000:=λm q g r=>by
 have l:=(hB m q).1
 obtain⟨j,i⟩:=ybe r
 have e:=(yaa.1 i).1
 have n:=l.hP j e
 obtain⟨f,c,d⟩:=h.size.right.file n
 have b:=yae c
 obtain⟨p,_⟩:=l.cP j g f i ⟨n,b,d⟩
 have o:=hb f b
 have t:=zpZ (g.map ptR)
 rw[p]at o
 simp only[zf5,yaj]at o
 simp only[ycc]at t
 omega
theorem z7k {s:ShM}{a k:Nat}(h:InvS s a k)(hq:s.disk.quota≤60000):∀f∈s.disk.files,f.bytes.length≤60000:=λf c=>by
 have b:=h.size.right.used
 have:f.bytes.length≤zc1 s.disk.files:=zrr (yav.2 ⟨f,c,rfl⟩)
 unfold zbf at b
 omega
theorem z2P {s:ShM}{a k:Nat}{L:MetM->LadM}{Gs:MetM->List (List ArrM)}(h:InvS s a k)(ha:a≤69)(hB:zm2 s L Gs)(hd:Idle s)(hU:SuredM s 4):Quiet s.disk:=by
 obtain⟨g,i,j⟩:=z3k h ha hd hU
 refine⟨h.size.right,g,i,λf o=> ?_⟩
 obtain⟨l,t,b⟩:=j f o
 obtain⟨r,m,rfl⟩:=(zp3 h ha hB).1 b.1
 refine⟨l,by rw[zui hB m b];exact zxM _ _, ?_⟩
 obtain⟨⟨n,e,c⟩,_,d⟩:=b
 exact⟨n,e,by rw[d,<-c];exact(zgP h.size.right.names.srt e).symm⟩
set_option maxRecDepth 100000 in
theorem z8Z [GMaxL](hT:zgo G)(l:List ActM)(hl:l.length≤1000000000000000)(hd:∀a∈l,a.dots.length≤1000000000000000)(ho:∀a∈l,OkAct a):PCalls Tryz.prog zhZ [.lst (zs1 l)] (λr=>r=.bool true):=by
 refine zaa hmix zhP rfl ?_
 have aw:=zuY l
 simp[zer]
 refine zac (z4l hT) (by simp) ?_
 rintro r rfl
 simp
 refine zac (z1g l hl hd) (by simp[AV.pure]) ?_
 rintro r rfl
 by_cases hg:znZ l=true
 ·simp[hg]
 have y:znZ l=false:=by simpa using hg
 have hn:l.length≤60:=by
  unfold znZ at y
  simp at y;omega
 have ht:zsn l≤300:=by
  unfold znZ at y
  simp at y;omega
 simp[y]
 refine zac (z3a 60000 (by omega)) (by simp) ?_
 rintro r rfl
 simp[splice,shC]
 refine zag (λx f σ=>∃(i:Nat) (s:ShM) (p:PlayM) (C0 C1 C2 C3:AV) (d:zab),x=l.length-i/\i≤l.length/\f 0=.lst (zs1 l)/\f 3=.ptr 0 0/\f 4=.int .i64 0/\f 5=.ptr 1 0/\f 6=.int .i64 i/\PlayInv s p 60000 i i/\ziO s/\Idle s/\1000≤p.now/\p.now≤1000+30*((l.take i).map λa=>a.dots.length).sum/\PlayAt (shV s::d) 1 p C0 C1 C2 C3/\σ=shV s::d) l.length ?_ ?_
 ·exact⟨0,newS 60000,⟨λ_=> [],λ_=>0,1000⟩,.nils,.nils,.nils,.nils,[.var 42 (plC .nils .nils .nils .nils 0 0 0 0 1000)],by simp,by simp,by simp,by simp,by simp,by simp,by simp,zty (by decide),z1F _,λ_=>rfl,by simp,by simp,⟨rfl,.inl ⟨rfl,rfl⟩,.inl ⟨rfl,rfl⟩,.inl ⟨rfl,rfl⟩,.inl ⟨rfl,rfl⟩⟩,by simp[shV,shC,plC]⟩
 rintro x f σ ⟨i,s,p,C0,C1,C2,C3,d,rfl,hi,f0,K,f4,f5,f6,O,C,h,P,au,hA,rfl⟩
 have ad:=z3X (l:=l) i
 unfold zsn at ht
 simp[f0,f6,aw]
 refine zaq (λab=> ?_) (λW=> ?_)
 ·have z:i<l.length:=by omega
  have H:IntKind.i64.wrap ((i:Int)+1)=((i+1:Nat):Int):=by rw[wrap_i64 (by omega) (by omega)];omega
  obtain⟨a,ha⟩:∃a,l[i]? =some a:=⟨_,yac z⟩
  have hc:=zuA ha
  obtain⟨aq,D⟩:=yaa.1 hc
  have M:=ho a (yae ha)
  have ax:l.take (i+1)=l.take i++ [a]:=by rw[yau,ha];rfl
  have ay:=z3X (l:=l) (i+1)
  have be:((l.take (i+1)).map λa=>a.dots.length).sum=((l.take i).map λa=>a.dots.length).sum+a.dots.length:=by
   rw[ax,ycw,List.sum_append]
   simp only[yci,List.map_nil,List.sum_cons,List.sum_nil,ycd]
  have ae:a.dots.length≤300:=by omega
  have az:=z9K (G:=G) hT O (by omega) (by omega) hA a M ae P (by omega)
  have o:shV s=.var 33 (shC s):=rfl
  simp
  refine⟨?_, ?_⟩
  ·simp[f0,K,f5,f6,hc,D,o,shC,actC]
   refine zam az ?_
   rintro r σ' ⟨b,p',e,D0,D1,D2,D3,rfl,he,Q,R,F,S,av,v⟩
   obtain⟨c,rfl⟩:∃c,σ'=shV s::c:=by
    have I:=F.get 0 (by simp) (by decide)
    match σ',I with
    |x::c,I=>exact⟨c,by simpa using I⟩
   have X:(shV s::c)[0]? =some (.var 33 (shC s)):=rfl
   have A:=zsg O.inv (by omega) C v
   have B:=zve h v
   simp[zai,zak,splice,o,shC,K,f6,H]
   refine zad (l.length-(i+1)) (by omega) ⟨i+1,b,p',D0,D1,D2,D3,c++ [shV b],rfl,by omega,by simp[f0],by simp[K],by simp[f4],by simp[f5],by simp,Q,A,B,S,by omega,R.kept X (by decide) (zf4 (k:=0) (shV b) [shV b]),by simp[shV,shC]⟩
  ·simp[f0,K,f5,f6,hc,D,o,shC,actC]
   refine zam (z9K (G:=G) hT O (by omega) (by omega) (hA.more [_]) a M ae P (by omega)) ?_
   rintro r σ' ⟨b,p',e,D0,D1,D2,D3,rfl,he,Q,R,F,S,av,v⟩
   have A:=zsg O.inv (by omega) C v
   have B:=zve h v
   obtain⟨c,rfl⟩:∃c,σ'=shV s::c:=by
    have I:=F.get 0 (by simp) (by decide)
    match σ',I with
    |x::c,I=>exact⟨c,by simpa using I⟩
   have J:1≤d.length:=by
    have:=(yaa.1 hA.at').1
    simp at this;omega
   have Y:c[d.length]? =some (.var 33 [.int .i64 0,.nils,.nils,.nils,.nils,.int .i64 0,.nils,.int .i64 0,.int .i64 0,.bool false]):=by
    have I:=F.get (d.length+1) (by simp) (by omega)
    simpa using I
   have a0:∀x:Entry,(c.set d.length x)[d.length]? =some x:=λx=>zaY Y x
   have X:(shV s::c)[0]? =some (.var 33 (shC s)):=rfl
   have a1:(shV b::c)[d.length+1]? =some (.var 33 [.int .i64 0,.nils,.nils,.nils,.nils,.int .i64 0,.nils,.int .i64 0,.int .i64 0,.bool false]):=by simpa using Y
   simp[Y,a0,splice,o,shC,K,f6,H]
   have a2:PlayAt (shV b::c) 1 p' D0 D1 D2 D3:=by
    have:=R.kept X (by decide) (zf4 (k:=0) (shV b) [])
    simpa using this
   have a3:PlayAt (shV b::c.set d.length (shV b)) 1 p' D0 D1 D2 D3:=by
    have:=a2.kept a1 (by omega) (zf4 (k:=d.length+1) (shV b) [])
    simpa using this
   exact zad (l.length-(i+1)) (by omega) ⟨i+1,b,p',D0,D1,D2,D3,c.set d.length (shV b),rfl,by omega,by simp[f0],by simp[K],by simp[f4],by simp[f5],by simp,Q,A,B,S,by omega,a3,by simp[shV,shC]⟩
 ·have a4:i=l.length:=by omega
  subst a4
  clear au P hi ad W
  have af:=O.inv
  have ag:=O.quota
  simp
  refine zag (λx g σ=>∃(n:Nat) (s:ShM) (d:zab),x=4-n/\n≤4/\g 3=.ptr 0 0/\g 4=.int .i64 0/\g 10=.int .i64 n/\InvS s l.length l.length/\ziO s/\Idle s/\SuredM s n/\s.disk.quota=60000/\σ=shV s::d) 4 ?_ ?_
  ·exact⟨0,s,d,by simp,by simp,by simp[K],by simp[f4],by simp,af,C,h,⟨λj hj=>by omega,.inr λj hj=>by omega⟩,ag,rfl⟩
  clear hA K f4 f5 f6 f0 O af ag C h d s p C0 C1 C2 C3 f
  rintro x g σ ⟨n,s,d,rfl,bd,u,g4,w,h,C,hJ,hU,hQ,rfl⟩
  have o:shV s=.var 33 (shC s):=rfl
  simp[w]
  refine zaq (λab=> ?_) (λW=> ?_)
  ·have a5:n<4:=by omega
   have a6:IntKind.u8.wrap (n:Int)=n:=by
    match n,a5 with
    |0,_=>rfl
    |1,_=>rfl
    |2,_=>rfl
    |3,_=>rfl
   have ah:IntKind.i64.wrap ((n:Int)+1)=((n+1:Nat):Int):=by rw[wrap_i64 (by omega) (by omega)];omega
   have a7:=zoG (G:=G) n (by omega)
   have ai:=h.len
   have kS:=zy8 (G:=G) h (by omega) (by omega) (zbi n)
   simp[w,u,a6,o,shC]
   refine zbu a7 (by simp) ?_
   simp[u]
   simp only[shC]at kS
   refine zbu kS (by simp[AV.pure]) ?_
   by_cases E:hasK kM s.mets (zar n)
   ·obtain⟨b,q⟩:∃b,b=zhC s (za7 s (zar n)):=⟨_,rfl⟩
    have hR:znm s (zar n)=.tup [.agg (shC b),.int .i64 0]:=by unfold znm;rw[if_pos E,q]
    have B:InvS b l.length l.length:=by rw[q];exact zs5 h (zbi n)
    have A:ziO b:=by rw[q];exact zu2 h (zbi n) (by omega) C E
    have a8:Idle b:=by rw[q];exact λe=>absurd e zsM
    have a9:SuredM b (n+1):=by rw[q];exact z0i h (by omega) (by omega) C hU E
    have ba:b.disk.quota=60000:=by rw[q,zzQ];exact hQ
    rw[hR]
    simp[shC,splice,ah,w,u]
    exact zad (4-(n+1)) (by omega) ⟨n+1,b,_,rfl,by omega,by simp[u],by simp[g4],by simp,B,A,a8,a9,ba,by simp[shV,shC];rfl⟩
   ·have hR:znm s (zar n)=.tup [.agg (shC s),.int .i64 15]:=by unfold znm;rw[if_neg E]
    rw[hR]
    simp[shC,splice,ah,w,u]
    exact zad (4-(n+1)) (by omega) ⟨n+1,s,_,rfl,by omega,by simp[u],by simp[g4],by simp,h,C,hJ,z0p hU E,hQ,by simp[shV,shC];rfl⟩
  ·have hn:n=4:=by omega
   subst hn
   obtain⟨L,Gs,hB⟩:=zBl C
   have aj:=z2P h (by omega) hB hJ hU
   have ak:=z7k h (by omega)
   have al:=h.size.fits (by omega) (by omega)
   have kF:=z6F (G:=G) s aj al
   have kO:=z8r (G:=G) hT h (by omega) hB aj al (λf hf=>by have:=ak f hf;omega) (zzu h hB λf hf=>by have:=ak f hf;omega)
   have Z:=z3W h s.disk
   obtain⟨t,ht⟩:∃t,t=zed s.disk (byId s.mets):=⟨_,rfl⟩
   rw[<-ht]at kO Z
   have am:(zc0 s.mets).length=s.mets.length:=zb9 _
   have J:(zc0 t.mets).length=s.mets.length:=by rw[zb9,Z];simp
   simp only[shC,zal]at kF kO
   simp[u,o,shC]
   refine zac kF (by simp[AV.pure]) ?_
   rintro r rfl
   simp[splice]
   refine zac kO (by simp[AV.pure]) ?_
   rintro r rfl
   simp[splice,u,g4,am,J]
   obtain⟨kt,aa⟩:∃kt,kt=d.length+2:=⟨_,rfl⟩
   have ai:=h.len
   refine zag (λx g σ=>∃(i:Nat),x=s.mets.length-i/\i≤s.mets.length/\g 3=.ptr 0 0/\g 15=.ptr kt 0/\g 17=.int .i64 i/\σ[0]? =some (.var 33 (shC s))/\σ[kt]? =some (.var 33 (shC t))) s.mets.length ?_ ?_
   ·refine⟨0,by simp,by simp,by simp[u],by simp[aa],by simp,by simp[shC], ?_⟩
    rw[aa];simp[shC]
   clear u g4 w
   rintro x g σ ⟨i,rfl,hi,u,T,U,z0,zt⟩
   simp only[shC]at z0 zt
   simp[U,T,zt,J]
   refine zaq (λab=> ?_) (λW=> ?_)
   ·have z:i<s.mets.length:=by omega
    have H:IntKind.i64.wrap ((i:Int)+1)=((i+1:Nat):Int):=by rw[wrap_i64 (by omega) (by omega)];omega
    obtain⟨m,hm⟩:∃m,s.mets[i]? =some m:=⟨_,yac z⟩
    have bb:t.mets[i]? =some (c16 m):=by rw[Z];simp[hm]
    have hc:=zhw hm
    have an:=zhw bb
    obtain⟨aq,D⟩:=yaa.1 hc
    obtain⟨bc,ar⟩:=yaa.1 an
    obtain⟨l0,gs,E,_⟩:=C m (yae hm)
    have ao:RightL m.lad:=by
     rw[E.lad]
     refine zdm E.r0 λx hx=> ?_
     obtain⟨g,hg,hx⟩:=ybo.1 hx
     exact E.ok g hg x hx
    have kS:=znr (G:=G) m.lad ao
    simp only[ladC]at kS
    simp[U,T,u,z0,zt,J,am,hc,an,D,ar,metC,c16]
    refine zbu kS (by simp[AV.pure]) ?_
    simp[U,H]
    exact zad (s.mets.length-(i+1)) (by omega) ⟨i+1,rfl,by omega,by simp[u],by simp[T],by simp,by simpa only[shC]using z0,by simpa only[shC]using zt⟩
   ·simp
end Go.Proofs.YtdbhocoeolhjhaaGreatDoor
end
section
namespace Go.Abs
open Go.RowKit
def z8L:Key:=λ_ _=>none
def gIm [Globs]:Addr->Prop:=λa=>a.spot=none/\∃p∈Globs.tab,a.block=p.1
def z2i [Globs](w:World):Prop:=GOK w.heap.size gIm w
end Go.Abs
end
section
namespace Go.Abs
open Go.RowKit
def zmG (w:World):Addr->Prop:=λa=>a.spot=none/\a.block<w.heap.size
theorem zsr {G:Globs}{P:Program}{f:FuncId}{args:List AV}{vs:List Value}{w:World}(h:PCalls P f args (λr=>r=.bool true))(hg:z2i w)(hv:IRL (zmG w) w args vs):Calls P f vs.toArray w λe w'=>e=.returned (.bool true)/\Below w.heap.size w w':=by
 have y:GOK w.heap.size (zmG w) w:=λp t=>by
  obtain⟨g,k,l⟩:=hg p t
  refine⟨g,k,l.mono (λa u=> ?_) (λ_ _=>rfl)⟩
  obtain⟨c,q,m,d⟩:=u
  exact⟨c,by rw[d];exact(hg q m).1⟩
 have z:SRel w.heap.size z8L (zmG w) [] w:=⟨yap _,λid n v h=>by simp[z8L]at h,λid e h=>by simp at h,λi j e A b _ h=>by simp at h,λa h=>⟨h.2,h.1⟩,y⟩
 refine(h w.heap.size z8L (zmG w) w vs z ⟨hv.1,λj h x=> .im _ _ (hv.2 j h x)⟩).mono ?_
 rintro e w' ⟨r,σ',v,κ',o,rfl,⟨_,rfl⟩,_,hg,s⟩
 exact⟨by rw[s.bool_inv],hg.below⟩
theorem z9p {Im:Addr->Prop}(w:World):IRL Im w [] []:=⟨rfl,λj h=>by simp at h⟩
theorem z6H {Im:Addr->Prop}{w:World}{a:AV}{v:Value}{l:List AV}{vs:List Value}(h:IR Im w a v)(hl:IRL Im w l vs):IRL Im w (a::l) (v::vs):=by
 refine⟨by simp[hl.1],λj c b=> ?_⟩
 cases j with
 |zero=>exact h
 |succ j=>exact hl.2 j (by simpa using c) (by simpa using b)
end Go.Abs
namespace Go.Proofs.YtdbhocoeolhjhaaGreatDoor
section
open Go.ChangeShapes Go.WideShapes Go.ChangeAt Go.RowKit Go.ChangeMaps Go.Abs Go.Sf
section
variable {H:Type}{enc:TypeId×Value->H}{w:World}{base:Nat}{spare:Nat->Bool}{held:Bool}{P:Program}
theorem z73 {a:Addr}{n:Nat}{cs:List Value}(h:w.cells? base a (n+1)=some cs):a.spot=none:=by
 unfold World.cells? at h
 split at h
 ·obtain⟨y,_,b⟩:∃y,cs[0]? =some y/\w.cell? (a.add 0)=some y:=by
   have d:=Lib.mapM_at h 0 0 (by simp)
   simpa using d
  have e:a.add 0=a:=by simp[Addr.add]
  rw[e]at b
  unfold World.cell? at b
  split at b
  ·split at b
   ·cases b
   ·rename_i c;simpa using c
  ·cases b
 ·cases h
theorem z6l {a:Addr}{len cap size:Nat}{elems rest:List (DataW H×List MemPlace)}{n:Nat}{e:TypeId}(hc:cap≠0)(hlen:elems.length=len)
  (hel:∀i,i<len->(w.cells? base (a.add (i*(size+1))) (size+1)).bind (DataW.trod enc P w base spare held n e)=elems[i]?)
  (hrl:rest.length=cap-len) (hre:∀j,j<cap-len->(w.cells? base (a.add ((len+j)*(size+1))) (size+1)).bind (DataW.trod enc P w base spare held n e)=rest[j]?):a.spot=none:=by
 have h:∃c,w.cells? base (a.add (0*(size+1))) (size+1)=some c:=by
  rcases Nat.eq_zero_or_pos len with g|g
  ·have d:=hre 0 (by omega)
   obtain⟨y,f⟩:∃y,rest[0]? =some y:=⟨_,yac (by omega)⟩
   rw[f,yad,g,ybh]at d
   obtain⟨c,b,_⟩:=d
   exact⟨c,b⟩
  ·have d:=hel 0 g
   obtain⟨y,f⟩:∃y,elems[0]? =some y:=⟨_,yac (by omega)⟩
   rw[f,yad]at d
   obtain⟨c,b,_⟩:=d
   exact⟨c,b⟩
 obtain⟨c,b⟩:=h
 have e:a.add (0*(size+1))=a:=by simp[Addr.add]
 rw[e]at b
 exact z73 b
theorem zkq {e:TypeId}{d:DataW H}{q:Nat}:∀{ds:List (DataW H)},d∈ds->q∈d.weights P e->q∈DataW.weightsAll P e ds
 |d0::ds,h,hq=>by
  simp only[DataW.weightsAll,yag]
  rcases ybb.1 h with rfl|h
  ·exact .inl hq
  ·exact .inr (zkq h hq)
theorem zrG {α:Type}{tS te:TypeId}{size bytes:Nat}(hu:P.underlying tS=some (.slice te))(hce:P.cellsOf te=size+1)(hbe:P.bytesOf te=bytes)(C:α->List AV)(dflt:α)(good:α->DataW H->Prop)
  (hone:∀a,∀x∈C a,x.one=true) (hClen:∀a,(C a).length=size+1)
  (hel0:∀{n:Nat} {cs:List Value} {y:DataW H×List MemPlace},DataW.trod enc P w base spare held n te cs=some y->∃a,good a y.1/\∀j (h:j<(C a).length),∃c,cs[j]? =some c/\IR (zmG w) w (C a)[j] c)
  (hsp:∀b,spare b=true) {n:Nat} {c:Value} {x:DataW H×List MemPlace} (hf:DataW.trod enc P w base spare held n tS [c]=some x):
  ∃l:List α,(∀a∈l,∃d,good a d/\∀q∈d.weights P te,q∈x.1.weights P tS)/\(l= []∨∃q∈x.1.weights P tS,l.length*bytes≤q)/\IR (zmG w) w (.lst (l.map C)) c:=by
 rcases DataW.trod_slice hu hf with ⟨p,U⟩|⟨a,m,J,g,B,n,_,p,U,hb,hl,hm,K,G,t,_⟩
 ·simp only[yde,and_true]at p
  subst p
  exact⟨[],by simp,.inl rfl,.lnil none⟩
 ·simp only[yde,and_true]at p
  subst p
  obtain⟨W,t⟩:=t (hsp _)
  rw[hce]at G t
  by_cases D:J=0
  ·have:m=0:=by omega
   subst this;subst D
   exact⟨[],by simp,.inl rfl,.lnil _⟩
  have r:a.spot=none:=z6l (size:=size) D K G W t
  obtain⟨b,o,sp⟩:=a
  simp only at r
  subst r
  have aa:∀x y:Nat,Addr.add ⟨b,x,none⟩ y=⟨b,x+y,none⟩:=λx y=>by unfold Addr.add;split<;>simp_all
  have M:∀i,∃s:α,i<m->(∃y,g[i]? =some y/\good s y.1)/\∀j (h:j<(C s).length),∃c,w.cell? ⟨b,o+(i*(size+1)+j),none⟩=some c/\IR (zmG w) w (C s)[j] c:=by
   intro i
   by_cases T:i<m
   ·have h1:=G i T
    obtain⟨y,R⟩:∃y,g[i]? =some y:=⟨_,yac (by omega)⟩
    rw[R,yad]at h1
    obtain⟨cs,u,X⟩:=h1
    obtain⟨s,S,E⟩:=hel0 X
    refine⟨s,λ_=>⟨⟨y,R,S⟩,λj I=> ?_⟩⟩
    obtain⟨c,e1,e2⟩:=E j I
    refine⟨c, ?_,e2⟩
    unfold World.cells? at u
    split at u
    ·obtain⟨c',e3,e4⟩:=Lib.mapM_at u j j (by rw[hClen]at I;simp[I])
     rw[aa,aa,yd3]at e4
     rw[e1]at e3
     cases e3
     exact e4
    ·cases u
   ·exact⟨dflt,λh=>absurd h T⟩
  obtain⟨f,F⟩:=Classical.axiomOfChoice M
  have O:x.1=.slice (g.map (·.1)) (B.map (·.1)):=congrArg Prod.fst U
  refine⟨(List.range m).map f, ?_,.inr ?_, ?_⟩
  ·intro s S
   simp only[yav,yev]at S
   obtain⟨i,T,rfl⟩:=S
   obtain⟨y,R,hg⟩:=(F i T).1
   refine⟨y.1,hg,λq hq=> ?_⟩
   rw[O]
   simp only[DataW.weights,hu]
   exact ybw _ (yag.2 (.inl (zkq (d:=y.1) (yav.2 ⟨y,yae R,rfl⟩) hq)))
  ·rw[O]
   refine⟨((g.map (·.1)).length+(B.map (·.1)).length)*P.bytesOf te, ?_, ?_⟩
   ·simp only[DataW.weights,hu]
    exact List.Mem.head _
   ·rw[hbe]
    refine yat _ ?_
    simp;omega
  ·have z:(((List.range m).map f).map C).length=m:=by simp
   have Q:∀i j v,w.cell? ⟨b,o+(i*(size+1)+j),none⟩=some v->zmG w ⟨b,o+(i*(size+1)+j),none⟩:=λi j v h=>by
    refine⟨rfl, ?_⟩
    rcases yd2 b w.heap.size with Y|Y
    ·exact Y
    ·simp[World.cell?,Array.getElem?_eq_none Y]at h
   have:=IR.lst (Im:=zmG w) (w:=w) (((List.range m).map f).map C) (size+1) b o J
    (λi j=>(w.cell? ⟨b,o+(i*(size+1)+j),none⟩).getD undef) (by rw[z];exact hl) hm
    (λc A=>by
     obtain⟨s,_,rfl⟩:=yav.1 A
     exact hClen s)
    (λc A x U=>by
     obtain⟨s,_,rfl⟩:=yav.1 A
     exact hone s x U)
    (λk j L I=>by
     rw[z]at L
     obtain⟨c,A,_⟩:=(F k L).2 j (by rw[hClen];exact I)
     exact⟨Q k j _ A,by rw[A];rfl⟩)
    (λk j L I=>by
     rw[z]at L
     have e:(((List.range m).map f).map C)[k]=C (f k):=by simp
     have Z:j<(C (f k)).length:=by rw[<-e];exact I
     obtain⟨c,A,E⟩:=(F k L).2 j Z
     simp only[A,Option.getD_some,e]
     exact E)
   rw[z]at this
   exact this
end
section
variable {H:Type}{enc:TypeId×Value->H}{w:World}{base:Nat}{spare:Nat->Bool}{held:Bool}
theorem zoF:Tryz.prog.cellsOf 5=1:=by kernel_rfl
theorem z1V:Tryz.prog.cellsOf 2=1:=by kernel_rfl
theorem zy6:Tryz.prog.cellsOf 163=2+1:=by kernel_rfl
theorem z2D:Tryz.prog.bytesOf 163=16:=by kernel_rfl
theorem z3Q:Tryz.prog.cellsOf 45=1:=by kernel_rfl
theorem zxF:Tryz.prog.cellsOf 47=2+1:=by kernel_rfl
theorem z18:Tryz.prog.bytesOf 47=32:=by kernel_rfl
theorem zy7 {n:Int}(h:(Lit.int .u8 n).wf=true):∃k:Nat,n=k/\k<256:=by
 have a:IntKind.u8.min=0:=rfl
 have b:IntKind.u8.max=255:=rfl
 simp only[Lit.wf,yb6,decide_eq_true_eq]at h
 exact⟨n.toNat,by omega,by omega⟩
theorem z7Q {n:Int}(h:(Lit.int .i64 n).wf=true):i64 n:=by
 have a:IntKind.i64.min= -9223372036854775808:=rfl
 have b:IntKind.i64.max=9223372036854775807:=rfl
 simp only[Lit.wf,yb6,decide_eq_true_eq]at h
 exact⟨by omega,by omega⟩
set_option maxRecDepth 100000 in
theorem z3O {n:Nat}{cs:List Value}{y:DataW H×List MemPlace}(hf:DataW.trod enc Tryz.prog w base spare held n 163 cs=some y):
  ∃a:DotM,OkDot a/\∀j (h:j<(dotC a).length),∃c,cs[j]? =some c/\IR (zmG w) w (dotC a)[j] c:=by
 obtain⟨e,n,rfl,L,v,f,d⟩:=DataW.trod_struct Tryz.underlying163 hf
 have p:e.length=3:=f
 obtain⟨g,i,k,rfl⟩:∃g i k,e= [g,i,k]:=by
  match e,p with
  | [a,b,c],_=>exact⟨a,b,c,rfl⟩
 have q:cs.length=3:=by rw[v,zy6]
 obtain⟨l,m,o,rfl⟩:∃l m o,cs= [l,m,o]:=by
  match cs,q with
  | [a,b,c],_=>exact⟨a,b,c,rfl⟩
 have I:DataW.trod enc Tryz.prog w base spare held n 5 [l]=some g:=by simpa[zoF,Value.cells]using d 0 _ rfl
 have J:DataW.trod enc Tryz.prog w base spare held n 5 [m]=some i:=by simpa[zoF,Value.cells]using d 1 _ rfl
 have K:DataW.trod enc Tryz.prog w base spare held n 2 [o]=some k:=by simpa[z1V,Value.cells]using d 2 _ rfl
 obtain⟨M,s,_,x⟩:=DataW.trod_int Tryz.underlying5 I
 obtain⟨O,t,_,z⟩:=DataW.trod_int Tryz.underlying5 J
 obtain⟨A,u,_,B⟩:=DataW.trod_int Tryz.underlying2 K
 simp only[yde,and_true]at s t u
 subst s t u
 obtain⟨C,rfl,D⟩:=zy7 x
 obtain⟨E,rfl,F⟩:=zy7 z
 refine⟨⟨C,E,A⟩,⟨D,F,z7Q B⟩,λj G=> ?_⟩
 have r:j<3:=G
 match j,r with
 |0,_=>exact⟨_,rfl,.int _ _⟩
 |1,_=>exact⟨_,rfl,.int _ _⟩
 |2,_=>exact⟨_,rfl,.int _ _⟩
set_option maxRecDepth 100000 in
theorem zzD (hsp:∀b,spare b=true){n:Nat}{c:Value}{x:DataW H×List MemPlace}(hf:DataW.trod enc Tryz.prog w base spare held n 45 [c]=some x):
  ∃l:List DotM,(∀a∈l,OkDot a)/\(l= []∨∃q∈x.1.weights Tryz.prog 45,l.length*16≤q)/\IR (zmG w) w (.lst (zvJ l)) c:=by
 obtain⟨l,f,g,i⟩:=zrG (good:=λa _=>OkDot a) Tryz.underlying45 zy6 z2D dotC ⟨0,0,0⟩ (λa x e=>by simp[dotC]at e;rcases e with rfl|rfl|rfl<;>rfl) (λa=>rfl) (λh=>z3O h) hsp hf
 exact⟨l,λa j=>(f a j).elim λd h=>h.1,g,i⟩
def zA8 (a:ActM)(d:DataW H):Prop:=OkAct a/\(a.dots= []∨∃q∈d.weights Tryz.prog 47,a.dots.length*16≤q)
set_option maxRecDepth 100000 in
theorem z1h (hsp:∀b,spare b=true){n:Nat}{cs:List Value}{y:DataW H×List MemPlace}(hf:DataW.trod enc Tryz.prog w base spare held n 47 cs=some y):
  ∃a:ActM,zA8 a y.1/\∀j (h:j<(actC a).length),∃c,cs[j]? =some c/\IR (zmG w) w (actC a)[j] c:=by
 obtain⟨k,n,rfl,E,F,m,d⟩:=DataW.trod_struct Tryz.underlying47 hf
 have x:k.length=3:=m
 obtain⟨g,i,f,rfl⟩:∃g i f,k= [g,i,f]:=by
  match k,x with
  | [a,b,c],_=>exact⟨a,b,c,rfl⟩
 have e:cs.length=3:=by rw[F,zxF]
 obtain⟨o,p,r,rfl⟩:∃o p r,cs= [o,p,r]:=by
  match cs,e with
  | [a,b,c],_=>exact⟨a,b,c,rfl⟩
 have P:DataW.trod enc Tryz.prog w base spare held n 5 [o]=some g:=by simpa[zoF,Value.cells]using d 0 _ rfl
 have Q:DataW.trod enc Tryz.prog w base spare held n 5 [p]=some i:=by simpa[zoF,Value.cells]using d 1 _ rfl
 have R:DataW.trod enc Tryz.prog w base spare held n 45 [r]=some f:=by simpa[z3Q,Value.cells]using d 2 _ rfl
 obtain⟨S,C,_,G⟩:=DataW.trod_int Tryz.underlying5 P
 obtain⟨T,D,_,I⟩:=DataW.trod_int Tryz.underlying5 Q
 simp only[yde,and_true]at C D
 subst C D
 obtain⟨J,rfl,K⟩:=zy7 G
 obtain⟨L,rfl,M⟩:=zy7 I
 obtain⟨l,s,e,t⟩:=zzD hsp R
 have z:∀q∈f.1.weights Tryz.prog 45,q∈y.1.weights Tryz.prog 47:=λq u=>by
  have A:y.1=.agg ([g,i,f].map (·.1)):=congrArg Prod.fst E
  rw[A]
  simp only[DataW.weights,Tryz.underlying47]
  exact DataW.weights_mem_each (j:=2) rfl rfl q u
 refine⟨⟨J,L,l⟩,⟨⟨K,M,s⟩,e.imp id λ⟨q,u,v⟩=>⟨q,z q u,v⟩⟩,λj O=> ?_⟩
 have B:j<3:=O
 match j,B with
 |0,_=>exact⟨_,rfl,.int _ _⟩
 |1,_=>exact⟨_,rfl,.int _ _⟩
 |2,_=>exact⟨_,rfl,t⟩
set_option maxRecDepth 100000 in
theorem z3U (hsp:∀b,spare b=true){r:Reach}{b0:Nat}{v:Value}{d:DataW H}{ps:List MemPlace}(hval:Value.okWide Tryz.prog w r b0 22 v)(hd:DataW.Trod enc Tryz.prog w base spare held 22 v d ps):
  ∃l:List ActM,(∀a∈l,OkAct a)/\(l= []∨∃q∈d.weights Tryz.prog 22,l.length*32≤q)/\(∀a∈l,a.dots= []∨∃q∈d.weights Tryz.prog 22,a.dots.length*16≤q)/\IR (zmG w) w (.lst (zs1 l)) v:=by
 obtain⟨c,n⟩:=hd
 obtain⟨o,e,f,rfl⟩:=okWide_slice Tryz.underlying22 hval
 have j:DataW.trod enc Tryz.prog w base spare held c 22 [.slice o e f]=some (d,ps):=by simpa[Value.cells]using n
 obtain⟨l,k,p,s⟩:=zrG (good:=zA8) Tryz.underlying22 zxF z18 actC ⟨0,0,[]⟩ (λa x m=>by simp[actC]at m;rcases m with rfl|rfl|rfl<;>rfl) (λa=>rfl) (λh=>z1h hsp h) hsp j
 exact⟨l,λa g=>(k a g).elim λd h=>h.1.1,p,λa g=>(k a g).elim λd h=>h.1.2.imp id λ⟨q,t,i⟩=>⟨q,h.2 q t,i⟩,s⟩
theorem z58 {l:List ActM}{W:List Nat}(h:l= []∨∃q∈W,l.length*32≤q)(hW:∀q∈W,q≤reachBytes):l.length≤1000000000000000:=by
 rcases h with rfl|⟨q,a,h⟩
 ·simp
 ·have:=hW q a
  have b:reachBytes=140737488351232:=rfl
  omega
theorem z6h {l:List ActM}{W:List Nat}(h:∀a∈l,a.dots= []∨∃q∈W,a.dots.length*16≤q)(hW:∀q∈W,q≤reachBytes):∀a∈l,a.dots.length≤1000000000000000:=λa c=>by
 rcases h a c with h|⟨q,b,h⟩
 ·rw[h];simp
 ·have:=hW q b
  have d:reachBytes=140737488351232:=rfl
  omega
end
end
end Go.Proofs.YtdbhocoeolhjhaaGreatDoor
end
