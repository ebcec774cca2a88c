/- Shelf: an act of the law's play. Shelf: points come to a metric, in the law's play. Shelf: any act of the law's play; the law's fixed fact; the law of -/
import Derived.Shelf.SlSortCmp.WholeK
import Derived.Shelf.SlGeneric
import Derived.Ground.SlsfProg
import Derived.Test.YtdbhocoeolhjhaaGreatDoorProg
import Derived.Test.YtdbhocoeolhjhaaGreatDoorBn1
import Derived.Test.YtdbhocoeolhjhaaGreatDoorBn2
import Derived.Test.YtdbhocoeolhjhaaGreatDoorBn3
import Derived.Test.YtdbhocoeolhjhaaGreatDoorBn4
import Derived.Test.YtdbhocoeolhjhaaGreatDoorBn5
import Derived.Test.YtdbhocoeolhjhaaGreatDoorBn6
import Derived.Test.YtdbhocoeolhjhaaGreatDoorBn7
set_option linter.unusedSimpArgs false
set_option linter.unusedVariables false
set_option linter.constructorNameAsVariable false
section
set_option maxHeartbeats 16000000
namespace Go.Abs
variable [Globs]
theorem z0j {P:Program}{f:FuncId}{args:List AV}{σ:zab}{R R':AV->zab->Prop}(h:ACalls P f args σ R)(hf:∀r σ',R r σ'->R' r σ'∨∃σ'',Frz σ' σ''/\R' r σ''):ACalls P f args σ R':=λd κ o w p q s=>(h d κ o w p q s).mono (by
 rintro e t ⟨r,σ',v,κ',j,rfl,m,b,l,c⟩
 rcases hf r σ' m with k|⟨σ'',n,k⟩
 ·exact⟨r,σ',v,κ',j,rfl,k,b,l,c⟩
 ·obtain⟨g,i,a⟩:=z1w b n
  exact⟨r,σ'',v,κ',g,rfl,k,i,l.trans a,c.grow a⟩)
theorem z9N {P:Program}{K:AV->zab->Prop}{σ:zab}{g:FuncId}{args args':List AV}{r:AV}{t:Tg K}(hc:PCalls P g args' (λr'=>r'=r))(ha:CoeL σ false args args')(hK:K r σ):qc P K t σ g args:=⟨false,args',r,ha,hc,nofun,hK⟩
end Go.Abs
namespace Go.Proofs.YtdbhocoeolhjhaaGreatDoor
open Go.Abs Go.RowKit Go.Sf Go.Num
variable {G:Globs}
structure PlayAt (σ:zab)(k:Nat)(p:PlayM)(C0 C1 C2 C3:AV):Prop where
 at':σ[k]? =some (.var 42 (plC C0 C1 C2 C3 (p.sure 0:Nat) (p.sure 1:Nat) (p.sure 2:Nat) (p.sure 3:Nat) p.now))
 c0:CameOK σ C0 (p.came 0)
 c1:CameOK σ C1 (p.came 1)
 c2:CameOK σ C2 (p.came 2)
 c3:CameOK σ C3 (p.came 3)
structure Kept (σ σ':zab)(k:Nat):Prop where
 len:σ.length≤σ'.length
 get:∀i,i<σ.length->i≠k->σ'[i]? =σ[i]?
theorem CameOK.more {σ:zab}{C:AV}{l:List ArrM}(h:CameOK σ C l)(t:zab):CameOK (σ++t) C l:=by
 rcases h with h|⟨id,a,b⟩
 ·exact .inl h
 ·exact .inr ⟨id,a,zaP b t⟩
theorem CameOK.kept {σ σ':zab}{k:Nat}{C:AV}{l:List ArrM}{t:TypeId}{c:List AV}(h:CameOK σ C l)(hk:σ[k]? =some (.var t c))(hK:Kept σ σ' k):CameOK σ' C l:=by
 rcases h with h|⟨id,b,a⟩
 ·exact .inl h
 ·refine .inr ⟨id,b, ?_⟩
  rw[hK.get id (yaa.1 a).1 (λe=>by subst e;rw[hk]at a;cases a)]
  exact a
theorem zf4 {σ:zab}{k:Nat}(x:Entry)(t:zab):Kept σ (σ.set k x++t) k:=by
 refine⟨by simp,λi b a=> ?_⟩
 rw[yam (by simpa using b),yai (λe=>a e.symm)]
inductive StepS (s:ShM)(n:Nat):ShM->Prop
 |same:StepS s n s
 |app (j:Nat) (hj:j<4) (bs:List ArrM) (hb:∀x∈bs,OkA x/\OkV x) (hl:bs.length≤n) (hf:(zaW (za7 s (zar j)) bs).length≤s.disk.quota-zbf s.disk):StepS s n (zcC s (za7 s (zar j)) bs)
 |sync (j:Nat) (hj:j<4) (hh:hasK kM s.mets (zar j)):StepS s n (zhC s (za7 s (zar j)))
 |comp (j:Nat) (hj:j<4) (hf:(zdB (za7 s (zar j))).length≤s.disk.quota-zbf s.disk):StepS s n (zqR s (za7 s (zar j)) (zdB (za7 s (zar j))))
def DoR (s:ShM)(q a k':Nat)(σ:zab)(k:Nat)(p:PlayM)(dl:Nat)(r:AV)(σ':zab):Prop:=
 ∃s' p' e C0 C1 C2 C3,r=.tup [.agg (shC s'),.int .i64 e,.bool true]/\e≠22/\PlayInv s' p' q (a+1) (k'+1)/\PlayAt σ' k p' C0 C1 C2 C3/\Kept σ σ' k/\1000≤p'.now/\p'.now≤p.now+30*dl/\StepS s dl s'
def ze8 (p:PlayM)(j:Nat):PlayM:=⟨p.came,λi=>if i=j then(p.came j).length else p.sure i,p.now⟩
theorem gset {σ:zab}(k:Nat)(x:Entry)(t:zab)(i:Nat):(σ.set k x++t)[σ.length+i]? =t[i]? :=by
 rw[yak (by simp)]
 simp
theorem ztN {σ:zab}(k:Nat)(x:Entry)(t:zab):(σ.set k x++t)[σ.length]? =t[0]? :=gset k x t 0
theorem sset {σ:zab}(k:Nat)(x:Entry)(t:zab)(i:Nat)(y:Entry):(σ.set k x++t).set (σ.length+i) y=σ.set k x++t.set i y:=by
 rw[ybl _ _ (by simp)]
 simp
theorem spl4 {C0 C1 C2 C3:AV}{now:Nat}(f:Nat->Nat){j:Nat}(hj:j<4)(n:Nat):(List.take (4+j) [C0,C1,C2,C3,AV.int .i64 (f 0:Nat),.int .i64 (f 1:Nat),.int .i64 (f 2:Nat),.int .i64 (f 3:Nat),.int .i64 now]++AV.int .i64 n::List.drop (4+j) [C1,C2,C3,.int .i64 (f 0:Nat),.int .i64 (f 1:Nat),.int .i64 (f 2:Nat),.int .i64 (f 3:Nat),.int .i64 now])=
  plC C0 C1 C2 C3 ((λi=>if i=j then n else f i) 0:Nat) ((λi=>if i=j then n else f i) 1:Nat) ((λi=>if i=j then n else f i) 2:Nat) ((λi=>if i=j then n else f i) 3:Nat) now:=by
 match j,hj with
 |0,_=>rfl
 |1,_=>rfl
 |2,_=>rfl
 |3,_=>rfl
theorem zjt {σ τ:zab}{a b c d:Entry}:(σ++a::b::c::d::τ)[σ.length+3]? =some d:=by
 rw[yak (by omega),ya2];rfl
theorem zj8 {σ τ:zab}{a b c d x:Entry}:(σ++a::b::c::d::τ).set (σ.length+3) x=σ++a::b::c::x::τ:=by
 rw[ybl _ _ (by omega),ya2];rfl
theorem z9l {σ:zab}{k:Nat}{p:PlayM}{C0 C1 C2 C3:AV}(h:PlayAt σ k p C0 C1 C2 C3){j:Nat}(hj:j<4):∃Cj,CameOK σ Cj (p.came j)/\(∀(l:List AV),List.take 1 (List.drop j (C0::C1::C2::C3::l))= [Cj]):=by
 match j,hj with
 |0,_=>exact⟨C0,h.c0,λl=>rfl⟩
 |1,_=>exact⟨C1,h.c1,λl=>rfl⟩
 |2,_=>exact⟨C2,h.c2,λl=>rfl⟩
 |3,_=>exact⟨C3,h.c3,λl=>rfl⟩
theorem z8C {σ:zab}{k:Nat}{s:ShM}{p:PlayM}{q a k':Nat}{C0 C1 C2 C3:AV}(hP:PlayInv s p q a k')(ha:a<69)(hk':k'≤100000)(hA:PlayAt σ k p C0 C1 C2 C3)(act:ActM)(hact:OkAct act)(hkind:act.kind%5=3)(hn1:1000≤p.now):
  ACalls Tryz.prog zbZ [.ptr k 0,.agg (shC s),.agg (actC act)] σ (DoR s q a k' σ k p act.dots.length):=by
 refine zaf hmix zcU rfl ?_
 obtain⟨j,K⟩:∃j,j=act.met%4:=⟨_,rfl⟩
 have b:j<4:=by omega
 have A:zar act.met=zar j:=by rw[K,zmQ]
 have B:(act.met:Int).tmod 4=(j:Int):=by rw[K];exact zbM act.met 4
 have D:(act.kind:Int).tmod 5=3:=by
  have:(act.kind:Int).tmod 5=((act.kind%5:Nat):Int):=zbM act.kind 5
  rw[this,hkind];rfl
 have E:IntKind.i64.wrap (j:Int)=j:=wrap_i64 (by omega) (by omega)
 have u:=zoG (G:=G) act.met hact.m
 have L:=zy8 (G:=G) hP.inv (by omega) hk' (zbi j)
 rw[A]at u
 have d:=hA.at'
 have f:=hA.c0.low
 have g:=hA.c1.low
 have i:=hA.c2.low
 have l:=hA.c3.low
 have R:=λt=>(hA.c0.more t).view
 have S:=λt=>(hA.c1.more t).view
 have T:=λt=>(hA.c2.more t).view
 have U:=λt=>(hA.c3.more t).view
 obtain⟨Q,o,r⟩:=z9l hA b
 have M:=λt=>(o.more t).view
 have O:=o.low.one
 have v:j+1≤9:=by omega
 have F:4+j≤8:=by omega
 have n:=λt=>zaP d t
 have H:=λt y=>zkk d t y
 simp only[plC]at n
 simp only[shC]at L
 simp[zch,shC,actC,zaQ,zay,zaV,B,D,E]
 refine zbu u (by simp) ?_
 simp
 refine zbu L (by simp[AV.pure]) ?_
 by_cases z:hasK kM s.mets (zar j)
 ·have I:znm s (zar j)=.tup [.agg (shC (zhC s (za7 s (zar j)))),.int .i64 0]:=by unfold znm;rw[if_pos z]
  rw[I]
  have P:=z1c hP b z
  simp[shC,zaQ,zay,zaV,zd7,splice,b,n,r,O,v,M,zgg,F,H,spl4 p.sure b,zcE,gset,ztN,sset]
  have c:=λ(C:AV) (h:LowC σ C)=>h.under (m:=σ.length) (yap _)
  refine zhY d (.tup [.agg (shC (zhC s (za7 s (zar j)))),.int .i64 0,.bool true]) (by simp[za5,gset,shC]) (by simp[AV.under,shC]) (by simp[Entry.under,plC,AV.under,c _ f,c _ g,c _ i,c _ l]) ?_
  refine⟨_,ze8 p j,0,C0,C1,C2,C3,rfl,by decide,zfj (zjl P _ _) (by omega) (by omega), ?_, ?_,hn1,by show p.now≤_;omega,.sync j b z⟩
  ·have e:=zf4 (σ:=σ) (k:=k) (.var 42 (plC C0 C1 C2 C3 ((ze8 p j).sure 0:Nat) ((ze8 p j).sure 1:Nat) ((ze8 p j).sure 2:Nat) ((ze8 p j).sure 3:Nat) p.now)) []
   rw[yb4]at e
   exact⟨zaY d _,hA.c0.kept d e,hA.c1.kept d e,hA.c2.kept d e,hA.c3.kept d e⟩
  ·have e:=zf4 (σ:=σ) (k:=k) (.var 42 (plC C0 C1 C2 C3 ((ze8 p j).sure 0:Nat) ((ze8 p j).sure 1:Nat) ((ze8 p j).sure 2:Nat) ((ze8 p j).sure 3:Nat) p.now)) []
   rw[yb4]at e
   exact e
 ·have I:znm s (zar j)=.tup [.agg (shC s),.int .i64 15]:=by unfold znm;rw[if_neg z]
  have J:p.came j= []:=Classical.byContradiction λh=>z ((hP.has j b).2 h)
  rw[I]
  have w:=zeU (G:=G) hP.inv (by omega) hk'
  simp only[shC]at w
  have x:zbl (p.came j)= []:=by rw[J];rfl
  simp[shC,zaQ,zay,zaV,zjt,zd7,zj8,splice,b,n,r,O,v,M,zgg,x]
  refine zap w (by simp[AV.pure]) (by simp) ?_
  simp[shC,zaQ,zay,zaV,zjt,zd7,zj8,splice]
  exact zgC (.tup [.agg (shC s),.int .i64 15,.bool true]) (by simp[za5,zaV,shC]) (by simp[AV.under,shC]) ⟨s,p,15,C0,C1,C2,C3,rfl,by decide,zfj hP (by omega) (by omega),hA,⟨yap _,λ_ _ _=>rfl⟩,hn1,by omega,.same⟩
theorem z9s (hT:zgo G){σ:zab}{k:Nat}{s:ShM}{p:PlayM}{q a k':Nat}{C0 C1 C2 C3:AV}(hP:PlayInv s p q a k')(ha:a<69)(hk':k'≤100000)(hA:PlayAt σ k p C0 C1 C2 C3)(act:ActM)(hact:OkAct act)(hkind:act.kind%5=4)(hn1:1000≤p.now):
  ACalls Tryz.prog zbZ [.ptr k 0,.agg (shC s),.agg (actC act)] σ (DoR s q a k' σ k p act.dots.length):=by
 refine zaf hmix zcU rfl ?_
 obtain⟨j,Q⟩:∃j,j=act.met%4:=⟨_,rfl⟩
 have b:j<4:=by omega
 have F:zar act.met=zar j:=by rw[Q,zmQ]
 have H:(act.met:Int).tmod 4=(j:Int):=by rw[Q];exact zbM act.met 4
 have I:(act.kind:Int).tmod 5=4:=by
  have:(act.kind:Int).tmod 5=((act.kind%5:Nat):Int):=zbM act.kind 5
  rw[this,hkind];rfl
 have J:IntKind.i64.wrap (j:Int)=j:=wrap_i64 (by omega) (by omega)
 have w:=zoG (G:=G) act.met hact.m
 have R:=zyG (G:=G) hT hP.inv ha hk' (zbi j)
 rw[F]at w
 have f:=hA.at'
 have l:=hA.c0.low
 have n:=hA.c1.low
 have o:=hA.c2.low
 have r:=hA.c3.low
 have U:=λt=>(hA.c0.more t).view
 have W:=λt=>(hA.c1.more t).view
 have X:=λt=>(hA.c2.more t).view
 have Y:=λt=>(hA.c3.more t).view
 obtain⟨T,v,i⟩:=z9l hA b
 have K:=λt=>(v.more t).view
 have L:=v.low.one
 have u:j+1≤9:=by omega
 have M:4+j≤8:=by omega
 have e:=λt=>zaP f t
 have O:=λt y=>zkk f t y
 simp only[plC]at e
 simp only[shC]at R
 simp[zch,shC,actC,zaQ,zay,zaV,H,I,J]
 refine zbu w (by simp) ?_
 simp
 refine zbu R (by simp[AV.pure]) ?_
 by_cases A:hasK kM s.mets (zar j)
 ·obtain⟨B,D⟩:∃B,B=zdB (za7 s (zar j)):=⟨_,rfl⟩
  by_cases E:B.length≤s.disk.quota-zbf s.disk
  ·skip
   have x:zng s (zar j)=.tup [.agg (shC (zqR s (za7 s (zar j)) B)),.int .i64 0]:=by unfold zng;rw[if_pos A,<-D,if_pos E]
   rw[x]
   have S:=zuV hP ha b A E
   simp[shC,zaQ,zay,zaV,zd7,splice,b,e,i,L,u,K,zgg,M,O,spl4 p.sure b,zcE,gset,ztN,sset]
   have c:=λ(C:AV) (h:LowC σ C)=>h.under (m:=σ.length) (yap _)
   refine zhY f (.tup [.agg (shC (zqR s (za7 s (zar j)) B)),.int .i64 0,.bool true]) (by simp[za5,gset,shC]) (by simp[AV.under,shC]) (by simp[Entry.under,plC,AV.under,c _ l,c _ n,c _ o,c _ r]) ?_
   refine⟨_,ze8 p j,0,C0,C1,C2,C3,rfl,by decide,zfj (zjl S _ _) (yap _) (by omega), ?_, ?_,hn1,by show p.now≤_;omega,by rw[D];exact .comp j b (by rw[<-D];exact E)⟩
   ·have g:=zf4 (σ:=σ) (k:=k) (.var 42 (plC C0 C1 C2 C3 ((ze8 p j).sure 0:Nat) ((ze8 p j).sure 1:Nat) ((ze8 p j).sure 2:Nat) ((ze8 p j).sure 3:Nat) p.now)) []
    rw[yb4]at g
    exact⟨zaY f _,hA.c0.kept f g,hA.c1.kept f g,hA.c2.kept f g,hA.c3.kept f g⟩
   ·have g:=zf4 (σ:=σ) (k:=k) (.var 42 (plC C0 C1 C2 C3 ((ze8 p j).sure 0:Nat) ((ze8 p j).sure 1:Nat) ((ze8 p j).sure 2:Nat) ((ze8 p j).sure 3:Nat) p.now)) []
    rw[yb4]at g
    exact g
  ·have x:zng s (zar j)=.tup [.agg (shC s),.int .i64 6]:=by unfold zng;rw[if_pos A,<-D,if_neg E]
   rw[x]
   have d:=zeU (G:=G) hP.inv (by omega) hk'
   simp only[shC]at d
   simp[shC,zaQ,zay,zaV,zjt,zd7,zj8,splice,b,e,i,L,u,K,zgg]
   refine zap d (by simp[AV.pure]) (by simp) ?_
   simp[shC,zaQ,zay,zaV,zjt,zd7,zj8,splice]
   exact zgC (.tup [.agg (shC s),.int .i64 6,.bool true]) (by simp[za5,zaV,shC]) (by simp[AV.under,shC]) ⟨s,p,6,C0,C1,C2,C3,rfl,by decide,zfj hP (by omega) (by omega),hA,⟨yap _,λ_ _ _=>rfl⟩,hn1,by omega,.same⟩
 ·have x:zng s (zar j)=.tup [.agg (shC s),.int .i64 15]:=by unfold zng;rw[if_neg A]
  have P:p.came j= []:=Classical.byContradiction λh=>A ((hP.has j b).2 h)
  rw[x]
  have d:=zeU (G:=G) hP.inv (by omega) hk'
  simp only[shC]at d
  have z:zbl (p.came j)= []:=by rw[P];rfl
  simp[shC,zaQ,zay,zaV,zjt,zd7,zj8,splice,b,e,i,L,u,K,zgg,z]
  refine zap d (by simp[AV.pure]) (by simp) ?_
  simp[shC,zaQ,zay,zaV,zjt,zd7,zj8,splice]
  exact zgC (.tup [.agg (shC s),.int .i64 15,.bool true]) (by simp[za5,zaV,shC]) (by simp[AV.under,shC]) ⟨s,p,15,C0,C1,C2,C3,rfl,by decide,zfj hP (by omega) (by omega),hA,⟨yap _,λ_ _ _=>rfl⟩,hn1,by omega,.same⟩
end Go.Proofs.YtdbhocoeolhjhaaGreatDoor
end
section
set_option maxHeartbeats 16000000
namespace Go.Proofs.YtdbhocoeolhjhaaGreatDoor
open Go.Abs Go.RowKit Go.Sf Go.Num
variable {G:Globs}
theorem spl0 {C0 C1 C2 C3:AV}{s0 s1 s2 s3:Int}{now:Nat}{j:Nat}(hj:j<4)(R:AV):(List.take j [C0,C1,C2,C3,AV.int .i64 s0,.int .i64 s1,.int .i64 s2,.int .i64 s3,.int .i64 now]++R::List.drop j [C1,C2,C3,.int .i64 s0,.int .i64 s1,.int .i64 s2,.int .i64 s3,.int .i64 now])=
  plC (if 0=j then R else C0) (if 1=j then R else C1) (if 2=j then R else C2) (if 3=j then R else C3) s0 s1 s2 s3 now:=by
 match j,hj with
 |0,_=>rfl
 |1,_=>rfl
 |2,_=>rfl
 |3,_=>rfl
theorem z26 (hT:zgo G){σ:zab}{k:Nat}{s:ShM}{p:PlayM}{q a k':Nat}{C0 C1 C2 C3:AV}(hP:PlayInv s p q a k')(ha:a<69)(hk':k'≤100000)(hA:PlayAt σ k p C0 C1 C2 C3)(act:ActM)(hact:OkAct act)(hkind:act.kind%5≠3/\act.kind%5≠4)(hd:act.dots.length≤300)(hn1:1000≤p.now)(hn2:p.now≤600000):
  ACalls Tryz.prog zbZ [.ptr k 0,.agg (shC s),.agg (actC act)] σ (DoR s q a k' σ k p act.dots.length):=by
 refine z0j (R:=λr σ'=>DoR s q a k' σ k p act.dots.length r σ'∨∃id l,σ'[id]? =some (.row 91 4 (zbl l) false)/\DoR s q a k' σ k p act.dots.length r (σ'.set id (.row 91 4 (zbl l) true))) ?_ (λr σ' h=> ?_)
 rotate_left
 ·rcases h with h|⟨id,l,h1,h2⟩
  ·exact .inl h
  ·exact .inr ⟨_,⟨id,_,_,_,_,h1,zmW (zhy l).2.1 (λc hc=>by obtain⟨n,_,rfl⟩:=yav.1 hc;simp[arrC]),rfl⟩,h2⟩
 refine zaf hmix zcU rfl ?_
 obtain⟨j,hj⟩:∃j,j=act.met%4:=⟨_,rfl⟩
 have t:j<4:=by omega
 have bf:zar act.met=zar j:=by rw[hj,zmQ]
 have bg:(act.met:Int).tmod 4=(j:Int):=by rw[hj];exact zbM act.met 4
 obtain⟨kd,ai⟩:∃kd,kd=act.kind%5:=⟨_,rfl⟩
 rw[<-ai]at hkind
 have bh:(act.kind:Int).tmod 5=(kd:Int):=by rw[ai];exact zbM act.kind 5
 have bi:¬(kd:Int)=3:=by omega
 have bj:¬(kd:Int)=4:=by omega
 have ao:¬kd=3:=by omega
 have aq:¬kd=4:=by omega
 have bk:IntKind.i64.wrap (j:Int)=j:=wrap_i64 (by omega) (by omega)
 have ar:=zoG (G:=G) act.met hact.m
 rw[bf]at ar
 obtain⟨g,M⟩:∃g,g=ptsM p.now act.dots:=⟨_,rfl⟩
 have au:g.length≤300:=by rw[M,zs3];exact hd
 have Q:∀x∈g,OkA x:=by rw[M];exact z8k hn1 (by omega) hact.d
 have E:=z2y p.now act.dots
 obtain⟨f,aj⟩:∃f,f=nowM p.now act.dots:=⟨_,rfl⟩
 rw[<-aj]at E
 have av:=zrK (G:=G) hT hP.inv ha hk' (zbi j) g Q au
 have v:=hA.at'
 obtain⟨Cj,ak,bc⟩:=z9l hA t
 have oj:=ak.low.one
 have aw:j+1≤9:=by omega
 have bn:4+j≤8:=by omega
 have ax:=λ(X:zab)=>z3H (G:=G) (σ:=σ++X) (k:=k) (hA.c0.more X).low (hA.c1.more X).low (hA.c2.more X).low (hA.c3.more X).low (zaP v X) act hact hd hn1 hn2
 rw[<-M,<-aj]at ax
 simp only[shC]at av
 obtain⟨w,J⟩:∃w:Entry,w=.var 42 (plC C0 C1 C2 C3 (p.sure 0:Nat) (p.sure 1:Nat) (p.sure 2:Nat) (p.sure 3:Nat) f):=⟨_,rfl⟩
 simp[zch,shC,actC,zaQ,zay,zaV,bg,bh,bk,bi,bj,ao,aq]
 refine zam (ax _) ?_
 rintro r σ' ⟨u,rfl,an,bd⟩
 rw[zkk v,<-J]
 obtain⟨V,hV⟩:∃V:Entry,V=.var 33 (shC s):=⟨_,rfl⟩
 obtain⟨A,al⟩:∃A:Entry,A=.var 47 (actC act):=⟨_,rfl⟩
 obtain⟨Z,hZ⟩:∃Z:Entry,Z=.var 33 [.int .i64 0,.nils,.nils,.nils,.nils,.int .i64 0,.nils,.int .i64 0,.int .i64 0,.bool false]:=⟨_,rfl⟩
 have ay:AccT 91 4 (σ.length+4) u r (zbl g):=by simpa using an
 have W:∀(a b c d:Entry) (X:zab) (o:Bool),Coe (σ.set k w++a::b::c::d::(u++X)) o r (.lst (zbl g)):=λa b c d X o=>by
  have h1:AccT 91 4 (σ.set k w++ [a,b,c,d]).length (u++X) r (zbl g):=by
   have:(σ.set k w++ [a,b,c,d]).length=σ.length+4:=by simp
   rw[this];exact ay.more X
  have:=h1.coe o
  simpa using this
 have af:∀(a b c d:Entry) (o:Bool),Coe (σ.set k w++a::b::c::d::u) o r (.lst (zbl g)):=λa b c d o=>by simpa using W a b c d [] o
 have az:∀(a b c d:Entry) (X:zab),view (σ.set k w++a::b::c::d::(u++X)) r=some (zbl g):=λa b c d X=>by
  have h1:AccT 91 4 (σ.set k w++ [a,b,c,d]).length (u++X) r (zbl g):=by
   have:(σ.set k w++ [a,b,c,d]).length=σ.length+4:=by simp
   rw[this];exact ay.more X
  have:=h1.view
  simpa using this
 have hK:=λ(X:zab)=>zf4 (σ:=σ) (k:=k) w X
 have w0:=λX=>hA.c0.kept v (hK X)
 have w1:=λX=>hA.c1.kept v (hK X)
 have w2:=λX=>hA.c2.kept v (hK X)
 have w3:=λX=>hA.c3.kept v (hK X)
 have a0:=λ(X:zab)=>zaP (zaY v w) X
 have bl:=zwD (G:=G) (p.came 0) (p.came 1) (p.came 2) (p.came 3) (p.sure 0:Nat) (p.sure 1:Nat) (p.sure 2:Nat) (p.sure 3:Nat) f j (p.came j) (by
  match j,t with
  |0,_=>exact .inl ⟨rfl,rfl⟩
  |1,_=>exact .inr (.inl ⟨rfl,rfl⟩)
  |2,_=>exact .inr (.inr (.inl ⟨rfl,rfl⟩))
  |3,_=>exact .inr (.inr (.inr ⟨rfl,rfl⟩))) (hP.ok j t) (by have:=hP.len j t;omega) g Q (by omega)
 simp[gset,ztN,sset]
 refine zbu ar (by simp) ?_
 simp[gset,ztN,sset]
 refine zbu zlg (by simp) ?_
 simp[gset,ztN,sset]
 refine z9N av (.cons (.pure _ (by simp[AV.pure])) (.cons (.pure _ (by simp)) (.cons (.pure _ (by simp[AV.pure,schC])) (.cons (af _ _ _ _ _) .nil)))) ?_
 obtain⟨H,e,hR,he⟩:∃(H:ShM) (e:Int),zhD s (zar j) g=.tup [.agg (shC H),.int .i64 e]/\((e=0/\(∀x∈g,OkV x)/\PlayInv H (addC p j g f) q (a+1) (k'+1)/\StepS s act.dots.length H)∨(e=6/\(∀x∈g,OkV x)/\H=s)∨(e=1/\¬(∀x∈g,OkV x)/\H=s)):=by
  unfold zhD
  by_cases D:∀x∈g,OkV x
  ·rw[if_pos D]
   by_cases h0:g= []
   ·rw[if_pos h0]
    refine⟨s,0,rfl,.inl ⟨rfl,D, ?_,.same⟩⟩
    have:addC p j g f=⟨p.came,p.sure,f⟩:=by
     unfold addC
     rw[h0]
     congr 1
     funext i
     split
     ·rename_i e;rw[e];simp
     ·rfl
    rw[this]
    exact zfj (zjl hP _ _) (by omega) (by omega)
   ·rw[if_neg h0]
    by_cases hf:(zaW (za7 s (zar j)) g).length≤s.disk.quota-zbf s.disk
    ·rw[if_pos hf]
     exact⟨_,0,rfl,.inl ⟨rfl,D,zpP hP ha t (λx hx=>⟨Q x hx,D x hx⟩) h0 au hf f,.app j t g (λx hx=>⟨Q x hx,D x hx⟩) (by rw[M,zs3];exact yap _) hf⟩⟩
    ·rw[if_neg hf]
     exact⟨s,6,rfl,.inr (.inl ⟨rfl,D,rfl⟩)⟩
  ·rw[if_neg D]
   exact⟨s,1,rfl,.inr (.inr ⟨rfl,D,rfl⟩)⟩
 rw[hR]
 simp[shC,gset,ztN,sset]
 refine z34 bl (.cons ?_ (.cons (.pure _ (by simp)) (.cons ?_ .nil))) ?_
 ·refine .ptr k 0 42 (plC C0 C1 C2 C3 (p.sure 0:Nat) (p.sure 1:Nat) (p.sure 2:Nat) (p.sure 3:Nat) f) _ (by rw[a0,J]) rfl (by simp[plC]) rfl (λi h h'=> ?_) (by simp[AV.one])
  match i,h with
  |0,_=>exact(w0 _).coe true
  |1,_=>exact(w1 _).coe true
  |2,_=>exact(w2 _).coe true
  |3,_=>exact(w3 _).coe true
  |4,_=>exact .pure _ (by simp[plC,AV.pure])
  |5,_=>exact .pure _ (by simp[plC,AV.pure])
  |6,_=>exact .pure _ (by simp[plC,AV.pure])
  |7,_=>exact .pure _ (by simp[plC,AV.pure])
  |8,_=>exact .pure _ (by simp[plC,AV.pure])
 ·exact W _ _ _ _ _ true
 rintro r2 rfl
 refine⟨by simp[rig], ?_⟩
 have F:=λ(C:AV) (h:LowC σ C)=>h.under (m:=σ.length) (yap _)
 have a1:w.under (σ.set k w).length=true:=by
  rw[J]
  simp[Entry.under,plC,AV.under,F _ hA.c0.low,F _ hA.c1.low,F _ hA.c2.low,F _ hA.c3.low]
 have I:Kept σ (σ.set k w) k:=by have:=hK [];rwa[yb4]at this
 have a2:PlayAt (σ.set k w) k ⟨p.came,p.sure,f⟩ C0 C1 C2 C3:=⟨by rw[zaY v,J],hA.c0.kept v I,hA.c1.kept v I,hA.c2.kept v I,hA.c3.kept v I⟩
 rcases he with ⟨rfl,D,hI,be⟩|⟨rfl,D,rfl⟩|⟨rfl,D,rfl⟩
 ·rw[decide_eq_true D]
  have Y:∀X,(σ.set k w++X)[k]? =some (.var 42 [C0,C1,C2,C3,.int .i64 (p.sure 0:Nat),.int .i64 (p.sure 1:Nat),.int .i64 (p.sure 2:Nat),.int .i64 (p.sure 3:Nat),.int .i64 f]):=λX=>by rw[a0,J];rfl
  have wj:=λX=>ak.kept v (hK X)
  have bo:=hP.len j t
  have K:=zcE (p.came j)
  have ag:=zcE g
  have a3:∀(y:Entry) (X:zab),(σ.set k w++X).set k y=σ.set k y++X:=λy X=>by rw[zkk (zaY v w),List.set_set]
  have a4:∀(y:Entry) (X:zab),(σ.set k y++X)[k]? =some y:=λy X=>zaP (zaY v y) X
  simp[t,Y,bc,oj,aw,zgg]
  refine zbm [] (zbl (p.came j)) false (by simp[gset,zay]) (wj _).view (by decide) (zhy _).1 (λh=>by cases h) rfl (by rw[K];omega) (by rw[K];omega) ?_
  simp[gset,sset,zc7]
  refine zbm (zbl (p.came j)) (zbl g) false (by simp[gset,zay]) (az _ _ _ _ _) (by decide) (zhy _).1 (λh=>by cases h) rfl (by rw[K,ag];omega) (by rw[K,ag];omega) ?_
  have a5:zbl (p.came j)++zbl g=zbl (p.came j++g):=by simp[zbl]
  simp[gset,sset,zc7,a5,t,Y,aw,a3]
  rw[spl0 t,K,ag]
  obtain⟨R,ad⟩:∃R,R=AV.row (σ.length+(u.length+1+1+1+1+1)) ((p.came j).length+g.length):=⟨_,rfl⟩
  obtain⟨O,ae⟩:∃O:Entry,O=.var 42 (plC (if 0=j then R else C0) (if 1=j then R else C1) (if 2=j then R else C2) (if 3=j then R else C3) (p.sure 0:Nat) (p.sure 1:Nat) (p.sure 2:Nat) (p.sure 3:Nat) f):=⟨_,rfl⟩
  rw[<-ad,<-ae]
  obtain⟨U,am⟩:∃U:Entry,U=.var 33 (shC s):=⟨_,rfl⟩
  obtain⟨B,P⟩:∃B:Entry,B=.var 33 (shC H):=⟨_,rfl⟩
  have aa:=am
  have ab:=P
  have ah:A=.var 47 [.int .u8 act.kind,.int .u8 act.met,.lst (zvJ act.dots)]:=al
  simp only[shC]at aa ab
  rw[<-aa,<-ab,<-ah,show(Entry.var 47 (actC act))=A from al.symm]
  have a6:Kept σ (σ.set k O++U::A::B::A::(u++ [B,.row 91 4 (zbl (p.came j++g)) true])) k:=zf4 O _
  have a7:(σ.set k O++U::A::B::A::(u++ [B,.row 91 4 (zbl (p.came j++g)) false])).set (σ.length+(u.length+1+1+1+1+1)) (.row 91 4 (zbl (p.came j++g)) true)=σ.set k O++U::A::B::A::(u++ [B,.row 91 4 (zbl (p.came j++g)) true]):=by
   simp[sset,zc7]
  have S:∀(i:Nat) (C:AV),CameOK σ C (p.came i)->CameOK (σ.set k O++U::A::B::A::(u++ [B,.row 91 4 (zbl (p.came j++g)) true])) (if i=j then R else C) ((addC p j g f).came i):=λi C hC=>by
   show CameOK _ _ (if i=j then p.came j++g else p.came i)
   split
   ·refine .inr ⟨_,by rw[ad,yaj], ?_⟩
    simp[gset,zay]
   ·exact hC.kept v a6
  have a8:(σ.set k O++U::A::B::A::(u++ [B,.row 91 4 (zbl (p.came j++g)) false])).length=σ.length+(u.length+6):=by simp
  have bm:R.under (σ.length+(u.length+6))=true:=by rw[ad];simp[AV.under]
  have a9:σ.length≤σ.length+(u.length+6):=by omega
  have T:∀(i:Nat) (C:AV),LowC σ C->(if i=j then R else C).under (σ.length+(u.length+6))=true:=λi C hC=>by
   split
   ·exact bm
   ·exact hC.under a9
  refine zav (σ.set k O++U::A::B::A::(u++ [B,.row 91 4 (zbl (p.came j++g)) false])) (.tup [.agg (shC H),.int .i64 0,.bool true]) ?_ [] (by simp) (by simp) (by simp[AV.under,shC]) (λi e' z=> ?_) (.inr ⟨σ.length+(u.length+1+1+1+1+1),p.came j++g,by simp[gset,zay],H,addC p j g f,0,(if 0=j then R else C0),(if 1=j then R else C1),(if 2=j then R else C2),(if 3=j then R else C3),rfl,by decide,hI, ?_, ?_,by show 1000≤f;omega,E.2,be⟩)
  ·simp[za5,gset,P,shC]
  ·rw[a8]
   by_cases hi:i<σ.length
   ·rw[yam (by simpa using hi)]at z
    by_cases bb:k=i
    ·subst bb
     rw[zaY v]at z
     cases z
     right
     rw[ae]
     simp[Entry.under,plC,AV.under]
     exact⟨T 0 C0 hA.c0.low,T 1 C1 hA.c1.low,T 2 C2 hA.c2.low,T 3 C3 hA.c3.low⟩
    ·rw[yai bb]at z
     exact .inl z
   ·rw[yak (by simpa using yed hi)]at z
    right
    have ba:=yae z
    simp only[ybb,yag,ydy,or_false]at ba
    rcases ba with rfl|rfl|rfl|rfl|h1|rfl|rfl
    ·rw[am];simp[Entry.under,AV.under,shC]
    ·rw[ah];simp[Entry.under,AV.under]
    ·rw[P];simp[Entry.under,AV.under,shC]
    ·rw[ah];simp[Entry.under,AV.under]
    ·obtain⟨l,rfl⟩:=bd e' h1
     exact za3 (zhy l).2.1
    ·rw[P];simp[Entry.under,AV.under,shC]
    ·exact za3 (zhy _).2.1
  ·rw[a7]
   exact⟨by rw[a4,ae];rfl,S 0 C0 hA.c0,S 1 C1 hA.c1,S 2 C2 hA.c2,S 3 C3 hA.c3⟩
  ·rw[a7]
   exact a6
 ·have L:=zeU (G:=G) hP.inv (by omega) hk'
  simp only[shC]at L
  rw[decide_eq_true D]
  simp
  refine zap L (by simp[AV.pure]) (by simp) ?_
  simp[gset,ztN,sset,splice]
  refine zhY v (.tup [.agg (shC H),.int .i64 6,.bool true]) (by simp[za5,gset,shC]) (by simp[AV.under,shC]) a1 (.inl ⟨H,_,6,C0,C1,C2,C3,rfl,by decide,zfj (zjl hP p.sure f) (by omega) (by omega),a2,I,by show 1000≤f;omega,E.2,.same⟩)
 ·have L:=zeU (G:=G) hP.inv (by omega) hk'
  simp only[shC]at L
  rw[decide_eq_false D]
  simp
  refine zap L (by simp[AV.pure]) (by simp) ?_
  simp[gset,ztN,sset,splice]
  refine zhY v (.tup [.agg (shC H),.int .i64 1,.bool true]) (by simp[za5,gset,shC]) (by simp[AV.under,shC]) a1 (.inl ⟨H,_,1,C0,C1,C2,C3,rfl,by decide,zfj (zjl hP p.sure f) (by omega) (by omega),a2,I,by show 1000≤f;omega,E.2,.same⟩)
end Go.Proofs.YtdbhocoeolhjhaaGreatDoor
end
section
set_option maxHeartbeats 16000000
namespace Go.Proofs.YtdbhocoeolhjhaaGreatDoor
open Go.Abs Go.RowKit Go.Sf Go.Num
variable {G:Globs}
theorem z9K (hT:zgo G){σ:zab}{k:Nat}{s:ShM}{p:PlayM}{q a k':Nat}{C0 C1 C2 C3:AV}(hP:PlayInv s p q a k')(ha:a<69)(hk':k'≤100000)(hA:PlayAt σ k p C0 C1 C2 C3)(act:ActM)(hact:OkAct act)(hd:act.dots.length≤300)(hn1:1000≤p.now)(hn2:p.now≤600000):
  ACalls Tryz.prog zbZ [.ptr k 0,.agg (shC s),.agg (actC act)] σ (DoR s q a k' σ k p act.dots.length):=by
 by_cases b:act.kind%5=3
 ·exact z8C hP ha hk' hA act hact b hn1
 ·by_cases c:act.kind%5=4
  ·exact z9s hT hP ha hk' hA act hact c hn1
  ·exact z26 hT hP ha hk' hA act hact ⟨b,c⟩ hd hn1 hn2
def alPt:List ArrM:= [⟨100,5,101⟩]
theorem zsP:∀x∈alPt,OkA x/\OkV x:=by
 intro x a
 simp only[alPt,ybk]at a
 subst a
 exact⟨⟨by decide,by decide,by decide,by decide,⟨by decide,by decide⟩⟩,by unfold OkV;decide⟩
def alSh1:ShM:=zcC (newS 2000) (za7 (newS 2000) [97]) alPt
def z9J:PlayM:=addC ⟨λ_=> [],λ_=>0,1000⟩ 0 alPt 1000
def alSh2:ShM:=zqR alSh1 (za7 alSh1 [97]) (zdB (za7 alSh1 [97]))
theorem zBv:za7 (newS 2000) [97]=zix (newS 2000) [97]:=zf7 (by simp[newS,hasK])
theorem z7d:(zaW (za7 (newS 2000) [97]) alPt).length≤(newS 2000).disk.quota-zbf (newS 2000).disk:=by
 rw[zBv]
 decide+kernel
theorem alInv1:PlayInv alSh1 z9J 2000 1 1:=zpP (n:=0) (zty (q:=2000) (by decide)) (by decide) (by decide) zsP (by decide) (by decide) z7d 1000
theorem z7e:(zdB (za7 alSh1 [97])).length≤alSh1.disk.quota-zbf alSh1.disk:=by
 decide+kernel
theorem alInv2:PlayInv alSh2 z9J 2000 2 1:=zuV (n:=0) alInv1 (by decide) (by decide) ((alInv1.has 0 (by decide)).2 (by decide)) z7e
theorem z6J:alSh2.disk.names.map (·.name)= [[49,46,50,46,99]]:=by
 decide+kernel
theorem zAd:(za7 alSh2 [97]).base=2:=by
 decide+kernel
theorem z4l (hT:zgo G):PCalls Tryz.prog zkT [] (λr=>r=.bool true):=by
 refine zaa hmix zkD rfl ?_
 have k:=z3a (G:=G) 2000 (by decide)
 have e:=(zty (q:=2000) (by decide)).inv
 have a:=zrK (G:=G) hT e (by decide) (by decide) (p:= [97]) (by decide) alPt (λx d=>(zsP x d).1) (by decide)
 have f:=zyG (G:=G) hT alInv1.inv (by decide) (by decide) (p:= [97]) (by decide)
 have g:hasK kM alSh2.mets [97]:=(alInv2.has 0 (by decide)).2 (by decide)
 obtain⟨o,c⟩:=zcT alInv2.inv.srt g
 have l:=zuy (G:=G) alSh2 [97] alInv2.inv.srt (by have:=alInv2.inv.len;omega) o c
 have m:=λσ=>zt0 (G:=G) σ alSh2.disk alInv2.inv.size.right (alInv2.inv.size.fits (by decide) (by decide))
 have b:=z1K (G:=G) alPt zsP (by decide)
 have n:=znr (G:=G) (za7 alSh2 [97]).lad (alInv2.inv.met (p:= [97]) (by decide)).lad
 have s:zba newL alPt=(za7 alSh2 [97]).lad:=(alInv2.lad 0 (by decide)).symm
 have t:zhD (newS 2000) [97] alPt=.tup [.agg (shC alSh1),.int .i64 0]:=by
  unfold zhD
  rw[if_pos (λx d=>(zsP x d).2),if_neg (by decide),if_pos z7d]
  rfl
 have u:zng alSh1 [97]=.tup [.agg (shC alSh2),.int .i64 0]:=by
  unfold zng
  have h:hasK kM alSh1.mets [97]:=(alInv1.has 0 (by decide)).2 (by decide)
  rw[if_pos h,if_pos z7e]
  rfl
 rw[t]at a
 rw[u]at f
 rw[s]at b
 simp only[shC,zal]at k a f l m
 simp only[schC,alPt,zbl,List.map,arrC]at a b
 simp only[ladC]at b n
 simp[zgc]
 refine zac k (by simp) ?_
 rintro r rfl
 simp[shC]
 refine zbu zlg (by simp) ?_
 simp[splice,schC]
 refine zbu a (by simp[AV.pure]) ?_
 simp[splice]
 refine zac f (by simp[AV.pure]) ?_
 rintro r rfl
 simp[splice]
 refine zac l (by simp[AV.pure]) ?_
 rintro r rfl
 simp[splice,metC]
 refine zam (m _) ?_
 rintro r σ' ⟨rfl,rfl⟩
 have i:alSh2.disk.names.length=1:=by have:=congrArg List.length z6J;simpa using this
 have j:zaX (alSh2.disk.names.map (·.name))= [[.str [49,46,50,46,99]]]:=by rw[z6J];rfl
 have hb2:=zAd
 simp[splice,metC,i,j,hb2]
 refine zbu zlg (by simp) ?_
 simp[splice,schC]
 refine zbu b (by simp[AV.pure]) ?_
 simp
 refine zbu n (by simp[AV.pure]) ?_
 simp
end Go.Proofs.YtdbhocoeolhjhaaGreatDoor
end
section
set_option maxHeartbeats 16000000
namespace Go.Proofs.YtdbhocoeolhjhaaGreatDoor
open Go.Abs Go.RowKit Go.Sf Go.Num
variable {G:Globs}
def shV (s:ShM):Entry:=.var 33 (shC s)
theorem PlayAt.more {σ:zab}{k:Nat}{p:PlayM}{C0 C1 C2 C3:AV}(h:PlayAt σ k p C0 C1 C2 C3)(t:zab):PlayAt (σ++t) k p C0 C1 C2 C3:=⟨zaP h.at' t,h.c0.more t,h.c1.more t,h.c2.more t,h.c3.more t⟩
theorem PlayAt.kept {σ σ':zab}{k j:Nat}{p:PlayM}{C0 C1 C2 C3:AV}{t:TypeId}{c:List AV}(h:PlayAt σ k p C0 C1 C2 C3)(hj:σ[j]? =some (.var t c))(hne:k≠j)(hK:Kept σ σ' j):PlayAt σ' k p C0 C1 C2 C3:=
 ⟨by rw[hK.get k (yaa.1 h.at').1 hne];exact h.at',h.c0.kept hj hK,h.c1.kept hj hK,h.c2.kept hj hK,h.c3.kept hj hK⟩
theorem z3X {l:List ActM}(i:Nat):((l.take i).map λa=>a.dots.length).sum≤(l.map λa=>a.dots.length).sum:=by
 have e:l.map (λa=>a.dots.length)=(l.take i).map (λa=>a.dots.length)++(l.drop i).map λa=>a.dots.length:=by rw[<-ycw,yba]
 rw[e,List.sum_append];omega
end Go.Proofs.YtdbhocoeolhjhaaGreatDoor
end
section
namespace Go.Proofs
open Go.Shelf
def Tryz.sortRead_ren:Go.Shelf.Ren:=⟨fun|6=>119|15=>185|14=>184|28=>240|29=>241|20=>232|21=>233|22=>234|23=>235|24=>236|25=>237|26=>238|27=>239|46=>275|47=>276|48=>277|49=>278|50=>279|57=>310|n=>n,fun|22=>143|24=>149|25=>211|3=>3|39=>228|0=>0|53=>286|55=>199|4=>4|46=>296|45=>295|50=>86|5=>5|9=>9|66=>324|70=>328|76=>353|77=>354|n=>n,fun|n=>n⟩
theorem Tryz.sortRead:Go.Proofs.SlLaysF0.n6 Tryz.prog Tryz.sortRead_ren:={
 mixed:=by kernel_rfl
 f6:=⟨Tryz.f119.name,by decide,Tryz.func119.trans (congrArg some (by kernel_rfl))⟩
 f14:=⟨Tryz.f184.name,by decide,Tryz.func184.trans (congrArg some (by kernel_rfl))⟩
 f15:=Tryz.func185.trans (congrArg some (by kernel_rfl))
 f20:=⟨Tryz.f232.name,by decide,Tryz.func232.trans (congrArg some (by kernel_rfl))⟩
 f21:=⟨Tryz.f233.name,by decide,Tryz.func233.trans (congrArg some (by kernel_rfl))⟩
 f22:=⟨Tryz.f234.name,by decide,Tryz.func234.trans (congrArg some (by kernel_rfl))⟩
 f23:=⟨Tryz.f235.name,by decide,Tryz.func235.trans (congrArg some (by kernel_rfl))⟩
 f24:=⟨Tryz.f236.name,by decide,Tryz.func236.trans (congrArg some (by kernel_rfl))⟩
 f25:=⟨Tryz.f237.name,by decide,Tryz.func237.trans (congrArg some (by kernel_rfl))⟩
 f26:=⟨Tryz.f238.name,by decide,Tryz.func238.trans (congrArg some (by kernel_rfl))⟩
 f27:=⟨Tryz.f239.name,by decide,Tryz.func239.trans (congrArg some (by kernel_rfl))⟩
 f28:=Tryz.func240.trans (congrArg some (by kernel_rfl))
 f29:=Tryz.func241.trans (congrArg some (by kernel_rfl))
 f46:=⟨Tryz.f275.name,by decide,Tryz.func275.trans (congrArg some (by kernel_rfl))⟩
 f47:=Tryz.func276.trans (congrArg some (by kernel_rfl))
 f48:=Tryz.func277.trans (congrArg some (by kernel_rfl))
 f49:=⟨Tryz.f278.name,by decide,Tryz.func278.trans (congrArg some (by kernel_rfl))⟩
 f50:=⟨Tryz.f279.name,by decide,Tryz.func279.trans (congrArg some (by kernel_rfl))⟩
 f57:=⟨Tryz.f310.name,by decide,Tryz.func310.trans (congrArg some (by kernel_rfl))⟩
 t0:=Tryz.underlying0
 a0:=Tryz.isAgg0
 z0:=Tryz.sizeOf0
 v0:=Tryz.zeroValue0
 t3:=Tryz.underlying3
 a3:=Tryz.isAgg3
 z3:=Tryz.sizeOf3
 v3:=Tryz.zeroValue3
 t4:=Tryz.underlying4
 a4:=Tryz.isAgg4
 z4:=Tryz.sizeOf4
 v4:=Tryz.zeroValue4
 t5:=Tryz.underlying5
 a5:=Tryz.isAgg5
 z5:=Tryz.sizeOf5
 v5:=Tryz.zeroValue5
 t9:=Tryz.underlying9
 a9:=Tryz.isAgg9
 z9:=Tryz.sizeOf9
 v9:=Tryz.zeroValue9
 t22:=Tryz.underlying143
 a22:=Tryz.isAgg143
 z22:=Tryz.sizeOf143
 v22:=Tryz.zeroValue143
 t25:=Tryz.underlying211
 a25:=Tryz.isAgg211
 z25:=Tryz.sizeOf211
 v25:=Tryz.zeroValue211
 t39:=Tryz.underlying228
 a39:=Tryz.isAgg228
 z39:=Tryz.sizeOf228
 v39:=Tryz.zeroValue228
 t45:=Tryz.underlying295
 a45:=Tryz.isAgg295
 z45:=Tryz.sizeOf295
 v45:=Tryz.zeroValue295
 t46:=Tryz.underlying296
 a46:=Tryz.isAgg296
 z46:=Tryz.sizeOf296
 v46:=Tryz.zeroValue296
 t50:=Tryz.underlying86
 a50:=Tryz.isAgg86
 z50:=Tryz.sizeOf86
 v50:=Tryz.zeroValue86
 t53:=Tryz.underlying286
 a53:=Tryz.isAgg286
 z53:=Tryz.sizeOf286
 v53:=Tryz.zeroValue286
 t55:=Tryz.underlying199
 a55:=Tryz.isAgg199
 z55:=Tryz.sizeOf199
 v55:=Tryz.zeroValue199
 t66:=Tryz.underlying324
 a66:=Tryz.isAgg324
 z66:=Tryz.sizeOf324
 v66:=Tryz.zeroValue324
 t70:=Tryz.underlying328
 a70:=Tryz.isAgg328
 z70:=Tryz.sizeOf328
 v70:=Tryz.zeroValue328
 t76:=Tryz.underlying353
 a76:=Tryz.isAgg353
 z76:=Tryz.sizeOf353
 v76:=Tryz.zeroValue353
 t77:=Tryz.underlying354
 a77:=Tryz.isAgg354
 z77:=Tryz.sizeOf354
 v77:=Tryz.zeroValue354}
end Go.Proofs
end
section
set_option maxHeartbeats 1000000
namespace Go.Proofs.YtdbhocoeolhjhaaGreatDoor
open Go.Sf Go.Num
def At (d:DiskM)(t:Txt)(f:FileM):Prop:=hasK kN d.names t/\f∈d.files/\f.id=idOf d.names t
theorem zvV {l:List NameM}(hs:Srt kN l){t:Txt}(h:hasK kN l t):∃n∈l,n.name=t/\n.id=idOf l t:=by
 obtain⟨n,a,rfl⟩:=h
 exact⟨n,a,rfl,(zgP hs a).symm⟩
theorem zo5 {l m:List NameM}(hl:Srt kN l)(hm:Srt kN m)(hs:∀n∈m,n∈l){t:Txt}(h:hasK kN m t):idOf m t=idOf l t:=by
 obtain⟨n,a,rfl⟩:=h
 have b:=zgP hm a
 have c:=zgP hl (hs n a)
 have e:kN n=n.name:=rfl
 rw[e,b,c]
theorem zy9 {l:List NameM}{x:NameM}(hs:Srt kN l)(hn:¬hasK kN l x.name):idOf (insK kN l x) x.name=x.id:=zgP (zhX hs hn) (zc2.2 (.inl rfl))
theorem z60 {d:DiskM}(h:RightM d){f g:FileM}(hf:f∈d.files)(hg:g∈d.files)(he:f.id=g.id):f=g:=by
 obtain⟨i,c⟩:=ybe hf
 obtain⟨j,b⟩:=ybe hg
 rcases ycr i j with a|rfl|a
 ·have:=zg5 h.filed.1 a c b;omega
 ·rw[c]at b;exact Option.some.inj b
 ·have:=zg5 h.filed.1 a b c;omega
theorem z8G {d:DiskM}(h:RightM d){t:Txt}{f g:FileM}(hf:At d t f)(hg:At d t g):f=g:=z60 h hf.2.1 hg.2.1 (hf.2.2.trans hg.2.2.symm)
theorem z5r {d:DiskM}(h:RightM d){t u:Txt}(ht:hasK kN d.names t)(hu:hasK kN d.names u)(he:idOf d.names t=idOf d.names u):t=u:=by
 obtain⟨n,g,rfl,k⟩:=zvV h.names.srt ht
 obtain⟨m,l,rfl,o⟩:=zvV h.names.srt hu
 have c:n.id=m.id:=by rw[k,o];exact he
 have:n=m:=by
  have b:=h.names.ids
  rw[ybg,ybv]at b
  obtain⟨i,f⟩:=ybe g
  obtain⟨j,e⟩:=ybe l
  rcases ycr i j with a|rfl|a
  ·exact absurd c (zg5 b a f e)
  ·rw[f]at e;exact Option.some.inj e
  ·exact absurd c.symm (zg5 b a e f)
 rw[this]
theorem z7E {d:DiskM}(h:RightM d){t:Txt}(ht:hasK kN d.names t):1≤idOf d.names t/\idOf d.names t<d.next:=by
 obtain⟨n,a,_,b⟩:=zvV h.names.srt ht
 rw[<-b]
 exact h.idlt (h.nids n a)
theorem zoT {d:DiskM}{n t:Txt}{f:FileM}(h:RightM d)(hn:¬hasK kN d.names n)(hA:At (zaz d n) t f):(t=n/\f=⟨d.next,[],0⟩)∨(t≠n/\At d t f):=by
 obtain⟨j,k,l⟩:=hA
 have g:f∈d.files++ [⟨d.next,[],0⟩]:=k
 have a:f.id=idOf (insK kN d.names ⟨n,d.next⟩) t:=l
 by_cases c:t=n
 ·subst c
  have e:idOf (insK kN d.names ⟨t,d.next⟩) t=d.next:=zy9 (x:=⟨t,d.next⟩) h.names.srt hn
  rw[e]at a
  rcases yag.1 g with b|b
  ·have:=(h.filed.2 f b).2.1;omega
  ·exact .inl ⟨rfl,by simpa using b⟩
 ·have i:hasK kN d.names t:=(zdK.1 j).resolve_left c
  have e:idOf (insK kN d.names ⟨n,d.next⟩) t=idOf d.names t:=(zo5 (zhX h.names.srt hn) h.names.srt (λm o=>zc2.2 (.inr o)) i).symm
  rw[e]at a
  have p:=z7E h i
  rcases yag.1 g with b|b
  ·exact .inr ⟨c,i,b,a⟩
  ·simp at b
   subst b
   have:d.next=idOf d.names t:=a
   omega
theorem z6M {d:DiskM}{s t:Txt}{f:FileM}{g:FileM->FileM}(h:RightM d)(hs:hasK kN d.names s)(hg:∀x,(g x).id=x.id)(hA:At {d with files:=modF d.files (idOf d.names s) g} t f):∃x,At d t x/\f=if t=s then g x else x:=by
 obtain⟨j,k,l⟩:=hA
 have b:hasK kN d.names t:=j
 have i:f∈modF d.files (idOf d.names s) g:=k
 have n:f.id=idOf d.names t:=l
 obtain⟨x,m,c⟩:=yav.1 i
 have o:f.id=x.id:=by rw[<-c];split;exact hg x;rfl
 refine⟨x,⟨b,m,by omega⟩, ?_⟩
 by_cases a:t=s
 ·subst a
  rw[if_pos rfl,<-c,if_pos (by omega)]
 ·rw[if_neg a,<-c,if_neg]
  intro e
  exact a (z5r h b hs (by omega))
theorem zlz {d:DiskM}{s t b:Txt}{f:FileM}(h:RightM d)(hs:hasK kN d.names s)(hA:At (zaJ d s b) t f):∃x,At d t x/\f=if t=s then{x with bytes:=x.bytes++b}else x:=z6M h hs (λ_=>rfl) hA
theorem zwo {d:DiskM}{s t:Txt}{f:FileM}(h:RightM d)(hs:hasK kN d.names s)(hA:At (zdk d s) t f):∃x,At d t x/\f=if t=s then{x with sure:=x.bytes.length}else x:=z6M h hs (λ_=>rfl) hA
theorem zr3 {d:DiskM}{t:Txt}{f:FileM}(hA:At (zb2 d) t f):At d t f:=⟨hA.1,(ybs.1 (show f∈d.files.filter _ from hA.2.1)).1,hA.2.2⟩
theorem z0N {d:DiskM}{s t:Txt}{f:FileM}(h:RightM d)(hs:hasK kN d.names s)(hA:At (zdo d s) t f):t≠s/\At d t f:=by
 obtain⟨a,c,e⟩:=hA
 have b:=(zj2 h hs).1 a
 refine⟨b.1,b.2,c, ?_⟩
 rw[e]
 exact zo5 h.names.srt (zf3 h.names.srt) (λn g=>((zeM h.names.srt hs).1 g).1) a
theorem z3S {d:DiskM}{s u t:Txt}{f:FileM}(h:RightM d)(hs:hasK kN d.names s)(hA:At (zcK d s u) t f):(t=u/\At d s f)∨(t≠u/\t≠s/\At d t f):=by
 obtain⟨o,l,p⟩:=hA
 have j:=zf3 (s:=s) h.names.srt
 have k:Srt kN (zfM (delK kN d.names s) u):=j.sublist (zt2 _ _)
 have e:=zyw j u
 have g:f.id=idOf (insK kN (zfM (delK kN d.names s) u) ⟨u,idOf d.names s⟩) t:=p
 by_cases a:t=u
 ·subst a
  refine .inl ⟨rfl,hs,l, ?_⟩
  rw[g]
  exact zy9 (x:=⟨t,idOf d.names s⟩) k e
 ·obtain⟨b,m⟩:=((zrI h hs).1 o).resolve_left a
  have i:hasK kN (zfM (delK kN d.names s) u) t:=by
   obtain⟨n,c,rfl⟩:=m
   exact⟨n,(zoJ j).2 ⟨(zeM h.names.srt hs).2 ⟨c,b⟩,a⟩,rfl⟩
  refine .inr ⟨a,b,m,l, ?_⟩
  rw[g,<-zo5 (zhX k e) k (λn c=>zc2.2 (.inr c)) i]
  exact zo5 h.names.srt k (λn c=>((zeM h.names.srt hs).1 ((zoJ j).1 c).1).1) i
theorem zzb {d:DiskM}{l:List Txt}{a k:Nat}{t:Txt}{f:FileM}(h:SizeM d a k)(hnd:l.Nodup)(hl:∀n∈l,okS n/\hasK kN d.names n)(hA:At (zb0 d l) t f):At d t f:=by
 induction l generalizing d k with
 |nil=>exact hA
 |cons n l j=>
  have c:=hl n (by simp)
  have b:=ydt.1 hnd
  have i:=zqa h c.1 c.2
  exact(z0N h.right c.2 (j i b.2 (λx g=>⟨(hl x (by simp[g])).1,(zj2 h.right c.2).2 ⟨λe=>b.1 (by rw[<-e];exact g),(hl x (by simp[g])).2⟩⟩) hA)).2
theorem zxm {d:DiskM}{t:Txt}{f:FileM}(hA:At (zgn d) t f):At d t f:=by
 unfold zgn at hA
 split at hA
 ·exact hA
 ·exact zr3 hA
end Go.Proofs.YtdbhocoeolhjhaaGreatDoor
end
section
set_option maxHeartbeats 1000000
namespace Go.Sf
open Go.Abs
def V (s:Int):BitVec 32:=BitVec.ofInt 32 s
def U32 (s:Int):Prop:=0≤s/\s<4294967296
theorem z6W (x:BitVec 32):IntKind.u32.wrap (x.toNat:Int)=x.toNat:=by
 have:=x.isLt
 simp[IntKind.wrap,IntKind.signed,IntKind.bits];omega
theorem zBf (a b:Int):U32 (x32 a b):=by
 have e:x32 a b=((V a^^^V b).toNat:Int):=z6W (V a^^^V b)
 rw[e]
 have:=(V a^^^V b).isLt
 exact⟨by omega,by omega⟩
def leN:Txt->Nat
 | []=>0
 |b::l=>b.toNat+256*leN l
theorem zxO (l:Txt)(b:UInt8):leN (l++ [b])=leN l+256^l.length*b.toNat:=by
 induction l with
 |nil=>simp[leN]
 |cons x l a=>
  simp only[ybq,leN,a,ybc,yc4]
  rw[yec,<-yc1,ybp 256 (256^l.length),yd3]
theorem zA0 (l:Txt):leN l<256^l.length:=by
 induction l with
 |nil=>simp[leN]
 |cons x l a=>
  have:=x.toNat_lt
  simp only[leN,ybc,yc4]
  omega
theorem zxe (n:Int):((lo8 n).toNat:Int)=n%256:=by
 rw[z2K]
 simp[IntKind.wrap,IntKind.signed,IntKind.bits]
theorem zwu (n:Int):∀k,shrI n k=n/((256^k:Nat):Int)
 |0=>by simp[shrI]
 |k+1=>by
  unfold shrI
  rw[zwu n k,ydg _ (by omega),Int.ediv_ediv_of_nonneg (Int.natCast_nonneg _)]
  congr 1
theorem ztx (n:Int):∀k,(leN (leB n k):Int)=n%((256^k:Nat):Int)
 |0=>by simp[leB,leN,Int.emod_one]
 |k+1=>by
  unfold leB
  rw[zxO,zaC]
  have c:=ztx n k
  have b:=zxe (shrI n k)
  rw[zwu]at b
  obtain⟨m,a⟩:∃m:Nat,m=256^k:=⟨_,rfl⟩
  have i:0<m:=by rw[a];exact Nat.pow_pos (by decide)
  rw[yc4]
  rw[<-a]at c b⊢
  rw[Int.natCast_add,c,ydm,zwu,<-a,b,ydm]
  have d:=Int.emod_emod_of_dvd
  have j:=Int.mul_ediv_add_emod n m
  have e:=Int.mul_ediv_add_emod (n/m) 256
  have l:=Int.mul_ediv_add_emod n (m*256)
  have f:n/m/256=n/(m*256):=Int.ediv_ediv_of_nonneg (Int.natCast_nonneg _)
  rw[f]at e
  have g:(m:Int)*(256*(n/(m*256))+(n/m)%256)=m*(n/m):=by rw[e]
  rw[Int.mul_add,<-Int.mul_assoc]at g
  have h:((256:Nat):Int)=256:=rfl
  rw[h]
  omega
end Go.Sf
end
section
set_option maxHeartbeats 4000000
namespace Go.Abs
variable [Globs]
theorem zAV {P:Program}{K:AV->zab->Prop}{t:Tg K}{σ:zab}{g:FuncId}{args args':List AV}{R:AV->Prop}{id e size:Nat}{els:List (List AV)}(he:σ[id]? =some (.row e size els false))(hp:∀c∈els,∀x∈c,x.pure=true)(hn:∀c∈els,∀x∈c,x≠ .nils)
  (hc:PCalls P g args' R) (ha:CoeL (σ.set id (.row e size els true)) false args args') (hK:∀r,R r->K r (σ.set id (.row e size els true))):ac P K t σ g args:=
 .inr (.inr λj κ o w p l m=>by
  obtain⟨k,b,a⟩:=z1w l ⟨id,e,size,els,els,he,zmW hp hn,rfl⟩
  refine(zsX b (m.grow a) (.inl ⟨args',R,ha,hc,hK⟩)).mono ?_
  rintro e n ⟨r,σ2,v,κ',d,rfl,hK,f,h,i⟩
  exact⟨r,σ2,v,κ',d,rfl,hK,f,a.trans h,i⟩)
end Go.Abs
namespace Go.Proofs.YtdbhocoeolhjhaaGreatDoor
open Go.Abs Go.RowKit Go.Sf
variable {G:Globs}
attribute [-simp] zaZ zc9 zbQ zax
end Go.Proofs.YtdbhocoeolhjhaaGreatDoor
end
section
set_option maxHeartbeats 4000000
namespace Go.Sf
open Go.Abs
theorem zib {n:Nat}(h:n<18446744073709551616):IntKind.u64.wrap (n:Int)=n:=by
 simp[IntKind.wrap,IntKind.signed,IntKind.bits];omega
theorem z5D (x:BitVec 64):IntKind.u64.wrap (x.toNat:Int)=x.toNat:=zib x.isLt
end Go.Sf
namespace Go.Proofs.YtdbhocoeolhjhaaGreatDoor
open Go.Abs Go.RowKit Go.Sf
variable {G:Globs}
attribute [-simp] zaZ zc9 zbQ zax
end Go.Proofs.YtdbhocoeolhjhaaGreatDoor
end
section
set_option maxHeartbeats 8000000
namespace Go.Abs
def zAC (J:Frame->zab->Prop)(_:Tg J):AExit->Frame->zab->Prop
 | .normal,f,σ=>jn J (.mk J) f (.mk f) σ
 |_,_,_=>False
@[simp] theorem z6P {J:Frame->zab->Prop} {t:Tg J} {f:Frame} {σ:zab}:zAC J t .normal f σ=jn J (.mk J) f (.mk f) σ:=rfl
variable [Globs]
theorem z90 {P:Program}{K:AV->zab->Prop}{σ:zab}{g:FuncId}{args args':List AV}{R:AV->Prop}{t:Tg K}(hc:PCalls P g args' R)(ha:CoeL σ false args args')(hK:∀r,R r->K r σ):ac P K t σ g args:=.inl ⟨args',R,ha,hc,hK⟩
end Go.Abs
namespace Go.Proofs.YtdbhocoeolhjhaaGreatDoor
open Go.Abs Go.RowKit Go.Sf
variable {G:Globs}
attribute [-simp] zaZ zc9 zbQ zax
end Go.Proofs.YtdbhocoeolhjhaaGreatDoor
end
