/- slices.Clone, BinarySearchFunc, IndexFunc, DeleteFunc at the shelf's element types: printed by gensl.py. slices.Insert at the end: printed by gensl.py -/
import Derived.Test.YtdbhocoeolhjhaaGreatDoorCode
import Derived.Test.YtdbhocoeolhjhaaGreatDoorAbs2
import Derived.Test.YtdbhocoeolhjhaaGreatDoorShelf
import Derived.WalkKit
import Derived.Test.YtdbhocoeolhjhaaGreatDoorBn1
set_option linter.unusedSimpArgs false
set_option linter.unusedVariables false
set_option linter.constructorNameAsVariable false
section
set_option maxHeartbeats 2000000
namespace Go.Abs
open Go.RowKit Go.Proofs
variable {G:Globs}
def Els (k:Nat)(els:List (List AV)):Prop:=(∀c∈els,c.length=k)/\(∀c∈els,∀x∈c,x.pure=true)/\∀c∈els,∀x∈c,x.one=true
def zfP (e k:Nat)(els:List (List AV))(σ:zab)(r:AV)(σ':zab):Prop:=(els= []/\r=.nils/\σ'=σ)∨(r=.row σ.length els.length/\σ'=σ++ [.row e k els false])
theorem zc8 {P:Program}{f:FuncId}{args:List AV}{e size:Nat}{els:List (List AV)}{σ:zab}(h:ACalls P f args [] (zfP e size els []))(ha:args.all AV.pure=true)(hp:∀c∈els,∀x∈c,x.pure=true):ACalls P f args σ (zfP e size els σ):=by
 intro W κ J w X n Y
 have h0:SRel w.heap.size (λ_ _=>none) J [] w:=⟨yap _,(λ_ _ _ h=>by cases h),(λid e h=>by simp at h),(λi j e e' b _ h=>by simp at h),n.imlt,n.glob.mono n.hb (λ_ h=>h) (λ_ _=>rfl) (λ_ _=>rfl)⟩
 have R:VRL (λ_ _=>none) J w args X:=⟨Y.1,λj I y=> .im _ _ ((Y.2 j I y).pure (by
  simp only[ya1]at ha
  exact ha _ (yaw _)))⟩
 refine(h w.heap.size _ J w X h0 R).mono ?_
 rintro en O ⟨r,σ',v,κ',o,rfl,hR,t,d,D⟩
 have p:∀k,k<w.heap.size->O.heap[k]? =w.heap[k]? :=d.below.block
 have G:∀a,o a->J a∨(w.heap.size≤a.block/\a.block<O.heap.size/\a.spot=none):=λa ha=>(d.new a ha).imp (λh=>h) λh=>⟨h,(t.imlt a ha).1,(t.imlt a ha).2⟩
 rcases hR with ⟨rfl,rfl,rfl⟩|⟨rfl,rfl⟩
 ·exact⟨_,_,_,κ,o,rfl,.inl ⟨rfl,rfl,rfl⟩,n.world d.im G d.below.size p,⟨λ_ _ _ h=>h,d.im,d.cell,λa ha=>(d.new a ha).imp (λh=>h) λh=>ycm n.hb h,d.below.mono n.hb⟩,.im _ _ (D.pure (by simp[AV.pure]))⟩
 obtain⟨g,l,rfl,S⟩:=D.row_inv
 simp only[yc6]at S
 obtain⟨v',T,A,m,B,C,q,s,aa,K⟩:=t.ent 0 _ rfl
 rw[S]at A;cases A
 have z:∀k u,κ σ.length k=some u->False:=λk u h=>by obtain⟨e,L,_⟩:=n.dom _ _ _ h;simp at L
 have Z:=Key.with_new z els.length (.slice g els.length l)
 refine⟨_,_,_,κ.with σ.length els.length (.slice g els.length l),o,rfl,.inr ⟨rfl,rfl⟩, ?_,⟨Z,d.im,d.cell,λa ha=>(d.new a ha).imp (λh=>h) λh=>ycm n.hb h,d.below.mono n.hb⟩,.row _ _ _ _ (Key.with_same _ _ _ _)⟩
 have H:IRL o O els.flatten T:=⟨B.1,λj I y=>(B.2 j I y).pure (by
  obtain⟨c,hc,M⟩:=ybo.1 (yaw I)
  exact hp c hc _ M)⟩
 refine n.push _ Z (λi k u h=> ?_) d.im G d.below.size p ?_ (λb U=> ?_)
 ·unfold Key.with at h
  split at h
  ·rename_i F;exact .inr ⟨F.1,by rw[F.2];exact yap _⟩
  ·exact .inl h
 ·refine⟨_,T,Key.with_same _ _ _ _,⟨m.1, ?_⟩,VRL.ofIR H,C,q,s,λh=>(by cases h),K⟩
  rcases m.2 with h|⟨g,l,Q,L,h2,E⟩
  ·exact .inl h
  ·exact .inr ⟨g,l,Q,L,ycm n.hb h2,E⟩
 ·have:(Entry.row e size els false).block (κ.with σ.length els.length (.slice g els.length l)) σ.length=(Value.slice g els.length l).ownBlock:=by simp[Entry.block,Key.with_same]
  rw[this]at U
  exact(m.lt b U).1
theorem zeb {σ:zab}{m k:Nat}:∀{els:List (List AV)},(∀c∈els,∀x∈c,x.pure=true)->(∀c∈els,∀x∈c,x≠ .nils)->(els.mapM λ(c:List AV)=>c.mapM (fz σ m k))=some els
 | [],_,_=>rfl
 |c::els,h,a=>by
  have g:∀(l:List AV),(∀x∈l,x.pure=true)->(∀x∈l,x≠ .nils)->l.mapM (fz σ m k)=some l:=by
   intro l
   induction l with
   |nil=>intro _ _;rfl
   |cons x l j=>
    intro h a
    rw[yce,j (λy b=>h y (ybw _ b)) (λy b=>a y (ybw _ b))]
    have f:=h x (by simp)
    have i:=a x (by simp)
    cases x<;>first|(exact absurd rfl i)|(simp[AV.pure]at f;done)|(cases k<;>simp[fz,f])
  rw[yce,g c (h c (by simp)) (a c (by simp)),zeb (λd e=>h d (ybw _ e)) (λd e=>a d (ybw _ e))]
  rfl
theorem zmW {σ:zab}:∀{els:List (List AV)},(∀c∈els,∀x∈c,x.pure=true)->(∀c∈els,∀x∈c,x≠ .nils)->(els.mapM λ(c:List AV)=>c.mapM (zeZ σ))=some els
 | [],_,_=>rfl
 |c::els,h,a=>by
  have g:∀(l:List AV),(∀x∈l,x.pure=true)->(∀x∈l,x≠ .nils)->l.mapM (zeZ σ)=some l:=by
   intro l
   induction l with
   |nil=>intro _ _;rfl
   |cons x l j=>
    intro h a
    rw[yce,j (λy b=>h y (ybw _ b)) (λy b=>a y (ybw _ b))]
    have f:=h x (by simp)
    have i:=a x (by simp)
    cases x<;>first|(exact absurd rfl i)|(simp[AV.pure]at f;done)|(simp[zeZ,f])
  rw[yce,g c (h c (by simp)) (a c (by simp)),zmW (λd e=>h d (ybw _ e)) (λd e=>a d (ybw _ e))]
  rfl
def idxE (p:List AV->Bool):List (List AV)->Int
 | []=> -1
 |n::l=>if p n then 0 else if idxE p l<0 then -1 else idxE p l+1
theorem ziX {p:List AV->Bool}:∀{l:List (List AV)},(∀n∈l,p n=false)->idxE p l= -1
 | [],_=>rfl
 |n::l,h=>by
  have b:=h n (by simp)
  have c:=ziX (p:=p) (l:=l) λm a=>h m (by simp[a])
  simp[idxE,b,c]
theorem ziQ {p:List AV->Bool}:∀{l:List (List AV)} {i:Nat} {n:List AV},l[i]? =some n->p n=true->(∀m∈l.take i,p m=false)->idxE p l=i
 | [],i,n,h,_,_=>by simp at h
 |m::l,0,n,h,hp,_=>by simp at h;subst h;simp[idxE,hp]
 |m::l,i+1,n,h,hp,ha=>by
  have b:=ha m (by simp)
  have c:=ziQ (p:=p) (l:=l) (i:=i) (by simpa using h) hp λx a=>ha x (by simp[a])
  simp[idxE,b,c]
  omega
theorem zhb (p:List AV->Bool):∀l:List (List AV),(idxE p l= -1/\∀n∈l,p n=false)∨∃i n,l[i]? =some n/\p n=true/\(∀m∈l.take i,p m=false)/\idxE p l=i
 | []=> .inl ⟨rfl,by simp⟩
 |m::l=>by
  by_cases f:p m=true
  ·exact .inr ⟨0,m,by simp,f,by simp,by simp[idxE,f]⟩
  ·have a:p m=false:=by simpa using f
   rcases zhb p l with ⟨c,d⟩|⟨i,n,c,d,g,h⟩
   ·refine .inl ⟨by simp[idxE,a,c],λn e=> ?_⟩
    rcases ybb.1 e with rfl|e
    ·exact a
    ·exact d n e
   ·refine .inr ⟨i+1,n,by simpa using c,d,λx b=> ?_, ?_⟩
    ·rw[List.take_succ_cons]at b
     rcases ybb.1 b with rfl|b
     ·exact a
     ·exact g x b
    ·simp[idxE,a,h];omega
theorem zsK {α:Type}(A mid rest:List α)(v:α):∃mid',(A++(mid++v::rest)).set A.length v=A++v::(mid'++rest)/\mid'.length=mid.length/\∀x∈mid',x∈mid∨x=v:=by
 cases mid with
 |nil=>exact⟨[],by simp,rfl,by simp⟩
 |cons m ms=>exact⟨ms++ [v],by simp,by simp,λx a=>by
   rcases yag.1 a with h|h
   ·exact .inl (by simp[h])
   ·exact .inr (by simpa using h)⟩
theorem z2l {v:AV}(h:v.one=true):v.cells= [v]:=by cases v<;>first|rfl|(simp[AV.one]at h)
def Asks [Globs](P:Program)(pre:zab)(g:FuncId)(capt:List AV)(V:List AV->AV)(p:List AV->Bool)(els:List (List AV)):Prop:=∀c∈els,∀(X:zab) (K:AV->zab->Prop),K (.bool (p c)) (pre++X)->zsR P (pre++X) K g (V c::capt)
theorem zs9 {P:Program}{pre X:zab}{g:FuncId}{capt:List AV}{V:List AV->AV}{p:List AV->Bool}{els:List (List AV)}(hb:zaE P g=true)(h:Asks P pre g capt V p els){c:List AV}(hc:c∈els){K:AV->zab->Prop}{t:Tg K}(hK:K (.bool (p c)) (pre++X)):
  cv P K t (pre++X) (.fn (.func g) [] capt) [V c]:=⟨hb,by simpa using h c hc X K hK⟩
end Go.Abs
namespace Go.Proofs.YtdbhocoeolhjhaaGreatDoor
open Go.Abs Go.RowKit
variable {G:Globs}
theorem za3 {e size m:Nat}{els:List (List AV)}{im:Bool}(h:∀c∈els,∀x∈c,x.pure=true):(Entry.row e size els im).under m=true:=by
 simp only[Entry.under,ya1]
 exact λc a x b=>zf9 m (h c a x b)
theorem zp5 {x:Int}(h1:0≤x)(h2:x≤18446744073709551615):IntKind.u64.wrap x=x:=by
 simp[IntKind.wrap,IntKind.signed,IntKind.bits];omega
theorem z3M (els:List (List AV))(he:Els 2 els)(hl:els.length≤1000000000):ACalls Tryz.prog zbk [.lst els] [] (zfP 101 2 els []):=by
 refine zaf hmix zct rfl ?_
 simp[zbj]
 refine zqK λb c=> ?_
 cases b
 ·simp
  refine zbm [] els false (by simp) rfl (by decide) he.1 (λh=>by cases h) rfl (by omega) (by omega) ?_
  simp
  refine zav [.row 101 2 els false] (.row 0 els.length) (by simp[za5]) [] (by simp) (by simp) (by simp[AV.under]) (λi e a=> ?_) (.inr ⟨rfl,rfl⟩)
  refine .inr ?_
  match i,a with
  |0,a=>
   simp only[ybr,yab]at a
   subst a
   exact za3 he.2.1
  |i+1,a=>simp at a
 ·have d:els= []:=by
   refine Classical.byContradiction λh=> ?_
   cases c h
  subst d
  simp
  exact zav [] .nils (by simp[za5]) [] (by simp) (by simp) (by simp[AV.under]) (λi e a=>by simp at a) (.inl ⟨rfl,rfl,rfl⟩)
theorem z0C (els:List (List AV))(he:Els 2 els)(hl:els.length≤1000000000){σ:zab}:ACalls Tryz.prog zbk [.lst els] σ (zfP 101 2 els σ):=zc8 (z3M els he hl) (by simp[AV.pure]) he.2.1
theorem z2s (els:List (List AV))(he:Els 4 els)(hl:els.length≤1000000000):ACalls Tryz.prog zcy [.lst els] [] (zfP 103 4 els []):=by
 refine zaf hmix zez rfl ?_
 simp[zcr]
 refine zqK λb c=> ?_
 cases b
 ·simp
  refine zbm [] els false (by simp) rfl (by decide) he.1 (λh=>by cases h) rfl (by omega) (by omega) ?_
  simp
  refine zav [.row 103 4 els false] (.row 0 els.length) (by simp[za5]) [] (by simp) (by simp) (by simp[AV.under]) (λi e a=> ?_) (.inr ⟨rfl,rfl⟩)
  refine .inr ?_
  match i,a with
  |0,a=>
   simp only[ybr,yab]at a
   subst a
   exact za3 he.2.1
  |i+1,a=>simp at a
 ·have d:els= []:=by
   refine Classical.byContradiction λh=> ?_
   cases c h
  subst d
  simp
  exact zav [] .nils (by simp[za5]) [] (by simp) (by simp) (by simp[AV.under]) (λi e a=>by simp at a) (.inl ⟨rfl,rfl,rfl⟩)
theorem z8l (els:List (List AV))(he:Els 4 els)(hl:els.length≤1000000000){σ:zab}:ACalls Tryz.prog zcy [.lst els] σ (zfP 103 4 els σ):=zc8 (z2s els he hl) (by simp[AV.pure]) he.2.1
theorem z3Z (els:List (List AV))(he:Els 3 els)(hl:els.length≤1000000000):ACalls Tryz.prog zcs [.lst els] [] (zfP 97 3 els []):=by
 refine zaf hmix zev rfl ?_
 simp[zcz]
 refine zqK λb c=> ?_
 cases b
 ·simp
  refine zbm [] els false (by simp) rfl (by decide) he.1 (λh=>by cases h) rfl (by omega) (by omega) ?_
  simp
  refine zav [.row 97 3 els false] (.row 0 els.length) (by simp[za5]) [] (by simp) (by simp) (by simp[AV.under]) (λi e a=> ?_) (.inr ⟨rfl,rfl⟩)
  refine .inr ?_
  match i,a with
  |0,a=>
   simp only[ybr,yab]at a
   subst a
   exact za3 he.2.1
  |i+1,a=>simp at a
 ·have d:els= []:=by
   refine Classical.byContradiction λh=> ?_
   cases c h
  subst d
  simp
  exact zav [] .nils (by simp[za5]) [] (by simp) (by simp) (by simp[AV.under]) (λi e a=>by simp at a) (.inl ⟨rfl,rfl,rfl⟩)
theorem zsU (els:List (List AV))(he:Els 3 els)(hl:els.length≤1000000000){σ:zab}:ACalls Tryz.prog zcs [.lst els] σ (zfP 97 3 els σ):=zc8 (z3Z els he hl) (by simp[AV.pure]) he.2.1
theorem z2V (els:List (List AV))(he:Els 11 els)(hl:els.length≤1000000000):ACalls Tryz.prog zbF [.lst els] [] (zfP 57 11 els []):=by
 refine zaf hmix zdv rfl ?_
 simp[zbH]
 refine zqK λb c=> ?_
 cases b
 ·simp
  refine zbm [] els false (by simp) rfl (by decide) he.1 (λh=>by cases h) rfl (by omega) (by omega) ?_
  simp
  refine zav [.row 57 11 els false] (.row 0 els.length) (by simp[za5]) [] (by simp) (by simp) (by simp[AV.under]) (λi e a=> ?_) (.inr ⟨rfl,rfl⟩)
  refine .inr ?_
  match i,a with
  |0,a=>
   simp only[ybr,yab]at a
   subst a
   exact za3 he.2.1
  |i+1,a=>simp at a
 ·have d:els= []:=by
   refine Classical.byContradiction λh=> ?_
   cases c h
  subst d
  simp
  exact zav [] .nils (by simp[za5]) [] (by simp) (by simp) (by simp[AV.under]) (λi e a=>by simp at a) (.inl ⟨rfl,rfl,rfl⟩)
theorem z9o (els:List (List AV))(he:Els 11 els)(hl:els.length≤1000000000){σ:zab}:ACalls Tryz.prog zbF [.lst els] σ (zfP 57 11 els σ):=zc8 (z2V els he hl) (by simp[AV.pure]) he.2.1
theorem z2b (els:List (List AV))(he:Els 2 els)(hl:els.length≤1000000000):ACalls Tryz.prog zcu [.lst els] [] (zfP 186 2 els []):=by
 refine zaf hmix zew rfl ?_
 simp[zcv]
 refine zqK λb c=> ?_
 cases b
 ·simp
  refine zbm [] els false (by simp) rfl (by decide) he.1 (λh=>by cases h) rfl (by omega) (by omega) ?_
  simp
  refine zav [.row 186 2 els false] (.row 0 els.length) (by simp[za5]) [] (by simp) (by simp) (by simp[AV.under]) (λi e a=> ?_) (.inr ⟨rfl,rfl⟩)
  refine .inr ?_
  match i,a with
  |0,a=>
   simp only[ybr,yab]at a
   subst a
   exact za3 he.2.1
  |i+1,a=>simp at a
 ·have d:els= []:=by
   refine Classical.byContradiction λh=> ?_
   cases c h
  subst d
  simp
  exact zav [] .nils (by simp[za5]) [] (by simp) (by simp) (by simp[AV.under]) (λi e a=>by simp at a) (.inl ⟨rfl,rfl,rfl⟩)
theorem z3h (els:List (List AV))(he:Els 2 els)(hl:els.length≤1000000000){σ:zab}:ACalls Tryz.prog zcu [.lst els] σ (zfP 186 2 els σ):=zc8 (z2b els he hl) (by simp[AV.pure]) he.2.1
theorem z1D (els:List (List AV))(he:Els 2 els)(hl:els.length≤1000000000):ACalls Tryz.prog zcn [.lst els] [] (zfP 112 2 els []):=by
 refine zaf hmix ze4 rfl ?_
 simp[zcq]
 refine zqK λb c=> ?_
 cases b
 ·simp
  refine zbm [] els false (by simp) rfl (by decide) he.1 (λh=>by cases h) rfl (by omega) (by omega) ?_
  simp
  refine zav [.row 112 2 els false] (.row 0 els.length) (by simp[za5]) [] (by simp) (by simp) (by simp[AV.under]) (λi e a=> ?_) (.inr ⟨rfl,rfl⟩)
  refine .inr ?_
  match i,a with
  |0,a=>
   simp only[ybr,yab]at a
   subst a
   exact za3 he.2.1
  |i+1,a=>simp at a
 ·have d:els= []:=by
   refine Classical.byContradiction λh=> ?_
   cases c h
  subst d
  simp
  exact zav [] .nils (by simp[za5]) [] (by simp) (by simp) (by simp[AV.under]) (λi e a=>by simp at a) (.inl ⟨rfl,rfl,rfl⟩)
theorem z9g (els:List (List AV))(he:Els 2 els)(hl:els.length≤1000000000){σ:zab}:ACalls Tryz.prog zcn [.lst els] σ (zfP 112 2 els σ):=zc8 (z1D els he hl) (by simp[AV.pure]) he.2.1
theorem bsNm (els:List (List AV))(he:Els 2 els)(hl:els.length≤1000000000)(tgt:AV)(ht:tgt.pure=true)(g:Nat)(hb:zaE Tryz.prog g=true)(k:Nat)(hk:k≤els.length)(cmp:Nat->Int)
  (hg:∀i c,els[i]? =some c->PCalls Tryz.prog g [.agg c,tgt] (λr=>r=.int .i64 (cmp i))) (hlt:∀i,i<k->cmp i<0) (hge:∀i,k≤i->i<els.length->0≤cmp i):
  PCalls Tryz.prog zbO [.lst els,tgt,.fn (.func g) [] []] (λr=>r=.tup [.int .i64 k,.bool (decide (k<els.length)&&decide (cmp k=0))]):=by
 refine zaa hmix zbN rfl ?_
 simp[zaL]
 refine zag (λx f σ=>∃(i j:Nat),x=j-i/\i≤k/\k≤j/\j≤els.length/\f 0=.lst els/\f 1=tgt/\f 2=.fn (.func g) [] []/\f 8=.int .i64 els.length/\f 9=.int .i64 i/\f 10=.int .i64 j/\σ= []) els.length ?_ ?_
 ·exact⟨0,els.length,by simp,by simp,hk,by simp,by simp,by simp,by simp,by simp,by simp,by simp,by simp⟩
 rintro x f σ ⟨i,j,M,D,E,F,n,o,p,u,q,d,rfl⟩
 simp[q,d]
 refine zaq (λw=> ?_) (λw=> ?_)
 ·have z:i<j:=by omega
  obtain⟨m,B⟩:∃m,m=(i+j)/2:=⟨_,rfl⟩
  have G:m<j:=by omega
  have H:i≤m:=by omega
  have I:IntKind.i64.wrap ((i:Int)+j)=((i+j:Nat):Int):=by rw[wrap_i64 (by omega) (by omega)];omega
  have J:IntKind.u64.wrap ((i:Int)+j)=((i+j:Nat):Int):=by rw[zp5 (by omega) (by omega)];omega
  have K:((i:Int)+j).fdiv (2^min 1 IntKind.u64.bits)=(m:Int):=by
   have:(2^min 1 IntKind.u64.bits:Int)=2:=by decide
   rw[this,B,ydg _ (by omega)];omega
  have L:IntKind.i64.wrap (m:Int)=m:=wrap_i64 (by omega) (by omega)
  have A:IntKind.i64.wrap ((m:Int)+1)=((m+1:Nat):Int):=by rw[wrap_i64 (by omega) (by omega)];omega
  obtain⟨c,a⟩:∃c,els[m]? =some c:=⟨_,yac (by omega)⟩
  have e:=he.1 c (yae a)
  have l:=he.2.1 c (yae a)
  have O:=n;have P:=o;have Q:=p
  simp[n,o,p,q,d,I,J,K,L,A,a,e,yao,zbz,zgg]
  refine zqV hb ?_
  refine zac (hg m c a) (by simp[AV.pure,ht];exact l) ?_
  rintro r rfl
  simp
  refine zaq (λs=> ?_) (λs=> ?_)
  ·have y:m<k:=Classical.byContradiction λh=>by have:=hge m (by omega) (by omega);omega
   simp[A]
   refine zad (j-(m+1)) (by omega) ⟨m+1,j,rfl,by omega,by omega,by omega,by simp[n],by simp[o],by simp[p],by simp[u],by simp,by simp[d],rfl⟩
  ·have y:k≤m:=Classical.byContradiction λh=>by have:=hlt m (by omega);omega
   simp
   refine zad (m-i) (by omega) ⟨i,m,rfl,by omega,by omega,by omega,by simp[n],by simp[o],by simp[p],by simp[u],by simp[q],by simp,rfl⟩
 ·have t:i=k:=by omega
  subst t
  by_cases b:i<els.length
  ·obtain⟨c,a⟩:∃c,els[i]? =some c:=⟨_,yac b⟩
   have e:=he.1 c (yae a)
   have l:=he.2.1 c (yae a)
   obtain⟨C,v⟩:=yaa.1 a
   simp[n,o,p,u,q,b,a,v,e,yao]
   refine zqV hb ?_
   refine zac (hg i c a) (by simp[AV.pure,ht];exact l) ?_
   rintro r rfl
   simp[q,b]
  ·simp[n,o,p,u,q,b]
theorem bsMt (els:List (List AV))(he:Els 11 els)(hl:els.length≤1000000000)(tgt:AV)(ht:tgt.pure=true)(g:Nat)(hb:zaE Tryz.prog g=true)(k:Nat)(hk:k≤els.length)(cmp:Nat->Int)
  (hg:∀i c,els[i]? =some c->PCalls Tryz.prog g [.agg c,tgt] (λr=>r=.int .i64 (cmp i))) (hlt:∀i,i<k->cmp i<0) (hge:∀i,k≤i->i<els.length->0≤cmp i):
  PCalls Tryz.prog zb5 [.lst els,tgt,.fn (.func g) [] []] (λr=>r=.tup [.int .i64 k,.bool (decide (k<els.length)&&decide (cmp k=0))]):=by
 refine zaa hmix zb8 rfl ?_
 simp[zaF]
 refine zag (λx f σ=>∃(i j:Nat),x=j-i/\i≤k/\k≤j/\j≤els.length/\f 0=.lst els/\f 1=tgt/\f 2=.fn (.func g) [] []/\f 8=.int .i64 els.length/\f 9=.int .i64 i/\f 10=.int .i64 j/\σ= []) els.length ?_ ?_
 ·exact⟨0,els.length,by simp,by simp,hk,by simp,by simp,by simp,by simp,by simp,by simp,by simp,by simp⟩
 rintro x f σ ⟨i,j,M,D,E,F,n,o,p,u,q,d,rfl⟩
 simp[q,d]
 refine zaq (λw=> ?_) (λw=> ?_)
 ·have z:i<j:=by omega
  obtain⟨m,B⟩:∃m,m=(i+j)/2:=⟨_,rfl⟩
  have G:m<j:=by omega
  have H:i≤m:=by omega
  have I:IntKind.i64.wrap ((i:Int)+j)=((i+j:Nat):Int):=by rw[wrap_i64 (by omega) (by omega)];omega
  have J:IntKind.u64.wrap ((i:Int)+j)=((i+j:Nat):Int):=by rw[zp5 (by omega) (by omega)];omega
  have K:((i:Int)+j).fdiv (2^min 1 IntKind.u64.bits)=(m:Int):=by
   have:(2^min 1 IntKind.u64.bits:Int)=2:=by decide
   rw[this,B,ydg _ (by omega)];omega
  have L:IntKind.i64.wrap (m:Int)=m:=wrap_i64 (by omega) (by omega)
  have A:IntKind.i64.wrap ((m:Int)+1)=((m+1:Nat):Int):=by rw[wrap_i64 (by omega) (by omega)];omega
  obtain⟨c,a⟩:∃c,els[m]? =some c:=⟨_,yac (by omega)⟩
  have e:=he.1 c (yae a)
  have l:=he.2.1 c (yae a)
  have O:=n;have P:=o;have Q:=p
  simp[n,o,p,q,d,I,J,K,L,A,a,e,yao,zbz,zgg]
  refine zqV hb ?_
  refine zac (hg m c a) (by simp[AV.pure,ht];exact l) ?_
  rintro r rfl
  simp
  refine zaq (λs=> ?_) (λs=> ?_)
  ·have y:m<k:=Classical.byContradiction λh=>by have:=hge m (by omega) (by omega);omega
   simp[A]
   refine zad (j-(m+1)) (by omega) ⟨m+1,j,rfl,by omega,by omega,by omega,by simp[n],by simp[o],by simp[p],by simp[u],by simp,by simp[d],rfl⟩
  ·have y:k≤m:=Classical.byContradiction λh=>by have:=hlt m (by omega);omega
   simp
   refine zad (m-i) (by omega) ⟨i,m,rfl,by omega,by omega,by omega,by simp[n],by simp[o],by simp[p],by simp[u],by simp[q],by simp,rfl⟩
 ·have t:i=k:=by omega
  subst t
  by_cases b:i<els.length
  ·obtain⟨c,a⟩:∃c,els[i]? =some c:=⟨_,yac b⟩
   have e:=he.1 c (yae a)
   have l:=he.2.1 c (yae a)
   obtain⟨C,v⟩:=yaa.1 a
   simp[n,o,p,u,q,b,a,v,e,yao]
   refine zqV hb ?_
   refine zac (hg i c a) (by simp[AV.pure,ht];exact l) ?_
   rintro r rfl
   simp[q,b]
  ·simp[n,o,p,u,q,b]
theorem bsFi (els:List (List AV))(he:Els 3 els)(hl:els.length≤1000000000)(tgt:AV)(ht:tgt.pure=true)(g:Nat)(hb:zaE Tryz.prog g=true)(k:Nat)(hk:k≤els.length)(cmp:Nat->Int)
  (hg:∀i c,els[i]? =some c->PCalls Tryz.prog g [.agg c,tgt] (λr=>r=.int .i64 (cmp i))) (hlt:∀i,i<k->cmp i<0) (hge:∀i,k≤i->i<els.length->0≤cmp i):
  PCalls Tryz.prog zcm [.lst els,tgt,.fn (.func g) [] []] (λr=>r=.tup [.int .i64 k,.bool (decide (k<els.length)&&decide (cmp k=0))]):=by
 refine zaa hmix zcl rfl ?_
 simp[zaT]
 refine zag (λx f σ=>∃(i j:Nat),x=j-i/\i≤k/\k≤j/\j≤els.length/\f 0=.lst els/\f 1=tgt/\f 2=.fn (.func g) [] []/\f 8=.int .i64 els.length/\f 9=.int .i64 i/\f 10=.int .i64 j/\σ= []) els.length ?_ ?_
 ·exact⟨0,els.length,by simp,by simp,hk,by simp,by simp,by simp,by simp,by simp,by simp,by simp,by simp⟩
 rintro x f σ ⟨i,j,M,D,E,F,n,o,p,u,q,d,rfl⟩
 simp[q,d]
 refine zaq (λw=> ?_) (λw=> ?_)
 ·have z:i<j:=by omega
  obtain⟨m,B⟩:∃m,m=(i+j)/2:=⟨_,rfl⟩
  have G:m<j:=by omega
  have H:i≤m:=by omega
  have I:IntKind.i64.wrap ((i:Int)+j)=((i+j:Nat):Int):=by rw[wrap_i64 (by omega) (by omega)];omega
  have J:IntKind.u64.wrap ((i:Int)+j)=((i+j:Nat):Int):=by rw[zp5 (by omega) (by omega)];omega
  have K:((i:Int)+j).fdiv (2^min 1 IntKind.u64.bits)=(m:Int):=by
   have:(2^min 1 IntKind.u64.bits:Int)=2:=by decide
   rw[this,B,ydg _ (by omega)];omega
  have L:IntKind.i64.wrap (m:Int)=m:=wrap_i64 (by omega) (by omega)
  have A:IntKind.i64.wrap ((m:Int)+1)=((m+1:Nat):Int):=by rw[wrap_i64 (by omega) (by omega)];omega
  obtain⟨c,a⟩:∃c,els[m]? =some c:=⟨_,yac (by omega)⟩
  have e:=he.1 c (yae a)
  have l:=he.2.1 c (yae a)
  have O:=n;have P:=o;have Q:=p
  simp[n,o,p,q,d,I,J,K,L,A,a,e,yao,zbz,zgg]
  refine zqV hb ?_
  refine zac (hg m c a) (by simp[AV.pure,ht];exact l) ?_
  rintro r rfl
  simp
  refine zaq (λs=> ?_) (λs=> ?_)
  ·have y:m<k:=Classical.byContradiction λh=>by have:=hge m (by omega) (by omega);omega
   simp[A]
   refine zad (j-(m+1)) (by omega) ⟨m+1,j,rfl,by omega,by omega,by omega,by simp[n],by simp[o],by simp[p],by simp[u],by simp,by simp[d],rfl⟩
  ·have y:k≤m:=Classical.byContradiction λh=>by have:=hlt m (by omega);omega
   simp
   refine zad (m-i) (by omega) ⟨i,m,rfl,by omega,by omega,by omega,by simp[n],by simp[o],by simp[p],by simp[u],by simp[q],by simp,rfl⟩
 ·have t:i=k:=by omega
  subst t
  by_cases b:i<els.length
  ·obtain⟨c,a⟩:∃c,els[i]? =some c:=⟨_,yac b⟩
   have e:=he.1 c (yae a)
   have l:=he.2.1 c (yae a)
   obtain⟨C,v⟩:=yaa.1 a
   simp[n,o,p,u,q,b,a,v,e,yao]
   refine zqV hb ?_
   refine zac (hg i c a) (by simp[AV.pure,ht];exact l) ?_
   rintro r rfl
   simp[q,b]
  ·simp[n,o,p,u,q,b]
theorem z2r (pre:zab)(els:List (List AV))(he:Els 3 els)(hl:els.length≤1000000000)(p:List AV->Bool)(g:Nat)(capt:List AV)(hb:zaE Tryz.prog g=true)(hg:Asks Tryz.prog pre g capt .agg p els):
  ACalls Tryz.prog zbC [.row pre.length els.length,.fn (.func g) [] capt] (pre++ [.row 97 3 els false]) (λr σ'=>r=.int .i64 (idxE p els)/\σ'=pre++ [.row 97 3 els false]):=by
 refine zaf hmix zbE rfl ?_
 simp[zaS]
 refine zag (λx f σ=>∃(i:Nat),x=els.length-i/\i≤els.length/\f 0=.row pre.length els.length/\f 1=.fn (.func g) [] capt/\f 7=.int .i64 els.length/\f 8=.int .i64 i/\(∀m∈els.take i,p m=false)/\σ=pre++ [.row 97 3 els false]) els.length ?_ ?_
 ·exact⟨0,by simp,by simp,by simp,by simp,by simp,by simp,by simp,by simp⟩
 rintro x f σ ⟨i,A,B,s,t,u,l,a,rfl⟩
 simp[u,l]
 refine zaq (λy=> ?_) (λz=> ?_)
 ·have b:i<els.length:=by omega
  have n:IntKind.i64.wrap ((i:Int)+1)=((i+1:Nat):Int):=by rw[wrap_i64 (by omega) (by omega)];omega
  obtain⟨c,d⟩:∃c,els[i]? =some c:=⟨_,yac b⟩
  obtain⟨w,k⟩:=yaa.1 d
  have j:=yae d
  have o:=he.1 c j
  skip
  simp[s,t,l,d,k,o,b,yao]
  refine zs9 hb hg j ?_
  cases v:p c with
  |true=>
   have:=ziQ d v a
   simp
   refine zav (pre++ [.row 97 3 els false]) (.int .i64 (idxE p els)) (by simp[za5,this]) [] (by simp) (by simp) (by simp[AV.under]) (λi e he=> .inl he) ⟨rfl,rfl⟩
  |false=>
   simp[l,n]
   refine zad (els.length-(i+1)) (by omega) ⟨i+1,rfl,by omega,by simp[s],by simp[t],by simp[u],by simp,λm h=> ?_,rfl⟩
   rw[yau,d]at h
   simp only[yd5,yag,ybk]at h
   rcases h with h|rfl
   ·exact a m h
   ·exact v
 ·have q:i=els.length:=by omega
  rw[q,ya0]at a
  have:=ziX a
  simp
  refine zav (pre++ [.row 97 3 els false]) (.int .i64 (idxE p els)) (by simp[za5,this]) [] (by simp) (by simp) (by simp[AV.under]) (λi e he=> .inl he) ⟨rfl,rfl⟩
theorem z7X (pre:zab)(els:List (List AV))(he:Els 2 els)(hl:els.length≤1000000000)(p:List AV->Bool)(g:Nat)(capt:List AV)(hb:zaE Tryz.prog g=true)(hg:Asks Tryz.prog pre g capt .agg p els):
  ACalls Tryz.prog zdy [.row pre.length els.length,.fn (.func g) [] capt] (pre++ [.row 186 2 els false]) (λr σ'=>r=.int .i64 (idxE p els)/\σ'=pre++ [.row 186 2 els false]):=by
 refine zaf hmix zd1 rfl ?_
 simp[zbD]
 refine zag (λx f σ=>∃(i:Nat),x=els.length-i/\i≤els.length/\f 0=.row pre.length els.length/\f 1=.fn (.func g) [] capt/\f 7=.int .i64 els.length/\f 8=.int .i64 i/\(∀m∈els.take i,p m=false)/\σ=pre++ [.row 186 2 els false]) els.length ?_ ?_
 ·exact⟨0,by simp,by simp,by simp,by simp,by simp,by simp,by simp,by simp⟩
 rintro x f σ ⟨i,A,B,s,t,u,l,a,rfl⟩
 simp[u,l]
 refine zaq (λy=> ?_) (λz=> ?_)
 ·have b:i<els.length:=by omega
  have n:IntKind.i64.wrap ((i:Int)+1)=((i+1:Nat):Int):=by rw[wrap_i64 (by omega) (by omega)];omega
  obtain⟨c,d⟩:∃c,els[i]? =some c:=⟨_,yac b⟩
  obtain⟨w,k⟩:=yaa.1 d
  have j:=yae d
  have o:=he.1 c j
  skip
  simp[s,t,l,d,k,o,b,yao]
  refine zs9 hb hg j ?_
  cases v:p c with
  |true=>
   have:=ziQ d v a
   simp
   refine zav (pre++ [.row 186 2 els false]) (.int .i64 (idxE p els)) (by simp[za5,this]) [] (by simp) (by simp) (by simp[AV.under]) (λi e he=> .inl he) ⟨rfl,rfl⟩
  |false=>
   simp[l,n]
   refine zad (els.length-(i+1)) (by omega) ⟨i+1,rfl,by omega,by simp[s],by simp[t],by simp[u],by simp,λm h=> ?_,rfl⟩
   rw[yau,d]at h
   simp only[yd5,yag,ybk]at h
   rcases h with h|rfl
   ·exact a m h
   ·exact v
 ·have q:i=els.length:=by omega
  rw[q,ya0]at a
  have:=ziX a
  simp
  refine zav (pre++ [.row 186 2 els false]) (.int .i64 (idxE p els)) (by simp[za5,this]) [] (by simp) (by simp) (by simp[AV.under]) (λi e he=> .inl he) ⟨rfl,rfl⟩
theorem z4i (els:List (List AV))(he:Els 2 els)(hl:els.length≤1000000000)(p:List AV->Bool)(g:Nat)(capt:List AV)(hcp:∀x∈capt,x.pure=true)(hb:zaE Tryz.prog g=true)(hg:∀c∈els,PCalls Tryz.prog g (.agg c::capt) (λr=>r=.bool (p c))):
  PCalls Tryz.prog zd2 [.lst els,.fn (.func g) [] capt] (λr=>r=.int .i64 (idxE p els)):=by
 refine zaa hmix zdu rfl ?_
 simp[zbI]
 refine zag (λx f σ=>∃(i:Nat),x=els.length-i/\i≤els.length/\f 0=.lst els/\f 1=.fn (.func g) [] capt/\f 7=.int .i64 els.length/\f 8=.int .i64 i/\(∀m∈els.take i,p m=false)/\σ= []) els.length ?_ ?_
 ·exact⟨0,by simp,by simp,by simp,by simp,by simp,by simp,by simp,by simp⟩
 rintro x f σ ⟨i,A,B,s,t,u,l,a,rfl⟩
 simp[u,l]
 refine zaq (λy=> ?_) (λz=> ?_)
 ·have b:i<els.length:=by omega
  have n:IntKind.i64.wrap ((i:Int)+1)=((i+1:Nat):Int):=by rw[wrap_i64 (by omega) (by omega)];omega
  obtain⟨c,e⟩:∃c,els[i]? =some c:=⟨_,yac b⟩
  obtain⟨w,k⟩:=yaa.1 e
  have d:=yae e
  have o:=he.1 c d
  have j:=he.2.1 c d
  simp[s,t,l,e,k,o,b,yao]
  refine zqV hb ?_
  refine zac (hg c d) (by simp[AV.pure];exact⟨j,hcp⟩) ?_
  rintro r rfl
  cases v:p c with
  |true=>
   have:=ziQ e v a
   simp[this]
  |false=>
   simp[l,n]
   refine zad (els.length-(i+1)) (by omega) ⟨i+1,rfl,by omega,by simp[s],by simp[t],by simp[u],by simp,λm h=> ?_,rfl⟩
   rw[yau,e]at h
   simp only[yd5,yag,ybk]at h
   rcases h with h|rfl
   ·exact a m h
   ·exact v
 ·have q:i=els.length:=by omega
  rw[q,ya0]at a
  simp[ziX a]
theorem zzh {σ:zab}(g:Nat)(capt:List AV):ACalls Tryz.prog zbC [.nils,.fn (.func g) [] capt] σ (λr σ'=>r=.int .i64 (-1)/\σ'=σ):=by
 refine zaf hmix zbE rfl ?_
 simp[zaS]
 refine zag (λx f σ'=>f 7=.int .i64 0/\f 8=.int .i64 0/\σ'=σ) 0 ?_ ?_
 ·exact⟨by simp,by simp,rfl⟩
 rintro x f σ' ⟨a,b,rfl⟩
 simp[a,b]
 exact zav σ' (.int .i64 (-1)) (by simp[za5]) [] (by simp) (by simp) (by simp[AV.under]) (λi e c=> .inl c) ⟨rfl,rfl⟩
theorem zuO {σ:zab}(g:Nat)(capt:List AV):ACalls Tryz.prog zaM [.nils,.fn (.func g) [] capt] σ (λr σ'=>r=.nils/\σ'=σ):=by
 refine zaf hmix zaN rfl ?_
 simp[zaA]
 refine zam (zzh g capt) ?_
 rintro r σ' ⟨rfl,rfl⟩
 simp
 exact zav σ' .nils (by simp[za5]) [] (by simp) (by simp) (by simp[AV.under]) (λi e a=> .inl a) ⟨rfl,rfl⟩
theorem zoI (els:List (List AV))(he:Els 2 els)(hl:els.length≤1000000000)(hz:∀c∈els,∀x∈c,x≠ .nils):PCalls Tryz.prog zbk [.lst els] (λr=>r=.lst els):=by
 refine zaa hmix zct rfl ?_
 simp[zbj]
 refine zqK λb a=> ?_
 cases b
 ·simp
  refine zbm [] els false (by simp) rfl (by decide) he.1 (λh=>by cases h) rfl (by omega) (by omega) ?_
  simp[zeb he.2.1 hz]
 ·have d:els= []:=by
   refine Classical.byContradiction λh=> ?_
   cases a h
  subst d
  simp
theorem z5J (els:List (List AV))(he:Els 2 els)(hl:els.length≤1000000000)(hz:∀c∈els,∀x∈c,x≠ .nils):PCalls Tryz.prog ze6 [.lst els] (λr=>r=.lst els):=by
 refine zaa hmix ze0 rfl ?_
 simp[zcp]
 refine zqK λb a=> ?_
 cases b
 ·simp
  refine zbm [] els false (by simp) rfl (by decide) he.1 (λh=>by cases h) rfl (by omega) (by omega) ?_
  simp[zeb he.2.1 hz]
 ·have d:els= []:=by
   refine Classical.byContradiction λh=> ?_
   cases a h
  subst d
  simp
theorem z9V (pre:zab)(els:List (List AV))(he:Els 3 els)(hl:els.length≤1000000000)(p:List AV->Bool)(g:Nat)(capt:List AV)(hb:zaE Tryz.prog g=true)(hg:Asks Tryz.prog pre g capt .agg p els):
  ACalls Tryz.prog zaM [.row pre.length els.length,.fn (.func g) [] capt] (pre++ [.row 97 3 els false])
   (λr σ'=>∃X:List (List AV),σ'=pre++ [.row 97 3 X false]/\X.length=els.length/\Els 3 X/\((r=.row pre.length els.length/\X=els.filter λn=> !p n)∨(r=.sub pre.length els.length 3 0 (els.filter λn=> !p n).length/\X.take (els.filter λn=> !p n).length=els.filter λn=> !p n))):=by
 refine zaf hmix zaN rfl ?_
 simp[zaA]
 refine zam (z2r pre els he hl p g capt hb hg) ?_
 rintro r σ ⟨rfl,rfl⟩
 rcases zhb p els with ⟨al,W⟩|⟨k,n,hk,am,w,Z⟩
 ·have hf:(els.filter λn=> !p n)=els:=ydw.2 λn hn=>by simp[W n hn]
  rw[hf]
  simp[al]
  refine zav (pre++ [.row 97 3 els false]) (.row pre.length els.length) (by simp[za5]) [] (by simp) (by simp) (by simp[AV.under]) (λi e he=> .inl he) ⟨els,rfl,rfl,he,.inl ⟨rfl,rfl⟩⟩
 ·have aa:k<els.length:=(yaa.1 hk).1
  have ab:0<els.length:=by omega
  have an:¬((k:Int)= -1):=by omega
  have ao:IntKind.i64.wrap ((k:Int)+1)=((k+1:Nat):Int):=by rw[wrap_i64 (by omega) (by omega)];omega
  simp[Z,an,ao]
  have aq:((els.take k).filter λn=> !p n)=els.take k:=ydw.2 λn hn=>by simp[w n hn]
  refine zag (λx f σ=>∃(j:Nat) (a:List (List AV)) (S:zab),x=els.length-j/\j≤els.length/\f 0=.row pre.length els.length/\f 1=.fn (.func g) [] capt/\f 5=.int .i64 ((els.take j).filter λn=> !p n).length/\f 6=.int .i64 j/\((els.take j).filter λn=> !p n).length+a.length=j/\Els 3 a/\
   σ=pre++ .row 97 3 (((els.take j).filter λn=> !p n)++(a++els.drop j)) false::S) (els.length-(k+1)) ?_ ?_
  ·have ad:els.take (k+1)=els.take k++ [n]:=by rw[yau,hk];rfl
   have b:((els.take (k+1)).filter λn=> !p n)=els.take k:=by
    rw[ad,yc5,aq];simp[am]
   have L:=yae hk
   refine⟨k+1,[n],[],by omega,by omega,by simp,by simp, ?_,by simp, ?_,⟨(λc q=>by simp at q;subst q;exact he.1 _ L),(λc q=>by simp at q;subst q;exact he.2.1 _ L),(λc q=>by simp at q;subst q;exact he.2.2 _ L)⟩, ?_⟩
   ·rw[b];simp[Z,yb0 (yd4 aa)]
   ·rw[b];simp[yb0 (yd4 aa)]
   ·rw[b]
    have:els.take k++([n]++els.drop (k+1))=els:=by
     rw[<-ya3,<-ad,yba]
    rw[this]
  rintro x f σ ⟨j,a,S,hx,hj,K,H,T,Q,U,s,rfl⟩
  obtain⟨A,C⟩:∃A,A=(els.take j).filter λn=> !p n:=⟨_,rfl⟩
  rw[<-C]at T U
  rw[<-C]
  have D:Els 3 A:=⟨λc q=>he.1 c (by rw[C]at q;exact yan (ybs.1 q).1),λc q=>he.2.1 c (by rw[C]at q;exact yan (ybs.1 q).1),λc q=>he.2.2 c (by rw[C]at q;exact yan (ybs.1 q).1)⟩
  have l:(A++(a++els.drop j)).length=els.length:=by simp;omega
  simp only[yaj,ya4]at l
  simp[K,Q,l]
  refine zaq (λa1=> ?_) (λa2=> ?_)
  ·have y:j<els.length:=by omega
   have M:IntKind.i64.wrap ((j:Int)+1)=((j+1:Nat):Int):=by rw[wrap_i64 (by omega) (by omega)];omega
   obtain⟨c,hv⟩:∃c,els[j]? =some c:=⟨_,yac y⟩
   have t:els.drop j=c::els.drop (j+1):=by
    obtain⟨H,h2⟩:=yaa.1 hv
    rw[ybn H,h2]
   have z:(A++(a++els.drop j))[j]? =some c:=by
    rw[<-ya3,yak (by simp;omega)]
    have:j-(A++a).length=0:=by simp;omega
    rw[this,t];rfl
   obtain⟨ay,R⟩:=yaa.1 z
   have o:=yae hv
   have E:=he.1 c o
   have B:els.take (j+1)=els.take j++ [c]:=by rw[yau,hv];rfl
   skip
   have F:=he.2.2 _ o
   simp[K,H,Q,l,y,z,R,E,yao,zg9,zgp]
   rw[if_pos (λx hx=>F x hx)];simp[K,H,Q,l,y,z,R,E,yao,zg9,zgp]
   refine zs9 hb hg o ?_
   cases ai:p c with
   |true=>
    have b:((els.take (j+1)).filter λn=> !p n)=A:=by rw[B,yc5,<-C];simp[ai]
    simp[Q,M]
    refine zad (els.length-(j+1)) (by omega) ⟨j+1,a++ [c],S++ [.var 97 c],rfl,by omega,by simp[K],by simp[H],by rw[b];simp[T],by simp,by rw[b];simp;omega,⟨λd m=> ?_,λd m=> ?_,λd m=> ?_⟩, ?_⟩
    ·rcases yag.1 m with h|h
     ·exact s.1 d h
     ·simp at h;subst h;exact he.1 _ o
    ·rcases yag.1 m with h|h
     ·exact s.2.1 d h
     ·simp at h;subst h;exact he.2.1 _ o
    ·rcases yag.1 m with h|h
     ·exact s.2.2 d h
     ·simp at h;subst h;exact he.2.2 _ o
    ·rw[b,t];simp
   |false=>
    have b:((els.take (j+1)).filter λn=> !p n)=A++ [c]:=by rw[B,yc5,<-C];simp[ai]
    obtain⟨v,aj,az,I⟩:=zsK A a (els.drop (j+1)) c
    have ar:A.length<els.length:=by omega
    obtain⟨P,J⟩:∃P,(A++(a++els.drop j))[A.length]? =some P:=⟨_,yac (by simp;omega)⟩
    obtain⟨a0,ak⟩:=yaa.1 J
    have ae:P.length=3:=by
     have:=yae J
     rcases yag.1 this with h|h
     ·exact D.1 _ h
     ·rcases yag.1 h with h|h
      ·exact s.1 _ h
      ·exact he.1 _ (yax h)
    have af:IntKind.i64.wrap ((A.length:Int)+1)=((A.length+1:Nat):Int):=by rw[wrap_i64 (by omega) (by omega)];omega
    have a3:splice P 0 c=c:=by
     have m:P.drop 3= []:=yb1 (by omega)
     simp[splice,E,m]
    have G:(A++(a++els.drop j)).set A.length c=A++ [c]++(v++els.drop (j+1)):=by
     rw[t,aj];simp
    have O:(a++els.drop j).set 0 c=c::(v++els.drop (j+1)):=by
     rw[ybl _ _ (yap _),yc3]at G
     simpa using G
    have au:P.drop 3= []:=yb1 (by omega)
    skip
    simp[K,H,T,Q,l,ar,J,ak,ae,E,M,af,yao,zg9,zgp,splice,au,O]
    rw[if_pos (λx hx=>F x hx)];simp[T,Q,M,af]
    refine zad (els.length-(j+1)) (by omega) ⟨j+1,v,S++ [.var 97 c],rfl,by omega,by simp[K],by simp[H],by rw[b];simp,by simp,by rw[b];simp;omega,⟨λd m=> ?_,λd m=> ?_,λd m=> ?_⟩, ?_⟩
    ·rcases I d m with h|rfl
     ·exact s.1 d h
     ·exact he.1 _ o
    ·rcases I d m with h|rfl
     ·exact s.2.1 d h
     ·exact he.2.1 _ o
    ·rcases I d m with h|rfl
     ·exact s.2.2 d h
     ·exact he.2.2 _ o
    ·rw[b];simp
  ·have av:j=els.length:=by omega
   subst av
   rw[ya0]at C
   rw[yd1,yb4]
   rw[yc3,ycd]at l
   have ag:A.length≤els.length:=by omega
   have aw:(A++a).drop els.length= []:=yb1 (by simp;omega)
   simp[K,T,l,ab,ag,aw]
   rw[<-C]
   obtain⟨Y,hY⟩:∃Y,Y=A++List.replicate (els.length-A.length) [.int .i64 0,.nils,.int .i64 0]:=⟨_,rfl⟩
   have ah:Els 3 Y:=by
    rw[hY]
    refine⟨λd m=> ?_,λd m=> ?_,λd m=> ?_⟩
    ·rcases yag.1 m with h|h
     ·exact D.1 d h
     ·rw[(ybu.1 h).2];rfl
    ·rcases yag.1 m with h|h
     ·exact D.2.1 d h
     ·rw[(ybu.1 h).2];simp[AV.pure]
    ·rcases yag.1 m with h|h
     ·exact D.2.2 d h
     ·rw[(ybu.1 h).2];simp[AV.one]
   have ax:Y.take A.length=A:=by rw[hY,ycb];rfl
   rw[<-hY]
   refine zav (pre++ [.row 97 3 Y false]) (.sub pre.length els.length 3 0 A.length) (by simp[za5]) S (by simp) (by simp) (by simp[AV.under]) (λi e u=> ?_) ⟨Y,rfl,by rw[hY];simp;omega,ah,.inr ⟨rfl,ax⟩⟩
   rcases ycr i pre.length with h|h|h
   ·rw[yam h]at u⊢
    exact .inl u
   ·subst h
    simp at u
    subst u
    exact .inr (za3 ah.2.1)
   ·rw[yak (by omega)]at u
    have:=(yaa.1 u).1
    simp at this
    omega
theorem zA7 (pre:zab)(els:List (List AV))(he:Els 2 els)(hl:els.length≤1000000000)(p:List AV->Bool)(g:Nat)(capt:List AV)(hb:zaE Tryz.prog g=true)(hg:Asks Tryz.prog pre g capt .agg p els):
  ACalls Tryz.prog zdr [.row pre.length els.length,.fn (.func g) [] capt] (pre++ [.row 186 2 els false])
   (λr σ'=>∃X:List (List AV),σ'=pre++ [.row 186 2 X false]/\X.length=els.length/\Els 2 X/\((r=.row pre.length els.length/\X=els.filter λn=> !p n)∨(r=.sub pre.length els.length 2 0 (els.filter λn=> !p n).length/\∃n,X=(els.filter λn=> !p n)++List.replicate n [.int .i64 0,.int .i64 0]))):=by
 refine zaf hmix zdq rfl ?_
 simp[zb7]
 refine zam (z7X pre els he hl p g capt hb hg) ?_
 rintro r σ ⟨rfl,rfl⟩
 rcases zhb p els with ⟨am,Z⟩|⟨k,n,hk,an,w,aa⟩
 ·have hf:(els.filter λn=> !p n)=els:=ydw.2 λn hn=>by simp[Z n hn]
  rw[hf]
  simp[am]
  refine zav (pre++ [.row 186 2 els false]) (.row pre.length els.length) (by simp[za5]) [] (by simp) (by simp) (by simp[AV.under]) (λi e he=> .inl he) ⟨els,rfl,rfl,he,.inl ⟨rfl,rfl⟩⟩
 ·have ab:k<els.length:=(yaa.1 hk).1
  have ad:0<els.length:=by omega
  have ao:¬((k:Int)= -1):=by omega
  have aq:IntKind.i64.wrap ((k:Int)+1)=((k+1:Nat):Int):=by rw[wrap_i64 (by omega) (by omega)];omega
  simp[aa,ao,aq]
  have ar:((els.take k).filter λn=> !p n)=els.take k:=ydw.2 λn hn=>by simp[w n hn]
  refine zag (λx f σ=>∃(j:Nat) (a:List (List AV)) (T:zab),x=els.length-j/\j≤els.length/\f 0=.row pre.length els.length/\f 1=.fn (.func g) [] capt/\f 5=.int .i64 ((els.take j).filter λn=> !p n).length/\f 6=.int .i64 j/\((els.take j).filter λn=> !p n).length+a.length=j/\Els 2 a/\
   σ=pre++ .row 186 2 (((els.take j).filter λn=> !p n)++(a++els.drop j)) false::T) (els.length-(k+1)) ?_ ?_
  ·have ae:els.take (k+1)=els.take k++ [n]:=by rw[yau,hk];rfl
   have b:((els.take (k+1)).filter λn=> !p n)=els.take k:=by
    rw[ae,yc5,ar];simp[an]
   have L:=yae hk
   refine⟨k+1,[n],[],by omega,by omega,by simp,by simp, ?_,by simp, ?_,⟨(λc q=>by simp at q;subst q;exact he.1 _ L),(λc q=>by simp at q;subst q;exact he.2.1 _ L),(λc q=>by simp at q;subst q;exact he.2.2 _ L)⟩, ?_⟩
   ·rw[b];simp[aa,yb0 (yd4 ab)]
   ·rw[b];simp[yb0 (yd4 ab)]
   ·rw[b]
    have:els.take k++([n]++els.drop (k+1))=els:=by
     rw[<-ya3,<-ae,yba]
    rw[this]
  rintro x f σ ⟨j,a,T,hx,hj,K,H,U,Q,W,s,rfl⟩
  obtain⟨A,C⟩:∃A,A=(els.take j).filter λn=> !p n:=⟨_,rfl⟩
  rw[<-C]at U W
  rw[<-C]
  have D:Els 2 A:=⟨λc q=>he.1 c (by rw[C]at q;exact yan (ybs.1 q).1),λc q=>he.2.1 c (by rw[C]at q;exact yan (ybs.1 q).1),λc q=>he.2.2 c (by rw[C]at q;exact yan (ybs.1 q).1)⟩
  have l:(A++(a++els.drop j)).length=els.length:=by simp;omega
  simp only[yaj,ya4]at l
  simp[K,Q,l]
  refine zaq (λa1=> ?_) (λa2=> ?_)
  ·have y:j<els.length:=by omega
   have M:IntKind.i64.wrap ((j:Int)+1)=((j+1:Nat):Int):=by rw[wrap_i64 (by omega) (by omega)];omega
   obtain⟨c,hv⟩:∃c,els[j]? =some c:=⟨_,yac y⟩
   have t:els.drop j=c::els.drop (j+1):=by
    obtain⟨H,h2⟩:=yaa.1 hv
    rw[ybn H,h2]
   have z:(A++(a++els.drop j))[j]? =some c:=by
    rw[<-ya3,yak (by simp;omega)]
    have:j-(A++a).length=0:=by simp;omega
    rw[this,t];rfl
   obtain⟨ay,R⟩:=yaa.1 z
   have o:=yae hv
   have E:=he.1 c o
   have B:els.take (j+1)=els.take j++ [c]:=by rw[yau,hv];rfl
   skip
   have F:=he.2.2 _ o
   simp[K,H,Q,l,y,z,R,E,yao,zg9,zgp]
   rw[if_pos (λx hx=>F x hx)];simp[K,H,Q,l,y,z,R,E,yao,zg9,zgp]
   refine zs9 hb hg o ?_
   cases aj:p c with
   |true=>
    have b:((els.take (j+1)).filter λn=> !p n)=A:=by rw[B,yc5,<-C];simp[aj]
    simp[Q,M]
    refine zad (els.length-(j+1)) (by omega) ⟨j+1,a++ [c],T++ [.var 186 c],rfl,by omega,by simp[K],by simp[H],by rw[b];simp[U],by simp,by rw[b];simp;omega,⟨λd m=> ?_,λd m=> ?_,λd m=> ?_⟩, ?_⟩
    ·rcases yag.1 m with h|h
     ·exact s.1 d h
     ·simp at h;subst h;exact he.1 _ o
    ·rcases yag.1 m with h|h
     ·exact s.2.1 d h
     ·simp at h;subst h;exact he.2.1 _ o
    ·rcases yag.1 m with h|h
     ·exact s.2.2 d h
     ·simp at h;subst h;exact he.2.2 _ o
    ·rw[b,t];simp
   |false=>
    have b:((els.take (j+1)).filter λn=> !p n)=A++ [c]:=by rw[B,yc5,<-C];simp[aj]
    obtain⟨v,ak,az,I⟩:=zsK A a (els.drop (j+1)) c
    have au:A.length<els.length:=by omega
    obtain⟨P,J⟩:∃P,(A++(a++els.drop j))[A.length]? =some P:=⟨_,yac (by simp;omega)⟩
    obtain⟨a0,al⟩:=yaa.1 J
    have af:P.length=2:=by
     have:=yae J
     rcases yag.1 this with h|h
     ·exact D.1 _ h
     ·rcases yag.1 h with h|h
      ·exact s.1 _ h
      ·exact he.1 _ (yax h)
    have ag:IntKind.i64.wrap ((A.length:Int)+1)=((A.length+1:Nat):Int):=by rw[wrap_i64 (by omega) (by omega)];omega
    have a3:splice P 0 c=c:=by
     have m:P.drop 2= []:=yb1 (by omega)
     simp[splice,E,m]
    have G:(A++(a++els.drop j)).set A.length c=A++ [c]++(v++els.drop (j+1)):=by
     rw[t,ak];simp
    have O:(a++els.drop j).set 0 c=c::(v++els.drop (j+1)):=by
     rw[ybl _ _ (yap _),yc3]at G
     simpa using G
    have av:P.drop 2= []:=yb1 (by omega)
    skip
    simp[K,H,U,Q,l,au,J,al,af,E,M,ag,yao,zg9,zgp,splice,av,O]
    rw[if_pos (λx hx=>F x hx)];simp[U,Q,M,ag]
    refine zad (els.length-(j+1)) (by omega) ⟨j+1,v,T++ [.var 186 c],rfl,by omega,by simp[K],by simp[H],by rw[b];simp,by simp,by rw[b];simp;omega,⟨λd m=> ?_,λd m=> ?_,λd m=> ?_⟩, ?_⟩
    ·rcases I d m with h|rfl
     ·exact s.1 d h
     ·exact he.1 _ o
    ·rcases I d m with h|rfl
     ·exact s.2.1 d h
     ·exact he.2.1 _ o
    ·rcases I d m with h|rfl
     ·exact s.2.2 d h
     ·exact he.2.2 _ o
    ·rw[b];simp
  ·have aw:j=els.length:=by omega
   subst aw
   rw[ya0]at C
   rw[yd1,yb4]
   rw[yc3,ycd]at l
   have ah:A.length≤els.length:=by omega
   have ax:(A++a).drop els.length= []:=yb1 (by simp;omega)
   simp[K,U,l,ad,ah,ax]
   rw[<-C]
   obtain⟨Y,S⟩:∃Y,Y=A++List.replicate (els.length-A.length) [.int .i64 0,.int .i64 0]:=⟨_,rfl⟩
   have ai:Els 2 Y:=by
    rw[S]
    refine⟨λd m=> ?_,λd m=> ?_,λd m=> ?_⟩
    ·rcases yag.1 m with h|h
     ·exact D.1 d h
     ·rw[(ybu.1 h).2];rfl
    ·rcases yag.1 m with h|h
     ·exact D.2.1 d h
     ·rw[(ybu.1 h).2];simp[AV.pure]
    ·rcases yag.1 m with h|h
     ·exact D.2.2 d h
     ·rw[(ybu.1 h).2];simp[AV.one]
   have a4:Y.take A.length=A:=by rw[S,ycb];rfl
   rw[<-S]
   refine zav (pre++ [.row 186 2 Y false]) (.sub pre.length els.length 2 0 A.length) (by simp[za5]) T (by simp) (by simp) (by simp[AV.under]) (λi e u=> ?_) ⟨Y,rfl,by rw[S];simp;omega,ai,.inr ⟨rfl,_,S⟩⟩
   rcases ycr i pre.length with h|h|h
   ·rw[yam h]at u⊢
    exact .inl u
   ·subst h
    simp at u
    subst u
    exact .inr (za3 ai.2.1)
   ·rw[yak (by omega)]at u
    have:=(yaa.1 u).1
    simp at this
    omega
end Go.Proofs.YtdbhocoeolhjhaaGreatDoor
end
section
set_option maxHeartbeats 2000000
namespace Go.Proofs.YtdbhocoeolhjhaaGreatDoor
open Go.Abs Go.RowKit
variable {G:Globs}
theorem z6B {σ:zab}{jd T2:Nat}{c:List AV}(hj:σ[jd]? =some (.row T2 2 [c] false))(hc:c.length=2)(hp:∀x∈c,x.pure=true):
  ACalls Tryz.prog zca [.nils,.int .i64 0,.row jd 1] σ (λr σ'=>r=.row σ.length 1/\σ'=σ++ [.row 101 2 [c] false]):=by
 refine zaf hmix zcf rfl ?_
 simp[zaH,hj,view]
 refine zeX false [c] (by simp[view,hj]) (by decide) (by simp[hc]) (λh=>by cases h) (by simp) (by simp) ?_
 simp
 refine zav (σ++ [.row 101 2 [c] false]) (.row σ.length 1) (by simp[za5]) [] (by simp) (by simp) (by simp[AV.under]) (λi e a=> ?_) ⟨rfl,rfl⟩
 rcases ycr i σ.length with h|h|h
 ·rw[yam h]at a
  exact .inl a
 ·subst h
  simp at a
  subst a
  exact .inr (za3 (by simpa using hp))
 ·rw[yak (by omega)]at a
  have:=(yaa.1 a).1
  simp at this
  omega
theorem z4T {σ:zab}{id jd T2:Nat}{els:List (List AV)}{c:List AV}(he:σ[id]? =some (.row 101 2 els false))(hj:σ[jd]? =some (.row T2 2 [c] false))(hel:Els 2 els)(hc:c.length=2)(hp:∀x∈c,x.pure=true)(hbig:els.length≤100000000):
  ACalls Tryz.prog zca [.row id els.length,.int .i64 els.length,.row jd 1] σ (λr σ'=>r=.row id (els.length+1)/\σ'=σ.set id (.row 101 2 (els++ [c]) false)):=by
 refine zaf hmix zcf rfl ?_
 have b:=(yaa.1 he).1
 obtain⟨m,k⟩:=yaa.1 he
 by_cases f:0<els.length
 ·simp[zaH,hj,he,k,b,view,f]
  refine zbm els [c] false he (by simp[view,hj]) (by decide) (by simp[hc]) (λh=>by cases h) rfl (by simp;omega) (by simp;omega) ?_
  simp
  refine zav (σ.set id (.row 101 2 (els++ [c]) false)) (.row id (els.length+1)) (by simp[za5]) [] (by simp) (by simp) (by simp[AV.under,b]) (λi e a=> ?_) (by simp)
  by_cases g:i=id
  ·subst g
   rw[ybm b]at a
   simp only[yab]at a
   subst a
   refine .inr (za3 λd j=> ?_)
   rcases yag.1 j with h|h
   ·exact hel.2.1 d h
   ·simp at h;subst h;exact hp
  ·rw[yai (Ne.symm g)]at a
   exact .inl a
 ·have l:els= []:=yal (by omega)
  subst l
  simp[zaH,hj,he,k,b,view]
  refine zbm [] [c] false he (by simp[view,hj]) (by decide) (by simp[hc]) (λh=>by cases h) rfl (by simp) (by simp) ?_
  simp
  refine zav (σ.set id (.row 101 2 (([]:List (List AV))++ [c]) false)) (.row id (([]:List (List AV)).length+1)) (by simp[za5]) [] (by simp) (by simp) (by simp[AV.under,b]) (λi e a=> ?_) (by simp)
  by_cases g:i=id
  ·subst g
   rw[ybm b]at a
   simp only[yab]at a
   subst a
   refine .inr (za3 λd j=> ?_)
   rcases yag.1 j with h|h
   ·exact hel.2.1 d h
   ·simp at h;subst h;exact hp
  ·rw[yai (Ne.symm g)]at a
   exact .inl a
theorem z6u {σ:zab}{jd T2:Nat}{c:List AV}(hj:σ[jd]? =some (.row T2 11 [c] false))(hc:c.length=11)(hp:∀x∈c,x.pure=true):
  ACalls Tryz.prog zb6 [.nils,.int .i64 0,.row jd 1] σ (λr σ'=>r=.row σ.length 1/\σ'=σ++ [.row 57 11 [c] false]):=by
 refine zaf hmix zb4 rfl ?_
 simp[zaB,hj,view]
 refine zeX false [c] (by simp[view,hj]) (by decide) (by simp[hc]) (λh=>by cases h) (by simp) (by simp) ?_
 simp
 refine zav (σ++ [.row 57 11 [c] false]) (.row σ.length 1) (by simp[za5]) [] (by simp) (by simp) (by simp[AV.under]) (λi e a=> ?_) ⟨rfl,rfl⟩
 rcases ycr i σ.length with h|h|h
 ·rw[yam h]at a
  exact .inl a
 ·subst h
  simp at a
  subst a
  exact .inr (za3 (by simpa using hp))
 ·rw[yak (by omega)]at a
  have:=(yaa.1 a).1
  simp at this
  omega
theorem z4d {σ:zab}{id jd T2:Nat}{els:List (List AV)}{c:List AV}(he:σ[id]? =some (.row 57 11 els false))(hj:σ[jd]? =some (.row T2 11 [c] false))(hel:Els 11 els)(hc:c.length=11)(hp:∀x∈c,x.pure=true)(hbig:els.length≤100000000):
  ACalls Tryz.prog zb6 [.row id els.length,.int .i64 els.length,.row jd 1] σ (λr σ'=>r=.row id (els.length+1)/\σ'=σ.set id (.row 57 11 (els++ [c]) false)):=by
 refine zaf hmix zb4 rfl ?_
 have b:=(yaa.1 he).1
 obtain⟨m,k⟩:=yaa.1 he
 by_cases f:0<els.length
 ·simp[zaB,hj,he,k,b,view,f]
  refine zbm els [c] false he (by simp[view,hj]) (by decide) (by simp[hc]) (λh=>by cases h) rfl (by simp;omega) (by simp;omega) ?_
  simp
  refine zav (σ.set id (.row 57 11 (els++ [c]) false)) (.row id (els.length+1)) (by simp[za5]) [] (by simp) (by simp) (by simp[AV.under,b]) (λi e a=> ?_) (by simp)
  by_cases g:i=id
  ·subst g
   rw[ybm b]at a
   simp only[yab]at a
   subst a
   refine .inr (za3 λd j=> ?_)
   rcases yag.1 j with h|h
   ·exact hel.2.1 d h
   ·simp at h;subst h;exact hp
  ·rw[yai (Ne.symm g)]at a
   exact .inl a
 ·have l:els= []:=yal (by omega)
  subst l
  simp[zaB,hj,he,k,b,view]
  refine zbm [] [c] false he (by simp[view,hj]) (by decide) (by simp[hc]) (λh=>by cases h) rfl (by simp) (by simp) ?_
  simp
  refine zav (σ.set id (.row 57 11 (([]:List (List AV))++ [c]) false)) (.row id (([]:List (List AV)).length+1)) (by simp[za5]) [] (by simp) (by simp) (by simp[AV.under,b]) (λi e a=> ?_) (by simp)
  by_cases g:i=id
  ·subst g
   rw[ybm b]at a
   simp only[yab]at a
   subst a
   refine .inr (za3 λd j=> ?_)
   rcases yag.1 j with h|h
   ·exact hel.2.1 d h
   ·simp at h;subst h;exact hp
  ·rw[yai (Ne.symm g)]at a
   exact .inl a
end Go.Proofs.YtdbhocoeolhjhaaGreatDoor
end
section
namespace Go.Sf
abbrev Txt:=List UInt8
theorem zbX (a:Txt):¬a<a:=List.lt_irrefl a
theorem z7r (x y:UInt8)(h1:¬x<y)(h2:¬y<x):x=y:=by
 apply UInt8.toNat_inj.1
 have a:¬x.toNat<y.toNat:=λh=>h1 (UInt8.lt_iff_toNat_lt.2 h)
 have b:¬y.toNat<x.toNat:=λh=>h2 (UInt8.lt_iff_toNat_lt.2 h)
 omega
theorem z7x {x y z:UInt8}(h1:x<y)(h2:y<z):x<z:=UInt8.lt_iff_toNat_lt.2 (by
 have:=UInt8.lt_iff_toNat_lt.1 h1
 have:=UInt8.lt_iff_toNat_lt.1 h2
 omega)
theorem zAQ (x:UInt8):¬x<x:=λh=>by have:=UInt8.lt_iff_toNat_lt.1 h;omega
theorem zsV:∀{a b c:Txt},a<b->b<c->a<c
 |_,[],_,h,_=>by simp at h
 |_,_,[],_,h=>by simp at h
 | [],_,z::c,_,_=>by simp
 |x::a,y::b,z::c,d,e=>by
  rw[ydn]at d e⊢
  rcases d with d|⟨rfl,d⟩<;>rcases e with e|⟨rfl,e⟩
  ·exact .inl (z7x d e)
  ·exact .inl d
  ·exact .inl e
  ·exact .inr ⟨rfl,zsV d e⟩
theorem z6R:∀(a b:Txt),¬a<b->¬b<a->a=b
 | [],[],_,_=>rfl
 | [],_::_,h,_=>absurd (by simp) h
 |_::_,[],_,h=>absurd (by simp) h
 |x::a,y::b,h1,h2=>by
  rw[ydn]at h1 h2
  have c:x=y:=z7r x y (λh=>h1 (.inl h)) (λh=>h2 (.inl h))
  subst c
  rw[z6R a b (λh=>h1 (.inr ⟨rfl,h⟩)) (λh=>h2 (.inr ⟨rfl,h⟩))]
section
variable {α:Type}(key:α->Txt)
def Srt (l:List α):Prop:=l.Pairwise λa b=>key a<key b
def posK:List α->Txt->Nat
 | [],_=>0
 |x::l,s=>if key x<s then posK l s+1 else 0
def hasK (l:List α)(s:Txt):Prop:=∃x∈l,key x=s
instance (l:List α)(s:Txt):Decidable (hasK key l s):=by unfold hasK;exact inferInstance
def insK (l:List α)(x:α):List α:=l.take (posK key l (key x))++x::l.drop (posK key l (key x))
def delK (l:List α)(s:Txt):List α:=l.take (posK key l s)++l.drop (posK key l s+1)
variable {key}
theorem zk8:∀(l:List α) (s:Txt),posK key l s≤l.length
 | [],_=>yap _
 |x::l,s=>by
  unfold posK
  have:=zk8 l s
  split<;>simp<;>omega
theorem zpR:∀{l:List α} {s:Txt} {i:Nat} {x:α},i<posK key l s->l[i]? =some x->key x<s
 | [],_,_,_,h,_=>by simp[posK]at h
 |y::l,s,i,x,h,hx=>by
  unfold posK at h
  split at h
  ·rename_i a
   cases i with
   |zero=>simp at hx;subst hx;exact a
   |succ i=>exact zpR (l:=l) (i:=i) (by omega) (by simpa using hx)
  ·omega
theorem zpf:∀{l:List α} {s:Txt} {i:Nat} {x:α},Srt key l->posK key l s≤i->l[i]? =some x->¬key x<s
 | [],_,_,_,_,_,hx=>by simp at hx
 |y::l,s,i,x,hs,h,hx=>by
  rw[Srt,yel]at hs
  unfold posK at h
  split at h
  ·cases i with
   |zero=>omega
   |succ i=>exact zpf (l:=l) (i:=i) hs.2 (by omega) (by simpa using hx)
  ·rename_i a
   cases i with
   |zero=>simp at hx;subst hx;exact a
   |succ i=>
    have c:x∈l:=yae (by simpa using hx)
    exact λb=>a (zsV (hs.1 x c) b)
theorem zdE {l:List α}{s:Txt}(hs:Srt key l):hasK key l s↔∃x,l[posK key l s]? =some x/\key x=s:=by
 constructor
 ·rintro⟨x,a,rfl⟩
  obtain⟨i,c,rfl⟩:=yay.1 a
  have e:l[i]? =some l[i]:=yac c
  have g:posK key l (key l[i])≤i:=Classical.byContradiction λh=>zbX (key l[i]) (zpR (key:=key) (l:=l) (s:=key l[i]) (i:=i) (by omega) e)
  rcases Nat.lt_or_eq_of_le g with b|b
  ·obtain⟨y,d⟩:∃y,l[posK key l (key l[i])]? =some y:=⟨l[posK key l (key l[i])]'(by omega),yac (by omega)⟩
   have j:=zpf hs (yap _) d
   have k:key y<key l[i]:=by
    obtain⟨f,rfl⟩:=yaa.1 d
    exact ybi.1 hs _ _ f c b
   exact absurd k j
  ·exact⟨l[i],by rw[b];exact e,rfl⟩
 ·rintro⟨x,a,rfl⟩
  exact⟨x,yae a,rfl⟩
theorem zc2 {l:List α}{x y:α}:y∈insK key l x↔y=x∨y∈l:=by
 unfold insK
 rw[yag,ybb]
 constructor
 ·rintro(h|rfl|h)
  ·exact .inr (yan h)
  ·exact .inl rfl
  ·exact .inr (yax h)
 ·rintro(rfl|h)
  ·exact .inr (.inl rfl)
  ·rw[<-yba (posK key l (key x)) l,yag]at h
   rcases h with h|h
   ·exact .inl h
   ·exact .inr (.inr h)
theorem zj0 (l:List α)(x:α):(insK key l x).length=l.length+1:=by
 have:=zk8 (key:=key) l (key x)
 simp[insK];omega
theorem zhX {l:List α}{x:α}(hs:Srt key l)(hn:¬hasK key l (key x)):Srt key (insK key l x):=by
 unfold Srt insK
 have a:Srt key (l.take (posK key l (key x))++l.drop (posK key l (key x))):=by rw[yba];exact hs
 rw[Srt,ydq]at a
 rw[ydq,yel]
 refine⟨a.1,⟨λy b=> ?_,a.2.1⟩,λy b z d=> ?_⟩
 ·obtain⟨i,c,rfl⟩:=yay.1 b
  rw[yds]
  rw[ya4]at c
  have f:l[posK key l (key x)+i]? =some l[posK key l (key x)+i]:=yac (by omega)
  have h:=zpf hs (Nat.le_add_right _ i) f
  refine Classical.byContradiction λg=> ?_
  have:=z6R _ _ h g
  exact hn ⟨_,yae f,this⟩
 ·have e:key y<key x:=by
   obtain⟨i,c,rfl⟩:=yay.1 b
   rw[ycj]
   rw[yas]at c
   exact zpR (l:=l) (i:=i) (by omega) (yac (by omega))
  rcases ybb.1 d with rfl|d
  ·exact e
  ·exact a.2.2 y b z d
theorem zjs (l:List α)(s:Txt):(delK key l s).Sublist l:=by
 have:=yba (posK key l s) l
 unfold delK
 conv=>rhs;rw[<-this]
 refine List.Sublist.append (List.Sublist.refl _) ?_
 rw[<-yeh]
 exact List.drop_sublist _ _
theorem zf3 {l:List α}{s:Txt}(hs:Srt key l):Srt key (delK key l s):=hs.sublist (zjs l s)
theorem zyF {l:List α}{s:Txt}(hs:Srt key l)(h:hasK key l s):(delK key l s).length+1=l.length:=by
 obtain⟨x,a,_⟩:=(zdE hs).1 h
 have:=(yaa.1 a).1
 simp[delK];omega
theorem zsq {l:List α}(hs:Srt key l){x y:α}(hx:x∈l)(hy:y∈l)(h:key x=key y):x=y:=by
 obtain⟨i,b,rfl⟩:=yay.1 hx
 obtain⟨j,c,rfl⟩:=yay.1 hy
 rcases ycr i j with a|a|a
 ·have:=ybi.1 hs _ _ b c a
  rw[h]at this;exact absurd this (zbX _)
 ·subst a;rfl
 ·have:=ybi.1 hs _ _ c b a
  rw[h]at this;exact absurd this (zbX _)
theorem zeM {l:List α}{s:Txt}{y:α}(hs:Srt key l)(h:hasK key l s):y∈delK key l s↔y∈l/\key y≠s:=by
 obtain⟨x,g,d⟩:=(zdE hs).1 h
 have f:=(yaa.1 g).1
 have e:l=l.take (posK key l s)++x::l.drop (posK key l s+1):=by
  conv=>lhs;rw[<-yba (posK key l s) l]
  rw[ybn f,(yaa.1 g).2]
 have b:Srt key (l.take (posK key l s)++x::l.drop (posK key l s+1)):=by rw[<-e];exact hs
 rw[Srt,ydq,yel]at b
 have i:y∈l↔y∈l.take (posK key l s)∨y=x∨y∈l.drop (posK key l s+1):=by
  conv=>lhs;rw[e]
  rw[yag,ybb]
 unfold delK
 rw[yag,i]
 constructor
 ·rintro(a|a)
  ·refine⟨.inl a,λc=> ?_⟩
   have:=b.2.2 y a x (by simp)
   rw[c,d]at this;exact zbX _ this
  ·refine⟨.inr (.inr a),λc=> ?_⟩
   have:=b.2.1.1 y a
   rw[c,d]at this;exact zbX _ this
 ·rintro⟨a|rfl|a,c⟩
  ·exact .inl a
  ·exact absurd d c
  ·exact .inr a
end
structure NameM where
 name:Txt
 id:Nat
 deriving DecidableEq
structure MoveM where
 kind:Nat
 name:Txt
 dst:Txt
 id:Nat
 deriving DecidableEq
structure FileM where
 id:Nat
 bytes:Txt
 sure:Nat
 deriving DecidableEq
structure DiskM where
 quota:Nat
 files:List FileM
 names:List NameM
 kept:List NameM
 moves:List MoveM
 next:Nat
 deriving DecidableEq
abbrev kN:NameM->Txt:=NameM.name
def okS (s:Txt):Prop:=s≠ []/\s.length≤96
instance (s:Txt):Decidable (okS s):=by unfold okS;exact inferInstance
def zfM (l:List NameM)(s:Txt):List NameM:=if hasK kN l s then delK kN l s else l
def idOf:List NameM->Txt->Nat
 | [],_=>0
 |n::l,s=>if n.name=s then n.id else idOf l s
def zf6 (l:List NameM)(m:MoveM):Option (List NameM):=
 if okS m.name then
  if m.kind=1 then(if hasK kN l m.name∨m.dst≠ []∨m.id<1 then none else some (insK kN l ⟨m.name,m.id⟩))
  else if m.kind=2 then(if¬hasK kN l m.name∨m.dst≠ []∨m.id≠0 then none else some (delK kN l m.name))
  else if m.kind=3 then(if¬hasK kN l m.name∨¬okS m.dst∨m.dst=m.name∨m.id≠0 then none else some (insK kN (zfM (delK kN l m.name) m.dst) ⟨m.dst,idOf l m.name⟩))
  else none
 else none
def replay:List NameM->List MoveM->Option (List NameM)
 |l,[]=>some l
 |l,m::ms=>(zf6 l m).bind λl'=>replay l' ms
def zbK (ms:List MoveM):List Nat:=(ms.filter λm=>m.kind=1).map (·.id)
def idsM (d:DiskM):List Nat:=d.kept.map (·.id)++zbK d.moves
def zc1 (fs:List FileM):Nat:=(fs.map λf=>f.bytes.length).sum
def zbf (d:DiskM):Nat:=zc1 d.files
structure Listed (l:List NameM):Prop where
 srt:Srt kN l
 ok:∀n∈l,okS n.name
 ids:(l.map (·.id)).Nodup
def Filed (next:Nat)(fs:List FileM):Prop:=(fs.Pairwise λa b=>a.id<b.id)/\∀f∈fs,1≤f.id/\f.id<next/\f.sure≤f.bytes.length
structure RightM (d:DiskM):Prop where
 quota:d.quota≤1073741824
 next1:1≤d.next
 next2:d.next≤1099511627776
 nfiles:d.files.length≤256
 kept:Listed d.kept
 names:Listed d.names
 filed:Filed d.next d.files
 replay:replay d.kept d.moves=some d.names
 ids:(idsM d).Nodup
 same:∀i,i∈idsM d↔∃f∈d.files,f.id=i
 nids:∀n∈d.names,n.id∈idsM d
 used:zbf d≤d.quota
theorem Filed.ids {next:Nat}{fs:List FileM}(h:Filed next fs):(fs.map (·.id)).Nodup:=by
 rw[ybg,ybv]
 exact h.1.imp λa=>by omega
theorem RightM.count {d:DiskM}(h:RightM d):(idsM d).length=d.files.length:=by
 have:=((List.perm_ext_iff_of_nodup h.ids h.filed.ids).2 λi=>by rw[h.same i];simp).length_eq
 simpa using this
theorem RightM.nkept {d:DiskM}(h:RightM d):d.kept.length≤256:=by
 have a:=h.count
 have b:=h.nfiles
 simp only[idsM,yaj,ycc]at a
 omega
theorem z6n {l l':List NameM}{m:MoveM}(hs:Srt kN l)(h:zf6 l m=some l'):Srt kN l':=by
 unfold zf6 at h
 split at h
 case isFalse=>cases h
 split at h
 ·split at h
  ·cases h
  ·rename_i d
   simp only[yab]at h;subst h
   exact zhX hs (λa=>d (.inl a))
 split at h
 ·split at h
  ·cases h
  ·simp only[yab]at h;subst h
   exact zf3 hs
 split at h
 ·split at h
  ·cases h
  ·simp only[yab]at h;subst h
   refine zhX ?_ ?_
   ·unfold zfM;split
    ·exact zf3 (zf3 hs)
    ·exact zf3 hs
   ·unfold zfM;split
    ·rename_i a
     rintro⟨x,b,c⟩
     exact((zeM (zf3 hs) a).1 b).2 c
    ·assumption
 ·cases h
theorem z4M {l l':List NameM}{m:MoveM}(hs:Srt kN l)(h:zf6 l m=some l'):l'.length≤l.length+1:=by
 have a:∀(l:List NameM) s,(delK kN l s).length≤l.length:=λl s=>(zjs l s).length_le
 unfold zf6 at h
 split at h
 case isFalse=>cases h
 split at h
 ·split at h
  ·cases h
  ·simp only[yab]at h;subst h;rw[zj0];exact yap _
 split at h
 ·split at h
  ·cases h
  ·simp only[yab]at h;subst h;have:=a l m.name;omega
 split at h
 ·split at h
  ·cases h
  ·simp only[yab]at h;subst h;rw[zj0]
   have b:=a l m.name
   have c:=a (delK kN l m.name) m.dst
   unfold zfM;split<;>omega
 ·cases h
end Go.Sf
end
section
set_option maxHeartbeats 2000000
namespace Go.Sf
open Go.Abs
def zc5 (n:NameM):List AV:= [.str n.name,.int .i64 n.id]
def zao (l:List NameM):List (List AV):=l.map zc5
def zdh (m:MoveM):List AV:= [.int .i64 m.kind,.str m.name,.str m.dst,.int .i64 m.id]
def zbv (l:List MoveM):List (List AV):=l.map zdh
def zbR (f:FileM):List AV:= [.int .i64 f.id,.lst (byteEls f.bytes),.int .i64 f.sure]
def za2 (l:List FileM):List (List AV):=l.map zbR
def zal (d:DiskM):List AV:= [.int .i64 d.quota,.lst (za2 d.files),.lst (zao d.names),.lst (zao d.kept),.lst (zbv d.moves),.int .i64 d.next]
theorem za6 (l:List NameM):(zao l).length=l.length:=by simp[zao]
theorem zrn (l:List MoveM):(zbv l).length=l.length:=by simp[zbv]
theorem zbJ (l:List FileM):(za2 l).length=l.length:=by simp[za2]
theorem zde (l:List NameM):Els 2 (zao l):=by
 refine⟨λc a=> ?_,λc a=> ?_,λc a=> ?_⟩<;>obtain⟨n,_,rfl⟩:=yav.1 a<;>simp[zc5,AV.pure,AV.one]
theorem zsi (l:List MoveM):Els 4 (zbv l):=by
 refine⟨λc a=> ?_,λc a=> ?_,λc a=> ?_⟩<;>obtain⟨n,_,rfl⟩:=yav.1 a<;>simp[zdh,AV.pure,AV.one]
theorem zdg (l:List FileM):Els 3 (za2 l):=by
 refine⟨λc a=> ?_,λc a=> ?_,λc a=> ?_⟩<;>obtain⟨n,_,rfl⟩:=yav.1 a<;>simp[zbR,AV.pure,AV.one]
theorem zcH {l:List NameM}{i:Nat}{n:NameM}(h:l[i]? =some n):(zao l)[i]? =some (zc5 n):=by simp[zao,h]
theorem z0k {l:List MoveM}{i:Nat}{n:MoveM}(h:l[i]? =some n):(zbv l)[i]? =some (zdh n):=by simp[zbv,h]
theorem zcG {l:List FileM}{i:Nat}{n:FileM}(h:l[i]? =some n):(za2 l)[i]? =some (zbR n):=by simp[za2,h]
theorem zzo {l:List NameM}{i:Nat}{c:List AV}(h:(zao l)[i]? =some c):∃n,l[i]? =some n/\c=zc5 n:=by
 simp only[zao,yb8,yaf]at h
 obtain⟨n,a,rfl⟩:=h;exact⟨n,a,rfl⟩
theorem z0q {l:List FileM}{i:Nat}{c:List AV}(h:(za2 l)[i]? =some c):∃n,l[i]? =some n/\c=zbR n:=by
 simp only[za2,yb8,yaf]at h
 obtain⟨n,a,rfl⟩:=h;exact⟨n,a,rfl⟩
theorem zpW (σ:zab)(m k:Nat)(l:List NameM):((zao l).mapM λ(c:List AV)=>c.mapM (fz σ m k))=some (zao l):=zeb (zde l).2.1 (λc a=>by obtain⟨n,_,rfl⟩:=yav.1 a;simp[zc5])
theorem z2S (σ:zab)(m k:Nat)(l:List MoveM):((zbv l).mapM λ(c:List AV)=>c.mapM (fz σ m k))=some (zbv l):=zeb (zsi l).2.1 (λc a=>by obtain⟨n,_,rfl⟩:=yav.1 a;simp[zdh])
theorem zoY (σ:zab)(m k:Nat)(l:List FileM):((za2 l).mapM λ(c:List AV)=>c.mapM (fz σ m k))=some (za2 l):=zeb (zdg l).2.1 (λc a=>by obtain⟨n,_,rfl⟩:=yav.1 a;simp[zbR])
theorem zpL (l:List NameM)(i:Nat):(zao l).take i=zao (l.take i):=by simp[zao]
theorem zqc (l:List NameM)(i:Nat):(zao l).drop i=zao (l.drop i):=by simp[zao]
theorem zr8 (a b:List NameM):zao (a++b)=zao a++zao b:=by simp[zao]
theorem zwO (a:NameM)(b:List NameM):zao (a::b)=zc5 a::zao b:=by simp[zao]
theorem zrA (l:List NameM)(x:NameM):(zao l).take (posK kN l x.name)++zc5 x::(zao l).drop (posK kN l x.name)=zao (insK kN l x):=by
 rw[zpL,zqc,insK,zr8,zwO]
theorem zzF (l:List NameM)(s:Txt):(zao l).take (posK kN l s)++(zao l).drop (posK kN l s+1)=zao (delK kN l s):=by
 rw[zpL,zqc,delK,zr8]
theorem zoR:∀(a b:Txt),Lib.compareBytes a b<0↔a<b
 | [],[]=>by simp[Lib.compareBytes]
 | [],_::_=>by simp[Lib.compareBytes]
 |_::_,[]=>by simp[Lib.compareBytes]
 |x::a,y::b=>by
  have g:=zoR a b
  simp only[Lib.compareBytes]
  by_cases c:x<y
  ·simp[c,ydn]
  ·by_cases f:y<x
   ·have d:x≠y:=λe=>by subst e;exact c f
    simp[c,f,d,ydn]
   ·obtain rfl:=z7r x y c f
    simp[c,ydn]
    simpa using g
theorem zlt:∀(a b:Txt),Lib.compareBytes a b=0↔a=b
 | [],[]=>by simp[Lib.compareBytes]
 | [],_::_=>by simp[Lib.compareBytes]
 |_::_,[]=>by simp[Lib.compareBytes]
 |x::a,y::b=>by
  have g:=zlt a b
  simp only[Lib.compareBytes]
  by_cases d:x<y
  ·have c:x≠y:=λe=>by subst e;exact zAQ x d
   simp[d,c]
  ·by_cases f:y<x
   ·have c:x≠y:=λe=>by subst e;exact d f
    simp[d,f,c]
   ·obtain rfl:=z7r x y d f
    simp[d,g]
theorem zxY:∀(a b:Txt),Op.bytesLess a b=decide (a<b)
 |_,[]=>by unfold Op.bytesLess;simp
 | [],_::_=>by simp[Op.bytesLess]
 |x::a,y::b=>by
  have c:=zxY a b
  simp[Op.bytesLess,c,ydn]
  congr 1
end Go.Sf
namespace Go.Proofs.YtdbhocoeolhjhaaGreatDoor
open Go.Abs Go.RowKit Go.Sf
variable {G:Globs}
theorem zsj (s p:Txt):PCalls Tryz.prog znf [.str s,.str p] (λr=>r=.int .i64 (Lib.compareBytes s p)):=by
 refine zpN λa κ i w v u j b c=> ?_
 have f:=b.str_inv
 have g:=c.str_inv
 subst f;subst g
 refine(Tryz.strings_Compare ⟨s.toArray⟩ ⟨p.toArray⟩ w).mono ?_
 rintro e h ⟨rfl,rfl⟩
 exact⟨_,_,rfl,rfl,Go.RowKit.Below.refl _ _,λd=> .int _ _⟩
theorem zs2 (x y:Int):PCalls Tryz.prog zmF [.int .i64 x,.int .i64 y] (λr=>r=.int .i64 (Lib.compareInt x y)):=by
 refine zpN λa κ i w v u j b c=> ?_
 have f:=b.int_inv
 have g:=c.int_inv
 subst f;subst g
 refine(Tryz.cmp_Compare_int x y w).mono ?_
 rintro e h ⟨rfl,rfl⟩
 exact⟨_,_,rfl,rfl,Go.RowKit.Below.refl _ _,λd=> .int _ _⟩
theorem zwJ (i:Nat)(hi:i<100):PCalls Tryz.prog zq3 [.int .i64 i] (λr=>r=.str (Lib.decDigits i)):=by
 refine z1q λa κ g w v h b=> ?_
 have d:=b.int_inv
 subst d
 refine(Tryz.strconv_Itoa_small i hi w).mono ?_
 rintro e f ⟨rfl,rfl⟩
 exact⟨_,_,rfl,rfl,Go.RowKit.Below.refl _ _,λc=> .str _⟩
theorem z2A (s p:Txt):PCalls Tryz.prog zkY [.str s,.str p] (λr=>r=.bool (Lib.hasPrefix s p)):=by
 refine zpN λa κ i w v u j b c=> ?_
 have f:=b.str_inv
 have g:=c.str_inv
 subst f;subst g
 refine(Tryz.strings_HasPrefix ⟨s.toArray⟩ ⟨p.toArray⟩ w).mono ?_
 rintro e h ⟨rfl,rfl⟩
 exact⟨_,_,rfl,rfl,Go.RowKit.Below.refl _ _,λd=> .bool _⟩
theorem zj5 (s:Txt)(hl:s.length≤1000000000):PCalls Tryz.prog ztW [.str s] (λr=>r=.bool (decide (okS s))):=by
 refine zaa hmix zun rfl ?_
 by_cases a:s= []
 ·subst a
  simp[ziJ,okS]
 ·simp[ziJ,a,okS]
  omega
theorem zzf (n:NameM)(s:Txt):PCalls Tryz.prog zkt [.agg (zc5 n),.str s] (λr=>r=.int .i64 (Lib.compareBytes n.name s)):=by
 refine zaa hmix zqB rfl ?_
 simp[zkj,zc5]
 refine zac (zsj n.name s) (by simp) ?_
 rintro r rfl
 simp
theorem ziC (l:List NameM)(s:Txt)(hs:Srt kN l)(hl:l.length≤1000000000):PCalls Tryz.prog ztX [.lst (zao l),.str s] (λr=>r=.tup [.int .i64 (posK kN l s),.bool (decide (hasK kN l s))]):=by
 refine zaa hmix zuT rfl ?_
 simp[znN]
 have t:=zk8 (key:=kN) l s
 have u:=bsNm (G:=G) (zao l) (zde l) (by rw[za6];exact hl) (.str s) (by simp[AV.pure]) zkt zq5 (posK kN l s) (by rw[za6];exact t)
  (λi=>match l[i]? with|some n=>Lib.compareBytes n.name s|none=>0)
  (λi c o=>by
   obtain⟨n,a,rfl⟩:=zzo o
   simp only[a]
   exact zzf n s)
  (λi p=>by
   obtain⟨n,a⟩:∃n,l[i]? =some n:=⟨l[i]'(by omega),yac (by omega)⟩
   simp only[a]
   exact(zoR _ _).2 (zpR p a))
  (λi q j=>by
   rw[za6]at j
   obtain⟨n,a⟩:∃n,l[i]? =some n:=⟨l[i]'j,yac j⟩
   simp only[a]
   have:=zpf hs q a
   exact Int.not_lt.1 λh=>this ((zoR _ _).1 h))
 refine zac u (by simp[AV.pure]) ?_
 rintro r rfl
 simp
 rw[za6]
 by_cases f:hasK kN l s
 ·obtain⟨n,a,m⟩:=(zdE hs).1 f
  have:=(yaa.1 a).1
  have v:=(zlt n.name s).2 m
  obtain⟨g,d⟩:=yaa.1 a
  simp[f,a,this,v,d]
 ·by_cases b:posK kN l s<l.length
  ·obtain⟨n,a⟩:∃n,l[posK kN l s]? =some n:=⟨l[posK kN l s]'b,yac b⟩
   have k:n.name≠s:=λe=>f ((zdE hs).2 ⟨n,a,e⟩)
   have:¬Lib.compareBytes n.name s=0:=λe=>k ((zlt _ _).1 e)
   obtain⟨g,d⟩:=yaa.1 a
   simp[f,a,b,this,d]
  ·simp[f,b]
theorem zy3 (l:List NameM)(s:Txt)(id:Nat)(hs:Srt kN l)(hl:l.length≤1000000):PCalls Tryz.prog zv6 [.lst (zao l),.str s,.int .i64 id] (λr=>r=.lst (zao (insK kN l ⟨s,id⟩))):=by
 refine zaa hmix zvs rfl ?_
 simp[znC]
 refine zac (ziC l s hs (by omega)) (by simp) ?_
 rintro r rfl
 simp
 refine zam (z0C (zao l) (zde l) (by rw[za6];omega)) ?_
 have k:=zk8 (key:=kN) l s
 rintro r σ (⟨h,rfl,rfl⟩|⟨rfl,rfl⟩)
 ·have b:l= []:=by simpa[zao]using h
  subst b
  simp
  have j:posK kN [] s=0:=rfl
  rw[j]
  refine zam (z6B (jd:=0) (T2:=101) (c:= [.str s,.int .i64 id]) (by simp) rfl (by simp[AV.pure])) ?_
  rintro r σ ⟨rfl,rfl⟩
  simp[insK,posK,zao,zc5]
 ·simp
  by_cases e:posK kN l s<l.length
  ·refine zam (z5C (id:=0) (jd:=1) (T2:=101) (els:=zao l) (c:= [.str s,.int .i64 id]) (i:=posK kN l s) (by simp) (by simp) (by omega) (by rw[za6];exact e) (by rw[za6];omega)) ?_
   rintro r σ ⟨rfl,rfl⟩
   have a:=zrA l ⟨s,id⟩
   simp only[zc5]at a
   rw[a]
   have d:(zao l).length+1=(zao (insK kN l ⟨s,id⟩)).length:=by rw[za6,za6,zj0]
   rw[d]
   simp[zpW]
  ·have f:posK kN l s=l.length:=by omega
   rw[f]
   have g:=za6 l
   rw[<-g]
   refine zam (z4T (id:=0) (jd:=1) (T2:=101) (els:=zao l) (c:= [.str s,.int .i64 id]) (by simp) (by simp) (zde l) rfl (by simp[AV.pure]) (by rw[za6];omega)) ?_
   rintro r σ ⟨rfl,rfl⟩
   have a:=zrA l ⟨s,id⟩
   rw[f,<-g,ya0,yd1]at a
   simp only[zc5]at a
   rw[a]
   have d:(zao l).length+1=(zao (insK kN l ⟨s,id⟩)).length:=by rw[za6,za6,zj0]
   rw[d]
   simp[zpW]
end Go.Proofs.YtdbhocoeolhjhaaGreatDoor
end
section
namespace Go.Num
theorem z6V {a b u v q r B:Nat}(hr:q*a+r=u):q*(a*B+b)+(B*r+v)=u*B+v+q*b:=by
 subst hr
 rw[yec,ya8,yc1,ybp B r]
 omega
theorem zwr {a b u v q r B:Nat}(hy:0<a*B+b)(hq:(u*B+v)/(a*B+b)≤q)(hr:q*a+r=u)(h:q*b≤B*r+v):q=(u*B+v)/(a*B+b):=by
 have:=z6V (b:=b) (v:=v) (B:=B) hr
 exact Nat.le_antisymm ((Nat.le_div_iff_mul_le hy).2 (by omega)) hq
theorem zoC {a b u v q r B:Nat}(hy:0<a*B+b)(hq:(u*B+v)/(a*B+b)≤q)(hr:q*a+r=u)(hB:B≤r)(hqB:q≤B)(hb:b<B):q=(u*B+v)/(a*B+b):=by
 refine zwr hy hq hr ?_
 have c:q*b≤B*B:=yej hqB (yd4 hb)
 have d:B*B≤B*r:=ycv B hB
 omega
theorem z2I {a b u v q r B:Nat}(hy:0<a*B+b)(hu:u<a*B+b)(hv:v<B)(hr:q*a+r=u)(h:B≤q∨B*r+v<q*b):(u*B+v)/(a*B+b)<q:=by
 rw[ycn hy]
 rcases h with h|h
 ·have c:u*B+v<(u+1)*B:=by rw[ya8];omega
  have d:(u+1)*B≤(a*B+b)*B:=yat B hu
  have e:(a*B+b)*B≤q*(a*B+b):=by rw[ybp q];exact ycv _ h
  omega
 ·have:=z6V (b:=b) (v:=v) (B:=B) hr
  omega
theorem zyv {a b u v B:Nat}(ha:0<a)(hv:v<B):(u*B+v)/(a*B+b)≤u/a:=by
 have d:0<B:=by omega
 rw[Nat.le_div_iff_mul_le ha]
 have e:(u*B+v)/(a*B+b)*(a*B+b)≤u*B+v:=yb7 _ _
 have f:(u*B+v)/(a*B+b)*(a*B)≤(u*B+v)/(a*B+b)*(a*B+b):=ycv _ (Nat.le_add_right _ _)
 have c:(u*B+v)/(a*B+b)*a*B<(u+1)*B:=by
  rw[yc1,ya8];omega
 have:=Nat.lt_of_mul_lt_mul_right c
 omega
theorem z6p {a b u B:Nat}(ha:B≤2*a)(hb:b<B)(hu:u<a*B+b):u/a≤B+1:=by
 have c:0<a:=by omega
 have:u<(B+2)*a:=by
  have e:(B+2)*a=a*B+2*a:=by rw[ya8,ybp B a]
  omega
 have:=(ycn c).2 this
 omega
theorem zrE {y h l B:Nat}(hy:0<y):let q1:=h/y;let a:=h%y;(h*B+l)/y=q1*B+(a*B+l)/y/\(h*B+l)%y=(a*B+l)%y:=by
 intro q1 a
 have e:h*B+l=y*(q1*B)+(a*B+l):=by
  have:=ycl h y
  have b:h*B=(y*q1+a)*B:=by rw[this]
  rw[b,ya8,yc1];omega
 rw[e]
 exact⟨Nat.mul_add_div hy _ _,Nat.mul_add_mod _ _ _⟩
theorem zzg {hi lo y M B P R:Nat}(hM:M=R*P)(hMB:M=B*B)(hp:0<P)(hy:0<y){u32 u10 h q1 u21 g:Nat}
  (e1:u32=hi*P+lo/R) (e2:u10=lo*P%M) (e3:h=u32*B+u10/B) (e4:q1=h/(y*P)) (e5:u21=h%(y*P)) (e6:g=u21*B+u10%B):
  (hi*M+lo)/y=q1*B+g/(y*P)/\(hi*M+lo)%y=g%(y*P)/P:=by
 have b:0<y*P:=Nat.mul_pos hy hp
 have c:lo*P=lo/R*M+u10:=by
  have a:=ycl (lo*P) M
  have d:lo*P/M=lo/R:=by
   rw[hM];exact Nat.mul_div_mul_right _ _ hp
  rw[d,ybp,<-e2]at a
  exact a.symm
 have k:u10/B*B+u10%B=u10:=by
  have:=ycl u10 B
  rw[ybp]at this;exact this
 have i:(hi*M+lo)*P=h*B+u10%B:=by
  have a:(hi*M+lo)*P=hi*P*M+lo*P:=by
   rw[ya8,yc1,ybp M P,<-yc1]
  have d:h*B=u32*M+u10/B*B:=by
   rw[e3,ya8,yc1,<-hMB]
  have m:u32*M=hi*P*M+lo/R*M:=by rw[e1,ya8]
  rw[a,c,d,m,yd3 (hi*P*M+lo/R*M),k,yd3]
 obtain⟨e,f⟩:=zrE (y:=y*P) (h:=h) (l:=u10%B) (B:=B) b
 rw[<-e4,<-e5,<-e6]at e
 rw[<-e5,<-e6]at f
 have n:(hi*M+lo)/y=(hi*M+lo)*P/(y*P):=(Nat.mul_div_mul_right _ _ hp).symm
 have j:(hi*M+lo)*P%(y*P)=(hi*M+lo)%y*P:=Nat.mul_mod_mul_right _ _ _
 constructor
 ·rw[n,i];exact e
 ·rw[i,f]at j
  rw[j,ydd _ hp]
abbrev N:=Bool×Int
abbrev most:Int:=9223372036854775807
def good (n:N):Bool:= !n.1&&decide (-most≤n.2)
def zoh (n:N):Bool:=if n.1 then decide (n.2=0)else decide (-most≤n.2)
def zbL:N:=(true,0)
def tell (s:Int):N:=if -most≤s/\s≤most then(false,s)else zbL
def addN (a b:N):N:=if good a&&good b then tell (a.2+b.2)else zbL
def zqU (a b:N):N:=if good a then(if good b then(if a.2≤b.2 then a else b)else a)else if good b then b else zbL
def zqF (a b:N):N:=if good a then(if good b then(if b.2≤a.2 then a else b)else a)else if good b then b else zbL
def rnd (x d:Nat):Nat:=x/d+(if d-x%d≤x%d then 1 else 0)
def sgn (below:Bool)(n:Nat):Int:=if below then -(n:Int)else n
def divN (a b:N):N:=if good a&&good b&&decide (b.2≠0)then tell (sgn (decide (a.2<0) !=decide (b.2<0)) (rnd (a.2.natAbs*1000000) b.2.natAbs))else zbL
def z9T (l:List N):List N:=l.filter good
end Go.Num
end
section
namespace Go.Sf
open Go.Num
abbrev Slot:=Int×Int
def i64 (v:Int):Prop:= -9223372036854775808≤v/\v≤9223372036854775807
def z6U (step n i:Nat)(s:Slot):Prop:=(s.1= -1/\s.2=0)∨∃k:Nat,s.1=((k*step:Nat):Int)/\k*step≤1099511627776/\k%n=i/\i64 s.2/\s.2≠ -9223372036854775808
def zdc (step:Nat)(l:List Slot):Prop:=∀i s,l[i]? =some s->z6U step l.length i s
def setR (step:Nat)(l:List Slot)(t:Nat)(v:Int):List Slot:=l.set (t/step%l.length) (((t/step*step:Nat):Int),v)
def getR (step:Nat)(l:List Slot)(t:Nat):Option Int:=match l[t/step%l.length]? with
 |some s=>if s.1=((t/step*step:Nat):Int)then some s.2 else none
 |none=>none
theorem zcM (step:Nat)(l:List Slot)(t:Nat)(v:Int):(setR step l t v).length=l.length:=by simp[setR]
theorem zeE {step:Nat}{l:List Slot}{t:Nat}{v:Int}(h:zdc step l)(ht:t≤1099511627776)(hv:i64 v)(hv2:v≠ -9223372036854775808):zdc step (setR step l t v):=λi s a=>by
 rw[zcM]
 unfold setR at a
 rw[List.getElem?_set]at a
 split at a
 ·rename_i e
  split at a
  ·simp only[yab]at a
   subst a
   refine .inr ⟨t/step,rfl, ?_,e,hv,hv2⟩
   have:=yb7 t step
   omega
  ·cases a
 ·exact h i s a
theorem z9d {step:Nat}{l:List Slot}{t:Nat}{v:Int}(h:zdc step l)(hg:getR step l t=some v):i64 v/\v≠ -9223372036854775808:=by
 unfold getR at hg
 split at hg
 ·rename_i s d
  split at hg
  ·rename_i e
   simp only[yab]at hg;subst hg
   rcases h _ _ d with ⟨a,_⟩|⟨k,_,_,_,b,c⟩
   ·rw[a]at e;omega
   ·exact⟨b,c⟩
  ·cases hg
 ·cases hg
structure LadM where
 fine:List Slot
 wide:List Slot
structure RightL (l:LadM):Prop where
 n1:l.fine.length=6
 n2:l.wide.length=5
 r1:zdc 10 l.fine
 r2:zdc 60 l.wide
def newL:LadM:=⟨List.replicate 6 (-1,0),List.replicate 5 (-1,0)⟩
def numO:Option Int->N
 |some v=>(false,v)
 |none=>(true,0)
def parts (l:List Slot)(t:Nat):Nat->List Int
 |0=> []
 |k+1=>parts l t k++(getR 10 l (t+k*10)).toList
def avgN (l:List Int):N:=divN (l.foldl (λa v=>addN a (tell v)) (tell 0)) (tell (l.length*1000000))
def zfm (l:List Slot)(t:Nat):N:=if(parts l (t/60*60) 6).length<3 then(true,0)else avgN (parts l (t/60*60) 6)
def zc3 (l:LadM)(t now:Nat)(v:Int):LadM:=
 if now<t/10*10+60 then
  let f:=setR 10 l.fine t v
  let n:=zfm f t
  if n.1 then⟨f,l.wide⟩else⟨f,setR 60 l.wide t n.2⟩
 else⟨l.fine,setR 60 l.wide t v⟩
theorem zpv (l:List Slot)(t:Nat):∀k,(parts l t k).length≤k
 |0=>by simp[parts]
 |k+1=>by
  have:=zpv l t k
  simp only[parts,yaj]
  cases getR 10 l (t+k*10)<;>simp<;>omega
theorem zsW {l:List Slot}(h:zdc 10 l)(t:Nat):∀k,∀v∈parts l t k,i64 v/\v≠ -9223372036854775808
 |0=>by simp[parts]
 |k+1=>λv a=>by
  simp only[parts,yag,Option.mem_toList]at a
  rcases a with a|a
  ·exact zsW h t k v a
  ·exact z9d h a
theorem z7A (s:Int)(h:(tell s).1=false):i64 (tell s).2/\(tell s).2≠ -9223372036854775808:=by
 unfold tell at*
 split
 ·rename_i a;unfold most at a;exact⟨⟨by simp only;omega,by simp only;omega⟩,by simp only;omega⟩
 ·rename_i a;rw[if_neg a]at h;cases h
theorem zxD (a b:N)(h:(divN a b).1=false):i64 (divN a b).2/\(divN a b).2≠ -9223372036854775808:=by
 unfold divN at*
 split
 ·rename_i c
  rw[if_pos c]at h
  exact z7A _ h
 ·rename_i c;rw[if_neg c]at h;cases h
theorem zeG:RightL newL:=by
 refine⟨rfl,rfl,λi s a=> .inl ?_,λi s a=> .inl ?_⟩<;>
 ·have:=yae a
  simp[newL]at this
  subst this;exact⟨rfl,rfl⟩
theorem ztJ {l:LadM}{t now:Nat}{v:Int}(h:RightL l)(ht:t≤1099511627776)(hv:i64 v)(hv2:v≠ -9223372036854775808):RightL (zc3 l t now v):=by
 unfold zc3
 split
 ·have c:=zeE (t:=t) h.r1 ht hv hv2
  simp only
  split
  ·exact⟨by rw[zcM];exact h.n1,h.n2,c,h.r2⟩
  ·rename_i d
   have a:(zfm (setR 10 l.fine t v) t).1=false:=by simpa using d
   have:i64 (zfm (setR 10 l.fine t v) t).2/\(zfm (setR 10 l.fine t v) t).2≠ -9223372036854775808:=by
    unfold zfm at a⊢
    split
    ·rename_i b;rw[if_pos b]at a;cases a
    ·rename_i b;rw[if_neg b]at a;exact zxD _ _ a
   exact⟨by rw[zcM];exact h.n1,by rw[zcM];exact h.n2,c,zeE h.r2 ht this.1 this.2⟩
 ·exact⟨h.n1,by rw[zcM];exact h.n2,h.r1,zeE h.r2 ht hv hv2⟩
end Go.Sf
end
section
namespace Go.Num
def bt (a i:Nat):Nat:=a/2^i%2
theorem z6e (a i:Nat):bt a i<2:=ybz _ (by decide)
theorem z9z {hi lo i:Nat}(hl:lo<18446744073709551616)(h:i<64):bt (hi*18446744073709551616+lo) i=lo/2^i%2:=by
 unfold bt
 have e:hi*18446744073709551616=2^i*(hi*2^(64-i)):=by
  rw[show(18446744073709551616:Nat)=2^i*2^(64-i) by rw[<-yeq,show i+(64-i)=64 by omega]]
  rw[Nat.mul_left_comm]
 rw[e,Nat.mul_add_div (yc7 i)]
 have a:hi*2^(64-i)=2*(hi*2^(63-i)):=by
  rw[show 64-i=(63-i)+1 by omega,yc4]
  rw[ybp (2^(63-i)) 2,Nat.mul_left_comm]
 rw[a,Nat.mul_add_mod]
theorem zAr {hi lo i:Nat}(hl:lo<18446744073709551616)(h:64≤i):bt (hi*18446744073709551616+lo) i=hi/2^(i-64)%2:=by
 unfold bt
 have e:2^i=18446744073709551616*2^(i-64):=by
  rw[show(18446744073709551616:Nat)=2^64 by decide,<-yeq,show 64+(i-64)=i by omega]
 rw[e,<-Nat.div_div_eq_div_mul]
 congr 2
 omega
def zha (a b i:Nat):Nat:=(a%2^i+b%2^i)%2^i
def sumC (a b i:Nat):Nat:=(a%2^i+b%2^i)/2^i
theorem z4S (a b i:Nat):zha a b (i+1)=zha a b i+2^i*((bt a i+bt b i+sumC a b i)%2)/\sumC a b (i+1)=(bt a i+bt b i+sumC a b i)/2:=by
 have j:=yc7 i
 have l:=Nat.mod_pow_succ (x:=a) (b:=2) (k:=i)
 have m:=Nat.mod_pow_succ (x:=b) (b:=2) (k:=i)
 have p:=ycl (a%2^i+b%2^i) (2^i)
 have e:a%2^(i+1)+b%2^(i+1)=2^i*(bt a i+bt b i+sumC a b i)+zha a b i:=by
  rw[l,m]
  unfold sumC zha bt
  rw[yec,yec]
  omega
 have n:zha a b i<2^i:=ybz _ j
 obtain⟨s,g⟩:∃s,bt a i+bt b i+sumC a b i=s:=⟨_,rfl⟩
 rw[g]at e⊢
 have f:2^i*s+zha a b i=2^(i+1)*(s/2)+(zha a b i+2^i*(s%2)):=by
  have:=ycl s 2
  have h:2^i*s=2^i*(2*(s/2)+s%2):=by rw[this]
  rw[h,yec,yc4,yc1];omega
 have c:zha a b i+2^i*(s%2)<2^(i+1):=by
  have o:s%2≤1:=by have:=ybz s (show 0<2 by decide);omega
  have:=ycv (2^i) o
  rw[yc4];omega
 have d:=yc7 (i+1)
 constructor
 ·show(a%2^(i+1)+b%2^(i+1))%2^(i+1)=_
  rw[e,f,Nat.mul_add_mod,ybj c]
 ·show(a%2^(i+1)+b%2^(i+1))/2^(i+1)=_
  rw[e,f,Nat.mul_add_div d,yeg c];omega
theorem z86 (a b i:Nat):sumC a b i≤1:=by
 have c:=yc7 i
 have d:=ybz a c
 have e:=ybz b c
 unfold sumC
 have:(a%2^i+b%2^i)/2^i<2:=by
  rw[ycn c];omega
 omega
theorem z5n (x y i:Nat):x*(y%2^(i+1))=x*(y%2^i)+(if bt y i=1 then x*2^i else 0):=by
 have h:=Nat.mod_pow_succ (x:=y) (b:=2) (k:=i)
 have c:=z6e y i
 unfold bt at*
 rw[h,yec]
 split
 ·rename_i a;rw[a,Nat.mul_one]
 ·have:y/2^i%2=0:=by omega
  rw[this];simp
theorem z6G (a i:Nat):a/2^i=2*(a/2^(i+1))+bt a i:=by
 have:a/2^(i+1)=a/2^i/2:=by rw[yc4,Nat.div_div_eq_div_mul]
 rw[this]
 unfold bt
 omega
theorem z5m {n d q r b:Nat}(h:n=q*d+r)(hr:r<d)(hb:b<2):(2*r+b<d->2*n+b=(2*q)*d+(2*r+b))/\(d≤2*r+b->2*n+b=(2*q+1)*d+(2*r+b-d)/\2*r+b-d<d):=by
 subst h
 constructor
 ·intro _
  rw[yec,yc1];omega
 ·intro h
  refine⟨?_,by omega⟩
  rw[yec,ya8,yc1];omega
end Go.Num
end
section
namespace Go.Num
open Go.Abs
theorem zyD (a:Nat)(h:a<18446744073709551616):(BitVec.ofInt 64 (a:Int)).toNat=a:=by
 rw[BitVec.toNat_ofInt]
 omega
theorem zib (a:Nat)(h:a<18446744073709551616):IntKind.u64.wrap (a:Int)=a:=by
 have:=Go.IntKind.wrap
 simp[IntKind.wrap,IntKind.signed,IntKind.bits];omega
theorem and_one (a:Nat)(h:a<18446744073709551616):zbQ .and .u64 (a:Int) 1=some ((a%2:Nat):Int):=by
 have e:(BitVec.ofInt 64 (a:Int)&&&BitVec.ofInt 64 1).toNat=a%2:=by
  rw[BitVec.toNat_and,zyD a h,show(BitVec.ofInt 64 1).toNat=1 by decide,Nat.and_one_is_mod]
 show some (IntKind.u64.wrap ((BitVec.ofInt 64 (a:Int)&&&BitVec.ofInt 64 1).toNat:Int))=_
 rw[e,zib _ (by omega)]
theorem zl1 (a b:Nat)(h:a<18446744073709551616)(h2:b<18446744073709551616):zbQ .or .u64 (a:Int) (b:Int)=some ((a|||b:Nat):Int):=by
 have e:(BitVec.ofInt 64 (a:Int)|||BitVec.ofInt 64 (b:Int)).toNat=a|||b:=by
  rw[BitVec.toNat_or,zyD a h,zyD b h2]
 have c:a|||b<18446744073709551616:=Nat.or_lt_two_pow (n:=64) h h2
 show some (IntKind.u64.wrap ((BitVec.ofInt 64 (a:Int)|||BitVec.ofInt 64 (b:Int)).toNat:Int))=_
 rw[e,zib _ c]
theorem zgl (a n:Nat)(h:a<18446744073709551616)(hn:n≤64):zax .shr .u64 (a:Int) n=some ((a/2^n:Nat):Int):=by
 show some ((a:Int).fdiv (2^min n 64))=_
 rw[yb0 hn]
 congr 1
 rw[show((2:Int)^n)=((2^n:Nat):Int) by push_cast;rfl]
 exact Int.ofNat_fdiv _ _|>.symm
theorem ziK (a n:Nat)(hn:n≤64):zax .shl .u64 (a:Int) n=some ((a*2^n%18446744073709551616:Nat):Int):=by
 show some (IntKind.u64.wrap ((a:Int)*2^min n 64))=_
 rw[yb0 hn]
 rw[show(a:Int)*2^n=((a*2^n:Nat):Int) by push_cast;rfl]
 simp[IntKind.wrap,IntKind.signed,IntKind.bits]
end Go.Num
end
section
namespace Go.Num
theorem zf1 {n:N}:good n=true↔n.1=false/\ -most≤n.2:=by
 simp[good]
theorem z1S:tell 0=(false,0):=by decide
theorem add_zero {k:N}(h:good k=true)(h2:k.2≤most):addN (tell 0) k=k:=by
 obtain⟨a,b⟩:=zf1.1 h
 have c:good (tell 0)=true:=by decide
 unfold addN
 rw[c,h]
 simp only[Bool.and_self,if_true]
 rw[z1S]
 unfold tell
 simp only[Int.zero_add]
 rw[if_pos ⟨b,h2⟩,<-a]
end Go.Num
end
