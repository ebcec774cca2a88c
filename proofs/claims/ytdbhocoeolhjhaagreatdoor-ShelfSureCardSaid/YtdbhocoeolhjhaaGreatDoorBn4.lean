/- Shelf: the document's ladder takes points. Shelf: the document's Fold. Shelf: rings and ladders of the program. Shelf: the program's ladder takes poin -/
import Derived.Test.YtdbhocoeolhjhaaGreatDoorAbs2
import Derived.Shelf.Spec.SlicesGrow
import Derived.Test.YtdbhocoeolhjhaaGreatDoorLay
import Derived.Test.YtdbhocoeolhjhaaGreatDoorBn1
import Derived.Test.YtdbhocoeolhjhaaGreatDoorBn2
import Derived.Test.YtdbhocoeolhjhaaGreatDoorBn3
set_option linter.unusedSimpArgs false
set_option linter.unusedVariables false
set_option linter.constructorNameAsVariable false
section
set_option maxHeartbeats 4000000
namespace Go.Sf
open Go.Abs Go.Num
def zdn (l:List Int):List (List AV):=l.map λ(v:Int)=> [AV.int .i64 v]
theorem ziz (l:List Int):(zdn l).length=l.length:=by simp[zdn]
theorem zdU {l:List Int}{i:Nat}{v:Int}(h:l[i]? =some v):(zdn l)[i]? =some [AV.int .i64 v]:=by simp[zdn,h]
theorem zr7 (l:List Int)(v:Int):zdn (l++ [v])=zdn l++ [[AV.int .i64 v]]:=by simp[zdn]
def numC (n:N):List AV:= [.bool n.1,.int .i64 n.2]
def sumF (l:List Int):N:=l.foldl (λa v=>addN a (tell v)) (tell 0)
def ze2 (a:N)(l:List Int):N:=l.foldl (λa v=>zqU a (tell v)) a
def zey (a:N)(l:List Int):N:=l.foldl (λa v=>zqF a (tell v)) a
theorem zfN (l:List Int)(v:Int):sumF (l++ [v])=addN (sumF l) (tell v):=by simp[sumF]
theorem zfD (a:N)(l:List Int)(v:Int):ze2 a (l++ [v])=zqU (ze2 a l) (tell v):=by simp[ze2]
theorem zfA (a:N)(l:List Int)(v:Int):zey a (l++ [v])=zqF (zey a l) (tell v):=by simp[zey]
end Go.Sf
namespace Go.Proofs.YtdbhocoeolhjhaaGreatDoor
open Go.Abs Go.RowKit Go.Sf Go.Num
variable {G:Globs}
theorem zdT (l:List Int):okN (sumF l):=by
 suffices h:∀(l:List Int) (a:N),okN a->okN (l.foldl (λa v=>addN a (tell v)) a) from h l _ (za9 0)
 intro l
 induction l with
 |nil=>intro a h;exact h
 |cons v l b=>intro a h;exact b _ (zA1 _ _)
theorem zjx (l:List Int):∀a,okN a->okN (ze2 a l):=by
 induction l with
 |nil=>intro a h;exact h
 |cons v l b=>intro a h;exact b _ (z7g h (za9 v))
theorem zjE (l:List Int):∀a,okN a->okN (zey a l):=by
 induction l with
 |nil=>intro a h;exact h
 |cons v l b=>intro a h;exact b _ (z7K h (za9 v))
theorem zxo (l:List Int)(h0:l≠ [])(hl:l.length≤1000)(hv:∀v∈l,i64 v):PCalls Tryz.prog zkZ [.int .i64 1,.lst (zdn l)] (λr=>r=numA (avgN l)):=by
 refine zaa hmix zku rfl ?_
 have o:=ziz l
 have e:0<l.length:=ycu.2 h0
 have T:¬((l.length:Int)=0):=by omega
 have R:l.length≠0:=by omega
 obtain⟨a,M⟩:∃a,l[0]? =some a:=⟨_,yac e⟩
 have p:=zdU M
 obtain⟨S,q⟩:=yaa.1 p
 have Q:=hv a (yae M)
 have U:∀i v,l[i]? =some v->(zdn l)[i]? =some [AV.int .i64 v]:=λi v h=>zdU h
 have L:PCalls Tryz.prog zaU [.int .i64 0] (λr=>r=.agg (numC (tell 0))):=znX 0 (by omega) (by omega)
 have G:PCalls Tryz.prog zaU [.int .i64 a] (λr=>r=.agg (numC (tell a))):=znX a Q.1 Q.2
 simp[zfY,o,T,R,h0]
 refine⟨?_, ?_, ?_, ?_, ?_, ?_⟩
 ·refine zap L (by simp) (by simp[numC]) ?_
  simp[e,p,q]
  refine zap G (by simp) (by simp[numC]) ?_
  simp[e,p,q]
  refine zap G (by simp) (by simp[numC]) ?_
  simp[numC,splice]
  refine zag (λx f σ=>∃(i:Nat) (t:zab),x=l.length-i/\i≤l.length/\f 0=.int .i64 1/\f 1=.lst (zdn l)/\f 4=.ptr 0 0/\f 5=.ptr 1 0/\f 6=.ptr 2 0/\f 7=.ptr 3 0/\f 8=.int .i64 i/\
   σ=.var 182 [.bool false,.int .i64 0]:: .var 182 (numC (sumF (l.take i))):: .var 182 (numC (ze2 (tell a) (l.take i))):: .var 182 (numC (zey (tell a) (l.take i)))::t) l.length ?_ ?_
  ·exact⟨0,[],by simp,by simp,by simp,by simp,by simp,by simp,by simp,by simp,by simp,by simp[numC,sumF,ze2,zey]⟩
  rintro x f σ ⟨i,t,O,P,z,n,A,d,g,j,u,rfl⟩
  simp[n,u,o]
  refine zaq (λI=> ?_) (λJ=> ?_)
  ·have k:i<l.length:=by omega
   have w:IntKind.i64.wrap ((i:Int)+1)=((i+1:Nat):Int):=by rw[wrap_i64 (by omega) (by omega)];omega
   obtain⟨v,b⟩:∃v,l[i]? =some v:=⟨_,yac k⟩
   have B:=zdU b
   obtain⟨H,s⟩:=yaa.1 B
   have m:=hv v (yae b)
   have c:l.take (i+1)=l.take i++ [v]:=by rw[yau,b];rfl
   have qv:PCalls Tryz.prog zaU [.int .i64 v] (λr=>r=.agg (numC (tell v))):=znX v m.1 m.2
   have C:PCalls Tryz.prog zbr [.agg (numC (sumF (l.take i))),.agg (numC (tell v))] (λr=>r=.agg (numC (sumF (l.take (i+1))))):=by rw[c,zfN];exact zj7 _ _ (zdT _) (za9 v)
   have D:PCalls Tryz.prog zbh [.agg (numC (ze2 (tell a) (l.take i))),.agg (numC (tell v))] (λr=>r=.agg (numC (ze2 (tell a) (l.take (i+1))))):=by rw[c,zfD];exact zgY _ _ (zjx _ _ (za9 a)) (za9 v)
   have E:PCalls Tryz.prog zbe [.agg (numC (zey (tell a) (l.take i))),.agg (numC (tell v))] (λr=>r=.agg (numC (zey (tell a) (l.take (i+1))))):=by rw[c,zfA];exact zgX _ _ (zjE _ _ (za9 a)) (za9 v)
   simp[n,u,B,s]
   refine zac qv (by simp) ?_
   rintro r rfl
   simp only[numC]at C D E
   simp[d,g,j,numC,zai,zak,splice]
   refine zac C (by simp) ?_
   rintro r rfl
   simp[d,g,j,numC,zai,zak,splice]
   refine zac D (by simp) ?_
   rintro r rfl
   simp[d,g,j,numC,zai,zak,splice]
   refine zac E (by simp) ?_
   rintro r rfl
   simp[d,g,j,u,numC,zai,zak,splice,w]
   exact zad (l.length-(i+1)) (by omega) ⟨i+1,t++ [.var 182 (numC (tell v))],rfl,by omega,by simp[z],by simp[n],by simp[A],by simp[d],by simp[g],by simp[j],by simp,by simp[numC]⟩
  ·have y:i=l.length:=by omega
   subst y
   rw[ya0]
   have F:PCalls Tryz.prog zbq [.agg (numC (sumF l)),.agg (numC (tell (l.length*1000000)))] (λr=>r=.agg (numC (avgN l))):=zjB _ _ (zdT _) (za9 _)
   have K:PCalls Tryz.prog zbs [.int .i64 l.length] (λr=>r=.agg (numC (tell (l.length*1000000)))):=znx _ (by omega) (by omega)
   simp[z,n,d,o,numC]
   refine zap K (by simp) (by simp[numC]) ?_
   simp only[numC]at F
   simp[numC]
   refine zap F (by simp) (by simp) ?_
   simp[A,splice,numA]
 ·refine zap L (by simp) (by simp[numC]) ?_
  simp[e,p,q]
  refine zap G (by simp) (by simp[numC]) ?_
  simp[e,p,q]
  refine zap G (by simp) (by simp[numC]) ?_
  simp[numC,splice]
  refine zag (λx f σ=>∃(i:Nat) (t:zab),x=l.length-i/\i≤l.length/\f 0=.int .i64 1/\f 1=.lst (zdn l)/\f 4=.ptr 0 0/\f 5=.ptr 2 0/\f 6=.ptr 1 0/\f 7=.ptr 3 0/\f 8=.int .i64 i/\
   σ=.var 182 [.bool false,.int .i64 0]:: .var 182 (numC (ze2 (tell a) (l.take i))):: .var 182 (numC (sumF (l.take i))):: .var 182 (numC (zey (tell a) (l.take i)))::t) l.length ?_ ?_
  ·exact⟨0,[],by simp,by simp,by simp,by simp,by simp,by simp,by simp,by simp,by simp,by simp[numC,sumF,ze2,zey]⟩
  rintro x f σ ⟨i,t,O,P,z,n,A,d,g,j,u,rfl⟩
  simp[n,u,o]
  refine zaq (λI=> ?_) (λJ=> ?_)
  ·have k:i<l.length:=by omega
   have w:IntKind.i64.wrap ((i:Int)+1)=((i+1:Nat):Int):=by rw[wrap_i64 (by omega) (by omega)];omega
   obtain⟨v,b⟩:∃v,l[i]? =some v:=⟨_,yac k⟩
   have B:=zdU b
   obtain⟨H,s⟩:=yaa.1 B
   have m:=hv v (yae b)
   have c:l.take (i+1)=l.take i++ [v]:=by rw[yau,b];rfl
   have qv:PCalls Tryz.prog zaU [.int .i64 v] (λr=>r=.agg (numC (tell v))):=znX v m.1 m.2
   have C:PCalls Tryz.prog zbr [.agg (numC (sumF (l.take i))),.agg (numC (tell v))] (λr=>r=.agg (numC (sumF (l.take (i+1))))):=by rw[c,zfN];exact zj7 _ _ (zdT _) (za9 v)
   have D:PCalls Tryz.prog zbh [.agg (numC (ze2 (tell a) (l.take i))),.agg (numC (tell v))] (λr=>r=.agg (numC (ze2 (tell a) (l.take (i+1))))):=by rw[c,zfD];exact zgY _ _ (zjx _ _ (za9 a)) (za9 v)
   have E:PCalls Tryz.prog zbe [.agg (numC (zey (tell a) (l.take i))),.agg (numC (tell v))] (λr=>r=.agg (numC (zey (tell a) (l.take (i+1))))):=by rw[c,zfA];exact zgX _ _ (zjE _ _ (za9 a)) (za9 v)
   simp[n,u,B,s]
   refine zac qv (by simp) ?_
   rintro r rfl
   simp only[numC]at C D E
   simp[d,g,j,numC,zai,zak,splice]
   refine zac C (by simp) ?_
   rintro r rfl
   simp[d,g,j,numC,zai,zak,splice]
   refine zac D (by simp) ?_
   rintro r rfl
   simp[d,g,j,numC,zai,zak,splice]
   refine zac E (by simp) ?_
   rintro r rfl
   simp[d,g,j,u,numC,zai,zak,splice,w]
   exact zad (l.length-(i+1)) (by omega) ⟨i+1,t++ [.var 182 (numC (tell v))],rfl,by omega,by simp[z],by simp[n],by simp[A],by simp[d],by simp[g],by simp[j],by simp,by simp[numC]⟩
  ·have y:i=l.length:=by omega
   subst y
   rw[ya0]
   have F:PCalls Tryz.prog zbq [.agg (numC (sumF l)),.agg (numC (tell (l.length*1000000)))] (λr=>r=.agg (numC (avgN l))):=zjB _ _ (zdT _) (za9 _)
   have K:PCalls Tryz.prog zbs [.int .i64 l.length] (λr=>r=.agg (numC (tell (l.length*1000000)))):=znx _ (by omega) (by omega)
   simp[z,n,d,o,numC]
   refine zap K (by simp) (by simp[numC]) ?_
   simp only[numC]at F
   simp[numC]
   refine zap F (by simp) (by simp) ?_
   simp[A,splice,numA]
 ·refine zap L (by simp) (by simp[numC]) ?_
  simp[e,p,q]
  refine zap G (by simp) (by simp[numC]) ?_
  simp[e,p,q]
  refine zap G (by simp) (by simp[numC]) ?_
  simp[numC,splice]
  refine zag (λx f σ=>∃(i:Nat) (t:zab),x=l.length-i/\i≤l.length/\f 0=.int .i64 1/\f 1=.lst (zdn l)/\f 4=.ptr 0 0/\f 5=.ptr 3 0/\f 6=.ptr 1 0/\f 7=.ptr 2 0/\f 8=.int .i64 i/\
   σ=.var 182 [.bool false,.int .i64 0]:: .var 182 (numC (ze2 (tell a) (l.take i))):: .var 182 (numC (zey (tell a) (l.take i))):: .var 182 (numC (sumF (l.take i)))::t) l.length ?_ ?_
  ·exact⟨0,[],by simp,by simp,by simp,by simp,by simp,by simp,by simp,by simp,by simp,by simp[numC,sumF,ze2,zey]⟩
  rintro x f σ ⟨i,t,O,P,z,n,A,d,g,j,u,rfl⟩
  simp[n,u,o]
  refine zaq (λI=> ?_) (λJ=> ?_)
  ·have k:i<l.length:=by omega
   have w:IntKind.i64.wrap ((i:Int)+1)=((i+1:Nat):Int):=by rw[wrap_i64 (by omega) (by omega)];omega
   obtain⟨v,b⟩:∃v,l[i]? =some v:=⟨_,yac k⟩
   have B:=zdU b
   obtain⟨H,s⟩:=yaa.1 B
   have m:=hv v (yae b)
   have c:l.take (i+1)=l.take i++ [v]:=by rw[yau,b];rfl
   have qv:PCalls Tryz.prog zaU [.int .i64 v] (λr=>r=.agg (numC (tell v))):=znX v m.1 m.2
   have C:PCalls Tryz.prog zbr [.agg (numC (sumF (l.take i))),.agg (numC (tell v))] (λr=>r=.agg (numC (sumF (l.take (i+1))))):=by rw[c,zfN];exact zj7 _ _ (zdT _) (za9 v)
   have D:PCalls Tryz.prog zbh [.agg (numC (ze2 (tell a) (l.take i))),.agg (numC (tell v))] (λr=>r=.agg (numC (ze2 (tell a) (l.take (i+1))))):=by rw[c,zfD];exact zgY _ _ (zjx _ _ (za9 a)) (za9 v)
   have E:PCalls Tryz.prog zbe [.agg (numC (zey (tell a) (l.take i))),.agg (numC (tell v))] (λr=>r=.agg (numC (zey (tell a) (l.take (i+1))))):=by rw[c,zfA];exact zgX _ _ (zjE _ _ (za9 a)) (za9 v)
   simp[n,u,B,s]
   refine zac qv (by simp) ?_
   rintro r rfl
   simp only[numC]at C D E
   simp[d,g,j,numC,zai,zak,splice]
   refine zac C (by simp) ?_
   rintro r rfl
   simp[d,g,j,numC,zai,zak,splice]
   refine zac D (by simp) ?_
   rintro r rfl
   simp[d,g,j,numC,zai,zak,splice]
   refine zac E (by simp) ?_
   rintro r rfl
   simp[d,g,j,u,numC,zai,zak,splice,w]
   exact zad (l.length-(i+1)) (by omega) ⟨i+1,t++ [.var 182 (numC (tell v))],rfl,by omega,by simp[z],by simp[n],by simp[A],by simp[d],by simp[g],by simp[j],by simp,by simp[numC]⟩
  ·have y:i=l.length:=by omega
   subst y
   rw[ya0]
   have F:PCalls Tryz.prog zbq [.agg (numC (sumF l)),.agg (numC (tell (l.length*1000000)))] (λr=>r=.agg (numC (avgN l))):=zjB _ _ (zdT _) (za9 _)
   have K:PCalls Tryz.prog zbs [.int .i64 l.length] (λr=>r=.agg (numC (tell (l.length*1000000)))):=znx _ (by omega) (by omega)
   simp[z,n,d,o,numC]
   refine zap K (by simp) (by simp[numC]) ?_
   simp only[numC]at F
   simp[numC]
   refine zap F (by simp) (by simp) ?_
   simp[A,splice,numA]
 ·refine zap L (by simp) (by simp[numC]) ?_
  simp[e,p,q]
  refine zap G (by simp) (by simp[numC]) ?_
  simp[e,p,q]
  refine zap G (by simp) (by simp[numC]) ?_
  simp[numC,splice]
  refine zag (λx f σ=>∃(i:Nat) (t:zab),x=l.length-i/\i≤l.length/\f 0=.int .i64 1/\f 1=.lst (zdn l)/\f 4=.ptr 0 0/\f 5=.ptr 1 0/\f 6=.ptr 3 0/\f 7=.ptr 2 0/\f 8=.int .i64 i/\
   σ=.var 182 [.bool false,.int .i64 0]:: .var 182 (numC (sumF (l.take i))):: .var 182 (numC (zey (tell a) (l.take i))):: .var 182 (numC (ze2 (tell a) (l.take i)))::t) l.length ?_ ?_
  ·exact⟨0,[],by simp,by simp,by simp,by simp,by simp,by simp,by simp,by simp,by simp,by simp[numC,sumF,ze2,zey]⟩
  rintro x f σ ⟨i,t,O,P,z,n,A,d,g,j,u,rfl⟩
  simp[n,u,o]
  refine zaq (λI=> ?_) (λJ=> ?_)
  ·have k:i<l.length:=by omega
   have w:IntKind.i64.wrap ((i:Int)+1)=((i+1:Nat):Int):=by rw[wrap_i64 (by omega) (by omega)];omega
   obtain⟨v,b⟩:∃v,l[i]? =some v:=⟨_,yac k⟩
   have B:=zdU b
   obtain⟨H,s⟩:=yaa.1 B
   have m:=hv v (yae b)
   have c:l.take (i+1)=l.take i++ [v]:=by rw[yau,b];rfl
   have qv:PCalls Tryz.prog zaU [.int .i64 v] (λr=>r=.agg (numC (tell v))):=znX v m.1 m.2
   have C:PCalls Tryz.prog zbr [.agg (numC (sumF (l.take i))),.agg (numC (tell v))] (λr=>r=.agg (numC (sumF (l.take (i+1))))):=by rw[c,zfN];exact zj7 _ _ (zdT _) (za9 v)
   have D:PCalls Tryz.prog zbh [.agg (numC (ze2 (tell a) (l.take i))),.agg (numC (tell v))] (λr=>r=.agg (numC (ze2 (tell a) (l.take (i+1))))):=by rw[c,zfD];exact zgY _ _ (zjx _ _ (za9 a)) (za9 v)
   have E:PCalls Tryz.prog zbe [.agg (numC (zey (tell a) (l.take i))),.agg (numC (tell v))] (λr=>r=.agg (numC (zey (tell a) (l.take (i+1))))):=by rw[c,zfA];exact zgX _ _ (zjE _ _ (za9 a)) (za9 v)
   simp[n,u,B,s]
   refine zac qv (by simp) ?_
   rintro r rfl
   simp only[numC]at C D E
   simp[d,g,j,numC,zai,zak,splice]
   refine zac C (by simp) ?_
   rintro r rfl
   simp[d,g,j,numC,zai,zak,splice]
   refine zac D (by simp) ?_
   rintro r rfl
   simp[d,g,j,numC,zai,zak,splice]
   refine zac E (by simp) ?_
   rintro r rfl
   simp[d,g,j,u,numC,zai,zak,splice,w]
   exact zad (l.length-(i+1)) (by omega) ⟨i+1,t++ [.var 182 (numC (tell v))],rfl,by omega,by simp[z],by simp[n],by simp[A],by simp[d],by simp[g],by simp[j],by simp,by simp[numC]⟩
  ·have y:i=l.length:=by omega
   subst y
   rw[ya0]
   have F:PCalls Tryz.prog zbq [.agg (numC (sumF l)),.agg (numC (tell (l.length*1000000)))] (λr=>r=.agg (numC (avgN l))):=zjB _ _ (zdT _) (za9 _)
   have K:PCalls Tryz.prog zbs [.int .i64 l.length] (λr=>r=.agg (numC (tell (l.length*1000000)))):=znx _ (by omega) (by omega)
   simp[z,n,d,o,numC]
   refine zap K (by simp) (by simp[numC]) ?_
   simp only[numC]at F
   simp[numC]
   refine zap F (by simp) (by simp) ?_
   simp[A,splice,numA]
 ·refine zap L (by simp) (by simp[numC]) ?_
  simp[e,p,q]
  refine zap G (by simp) (by simp[numC]) ?_
  simp[e,p,q]
  refine zap G (by simp) (by simp[numC]) ?_
  simp[numC,splice]
  refine zag (λx f σ=>∃(i:Nat) (t:zab),x=l.length-i/\i≤l.length/\f 0=.int .i64 1/\f 1=.lst (zdn l)/\f 4=.ptr 0 0/\f 5=.ptr 2 0/\f 6=.ptr 3 0/\f 7=.ptr 1 0/\f 8=.int .i64 i/\
   σ=.var 182 [.bool false,.int .i64 0]:: .var 182 (numC (zey (tell a) (l.take i))):: .var 182 (numC (sumF (l.take i))):: .var 182 (numC (ze2 (tell a) (l.take i)))::t) l.length ?_ ?_
  ·exact⟨0,[],by simp,by simp,by simp,by simp,by simp,by simp,by simp,by simp,by simp,by simp[numC,sumF,ze2,zey]⟩
  rintro x f σ ⟨i,t,O,P,z,n,A,d,g,j,u,rfl⟩
  simp[n,u,o]
  refine zaq (λI=> ?_) (λJ=> ?_)
  ·have k:i<l.length:=by omega
   have w:IntKind.i64.wrap ((i:Int)+1)=((i+1:Nat):Int):=by rw[wrap_i64 (by omega) (by omega)];omega
   obtain⟨v,b⟩:∃v,l[i]? =some v:=⟨_,yac k⟩
   have B:=zdU b
   obtain⟨H,s⟩:=yaa.1 B
   have m:=hv v (yae b)
   have c:l.take (i+1)=l.take i++ [v]:=by rw[yau,b];rfl
   have qv:PCalls Tryz.prog zaU [.int .i64 v] (λr=>r=.agg (numC (tell v))):=znX v m.1 m.2
   have C:PCalls Tryz.prog zbr [.agg (numC (sumF (l.take i))),.agg (numC (tell v))] (λr=>r=.agg (numC (sumF (l.take (i+1))))):=by rw[c,zfN];exact zj7 _ _ (zdT _) (za9 v)
   have D:PCalls Tryz.prog zbh [.agg (numC (ze2 (tell a) (l.take i))),.agg (numC (tell v))] (λr=>r=.agg (numC (ze2 (tell a) (l.take (i+1))))):=by rw[c,zfD];exact zgY _ _ (zjx _ _ (za9 a)) (za9 v)
   have E:PCalls Tryz.prog zbe [.agg (numC (zey (tell a) (l.take i))),.agg (numC (tell v))] (λr=>r=.agg (numC (zey (tell a) (l.take (i+1))))):=by rw[c,zfA];exact zgX _ _ (zjE _ _ (za9 a)) (za9 v)
   simp[n,u,B,s]
   refine zac qv (by simp) ?_
   rintro r rfl
   simp only[numC]at C D E
   simp[d,g,j,numC,zai,zak,splice]
   refine zac C (by simp) ?_
   rintro r rfl
   simp[d,g,j,numC,zai,zak,splice]
   refine zac D (by simp) ?_
   rintro r rfl
   simp[d,g,j,numC,zai,zak,splice]
   refine zac E (by simp) ?_
   rintro r rfl
   simp[d,g,j,u,numC,zai,zak,splice,w]
   exact zad (l.length-(i+1)) (by omega) ⟨i+1,t++ [.var 182 (numC (tell v))],rfl,by omega,by simp[z],by simp[n],by simp[A],by simp[d],by simp[g],by simp[j],by simp,by simp[numC]⟩
  ·have y:i=l.length:=by omega
   subst y
   rw[ya0]
   have F:PCalls Tryz.prog zbq [.agg (numC (sumF l)),.agg (numC (tell (l.length*1000000)))] (λr=>r=.agg (numC (avgN l))):=zjB _ _ (zdT _) (za9 _)
   have K:PCalls Tryz.prog zbs [.int .i64 l.length] (λr=>r=.agg (numC (tell (l.length*1000000)))):=znx _ (by omega) (by omega)
   simp[z,n,d,o,numC]
   refine zap K (by simp) (by simp[numC]) ?_
   simp only[numC]at F
   simp[numC]
   refine zap F (by simp) (by simp) ?_
   simp[A,splice,numA]
 ·refine zap L (by simp) (by simp[numC]) ?_
  simp[e,p,q]
  refine zap G (by simp) (by simp[numC]) ?_
  simp[e,p,q]
  refine zap G (by simp) (by simp[numC]) ?_
  simp[numC,splice]
  refine zag (λx f σ=>∃(i:Nat) (t:zab),x=l.length-i/\i≤l.length/\f 0=.int .i64 1/\f 1=.lst (zdn l)/\f 4=.ptr 0 0/\f 5=.ptr 3 0/\f 6=.ptr 2 0/\f 7=.ptr 1 0/\f 8=.int .i64 i/\
   σ=.var 182 [.bool false,.int .i64 0]:: .var 182 (numC (zey (tell a) (l.take i))):: .var 182 (numC (ze2 (tell a) (l.take i))):: .var 182 (numC (sumF (l.take i)))::t) l.length ?_ ?_
  ·exact⟨0,[],by simp,by simp,by simp,by simp,by simp,by simp,by simp,by simp,by simp,by simp[numC,sumF,ze2,zey]⟩
  rintro x f σ ⟨i,t,O,P,z,n,A,d,g,j,u,rfl⟩
  simp[n,u,o]
  refine zaq (λI=> ?_) (λJ=> ?_)
  ·have k:i<l.length:=by omega
   have w:IntKind.i64.wrap ((i:Int)+1)=((i+1:Nat):Int):=by rw[wrap_i64 (by omega) (by omega)];omega
   obtain⟨v,b⟩:∃v,l[i]? =some v:=⟨_,yac k⟩
   have B:=zdU b
   obtain⟨H,s⟩:=yaa.1 B
   have m:=hv v (yae b)
   have c:l.take (i+1)=l.take i++ [v]:=by rw[yau,b];rfl
   have qv:PCalls Tryz.prog zaU [.int .i64 v] (λr=>r=.agg (numC (tell v))):=znX v m.1 m.2
   have C:PCalls Tryz.prog zbr [.agg (numC (sumF (l.take i))),.agg (numC (tell v))] (λr=>r=.agg (numC (sumF (l.take (i+1))))):=by rw[c,zfN];exact zj7 _ _ (zdT _) (za9 v)
   have D:PCalls Tryz.prog zbh [.agg (numC (ze2 (tell a) (l.take i))),.agg (numC (tell v))] (λr=>r=.agg (numC (ze2 (tell a) (l.take (i+1))))):=by rw[c,zfD];exact zgY _ _ (zjx _ _ (za9 a)) (za9 v)
   have E:PCalls Tryz.prog zbe [.agg (numC (zey (tell a) (l.take i))),.agg (numC (tell v))] (λr=>r=.agg (numC (zey (tell a) (l.take (i+1))))):=by rw[c,zfA];exact zgX _ _ (zjE _ _ (za9 a)) (za9 v)
   simp[n,u,B,s]
   refine zac qv (by simp) ?_
   rintro r rfl
   simp only[numC]at C D E
   simp[d,g,j,numC,zai,zak,splice]
   refine zac C (by simp) ?_
   rintro r rfl
   simp[d,g,j,numC,zai,zak,splice]
   refine zac D (by simp) ?_
   rintro r rfl
   simp[d,g,j,numC,zai,zak,splice]
   refine zac E (by simp) ?_
   rintro r rfl
   simp[d,g,j,u,numC,zai,zak,splice,w]
   exact zad (l.length-(i+1)) (by omega) ⟨i+1,t++ [.var 182 (numC (tell v))],rfl,by omega,by simp[z],by simp[n],by simp[A],by simp[d],by simp[g],by simp[j],by simp,by simp[numC]⟩
  ·have y:i=l.length:=by omega
   subst y
   rw[ya0]
   have F:PCalls Tryz.prog zbq [.agg (numC (sumF l)),.agg (numC (tell (l.length*1000000)))] (λr=>r=.agg (numC (avgN l))):=zjB _ _ (zdT _) (za9 _)
   have K:PCalls Tryz.prog zbs [.int .i64 l.length] (λr=>r=.agg (numC (tell (l.length*1000000)))):=znx _ (by omega) (by omega)
   simp[z,n,d,o,numC]
   refine zap K (by simp) (by simp[numC]) ?_
   simp only[numC]at F
   simp[numC]
   refine zap F (by simp) (by simp) ?_
   simp[A,splice,numA]
theorem z1x (l:LadM)(h:RightL l)(t now:Nat)(ht:t≤1000000000)(hn:now≤1000000000):PCalls Tryz.prog zfu [.agg (ladC l),.agg [.int .i64 t,.int .i64 (-9223372036854775808)],.int .i64 now] (λr=>r=.tup [.agg (ladC l),.int .i64 1]):=by
 refine zaa hmix zfv rfl ?_
 simp[zdp,ladC]
 refine zac (zqd l h) (by simp[AV.pure,ladC]) ?_
 rintro r rfl
 simp
 refine zac (zhv t (by omega)) (by simp) ?_
 rintro r rfl
 simp
 refine zac (zhv now (by omega)) (by simp) ?_
 rintro r rfl
 simp
theorem znP (l:LadM)(h:RightL l)(t now:Nat)(v:Int)(ht:t≤1000000000)(hn:now≤1000000000)(h1:t≤now)(h2:now≤t+79)(hv:i64 v)(hv2:v≠ -9223372036854775808):PCalls Tryz.prog zfu [.agg (ladC l),.agg [.int .i64 t,.int .i64 v],.int .i64 now] (λr=>r=.tup [.agg (ladC (zc3 l t now v)),.int .i64 0]):=by
 refine zaa hmix zfv rfl ?_
 have k1:¬((now:Int)<t):=by omega
 have ay:¬(now<t):=by omega
 have ae:=zlI (G:=G) 10 l.fine (zq8 h) t now (by omega) (by omega)
 have R:=zlI (G:=G) 60 l.wide (zor h) t now (by omega) (by omega)
 have az:now<t/60*60+60*l.wide.length:=by
  rw[h.n2]
  have:=ycl t 60
  have:=ybz t (show 0<60 by omega)
  omega
 rw[decide_eq_true az]at R
 rw[h.n1]at ae
 simp[zdp,ladC]
 refine zac (zqd l h) (by simp[AV.pure,ladC]) ?_
 rintro r rfl
 simp
 refine zac (zhv t (by omega)) (by simp) ?_
 rintro r rfl
 simp
 refine zac (zhv now (by omega)) (by simp) ?_
 rintro r rfl
 simp[hv2,k1,ay]
 obtain⟨E0,z⟩:∃E0:Entry,E0=.var 55 (ladC l):=⟨_,rfl⟩
 obtain⟨O,j⟩:∃O:Entry,O=.var 117 [.int .i64 t,.int .i64 v]:=⟨_,rfl⟩
 obtain⟨J,ab⟩:∃J:Entry,J=.var 55 [.int .i64 0,.int .i64 0,.nils]:=⟨_,rfl⟩
 have al:IntKind.i64.wrap (-1)= -1:=by decide
 simp[zan,wk1]
 refine zag (λx f σ=>f 2=.int .i64 now/\f 3=.ptr 0 0/\f 4=.ptr 1 0/\f 6=.ptr 2 0/\σ= [E0,O,J]/\((x=2/\f 9=.int .i64 1/\f 8=.int .i64 (-1))∨(x=1/\f 9=.int .i64 0/\f 8=.int .i64 1)∨(x=0/\f 9=.int .i64 (-1)/\f 8=.int .i64 (if now<t/10*10+60 then 0 else 1)))) 2 ?_ ?_
 ·exact⟨by simp,by simp,by simp,by simp,by simp[z,j,ab,ladC,zan],.inl ⟨rfl,by simp[wk1],by simp⟩⟩
 rintro x f σ ⟨o,m,p,y,rfl,⟨rfl,X,K⟩|⟨rfl,X,K⟩|⟨rfl,X,K⟩⟩
 ·simp[o,m,p,K,X,z,j,ladC,zan,zah]
  simp only[zah]at R
  refine zap R (by simp[AV.pure]) (by simp) ?_
  simp[X,wk0]
  exact zad 1 (by omega) ⟨by simp[o],by simp[m],by simp[p],by simp[y],by simp[z,j,ladC,zan,zah],.inr (.inl ⟨rfl,by simp,by simp⟩)⟩
 ·simp[o,m,p,K,X,z,j,ladC,zan,zah]
  simp only[zah]at ae
  refine zap ae (by simp[AV.pure]) (by simp) ?_
  by_cases i:now<t/10*10+60
  ·simp[i,X,al]
   exact zad 0 (by omega) ⟨by simp[o],by simp[m],by simp[p],by simp[y],by simp[z,j,ladC,zan,zah],.inr (.inr ⟨rfl,by simp,by simp[i]⟩)⟩
  ·simp[i,X,al]
   exact zad 0 (by omega) ⟨by simp[o],by simp[m],by simp[p],by simp[y],by simp[z,j,ladC,zan,zah],.inr (.inr ⟨rfl,by simp,by simp[i,K]⟩)⟩
 simp[X]
 by_cases i:now<t/10*10+60
 ·simp[K,m,i,z,ladC]
  refine zam (zrF _ l h) ?_
  rintro r σ ⟨rfl,rfl⟩
  have kS:=zpr (G:=G) 10 l.fine (zq8 h) h.r1 t (by omega) v hv2
  simp only[zah]at kS
  simp[K,p,i,j,zan,zah,splice]
  refine zbu kS (by simp[AV.pure]) ?_
  simp[splice,wk1,K,i]
  obtain⟨F,hF⟩:∃F,F=setR 10 l.fine t v:=⟨_,rfl⟩
  have am:zdc 10 F:=by rw[hF];exact zeE h.r1 (by omega) hv hv2
  have a0:Sized 10 F:=by rw[hF];exact⟨by omega,by omega,by rw[zcM,h.n1];omega,by rw[zcM,h.n1];omega⟩
  rw[<-hF]
  obtain⟨M,hM⟩:∃M:Entry,M=.var 55 [.int .i64 1,.int .i64 500000,.row 6 2]:=⟨_,rfl⟩
  have d:zc3 l t now v=if(zfm F t).1 then⟨F,l.wide⟩else⟨F,setR 60 l.wide t (zfm F t).2⟩:=by
   unfold zc3;rw[if_pos i,<-hF]
  clear K X
  refine zag (λx f σ=>f 2=.int .i64 now/\f 3=.ptr 0 0/\f 4=.ptr 1 0/\f 6=.ptr 2 0/\f 10=.ptr 7 0/\((x=1/\f 11=.int .i64 1/\σ= [.var 55 (ladC l),O,J,.var 55 (ladC l),M,M,.row 112 2 [zah 10 F,zah 60 l.wide] false,M])∨
   (x=0/\f 11=.int .i64 2/\∃(W:List Slot) (U:zab),zc3 l t now v=⟨F,W⟩/\σ=.var 55 (ladC l)::O::J:: .var 55 (ladC l)::M::M:: .row 112 2 [zah 10 F,zah 60 W] false::M::U))) 1 ?_ ?_
  ·exact⟨by simp[o],by simp[m],by simp[p],by simp[y],by simp,.inl ⟨rfl,by simp,by simp[hM,j,ladC,zan,zah]⟩⟩
  clear o m p y
  rintro x f σ ⟨o,m,p,y,a,⟨rfl,c,rfl⟩|⟨rfl,c,W,U,ad,rfl⟩⟩
  ·simp[o,m,p,y,a,c,hM,j,zah]
   simp only[zah]at R
   refine zap R (by simp[AV.pure]) (by simp) ?_
   simp[a,c,wk0]
   obtain⟨b,P⟩:∃b,b=t/60*60:=⟨_,rfl⟩
   have a9:b≤t:=by rw[P];exact yb7 t 60
   have a1:IntKind.i64.wrap ((t:Int)-(t:Int).tmod 60)=(b:Int):=by
    have e:(t:Int).tmod 60=((t%60:Nat):Int):=zbM t 60
    rw[e,zmB,P];exact wrap_i64 (by omega) (by omega)
   refine⟨?_, ?_, ?_, ?_⟩
   all_goals
    simp[p,a,c,a1,splice]
    refine zag (λx f σ=>∃(k:Nat) (U:zab),x=6-k/\k≤6/\f 3=.ptr 0 0/\f 4=.ptr 1 0/\f 2=.int .i64 now/\f 6=.ptr 2 0/\f 10=.ptr 7 0/\f 11=.int .i64 1/\f 12=.ptr 8 0/\f 13=.int .i64 60/\f 14=.int .i64 b/\f 16=.int .i64 (b+k*10:Nat)/\AccT 2 1 9 U (f 15) (zdn (parts F b k))/\
     σ=.var 55 (ladC l)::O::J:: .var 55 (ladC l)::M::M:: .row 112 2 [zah 10 F,zah 60 l.wide] false::M:: .var 112 (zah 10 F)::U) 6 ?_ ?_
    ·exact⟨0,[],by simp,by simp,by simp[m],by simp[p],by simp[o],by simp[y],by simp[a],by simp[c],by simp,by simp,by simp,by simp,by simp[parts,zdn];exact zjD,by simp[hM,j,zah]⟩
    clear o m p y a c
    rintro x f σ ⟨k,U,hx,hk,m,p,o,y,a,c,q,H,D,Q,hA,rfl⟩
    have a2:IntKind.i64.wrap ((b:Int)+60)=((b+60:Nat):Int):=by rw[wrap_i64 (by omega) (by omega)];omega
    have a3:=zpv F b k
    have af:=ziz (parts F b k)
    have a4:((zdn (parts F b k)).length+1)*8≤140737488355328:=by rw[af];omega
    have a5:(zdn (parts F b k)).length+1≤9223372036854775807:=by rw[af];omega
    simp[H,D,Q,a2, -Int.natCast_add]
    refine zaq (λba=> ?_) (λbb=> ?_)
    ·have an:k<6:=by omega
     have ag:IntKind.i64.wrap (((b+k*10:Nat):Int)+10)=((b+(k+1)*10:Nat):Int):=by rw[wrap_i64 (by omega) (by omega)];omega
     have kG:=z2d (G:=G) 10 F a0 am (b+k*10) (by omega)
     simp only[zah]at kG
     simp[q,Q,zah, -Int.natCast_add]
     refine zac kG (by simp[AV.pure]) ?_
     rintro r rfl
     cases hg:getR 10 F (b+k*10)with
     |none=>
      have ah:parts F b (k+1)=parts F b k:=by simp[parts,hg]
      simp[numO,numA,zai,zak,splice,q,Q,zah,ag, -Int.natCast_add]
      refine zad (6-(k+1)) (by omega) ⟨k+1,U++ [.var 182 [.bool true,.int .i64 0]],rfl,by omega,by simp[m],by simp[p],by simp[o],by simp[y],by simp[a],by simp[c],by simp[q],by simp[H],by simp[D],by simp, ?_,by simp[zah]⟩
      simp only[Frame.put_some]
      simp
      rw[ah];exact hA.more _
     |some w=>
      have ah:parts F b (k+1)=parts F b k++ [w]:=by simp[parts,hg]
      simp[numO,numA,zai,zak,splice,q,Q,zah,ag, -Int.natCast_add]
      refine zpU (σ:= [.var 55 (ladC l),O,J,.var 55 (ladC l),M,M,.row 112 2 [zah 10 F,zah 60 l.wide] false,M,.var 112 (zah 10 F)]) (τ:=U++ [.var 182 [.bool false,.int .i64 w]]) (hA.more _) [.int .i64 w] (by decide) rfl a4 a5 λv' τ' ax a8 _=> ?_
      simp[q,Q,zah,ag, -Int.natCast_add]
      refine zad (6-(k+1)) (by omega) ⟨k+1,τ',rfl,by omega,by simp[m],by simp[p],by simp[o],by simp[y],by simp[a],by simp[c],by simp[q],by simp[H],by simp[D],by simp, ?_,by simp[zah]⟩
      simp
      rw[ah,zr7];exact ax
    ·have an:k=6:=by omega
     subst an
     have s:view ([.var 55 (ladC l),O,J,.var 55 (ladC l),M,M,.row 112 2 [zah 10 F,zah 60 l.wide] false,M,.var 112 (zah 10 F)]++U) (f 15)=some (zdn (parts F b 6)):=hA.view (σ:= [.var 55 (ladC l),O,J,.var 55 (ladC l),M,M,.row 112 2 [zah 10 F,zah 60 l.wide] false,M,.var 112 (zah 10 F)])
     simp only[ybq,yco]at s
     have ai:=zsW am b 6
     obtain⟨L,hL⟩:∃L,L=zdn (parts F b 6):=⟨_,rfl⟩
     obtain⟨n,hn⟩:∃n,n=(parts F b 6).length:=⟨_,rfl⟩
     have Y:L.length=n:=by rw[hL,af,hn]
     rw[<-hL]at s
     rw[<-hn]at a3
     have u:=s
     simp[ladC,zah]at u
     have ao:IntKind.i64.wrap ((n:Int)*1000000)=(n:Int)*1000000:=wrap_i64 (by omega) (by omega)
     have Z:IntKind.i64.wrap 3000000=3000000:=by decide
     by_cases au:n<3
     ·have aj:(zfm F t).1=true:=by unfold zfm;rw[<-P,<-hn,if_pos au]
      rw[aj,if_pos rfl]at d
      by_cases I:n=0
      ·have S:L= []:=yal (by omega)
       simp[o,m,a,c,q,H,D,s,S,wk2]
       exact zad 0 (by omega) ⟨by simp[o],by simp[m],by simp[p],by simp[y],by simp[a],.inr ⟨rfl,by simp,l.wide,_,d,rfl⟩⟩
      ·have S:¬L= []:=λe=>I (by rw[<-Y,e];rfl)
       have T:(n:Int)*1000000<3000000:=by omega
       have E:n*1000000<3000000:=by omega
       simp[o,m,a,c,q,H,D,u,S,I,Y,ladC,zah,wk6,ao,Z,T,E,wk2]
       exact zad 0 (by omega) ⟨by simp[o],by simp[m],by simp[p],by simp[y],by simp[a],.inr ⟨rfl,by simp,l.wide,_,d,by simp[ladC,zah];rfl⟩⟩
     ·have aj:zfm F t=avgN (parts F b 6):=by unfold zfm;rw[<-P,<-hn,if_neg au]
      rw[aj]at d
      have I:n≠0:=by omega
      have S:¬L= []:=λe=>I (by rw[<-Y,e];rfl)
      have T:¬((n:Int)*1000000<3000000):=by omega
      have E:¬(n*1000000<3000000):=by omega
      simp[o,m,a,c,q,H,D,u,S,I,Y,ladC,zah,wk6,ao,Z,T,E,wk2]
      have aa:Coe ([.var 55 (ladC l),O,J,.var 55 (ladC l),M,M,.row 112 2 [zah 10 F,zah 60 l.wide] false,M,.var 112 (zah 10 F)]++U) false (f 15) (.lst L):=by rw[hL];exact hA.coe (σ:= [.var 55 (ladC l),O,J,.var 55 (ladC l),M,M,.row 112 2 [zah 10 F,zah 60 l.wide] false,M,.var 112 (zah 10 F)]) false
      simp[ladC,zah]at aa
      have aq:parts F b 6≠ []:=λe=>I (by rw[hn,e];rfl)
      have kB:=zxo (G:=G) (parts F b 6) aq (by omega) (λv hv=>(ai v hv).1)
      rw[<-hL]at kB
      refine zx5 kB (.cons (.pure _ (by simp)) (.cons aa .nil)) ?_
      rintro r rfl
      cases hb:(avgN (parts F b 6)).1 with
      |true=>
       rw[hb,if_pos rfl]at d
       simp[numA,hb,c,zai,zak,splice,wk2]
       exact zad 0 (by omega) ⟨by simp[o],by simp[m],by simp[p],by simp[y],by simp[a],.inr ⟨rfl,by simp,l.wide,_,d,by simp[ladC,zah];rfl⟩⟩
      |false=>
       rw[hb,if_neg (by simp)]at d
       have a6:=zxD _ _ hb
       have ar:b/60=t/60:=by rw[P];exact ydd _ (by omega)
       have a7:setR 60 l.wide b (avgN (parts F b 6)).2=setR 60 l.wide t (avgN (parts F b 6)).2:=by unfold setR;rw[ar]
       have ak:=zpr (G:=G) 60 l.wide (zor h) h.r2 b (by omega) (avgN (parts F b 6)).2 a6.2
       rw[a7]at ak
       simp only[zah]at ak
       simp[numA,hb,a,c,D,hM,zai,zak,splice,wk2]
       refine zbu ak (by simp[AV.pure]) ?_
       simp[splice,a,c,wk2]
       exact zad 0 (by omega) ⟨by simp[o],by simp[m],by simp[p],by simp[y],by simp[a],.inr ⟨rfl,by simp,_,_,d,by simp[ladC,zah,hM];rfl⟩⟩
  ·simp[y,a,c,hM,ab,zah,splice,zdW,ad,ladC,zan]
 ·simp[K,m,i,z,ladC]
  refine zam (zrF _ l h) ?_
  rintro r σ ⟨rfl,rfl⟩
  have kS:=zpr (G:=G) 60 l.wide (zor h) h.r2 t (by omega) v hv2
  simp only[zah]at kS
  simp[K,p,i,j,zan,zah,splice]
  refine zbu kS (by simp[AV.pure]) ?_
  simp[splice,wk2,K,i]
  refine zag (λx f σ=>f 6=.ptr 2 0/\f 10=.ptr 7 0/\f 11=.int .i64 2/\∃(A B C:Entry),σ= [A,B,J,C,.var 55 [.int .i64 1,.int .i64 500000,.row 6 2],.var 55 [.int .i64 1,.int .i64 500000,.row 6 2],.row 112 2 [zah 10 l.fine,zah 60 (setR 60 l.wide t v)] false,.var 55 [.int .i64 1,.int .i64 500000,.row 6 2]]) 0 ?_ ?_
  ·exact⟨by simp[y],by simp,by simp,_,_,_,by simp[zah];exact⟨rfl,rfl,rfl⟩⟩
  rintro x g σ ⟨g6,av,aw,A,B,C,rfl⟩
  have d:zc3 l t now v=⟨l.fine,setR 60 l.wide t v⟩:=by unfold zc3;rw[if_neg i]
  simp[g6,av,aw,ab,zah,splice,zdW,d,ladC,zan]
end Go.Proofs.YtdbhocoeolhjhaaGreatDoor
end
section
set_option maxHeartbeats 4000000
namespace Go.Sf
open Go.Abs Go.Num
structure ArrM where
 time:Nat
 value:Int
 now:Nat
structure OkA (a:ArrM):Prop where
 t:a.time≤1000000000
 n:a.now≤1000000000
 le:a.time≤a.now
 ge:a.now≤a.time+79
 v:i64 a.value
def OkV (a:ArrM):Prop:=a.value≠ -9223372036854775808
def arrC (a:ArrM):List AV:= [.int .i64 a.time,.int .i64 a.value,.int .i64 a.now,.int .i64 0]
def zbl (l:List ArrM):List (List AV):=l.map arrC
theorem zcE (l:List ArrM):(zbl l).length=l.length:=by simp[zbl]
theorem zma {l:List ArrM}{i:Nat}{a:ArrM}(h:l[i]? =some a):(zbl l)[i]? =some (arrC a):=by simp[zbl,h]
theorem zhy (l:List ArrM):Els 4 (zbl l):=by
 refine⟨λc a=> ?_,λc a=> ?_,λc a=> ?_⟩<;>obtain⟨n,_,rfl⟩:=yav.1 a<;>simp[arrC,AV.pure,AV.one]
def z8A (l:LadM)(a:ArrM):LadM:=zc3 l a.time a.now a.value
def zba (l:LadM)(as':List ArrM):LadM:=as'.foldl z8A l
theorem zyJ {l:LadM}{a:ArrM}(h:RightL l)(ha:OkA a)(hv:OkV a):RightL (z8A l a):=ztJ h (by have:=ha.t;omega) ha.v hv
theorem zdm {l:LadM}:∀{bs:List ArrM},RightL l->(∀a∈bs,OkA a/\OkV a)->RightL (zba l bs):=λ{bs}=>by
 induction bs generalizing l with
 |nil=>intro h _;exact h
 |cons a bs d=>intro h b;exact d (zyJ h (b a (by simp)).1 (b a (by simp)).2) λx c=>b x (by simp[c])
theorem zgS (l:LadM)(bs:List ArrM)(a:ArrM):zba l (bs++ [a])=z8A (zba l bs) a:=by simp[zba]
end Go.Sf
namespace Go.Proofs.YtdbhocoeolhjhaaGreatDoor
open Go.Abs Go.RowKit Go.Sf Go.Num
variable {G:Globs}
theorem z1K (bs:List ArrM)(hb:∀a∈bs,OkA a/\OkV a)(hl:bs.length≤1000000):PCalls Tryz.prog zlw [.agg schC,.lst (zbl bs)] (λr=>r=.agg (ladC (zba newL bs))):=by
 refine zaa hmix zmf rfl ?_
 have m:=zcE bs
 simp[zgv,schC]
 refine zac z0X (by simp[AV.pure,schC]) ?_
 rintro r rfl
 simp[ladC,splice]
 refine zag (λx f σ=>∃(i:Nat) (j:zab),x=bs.length-i/\i≤bs.length/\f 1=.lst (zbl bs)/\f 4=.ptr 1 0/\f 5=.ptr 2 0/\f 7=.int .i64 i/\σ=.var 52 schC:: .var 55 [.int .i64 0,.int .i64 0,.nils]:: .var 55 (ladC (zba newL (bs.take i)))::j) bs.length ?_ ?_
 ·exact⟨0,[],by simp,by simp,by simp,by simp,by simp,by simp,by simp[schC,ladC,zba]⟩
 rintro x f σ ⟨i,j,w,E,k,y,d,l,rfl⟩
 simp[k,l,m]
 refine zaq (λB=> ?_) (λC=> ?_)
 ·have c:i<bs.length:=by omega
  have o:IntKind.i64.wrap ((i:Int)+1)=((i+1:Nat):Int):=by rw[wrap_i64 (by omega) (by omega)];omega
  obtain⟨a,e⟩:∃a,bs[i]? =some a:=⟨_,yac c⟩
  have z:=zma e
  obtain⟨A,g⟩:=yaa.1 z
  obtain⟨b,h⟩:=hb a (yae e)
  have p:bs.take (i+1)=bs.take i++ [a]:=by rw[yau,e];rfl
  have D:RightL (zba newL (bs.take i)):=zdm zeG λx w=>hb x (yan w)
  have q:=znP (G:=G) _ D a.time a.now a.value b.t b.n b.le b.ge b.v h
  have s:zc3 (zba newL (bs.take i)) a.time a.now a.value=zba newL (bs.take (i+1)):=by rw[p,zgS];rfl
  rw[s]at q
  simp[k,d,l,z,g,arrC,zai,zak,splice,ladC]
  simp only[ladC]at q
  refine zac q (by simp[AV.pure]) ?_
  rintro r rfl
  simp[d,l,zai,zak,splice,ladC,o]
  exact zad (bs.length-(i+1)) (by omega) ⟨i+1,j++ [.var 91 (arrC a),.var 55 (ladC (zba newL (bs.take (i+1))))],rfl,by omega,by simp[k],by simp[y],by simp[d],by simp,by simp[ladC,arrC]⟩
 ·have u:i=bs.length:=by omega
  subst u
  simp[y,d,splice,ladC]
end Go.Proofs.YtdbhocoeolhjhaaGreatDoor
end
section
set_option maxHeartbeats 4000000
namespace Go.Proofs.YtdbhocoeolhjhaaGreatDoor
open Go.Abs Go.RowKit Go.Sf Go.Num
variable {G:Globs}
theorem zvl (t:Nat)(h:t≤1099511627776):PCalls Tryz.prog zue [.int .i64 t] (λr=>r=.bool true):=by
 refine zaa hmix zu1 rfl ?_
 have a:(0:Int)≤t:=by omega
 have b:(t:Int)≤1099511627776:=by omega
 simp[znV,a,b,h]
theorem zly (t:Nat)(h:t≤1099511627776):PCalls Tryz.prog zqG [.int .i64 t] (λr=>r=.bool true):=by
 refine zaa hmix zq4 rfl ?_
 have a:(0:Int)≤t:=by omega
 have b:(t:Int)≤1099511627776:=by omega
 simp[zkg,a,b,h]
theorem zv5 (a b:Nat)(h1:1≤a)(h2:a≤86400)(h3:1≤b)(h4:b≤400):PCalls Tryz.prog zul [.int .i64 a,.int .i64 b] (λr=>r=.bool true):=by
 refine zaa hmix zvE rfl ?_
 have e:(1:Int)≤a:=by omega
 have f:(a:Int)≤86400:=by omega
 have g:(1:Int)≤b:=by omega
 have h:(b:Int)≤400:=by omega
 have c:0<a:=by omega
 have d:0<b:=by omega
 simp[zog,e,f,g,h,h1,h2,h3,h4,c,d]
theorem zp7 (step:Nat)(l:List Slot)(hz:Sized step l)(t:Nat)(ht:t≤1099511627776):PCalls Tryz.prog zvo [.agg (zah step l),.int .i64 t] (λr=>r=.int .i64 (t/step%l.length:Nat)):=by
 refine zaa hmix zu9 rfl ?_
 obtain⟨v,w,o,x⟩:=hz
 have f:=zau l
 have s:(step:Int)≠0:=by omega
 have g:step≠0:=by omega
 have u:(l.length:Int)≠0:=by omega
 have h:l.length≠0:=by omega
 have b:l≠ []:=λe=>by rw[e]at o;simp at o
 have i:t/step≤t:=yc8 _ _
 obtain⟨q,a⟩:∃q,q=t/step:=⟨_,rfl⟩
 obtain⟨p,d⟩:∃p,p=q%l.length:=⟨_,rfl⟩
 rw[<-a]at i
 have j:(t:Int)/(step:Int)=(q:Int):=by rw[a];rfl
 have c:(t:Int).tdiv (step:Int)=(q:Int):=by rw[zt1,a]
 have k:IntKind.i64.wrap (q:Int)=(q:Int):=wrap_i64 (by omega) (by omega)
 have m:(q:Int).tmod (l.length:Int)=(p:Int):=by rw[zbM,d]
 have n:(q:Int)%(l.length:Int)=(p:Int):=by rw[d];rfl
 rw[<-a,<-d]
 simp[zoj,zah,f,s,g,u,h,b,j,c,k,m,n]
theorem zlJ (step:Nat)(l:List Slot)(hz:Sized step l)(h:zdc step l):PCalls Tryz.prog zuU [.agg (zah step l)] (λr=>r=.bool true):=by
 refine zaa hmix ztH rfl ?_
 have e:=zau l
 have t:=hz
 obtain⟨z,A,B,C⟩:=hz
 have J:(step:Int)≠0:=by omega
 have u:step≠0:=by omega
 simp[zn5,zah,e]
 refine zac (zv5 step l.length z A B C) (by simp) ?_
 rintro r rfl
 simp[e]
 refine zag (λx f σ=>∃(i:Nat) (p:zab),x=l.length-i/\i≤l.length/\f 1=.ptr 0 0/\f 13=.lst (zat l)/\f 14=.int .i64 l.length/\f 15=.int .i64 i/\σ=.var 112 (zah step l)::p) l.length ?_ ?_
 ·exact⟨0,[],by simp,by simp,by simp,by simp,by simp[e],by simp,by simp[zah]⟩
 rintro x f σ ⟨i,p,M,O,g,a,d,b,rfl⟩
 simp[d,b]
 refine zaq (λH=> ?_) (λI=> ?_)
 ·have n:i<l.length:=by omega
  have o:IntKind.i64.wrap ((i:Int)+1)=((i+1:Nat):Int):=by rw[wrap_i64 (by omega) (by omega)];omega
  obtain⟨s,y⟩:∃s,l[i]? =some s:=⟨_,yac n⟩
  have q:=zdi y
  obtain⟨D,c⟩:=yaa.1 q
  rcases h i s y with ⟨j,m⟩|⟨k,j,m,E,P,F⟩
  ·simp[g,a,b,zah,q,c,zcP,zai,zak,splice,zi5,j,m,o]
   exact zad (l.length-(i+1)) (by omega) ⟨i+1,p++ [.var 186 (zcP s)],rfl,by omega,by simp[g],by simp[a],by simp[d],by simp,by simp[zah,zcP,j,m]⟩
  ·have K:¬s.1= -1:=by omega
   have v:=zp7 (G:=G) step l t (k*step) m
   have w:k*step/step=k:=ydd _ (by omega)
   rw[w,E]at v
   simp only[zah]at v
   simp[g,a,b,zah,q,c,zcP,zai,zak,splice,zi5,K]
   rw[j]
   refine zac (zvl (k*step) m) (by simp) ?_
   rintro r rfl
   have L:((k*step:Nat):Int).tmod step=0:=by
    rw[yc2 (by omega)];simp
   simp[g,a,b,zah,q,c,zcP,zai,zak,splice,F,L,J,u, -Int.natCast_mul]
   refine zac v (by simp[AV.pure]) ?_
   rintro r rfl
   simp[b,o, -Int.natCast_mul]
   exact zad (l.length-(i+1)) (by omega) ⟨i+1,p++ [.var 186 (zcP s)],rfl,by omega,by simp[g],by simp[a],by simp[d],by simp,by simp[zah,zcP,j]⟩
 ·simp
theorem zme (step:Nat)(l:List Slot)(hz:Sized step l)(h:zdc step l)(t:Nat)(ht:t≤1099511627776):PCalls Tryz.prog zuc [.agg (zah step l),.int .i64 t] (λr=>r=.tup [.int .i64 (t/step*step:Nat),.int .i64 0]):=by
 refine zaa hmix zuG rfl ?_
 simp[zn8,zah]
 refine zac (zvl t ht) (by simp) ?_
 rintro r rfl
 simp
 refine zac (zlJ step l hz h) (by simp[AV.pure,zah]) ?_
 rintro r rfl
 have d:=hz.s1
 have b:(step:Int)≠0:=by omega
 have a:step≠0:=by omega
 have e:=yb7 t step
 have c:IntKind.i64.wrap ((t/step*step:Nat):Int)=((t/step*step:Nat):Int):=wrap_i64 (by omega) (by omega)
 simp[b,a,zbM,zmB,c, -Int.natCast_mul, -Int.natCast_emod]
 rw[ydm,Int.natCast_ediv]
theorem zpI (step:Nat)(l:List Slot)(hz:Sized step l)(h:zdc step l)(t:Nat)(ht:t≤1099511627776)(v:Int)(hv:v≠ -9223372036854775808):PCalls Tryz.prog zz1 [.agg (zah step l),.int .i64 t,.int .i64 v] (λr=>r=.tup [.agg (zah step (setR step l t v)),.int .i64 0]):=by
 refine zaa hmix zzz rfl ?_
 have c:=zau l
 have n:=hz.n1
 have C:=hz.n2
 have z:=yb7 t step
 have o:=zme (G:=G) step l hz h t ht
 have D:=hz.s1
 obtain⟨a,b⟩:∃a,a=t/step*step:=⟨_,rfl⟩
 have A:a/step=t/step:=by rw[b];exact ydd _ (by omega)
 rw[<-b]at o z
 obtain⟨p,e⟩:∃p,p=a/step%l.length:=⟨_,rfl⟩
 have g:p<l.length:=by rw[e];exact ybz _ (by omega)
 simp[zrz,zah]
 refine zac o (by simp[AV.pure,zah]) ?_
 rintro r rfl
 simp[hv]
 refine zam (z3h (zat l) (zcI l) (by omega)) ?_
 rintro r σ (⟨x,rfl,rfl⟩|⟨rfl,rfl⟩)
 ·have:=congrArg List.length x
  rw[c]at this;simp at this;rw[this]at n;simp at n
 obtain⟨s,u⟩:∃s,l[p]? =some s:=⟨l[p]'(by omega),yac (by omega)⟩
 have q:=zdi u
 obtain⟨w,f⟩:=yaa.1 q
 have d:(zat l).set p [.int .i64 (a:Int),.int .i64 v]=zat (setR step l t v):=by
  rw[e,A,setR,<-zrX,b];rfl
 have i:(zat l).length=(zat (setR step l t v)).length:=by rw[zau,zau,zcM]
 simp[zah,splice]
 have k:a/step%l.length=p:=e.symm
 have m:=zp7 (G:=G) step l hz a (by omega)
 rw[k]at m
 simp only[zah]at m
 refine z9q m (.cons (.agg _ [.int .i64 step,.lst (zat l)] rfl (by simp[AV.one]) (λj y B=> ?_)) (.cons (.pure _ (by simp)) .nil)) (by simp) ?_
 ·match j,y with
  |0,_=>exact .pure _ (by simp)
  |1,_=>exact .row 2 _ 186 2 (zat l) false rfl rfl (.inr ⟨rfl,(zcI l).2.1⟩)
 simp[splice,q,f,zcP,c,g,d]
 rw[<-c,i]
 simp[zdW]
theorem z8Q (step:Nat)(l:List Slot)(hz:Sized step l)(h:zdc step l)(t:Nat)(ht:t≤1099511627776):PCalls Tryz.prog zz6 [.agg (zah step l),.int .i64 t] (λr=>r=numA (numO (getR step l t))):=by
 have q:=zau l
 have w:=hz.n1
 have u:=yb7 t step
 have i:=zme (G:=G) step l hz h t ht
 have x:=hz.s1
 obtain⟨a,b⟩:∃a,a=t/step*step:=⟨_,rfl⟩
 have j:a/step=t/step:=by rw[b];exact ydd _ (by omega)
 rw[<-b]at i u
 obtain⟨p,d⟩:∃p,p=a/step%l.length:=⟨_,rfl⟩
 have v:p<l.length:=by rw[d];exact ybz _ (by omega)
 have e:=zp7 (G:=G) step l hz a (by omega)
 rw[<-d]at e
 obtain⟨s,g⟩:∃s,l[p]? =some s:=⟨l[p]'(by omega),yac (by omega)⟩
 have f:=zdi g
 obtain⟨o,c⟩:=yaa.1 f
 have k:getR step l t=if s.1=(a:Int)then some s.2 else none:=by
  unfold getR
  rw[<-j,<-d,g]
  simp only
  rw[j,<-b]
 have m:PCalls Tryz.prog zuf [.agg (zah step l),.int .i64 a] (λr=>r=numA (numO (getR step l t))):=by
  refine zaa hmix zv1 rfl ?_
  simp[znG,zah]
  simp only[zah]at e
  refine zap e (by simp[AV.pure]) (by simp) ?_
  by_cases n:s.1=(a:Int)
  ·simp[f,c,zcP,splice,n,k,numO,numA]
  ·simp[f,c,zcP,splice,n,k,numO,numA]
 refine zaa hmix zzJ rfl ?_
 simp[zrD,zah]
 refine zac i (by simp[AV.pure,zah]) ?_
 rintro r rfl
 simp
 simp only[zah]at m
 refine zac m (by simp[AV.pure]) ?_
 rintro r rfl
 simp[numA,splice]
theorem zm5 (a b:Nat)(h1:1≤a)(h2:a≤86400)(h3:1≤b)(h4:b≤400):PCalls Tryz.prog zmt [.agg [.int .i64 a,.int .i64 b]] (λr=>r=.bool true):=by
 refine zaa hmix zl8 rfl ?_
 have e:(1:Int)≤a:=by omega
 have f:(a:Int)≤86400:=by omega
 have g:(1:Int)≤b:=by omega
 have h:(b:Int)≤400:=by omega
 have c:0<a:=by omega
 have d:0<b:=by omega
 simp[zg4,e,f,g,h,h1,h2,h3,h4,c,d]
theorem zoQ (a b:Nat)(h1:1≤a)(h2:a≤86400)(h3:1≤b)(h4:b≤400):PCalls Tryz.prog zmN [.agg [.int .i64 a,.int .i64 b]] (λr=>r=.int .i64 (a*b:Nat)):=by
 refine zaa hmix zm1 rfl ?_
 have d:a*b≤86400*400:=yej h2 h4
 have c:IntKind.i64.wrap ((a:Int)*b)=((a*b:Nat):Int):=by
  have e:(a:Int)*b=((a*b:Nat):Int):=by rw[ydm]
  rw[e];exact wrap_i64 (by omega) (by omega)
 simp[zh1]
 refine zac (zm5 a b h1 h2 h3 h4) (by simp) ?_
 rintro r rfl
 simp[c]
theorem zx6:PCalls Tryz.prog zld [.agg [.int .i64 10,.int .i64 6],.agg [.int .i64 60,.int .i64 5]] (λr=>r=.bool true):=by
 refine zaa hmix zla rfl ?_
 simp[zfT]
 refine zap (zoQ 60 5 (by omega) (by omega) (by omega) (by omega)) (by simp) (by simp) ?_
 simp
 refine zap (zoQ 10 6 (by omega) (by omega) (by omega) (by omega)) (by simp) (by simp) ?_
 simp[wk6]
theorem zi0:PCalls Tryz.prog zjH [.lst rungsC] (λr=>r=.bool true):=by
 refine zaa hmix zjQ rfl ?_
 simp[zfy,rungsC]
 refine zag (λx f σ=>∃(i:Nat) (g:zab),x=2-i/\i≤2/\f 0=.lst rungsC/\f 13=.lst rungsC/\f 14=.int .i64 2/\f 15=.int .i64 i/\((i=0/\σ= [])∨(0<i/\σ=.var 119 [.int .i64 10,.int .i64 6]::g))) 2 ?_ ?_
 ·exact⟨0,[],by simp,by simp,by simp[rungsC],by simp[rungsC],by simp,by simp,.inl ⟨rfl,by simp⟩⟩
 rintro x f σ ⟨i,g,h,j,d,c,b,a,⟨rfl,rfl⟩|⟨k,rfl⟩⟩
 ·simp[d,c,b,a,rungsC]
  refine zap (zm5 10 6 (by omega) (by omega) (by omega) (by omega)) (by simp) (by simp) ?_
  simp[a,wk1]
  exact zad 1 (by omega) ⟨1,[],rfl,by omega,by simp[d,rungsC],by simp[c,rungsC],by simp[b],by simp,.inr ⟨by omega,by simp⟩⟩
 ·have e:i=1∨i=2:=by omega
  rcases e with rfl|rfl
  ·simp[d,c,b,a,rungsC,zai,zak,splice]
   refine zap (zm5 60 5 (by omega) (by omega) (by omega) (by omega)) (by simp) (by simp) ?_
   simp[d,a,wk0,rungsC,zai,zak]
   refine zap zx6 (by simp) (by simp) ?_
   simp[a,wk2]
   exact zad 0 (by omega) ⟨2,_,rfl,by omega,by simp[d,rungsC],by simp[c,rungsC],by simp[b],by simp,.inr ⟨by omega,rfl⟩⟩
  ·simp[b,a]
theorem zx0:PCalls Tryz.prog zus [.int .i64 1,.int .i64 500000] (λr=>r=.bool true):=by
 refine zaa hmix zvM rfl ?_
 simp[zof]
theorem zsu (step:Nat)(l:List Slot):PCalls Tryz.prog ztd [.agg (zah step l)] (λr=>r=.agg [.int .i64 step,.int .i64 l.length]):=by
 refine zaa hmix ztj rfl ?_
 simp[zlA,zah,splice,zau]
theorem z14 (step:Nat)(l:List Slot)(hz:Sized step l):PCalls Tryz.prog zq1 [.agg (zah step l)] (λr=>r=.int .i64 (step*l.length:Nat)):=by
 refine zaa hmix zqJ rfl ?_
 simp[zkh,zah]
 refine zac (zsu step l) (by simp[AV.pure,zah]) ?_
 rintro r rfl
 simp
 refine zac (zoQ step l.length hz.s1 hz.s2 hz.n1 hz.n2) (by simp) ?_
 rintro r rfl
 simp
theorem zkA (step:Nat)(l:List Slot)(hz:Sized step l)(t now:Nat)(ht:t≤1099511627776)(hn:now≤1099511627776):PCalls Tryz.prog zow [.agg (zah step l),.int .i64 t,.int .i64 now] (λr=>r=.bool (decide (now<t/step*step+step*l.length))):=by
 refine zaa hmix zoq rfl ?_
 have kR:=z14 (G:=G) step l hz
 obtain⟨i,e,j,f⟩:=hz
 have h:(step:Int)≠0:=by omega
 have a:step≠0:=by omega
 have k:step*l.length≤86400*400:=yej e f
 have m:=yb7 t step
 simp[zil,zah,h,a]
 simp only[zah]at kR
 refine zap kR (by simp[AV.pure]) (by simp) ?_
 obtain⟨A,d⟩:∃A,A=t/step*step:=⟨_,rfl⟩
 obtain⟨B,g⟩:∃B,B=step*l.length:=⟨_,rfl⟩
 have b:IntKind.i64.wrap ((t:Int)-(t:Int).tmod step)=(A:Int):=by rw[zbM,zmB,d];exact wrap_i64 (by omega) (by omega)
 have c:IntKind.i64.wrap ((now:Int)-B)=(now:Int)-B:=wrap_i64 (by omega) (by omega)
 rw[<-d,<-g]
 simp[b,c]
 omega
theorem zuZ (l:LadM)(h:RightL l):PCalls Tryz.prog zq7 [.agg (ladC l)] (λr=>r=.bool true):=by
 refine zaa hmix zrj rfl ?_
 simp[zke,ladC,zan]
 refine zac zx0 (by simp) ?_
 rintro r rfl
 simp
 have k:=h.n1
 have m:=h.n2
 refine zag (λx f σ=>∃(i:Nat),x=2-i/\i≤2/\f 1=.ptr 0 0/\f 19=.lst (zan l)/\f 20=.int .i64 2/\f 21=.int .i64 i/\
  ((i=0/\f 3=.nils/\σ= [.var 55 (ladC l)])∨(i=1/\f 3=.row 2 1/\∃e,σ= [.var 55 (ladC l),e,.row 119 2 (rungsC.take 1) true])∨(i=2/\f 3=.row 2 2/\∃e j,σ= [.var 55 (ladC l),e,.row 119 2 rungsC true,j]))) 2 ?_ ?_
 ·exact⟨0,by simp,by simp,by simp,by simp[zan],by simp,by simp,.inl ⟨rfl,by simp,by simp[ladC,zan]⟩⟩
 rintro x f σ ⟨i,n,o,g,c,a,b,⟨rfl,d,rfl⟩|⟨rfl,d,e,rfl⟩|⟨rfl,d,e,j,rfl⟩⟩
 ·simp[g,d,c,a,b,zan,zah]
  refine zac (zlJ 10 l.fine (zq8 h) h.r1) (by simp[AV.pure,zah]) ?_
  rintro r rfl
  simp[d,splice]
  refine zac (zsu 10 l.fine) (by simp[AV.pure,zah]) ?_
  rintro r rfl
  simp[k]
  refine zeX true [[.int .i64 10,.int .i64 6]] (by simp[view]) (by decide) (by simp) (λ_=> .inl (by simp[zfK])) (by simp) (by simp) ?_
  simp[b,wk1]
  exact zad 1 (by omega) ⟨1,rfl,by omega,by simp[g],by simp[c,zan,zah],by simp[a],by simp,.inr (.inl ⟨rfl,by simp,_,by simp[rungsC];rfl⟩)⟩
 ·simp[g,d,c,a,b,zan,zah]
  refine zac (zlJ 60 l.wide (zor h) h.r2) (by simp[AV.pure,zah]) ?_
  rintro r rfl
  simp[d,splice]
  refine zac (zsu 60 l.wide) (by simp[AV.pure,zah]) ?_
  rintro r rfl
  simp[m]
  refine zbm [[.int .i64 10,.int .i64 6]] [[.int .i64 60,.int .i64 5]] true (by simp[rungsC]) (by simp[view]) (by decide) (by simp) (λ_=> .inl (by simp[zfK])) rfl (by simp) (by simp) ?_
  simp[b,wk2]
  exact zad 0 (by omega) ⟨2,rfl,by omega,by simp[g],by simp[c,zan,zah],by simp[a],by simp,.inr (.inr ⟨rfl,by simp,e,_,by simp[rungsC];rfl⟩)⟩
 ·simp[d,a,b]
  refine zx5 zi0 (.cons (.row 2 2 119 2 rungsC true (by simp) rfl (.inl rfl)) .nil) ?_
  rintro r rfl
  simp
end Go.Proofs.YtdbhocoeolhjhaaGreatDoor
end
section
set_option maxHeartbeats 4000000
namespace Go.Proofs.YtdbhocoeolhjhaaGreatDoor
open Go.Abs Go.RowKit Go.Sf Go.Num
variable {G:Globs}
theorem z9U (v:Int)(h:i64 v)(hv:v≠ -9223372036854775808):PCalls Tryz.prog zrN [.int .i64 v] (λr=>r=numA (tell v)):=by
 refine zaa hmix zzV rfl ?_
 have a:¬(v< -9223372036854775807):=by have:=h.1;omega
 have b:tell v=(false,v):=by
  unfold tell most
  rw[if_pos ⟨by have:=h.1;omega,by have:=h.2;omega⟩]
 simp[zro,a,b,numA,splice]
theorem z7P (l:List Int)(hl:l.length≤1000)(hv:∀v∈l,i64 v/\v≠ -9223372036854775808):PCalls Tryz.prog zvO [.lst (zdn l)] (λr=>r=numA (sumF l)):=by
 refine zaa hmix zuH rfl ?_
 have h:=ziz l
 have y:PCalls Tryz.prog zpm [.int .i64 0] (λr=>r=.agg (numC (tell 0))):=by
  have:=z1G (G:=G) 0 (by omega) (by omega)
  exact this
 simp[znR]
 refine zac y (by simp) ?_
 rintro r rfl
 simp[numC,splice]
 refine zag (λx f σ=>∃(i:Nat),x=l.length-i/\i≤l.length/\f 2=.ptr 0 0/\f 3=.ptr 1 0/\f 7=.lst (zdn l)/\f 8=.int .i64 l.length/\f 9=.int .i64 i/\σ= [.var 182 [.bool false,.int .i64 0],.var 182 (numC (sumF (l.take i)))]) l.length ?_ ?_
 ·exact⟨0,by simp,by simp,by simp,by simp,by simp,by simp[h],by simp,by simp[numC,sumF]⟩
 rintro x f σ ⟨i,z,A,n,d,o,p,g,rfl⟩
 simp[p,g]
 refine zaq (λu=> ?_) (λw=> ?_)
 ·have b:i<l.length:=by omega
  have j:IntKind.i64.wrap ((i:Int)+1)=((i+1:Nat):Int):=by rw[wrap_i64 (by omega) (by omega)];omega
  obtain⟨v,a⟩:∃v,l[i]? =some v:=⟨_,yac b⟩
  have q:=zdU a
  obtain⟨t,e⟩:=yaa.1 q
  have c:=hv v (yae a)
  have k:l.take (i+1)=l.take i++ [v]:=by rw[yau,a];rfl
  have qv:PCalls Tryz.prog zrN [.int .i64 v] (λr=>r=.agg (numC (tell v))):=z9U v c.1 c.2
  have s:PCalls Tryz.prog zpy [.agg (numC (sumF (l.take i))),.agg (numC (tell v))] (λr=>r=.agg (numC (sumF (l.take (i+1))))):=by rw[k,zfN];exact z8s _ _ (zdT _) (za9 v)
  simp only[numC]at s qv
  simp[d,o,g,q,e,numC]
  refine zap qv (by simp) (by simp) ?_
  simp
  refine zap s (by simp) (by simp) ?_
  simp[d,g,j,splice]
  exact zad (l.length-(i+1)) (by omega) ⟨i+1,rfl,by omega,by simp[n],by simp[d],by simp[o],by simp[p],by simp,by simp[numC]⟩
 ·have m:i=l.length:=by omega
  subst m
  rw[ya0]
  simp[n,d,numC,numA,splice]
theorem z0M (l:List Int)(h0:l≠ [])(hl:l.length≤1000)(hv:∀v∈l,i64 v/\v≠ -9223372036854775808):PCalls Tryz.prog zrf [.int .i64 1,.lst (zdn l)] (λr=>r=numA (avgN l)):=by
 refine zaa hmix zqX rfl ?_
 have a:=ziz l
 have d:0<l.length:=ycu.2 h0
 have i:¬((l.length:Int)=0):=by omega
 have c:l.length≠0:=by omega
 have b:zdn l≠ []:=λe=>by rw[e]at a;simp at a;omega
 simp[zjW,a,i,c,b,h0]
 have f:=z7P (G:=G) l hl hv
 have g:=z7v (G:=G) (sumF l) (tell (l.length*1000000)) (zdT _) (za9 _)
 have h:=z1G (G:=G) l.length (by omega) (by omega)
 simp only[numA]at f g h
 refine zac f (by simp[AV.pure]) ?_
 rintro r rfl
 simp
 refine zac h (by simp) ?_
 rintro r rfl
 simp
 refine zac g (by simp) ?_
 rintro r rfl
 simp[splice,numA]
 exact⟨rfl,rfl⟩
theorem z0t (l:LadM)(F:List Slot)(hz:Sized 10 F)(h:zdc 10 F)(T0:Nat)(ht:T0≤1000000000):PCalls Tryz.prog zoy [.agg (ladC l),.agg (zah 10 F),.int .i64 T0,.int .i64 60] (λr=>r=numA (if(parts F T0 6).length<3 then(true,0)else avgN (parts F T0 6))):=by
 refine zaa hmix zo2 rfl ?_
 simp[zii,ladC,zah,wk6]
 refine zag (λx f σ=>∃(k:Nat) (j:zab),x=6-k/\k≤6/\f 2=.int .i64 T0/\f 4=.ptr 0 0/\f 5=.ptr 1 0/\f 8=.ptr 2 0/\f 10=.int .i64 6/\f 17=.int .i64 6/\f 18=.int .i64 k/\AccT 2 1 3 j (f 9) (zdn (parts F T0 k))/\
  σ=.var 55 (ladC l):: .var 112 (zah 10 F):: .var 182 [.bool false,.int .i64 0]::j) 6 ?_ ?_
 ·exact⟨0,[],by simp,by simp,by simp,by simp,by simp,by simp,by simp,by simp,by simp,by simp[parts,zdn];exact zjD,by simp[ladC,zah]⟩
 rintro x f σ ⟨k,j,hx,hk,H,C,I,D,g,o,i,J,rfl⟩
 have M:=zpv F T0 k
 have p:=ziz (parts F T0 k)
 simp[o,i]
 refine zaq (λaa=> ?_) (λab=> ?_)
 ·have v:k<6:=by omega
  have O:((zdn (parts F T0 k)).length+1)*8≤140737488355328:=by rw[p];omega
  have Q:(zdn (parts F T0 k)).length+1≤9223372036854775807:=by rw[p];omega
  have y:IntKind.i64.wrap ((k:Int)+1)=((k+1:Nat):Int):=by rw[wrap_i64 (by omega) (by omega)];omega
  have R:IntKind.i64.wrap ((k:Int)*10)=((k*10:Nat):Int):=by rw[wrap_i64 (by omega) (by omega)];omega
  have S:IntKind.i64.wrap ((T0:Int)+((k*10:Nat):Int))=((T0+k*10:Nat):Int):=by rw[wrap_i64 (by omega) (by omega)];omega
  have Y:=z8Q (G:=G) 10 F hz h (T0+k*10) (by omega)
  simp only[zah]at Y
  simp[H,I,i,zah,R,S, -Int.natCast_add, -Int.natCast_mul]
  refine zac Y (by simp[AV.pure]) ?_
  rintro r rfl
  cases hg:getR 10 F (T0+k*10)with
  |none=>
   have q:parts F T0 (k+1)=parts F T0 k:=by simp[parts,hg]
   simp[numO,numA,zai,zak,splice,i,y]
   refine zad (6-(k+1)) (by omega) ⟨k+1,j++ [.var 182 [.bool true,.int .i64 0]],rfl,by omega,by simp[H],by simp[C],by simp[I],by simp[D],by simp[g],by simp[o],by simp, ?_,by simp[zah]⟩
   simp
   rw[q];exact J.more _
  |some w=>
   have q:parts F T0 (k+1)=parts F T0 k++ [w]:=by simp[parts,hg]
   simp[numO,numA,zai,zak,splice]
   refine zpU (σ:= [.var 55 (ladC l),.var 112 (zah 10 F),.var 182 [.bool false,.int .i64 0]]) (τ:=j++ [.var 182 [.bool false,.int .i64 w]]) (J.more _) [.int .i64 w] (by decide) rfl O Q λv' τ' K X _=> ?_
   simp[i,y]
   refine zad (6-(k+1)) (by omega) ⟨k+1,τ',rfl,by omega,by simp[H],by simp[C],by simp[I],by simp[D],by simp[g],by simp[o],by simp, ?_,by simp[zah]⟩
   simp
   rw[q,zr7];exact K
 ·have v:k=6:=by omega
  subst v
  obtain⟨P,W⟩:∃P:zab,P= [.var 55 (ladC l),.var 112 (zah 10 F),.var 182 [.bool false,.int .i64 0]]:=⟨_,rfl⟩
  have T:P.length=3:=by rw[W];rfl
  have z:AccT 2 1 P.length j (f 9) (zdn (parts F T0 6)):=by rw[T];exact J
  have a:view (P++j) (f 9)=some (zdn (parts F T0 6)):=z.view
  have b:Coe (P++j) false (f 9) (.lst (zdn (parts F T0 6))):=z.coe false
  rw[W]at a b
  simp only[ybq,yco]at a b
  have s:=zsW h T0 6
  obtain⟨L,E⟩:∃L,L=zdn (parts F T0 6):=⟨_,rfl⟩
  obtain⟨n,u⟩:∃n,n=(parts F T0 6).length:=⟨_,rfl⟩
  have U:L.length=n:=by rw[E,p,u]
  rw[<-E]at a b
  rw[<-u]at M
  have t:IntKind.i64.wrap ((n:Int)*1000000)=(n:Int)*1000000:=wrap_i64 (by omega) (by omega)
  have m:IntKind.i64.wrap 3000000=3000000:=by decide
  simp[a,U,t]
  rw[<-u]
  by_cases B:n<3
  ·have d:(n:Int)*1000000<3000000:=by omega
   have c:n*1000000<3000000:=by omega
   simp[C,D,g,ladC,t,m,d,c,B,splice,numA]
  ·have d:¬((n:Int)*1000000<3000000):=by omega
   have c:¬(n*1000000<3000000):=by omega
   have A:parts F T0 6≠ []:=λe=>by rw[e]at u;simp at u;omega
   have Z:=z0M (G:=G) (parts F T0 6) A (by omega) s
   rw[<-E]at Z
   simp only[ladC]at b
   simp[C,g,ladC,t,m,d,c]
   refine zx5 Z (.cons (.pure _ (by simp)) (.cons b .nil)) ?_
   rintro r rfl
   simp[D,B,splice,numA]
theorem zoS (step:Nat)(l:List Slot)(hz:Sized step l)(t now:Nat)(v:Int)(ht:t≤1099511627776)(hn:now≤1099511627776):PCalls Tryz.prog zgZ [.agg (zah step l),.rptr [.int .i64 t,.int .i64 v],.rptr [.int .i64 now]] (λr=>r=.bool (decide (now<t/step*step+step*l.length))):=by
 refine zaa hmix zmz rfl ?_
 simp[zhu,zah]
 have k:=zkA (G:=G) step l hz t now ht hn
 simp only[zah]at k
 refine zac k (by simp[AV.pure]) ?_
 rintro r rfl
 simp
end Go.Proofs.YtdbhocoeolhjhaaGreatDoor
end
section
set_option maxHeartbeats 4000000
namespace Go.Proofs.YtdbhocoeolhjhaaGreatDoor
open Go.Abs Go.RowKit Go.Sf Go.Num
variable {G:Globs}
def zxV (t now:Nat)(c:List AV):Bool:=match c with
 | .int _ s::_=>if s=10 then decide (now<t/10*10+60)else decide (now<t/60*60+300)
 |_=>false
theorem zqj (σ:zab)(m k:Nat)(l:LadM):((zan l).mapM λ(c:List AV)=>c.mapM (fz σ m k))=some (zan l):=zeb (zj6 l).2.1 (λc a=>by simp only[zan,ybb,ydy,or_false]at a;rcases a with rfl|rfl<;>simp[zah])
theorem zm4 (l:LadM)(h:RightL l)(t now:Nat)(v:Int)(ht:t≤1000000000)(hn:now≤1000000000)(h1:t≤now)(h2:now≤t+79)(hv:i64 v)(hv2:v≠ -9223372036854775808):PCalls Tryz.prog ziU [.agg (ladC l),.agg [.int .i64 t,.int .i64 v],.int .i64 now] (λr=>r=.tup [.agg (ladC (zc3 l t now v)),.int .i64 0]):=by
 refine zaa hmix zjq rfl ?_
 have k1:¬((now:Int)<t):=by omega
 have Y:¬(now<t):=by omega
 have y:=zkA (G:=G) 10 l.fine (zq8 h) t now (by omega) (by omega)
 have s:=zkA (G:=G) 60 l.wide (zor h) t now (by omega) (by omega)
 have P:now<t/60*60+300:=by
  have:=ycl t 60
  have:=ybz t (show 0<60 by omega)
  omega
 rw[h.n2,decide_eq_true (show now<t/60*60+60*5 from P)]at s
 rw[h.n1]at y
 simp[zfX,ladC]
 refine zac (zly t (by omega)) (by simp) ?_
 rintro r rfl
 simp
 refine zac (zly now (by omega)) (by simp) ?_
 rintro r rfl
 simp[hv2]
 refine zac (zuZ l h) (by simp[AV.pure,ladC]) ?_
 rintro r rfl
 simp[k1,Y]
 have kI:=z4i (G:=G) (zan l) (zj6 l) (by simp[zan]) (zxV t now) zgZ [.rptr [.int .i64 t,.int .i64 v],.rptr [.int .i64 now]] (by simp[AV.pure]) zmK (λc E=>by
  simp only[zan,ybb,ydy,or_false]at E
  rcases E with rfl|rfl
  ·have:=zoS (G:=G) 10 l.fine (zq8 h) t now v (by omega) (by omega)
   rw[h.n1]at this
   exact this
  ·have:=zoS (G:=G) 60 l.wide (zor h) t now v (by omega) (by omega)
   rw[h.n2]at this
   exact this)
 refine z34 kI (.cons (.pure _ (by simp[AV.pure,zan,zah])) (.cons (.fn _ _ _ _ _ rfl rfl (λj h=>by simp at h) (λj h1 h2=> ?_)) .nil)) ?_
 ·match j,h1 with
  |0,_=>
   refine .ptr 1 0 117 [.int .i64 t,.int .i64 v] [.int .i64 t,.int .i64 v] (by simp) rfl (by simp) rfl (λj h h'=> .pure _ ?_) (by simp[AV.one])
   match j,h with
   |0,_=>simp[AV.pure]
   |1,_=>simp[AV.pure]
  |1,_=>
   refine .ptr 2 0 3 [.int .i64 now] [.int .i64 now] (by simp) rfl (by simp) rfl (λj h h'=> .pure _ ?_) (by simp[AV.one])
   match j,h with
   |0,_=>simp[AV.pure]
 rintro r rfl
 refine⟨by simp[rig], ?_⟩
 obtain⟨H,W⟩:∃H:Entry,H=.var 117 [.int .i64 t,.int .i64 v]:=⟨_,rfl⟩
 obtain⟨I,g⟩:∃I:Entry,I=.var 3 [.int .i64 now]:=⟨_,rfl⟩
 obtain⟨J,K⟩:∃J:Entry,J=.var 55 [.int .i64 0,.int .i64 0,.nils]:=⟨_,rfl⟩
 have Q:idxE (zxV t now) (zan l)=((if now<t/10*10+60 then 0 else 1:Nat):Int):=by
  by_cases q:now<t/10*10+60
  ·simp[zan,zah,idxE,zxV,q]
  ·simp[zan,zah,idxE,zxV,q,P]
 rw[Q]
 obtain⟨i,m⟩:∃i:Nat,i=if now<t/10*10+60 then 0 else 1:=⟨_,rfl⟩
 rw[<-m]
 have R:¬((i:Int)<0):=by omega
 simp[R]
 refine zam (z9g (zan l) (zj6 l) (by simp[zan])) ?_
 rintro r σ (⟨h0,rfl,rfl⟩|⟨rfl,rfl⟩)
 ·simp[zan]at h0
 simp
 refine zag (λx f σ=>f 3=.ptr 0 0/\f 4=.ptr 1 0/\f 5=.ptr 2 0/\f 6=.ptr 3 0/\f 8=.int .i64 i/\f 9=.row 4 2/\f 10=.int .i64 t/\
  ((x=2-i/\f 12=.int .i64 i/\f 11=.int .i64 v/\σ= [.var 55 (ladC l),H,I,J,.row 112 2 (zan l) false])∨
   (i=0/\x=1/\f 12=.int .i64 1/\f 11=.int .i64 v/\∃O,σ=.var 55 (ladC l)::H::I::J:: .row 112 2 (zan ⟨setR 10 l.fine t v,l.wide⟩) false::O)∨
   (x=0/\f 12=.int .i64 2/\∃O,σ=.var 55 (ladC l)::H::I::J:: .row 112 2 (zan (zc3 l t now v)) false::O))) (2-i) ?_ ?_
 ·exact⟨by simp,by simp,by simp,by simp,by simp,by simp[zan],by simp,.inl ⟨rfl,by simp,by simp,by simp[W,g,K,ladC]⟩⟩
 rintro x f σ ⟨D,T,C,M,w,k,b,⟨rfl,a,p,rfl⟩|⟨X,rfl,a,p,O,rfl⟩|⟨rfl,a,O,rfl⟩⟩
 ·by_cases q:now<t/10*10+60
  ·rw[if_pos q]at m
   subst m
   rw[decide_eq_true q]at y
   simp[k,a,b,C,g,zan,zah]
   simp only[zah]at y
   refine zap y (by simp[AV.pure]) (by simp) ?_
   have z:=zpI (G:=G) 10 l.fine (zq8 h) h.r1 t (by omega) v hv2
   simp only[zah]at z
   simp[w,k,b,p,a]
   refine zac z (by simp[AV.pure]) ?_
   rintro r rfl
   simp[w,k,a,zah,wk1,splice]
   exact zad 1 (by omega) ⟨by simp[D],by simp[T],by simp[C],by simp[M],by simp[w],by simp[k],by simp[b],.inr (.inl ⟨rfl,rfl,by simp,by simp[p],_,by simp[g,zan,zah];rfl⟩)⟩
  ·rw[if_neg q]at m
   subst m
   have d:zc3 l t now v=⟨l.fine,setR 60 l.wide t v⟩:=by unfold zc3;rw[if_neg q]
   simp[k,a,b,C,g,zan,zah]
   simp only[zah]at s
   refine zap s (by simp[AV.pure]) (by simp) ?_
   have z:=zpI (G:=G) 60 l.wide (zor h) h.r2 t (by omega) v hv2
   simp only[zah]at z
   simp[w,k,b,p,a]
   refine zac z (by simp[AV.pure]) ?_
   rintro r rfl
   simp[w,k,a,zah,wk2,splice]
   exact zad 0 (by omega) ⟨by simp[D],by simp[T],by simp[C],by simp[M],by simp[w],by simp[k],by simp[b],.inr (.inr ⟨rfl,by simp,_,by simp[g,zan,zah,d];rfl⟩)⟩
 ·subst X
  have q:now<t/10*10+60:=by
   refine Classical.byContradiction λq=> ?_
   rw[if_neg q]at m;omega
  obtain⟨F,S⟩:∃F,F=setR 10 l.fine t v:=⟨_,rfl⟩
  have Z:zdc 10 F:=by rw[S];exact zeE h.r1 (by omega) hv hv2
  have aa:Sized 10 F:=by rw[S];exact⟨by omega,by omega,by rw[zcM,h.n1];omega,by rw[zcM,h.n1];omega⟩
  obtain⟨A,B⟩:∃A,A=t/60*60:=⟨_,rfl⟩
  have ag:A≤t:=by rw[B];exact yb7 t 60
  have d:zc3 l t now v=if(zfm F t).1 then⟨F,l.wide⟩else⟨F,setR 60 l.wide t (zfm F t).2⟩:=by
   unfold zc3;rw[if_pos q,<-S]
  have ab:IntKind.i64.wrap ((t:Int)-(t:Int).tmod 60)=(A:Int):=by
   have e:(t:Int).tmod 60=((t%60:Nat):Int):=zbM t 60
   rw[e,zmB,B];exact wrap_i64 (by omega) (by omega)
  have U:=z0t (G:=G) l F aa Z A (by omega)
  have ad:(if(parts F A 6).length<3 then(true,0)else avgN (parts F A 6))=zfm F t:=by unfold zfm;rw[B]
  rw[ad]at U
  rw[<-S]
  obtain⟨n,L⟩:∃n,n=zfm F t:=⟨_,rfl⟩
  rw[<-L]at U d
  simp[k,a,b,C,g,zan,zah]
  simp only[zah]at s
  refine zap s (by simp[AV.pure]) (by simp) ?_
  simp only[zah,ladC,zan,numA]at U
  simp[D,w,k,b,p,a,wk0,ladC,zan,zah,ab]
  refine zap U (by simp[AV.pure]) (by simp) ?_
  by_cases u:n.1=true
  ·rw[if_pos u]at d
   simp[u,a,wk2,splice,zai,zak]
   exact zad 0 (by omega) ⟨by simp[D],by simp[T],by simp[C],by simp[M],by simp[w],by simp[k],by simp[b],.inr (.inr ⟨rfl,by simp,_,by simp[g,ladC,zan,zah,d];rfl⟩)⟩
  ·rw[if_neg u]at d
   have ae:i64 n.2/\n.2≠ -9223372036854775808:=by
    have o:n.1=false:=by simpa using u
    rw[L]at o⊢
    unfold zfm at o⊢
    split
    ·rename_i E;rw[if_pos E]at o;cases o
    ·rename_i E;rw[if_neg E]at o;exact zxD _ _ o
   have z:=zpI (G:=G) 60 l.wide (zor h) h.r2 t (by omega) n.2 ae.2
   simp only[zah]at z
   simp[u,k,b,a,splice,zai,zak]
   refine zac z (by simp[AV.pure]) ?_
   rintro r rfl
   simp[k,a,zah,wk2,splice,zai,zak]
   exact zad 0 (by omega) ⟨by simp[D],by simp[T],by simp[C],by simp[M],by simp[w],by simp[k],by simp[b],.inr (.inr ⟨rfl,by simp,_,by simp[g,ladC,zan,zah,d];rfl⟩)⟩
 ·have af:∀x,(zan x).length=2:=λ_=>rfl
  simp[D,M,k,a,ladC,K,splice,af,zqj]
end Go.Proofs.YtdbhocoeolhjhaaGreatDoor
end
section
namespace Go.Abs
open Go.RowKit Go.Proofs Go.Shelf
variable {G:Globs}
section
variable {P:Program}{ρ:Ren}{σ:zab}
theorem zx7 (L:Lays8.n4 P ρ)(i0:TypeInfo)(z:Value)(hi0:P.info? (ρ.t 25)=some i0)(hz0:i0.zero=some z)(hs0:0<i0.size)(hzs:z.cells.size=i0.size)(im:Bool){n:Nat}(hb:n*i0.bytes≤140737488355328)(h62:n≤4611686018427387904):
  ACalls P (ρ.f 4) [.nils,.int .i64 n] σ (λr σ'=>r=.row σ.length 0/\σ'=σ++ [.row (ρ.t 25) i0.size [] im]):=by
 intro p κ q w s x b
 obtain⟨u,v,rfl,y,b⟩:∃u v,s= [u,v]/\VR κ q w .nils u/\VR κ q w (.int .i64 n) v:=by
  match s,b.1 with
  | [u,v],_=>exact⟨u,v,rfl,b.2 0 (by simp) (by simp),b.2 1 (by simp) (by simp)⟩
 have B:=y.nils_inv
 have C:=b.int_inv
 subst B;subst C
 by_cases D:n=0
 ·subst D
  refine(Any8.slices_Grow_room L none 0 0 0 w (yap _) (by omega) (by omega) (yap _)).mono ?_
  rintro e w' ⟨rfl,rfl⟩
  obtain⟨κ',a,d,g,i⟩:=znn (e:=ρ.t 25) (size:=i0.size) (n:=0) (m:= []) (im:=im) (v:=.slice none 0 0) (w':=w') (xs:= []) x rfl hs0 (by simp) (by simp) ⟨by simp,.inl ⟨rfl,rfl⟩⟩ (λ_ _=>rfl) (yap _) rfl rfl rfl ⟨rfl,λj h=>by simp at h⟩ (λ_=>⟨rfl,λj h=>by simp at h⟩)
  exact⟨_,_,_,κ',a,rfl,⟨rfl,rfl⟩,g,i,d⟩
 ·refine(Any8.slices_Grow_grow L i0 z hi0 hz0 hs0 none 0 0 n [] w (yap _) (by omega) (by simpa using hb) (by omega) (by simp) (λ_=>rfl) (λ_ h=>by cases h)).mono ?_
  rintro e w' ⟨rfl,rfl⟩
  have l:=grownCap_ge w (0+n) 0 (ρ.t 25)
  have o:=grownCap_le_maxLen w (0+n) 0 (ρ.t 25) (by unfold maxLen;omega)
  have c:(w.drew.alloc (.cells (([]:List Value).toArray++Builtin.zeroCells z.cells (0+n-0)++Builtin.zeroCells z.cells (grownCap w (0+n) 0 (ρ.t 25)-(0+n))) (ρ.t 25))).ownsRow w.heap.size (ρ.t 25) i0.size (.slice (some ⟨w.heap.size,0,none⟩) 0 (grownCap w (0+n) 0 (ρ.t 25))) 0 []:=by
   refine⟨by simp,.inr ⟨w.heap.size,_,_,rfl,yap _,heap_alloc_new w.drew _,ydp _,o, ?_,by simp⟩⟩
   simp only[yet,size_zeroCells,yeu,yc6,ybh,hzs,<-ya8]
   rw[ybh]at l;congr 1;omega
  obtain⟨κ',a,d,g,i⟩:=znn (e:=ρ.t 25) (size:=i0.size) (n:=0) (m:= []) (im:=im) (xs:= []) x rfl hs0 (by simp) (by simp) c (λk A=>heap_alloc_old w.drew _ A) (by simp) rfl rfl rfl ⟨rfl,λj h=>by simp at h⟩ (λ_=>⟨rfl,λj h=>by simp at h⟩)
  exact⟨_,_,_,κ',a,rfl,⟨rfl,rfl⟩,g,i,d⟩
end
end Go.Abs
end
section
set_option maxHeartbeats 4000000
namespace Go.Sf
open Go.Abs
theorem zck (a b:Txt):byteEls (a++b)=byteEls a++byteEls b:=by simp[byteEls]
theorem za4 (l:Txt):Els 1 (byteEls l):=by
 refine⟨λc a=> ?_,λc a=> ?_,λc a=> ?_⟩<;>obtain⟨n,_,rfl⟩:=yav.1 a<;>simp[AV.pure,AV.one]
theorem zaj (l:Txt):(byteEls l).length=l.length:=by simp[byteEls]
theorem zeI (σ:zab)(m k:Nat)(l:Txt):((byteEls l).mapM λ(c:List AV)=>c.mapM (fz σ m k))=some (byteEls l):=zeb (za4 l).2.1 (λc a=>by obtain⟨n,_,rfl⟩:=yav.1 a;simp)
end Go.Sf
namespace Go.Proofs.YtdbhocoeolhjhaaGreatDoor
open Go.Abs Go.RowKit Go.Sf
variable {G:Globs}
theorem z4j {σ:zab}{n:Nat}(hn:n≤2000000000):ACalls Tryz.prog zhJ [.nils,.int .i64 n] σ (λr σ'=>r=.row σ.length 0/\σ'=σ++ [.row 5 1 [] true]):=by
 have a:(Tryz.prog.info? (Tryz.laysGB_ren.t 25)).map (λi=>(i.size,i.bytes,i.zero.map λz=>z.cells.size))=some (1,1,some 1):=by kernel_rfl
 obtain⟨c,b,a⟩:=yaf.1 a
 simp only[Prod.mk.injEq]at a
 obtain⟨d,e,a⟩:=a
 obtain⟨z,f,g⟩:=yaf.1 a
 have:=zx7 (G:=G) (σ:=σ) Tryz.laysGB c z b f (by omega) (by omega) true (n:=n) (by rw[e];omega) (by omega)
 rw[d]at this
 exact this
theorem zmS (a b:Txt)(ha:a.length≤1000000000)(hb:b.length≤1000000000):PCalls Tryz.prog zgM [.lst [[.lst (byteEls a)],[.lst (byteEls b)]]] (λr=>r=.lst (byteEls (a++b))):=by
 refine zaa hmix zgH rfl ?_
 have u:=zaj a
 have lb:=zaj b
 simp[zd0]
 refine zag (λn f σ=>∃i:Nat,n=2-i/\i≤2/\f 0=.lst [[.lst (byteEls a)],[.lst (byteEls b)]]/\f 9=.lst [[.lst (byteEls a)],[.lst (byteEls b)]]/\f 10=.int .i64 2/\f 11=.int .i64 i/\f 3=.int .i64 ((if i=0 then 0 else if i=1 then a.length else a.length+b.length:Nat):Int)/\σ= []) 2 ⟨0,rfl,by omega,by simp,by simp,by simp,by simp,by simp,rfl⟩ ?_
 rintro n f σ ⟨i,rfl,t,o,l,e,h,j,rfl⟩
 have k:i=0∨i=1∨i=2:=by omega
 rcases k with rfl|rfl|rfl
 ·have p:IntKind.i64.wrap (a.length:Int)=a.length:=wrap_i64 (by omega) (by omega)
  have q:¬((a.length:Int)<0):=by omega
  simp at j
  simp[l,e,h,j,u,p,q]
  exact zad 1 (by omega) ⟨1,rfl,by omega,by simp[o],by simp[l],by simp[e],by simp[wrap_i64],by simp,rfl⟩
 ·have p:IntKind.i64.wrap ((a.length:Int)+b.length)=(a.length:Int)+b.length:=wrap_i64 (by omega) (by omega)
  have q:¬((a.length:Int)+b.length<0):=by omega
  simp at j
  simp[l,e,h,j,lb,p,q]
  exact zad 0 (by omega) ⟨2,rfl,by omega,by simp[o],by simp[l],by simp[e],by simp[wrap_i64],by simp,rfl⟩
 ·simp at j
  simp[l,e,h,j]
  have s:=z4j (G:=G) (σ:= []) (n:=a.length+b.length) (by omega)
  simp only[Int.natCast_add]at s
  refine zam s ?_
  rintro r σ' ⟨rfl,rfl⟩
  simp[o]
  clear l e h j
  refine zag (λn f σ'=>∃i:Nat,n=2-i/\i≤2/\f 25=.lst [[.lst (byteEls a)],[.lst (byteEls b)]]/\f 26=.int .i64 2/\f 27=.int .i64 i/\f 6=.row 0 (byteEls (if i=0 then []else if i=1 then a else a++b)).length/\σ'= [.row 5 1 (byteEls (if i=0 then []else if i=1 then a else a++b)) true]) 2 ⟨0,rfl,by omega,by simp[o],by simp,by simp,by simp[byteEls],by simp[byteEls]⟩ ?_
  rintro n f σ' ⟨i,rfl,t,c,d,g,m,rfl⟩
  have k:i=0∨i=1∨i=2:=by omega
  rcases k with rfl|rfl|rfl
  ·simp at m
   simp[c,d,g,m]
   refine zbm (byteEls []) (byteEls a) true (by simp) rfl (by omega) (za4 a).1 (λ_=> .inl rfl) rfl (by simp[byteEls];omega) (by simp[byteEls];omega) ?_
   simp[c,d,g]
   refine zad 1 (by omega) ⟨1,rfl,by omega,by simp[c],by simp[d],by simp[wrap_i64], ?_, ?_⟩
   ·simp[byteEls]
   ·simp[byteEls]
  ·simp at m
   simp[c,d,g,m]
   refine zbm (byteEls a) (byteEls b) true (by simp) rfl (by omega) (za4 b).1 (λ_=> .inl rfl) rfl (by simp[byteEls];omega) (by simp[byteEls];omega) ?_
   simp[c,d,g]
   refine zad 0 (by omega) ⟨2,rfl,by omega,by simp[c],by simp[d],by simp[wrap_i64], ?_, ?_⟩
   ·simp[zck]
   ·simp[zck]
  ·simp at m
   simp[c,d,g,m]
end Go.Proofs.YtdbhocoeolhjhaaGreatDoor
end
section
set_option maxHeartbeats 4000000
namespace Go.Sf
open Go.Abs
def stepsT:List Int:= [0x00000000,0x105ec76f,0x20bd8ede,0x30e349b1,0x417b1dbc,0x5125dad3,0x61c69362,0x7198540d,0x82f63b78,0x92a8fc17,0xa24bb5a6,0xb21572c9,0xc38d26c4,0xd3d3e1ab,0xe330a81a,0xf36e6f75]
def stepsC:List AV:=stepsT.map (AV.int .u32)
def x32 (a b:Int):Int:=IntKind.u32.wrap (BitVec.ofInt IntKind.u32.bits a^^^BitVec.ofInt IntKind.u32.bits b).toNat
def a32 (a b:Int):Int:=IntKind.u32.wrap (BitVec.ofInt IntKind.u32.bits a&&&BitVec.ofInt IntKind.u32.bits b).toNat
def crcN (s:Int):Int:=x32 (s.fdiv 16) (stepsT.getD (a32 s 15).toNat 0)
def crcB (s:Int)(x:UInt8):Int:=crcN (crcN (x32 s (IntKind.u32.wrap x.toNat)))
def crcU (s:Int)(b:Txt):Int:=x32 IntKind.u32.max (b.foldl crcB (x32 IntKind.u32.max s))
def shrI (n:Int):Nat->Int
 |0=>n
 |k+1=>(shrI n k).fdiv 256
def lo8 (n:Int):UInt8:=UInt8.ofNat (IntKind.u8.wrap n).toNat
def leB (n:Int):Nat->Txt
 |0=> []
 |k+1=>leB n k++ [lo8 (shrI n k)]
def putB (b:Txt):Txt:=b++leB (crcU 0 b) 4
def zaI (p:Txt):Txt:=putB ([lo8 p.length,lo8 ((p.length:Int).fdiv 256)]++p)
theorem zaC (n:Int):∀k,(leB n k).length=k
 |0=>rfl
 |k+1=>by simp[leB,zaC n k]
theorem zyg (b:Txt):(putB b).length=b.length+4:=by simp[putB,zaC]
theorem zb1 (p:Txt):(zaI p).length=p.length+6:=by simp[zaI,zyg]
theorem zqA (n:Int):0≤IntKind.u8.wrap n/\IntKind.u8.wrap n<256:=by
 simp[IntKind.wrap,IntKind.signed,IntKind.bits];omega
theorem z2K (n:Int):((lo8 n).toNat:Int)=IntKind.u8.wrap n:=by
 have:=zqA n
 simp only[lo8,UInt8.toNat_ofNat']
 omega
theorem z9C (s:Int):0≤a32 s 15/\a32 s 15<16:=by
 have h:(BitVec.ofInt IntKind.u32.bits s&&&BitVec.ofInt IntKind.u32.bits 15).toNat≤15:=by
  rw[BitVec.toNat_and]
  exact Nat.and_le_right
 unfold a32
 obtain⟨x,a⟩:∃x,x=(BitVec.ofInt IntKind.u32.bits s&&&BitVec.ofInt IntKind.u32.bits 15).toNat:=⟨_,rfl⟩
 rw[<-a]at h⊢
 simp[IntKind.wrap,IntKind.signed,IntKind.bits];omega
theorem zr5 {n:Nat}(h:n<16):(stepsC.drop n).take 1= [.int .u32 (stepsT.getD n 0)]:=by
 have:∀n:Fin 16,(stepsT.drop n.1).take 1= [stepsT.getD n.1 0]:=by decide
 unfold stepsC
 rw[<-List.map_drop,<-List.map_take,this ⟨n,h⟩];rfl
theorem z0Z (z:Int):∃n:Nat,n<16/\a32 z 15=n/\crcN z=x32 (z.fdiv 16) (stepsT.getD n 0):=by
 have h:=z9C z
 refine⟨(a32 z 15).toNat,by omega,by omega,rfl⟩
end Go.Sf
namespace Go.Proofs.YtdbhocoeolhjhaaGreatDoor
open Go.Abs Go.RowKit Go.Sf
variable {G:Globs}
theorem z6Z (s:Int):zc9 (.int .u32 s)=some (.int .u32 (x32 IntKind.u32.max s)):=rfl
theorem z3K (a b:Int):zaZ .xor (.int .u32 a) (.int .u32 b)=some (.int .u32 (x32 a b)):=rfl
theorem z6N (a b:Int):zaZ .and (.int .u32 a) (.int .u32 b)=some (.int .u32 (a32 a b)):=rfl
theorem z2p (a:Int):zaZ .shr (.int .u32 a) (.int .u64 4)=some (.int .u32 (a.fdiv 16)):=rfl
theorem z2c (a:Int):zaZ .shr (.int .u32 a) (.int .u64 8)=some (.int .u32 (a.fdiv 256)):=rfl
theorem zyu (a:Int):zaZ .shr (.int .i64 a) (.int .u64 8)=some (.int .i64 (a.fdiv 256)):=rfl
theorem zeH {b:Txt}{i:Nat}{x:UInt8}(h:b[i]? =some x):(byteEls b)[i]? =some [.int .u8 x.toNat]:=by simp[byteEls,h]
attribute [-simp] zaZ zc9 zbQ zax
theorem zvd (hT:Globs.tab.lookup 2=some stepsC)(s:Int)(b:Txt)(hl:b.length≤1000000000):PCalls Tryz.prog zua [.int .u32 s,.lst (byteEls b)] (λr=>r=.int .u32 (crcU s b)):=by
 refine zaa hmix ztG rfl ?_
 have B:=zaj b
 simp[znz,z6Z,B]
 obtain⟨p,q⟩:∃p,p=x32 IntKind.u32.max s:=⟨_,rfl⟩
 rw[<-q]
 refine zag (λx f σ=>∃i:Nat,x=b.length-i/\i≤b.length/\f 5=.int .u32 ((b.take i).foldl crcB p)/\f 10=.lst (byteEls b)/\f 11=.int .i64 b.length/\f 12=.int .i64 i/\σ= []) b.length ?_ ?_
 ·exact⟨0,by simp,by simp,by simp,by simp,by simp,by simp,by simp⟩
 rintro x f σ ⟨i,rfl,M,g,d,e,c,rfl⟩
 simp[e,c]
 refine zaq (λJ=> ?_) (λK=> ?_)
 ·have u:i<b.length:=by omega
  have C:IntKind.i64.wrap ((i:Int)+1)=((i+1:Nat):Int):=by rw[wrap_i64 (by omega) (by omega)];omega
  obtain⟨y,G⟩:∃y,b[i]? =some y:=⟨_,yac u⟩
  have H:=zeH G
  obtain⟨I,v⟩:=yaa.1 H
  have D:b.take (i+1)=b.take i++ [y]:=by rw[yau,G];rfl
  simp[g,d,c,H,v,zbz,z3K]
  obtain⟨l,t⟩:∃l,l=(b.take i).foldl crcB p:=⟨_,rfl⟩
  rw[<-t]
  have L:(b.take (i+1)).foldl crcB p=crcN (crcN (x32 l (IntKind.u32.wrap y.toNat))):=by rw[D,List.foldl_append,<-t];rfl
  refine zag (λx f σ=>∃k:Nat,x=2-k/\k≤2/\f 5=.int .u32 (if k=0 then x32 l (IntKind.u32.wrap y.toNat)else if k=1 then crcN (x32 l (IntKind.u32.wrap y.toNat))else crcN (crcN (x32 l (IntKind.u32.wrap y.toNat))))/\f 10=.lst (byteEls b)/\f 11=.int .i64 b.length/\f 12=.int .i64 i/\f 20=.int .i64 k/\σ= []) 2 ?_ ?_
  ·exact⟨0,by simp,by simp,by simp,by simp[d],by simp[e],by simp[c],by simp,by simp⟩
  clear g d e c
  rintro x f σ ⟨k,rfl,O,g,d,e,c,o,rfl⟩
  have E:k=0∨k=1∨k=2:=by omega
  rcases E with rfl|rfl|rfl
  ·simp at g
   obtain⟨z,w⟩:∃z,z=x32 l (IntKind.u32.wrap y.toNat):=⟨_,rfl⟩
   obtain⟨n,a,A,m⟩:=z0Z z
   have h:n+1≤stepsC.length:=by simp[stepsC,stepsT];omega
   have j:n<stepsC.length:=h
   rw[<-w]at g⊢
   simp[g,o,z2p,z6N,wk1,A,a,zbz,hT,h,j,zr5 a,z3K]
   exact zad 1 (by omega) ⟨1,rfl,by omega,by simp[m],by simp[d],by simp[e],by simp[c],by simp,rfl⟩
  ·simp at g
   obtain⟨z,w⟩:∃z,z=crcN (x32 l (IntKind.u32.wrap y.toNat)):=⟨_,rfl⟩
   obtain⟨n,a,A,m⟩:=z0Z z
   have h:n+1≤stepsC.length:=by simp[stepsC,stepsT];omega
   have j:n<stepsC.length:=h
   rw[<-w]at g⊢
   simp[g,o,z2p,z6N,wk2,A,a,zbz,hT,h,j,zr5 a,z3K]
   exact zad 0 (by omega) ⟨2,rfl,by omega,by simp[m],by simp[d],by simp[e],by simp[c],by simp,rfl⟩
  ·simp at g
   simp[o,c,C]
   exact zad (b.length-(i+1)) (by omega) ⟨i+1,rfl,by omega,by simp[g,L],by simp[d],by simp[e],by simp,rfl⟩
 ·have F:i=b.length:=by omega
  subst F
  rw[ya0]at g
  simp[g,z6Z]
  simp[crcU,q]
end Go.Proofs.YtdbhocoeolhjhaaGreatDoor
end
section
set_option maxHeartbeats 4000000
namespace Go.Abs
variable [Globs]
theorem zqs {σ₀ ext:zab}{R:AV->zab->Prop}{t:Tg R}{res:List (Nat×Option (Bool×Nat))}{f:Frame}{tf:Tg f}(r:AV)(hr:(res.mapM (zfo (σ₀++ext) f)).map za5=some r) (hru:r.under (σ₀++ext).length=true)
  (hu:∀e∈ext,e.under (σ₀++ext).length=true) (hR:R r (σ₀++ext)):er σ₀ R t res f tf (σ₀++ext):=by
 refine zav (σ₀++ext) r hr [] (by simp) (by simp) hru (λi e a=> ?_) hR
 rcases yd2 i σ₀.length with c|b
 ·rw[yam c]at a
  exact .inl a
 ·rw[yak b]at a
  exact .inr (hu e (yae a))
end Go.Abs
namespace Go.Proofs.YtdbhocoeolhjhaaGreatDoor
open Go.Abs Go.RowKit Go.Sf
variable {G:Globs}
attribute [-simp] zaZ zc9 zbQ zax
theorem zys (n:Int):([AV.int .u8 (IntKind.u8.wrap n)]:List AV)= [.int .u8 (lo8 n).toNat]:=by rw[z2K]
theorem zp0 (b:Txt)(n:Int)(k:Nat):byteEls (b++leB n (k+1))=byteEls (b++leB n k)++ [[.int .u8 (IntKind.u8.wrap (shrI n k))]]:=by
 rw[zys,leB,<-ya3,zck];rfl
theorem ztK (hT:Globs.tab.lookup 2=some stepsC)(b:Txt)(hl:b.length≤1000000000):PCalls Tryz.prog z3T [.lst (byteEls b)] (λr=>r=.int .u32 (crcU 0 b)):=by
 refine zaa hmix z2t rfl ?_
 simp[zu5]
 refine zac (zvd hT 0 b hl) (by simp[AV.pure]) ?_
 rintro r rfl
 simp
theorem z5I (b:Txt)(h:b≠ [])(hl:b.length≤1000000000):ACalls Tryz.prog zhQ [.lst (byteEls b)] [] (zfP 5 1 (byteEls b) []):=by
 refine zaf hmix zmr rfl ?_
 have d:=zaj b
 simp[zhF]
 refine zqK λc f=> ?_
 cases c
 ·simp
  refine zbm [] (byteEls b) false (by simp) rfl (by decide) (za4 b).1 (λh=>by cases h) rfl (by omega) (by omega) ?_
  simp
  refine zav [.row 5 1 (byteEls b) false] (.row 0 (byteEls b).length) (by simp[za5]) [] (by simp) (by simp) (by simp[AV.under]) (λi e a=> ?_) (.inr ⟨rfl,rfl⟩)
  refine .inr ?_
  match i,a with
  |0,a=>
   simp only[ybr,yab]at a
   subst a
   exact za3 (za4 b).2.1
  |i+1,a=>simp at a
 ·have g:byteEls b= []:=by
   refine Classical.byContradiction λh=> ?_
   cases f h
  rw[g]at d
  exact absurd (yc0.1 d.symm) h
theorem zpV (b:Txt)(h:b≠ [])(hl:b.length≤1000000000){σ:zab}:ACalls Tryz.prog zhQ [.lst (byteEls b)] σ (λr σ'=>r=.row σ.length b.length/\σ'=σ++ [.row 5 1 (byteEls b) false]):=by
 refine(zc8 (z5I b h hl) (by simp[AV.pure]) (za4 b).2.1).mono ?_
 rintro r σ' (⟨a,_,_⟩|⟨rfl,rfl⟩)
 ·have:=zaj b
  rw[a]at this
  exact absurd (yc0.1 this.symm) h
 ·exact⟨by rw[zaj],rfl⟩
theorem z3o (hT:Globs.tab.lookup 2=some stepsC)(b:Txt)(h:b≠ [])(hl:b.length≤100000000){σ:zab}:ACalls Tryz.prog z3q [.lst (byteEls b)] σ (λr σ'=>r=.row σ.length (putB b).length/\σ'=σ++ [.row 5 1 (byteEls (putB b)) false]):=by
 refine zaf hmix z1p rfl ?_
 simp[zuD]
 refine zam (zpV b h (by omega)) ?_
 rintro r σ' ⟨rfl,rfl⟩
 simp
 refine zac (ztK hT b (by omega)) (by simp[AV.pure]) ?_
 rintro r rfl
 simp
 obtain⟨s,m⟩:∃s,s=crcU 0 b:=⟨_,rfl⟩
 rw[<-m]
 refine zag (λx f σ'=>∃k:Nat,x=4-k/\k≤4/\f 3=.row σ.length (b++leB s k).length/\f 4=.int .u32 (shrI s k)/\f 9=.int .i64 k/\σ'=σ++ [.row 5 1 (byteEls (b++leB s k)) false]) 4 ?_ ?_
 ·exact⟨0,by simp,by simp,by simp[leB],by simp[shrI],by simp,by simp[leB]⟩
 rintro x f σ' ⟨k,rfl,t,d,n,g,rfl⟩
 simp[g]
 have a:(b++leB s k).length=b.length+k:=by simp[zaC]
 have i:=zaj (b++leB s k)
 refine zaq (λp=> ?_) (λq=> ?_)
 ·have c:k<4:=by omega
  have j:IntKind.i64.wrap ((k:Int)+1)=((k+1:Nat):Int):=by rw[wrap_i64 (by omega) (by omega)];omega
  simp[d,n,g,z2c, -List.length_append]
  refine zbm (byteEls (b++leB s k)) [[.int .u8 (IntKind.u8.wrap (shrI s k))]] false (by simp) (by simp[view]) (by decide) (by simp) (λh=>by cases h) (by rw[i]) (by simp[a, -List.length_append];omega) (by simp[a, -List.length_append];omega) ?_
  simp[n,g,z2c,j, -List.length_append]
  refine zad (4-(k+1)) (by omega) ⟨k+1,rfl,by omega, ?_,by simp[shrI],by simp,by simp[zp0]⟩
  simp[leB,zaC]
  omega
 ·have c:k=4:=by omega
  subst c
  have l:b++leB s 4=putB b:=by rw[m];rfl
  rw[l]at d⊢
  simp[d]
  exact zqs (ext:= [.row 5 1 (byteEls (putB b)) false]) (.row σ.length (putB b).length) (by simp[za5,d]) (by simp[AV.under]) (λe o=>by simp only[ybk]at o;subst o;exact za3 (za4 _).2.1) ⟨rfl,rfl⟩
theorem zhH (hT:Globs.tab.lookup 2=some stepsC)(p:Txt)(h:p≠ [])(hl:p.length≤512){σ:zab}:ACalls Tryz.prog zwk [.lst (byteEls p)] σ (λr σ'=>r=.tup [.row σ.length (zaI p).length,.int .i64 0]/\σ'=σ++ [.row 5 1 (byteEls (zaI p)) false]):=by
 refine zaf hmix zvZ rfl ?_
 have a:=zaj p
 have d:0<p.length:=ycu.2 h
 have g:p.length≠0:=by omega
 have i:¬512<p.length:=by omega
 have b:¬(512:Int)<p.length:=by omega
 have f:=zmS (G:=G) [lo8 p.length,lo8 ((p.length:Int).fdiv 256)] p (by simp) (by omega)
 have hb2:byteEls [lo8 p.length,lo8 ((p.length:Int).fdiv 256)]= [[.int .u8 (IntKind.u8.wrap p.length)],[.int .u8 (IntKind.u8.wrap ((p.length:Int).fdiv 256))]]:=by
  rw[zys,zys];rfl
 rw[hb2]at f
 simp[zp1,a,g,i,b,h,zyu]
 refine zac f (by simp[AV.pure]) ?_
 rintro r rfl
 simp
 have j:=z3o (G:=G) hT ([lo8 p.length,lo8 ((p.length:Int).fdiv 256)]++p) (by simp) (by simp;omega) (σ:=σ)
 refine zam j ?_
 rintro r σ' ⟨rfl,rfl⟩
 simp
 exact zqs (ext:= [.row 5 1 (byteEls (zaI p)) false]) (.tup [.row σ.length (zaI p).length,.int .i64 0]) (by simp[za5,zaI]) (by simp[AV.under]) (λe c=>by simp only[ybk]at c;subst c;exact za3 (za4 _).2.1) ⟨rfl,rfl⟩
theorem zbY (R0:Entry)(tl:zab)(b:Txt)(n:Int)(w:Nat)(hw:w≤8)(hl:b.length≤100000000):ACalls Tryz.prog zhR [.ptr 2 0,.int .i64 n,.int .i64 w] (R0:: .row 5 1 (byteEls b) false:: .var 268 [.row 1 b.length]::tl)
  (λr σ'=>r=.tup []/\σ'=R0:: .row 5 1 (byteEls (b++leB n w)) false:: .var 268 [.row 1 (b++leB n w).length]::tl):=by
 refine zaf hmix zig rfl ?_
 simp[zdO]
 refine zag (λx f σ'=>∃k:Nat,x=w-k/\k≤w/\f 0=.ptr 2 0/\f 1=.int .i64 (shrI n k)/\f 6=.int .i64 w/\f 7=.int .i64 k/\σ'=R0:: .row 5 1 (byteEls (b++leB n k)) false:: .var 268 [.row 1 (b++leB n k).length]::tl) w ?_ ?_
 ·exact⟨0,by simp,by simp,by simp,by simp[shrI],by simp,by simp,by simp[leB]⟩
 rintro x f σ' ⟨k,rfl,t,d,o,p,g,rfl⟩
 have c:(b++leB n k).length=b.length+k:=by simp[zaC]
 have j:=zaj (b++leB n k)
 simp[p,g, -List.length_append]
 refine zaq (λq=> ?_) (λs=> ?_)
 ·have l:IntKind.i64.wrap ((k:Int)+1)=((k+1:Nat):Int):=by rw[wrap_i64 (by omega) (by omega)];omega
  simp[d,o,g, -List.length_append]
  refine zbm (byteEls (b++leB n k)) [[.int .u8 (IntKind.u8.wrap (shrI n k))]] false (by simp) (by simp[view]) (by decide) (by simp) (λh=>by cases h) (by rw[j]) (by simp[c, -List.length_append];omega) (by simp[c, -List.length_append];omega) ?_
  simp[d,o,g,zyu,l,splice, -List.length_append]
  refine zad (w-(k+1)) (by omega) ⟨k+1,rfl,by omega,by simp[d],by simp[shrI],by simp[p],by simp, ?_⟩
  rw[zp0]
  simp[leB,zaC]
  omega
 ·have m:k=w:=by omega
  subst m
  simp[-List.length_append]
  refine zav (R0:: .row 5 1 (byteEls (b++leB n k)) false:: .var 268 [.row 1 (b++leB n k).length]::tl) (.tup []) (by simp[za5]) [] (by simp) (by simp) (by simp[AV.under]) (λi e a=> ?_) ⟨rfl,rfl⟩
  match i,a with
  |0,a=>exact .inl a
  |1,a=>
   simp only[ycz,ybr,yab]at a
   subst a
   exact .inr (za3 (za4 _).2.1)
  |2,a=>
   simp only[ycz,ybr,yab]at a
   subst a
   exact .inr (by simp[Entry.under,AV.under])
  |i+3,a=>exact .inl a
end Go.Proofs.YtdbhocoeolhjhaaGreatDoor
end
section
set_option maxHeartbeats 4000000
namespace Go.Sf
open Go.Abs
def zbS (path:Txt):List AV:= [.int .i64 1,.str path,.int .i64 1,.int .i64 500000,.lst rungsC,.int .i64 0,.int .i64 0,.int .i64 0,.int .i64 0]
def zci (X:AV)(t now:Nat)(v:Int):List AV:= [.int .i64 2,.str [],.int .i64 0,.int .i64 0,X,.int .i64 0,.int .i64 t,.int .i64 now,.int .i64 v]
def zdN (X:AV)(r t:Nat)(v:Int):List AV:= [.int .i64 3,.str [],.int .i64 0,.int .i64 0,X,.int .i64 r,.int .i64 t,.int .i64 0,.int .i64 v]
def zuu (X:AV):Prop:=X=.nils∨X=.lst []
def zdf (path:Txt):Txt:= [lo8 1]++leB path.length 2++path++leB 1 1++leB 500000 4++leB 2 1++leB 10 4++leB 6 2++leB 60 4++leB 5 2
def zdw (t now:Nat)(v:Int):Txt:= [lo8 2]++leB t 8++leB now 8++leB v 8
def zgN (r t:Nat)(v:Int):Txt:= [lo8 3]++leB r 1++leB t 8++leB v 8
theorem zcW (p:Txt):(zdf p).length=p.length+21:=by simp[zdf,zaC];omega
theorem zjC (t now:Nat)(v:Int):(zdw t now v).length=25:=by simp[zdw,zaC]
theorem zlX (r t:Nat)(v:Int):(zgN r t v).length=18:=by simp[zgN,zaC]
end Go.Sf
namespace Go.Proofs.YtdbhocoeolhjhaaGreatDoor
open Go.Abs Go.RowKit Go.Sf
variable {G:Globs}
theorem zpk (t:Nat)(h:t≤1099511627776):PCalls Tryz.prog zpo [.int .i64 t] (λr=>r=.bool true):=by
 refine zaa hmix zpM rfl ?_
 have a:(0:Int)≤t:=by omega
 have b:(t:Int)≤1099511627776:=by omega
 simp[ziF,a,b,h]
theorem z0s (X:AV)(hX:zuu X)(t now:Nat)(v:Int):PCalls Tryz.prog zfG [.agg (zci X t now v)] (λr=>r=.bool true):=by
 refine zaa hmix zfO rfl ?_
 rcases hX with rfl|rfl<;>simp[zdD,zci]
theorem zzK (X:AV)(hX:zuu X)(r t:Nat)(v:Int):PCalls Tryz.prog zfG [.agg (zdN X r t v)] (λr=>r=.bool true):=by
 refine zaa hmix zfO rfl ?_
 rcases hX with rfl|rfl<;>simp[zdD,zdN]
theorem z1s:PCalls Tryz.prog zqe [.lst rungsC] (λr=>r=.bool true):=by
 refine zaa hmix zpK rfl ?_
 simp[zjo,rungsC]
 refine zag (λx f σ=>∃(i:Nat) (e:zab),x=2-i/\i≤2/\f 13=.lst rungsC/\f 14=.int .i64 2/\f 15=.int .i64 i/\σ=e) 2 ?_ ?_
 ·exact⟨0,[],by simp,by simp,by simp[rungsC],by simp,by simp,by simp⟩
 rintro x f σ ⟨i,e,g,h,b,a,c,rfl⟩
 have d:i=0∨i=1∨i=2:=by omega
 rcases d with rfl|rfl|rfl
 ·simp[b,a,c,rungsC,wk1,zai,zak,splice]
  exact zad 1 (by omega) ⟨1,_,rfl,by omega,by simp[b,rungsC],by simp[a],by simp,rfl⟩
 ·simp[b,a,c,rungsC,wk2,zai,zak,splice]
  exact zad 0 (by omega) ⟨2,_,rfl,by omega,by simp[b,rungsC],by simp[a],by simp,rfl⟩
 ·simp[a,c]
theorem zru (p:Txt)(h0:p≠ [])(hl:p.length≤100):PCalls Tryz.prog zfZ [.agg (zbS p)] (λr=>r=.bool true):=by
 refine zaa hmix zgi rfl ?_
 have b:(p.length:Int)≤263:=by omega
 have a:p.length≤263:=by omega
 simp[zen,zbS,h0,b,a]
 refine zac z1s (by simp[AV.pure,rungsC]) ?_
 rintro r rfl
 simp
theorem zrZ (X:AV)(hX:zuu X)(t now:Nat)(v:Int)(ht:t≤1099511627776)(hn:now≤1099511627776)(hv:v≠ -9223372036854775808):PCalls Tryz.prog zfZ [.agg (zci X t now v)] (λr=>r=.bool true):=by
 refine zaa hmix zgi rfl ?_
 have a:=z0s (G:=G) X hX t now v
 simp only[zci]at a
 rcases hX with rfl|rfl
 all_goals
  simp[zen,zci]
  refine zac a (by simp[AV.pure]) ?_
  rintro r rfl
  simp
  refine zac (zpk t ht) (by simp) ?_
  rintro r rfl
  simp
  refine zac (zpk now hn) (by simp) ?_
  rintro r rfl
  simp[hv]
theorem zrP (X:AV)(hX:zuu X)(i t:Nat)(v:Int)(hi:i<4)(ht:t≤1099511627776)(hv:v≠ -9223372036854775808):PCalls Tryz.prog zfZ [.agg (zdN X i t v)] (λr=>r=.bool true):=by
 refine zaa hmix zgi rfl ?_
 have a:=zzK (G:=G) X hX i t v
 simp only[zdN]at a
 have b:(0:Int)≤i:=by omega
 have c:(i:Int)<4:=by omega
 rcases hX with rfl|rfl
 all_goals
  simp[zen,zdN]
  refine zac a (by simp[AV.pure]) ?_
  rintro r rfl
  simp[b,c,hi]
  refine zac (zpk t ht) (by simp) ?_
  rintro r rfl
  simp[hv]
theorem z7V (n:Int):([[AV.int .u8 (IntKind.u8.wrap n)]]:List (List AV))=byteEls [lo8 n]:=by rw[zys];rfl
theorem z5V (X:AV)(hX:zuu X)(t now:Nat)(v:Int)(ht:t≤1099511627776)(hn:now≤1099511627776)(hv:v≠ -9223372036854775808)(hv2:i64 v):PCalls Tryz.prog zhG [.agg (zci X t now v)] (λr=>r=.tup [.lst (byteEls (zdw t now v)),.int .i64 0]):=by
 refine zaa hmix zif rfl ?_
 have kR:=zrZ (G:=G) X hX t now v ht hn hv
 have j:IntKind.i64.wrap v=v:=wrap_i64 hv2.1 hv2.2
 simp only[zci]at kR
 rcases hX with rfl|rfl
 all_goals
  simp[zf2,zci]
  refine zac kR (by simp[AV.pure]) ?_
  rintro r rfl
  simp
  rw[z7V]
  refine zam (zbY _ [] [lo8 2] t 8 (by omega) (by simp)) ?_
  rintro r σ' ⟨rfl,rfl⟩
  obtain⟨c,a⟩:∃c,c= [lo8 2]++leB t 8:=⟨_,rfl⟩
  have e:c.length=9:=by rw[a];simp[zaC]
  rw[<-a]
  simp
  refine zam (zbY _ [] c now 8 (by omega) (by omega)) ?_
  rintro r σ' ⟨rfl,rfl⟩
  obtain⟨d,hb2⟩:∃d,d=c++leB now 8:=⟨_,rfl⟩
  have f:d.length=17:=by rw[hb2];simp[zaC,e]
  rw[<-hb2]
  simp
  refine zam (zbY _ [] d v 8 (by omega) (by omega)) ?_
  rintro r σ' ⟨rfl,rfl⟩
  obtain⟨g,b⟩:∃g,g=d++leB v 8:=⟨_,rfl⟩
  have h:g.length=25:=by rw[b];simp[zaC,f]
  rw[<-b]
  simp
  have i:g=zdw t now v:=by rw[b,hb2,a];rfl
  rw[i]
  simp[zeI,zaj]
theorem z6b (X:AV)(hX:zuu X)(i t:Nat)(v:Int)(hi:i<4)(ht:t≤1099511627776)(hv:v≠ -9223372036854775808)(hv2:i64 v):PCalls Tryz.prog zhG [.agg (zdN X i t v)] (λr=>r=.tup [.lst (byteEls (zgN i t v)),.int .i64 0]):=by
 refine zaa hmix zif rfl ?_
 have kR:=zrP (G:=G) X hX i t v hi ht hv
 have k:IntKind.i64.wrap v=v:=wrap_i64 hv2.1 hv2.2
 simp only[zdN]at kR
 rcases hX with rfl|rfl
 all_goals
  simp[zf2,zdN]
  refine zac kR (by simp[AV.pure]) ?_
  rintro r rfl
  simp
  rw[z7V]
  refine zam (zbY _ [] [lo8 3] i 1 (by omega) (by simp)) ?_
  rintro r σ' ⟨rfl,rfl⟩
  obtain⟨c,a⟩:∃c,c= [lo8 3]++leB i 1:=⟨_,rfl⟩
  have e:c.length=2:=by rw[a];simp[zaC]
  rw[<-a]
  simp
  refine zam (zbY _ [] c t 8 (by omega) (by omega)) ?_
  rintro r σ' ⟨rfl,rfl⟩
  obtain⟨d,hb2⟩:∃d,d=c++leB t 8:=⟨_,rfl⟩
  have f:d.length=10:=by rw[hb2];simp[zaC,e]
  rw[<-hb2]
  simp
  refine zam (zbY _ [] d v 8 (by omega) (by omega)) ?_
  rintro r σ' ⟨rfl,rfl⟩
  obtain⟨g,b⟩:∃g,g=d++leB v 8:=⟨_,rfl⟩
  have h:g.length=18:=by rw[b];simp[zaC,f]
  rw[<-b]
  simp
  have j:g=zgN i t v:=by rw[b,hb2,a];rfl
  rw[j]
  simp[zeI,zaj]
theorem zyq (p:Txt)(h0:p≠ [])(hl:p.length≤100):PCalls Tryz.prog zhG [.agg (zbS p)] (λr=>r=.tup [.lst (byteEls (zdf p)),.int .i64 0]):=by
 refine zaa hmix zif rfl ?_
 have kR:=zru (G:=G) p h0 hl
 simp only[zbS]at kR
 simp[zf2,zbS]
 refine zac kR (by simp[AV.pure,rungsC]) ?_
 rintro r rfl
 simp
 rw[z7V]
 refine zam (zbY _ [] [lo8 1] p.length 2 (by omega) (by simp)) ?_
 rintro r σ' ⟨rfl,rfl⟩
 obtain⟨e,g⟩:∃e,e= [lo8 1]++leB p.length 2:=⟨_,rfl⟩
 have B:e.length=3:=by rw[g];simp[zaC]
 rw[<-g]
 simp
 refine z8O (byteEls e) false (by simp) (zaj e) (by omega) ?_
 simp[splice]
 rw[<-zck]
 obtain⟨q,hb2⟩:∃q,q=e++p:=⟨_,rfl⟩
 have C:q.length=p.length+3:=by rw[hb2];simp[B];omega
 have o:e.length+p.length=q.length:=by omega
 rw[<-hb2,o]
 refine zam (zbY _ [] q 1 1 (by omega) (by omega)) ?_
 rintro r σ' ⟨rfl,rfl⟩
 obtain⟨v,h⟩:∃v,v=q++leB 1 1:=⟨_,rfl⟩
 have D:v.length=p.length+4:=by rw[h];simp[zaC,C]
 rw[<-h]
 simp
 refine zam (zbY _ [] v 500000 4 (by omega) (by omega)) ?_
 rintro r σ' ⟨rfl,rfl⟩
 obtain⟨w,j⟩:∃w,w=v++leB 500000 4:=⟨_,rfl⟩
 have F:w.length=p.length+8:=by rw[j];simp[zaC,D]
 rw[<-j]
 simp[rungsC]
 refine zam (zbY _ [] w 2 1 (by omega) (by omega)) ?_
 rintro r σ' ⟨rfl,rfl⟩
 obtain⟨s,hb5⟩:∃s,s=w++leB 2 1:=⟨_,rfl⟩
 have H:s.length=p.length+9:=by rw[hb5];simp[zaC,F]
 rw[<-hb5]
 simp[rungsC]
 obtain⟨y,k⟩:∃y,y=s++leB 10 4:=⟨_,rfl⟩
 obtain⟨t,hb7⟩:∃t,t=y++leB 6 2:=⟨_,rfl⟩
 obtain⟨z,l⟩:∃z,z=t++leB 60 4:=⟨_,rfl⟩
 obtain⟨u,m⟩:∃u,u=z++leB 5 2:=⟨_,rfl⟩
 have I:y.length=p.length+13:=by rw[k];simp[zaC,H]
 have J:t.length=p.length+15:=by rw[hb7];simp[zaC,I]
 have K:z.length=p.length+19:=by rw[l];simp[zaC,J]
 have Q:u.length=p.length+21:=by rw[m];simp[zaC,K]
 have P:u=zdf p:=by rw[m,l,hb7,k,hb5,j,h,hb2,g];rfl
 obtain⟨L,M⟩:∃L:Entry,L=.var 74 (zbS p):=⟨_,rfl⟩
 refine zag (λx f σ=>∃(i:Nat) (b:Txt) (A:zab),x=2-i/\((i=0/\b=s/\A= [])∨(i=1/\b=t/\A.length=1)∨(i=2/\b=u))/\f 4=.ptr 2 0/\f 49=.lst rungsC/\f 50=.int .i64 2/\f 51=.int .i64 i/\σ=L:: .row 5 1 (byteEls b) false:: .var 268 [.row 1 b.length]::A) 2 ?_ ?_
 ·exact⟨0,s,[],by simp,by simp,by simp,by simp[rungsC],by simp,by simp,by simp[M,zbS,rungsC]⟩
 rintro x f σ ⟨i,b,A,S,R,n,d,a,c,rfl⟩
 rcases R with ⟨rfl,rfl,rfl⟩|⟨rfl,rfl,O⟩|⟨rfl,rfl⟩
 ·simp[n,d,a,c,rungsC,splice]
  refine zam (zbY _ _ b 10 4 (by omega) (by omega)) ?_
  rintro r σ' ⟨rfl,rfl⟩
  rw[<-k]
  simp[n]
  refine zam (zbY _ _ y 6 2 (by omega) (by omega)) ?_
  rintro r σ' ⟨rfl,rfl⟩
  rw[<-hb7]
  simp[c,wk1]
  exact zad 1 (by omega) ⟨1,t,_,rfl,.inr (.inl ⟨rfl,rfl,rfl⟩),by simp[n],by simp[d,rungsC],by simp[a],by simp,rfl⟩
 ·obtain⟨E,rfl⟩:∃E,A= [E]:=List.length_eq_one_iff.1 O
  simp[n,d,a,c,rungsC,splice]
  refine zam (zbY _ _ b 60 4 (by omega) (by omega)) ?_
  rintro r σ' ⟨rfl,rfl⟩
  rw[<-l]
  simp[n]
  refine zam (zbY _ _ z 5 2 (by omega) (by omega)) ?_
  rintro r σ' ⟨rfl,rfl⟩
  rw[<-m]
  simp[c,wk2]
  exact zad 0 (by omega) ⟨2,u,_,rfl,.inr (.inr ⟨rfl,rfl⟩),by simp[n],by simp[d,rungsC],by simp[a],by simp,rfl⟩
 ·simp[n,a,c,zeI,zaj,P]
end Go.Proofs.YtdbhocoeolhjhaaGreatDoor
end
