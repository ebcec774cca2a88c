/- Paths of names: the functions. Shelf: slices.DeleteFunc at strings, where more lies behind the row. Shelf: files, Sync. Shelf: Append. Shelf: Sync and -/
import Derived.Test.YtdbhocoeolhjhaaGreatDoorBn1
import Derived.Test.YtdbhocoeolhjhaaGreatDoorBn2
import Derived.Test.YtdbhocoeolhjhaaGreatDoorBn3
import Derived.Test.YtdbhocoeolhjhaaGreatDoorBn4
import Derived.Test.YtdbhocoeolhjhaaGreatDoorBn5
import Derived.Test.YtdbhocoeolhjhaaGreatDoorBn6
set_option linter.unusedSimpArgs false
set_option linter.unusedVariables false
set_option linter.constructorNameAsVariable false
section
namespace Go.Proofs.YtdbhocoeolhjhaaGreatDoor
open Go.Abs Go.Glob Go.Trail
variable {G:Globs}
theorem z5M (s:List UInt8)(hs:s.length≤9223372036854775807):PCalls Tryz.prog ztD [.str s] (λr=>r=.bool (s.all nb&& !s.isEmpty)):=by
 refine zaa hmix zuj rfl ?_
 simp[znO]
 refine zyH (λn f σ=>∃i:Nat,n=s.length-i/\i≤s.length/\f 0=.str s/\f 5=.int .i64 s.length/\f 6=.int .i64 i/\(s.take i).all nb=true/\σ= []) s.length ⟨0,by simp⟩ ?_
 rintro n f σ ⟨i,rfl,o,g,k,j,a,rfl⟩
 simp[k,j]
 refine zaq (λl=> ?_) (λm=> ?_)
 ·have b:i<s.length:=by omega
  simp[g,j,yac b]
  refine zac (z7n _) (by simp) ?_
  rintro r rfl
  simp
  refine zxH (λd=> ?_) (λd=> ?_)
  ·simp
   intro h
   have:=h _ (yaw b)
   simp[this]at d
  ·simp[g,k,j]
   refine⟨_, ?_,i+1,rfl,by omega,by rw[wrap_i64 (by omega) (by omega)];simp, ?_⟩
   ·omega
   ·simp only[Bool.not_eq_eq_eq_not,Bool.not_false]at d
    intro x c
    rw[yau,yac b]at c
    simp only[yd5,yag,ybk]at c
    rcases c with c|rfl
    ·simpa using ya1.1 a x c
    ·exact d
 ·have e:s.take i=s:=yao (by omega)
  rw[e]at a
  simp[g,a]
  cases s<;>simp
theorem z7t (s:List UInt8)(hs:s.length≤9223372036854775807):PCalls Tryz.prog zxs [.str s] (λr=>r=.bool (zvQ s)):=by
 refine zaa hmix zx3 rfl ?_
 simp[zqn]
 by_cases h:s.length≤32
 ·have a:(s.length:Int)≤32:=by omega
  simp[h,a]
  refine zac (z5M s hs) (by simp) ?_
  rintro r rfl
  simp[zvQ,h,a]
 ·have a:¬(s.length:Int)≤32:=by omega
  simp[h,a,zvQ]
theorem z4o (s:List UInt8):PCalls Tryz.prog 304 [.str s,.str [46]] (λr=>r=.int .i64 (Lib.indexByte s 46)):=by
 intro g κ k w h l c
 obtain⟨d,f,rfl⟩:∃d f,h= [d,f]:=by
  match h,c.1 with
  | [a,b],_=>exact⟨a,b,rfl⟩
 have i:=(c.2 0 (by simp) (by simp)).str_inv
 have j:=(c.2 1 (by simp) (by simp)).str_inv
 simp only[yb5,ydi]at i j
 subst i;subst j
 refine(Tryz.strings_Index_one ⟨s.toArray⟩ 46 w).mono ?_
 rintro e m ⟨rfl,rfl⟩
 exact⟨_,[],_,κ,k,rfl,⟨rfl,rfl⟩,l,Grow.refl _ _ _ _,.im _ _ (.int .i64 (Lib.indexByte s 46))⟩
theorem zth (a b:List (List UInt8)):zaR (a++b)=zaR a++zaR b:=by simp[zaR]
theorem znY (σ:zab)(l:List (List UInt8)):((zaR l).mapM λ(c:List AV)=>c.mapM (zeZ σ))=some (zaR l):=by
 induction l with
 |nil=>rfl
 |cons a l b=>
  simp only[zaR,yci]at b⊢
  rw[yce,b]
  simp[zeZ]
theorem zw3 (s:List UInt8)(hs:s.length≤1000000000000000000):PCalls Tryz.prog zlC [.str s,.str [46],.int .i64 0,.int .i64 9] (λr=>r=.lst (zaR (cutN 8 s))):=by
 refine zaa hmix zmv rfl ?_
 have J:IntKind.i64.wrap ((s.length:Int)+1)=(s.length:Int)+1:=wrap_i64 (by omega) (by omega)
 simp[zg7,J]
 obtain⟨N,hN,W,X⟩:∃N:Nat,N+1=min 9 (s.length+1)/\N≤8/\N≤s.length:=⟨min 8 s.length,by omega,by omega,by omega⟩
 have B:(if(s.length:Int)+1<9 then(s.length:Int)+1 else 9)=((N+1:Nat):Int):=by split<;>omega
 simp only[B]
 refine zsL (N+1) rfl rfl (by omega) (by omega) (by omega) rfl ?_
 have C:IntKind.i64.wrap (((N+1:Nat):Int)-1)=N:=by rw[wrap_i64 (by omega) (by omega)];omega
 have K:IntKind.i64.wrap (N:Int)=N:=wrap_i64 (by omega) (by omega)
 simp[C]
 have y:∀k,cutN k []= [[]]:=λk=>by cases k<;>simp[cutN,Lib.indexByte]
 refine zag (λx f σ=>∃(i:Nat) (done:List (List UInt8)) (a:List UInt8),x=N-i/\i≤N/\done.length=i/\f 0=.str a/\f 1=.str [46]/\f 2=.int .i64 0/\f 3=.int .i64 N/\f 9=.row 0 (N+1)/\f 10=.int .i64 i/\i+a.length≤s.length/\
  cutN 8 s=done++cutN (8-i) a/\σ= [.row 9 1 (zaR (done++List.replicate (N+1-i) [])) false]) N ?_ ?_
 ·exact⟨0,[],s,rfl,by omega,rfl,by simp,by simp,by simp,by simp[B,C,K],by simp,by simp,by omega,by simp,by simp[zaR]⟩
 rintro x f σ ⟨i,done,a,rfl,hi,t,u,H,v,S,w,b,Z,j,rfl⟩
 have l:IntKind.i64.wrap ((i:Int)+1)=(i:Int)+1:=wrap_i64 (by omega) (by omega)
 have d:(zaR (done++List.replicate (N+1-i) [])).length=N+1:=by simp[zaR];omega
 have g:(zaR (done++a::List.replicate (N-i) [])).length=N+1:=by simp[zaR];omega
 have z:i<N+1:=by omega
 have L:∀x:List UInt8,(zaR (done++List.replicate (N+1-i) [])).set i [.str x]=zaR (done++x::List.replicate (N-i) []):=λx=>by
  have e:N+1-i=(N-i)+1:=by omega
  rw[e,ydj]
  simp only[zaR,ycw,yci]
  rw[ybl _ _ (by simp;omega)]
  simp[t]
 have h:(zaR (done++List.replicate (N+1-i) []))[i]? =some [.str []]:=by
  have e:N+1-i=(N-i)+1:=by omega
  rw[e,ydj]
  simp only[zaR,ycw,yci]
  rw[yak (by simp;omega)]
  simp[t]
 obtain⟨Y,q⟩:=yaa.1 h
 have D:(0:Int)≤(i:Int)+1:=by omega
 have E:i+1≤N+1:=by omega
 have n:∀c∈zaR (done++a::List.replicate (N-i) []),c.length=1:=λc T=>by
  simp only[zaR,yav]at T
  obtain⟨x,_,rfl⟩:=T;rfl
 have o:List.take (i+1) (zaR (done++a::List.replicate (N-i) []))=zaR (done++ [a]):=by
  have e:zaR (done++a::List.replicate (N-i) [])=zaR (done++ [a])++zaR (List.replicate (N-i) []):=by rw[<-zth];simp
  rw[e,ycq (by simp[zaR];omega),yao (by simp[zaR];omega)]
 simp[S,b]
 refine zaq (λaa=> ?_) (λab=> ?_)
 ·have U:i<N:=by omega
  simp[u,H]
  refine zac (z4o a) (by simp) ?_
  rintro r rfl
  simp
  rcases zlu a with ⟨A,g2⟩|⟨m,A,g2,g3⟩
  ·have p:cutN 8 s=done++ [a]:=by
    rw[j]
    obtain⟨k,I⟩:∃k,8-i=k+1:=⟨7-i,by omega⟩
    rw[I];simp[cutN,A]
   simp[A]
   simp[u,v,w,b,d,z,h,q,L,l]
   refine z6T (σ':= [.row 9 1 (zaR (done++a::List.replicate (N-i) [])) true]) ⟨0,9,1,zaR (done++a::List.replicate (N-i) []),_,rfl,znY _ _,rfl⟩ ?_
   simp[u,v,w,b,g,l,n,D,E]
   rw[p,o]
  ·have M:¬((m:Int)<0):=by omega
   have O:IntKind.i64.wrap (m:Int)=m:=wrap_i64 (by omega) (by omega)
   have F:IntKind.i64.wrap ((m:Int)+1)=(m:Int)+1:=wrap_i64 (by omega) (by omega)
   have P:m≤a.length:=by omega
   have G:m+1≤a.length:=by omega
   have Q:(0:Int)≤(m:Int)+1:=by omega
   simp[A,M]
   refine z3d ?_
   simp[u,H,v,w,b,d,z,h,q,L,O,P]
   refine z3d ?_
   simp[u,H,v,w,b,F,Q,G,l]
   refine zad (N-(i+1)) (by omega) ⟨i+1,done++ [a.take m],a.drop (m+1),rfl,by omega,by simp[t],by simp,by simp[H],by simp[v],by simp[S],by simp[w],by simp,by simp;omega, ?_, ?_⟩
   ·rw[j]
    obtain⟨k,I⟩:∃k,8-i=k+1:=⟨7-i,by omega⟩
    have R:¬((m:Int)= -1):=by omega
    rw[I,show 8-(i+1)=k by omega]
    simp[cutN,A,R]
   ·have e:N+1-(i+1)=N-i:=by omega
    simp[e]
 ·have p:cutN 8 s=done++ [a]:=by
   have ei:i=N:=by omega
   subst ei
   rw[j]
   by_cases h8:i=8
   ·rw[h8];rfl
   ·have:a= []:=yal (by omega)
    rw[this,y]
  simp[u,v,w,b,d,z,h,q,L,l]
  refine z6T (σ':= [.row 9 1 (zaR (done++a::List.replicate (N-i) [])) true]) ⟨0,9,1,zaR (done++a::List.replicate (N-i) []),_,rfl,znY _ _,rfl⟩ ?_
  simp[u,v,w,b,g,l,n,D,E]
  rw[p,o]
theorem z0L (s:List UInt8)(hs:s.length≤1000000000000000000):PCalls Tryz.prog zom [.str s,.str [46],.int .i64 9] (λr=>r=.lst (zaR (cutN 8 s))):=by
 refine zaa hmix zov rfl ?_
 simp[zio]
 refine zac (zw3 s hs) (by simp) ?_
 rintro r rfl
 simp
theorem z7c (s:List UInt8):(cutN 8 s).length≤8↔(sp s).length≤8:=by
 constructor
 ·intro h
  refine yed λa=> ?_
  have:=zud 8 s (by omega)
  omega
 ·intro h
  rw[zwU 8 s (by omega)];exact h
theorem zAz (s:List UInt8)(hs:s.length≤1000000000000000000):PCalls Tryz.prog zvP [.str s] (λr=>r=.tup [.lst (zaR (cutN 8 s)),.bool (decide ((cutN 8 s).length≤8))]):=by
 refine zaa hmix zxd rfl ?_
 simp[zpG]
 refine zac (z0L s hs) (by simp) ?_
 rintro r rfl
 have e:(zaR (cutN 8 s)).length=(cutN 8 s).length:=by simp[zaR]
 simp[e]
 all_goals try exact⟨λh=>by omega,λh=>by omega⟩
def ztY (x:Option (List (List UInt8)))(e:Nat):AV:=match x with
 |some l=> .tup [.lst (zaR l),.int .i64 0]
 |none=> .tup [.lst [],.int .i64 e]
theorem zr1:∀(s:List UInt8),∀p∈sp s,p.length≤s.length
 | [],p,h=>by simp[sp]at h;simp[h]
 |c::s,p,h=>by
  have a:=zr1 s
  by_cases b:c=46
  ·subst b
   simp only[sp,if_true,ybb]at h
   rcases h with rfl|h
   ·simp
   ·have:=a p h;simp;omega
  ·obtain⟨q,f,d,e⟩:=z0W b s
   rw[e]at h
   rw[d]at a
   rcases ybb.1 h with rfl|h
   ·have:=a q (by simp);simp;omega
   ·have:=a p (by simp[h]);simp;omega
theorem z4J (s:List UInt8)(hs:s.length≤1000000000000000000):PCalls Tryz.prog ztl [.str s] (λr=>r=ztY (path s) 13):=by
 refine zaa hmix ztq rfl ?_
 simp[zlj]
 refine zac (zAz s hs) (by simp) ?_
 rintro r rfl
 by_cases n:(sp s).length≤8
 ·have d:=(z7c s).2 n
  have C:=zwU 8 s (by omega)
  rw[C]at d⊢
  have e:(zaR (sp s)).length=(sp s).length:=by simp[zaR]
  simp[n,e]
  have u:=zr1 s
  have q:path s=if(sp s).all zvQ=true then some (sp s)else none:=by unfold path;simp[n]
  generalize E:sp s=L at*
  refine zyH (λx f σ=>∃i:Nat,x=L.length-i/\i≤L.length/\f 4=.lst (zaR L)/\f 15=.lst (zaR L)/\f 16=.int .i64 L.length/\f 17=.int .i64 i/\(L.take i).all zvQ=true/\σ= []) L.length ⟨0,by simp⟩ ?_
  rintro x f σ ⟨i,rfl,D,w,g,j,c,a,rfl⟩
  simp[j,c]
  refine zaq (λA=> ?_) (λB=> ?_)
  ·have l:i<L.length:=by omega
   obtain⟨p,b⟩:∃p,L[i]? =some p:=⟨_,yac l⟩
   have y:p∈L:=yae b
   have m:(zaR L)[i]? =some [.str p]:=by simp[zaR,b]
   obtain⟨z,t⟩:=yaa.1 m
   simp[g,c,m,t]
   refine zac (z7t p (by have:=u p y;omega)) (by simp) ?_
   rintro r rfl
   simp
   refine zxH (λo=> ?_) (λo=> ?_)
   ·have v:¬L.all zvQ=true:=λh=>by
     have:=ya1.1 h p y
     simp[this]at o
    simp[q,v,ztY]
   ·simp[w,g,j,c]
    refine⟨_, ?_,i+1,rfl,by omega,by rw[wrap_i64 (by omega) (by omega)];simp, ?_⟩
    ·omega
    ·simp only[Bool.not_eq_eq_eq_not,Bool.not_false]at o
     intro x k
     rw[yau,b]at k
     simp only[yd5,yag,ybk]at k
     rcases k with k|rfl
     ·exact ya1.1 a x k
     ·exact o
  ·have e:L.take i=L:=yao (by omega)
   rw[e]at a
   simp[w,q,a,ztY]
 ·have d:¬(cutN 8 s).length≤8:=λh=>n ((z7c s).1 h)
  have q:path s=none:=by unfold path;simp[n]
  simp[d,q,ztY]
theorem z5d (s:List UInt8)(hs:s.length≤1000000000000000000):PCalls Tryz.prog zlP [.str s] (λr=>r=.bool (path s).isSome):=by
 refine zaa hmix zto rfl ?_
 simp[zlO]
 refine zac (z4J s hs) (by simp) ?_
 rintro r rfl
 cases path s<;>simp[ztY]
end Go.Proofs.YtdbhocoeolhjhaaGreatDoor
end
section
set_option maxHeartbeats 4000000
namespace Go.Abs
def z7B [Globs](P:Program)(Q:zab->Prop)(g:FuncId)(capt:List AV)(V:List AV->AV)(p:List AV->Bool)(els:List (List AV)):Prop:=∀c∈els,∀(σ:zab) (K:AV->zab->Prop),Q σ->K (.bool (p c)) σ->zsR P σ K g (V c::capt)
theorem zyi [Globs]{P:Program}{Q:zab->Prop}{σ:zab}{g:FuncId}{capt:List AV}{V:List AV->AV}{p:List AV->Bool}{els:List (List AV)}(hb:zaE P g=true)(h:z7B P Q g capt V p els)(hq:Q σ){c:List AV}(hc:c∈els){K:AV->zab->Prop}{t:Tg K}(hK:K (.bool (p c)) σ):
  cv P K t σ (.fn (.func g) [] capt) [V c]:=⟨hb,by simpa using h c hc σ K hq hK⟩
end Go.Abs
namespace Go.Proofs.YtdbhocoeolhjhaaGreatDoor
open Go.Abs Go.RowKit Go.Sf
variable {G:Globs}
theorem z5o (pre:zab)(els:List (List AV))(he:Els 1 els)(hl:els.length≤1000000000)(p:List AV->Bool)(g:Nat)(capt:List AV)(hb:zaE Tryz.prog g=true)(post:zab)(Q:zab->Prop)(hQ:∀Y tl,Q (pre++ .row 9 1 Y false::(post++tl)))(hg:z7B Tryz.prog Q g capt (λc=>c.headD .junk) p els):
  ACalls Tryz.prog ze3 [.row pre.length els.length,.fn (.func g) [] capt] (pre++ .row 9 1 els false::post) (λr σ'=>r=.int .i64 (idxE p els)/\σ'=pre++ .row 9 1 els false::post):=by
 refine zaf hmix zex rfl ?_
 simp[zco]
 refine zag (λx f σ=>∃(i:Nat),x=els.length-i/\i≤els.length/\f 0=.row pre.length els.length/\f 1=.fn (.func g) [] capt/\f 7=.int .i64 els.length/\f 8=.int .i64 i/\(∀m∈els.take i,p m=false)/\σ=pre++ .row 9 1 els false::post) els.length ?_ ?_
 ·exact⟨0,by simp,by simp,by simp,by simp,by simp,by simp,by simp,by simp⟩
 rintro x f σ ⟨i,B,C,t,u,v,o,a,rfl⟩
 simp[v,o]
 refine zaq (λz=> ?_) (λA=> ?_)
 ·have b:i<els.length:=by omega
  have q:IntKind.i64.wrap ((i:Int)+1)=((i+1:Nat):Int):=by rw[wrap_i64 (by omega) (by omega)];omega
  obtain⟨c,d⟩:∃c,els[i]? =some c:=⟨_,yac b⟩
  obtain⟨y,l⟩:=yaa.1 d
  have j:=yae d
  have k:=he.1 c j
  obtain⟨n,rfl⟩:∃n,c= [n]:=List.length_eq_one_iff.1 k
  simp[t,u,o,d,l,k,b,yao]
  refine zyi hb hg (by simpa using hQ els []) j ?_
  cases w:p [n]with
  |true=>
   have:=ziQ d w a
   simp
   refine zav (pre++ .row 9 1 els false::post) (.int .i64 (idxE p els)) (by simp[za5,this]) [] (by simp) (by simp) (by simp[AV.under]) (λi e he=> .inl he) ⟨rfl,rfl⟩
  |false=>
   simp[o,q]
   refine zad (els.length-(i+1)) (by omega) ⟨i+1,rfl,by omega,by simp[t],by simp[u],by simp[v],by simp,λm h=> ?_,rfl⟩
   rw[yau,d]at h
   simp only[yd5,yag,ybk]at h
   rcases h with h|rfl
   ·exact a m h
   ·exact w
 ·have s:i=els.length:=by omega
  rw[s,ya0]at a
  have:=ziX a
  simp
  refine zav (pre++ .row 9 1 els false::post) (.int .i64 (idxE p els)) (by simp[za5,this]) [] (by simp) (by simp) (by simp[AV.under]) (λi e he=> .inl he) ⟨rfl,rfl⟩
theorem z8o (pre:zab)(els:List (List AV))(he:Els 1 els)(hl:els.length≤1000000000)(p:List AV->Bool)(g:Nat)(capt:List AV)(hb:zaE Tryz.prog g=true)(post:zab)(Q:zab->Prop)(hQ:∀Y tl,Q (pre++ .row 9 1 Y false::(post++tl)))(hg:z7B Tryz.prog Q g capt (λc=>c.headD .junk) p els):
  ACalls Tryz.prog zdV [.row pre.length els.length,.fn (.func g) [] capt] (pre++ .row 9 1 els false::post)
   (λr σ'=>∃X:List (List AV),σ'=pre++ .row 9 1 X false::post/\X.length=els.length/\Els 1 X/\((r=.row pre.length els.length/\X=els.filter λn=> !p n)∨(r=.sub pre.length els.length 1 0 (els.filter λn=> !p n).length/\X.take (els.filter λn=> !p n).length=els.filter λn=> !p n))):=by
 refine zaf hmix zem rfl ?_
 simp[zbV]
 refine zam (z5o pre els he hl p g capt hb post Q hQ hg) ?_
 rintro r σ ⟨rfl,rfl⟩
 rcases zhb p els with ⟨aj,S⟩|⟨k,n,hk,ak,y,T⟩
 ·have hf:(els.filter λn=> !p n)=els:=ydw.2 λn hn=>by simp[S n hn]
  rw[hf]
  simp[aj]
  refine zav (pre++ .row 9 1 els false::post) (.row pre.length els.length) (by simp[za5]) [] (by simp) (by simp) (by simp[AV.under]) (λi e he=> .inl he) ⟨els,rfl,rfl,he,.inl ⟨rfl,rfl⟩⟩
 ·have U:k<els.length:=(yaa.1 hk).1
  have W:0<els.length:=by omega
  have al:¬((k:Int)= -1):=by omega
  have am:IntKind.i64.wrap ((k:Int)+1)=((k+1:Nat):Int):=by rw[wrap_i64 (by omega) (by omega)];omega
  simp[T,al,am]
  have an:((els.take k).filter λn=> !p n)=els.take k:=ydw.2 λn hn=>by simp[y n hn]
  refine zag (λx f σ=>∃(j:Nat) (a:List (List AV)) (tl:zab),x=els.length-j/\j≤els.length/\f 0=.row pre.length els.length/\f 1=.fn (.func g) [] capt/\f 5=.int .i64 ((els.take j).filter λn=> !p n).length/\f 6=.int .i64 j/\((els.take j).filter λn=> !p n).length+a.length=j/\Els 1 a/\
   σ=pre++ .row 9 1 (((els.take j).filter λn=> !p n)++(a++els.drop j)) false::(post++tl)) (els.length-(k+1)) ?_ ?_
  ·have Z:els.take (k+1)=els.take k++ [n]:=by rw[yau,hk];rfl
   have b:((els.take (k+1)).filter λn=> !p n)=els.take k:=by
    rw[Z,yc5,an];simp[ak]
   have K:=yae hk
   refine⟨k+1,[n],[],by omega,by omega,by simp,by simp, ?_,by simp, ?_,⟨(λc q=>by simp at q;subst q;exact he.1 _ K),(λc q=>by simp at q;subst q;exact he.2.1 _ K),(λc q=>by simp at q;subst q;exact he.2.2 _ K)⟩, ?_⟩
   ·rw[b];simp[T,yb0 (yd4 U)]
   ·rw[b];simp[yb0 (yd4 U)]
   ·rw[b]
    have:els.take k++([n]++els.drop (k+1))=els:=by
     rw[<-ya3,<-Z,yba]
    rw[this]
    simp
  rintro x f σ ⟨j,a,tl,hx,hj,P,M,h5,h6,R,t,rfl⟩
  obtain⟨A,B⟩:∃A,A=(els.take j).filter λn=> !p n:=⟨_,rfl⟩
  rw[<-B]at h5 R
  rw[<-B]
  have C:Els 1 A:=⟨λc q=>he.1 c (by rw[B]at q;exact yan (ybs.1 q).1),λc q=>he.2.1 c (by rw[B]at q;exact yan (ybs.1 q).1),λc q=>he.2.2 c (by rw[B]at q;exact yan (ybs.1 q).1)⟩
  have l:(A++(a++els.drop j)).length=els.length:=by simp;omega
  simp only[yaj,ya4]at l
  simp[P,h6,l]
  refine zaq (λa1=> ?_) (λa2=> ?_)
  ·have E:j<els.length:=by omega
   have aa:IntKind.i64.wrap ((j:Int)+1)=((j+1:Nat):Int):=by rw[wrap_i64 (by omega) (by omega)];omega
   obtain⟨c,hv⟩:∃c,els[j]? =some c:=⟨_,yac E⟩
   have v:els.drop j=c::els.drop (j+1):=by
    obtain⟨M,h2⟩:=yaa.1 hv
    rw[ybn M,h2]
   have F:(A++(a++els.drop j))[j]? =some c:=by
    rw[<-ya3,yak (by simp;omega)]
    have:j-(A++a).length=0:=by simp;omega
    rw[this,v];rfl
   obtain⟨ay,ag⟩:=yaa.1 F
   have o:=yae hv
   have D:=he.1 c o
   have z:els.take (j+1)=els.take j++ [c]:=by rw[yau,hv];rfl
   obtain⟨s,rfl⟩:∃s,c= [s]:=List.length_eq_one_iff.1 D
   have G:=he.2.2 _ o
   simp[P,M,h6,l,E,F,ag,D,yao,zg9,zgp]
   skip
   refine zyi hb hg (hQ _ tl) o ?_
   cases af:p [s]with
   |true=>
    have b:((els.take (j+1)).filter λn=> !p n)=A:=by rw[z,yc5,<-B];simp[af]
    simp[h6,aa]
    refine zad (els.length-(j+1)) (by omega) ⟨j+1,a++ [[s]],tl,rfl,by omega,by simp[P],by simp[M],by rw[b];simp[h5],by simp,by rw[b];simp;omega,⟨λd m=> ?_,λd m=> ?_,λd m=> ?_⟩, ?_⟩
    ·rcases yag.1 m with h|h
     ·exact t.1 d h
     ·simp at h;subst h;exact he.1 _ o
    ·rcases yag.1 m with h|h
     ·exact t.2.1 d h
     ·simp at h;subst h;exact he.2.1 _ o
    ·rcases yag.1 m with h|h
     ·exact t.2.2 d h
     ·simp at h;subst h;exact he.2.2 _ o
    ·rw[b,v];simp
   |false=>
    have b:((els.take (j+1)).filter λn=> !p n)=A++ [[s]]:=by rw[z,yc5,<-B];simp[af]
    obtain⟨w,ah,az,I⟩:=zsK A a (els.drop (j+1)) [s]
    have ao:A.length<els.length:=by omega
    obtain⟨O,J⟩:∃O,(A++(a++els.drop j))[A.length]? =some O:=⟨_,yac (by simp;omega)⟩
    obtain⟨a0,ai⟩:=yaa.1 J
    have ab:O.length=1:=by
     have:=yae J
     rcases yag.1 this with h|h
     ·exact C.1 _ h
     ·rcases yag.1 h with h|h
      ·exact t.1 _ h
      ·exact he.1 _ (yax h)
    have aq:IntKind.i64.wrap ((A.length:Int)+1)=((A.length+1:Nat):Int):=by rw[wrap_i64 (by omega) (by omega)];omega
    have a3:splice O 0 [s]= [s]:=by
     have m:O.drop 1= []:=yb1 (by omega)
     simp[splice,D,m]
    have H:(A++(a++els.drop j)).set A.length [s]=A++ [[s]]++(w++els.drop (j+1)):=by
     rw[v,ah];simp
    have L:(a++els.drop j).set 0 [s]= [s]::(w++els.drop (j+1)):=by
     rw[ybl _ _ (yap _),yc3]at H
     simpa using H
    have ar:O.drop 1= []:=yb1 (by omega)
    have au:s.cells= [s]:=z2l (by have:=G s (by simp);exact this)
    simp[P,M,h5,h6,l,ao,J,ai,ab,D,aa,aq,yao,zg9,zgp,splice,ar,L,au,G s]
    skip
    refine zad (els.length-(j+1)) (by omega) ⟨j+1,w,tl,rfl,by omega,by simp[P],by simp[M],by rw[b];simp,by simp,by rw[b];simp;omega,⟨λd m=> ?_,λd m=> ?_,λd m=> ?_⟩, ?_⟩
    ·rcases I d m with h|rfl
     ·exact t.1 d h
     ·exact he.1 _ o
    ·rcases I d m with h|rfl
     ·exact t.2.1 d h
     ·exact he.2.1 _ o
    ·rcases I d m with h|rfl
     ·exact t.2.2 d h
     ·exact he.2.2 _ o
    ·rw[b];simp
  ·have av:j=els.length:=by omega
   subst av
   rw[ya0]at B
   rw[yd1,yb4]
   rw[yc3,ycd]at l
   have ad:A.length≤els.length:=by omega
   have aw:(A++a).drop els.length= []:=yb1 (by simp;omega)
   simp[P,h5,l,W,ad,aw]
   rw[<-B]
   obtain⟨Y,hY⟩:∃Y,Y=A++List.replicate (els.length-A.length) [.str []]:=⟨_,rfl⟩
   have ae:Els 1 Y:=by
    rw[hY]
    refine⟨λd m=> ?_,λd m=> ?_,λd m=> ?_⟩
    ·rcases yag.1 m with h|h
     ·exact C.1 d h
     ·rw[(ybu.1 h).2];rfl
    ·rcases yag.1 m with h|h
     ·exact C.2.1 d h
     ·rw[(ybu.1 h).2];simp[AV.pure]
    ·rcases yag.1 m with h|h
     ·exact C.2.2 d h
     ·rw[(ybu.1 h).2];simp[AV.one]
   have ax:Y.take A.length=A:=by rw[hY,ycb];rfl
   rw[<-hY]
   refine zav (pre++ .row 9 1 Y false::post) (.sub pre.length els.length 1 0 A.length) (by simp[za5]) tl (by simp) (by simp) (by simp[AV.under]) (λi e u=> ?_) ⟨Y,rfl,by rw[hY];simp;omega,ae,.inr ⟨rfl,ax⟩⟩
   rcases ycr i pre.length with h|h|h
   ·rw[yam h]at u⊢
    exact .inl u
   ·subst h
    simp at u
    subst u
    exact .inr (za3 ae.2.1)
   ·rw[yak (by omega)]at u⊢
    obtain⟨j,hj⟩:∃j,i-pre.length=j+1:=⟨i-pre.length-1,by omega⟩
    rw[hj]at u⊢
    exact .inl u
end Go.Proofs.YtdbhocoeolhjhaaGreatDoor
end
section
set_option maxHeartbeats 4000000
namespace Go.Proofs.YtdbhocoeolhjhaaGreatDoor
open Go.Abs Go.RowKit Go.Sf Go.Num
variable {G:Globs}
theorem ztE (l:List Txt):Els 1 (zaX l):=by
 refine⟨λc a=> ?_,λc a=> ?_,λc a=> ?_⟩<;>obtain⟨n,_,rfl⟩:=yav.1 a<;>simp[AV.pure,AV.one]
theorem z56 (σ:zab)(m k:Nat)(l:List Txt):((zaX l).mapM λ(c:List AV)=>c.mapM (fz σ m k))=some (zaX l):=zeb (ztE l).2.1 (λc a=>by obtain⟨n,_,rfl⟩:=yav.1 a;simp)
theorem z3i {σ:zab}{i j:Nat}{but own:Txt}(hi:σ[i]? =some (.var 9 [.str but]))(hj:σ[j]? =some (.var 9 [.str own]))(t:Txt):ACalls Tryz.prog zjp [.str t,.ptr i 0,.ptr j 0] σ (λr σ'=>r=.bool (decide (t=but)|| !Lib.hasPrefix t own)/\σ'=σ):=by
 refine zaf hmix zqh rfl ?_
 by_cases h:t=but
 ·simp[zgh,hi,hj,h]
  exact zav σ (.bool true) (by simp[za5]) [] (by simp) (yap _) (by simp[AV.under]) (λ_ _ h=> .inl h) ⟨by simp[h],rfl⟩
 ·simp[zgh,hi,hj,h]
  refine zac (z2A t own) (by simp) ?_
  rintro r rfl
  simp
  exact zav σ (.bool (!Lib.hasPrefix t own)) (by simp[za5]) [] (by simp) (yap _) (by simp[AV.under]) (λ_ _ h=> .inl h) ⟨by simp[h],rfl⟩
def z9F (but own:Txt)(c:List AV):Bool:=match c with
 | [.str t]=>decide (t=but)|| !Lib.hasPrefix t own
 |_=>false
theorem zwn (l:List Txt)(but own:Txt):((zaX l).filter λn=> !z9F but own n)=zaX (l.filter λt=> !(decide (t=but)|| !Lib.hasPrefix t own)):=by
 unfold zaX
 rw[List.filter_map]
 rfl
theorem z48 (d:DiskM)(h:RightM d)(hl:Fits d)(id:Nat)(hid:id<100)(but:Txt):PCalls Tryz.prog ztm [.agg (zal d),.int .i64 id,.str but] (λr=>r=.lst (zaX (zeY d id but))):=by
 refine zaa hmix ztu rfl ?_
 have u:=zt0 (G:=G) [.var 30 (zal d),.var 9 [.str but]] d h hl
 have D:=zt5 id hid
 have z:(Lib.decDigits id).length≤9223372036854775806:=by omega
 have A:=hl.nnames
 simp only[zal]at u
 simp[zmh,zal]
 refine zam u ?_
 rintro r σ' ⟨rfl,rfl⟩
 simp
 refine zac (zwJ id hid) (by simp) ?_
 rintro r rfl
 simp[z,splice]
 obtain⟨m,n⟩:∃m:Entry,m=.var 30 (zal d):=⟨_,rfl⟩
 obtain⟨a,b⟩:∃a,a=Lib.decDigits id++ [46]:=⟨_,rfl⟩
 obtain⟨e,f⟩:∃e,e=d.names.map NameM.name:=⟨_,rfl⟩
 have p:=zd3 e
 have k:e.length=d.names.length:=by rw[f];simp
 have l:zeY d id but=e.filter λt=> !(decide (t=but)|| !Lib.hasPrefix t a):=by rw[f,b];rfl
 have q:=z8o (G:=G) [m,.var 9 [.str but],m] (zaX e) (ztE e) (by omega) (z9F but a) zjp [.ptr 1 0,.ptr 4 0] zoW [.var 9 [.str a]]
  (λσ=>σ[1]? =some (.var 9 [.str but])/\σ[4]? =some (.var 9 [.str a])) (λY C=>⟨rfl,rfl⟩) (λc o σ K s w=>by
   obtain⟨t,_,rfl⟩:=yav.1 o
   exact .inr (.inr ((z3i s.1 s.2 t).mono λr σ' ⟨x,y⟩=>by subst x;subst y;exact w)))
 rw[zwn,<-l]at q
 have i:=zd3 (zeY d id but)
 rw[p,k,i]at q
 subst f b n
 refine zam q ?_
 rintro r σ' ⟨X,rfl,g,j,⟨rfl,rfl⟩|⟨rfl,v⟩⟩
 ·rw[i]at g
  simp[g,z56,i]
 ·simp[g]
  have B:(zaX (zeY d id but)).map (λc=>c.map zv0)=zaX (zeY d id but):=by
   unfold zaX
   rw[yeb]
   rfl
  rw[z1H j.2.1]
  simp
  rw[if_pos (by
   intro c o
   have:=j.1 c o
   simpa using this)]
  rw[<-List.map_take,v,B]
  simp
end Go.Proofs.YtdbhocoeolhjhaaGreatDoor
end
section
set_option maxHeartbeats 8000000
namespace Go.Proofs.YtdbhocoeolhjhaaGreatDoor
open Go.Abs Go.RowKit Go.Sf Go.Num
variable {G:Globs}
theorem zxp:∀p∈P4,(Go.Trail.path p).isSome=true:=by decide+kernel
theorem zyx {p:Txt}(h:p∈P4):PCalls Tryz.prog zlP [.str p] (λr=>r=.bool true):=by
 have a:∀q∈P4,q.length≤1000000000000000000:=by decide
 have:=z5d (G:=G) p (a p h)
 rw[zxp p h]at this
 exact this
theorem zzE (hT:zgo G)(p:Txt)(h0:p≠ [])(hl:p.length≤100):PCalls Tryz.prog zdS [.agg (zbS p)] (λr=>r=.tup [.lst (byteEls (zaI (zdf p))),.int .i64 0]):=by
 refine zaa hmix zeh rfl ?_
 have c:=zyq (G:=G) p h0 hl
 simp only[zbS]at c
 have a:zdf p≠ []:=by simp[zdf]
 have b:(zdf p).length≤512:=by rw[zcW];omega
 simp[zcX,zbS]
 refine zac c (by simp[AV.pure,rungsC]) ?_
 rintro r rfl
 simp
 refine zam (zhH hT (zdf p) a b) ?_
 rintro r σ' ⟨rfl,rfl⟩
 simp[zeI,zaj]
theorem zlK {σ:zab}{k:Nat}(s was:ShM)(m:MetM)(hk:σ[k]? =some (.var 127 (wkC s)))(hs:Srt kM s.mets)(hl:s.mets.length≤1000)(hx:s.next≤1000000)(hi:m.id≤1000000):
  ACalls Tryz.prog zkR [.ptr k 0,.agg (shC was),.agg (metC m)] σ (λr σ'=>r=.tup [.agg (shC (zbB s m)),.int .i64 0]/\σ'=σ):=by
 refine zaf hmix zkX rfl ?_
 have a:=zyC (G:=G) s m hs hl hx hi
 have b:=zaP hk
 simp only[shC,metC]at a
 simp[zgk,shC,metC,b,wkC]
 refine zbu a (by simp[AV.pure]) ?_
 simp[zaQ,zay,zaV,zd7,splice]
 exact zgC (.tup [.agg (shC (zbB s m)),.int .i64 0]) (by simp[za5,shC,zaV]) (by simp[AV.under,shC]) ⟨by simp[shC],rfl⟩
def zhD (s:ShM)(p:Txt)(bs:List ArrM):AV:=
 if∀a∈bs,OkV a then
  if bs= []then .tup [.agg (shC s),.int .i64 0]
  else if(zaW (za7 s p) bs).length≤s.disk.quota-zbf s.disk then .tup [.agg (shC (zcC s (za7 s p) bs)),.int .i64 0]
  else .tup [.agg (shC s),.int .i64 6]
 else .tup [.agg (shC s),.int .i64 1]
theorem zqo {s:ShM}{a k:Nat}(h:InvS s a k){p:Txt}:PCalls Tryz.prog ziD [.agg (shC s),.str p] (λr=>∃(x0:Int) (x1:Txt) (x2:List (List AV)) (x3 x4 x5 x6:Int) (x7:List (List AV)) (x8 x9 x10 e:Int),
  r=.tup [.agg [.int .i64 x0,.str x1,.lst x2,.int .i64 x3,.int .i64 x4,.int .i64 x5,.int .i64 x6,.lst x7,.int .i64 x8,.int .i64 x9,.int .i64 x10],.int .i64 e]/\
  ((¬hasK kM s.mets p/\e=15)∨(hasK kM s.mets p/\e=0/\ [.int .i64 x0,.str x1,.lst x2,.int .i64 x3,.int .i64 x4,.int .i64 x5,.int .i64 x6,.lst x7,.int .i64 x8,.int .i64 x9,.int .i64 x10]=metC (za7 s p)))):=by
 have d:=h.len
 by_cases b:hasK kM s.mets p
 ·obtain⟨f,g⟩:=zcT h.srt b
  exact(zuy s p h.srt (by omega) f g).mono λr c=>⟨_,_,_,_,_,_,_,_,_,_,_,_,c,.inr ⟨b,rfl,rfl⟩⟩
 ·exact(z5K s p h.srt (by omega) b).mono λr c=>⟨_,_,_,_,_,_,_,_,_,_,_,_,c,.inl ⟨b,rfl⟩⟩
theorem zrK (hT:zgo G){s:ShM}{a k:Nat}(h:InvS s a k)(ha:a<69)(hk:k≤100000){p:Txt}(hp:p∈P4)(bs:List ArrM)(hb:∀x∈bs,OkA x)(hl:bs.length≤300):
  PCalls Tryz.prog zri [.agg (shC s),.str p,.agg schC,.lst (zbl bs)] (λr=>r=zhD s p bs):=by
 refine zaa hmix zq0 rfl ?_
 have ho:=h.met hp
 have av:=h.len
 have d:=h.size.fits (by omega) (by omega)
 have u:=zcE bs
 obtain⟨m,Y⟩:∃m,m=za7 s p:=⟨_,rfl⟩
 have v:OkMet s p a m:=by rw[Y];exact ho
 obtain⟨V0,o⟩:∃V0:Entry,V0=.var 33 (shC s):=⟨_,rfl⟩
 obtain⟨V1,Z⟩:∃V1:Entry,V1=.var 52 schC:=⟨_,rfl⟩
 obtain⟨V2,c⟩:∃V2:Entry,V2=.var 33 [.int .i64 0,.nils,.nils,.nils,.nils,.int .i64 0,.nils,.int .i64 0,.int .i64 0,.bool false]:=⟨_,rfl⟩
 have ab:=zyx (G:=G) hp
 have ad:=zqo (G:=G) h (p:=p)
 simp only[shC]at ad
 simp[zjU,shC,schC]
 refine zac ad (by simp[AV.pure]) ?_
 rintro r ⟨x0,x1,x2,x3,x4,x5,x6,x7,x8,x9,ay,e,rfl,hx⟩
 simp[splice, -zuq]
 refine z5z (λf σ=>f 1=.str p/\f 3=.lst (zbl bs)/\f 4=.ptr 0 0/\f 6=.ptr 1 0/\f 8=.ptr 2 0/\f 9=.int .i64 0/\f 10=.ptr 3 0/\σ= [V0,V1,V2,.var 57 (metC m)]) ?_ ?_
 ·rintro f σ ⟨f1,F,l,f6,H,f9,b,rfl⟩
  have w:=z3f (G:=G) m.lad (by rw[Y];exact ho.lad) bs hb (by omega)
  simp only[ladC]at w
  simp[F,l,b,metC]
  by_cases X:∀a∈bs,OkV a
  ·rw[if_pos X,zt7 X]at w
   have hR:zhD s p bs=if bs= []then .tup [.agg (shC s),.int .i64 0]else if(zaW m bs).length≤s.disk.quota-zbf s.disk then .tup [.agg (shC (zcC s m bs)),.int .i64 0]else .tup [.agg (shC s),.int .i64 6]:=by
    unfold zhD;rw[if_pos X,Y]
   rw[hR]
   refine zac w (by simp[AV.pure]) ?_
   rintro r rfl
   by_cases h0:bs= []
   ·simp[splice,F,l,H,b,h0,u,zbl,o,c,shC]
   ·have an:bs.length≠0:=λe=>h0 (yc0.1 e)
    have kF:=z05 (G:=G) hT bs (λx hx=>⟨hb x hx,X x hx⟩) (by omega)
    rw[if_neg h0]
    simp[splice,F,l,H,b,h0,u,an]
    refine zac kF (by simp[AV.pure]) ?_
    rintro r rfl
    have M:=v.id5
    have aw:=v.seq
    have R:=v.path
    have ae:m.path≠ []/\m.path.length≤100:=by
     rw[R]
     have:∀q∈P4,q≠ []/\q.length≤100:=by decide
     exact this p hp
    have I:=zxI (G:=G) {m with lad:=zba m.lad bs}
    have af:=zzE (G:=G) hT m.path ae.1 ae.2
    have ag:=zmS (G:=G) (zaI (zdf m.path)) (zbT bs) (by rw[zb1,zcW];omega) (by rw[zk4];omega)
    have S:=zaj (zaW m bs)
    have ax:(zaW m bs).length≤20000:=by
     have h1:=zk4 bs
     unfold zaW;split
     ·rw[yaj,zb1,zcW,h1];omega
     ·omega
    have J:=λaa=>zxU (G:=G) s.disk h.size.right d (zaW m bs).length (by omega) aa (by have:=h.size.files;omega)
    simp only[zal]at J
    have ao:IntKind.i64.wrap ((if(m.base:Int)<m.last then(m.last:Int)else(m.base:Int))+1)=((zaG m:Nat):Int):=by
     unfold zaG
     rw[wrap_i64 (by split<;>omega) (by split<;>omega)];split<;>omega
    have ah:IntKind.i64.wrap ((if m.base<m.last then(m.last:Int)else(m.base:Int))+1)=((zaG m:Nat):Int):=by
     unfold zaG
     rw[wrap_i64 (by split<;>omega) (by split<;>omega)];split<;>omega
    have y:(metA m bs).id=m.id:=by unfold metA;split<;>rfl
    have ai:IntKind.i64.wrap (bs.length:Int)=bs.length:=wrap_i64 (by omega) (by omega)
    have O:zaG m<70:=by unfold zaG;omega
    have K:PCalls Tryz.prog zdd [.int .i64 m.id,.int .i64 (zaG m:Nat),.str [46,112]] (λr=>r=.str (newN m)):=zj3 m.id (zaG m) kindP (by omega) (by omega) (by decide)
    have okN:okS (newN m):=zcY m.id M (zaG m) O kindP (by simp)
    have t:¬hasK kN s.disk.names (newN m):=v.fresh h ha (q:=zaG m) (by unfold zaG;omega) O (by simp)
    have L:s.disk.files.length<256:=by have:=h.size.files;omega
    have aq:s.disk.next<1099511627776:=by have:=h.size.next;omega
    simp only[metC]at I
    by_cases i:m.last=0
    ·have z:zm9 m=true:=by unfold zm9;simp[i]
     have A:zaW m bs=zaI (zdf m.path)++zbT bs:=by unfold zaW;rw[if_pos z]
     simp only[i]at I
     have ar:IntKind.i64.wrap ((if(m.base:Int)<0 then 0 else(m.base:Int))+1)=((zaG m:Nat):Int):=by
      unfold zaG
      rw[if_neg (by omega),wrap_i64 (by omega) (by omega)];omega
     simp[F,b,i]
     refine zac I (by simp[AV.pure]) ?_
     rintro r rfl
     simp
     refine zac af (by simp[AV.pure,zbS,rungsC]) ?_
     rintro r rfl
     simp
     refine zac ag (by simp[AV.pure]) ?_
     rintro r rfl
     rw[<-A]
     simp[l,o,shC,S]
     refine zac (J true) (by simp[AV.pure]) ?_
     rintro r rfl
     by_cases j:(zaW m bs).length≤s.disk.quota-zbf s.disk
     ·rw[if_pos j]
      have B:=zfF h.size okN t (by omega)
      have T:hasK kN (zaz s.disk (newN m)).names (newN m):=zdK.2 (.inl rfl)
      have U:(zaW m bs).length≤(zaz s.disk (newN m)).quota-zbf (zaz s.disk (newN m)):=by rw[zhV];exact j
      have C:metC (metA m bs)= [.int .i64 m.id,.str m.path,.lst rungsC,.int .i64 1,.int .i64 500000,.int .i64 1,.int .i64 500000,.lst (zan (zba m.lad bs)),.int .i64 m.base,.int .i64 (zaG m:Nat),.int .i64 bs.length]:=by
       unfold metA;rw[if_pos z];rfl
      simp[j,l,b,i,ar]
      refine zac K (by simp) ?_
      rintro r rfl
      simp
      refine zam (znw (k:=4) s (by simp[wkC]) h.size.right d okN t L aq) ?_
      rintro r σ' ⟨rfl,rfl⟩
      simp[b]
      refine zac K (by simp) ?_
      rintro r rfl
      simp
      refine zam (zts (k:=4) ⟨zaz (s.disk) (newN m),s.mets,s.next⟩ (by simp) B.right (B.fits (by omega) (by omega)) okN T U (by omega)) ?_
      rintro r σ' ⟨rfl,rfl⟩
      simp[F,b,u,ai]
      have D:=λ(σ:zab) (hk4:σ[4]? =some (.var 127 (wkC ⟨zaJ (zaz (s.disk) (newN m)) (newN m) (zaW m bs),s.mets,s.next⟩)))=>zlK (G:=G) (k:=4) ⟨zaJ (zaz (s.disk) (newN m)) (newN m) (zaW m bs),s.mets,s.next⟩ s (metA m bs) hk4 h.srt (by show s.mets.length≤1000;omega) (by show s.next≤1000000;have:=h.next;omega) (by rw[y];omega)
      rw[C]at D
      simp only[shC]at D
      simp[l,b,splice]
      refine zam (D _ (by simp)) ?_
      rintro r σ' ⟨rfl,rfl⟩
      have g:zcC s m bs=zbB ⟨zaJ (zaz (s.disk) (newN m)) (newN m) (zaW m bs),s.mets,s.next⟩ (metA m bs):=by
       unfold zcC zqY
       rw[if_pos z]
       rw[show zaK s.disk m=s.disk by unfold zaK;rw[if_neg (by omega)]]
      rw[g]
      simp[H,c,shC,splice]
     ·rw[if_neg j]
      simp[j,l,H,c,shC,splice]
    ·have P:0<m.last:=by omega
     have aj:(0:Int)<m.last:=by omega
     have Q:¬(m.last:Int)=0:=by omega
     have ak:hasK kN s.disk.names (zbW m):=v.last P
     have okL:okS (zbW m):=zcY m.id M m.last (by omega) kindP (by simp)
     have al:PCalls Tryz.prog zdd [.int .i64 m.id,.int .i64 m.last,.str [46,112]] (λr=>r=.str (zbW m)):=zj3 m.id m.last kindP (by omega) (by omega) (by decide)
     by_cases hc:16≤m.count
     ·have z:zm9 m=true:=by unfold zm9;simp[hc]
      have A:zaW m bs=zaI (zdf m.path)++zbT bs:=by unfold zaW;rw[if_pos z]
      have W:(16:Int)≤m.count:=by omega
      simp[F,b,i,Q,hc,W]
      refine zac I (by simp[AV.pure]) ?_
      rintro r rfl
      simp
      refine zac af (by simp[AV.pure,zbS,rungsC]) ?_
      rintro r rfl
      simp
      refine zac ag (by simp[AV.pure]) ?_
      rintro r rfl
      rw[<-A]
      simp[l,o,shC,S]
      refine zac (J true) (by simp[AV.pure]) ?_
      rintro r rfl
      by_cases j:(zaW m bs).length≤s.disk.quota-zbf s.disk
      ·rw[if_pos j]
       have E:=zpX (n:=zbW m) h.size
       have B:=zfF E okN (by exact t) (by omega)
       have T:hasK kN (zaz (zdk s.disk (zbW m)) (newN m)).names (newN m):=zdK.2 (.inl rfl)
       have U:(zaW m bs).length≤(zaz (zdk s.disk (zbW m)) (newN m)).quota-zbf (zaz (zdk s.disk (zbW m)) (newN m)):=by rw[zhV,zpi];exact j
       have C:metC (metA m bs)= [.int .i64 m.id,.str m.path,.lst rungsC,.int .i64 1,.int .i64 500000,.int .i64 1,.int .i64 500000,.lst (zan (zba m.lad bs)),.int .i64 m.base,.int .i64 (zaG m:Nat),.int .i64 bs.length]:=by
        unfold metA;rw[if_pos z];rfl
       simp[j,l,b,i,P,aj]
       refine zac al (by simp) ?_
       rintro r rfl
       simp
       refine zam (zoA (k:=4) s (by simp[wkC]) h.size.right d okL ak) ?_
       rintro r σ' ⟨rfl,rfl⟩
       simp[b,ao,ah]
       refine zac K (by simp) ?_
       rintro r rfl
       simp
       refine zam (znw (k:=4) ⟨zdk s.disk (zbW m),s.mets,s.next⟩ (by simp) E.right (E.fits (by omega) (by omega)) okN t (by have:=E.files;show(zdk s.disk (zbW m)).files.length<256;omega) (by have:=E.next;show(zdk s.disk (zbW m)).next<_;omega)) ?_
       rintro r σ' ⟨rfl,rfl⟩
       simp[b]
       refine zac K (by simp) ?_
       rintro r rfl
       simp
       refine zam (zts (k:=4) ⟨zaz (zdk s.disk (zbW m)) (newN m),s.mets,s.next⟩ (by simp) B.right (B.fits (by omega) (by omega)) okN T U (by omega)) ?_
       rintro r σ' ⟨rfl,rfl⟩
       simp[F,b,u,ai]
       have D:=λ(σ:zab) (hk4:σ[4]? =some (.var 127 (wkC ⟨zaJ (zaz (zdk s.disk (zbW m)) (newN m)) (newN m) (zaW m bs),s.mets,s.next⟩)))=>zlK (G:=G) (k:=4) ⟨zaJ (zaz (zdk s.disk (zbW m)) (newN m)) (newN m) (zaW m bs),s.mets,s.next⟩ s (metA m bs) hk4 h.srt (by show s.mets.length≤1000;omega) (by show s.next≤1000000;have:=h.next;omega) (by rw[y];omega)
       rw[C]at D
       simp only[shC]at D
       simp[l,b,splice]
       refine zam (D _ (by simp)) ?_
       rintro r σ' ⟨rfl,rfl⟩
       have g:zcC s m bs=zbB ⟨zaJ (zaz (zdk s.disk (zbW m)) (newN m)) (newN m) (zaW m bs),s.mets,s.next⟩ (metA m bs):=by
        unfold zcC zqY
        rw[if_pos z]
        rw[show zaK s.disk m=zdk s.disk (zbW m) by unfold zaK;rw[if_pos (by omega)]]
       rw[g]
       simp[H,c,shC,splice]
      ·rw[if_neg j]
       simp[j,l,H,c,shC,splice]
     ·have z:¬zm9 m=true:=by unfold zm9;simp[hc,i]
      have A:zaW m bs=zbT bs:=by unfold zaW;rw[if_neg z]
      have W:¬(16:Int)≤m.count:=by omega
      simp[F,l,b,i,Q,hc,W,o,shC]
      rw[<-A]
      simp[S]
      refine zac (J false) (by simp[AV.pure]) ?_
      rintro r rfl
      by_cases j:(zaW m bs).length≤s.disk.quota-zbf s.disk
      ·rw[if_pos j]
       have au:IntKind.i64.wrap ((m.count:Int)+bs.length)=((m.count+bs.length:Nat):Int):=by rw[wrap_i64 (by omega) (by omega)];omega
       have C:metC (metA m bs)= [.int .i64 m.id,.str m.path,.lst rungsC,.int .i64 1,.int .i64 500000,.int .i64 1,.int .i64 500000,.lst (zan (zba m.lad bs)),.int .i64 m.base,.int .i64 m.last,.int .i64 (m.count+bs.length:Nat)]:=by
        unfold metA;rw[if_neg z];rfl
       simp[j,l,b]
       refine zac al (by simp) ?_
       rintro r rfl
       simp
       refine zam (zts (k:=4) s (by simp[wkC]) h.size.right d okL ak j (by omega)) ?_
       rintro r σ' ⟨rfl,rfl⟩
       simp[F,b,u,au, -Int.natCast_add]
       have D:=λ(σ:zab) (hk4:σ[4]? =some (.var 127 (wkC ⟨zaJ s.disk (zbW m) (zaW m bs),s.mets,s.next⟩)))=>zlK (G:=G) (k:=4) ⟨zaJ s.disk (zbW m) (zaW m bs),s.mets,s.next⟩ s (metA m bs) hk4 h.srt (by show s.mets.length≤1000;omega) (by show s.next≤1000000;have:=h.next;omega) (by rw[y];omega)
       rw[C]at D
       simp only[shC]at D
       simp[l,b,splice, -Int.natCast_add]
       refine zam (D _ (by simp)) ?_
       rintro r σ' ⟨rfl,rfl⟩
       have g:zcC s m bs=zbB ⟨zaJ s.disk (zbW m) (zaW m bs),s.mets,s.next⟩ (metA m bs):=by
        unfold zcC zqY
        rw[if_neg z]
       rw[g]
       simp[H,c,shC,splice]
      ·rw[if_neg j]
       simp[j,l,H,c,shC,splice]
  ·rw[if_neg X]at w
   have hR:zhD s p bs=.tup [.agg (shC s),.int .i64 1]:=by
    unfold zhD;rw[if_neg X]
   rw[hR]
   refine zac w (by simp[AV.pure]) ?_
   rintro r rfl
   simp[splice,F,l,H,b,o,c,shC]
 ·rcases hx with ⟨hh,rfl⟩|⟨hh,rfl,am⟩
  ·have kf:=z0Q (G:=G) s p (by omega)
   simp only[shC,schC]at kf
   simp
   refine zac ab (by simp) ?_
   rintro r rfl
   simp
   refine zac kf (by simp[AV.pure]) ?_
   rintro r rfl
   simp[metC,splice]
   refine zg3 ?_
   refine⟨by simp,by simp,by simp,by simp,by simp,by simp,by simp, ?_⟩
   rw[Y,zf7 hh]
   simp[o,Z,c,shC,schC,metC,zix]
  ·simp
   refine zac ab (by simp) ?_
   rintro r rfl
   simp
   refine zg3 ?_
   refine⟨by simp,by simp,by simp,by simp,by simp,by simp,by simp, ?_⟩
   rw[Y,<-am]
   simp[o,Z,c,shC,schC]
end Go.Proofs.YtdbhocoeolhjhaaGreatDoor
end
section
set_option maxHeartbeats 8000000
namespace Go.Proofs.YtdbhocoeolhjhaaGreatDoor
open Go.Abs Go.RowKit Go.Sf Go.Num
variable {G:Globs}
def znm (s:ShM)(p:Txt):AV:=if hasK kM s.mets p then .tup [.agg (shC (zhC s (za7 s p))),.int .i64 0]else .tup [.agg (shC s),.int .i64 15]
theorem zy8 {s:ShM}{a k:Nat}(h:InvS s a k)(ha:a≤69)(hk:k≤100000){p:Txt}(hp:p∈P4):PCalls Tryz.prog zuv [.agg (shC s),.str p] (λr=>r=znm s p):=by
 refine zaa hmix zvx rfl ?_
 have n:=h.met hp
 have x:=h.len
 have c:=h.size.fits (by omega) (by omega)
 have g:=zqo (G:=G) h (p:=p)
 simp only[shC]at g
 simp[zn4,shC]
 refine zac g (by simp[AV.pure]) ?_
 rintro r ⟨D,E,F,H,I,J,K,L,M,O,A,e,rfl,B⟩
 rcases B with ⟨o,rfl⟩|⟨o,rfl,b⟩
 ·have q:znm s p=.tup [.agg (shC s),.int .i64 15]:=by unfold znm;rw[if_neg o]
  rw[q]
  simp[splice,shC]
 ·obtain⟨m,w⟩:∃m,m=za7 s p:=⟨_,rfl⟩
  have q:znm s p=.tup [.agg (shC (zhC s m)),.int .i64 0]:=by unfold znm;rw[if_pos o,w]
  rw[q]
  rw[<-w]at n b
  have i:=n.id5
  have y:=n.seq
  simp only[metC,yde,AV.int.injEq,AV.str.injEq,AV.lst.injEq,true_and,and_true]at b
  obtain⟨rfl,rfl,rfl,rfl,rfl,rfl,rfl,rfl,rfl,rfl,rfl⟩:=b
  have j:=zfC m h.size
  have z:=λ(σ:zab) (h3:σ[3]? =some (.var 127 (wkC ⟨zaK s.disk m,s.mets,s.next⟩)))=>zoB (G:=G) (k:=3) ⟨zaK s.disk m,s.mets,s.next⟩ h3 j.right (j.fits (by omega) (by omega))
  have t:=λ(σ:zab) (h3:σ[3]? =some (.var 127 (wkC ⟨zgn (zaK s.disk m),s.mets,s.next⟩)))=>zlK (G:=G) (k:=3) ⟨zgn (zaK s.disk m),s.mets,s.next⟩ s m h3 h.srt (by show s.mets.length≤1000;omega) (by show s.next≤1000000;have:=h.next;omega) (by omega)
  have C:zhC s m=zbB ⟨zgn (zaK s.disk m),s.mets,s.next⟩ m:=rfl
  rw[C]
  simp only[shC,metC]at t
  by_cases l:0<m.last
  ·have d:(0:Int)<m.last:=by omega
   have u:PCalls Tryz.prog zdd [.int .i64 m.id,.int .i64 m.last,.str [46,112]] (λr=>r=.str (zbW m)):=zj3 m.id m.last kindP (by omega) (by omega) (by decide)
   have okL:okS (zbW m):=zcY m.id i m.last (by omega) kindP (by simp)
   have v:hasK kN s.disk.names (zbW m):=n.last l
   have f:zaK s.disk m=zdk s.disk (zbW m):=by unfold zaK;rw[if_pos l]
   simp[splice,l,d]
   refine zac u (by simp) ?_
   rintro r rfl
   simp
   refine zam (zoA (k:=3) s (by simp[wkC]) h.size.right c okL v) ?_
   rintro r σ' ⟨rfl,rfl⟩
   simp
   refine zam (z _ (by simp[f])) ?_
   rintro r σ' ⟨rfl,rfl⟩
   simp
   refine zam (t _ (by simp[zgn])) ?_
   rintro r σ' ⟨rfl,rfl⟩
   simp[shC,splice]
  ·have d:¬(0:Int)<m.last:=by omega
   have f:zaK s.disk m=s.disk:=by unfold zaK;rw[if_neg l]
   simp[splice,l,d]
   refine zam (z _ (by simp[f,wkC])) ?_
   rintro r σ' ⟨rfl,rfl⟩
   simp
   refine zam (t _ (by simp[zgn])) ?_
   rintro r σ' ⟨rfl,rfl⟩
   simp[shC,splice]
def zdB (m:MetM):Txt:=zmo m.path (zgD m.lad)
def zng (s:ShM)(p:Txt):AV:=if hasK kM s.mets p then(if(zdB (za7 s p)).length≤s.disk.quota-zbf s.disk then .tup [.agg (shC (zqR s (za7 s p) (zdB (za7 s p)))),.int .i64 0]else .tup [.agg (shC s),.int .i64 6])else .tup [.agg (shC s),.int .i64 15]
theorem z0S {l:LadM}(h:RightL l):∀x∈zgD l,OkSl x:=λx e=>by
 simp only[zgD,yag,yav]at e
 rcases e with ⟨s,d,rfl⟩|⟨s,d,rfl⟩
 ·obtain⟨k,a,f,b,c⟩:=zl6 h.r1 d
  exact⟨by simp,by simp[a];omega,b,c⟩
 ·obtain⟨k,a,f,b,c⟩:=zl6 h.r2 d
  exact⟨by simp,by simp[a];omega,b,c⟩
theorem zo6 {l:LadM}(h:RightL l):(zgD l).length≤11:=by
 have a:=zoO l.fine
 have b:=zoO l.wide
 rw[h.n1]at a
 rw[h.n2]at b
 simp[zgD];omega
theorem zyG (hT:zgo G){s:ShM}{a k:Nat}(h:InvS s a k)(ha:a<69)(hk:k≤100000){p:Txt}(hp:p∈P4):PCalls Tryz.prog zpS [.agg (shC s),.str p] (λr=>r=zng s p):=by
 refine zaa hmix zpQ rfl ?_
 have l:=h.met hp
 have ar:=h.len
 have o:=h.size.fits (by omega) (by omega)
 have P:=zqo (G:=G) h (p:=p)
 simp only[shC]at P
 simp[zja,shC]
 refine zac P (by simp[AV.pure]) ?_
 rintro r ⟨x0,x1,x2,x3,x4,x5,x6,x7,x8,x9,ay,e,rfl,hx⟩
 rcases hx with ⟨hh,rfl⟩|⟨hh,rfl,D⟩
 ·have hR:zng s p=.tup [.agg (shC s),.int .i64 15]:=by unfold zng;rw[if_neg hh]
  rw[hR]
  simp[splice,shC]
 ·obtain⟨m,hm⟩:∃m,m=za7 s p:=⟨_,rfl⟩
  have hR:zng s p=if(zdB m).length≤s.disk.quota-zbf s.disk then .tup [.agg (shC (zqR s m (zdB m))),.int .i64 0]else .tup [.agg (shC s),.int .i64 6]:=by unfold zng;rw[if_pos hh,hm]
  rw[hR]
  rw[<-hm]at l D
  have Q:=l.id5
  have au:=l.seq
  have E:=l.path
  have R:m.path≠ []/\m.path.length≤100:=by
   rw[E]
   have:∀q∈P4,q≠ []/\q.length≤100:=by decide
   exact this p hp
  have S:=zxI (G:=G) m
  have T:=z4P (G:=G) m.lad l.lad
  have U:=z2g (G:=G) hT m.path R.1 R.2 (zgD m.lad) (z0S l.lad) (by have:=zo6 l.lad;omega)
  have ab:=zaj (zdB m)
  have av:(zdB m).length≤1000:=by
   have:=zo6 l.lad
   unfold zdB;rw[z0c];omega
  have W:=zxU (G:=G) s.disk h.size.right o (zdB m).length (by omega) true (by have:=h.size.files;omega)
  simp only[metC]at S
  simp only[ladC]at T
  simp only[zal]at W
  rw[show zmo m.path (zgD m.lad)=zdB m from rfl]at U
  simp only[metC,yde,AV.int.injEq,AV.str.injEq,AV.lst.injEq,true_and,and_true]at D
  obtain⟨rfl,rfl,rfl,rfl,rfl,rfl,rfl,rfl,rfl,rfl,rfl⟩:=D
  simp[splice]
  refine zbu S (by simp[AV.pure]) ?_
  simp
  refine zbu T (by simp[AV.pure]) ?_
  simp
  refine zbu U (by simp[AV.pure,zbS,rungsC]) ?_
  simp[ab]
  refine zac W (by simp[AV.pure]) ?_
  rintro r rfl
  by_cases K:(zdB m).length≤s.disk.quota-zbf s.disk
  ·rw[if_pos K]
   have b:=zyl h ha l K
   have hC:=comp h ha l b
   have aw:zaG m<70:=by unfold zaG;omega
   have ad:PCalls Tryz.prog zdd [.int .i64 m.id,.int .i64 (zaG m:Nat),.str [46,116]] (λr=>r=.str (zbb m)):=zj3 m.id (zaG m) ztw (by omega) (by omega) (by decide)
   have ae:PCalls Tryz.prog zdd [.int .i64 m.id,.int .i64 (zaG m:Nat),.str [46,99]] (λr=>r=.str (zcd m)):=zj3 m.id (zaG m) kindC (by omega) (by omega) (by decide)
   have F:IntKind.i64.wrap ((if m.base<m.last then(m.last:Int)else(m.base:Int))+1)=((zaG m:Nat):Int):=by
    unfold zaG
    rw[wrap_i64 (by split<;>omega) (by split<;>omega)];split<;>omega
   have t:IntKind.i64.wrap ((if m.base<m.last then(m.last:Int)else(m.base:Int))+1)=((zaG m:Nat):Int):=by
    unfold zaG
    rw[wrap_i64 (by split<;>omega) (by split<;>omega)];split<;>omega
   obtain⟨V0,L⟩:∃V0:Entry,V0=.var 33 (shC s):=⟨_,rfl⟩
   obtain⟨V1,M⟩:∃V1:Entry,V1=.var 33 [.int .i64 0,.nils,.nils,.nils,.nils,.int .i64 0,.nils,.int .i64 0,.int .i64 0,.bool false]:=⟨_,rfl⟩
   have g:∀{d:DiskM} {k':Nat},SizeM d (a+1) k'->k'≤200000->Fits d:=λhd az=>hd.fits (by omega) (by omega)
   by_cases hl:0<m.last
   focus
    have H:(0:Int)<m.last:=by omega
    have af:PCalls Tryz.prog zdd [.int .i64 m.id,.int .i64 m.last,.str [46,112]] (λr=>r=.str (zbW m)):=zj3 m.id m.last kindP (by omega) (by omega) (by decide)
    have okL:okS (zbW m):=zcY m.id Q m.last (by omega) kindP (by simp)
    have ag:hasK kN s.disk.names (zbW m):=l.last hl
    have I:zdk s.disk (zbW m)=zaK s.disk m:=by unfold zaK;rw[if_pos hl]
    simp[K,hl,H]
    refine zac af (by simp) ?_
    rintro r rfl
    simp
    refine zam (zoA (k:=3) s (by simp[wkC]) h.size.right o okL ag) ?_
    rintro r σ' ⟨rfl,rfl⟩
    rw[I]
   rotate_left
   focus
    have H:¬(0:Int)<m.last:=by omega
    have I:zaK s.disk m=s.disk:=by unfold zaK;rw[if_neg hl]
    have ah:(Entry.var 127 [.int .i64 s.disk.quota,.lst (za2 s.disk.files),.lst (zao s.disk.names),.lst (zao s.disk.kept),.lst (zbv s.disk.moves),.int .i64 s.disk.next,.lst (zc0 s.mets),.int .i64 s.next,.int .i64 (-1),.bool false,.int .i64 0])=.var 127 (wkC ⟨zaK s.disk m,s.mets,s.next⟩):=by rw[I];rfl
    simp[K,hl,H]
    rw[ah]
   all_goals
    simp[F,t]
    refine zbu ad (by simp) ?_
    simp[F,t]
    refine zbu ae (by simp) ?_
    simp
    refine zam (znw (k:=3) ⟨zaK s.disk m,s.mets,s.next⟩ (by simp) b.s1.right (b.s1.fits (by omega) (by omega)) b.o1 b.n1 (by have:=b.s1.files;show(zaK s.disk m).files.length<256;omega) (by have:=b.s1.next;show(zaK s.disk m).next<_;omega)) ?_
    rintro r σ' ⟨rfl,rfl⟩
    simp
    refine zam (zts (k:=3) ⟨zaz (zaK s.disk m) (zbb m),s.mets,s.next⟩ (by simp) b.s2.right (g b.s2 (by omega)) b.o1 b.h2 b.u2 (by omega)) ?_
    rintro r σ' ⟨rfl,rfl⟩
    simp
    refine zam (zoA (k:=3) ⟨zaJ (zaz (zaK s.disk m) (zbb m)) (zbb m) (zdB m),s.mets,s.next⟩ (by simp) b.s3.right (g b.s3 (by omega)) b.o1 b.h2) ?_
    rintro r σ' ⟨rfl,rfl⟩
    simp
    refine zam (zzP (k:=3) ⟨zdk (zaJ (zaz (zaK s.disk m) (zbb m)) (zbb m) (zdB m)) (zbb m),s.mets,s.next⟩ (by simp) b.s4.right (g b.s4 (by omega)) b.o1 b.h2 b.o2 b.ne) ?_
    rintro r σ' ⟨rfl,rfl⟩
    simp
    refine zam (zoB (k:=3) ⟨zcK (zdk (zaJ (zaz (zaK s.disk m) (zbb m)) (zbb m) (zdB m)) (zbb m)) (zbb m) (zcd m),s.mets,s.next⟩ (by simp) b.s5.right (g b.s5 (by omega))) ?_
    rintro r σ' ⟨rfl,rfl⟩
    have ai:(zcK (zdk (zaJ (zaz (zaK s.disk m) (zbb m)) (zbb m) (zdB m)) (zbb m)) (zbb m) (zcd m)).moves≠ []:=by simp[zcK]
    rw[if_neg ai]
    rw[show zb2 (zcK (zdk (zaJ (zaz (zaK s.disk m) (zbb m)) (zbb m) (zdB m)) (zbb m)) (zbb m) (zcd m))=zgU s.disk m (zdB m) from rfl]
    have J:=z48 (G:=G) (zgU s.disk m (zdB m)) b.s6.right (g b.s6 (by omega)) m.id (by omega) (zcd m)
    simp only[zal]at J
    obtain⟨c,B⟩:∃c,c=zeY (zgU s.disk m (zdB m)) m.id (zcd m):=⟨_,rfl⟩
    obtain⟨w,C⟩:∃w,w=zgU s.disk m (zdB m):=⟨_,rfl⟩
    have c1:=hC.fok
    have c2:=hC.fnd
    have c3:=hC.flen
    have c4:=hC.s7
    have c5:=b.s6
    rw[<-B,<-C]at c1 c4 J
    rw[<-B]at c2 c3
    rw[<-C]at c5⊢
    have X:=zd3 c
    simp[wkC]
    refine zbu J (by simp[AV.pure]) ?_
    simp[X]
    refine zag (λx f σ=>∃i:Nat,x=c.length-i/\i≤c.length/\f 4=.ptr 1 0/\f 2=.ptr 0 0/\f 6=.ptr 2 0/\f 10=.ptr 3 0/\f 11=.int .i64 (zaG m:Nat)/\f 104=.lst (zaX c)/\f 105=.int .i64 c.length/\f 106=.int .i64 i/\
     σ= [V0,V1,.var 57 (metC m),.var 127 (wkC ⟨zb0 w (c.take i),s.mets,s.next⟩)]) c.length ?_ ?_
    ·exact⟨0,by simp,by simp,by simp,by simp,by simp,by simp,by simp[F,t],by simp,by simp,by simp,by simp[L,M,shC,metC,wkC,zb0]⟩
    rintro x f σ ⟨i,rfl,hi,f4,f2,f6,v,O,z,A,j,rfl⟩
    simp[A,j]
    refine zaq (λa0=> ?_) (λa1=> ?_)
    ·have Y:i<c.length:=by omega
     have aj:IntKind.i64.wrap ((i:Int)+1)=((i+1:Nat):Int):=by rw[wrap_i64 (by omega) (by omega)];omega
     obtain⟨n,hn⟩:∃n,c[i]? =some n:=⟨_,yac Y⟩
     have hc:(zaX c)[i]? =some [.str n]:=by simp[zaX,hn]
     obtain⟨ax,aa⟩:=yaa.1 hc
     have ak:c.take (i+1)=c.take i++ [n]:=by rw[yau,hn];rfl
     have u:=c2
     rw[<-yba i c,ydb]at u
     obtain⟨r1,r2⟩:=ziE c5 u.1 λy hy=>c1 y (yan hy)
     have al:n∉c.take i:=λhm=>u.2.2 n hm n (by rw[List.mem_iff_getElem?];exact⟨0,by rw[yb2];simpa using hn⟩) rfl
     have Z:=c1 n (yae hn)
     have am:=(r2 n).2 ⟨al,Z.2⟩
     have a2:(c.take i).length≤c.length:=by simp;omega
     simp[v,z,j,hc,aa]
     refine zam (zzx (k:=3) ⟨zb0 w (c.take i),s.mets,s.next⟩ (by simp) r1.right (g r1 (by omega)) Z.1 am) ?_
     rintro r σ' ⟨rfl,rfl⟩
     simp[j,aj]
     refine zad (c.length-(i+1)) (by omega) ⟨i+1,rfl,by omega,by simp[f4],by simp[f2],by simp[f6],by simp[v],by simp[O],by simp[z],by simp[A],by simp, ?_⟩
     rw[ak,zt6]
    ·have an:i=c.length:=by omega
     subst an
     rw[ya0]
     simp[v]
     refine zam (zoB (k:=3) ⟨zb0 w c,s.mets,s.next⟩ (by simp) c4.right (g c4 (by omega))) ?_
     rintro r σ' ⟨rfl,rfl⟩
     have ao:(if(zb0 w c).moves= []then zb0 w c else zb2 (zb0 w c))=zos s.disk m (zdB m):=by rw[C,B];rfl
     simp only[ao]
     have kD:=λ(σ:zab) (h3:σ[3]? =some (.var 127 (wkC ⟨zos s.disk m (zdB m),s.mets,s.next⟩)))=>zlK (G:=G) (k:=3) ⟨zos s.disk m (zdB m),s.mets,s.next⟩ s (z5X m) h3 h.srt (by show s.mets.length≤1000;omega) (by show s.next≤1000000;have:=h.next;omega) (by show m.id≤_;omega)
     have aq:metC (z5X m)= [.int .i64 m.id,.str m.path,.lst rungsC,.int .i64 1,.int .i64 500000,.int .i64 1,.int .i64 500000,.lst (zan m.lad),.int .i64 (zaG m:Nat),.int .i64 0,.int .i64 0]:=rfl
     rw[aq]at kD
     simp only[shC]at kD
     simp[f2,f6,v,O,L,shC,metC,splice]
     refine zam (kD _ (by simp)) ?_
     rintro r σ' ⟨rfl,rfl⟩
     have hS:zqR s m (zdB m)=zbB ⟨zos s.disk m (zdB m),s.mets,s.next⟩ (z5X m):=rfl
     rw[hS]
     simp[f4,M,shC,splice]
  ·rw[if_neg K]
   simp[K,shC,splice]
end Go.Proofs.YtdbhocoeolhjhaaGreatDoor
end
section
set_option maxHeartbeats 8000000
namespace Go.Proofs.YtdbhocoeolhjhaaGreatDoor
open Go.Abs Go.RowKit Go.Sf Go.Num
variable {G:Globs}
theorem znB (l:List NameM)(hl:l.length≤1000000):PCalls Tryz.prog zhW [.lst (zao l),.lst (zao l)] (λr=>r=.bool true):=by
 refine zaa hmix zhA rfl ?_
 have e:=za6 l
 simp[zek]
 refine zag (λx f σ=>∃(i:Nat),x=l.length-i/\i≤l.length/\f 0=.lst (zao l)/\f 1=.lst (zao l)/\f 5=.int .i64 i/\σ= []) l.length ?_ ?_
 ·exact⟨0,by simp,by simp,by simp,by simp,by simp,by simp⟩
 rintro x f σ ⟨i,rfl,q,d,h,j,rfl⟩
 simp[d,j,e]
 refine zaq (λo=> ?_) (λp=> ?_)
 ·have b:i<l.length:=by omega
  have g:IntKind.i64.wrap ((i:Int)+1)=((i+1:Nat):Int):=by rw[wrap_i64 (by omega) (by omega)];omega
  obtain⟨a,m⟩:∃a,l[i]? =some a:=⟨_,yac b⟩
  have k:=zcH m
  obtain⟨n,c⟩:=yaa.1 k
  simp[d,h,j,k,c,zc5,zi5,g]
  exact zad (l.length-(i+1)) (by omega) ⟨i+1,rfl,by omega,by simp[d],by simp[h],by simp,rfl⟩
 ·simp
theorem zvy (l:Txt)(hl:l.length≤1000000000):PCalls Tryz.prog zlF [.lst (byteEls l),.lst (byteEls l)] (λr=>r=.bool true):=by
 refine zaa hmix zmk rfl ?_
 have e:=zaj l
 simp[zg8]
 refine zag (λx f σ=>∃(i:Nat),x=l.length-i/\i≤l.length/\f 0=.lst (byteEls l)/\f 1=.lst (byteEls l)/\f 5=.int .i64 i/\σ= []) l.length ?_ ?_
 ·exact⟨0,by simp,by simp,by simp,by simp,by simp,by simp⟩
 rintro x f σ ⟨i,rfl,q,d,h,j,rfl⟩
 simp[d,j,e]
 refine zaq (λo=> ?_) (λp=> ?_)
 ·have b:i<l.length:=by omega
  have g:IntKind.i64.wrap ((i:Int)+1)=((i+1:Nat):Int):=by rw[wrap_i64 (by omega) (by omega)];omega
  obtain⟨a,m⟩:∃a,l[i]? =some a:=⟨_,yac b⟩
  have k:=zeH m
  obtain⟨n,c⟩:=yaa.1 k
  simp[d,h,j,k,c,zbz,g]
  exact zad (l.length-(i+1)) (by omega) ⟨i+1,rfl,by omega,by simp[d],by simp[h],by simp,rfl⟩
 ·simp
theorem zuP:PCalls Tryz.prog zhI [.lst rungsC,.lst rungsC] (λr=>r=.bool true):=by
 refine zaa hmix zh9 rfl ?_
 simp[zdQ]
 refine zag (λx f σ=>∃(i:Nat),x=2-i/\i≤2/\f 0=.lst rungsC/\f 1=.lst rungsC/\f 5=.int .i64 i/\σ= []) 2 ?_ ?_
 ·exact⟨0,by simp,by simp,by simp,by simp,by simp,by simp⟩
 rintro x f σ ⟨i,rfl,e,a,b,c,rfl⟩
 have d:i=0∨i=1∨i=2:=by omega
 rcases d with rfl|rfl|rfl
 ·simp[a,b,c,rungsC,zi5,wk1]
  exact zad 1 (by omega) ⟨1,rfl,by omega,by simp[a,rungsC],by simp[b,rungsC],by simp,rfl⟩
 ·simp[a,b,c,rungsC,zi5,wk2]
  exact zad 0 (by omega) ⟨2,rfl,by omega,by simp[a,rungsC],by simp[b,rungsC],by simp,rfl⟩
 ·simp[a,c,rungsC]
theorem zsI:PCalls Tryz.prog zhi [.agg schC,.agg schC] (λr=>r=.bool true):=by
 refine zaa hmix zhp rfl ?_
 simp[zdL,schC]
 refine zac zuP (by simp[AV.pure]) ?_
 rintro r rfl
 simp
theorem zsy (m:MetM)(h:RightL m.lad):PCalls Tryz.prog zhc [.agg (metC m),.agg (metC m)] (λr=>r=.bool true):=by
 refine zaa hmix zhd rfl ?_
 have a:=znr (G:=G) m.lad h
 have b:=zsI (G:=G)
 simp only[ladC]at a
 simp only[schC]at b
 simp[zdH,metC]
 refine zac b (by simp[AV.pure]) ?_
 rintro r rfl
 simp
 refine zac a (by simp[AV.pure]) ?_
 rintro r rfl
 simp
theorem zrb (l:List MetM)(h:∀m∈l,RightL m.lad)(hl:l.length≤1000000):PCalls Tryz.prog zgL [.lst (zc0 l),.lst (zc0 l)] (λr=>r=.bool true):=by
 refine zaa hmix zgG rfl ?_
 have j:=zb9 l
 simp[zdx]
 refine zag (λx f σ=>∃(i:Nat),x=l.length-i/\i≤l.length/\f 0=.lst (zc0 l)/\f 1=.lst (zc0 l)/\f 5=.int .i64 i/\σ= []) l.length ?_ ?_
 ·exact⟨0,by simp,by simp,by simp,by simp,by simp,by simp⟩
 rintro x f σ ⟨i,rfl,u,e,o,g,rfl⟩
 simp[e,g,j]
 refine zaq (λs=> ?_) (λt=> ?_)
 ·have b:i<l.length:=by omega
  have k:IntKind.i64.wrap ((i:Int)+1)=((i+1:Nat):Int):=by rw[wrap_i64 (by omega) (by omega)];omega
  obtain⟨a,n⟩:∃a,l[i]? =some a:=⟨_,yac b⟩
  have p:=zhw n
  obtain⟨q,d⟩:=yaa.1 p
  have c:=zsy (G:=G) a (h a (yae n))
  simp only[metC]at c
  simp[e,o,g,p,d,metC]
  refine zap c (by simp[AV.pure]) (by simp) ?_
  simp[g,k]
  exact zad (l.length-(i+1)) (by omega) ⟨i+1,rfl,by omega,by simp[e],by simp[o],by simp,rfl⟩
 ·simp
theorem z1y {l:List MoveM}{i:Nat}{m:MoveM}(h:l[i]? =some m):(zbv l)[i]? =some (zdh m):=by simp[zbv,h]
theorem zwy (d:DiskM)(hl:Fits d):PCalls Tryz.prog zlr [.agg (zal d),.agg (zal d)] (λr=>r=.bool true):=by
 refine zaa hmix zmw rfl ?_
 have s:=zbJ d.files
 have t:(zbv d.moves).length=d.moves.length:=by simp[zbv]
 have y:=hl.nfiles
 have z:=hl.nmoves
 simp[zgx,zal]
 refine zac (znB d.names hl.nnames) (by simp[AV.pure]) ?_
 rintro r rfl
 simp
 refine zac (znB d.kept hl.nkept) (by simp[AV.pure]) ?_
 rintro r rfl
 simp
 obtain⟨D,c⟩:∃D:Entry,D=.var 30 (zal d):=⟨_,rfl⟩
 refine zag (λx f σ=>∃(i:Nat) (o:zab),x=d.files.length-i/\i≤d.files.length/\f 2=.ptr 0 0/\f 3=.ptr 1 0/\f 5=.int .i64 i/\σ=D::D::o) d.files.length ?_ ?_
 ·exact⟨0,[],by simp,by simp,by simp,by simp,by simp,by simp[c,zal]⟩
 rintro x f σ ⟨i,o,rfl,v,e,j,m,rfl⟩
 simp[e,m,c,zal,s]
 refine zaq (λp=> ?_) (λq=> ?_)
 ·have b:i<d.files.length:=by omega
  have h:IntKind.i64.wrap ((i:Int)+1)=((i+1:Nat):Int):=by rw[wrap_i64 (by omega) (by omega)];omega
  obtain⟨a,l⟩:∃a,d.files[i]? =some a:=⟨_,yac b⟩
  have k:=zcG l
  obtain⟨n,g⟩:=yaa.1 k
  have w:=zvy (G:=G) a.bytes (by have:=hl.bytes a (yae l);omega)
  simp
  refine⟨?_, ?_, ?_, ?_, ?_, ?_, ?_, ?_⟩
  all_goals
   simp[e,j,m,k,g,zbR,zal,c,zaQ,zay,zc7,zmg,splice]
   refine zac w (by simp[AV.pure]) ?_
   rintro r rfl
   simp[m,h]
   exact zad (d.files.length-(i+1)) (by omega) ⟨i+1,_,rfl,by omega,by simp[e],by simp[j],by simp,by simp[c,zal];rfl⟩
 ·simp
  clear m
  refine zag (λx f σ=>∃(i:Nat),x=d.moves.length-i/\i≤d.moves.length/\f 2=.ptr 0 0/\f 3=.ptr 1 0/\f 8=.int .i64 i/\σ=D::D::o) d.moves.length ?_ ?_
  ·exact⟨0,by simp,by simp,by simp[e],by simp[j],by simp,by simp[c,zal]⟩
  rintro x f σ ⟨i,rfl,v,e,j,u,rfl⟩
  simp[e,u,c,zal,t]
  refine zaq (λp=> ?_) (λq=> ?_)
  ·have b:i<d.moves.length:=by omega
   have h:IntKind.i64.wrap ((i:Int)+1)=((i+1:Nat):Int):=by rw[wrap_i64 (by omega) (by omega)];omega
   obtain⟨a,l⟩:∃a,d.moves[i]? =some a:=⟨_,yac b⟩
   have k:=z1y l
   obtain⟨n,g⟩:=yaa.1 k
   simp[e,j,u,k,g,zdh,zi5,h,c,zal]
   exact zad (d.moves.length-(i+1)) (by omega) ⟨i+1,rfl,by omega,by simp[e],by simp[j],by simp,by simp[c,zal]⟩
  ·simp
theorem zeU {s:ShM}{a k:Nat}(h:InvS s a k)(ha:a≤69)(hk:k≤100000):PCalls Tryz.prog zlo [.agg (shC s),.agg (shC s)] (λr=>r=.bool true):=by
 refine zaa hmix zlQ rfl ?_
 have c:=h.len
 have d:=zwy (G:=G) s.disk (h.size.fits (by omega) (by omega))
 have b:=zrb (G:=G) s.mets h.lad (by omega)
 simp only[zal]at d
 simp[zgu,shC]
 refine zac d (by simp[AV.pure]) ?_
 rintro r rfl
 simp
 refine zac b (by simp[AV.pure]) ?_
 rintro r rfl
 simp
def newS (q:Nat):ShM:=⟨⟨q,[],[],[],[],1⟩,[],1⟩
theorem z3a (q:Nat)(hq:q≤1000000):PCalls Tryz.prog zww [.int .i64 q] (λr=>r=.tup [.agg (shC (newS q)),.int .i64 0]):=by
 refine zaa hmix zw6 rfl ?_
 have kN:=z8Y (G:=G) q (by omega)
 simp only[zal]at kN
 simp[zoX]
 refine zac kN (by simp) ?_
 rintro r rfl
 simp[splice,shC,newS,zc0]
theorem z7F {q:Nat}(hq:q≤65535):InvS (newS q) 0 0:=by
 refine⟨⟨z2q (by omega),hq,by simp[newS],by simp[newS],by simp[newS],by simp[newS]⟩,by simp[newS,Srt],by simp[newS],by simp[newS],by simp[newS],by simp[newS],by simp[newS],by simp[newS],by simp[newS],by simp[newS],λt b=> ?_⟩
 obtain⟨x,a,_⟩:=b
 simp[newS]at a
end Go.Proofs.YtdbhocoeolhjhaaGreatDoor
end
section
set_option maxHeartbeats 1000000
namespace Go.Proofs.YtdbhocoeolhjhaaGreatDoor
open Go.Sf Go.Num
structure DotM where
 back:Nat
 later:Nat
 v:Int
structure ActM where
 kind:Nat
 met:Nat
 dots:List DotM
structure OkDot (d:DotM):Prop where
 b:d.back<256
 l:d.later<256
 v:i64 d.v
structure OkAct (a:ActM):Prop where
 k:a.kind<256
 m:a.met<256
 d:∀x∈a.dots,OkDot x
def zqH (now:Nat)(d:DotM):ArrM:=⟨now+d.later%30-d.back%80,d.v,now+d.later%30⟩
def ptsM (now:Nat):List DotM->List ArrM
 | []=> []
 |d::l=>zqH now d::ptsM (now+d.later%30) l
def nowM (now:Nat):List DotM->Nat
 | []=>now
 |d::l=>nowM (now+d.later%30) l
theorem z1j (now:Nat)(l:List DotM)(d:DotM):nowM now (l++ [d])=nowM now l+d.later%30:=by
 induction l generalizing now with
 |nil=>rfl
 |cons x l a=>exact a _
theorem z30 (now:Nat)(l:List DotM)(d:DotM):ptsM now (l++ [d])=ptsM now l++ [zqH (nowM now l) d]:=by
 induction l generalizing now with
 |nil=>rfl
 |cons x l a=>
  show zqH now x::ptsM _ (l++ [d])=_
  rw[a];rfl
theorem zs3 (now:Nat)(l:List DotM):(ptsM now l).length=l.length:=by
 induction l generalizing now with
 |nil=>rfl
 |cons x l a=>simp[ptsM,a]
theorem z2y (now:Nat)(l:List DotM):now≤nowM now l/\nowM now l≤now+30*l.length:=by
 induction l generalizing now with
 |nil=>exact⟨yap _,yap _⟩
 |cons x l a=>
  have:=a (now+x.later%30)
  have h:=ybz x.later (show 0<30 by omega)
  simp only[nowM,ybc]
  omega
theorem z8k {now:Nat}(hn:1000≤now){l:List DotM}(hl:now+30*l.length≤1000000)(hd:∀d∈l,OkDot d):∀a∈ptsM now l,OkA a:=by
 induction l generalizing now with
 |nil=>intro a b;cases b
 |cons x l e=>
  intro a b
  have h:=ybz x.later (show 0<30 by omega)
  have f:=ybz x.back (show 0<80 by omega)
  simp only[ybc]at hl
  rcases ybb.1 (show a∈zqH now x::ptsM (now+x.later%30) l from b)with rfl|b
  ·exact⟨by simp only[zqH];omega,by simp only[zqH];omega,by simp only[zqH];omega,by simp only[zqH];omega,(hd x (by simp)).v⟩
  ·exact e (by omega) (by omega) (λd c=>hd d (by simp[c])) a b
def zar (n:Nat):Txt:=P4.getD (n%4) []
theorem zbi (n:Nat):zar n∈P4:=by
 have:∀j<4,P4.getD j []∈P4:=by decide
 exact this _ (ybz _ (by omega))
theorem zzX {i j:Nat}(h:zar i=zar j):i%4=j%4:=by
 have:∀i<4,∀j<4,P4.getD i []=P4.getD j []->i=j:=by decide
 exact this _ (ybz _ (by omega)) _ (ybz _ (by omega)) h
theorem zmQ (n:Nat):zar (n%4)=zar n:=by simp[zar]
structure PlayM where
 came:Nat->List ArrM
 sure:Nat->Nat
 now:Nat
structure PlayInv (s:ShM)(p:PlayM)(q a k:Nat):Prop where
 inv:InvS s a k
 quota:s.disk.quota=q
 ok:∀j<4,∀x∈p.came j,OkA x/\OkV x
 len:∀j<4,(p.came j).length≤300*a
 has:∀j<4,hasK kM s.mets (zar j)↔p.came j≠ []
 lad:∀j<4,(za7 s (zar j)).lad=zba newL (p.came j)
theorem zlU {s:ShM}{p:Txt}(hs:Srt kM s.mets){m:MetM}(hm:m∈s.mets)(hp:m.path=p):za7 s p=m:=by
 have c:hasK kM s.mets p:=⟨m,hm,hp⟩
 obtain⟨a,b⟩:=zcT hs c
 exact zsq hs (yae a) hm (b.trans hp.symm)
theorem zy4 {s:ShM}{m:MetM}(hs:Srt kM s.mets)(p:Txt):(za7 (zbB s m) p).lad=if p=m.path then m.lad else(za7 s p).lad:=by
 have c:=zoE (m:=m) hs
 split
 ·rename_i h
  rw[zlU c ((zeP hs).2 (.inl rfl)) h.symm]
 ·rename_i h
  by_cases a:hasK kM s.mets p
  ·obtain⟨d,b⟩:=zcT hs a
   rw[zlU c ((zeP hs).2 (.inr ⟨yae d,by rw[b];exact h⟩)) b]
  ·rw[zf7 a,zf7 (by rw[zo9 hs];exact λe=>e.elim h a)]
   rfl
def addC (p:PlayM)(n:Nat)(bs:List ArrM)(now:Nat):PlayM:=⟨λj=>if j=n then p.came n++bs else p.came j,p.sure,now⟩
theorem zf8 (s:ShM)(m:MetM):(zbB s m).disk=s.disk:=by unfold zbB;split<;>rfl
theorem zu6 (s:ShM)(m:MetM)(bs:List ArrM):(zcC s m bs).disk.quota=s.disk.quota:=by
 unfold zcC
 rw[zf8]
 show(zqY s.disk m _).quota=_
 unfold zqY;split
 ·show(zaK s.disk m).quota=_;exact zeA _ _
 ·rfl
theorem zsp (d:DiskM)(l:List Txt):(zb0 d l).quota=d.quota:=by
 unfold zb0
 induction l generalizing d with
 |nil=>rfl
 |cons n l a=>exact a (zdo d n)
theorem zzQ (s:ShM)(m:MetM):(zhC s m).disk.quota=s.disk.quota:=by
 unfold zhC
 rw[zf8]
 show(zgn _).quota=_
 rw[zk7,zeA]
theorem z4V {s:ShM}{a k a' k':Nat}(h:InvS s a k)(ha:a≤a')(hk:k≤k'):InvS s a' k':=
 ⟨h.size.more ha hk,h.srt,h.paths,h.next,h.ids,h.idn,h.lad,λm b=>ycm (h.seq m b) ha,h.cnt,h.last,h.dir⟩
theorem zfj {s:ShM}{p:PlayM}{q a k a' k':Nat}(h:PlayInv s p q a k)(ha:a≤a')(hk:k≤k'):PlayInv s p q a' k':=
 ⟨z4V h.inv ha hk,h.quota,h.ok,λj b=>by have:=h.len j b;omega,h.has,h.lad⟩
theorem zjl {s:ShM}{p:PlayM}{q a k:Nat}(h:PlayInv s p q a k)(sure:Nat->Nat)(now:Nat):PlayInv s ⟨p.came,sure,now⟩ q a k:=⟨h.inv,h.quota,h.ok,h.len,h.has,h.lad⟩
theorem zpP {s:ShM}{p:PlayM}{q a k:Nat}(h:PlayInv s p q a k)(ha:a<69){n:Nat}(hn:n<4){bs:List ArrM}(hb:∀x∈bs,OkA x/\OkV x)(h0:bs≠ [])(hl:bs.length≤300)(hf:(zaW (za7 s (zar n)) bs).length≤s.disk.quota-zbf s.disk) (now:Nat):
  PlayInv (zcC s (za7 s (zar n)) bs) (addC p n bs now) q (a+1) (k+1):=by
 have m:=zyY h.inv (zbi n) ha hb hl hf
 have o:=h.inv.met (zbi n)
 have c:(metA (za7 s (zar n)) bs).path=zar n:=by unfold metA;split<;>exact o.path
 have g:(metA (za7 s (zar n)) bs).lad=zba (za7 s (zar n)).lad bs:=by unfold metA;split<;>rfl
 have f:∀j<4,zar j=zar n->j=n:=λj b e=>by have:=zzX e;omega
 refine⟨m,by rw[zu6];exact h.quota,λj b x i=> ?_,λj b=> ?_,λj b=> ?_,λj b=> ?_⟩
 ·simp only[addC]at i
  split at i
  ·rcases yag.1 i with d|d
   ·exact h.ok n hn x d
   ·exact hb x d
  ·exact h.ok j b x i
 ·have d:=h.len j b
  have r:=h.len n hn
  simp only[addC]
  split
  ·rw[yaj];omega
  ·omega
 ·unfold zcC
  rw[zo9 (s:={s with disk:=zqY s.disk _ _}) h.inv.srt,c]
  show zar j=zar n∨hasK kM s.mets (zar j)↔_
  simp only[addC]
  rw[h.has j b]
  split
  ·rename_i e;subst e
   simp[h0]
  ·rename_i e
   constructor
   ·rintro(d|d)
    ·exact absurd (f j b d) e
    ·exact d
   ·exact .inr
 ·unfold zcC
  rw[zy4 (s:={s with disk:=zqY s.disk _ _}) h.inv.srt,c,g]
  simp only[addC]
  by_cases e:j=n
  ·subst e
   rw[if_pos rfl,if_pos rfl,h.lad j b]
   simp[zba]
  ·rw[if_neg (λl=>e (f j b l)),if_neg e]
   exact h.lad j b
theorem zye {s:ShM}{p:PlayM}{q a k a' k':Nat}(h:PlayInv s p q a k){n:Nat}(hn:n<4)(hh:hasK kM s.mets (zar n))(D:DiskM){m:MetM}(hpath:m.path=zar n)(hlad:m.lad=(za7 s (zar n)).lad)(hI:InvS (zbB {s with disk:=D} m) a' k') (hq:D.quota=q) (haa:a≤a'):PlayInv (zbB {s with disk:=D} m) p q a' k':=by
 refine⟨hI,by rw[zf8];exact hq,h.ok,λj b=>by have:=h.len j b;omega,λj b=> ?_,λj b=> ?_⟩
 ·rw[zo9 (s:={s with disk:=D}) h.inv.srt,hpath]
  show zar j=zar n∨hasK kM s.mets (zar j)↔_
  rw[<-h.has j b]
  constructor
  ·rintro(c|c)
   ·rw[c];exact hh
   ·exact c
  ·exact .inr
 ·rw[zy4 (s:={s with disk:=D}) h.inv.srt,hpath,hlad]
  show(if zar j=zar n then(za7 s (zar n)).lad else(za7 s (zar j)).lad)=_
  split
  ·rename_i e;rw[<-e];exact h.lad j b
  ·exact h.lad j b
theorem z1c {s:ShM}{p:PlayM}{q a k:Nat}(h:PlayInv s p q a k){n:Nat}(hn:n<4)(hh:hasK kM s.mets (zar n)):PlayInv (zhC s (za7 s (zar n))) p q a k:=
 zye h hn hh _ (h.inv.met (zbi n)).path rfl (zs5 h.inv (zbi n)) (by rw[zk7,zeA];exact h.quota) (yap _)
theorem zuV {s:ShM}{p:PlayM}{q a k:Nat}(h:PlayInv s p q a k)(ha:a<69){n:Nat}(hn:n<4)(hh:hasK kM s.mets (zar n)){b:Txt}(hf:b.length≤s.disk.quota-zbf s.disk):PlayInv (zqR s (za7 s (zar n)) b) p q (a+1) k:=
 zye h hn hh _ (h.inv.met (zbi n)).path rfl (z4u h.inv (zbi n) ha hf) (by unfold zos;rw[zk7,zsp];exact(zeA _ _).trans h.quota) (by omega)
theorem zty {q:Nat}(hq:q≤65535):PlayInv (newS q) ⟨λ_=> [],λ_=>0,1000⟩ q 0 0:=
 ⟨z7F hq,rfl,by simp,by simp,λj a=>by simp[newS,hasK],λj a=>by rw[zf7 (by simp[newS,hasK])];rfl⟩
end Go.Proofs.YtdbhocoeolhjhaaGreatDoor
end
section
set_option maxHeartbeats 8000000
namespace Go.Sf
open Go.Abs
end Go.Sf
namespace Go.Proofs.YtdbhocoeolhjhaaGreatDoor
open Go.Abs Go.RowKit Go.Sf Go.Num
variable {G:Globs}
def dotC (d:DotM):List AV:= [.int .u8 d.back,.int .u8 d.later,.int .i64 d.v]
def zvJ (l:List DotM):List (List AV):=l.map dotC
def actC (a:ActM):List AV:= [.int .u8 a.kind,.int .u8 a.met,.lst (zvJ a.dots)]
def zs1 (l:List ActM):List (List AV):=l.map actC
theorem ztO (l:List DotM):(zvJ l).length=l.length:=by simp[zvJ]
theorem z1t {l:List DotM}{i:Nat}{d:DotM}(h:l[i]? =some d):(zvJ l)[i]? =some (dotC d):=by simp[zvJ,h]
theorem zuY (l:List ActM):(zs1 l).length=l.length:=by simp[zs1]
theorem zuA {l:List ActM}{i:Nat}{d:ActM}(h:l[i]? =some d):(zs1 l)[i]? =some (actC d):=by simp[zs1,h]
theorem zoG (n:Nat)(h:n<256):PCalls Tryz.prog zmc [.int .u8 n] (λr=>r=.str (zar n)):=by
 refine zaa hmix zlD rfl ?_
 have d:(n:Int).tmod 4=((n%4:Nat):Int):=zbM n 4
 have a:(n:Int)%4=((n%4:Nat):Int):=by omega
 obtain⟨j,c⟩:∃j,j=n%4:=⟨_,rfl⟩
 have b:j<4:=by omega
 have e:zar n=P4.getD j []:=by rw[c];rfl
 rw[<-c]at d a
 rw[e]
 simp[zgt,d]
 match j,b with
 |0,_=>simp[zgg,P4]
 |1,_=>simp[zgg,P4]
 |2,_=>simp[zgg,P4]
 |3,_=>simp[zgg,P4]
theorem zlg:PCalls Tryz.prog zkO [] (λr=>r=.agg schC):=by
 refine zaa hmix zkS rfl ?_
 simp[zgb,splice,schC,rungsC]
def zsn (l:List ActM):Nat:=l.length+(l.map λa=>a.dots.length).sum
def znZ (l:List ActM):Bool:=decide (300<zsn l)||decide (60<l.length)
def sumT (l:List ActM)(i:Nat):Nat:=l.length+((l.take i).map λa=>a.dots.length).sum
theorem z1g (l:List ActM)(hl:l.length≤1000000000000000)(hd:∀a∈l,a.dots.length≤1000000000000000):PCalls Tryz.prog zkV [.lst (zs1 l)] (λr=>r=.bool (znZ l)):=by
 refine zaa hmix zk6 rfl ?_
 have d:=zuY l
 have g:∀i,((l.take i).map λa=>a.dots.length).sum≤(l.map λa=>a.dots.length).sum:=λi=>by
  have e:l.map (λa=>a.dots.length)=(l.take i).map (λa=>a.dots.length)++(l.drop i).map λa=>a.dots.length:=by rw[<-ycw,yba]
  rw[e,List.sum_append];omega
 simp[zge,d]
 refine zag (λx f σ=>∃(i:Nat),x=l.length-i/\i≤l.length/\f 0=.lst (zs1 l)/\f 3=.int .i64 (sumT l i:Nat)/\f 4=.int .i64 i/\sumT l i≤300+1000000000000000+1000000000000000/\σ= []) l.length ?_ ?_
 ·exact⟨0,by simp,by simp,by simp,by simp[sumT],by simp,by simp[sumT];omega,by simp⟩
 rintro x f σ ⟨i,rfl,G,k,m,o,w,rfl⟩
 obtain⟨n,j⟩:∃n,n=sumT l i:=⟨_,rfl⟩
 rw[<-j]at m w
 simp[k,m,o,d]
 by_cases h:i<l.length
 ·by_cases q:n≤300
  ·have b:(n:Int)≤300:=by omega
   have y:IntKind.i64.wrap ((i:Int)+1)=((i+1:Nat):Int):=by rw[wrap_i64 (by omega) (by omega)];omega
   obtain⟨a,u⟩:∃a,l[i]? =some a:=⟨_,yac h⟩
   have D:=zuA u
   obtain⟨E,v⟩:=yaa.1 D
   have z:=ztO a.dots
   have F:=hd a (yae u)
   have A:IntKind.i64.wrap ((n:Int)+a.dots.length)=((n+a.dots.length:Nat):Int):=by rw[wrap_i64 (by omega) (by omega)];omega
   have B:l.take (i+1)=l.take i++ [a]:=by rw[yau,u];rfl
   have p:sumT l (i+1)=n+a.dots.length:=by
    unfold sumT at j⊢
    rw[B,ycw,List.sum_append]
    have:(([a]:List ActM).map λa=>a.dots.length).sum=a.dots.length:=by simp
    omega
   simp[h,q,b,k,m,o,D,v,actC,z,A,y, -Int.natCast_add]
   exact zad (l.length-(i+1)) (by omega) ⟨i+1,rfl,by omega,by simp[k],by rw[p];simp,by simp,by omega,rfl⟩
  ·have b:¬(n:Int)≤300:=by omega
   have H:=g i
   have s:300<zsn l:=by unfold zsn;unfold sumT at j;omega
   have t:300<n:=by omega
   have c:(300:Int)<n:=by omega
   simp[h,q,b,k,m,o,t,c,znZ,s]
 ·have C:i=l.length:=by omega
  subst C
  unfold sumT at j
  rw[ya0]at j
  have s:zsn l=n:=j.symm
  by_cases t:300<n
  ·have c:(300:Int)<n:=by omega
   simp[k,m,o,t,c,znZ,s]
  ·have c:¬(300:Int)<n:=by omega
   simp[k,m,o,t,c,znZ,s,d]
   omega
end Go.Proofs.YtdbhocoeolhjhaaGreatDoor
end
section
set_option maxHeartbeats 8000000
namespace Go.Abs
theorem z5p {K:AV->zab->Prop}{t:Tg K}{e size bytes:Nat}{σ τ:zab}{a:Entry}{v:AV}{l:List (List AV)}(h:AccT e size (σ.length+1) τ v l)(x:List AV)(hs:0<size)(hx:x.length=size)(hb:(l.length+1)*bytes≤140737488355328)(h63:l.length+1≤9223372036854775807)
  (hK:∀v' τ',AccT e size (σ.length+1) τ' v' (l++ [x])->(∀en∈τ',en∈τ∨en=.row e size (l++ [x]) true)->K v' (σ++a::τ')):ap K t (σ++a::τ) e size bytes v (.lst [x]):=by
 rw[<-app1]
 exact z0J (z9Y h) x hs hx hb h63 λv' τ' b d _ c=>by rw[app1];exact hK v' τ' (by simpa using b) c
end Go.Abs
namespace Go.Proofs.YtdbhocoeolhjhaaGreatDoor
open Go.Abs Go.RowKit Go.Sf Go.Num
variable {G:Globs}
def plC (C0 C1 C2 C3:AV)(s0 s1 s2 s3:Int)(now:Nat):List AV:= [C0,C1,C2,C3,.int .i64 s0,.int .i64 s1,.int .i64 s2,.int .i64 s3,.int .i64 now]
def CameOK (σ:zab)(C:AV)(l:List ArrM):Prop:=(C=.nils/\l= [])∨∃id,C=.row id l.length/\σ[id]? =some (.row 91 4 (zbl l) true)
def LowC (σ:zab)(C:AV):Prop:=C=.nils∨∃id n,C=.row id n/\id<σ.length
theorem LowC.one {σ:zab}{C:AV}(h:LowC σ C):C.one=true/\C.cells= [C]:=by
 rcases h with rfl|⟨id,n,rfl,_⟩<;>exact⟨rfl,rfl⟩
theorem LowC.under {σ:zab}{C:AV}(h:LowC σ C){m:Nat}(hm:σ.length≤m):C.under m=true:=by
 rcases h with rfl|⟨id,n,rfl,h⟩
 ·simp[AV.under]
 ·simp[AV.under];omega
theorem CameOK.low {σ:zab}{C:AV}{l:List ArrM}(h:CameOK σ C l):LowC σ C:=by
 rcases h with ⟨rfl,_⟩|⟨id,rfl,h⟩
 ·exact .inl rfl
 ·exact .inr ⟨id,_,rfl,(yaa.1 h).1⟩
theorem CameOK.coe {σ:zab}{C:AV}{l:List ArrM}(h:CameOK σ C l)(lend:Bool):Coe σ lend C (.lst (zbl l)):=by
 rcases h with ⟨rfl,rfl⟩|⟨id,rfl,h⟩
 ·exact .nils
 ·exact .row id _ _ 4 _ true h (zcE l) (.inl rfl)
theorem CameOK.view {σ:zab}{C:AV}{l:List ArrM}(h:CameOK σ C l):view σ C=some (zbl l):=by
 rcases h with ⟨rfl,rfl⟩|⟨id,rfl,h⟩
 ·rfl
 ·simp[Abs.view,h,zcE]
theorem z3H {σ:zab}{k:Nat}{C0 C1 C2 C3:AV}{s0 s1 s2 s3:Int}{now:Nat}(l0:LowC σ C0)(l1:LowC σ C1)(l2:LowC σ C2)(l3:LowC σ C3)
  (hk:σ[k]? =some (.var 42 (plC C0 C1 C2 C3 s0 s1 s2 s3 now))) (a:ActM) (ha:OkAct a) (hl:a.dots.length≤300) (hn1:1000≤now) (hn2:now≤600000):
  ACalls Tryz.prog zgF [.ptr k 0,.agg (actC a)] σ (λr σ'=>∃tl,σ'=σ.set k (.var 42 (plC C0 C1 C2 C3 s0 s1 s2 s3 (nowM now a.dots)))++ .var 47 (actC a)::tl/\AccT 91 4 (σ.length+1) tl r (zbl (ptsM now a.dots))/\∀en∈tl,∃l,en=.row 91 4 (zbl l) true):=by
 refine zaf hmix zgK rfl ?_
 have O:=ztO a.dots
 have o0:=l0.one
 have o1:=l1.one
 have o2:=l2.one
 have o3:=l3.one
 obtain⟨A,Z⟩:∃A:Entry,A=.var 47 (actC a):=⟨_,rfl⟩
 obtain⟨V,hV⟩:∃V:Nat->Entry,V=λn=> .var 42 (plC C0 C1 C2 C3 s0 s1 s2 s3 n):=⟨_,rfl⟩
 have h:∀n,V n=.var 42 (plC C0 C1 C2 C3 s0 s1 s2 s3 n):=λn=>by rw[hV]
 have q:σ.set k (V now)=σ:=by
  obtain⟨s,hx⟩:=yaa.1 hk
  rw[h,<-hx,ycf]
 simp[zd4,actC]
 refine zag (λx f σ'=>∃(i:Nat) (tl:zab),x=a.dots.length-i/\i≤a.dots.length/\f 0=.ptr k 0/\f 3=.ptr σ.length 0/\f 6=.int .i64 i/\AccT 91 4 (σ.length+1) tl (f 5) (zbl (ptsM now (a.dots.take i)))/\(∀en∈tl,∃l,en=.row 91 4 (zbl l) true)/\σ'=σ.set k (V (nowM now (a.dots.take i)))++A::tl) a.dots.length ?_ ?_
 ·exact⟨0,[],by simp,by simp,by simp,by simp,by simp,by simp[ptsM,zbl];exact zjD,by simp,by simp[nowM,q,Z,actC]⟩
 rintro x f σ' ⟨i,tl,rfl,hi,f0,J,K,e,p,rfl⟩
 have w:∀(x:Entry) (t:zab),(σ.set k x++A::t)[σ.length]? =some A:=λx t=>by
  have:σ.length=(σ.set k x).length:=by simp
  rw[this,zaQ]
 have P:∀(x:Entry) (t:zab),(σ.set k x++t)[k]? =some x:=λx t=>zaP (zaY hk x) t
 have Q:∀(x y:Entry) (t:zab),(σ.set k x++t).set k y=σ.set k y++t:=λx y t=>by
  rw[zkk (zaY hk x),List.set_set]
 have m:A=.var 47 [.int .u8 a.kind,.int .u8 a.met,.lst (zvJ a.dots)]:=Z
 simp[J,K,w]
 simp[m,O]
 rw[<-m]
 refine zaq (λs=> ?_) (λab=> ?_)
 ·have z:i<a.dots.length:=by omega
  have R:IntKind.i64.wrap ((i:Int)+1)=((i+1:Nat):Int):=by rw[wrap_i64 (by omega) (by omega)];omega
  obtain⟨d,G⟩:∃d,a.dots[i]? =some d:=⟨_,yac z⟩
  have hc:=z1t G
  obtain⟨aa,H⟩:=yaa.1 hc
  have B:a.dots.take (i+1)=a.dots.take i++ [d]:=by rw[yau,G];rfl
  have C:=ha.d d (yae G)
  have D:=z2y now (a.dots.take i)
  have E:(a.dots.take i).length≤300:=by simp;omega
  obtain⟨n,I⟩:∃n,n=nowM now (a.dots.take i):=⟨_,rfl⟩
  have S:nowM now (a.dots.take (i+1))=n+d.later%30:=by rw[B,z1j,<-I]
  have T:ptsM now (a.dots.take (i+1))=ptsM now (a.dots.take i)++ [zqH n d]:=by rw[B,z30,<-I]
  rw[<-I]at D⊢
  have ad:=ybz d.later (show 0<30 by omega)
  have ae:=ybz d.back (show 0<80 by omega)
  have wl:IntKind.i64.wrap (d.later:Int)=d.later:=wrap_i64 (by omega) (by have:=C.l;omega)
  have wb:IntKind.i64.wrap (d.back:Int)=d.back:=wrap_i64 (by omega) (by have:=C.b;omega)
  have U:(d.later:Int).tmod 30=((d.later%30:Nat):Int):=zbM d.later 30
  have W:(d.back:Int).tmod 80=((d.back%80:Nat):Int):=zbM d.back 80
  have wn:IntKind.i64.wrap ((n:Int)+((d.later%30:Nat):Int))=((n+d.later%30:Nat):Int):=by rw[wrap_i64 (by omega) (by omega)];omega
  have wt:IntKind.i64.wrap (((n+d.later%30:Nat):Int)-((d.back%80:Nat):Int))=((n+d.later%30-d.back%80:Nat):Int):=by rw[wrap_i64 (by omega) (by omega)];omega
  simp[f0,J,K,w,P,Q,h,plC,m,hc,H,dotC,wl,wb,U,W,wn,wt,splice, -Int.natCast_add, -Int.natCast_emod]
  have af:(zbl (ptsM now (a.dots.take i))).length≤300:=by rw[zcE,zs3];exact E
  refine z5p (bytes:=32) (by simpa using e) [.int .i64 (n+d.later%30-d.back%80:Nat),.int .i64 d.v,.int .i64 (n+d.later%30:Nat),.int .i64 0] (by decide) rfl (by omega) (by omega) λv' τ' L M=> ?_
  have o:zbl (ptsM now (a.dots.take (i+1)))=zbl (ptsM now (a.dots.take i))++ [[.int .i64 (n+d.later%30-d.back%80:Nat),.int .i64 d.v,.int .i64 (n+d.later%30:Nat),.int .i64 0]]:=by
   rw[T];simp[zbl,arrC,zqH]
  simp[K,R]
  refine zad (a.dots.length-(i+1)) (by omega) ⟨i+1,τ',rfl,by omega,by simp[f0],by simp[J],by simp, ?_,λen he=> ?_, ?_⟩
  ·rw[o]
   simpa using L
  ·rcases M en he with u|u
   ·exact p en u
   ·exact⟨_,by rw[u,<-o]⟩
  ·rw[S,h]
   simp[plC,m]
 ·have X:i=a.dots.length:=by omega
  subst X
  rw[ya0]at e⊢
  simp
  have s:=(yaa.1 hk).1
  have Y:(f 5).under (σ.set k (V (nowM now a.dots))++A::tl).length=true:=by
   refine e.under ?_
   simp;omega
  refine zav (σ.set k (V (nowM now a.dots))++A::tl) (f 5) (by simp[za5]) [] (by simp) (by simp) Y (λj e' c=> ?_) ⟨tl,by rw[h],e,p⟩
  have ag:σ.length≤(σ.set k (V (nowM now a.dots))++A::tl).length:=by simp
  have g:σ.length≤σ.length+(tl.length+1):=by omega
  by_cases hj:j<σ.length
  ·rw[yam (by simpa using hj)]at c
   by_cases F:k=j
   ·subst F
    rw[zaY hk]at c
    cases c
    right
    rw[h]
    simp[Entry.under,plC,AV.under]
    exact⟨l0.under g,l1.under g,l2.under g,l3.under g⟩
   ·rw[yai F]at c
    exact .inl c
  ·rw[yak (by simpa using yed hj)]at c
   right
   rcases ybb.1 (yae c)with rfl|u
   ·rw[m];simp[Entry.under,AV.under]
   ·obtain⟨l,rfl⟩:=p e' u
    exact za3 (zhy l).2.1
end Go.Proofs.YtdbhocoeolhjhaaGreatDoor
end
section
set_option maxHeartbeats 8000000
namespace Go.Proofs.YtdbhocoeolhjhaaGreatDoor
open Go.Abs Go.RowKit Go.Sf Go.Num
variable {G:Globs}
theorem zwD (c0 c1 c2 c3:List ArrM)(s0 s1 s2 s3:Int)(now:Nat)(j:Nat)(c:List ArrM)(hj:(j=0/\c=c0)∨(j=1/\c=c1)∨(j=2/\c=c2)∨(j=3/\c=c3))(hc:∀a∈c,OkA a/\OkV a)(hcl:c.length≤1000000)(bs:List ArrM)(hb:∀a∈bs,OkA a)(hl:bs.length≤1000):
  PCalls Tryz.prog zga [.rptr [.lst (zbl c0),.lst (zbl c1),.lst (zbl c2),.lst (zbl c3),.int .i64 s0,.int .i64 s1,.int .i64 s2,.int .i64 s3,.int .i64 now],.int .i64 j,.lst (zbl bs)] (λr=>r=.bool (decide (∀a∈bs,OkV a))):=by
 refine zaa hmix zfR rfl ?_
 have A:=zcE bs
 have B:=z1K (G:=G) c hc hcl
 have I:=zdm zeG hc
 obtain⟨L,K⟩:∃L,L=zba newL c:=⟨_,rfl⟩
 rw[<-K]at B I
 simp only[ladC]at B
 have s:∀{P:Prop},(∀(x:List ArrM),x=c->P)->P:=λh=>h c rfl
 rcases hj with ⟨rfl,rfl⟩|⟨rfl,rfl⟩|⟨rfl,rfl⟩|⟨rfl,rfl⟩
 all_goals
  simp[zcS]
  refine zbu zlg (by simp) ?_
  simp[zbz]
  refine zbu B (by simp[AV.pure,schC]) ?_
  simp[splice]
  refine zag (λx f σ=>∃(i:Nat) (H:zab),x=bs.length-i/\i≤bs.length/\(∀a∈bs.take i,OkV a)/\f 2=.lst (zbl bs)/\f 7=.ptr 0 0/\f 8=.int .i64 i/\σ=.var 55 (ladC (zba L (bs.take i)))::H) bs.length ?_ ?_
  ·exact⟨0,[],by simp,by simp,by simp,by simp,by simp,by simp,by simp[ladC,zba]⟩
  rintro x f σ ⟨i,H,rfl,T,p,w,y,z,rfl⟩
  simp[w,z,A]
  refine zaq (λO=> ?_) (λQ=> ?_)
  ·have k:i<bs.length:=by omega
   have C:IntKind.i64.wrap ((i:Int)+1)=((i+1:Nat):Int):=by rw[wrap_i64 (by omega) (by omega)];omega
   obtain⟨a,o⟩:∃a,bs[i]? =some a:=⟨_,yac k⟩
   have l:=zma o
   obtain⟨M,u⟩:=yaa.1 l
   have d:=hb a (yae o)
   have m:bs.take (i+1)=bs.take i++ [a]:=by rw[yau,o];rfl
   have J:RightL (zba L (bs.take i)):=zdm I λx g=>⟨hb x (yan g),p x g⟩
   simp[w,y,z,l,u,arrC,ladC,splice,zbz]
   by_cases b:OkV a
   ·have e:=znP (G:=G) _ J a.time a.now a.value d.t d.n d.le d.ge d.v b
    have D:zc3 (zba L (bs.take i)) a.time a.now a.value=zba L (bs.take (i+1)):=by rw[m,zgS];rfl
    rw[D]at e
    simp only[ladC]at e
    refine zbu e (by simp[AV.pure]) ?_
    simp[y,z,zai,zak,splice,ladC,C]
    refine zad (bs.length-(i+1)) (by omega) ⟨i+1,_,rfl,by omega,λx g=> ?_,by simp[w],by simp[y],by simp,by simp[ladC];rfl⟩
    rw[m]at g
    rcases yag.1 g with q|q
    ·exact p x q
    ·simp at q;subst q;exact b
   ·have E:a.value= -9223372036854775808:=Classical.not_not.1 b
    have e:=z1x (G:=G) (zba L (bs.take i)) J a.time a.now (by have:=d.t;omega) (by have:=d.n;omega)
    have S:¬∀a∈bs,OkV a:=λR=>b (R a (yae o))
    simp only[ladC]at e
    rw[E]
    refine zbu e (by simp[AV.pure]) ?_
    rw[decide_eq_false S]
    simp
  ·have F:i=bs.length:=by omega
   subst F
   rw[ya0]at p
   rw[decide_eq_true p]
   simp
end Go.Proofs.YtdbhocoeolhjhaaGreatDoor
end
