import Derived.Test.YtdbhocoeolhjhaaGreatDoorRows
import Derived.Lib.LaidIn
import Derived.Lib.LaidU8
import Derived.Stop.LaidErr
import Derived.Shelf.Vars
import Derived.SevenTiedAt
import Derived.Test.YtdbhocoeolhjhaaGreatDoorBn11
set_option maxHeartbeats 32000000
set_option linter.unusedSimpArgs false
set_option linter.unusedVariables false
set_option linter.constructorNameAsVariable false
namespace Go.Proofs.YtdbhocoeolhjhaaGreatDoor
open Go.Abs Go.RowKit Go.Sf Go.Num
variable {G:Globs}
theorem zw3 (p:Txt):PT 123 [.agg (zbS p)] (λr=>r=.agg schC):=by refine pwP zs5 ?_;simp[zls,zbS,splice,schC]
theorem z1w:PT 188 [.lst rungsC,.lst rungsC] (λr=>r=.bool true):=by
 refine pwP zeE ?_;simp[zcr,rungsC];refine zac (λx f σ=>∃(i:Nat),x=2-i/\i<=2/\f 0=.lst rungsC/\f 1=.lst rungsC/\f 12=.int .i64 2/\f 13=.int .i64 i/\σ= []) 2 ?_ ?_;.exact⟨0,by simp,by simp,by simp[rungsC],by simp[rungsC],by simp⟩
 rintro x f σ ⟨i,rfl,g,c,d,a,b,rfl⟩;have e:i=0∨i=1∨i=2:=by omega
 rcases e with rfl|rfl|rfl;.simp[c,d,a,b,rungsC,zil,wk1];exact nx_i ⟨1,rfl,by omega,by simp[c,rungsC],by simp[d,rungsC],by simp[a],by simp,rfl⟩
 .simp[c,d,a,b,rungsC,zil,wk2];exact nx_i ⟨2,rfl,by omega,by simp[c,rungsC],by simp[d,rungsC],by simp[a],by simp,rfl⟩
 .simp[a,b]
theorem zy3 (p:Txt):PT 125 [.agg (zbS p),.agg (zbS p)] (λr=>r=.bool true):=by refine pwP zpP ?_;simp[ziQ,zbS];refine zad z1w ?_;simp
theorem z8o (a:ArrM):PT 183 [.agg (recC (ptR a))] (λr=>r=.bool false):=by refine pwP zsG ?_;simp[zlc,ptR,recC,zbV]
theorem zwl (g:List ArrM)(hl:g.length<=1000000):PT 182 [.lst ((g.map ptR).map recC),.fn (.func 183) [] []] (λr=>r=.bool false):=by
 have m:PT 231 [.lst ((g.map ptR).map recC),.fn (.func 183) [] []] (λr=>r=.int .i64 (-1)):=by
  refine pwP zcV ?_;have b:((g.map ptR).map recC).length=g.length:=by simp
  obtain⟨L,h⟩:∃L,L=(g.map ptR).map recC:=⟨_,rfl⟩;rw[<-h]at b⊢;simp[zbn,gIX];refine zac (λx f σ=>∃(i:Nat),x=g.length-i/\i<=g.length/\f 0=.lst L/\f 1=.fn (.func 183) [] []/\f 7=.int .i64 g.length/\f 8=.int .i64 i/\σ= []) g.length ?_ ?_;.exact⟨0,by simp,by simp,by simp,by simp,by simp[b],by simp⟩
  rintro x f σ ⟨i,rfl,v,j,k,l,d,rfl⟩;simp[l,d];refine zap (λt=> ?_) (λu=> ?_);.have c:i<g.length:=(by omega);have e:=wS i (by omega);obtain⟨a,p⟩:=gE c;have n:L[i]? =some (recC (ptR a)):=(by rw[h];simp[p]);obtain⟨q,s⟩:=yaa.1 n;have o:=z8o (G:=G) a;simp only[ptR,recC,zbV]at o;simp[j,k,d,n,ptR,recC,zbV];refine zvX zs8 ?_;refine zad o ?_;simp[d,e];exact nx_i ⟨i+1,rfl,by omega,by simp[j],by simp[k],by simp[l],by simp,rfl⟩
  .simp
 rw[yd0]at m⊢;refine pwP zcE ?_;simp[zaZ];refine zad m ?_;simp
theorem zzG (l:LadM):((zeJ l).map slM).map recC=zfU (zeJ l):=by simp[zfU,yd0];intro a _;rfl
theorem zAX [GMaxL](hT:zhx G)(d:DiskM)(h:RightM d)(hl:Fits d)(r:RdM)(ho:OkRd r){f:FileM}{tn:Txt}(hA:At d r.name f)(hb:f.bytes=zbQ r.path r.recs++tn)(ht:Torn tn)(htc:r.kind=kindC->tn= [])(hbl:f.bytes.length<=1000000):PT 118 [.agg (zag d),.str r.name] (λx=>x=.tup [.agg (rdC r),.bool true]):=by
 refine pwP zj6 ?_;have q:okS r.name:=zcz r.id ho.id5 r.seq ho.q70 r.kind (kd3 r.kd);have s:decide (r.kind≠zdv)=true:=by rcases r.kd with e|e<;>rw[e]<;>decide
 have i:∀P∈P4,P≠ []/\P.length<=100:=by decide
 have m:=zpV (G:=G) r.id r.seq r.kind ho.id1 ho.id5 ho.q1 ho.q70 (r.kd.imp id .inl);have n:=z0k (G:=G) d r.name h hl q hA;have o:∀x∈r.recs,OkR x:=λx p=>by
  unfold RdM.recs at p;split at p;.rename_i l hl;exact zDE (z4o (ho.lad l hl)) x p
  .rename_i g A;exact z3H (ho.pts g A) x p
 have j:=z1J (G:=G) hT r.path (i _ ho.path).1 (i _ ho.path).2 r.recs o tn ht (by rw[<-hb];exact hbl);have t:=z0u (G:=G) ho.path;have k:=zw3 (G:=G) r.path;have kN:=zrH (G:=G);have u:=zae f.bytes;rw[<-hb]at j;simp only[zag]at n;simp only[zbS]at j k;simp only[schC,ladC]at kN;have B:zaj r.id r.seq r.kind=r.name:=rfl;rw[B,s]at m;simp[zgZ,zag];refine zc1 m ?_;rintro x rfl;simp[splice];refine zc1 n ?_;rintro x rfl;simp;refine zc1 j ?_;rintro x rfl;simp[splice];refine zc1 t ?_;rintro x rfl;simp;refine zc1 k ?_;rintro x rfl;simp[schC];refine zc1 kN ?_;rintro x rfl;cases b:r.body with
 |inl l=>
  have a:r.kind=kindC:=by unfold RdM.kind;rw[b]
  have c:r.recs.map recC=zfU (zeJ l):=by unfold RdM.recs;rw[b];exact zzG l
  have v:=z0d (G:=G) (zeJ l) (zzT (ho.lad l b)) (by have:=zqo (ho.lad l b);omega);simp only[schC,ladC]at v;rw[<-c]at v;simp[splice,a,kindC];refine zc1 k ?_;rintro x rfl;simp[schC];refine zc1 v ?_;rintro x rfl;have w:(zbQ r.path r.recs).length=f.bytes.length:=by rw[hb,htc a,ybi]
  simp[splice,u,rdC,a,kindC,w]
 |inr g=>
  have a:r.kind=kindP:=by unfold RdM.kind;rw[b]
  have c:r.recs=g.map ptR:=by unfold RdM.recs;rw[b]
  have y:g.length<=1000000:=by rw[hb,c]at hbl;have C:=zrG (g.map ptR);simp only[zbQ,yag,ybn]at hbl C;omega
  have z:=zwl (G:=G) g y;rw[<-c]at z;simp[splice,a,kindP];refine zc1 z ?_;rintro x rfl;simp[splice,rdC,a,kindP]
def ztz:List AV:= [.str [],.int .i64 0,.int .i64 0,.str []]++zne++ [.lst []]
theorem z9t [GMaxL](d:DiskM)(id q:Nat)(h1:1<=id)(h5:id<71)(q1:1<=q)(q70:q<70):PT 118 [.agg (zag d),.str (zaj id q zdv)] (λx=>x=.tup [.agg ztz,.bool false]):=by refine pwP zj6 ?_;have a:=zpV (G:=G) id q zdv h1 h5 q1 q70 (.inr (.inr rfl));rw[show decide (zdv≠zdv)=false from rfl]at a;simp[zgZ,zag];refine zc1 a ?_;rintro x rfl;simp[splice,ztz,zne]
theorem z7X [GMaxL](d:DiskM)(h:RightM d)(hl:Fits d)(id q:Nat)(h1:1<=id)(h5:id<71)(q1:1<=q)(q70:q<70){P:Txt}(hP:P∈P4){f:FileM}(hA:At d (zaj id q kindP) f)(hb:zu7 P f.bytes):PT 118 [.agg (zag d),.str (zaj id q kindP)] (λx=>x=.tup [.agg ztz,.bool false]):=by
 refine pwP zj6 ?_;have a:=zpV (G:=G) id q kindP h1 h5 q1 q70 (.inl rfl);rw[show decide (kindP≠zdv)=true from rfl]at a;have b:∀P∈P4,P≠ []/\P.length<=100:=by decide
 have c:=z0k (G:=G) d _ h hl (zcz id h5 q q70 kindP (by simp)) hA;have e:=z2O (G:=G) P f.bytes (b P hP).2 hb.1 (by rw[<-zbd];exact hb.2);simp only[zag]at c;simp only[zne]at e;simp[zgZ,zag];refine zc1 a ?_;rintro x rfl;simp[splice];refine zc1 c ?_;rintro x rfl;simp;refine zc1 e ?_;rintro x rfl;simp[splice,ztz,zne]
end Go.Proofs.YtdbhocoeolhjhaaGreatDoor
namespace Go.Proofs.YtdbhocoeolhjhaaGreatDoor
open Go.Shelf Go.RowKit Go.Lib Go.Sort Go.Proofs Go.Sf Go.Abs
def krR (r:RdM):Nat:=match r.body with
 | .inl _=>0
 | .inr _=>1
def ltR (x y:RdM):Prop:=x.id<y.id∨(x.id=y.id/\(x.seq<y.seq∨(x.seq=y.seq/\krR x<krR y)))
instance (x y:RdM):Decidable (ltR x y):=by unfold ltR;infer_instance
def cmpR (x y:RdM):Int:=or3 (Lib.compareInt x.id y.id) (Lib.compareInt x.seq y.seq) (cmpB ⟨x.kind.toArray⟩ ⟨y.kind.toArray⟩)
theorem z59 (x y:RdM):cmpB ⟨x.kind.toArray⟩ ⟨y.kind.toArray⟩=Lib.compareInt (krR x) (krR y):=by
 have a:cmpB ⟨kindC.toArray⟩ ⟨kindC.toArray⟩=0:=by kernel_rfl
 have b:cmpB ⟨kindC.toArray⟩ ⟨kindP.toArray⟩= -1:=by kernel_rfl
 have c:cmpB ⟨kindP.toArray⟩ ⟨kindC.toArray⟩=1:=by kernel_rfl
 have d:cmpB ⟨kindP.toArray⟩ ⟨kindP.toArray⟩=0:=by kernel_rfl
 unfold RdM.kind krR;cases x.body<;>cases y.body<;>simp[a,b,c,d,Lib.compareInt]
theorem zDJ (x y:RdM):decide (cmpR x y<0)=decide (ltR x y):=by unfold cmpR ltR or3;rw[z59];unfold Lib.compareInt;congr 1;refine propext ?_;split<;>split<;>(try split)<;>(try split)<;>(try split)<;>(try split)<;>omega
section
variable {κ:Key}{Im:Addr->Prop}{w:World}
def cfR (x y:SRd κ Im w):Int:=cmpR (rdR x) (rdR y)
theorem ltC (x y:SRd κ Im w):ltOf cfR x y=decide (ltR (rdR x) (rdR y)):=zDJ _ _
theorem swoC:SWO (ltOf (cfR (κ:=κ) (Im:=Im) (w:=w))) where
 irrefl x:=by rw[ltC];refine decide_eq_false ?_;unfold ltR;omega
 trans x y z a b:=by rw[ltC]at a b⊢;have a:=of_decide_eq_true a;have b:=of_decide_eq_true b;refine decide_eq_true ?_;unfold ltR at*;omega
 ntrans x y z a b:=by rw[ltC]at a b⊢;have a:=of_decide_eq_false a;have b:=of_decide_eq_false b;refine decide_eq_false ?_;unfold ltR at*;omega
theorem z2N {r:RdM}{l:List Value}(h:VRL κ Im w (rdC r) l):∃x0 x1 x2 x3 x4 x5 x6 x7 x8 x9,l= [.string ⟨r.name.toArray⟩,.int .i64 r.id,.int .i64 r.seq,.string ⟨r.kind.toArray⟩,x0,x1,x2,x3,x4,x5,x6,x7,x8,x9]:=by
 obtain⟨v,f,m⟩:=h.get? (i:=0) (a:=.str r.name) rfl;obtain⟨x,g,n⟩:=h.get? (i:=1) (a:=.int .i64 r.id) rfl;obtain⟨y,j,o⟩:=h.get? (i:=2) (a:=.int .i64 r.seq) rfl;obtain⟨z,k,p⟩:=h.get? (i:=3) (a:=.str r.kind) rfl;have q:=m.str_inv;have s:=n.int_inv;have t:=o.int_inv;have u:=p.str_inv;subst q;subst s;subst t;subst u;have e:14=l.length:=h.1
 match l,e with
 | [a,b,c,d,x0,x1,x2,x3,x4,x5,x6,x7,x8,x9],_=>simp at f g j k;subst f;subst g;subst j;subst k;exact⟨x0,x1,x2,x3,x4,x5,x6,x7,x8,x9,rfl⟩
theorem z9m [Inhabited (SRd κ Im w)](blk off size:Nat)(w':World):CmpLays Tryz.prog 120 #[] (zd6 (κ:=κ) (Im:=Im) (w:=w)) 14 cfR blk off size w':=λ_ _ _ _ x y=>by obtain⟨c,d,e,f,g,h,i,j,k,l,m⟩:=z2N x.2;obtain⟨n,o,p,q,r,s,t,u,v,z,A⟩:=z2N y.2;have a:zd6 x=_:=m;have b:zd6 y=_:=A;rw[a,b];exact z2b _ _ _ _ _ _ _ _ c d e f g h i j k l n o p q r s t u v z _
theorem z7A [Inhabited (SRd κ Im w)]{l:List (SRd κ Im w)}{d:Array (SRd κ Im w)}(h:PermIn 0 l.toArray.size l.toArray d):d.toList.Perm l:=by
 obtain⟨b,_,a⟩:=h;have c:(d.extract 0 l.toArray.size).toList=d.toList:=by rw[<-b];simp
 have e:(l.toArray.extract 0 l.toArray.size).toList=l:=by simp
 rw[c,e]at a;exact a
theorem z2n [Inhabited (SRd κ Im w)]{l:List (SRd κ Im w)}{d:Array (SRd κ Im w)}(ho:∀x∈d.toList,OkRd (rdR x))(hs:d.size=l.length)(h:SortedIn (ltOf cfR) 0 l.toArray.size d):d.toList.Pairwise λa b=>kR (rdR a)<=kR (rdR b):=by
 rw[ybm];intro i j k m e;have c:j<d.size:=by simpa using m
 have f:i<d.size:=by simpa using k
 have:=h i j (ycm _) e (by simpa[hs]using c);rw[ltC,getElem!_pos d j c,getElem!_pos d i f]at this;have o:=(ho _ (yaw k)).q70;have p:=(ho _ (yaw m)).q70;have g:∀a b:RdM,a.seq<70->b.seq<70->¬ltR b a->kR a<=kR b:=λa b q r n=>by simp only[ltR]at n;simp only[kR];omega
 exact g _ _ o p (by simpa using this)
end
variable {G:Globs}
theorem z2E {σ:zaa}:AT 119 [.nils,.fn (.func 120) [] []] σ λr σ'=>r=.tup []/\σ'=σ:=by
 intro base κ Im w m o g;obtain⟨q,c,f⟩:=g.get? (i:=0) (a:=.nils) rfl;obtain⟨l,d,n⟩:=g.get? (i:=1) (a:=.fn (.func 120) [] []) rfl;have p:=f.nils_inv;subst p;have k:m= [.slice none 0 0,l]:=by
  have e:=g.1
  match m,e with
  | [a,b],_=>simp at c d;rw[c,d]
 subst k;refine Calls.mono (AnyF.slices_SortFunc_none Tryz.sortRead none 0 l w) ?_;rintro s t ⟨rfl,rfl⟩;exact⟨.tup [],σ,.tuple #[],κ,Im,rfl,⟨rfl,rfl⟩,o,Grow.refl _ _ _ _,.im _ _ (by first|exact .tup _ _ rfl (λj h=>by simp at h)|constructor<;>simp)⟩
theorem z4v {σ:zaa}{id e:Nat}{A:List RdM}(he:σ[id]? =some (.row e 14 (rdsC A) false))(hA:A≠ [])(hl:A.length<=1000000)(ho:∀r∈A,OkRd r):
  AT 119 [.row id A.length,.fn (.func 120) [] []] σ λr σ'=>r=.tup []/\∃A':List RdM,A'.Perm A/\(A'.Pairwise λx y=>kR x<=kR y)/\σ'=σ.set id (.row e 14 (rdsC A') false):=by
 intro base κ Im w Q hs J;have aa:0<A.length:=ycw.2 hA;obtain⟨B,g,l,m,R,S,c⟩:=zw5 hs he hA;have f:B.length=A.length:=by rw[<-m];simp
 obtain⟨T,U⟩:∃b,b∈B:=by
  cases B with
  |nil=>simp at f;omega
  |cons b _=>exact⟨b,by simp⟩
 letI:Inhabited (SRd κ Im w):=⟨T⟩
 obtain⟨W,c⟩:=c;obtain⟨u0,o,E⟩:=J.get? (i:=0) (a:=.row id A.length) rfl;obtain⟨u1,p,F⟩:=J.get? (i:=1) (a:=.fn (.func 120) [] []) rfl;obtain⟨_,_,_,M⟩:=E.row_inv;rw[R]at M;have e0:=Option.some.inj M;subst e0;obtain⟨X,Y,rfl,G,H⟩:=F.fn_inv;have s:X= []:=yaq G.1.symm;have t:Y= []:=yaq H.1.symm;subst s;subst t;have K:Q= [.slice (some ⟨g,0,none⟩) A.length l,.func (.func 120) #[] #[]]:=by
  have u:=J.1
  match Q,u with
  | [a,b],_=>simp at o p;rw[o,p]
 subst K;have eg:∀d w,(callFunc 120 d).run Tryz.prog w=.ok (.enter 120 d) w:=enters_of Tryz.func120 (by kernel_rfl) rfl;have hc:=AnyQ.slices_SortFunc Tryz.sortRead 14 Tryz.isAgg149 Tryz.sizeOf149 zd6 zo4 z2h cfR swoC 120 #[] g 0 l B.toArray w eg (z9m g 0 _ w) W S (by simp;omega);have v:B.toArray.size=A.length:=by simp[f]
 have z:=hc;rw[v]at z;refine Calls.mono z ?_;rintro e' w' ⟨rfl,k,n,Z,I,q,rfl⟩;rw[<-v]at I q;have C:k.size=B.length:=by simpa using I.1
 have L:=z7A I;obtain⟨O,P⟩:=c k.toList n Z (by simpa[f]using C);have hd:k.toList.toArray=k:=by simp
 rw[hd]at O P;have D:(k.toList.map rdR).Perm A:=by rw[<-m];exact L.map rdR
 refine⟨.tup [],_,.tuple #[],κ,Im,rfl,⟨rfl,k.toList.map rdR,D, ?_,rfl⟩,O,P,.im _ _ (by first|exact .tup _ _ rfl (λj h=>by simp at h)|constructor<;>simp)⟩;rw[yb0];exact z2n (λx hx=>ho _ (D.mem_iff.1 (List.mem_map_of_mem hx))) C q
end Go.Proofs.YtdbhocoeolhjhaaGreatDoor
namespace Go.Proofs.YtdbhocoeolhjhaaGreatDoor
open Go.Abs Go.RowKit Go.Sf Go.Num
variable {G:Globs}
theorem zCk (σ:zaa)(m k:Nat)(l:List RdM):((rdsC l).mapM λ(c:List AV)=>c.mapM (fz σ m k))=some (rdsC l):=zfV (zmJ l).2.1 (λc a=>by obtain⟨n,_,rfl⟩:=yar.1 a;simp[rdC])
theorem z7T [GMaxL](d:DiskM)(hl:Fits d)(rd:Txt->Option RdM)(R:List RdM)(ho:∀r∈(zbe d).filterMap rd,OkRd r)
  (hsc:∀t∈zbe d,PT 118 [.agg (zag d),.str t] (λx=>x=.tup [.agg ((rd t).elim ztz rdC),.bool (rd t).isSome]))
  (hsort:∀l,l.Perm ((zbe d).filterMap rd)->(l.Pairwise λx y=>kR x<=kR y)->l=R):
  PT 60 [.agg (zag d),.lst (zaV (zbe d))] (λx=>x=.lst (rdsC R)):=by
 refine pwP zvl ?_;obtain⟨T,u⟩:∃T,T=zbe d:=⟨_,rfl⟩;have ae:T.length<=1000000:=by rw[u,zbe,ybn];exact hl.nnames
 have I:(zaV T).length=T.length:=zdz T;rw[<-u]at hsort hsc ho⊢;simp[zmr,zag,I];obtain⟨D,p⟩:∃D:Entry,D=.var 30 (zag d):=⟨_,rfl⟩;refine zac (λx f σ=>∃(i:Nat) (g:zaa),x=T.length-i/\i<=T.length/\f 2=.ptr 0 0/\f 10=.lst (zaV T)/\f 11=.int .i64 T.length/\f 12=.int .i64 i/\(((T.take i).filterMap rd= []/\f 5=.nils)∨∃j,(T.take i).filterMap rd≠ []/\f 5=.row (j+1) ((T.take i).filterMap rd).length/\g[j]? =some (.row 149 14 (rdsC ((T.take i).filterMap rd)) false))/\σ=D::g) T.length ?_ ?_;.exact⟨0,[],by simp,by simp,by simp,by simp,by simp,by simp,.inl ⟨by simp,by simp⟩,by simp[p,zag]⟩
 rintro x f σ ⟨i,g,rfl,hi,v,e,k,c,a,rfl⟩;simp[k,c];refine zap (λab=> ?_) (λad=> ?_)
 .have z:i<T.length:=by omega
  have n:=wS i (by omega);obtain⟨t,E⟩:=gE z;have o:(zaV T)[i]? =some [.str t]:=by simp[zaV,E]
  obtain⟨Z,aa⟩:=yaa.1 o;have s:=hsc t (yad E);have b:(T.take (i+1)).filterMap rd=(T.take i).filterMap rd++(rd t).toList:=by rw[ybh,E];cases h:rd t<;>simp[h]
  obtain⟨X,U⟩:∃X,X=(T.take i).filterMap rd:=⟨_,rfl⟩;have af:X.length<=1000000:=by have m:=yei rd (T.take i);rw[<-U,yan]at m;omega
  rw[<-U]at a b;cases Y:rd t with
  |none=>
   rw[Y]at s b;simp only[Option.elim,Option.isSome,zag,ztz,zne,ybp,yco]at s;simp only[Option.toList,ybi]at b;simp[e,c,o,v,p,zag];refine zc1 s ?_;rintro x rfl;simp[splice,n,c];refine nx_i ⟨i+1,_,rfl,by omega,by simp[v],by simp[e],by simp[k],by simp, ?_,by simp[p,zag];rfl⟩;rw[b];rcases a with ⟨m,H⟩|⟨j,m,H,h3⟩
   .exact .inl ⟨m,by simp[H]⟩
   .exact .inr ⟨j,m,by simp[H],zaN h3 _⟩
  |some r=>
   rw[Y]at s b;simp only[Option.elim,Option.isSome,zag,rdC]at s;simp only[Option.toList]at b;have J:rdsC X++ [rdC r]=rdsC (X++ [r]):=by simp[rdsC]
   have B:X++ [r]≠ []:=(by simp);have K:=zbA X;simp[e,c,o,v,p,zag];refine zc1 s ?_;rintro x rfl;simp[splice];rcases a with ⟨q,a⟩|⟨j,_,a,w⟩
   .have m:rdsC (X++ [r])= [rdC r]:=(by rw[q];simp[rdsC]);simp[a];refine zf6 false [rdC r] rfl (by decide) (by simp[rdC]) (λh=>by cases h) (by simp) (by simp) ?_;simp[c,n];refine nx_i ⟨i+1,_,rfl,by omega,by simp[v],by simp[e],by simp[k],by simp,.inr ⟨g.length+1,by rw[b];exact B,by rw[b,q];simp, ?_⟩,by simp[p,zag];rfl⟩;rw[b,m,yam (by omega),show g.length+1-g.length=1 by omega];rfl
   .have L:=(yaa.1 w).1;have C:∀t:zaa,(g++t)[j]? =some (.row 149 14 (rdsC X) false):=λt=>by rw[yap L];exact w
    simp[a];refine zbJ (rdsC X) [rdC r] false ?_ rfl (by decide) (by simp[rdC]) (λh=>by cases h) K (by simp;omega) (by simp;omega) ?_;.show(D::(g++ [_]))[j+1]? =_;rw[yc9];exact C _
    rw[J];simp[c,n];refine nx_i ⟨i+1,_,rfl,by omega,by simp[v],by simp[e],by simp[k],by simp,.inr ⟨j,by rw[b];exact B,by rw[b];simp, ?_⟩,by simp[p,zag];rfl⟩;rw[b];have:=zaR (C [.var 149 (rdC r)]) (.row 149 14 (rdsC (X++ [r])) false);simpa[rdC]using this
 .have M:i=T.length:=by omega
  subst M;rw[yav]at a;rcases a with ⟨q,a⟩|⟨j,q,a,w⟩
  .have O:([]:List RdM)=R:=hsort [] (by rw[q]) List.Pairwise.nil;simp[a];refine zai z2E ?_;rintro x σ' ⟨rfl,rfl⟩;simp[a,<-O,rdsC]
  .have ag:(T.filterMap rd).length<=T.length:=yei rd T;have P:=z4v (G:=G) (σ:=D::g) (id:=j+1) (A:=T.filterMap rd) (by simpa using w) q (by omega) ho;simp[a];refine zai P ?_;rintro x σ' ⟨rfl,F,W,hs,rfl⟩;have hA:=hsort F W hs;subst hA;have Q:(rdsC F).length=(T.filterMap rd).length:=(by rw[zbA,W.length_eq]);have S:=zaR w (.row 149 14 (rdsC F) false);simp[a,S,Q,Abs.fin,Abs.finT,Abs.fin1,fz,zCk]
def stR (st:LadM×Nat×Nat)(r:RdM):LadM×Nat×Nat:=match r.body with
 | .inl l=>(l,r.seq,st.2.2)
 | .inr g=>(zaz st.1 g,st.2.1,r.seq)
def stsR (l:List RdM):LadM×Nat×Nat:=l.foldl stR (newL,0,0)
theorem zvO (l:List RdM)(r:RdM):stsR (l++ [r])=stR (stsR l) r:=by simp[stsR]
theorem st_P (m:MetM):∀(i:Nat) (gs:List (List ArrM)) (l:LadM) (q:Nat),(rdP m i gs).foldl stR (l,m.base,q)=(zaz l gs.flatten,m.base,if gs= []then q else m.base+i+gs.length)
 |i,[],l,q=>rfl
 |i,g::gs,l,q=>by
  rw[rdP,yev];show(rdP m (i+1) gs).foldl stR (zaz l g,m.base,m.base+1+i)=_;rw[st_P m (i+1) gs];refine Prod.ext (by simp[zaz]) (Prod.ext rfl ?_);simp only;cases gs;.simp;omega
  .simp;omega
theorem zBI {m:MetM}{l0:LadM}{gs:List (List ArrM)}(hlad:m.lad=zaz l0 gs.flatten)(hb0:m.base=0->l0=newL)(hl:m.last=if gs= []then 0 else m.base+gs.length):stsR (rdsM m l0 gs)=(m.lad,m.base,m.last):=by
 unfold stsR rdsM;rw[hlad];split;.rw[List.foldl_append];show(rdP m 0 gs).foldl stR (l0,m.base,0)=_;rw[st_P,hl];rfl
 .rename_i b;have a:m.base=0:=by omega
  have:=st_P m 0 gs newL 0;rw[a]at this;show(rdP m 0 gs).foldl stR (newL,0,0)=_;rw[this,hl,hb0 a,a]
theorem zDS {m:MetM}{l0:LadM}{gs:List (List ArrM)}{i:Nat}{r:RdM}{l:LadM}(h:(rdsM m l0 gs)[i]? =some r)(hb:r.body=.inl l):i=0:=by
 unfold rdsM at h;split at h
 .cases i with
  |zero=>rfl
  |succ i=>have a:(rdP m 0 gs)[i]? =some r:=h;obtain⟨j,g,_,rfl⟩:=zor.1 (yad a);cases hb
 .have a:(rdP m 0 gs)[i]? =some r:=h;obtain⟨j,g,_,rfl⟩:=zor.1 (yad a);cases hb
def mcR (m:MetM)(st:LadM×Nat×Nat):List AV:=metC ⟨m.id,m.path,st.1,st.2.1,st.2.2,16⟩
theorem z2U {m:MetM}{R:List RdM}(ho:∀r∈R,OkRd r):RightL (stsR R).1:=by
 refine zj7 (P:=λR=>(∀r∈R,OkRd r)->RightL (stsR R).1) (λ_=>zdl) (λR r b h=> ?_) R ho;rw[zvO];have f:=b λx c=>h x (by simp[c]);have a:=h r (by simp);unfold stR;split;.rename_i l d;exact a.lad l d
 .rename_i g e;exact zc5 f (a.pts g e)
theorem z60 {m:MetM}{l0:LadM}{gs:List (List ArrM)}(hst:stsR (rdsM m l0 gs)=(m.lad,m.base,m.last))(hne:gs≠ []∨0<m.base)(ho:∀r∈rdsM m l0 gs,OkRd r)(hl:gs.length<=1000)(hg:∀g∈gs,g.length<=100000)(A:List RdM)(hA:A≠ []->0<m.base)(hAl:A.length<=100000):
  PT 63 [.lst (rdsC (A++rdsM m l0 gs))] (λx=>x=.tup [.agg (metC (c16 m)),.lst (zaV ((rdsM m l0 gs).map RdM.name))]):=by
 refine pwP zsz ?_;have hC:=λ(i:Nat) (r:RdM) (l:LadM)=>zDS (m:=m) (l0:=l0) (gs:=gs) (i:=i) (r:=r) (l:=l);have hS:=zke m l0 gs;have a1:∀r∈rdsM m l0 gs,r.id=m.id/\r.path=m.path:=λr O=>by rcases zlt.1 O with ⟨_,rfl⟩|⟨_,_,_,rfl⟩<;>exact⟨rfl,rfl⟩
 have bn:∀r∈rdsM m l0 gs,∀g,r.body=.inr g->g.length<=100000:=λr O g s=>by
  rcases zlt.1 O with ⟨_,rfl⟩|⟨j,g',hj,rfl⟩;.cases s
  .cases s;exact hg _ (yad hj)
 have bo:(rdsM m l0 gs).length<=1001:=by unfold rdsM;rw[yag,zy1];split<;>simp<;>omega
 have aq:rdsM m l0 gs≠ []:=by
  unfold rdsM;rcases hne with h1|h1
  .cases gs;.exact absurd rfl h1
   .simp[rdP]
  .simp[h1]
 have bp:A≠ []->∃r,(rdsM m l0 gs)[0]? =some r/\r.kind=kindC:=λh=>⟨_,by unfold rdsM;rw[if_pos (hA h)];rfl,rfl⟩;obtain⟨R,hR⟩:∃R,R=rdsM m l0 gs:=⟨_,rfl⟩;rw[<-hR]at ho hst hC hS a1 bn bo aq bp⊢;have cd:=zbA R;have ct:=(zmJ R).1;obtain⟨W,hW⟩:∃W,W=A++R:=⟨_,rfl⟩;have cu:W.length=A.length+R.length:=by rw[hW,yag]
 have bq:=zbA W;have ce:=(zmJ W).1;have cf:(rdsC W).drop A.length=rdsC R:=by rw[hW,show rdsC (A++R)=rdsC A++rdsC R by simp[rdsC],List.drop_left' (zbA A)]
 rw[<-hW];obtain⟨M,ag⟩:∃M,R[0]? =some M:=by
  cases R with
  |nil=>exact absurd rfl aq
  |cons a l=>exact⟨a,rfl⟩
 have br:=zmT ag;obtain⟨cq,cr⟩:=yaa.1 br;have cw:0<R.length:=(yaa.1 ag).1;obtain⟨i0,p0⟩:=a1 M (yad ag);simp[zle,bq];obtain⟨Z,hZ⟩:∃Z:Entry,Z=.var 57 [.int .i64 0,.str [],.nils,.int .i64 0,.int .i64 0,.int .i64 0,.int .i64 0,.nils,.int .i64 0,.int .i64 0,.int .i64 0]:=⟨_,rfl⟩;rw[<-hZ];refine zac (λx f σ=>∃(i c:Nat) (tl:zaa),x=W.length-i/\i<=W.length/\c<=i/\(A.length<i->c=A.length)/\f 0=.lst (rdsC W)/\f 2=.ptr 0 0/\f 3=.nils/\f 4=.int .i64 c/\f 16=.lst (rdsC W)/\f 17=.int .i64 W.length/\f 18=.int .i64 i/\σ=Z::tl) W.length ?_ ?_;.exact⟨0,0,[],by simp,by simp,by simp,by simp,by simp,by simp,by simp,by simp,by simp,by simp,by simp,rfl⟩
 rintro x f σ ⟨i,c,tl,rfl,hi,b9,ay,f0,f2,f3,f4,U,ah,ai,rfl⟩;simp[ah,ai];refine zap (λcc=> ?_) (λbk=> ?_)
 .have ab:i<W.length:=by omega
  have am:=wS i (by omega);obtain⟨r,O⟩:=gE ab;have Q:=zmT O;obtain⟨b6,b7⟩:=yaa.1 Q;have bu:A.length<=i->R[i-A.length]? =some r:=λh=>by rw[hW,yam h]at O;exact O
  cases s:r.body with
  |inl l=>have w:r.kind=kindC:=(by unfold RdM.kind;rw[s]);simp[U,ai,Q,rdC,splice,w,kindC,am];exact nx_i ⟨i+1,i,_,rfl,by omega,by omega,λh=>by have:=hC _ r l (bu (by omega)) s;omega,by simp[f0],by simp[f2],by simp[f3],by simp,by simp[U],by simp[ah],by simp,rfl⟩
  |inr g=>
   have w:r.kind=kindP:=(by unfold RdM.kind;rw[s]);simp[U,ai,Q,rdC,splice,w,kindP,am];refine nx_i ⟨i+1,c,_,rfl,by omega,by omega,λh=> ?_,by simp[f0],by simp[f2],by simp[f3],by simp[f4],by simp[U],by simp[ah],by simp,rfl⟩;by_cases co:A.length<i;.exact ay co
   .have a2:i=A.length:=(by omega);by_cases b5:A= [];.rw[b5]at a2⊢;simp at a2⊢;omega
    .obtain⟨r',h1,h2⟩:=bp b5;have h3:=bu (by omega);rw[a2,yc2,h1]at h3;cases h3;rw[w]at h2;exact absurd h2 (by decide)
 .have bw:=zw3 (G:=G) M.path;have kN:=zrH (G:=G);simp only[zbS]at bw;simp only[schC,ladC]at kN;have bx:c=A.length:=ay (by omega);subst bx;have ar:A.length<=W.length:=by omega
  simp[f0,f4,bq,ar];rw[if_pos ce,yal (by omega),cf];simp[br,rdC,splice];refine zaX bw (by simp[AV.pure]) ?_;simp[schC,splice];refine zc1 kN ?_;rintro x rfl;simp[splice];refine zac (λx f σ=>∃(i y o:Nat),x=R.length-i/\i<=R.length/\f 2=.ptr 0 0/\f 7=.ptr y 0/\f 8=.ptr o 0/\f 52=.lst (rdsC R)/\f 53=.int .i64 R.length/\f 54=.int .i64 i/\0<y/\y<o/\σ[0]? =some Z/\σ[y]? =some (.var 149 (rdC M))/\σ[o]? =some (.var 57 (mcR m (stsR (R.take i))))/\((i=0/\f 9=.nils)∨∃j,0<i/\o<j/\f 9=.row j i/\σ[j]? =some (.row 9 1 (zaV ((R.take i).map RdM.name)) false))) R.length ?_ ?_;.refine⟨0,tl.length+1,tl.length+2,by simp,by simp,by simp[f2],by simp,by simp,by simp,by simp[cd],by simp,by omega,by omega,by simp,by simp[rdC], ?_,.inl ⟨rfl,by simp⟩⟩;show(Z::(tl++_))[tl.length+1+1]? =_;rw[yc9,zuh];simp[mcR,metC,stsR,i0,p0]
  clear f0 f2 f3 f4 U ah ai hi bk b9 ay ar tl i f;rintro x f σ ⟨i,y,o,rfl,hi,f2,f7,f8,P,aj,H,az,a0,z0,z7,z8,ak⟩;simp[aj,H];refine zap (λcc=> ?_) (λbk=> ?_)
  .have ab:i<R.length:=(by omega);have am:=wS i (by omega);obtain⟨r,O⟩:=gE ab;have Q:=zmT O;obtain⟨b6,b7⟩:=yaa.1 Q;have a3:=yad O;have ad:=ho r a3;obtain⟨ir,pr⟩:=a1 r a3;have an:=tS O;have kH:=zy3 (G:=G) m.path;simp only[zbS]at kH;have g1:∀(k:Nat) (e:Entry) (t:zaa),σ[k]? =some e->(σ++t)[k]? =some e:=λk e t h=>zaN h t;have cg:0<i->¬((r.seq:Int)=M.seq):=λh0 e=>by have:=zex hS h0 ag O;simp only[kR,ir,i0]at this;omega
   have n7:(σ++ [.var 149 (rdC r)])[y]? =some (.var 149 (rdC M)):=g1 y _ _ z7;have n8:(σ++ [.var 149 (rdC r)])[o]? =some (.var 57 (mcR m (stsR (R.take i)))):=g1 o _ _ z8;have al:M.kind=kindC∨M.kind=kindP:=M.kd.symm;simp only[rdC,pr,p0,mcR,metC]at n7 n8;have a4:(i=0/\f 9=.nils/\∃l,r.body=.inl l)∨∃g,r.body=.inr g:=by
    cases s:r.body with
    |inl l=>
     have h0:=hC i r l O s;rcases ak with ⟨_,h9⟩|⟨j,h9,_⟩
     .exact .inl ⟨h0,h9,l,rfl⟩
     .omega
    |inr g=>exact .inr ⟨g,rfl⟩
   rcases a4 with ⟨rfl,h9,l,s⟩|⟨g,s⟩
   .have w:r.kind=kindC:=(by unfold RdM.kind;rw[s]);have ao:r.recs.map recC=zfU (zeJ l):=(by unfold RdM.recs;rw[s];exact zzG l);have a5:=ad.lad l s;have kB:=z0d (G:=G) (zeJ l) (zzT a5) (by have:=zqo a5;omega);rw[z0P a5,<-ao]at kB;simp only[schC,ladC]at kB;have L:stsR (R.take (0+1))=(l,r.seq,0):=(by rw[an];simp[stsR,stR,s]);have F:∀t,(σ++t)[o]? =some (.var 57 (metC ⟨m.id,m.path,newL,0,0,16⟩)):=λt=>g1 o _ t z8;have au:=(yaa.1 z8).1;have a6:∀(a b x:Entry) (h:σ.length<((σ++ [a,b]).set o x).length),((σ++ [a,b]).set o x)[σ.length]=a:=λa b x h=>by rw[yd5 (by omega)];simp
    have a7:∀t x,((σ++t).set o x)[o]? =some x:=λt=>zaR (F t);simp only[metC]at F;simp[P,H,Q,rdC,splice,f7,n7,pr];refine zc1 kH ?_;rintro x rfl;simp[h9];refine zf6 false [[.str r.name]] rfl (by decide) (by simp) (λh=>by cases h) (by simp) (by simp) ?_;simp[w,kindC,f8,F,splice,a6,a7];refine zc1 kB ?_;rintro x rfl;simp[f8,H,a7,splice,wk1];refine nx_i ⟨0+1,y,o,rfl,by omega,by simp[f2],by simp[f7],by simp[f8],by simp[P],by simp[aj],by simp,az,a0, ?_, ?_, ?_,.inr ⟨σ.length+1,by omega,by omega,by simp, ?_⟩⟩;.rw[yaj (by omega)];exact g1 0 _ _ z0
    .rw[yaj (by omega)];exact g1 y _ _ z7
    .rw[a7,L];simp[mcR,metC]
    .rw[yaj (by omega),zuh,an];simp[zaV]
   .have w:r.kind=kindP:=(by unfold RdM.kind;rw[s]);obtain⟨d,S⟩:∃d,d=(stsR (R.take i)).1:=⟨_,rfl⟩;obtain⟨bs,bf⟩:∃bs,bs=(stsR (R.take i)).2.1:=⟨_,rfl⟩;obtain⟨ls,b8⟩:∃ls,ls=(stsR (R.take i)).2.2:=⟨_,rfl⟩;have F:∀t,(σ++t)[o]? =some (.var 57 (metC ⟨m.id,m.path,d,bs,ls,16⟩)):=λt=>by rw[S,bf,b8];exact g1 o _ t z8
    have bz:∀t,(σ++t)[0]? =some Z:=λt=>g1 0 _ t z0;have b0:∀t,(σ++t)[y]? =some (.var 149 (rdC M)):=λt=>g1 y _ t z7;have L:stsR (R.take (i+1))=(zaz d g,bs,r.seq):=(by rw[an,zvO,S,bf];unfold stR;rw[s]);have a8:(zaV ((R.take i).map RdM.name)).length=i:=(by rw[zdz];simp;omega);have a9:zaV ((R.take i).map RdM.name)++ [[.str r.name]]=zaV ((R.take (i+1)).map RdM.name):=(by rw[an];simp[zaV]);have ao:r.recs.map recC=(g.map ptR).map recC:=(by unfold RdM.recs;rw[s]);have b1:r.recs.length=g.length:=(by unfold RdM.recs;rw[s];simp);have cx:=bn r a3 g s;obtain⟨N',aw⟩:∃N',N'=zaV ((R.take (i+1)).map RdM.name):=⟨_,rfl⟩;have ae:RightL d:=(by rw[S];exact z2U (m:=m) λx hx=>ho x (yao hx));simp only[metC]at F;rw[<-aw]at a9;rcases ak with ⟨rfl,h9⟩|⟨j,bj,ca,h9,hj⟩
    .have b2:N'= [[.str r.name]]:=(by rw[<-a9];simp[zaV]);simp[P,H,Q,rdC,splice,f7,n7,pr];refine zc1 kH ?_;rintro x rfl;simp[h9];refine zf6 false [[.str r.name]] rfl (by decide) (by simp) (λh=>by cases h) (by simp) (by simp) ?_;rw[<-b2];have au:=(yaa.1 z8).1;obtain⟨jn,bg⟩:∃jn,jn=σ.length+1:=⟨_,rfl⟩;have a6:∀(a b x:Entry) (h:σ.length<((σ++ [a,b]).set o x).length),((σ++ [a,b]).set o x)[σ.length]=a:=λa b x h=>by rw[yd5 (by omega)];simp
     simp[w,kindP,f8,F,splice,a6];refine zac (λx f σ=>∃(k:Nat),x=g.length-k/\k<=g.length/\f 2=.ptr 0 0/\f 7=.ptr y 0/\f 8=.ptr o 0/\f 9=.row jn (0+1)/\f 52=.lst (rdsC R)/\f 53=.int .i64 R.length/\f 54=.int .i64 0/\f 114=.lst (r.recs.map recC)/\f 115=.int .i64 g.length/\f 116=.int .i64 k/\σ[0]? =some Z/\σ[y]? =some (.var 149 (rdC M))/\σ[jn]? =some (.row 9 1 N' false)/\σ[o]? =some (.var 57 (metC ⟨m.id,m.path,zaz d (g.take k),bs,r.seq,16⟩))) g.length ?_ ?_
     .refine⟨0,by simp,by simp,by simp[f2],by simp[f7],by simp[f8],by simp[bg,b2],by simp[P],by simp[aj],by simp[H],by simp,by simp[b1],by simp, ?_, ?_, ?_, ?_⟩;.rw[yaj (by omega)];exact bz _
      .rw[yaj (by omega)];exact b0 _
      .rw[yaj (by omega),bg];exact zuh
      .rw[zaR (F _)];simp[metC,zaz]
     rintro x f' σ' ⟨k,rfl,hk,X,Y,u,aa,z,B,C,D,E,q,y0,y7,yj,y8⟩;simp[E,q];refine zap (λbl=> ?_) (λbm=> ?_)
     .have I:k<g.length:=(by omega);have ba:=wS k (by omega);obtain⟨p,hp⟩:=gE I;have af:(r.recs.map recC)[k]? =some (recC (ptR p)):=(by rw[ao];simp[hp]);obtain⟨bh,bi⟩:=yaa.1 af;obtain⟨T,ax⟩:=ad.pts g s p (yad hp);have bb:zaz d (g.take (k+1))=zc4 (zaz d (g.take k)) p.time p.now p.value:=(by rw[ybh,hp];exact zig _ _ _);have bc:RightL (zaz d (g.take k)):=zc5 ae λx hx=>ad.pts g s x (yao hx);have J:=zoI (G:=G) (zaz d (g.take k)) bc p.time p.now p.value T.t T.n T.le T.ge T.v ax;rw[<-bb]at J;simp only[ladC]at J;have K:∀t,(σ'++t)[o]? =some (.var 57 (metC ⟨m.id,m.path,zaz d (g.take k),bs,r.seq,16⟩)):=λt=>zaN y8 t;have bd:∀t x,((σ'++t).set o x)[o]? =some x:=λt=>zaR (zaN y8 t);simp only[metC]at K;simp[D,q,af,ptR,recC,zbV,splice,u,K];refine zc1 J ?_;rintro x rfl;simp[splice,u,q,ba,K];refine nx_i ⟨k+1,rfl,by omega,by simp[X],by simp[Y],by simp[u],by simp[aa],by simp[z],by simp[B],by simp[C],by simp[D],by simp[E],by simp, ?_, ?_, ?_, ?_⟩;.rw[yaj (by omega)];exact zaN y0 _
      .rw[yaj (by omega)];exact zaN y7 _
      .rw[yaj (by omega)];exact zaN yj _
      .rw[bd];simp[metC]
     .have be:k=g.length:=(by omega);subst be;rw[yav]at y8;simp[C,wk1];exact nx_i ⟨0+1,y,o,rfl,by omega,by simp[X],by simp[Y],by simp[u],by simp[z],by simp[B],by simp,az,a0,y0,y7,by rw[L];exact y8,.inr ⟨jn,by omega,by omega,by simp[aa],by rw[<-aw];exact yj⟩⟩
    .have cs:(0:Int)<i:=(by omega);have hq:=cg bj;have b3:∀t,(σ++t)[j]? =some (.row 9 1 (zaV ((R.take i).map RdM.name)) false):=λt=>g1 j _ t hj;have av:∀t x,((σ++t).set j x)[o]? =some (.var 57 [.int .i64 m.id,.str m.path,.lst rungsC,.int .i64 1,.int .i64 500000,.int .i64 1,.int .i64 500000,.lst (zak d),.int .i64 bs,.int .i64 ls,.int .i64 16]):=λt x=>by rw[yaj (by omega)];exact F t
     have cy:¬(i:Int)=0:=(by omega);have b4:¬i=0:=(by omega);have cz:=(yaa.1 hj).1;have au:=(yaa.1 z8).1;have ch:∀(a b:Entry) (h:σ.length<((σ++ [a]).set j b).length),((σ++ [a]).set j b)[σ.length]=a:=λa b h=>by rw[yd5 (by omega)];simp
     have ci:∀(a b c:Entry) (h:σ.length<(((σ++ [a]).set j b).set o c).length),(((σ++ [a]).set j b).set o c)[σ.length]=a:=λa b c h=>by rw[yd5 (by omega),yd5 (by omega)];simp
     rcases al with al|al
     all_goals
      simp only[al,kindC,kindP]at n7;simp[P,H,Q,rdC,splice,f7,n7,bj,hq,pr];refine zc1 kH ?_;rintro x rfl;simp[h9];refine zbJ (zaV ((R.take i).map RdM.name)) [[.str r.name]] false (b3 _) rfl (by decide) (by simp) (λh=>by cases h) a8 (by simp;omega) (by simp;omega) ?_;rw[a9];simp[w,kindP,f8,av,splice,b4,ch,ci];refine zac (λx f σ=>∃(k:Nat),x=g.length-k/\k<=g.length/\f 2=.ptr 0 0/\f 7=.ptr y 0/\f 8=.ptr o 0/\f 9=.row j (i+1)/\f 52=.lst (rdsC R)/\f 53=.int .i64 R.length/\f 54=.int .i64 i/\f 114=.lst (r.recs.map recC)/\f 115=.int .i64 g.length/\f 116=.int .i64 k/\σ[0]? =some Z/\σ[y]? =some (.var 149 (rdC M))/\σ[j]? =some (.row 9 1 N' false)/\σ[o]? =some (.var 57 (metC ⟨m.id,m.path,zaz d (g.take k),bs,r.seq,16⟩))) g.length ?_ ?_
      .refine⟨0,by simp,by simp,by simp[f2],by simp[f7],by simp[f8],by simp,by simp[P],by simp[aj],by simp[H],by simp,by simp[b1],by simp, ?_, ?_, ?_, ?_⟩;.rw[yaj (by omega),yaj (by omega)];exact bz _
       .rw[yaj (by omega),yaj (by omega)];exact b0 _
       .rw[yaj (by omega),zaR (b3 _)]
       .rw[zaR (av _ _)];simp[metC,zaz]
      rintro x f' σ' ⟨k,rfl,hk,X,Y,u,aa,z,B,C,D,E,q,y0,y7,yj,y8⟩;simp[E,q];refine zap (λbl=> ?_) (λbm=> ?_)
      .have I:k<g.length:=(by omega);have ba:=wS k (by omega);obtain⟨p,hp⟩:=gE I;have af:(r.recs.map recC)[k]? =some (recC (ptR p)):=(by rw[ao];simp[hp]);obtain⟨bh,bi⟩:=yaa.1 af;obtain⟨T,ax⟩:=ad.pts g s p (yad hp);have bb:zaz d (g.take (k+1))=zc4 (zaz d (g.take k)) p.time p.now p.value:=(by rw[ybh,hp];exact zig _ _ _);have bc:RightL (zaz d (g.take k)):=zc5 ae λx hx=>ad.pts g s x (yao hx);have J:=zoI (G:=G) (zaz d (g.take k)) bc p.time p.now p.value T.t T.n T.le T.ge T.v ax;rw[<-bb]at J;simp only[ladC]at J;have K:∀t,(σ'++t)[o]? =some (.var 57 (metC ⟨m.id,m.path,zaz d (g.take k),bs,r.seq,16⟩)):=λt=>zaN y8 t;have bd:∀t x,((σ'++t).set o x)[o]? =some x:=λt=>zaR (zaN y8 t);simp only[metC]at K;simp[D,q,af,ptR,recC,zbV,splice,u,K];refine zc1 J ?_;rintro x rfl;simp[splice,u,q,ba,K];refine nx_i ⟨k+1,rfl,by omega,by simp[X],by simp[Y],by simp[u],by simp[aa],by simp[z],by simp[B],by simp[C],by simp[D],by simp[E],by simp, ?_, ?_, ?_, ?_⟩;.rw[yaj (by omega)];exact zaN y0 _
       .rw[yaj (by omega)];exact zaN y7 _
       .rw[yaj (by omega)];exact zaN yj _
       .rw[bd];simp[metC]
      .have be:k=g.length:=(by omega);subst be;rw[yav]at y8;simp[C,am];exact nx_i ⟨i+1,y,o,rfl,by omega,by simp[X],by simp[Y],by simp[u],by simp[z],by simp[B],by simp,az,a0,y0,y7,by rw[L];exact y8,.inr ⟨j,by omega,by omega,by simp[aa],by rw[<-aw];exact yj⟩⟩
  .have cj:i=R.length:=(by omega);subst cj;rw[yav]at z8 ak;rcases ak with ⟨h0,_⟩|⟨j,_,ca,h9,hj⟩
   .omega
   rw[hst]at z8;have ck:∀x,(σ.set 0 x)[0]? =some x:=zaR z0;have a8:(zaV (R.map RdM.name)).length=R.length:=by rw[zdz];simp
   have cl:∀x,(σ.set 0 x)[j]? =some (.row 9 1 (zaV (R.map RdM.name)) false):=λx=>by rw[yaj (by omega)];exact hj
   have cn:∀(σ:zaa) (m k:Nat),((zaV (R.map RdM.name)).mapM λ(c:List AV)=>c.mapM (fz σ m k))=some (zaV (R.map RdM.name)):=λσ m k=>zfV (λc Q x hx=>by obtain⟨t,_,rfl⟩:=yar.1 Q;simp at hx;subst hx;simp[AV.pure]) (λc Q=>by obtain⟨t,_,rfl⟩:=yar.1 Q;simp);simp only[mcR,metC]at z8;simp[f2,f8,h9,z0,z8,splice,hZ,ck,cl,a8,cn,metC,c16,Abs.fin,Abs.finT,Abs.fin1,fz]
end Go.Proofs.YtdbhocoeolhjhaaGreatDoor
namespace Go.Abs
def kvT (l:List Sf.Txt):List (AV×AV):=l.map λt=>(AV.str t,AV.bool true)
theorem z8i (l:List Sf.Txt)(t:Sf.Txt):kvT (l++ [t])=kvT l++ [(AV.str t,AV.bool true)]:=by simp[kvT]
theorem z56 {l:List Sf.Txt}{t:Sf.Txt}(h:t∉l)(p:Nat):zaQ 1 (.str t) (kvT l) p=some none:=by
 induction l generalizing p with
 |nil=>rfl
 |cons x l c=>have b:¬x=t:=λe=>h (by simp[e]);have:=c (λa=>h (by simp[a])) (p+1);simp only[kvT,yce,zaQ];simp only[kvT]at this;simp[eq1,Ne.symm b,this]
theorem zCA {l:List Sf.Txt}{t:Sf.Txt}(h:t∉l):zd2 1 (.str t) (.bool true) (kvT l)=some (kvT (l++ [t])):=by rw[zd2,z56 h,z8i];rfl
theorem zAP {l:List Sf.Txt}{t:Sf.Txt}(h:t∈l)(p:Nat):∃q,zaQ 1 (.str t) (kvT l) p=some (some (q,.bool true)):=by
 induction l generalizing p with
 |nil=>simp at h
 |cons x l c=>
  simp only[kvT,yce,zaQ];by_cases a:x=t;.subst a;simp[eq1]
  .obtain⟨q,b⟩:=c (by rcases ybe.1 h with h|h;exact absurd h.symm a;exact h) (p+1);simp only[kvT]at b;simp[eq1,Ne.symm a,b]
theorem zwH {σ τ:zaa}(h:zbr σ=true)(h2:zbr τ=true):zbr (σ++τ)=true:=by simp only[zbr,List.all_append,yb5]at*;exact⟨h,h2⟩
theorem zqs {σ:zaa}{k:Nat}{x:Entry}(h:zbr σ=true)(h2:x.isItr=false):zbr (σ.set k x)=true:=by
 simp only[zbr,ya1]at*;intro e b;rcases yds b with a|rfl
 .exact h e a
 .rw[h2];rfl
end Go.Abs
namespace Go.Proofs.YtdbhocoeolhjhaaGreatDoor
open Go.Abs Go.RowKit Go.Sf Go.Num
variable {G:Globs}
theorem z96 {σ:zaa}{k:Nat}(l:List RdM)(r r0:RdM)(h0:l[0]? =some r0)(hk:σ[k]? =some (.var 143 [.lst (rdsC l)])):AT 62 [.agg (rdC r),.ptr k 0] σ (λx σ'=>x=.bool (decide (r.id≠r0.id))/\σ'=σ):=by refine pwA zsr ?_;have a:=zmT h0;obtain⟨b,c⟩:=yaa.1 a;have d:=λt=>zaN hk t;simp[zln,rdC,d,a];refine zez (.bool (decide (r.id≠r0.id))) ?_ (by simp[AV.under]) ⟨rfl,rfl⟩;simp[zaK];omega
theorem z1A {σ:zaa}{k:Nat}(A B:List RdM)(r0:RdM)(h0:(A++B)[0]? =some r0)(hA:∀r∈A,r.id=r0.id)(hB:∀r,B[0]? =some r->r.id≠r0.id)(hl:(A++B).length<=1000000)(hk:σ[k]? =some (.var 143 [.lst (rdsC (A++B))])):
  AT 61 [.lst (rdsC (A++B)),.fn (.func 62) [] [.ptr k 0]] σ (λx σ'=>x=.int .i64 (if B= []then -1 else A.length)/\σ'=σ):=by
 refine pwA zcW ?_;have g:=zbA (A++B);have c:(A++B).length=A.length+B.length:=yag;obtain⟨L,j⟩:∃L,L=A++B:=⟨_,rfl⟩;rw[<-j]at g hk h0 hl c⊢;simp[zbo,gIX];refine zac (λx f σ'=>∃(i:Nat),x=L.length-i/\i<=A.length/\f 0=.lst (rdsC L)/\f 1=.fn (.func 62) [] [.ptr k 0]/\f 7=.int .i64 L.length/\f 8=.int .i64 i/\σ'=σ) L.length ?_ ?_;.exact⟨0,by simp,by simp,by simp,by simp,by simp[g],by simp⟩
 rintro x f σ' ⟨i,rfl,E,s,t,u,l,rfl⟩;simp[u,l];refine zap (λC=> ?_) (λD=> ?_)
 .have h:i<L.length:=by omega
  have n:=wS i (by omega);obtain⟨r,d⟩:=gE h;have v:=zmT d;obtain⟨y,z⟩:=yaa.1 v;have w:=z96 (G:=G) L r r0 h0 hk;simp only[rdC]at w;simp[s,t,l,v,rdC];refine zvX zsE ?_;refine zai w ?_;rintro x σ' ⟨rfl,rfl⟩;by_cases q:i<A.length;.have o:r.id=r0.id:=hA r (by rw[j,yap q]at d;exact yad d);simp[l,n,o];exact nx_i ⟨i+1,rfl,by omega,by simp[s],by simp[t],by simp[u],by simp,rfl⟩
  .have b:i=A.length:=(by omega);have p:r.id≠r0.id:=hB r (by rw[j,b,yam (yaf _),yc2]at d;exact d);have a:B≠ []:=λe=>by rw[e]at c;simp at c;omega
   simp[p,a,b];exact er_k σ' (.int .i64 A.length) (λi e m=> .inl m) ⟨by simp[a],rfl⟩
 .have a:B= []:=ydj.1 (by omega);simp[a];exact er_k σ' (.int .i64 (-1)) (λi e m=> .inl m) ⟨by simp[a],rfl⟩
theorem zCC (d:DiskM)(L:Int)(hL: -1<=L):PT 23 [.agg [.int .i64 d.quota,.lst (zau d.files),.lst (zam d.names),.lst (zam d.kept),.lst (zaI d.moves),.int .i64 d.next,.nils,.int .i64 1,.int .i64 0,.bool false],.int .i64 L] (λr=>r=.agg (shC ⟨d,[],1,L,false⟩)):=by refine pwP zq5 ?_;have a:(if L< -1 then(-1:Int)else L)=L:=if_neg (by omega);simp[zlT,splice,shC,zcw,a]
theorem z3w [GMaxL](hT:zhx G){d:DiskM}{a:Nat}{ms:List MetM}{O:Txt->List ArrM}{S:Txt->Nat×Bool}{Fm:Txt->Nat×Nat×List (List ArrM)}(hQ:Qt d a ms O S Fm)(hl:Fits d)(hb:∀f∈d.files,f.bytes.length<=1000000)(hgl:∀m∈ms,∀g∈(Fm m.path).2.2,g.length<=100000)(L:Int)(hL: -1<=L)(hL2:L<=1000):
  PT 25 [.agg (zag d),.int .i64 L] (λx=>x=.tup [.agg (shC (zc8 d O Fm ms L)),.int .i64 (zgg (zc8 d O Fm ms L))]):=by
 refine pwP zvY ?_;have I:=hQ.size.right;have ha:=hQ.a69;obtain⟨rd,St,bu,W,c2⟩:=z97 hQ;have az:=z7T (G:=G) d hl rd _ (λr w=>by
  obtain⟨t,ht,e⟩:=List.mem_filterMap.1 w;have:=bu t ht;rw[e]at this;exact this.2.1) (λt ht=>by
  have hs:=bu t ht;cases ho:rd t with
  |none=>
   rw[ho]at hs;rcases hs.1 with ⟨m,l,q,rfl,q1,q7⟩|⟨m,l,q,f,rfl,q1,q7,hA,hH⟩
   .exact z9t d m.id q (hQ.reg m l).2.1 (zyG hQ l) q1 q7
   .exact z7X d I hl m.id q (hQ.reg m l).2.1 (zyG hQ l) q1 q7 (hQ.reg m l).1 hA hH
  |some r=>rw[ho]at hs;obtain⟨rfl,av,⟨f,tn,hA,v,J,h3⟩,_⟩:=hs;exact zAX hT d I hl r av hA v J h3 (hb f hA.2.1)) W
 have kA:=zCC (G:=G) d L hL;have kD:=λσ=>zuJ (G:=G) σ d I hl;obtain⟨M,hM⟩:∃M,M=msF O Fm ms:=⟨_,rfl⟩;obtain⟨K,hK⟩:∃K:MetM->List RdM,K=kF O Fm:=⟨_,rfl⟩;obtain⟨F,hF⟩:∃F:MetM->List RdM,F=λm=>St m++K m:=⟨_,rfl⟩;have b8:M.Pairwise λa b=>a.id<b.id:=by rw[hM];exact z4K hQ
 have al:(M.map MetM.path).Nodup:=by rw[hM];exact zgu hQ
 have am:∀m∈M,∃x∈ms,live Fm x=true/\m=mFm O Fm x:=λm l=>zfi.1 (by rw[<-hM];exact l);have d5:M.length<=4:=by
  have v:=nodup_len al (m:=P4) λp hp=>by obtain⟨m,l,rfl⟩:=yar.1 hp;obtain⟨x,u,_,rfl⟩:=am m l;exact(hQ.reg x u).1
  simpa[P4]using v
 have bg:∀m∈M,m.id<71:=λm l=>by obtain⟨x,u,_,rfl⟩:=am m l;exact(zyG hQ u:x.id<71)
 have a0:∀m∈M,∀r∈K m,r.id=m.id/\OkRd r:=λm l r w=>by obtain⟨x,u,_,rfl⟩:=am m l;rw[hK]at w;obtain⟨v,J,_⟩:=zpE hQ u w;exact⟨J,v⟩
 have b9:∀m∈M,∀r∈St m,r.id=m.id/\OkRd r/\0<m.base:=λm l r w=>by obtain⟨v,_,J,h3⟩:=c2 m (by rw[<-hM];exact l) r w;exact⟨v,J,by omega⟩
 have ca:∀m∈M,∀r∈F m,r.id=m.id:=λm l r w=>by
  rw[hF]at w;rcases yai.1 w with h|h
  .exact(b9 m l r h).1
  .exact(a0 m l r h).1
 have cc:∀m∈M,(K m).length<=71/\K m≠ []:=λm l=>by
  obtain⟨x,u,ba,rfl⟩:=am m l;have c7:=(hQ.frm x u).top;have e1:(Fm (mFm O Fm x).path).2.2.length=(Fm x.path).2.2.length:=rfl;rw[hK];constructor;.show(rdsM _ _ _).length<=71;unfold rdsM;rw[yag,zy1];split<;>simp<;>omega
  .intro e;have e':(if 0<(Fm x.path).1 then [_]else [])++rdP (mFm O Fm x) 0 (Fm x.path).2.2= []:=e;rw[List.append_eq_nil_iff]at e';rcases zcT.1 ba with v|v
   .rw[if_pos v]at e';exact absurd e'.1 (by simp)
   .cases hg:(Fm x.path).2.2 with
    |nil=>exact v hg
    |cons g gs=>rw[hg]at e';simp[rdP]at e'
 have cd:((M.flatMap F).length:Nat)<=1000000:=by
  have v:=W (((zbe d).filterMap rd).mergeSort λx y=>decide (kR x<=kR y)) (yel _ _) ((ydz (le:=λx y:RdM=>decide (kR x<=kR y)) (λx y z v J=>by simp only[decide_eq_true_eq]at*;omega) (λx y=>by simp only[ydu,decide_eq_true_eq];omega) _).imp λh=>by simpa using h);have J:=congrArg List.length v;rw[List.length_mergeSort]at J;have h3:=yei rd (zbe d);have h4:(zbe d).length<=1000000:=by rw[zbe,ybn];exact hl.nnames
  rw[hM,hF,hK];omega
 have ce:((M.flatMap K).map RdM.name).Nodup:=by
  have hs:(M.flatMap K).Pairwise λx y=>kR x<kR y:=by rw[List.pairwise_flatMap];refine⟨λm l=>by rw[hK];exact zke _ _ _,List.Pairwise.imp_of_mem (R:=λx y=>x.id<y.id) (λ{x y} u hy ag r w r' hr'=> ?_) b8⟩;obtain⟨e1,o1⟩:=a0 x u r w;obtain⟨e2,o2⟩:=a0 y hy r' hr';have:=o1.q70;have:=o2.q70;unfold kR;omega
  rw[ya9,yb0];refine List.Pairwise.imp_of_mem (R:=λx y=>kR x<kR y) (λ{x y} u hy ag he=> ?_) hs;have av:∀{r},r∈M.flatMap K->OkRd r:=λ{r} w=>by obtain⟨m,l,w⟩:=ydn.1 w;exact(a0 m l r w).2
  have:=zzH (av u) (av hy) he;omega
 have c8:∀m∈M,(F m).length<=1000000->PT 63 [.lst (rdsC (F m))] (λx=>x=.tup [.agg (metC (c16 m)),.lst (zaV ((K m).map RdM.name))]):=λm l d4=>by
  obtain⟨x,u,ba,bb⟩:=am m l;have bh:=hQ.frm x u;have c7:=bh.top;have e1:(Fm (mFm O Fm x).path).2.2.length=(Fm x.path).2.2.length:=rfl;have bi:(St m).length<=100000:=by have v:(St m).length<=(M.flatMap F).length:=(by obtain⟨l1,l2,e⟩:=List.append_of_mem l;rw[e,yek,yeh,hF];simp only[yag];omega);have J:((zbe d).filterMap rd).length<=256:=(by have h3:=yei rd (zbe d);have h4:=zfN I;have h5:=I.nfiles;have h6:(zbe d).length=d.names.length:=(by rw[zbe,ybn]);omega);have h3:=W (((zbe d).filterMap rd).mergeSort λx y=>decide (kR x<=kR y)) (yel _ _) ((ydz (le:=λx y:RdM=>decide (kR x<=kR y)) (λx y z v J=>by simp only[decide_eq_true_eq]at*;omega) (λx y=>by simp only[ydu,decide_eq_true_eq];omega) _).imp λh=>by simpa using h);have h4:=congrArg List.length h3;rw[List.length_mergeSort,<-hM,<-hK]at h4;rw[hF]at v;omega
  have bj:stsR (K m)=(m.lad,m.base,m.last):=by
   rw[hK,bb];refine zBI (m:=mFm O Fm x) ?_ (λh0=> ?_) rfl
   .show zaz newL ((O x.path).take ((Fm x.path).2.1+(Fm x.path).2.2.flatten.length))=zaz (zaz newL ((O x.path).take (Fm x.path).2.1)) (Fm x.path).2.2.flatten;have cf:=bh.pre;have c9:(O x.path).take ((Fm x.path).2.1+(Fm x.path).2.2.flatten.length)=(O x.path).take (Fm x.path).2.1++(Fm x.path).2.2.flatten:=by rw[List.take_add];congr 1;exact(List.prefix_iff_eq_take.1 cf).symm
    rw[c9];simp[zaz]
   .show zaz newL ((O x.path).take (Fm x.path).2.1)=newL;rw[bh.b0 h0];rfl
  have bf:=zcT.1 ba;rw[hF];rw[hK]at bj⊢;rw[bb]at bj bi⊢;exact z60 (m:=mFm O Fm x) bj bf.symm (λr w=>(zpE hQ u w).1) (by omega) (hgl x u) (St (mFm O Fm x)) (λbf=>by obtain⟨r,w⟩:=ydc _ bf;rw[<-bb]at w⊢;exact(b9 m l r w).2.2) bi
 have bk:jkF d O Fm ms=(zbe d).filter λt=> !decide (t∈(M.flatMap K).map RdM.name):=by rw[hM,hK];rfl
 have da:zc8 d O Fm ms L=zdm (zdr (zco d L M) (jkF d O Fm ms)):=by rw[hM];rfl
 rw[da];have hR:((msF O Fm ms).flatMap λm=>St m++kF O Fm m)=M.flatMap F:=by rw[hM,hF,hK]
 rw[hR]at az;have bl:(zaV (zbe d)).length=d.names.length:=by rw[zdz,zbe,ybn]
 have bm:∀c∈zaV (zbe d),∀x∈c,x.pure=true/\x≠ .nils:=λc hc x u=>by obtain⟨t,_,rfl⟩:=yar.1 hc;simp at u;subst u;simp[AV.pure]
 obtain⟨T,ae⟩:∃T,T=zbe d:=⟨_,rfl⟩;have db:d.names.map (·.name)=T:=ae.symm;rw[<-ae]at az bl bm;simp only[zag,db]at kD az;simp[zpv,zag];refine zai (kD _) ?_;rintro r σ' ⟨rfl,rfl⟩;simp;refine zad kA ?_;simp[shC,splice];refine zEr (id:=3) (e:=9) (size:=1) (els:=zaV T) rfl (λc hc x u=>(bm c hc x u).1) (λc hc x u=>(bm c hc x u).2) az (.cons (.pure _ (by simp[AV.pure])) (.cons (.row 3 _ 9 1 (zaV T) true rfl bl (.inl rfl)) .nil)) ?_;rintro r rfl;simp;have bn:T.length=d.names.length:=by rw[ae,zbe,ybn]
 obtain⟨Z,hZ⟩:∃Z:Entry,Z=.var 33 [.int .i64 0,.nils,.nils,.nils,.nils,.int .i64 0,.nils,.int .i64 0,.int .i64 0,.bool false]:=⟨_,rfl⟩;refine zac (λx f σ=>∃(i kl:Nat),x=M.length-i/\i<=M.length/\f 4=.ptr 1 0/\f 5=.int .i64 0/\f 6=.row 3 T.length/\f 8=.ptr 4 0/\f 9=.map 5/\f 10=.ptr kl 0/\5<kl/\σ[1]? =some Z/\σ[3]? =some (.row 9 1 (zaV T) true)/\σ[4]? =some (.var 33 (shC (zco d L (M.take i))))/\σ[5]? =some (.mp (kvT (((M.take i).flatMap K).map RdM.name)))/\σ[kl]? =some (.var 143 [.lst (rdsC ((M.drop i).flatMap F))])/\zbr σ=true) M.length ?_ ?_;.refine⟨0,6,by simp,by simp,by simp,by simp, ?_,by simp,by simp,by simp,by omega,by simp[hZ],by simp,by simp[zco,shC],by simp[kvT],by simp,by simp[zbr,Entry.isItr]⟩;simp[bn]
 rintro x f σ ⟨i,kl,rfl,hi,f4,f5,f6,f8,f9,P,c6,z1,z3,z4,z5,zl,bz⟩;have s:=zbA ((M.drop i).flatMap F);by_cases ag:i<M.length
 .obtain⟨m,l⟩:=gE ag;have an:m∈M:=yad l;have hd:(M.drop i).flatMap F=F m++(M.drop (i+1)).flatMap F:=by rw[ybd ag,(yaa.1 l).2];rfl
  obtain⟨A,hA⟩:∃A,A=F m:=⟨_,rfl⟩;obtain⟨B,aw⟩:∃B,B=(M.drop (i+1)).flatMap F:=⟨_,rfl⟩;rw[<-hA,<-aw]at hd;have cg:A≠ []:=by rw[hA,hF];exact λe=>(cc m an).2 (List.append_eq_nil_iff.1 e).2
  have dc:0<A.length:=ycw.2 cg;rw[hd]at zl s;have dd:(A++B).length=A.length+B.length:=yag;obtain⟨r0,bc⟩:∃r0,(A++B)[0]? =some r0:=⟨_,yah (by omega)⟩;have a9:r0∈A:=by rw[yap dc]at bc;exact yad bc
  have ao:∀r∈A,r.id=m.id:=λr w=>ca m an r (by rw[<-hA];exact w);have dy:(A++B).length<=1000000:=by have e:M=M.take i++m::M.drop (i+1):=(by conv=>lhs;rw[<-ya2 i M,ybd ag,(yaa.1 l).2]);rw[e,yek,yeh,<-hA,<-aw]at cd;simp only[yag]at cd⊢;omega
  have ch:∀r,B[0]? =some r->r.id≠r0.id:=λr w=>by have ci:=yad w;rw[aw,ydn]at ci;obtain⟨y,hy,c3⟩:=ci;obtain⟨q,H⟩:=ybb hy;rw[yby]at H;have:=zex b8 (show i<i+1+q by omega) l H;have e1:=ca y (yad H) r c3;have e2:=ao r0 a9;omega
  have kI:=z1A (G:=G) (σ:=σ) (k:=kl) A B r0 bc (λr w=>by rw[ao r w,ao r0 a9]) ch (by omega) zl;have bo:¬((A++B).length=0):=by omega
  have dz:0<A.length+B.length:=by omega
  have d6:¬(A= []/\B= []):=λh=>cg h.1;have bp:(0:Int)<(A.length:Int)+B.length:=by omega
  simp[P,zl,s,bp];refine zai kI ?_;rintro r σ' ⟨rfl,rfl⟩;have ab:=c8 m an (by rw[<-hA];omega);rw[<-hA]at ab;simp only[metC,c16]at ab;obtain⟨S,hS⟩:∃S,S=zco d L (M.take i):=⟨_,rfl⟩;have de:zco d L (M.take (i+1))=zby S (c16 m):=by rw[ybh,l,hS];simp[zco]
  have cj:((M.take i).map MetM.path).Nodup:=al.sublist ((List.take_sublist i M).map _);obtain⟨v1,v2,v3,v4⟩:=zgN d L cj;have df:=(zk5 d L (N:=71) (by omega) cj λx u=>bg x (yao u)).2.2.2.1;rw[<-hS]at v1 v2 v3 v4 df z4;have bi:S.mets.length<=4:=by rw[v4,yan];omega
  have dg:¬hasK kM S.mets m.path:=by
   rintro⟨x,u,hk⟩;obtain⟨y,hy,rfl⟩:=(v2 x).1 u;obtain⟨q,H⟩:=ybb hy;have ck:=(yaa.1 H).1;rw[ycg (by simp at ck;omega)]at H;have cl:q<i:=by simp at ck;omega
   have bo:=ya9.1 al;rw[yb0]at bo;exact zex bo cl H l hk
  have kP:=znj (G:=G) S m.path v1 (by omega);have kW:=z0f (G:=G) S (c16 m) v1 (by omega) (by omega) (by have:=bg m an;show m.id<=_;omega);have dh:(zcw S.mets).length=S.mets.length:=zch _;have di:¬(64<=(S.mets.length:Int)):=by omega
  have d0:¬(64<=S.mets.length):=by omega
  have ad:=(zmJ (A++B)).1;have cn:rdsC (A++B)=rdsC A++rdsC B:=by simp[rdsC]
  have co:(rdsC (A++B)).take A.length=rdsC A:=by rw[cn,yci (zbA A)]
  have dj:(rdsC (A++B)).drop A.length=rdsC B:=by rw[cn,List.drop_left' (zbA A)]
  have dk:(rdsC (A++B)).take (A.length+B.length)=rdsC (A++B):=yal (by rw[zbA,dd];exact yaf _);have cq:A.length<=A.length+B.length:=by omega
  have U:∀(q:Nat) (e:Entry) (t:zaa),σ'[q]? =some e->(σ'++t)[q]? =some e:=λq e t h=>zaN h t;simp only[shC,dg,decide_false]at kP;simp only[shC,metC,c16,Int.cast_ofNat_Int]at kW;have cr:B= []->B.length=0:=λe=>by rw[e];rfl
  have dl:B= []->AV.lst []=AV.lst (rdsC B):=λe=>by rw[e];rfl
  have cs:¬((A.length:Int)<0):=by omega
  obtain⟨E,ah⟩:∃E,E=(K m).map RdM.name:=⟨_,rfl⟩;obtain⟨j,aa⟩:∃j,j=((M.take i).flatMap K).map RdM.name:=⟨_,rfl⟩;have d1:E.length<=71:=by rw[ah,ybn];exact(cc m an).1
  have dm:(j++E).Nodup:=by have e:M=M.take i++m::M.drop (i+1):=(by conv=>lhs;rw[<-ya2 i M,ybd ag,(yaa.1 l).2]);rw[e,yek,ycn,yeh,ycn,<-yax,<-ah,<-aa]at ce;exact(yb7.1 ce).1
  have ct:((M.take (i+1)).flatMap K).map RdM.name=j++E:=by rw[ybh,l,yek,ycn,<-aa,ah];simp
  by_cases au:B= [];rw[if_pos au];simp[P,zl,s,cr au];rw[if_pos ad,co];simp;refine zad ab ?_;simp[P,U kl _ _ zl,splice,s,cr au];rw[if_pos ad,dl au]
  rotate_left
  rw[if_neg au];simp[P,zl,s,cs];rw[if_pos ad,co];simp;refine zad ab ?_;simp[P,U kl _ _ zl,splice,s,cq];rw[if_pos ad,dk,dj]
  all_goals
   obtain⟨km,bw⟩:∃km,km=σ'.length:=⟨_,rfl⟩;obtain⟨σ2,o⟩:∃σ2:zaa,σ2=(σ'++ [Entry.var 57 (metC (c16 m))]).set kl (Entry.var 143 [.lst (rdsC B)]):=⟨_,rfl⟩;have d2:=(yaa.1 zl).1;have y1:σ2[1]? =some Z:=(by rw[o,yaj (by omega)];exact U 1 _ _ z1);have y3:σ2[3]? =some (.row 9 1 (zaV T) true):=(by rw[o,yaj (by omega)];exact U 3 _ _ z3);have y4:σ2[4]? =some (.var 33 (shC S)):=(by rw[o,yaj (by omega)];exact U 4 _ _ z4);have y5:σ2[5]? =some (.mp (kvT (((M.take i).flatMap K).map RdM.name))):=(by rw[o,yaj (by omega)];exact U 5 _ _ z5);have yl:σ2[kl]? =some (.var 143 [.lst (rdsC B)]):=(by rw[o];exact zaR (U kl _ _ zl) _);have ym:σ2[km]? =some (.var 57 (metC (c16 m))):=(by rw[o,bw,yaj (by omega)];exact znx);have cu:zbr σ2=true:=(by rw[o];exact zqs (zwH bz rfl) rfl);have d3:kl<km:=(by omega);simp only[metC,c16,Int.cast_ofNat_Int]at o ym;simp only[shC]at y4;simp[P,U kl _ _ zl,splice];rw[<-o,<-bw];simp[f8,y4,ym];refine zad kP ?_;simp[f8,y4,ym,dh,di];refine zad kW ?_;simp[f8,y4,splice];refine zac (λx f σ=>∃k,x=E.length-k/\k<=E.length/\f 4=.ptr 1 0/\f 5=.int .i64 0/\f 6=.row 3 T.length/\f 8=.ptr 4 0/\f 9=.map 5/\f 10=.ptr kl 0/\f 75=.lst (zaV E)/\f 76=.int .i64 E.length/\f 77=.int .i64 k/\σ[1]? =some Z/\σ[3]? =some (.row 9 1 (zaV T) true)/\σ[4]? =some (.var 33 (shC (zby S (c16 m))))/\σ[5]? =some (.mp (kvT (j++E.take k)))/\σ[kl]? =some (.var 143 [.lst (rdsC B)])/\zbr σ=true) E.length ?_ ?_
   .refine⟨0,by simp,by simp,by simp[f4],by simp[f5],by simp[f6],by simp[f8],by simp[f9],by simp[P],by simp[ah],by simp[ah,zdz],by simp, ?_, ?_, ?_, ?_, ?_, ?_⟩;.rw[yaj (by omega)];exact y1
    .rw[yaj (by omega)];exact y3
    .rw[zaR y4];simp[shC,c16]
    .rw[yaj (by omega)];simpa[aa]using y5
    .rw[yaj (by omega)];exact yl
    .exact zqs cu rfl
   rintro x f' σ3 ⟨k,rfl,hk,af,ai,b1,b2,Q,a7,b3,b4,b5,w1,w3,w4,w5,wl,aj⟩;simp[b4,b5];refine zap (λb6=> ?_) (λb7=> ?_)
   .have D:k<E.length:=(by omega);have a1:=wS k (by omega);obtain⟨t,ht⟩:=gE D;have a2:(zaV E)[k]? =some [.str t]:=(by simp[zaV,ht]);obtain⟨c4,bd⟩:=yaa.1 a2;have dn:t∉j++E.take k:=λa8=>by have v:(j++E)[j.length+k]? =some t:=(by rw[yam (by omega),ybc];exact ht);have J:j++E.take k=(j++E).take (j.length+k):=(by rw[List.take_length_add_append]);rw[J]at a8;obtain⟨q,H⟩:=ybb a8;have bq:=(yaa.1 H).1;have aq:q<j.length+k:=(by simp at bq;omega);rw[ycg aq]at H;exact zex (ya9.1 dm) aq H v rfl
    have cw:=zCA dn;have dp:j++E.take k++ [t]=j++E.take (k+1):=(by rw[ybh,ht];simp);rw[dp]at cw;simp[Q,b3,b5,a2,w5,cw,aj,a1, -zd2, -zbr, -Entry.isItr];refine nx_i ⟨k+1,rfl,by omega,by simp[af],by simp[ai],by simp[b1],by simp[b2],by simp[Q],by simp[a7],by simp[b3],by simp[b4],by simp, ?_, ?_, ?_, ?_, ?_, ?_⟩;.rw[yaj (by omega)];exact w1
    .rw[yaj (by omega)];exact w3
    .rw[yaj (by omega)];exact w4
    .exact zaR w5 _
    .rw[yaj (by omega)];exact wl
    .exact zqs aj rfl
   .have dq:k=E.length:=(by omega);subst dq;rw[yav]at w5;simp[a7,wl];refine nx_i ⟨i+1,σ3.length,rfl,by omega,by simp[af],by simp[ai],by simp[b1],by simp[b2],by simp[Q],by simp, ?_, ?_, ?_, ?_, ?_, ?_, ?_⟩;.have:=(yaa.1 wl).1;omega
    .exact zaN w1 _
    .exact zaN w3 _
    .rw[de];exact zaN w4 _
    .rw[ct];exact zaN w5 _
    .rw[<-aw];exact znx
    .exact zwH aj rfl
 .have dr:i=M.length:=by omega
  subst dr;rw[ydx]at zl s;simp[P,zl,rdsC];obtain⟨v1,v2,v3,v4⟩:=zgN d L al;obtain⟨u1,u2,u3,u4,u5⟩:=zk5 d L (N:=71) (by omega) al bg;rw[yav]at z4 z5;obtain⟨S,hS⟩:∃S,S=zco d L M:=⟨_,rfl⟩;rw[<-hS]at z4 v1 v2 v3 v4 u1 u2⊢;have hv:∀t,view (σ++t) (.row 3 T.length)=some (zaV T):=λt=>by have h3:=zaN z3 t;simp[view,h3,bl,bn]
  have br:(zaV T).length=T.length:=zdz T;have d7:T.length<=1000000:=by rw[bn];exact hl.nnames
  obtain⟨C,hC⟩:∃C,C=(M.flatMap K).map RdM.name:=⟨_,rfl⟩;rw[<-ae,<-hC]at bk;rw[<-hC]at z5;have hG:=zjZ hQ;rw[bk]at hG;rw[bk];obtain⟨σ2,o⟩:∃σ2:zaa,σ2=σ++ [Entry.var 127 (wkC S)]:=⟨_,rfl⟩;obtain⟨kw,bx⟩:∃kw,kw=σ.length:=⟨_,rfl⟩;have y3:σ2[3]? =some (.row 9 1 (zaV T) true):=by rw[o];exact zaN z3 _
  have y5:σ2[5]? =some (.mp (kvT C)):=by rw[o];exact zaN z5 _
  have yk:σ2[kw]? =some (.var 127 (wkC S)):=by rw[o,bx];exact znx
  have y1:σ2[1]? =some Z:=by rw[o];exact zaN z1 _
  have y4:σ2[4]? =some (.var 33 (shC S)):=by rw[o];exact zaN z4 _
  have d8:5<kw:=by have:=(yaa.1 z5).1;omega
  simp only[shC,u2]at z4;simp[f8,f6,z4,hv];simp only[wkC,u2,ycr,if_false]at o;rw[<-o];clear o z1 z3 z4 z5 zl bz;refine zac (λx f σ=>∃k,x=T.length-k/\k<=T.length/\f 4=.ptr 1 0/\f 5=.int .i64 0/\f 9=.map 5/\f 18=.ptr kw 0/\f 88=.row 3 T.length/\f 89=.int .i64 T.length/\f 90=.int .i64 k/\σ[1]? =some Z/\σ[3]? =some (.row 9 1 (zaV T) true)/\σ[4]? =some (.var 33 (shC S))/\σ[5]? =some (.mp (kvT C))/\σ[kw]? =some (.var 127 (wkC (zdr S ((T.take k).filter λt=> !decide (t∈C)))))) T.length ?_ ?_;.exact⟨0,by simp,by simp,by simp[f4],by simp[f5],by simp[f9],by simp[bx],by simp,by simp[br],by simp,y1,y3,y4,y5,by simpa[zdr]using yk⟩
  clear y1 y3 y4 y5 yk;rintro x f' σ3 ⟨k,rfl,hk,af,ai,Q,ak,ax,be,ay,y1,y3,y4,y5,yk⟩;obtain⟨X,hX⟩:∃X,X=zdr S ((T.take k).filter λt=> !decide (t∈C)):=⟨_,rfl⟩;rw[<-hX]at yk;have ds:za7 S:=by rw[za7,u1];omega
  have cx:za7 X:=by rw[hX];exact zmM ds _
  have dt:SizeM d a 1000:=hQ.size;have ar:((T.take k).filter λt=> !decide (t∈C)).Sublist (T.filter λt=> !decide (t∈C)):=(List.take_sublist _ _).filter _;have bs:X.down=false->RightM X.disk/\Fits X.disk/\∀t,hasK kN X.disk.names t↔t∉(T.take k).filter (λt=> !decide (t∈C))/\hasK kN d.names t:=λhd=>by rw[hX]at hd⊢;have v:=(zkt _ hd).2;rw[v3]at v;obtain⟨J,h3⟩:=zce dt (hG.nd.sublist ar) (λn hn=>hG.ok n (ar.subset hn));rw[v];refine⟨J.right,J.fits (by omega) ?_,h3⟩;have:=ar.length_le;have:=ycs (λt=> !decide (t∈C)) T;have h4:=zfN I;have h5:=I.nfiles;omega
  simp[be,ay];refine zap (λb6=> ?_) (λb7=> ?_)
  .have D:k<T.length:=(by omega);have a1:=wS k (by omega);obtain⟨t,ht⟩:=gE D;have a2:(zaV T)[k]? =some [.str t]:=(by simp[zaV,ht]);obtain⟨c4,bd⟩:=yaa.1 a2;have a3:(T.take (k+1)).filter (λt=> !decide (t∈C))=(T.take k).filter (λt=> !decide (t∈C))++(if t∈C then []else [t]):=(by rw[ybh,ht,ydw];by_cases h:t∈C<;>simp[h]);by_cases a6:t∈C;.rw[if_pos a6,ybi]at a3;obtain⟨q,H⟩:=zAP a6 0;simp[Q,ax,ay,bd,y3,y5,br,H,a1,D, -zaQ];exact nx_i ⟨k+1,rfl,by omega,by simp[af],by simp[ai],by simp[Q],by simp[ak],by simp[ax],by simp[be],by simp,y1,y3,y4,y5,by rw[a3,<-hX];exact yk⟩
   .rw[if_neg a6]at a3;have H:=z56 a6 0;have cy:t∉(T.take k).filter λt=> !decide (t∈C):=λl=>by have v:=(ybf.1 l).1;obtain⟨q,H⟩:=ybb v;have bq:=(yaa.1 H).1;have aq:q<k:=(by simp at bq;omega);rw[ycg aq]at H;have cz:T.Nodup:=(by rw[ae];exact zlX I);exact zex (ya9.1 cz) aq H ht rfl
    have du:t∈zbe d:=(by rw[<-ae];exact yad ht);have c0:=zh7.1 du;have dv:okS t:=(by obtain⟨x,u,rfl⟩:=c0;exact I.names.ok x u);have kW:=ztD (G:=G) (n:=t) X cx yk λhd=>by obtain⟨v,J,h3⟩:=bs hd;exact⟨v,J,dv,(h3 t).2 ⟨cy,c0⟩⟩
    simp[Q,ak,ax,ay,bd,y3,y5,br,H,D, -zaQ];refine zai kW ?_;rintro r σ4 ⟨rfl,rfl⟩;simp[ay,a1];refine nx_i ⟨k+1,rfl,by omega,by simp[af],by simp[ai],by simp[Q],by simp[ak],by simp[ax],by simp[be],by simp, ?_, ?_, ?_, ?_, ?_⟩;.rw[yaj (by omega)];exact y1
    .rw[yaj (by omega)];exact y3
    .rw[yaj (by omega)];exact y4
    .rw[yaj (by omega)];exact y5
    .rw[zaR yk,a3,zgA,<-hX]
  .have dw:k=T.length:=(by omega);subst dw;rw[yav]at hX;rw[<-hX];simp[ak];have kW:=znb (G:=G) X cx yk λhd=>⟨(bs hd).1,(bs hd).2.1⟩;refine zai kW ?_;rintro r σ' ⟨rfl,rfl⟩;obtain⟨Y,hY⟩:∃Y,Y=zdm X:=⟨_,rfl⟩;rw[<-hY];have c6:=(yaa.1 yk).1;have a4:=zaR yk (.var 127 (wkC Y));have a5:(σ3.set kw (.var 127 (wkC Y)))[1]? =some Z:=(by rw[yaj (by omega)];exact y1);obtain⟨σ5,c5⟩:∃σ5,σ5=σ3.set kw (.var 127 (wkC Y)):=⟨_,rfl⟩;rw[<-c5]at a4 a5⊢;have c1:∀x,(σ5.set 1 x)[kw]? =some (.var 127 (wkC Y)):=λx=>by rw[yaj (by omega)];exact a4
   have dx:∀x,(σ5.set 1 x)[1]? =some x:=zaR a5;simp only[wkC]at a4 c1;rw[hZ]at a5;simp[af,ak,a4,a5,c1,dx,splice,zgg]
end Go.Proofs.YtdbhocoeolhjhaaGreatDoor
namespace Go.Sf
open Go.Abs Go.Num
structure FallM where
 left:Nat
 moves:Nat
 keeps:List KeepM
structure OkFall (f:FallM):Prop where
 l:f.left<256
 m:f.moves<256
 k:∀x∈f.keeps,i64 x.id/\i64 x.bytes
def zpR (f:FallM):List AV:= [.int .u8 f.left,.int .u8 f.moves,.lst (zgT f.keeps)]
def zjv (l:List FallM):List (List AV):=l.map zpR
end Go.Sf
namespace Go.Proofs.YtdbhocoeolhjhaaGreatDoor
open Go.Abs Go.RowKit Go.Sf Go.Num
variable {G:Globs}
theorem z0Z (l:List FallM):(zjv l).length=l.length:=by simp[zjv]
theorem ztA {l:List FallM}{i:Nat}{g:FallM}(h:l[i]? =some g):(zjv l)[i]? =some (zpR g):=by simp[zjv,h]
def shV (s:ShM):Entry:=.var 33 (shC s)
theorem PlayAt.more {σ:zaa}{k:Nat}{p:PlayM}{C0 C1 C2 C3:AV}(h:PlayAt σ k p C0 C1 C2 C3)(t:zaa):PlayAt (σ++t) k p C0 C1 C2 C3:=⟨zaN h.at' t,h.c0.more t,h.c1.more t,h.c2.more t,h.c3.more t⟩
theorem PlayAt.kept {σ σ':zaa}{k j:Nat}{p:PlayM}{C0 C1 C2 C3:AV}{t:TypeId}{c:List AV}(h:PlayAt σ k p C0 C1 C2 C3)(hj:σ[j]? =some (.var t c))(hne:k≠j)(hK:Kept σ σ' j):PlayAt σ' k p C0 C1 C2 C3:=⟨by rw[hK.get k (yaa.1 h.at').1 hne];exact h.at',h.c0.kept hj hK,h.c1.kept hj hK,h.c2.kept hj hK,h.c3.kept hj hK⟩
theorem zyo {l:List ActM}(i:Nat):((l.take i).map λa=>a.dots.length).sum<=(l.map λa=>a.dots.length).sum:=by
 conv=>rhs;rw[<-ya2 i l]
 rw[ycn,List.sum_append];omega
theorem z7a:Good (newS 60000) ⟨λ_=> [],λ_=>0,1000⟩ 0:=⟨rfl,by rw[za7];exact⟨by decide,by decide⟩,zuj (by decide),λ_=> [],λ_=>(0,false),⟨by intro a h;simp[newS]at h,by intro m h;simp[newS]at h,λ_ _ _=>⟨rfl,rfl⟩⟩,λj _=>⟨[],[],[],rfl,rfl,rfl,yaf _,by simp,λ_=>rfl⟩⟩
theorem z5f {s:ShM}{p:PlayM}{a:Nat}(h:Good s p a){L:Int}(h1: -1<=L)(h2:L<=1000):Good {s with left:=L} p a:=⟨h.down,⟨h1,h2⟩,zm3 (b:=s.down) h.play L,by obtain⟨O,S,c,d⟩:=h.own;exact⟨O,S,zpT c L,d⟩⟩
theorem zEz {C0 C1 C2 C3:AV}(f:Nat->Nat)(now:Nat){j:Nat}(hj:j<4):List.take 1 (List.drop (4+j) [C0,C1,C2,C3,AV.int .i64 (f 0:Nat),.int .i64 (f 1:Nat),.int .i64 (f 2:Nat),.int .i64 (f 3:Nat),.int .i64 now])= [AV.int .i64 (f j:Nat)]:=by
 match j,hj with
 |0,_=>rfl
 |1,_=>rfl
 |2,_=>rfl
 |3,_=>rfl
theorem splB {C0 C1 C2 C3:AV}{now:Nat}(f:Nat→Nat){j:Nat}(hj:j<4)(R:AV)(n:Nat):(List.take (4+j) (List.take j [C0,C1,C2,C3,AV.int .i64 (f 0:Nat),.int .i64 (f 1:Nat),.int .i64 (f 2:Nat),.int .i64 (f 3:Nat),.int .i64 now]++R::List.drop j [C1,C2,C3,.int .i64 (f 0:Nat),.int .i64 (f 1:Nat),.int .i64 (f 2:Nat),.int .i64 (f 3:Nat),.int .i64 now])++
   AV.int .i64 n::List.drop (4+j+1) (List.take j [C0,C1,C2,C3,AV.int .i64 (f 0:Nat),.int .i64 (f 1:Nat),.int .i64 (f 2:Nat),.int .i64 (f 3:Nat),.int .i64 now]++R::List.drop j [C1,C2,C3,.int .i64 (f 0:Nat),.int .i64 (f 1:Nat),.int .i64 (f 2:Nat),.int .i64 (f 3:Nat),.int .i64 now]))=
  plC (if 0=j then R else C0) (if 1=j then R else C1) (if 2=j then R else C2) (if 3=j then R else C3) ((λi=>if i=j then n else f i) 0:Nat) ((λi=>if i=j then n else f i) 1:Nat) ((λi=>if i=j then n else f i) 2:Nat) ((λi=>if i=j then n else f i) 3:Nat) now:=by
 match j,hj with
 |0,_=>rfl
 |1,_=>rfl
 |2,_=>rfl
 |3,_=>rfl
def begN (s:ShM)(p:PlayM)(n:Nat):PlayM:=⟨λj=>if j<n then(p.came j).take (begJ s p j)else p.came j,λj=>if j<n then begJ s p j else p.sure j,p.now⟩
set_option maxRecDepth 100000 in
theorem z8H [GMaxL](hT:zhx G)(l:List ActM)(hl:l.length<=1000000000000000)(hd:∀a∈l,a.dots.length<=1000000000000000)(ho:∀a∈l,OkAct a)(F:List FallM)(hFl:F.length<=1000000000000000)(hfk:∀g∈F,g.keeps.length<=1000000000000000)(hfo:∀g∈F,OkFall g):PT 5 [.lst (znT l),.lst (zjv F)] (λr=>r=.bool true):=by
 refine pwP zhT ?_;have be:=zv2 l;have ae:=z0Z F;simp[zdX];refine zad (z7v hT) ?_;simp;refine zad (z3h l hl hd) ?_;by_cases hg:zp3 l=true;.simp[hg]
 have af:zp3 l=false:=by simpa using hg
 have hn:l.length<=60:=by unfold zp3 at af;simp at af;omega
 have ht:zts l<=300:=by unfold zp3 at af;simp at af;omega
 by_cases d7:5<F.length
 .have ai:(5:Int)<F.length:=by omega
  simp[af,ae,ai]
 have ai:¬(5:Int)<F.length:=by omega
 simp[af,ae,ai];refine zac (λx f σ=>∃(i:Nat),x=F.length-i/\i<=F.length/\(∀g∈F.take i,g.keeps.length<=100)/\f 0=.lst (znT l)/\f 1=.lst (zjv F)/\f 5=.int .i64 i/\σ= []) F.length ?_ ?_;.exact⟨0,by simp⟩
 rintro x f σ ⟨i,rfl,hi,hk,z,u,f5,rfl⟩;simp[u,f5,ae];refine zap (λaq=> ?_) (λcw=> ?_)
 .have b4:i<F.length:=by omega
  have ar:=wS i (by omega);obtain⟨g,hg⟩:=gE b4;have hc:=ztA hg;obtain⟨cn,co⟩:=yaa.1 hc;have b5:(zgT g.keeps).length=g.keeps.length:=by simp[zgT]
  by_cases dt:100<g.keeps.length;.have Z:(100:Int)<g.keeps.length:=(by omega);simp[u,f5,hc,zpR,b5,Z]
  .have Z:¬(100:Int)<g.keeps.length:=(by omega);simp[u,f5,hc,zpR,b5,Z,ar];refine nx_i ⟨i+1,rfl,by omega,λy hy=> ?_,by simp[z],by simp[u],by simp,rfl⟩;rw[ybh,hg]at hy;rcases yai.1 hy with hy|hy
   .exact hk y hy
   .simp at hy;subst hy;omega
 have cx:i=F.length:=by omega
 subst cx;rw[yav]at hk;clear f5 hi cw;simp;refine zad (z6p 60000 (by omega)) ?_;simp[splice,shC];refine zac (λx f σ=>∃(t i:Nat) (s:ShM) (p:PlayM) (C0 C1 C2 C3:AV) (o:zaa),x=F.length-t/\t<=F.length/\i<=l.length/\f 0=.lst (znT l)/\f 1=.lst (zjv F)/\f 6=.ptr 0 0/\f 7=.int .i64 0/\f 8=.ptr 1 0/\f 9=.int .i64 i/\f 10=.int .i64 t/\Good s p i/\1000<=p.now/\p.now<=1000+30*((l.take i).map λa=>a.dots.length).sum/\PlayAt (shV s::o) 1 p C0 C1 C2 C3/\σ=shV s::o) F.length ?_ ?_;.exact⟨0,0,newS 60000,⟨λ_=> [],λ_=>0,1000⟩,.nils,.nils,.nils,.nils,[.var 42 (plC .nils .nils .nils .nils 0 0 0 0 1000)],by simp,by simp,by simp,by simp[z],by simp[u],by simp,by simp,by simp,by simp,by simp,z7a,by simp,by simp,⟨rfl,.inl (.inl ⟨rfl,rfl⟩),.inl (.inl ⟨rfl,rfl⟩),.inl (.inl ⟨rfl,rfl⟩),.inl (.inl ⟨rfl,rfl⟩)⟩,by simp[shV,shC,plC]⟩
 clear z u f;rintro x f σ ⟨t,i,s,p,C0,C1,C2,C3,o,rfl,dx,hi,z,u,w,P,B,H,c,hG,I,T,A,rfl⟩;have a2:=zyo (l:=l) i;unfold zts at ht;have U:∀s,shV s=.var 33 (shC s):=λs=>rfl;have cy:(t:Int)<=F.length:=by omega
 obtain⟨L,bw,cq,bx⟩:∃L:Int, -1<=L/\L<=1000/\L=(match F[t]? with|some g=>(g.left:Int)|none=> -1):=by
  cases h:F[t]? with
  |none=>exact⟨-1,by omega,by omega,rfl⟩
  |some g=>have:=(hfo g (yad h)).l;exact⟨g.left,by omega,by omega,rfl⟩
 have W:=zBz (G:=G) s L bw;simp only[shC]at W;simp[u,P,c,ae,cy];obtain⟨s1,a7⟩:∃s1,s1={s with left:=L}:=⟨_,rfl⟩;have b6:Good s1 p i:=by rw[a7];exact z5f hG bw cq
 have b7:PlayAt (shV s1::o) 1 p C0 C1 C2 C3:=by have:=A.kept (j:=0) rfl (by decide) (zdL (k:=0) (shV s1) []);simpa using this
 have a3:shV s1=.var 33 [.int .i64 s.disk.quota,.lst (zau s.disk.files),.lst (zam s.disk.names),.lst (zam s.disk.kept),.lst (zaI s.disk.moves),.int .i64 s.disk.next,.lst (zcw s.mets),.int .i64 s.next,.int .i64 L,.bool s.down]:=by rw[a7];rfl
 by_cases aq:t<F.length;have b8:(t:Int)<F.length:=by omega
 obtain⟨g,hg⟩:=gE aq;have hc:=ztA hg;obtain⟨cn,co⟩:=yaa.1 hc;have au:=hfo g (yad hg);have dz:=hk g (yad hg);have cz:IntKind.i64.wrap L=L:=wI (by omega);have av:L=g.left:=by rw[bx,hg]
 simp[aq,u,w,c,hc,zpR,U,shC,cz,<-av];refine zaX W (by simp[AV.pure]) ?_;simp[-zmP,splice,w]
 rotate_left
 have b8:¬(t:Int)<F.length:=by omega
 have av:L= -1:=by rw[bx,ybv (by omega)]
 rw[av]at W;simp[aq,w,U,shC];refine zad W ?_;simp[-zmP,splice,w]
 all_goals
  refine z0s (λf σ=>∃(i:Nat) (s:ShM) (p:PlayM) (C0 C1 C2 C3:AV) (o:zaa),i<=l.length/\f 0=.lst (znT l)/\f 1=.lst (zjv F)/\f 6=.ptr 0 0/\f 7=.int .i64 0/\f 8=.ptr 1 0/\f 9=.int .i64 i/\f 10=.int .i64 t/\1000<=p.now/\p.now<=1000+30*((l.take i).map λa=>a.dots.length).sum/\PlayAt (shV s::o) 1 p C0 C1 C2 C3/\Fell s.disk p i/\σ=shV s::o) ?_ ?_
  rotate_left
  focus
   simp;refine zac (λx f σ=>∃(i:Nat) (s:ShM) (p:PlayM) (C0 C1 C2 C3:AV) (o:zaa) (dn:Bool),x=l.length-i/\i<=l.length/\f 0=.lst (znT l)/\f 1=.lst (zjv F)/\f 6=.ptr 0 0/\f 7=.int .i64 0/\f 8=.ptr 1 0/\f 9=.int .i64 i/\f 10=.int .i64 t/\f 11=.bool dn/\1000<=p.now/\p.now<=1000+30*((l.take i).map λa=>a.dots.length).sum/\PlayAt (shV s::o) 1 p C0 C1 C2 C3/\(dn=false->Good s p i)/\(dn=true->Fell s.disk p i)/\σ=shV s::o) (l.length-i) ?_ ?_;.exact⟨i,s1,p,C0,C1,C2,C3,o,false,rfl,hi,by simp[z],by simp[u],by simp[w],by simp[P],by simp[B],by simp[H],by simp[c],by simp,I,T,b7,λ_=>b6,λh=>absurd h (by simp),by rw[a3,av]⟩
   clear I T b7 b6 A hG z u w P B H c hi a2 a3 a7;rintro x f σ ⟨i,s,p,C0,C1,C2,C3,o,dn,rfl,hi,z,u,w,P,B,H,c,b1,I,T,A,b2,ah,rfl⟩;have a2:=zyo (l:=l) i;by_cases cl:i<l.length
   .have J:(i:Int)<l.length:=(by omega);cases dn with
    |true=>simp[z,H,b1,be,J];exact zfx ⟨i,s,p,C0,C1,C2,C3,o,hi,by simp[z],by simp[u],by simp[w],by simp[P],by simp[B],by simp[H],by simp[c],I,T,A,ah rfl,rfl⟩
    |false=>
     have hG:=b2 rfl;have ar:=wS i (by omega);obtain⟨a,ha⟩:=gE cl;have bf:=zxq ha;obtain⟨du,dv⟩:=yaa.1 bf;have b9:=ho a (yad ha);have c4:=tS ha;have c5:=zyo (l:=l) (i+1);have d0:((l.take (i+1)).map λa=>a.dots.length).sum=((l.take i).map λa=>a.dots.length).sum+a.dots.length:=(by rw[c4,ycn,List.sum_append];simp only[yce,List.map_nil,List.sum_cons,List.sum_nil,ycf]);have bg:a.dots.length<=300:=(by omega);have ca:=λ(X:zaa)=>zEg (G:=G) hT hG.play hG.down hG.left (by omega) (by omega) (A.more X) a b9 bg I (by omega);have a4:∀{E:ShM} {p':PlayM} {e:Int},((e≠22/\E.down=false/\za7 E/\PlayInv E p' s.disk.quota (i+1) (i+1)/\StepP s p a.dots.length E p')∨(e=22/\DownP s p a.dots.length E p'))->(decide (e=22)=false->Good E p' (i+1))/\(decide (e=22)=true->Fell E.disk p' (i+1)):=λ{E p' e} h=>by
      rcases h with ⟨h1,h2,h3,h4,h5⟩|⟨h1,h2⟩;.exact⟨λ_=>z6x hG (by omega) h5 bg h2 h3 h4,λh=>absurd (of_decide_eq_true h) h1⟩
      .exact⟨λh=>absurd h1 (of_decide_eq_false h),λ_=>z5Z hG (by omega) h2 bg⟩
     simp[z,H,b1,be,J];refine⟨?_, ?_⟩
     .have cc:=ca [];simp only[ybi]at cc;simp[z,w,B,H,bf,U,shC,actC];refine zai cc ?_;rintro r σ' ⟨E,p',e,D0,D1,D2,D3,rfl,bb,ao,bc,cu,bd⟩;obtain⟨M,rfl⟩:∃M,σ'=shV s::M:=by
       have h0:=ao.get 0 (by simp) (by decide)
       match σ',h0 with
       |x::M,h0=>exact⟨M,by simpa using h0⟩
      have bh:(shV s::M)[0]? =some (.var 33 (shC s)):=rfl;obtain⟨a8,a9⟩:=a4 bd;simp[splice,U,shC,w,H,ar];refine nx_j (l.length-(i+1)) ⟨i+1,E,p',D0,D1,D2,D3,M++ [shV E],decide (e=22),rfl,by omega,by simp[z],by simp[u],by simp[w],by simp[P],by simp[B],by simp,by simp[c],by simp,bc,by omega,bb.kept bh (by decide) (zdL (k:=0) (shV E) [shV E]),a8,a9,by simp[shV,shC]⟩
     .simp[z,w,B,H,bf,U,shC,actC];refine zai (ca [_]) ?_;rintro r σ' ⟨E,p',e,D0,D1,D2,D3,rfl,bb,ao,bc,cu,bd⟩;obtain⟨a8,a9⟩:=a4 bd;obtain⟨M,rfl⟩:∃M,σ'=shV s::M:=by
       have h0:=ao.get 0 (by simp) (by decide)
       match σ',h0 with
       |x::M,h0=>exact⟨M,by simpa using h0⟩
      have d3:1<=o.length:=(by have:=(yaa.1 A.at').1;simp at this;omega);have bi:M[o.length]? =some (.var 33 [.int .i64 0,.nils,.nils,.nils,.nils,.int .i64 0,.nils,.int .i64 0,.int .i64 0,.bool false]):=(by have h0:=ao.get (o.length+1) (by simp) (by omega);simpa using h0);have c6:∀x:Entry,(M.set o.length x)[o.length]? =some x:=λx=>zaR bi x;have bh:(shV s::M)[0]? =some (.var 33 (shC s)):=rfl;have bj:(shV E::M)[o.length+1]? =some (.var 33 [.int .i64 0,.nils,.nils,.nils,.nils,.int .i64 0,.nils,.int .i64 0,.int .i64 0,.bool false]):=(by simpa using bi);simp[bi,c6,splice,U,shC,w,H,ar];have c7:PlayAt (shV E::M) 1 p' D0 D1 D2 D3:=(by have:=bb.kept bh (by decide) (zdL (k:=0) (shV E) []);simpa using this);have c8:PlayAt (shV E::M.set o.length (shV E)) 1 p' D0 D1 D2 D3:=(by have:=c7.kept bj (by omega) (zdL (k:=o.length+1) (shV E) []);simpa using this);exact nx_j (l.length-(i+1)) ⟨i+1,E,p',D0,D1,D2,D3,M.set o.length (shV E),decide (e=22),rfl,by omega,by simp[z],by simp[u],by simp[w],by simp[P],by simp[B],by simp,by simp[c],by simp,bc,by omega,c8,a8,a9,by simp[shV,shC]⟩
   .have J:¬(i:Int)<l.length:=(by omega);have cd:Fell s.disk p i:=by
     cases dn with
     |true=>exact ah rfl
     |false=>exact z3V (b2 rfl) (by omega)
    simp[z,H,be,J];exact zfx ⟨i,s,p,C0,C1,C2,C3,o,hi,by simp[z],by simp[u],by simp[w],by simp[P],by simp[B],by simp[H],by simp[c],I,T,A,cd,rfl⟩
 .rintro f σ ⟨i,s,p,C0,C1,C2,C3,o,hi,z,u,w,P,B,H,c,I,T,A,ah,rfl⟩;have c9:t=F.length:=by omega
  subst c9;simp[u,c,ae,P]
 .rintro f σ ⟨i,s,p,C0,C1,C2,C3,o,hi,z,u,w,P,B,H,c,I,T,A,ah,rfl⟩;obtain⟨⟨ms,O,S,hS,hR⟩,bz,a0⟩:=ah;have dr:=hS.a69;have d4:=au.m;have d5:=au.l;have aw:=z0m (G:=G) s hS.size.right (hS.size.fits (by omega) (by omega)) g.moves (by omega) g.keeps (by omega) λk hk=>(au.k k hk).2;obtain⟨Fm,hQ⟩:=z9F hS g.moves g.keeps;obtain⟨d1,cr⟩:∃d1,d1=ze6 s.disk g.moves g.keeps:=⟨_,rfl⟩;rw[<-cr]at hQ aw;obtain⟨q,hq⟩:∃q,q=g.left%4:=⟨_,rfl⟩;have da:(g.left:Int).tmod 4=(q:Int):=by rw[hq];exact zbC g.left 4
  have ax:=z3w (G:=G) hT hQ (z3p hQ) (λf hf=>by have:=zon hQ.size f hf;omega) (zvq hQ) (q:Int) (by omega) (by omega);obtain⟨h,Q⟩:∃h,h=zc8 d1 O Fm ms q:=⟨_,rfl⟩;rw[<-Q]at ax;have ce:IntKind.i64.wrap (g.left:Int)=g.left:=wI (by omega);have cf:IntKind.i64.wrap (g.moves:Int)=g.moves:=wI (by omega);have db:¬(t:Int)=F.length:=by omega
  have ds:¬t=F.length:=by omega
  simp only[shC,zag]at aw ax;simp[u,w,c,ae,db,hc,zpR,U,shC,cf];refine zaX aw (by simp[AV.pure]) ?_;simp[u,c,hc,zpR,splice,ce,da];refine zaX ax (by simp[AV.pure]) ?_;simp[splice];obtain⟨s0,dw⟩:∃s0,s0=shV s:=⟨_,rfl⟩;by_cases ag:h.down=true;have hE:zgg h=22:=zkj ag;have bk:=z4y hQ (L:=q) (by rw[<-Q];exact ag);rw[<-Q]at bk;have bl:=z0m (G:=G) h bk.right (bk.fits (by omega) (by omega)) g.moves (by omega) g.keeps (by omega) λk hk=>(au.k k hk).2;have D:=z7R hQ (L:=q) (by rw[<-Q];exact ag) g.moves g.keeps;rw[<-Q]at D;obtain⟨d2,am⟩:∃d2,d2=ze6 h.disk g.moves g.keeps:=⟨_,rfl⟩;rw[<-am]at D bl;simp only[shC,zag]at bl;simp[hE,u,c,hc,zpR,cf];refine zaX bl (by simp[AV.pure]) ?_;simp[splice]
  rotate_left
  have dc:h.down=false:=by simpa using ag
  have hE:zgg h=0:=by unfold zgg;rw[if_neg ag]
  have D:=z6v hQ (L:=q) (by rw[<-Q];exact dc);rw[<-Q]at D;obtain⟨d2,am⟩:∃d2,d2=h.disk:=⟨_,rfl⟩;rw[<-am]at D;simp[hE,splice,<-am]
  all_goals
   have aj:=z3w (G:=G) hT D (z3p D) (λf hf=>by have:=zon D.size f hf;omega) (zvq D) (-1) (by omega) (by omega);obtain⟨d,cs⟩:∃d,d=zc8 d2 O Fm ms (-1):=⟨_,rfl⟩;obtain⟨a1,aa⟩:=z6F D hR bz a0;rw[<-cs]at aj a1 aa;have dd:zgg d=0:=(by unfold zgg;rw[if_neg (by rw[aa.down];simp)]);rw[dd]at aj;simp only[shC,zag]at aj;refine zad aj ?_;simp[w,splice];have cg:∀X,PlayAt (shV d::(o++X)) 1 p C0 C1 C2 C3:=λX=>by have:=A.kept (j:=0) rfl (by decide) (zdL (k:=0) (shV d) X);simpa using this
   clear hE ag hQ aw ax aj W hS D;refine zac (λx f σ=>∃(n:Nat) (C0 C1 C2 C3:AV) (o:zaa),x=4-n/\n<=4/\f 0=.lst (znT l)/\f 1=.lst (zjv F)/\f 6=.ptr 0 0/\f 7=.int .i64 0/\f 8=.ptr 1 0/\f 9=.int .i64 i/\f 10=.int .i64 t/\f 19=.int .i64 n/\PlayAt (shV d::o) 1 (begN d p n) C0 C1 C2 C3/\σ=shV d::o) 4 ?_ ?_;.exact⟨0,C0,C1,C2,C3,o++_,by simp,by simp,by simp[z],by simp[u],by simp[w],by simp,by simp[B],by simp[H],by simp[c],by simp,cg _,by simp[shV,shC];rfl⟩
   clear z u w P B H c f cg A C0 C1 C2 C3 o;rintro x f σ ⟨n,C0,C1,C2,C3,o,rfl,dy,z,u,w,P,B,H,c,Y,A,rfl⟩;by_cases v:n<4
   .have de:(n:Int)<4:=(by omega);have df:IntKind.u8.wrap (n:Int)=n:=by
     match n,v with
     |0,_=>rfl
     |1,_=>rfl
     |2,_=>rfl
     |3,_=>rfl
    have bm:=wS n (by omega);have dg:=zpZ (G:=G) n (by omega);obtain⟨ba,hb2⟩:=a1 n v;have hI:=aa.play.inv;have dh:=hI.len;obtain⟨b,ab⟩:∃b,b=begN d p n:=⟨_,rfl⟩;rw[<-ab]at A;have bn:b.came n=p.came n:=(by rw[ab];simp[begN]);have di:b.sure n=p.sure n:=(by rw[ab];simp[begN]);obtain⟨K,hK⟩:∃K,K=begJ d p n:=⟨_,rfl⟩;rw[<-hK]at ba;have dj:K<=(p.came n).length:=by
     by_cases Q:hasK kM d.mets (zah n);.exact(ba Q).2.1
     .rw[hK];unfold begJ;rw[if_neg Q];exact ycm _
    have a5:PT 26 [.agg (shC d),.str (zah n),.lst (zaO (b.came n)),.int .i64 (b.sure n:Nat)] (λr=>r=.tup [.int .i64 K,.bool true]):=by
     rw[bn,di];by_cases Q:hasK kM d.mets (zah n);.obtain⟨h1,h2,h3⟩:=ba Q;obtain⟨hm,ct⟩:=zcY hI.srt Q;have bo:K=begK (zal d (zah n)).lad (p.came n) (p.came n).length:=(by rw[hK];unfold begJ;rw[if_pos Q]);have:=zCj (G:=G) d (zah n) aa.down hI.srt (by omega) hm ct (hI.met (zaJ n)).lad (p.came n) (bz n v) (by have:=a0 n v;omega) (p.sure n) (by rw[<-bo];exact h1) (by rw[<-bo];exact h3);rw[<-bo]at this;exact this
     .have bp:K=0:=(by rw[hK];unfold begJ;rw[if_neg Q]);rw[hb2 Q,bp];exact zDn (G:=G) d (zah n) aa.down hI.srt (by omega) Q (p.came n)
    obtain⟨Cn,b0,an⟩:=z7d A v;have dk:=λC0 C1 C2 C3=>zEz (C0:=C0) (C1:=C1) (C2:=C2) (C3:=C3) b.sure b.now v;have bq:=A.at';obtain⟨t0,rfl⟩:∃t0,o=.var 42 (plC C0 C1 C2 C3 (b.sure 0:Nat) (b.sure 1:Nat) (b.sure 2:Nat) (b.sure 3:Nat) b.now)::t0:=by
     cases o with
     |nil=>simp at bq
     |cons e t0=>simp at bq;exact⟨t0,by rw[bq]⟩
    have br:(λi=>if i=n then K else b.sure i)=(begN d p (n+1)).sure:=funext λj=>by
     rw[ab,hK];simp only[begN];by_cases e:j=n;.subst e;simp
     .rw[if_neg e];by_cases h1:j<n;.rw[if_pos h1,if_pos (by omega)]
      .rw[if_neg h1,if_neg (by omega)]
    have dl:∀j,j≠n->(begN d p (n+1)).came j=b.came j:=λj e=>by
     rw[ab];simp only[begN];by_cases h1:j<n;.rw[if_pos h1,if_pos (by omega)]
     .rw[if_neg h1,if_neg (by omega)]
    have ch:(begN d p (n+1)).came n=(b.came n).take K:=(by rw[bn,hK];simp[begN]);have ak:n+1<=9:=(by omega);have dm:4+n<=8:=(by omega);have al:b.now=(begN d p (n+1)).now:=(by rw[ab];rfl);simp only[shC]at a5;simp only[plC];simp[w,P,Y,de,U,shC,df];refine zaX dg (by simp) ?_;simp[B,Y,an,dk,v,ak,dm,zg5];refine z9O a5 (.cons (.pure _ (by simp[AV.pure])) (.cons (.pure _ (by simp)) (.cons (b0.coe _) (.cons (.pure _ (by simp)) .nil)))) ?_;have ay:K<=(b.came n).length:=(by rw[bn];exact dj);have d6:(K:Int)<=(b.came n).length:=(by omega);have h4:=(zfA (b.came n)).1;have ci:=zcg (b.came n);have cj:(zaO (b.came n)).take K=zaO ((b.came n).take K):=(by simp[zaO,ydh]);have az:∀(R:AV) (X:Entry) (e:zaa),CameOK (shV d::X::(t0++e)) R ((b.came n).take K)->∀(j:Nat) (C:AV),CameOK (shV d:: .var 42 (plC C0 C1 C2 C3 (b.sure 0:Nat) (b.sure 1:Nat) (b.sure 2:Nat) (b.sure 3:Nat) b.now)::t0) C (b.came j)->CameOK (shV d::X::(t0++e)) (if j=n then R else C) ((begN d p (n+1)).came j):=λR X e ad j C hC=>by
     by_cases hj:j=n;.subst hj;rw[if_pos rfl,ch];exact ad
     .rw[if_neg hj,dl j hj];have bj:(shV d:: .var 42 (plC C0 C1 C2 C3 (b.sure 0:Nat) (b.sure 1:Nat) (b.sure 2:Nat) (b.sure 3:Nat) b.now)::t0)[1]? =some (.var 42 (plC C0 C1 C2 C3 (b.sure 0:Nat) (b.sure 1:Nat) (b.sure 2:Nat) (b.sure 3:Nat) b.now)):=rfl;exact hC.kept bj (zdL (k:=1) X e)
    have bs:4+n+1<=min n 9+(8-n+1):=(by omega);have bu:∀(R:AV) (e:zaa),(∀X:Entry,CameOK (shV d::X::(t0++e)) R ((b.came n).take K))->PlayAt (shV d:: .var 42 (plC (if 0=n then R else C0) (if 1=n then R else C1) (if 2=n then R else C2) (if 3=n then R else C3) ((begN d p (n+1)).sure 0:Nat) ((begN d p (n+1)).sure 1:Nat) ((begN d p (n+1)).sure 2:Nat) ((begN d p (n+1)).sure 3:Nat) (begN d p (n+1)).now)::(t0++e)) 1 (begN d p (n+1)) (if 0=n then R else C0) (if 1=n then R else C1) (if 2=n then R else C2) (if 3=n then R else C3):=λR e ad=>⟨rfl,az R _ e (ad _) 0 C0 A.c0,az R _ e (ad _) 1 C1 A.c1,az R _ e (ad _) 2 C2 A.c2,az R _ e (ad _) 3 C3 A.c3⟩;rcases b0 with (⟨rfl,b3⟩|rfl)|⟨id,rfl,hid⟩
    .have bp:K=0:=(by rw[b3]at ay;simpa using ay);have dp:(K=0)=True:=eq_true bp;simp[B,Y,an,v,ak,zg5,bm,bs,dp];rw[splB b.sure v,br,al];refine nx_j (4-(n+1)) ⟨n+1,_,_,_,_,_,rfl,by omega,by simp[z],by simp[u],by simp[w],by simp[P],by simp[B],by simp[H],by simp[c],by simp,by have:=bu .nils [] λX=> .inl (.inl ⟨rfl,by rw[b3];simp⟩);simpa using this,by simp[shV,shC]⟩
    .simp[B,Y,an,v,ak,zg5,ci,ay];rw[if_pos h4,cj];simp[B,Y,v,ak,bm,bs];rw[splB b.sure v,br,al];refine nx_j (4-(n+1)) ⟨n+1,_,_,_,_,_,rfl,by omega,by simp[z],by simp[u],by simp[w],by simp[P],by simp[B],by simp[H],by simp[c],by simp,by have:=bu (.lst (zaO ((b.came n).take K))) [] λX=> .inl (.inr rfl);simpa using this,by simp[shV,shC]⟩
    .have a6:=hid;simp only[shV,shC,plC]at a6;simp[B,Y,an,v,ak,zg5,bm,ci,ay,a6,cj,bs];rw[splB b.sure v,br,al];refine nx_j (4-(n+1)) ⟨n+1,_,_,_,_,_,rfl,by omega,by simp[z],by simp[u],by simp[w],by simp[P],by simp[B],by simp[H],by simp[c],by simp,by have:=bu (.lst (zaO ((b.came n).take K))) [] λX=> .inl (.inr rfl);simpa using this,by simp[shV,shC]⟩
   .have ck:n=4:=(by omega);subst ck;have dq:=wS t (by omega);simp[c,Y,dq];refine nx_j (F.length-(t+1)) ⟨t+1,i,d,begP d p,C0,C1,C2,C3,o,rfl,by omega,hi,by simp[z],by simp[u],by simp[w],by simp[P],by simp[B],by simp[H],by simp,aa,I,T, ?_,rfl⟩;exact⟨by have:=A.at';simpa[begN,begP]using this,by have:=A.c0;simpa[begN,begP]using this,by have:=A.c1;simpa[begN,begP]using this,by have:=A.c2;simpa[begN,begP]using this,by have:=A.c3;simpa[begN,begP]using this⟩
end Go.Proofs.YtdbhocoeolhjhaaGreatDoor
namespace Go.Proofs.YtdbhocoeolhjhaaGreatDoor
open Go.ChangeShapes Go.WideShapes Go.ChangeAt Go.RowKit Go.ChangeMaps Go.Abs Go.Sf Go.Num
section
variable {H:Type}{enc:TypeId×Value->H}{w:World}{base:Nat}{spare:Nat->Bool}{held:Bool}
theorem zwR:Tryz.prog.cellsOf 3=1:=by kernel_rfl
theorem zxy:Tryz.prog.cellsOf 205=1+1:=by kernel_rfl
theorem z0R:Tryz.prog.bytesOf 205=16:=by kernel_rfl
theorem z2u:Tryz.prog.cellsOf 79=1:=by kernel_rfl
theorem zwe:Tryz.prog.cellsOf 81=2+1:=by kernel_rfl
theorem z1q:Tryz.prog.bytesOf 81=32:=by kernel_rfl
set_option maxRecDepth 100000 in
theorem z15 {n:Nat}{cs:List Value}{y:DataW H×List MemPlace}(hf:DataW.trod enc Tryz.prog w base spare held n 205 cs=some y):
  ∃a:KeepM,(i64 a.id/\i64 a.bytes)/\∀j (h:j<(zrn a).length),∃c,cs[j]? =some c/\IR (zjr w) w (zrn a)[j] c:=by
 obtain⟨e,n,rfl,C,s,f,d⟩:=DataW.trod_struct Tryz.underlying205 hf;have m:e.length=2:=f;obtain⟨g,i,rfl⟩:∃g i,e= [g,i]:=by
  match e,m with
  | [a,b],_=>exact⟨a,b,rfl⟩
 have o:cs.length=2:=by rw[s,zxy]
 obtain⟨k,l,rfl⟩:∃k l,cs= [k,l]:=by
  match cs,o with
  | [a,b],_=>exact⟨a,b,rfl⟩
 have A:DataW.trod enc Tryz.prog w base spare held n 3 [k]=some g:=by simpa[zwR,Value.cells]using d 0 _ rfl
 have B:DataW.trod enc Tryz.prog w base spare held n 3 [l]=some i:=by simpa[zwR,Value.cells]using d 1 _ rfl
 obtain⟨t,q,_,u⟩:=DataW.trod_int Tryz.underlying3 A;obtain⟨v,r,_,x⟩:=DataW.trod_int Tryz.underlying3 B;simp only[yc5,and_true]at q r;subst q r;refine⟨⟨t,v⟩,⟨zxJ u,zxJ x⟩,λj z=> ?_⟩;have p:j<2:=z
 match j,p with
 |0,_=>exact⟨_,rfl,.int _ _⟩
 |1,_=>exact⟨_,rfl,.int _ _⟩
set_option maxRecDepth 100000 in
theorem zxA (hsp:∀b,spare b=true){n:Nat}{c:Value}{x:DataW H×List MemPlace}(hf:DataW.trod enc Tryz.prog w base spare held n 79 [c]=some x):
  ∃l:List KeepM,(∀a∈l,i64 a.id/\i64 a.bytes)/\(l= []∨∃q∈x.1.weights Tryz.prog 79,l.length*16<=q)/\IR (zjr w) w (.lst (zgT l)) c:=by
 obtain⟨l,f,g,i⟩:=zk1 (good:=λ(a:KeepM) _=>i64 a.id/\i64 a.bytes) Tryz.underlying79 zxy z0R zrn ⟨0,0⟩ (λa x e=>by simp[zrn]at e;rcases e with rfl|rfl<;>rfl) (λa=>rfl) (λh=>z15 h) hsp hf;exact⟨l,λa j=>(f a j).elim λd h=>h.1,g,i⟩
def z9I (a:FallM)(d:DataW H):Prop:=OkFall a/\(a.keeps= []∨∃q∈d.weights Tryz.prog 81,a.keeps.length*16<=q)
set_option maxRecDepth 100000 in
theorem z1S (hsp:∀b,spare b=true){n:Nat}{cs:List Value}{y:DataW H×List MemPlace}(hf:DataW.trod enc Tryz.prog w base spare held n 81 cs=some y):
  ∃a:FallM,z9I a y.1/\∀j (h:j<(zpR a).length),∃c,cs[j]? =some c/\IR (zjr w) w (zpR a)[j] c:=by
 obtain⟨k,n,rfl,E,F,m,d⟩:=DataW.trod_struct Tryz.underlying81 hf;have x:k.length=3:=m;obtain⟨g,i,f,rfl⟩:∃g i f,k= [g,i,f]:=by
  match k,x with
  | [a,b,c],_=>exact⟨a,b,c,rfl⟩
 have e:cs.length=3:=by rw[F,zwe]
 obtain⟨o,p,r,rfl⟩:∃o p r,cs= [o,p,r]:=by
  match cs,e with
  | [a,b,c],_=>exact⟨a,b,c,rfl⟩
 have P:DataW.trod enc Tryz.prog w base spare held n 5 [o]=some g:=by simpa[zki,Value.cells]using d 0 _ rfl
 have Q:DataW.trod enc Tryz.prog w base spare held n 5 [p]=some i:=by simpa[zki,Value.cells]using d 1 _ rfl
 have R:DataW.trod enc Tryz.prog w base spare held n 79 [r]=some f:=by simpa[z2u,Value.cells]using d 2 _ rfl
 obtain⟨S,C,_,G⟩:=DataW.trod_int Tryz.underlying5 P;obtain⟨T,D,_,I⟩:=DataW.trod_int Tryz.underlying5 Q;simp only[yc5,and_true]at C D;subst C D;obtain⟨J,rfl,K⟩:=ztq G;obtain⟨L,rfl,M⟩:=ztq I;obtain⟨l,s,e,t⟩:=zxA hsp R;have z:∀q∈f.1.weights Tryz.prog 79,q∈y.1.weights Tryz.prog 81:=λq u=>by have A:y.1=.agg ([g,i,f].map (·.1)):=congrArg Prod.fst E;rw[A];simp only[DataW.weights,Tryz.underlying81];exact DataW.weights_mem_each (j:=2) rfl rfl q u
 refine⟨⟨J,L,l⟩,⟨⟨K,M,s⟩,e.imp id λ⟨q,u,v⟩=>⟨q,z q u,v⟩⟩,λj O=> ?_⟩;have B:j<3:=O
 match j,B with
 |0,_=>exact⟨_,rfl,.int _ _⟩
 |1,_=>exact⟨_,rfl,.int _ _⟩
 |2,_=>exact⟨_,rfl,t⟩
set_option maxRecDepth 100000 in
theorem z23 (hsp:∀b,spare b=true){r:Reach}{b0:Nat}{v:Value}{d:DataW H}{ps:List MemPlace}(hval:Value.okWide Tryz.prog w r b0 78 v)(hd:DataW.Trod enc Tryz.prog w base spare held 78 v d ps):
  ∃l:List FallM,(∀a∈l,OkFall a)/\(l= []∨∃q∈d.weights Tryz.prog 78,l.length*32<=q)/\(∀a∈l,a.keeps= []∨∃q∈d.weights Tryz.prog 78,a.keeps.length*16<=q)/\IR (zjr w) w (.lst (zjv l)) v:=by
 obtain⟨c,n⟩:=hd;obtain⟨o,e,f,rfl⟩:=okWide_slice Tryz.underlying78 hval;have j:DataW.trod enc Tryz.prog w base spare held c 78 [.slice o e f]=some (d,ps):=by simpa[Value.cells]using n
 obtain⟨l,k,p,s⟩:=zk1 (good:=z9I) Tryz.underlying78 zwe z1q zpR ⟨0,0,[]⟩ (λa x m=>by simp[zpR]at m;rcases m with rfl|rfl|rfl<;>rfl) (λa=>rfl) (λh=>z1S hsp h) hsp j;exact⟨l,λa g=>(k a g).elim λd h=>h.1.1,p,λa g=>(k a g).elim λd h=>h.1.2.imp id λ⟨q,t,i⟩=>⟨q,h.2 q t,i⟩,s⟩
theorem z4R {l:List FallM}{W:List Nat}(h:l= []∨∃q∈W,l.length*32<=q)(hW:∀q∈W,q<=reachBytes):l.length<=1000000000000000:=by
 rcases h with rfl|⟨q,a,h⟩;.simp
 .have:=hW q a;have b:reachBytes=140737488351232:=rfl;omega
theorem z4L {l:List FallM}{W:List Nat}(h:∀a∈l,a.keeps= []∨∃q∈W,a.keeps.length*16<=q)(hW:∀q∈W,q<=reachBytes):∀a∈l,a.keeps.length<=1000000000000000:=λa c=>by
 rcases h a c with h|⟨q,b,h⟩;.rw[h];simp
 .have:=hW q b;have d:reachBytes=140737488351232:=rfl;omega
end
end Go.Proofs.YtdbhocoeolhjhaaGreatDoor
namespace Go.Proofs.YtdbhocoeolhjhaaGreatDoor
open Go.ChangeShapes Go.WideShapes Go.ChangeAt Go.RowKit Go.ChangeMaps Go.Abs Go.Sf
theorem z9W {P:Program}{w:World}{n:String}{d:DataW Unit}:∀{l:List (String×DataW Unit)},laidMet P l w->(n,d)∈l->∃r,laidMet P ((n,d)::r) w
 | [],_,hm=>by cases hm
 |x::l,h,hm=>by
  rcases ybe.1 hm with e|e;.subst e;exact⟨l,h⟩
  .exact z9W h.tail e
theorem z5i {P:Program}{w:World}{n:String}{g:Nat}{cs:Array Value}{avs:List AV}{Im:Addr->Prop}(hg:P.globalNamed n=some g)(hv:w.var? P n=some cs)(hlen:cs.size=avs.length)
  (hone:∀c∈avs,c.one=true) (hr:∀j (h:j<avs.length),IR Im w (avs[j]) ((cs[j]?).getD (.bool false))) (hIm:∀j,Im ⟨g,j,none⟩):
  g<w.heap.size/\(∃cs t fz,w.heap[g]? =some (.cells cs t fz)/\cs.size=avs.length)/\IR Im w (.rptr avs) (.pointer (some ⟨g,0,none⟩)):=by
 have b:∃t fz,w.heap[g]? =some (.cells cs t fz):=by
  unfold World.var? at hv;simp only[hg,yd8]at hv;split at hv;.rename_i c t fz a;cases hv;exact⟨t,fz,a⟩
  .cases hv
 obtain⟨t,fz,a⟩:=b;refine⟨?_,⟨cs,t,fz,a,hlen⟩, ?_⟩
 .rcases ydm g w.heap.size with h|h;.exact h
  .rw[Array.getElem?_eq_none h]at a;cases a
 .refine .rptr avs g 0 (λj=>(cs[j]?).getD (.bool false)) hone (λj d=>⟨?_, ?_⟩) hr;.simpa using hIm j
  .have:j<cs.size:=(by omega);simp[World.cell?,a,this]
abbrev gStp:Nat:=2
instance sfGlobs:Globs:=⟨[(gStp,stepsC)]⟩
abbrev gMx:Nat:=0
abbrev zhn (m:Int):Globs:=⟨[(gStp,stepsC),(gMx,[AV.int .i64 m])]⟩
theorem z68 (m:Int):zhx (zhn m):=rfl
theorem sfM (m:Int): @GMaxL (zhn m):= @GMaxL.mk (zhn m) ⟨m,.tail _ (List.Mem.head _)⟩
theorem zCJ {w : World} (h : w.ShapedOpen Tryz.prog) : ∃ m, w.var? Tryz.prog "internal/bytealg.MaxLen" = some #[.int .i64 m] := by
 obtain⟨cs,hh,hs, -⟩:=h.1 gMx #[.int .i64 0] 3 (of_decide_eq_true (by kernel_rfl)) (by kernel_rfl);obtain⟨m,hm⟩:=Go.Proofs.cell_of_shapedOpen_int (zero:= #[.int .i64 0]) (g:=gMx) (t:=3) h (of_decide_eq_true (by kernel_rfl)) (by kernel_rfl) rfl (by kernel_rfl) (by kernel_rfl) Tryz.underlying3;have h1:cs.size=1:=hs;obtain⟨v,rfl⟩:∃v,cs= #[v]:=by
  obtain⟨l⟩:=cs
  match l,h1 with
  | [v],_=>exact⟨v,rfl⟩
 have hg : Tryz.prog.globalNamed "internal/bytealg.MaxLen" = some gMx := by kernel_rfl
 simp[World.cell?,hh]at hm;subst hm;exact⟨m,by unfold World.var?;rw[hg];simp[hh]⟩
theorem zBO {l : List (String × DataW Unit)} {w : World} (h : laidMet Tryz.prog l w) (h1 : ("isobar/crc.steps", Rows.laid_isobar_crc_steps) ∈ l) (hs : w.ShapedOpen Tryz.prog) : ∃ m, @z4f (zhn m) w := by
 obtain⟨m,hm⟩:=zCJ hs;refine⟨m, ?_⟩
 letI:Globs:=zhn m
 intro p hp;have hI:∀g,(∃p∈(zhn m).tab,g=p.1)->∀j, @gIm (zhn m) ⟨g,j,none⟩:=λg hg j=>⟨rfl,hg⟩;rcases hp with _|⟨_,_|⟨_,hp⟩⟩
 .obtain⟨r,h⟩:=z9W h h1;have e:(Rows.laid_isobar_crc_steps:DataW Unit)=Lib.tabData .u32 stepsT:=by kernel_rfl
  rw[e]at h;have:=Lib.tabIs_of_head (g:=gStp) (by kernel_rfl) (by kernel_rfl) Tryz.underlying364 Tryz.underlying286 (by kernel_rfl) (by kernel_rfl) h;refine z5i (n := "isobar/crc.steps") (by kernel_rfl) this (by simp [stepsC]) (by simp [AV.one, stepsC]) ?_ (hI _ ⟨_, List.Mem.head _, rfl⟩);intro j hj;have hj':j<stepsT.length:=by simpa[stepsC]using hj
  simp[hj',stepsC];exact .int _ _
 ·refine z5i (n := "internal/bytealg.MaxLen") (by kernel_rfl) hm rfl (by simp [AV.one]) ?_ (hI _ ⟨_, .tail _ (List.Mem.head _), rfl⟩);intro j hj;have:j=0:=by simp at hj;omega
  subst this;exact .int _ _
 .cases hp
end Go.Proofs.YtdbhocoeolhjhaaGreatDoor
namespace Go.Proofs.YtdbhocoeolhjhaaGreatDoor
open Go.ChangeShapes Go.WideShapes Go.ChangeAt Go.RowKit Go.ChangeMaps Go.Abs
theorem Tryz.own:ownKnob Tryz.prog.godebug=none:=by kernel_rfl
theorem Tryz.laidOut:laidOutB Tryz.prog=true:=by kernel_rfl
set_option maxRecDepth 1000000 in
theorem z1f (os:Os)(args:Array Value):laidMet Tryz.prog Rows.shelfFallsRow.laid ((World.laidAll Tryz.prog os Rows.shelfFallsRow.laid).forCall (λ_ _=>0) ⟨#[],args,[]⟩).memory:=laidMet_laidAll args (by kernel_rfl) (by kernel_rfl)
set_option maxRecDepth 100000 in
theorem zuZ (os:Os)(started:os.Started)(H:Type)(enc:TypeId×Value->H):
  ReturnsInHanded {} Tryz.checked os 5 .any (λw args=>(Rows.shelfFallsSpec.pre enc Tryz.prog Tryz.f5 Rows.shelfFallsRow.domain false w args/\laidMet Tryz.prog Rows.shelfFallsRow.laid w)/\sizedMet enc Tryz.prog Tryz.f5 (OpenSpec.ofChange Rows.shelfFallsSpec) false w args) (Rows.shelfFallsSpec.post enc Tryz.prog Tryz.f5 false true false false):=by
 refine zou (C:=Tryz.checked) (X:=λw _=>laidMet Tryz.prog Rows.shelfFallsRow.laid w) (λ_ _ _ hh h=>h.of_heap hh) Tryz.own started (by kernel_rfl) Tryz.func5 (zyB (enc:=enc) (C:=Tryz.checked) (os:=os) (X:=λw _=>laidMet Tryz.prog Rows.shelfFallsRow.laid w) (World.laidAll Tryz.prog os Rows.shelfFallsRow.laid) #[.slice none 0 0,.slice none 0 0] 8 (World.laidAll_os _ _ _) (by kernel_rfl) (by kernel_rfl) (by kernel_rfl) (by kernel_rfl) (by kernel_rfl) (z1f os _)) ?_;intro W base args ds gs y m a U hX n;have b:∀(j:Nat) t v,Tryz.f5.params[j]? =some t->args[j]? =some v->Value.okWide Tryz.prog W .any base t v:=a;have c:=U;obtain⟨p,q,d,Z,rfl,aa,ab⟩:=U;have Y:DataW.TrodAll enc Tryz.prog W 0 (λ_=>true) true Tryz.f5.params.toList args.toList ds p:=d;rw[Tryz.params5]at Y b;obtain⟨v0,v1,d0,d1,f,g,rfl,rfl,rfl,S,T⟩:=trodAll_two Y;obtain⟨rfl,rfl⟩:=trodVars_none Z;simp only[ybi]at c;have o:∀x∈f,x.block<W.heap.size:=λx I=>by simpa using c.lt x (by simp[I])
 have r:∀x∈g,x.block<W.heap.size:=λx I=>by simpa using c.lt x (by simp[I])
 have L:=S;obtain⟨l0,z,A,B,i⟩:=z3d (λ_=>rfl) (b 0 _ v0 rfl rfl) S;have s:∀q∈d0.weights Tryz.prog 22,q<=reachBytes:=λq J=>of_decide_eq_true (ya1.1 n q (DataW.weights_mem_each (j:=0) (by rw[Tryz.params5];rfl) rfl q J));have M:=z6N A s;have O:=z7p B s;have P:=T;obtain⟨l1,D,E,F,k⟩:=z23 (λ_=>rfl) (b 1 _ v1 rfl rfl) T;have u:∀q∈d1.weights Tryz.prog 78,q<=reachBytes:=λq J=>of_decide_eq_true (ya1.1 n q (DataW.weights_mem_each (j:=1) (by rw[Tryz.params5];rfl) rfl q J));have Q:=z4R E u;have R:=z4L F u;clear d a;obtain⟨G,l⟩:=(zBO hX (.tail _ (.tail _ (.tail _ (.tail _ (.tail _ (.tail _ (List.Mem.head _))))))) m);refine(zva (@z8H (zhn G) (sfM G) (z68 G) l0 M O z l1 Q R D) l (zzI i (zzI k (zA1 W)))).mono λe W' ⟨he,K⟩=> ?_;subst he;refine⟨_,rfl,_,_,_,[],f++g,[],c, ?_, ?_,rfl,K.frame _,λh=>by cases h⟩;.exact trodAll_mk1 (shut_bool Tryz.underlying4 true)
 .exact trodAll_mk2 (Below.trod Tryz.laidOut (by kernel_rfl) (of_decide_eq_true (by kernel_rfl)) L K o) (Below.trod Tryz.laidOut (by kernel_rfl) (of_decide_eq_true (by kernel_rfl)) P K r)
end Go.Proofs.YtdbhocoeolhjhaaGreatDoor
