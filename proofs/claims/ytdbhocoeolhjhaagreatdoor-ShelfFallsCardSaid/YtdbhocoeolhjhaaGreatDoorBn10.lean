import Derived.Test.YtdbhocoeolhjhaaGreatDoorBn9
set_option maxHeartbeats 16000000
set_option linter.unusedSimpArgs false
set_option linter.unusedVariables false
set_option linter.constructorNameAsVariable false
namespace Go.Proofs.YtdbhocoeolhjhaaGreatDoor
open Go.Sf Go.Num
structure RdM where
 id:Nat
 seq:Nat
 path:Txt
 body:LadM ⊕ List ArrM
def RdM.kind (r:RdM):Txt:=match r.body with
 | .inl _=>kindC
 | .inr _=>kindP
def RdM.recs (r:RdM):List RecM:=match r.body with
 | .inl l=>(zeJ l).map slM
 | .inr g=>g.map ptR
def RdM.name (r:RdM):Txt:=zaj r.id r.seq r.kind
def kR (r:RdM):Nat:=r.id*100+r.seq
theorem RdM.kd (r:RdM):r.kind=kindP∨r.kind=kindC:=by
 unfold RdM.kind;split;.exact .inr rfl
 .exact .inl rfl
structure OkRd (r:RdM):Prop where
 id1:1<=r.id
 id5:r.id<71
 q1:1<=r.seq
 q70:r.seq<70
 path:r.path∈P4
 lad:∀l,r.body=.inl l->RightL l
 pts:∀g,r.body=.inr g->∀x∈g,OkA x/\OkV x
def rdP (m:MetM)(i:Nat):List (List ArrM)->List RdM
 | []=> []
 |g::gs=>⟨m.id,m.base+1+i,m.path,.inr g⟩::rdP m (i+1) gs
def rdsM (m:MetM)(l0:LadM)(gs:List (List ArrM)):List RdM:=(if 0<m.base then [⟨m.id,m.base,m.path,.inl l0⟩]else [])++rdP m 0 gs
theorem zor {m:MetM}{r:RdM}:∀{i:Nat} {gs:List (List ArrM)},r∈rdP m i gs↔∃j g,gs[j]? =some g/\r=⟨m.id,m.base+1+i+j,m.path,.inr g⟩
 |i,[]=>by simp[rdP]
 |i,g::gs=>by
  simp only[rdP,ybe,zor (i:=i+1) (gs:=gs)];constructor
  .rintro(h|⟨j,c,a,b⟩);.exact⟨0,g,rfl,h⟩
   .exact⟨j+1,c,by simpa using a,by rw[b];congr 1;omega⟩
  .rintro⟨j,c,a,b⟩;cases j with
   |zero=>simp at a;subst a;exact .inl b
   |succ j=>exact .inr ⟨j,c,by simpa using a,by rw[b];congr 1;omega⟩
theorem zy1 (m:MetM):∀(i:Nat) (gs:List (List ArrM)),(rdP m i gs).length=gs.length
 |i,[]=>rfl
 |i,g::gs=>by simp[rdP,zy1 m (i+1) gs]
theorem ztr (m:MetM):∀(i:Nat) (gs:List (List ArrM)),(rdP m i gs).Pairwise λa b=>kR a<kR b
 |i,[]=>List.Pairwise.nil
 |i,g::gs=>List.Pairwise.cons (λr c=>by obtain⟨j,d,_,rfl⟩:=zor.1 c;simp only[kR];omega) (ztr m (i+1) gs)
theorem zlt {m:MetM}{l0:LadM}{gs:List (List ArrM)}{r:RdM}:r∈rdsM m l0 gs↔(0<m.base/\r=⟨m.id,m.base,m.path,.inl l0⟩)∨∃j g,gs[j]? =some g/\r=⟨m.id,m.base+1+j,m.path,.inr g⟩:=by
 simp only[rdsM,yai,zor,ycf];constructor
 .rintro(h|h)
  .split at h;.rename_i c;exact .inl ⟨c,by simpa using h⟩
   .cases h
  .exact .inr h
 .rintro(⟨a,b⟩|h);.exact .inl (by simp[a,b])
  .exact .inr h
theorem zke (m:MetM)(l0:LadM)(gs:List (List ArrM)):(rdsM m l0 gs).Pairwise λa b=>kR a<kR b:=by
 unfold rdsM;rw[ydk];refine⟨by split<;>simp,ztr m 0 gs,λa c b d=> ?_⟩;obtain⟨j,g,_,rfl⟩:=zor.1 d;split at c;.simp at c;subst c;simp only[kR];omega
 .cases c
def byId (l:List MetM):List MetM:=l.mergeSort λa b=>decide (a.id<=b.id)
theorem zr3 (l:List MetM):(byId l).Perm l:=yel _ _
theorem zzr {l:List MetM}(h:(l.map MetM.id).Nodup):(byId l).Pairwise λa b=>a.id<b.id:=by
 have d:(byId l).Pairwise λa b=>a.id<=b.id:=by have:=ydz (le:=λa b:MetM=>decide (a.id<=b.id)) (λa b c d e=>by simp only[decide_eq_true_eq]at*;omega) (λa b=>by simp only[ydu,decide_eq_true_eq];omega) l;exact this.imp λh=>by simpa using h
 have e:(byId l).Pairwise λa b=>a.id≠b.id:=by have:=((zr3 l).map MetM.id).nodup_iff.2 h;rw[ya9,yb0]at this;exact this
 exact List.Pairwise.imp₂ (λ_ _ d e=>by omega) d e
theorem zzH {r t:RdM}(hr:OkRd r)(ht:OkRd t)(h:r.name=t.name):kR r=kR t:=by have:=zbI hr.id5 ht.id5 hr.q70 ht.q70 (kd3 r.kd) (kd3 t.kd) h;simp only[kR,this.1,this.2.1]
theorem zAn {l:List RdM}(h:l.Pairwise λx y=>kR x<kR y){x y:RdM}(hx:x∈l)(hy:y∈l)(he:kR x=kR y):x=y:=by
 obtain⟨i,c⟩:=ybb hx;obtain⟨j,b⟩:=ybb hy;rcases ycl i j with a|rfl|a
 .have:=zex h a c b;omega
 .rw[c]at b;exact Option.some.inj b
 .have:=zex h a b c;omega
def zbe (d:DiskM):List Txt:=d.names.map NameM.name
theorem zh7 {d:DiskM}{t:Txt}:t∈zbe d↔hasK kN d.names t:=by simp[zbe,hasK]
theorem zlX {d:DiskM}(h:RightM d):(zbe d).Nodup:=by rw[zbe,ya9,yb0];exact h.names.srt.imp λb e=>by have a:NameM.name _<NameM.name _:=b;rw[e]at a;exact zcy _ a
theorem z0S {l m:List RdM}(hm:m.Pairwise λx y=>kR x<kR y)(hp:l.Perm m)(hs:l.Pairwise λx y=>kR x<=kR y):l=m:=by refine List.Perm.eq_of_pairwise (le:=λx y=>kR x<=kR y) (λx y a b c d=> ?_) hs (hm.imp λh=>yey h) hp;exact zAn hm (hp.mem_iff.1 a) b (by omega)
def c16 (m:MetM):MetM:={m with count:=16}
def zco (d:DiskM)(L:Int)(l:List MetM):ShM:=l.foldl (λs m=>zby s (c16 m)) ⟨d,[],1,L,false⟩
theorem zgN (d:DiskM)(L:Int){l:List MetM}(hp:(l.map MetM.path).Nodup):Srt kM (zco d L l).mets/\(∀x,x∈(zco d L l).mets↔∃m∈l,x=c16 m)/\(zco d L l).disk=d/\(zco d L l).mets.length=l.length:=by
 refine zj7 (P:=λl=>(l.map MetM.path).Nodup->Srt kM (zco d L l).mets/\(∀x,x∈(zco d L l).mets↔∃m∈l,x=c16 m)/\(zco d L l).disk=d/\(zco d L l).mets.length=l.length) ?_ ?_ l hp;.intro _;simp[zco,Srt]
 .intro l m o b;rw[ycn,yb7]at b;obtain⟨g,f,h,i⟩:=o b.1;have e:zco d L (l++ [m])=zby (zco d L l) (c16 m):=by simp[zco]
  have c:¬hasK kM (zco d L l).mets (c16 m).path:=by rintro⟨x,j,k⟩;obtain⟨y,a,rfl⟩:=(f x).1 j;exact b.2.2 y.path (yar.2 ⟨y,a,rfl⟩) m.path (by simp) k
  rw[e];refine⟨zqb g,λx=> ?_,by rw[zhA];exact h,by rw[z73,if_neg c,i];simp⟩;rw[zf1 g,f];constructor
  .rintro(rfl|⟨⟨y,a,rfl⟩,_⟩);.exact⟨m,by simp,rfl⟩
   .exact⟨y,by simp[a],rfl⟩
  .rintro⟨y,a,rfl⟩;rcases yai.1 a with a|a
   .exact .inr ⟨⟨y,a,rfl⟩,λn=>c ⟨c16 y,(f _).2 ⟨y,a,rfl⟩,n⟩⟩
   .simp at a;subst a;exact .inl rfl
variable {d D:DiskM}{a a' k k0:Nat}{Sp:Nat×Bool}{m:MetM}{Op:List ArrM}{gs:List (List ArrM)}{s:ShM}{p t b:Txt}{O:Txt->List ArrM}{S:Txt->Nat×Bool}{e:Ent}{ms:List MetM}
theorem zrJ (d:DiskM)(n:Nat):∃n',n'<=d.moves.length/\za4 d n=za4 d n':=by
 by_cases h:n<=d.moves.length;.exact⟨n,h,rfl⟩
 .refine⟨d.moves.length,yaf _, ?_⟩;unfold za4;rw[yal (by omega),yal (yaf _)]
theorem zkp {n:Nat}{ks:List KeepM}:∀f'∈(ze6 d n ks).files,∃f∈d.files,f'=cutF ks f:=λf' b=>by obtain⟨f,a,rfl⟩:=yar.1 (show f'∈(ledF d (za4 d n)).map (cutF ks) from b);exact⟨f,(ybf.1 a).1,rfl⟩
theorem zte {K:Nat}(h:SizeM d a K)(n:Nat)(ks:List KeepM):SizeM (ze6 d n ks) a 0:=by refine⟨zrV h.right n ks,h.quota, ?_,h.next,yaf _,by simp[ze6]⟩;show((ledF d (za4 d n)).map _).length<=a;rw[ybn];exact ybu (ycs _ _) h.files
theorem z0T (hS:Safe d a ms O S)(n:Nat)(ks:List KeepM):Safe (ze6 d n ks) a ms O S:=by have c:=hS.size.right;have p:=hS.a69;refine⟨(zte hS.size n ks).more (yaf _) (by omega),p,hS.reg,hS.idn,hS.pan,hS.none,zjd (zrV c n ks) rfl ?_⟩;obtain⟨f,i,e⟩:=zrJ d n;obtain⟨j,k⟩:=hS.vw f i;show(∀x∈za4 d n,_)/\∀m∈ms,∃b k0 gs,Form (za4 d n) _ _ _ b k0 gs;rw[e];refine⟨j,λm h=> ?_⟩;obtain⟨b,k0,gs,l⟩:=k m h;obtain⟨g,o,_⟩:=ztl (fs':=(ze6 d n ks).files) l (by omega) (hS.reg m h).2.2.2 (zdf c f).1.srt c.filed.1 (z0q c f) ks zkp;exact⟨b,k0,g,o⟩
structure Qt (d:DiskM)(a:Nat)(ms:List MetM)(O:Txt->List ArrM)(S:Txt->Nat×Bool)(Fm:Txt->Nat×Nat×List (List ArrM)):Prop extends Safe d a ms O S where
 moves:d.moves= []
 whole:∀f∈d.files,Whole f
 frm:∀m∈ms,Form d.names d.files a (entM m (O m.path) (S m.path)) (Fm m.path).1 (Fm m.path).2.1 (Fm m.path).2.2
 fno:∀p,p∉ms.map MetM.path->Fm p=(0,0,[])
theorem z4M (hp:(ms.map MetM.path).Nodup){x y:MetM}(hx:x∈ms)(hy:y∈ms)(he:x.path=y.path):x=y:=by
 rw[ya9,yb0]at hp;obtain⟨i,b⟩:=ybb hx;obtain⟨j,a⟩:=ybb hy;rcases ycl i j with h|rfl|h
 .exact absurd he (zex hp h b a)
 .rw[b]at a;exact Option.some.inj a
 .exact absurd he.symm (zex hp h a b)
theorem zEu (hS:Safe d a ms O S)(h0:d.moves= [])(hw:∀f∈d.files,Whole f):∃Fm,Qt d a ms O S Fm:=by
 have l:=(zgn hS.size.right hS.vw).2;have n:∀p:Txt,∃F:Nat×Nat×List (List ArrM),(∀m∈ms,m.path=p->Form d.names d.files a (entM m (O m.path) (S m.path)) F.1 F.2.1 F.2.2)/\(p∉ms.map MetM.path->F=(0,0,[])):=λp=>by
  by_cases e:p∈ms.map MetM.path;.obtain⟨m,c,i⟩:=yar.1 e;obtain⟨b,k0,gs,g⟩:=l m c;refine⟨(b,k0,gs),λx k j=> ?_,λh=>absurd e h⟩;have:x=m:=z4M hS.pan k c (j.trans i.symm);subst this;exact g
  .exact⟨(0,0,[]),λm c i=>absurd (yar.2 ⟨m,c,i⟩) e,λ_=>rfl⟩
 obtain⟨Fm,g⟩:=Classical.axiomOfChoice n;exact⟨Fm,⟨hS,h0,hw,λm c=>(g m.path).1 m c rfl,λp e=>(g p).2 e⟩⟩
theorem z9F (hS:Safe d a ms O S)(n:Nat)(ks:List KeepM):∃Fm,Qt (ze6 d n ks) a ms O S Fm:=zEu (z0T hS n ks) rfl λf b=>by obtain⟨g,_,rfl⟩:=zkp f b;rfl
variable {Fm:Txt->Nat×Nat×List (List ArrM)}
theorem Qt.kept (hQ:Qt d a ms O S Fm):d.kept=d.names:=by have:=hQ.size.right.replay;rw[hQ.moves]at this;simpa[replay]using this
theorem z9N (hQ:Qt d a ms O S Fm)(hD:SizeM D a 1000)(h0:D.moves= [])(hn:∀x∈D.names,x∈d.names)(hw:∀f∈D.files,Whole f)(hF:∀m∈ms,Form D.names D.files a (entM m (O m.path) (S m.path)) (Fm m.path).1 (Fm m.path).2.1 (Fm m.path).2.2):Qt D a ms O S Fm:=⟨⟨hD,hQ.a69,hQ.reg,hQ.idn,hQ.pan,hQ.none,zjd hD.right h0 ⟨λx b=>(zgn hQ.size.right hQ.vw).1 x (hn x b),λm c=>⟨_,_,_,hF m c⟩⟩⟩,h0,hw,hF,hQ.fno⟩
def zE3 (ms:List MetM)(Fm:Txt->Nat×Nat×List (List ArrM))(l:List Txt):Prop:=∀m∈ms,∀q kd,Cnt (Fm m.path).1 (Fm m.path).2.2.length q kd->zaj m.id q kd∉l
structure Gone (d:DiskM)(a:Nat)(ms:List MetM)(Fm:Txt->Nat×Nat×List (List ArrM))(l:List Txt):Prop where
 nd:l.Nodup
 ok:∀n∈l,okS n/\hasK kN d.names n
 cnt:zE3 ms Fm l
theorem zok (hQ:Qt d a ms O S Fm){l:List Txt}(hg:Gone d a ms Fm l):SizeM (zax d l) a 1000/\zjF (zax d l) λns=>(∀x∈ns,x∈d.names)/\∀m∈ms,Form ns (zax d l).files a (entM m (O m.path) (S m.path)) (Fm m.path).1 (Fm m.path).2.1 (Fm m.path).2.2:=by
 have e:=hQ.size.right;have k:=hQ.a69;have b:SizeM d a 0:=⟨e,hQ.size.quota,hQ.size.files,hQ.size.next,by rw[hQ.moves];exact yaf _,hQ.size.okm⟩;have o:l.length<=a:=by have j:=nodup_len hg.nd (m:=zbe d) λt i=>zh7.2 (hg.ok t i).2;rw[zbe,ybn]at j;have:=zfN e;have:=hQ.size.files;omega
 have h:=zml b hg.nd hg.ok (zjd e hQ.moves ⟨λx c=>c,λx c=>c⟩);refine⟨(zce b hg.nd hg.ok).1.more (yaf _) (by omega),λn f=>⟨(h n f).1,λm g=> ?_⟩⟩;rw[ze4];exact zoU (hQ.frm m g) (by omega) h (hg.cnt m g) n f
theorem zBd (hQ:Qt d a ms O S Fm){l:List Txt}(hg:Gone d a ms Fm l)(n:Nat)(ks:List KeepM):Qt (ze6 (zax d l) n ks) a ms O S Fm:=by
 obtain⟨c,o⟩:=zok hQ hg;have u:=hQ.a69;obtain⟨h,p,e⟩:=zrJ (zax d l) n;obtain⟨q,r⟩:=o h p;have b:(ze6 (zax d l) n ks).names=za4 (zax d l) h:=e;refine z9N hQ ((zte c n ks).more (yaf _) (by omega)) rfl (by rw[b];exact q) (λf i=> ?_) λm k=> ?_;.obtain⟨g,_,rfl⟩:=zkp f i;rfl
 .rw[b];obtain⟨s,j,t⟩:=ztl (fs':=(ze6 (zax d l) n ks).files) (r m k) (by omega) (hQ.reg m k).2.2.2 (zdf c.right h).1.srt c.right.filed.1 (z0q c.right h) ks zkp;rw[t (λf i=>hQ.whole f (by rw[ze4]at i;exact i))]at j;exact j
theorem zBG (hQ:Qt d a ms O S Fm){l:List Txt}(hg:Gone d a ms Fm l):Qt (zis (zax d l)) a ms O S Fm:=by
 obtain⟨c,g⟩:=zok hQ hg;have k:=hQ.a69;obtain⟨h,i⟩:=zgn c.right g;have e:∀f∈(zis (zax d l)).files,f∈d.files:=λf b=>by
  have:f∈(zax d l).files:=by
   unfold zis at b;split at b;.exact b
   .exact(ybf.1 (show f∈(zax d l).files.filter _ from b)).1
  rwa[ze4]at this
 exact z9N hQ ((zhY c).more (yaf _) (by omega)) (zoL _) (by rw[ziH];exact h) (λf b=>hQ.whole f (e f b)) λm j=>(i m j).ro (yaf _) (by omega) (zlp c.right (zhY c).right (zrk c.right))
variable {d D:DiskM}{a k:Nat}{m:MetM}{t:Txt}{O:Txt->List ArrM}{S:Txt->Nat×Bool}{ms:List MetM}{Fm:Txt->Nat×Nat×List (List ArrM)}
def mFm (O:Txt->List ArrM)(Fm:Txt->Nat×Nat×List (List ArrM))(m:MetM):MetM:=⟨m.id,m.path,zaz newL ((O m.path).take ((Fm m.path).2.1+(Fm m.path).2.2.flatten.length)),(Fm m.path).1,if(Fm m.path).2.2= []then 0 else(Fm m.path).1+(Fm m.path).2.2.length,16⟩
def live (Fm:Txt->Nat×Nat×List (List ArrM))(m:MetM):Bool:=decide (0<(Fm m.path).1)|| !(Fm m.path).2.2.isEmpty
def msF (O:Txt->List ArrM)(Fm:Txt->Nat×Nat×List (List ArrM))(ms:List MetM):List MetM:=byId ((ms.filter (live Fm)).map (mFm O Fm))
def kF (O:Txt->List ArrM)(Fm:Txt->Nat×Nat×List (List ArrM))(m:MetM):List RdM:=rdsM m (zaz newL ((O m.path).take (Fm m.path).2.1)) (Fm m.path).2.2
theorem zfi {x:MetM}:x∈msF O Fm ms↔∃m∈ms,live Fm m=true/\x=mFm O Fm m:=by
 unfold msF;rw[(zr3 _).mem_iff];simp only[yar,ybf];constructor;.rintro⟨m,⟨a,b⟩,rfl⟩;exact⟨m,a,b,rfl⟩
 .rintro⟨m,a,b,rfl⟩;exact⟨m,⟨a,b⟩,rfl⟩
theorem zcT:live Fm m=true↔(0<(Fm m.path).1∨(Fm m.path).2.2≠ []):=by unfold live;simp
def zsQ (d:DiskM)(O:Txt->List ArrM)(Fm:Txt->Nat×Nat×List (List ArrM))(ms:List MetM)(t:Txt):Option RdM->Prop
 |none=>((∃m∈ms,∃q,t=zaj m.id q zdv/\1<=q/\q<70)∨∃m∈ms,∃q f,t=zaj m.id q kindP/\1<=q/\q<70/\At d t f/\zu7 m.path f.bytes)/\∀m∈ms,∀q kd,Cnt (Fm m.path).1 (Fm m.path).2.2.length q kd->zaj m.id q kd≠t
 |some r=>r.name=t/\OkRd r/\(∃f tn,At d t f/\f.bytes=zbQ r.path r.recs++tn/\Torn tn/\(r.kind=kindC->tn= []))/\∃m∈ms,live Fm m=true/\r.id=m.id/\r.path=m.path/\(r∈kF O Fm (mFm O Fm m)∨r.seq<(Fm m.path).1)
theorem zqq (hQ:Qt d a ms O S Fm){x y:MetM}(hx:x∈ms)(hy:y∈ms)(he:x.id=y.id):x=y:=z44 hQ.idn hx hy he
theorem zyG (hQ:Qt d a ms O S Fm)(hm:m∈ms):m.id<71:=by have:=(hQ.reg m hm).2.2.1;have:=hQ.a69;omega
theorem z4D (hQ:Qt d a ms O S Fm)(hm:m∈ms)(n:Nat):RightL (zaz newL ((O m.path).take n)):=zc5 zdl λx b=>(hQ.reg m hm).2.2.2 x (yao b)
theorem zD0 (hQ:Qt d a ms O S Fm)(hm:m∈ms){g:List ArrM}(hg:g∈(Fm m.path).2.2):OkPs g:=λx b=>(hQ.reg m hm).2.2.2 x (yay ((hQ.frm m hm).pre.subset (ybq.2 ⟨g,hg,b⟩)))
theorem zpE (hQ:Qt d a ms O S Fm)(hm:m∈ms){r:RdM}(hr:r∈kF O Fm (mFm O Fm m)):OkRd r/\r.id=m.id/\r.path=m.path/\(Fm m.path).1<=r.seq/\Cnt (Fm m.path).1 (Fm m.path).2.2.length r.seq r.kind:=by
 have o:=(hQ.frm m hm).top;have p:=hQ.a69;have k:=zyG hQ hm;have b:=hQ.reg m hm;rcases zlt.1 hr with ⟨i,rfl⟩|⟨j,g,c,rfl⟩
 .have h:0<(Fm m.path).1:=i;exact⟨⟨b.2.1,k,i,by show(Fm m.path).1<70;omega,b.1,(λl e=>by cases e;exact z4D hQ hm _),λg c=>by cases c⟩,rfl,rfl,yaf _,.inl ⟨rfl,rfl,h⟩⟩
 .have q:j<(Fm m.path).2.2.length:=(yaa.1 c).1;exact⟨⟨b.2.1,k,by show 1<=(Fm m.path).1+1+j;omega,by show(Fm m.path).1+1+j<70;omega,b.1,(λl e=>by cases e),λn f=>by cases f;exact zD0 hQ hm (yad c)⟩,rfl,rfl,by show(Fm m.path).1<=(Fm m.path).1+1+j;omega,.inr ⟨rfl,by show(Fm m.path).1<(Fm m.path).1+1+j;omega,by show(Fm m.path).1+1+j<=_;omega⟩⟩
theorem zAv (hQ:Qt d a ms O S Fm)(ht:t∈zbe d):∃o,zsQ d O Fm ms t o:=by
 have U:=hQ.size.right;obtain⟨x,I,rfl⟩:=zh7.1 ht;obtain⟨m,j,q,y,e,D,h2,Y⟩:=(zgn U hQ.vw).1 x I;have ha:=hQ.a69;have G:=hQ.frm m j;have Z:=G.top;have W:=zyG hQ j;have p:=hQ.reg m j;obtain⟨f,hf,J⟩:=zn5 U x I;have H:AtV d.names d.files (zaj m.id q y) f:=⟨hf,x,I,e,J⟩;have k:At d (zaj m.id q y) f:=(zoN U).1 H;have e':kN x=zaj m.id q y:=e;rw[e'];have B:∀{n:MetM},n∈ms->∀{z c},Cnt (Fm n.path).1 (Fm n.path).2.2.length z c->zaj n.id z c=zaj m.id q y->n=m/\z=q/\c=y:=λ{n} b {z c} u A=>by have X:=z9Q u (hQ.frm n b).top;obtain⟨r,s,E⟩:=zbI (zyG hQ b) W (by omega) (by omega) X.2.1 Y A;exact⟨zqq hQ b j r,s,E⟩
 rcases G.only q y f (by omega) Y H with (⟨rfl,rfl,r⟩|⟨rfl,r,s⟩)|rfl|⟨rfl,r,s⟩|⟨r,s,E,L⟩;.have C:(⟨m.id,(Fm m.path).1,m.path,.inl (zaz newL ((O m.path).take (Fm m.path).2.1))⟩:RdM)∈kF O Fm (mFm O Fm m):=zlt.2 (.inl ⟨r,rfl⟩);exact⟨some _,rfl,(zpE hQ j C).1,⟨f,[],k,by rw[(G.cC f r H).1,zqZ,ybi];rfl,.inl rfl,λ_=>rfl⟩,m,j,zcT.2 (.inl r),rfl,rfl,.inl C⟩
 .obtain⟨i,rfl⟩:∃i,q=(Fm m.path).1+1+i:=⟨q-((Fm m.path).1+1),by omega⟩;have w:i<(Fm m.path).2.2.length:=by omega
  have F:=yah w;have C:(⟨m.id,(Fm m.path).1+1+i,m.path,.inr (Fm m.path).2.2[i]⟩:RdM)∈kF O Fm (mFm O Fm m):=zlt.2 (.inr ⟨i,_,F,rfl⟩);obtain⟨K,E,L⟩:=(G.cP i _ f F H).1;exact⟨some _,rfl,(zpE hQ j C).1,⟨f,K,k,L,E,λR=>absurd R (show¬kindP=kindC by decide)⟩,m,j,zcT.2 (.inr λh=>by rw[h]at w;simp at w),rfl,rfl,.inl C⟩
 .refine⟨none,.inl ⟨m,j,q,rfl,D,by omega⟩,λn b z c u A=> ?_⟩;obtain⟨_,_,rfl⟩:=B b u A;rcases u with ⟨h,_⟩|⟨h,_⟩<;>exact absurd h (by decide)
 .refine⟨none,.inr ⟨m,j,q,f,rfl,D,by omega,k,s⟩,λn b z c u A=> ?_⟩;obtain⟨rfl,rfl,rfl⟩:=B b u A;rcases u with ⟨h,_⟩|⟨_,_,h⟩
  .exact absurd h (by decide)
  .omega
 .have hl:live Fm m=true:=zcT.2 (.inl (by omega));rcases L with ⟨rfl,l,M,P⟩|⟨rfl,g,M,K,P,Q⟩
  .exact⟨some ⟨m.id,q,m.path,.inl l⟩,rfl,⟨p.2.1,W,D,by show q<70;omega,p.1,(λl' v=>by cases v;exact M),λg F=>by cases F⟩,⟨f,[],k,by rw[P,zqZ,ybi];rfl,.inl rfl,λ_=>rfl⟩,m,j,hl,rfl,rfl,.inr s⟩
  .exact⟨some ⟨m.id,q,m.path,.inr g⟩,rfl,⟨p.2.1,W,D,by show q<70;omega,p.1,(λl' v=>by cases v),λg' T=>by cases T;exact M⟩,⟨f,K,k,Q,P,λR=>absurd R (show¬kindP=kindC by decide)⟩,m,j,hl,rfl,rfl,.inr s⟩
theorem zDf {r r':RdM}(h:OkRd r)(h':OkRd r')(he:kR r=kR r'):r.id=r'.id/\r.seq=r'.seq:=by have:=h.q70;have:=h'.q70;unfold kR at he;omega
theorem z8F (hQ:Qt d a ms O S Fm){t t':Txt}{r r':RdM}(h:zsQ d O Fm ms t (some r))(h':zsQ d O Fm ms t' (some r'))(he:kR r=kR r'):t=t':=by
 have z:=hQ.size.right;obtain⟨rfl,C,⟨f,J,D,_⟩,m,k,_,p,K,l⟩:=h;obtain⟨rfl,q,⟨L,E,s,_⟩,F,u,_,v,G,b⟩:=h';obtain⟨w,x⟩:=zDf C q he;have y:m=F:=zqq hQ k u (by rw[<-p,<-v,w]);subst y;have A:=hQ.frm m k;by_cases o:r.kind=r'.kind;.unfold RdM.name;rw[w,x,o]
 .exfalso;have n:r.seq<(Fm m.path).1/\r'.seq<(Fm m.path).1:=by
   rcases l with l|l<;>rcases b with b|b
   .exfalso;have c:=(zpE hQ k l).2.2.2.2;have B:=(zpE hQ k b).2.2.2.2;rw[<-x]at B;rcases c with ⟨i,H,_⟩|⟨i,H,_⟩<;>rcases B with ⟨j,I,_⟩|⟨j,I,_⟩
    .exact o (i.trans j.symm)
    .omega
    .omega
    .exact o (i.trans j.symm)
   .have:=(zpE hQ k l).2.2.2.1;omega
   .have:=(zpE hQ k b).2.2.2.1;omega
   .exact⟨l,b⟩
  have e:=(zoN z).2 D;have g:=(zoN z).2 s;unfold RdM.name at e g;rw[<-w,<-x,p]at g;rw[p]at e;rcases r.kd with i|i<;>rcases r'.kd with j|j
  .exact o (i.trans j.symm)
  .rw[i]at e;rw[j]at g;exact A.uni _ _ _ n.1 g e
  .rw[i]at e;rw[j]at g;exact A.uni _ _ _ n.1 e g
  .exact o (i.trans j.symm)
theorem z4K (hQ:Qt d a ms O S Fm):(msF O Fm ms).Pairwise λx y=>x.id<y.id:=by refine zzr ?_;rw[yd0];exact hQ.idn.sublist (yem.map _)
theorem zgu (hQ:Qt d a ms O S Fm):((msF O Fm ms).map MetM.path).Nodup:=by refine((zr3 _).map MetM.path).nodup_iff.2 ?_;rw[yd0];exact hQ.pan.sublist (yem.map _)
theorem z97 (hQ:Qt d a ms O S Fm):∃(rd:Txt->Option RdM) (St:MetM->List RdM),(∀t∈zbe d,zsQ d O Fm ms t (rd t))/\(∀l,l.Perm ((zbe d).filterMap rd)->(l.Pairwise λx y=>kR x<=kR y)->l=(msF O Fm ms).flatMap λm=>St m++kF O Fm m)/\∀m∈msF O Fm ms,∀r∈St m,r.id=m.id/\r.path=m.path/\OkRd r/\r.seq<m.base:=by
 have T:∀t:Txt,∃o,t∈zbe d->zsQ d O Fm ms t o:=λt=>by
  by_cases I:t∈zbe d;.obtain⟨o,u⟩:=zAv hQ I;exact⟨o,λ_=>u⟩
  .exact⟨none,λh=>absurd h I⟩
 obtain⟨rd,i⟩:=Classical.axiomOfChoice T;obtain⟨X,L⟩:∃X,X=(zbe d).filterMap rd:=⟨_,rfl⟩;have D:∀{r},r∈X↔∃t∈zbe d,rd t=some r:=λ{r}=>by rw[L,List.mem_filterMap]
 have w:∀{r},r∈X->zsQ d O Fm ms r.name (some r):=λ{r} c=>by obtain⟨t,I,e⟩:=D.1 c;have:=i t I;rw[e]at this;have e2:r.name=t:=this.1;rw[e2];exact this
 have E:X.Pairwise λx y=>kR x≠kR y:=by rw[L,List.pairwise_filterMap];have F:=zlX hQ.size.right;rw[ya9]at F;refine List.Pairwise.imp_of_mem (R:=λx y=>x≠y) (λ{x y} q hy hne r c K j he=>hne ?_) F;have b:=i x q;have f:=i y hy;rw[c]at b;rw[j]at f;exact z8F hQ b f he
 obtain⟨Y,hY⟩:∃Y,Y=X.mergeSort λx y=>decide (kR x<=kR y):=⟨_,rfl⟩;have k:Y.Perm X:=by rw[hY];exact yel _ _
 have U:Y.Pairwise λx y=>kR x<kR y:=by
  have b:Y.Pairwise λx y=>kR x<=kR y:=by
   rw[hY];refine(ydz (le:=λx y:RdM=>decide (kR x<=kR y)) (λx y z b f=> ?_) (λx y=> ?_) X).imp λh=>by simpa using h
   .simp only[decide_eq_true_eq]at*;omega
   .simp only[ydu,decide_eq_true_eq];omega
  have f:Y.Pairwise λx y=>kR x≠kR y:=(k.pairwise_iff λh=>Ne.symm h).2 E;exact List.Pairwise.imp₂ (λ_ _ b f=>by omega) b f
 refine⟨rd,λm=>Y.filter λr=>decide (r.id=m.id/\r.seq<m.base),i, ?_,λm g r c=> ?_⟩
 .rw[<-L];intro l hp hs;have G:=z4K hQ;have hZ:((msF O Fm ms).flatMap λm=>(Y.filter λr=>decide (r.id=m.id/\r.seq<m.base))++kF O Fm m).Pairwise λx y=>kR x<kR y:=by
   rw[List.pairwise_flatMap];refine⟨λx q=> ?_,List.Pairwise.imp_of_mem (R:=λx y=>x.id<y.id) (λ{x y} q hy hlt r c K j=> ?_) G⟩;.obtain⟨m,g,J,rfl⟩:=zfi.1 q;rw[ydk];refine⟨U.sublist yem,zke _ _ _,λr c K j=> ?_⟩;have b:=(ybf.1 c).2;simp only[decide_eq_true_eq]at b;obtain⟨_,f,_,n,_⟩:=zpE hQ g j;have B:r.id=m.id:=b.1;have h5:r.seq<(Fm m.path).1:=b.2;unfold kR;omega
   .have hq:∀{z:MetM} {r:RdM},z∈msF O Fm ms->r∈(Y.filter λr=>decide (r.id=z.id/\r.seq<z.base))++kF O Fm z->r.id=z.id/\r.seq<70:=λ{z r} hz c=>by
     obtain⟨m,g,_,rfl⟩:=zfi.1 hz;rcases yai.1 c with h|h
     .obtain⟨b,f⟩:=ybf.1 h;simp only[decide_eq_true_eq]at f;exact⟨f.1,(w (k.mem_iff.1 b)).2.1.q70⟩
     .obtain⟨b,f,_⟩:=zpE hQ g h;exact⟨f,b.q70⟩
    have b:=hq q c;have f:=hq hy j;unfold kR;omega
  have W:X.Nodup:=by rw[ya9];exact E.imp λh e=>h (by rw[e])
  have Z:=hZ.imp (S:=λx y=>x≠y) λh e=>by subst e;omega
  refine z0S hZ (hp.trans ((List.perm_ext_iff_of_nodup W (ya9.2 Z)).2 λr=> ?_)) hs;rw[ydn];constructor
  .intro c;obtain⟨_,u,_,m,g,J,b,f,n⟩:=w c;refine⟨mFm O Fm m,zfi.2 ⟨m,g,J,rfl⟩,yai.2 ?_⟩;rcases n with n|n
   .exact .inr n
   .exact .inl (ybf.2 ⟨k.mem_iff.2 c,by simp only[decide_eq_true_eq];exact⟨b,n⟩⟩)
  .rintro⟨x,q,c⟩;obtain⟨m,g,J,rfl⟩:=zfi.1 q;rcases yai.1 c with c|c
   .exact k.mem_iff.1 (ybf.1 c).1
   .obtain⟨u,b,f,n,B⟩:=zpE hQ g c;have hn:r.name=zaj m.id r.seq r.kind:=(by unfold RdM.name;rw[b]);have hh:r.name∈zbe d:=(by rw[zh7,hn];exact(hQ.frm m g).has _ _ B);have s:=i _ hh;cases A:rd r.name with
    |none=>rw[A]at s;exact absurd hn.symm (s.2 m g _ _ B)
    |some K=>
     rw[A]at s;obtain⟨M,C,_,P,v,_,Q,_,p⟩:=s;have H:=zzH C u M;obtain⟨e1,e2⟩:=zDf C u H;have aa:P=m:=zqq hQ v g (by rw[<-Q,e1,b]);subst aa;have:K=r:=by
      rcases p with p|p;.exact zAn (zke _ _ _) p c H
      .omega
     subst this;exact D.2 ⟨_,hh,A⟩
 .obtain⟨x,q,J,rfl⟩:=zfi.1 g;obtain⟨b,f⟩:=ybf.1 c;simp only[decide_eq_true_eq]at f;obtain⟨_,u,_,P,v,_,n,B,_⟩:=w (k.mem_iff.1 b);have:P=x:=zqq hQ v q (by rw[<-n];exact f.1);subst this;exact⟨f.1,B,u,f.2⟩
variable {d D:DiskM}{a k:Nat}{m:MetM}{s:ShM}{p:Txt}{O:Txt->List ArrM}{S:Txt->Nat×Bool}{ms:List MetM}{Fm:Txt->Nat×Nat×List (List ArrM)}
def cntF (O:Txt->List ArrM)(Fm:Txt->Nat×Nat×List (List ArrM))(ms:List MetM):List Txt:=((msF O Fm ms).flatMap (kF O Fm)).map RdM.name
def jkF (d:DiskM)(O:Txt->List ArrM)(Fm:Txt->Nat×Nat×List (List ArrM))(ms:List MetM):List Txt:=(zbe d).filter λt=> !decide (t∈cntF O Fm ms)
def zc8 (d:DiskM)(O:Txt->List ArrM)(Fm:Txt->Nat×Nat×List (List ArrM))(ms:List MetM)(L:Int):ShM:=zdm (zdr (zco d L (msF O Fm ms)) (jkF d O Fm ms))
theorem z0a {t:Txt}:t∈cntF O Fm ms↔∃m∈ms,live Fm m=true/\∃r∈kF O Fm (mFm O Fm m),r.name=t:=by
 unfold cntF;simp only[yar,ydn];constructor;.rintro⟨r,⟨x,d,c⟩,e⟩;obtain⟨m,a,b,rfl⟩:=zfi.1 d;exact⟨m,a,b,r,c,e⟩
 .rintro⟨m,a,b,r,c,e⟩;exact⟨r,⟨_,zfi.2 ⟨m,a,b,rfl⟩,c⟩,e⟩
theorem z6X (hm:m∈ms){q:Nat}{kd:Txt}(hc:Cnt (Fm m.path).1 (Fm m.path).2.2.length q kd):zaj m.id q kd∈cntF O Fm ms:=by
 rw[z0a];rcases hc with ⟨rfl,rfl,b⟩|⟨rfl,c,d⟩
 .exact⟨m,hm,zcT.2 (.inl b),_,zlt.2 (.inl ⟨b,rfl⟩),rfl⟩
 .obtain⟨i,rfl⟩:∃i,q=(Fm m.path).1+1+i:=⟨q-((Fm m.path).1+1),by omega⟩;have a:i<(Fm m.path).2.2.length:=by omega
  exact⟨m,hm,zcT.2 (.inr λh=>by rw[h]at a;simp at a),_,zlt.2 (.inr ⟨i,_,yah a,rfl⟩),rfl⟩
theorem zyW {t:Txt}:t∈jkF d O Fm ms↔hasK kN d.names t/\t∉cntF O Fm ms:=by unfold jkF;rw[ybf,zh7];simp
theorem zjZ (hQ:Qt d a ms O S Fm):Gone d a ms Fm (jkF d O Fm ms):=by refine⟨(zlX hQ.size.right).sublist yem,λn b=> ?_,λm e q h f b=>(zyW.1 b).2 (z6X e f)⟩;have g:=(zyW.1 b).1;obtain⟨x,c,rfl⟩:=g;exact⟨hQ.size.right.names.ok x c,x,c,rfl⟩
theorem Gone.take {l:List Txt}(h:Gone d a ms Fm l)(i:Nat):Gone d a ms Fm (l.take i):=⟨h.nd.sublist (List.take_sublist _ _),λn b=>h.ok n (yao b),λm c q e f b=>h.cnt m c q e f (yao b)⟩
theorem zk5 (d:DiskM)(L:Int){N:Nat}(hN:1<=N){l:List MetM}(hp:(l.map MetM.path).Nodup)(hi:∀m∈l,m.id<N):(zco d L l).left=L/\(zco d L l).down=false/\1<=(zco d L l).next/\(zco d L l).next<=N/\∀m∈l,m.id<(zco d L l).next:=by
 refine zj7 (P:=λl=>(l.map MetM.path).Nodup->(∀m∈l,m.id<N)->(zco d L l).left=L/\(zco d L l).down=false/\1<=(zco d L l).next/\(zco d L l).next<=N/\∀m∈l,m.id<(zco d L l).next) (λ_ _=>⟨rfl,rfl,yaf _,hN,by simp⟩) (λl m n b hi=> ?_) l hp hi;rw[ycn,yb7]at b;obtain⟨g,h,o,p,i⟩:=n b.1 λx a=>hi x (by simp[a]);have e:zco d L (l++ [m])=zby (zco d L l) (c16 m):=by simp[zco]
 have q:=hi m (by simp);have f:¬hasK kM (zco d L l).mets (c16 m).path:=by rintro⟨x,a,k⟩;obtain⟨y,j,rfl⟩:=((zgN d L b.1).2.1 x).1 a;exact b.2.2 y.path (yar.2 ⟨y,j,rfl⟩) m.path (by simp) k
 have c:(zby (zco d L l) (c16 m)).next=max (zco d L l).next (m.id+1):=by unfold zby;rw[if_neg f];rfl
 rw[e];refine⟨(zrC _ _).trans g,(zib _ _).trans h,by rw[c];omega,by rw[c];omega,λx a=> ?_⟩;rw[c];rcases yai.1 a with a|a
 .have:=i x a;omega
 .simp at a;subst a;omega
theorem zqk (hQ:Qt d a ms O S Fm){L:Int}(hd:(zc8 d O Fm ms L).down=false):(zc8 d O Fm ms L).disk=zis (zax d (jkF d O Fm ms))/\(zc8 d O Fm ms L).mets=(zco d L (msF O Fm ms)).mets/\(zc8 d O Fm ms L).next=(zco d L (msF O Fm ms)).next:=by
 unfold zc8 at hd⊢;obtain⟨b,c⟩:=zn1 hd;obtain⟨_,e⟩:=zkt _ b;have f:(zco d L (msF O Fm ms)).disk=d:=(zgN d L (zgu hQ)).2.2.1;refine⟨by rw[c,e,f];rfl, ?_, ?_⟩;.rw[(zbu _).1,(zhD _ _).1]
 .rw[(zbu _).2,(zhD _ _).2]
theorem z0o (hQ:Qt d a ms O S Fm){L:Int}(hd:(zc8 d O Fm ms L).down=true):∃i,(zc8 d O Fm ms L).disk=zax d ((jkF d O Fm ms).take i):=by unfold zc8 at hd⊢;rw[zug hd];obtain⟨i,_,h⟩:=z0A (zco d L (msF O Fm ms)) (jkF d O Fm ms);exact⟨i,by rw[h,(zgN d L (zgu hQ)).2.2.1]⟩
theorem zky (hQ:Qt d a ms O S Fm):(zc8 d O Fm ms (-1)).down=false/\(zc8 d O Fm ms (-1)).left= -1:=by
 have e:∀m∈msF O Fm ms,m.id<71:=λx c=>by obtain⟨m,b,_,rfl⟩:=zfi.1 c;exact(zyG hQ b:m.id<71)
 have h:=zk5 d (-1) (by omega) (zgu hQ) e;have:=zr0 (zwT (s:=zco d (-1) (msF O Fm ms)) ⟨h.1,h.2.1⟩ (jkF d O Fm ms));exact⟨this.2,this.1⟩
theorem z7R (hQ:Qt d a ms O S Fm){L:Int}(hd:(zc8 d O Fm ms L).down=true)(n:Nat)(ks:List KeepM):Qt (ze6 (zc8 d O Fm ms L).disk n ks) a ms O S Fm:=by obtain⟨i,e⟩:=z0o hQ hd;rw[e];exact zBd hQ ((zjZ hQ).take i) n ks
theorem z6v (hQ:Qt d a ms O S Fm){L:Int}(hd:(zc8 d O Fm ms L).down=false):Qt (zc8 d O Fm ms L).disk a ms O S Fm:=by rw[(zqk hQ hd).1];exact zBG hQ (zjZ hQ)
def oF (O:Txt->List ArrM)(Fm:Txt->Nat×Nat×List (List ArrM)):Txt->List ArrM:=λp=>(O p).take ((Fm p).2.1+(Fm p).2.2.flatten.length)
def sF (O:Txt->List ArrM)(Fm:Txt->Nat×Nat×List (List ArrM)):Txt->Nat×Bool:=λp=>if 0<(Fm p).1∨(Fm p).2.2≠ []then((oF O Fm p).length,true)else(0,false)
theorem Form.own {ns fs b k0 gs e}(h:Form ns fs a e b k0 gs):Form ns fs a ⟨e.id,e.path,e.own.take (k0+gs.flatten.length),e.sure,e.on⟩ b k0 gs/\(e.own.take (k0+gs.flatten.length)).drop k0=gs.flatten:=by
 have i:=h.own_len;have c:(e.own.take (k0+gs.flatten.length)).drop k0=gs.flatten:=by rw[List.drop_take,ybc];exact(List.prefix_iff_eq_take.1 h.pre).symm
 refine⟨⟨h.top,h.b0, ?_, ?_,h.sure0,h.has,λf d g=> ?_,h.cP,h.only,h.uni⟩,c⟩;.show k0<=(e.own.take _).length;rw[yan];omega
 .show _<+:(e.own.take _).drop k0;rw[c];exact List.prefix_refl _
 .show _=zfW e.path (zeJ (zaz newL ((e.own.take _).take k0)))/\_;rw[yd1,ybt (by omega)];exact h.cC f d g
theorem zmz (hQ:Qt d a ms O S Fm)(d':DiskM){L:Int}{x:MetM}:x∈(zco d' L (msF O Fm ms)).mets↔∃m∈ms,live Fm m=true/\x=mFm O Fm m:=by
 rw[(zgN d' L (zgu hQ)).2.1];constructor;.rintro⟨y,e,rfl⟩;obtain⟨m,b,c,rfl⟩:=zfi.1 e;exact⟨m,b,c,rfl⟩
 .rintro⟨m,b,c,rfl⟩;exact⟨_,zfi.2 ⟨m,b,c,rfl⟩,rfl⟩
theorem zDH (hQ:Qt d a ms O S Fm):InvS (zc8 d O Fm ms (-1)) a 0/\BndS (zc8 d O Fm ms (-1)) a (oF O Fm) (sF O Fm)/\(zc8 d O Fm ms (-1)).disk.quota=d.quota/\(∀p∈P4,(zal (zc8 d O Fm ms (-1)) p).lad=zaz newL (oF O Fm p)):=by
 have hR:=hQ.size.right;have ha:=hQ.a69;have w:=zky hQ;obtain⟨J,A,B⟩:=zqk hQ w.1;have M:=zjZ hQ;have g:=z6v hQ w.1;have hi:∀m∈msF O Fm ms,m.id<a+1:=λx e=>by obtain⟨m,c,_,rfl⟩:=zfi.1 e;have:=(hQ.reg m c).2.2.1;show m.id<a+1;omega
 obtain⟨_,_,U,W,X⟩:=zk5 d (-1) (by omega) (zgu hQ) hi;obtain⟨K,_,_,_⟩:=zgN d (-1) (zgu hQ);have b:∀x,x∈(zc8 d O Fm ms (-1)).mets↔∃m∈ms,live Fm m=true/\x=mFm O Fm m:=λx=>by rw[A];exact zmz hQ d
 have s:=g.moves;have n:∀m∈ms,max (mFm O Fm m).base (mFm O Fm m).last=(Fm m.path).1+(Fm m.path).2.2.length:=λm c=>by
  show max (Fm m.path).1 (if(Fm m.path).2.2= []then 0 else(Fm m.path).1+(Fm m.path).2.2.length)=_;split;.rename_i h;rw[h];simp
  .omega
 have E:∀t,hasK kN (zc8 d O Fm ms (-1)).disk.names t->t∈cntF O Fm ms:=λt z=>by rw[J,ziH]at z;have F:SizeM d a 1000:=hQ.size;obtain⟨o,q⟩:=((zce F M.nd M.ok).2 t).1 z;exact Classical.byContradiction λl=>o (zyW.2 ⟨q,l⟩)
 have P:InvS (zc8 d O Fm ms (-1)) a 0:=by
  refine⟨⟨g.size.right,g.size.quota,g.size.files,g.size.next,by rw[s];exact yaf _,g.size.okm⟩,by rw[A];exact K,λx e=> ?_,by rw[B];exact W,by rw[B];exact U,ha,λx e=> ?_, ?_,λx e=> ?_,λx e=> ?_,λx e=> ?_,λx e k=> ?_,λt z=> ?_⟩;.obtain⟨m,c,_,rfl⟩:=(b x).1 e;exact(hQ.reg m c).1
  .obtain⟨m,c,k,rfl⟩:=(b x).1 e;exact⟨(hQ.reg m c).2.1,by rw[B];exact X _ (zfi.2 ⟨m,c,k,rfl⟩)⟩
  .rw[A,ya9,yb0];refine List.Pairwise.imp_of_mem (R:=λx y=>kM x<kM y) (λ{x y} e hy hlt he=> ?_) K;obtain⟨m,c,_,rfl⟩:=(zmz hQ d).1 e;obtain⟨Y,C,_,rfl⟩:=(zmz hQ d).1 hy;have:m=Y:=zqq hQ c C he;subst this;exact zcy _ hlt
  .obtain⟨m,c,_,rfl⟩:=(b x).1 e;exact z4D hQ c _
  .obtain⟨m,c,_,rfl⟩:=(b x).1 e;rw[n m c];exact(hQ.frm m c).top
  .obtain⟨m,c,_,rfl⟩:=(b x).1 e;show 16<=1000;omega
  .obtain⟨m,c,_,rfl⟩:=(b x).1 e;have G:0<(if(Fm m.path).2.2= []then 0 else(Fm m.path).1+(Fm m.path).2.2.length):=k;show hasK kN _ (zaj m.id (if(Fm m.path).2.2= []then 0 else(Fm m.path).1+(Fm m.path).2.2.length) kindP);split at G;.omega
   .rename_i h;rw[if_neg h];have:=ycw.2 h;exact(g.frm m c).has _ _ (.inr ⟨rfl,by omega,yaf _⟩)
  .obtain⟨m,c,k,r,Z,rfl⟩:=z0a.1 (E t z);obtain⟨ho,o,q,L,h4⟩:=zpE hQ c Z;refine⟨mFm O Fm m,(b _).2 ⟨m,c,k,rfl⟩,r.seq,r.kind,by unfold RdM.name;rw[o];rfl,ho.q1, ?_,r.kd⟩;rw[n m c];rcases h4 with ⟨_,h5,_⟩|⟨_,_,h5⟩<;>omega
 have H:∀m∈ms,live Fm m=true->BM (zc8 d O Fm ms (-1)).disk a (mFm O Fm m) (oF O Fm m.path) (sF O Fm m.path) (Fm m.path).2.1 (Fm m.path).2.2:=λm c k=>by
  obtain⟨o,q⟩:=(g.frm m c).own;have L:=o.sured (zcT.1 k).symm q λi f _ hA=>g.whole f hA.1;have hs:sF O Fm m.path=((oF O Fm m.path).length,true):=by unfold sF;rw[if_pos (zcT.1 k)]
  rw[hs];exact z3M g.size.right s rfl (λx e=>(hQ.reg m c).2.2.2 x (yao e)) q rfl (λl=>absurd l (by show¬16<16;omega)) L
 refine⟨P,⟨λmv D=>absurd (show mv∈ [] from by rw[<-s];exact D) (by simp),λx e=> ?_,λp hp v=> ?_⟩, ?_,λp hp=> ?_⟩;.obtain⟨m,c,k,rfl⟩:=(b x).1 e;exact⟨_,_,H m c k,(zcT.1 k).symm⟩
 .have I:0<(Fm p).1∨(Fm p).2.2≠ []->False:=λl=>by
   by_cases j:p∈ms.map MetM.path;.obtain⟨m,c,rfl⟩:=yar.1 j;exact v ⟨_,(b _).2 ⟨m,c,zcT.2 l,rfl⟩,rfl⟩
   .rw[hQ.fno p j]at l;simp at l
  have Q:(Fm p).2.1=0/\(Fm p).2.2= []:=by
   by_cases j:p∈ms.map MetM.path;.obtain⟨m,c,rfl⟩:=yar.1 j;refine⟨(hQ.frm m c).b0 ?_,Classical.byContradiction λh=>I (.inr h)⟩;exact Nat.eq_zero_of_not_pos λh=>I (.inl h)
   .rw[hQ.fno p j];exact⟨rfl,rfl⟩
  refine⟨by unfold oF;rw[Q.1,Q.2];simp,by unfold sF;rw[if_neg I]⟩
 .rw[J,zlI,zmq]
 .by_cases v:hasK kM (zc8 d O Fm ms (-1)).mets p;.obtain⟨x,e,u⟩:=v;obtain⟨m,c,k,rfl⟩:=(b x).1 e;rw[zrO P.srt e u];have:m.path=p:=u;subst this;rfl
  .rw[zdN v];have j:oF O Fm p= []:=by
    unfold oF;by_cases j:p∈ms.map MetM.path;.obtain⟨m,c,rfl⟩:=yar.1 j;have T:¬(0<(Fm m.path).1∨(Fm m.path).2.2≠ []):=λl=>v ⟨_,(b _).2 ⟨m,c,zcT.2 l,rfl⟩,rfl⟩;have o:=(hQ.frm m c).b0 (Nat.eq_zero_of_not_pos λh=>T (.inl h));have q:(Fm m.path).2.2= []:=Classical.byContradiction λh=>T (.inr h);rw[o,q];simp
    .rw[hQ.fno p j];simp
   rw[j];rfl
end Go.Proofs.YtdbhocoeolhjhaaGreatDoor
namespace Go.Abs
theorem z6U {K:AV->zaa->Prop}{t:Tg K}{e size bytes:Nat}{σ τ:zaa}{a:Entry}{v:AV}{l:List (List AV)}(h:AccT e size (σ.length+1) τ v l)(x:List AV)(hs:0<size)(hx:x.length=size)(hb:(l.length+1)*bytes<=140737488355328)(h63:l.length+1<=9223372036854775807)
  (hK:∀v' τ',AccT e size (σ.length+1) τ' v' (l++ [x])->(∀en∈τ',en∈τ∨en=.row e size (l++ [x]) true)->K v' (σ++a::τ')):ap K t (σ++a::τ) e size bytes v (.lst [x]):=by
 rw[<-app1];exact z3k (zDD h) x hs hx hb h63 λv' τ' b d _ c=>by rw[app1];exact hK v' τ' (by simpa using b) c
end Go.Abs
namespace Go.Proofs.YtdbhocoeolhjhaaGreatDoor
open Go.Abs Go.RowKit Go.Sf Go.Num
variable {G:Globs}
def plC (C0 C1 C2 C3:AV)(s0 s1 s2 s3:Int)(now:Nat):List AV:= [C0,C1,C2,C3,.int .i64 s0,.int .i64 s1,.int .i64 s2,.int .i64 s3,.int .i64 now]
def CameOK (σ:zaa)(C:AV)(l:List ArrM):Prop:=((C=.nils/\l= [])∨C=.lst (zaO l))∨∃id,C=.row id l.length/\σ[id]? =some (.row 91 4 (zaO l) true)
def LowC (σ:zaa)(C:AV):Prop:=(C=.nils∨∃l,C=.lst l)∨∃id n,C=.row id n/\id<σ.length
theorem LowC.one {σ:zaa}{C:AV}(h:LowC σ C):C.one=true/\C.cells= [C]:=by rcases h with (rfl|⟨l,rfl⟩)|⟨id,n,rfl,_⟩<;>exact⟨rfl,rfl⟩
theorem LowC.under {σ:zaa}{C:AV}(h:LowC σ C){m:Nat}(hm:σ.length<=m):C.under m=true:=by
 rcases h with (rfl|⟨l,rfl⟩)|⟨id,n,rfl,h⟩;.simp[AV.under]
 .exact zfo m (by simp[AV.pure])
 .simp[AV.under];omega
theorem CameOK.low {σ:zaa}{C:AV}{l:List ArrM}(h:CameOK σ C l):LowC σ C:=by
 rcases h with (⟨rfl,_⟩|rfl)|⟨id,rfl,h⟩;.exact .inl (.inl rfl)
 .exact .inl (.inr ⟨_,rfl⟩)
 .exact .inr ⟨id,_,rfl,(yaa.1 h).1⟩
theorem CameOK.coe {σ:zaa}{C:AV}{l:List ArrM}(h:CameOK σ C l)(lend:Bool):Coe σ lend C (.lst (zaO l)):=by
 rcases h with (⟨rfl,rfl⟩|rfl)|⟨id,rfl,h⟩;.exact .nils
 .exact .pure _ (by simp[AV.pure])
 .exact .row id _ _ 4 _ true h (zcg l) (.inl rfl)
theorem CameOK.view {σ:zaa}{C:AV}{l:List ArrM}(h:CameOK σ C l):view σ C=some (zaO l):=by
 rcases h with (⟨rfl,rfl⟩|rfl)|⟨id,rfl,h⟩;.rfl
 .rfl
 .simp[Abs.view,h,zcg]
theorem z4P {σ:zaa}{k:Nat}{C0 C1 C2 C3:AV}{s0 s1 s2 s3:Int}{now:Nat}(l0:LowC σ C0)(l1:LowC σ C1)(l2:LowC σ C2)(l3:LowC σ C3)
  (hk:σ[k]? =some (.var 42 (plC C0 C1 C2 C3 s0 s1 s2 s3 now))) (a:ActM) (ha:OkAct a) (hl:a.dots.length<=300) (hn1:1000<=now) (hn2:now<=600000):
  AT 31 [.ptr k 0,.agg (actC a)] σ (λr σ'=>∃tl,σ'=σ.set k (.var 42 (plC C0 C1 C2 C3 s0 s1 s2 s3 (nowM now a.dots)))++ .var 47 (actC a)::tl/\AccT 91 4 (σ.length+1) tl r (zaO (ptsM now a.dots))/\∀en∈tl,∃l,en=.row 91 4 (zaO l) true):=by
 refine pwA zh0 ?_;have L:=zwz a.dots;have o0:=l0.one;have o1:=l1.one;have o2:=l2.one;have o3:=l3.one;obtain⟨A,X⟩:∃A:Entry,A=.var 47 (actC a):=⟨_,rfl⟩;obtain⟨V,hV⟩:∃V:Nat->Entry,V=λn=> .var 42 (plC C0 C1 C2 C3 s0 s1 s2 s3 n):=⟨_,rfl⟩;have h:∀n,V n=.var 42 (plC C0 C1 C2 C3 s0 s1 s2 s3 n):=λn=>by rw[hV]
 have q:σ.set k (V now)=σ:=by obtain⟨s,hx⟩:=yaa.1 hk;rw[h,<-hx,ycu]
 simp[zd0,actC];refine zac (λx f σ'=>∃(i:Nat) (tl:zaa),x=a.dots.length-i/\i<=a.dots.length/\f 0=.ptr k 0/\f 3=.ptr σ.length 0/\f 6=.int .i64 i/\AccT 91 4 (σ.length+1) tl (f 5) (zaO (ptsM now (a.dots.take i)))/\(∀en∈tl,∃l,en=.row 91 4 (zaO l) true)/\σ'=σ.set k (V (nowM now (a.dots.take i)))++A::tl) a.dots.length ?_ ?_;.exact⟨0,[],by simp,by simp,by simp,by simp,by simp,by simp[ptsM,zaO];exact zku,by simp,by simp[nowM,q,X,actC]⟩
 rintro x f σ' ⟨i,tl,rfl,hi,Y,H,I,e,p,rfl⟩;have ae:∀(x:Entry) (t:zaa),(σ.set k x++A::t)[σ.length]? =some A:=λx t=>by
  have:σ.length=(σ.set k x).length:=by simp
  rw[this,z91]
 have M:∀(x:Entry) (t:zaa),(σ.set k x++t)[k]? =some x:=λx t=>zaN (zaR hk x) t;have O:∀(x y:Entry) (t:zaa),(σ.set k x++t).set k y=σ.set k y++t:=λx y t=>by rw[ziS (zaR hk x),List.set_set]
 have m:A=.var 47 [.int .u8 a.kind,.int .u8 a.met,.lst (zxj a.dots)]:=X;simp[H,I];simp[m,L];rw[<-m];refine zap (λs=> ?_) (λad=> ?_)
 .have w:i<a.dots.length:=by omega
  have P:=wS i (by omega);obtain⟨d,F⟩:=gE w;have Z:=z3c F;obtain⟨aa,ab⟩:=yaa.1 Z;have z:=tS F;have B:=ha.d d (yad F);have C:=z6q now (a.dots.take i);have D:(a.dots.take i).length<=300:=by simp;omega
  obtain⟨n,G⟩:∃n,n=nowM now (a.dots.take i):=⟨_,rfl⟩;have Q:nowM now (a.dots.take (i+1))=n+d.later%30:=by rw[z,z6w,<-G]
  have R:ptsM now (a.dots.take (i+1))=ptsM now (a.dots.take i)++ [zrX n d]:=by rw[z,z5J,<-G]
  rw[<-G]at C⊢;have af:=yb3 d.later (show 0<30 by omega);have ag:=yb3 d.back (show 0<80 by omega);have wl:IntKind.i64.wrap (d.later:Int)=d.later:=wrap_i64 (by omega) (by have:=B.l;omega);have wb:IntKind.i64.wrap (d.back:Int)=d.back:=wrap_i64 (by omega) (by have:=B.b;omega);have S:(d.later:Int).tmod 30=((d.later%30:Nat):Int):=zbC d.later 30;have T:(d.back:Int).tmod 80=((d.back%80:Nat):Int):=zbC d.back 80;have wn:IntKind.i64.wrap ((n:Int)+((d.later%30:Nat):Int))=((n+d.later%30:Nat):Int):=wE (by omega);have wt:IntKind.i64.wrap (((n+d.later%30:Nat):Int)-((d.back%80:Nat):Int))=((n+d.later%30-d.back%80:Nat):Int):=wE (by omega);simp[Y,H,I,M,O,h,plC,m,Z,dotC,wl,wb,S,T,wn,wt,splice, -Int.natCast_add, -Int.natCast_emod];have ah:(zaO (ptsM now (a.dots.take i))).length<=300:=by rw[zcg,zu4];exact D
  refine z6U (bytes:=32) (by simpa using e) [.int .i64 (n+d.later%30-d.back%80:Nat),.int .i64 d.v,.int .i64 (n+d.later%30:Nat),.int .i64 0] (by decide) rfl (by omega) (by omega) λv' τ' J K=> ?_;have o:zaO (ptsM now (a.dots.take (i+1)))=zaO (ptsM now (a.dots.take i))++ [[.int .i64 (n+d.later%30-d.back%80:Nat),.int .i64 d.v,.int .i64 (n+d.later%30:Nat),.int .i64 0]]:=by rw[R];simp[zaO,arrC,zrX]
  simp[I,P];refine nx_i ⟨i+1,τ',rfl,by omega,by simp[Y],by simp[H],by simp, ?_,λen he=> ?_, ?_⟩;.rw[o];simpa using J
  .rcases K en he with u|u;.exact p en u
   .exact⟨_,by rw[u,<-o]⟩
  .rw[Q,h];simp[plC,m]
 .have U:i=a.dots.length:=by omega
  subst U;rw[yav]at e⊢;simp;have s:=(yaa.1 hk).1;have W:(f 5).under (σ.set k (V (nowM now a.dots))++A::tl).length=true:=by refine e.under ?_;simp;omega
  refine zbi (σ.set k (V (nowM now a.dots))++A::tl) (f 5) (by simp[zaK]) [] (by simp) (by simp) W (λj e' c=> ?_) ⟨tl,by rw[h],e,p⟩;have ai:σ.length<=(σ.set k (V (nowM now a.dots))++A::tl).length:=by simp
  have g:σ.length<=σ.length+(tl.length+1):=by omega
  by_cases hj:j<σ.length
  .rw[yap (by simpa using hj)]at c;by_cases E:k=j;.subst E;rw[zaR hk]at c;cases c;right;rw[h];simp[Entry.under,plC,AV.under];exact⟨l0.under g,l1.under g,l2.under g,l3.under g⟩
   .rw[yaj E]at c;exact .inl c
  .rw[yam (by simpa using yep hj)]at c;right;rcases ybe.1 (yad c)with rfl|u
   .rw[m];simp[Entry.under,AV.under]
   .obtain⟨l,rfl⟩:=p e' u;exact zaD (zfA l).2.1
theorem zyA (c0 c1 c2 c3:List ArrM)(s0 s1 s2 s3:Int)(now:Nat)(j:Nat)(c:List ArrM)(hj:(j=0/\c=c0)∨(j=1/\c=c1)∨(j=2/\c=c2)∨(j=3/\c=c3))(hc:∀a∈c,OkA a/\OkV a)(hcl:c.length<=1000000)(bs:List ArrM)(hb:∀a∈bs,OkA a)(hl:bs.length<=1000):
  PT 32 [.rptr [.lst (zaO c0),.lst (zaO c1),.lst (zaO c2),.lst (zaO c3),.int .i64 s0,.int .i64 s1,.int .i64 s2,.int .i64 s3,.int .i64 now],.int .i64 j,.lst (zaO bs)] (λr=>r=.bool (decide (∀a∈bs,OkV a))):=by
 refine pwP zg2 ?_;have z:=zcg bs;have kF:=zyv (G:=G) c hc hcl;have F:=zc5 zdl hc;obtain⟨L,I⟩:∃L,L=zaz newL c:=⟨_,rfl⟩;rw[<-I]at kF F;simp only[ladC]at kF;have s:∀{P:Prop},(∀(x:List ArrM),x=c->P)->P:=λh=>h c rfl;rcases hj with ⟨rfl,rfl⟩|⟨rfl,rfl⟩|⟨rfl,rfl⟩|⟨rfl,rfl⟩
 all_goals
  simp[zdg];refine zaX zjU (by simp) ?_;simp[zbz];refine zaX kF (by simp[AV.pure,schC]) ?_;simp[splice];refine zac (λx f σ=>∃(i:Nat) (E:zaa),x=bs.length-i/\i<=bs.length/\(∀a∈bs.take i,OkV a)/\f 2=.lst (zaO bs)/\f 7=.ptr 0 0/\f 8=.int .i64 i/\σ=.var 55 (ladC (zaz L (bs.take i)))::E) bs.length ?_ ?_;.exact⟨0,[],by simp,by simp,by simp,by simp,by simp,by simp,by simp[ladC,zaz]⟩
  rintro x f σ ⟨i,E,rfl,S,p,u,w,y,rfl⟩;simp[u,y,z];refine zap (λM=> ?_) (λO=> ?_)
  .have k:i<bs.length:=(by omega);have A:=wS i (by omega);obtain⟨a,o⟩:=gE k;have l:=znF o;obtain⟨J,K⟩:=yaa.1 l;have d:=hb a (yad o);have m:=tS o;have H:RightL (zaz L (bs.take i)):=zc5 F λx g=>⟨hb x (yao g),p x g⟩;simp[u,w,y,l,arrC,ladC,splice,zbz];by_cases b:OkV a
   .have e:=zpf (G:=G) _ H a.time a.now a.value d.t d.n d.le d.ge d.v b;have B:zc4 (zaz L (bs.take i)) a.time a.now a.value=zaz L (bs.take (i+1)):=(by rw[m,zig];rfl);rw[B]at e;simp only[ladC]at e;refine zaX e (by simp[AV.pure]) ?_;simp[w,y,splice,A];refine nx_i ⟨i+1,_,rfl,by omega,λx g=> ?_,by simp[u],by simp[w],by simp,by simp;rfl⟩;rw[m]at g;rcases yai.1 g with q|q
    .exact p x q
    .simp at q;subst q;exact b
   .have C:a.value= -9223372036854775808:=Classical.not_not.1 b;have e:=z4b (G:=G) (zaz L (bs.take i)) H a.time a.now (by have:=d.t;omega) (by have:=d.n;omega);have R:¬∀a∈bs,OkV a:=λQ=>b (Q a (yad o));simp only[ladC]at e;rw[C];refine zaX e (by simp[AV.pure]) ?_;rw[decide_eq_false R];simp
  .have D:i=bs.length:=(by omega);subst D;rw[yav]at p;rw[decide_eq_true p];simp
end Go.Proofs.YtdbhocoeolhjhaaGreatDoor
namespace Go.Abs
variable [Globs]
theorem z1t {P:Program}{f:FuncId}{args:List AV}{σ:zaa}{R R':AV->zaa->Prop}(h:ACalls P f args σ R)(hf:∀r σ',R r σ'->R' r σ'∨∃σ'',Frz σ' σ''/\R' r σ''):ACalls P f args σ R':=λd κ o w p q s=>(h d κ o w p q s).mono (by
 rintro e t ⟨r,σ',v,κ',j,rfl,m,b,l,c⟩;rcases hf r σ' m with k|⟨σ'',n,k⟩;.exact⟨r,σ',v,κ',j,rfl,k,b,l,c⟩
 .obtain⟨g,i,a⟩:=z4H b n;exact⟨r,σ'',v,κ',g,rfl,k,i,l.trans a,c.grow a⟩)
theorem z9O {P:Program}{K:AV->zaa->Prop}{σ:zaa}{g:FuncId}{args args':List AV}{r:AV}{t:Tg K}(hc:PCalls P g args' (λr'=>r'=r))(ha:CoeL σ false args args')(hK:K r σ):qc P K t σ g args:=⟨false,args',r,ha,hc,nofun,hK⟩
end Go.Abs
namespace Go.Proofs.YtdbhocoeolhjhaaGreatDoor
open Go.Abs Go.RowKit Go.Sf Go.Num
variable {G:Globs}
structure PlayAt (σ:zaa)(k:Nat)(p:PlayM)(C0 C1 C2 C3:AV):Prop where
 at':σ[k]? =some (.var 42 (plC C0 C1 C2 C3 (p.sure 0:Nat) (p.sure 1:Nat) (p.sure 2:Nat) (p.sure 3:Nat) p.now))
 c0:CameOK σ C0 (p.came 0)
 c1:CameOK σ C1 (p.came 1)
 c2:CameOK σ C2 (p.came 2)
 c3:CameOK σ C3 (p.came 3)
structure Kept (σ σ':zaa)(k:Nat):Prop where
 len:σ.length<=σ'.length
 get:∀i,i<σ.length->i≠k->σ'[i]? =σ[i]?
theorem CameOK.more {σ:zaa}{C:AV}{l:List ArrM}(h:CameOK σ C l)(t:zaa):CameOK (σ++t) C l:=by
 rcases h with h|⟨id,a,b⟩;.exact .inl h
 .exact .inr ⟨id,a,zaN b t⟩
theorem CameOK.kept {σ σ':zaa}{k:Nat}{C:AV}{l:List ArrM}{t:TypeId}{c:List AV}(h:CameOK σ C l)(hk:σ[k]? =some (.var t c))(hK:Kept σ σ' k):CameOK σ' C l:=by
 rcases h with h|⟨id,b,a⟩;.exact .inl h
 .refine .inr ⟨id,b, ?_⟩;rw[hK.get id (yaa.1 a).1 (λe=>by subst e;rw[hk]at a;cases a)];exact a
theorem zdL {σ:zaa}{k:Nat}(x:Entry)(t:zaa):Kept σ (σ.set k x++t) k:=by refine⟨by simp,λi b a=> ?_⟩;rw[yap (by simpa using b),yaj (λe=>a e.symm)]
def zc7 (p:PlayM)(j:Nat):PlayM:=⟨p.came,λi=>if i=j then(p.came j).length else p.sure i,p.now⟩
inductive StepP (s:ShM)(p:PlayM)(n:Nat):ShM->PlayM->Prop
 |same (now:Nat):StepP s p n s ⟨p.came,p.sure,now⟩
 |app (j:Nat) (hj:j<4) (bs:List ArrM) (now:Nat) (l:Int) (hb:∀x∈bs,OkA x/\OkV x) (hl:bs.length<=n) (hf:(za8 (zal s (zah j)) bs).length<=s.disk.quota-zaW s.disk):StepP s p n {zdc s (zal s (zah j)) bs with left:=l} (addC p j bs now)
 |sync (j:Nat) (hj:j<4) (l:Int) (hh:hasK kM s.mets (zah j)):StepP s p n {zvJ s (zal s (zah j))with left:=l} (zc7 p j)
 |comp (j:Nat) (hj:j<4) (l:Int) (hh:hasK kM s.mets (zah j)) (hf:(zaG (zal s (zah j))).length<=s.disk.quota-zaW s.disk):StepP s p n {zsD s (zal s (zah j)) (zaG (zal s (zah j)))with left:=l} (zc7 p j)
inductive DownP (s:ShM)(p:PlayM)(n:Nat):ShM->PlayM->Prop
 |app (j:Nat) (hj:j<4) (bs:List ArrM) (now:Nat) (hb:∀x∈bs,OkA x/\OkV x) (hl:bs.length<=n) (hf:(za8 (zal s (zah j)) bs).length<=s.disk.quota-zaW s.disk) (hd:(appF s (zal s (zah j)) (za8 (zal s (zah j)) bs)).down=true):DownP s p n (appF s (zal s (zah j)) (za8 (zal s (zah j)) bs)) (addC p j bs now)
 |sync (j:Nat) (hj:j<4) (hh:hasK kM s.mets (zah j)) (hd:(zjp s (zal s (zah j))).down=true):DownP s p n (zjp s (zal s (zah j))) p
 |comp (j:Nat) (hj:j<4) (hh:hasK kM s.mets (zah j)) (hf:(zaG (zal s (zah j))).length<=s.disk.quota-zaW s.disk) (hd:(zgP s (zal s (zah j)) (zaG (zal s (zah j)))).down=true):DownP s p n (zgP s (zal s (zah j)) (zaG (zal s (zah j)))) p
def DoR (s:ShM)(q a k':Nat)(σ:zaa)(k:Nat)(p:PlayM)(dl:Nat)(r:AV)(σ':zaa):Prop:=∃s' p' e C0 C1 C2 C3,r=.tup [.agg (shC s'),.int .i64 e,.bool true]/\PlayAt σ' k p' C0 C1 C2 C3/\Kept σ σ' k/\1000<=p'.now/\p'.now<=p.now+30*dl/\((e≠22/\s'.down=false/\za7 s'/\PlayInv s' p' q (a+1) (k'+1)/\StepP s p dl s' p')∨(e=22/\DownP s p dl s' p'))
theorem z2F {s:ShM}(h:za7 s)(m:MetM):za7 (zjp s m):=znE (zhS h m)
theorem z4x {s:ShM}(h:za7 s)(m:MetM)(b:Txt):za7 (appF s m b):=by
 unfold appF zuP;split;.exact zdd (zdd (zhS h m) _) _
 .exact zdd h _
theorem z19 {s:ShM}(h:za7 s)(m:MetM)(b:Txt):za7 (zgP s m b):=by
 have a:za7 (zfa s m b):=znE (zdd (zdd (zdd (zdd (zhS h m) _) _) _) _);rw[znI];refine znE ?_;split;.exact a
 .exact zmM a _
theorem spl4 {C0 C1 C2 C3:AV}{now:Nat}(f:Nat->Nat){j:Nat}(hj:j<4)(n:Nat):(List.take (4+j) [C0,C1,C2,C3,AV.int .i64 (f 0:Nat),.int .i64 (f 1:Nat),.int .i64 (f 2:Nat),.int .i64 (f 3:Nat),.int .i64 now]++AV.int .i64 n::List.drop (4+j) [C1,C2,C3,.int .i64 (f 0:Nat),.int .i64 (f 1:Nat),.int .i64 (f 2:Nat),.int .i64 (f 3:Nat),.int .i64 now])=
  plC C0 C1 C2 C3 ((λi=>if i=j then n else f i) 0:Nat) ((λi=>if i=j then n else f i) 1:Nat) ((λi=>if i=j then n else f i) 2:Nat) ((λi=>if i=j then n else f i) 3:Nat) now:=by
 match j,hj with
 |0,_=>rfl
 |1,_=>rfl
 |2,_=>rfl
 |3,_=>rfl
theorem z8O {σ τ:zaa}{a b c d:Entry}:(σ++a::b::c::d::τ)[σ.length+3]? =some d:=by rw[yam (by omega),ybc];rfl
theorem z7d {σ:zaa}{k:Nat}{p:PlayM}{C0 C1 C2 C3:AV}(h:PlayAt σ k p C0 C1 C2 C3){j:Nat}(hj:j<4):∃Cj,CameOK σ Cj (p.came j)/\(∀(l:List AV),List.take 1 (List.drop j (C0::C1::C2::C3::l))= [Cj]):=by
 match j,hj with
 |0,_=>exact⟨C0,h.c0,λl=>rfl⟩
 |1,_=>exact⟨C1,h.c1,λl=>rfl⟩
 |2,_=>exact⟨C2,h.c2,λl=>rfl⟩
 |3,_=>exact⟨C3,h.c3,λl=>rfl⟩
theorem zAC {σ:zaa}{k:Nat}{s:ShM}{p:PlayM}{q a k':Nat}{C0 C1 C2 C3:AV}(hP:PlayInv s p q a k')(hd:s.down=false)(hL:za7 s)(ha:a<69)(hk':k'<=100000)(hA:PlayAt σ k p C0 C1 C2 C3)(act:ActM)(hact:OkAct act)(hkind:act.kind%5=3)(hn1:1000<=p.now):
  AT 10 [.ptr k 0,.agg (shC s),.agg (actC act)] σ (DoR s q a k' σ k p act.dots.length):=by
 refine pwA zdj ?_;obtain⟨j,Q⟩:∃j,j=act.met%4:=⟨_,rfl⟩;have b:j<4:=by omega
 have F:zah act.met=zah j:=by rw[Q,znM]
 have H:(act.met:Int).tmod 4=(j:Int):=by rw[Q];exact zbC act.met 4
 have I:(act.kind:Int).tmod 5=3:=by have:(act.kind:Int).tmod 5=((act.kind%5:Nat):Int):=zbC act.kind 5;rw[this,hkind];rfl
 have J:IntKind.i64.wrap (j:Int)=j:=wI (by omega);have z:=zpZ (G:=G) act.met hact.m;have R:=z8l (G:=G) hP.inv hd hL (by omega) hk' (zaJ j);rw[F]at z;have f:=hA.at';have i:=hA.c0.low;have l:=hA.c1.low;have n:=hA.c2.low;have o:=hA.c3.low;have W:=λt=>(hA.c0.more t).view;have X:=λt=>(hA.c1.more t).view;have Y:=λt=>(hA.c2.more t).view;have Z:=λt=>(hA.c3.more t).view;obtain⟨U,w,x⟩:=z7d hA b;have S:=λt=>(w.more t).view;have oj:=w.low.one;have A:j+1<=9:=by omega
 have K:4+j<=8:=by omega
 have r:=λt=>zaN f t;have L:=λt y=>ziS f t y;simp only[plC]at r;simp only[shC]at R;simp[zbX,shC,actC,H,I,J];refine zaX z (by simp) ?_;simp;refine zaX R (by simp[AV.pure]) ?_;by_cases u:hasK kM s.mets (zah j)
 .obtain⟨y,v⟩:∃y,y=zjp s (zal s (zah j)):=⟨_,rfl⟩;cases e:y.down with
  |true=>have B:zrq s (zah j)=.tup [.agg (shC y),.int .i64 22]:=(by unfold zrq;rw[if_pos u];rw[<-v,(zrN e).1,zkj e]);rw[B];simp[shC,splice,zg5];exact zez (.tup [.agg (shC y),.int .i64 22,.bool true]) (by simp[zaK,shC]) (by simp[AV.under,shC]) ⟨y,p,22,C0,C1,C2,C3,rfl,hA,⟨yaf _,λ_ _ _=>rfl⟩,hn1,by omega,.inr ⟨rfl,by rw[v];exact .sync j b u (by rw[<-v];exact e)⟩⟩
  |false=>
  obtain⟨s',d⟩:∃s',s'={zvJ s (zal s (zah j))with left:=y.left}:=⟨_,rfl⟩;have B:zrq s (zah j)=.tup [.agg (shC s'),.int .i64 0]:=by have:=z6s hd (by rw[<-v];exact e);unfold zrq;rw[if_pos u];rw[this.1,this.2,d,v]
  rw[B];have T:PlayInv s' p q a k':=by rw[d];exact zm3 (z2W hP b u) _ _
  have M:za7 s':=by rw[d];have:za7 y:=(by rw[v];exact z2F hL _);exact this
  have O:s'.down=false:=by rw[d];show(zvJ s (zal s (zah j))).down=false;rw[show(zvJ s (zal s (zah j))).down=s.down from zib _ _];exact hd
  simp[shC,splice,b,r,x,A,S,zg5,K,L,spl4 p.sure b,zcg];have c:=λ(C:AV) (h:LowC σ C)=>h.under (m:=σ.length) (yaf _);refine ziw f (.tup [.agg (shC s'),.int .i64 0,.bool true]) (by simp[zaK,shC]) (by simp[AV.under,shC]) (by simp[Entry.under,plC,AV.under,c _ i,c _ l,c _ n,c _ o]) ?_;refine⟨s',zc7 p j,0,C0,C1,C2,C3,rfl, ?_, ?_,hn1,by show p.now<=_;omega,.inl ⟨by decide,O,M,zf8 (zjO T _ _) (by omega) (by omega) (by omega),by rw[d];exact .sync j b _ u⟩⟩;.have g:=zdL (σ:=σ) (k:=k) (.var 42 (plC C0 C1 C2 C3 ((zc7 p j).sure 0:Nat) ((zc7 p j).sure 1:Nat) ((zc7 p j).sure 2:Nat) ((zc7 p j).sure 3:Nat) p.now)) [];rw[ybi]at g;exact⟨zaR f _,hA.c0.kept f g,hA.c1.kept f g,hA.c2.kept f g,hA.c3.kept f g⟩
  .have g:=zdL (σ:=σ) (k:=k) (.var 42 (plC C0 C1 C2 C3 ((zc7 p j).sure 0:Nat) ((zc7 p j).sure 1:Nat) ((zc7 p j).sure 2:Nat) ((zc7 p j).sure 3:Nat) p.now)) [];rw[ybi]at g;exact g
 .have B:zrq s (zah j)=.tup [.agg (shC s),.int .i64 15]:=by unfold zrq;rw[if_neg u]
  have P:p.came j= []:=Classical.byContradiction λh=>u (hP.has j b h);rw[B];have D:=zf4 (G:=G) hP.inv (by omega) hk';simp only[shC]at D;have E:zaO (p.came j)= []:=by rw[P];rfl
  simp[shC,splice,b,r,x,A,S,zg5,E];refine zb3 D ?_;simp[splice];exact zez (.tup [.agg (shC s),.int .i64 15,.bool true]) (by simp[zaK,shC]) (by simp[AV.under,shC]) ⟨s,p,15,C0,C1,C2,C3,rfl,hA,⟨yaf _,λ_ _ _=>rfl⟩,hn1,by omega,.inl ⟨by decide,hd,hL,zf8 hP (by omega) (by omega) (by omega),.same _⟩⟩
theorem zCx (hT:zhx G){σ:zaa}{k:Nat}{s:ShM}{p:PlayM}{q a k':Nat}{C0 C1 C2 C3:AV}(hP:PlayInv s p q a k')(hd:s.down=false)(hL:za7 s)(ha:a<69)(hk':k'<=100000)(hA:PlayAt σ k p C0 C1 C2 C3)(act:ActM)(hact:OkAct act)(hkind:act.kind%5=4)(hn1:1000<=p.now):
  AT 10 [.ptr k 0,.agg (shC s),.agg (actC act)] σ (DoR s q a k' σ k p act.dots.length):=by
 refine pwA zdj ?_;obtain⟨j,T⟩:∃j,j=act.met%4:=⟨_,rfl⟩;have b:j<4:=by omega
 have J:zah act.met=zah j:=by rw[T,znM]
 have K:(act.met:Int).tmod 4=(j:Int):=by rw[T];exact zbC act.met 4
 have L:(act.kind:Int).tmod 5=4:=by have:(act.kind:Int).tmod 5=((act.kind%5:Nat):Int):=zbC act.kind 5;rw[this,hkind];rfl
 have M:IntKind.i64.wrap (j:Int)=j:=wI (by omega);have F:=zpZ (G:=G) act.met hact.m;have U:=zzU (G:=G) hT hP.inv hd hL ha hk' (zaJ j);rw[J]at F;have i:=hA.at';have o:=hA.c0.low;have r:=hA.c1.low;have u:=hA.c2.low;have v:=hA.c3.low;have Z:=λt=>(hA.c0.more t).view;have v1:=λt=>(hA.c1.more t).view;have v2:=λt=>(hA.c2.more t).view;have v3:=λt=>(hA.c3.more t).view;obtain⟨Y,D,E⟩:=z7d hA b;have W:=λt=>(D.more t).view;have oj:=D.low.one;have H:j+1<=9:=by omega
 have O:4+j<=8:=by omega
 have w:=λt=>zaN i t;have P:=λt y=>ziS i t y;simp only[plC]at w;simp only[shC]at U;simp[zbX,shC,actC,K,L,M];refine zaX F (by simp) ?_;simp;refine zaX U (by simp[AV.pure]) ?_;by_cases n:hasK kM s.mets (zah j)
 .obtain⟨B,g⟩:∃B,B=zaG (zal s (zah j)):=⟨_,rfl⟩;by_cases A:B.length<=s.disk.quota-zaW s.disk
  .obtain⟨y,z⟩:∃y,y=zgP s (zal s (zah j)) B:=⟨_,rfl⟩;cases f:y.down with
   |true=>have x:zmd s (zah j)=.tup [.agg (shC y),.int .i64 22]:=(by unfold zmd;rw[if_pos n,<-g,if_pos A];rw[<-z,(zrN f).1,zkj f]);rw[x];simp[shC,splice,zg5];exact zez (.tup [.agg (shC y),.int .i64 22,.bool true]) (by simp[zaK,shC]) (by simp[AV.under,shC]) ⟨y,p,22,C0,C1,C2,C3,rfl,hA,⟨yaf _,λ_ _ _=>rfl⟩,hn1,by omega,.inr ⟨rfl,by rw[z,g];exact .comp j b n (by rw[<-g];exact A) (by rw[<-g,<-z];exact f)⟩⟩
   |false=>
   obtain⟨s',d⟩:∃s',s'={zsD s (zal s (zah j)) B with left:=y.left}:=⟨_,rfl⟩;have x:zmd s (zah j)=.tup [.agg (shC s'),.int .i64 0]:=(by have:=zwC hd (by rw[<-z];exact f);unfold zmd;rw[if_pos n,<-g,if_pos A];rw[this.1,this.2,d,z]);rw[x];have X:PlayInv s' p q (a+1) k':=(by rw[d];exact zm3 (zwv hP ha b n A) _ _);have Q:za7 s':=(by rw[d];have:za7 y:=(by rw[z];exact z19 hL _ _);exact this);have R:s'.down=false:=(by rw[d];show(zsD s (zal s (zah j)) B).down=false;rw[show(zsD s (zal s (zah j)) B).down=s.down from zib _ _];exact hd);simp[shC,splice,b,w,E,H,W,zg5,O,P,spl4 p.sure b,zcg];have c:=λ(C:AV) (h:LowC σ C)=>h.under (m:=σ.length) (yaf _);refine ziw i (.tup [.agg (shC s'),.int .i64 0,.bool true]) (by simp[zaK,shC]) (by simp[AV.under,shC]) (by simp[Entry.under,plC,AV.under,c _ o,c _ r,c _ u,c _ v]) ?_;refine⟨s',zc7 p j,0,C0,C1,C2,C3,rfl, ?_, ?_,hn1,by show p.now<=_;omega,.inl ⟨by decide,R,Q,zf8 (zjO X _ _) (yaf _) (by omega) (by omega),by rw[d,g];exact .comp j b _ n (by rw[<-g];exact A)⟩⟩;.have l:=zdL (σ:=σ) (k:=k) (.var 42 (plC C0 C1 C2 C3 ((zc7 p j).sure 0:Nat) ((zc7 p j).sure 1:Nat) ((zc7 p j).sure 2:Nat) ((zc7 p j).sure 3:Nat) p.now)) [];rw[ybi]at l;exact⟨zaR i _,hA.c0.kept i l,hA.c1.kept i l,hA.c2.kept i l,hA.c3.kept i l⟩
   .have l:=zdL (σ:=σ) (k:=k) (.var 42 (plC C0 C1 C2 C3 ((zc7 p j).sure 0:Nat) ((zc7 p j).sure 1:Nat) ((zc7 p j).sure 2:Nat) ((zc7 p j).sure 3:Nat) p.now)) [];rw[ybi]at l;exact l
  .have x:zmd s (zah j)=.tup [.agg (shC s),.int .i64 6]:=(by unfold zmd;rw[if_pos n,<-g,if_neg A]);rw[x];have e:=zf4 (G:=G) hP.inv (by omega) hk';simp only[shC]at e;simp[shC,splice,zg5];refine zb3 e ?_;simp[splice];exact zez (.tup [.agg (shC s),.int .i64 6,.bool true]) (by simp[zaK,shC]) (by simp[AV.under,shC]) ⟨s,p,6,C0,C1,C2,C3,rfl,hA,⟨yaf _,λ_ _ _=>rfl⟩,hn1,by omega,.inl ⟨by decide,hd,hL,zf8 hP (by omega) (by omega) (by omega),.same _⟩⟩
 .have x:zmd s (zah j)=.tup [.agg (shC s),.int .i64 15]:=by unfold zmd;rw[if_neg n]
  have S:p.came j= []:=Classical.byContradiction λh=>n (hP.has j b h);rw[x];have e:=zf4 (G:=G) hP.inv (by omega) hk';simp only[shC]at e;have I:zaO (p.came j)= []:=by rw[S];rfl
  simp[shC,splice,b,w,E,H,W,zg5,I];refine zb3 e ?_;simp[splice];exact zez (.tup [.agg (shC s),.int .i64 15,.bool true]) (by simp[zaK,shC]) (by simp[AV.under,shC]) ⟨s,p,15,C0,C1,C2,C3,rfl,hA,⟨yaf _,λ_ _ _=>rfl⟩,hn1,by omega,.inl ⟨by decide,hd,hL,zf8 hP (by omega) (by omega) (by omega),.same _⟩⟩
theorem spl0 {C0 C1 C2 C3:AV}{s0 s1 s2 s3:Int}{now:Nat}{j:Nat}(hj:j<4)(R:AV):(List.take j [C0,C1,C2,C3,AV.int .i64 s0,.int .i64 s1,.int .i64 s2,.int .i64 s3,.int .i64 now]++R::List.drop j [C1,C2,C3,.int .i64 s0,.int .i64 s1,.int .i64 s2,.int .i64 s3,.int .i64 now])=
  plC (if 0=j then R else C0) (if 1=j then R else C1) (if 2=j then R else C2) (if 3=j then R else C3) s0 s1 s2 s3 now:=by
 match j,hj with
 |0,_=>rfl
 |1,_=>rfl
 |2,_=>rfl
 |3,_=>rfl
theorem z5b (hT:zhx G){σ:zaa}{k:Nat}{s:ShM}{p:PlayM}{q a k':Nat}{C0 C1 C2 C3:AV}(hP:PlayInv s p q a k')(hdw:s.down=false)(hL:za7 s)(ha:a<69)(hk':k'<=100000)(hA:PlayAt σ k p C0 C1 C2 C3)(act:ActM)(hact:OkAct act)(hkind:act.kind%5≠3/\act.kind%5≠4)(hd:act.dots.length<=300)(hn1:1000<=p.now)(hn2:p.now<=600000):
  AT 10 [.ptr k 0,.agg (shC s),.agg (actC act)] σ (DoR s q a k' σ k p act.dots.length):=by
 refine z1t (R:=λr σ'=>DoR s q a k' σ k p act.dots.length r σ'∨∃id l,σ'[id]? =some (.row 91 4 (zaO l) false)/\DoR s q a k' σ k p act.dots.length r (σ'.set id (.row 91 4 (zaO l) true))) ?_ (λr σ' h=> ?_)
 rotate_left
 .rcases h with h|⟨id,l,h1,h2⟩;.exact .inl h
  .exact .inr ⟨_,⟨id,_,_,_,_,h1,zoG (zfA l).2.1 (λc hc=>by obtain⟨n,_,rfl⟩:=yar.1 hc;simp[arrC]),rfl⟩,h2⟩
 refine pwA zdj ?_;obtain⟨j,hj⟩:∃j,j=act.met%4:=⟨_,rfl⟩;have t:j<4:=by omega
 have bh:zah act.met=zah j:=by rw[hj,znM]
 have bi:(act.met:Int).tmod 4=(j:Int):=by rw[hj];exact zbC act.met 4
 obtain⟨kd,ak⟩:∃kd,kd=act.kind%5:=⟨_,rfl⟩;rw[<-ak]at hkind;have bj:(act.kind:Int).tmod 5=(kd:Int):=by rw[ak];exact zbC act.kind 5
 have bk:¬(kd:Int)=3:=by omega
 have bl:¬(kd:Int)=4:=by omega
 have bp:¬kd=3:=by omega
 have bq:¬kd=4:=by omega
 have bm:IntKind.i64.wrap (j:Int)=j:=wI (by omega);have ar:=zpZ (G:=G) act.met hact.m;rw[bh]at ar;obtain⟨g,M⟩:∃g,g=ptsM p.now act.dots:=⟨_,rfl⟩;have au:g.length<=300:=by rw[M,zu4];exact hd
 have af:∀x∈g,OkA x:=by rw[M];exact zC4 hn1 (by omega) hact.d
 have F:=z6q p.now act.dots;obtain⟨f,al⟩:∃f,f=nowM p.now act.dots:=⟨_,rfl⟩;rw[<-al]at F;have av:=zsS (G:=G) hT hP.inv hdw hL ha hk' (zaJ j) g af au;have v:=hA.at';obtain⟨Cj,am,bd⟩:=z7d hA t;have oj:=am.low.one;have aw:j+1<=9:=by omega
 have br:4+j<=8:=by omega
 have ax:=λ(X:zaa)=>z4P (G:=G) (σ:=σ++X) (k:=k) (hA.c0.more X).low (hA.c1.more X).low (hA.c2.more X).low (hA.c3.more X).low (zaN v X) act hact hd hn1 hn2;rw[<-M,<-al]at ax;simp only[shC]at av;obtain⟨w,J⟩:∃w:Entry,w=.var 42 (plC C0 C1 C2 C3 (p.sure 0:Nat) (p.sure 1:Nat) (p.sure 2:Nat) (p.sure 3:Nat) f):=⟨_,rfl⟩;simp[zbX,shC,actC,bi,bj,bm,bk,bl];refine zai (ax _) ?_;rintro r σ' ⟨u,rfl,aq,be⟩;rw[ziS v,<-J];obtain⟨V,hV⟩:∃V:Entry,V=.var 33 (shC s):=⟨_,rfl⟩;obtain⟨A,an⟩:∃A:Entry,A=.var 47 (actC act):=⟨_,rfl⟩;obtain⟨Z,hZ⟩:∃Z:Entry,Z=.var 33 [.int .i64 0,.nils,.nils,.nils,.nils,.int .i64 0,.nils,.int .i64 0,.int .i64 0,.bool false]:=⟨_,rfl⟩;have ay:AccT 91 4 (σ.length+4) u r (zaO g):=by simpa using aq
 have W:∀(a b c d:Entry) (X:zaa) (o:Bool),Coe (σ.set k w++a::b::c::d::(u++X)) o r (.lst (zaO g)):=λa b c d X o=>by
  have h1:AccT 91 4 (σ.set k w++ [a,b,c,d]).length (u++X) r (zaO g):=by have:(σ.set k w++ [a,b,c,d]).length=σ.length+4:=(by simp);rw[this];exact ay.more X
  have:=h1.coe o;simpa using this
 have ag:∀(a b c d:Entry) (o:Bool),Coe (σ.set k w++a::b::c::d::u) o r (.lst (zaO g)):=λa b c d o=>by simpa using W a b c d [] o
 have az:∀(a b c d:Entry) (X:zaa),view (σ.set k w++a::b::c::d::(u++X)) r=some (zaO g):=λa b c d X=>by
  have h1:AccT 91 4 (σ.set k w++ [a,b,c,d]).length (u++X) r (zaO g):=by have:(σ.set k w++ [a,b,c,d]).length=σ.length+4:=(by simp);rw[this];exact ay.more X
  have:=h1.view;simpa using this
 have hK:=λ(X:zaa)=>zdL (σ:=σ) (k:=k) w X;have w0:=λX=>hA.c0.kept v (hK X);have w1:=λX=>hA.c1.kept v (hK X);have w2:=λX=>hA.c2.kept v (hK X);have w3:=λX=>hA.c3.kept v (hK X);have a0:=λ(X:zaa)=>zaN (zaR v w) X;have bn:=zyA (G:=G) (p.came 0) (p.came 1) (p.came 2) (p.came 3) (p.sure 0:Nat) (p.sure 1:Nat) (p.sure 2:Nat) (p.sure 3:Nat) f j (p.came j) (by
  match j,t with
  |0,_=>exact .inl ⟨rfl,rfl⟩
  |1,_=>exact .inr (.inl ⟨rfl,rfl⟩)
  |2,_=>exact .inr (.inr (.inl ⟨rfl,rfl⟩))
  |3,_=>exact .inr (.inr (.inr ⟨rfl,rfl⟩))) (hP.ok j t) (by have:=hP.len j t;omega) g af (by omega)
 simp;refine zaX ar (by simp) ?_;simp;refine zaX zjU (by simp) ?_;simp;refine z9O av (.cons (.pure _ (by simp[AV.pure])) (.cons (.pure _ (by simp)) (.cons (.pure _ (by simp[AV.pure,schC])) (.cons (ag _ _ _ _ _) .nil)))) ?_;obtain⟨s',e,hR,he⟩:∃(s':ShM) (e:Int),zi2 s (zah j) g=.tup [.agg (shC s'),.int .i64 e]/\(((e=0∨e=22)/\(∀x∈g,OkV x)/\((e≠22/\s'.down=false/\za7 s'/\PlayInv s' (addC p j g f) q (a+1) (k'+1)/\StepP s p act.dots.length s' (addC p j g f))∨(e=22/\DownP s p act.dots.length s' (addC p j g f))))∨(e=6/\(∀x∈g,OkV x)/\s'=s)∨(e=1/\¬(∀x∈g,OkV x)/\s'=s)):=by
  unfold zi2;by_cases D:∀x∈g,OkV x
  .rw[if_pos D];by_cases h0:g= []
   .rw[if_pos h0];have:addC p j g f=⟨p.came,p.sure,f⟩:=by
     unfold addC;rw[h0];congr 1;funext i;split;.rename_i e;rw[e];simp
     .rfl
    rw[this];exact⟨s,0,rfl,.inl ⟨.inl rfl,D,.inl ⟨by decide,hdw,hL,zf8 (zjO hP _ _) (by omega) (by omega) (by omega),.same _⟩⟩⟩
   .rw[if_neg h0];by_cases hf:(za8 (zal s (zah j)) g).length<=s.disk.quota-zaW s.disk
    .rw[if_pos hf];have ah:∀x∈g,OkA x/\OkV x:=λx hx=>⟨af x hx,D x hx⟩;have a1:g.length<=act.dots.length:=by rw[M,zu4];exact yaf _
     obtain⟨y,hy⟩:∃y,y=appF s (zal s (zah j)) (za8 (zal s (zah j)) g):=⟨_,rfl⟩;rw[<-hy];cases T:y.down with
     |true=>rw[(zrN T).1,zkj T];exact⟨y,22,rfl,.inl ⟨.inr rfl,D,.inr ⟨rfl,by rw[hy];exact .app j t g f ah a1 hf (by rw[<-hy];exact T)⟩⟩⟩
     |false=>have hr:=z0x hdw (by rw[<-hy];exact T);rw[<-hy]at hr;rw[hr.1,hr.2];exact⟨_,0,rfl,.inl ⟨.inl rfl,D,.inl ⟨by decide,(zib _ _).trans hdw,(by rw[hy];exact z4x hL _ _:za7 y),zm3 (zrP hP ha t ah h0 au hf f) _ _,.app j t g f _ ah a1 hf⟩⟩⟩
    .rw[if_neg hf];exact⟨s,6,rfl,.inr (.inl ⟨rfl,D,rfl⟩)⟩
  .rw[if_neg D];exact⟨s,1,rfl,.inr (.inr ⟨rfl,D,rfl⟩)⟩
 rw[hR];simp[shC];refine z6c bn (.cons ?_ (.cons (.pure _ (by simp)) (.cons ?_ .nil))) ?_
 .refine .ptr k 0 42 (plC C0 C1 C2 C3 (p.sure 0:Nat) (p.sure 1:Nat) (p.sure 2:Nat) (p.sure 3:Nat) f) _ (by rw[a0,J]) rfl (by simp[plC]) rfl (λi h h'=> ?_) (by simp[AV.one])
  match i,h with
  |0,_=>exact(w0 _).coe true
  |1,_=>exact(w1 _).coe true
  |2,_=>exact(w2 _).coe true
  |3,_=>exact(w3 _).coe true
  |4,_=>exact .pure _ (by simp[plC,AV.pure])
  |5,_=>exact .pure _ (by simp[plC,AV.pure])
  |6,_=>exact .pure _ (by simp[plC,AV.pure])
  |7,_=>exact .pure _ (by simp[plC,AV.pure])
  |8,_=>exact .pure _ (by simp[plC,AV.pure])
 .exact W _ _ _ _ _ true
 rintro r2 rfl;refine⟨by simp[rig], ?_⟩;have H:=λ(C:AV) (h:LowC σ C)=>h.under (m:=σ.length) (yaf _);have a2:w.under (σ.set k w).length=true:=by rw[J];simp[Entry.under,plC,AV.under,H _ hA.c0.low,H _ hA.c1.low,H _ hA.c2.low,H _ hA.c3.low]
 have I:Kept σ (σ.set k w) k:=by have:=hK [];rwa[ybi]at this
 have a3:PlayAt (σ.set k w) k ⟨p.came,p.sure,f⟩ C0 C1 C2 C3:=⟨by rw[zaR v,J],hA.c0.kept v I,hA.c1.kept v I,hA.c2.kept v I,hA.c3.kept v I⟩;rcases he with ⟨bf,D,bg⟩|⟨rfl,D,rfl⟩|⟨rfl,D,rfl⟩
 .rw[decide_eq_true D];obtain⟨E,hE⟩:∃E:AV,E=.int .i64 e:=⟨_,rfl⟩;rcases bf with rfl|rfl
  all_goals
   have Y:∀X,(σ.set k w++X)[k]? =some (.var 42 [C0,C1,C2,C3,.int .i64 (p.sure 0:Nat),.int .i64 (p.sure 1:Nat),.int .i64 (p.sure 2:Nat),.int .i64 (p.sure 3:Nat),.int .i64 f]):=λX=>by rw[a0,J];rfl
   have wj:=λX=>am.kept v (hK X);have bu:=hP.len j t;have K:=zcg (p.came j);have ai:=zcg g;have a4:∀(y:Entry) (X:zaa),(σ.set k w++X).set k y=σ.set k y++X:=λy X=>by rw[ziS (zaR v w),List.set_set]
   have a5:∀(y:Entry) (X:zaa),(σ.set k y++X)[k]? =some y:=λy X=>zaN (zaR v y) X;simp[t,Y,bd,aw,zg5];refine zbJ [] (zaO (p.came j)) false (by simp) (wj _).view (by decide) (zfA _).1 (λh=>by cases h) rfl (by rw[K];omega) (by rw[K];omega) ?_;simp;refine zbJ (zaO (p.came j)) (zaO g) false (by simp) (az _ _ _ _ _) (by decide) (zfA _).1 (λh=>by cases h) rfl (by rw[K,ai];omega) (by rw[K,ai];omega) ?_;have a6:zaO (p.came j)++zaO g=zaO (p.came j++g):=(by simp[zaO]);simp[a6,t,Y,aw,a4];rw[spl0 t,K,ai];obtain⟨R,ad⟩:∃R,R=AV.row (σ.length+(u.length+1+1+1+1+1)) ((p.came j).length+g.length):=⟨_,rfl⟩;obtain⟨O,ae⟩:∃O:Entry,O=.var 42 (plC (if 0=j then R else C0) (if 1=j then R else C1) (if 2=j then R else C2) (if 3=j then R else C3) (p.sure 0:Nat) (p.sure 1:Nat) (p.sure 2:Nat) (p.sure 3:Nat) f):=⟨_,rfl⟩;rw[<-ad,<-ae];obtain⟨U,ao⟩:∃U:Entry,U=.var 33 (shC s):=⟨_,rfl⟩;obtain⟨B,P⟩:∃B:Entry,B=.var 33 (shC s'):=⟨_,rfl⟩;have aa:=ao;have ab:=P;have aj:A=.var 47 [.int .u8 act.kind,.int .u8 act.met,.lst (zxj act.dots)]:=an;simp only[shC]at aa ab;rw[<-aa,<-ab,<-aj,show(Entry.var 47 (actC act))=A from an.symm];have a7:Kept σ (σ.set k O++U::A::B::A::(u++ [B,.row 91 4 (zaO (p.came j++g)) true])) k:=zdL O _;have a8:(σ.set k O++U::A::B::A::(u++ [B,.row 91 4 (zaO (p.came j++g)) false])).set (σ.length+(u.length+1+1+1+1+1)) (.row 91 4 (zaO (p.came j++g)) true)=σ.set k O++U::A::B::A::(u++ [B,.row 91 4 (zaO (p.came j++g)) true]):=(by simp);have Q:∀(i:Nat) (C:AV),CameOK σ C (p.came i)->CameOK (σ.set k O++U::A::B::A::(u++ [B,.row 91 4 (zaO (p.came j++g)) true])) (if i=j then R else C) ((addC p j g f).came i):=λi C hC=>by
    show CameOK _ _ (if i=j then p.came j++g else p.came i);split;.refine .inr ⟨_,by rw[ad,yag], ?_⟩;simp
    .exact hC.kept v a7
   have a9:(σ.set k O++U::A::B::A::(u++ [B,.row 91 4 (zaO (p.came j++g)) false])).length=σ.length+(u.length+6):=(by simp);have bo:R.under (σ.length+(u.length+6))=true:=(by rw[ad];simp[AV.under]);have ba:σ.length<=σ.length+(u.length+6):=(by omega);have S:∀(i:Nat) (C:AV),LowC σ C->(if i=j then R else C).under (σ.length+(u.length+6))=true:=λi C hC=>by
    split;.exact bo
    .exact hC.under ba
   refine zbi (σ.set k O++U::A::B::A::(u++ [B,.row 91 4 (zaO (p.came j++g)) false])) (.tup [.agg (shC s'),E,.bool true]) ?_ [] (by simp) (by simp) (by simp[AV.under,shC,hE]) (λi e' z=> ?_) (.inr ⟨σ.length+(u.length+1+1+1+1+1),p.came j++g,by simp,s',addC p j g f,_,(if 0=j then R else C0),(if 1=j then R else C1),(if 2=j then R else C2),(if 3=j then R else C3),by rw[hE], ?_, ?_,by show 1000<=f;omega,F.2,bg⟩);.simp[zaK,P,shC,hE]
   .rw[a9];by_cases hi:i<σ.length
    .rw[yap (by simpa using hi)]at z;by_cases bc:k=i;.subst bc;rw[zaR v]at z;cases z;right;rw[ae];simp[Entry.under,plC,AV.under];exact⟨S 0 C0 hA.c0.low,S 1 C1 hA.c1.low,S 2 C2 hA.c2.low,S 3 C3 hA.c3.low⟩
     .rw[yaj bc]at z;exact .inl z
    .rw[yam (by simpa using yep hi)]at z;right;have bb:=yad z;simp only[ybe,yai,yd9,or_false]at bb;rcases bb with rfl|rfl|rfl|rfl|h1|rfl|rfl
     .rw[ao];simp[Entry.under,AV.under,shC]
     .rw[aj];simp[Entry.under,AV.under]
     .rw[P];simp[Entry.under,AV.under,shC]
     .rw[aj];simp[Entry.under,AV.under]
     .obtain⟨l,rfl⟩:=be e' h1;exact zaD (zfA l).2.1
     .rw[P];simp[Entry.under,AV.under,shC]
     .exact zaD (zfA _).2.1
   .rw[a8];exact⟨by rw[a5,ae];rfl,Q 0 C0 hA.c0,Q 1 C1 hA.c1,Q 2 C2 hA.c2,Q 3 C3 hA.c3⟩
   .rw[a8];exact a7
 .have L:=zf4 (G:=G) hP.inv (by omega) hk';simp only[shC]at L;rw[decide_eq_true D];simp;refine zb3 L ?_;simp[splice];refine ziw v (.tup [.agg (shC s'),.int .i64 6,.bool true]) (by simp[zaK,shC]) (by simp[AV.under,shC]) a2 (.inl ⟨s',_,6,C0,C1,C2,C3,rfl,a3,I,by show 1000<=f;omega,F.2,.inl ⟨by decide,hdw,hL,zf8 (zjO hP p.sure f) (by omega) (by omega) (by omega),.same _⟩⟩)
 .have L:=zf4 (G:=G) hP.inv (by omega) hk';simp only[shC]at L;rw[decide_eq_false D];simp;refine zb3 L ?_;simp[splice];refine ziw v (.tup [.agg (shC s'),.int .i64 1,.bool true]) (by simp[zaK,shC]) (by simp[AV.under,shC]) a2 (.inl ⟨s',_,1,C0,C1,C2,C3,rfl,a3,I,by show 1000<=f;omega,F.2,.inl ⟨by decide,hdw,hL,zf8 (zjO hP p.sure f) (by omega) (by omega) (by omega),.same _⟩⟩)
end Go.Proofs.YtdbhocoeolhjhaaGreatDoor
namespace Go.Proofs.YtdbhocoeolhjhaaGreatDoor
open Go.Sf Go.Num
def Rel (came O:List ArrM)(sure:Nat)(S:Nat×Bool):Prop:=∃C0 O0 rest,came=C0++rest/\O=O0++rest/\zaz newL C0=zaz newL O0/\O0.length<=S.1/\sure+O0.length<=C0.length+S.1/\(S.2=false->sure=0)
variable {came Oj:List ArrM}{sure:Nat}{Sj:Nat×Bool}
theorem z40 (h:Rel came Oj sure Sj)(bs:List ArrM):Rel (came++bs) (Oj++bs) sure Sj:=by obtain⟨b,c,a,rfl,rfl,d,e,f,g⟩:=h;exact⟨b,c,a++bs,by simp,by simp,d,e,f,g⟩
theorem zzX (h:Rel came Oj sure Sj):Rel came Oj came.length (Oj.length,true):=by obtain⟨b,c,a,rfl,rfl,d,e,f,g⟩:=h;exact⟨b,c,a,rfl,rfl,d,by simp,by simp;omega,λh=>by cases h⟩
theorem zBF (h:Rel came Oj sure Sj){n:Nat}(h1:Sj.1<=n)(h2:n<=Oj.length):∃k,sure<=k/\k<=came.length/\zaz newL (came.take k)=zaz newL (Oj.take n):=by
 obtain⟨g,c,d,rfl,rfl,i,j,m,o⟩:=h;simp only[yag]at h2;refine⟨g.length+(n-c.length),by omega,by simp;omega, ?_⟩;have e:n=c.length+(n-c.length):=by omega
 rw[List.take_length_add_append]
 conv=>rhs;rw[e,List.take_length_add_append]
 have f:∀l (a b:List ArrM),zaz l (a++b)=zaz (zaz l a) b:=λl a b=>by simp[zaz]
 rw[f,f,i]
def Rels (p:PlayM)(O:Txt->List ArrM)(S:Txt->Nat×Bool):Prop:=∀j<4,Rel (p.came j) (O (zah j)) (p.sure j) (S (zah j))
structure Good (s:ShM)(p:PlayM)(a:Nat):Prop where
 down:s.down=false
 left:za7 s
 play:PlayInv s p s.disk.quota a a
 own:∃O S,BndS s a O S/\Rels p O S
structure Fell (d:DiskM)(p:PlayM)(a:Nat):Prop where
 own:∃ms O S,Safe d a ms O S/\Rels p O S
 ok:∀j<4,∀x∈p.came j,OkA x/\OkV x
 len:∀j<4,(p.came j).length<=300*a
variable {s s':ShM}{p p':PlayM}{a n k:Nat}{d:DiskM}
theorem z3V (h:Good s p a)(ha:a<=69):Fell s.disk p a:=by obtain⟨O,S,b,c⟩:=h.own;exact⟨⟨_,O,S,z78 h.play.inv (by omega) b,c⟩,h.play.ok,h.play.len⟩
theorem z0l {O:Txt->List ArrM}{S:Txt->Nat×Bool}(h:InvS s a k)(hB:BndS s a O S):BndS s (a+1) O S:=by have:=h.a69;refine⟨hB.crea,λm d=> ?_,hB.none⟩;obtain⟨k0,gs,b,c⟩:=hB.mets m d;exact⟨k0,gs,zDI b h.size.right h.size.right zjh (ydg a) (by omega),c⟩
theorem zpT {O:Txt->List ArrM}{S:Txt->Nat×Bool}(hB:BndS s a O S)(l:Int):BndS {s with left:=l} a O S:=⟨hB.crea,hB.mets,hB.none⟩
theorem zpS {O:Txt->List ArrM}{S:Txt->Nat×Bool}{j:Nat}(hj:j<4){Op:List ArrM}{Sp:Nat×Bool}(h:Rels p O S)(hc:∀i,i≠j->p'.came i=p.came i/\p'.sure i=p.sure i)(hr:Rel (p'.came j) Op (p'.sure j) Sp):Rels p' (upd O (zah j) Op) (upd S (zah j) Sp):=λi b=>by
 unfold upd;by_cases e:i=j;.subst e;rw[if_pos rfl,if_pos rfl];exact hr
 .have a:zah i≠zah j:=λh=>by have:=zsU h;omega
  rw[if_neg a,if_neg a,(hc i e).1,(hc i e).2];exact h i b
theorem z6x (h:Good s p a)(ha:a<69)(hS:StepP s p n s' p')(hn:n<=300)(hd:s'.down=false)(hL:za7 s')(hP:PlayInv s' p' s.disk.quota (a+1) (a+1)):Good s' p' (a+1):=by
 obtain⟨O,S,k,c⟩:=h.own;have e:=h.play.inv;refine⟨hd,hL,by rw[hP.quota];exact hP, ?_⟩;cases hS with
 |same g=>exact⟨O,S,z0l e k,c⟩
 |app j b m g l r t o=>refine⟨_,S,zpT (z1I e (zaJ j) ha k r (by omega) o) l, ?_⟩;have f:=zpS (p':=addC p j m g) b (Op:=O (zah j)++m) (Sp:=S (zah j)) c (λi d=>⟨by simp only[addC];rw[if_neg d],rfl⟩) (by simp only[addC];rw[if_pos trivial];exact z40 (c j b) m);rwa[zi8]at f
 |sync j b l q=>refine⟨O,_,zpT (z0l (zzO e (zaJ j) q) (z8V e (zaJ j) (by omega) k q)) l, ?_⟩;have f:=zpS (p':=zc7 p j) b (Op:=O (zah j)) (Sp:=((O (zah j)).length,true)) c (λi d=>⟨rfl,by simp only[zc7];rw[if_neg d]⟩) (by simp only[zc7];rw[if_pos trivial];exact zzX (c j b));rwa[zi8]at f
 |comp j b l q o=>refine⟨O,_,zpT (z7m e (zaJ j) ha k o) l, ?_⟩;have f:=zpS (p':=zc7 p j) b (Op:=O (zah j)) (Sp:=((O (zah j)).length,true)) c (λi d=>⟨rfl,by simp only[zc7];rw[if_neg d]⟩) (by simp only[zc7];rw[if_pos trivial];exact zzX (c j b));rwa[zi8]at f
theorem z5Z (h:Good s p a)(ha:a<69)(hS:DownP s p n s' p')(hn:n<=300):Fell s'.disk p' (a+1):=by
 obtain⟨O,S,g,f⟩:=h.own;have k:=h.play.inv;cases hS with
 |app j d l m t v o e=>
  refine⟨⟨_,_,S,z8c k (by omega) h.down (zaJ j) ha g t (by omega) o e, ?_⟩,λi b x c=> ?_,λi b=> ?_⟩;.have r:=zpS (p':=addC p j l m) d (Op:=O (zah j)++l) (Sp:=S (zah j)) f (λi b=>⟨by simp only[addC];rw[if_neg b],rfl⟩) (by simp only[addC];rw[if_pos trivial];exact z40 (f j d) l);rwa[zi8]at r
  .simp only[addC]at c;split at c
   .rcases yai.1 c with c|c;.exact h.play.ok j d x c
    .exact t x c
   .exact h.play.ok i b x c
  .have r:=h.play.len i b;have u:=h.play.len j d;simp only[addC];split;.rw[yag];omega
   .omega
 |sync j d q e=>exact⟨⟨_,O,S,z3g k (by omega) h.down (zaJ j) ha g q e,f⟩,h.play.ok,λi b=>by have:=h.play.len i b;omega⟩
 |comp j d q o e=>exact⟨⟨_,O,S,z5W k (by omega) h.down (zaJ j) ha g q o e,f⟩,h.play.ok,λi b=>by have:=h.play.len i b;omega⟩
variable {ms:List MetM}{O:Txt->List ArrM}{S:Txt->Nat×Bool}{Fm:Txt->Nat×Nat×List (List ArrM)}
theorem zon {K:Nat}(h:SizeM d a K):∀f∈d.files,f.bytes.length<=65535:=λf b=>by have c:=h.right.used;have e:=h.quota;have:f.bytes.length<=zbH d.files:=ztN (yar.2 ⟨f,b,rfl⟩);unfold zaW at c;omega
theorem z3p (hQ:Qt d a ms O S Fm):Fits d:=hQ.size.fits (by have:=hQ.a69;omega) (by omega)
theorem zvq (hQ:Qt d a ms O S Fm):∀m∈ms,∀g∈(Fm m.path).2.2,g.length<=100000:=λm o g p=>by obtain⟨i,e⟩:=ybb p;have q:=(yaa.1 e).1;have k:=hQ.frm m o;obtain⟨x,h,b⟩:=k.has ((Fm m.path).1+1+i) kindP (.inr ⟨rfl,by omega,by omega⟩);obtain⟨f,j,c⟩:=zn5 hQ.size.right x h;obtain⟨t,_,n⟩:=(k.cP i g f e ⟨j,x,h,b,c⟩).1;have l:=zon hQ.size f j;have r:=zrG (g.map ptR);rw[n]at l;simp only[zbQ,yag,ybn]at l r;omega
theorem z4y (hQ:Qt d a ms O S Fm){L:Int}(hd:(zc8 d O Fm ms L).down=true):SizeM (zc8 d O Fm ms L).disk a 1000:=by obtain⟨i,e⟩:=z0o hQ hd;rw[e];exact(zok hQ ((zjZ hQ).take i)).1
def z29 (l m:LadM):Bool:=decide (l.fine=m.fine)&&decide (l.wide=m.wide)
theorem zrS {l m:LadM}:z29 l m=true↔l=m:=by obtain⟨a,b⟩:=l;obtain⟨c,e⟩:=m;simp[z29]
def begK (L:LadM)(came:List ArrM):Nat->Nat
 |0=>0
 |n+1=>if z29 L (zaz newL (came.take (n+1)))then n+1 else begK L came n
theorem z5y {L:LadM}{came:List ArrM}{k:Nat}(hk:zaz newL (came.take k)=L):∀n,k<=n->k<=begK L came n/\begK L came n<=n/\zaz newL (came.take (begK L came n))=L
 |0,h=>by
  have:k=0:=by omega
  subst this;exact⟨yaf _,yaf _,hk⟩
 |n+1,h=>by
  unfold begK;split;.rename_i a;exact⟨h,yaf _,(zrS.1 a).symm⟩
  .rename_i a;have d:k≠n+1:=λe=>a (zrS.2 (by rw[<-e,hk]));obtain⟨b,f,c⟩:=z5y hk n (by omega);exact⟨b,by omega,c⟩
def begJ (s:ShM)(p:PlayM)(j:Nat):Nat:=if hasK kM s.mets (zah j)then begK (zal s (zah j)).lad (p.came j) (p.came j).length else 0
def begP (s:ShM)(p:PlayM):PlayM:=⟨λj=>(p.came j).take (begJ s p j),begJ s p,p.now⟩
theorem z2K (hQ:Qt d a ms O S Fm)(p:Txt):(S p).1<=(Fm p).2.1+(Fm p).2.2.flatten.length/\(Fm p).2.1+(Fm p).2.2.flatten.length<=(O p).length+(if p∈ms.map MetM.path then 0 else(Fm p).2.1)/\((S p).2=true->p∈P4->0<(Fm p).1∨(Fm p).2.2≠ [])∨p∉P4:=by
 by_cases f:p∈P4
 .left;by_cases b:p∈ms.map MetM.path
  .rw[if_pos b];obtain⟨m,i,rfl⟩:=yar.1 b;have c:=hQ.frm m i;have e:(S m.path).1<=(Fm m.path).2.1+(Fm m.path).2.2.flatten.length:=c.sure_le (zn5 hQ.size.right);have k:(Fm m.path).2.1+(Fm m.path).2.2.flatten.length<=(O m.path).length:=c.own_len;refine⟨e,by omega,λj _=> ?_⟩;by_cases g:(Fm m.path).2.2= [];.exact .inl ((c.sure0 g).2 j)
   .exact .inr g
  .have e:=hQ.none p f b;rw[e,hQ.fno p b];exact⟨by simp,by simp,λh=>by cases h⟩
 .exact .inr f
theorem z6F (hQ:Qt d a ms O S Fm)(hR:Rels p O S)(hok:∀j<4,∀x∈p.came j,OkA x/\OkV x)(hlen:∀j<4,(p.came j).length<=300*a):
  (∀j<4,(hasK kM (zc8 d O Fm ms (-1)).mets (zah j)->p.sure j<=begJ (zc8 d O Fm ms (-1)) p j/\begJ (zc8 d O Fm ms (-1)) p j<=(p.came j).length/\zaz newL ((p.came j).take (begJ (zc8 d O Fm ms (-1)) p j))=(zal (zc8 d O Fm ms (-1)) (zah j)).lad)/\(¬hasK kM (zc8 d O Fm ms (-1)).mets (zah j)->p.sure j=0))/\Good (zc8 d O Fm ms (-1)) (begP (zc8 d O Fm ms (-1)) p) a:=by
 obtain⟨D,t,_,c⟩:=zDH hQ;obtain⟨E,F⟩:=zky hQ;obtain⟨s,u⟩:∃s,s=zc8 d O Fm ms (-1):=⟨_,rfl⟩;rw[<-u]at D t c E F⊢;have M:=hQ.a69;have i:∀j<4,(hasK kM s.mets (zah j)->p.sure j<=begJ s p j/\begJ s p j<=(p.came j).length/\zaz newL ((p.came j).take (begJ s p j))=(zal s (zah j)).lad)/\(¬hasK kM s.mets (zah j)->p.sure j=0):=λj f=>by
  have l:=zaJ j;obtain⟨v,q,I⟩:=(z2K hQ (zah j)).resolve_right λh=>h l;have B:(Fm (zah j)).2.1+(Fm (zah j)).2.2.flatten.length<=(O (zah j)).length:=by
   by_cases g:zah j∈ms.map MetM.path;.rw[if_pos g]at q;exact q
   .rw[hQ.fno _ g];simp
  constructor
  .intro b;obtain⟨k,Q,G,w⟩:=zBF (hR j f) v B;have e:zaz newL ((p.came j).take k)=(zal s (zah j)).lad:=by rw[w,c _ l];rfl
   obtain⟨R,J,K⟩:=z5y e _ G;unfold begJ;rw[if_pos b];exact⟨by omega,J,K⟩
  .intro b;have T:S (zah j)=S (zah j):=rfl;cases H:(S (zah j)).2 with
   |false=>obtain⟨_,_,_,_,_,_,_,_,L⟩:=hR j f;exact L H
   |true=>
    have o:=I H l;by_cases g:zah j∈ms.map MetM.path;.obtain⟨m,g,n⟩:=yar.1 g;refine absurd ⟨mFm O Fm m, ?_,n⟩ b;rw[u,(zqk hQ (zky hQ).1).2.1];exact(zmz hQ d).2 ⟨m,g,zcT.2 (by rw[n];exact o),rfl⟩
    .rw[hQ.fno _ g]at o;simp at o
 refine⟨i,E,by rw[za7,F];omega,⟨z00 D (yaf _) M (ycm a),rfl,λj f x r=>hok j f x (yao r),λj f=>by have:=hlen j f;show((p.came j).take _).length<=_;rw[yan];omega,λj f A=> ?_,λj f=> ?_⟩,oF O Fm,sF O Fm,t,λj f=> ?_⟩;.refine Classical.byContradiction λb=>A ?_;show(p.came j).take (begJ s p j)= [];unfold begJ;rw[if_neg b];rfl
 .show _=zaz newL ((p.came j).take (begJ s p j));by_cases b:hasK kM s.mets (zah j);.exact((i j f).1 b).2.2.symm
  .unfold begJ;rw[if_neg b,zdN b];rfl
 .show Rel ((p.came j).take (begJ s p j)) (oF O Fm (zah j)) (begJ s p j) (sF O Fm (zah j));by_cases b:hasK kM s.mets (zah j)
  .obtain⟨_,G,w⟩:=(i j f).1 b;have o:0<(Fm (zah j)).1∨(Fm (zah j)).2.2≠ []:=(by obtain⟨x,r,y⟩:=b;rw[u,(zqk hQ (zky hQ).1).2.1]at r;obtain⟨m,g,z,rfl⟩:=(zmz hQ d).1 r;have:m.path=zah j:=y;rw[<-this];exact zcT.1 z);have C:sF O Fm (zah j)=((oF O Fm (zah j)).length,true):=(by unfold sF;rw[if_pos o]);rw[C];refine⟨_,_,[],(ybi _).symm,(ybi _).symm, ?_,yaf _, ?_,λh=>by cases h⟩;.rw[w,c _ (zaJ j)]
   .rw[yan];show _<=_+(oF O Fm (zah j)).length;omega
  .obtain⟨v,q⟩:=t.none _ (zaJ j) b;have P:begJ s p j=0:=(by unfold begJ;rw[if_neg b]);rw[v,q,P];exact⟨[],[],[],by simp,rfl,rfl,yaf _,by simp,λ_=>rfl⟩
end Go.Proofs.YtdbhocoeolhjhaaGreatDoor
namespace Go.Proofs.YtdbhocoeolhjhaaGreatDoor
open Go.Abs Go.RowKit Go.Sf Go.Num
variable {G:Globs}
theorem zEg (hT:zhx G){σ:zaa}{k:Nat}{s:ShM}{p:PlayM}{q a k':Nat}{C0 C1 C2 C3:AV}(hP:PlayInv s p q a k')(hdw:s.down=false)(hL:za7 s)(ha:a<69)(hk':k'<=100000)(hA:PlayAt σ k p C0 C1 C2 C3)(act:ActM)(hact:OkAct act)(hd:act.dots.length<=300)(hn1:1000<=p.now)(hn2:p.now<=600000):
  AT 10 [.ptr k 0,.agg (shC s),.agg (actC act)] σ (DoR s q a k' σ k p act.dots.length):=by
 by_cases b:act.kind%5=3;.exact zAC hP hdw hL ha hk' hA act hact b hn1
 .by_cases c:act.kind%5=4;.exact zCx hT hP hdw hL ha hk' hA act hact c hn1
  .exact z5b hT hP hdw hL ha hk' hA act hact ⟨b,c⟩ hd hn1 hn2
def alPt:List ArrM:= [⟨100,5,101⟩]
theorem zvk:∀x∈alPt,OkA x/\OkV x:=by intro x a;simp only[alPt,ybr]at a;subst a;exact⟨⟨by decide,by decide,by decide,by decide,⟨by decide,by decide⟩⟩,by unfold OkV;decide⟩
def alSh1:ShM:=zdc (newS 2000) (zal (newS 2000) [97]) alPt
def zCF:PlayM:=addC ⟨λ_=> [],λ_=>0,1000⟩ 0 alPt 1000
def alSh2:ShM:=zsD alSh1 (zal alSh1 [97]) (zaG (zal alSh1 [97]))
theorem zDW:zal (newS 2000) [97]=znd (newS 2000) [97]:=zdN (by simp[newS,hasK])
theorem z9U:(za8 (zal (newS 2000) [97]) alPt).length<=(newS 2000).disk.quota-zaW (newS 2000).disk:=by rw[zDW];decide+kernel
theorem alInv1:PlayInv alSh1 zCF 2000 1 1:=zrP (n:=0) (zuj (q:=2000) (by decide)) (by decide) (by decide) zvk (by decide) (by decide) z9U 1000
theorem z9R:(zaG (zal alSh1 [97])).length<=alSh1.disk.quota-zaW alSh1.disk:=by decide+kernel
theorem alInv2:PlayInv alSh2 zCF 2000 2 1:=zwv (n:=0) alInv1 (by decide) (by decide) (alInv1.has 0 (by decide) (by decide)) z9R
theorem zAh:Free (newS 2000):=⟨rfl,rfl⟩
theorem zl9:Free alSh1:=⟨(zrC _ _).trans rfl,(zib _ _).trans rfl⟩
theorem z58:Free alSh2:=⟨(zrC _ _).trans zl9.1,(zib _ _).trans zl9.2⟩
theorem z9T:alSh2.disk.names.map (·.name)= [[49,46,50,46,99]]:=by decide+kernel
theorem zD9:(zal alSh2 [97]).base=2:=by decide+kernel
theorem z7v (hT:zhx G):PT 7 [] (λr=>r=.bool true):=by
 refine pwP zl5 ?_;have m:=z6p (G:=G) 2000 (by decide);have g:=(zuj (q:=2000) (by decide)).inv;have c:=zsS (G:=G) hT g rfl (z0H zAh) (by decide) (by decide) (p:= [97]) (by decide) alPt (λx f=>(zvk x f).1) (by decide);have h:=zzU (G:=G) hT alInv1.inv zl9.2 (z0H zl9) (by decide) (by decide) (p:= [97]) (by decide);have i:hasK kM alSh2.mets [97]:=alInv2.has 0 (by decide) (by decide);obtain⟨u,e⟩:=zcY alInv2.inv.srt i;have n:=zq7 (G:=G) alSh2 [97] z58.2 alInv2.inv.srt (by have:=alInv2.inv.len;omega) u e;have o:=λσ=>zuJ (G:=G) σ alSh2.disk alInv2.inv.size.right (alInv2.inv.size.fits (by decide) (by decide));have d:=zyv (G:=G) alPt zvk (by decide);have t:=ztH (G:=G) (zal alSh2 [97]).lad (alInv2.inv.met (p:= [97]) (by decide)).lad;have v:zaz newL alPt=(zal alSh2 [97]).lad:=(alInv2.lad 0 (by decide)).symm;have w:zi2 (newS 2000) [97] alPt=.tup [.agg (shC alSh1),.int .i64 0]:=by unfold zi2;have a:=z6V zAh (zal (newS 2000) [97]) (za8 (zal (newS 2000) [97]) alPt);have b:=z0x (bs:=alPt) rfl a.2;rw[if_pos (λx f=>(zvk x f).2),if_neg (by decide),if_pos z9U,b.1,b.2];rw[show({zdc (newS 2000) (zal (newS 2000) [97]) alPt with left:=(appF (newS 2000) (zal (newS 2000) [97]) (za8 (zal (newS 2000) [97]) alPt)).left}:ShM)=alSh1 from zwM (s:=alSh1) (zl9.1.trans a.1.symm)]
 have y:zmd alSh1 [97]=.tup [.agg (shC alSh2),.int .i64 0]:=by unfold zmd;have j:hasK kM alSh1.mets [97]:=alInv1.has 0 (by decide) (by decide);have a:=z49 zl9 (zal alSh1 [97]) (zaG (zal alSh1 [97]));have b:=zwC zl9.2 a.2;rw[if_pos j,if_pos z9R,b.1,b.2];rw[show({zsD alSh1 (zal alSh1 [97]) (zaG (zal alSh1 [97]))with left:=(zgP alSh1 (zal alSh1 [97]) (zaG (zal alSh1 [97]))).left}:ShM)=alSh2 from zwM (s:=alSh2) (z58.1.trans a.1.symm)]
 rw[w]at c;rw[y]at h;rw[v]at d;simp only[shC,zag]at m c h n o;simp only[schC,alPt,zaO,List.map,arrC]at c d;simp only[ladC]at d t;simp[zgx];refine zad m ?_;simp;refine zaX zjU (by simp) ?_;simp[splice,schC];refine zaX c (by simp[AV.pure]) ?_;simp[splice];refine zad h ?_;simp[splice];refine zad n ?_;simp[splice,metC];refine zai (o _) ?_;rintro r σ' ⟨rfl,rfl⟩;have k:alSh2.disk.names.length=1:=by have:=congrArg List.length z9T;simpa using this
 have l:zaV (alSh2.disk.names.map (·.name))= [[.str [49,46,50,46,99]]]:=by rw[z9T];rfl
 have hb2:=zD9;simp[k,l,hb2];refine zaX zjU (by simp) ?_;simp[splice,schC];refine zaX d (by simp[AV.pure]) ?_;simp;refine zaX t (by simp[AV.pure]) ?_;simp
end Go.Proofs.YtdbhocoeolhjhaaGreatDoor
