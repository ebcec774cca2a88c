import Derived.ProofKit
import Derived.LaidLaws
import Derived.Carry
import Derived.Lib.LaidTab
import Derived.OpenShut
import Derived.SizedLaws
import Derived.Test.YtdbhocoeolhjhaaGreatDoorBn6
set_option maxHeartbeats 8000000
set_option linter.unusedSimpArgs false
set_option linter.unusedVariables false
set_option linter.constructorNameAsVariable false
namespace Go.Proofs.YtdbhocoeolhjhaaGreatDoor
open Go.Abs Go.RowKit Go.Sf Go.Num
variable {G:Globs}
theorem zoT (l:List NameM)(hl:l.length<=1000000):PT 135 [.lst (zam l),.lst (zam l)] (λr=>r=.bool true):=by
 refine pwP ziO ?_;have d:=za2 l;simp[zel];refine zac (λx f σ=>∃(i:Nat),x=l.length-i/\i<=l.length/\f 0=.lst (zam l)/\f 1=.lst (zam l)/\f 5=.int .i64 i/\σ= []) l.length ?_ ?_;.exact⟨0,by simp⟩
 rintro x f σ ⟨i,rfl,q,c,g,h,rfl⟩;simp[c,h,d];refine zap (λo=> ?_) (λp=> ?_)
 .have b:i<l.length:=by omega
  have e:=wS i (by omega);obtain⟨a,k⟩:=gE b;have j:=zcL k;obtain⟨m,n⟩:=yaa.1 j;simp[c,g,h,j,zcD,zil,e];exact nx_i ⟨i+1,rfl,by omega,by simp[c],by simp[g],by simp,rfl⟩
 .simp
theorem zx5 (l:Txt)(hl:l.length<=1000000000):PT 136 [.lst (byteEls l),.lst (byteEls l)] (λr=>r=.bool true):=by
 refine pwP znH ?_;have d:=zae l;simp[zhp];refine zac (λx f σ=>∃(i:Nat),x=l.length-i/\i<=l.length/\f 0=.lst (byteEls l)/\f 1=.lst (byteEls l)/\f 5=.int .i64 i/\σ= []) l.length ?_ ?_;.exact⟨0,by simp⟩
 rintro x f σ ⟨i,rfl,q,c,g,h,rfl⟩;simp[c,h,d];refine zap (λo=> ?_) (λp=> ?_)
 .have b:i<l.length:=by omega
  have e:=wS i (by omega);obtain⟨a,k⟩:=gE b;have j:=zdh k;obtain⟨m,n⟩:=yaa.1 j;simp[c,g,h,j,zbz,e];exact nx_i ⟨i+1,rfl,by omega,by simp[c],by simp[g],by simp,rfl⟩
 .simp
theorem zxk:PT 41 [.lst rungsC,.lst rungsC] (λr=>r=.bool true):=by
 refine pwP ziz ?_;simp[ze8];refine zac (λx f σ=>∃(i:Nat),x=2-i/\i<=2/\f 0=.lst rungsC/\f 1=.lst rungsC/\f 5=.int .i64 i/\σ= []) 2 ?_ ?_;.exact⟨0,by simp⟩
 rintro x f σ ⟨i,rfl,e,a,b,c,rfl⟩;have d:i=0∨i=1∨i=2:=by omega
 rcases d with rfl|rfl|rfl;.simp[a,b,c,rungsC,zil,wk1];exact nx_i ⟨1,rfl,by omega,by simp[a,rungsC],by simp[b,rungsC],by simp,rfl⟩
 .simp[a,b,c,rungsC,zil,wk2];exact nx_i ⟨2,rfl,by omega,by simp[a,rungsC],by simp[b,rungsC],by simp,rfl⟩
 .simp[a,c,rungsC]
theorem ztU:PT 18 [.agg schC,.agg schC] (λr=>r=.bool true):=by refine pwP zhK ?_;simp[zdZ,schC];refine zad zxk ?_;simp
theorem zum (m:MetM)(h:RightL m.lad):PT 137 [.agg (metC m),.agg (metC m)] (λr=>r=.bool true):=by refine pwP zhI ?_;have a:=ztH (G:=G) m.lad h;have b:=ztU (G:=G);simp only[ladC]at a;simp only[schC]at b;simp[zdY,metC];refine zad b ?_;simp;refine zad a ?_;simp
theorem zsH (l:List MetM)(h:∀m∈l,RightL m.lad)(hl:l.length<=1000000):PT 72 [.lst (zcw l),.lst (zcw l)] (λr=>r=.bool true):=by
 refine pwP zh3 ?_;have g:=zch l;simp[zdA];refine zac (λx f σ=>∃(i:Nat),x=l.length-i/\i<=l.length/\f 0=.lst (zcw l)/\f 1=.lst (zcw l)/\f 5=.int .i64 i/\σ= []) l.length ?_ ?_;.exact⟨0,by simp⟩
 rintro x f σ ⟨i,rfl,u,d,n,e,rfl⟩;simp[d,e,g];refine zap (λs=> ?_) (λt=> ?_)
 .have b:i<l.length:=by omega
  have j:=wS i (by omega);obtain⟨a,k⟩:=gE b;have o:=zm5 k;obtain⟨p,q⟩:=yaa.1 o;have c:=zum (G:=G) a (h a (yad k));simp only[metC]at c;simp[d,n,e,o,metC];refine zb3 c ?_;simp[e,j];exact nx_i ⟨i+1,rfl,by omega,by simp[d],by simp[n],by simp,rfl⟩
 .simp
theorem z41 {l:List MoveM}{i:Nat}{m:MoveM}(h:l[i]? =some m):(zaI l)[i]? =some (zdn m):=by simp[zaI,h]
theorem zzm (d:DiskM)(hl:Fits d):PT 71 [.agg (zag d),.agg (zag d)] (λr=>r=.bool true):=by
 refine pwP zn0 ?_;have s:=zbh d.files;have t:(zaI d.moves).length=d.moves.length:=by simp[zaI]
 have y:=hl.nfiles;have z:=hl.nmoves;simp[zhb,zag];refine zad (zoT d.names hl.nnames) ?_;simp;refine zad (zoT d.kept hl.nkept) ?_;simp;obtain⟨D,c⟩:∃D:Entry,D=.var 30 (zag d):=⟨_,rfl⟩;refine zac (λx f σ=>∃(i:Nat) (o:zaa),x=d.files.length-i/\i<=d.files.length/\f 2=.ptr 0 0/\f 3=.ptr 1 0/\f 5=.int .i64 i/\σ=D::D::o) d.files.length ?_ ?_;.exact⟨0,[],by simp,by simp,by simp,by simp,by simp,by simp[c,zag]⟩
 rintro x f σ ⟨i,o,rfl,v,e,h,l,rfl⟩;simp[e,l,c,zag,s];refine zap (λp=> ?_) (λq=> ?_)
 .have b:i<d.files.length:=by omega
  have g:=wS i (by omega);obtain⟨a,k⟩:=gE b;have j:=zcK k;obtain⟨m,n⟩:=yaa.1 j;have w:=zx5 (G:=G) a.bytes (by have:=hl.bytes a (yad k);omega);simp;refine⟨?_, ?_, ?_, ?_, ?_, ?_, ?_, ?_⟩
  all_goals
   simp[e,h,l,j,zbv,zag,c,splice];refine zad w ?_;simp[l,g];exact nx_i ⟨i+1,_,rfl,by omega,by simp[e],by simp[h],by simp,by simp[c,zag];rfl⟩
 .simp;clear l;refine zac (λx f σ=>∃(i:Nat),x=d.moves.length-i/\i<=d.moves.length/\f 2=.ptr 0 0/\f 3=.ptr 1 0/\f 8=.int .i64 i/\σ=D::D::o) d.moves.length ?_ ?_;.exact⟨0,by simp,by simp,by simp[e],by simp[h],by simp,by simp[c,zag]⟩
  rintro x f σ ⟨i,rfl,v,e,h,u,rfl⟩;simp[e,u,c,zag,t];refine zap (λp=> ?_) (λq=> ?_);.have b:i<d.moves.length:=(by omega);have g:=wS i (by omega);obtain⟨a,k⟩:=gE b;have j:=z41 k;obtain⟨m,n⟩:=yaa.1 j;simp[e,h,u,j,zdn,zil,g,c,zag];exact nx_i ⟨i+1,rfl,by omega,by simp[e],by simp[h],by simp,by simp[c,zag]⟩
  .simp
theorem zf4 {s:ShM}{a k:Nat}(h:InvS s a k)(ha:a<=69)(hk:k<=100000):PT 30 [.agg (shC s),.agg (shC s)] (λr=>r=.bool true):=by refine pwP zmR ?_;have c:=h.len;have d:=zzm (G:=G) s.disk (h.size.fits (by omega) (by omega));have b:=zsH (G:=G) s.mets h.lad (by omega);simp only[zag]at d;simp[zhl,shC];refine zad d ?_;simp;refine zad b ?_;simp
def newS (q:Nat):ShM:=⟨⟨q,[],[],[],[],1⟩,[],1, -1,false⟩
theorem z6p (q:Nat)(hq:q<=1000000):PT 9 [.int .i64 q] (λr=>r=.tup [.agg (shC (newS q)),.int .i64 0]):=by refine pwP zzd ?_;have kN:=zBT (G:=G) q (by omega);simp only[zag]at kN;simp[zqp];refine zad kN ?_;simp[splice,shC,newS,zcw]
theorem zBs {q:Nat}(hq:q<=65535):InvS (newS q) 0 0:=by refine⟨⟨z5r (by omega),hq,by simp[newS],by simp[newS],by simp[newS],by simp[newS]⟩,by simp[newS,Srt],by simp[newS],by simp[newS],by simp[newS],by omega,by simp[newS],by simp[newS],by simp[newS],by simp[newS],by simp[newS],by simp[newS],λt b=> ?_⟩;obtain⟨x,a,_⟩:=b;simp[newS]at a
end Go.Proofs.YtdbhocoeolhjhaaGreatDoor
namespace Go.Proofs.YtdbhocoeolhjhaaGreatDoor
open Go.Sf Go.Num
structure DotM where
 back:Nat
 later:Nat
 v:Int
structure ActM where
 kind:Nat
 met:Nat
 dots:List DotM
structure OkDot (d:DotM):Prop where
 b:d.back<256
 l:d.later<256
 v:i64 d.v
structure OkAct (a:ActM):Prop where
 k:a.kind<256
 m:a.met<256
 d:∀x∈a.dots,OkDot x
def zrX (now:Nat)(d:DotM):ArrM:=⟨now+d.later%30-d.back%80,d.v,now+d.later%30⟩
def ptsM (now:Nat):List DotM->List ArrM
 | []=> []
 |d::l=>zrX now d::ptsM (now+d.later%30) l
def nowM (now:Nat):List DotM->Nat
 | []=>now
 |d::l=>nowM (now+d.later%30) l
theorem z6w (now:Nat)(l:List DotM)(d:DotM):nowM now (l++ [d])=nowM now l+d.later%30:=by
 induction l generalizing now with
 |nil=>rfl
 |cons x l a=>exact a _
theorem z5J (now:Nat)(l:List DotM)(d:DotM):ptsM now (l++ [d])=ptsM now l++ [zrX (nowM now l) d]:=by
 induction l generalizing now with
 |nil=>rfl
 |cons x l a=>show zrX now x::ptsM _ (l++ [d])=_;rw[a];rfl
theorem zu4 (now:Nat)(l:List DotM):(ptsM now l).length=l.length:=by
 induction l generalizing now with
 |nil=>rfl
 |cons x l a=>simp[ptsM,a]
theorem z6q (now:Nat)(l:List DotM):now<=nowM now l/\nowM now l<=now+30*l.length:=by
 induction l generalizing now with
 |nil=>exact⟨yaf _,yaf _⟩
 |cons x l a=>have:=a (now+x.later%30);have h:=yb3 x.later (show 0<30 by omega);simp only[nowM,ybg];omega
theorem zC4 {now:Nat}(hn:1000<=now){l:List DotM}(hl:now+30*l.length<=1000000)(hd:∀d∈l,OkDot d):∀a∈ptsM now l,OkA a:=by
 induction l generalizing now with
 |nil=>intro a b;cases b
 |cons x l e=>
  intro a b;have h:=yb3 x.later (show 0<30 by omega);have f:=yb3 x.back (show 0<80 by omega);simp only[ybg]at hl;rcases ybe.1 (show a∈zrX now x::ptsM (now+x.later%30) l from b)with rfl|b
  .exact⟨by simp only[zrX];omega,by simp only[zrX];omega,by simp only[zrX];omega,by simp only[zrX];omega,(hd x (by simp)).v⟩
  .exact e (by omega) (by omega) (λd c=>hd d (by simp[c])) a b
def zah (n:Nat):Txt:=P4.getD (n%4) []
theorem zaJ (n:Nat):zah n∈P4:=by
 have:∀j<4,P4.getD j []∈P4:=by decide
 exact this _ (yb3 _ (by omega))
theorem zsU {i j:Nat}(h:zah i=zah j):i%4=j%4:=by
 have:∀i<4,∀j<4,P4.getD i []=P4.getD j []->i=j:=by decide
 exact this _ (yb3 _ (by omega)) _ (yb3 _ (by omega)) h
theorem znM (n:Nat):zah (n%4)=zah n:=by simp[zah]
structure PlayM where
 came:Nat->List ArrM
 sure:Nat->Nat
 now:Nat
structure PlayInv (s:ShM)(p:PlayM)(q a k:Nat):Prop where
 inv:InvS s a k
 quota:s.disk.quota=q
 ok:∀j<4,∀x∈p.came j,OkA x/\OkV x
 len:∀j<4,(p.came j).length<=300*a
 has:∀j<4,p.came j≠ []->hasK kM s.mets (zah j)
 lad:∀j<4,(zal s (zah j)).lad=zaz newL (p.came j)
theorem zrO {s:ShM}{p:Txt}(hs:Srt kM s.mets){m:MetM}(hm:m∈s.mets)(hp:m.path=p):zal s p=m:=by have c:hasK kM s.mets p:=⟨m,hm,hp⟩;obtain⟨a,b⟩:=zcY hs c;exact znK hs (yad a) hm (b.trans hp.symm)
theorem z0L {s:ShM}{m:MetM}(hs:Srt kM s.mets)(p:Txt):(zal (zby s m) p).lad=if p=m.path then m.lad else(zal s p).lad:=by
 have c:=zqb (m:=m) hs;split;.rename_i h;rw[zrO c ((zf1 hs).2 (.inl rfl)) h.symm]
 .rename_i h;by_cases a:hasK kM s.mets p;.obtain⟨d,b⟩:=zcY hs a;rw[zrO c ((zf1 hs).2 (.inr ⟨yad d,by rw[b];exact h⟩)) b]
  .rw[zdN a,zdN (by rw[zqm hs];exact λe=>e.elim h a)];rfl
def addC (p:PlayM)(n:Nat)(bs:List ArrM)(now:Nat):PlayM:=⟨λj=>if j=n then p.came n++bs else p.came j,p.sure,now⟩
theorem zhA (s:ShM)(m:MetM):(zby s m).disk=s.disk:=by unfold zby;split<;>rfl
theorem zwB (s:ShM)(m:MetM)(bs:List ArrM):(zdc s m bs).disk.quota=s.disk.quota:=by
 unfold zdc;rw[zhA];show(zvf s.disk m _).quota=_;unfold zvf;split;.show(za6 s.disk m).quota=_;exact zft _ _
 .rfl
theorem zmq (d:DiskM)(l:List Txt):(zax d l).quota=d.quota:=by
 unfold zax
 induction l generalizing d with
 |nil=>rfl
 |cons n l a=>exact a (zcF d n)
theorem z00 {s:ShM}{a k a' k':Nat}(h:InvS s a k)(ha:a<=a')(h69:a'<=69)(hk:k<=k'):InvS s a' k':=⟨h.size.more ha hk,h.srt,h.paths,by have:=h.next;omega,h.n1,h69,h.ids,h.idn,h.lad,λm b=>ybu (h.seq m b) ha,h.cnt,h.last,h.dir⟩
theorem zf8 {s:ShM}{p:PlayM}{q a k a' k':Nat}(h:PlayInv s p q a k)(ha:a<=a')(h69:a'<=69)(hk:k<=k'):PlayInv s p q a' k':=⟨z00 h.inv ha h69 hk,h.quota,h.ok,λj b=>by have:=h.len j b;omega,h.has,h.lad⟩
theorem zjO {s:ShM}{p:PlayM}{q a k:Nat}(h:PlayInv s p q a k)(sure:Nat->Nat)(now:Nat):PlayInv s ⟨p.came,sure,now⟩ q a k:=⟨h.inv,h.quota,h.ok,h.len,h.has,h.lad⟩
theorem zrP {s:ShM}{p:PlayM}{q a k:Nat}(h:PlayInv s p q a k)(ha:a<69){n:Nat}(hn:n<4){bs:List ArrM}(hb:∀x∈bs,OkA x/\OkV x)(h0:bs≠ [])(hl:bs.length<=300)(hf:(za8 (zal s (zah n)) bs).length<=s.disk.quota-zaW s.disk) (now:Nat):
  PlayInv (zdc s (zal s (zah n)) bs) (addC p n bs now) q (a+1) (k+1):=by
 have m:=zsN h.inv (zaJ n) ha hb hl hf;have o:=h.inv.met (zaJ n);have b:(metA (zal s (zah n)) bs).path=zah n:=by unfold metA;split<;>exact o.path
 have f:(metA (zal s (zah n)) bs).lad=zaz (zal s (zah n)).lad bs:=by unfold metA;split<;>rfl
 have g:∀j<4,zah j=zah n->j=n:=λj c e=>by have:=zsU e;omega
 refine⟨m,by rw[zwB];exact h.quota,λj c x i=> ?_,λj c=> ?_,λj c=> ?_,λj c=> ?_⟩
 .simp only[addC]at i;split at i
  .rcases yai.1 i with d|d;.exact h.ok n hn x d
   .exact hb x d
  .exact h.ok j c x i
 .have d:=h.len j c;have r:=h.len n hn;simp only[addC];split;.rw[yag];omega
  .omega
 .unfold zdc;rw[zqm (s:={s with disk:=zvf s.disk _ _}) h.inv.srt,b];show _->zah j=zah n∨hasK kM s.mets (zah j);simp only[addC];split;.rename_i e;subst e;exact λ_=> .inl rfl
  .exact λd=> .inr (h.has j c d)
 .unfold zdc;rw[z0L (s:={s with disk:=zvf s.disk _ _}) h.inv.srt,b,f];simp only[addC];by_cases e:j=n;.subst e;rw[if_pos rfl,if_pos rfl,h.lad j c];simp[zaz]
  .rw[if_neg (λl=>e (g j c l)),if_neg e];exact h.lad j c
theorem zzB {s:ShM}{p:PlayM}{q a k a' k':Nat}(h:PlayInv s p q a k){n:Nat}(hn:n<4)(hh:hasK kM s.mets (zah n))(D:DiskM){m:MetM}(hpath:m.path=zah n)(hlad:m.lad=(zal s (zah n)).lad)(hI:InvS (zby {s with disk:=D} m) a' k') (hq:D.quota=q) (haa:a<=a'):PlayInv (zby {s with disk:=D} m) p q a' k':=by
 refine⟨hI,by rw[zhA];exact hq,h.ok,λj b=>by have:=h.len j b;omega,λj b=> ?_,λj b=> ?_⟩;.rw[zqm (s:={s with disk:=D}) h.inv.srt,hpath];exact λc=> .inr (h.has j b c)
 .rw[z0L (s:={s with disk:=D}) h.inv.srt,hpath,hlad];show(if zah j=zah n then(zal s (zah n)).lad else(zal s (zah j)).lad)=_;split;.rename_i e;rw[<-e];exact h.lad j b
  .exact h.lad j b
theorem z2W {s:ShM}{p:PlayM}{q a k:Nat}(h:PlayInv s p q a k){n:Nat}(hn:n<4)(hh:hasK kM s.mets (zah n)):PlayInv (zvJ s (zal s (zah n))) p q a k:=zzB h hn hh _ (h.inv.met (zaJ n)).path rfl (zzO h.inv (zaJ n) hh) (by rw[zlI,zft];exact h.quota) (yaf _)
theorem zwv {s:ShM}{p:PlayM}{q a k:Nat}(h:PlayInv s p q a k)(ha:a<69){n:Nat}(hn:n<4)(hh:hasK kM s.mets (zah n)){b:Txt}(hf:b.length<=s.disk.quota-zaW s.disk):PlayInv (zsD s (zal s (zah n)) b) p q (a+1) k:=zzB h hn hh _ (h.inv.met (zaJ n)).path rfl (z7N h.inv (zaJ n) ha hf) (by unfold zpK;rw[zlI,zmq];exact(zft _ _).trans h.quota) (by omega)
theorem z9w {s:ShM}{a k:Nat}(h:InvS s a k)(l:Int)(b:Bool):InvS {s with left:=l,down:=b} a k:=⟨h.size,h.srt,h.paths,h.next,h.n1,h.a69,h.ids,h.idn,h.lad,h.seq,h.cnt,h.last,h.dir⟩
theorem zm3 {s:ShM}{p:PlayM}{q a k:Nat}(h:PlayInv s p q a k)(l:Int)(b:Bool):PlayInv {s with left:=l,down:=b} p q a k:=⟨z9w h.inv l b,h.quota,h.ok,h.len,h.has,h.lad⟩
theorem z2Y (s:ShM)(m:MetM)(l:Int):zby {s with left:=l} m={zby s m with left:=l}:=by unfold zby;split<;>rfl
theorem zib (s:ShM)(m:MetM):(zby s m).down=s.down:=by unfold zby;split<;>rfl
theorem zrC (s:ShM)(m:MetM):(zby s m).left=s.left:=by unfold zby;split<;>rfl
theorem ztT {s y:ShM}{m:MetM}{D:DiskM}(hs:s.down=false)(hy:y.down=false)(h1:y.disk=D)(h2:y.mets=s.mets/\y.next=s.next):zma y m={zby {s with disk:=D} m with left:=y.left}/\zgg y=0:=by obtain⟨d,ms,nx,l,b⟩:=y;obtain⟨h2,a⟩:=h2;simp only at hy h1 h2 a;subst hy;subst h1;subst h2;subst a;unfold zma zgg;rw[if_neg (by simp),if_neg (by simp),<-z2Y];refine⟨?_,rfl⟩;congr 1;rw[<-hs]
theorem zrN {y:ShM}{m:MetM}(hy:y.down=true):zma y m=y/\zgg y=22:=by unfold zma zgg;rw[if_pos hy,if_pos hy];exact⟨rfl,rfl⟩
theorem zkj {y:ShM}(hy:y.down=true):zgg y=22:=by unfold zgg;rw[if_pos hy]
theorem z6s {s:ShM}{m:MetM}(hs:s.down=false)(h:(zjp s m).down=false):zma (zjp s m) m={zvJ s m with left:=(zjp s m).left}/\zgg (zjp s m)=0:=by have d:=h;unfold zjp at h;obtain⟨a,b⟩:=zn1 h;obtain⟨e,c⟩:=zfG a;refine ztT hs d (by show(zdm (zbw s m)).disk=_;rw[b,c];rfl) ?_;show(zdm (zbw s m)).mets=_/\(zdm (zbw s m)).next=_;rw[(zbu _).1,(zbu _).2];exact zfn s m
theorem z0x {s:ShM}{m:MetM}{bs:List ArrM}(hs:s.down=false)(h:(appF s m (za8 m bs)).down=false):zma (appF s m (za8 m bs)) (metA m bs)={zdc s m bs with left:=(appF s m (za8 m bs)).left}/\zgg (appF s m (za8 m bs))=0:=by
 refine ztT hs h ?_ ?_
 .unfold appF zvf at*;split at h;.rename_i a;rw[if_pos a,if_pos a];obtain⟨b,c⟩:=zdD h;rw[c];unfold zuP at b⊢;obtain⟨d,e⟩:=zdD b;rw[e];have:=zfG (s:=s) (m:=m) d;unfold zbw at this;rw[this.2]
  .rename_i a;rw[if_neg a,if_neg a];exact(zdD h).2
 .unfold appF zuP;split;.rw[(zaE _ _).1,(zaE _ _).2,(zaE _ _).1,(zaE _ _).2];exact zfn s m
  .exact zaE _ _
theorem z0G {s:ShM}{m:MetM}{b:Txt}(h:(zfa s m b).down=false):(zfa s m b).disk=zcQ s.disk m b:=by unfold zfa at h⊢;obtain⟨c,d⟩:=zn1 h;obtain⟨e,f⟩:=zdD c;obtain⟨g,i⟩:=zdD e;obtain⟨j,k⟩:=zdD g;obtain⟨l,a⟩:=zdD j;rw[d,f,if_neg (by simp[zbR]),i,k,a,(zfG l).2];rfl
theorem z5d (s:ShM)(m:MetM)(b:Txt):(zfa s m b).mets=s.mets/\(zfa s m b).next=s.next:=by unfold zfa;rw[(zbu _).1,(zbu _).2,(zaE _ _).1,(zaE _ _).2,(zaE _ _).1,(zaE _ _).2,(zaE _ _).1,(zaE _ _).2,(zaE _ _).1,(zaE _ _).2];exact zfn s m
theorem znI (s:ShM)(m:MetM)(b:Txt):zgP s m b=zdm (if(zfa s m b).down then zfa s m b else zdr (zfa s m b) (zc3 (zfa s m b).disk m.id (zaM m))):=rfl
theorem zwC {s:ShM}{m:MetM}{b:Txt}(hs:s.down=false)(h:(zgP s m b).down=false):zma (zgP s m b) (zyR m)={zsD s m b with left:=(zgP s m b).left}/\zgg (zgP s m b)=0:=by
 have g:=h;unfold zgP at h;obtain⟨a,d⟩:=zn1 h;by_cases c:(zfa s m b).down=true;.rw[if_pos c]at a;rw[c]at a;cases a
 .rw[if_neg c]at a d;obtain⟨e,f⟩:=zkt _ a;refine ztT hs g ?_ ?_;.rw[znI,if_neg c,d,f,z0G e];rfl
  .rw[znI,if_neg c,(zbu _).1,(zbu _).2,(zhD _ _).1,(zhD _ _).2];exact z5d s m b
def Free (s:ShM):Prop:=s.left= -1/\s.down=false
theorem zh2 {s:ShM}(h:Free s)(D:DiskM):Free (opS D s):=by obtain⟨b,a⟩:=h;unfold opS Free;rw[if_neg (by simp[a]),if_neg (by omega)];exact⟨by show(if 0<s.left then s.left-1 else s.left)= -1;rw[if_neg (by omega)];exact b,a⟩
theorem zr0 {s:ShM}(h:Free s):Free (zdm s):=by
 unfold zdm;split;.exact h
 .exact zh2 h _
theorem zta {s:ShM}(h:Free s)(m:MetM):Free (zbw s m):=by
 unfold zbw;split;.exact zh2 h _
 .exact h
theorem zwT {s:ShM}(h:Free s)(l:List Txt):Free (zdr s l):=by refine zfp (P:=λl=>Free (zdr s l)) h (λl x a=> ?_) l;rw[zgA];exact zh2 a _
theorem z6V {s:ShM}(h:Free s)(m:MetM)(b:Txt):Free (appF s m b):=by
 unfold appF zuP;split;.exact zh2 (zh2 (zta h m) _) _
 .exact zh2 h _
theorem z49 {s:ShM}(h:Free s)(m:MetM)(b:Txt):Free (zgP s m b):=by
 have a:Free (zfa s m b):=zr0 (zh2 (zh2 (zh2 (zh2 (zta h m) _) _) _) _);rw[znI];refine zr0 ?_;split;.exact a
 .exact zwT a _
theorem zwM {s:ShM}{l:Int}(h:s.left=l):{s with left:=l}=s:=by rw[<-h]
theorem z0H {s:ShM}(h:Free s):za7 s:=by rw[za7,h.1];omega
theorem zuj {q:Nat}(hq:q<=65535):PlayInv (newS q) ⟨λ_=> [],λ_=>0,1000⟩ q 0 0:=⟨zBs hq,rfl,by simp,by simp,λj a=>by simp,λj a=>by rw[zdN (by simp[newS,hasK])];rfl⟩
end Go.Proofs.YtdbhocoeolhjhaaGreatDoor
namespace Go.Sf
open Go.Abs
end Go.Sf
namespace Go.Proofs.YtdbhocoeolhjhaaGreatDoor
open Go.Abs Go.RowKit Go.Sf Go.Num
variable {G:Globs}
def dotC (d:DotM):List AV:= [.int .u8 d.back,.int .u8 d.later,.int .i64 d.v]
def zxj (l:List DotM):List (List AV):=l.map dotC
def actC (a:ActM):List AV:= [.int .u8 a.kind,.int .u8 a.met,.lst (zxj a.dots)]
def znT (l:List ActM):List (List AV):=l.map actC
theorem zwz (l:List DotM):(zxj l).length=l.length:=by simp[zxj]
theorem z3c {l:List DotM}{i:Nat}{d:DotM}(h:l[i]? =some d):(zxj l)[i]? =some (dotC d):=by simp[zxj,h]
theorem zv2 (l:List ActM):(znT l).length=l.length:=by simp[znT]
theorem zxq {l:List ActM}{i:Nat}{d:ActM}(h:l[i]? =some d):(znT l)[i]? =some (actC d):=by simp[znT,h]
theorem zpZ (n:Nat)(h:n<256):PT 14 [.int .u8 n] (λr=>r=.str (zah n)):=by
 refine pwP zni ?_;have d:(n:Int).tmod 4=((n%4:Nat):Int):=zbC n 4;have a:(n:Int)%4=((n%4:Nat):Int):=by omega
 obtain⟨j,c⟩:∃j,j=n%4:=⟨_,rfl⟩;have b:j<4:=by omega
 have e:zah n=P4.getD j []:=by rw[c];rfl
 rw[<-c]at d a;rw[e];simp[zho,d]
 match j,b with
 |0,_=>simp[P4]
 |1,_=>simp[P4]
 |2,_=>simp[P4]
 |3,_=>simp[P4]
theorem zjU:PT 17 [] (λr=>r=.agg schC):=by refine pwP zly ?_;simp[zg8,splice,schC,rungsC]
def zts (l:List ActM):Nat:=l.length+(l.map λa=>a.dots.length).sum
def zp3 (l:List ActM):Bool:=decide (300<zts l)||decide (60<l.length)
def sumT (l:List ActM)(i:Nat):Nat:=l.length+((l.take i).map λa=>a.dots.length).sum
theorem z3h (l:List ActM)(hl:l.length<=1000000000000000)(hd:∀a∈l,a.dots.length<=1000000000000000):PT 8 [.lst (znT l)] (λr=>r=.bool (zp3 l)):=by
 refine pwP zl1 ?_;have d:=zv2 l;have g:∀i,((l.take i).map λa=>a.dots.length).sum<=(l.map λa=>a.dots.length).sum:=λi=>by
  have e:l.map (λa=>a.dots.length)=(l.take i).map (λa=>a.dots.length)++(l.drop i).map λa=>a.dots.length:=by rw[<-ycn,ya2]
  rw[e,List.sum_append];omega
 simp[zgs,d];refine zac (λx f σ=>∃(i:Nat),x=l.length-i/\i<=l.length/\f 0=.lst (znT l)/\f 3=.int .i64 (sumT l i:Nat)/\f 4=.int .i64 i/\sumT l i<=300+1000000000000000+1000000000000000/\σ= []) l.length ?_ ?_;.exact⟨0,by simp,by simp,by simp,by simp[sumT],by simp,by simp[sumT];omega,by simp⟩
 rintro x f σ ⟨i,rfl,G,o,k,A,s,rfl⟩;obtain⟨n,j⟩:∃n,n=sumT l i:=⟨_,rfl⟩;rw[<-j]at k s;simp[o,A,d];by_cases h:i<l.length
 .by_cases F:n<=300
  .have b:(n:Int)<=300:=(by omega);have t:=wS i (by omega);obtain⟨a,q⟩:=gE h;have B:=zxq q;obtain⟨C,D⟩:=yaa.1 B;have u:=zwz a.dots;have E:=hd a (yad q);have v:IntKind.i64.wrap ((n:Int)+a.dots.length)=((n+a.dots.length:Nat):Int):=wE (by omega);have w:=tS q;have m:sumT l (i+1)=n+a.dots.length:=by
    unfold sumT at j⊢;rw[w,ycn,List.sum_append];have:(([a]:List ActM).map λa=>a.dots.length).sum=a.dots.length:=by simp
    omega
   simp[h,b,o,k,A,B,actC,u,v,t, -Int.natCast_add];exact nx_i ⟨i+1,rfl,by omega,by simp[o],by rw[m];simp,by simp,by omega,rfl⟩
  .have b:¬(n:Int)<=300:=(by omega);have H:=g i;have p:300<zts l:=(by unfold zts;unfold sumT at j;omega);have y:300<n:=(by omega);have c:(300:Int)<n:=(by omega);simp[h,b,k,c,zp3,p]
 .have z:i=l.length:=by omega
  subst z;unfold sumT at j;rw[yav]at j;have p:zts l=n:=j.symm;by_cases y:300<n;.have c:(300:Int)<n:=(by omega);simp[k,y,c,zp3,p]
  .have c:¬(300:Int)<n:=(by omega);simp[o,k,y,c,zp3,p,d];omega
end Go.Proofs.YtdbhocoeolhjhaaGreatDoor
namespace Go.Abs
open Go.RowKit
def zAD:Key:=λ_ _=>none
def gIm [Globs]:Addr->Prop:=λa=>a.spot=none/\∃p∈Globs.tab,a.block=p.1
def z4f [Globs](w:World):Prop:=GOK w.heap.size gIm w
def zjr (w:World):Addr->Prop:=λa=>a.spot=none/\a.block<w.heap.size
theorem zva {G:Globs}{P:Program}{f:FuncId}{args:List AV}{vs:List Value}{w:World}(h:PCalls P f args (λr=>r=.bool true))(hg:z4f w)(hv:IRL (zjr w) w args vs):Calls P f vs.toArray w λe w'=>e=.returned (.bool true)/\Below w.heap.size w w':=by
 have y:GOK w.heap.size (zjr w) w:=λp t=>by obtain⟨g,k,l⟩:=hg p t;refine⟨g,k,l.mono (λa u=> ?_) (λ_ _=>rfl)⟩;obtain⟨c,q,m,d⟩:=u;exact⟨c,by rw[d];exact(hg q m).1⟩
 have z:SRel w.heap.size zAD (zjr w) [] w:=⟨yaf _,λid n v h=>by simp[zAD]at h,λid e h=>by simp at h,λi j e A b _ h=>by simp at h,λa h=>⟨h.2,h.1⟩,y⟩;refine(h w.heap.size zAD (zjr w) w vs z ⟨hv.1,λj h x=> .im _ _ (hv.2 j h x)⟩).mono ?_;rintro e w' ⟨r,σ',v,κ',o,rfl,⟨_,rfl⟩,_,hg,s⟩;exact⟨by rw[s.bool_inv],hg.below⟩
theorem zA1 {Im:Addr->Prop}(w:World):IRL Im w [] []:=⟨rfl,λj h=>by simp at h⟩
theorem zzI {Im:Addr->Prop}{w:World}{a:AV}{v:Value}{l:List AV}{vs:List Value}(h:IR Im w a v)(hl:IRL Im w l vs):IRL Im w (a::l) (v::vs):=by
 refine⟨by simp[hl.1],λj c b=> ?_⟩;cases j with
 |zero=>exact h
 |succ j=>exact hl.2 j (by simpa using c) (by simpa using b)
end Go.Abs
namespace Go.Proofs.YtdbhocoeolhjhaaGreatDoor
section
open Go.ChangeShapes Go.WideShapes Go.ChangeAt Go.RowKit Go.ChangeMaps Go.Abs Go.Sf
section
variable {H:Type}{enc:TypeId×Value->H}{w:World}{base:Nat}{spare:Nat->Bool}{held:Bool}{P:Program}
theorem zCt {a:Addr}{n:Nat}{cs:List Value}(h:w.cells? base a (n+1)=some cs):a.spot=none:=by
 unfold World.cells? at h;split at h
 .obtain⟨y,_,b⟩:∃y,cs[0]? =some y/\w.cell? (a.add 0)=some y:=by have d:=Lib.mapM_at h 0 0 (by simp);simpa using d
  have e:a.add 0=a:=by simp[Addr.add]
  rw[e]at b;unfold World.cell? at b;split at b
  .split at b;.cases b
   .rename_i c;simpa using c
  .cases b
 .cases h
theorem z9G {a:Addr}{len cap size:Nat}{elems rest:List (DataW H×List MemPlace)}{n:Nat}{e:TypeId}(hc:cap≠0)(hlen:elems.length=len)
  (hel:∀i,i<len->(w.cells? base (a.add (i*(size+1))) (size+1)).bind (DataW.trod enc P w base spare held n e)=elems[i]?)
  (hrl:rest.length=cap-len) (hre:∀j,j<cap-len->(w.cells? base (a.add ((len+j)*(size+1))) (size+1)).bind (DataW.trod enc P w base spare held n e)=rest[j]?):a.spot=none:=by
 have h:∃c,w.cells? base (a.add (0*(size+1))) (size+1)=some c:=by
  rcases Nat.eq_zero_or_pos len with g|g;.have d:=hre 0 (by omega);obtain⟨y,f⟩:=gL rest 0 (by omega);rw[f,yac,g,ybl]at d;obtain⟨c,b,_⟩:=d;exact⟨c,b⟩
  .have d:=hel 0 g;obtain⟨y,f⟩:=gL elems 0 (by omega);rw[f,yac]at d;obtain⟨c,b,_⟩:=d;exact⟨c,b⟩
 obtain⟨c,b⟩:=h;have e:a.add (0*(size+1))=a:=by simp[Addr.add]
 rw[e]at b;exact zCt b
theorem zli {e:TypeId}{d:DataW H}{q:Nat}:∀{ds:List (DataW H)},d∈ds->q∈d.weights P e->q∈DataW.weightsAll P e ds
 |d0::ds,h,hq=>by
  simp only[DataW.weightsAll,yai];rcases ybe.1 h with rfl|h
  .exact .inl hq
  .exact .inr (zli h hq)
theorem zk1 {α:Type}{tS te:TypeId}{size bytes:Nat}(hu:P.underlying tS=some (.slice te))(hce:P.cellsOf te=size+1)(hbe:P.bytesOf te=bytes)(C:α->List AV)(dflt:α)(good:α->DataW H->Prop)
  (hone:∀a,∀x∈C a,x.one=true) (hClen:∀a,(C a).length=size+1)
  (hel0:∀{n:Nat} {cs:List Value} {y:DataW H×List MemPlace},DataW.trod enc P w base spare held n te cs=some y->∃a,good a y.1/\∀j (h:j<(C a).length),∃c,cs[j]? =some c/\IR (zjr w) w (C a)[j] c)
  (hsp:∀b,spare b=true) {n:Nat} {c:Value} {x:DataW H×List MemPlace} (hf:DataW.trod enc P w base spare held n tS [c]=some x):
  ∃l:List α,(∀a∈l,∃d,good a d/\∀q∈d.weights P te,q∈x.1.weights P tS)/\(l= []∨∃q∈x.1.weights P tS,l.length*bytes<=q)/\IR (zjr w) w (.lst (l.map C)) c:=by
 rcases DataW.trod_slice hu hf with ⟨p,U⟩|⟨a,m,J,g,B,n,_,p,U,hb,hl,hm,K,G,t,_⟩;.simp only[yc5,and_true]at p;subst p;exact⟨[],by simp,.inl rfl,.lnil none⟩
 .simp only[yc5,and_true]at p;subst p;obtain⟨W,t⟩:=t (hsp _);rw[hce]at G t;by_cases D:J=0;.have:m=0:=(by omega);subst this;subst D;exact⟨[],by simp,.inl rfl,.lnil _⟩
  have r:a.spot=none:=z9G (size:=size) D K G W t;obtain⟨b,o,sp⟩:=a;simp only at r;subst r;have aa:∀x y:Nat,Addr.add ⟨b,x,none⟩ y=⟨b,x+y,none⟩:=λx y=>by unfold Addr.add;split<;>simp_all
  have M:∀i,∃s:α,i<m->(∃y,g[i]? =some y/\good s y.1)/\∀j (h:j<(C s).length),∃c,w.cell? ⟨b,o+(i*(size+1)+j),none⟩=some c/\IR (zjr w) w (C s)[j] c:=by
   intro i;by_cases T:i<m
   .have h1:=G i T;obtain⟨y,R⟩:=gL g i (by omega);rw[R,yac]at h1;obtain⟨cs,u,X⟩:=h1;obtain⟨s,S,E⟩:=hel0 X;refine⟨s,λ_=>⟨⟨y,R,S⟩,λj I=> ?_⟩⟩;obtain⟨c,e1,e2⟩:=E j I;refine⟨c, ?_,e2⟩;unfold World.cells? at u;split at u;.obtain⟨c',e3,e4⟩:=Lib.mapM_at u j j (by rw[hClen]at I;simp[I]);rw[aa,aa,yea]at e4;rw[e1]at e3;cases e3;exact e4
    .cases u
   .exact⟨dflt,λh=>absurd h T⟩
  obtain⟨f,F⟩:=Classical.axiomOfChoice M;have O:x.1=.slice (g.map (·.1)) (B.map (·.1)):=congrArg Prod.fst U;refine⟨(List.range m).map f, ?_,.inr ?_, ?_⟩;.intro s S;simp only[yar,ye2]at S;obtain⟨i,T,rfl⟩:=S;obtain⟨y,R,hg⟩:=(F i T).1;refine⟨y.1,hg,λq hq=> ?_⟩;rw[O];simp only[DataW.weights,hu];exact yb1 _ (yai.2 (.inl (zli (d:=y.1) (yar.2 ⟨y,yad R,rfl⟩) hq)))
  .rw[O];refine⟨((g.map (·.1)).length+(B.map (·.1)).length)*P.bytesOf te, ?_, ?_⟩;.simp only[DataW.weights,hu];exact List.Mem.head _
   .rw[hbe];refine yat _ ?_;simp;omega
  .have z:(((List.range m).map f).map C).length=m:=(by simp);have Q:∀i j v,w.cell? ⟨b,o+(i*(size+1)+j),none⟩=some v->zjr w ⟨b,o+(i*(size+1)+j),none⟩:=λi j v h=>by
    refine⟨rfl, ?_⟩;rcases ydm b w.heap.size with Y|Y
    .exact Y
    .simp[World.cell?,Array.getElem?_eq_none Y]at h
   have:=IR.lst (Im:=zjr w) (w:=w) (((List.range m).map f).map C) (size+1) b o J (λi j=>(w.cell? ⟨b,o+(i*(size+1)+j),none⟩).getD undef) (by rw[z];exact hl) hm (λc A=>by obtain⟨s,_,rfl⟩:=yar.1 A;exact hClen s) (λc A x U=>by obtain⟨s,_,rfl⟩:=yar.1 A;exact hone s x U) (λk j L I=>by rw[z]at L;obtain⟨c,A,_⟩:=(F k L).2 j (by rw[hClen];exact I);exact⟨Q k j _ A,by rw[A];rfl⟩) (λk j L I=>by
     rw[z]at L;have e:(((List.range m).map f).map C)[k]=C (f k):=by simp
     have Z:j<(C (f k)).length:=(by rw[<-e];exact I);obtain⟨c,A,E⟩:=(F k L).2 j Z;simp only[A,Option.getD_some,e];exact E)
   rw[z]at this;exact this
end
section
variable {H:Type}{enc:TypeId×Value->H}{w:World}{base:Nat}{spare:Nat->Bool}{held:Bool}
theorem zki:Tryz.prog.cellsOf 5=1:=by kernel_rfl
theorem z61:Tryz.prog.cellsOf 2=1:=by kernel_rfl
theorem z0z:Tryz.prog.cellsOf 163=2+1:=by kernel_rfl
theorem z5O:Tryz.prog.bytesOf 163=16:=by kernel_rfl
theorem z3A:Tryz.prog.cellsOf 45=1:=by kernel_rfl
theorem z0B:Tryz.prog.cellsOf 47=2+1:=by kernel_rfl
theorem z3Y:Tryz.prog.bytesOf 47=32:=by kernel_rfl
theorem ztq {n:Int}(h:(Lit.int .u8 n).wf=true):∃k:Nat,n=k/\k<256:=by have a:IntKind.u8.min=0:=rfl;have b:IntKind.u8.max=255:=rfl;simp only[Lit.wf,yb5,decide_eq_true_eq]at h;exact⟨n.toNat,by omega,by omega⟩
theorem zxJ {n:Int}(h:(Lit.int .i64 n).wf=true):i64 n:=by have a:IntKind.i64.min= -9223372036854775808:=rfl;have b:IntKind.i64.max=9223372036854775807:=rfl;simp only[Lit.wf,yb5,decide_eq_true_eq]at h;exact⟨by omega,by omega⟩
set_option maxRecDepth 100000 in
theorem z64 {n:Nat}{cs:List Value}{y:DataW H×List MemPlace}(hf:DataW.trod enc Tryz.prog w base spare held n 163 cs=some y):
  ∃a:DotM,OkDot a/\∀j (h:j<(dotC a).length),∃c,cs[j]? =some c/\IR (zjr w) w (dotC a)[j] c:=by
 obtain⟨e,n,rfl,L,v,f,d⟩:=DataW.trod_struct Tryz.underlying163 hf;have p:e.length=3:=f;obtain⟨g,i,k,rfl⟩:∃g i k,e= [g,i,k]:=by
  match e,p with
  | [a,b,c],_=>exact⟨a,b,c,rfl⟩
 have q:cs.length=3:=by rw[v,z0z]
 obtain⟨l,m,o,rfl⟩:∃l m o,cs= [l,m,o]:=by
  match cs,q with
  | [a,b,c],_=>exact⟨a,b,c,rfl⟩
 have I:DataW.trod enc Tryz.prog w base spare held n 5 [l]=some g:=by simpa[zki,Value.cells]using d 0 _ rfl
 have J:DataW.trod enc Tryz.prog w base spare held n 5 [m]=some i:=by simpa[zki,Value.cells]using d 1 _ rfl
 have K:DataW.trod enc Tryz.prog w base spare held n 2 [o]=some k:=by simpa[z61,Value.cells]using d 2 _ rfl
 obtain⟨M,s,_,x⟩:=DataW.trod_int Tryz.underlying5 I;obtain⟨O,t,_,z⟩:=DataW.trod_int Tryz.underlying5 J;obtain⟨A,u,_,B⟩:=DataW.trod_int Tryz.underlying2 K;simp only[yc5,and_true]at s t u;subst s t u;obtain⟨C,rfl,D⟩:=ztq x;obtain⟨E,rfl,F⟩:=ztq z;refine⟨⟨C,E,A⟩,⟨D,F,zxJ B⟩,λj G=> ?_⟩;have r:j<3:=G
 match j,r with
 |0,_=>exact⟨_,rfl,.int _ _⟩
 |1,_=>exact⟨_,rfl,.int _ _⟩
 |2,_=>exact⟨_,rfl,.int _ _⟩
set_option maxRecDepth 100000 in
theorem z1B (hsp:∀b,spare b=true){n:Nat}{c:Value}{x:DataW H×List MemPlace}(hf:DataW.trod enc Tryz.prog w base spare held n 45 [c]=some x):
  ∃l:List DotM,(∀a∈l,OkDot a)/\(l= []∨∃q∈x.1.weights Tryz.prog 45,l.length*16<=q)/\IR (zjr w) w (.lst (zxj l)) c:=by
 obtain⟨l,f,g,i⟩:=zk1 (good:=λa _=>OkDot a) Tryz.underlying45 z0z z5O dotC ⟨0,0,0⟩ (λa x e=>by simp[dotC]at e;rcases e with rfl|rfl|rfl<;>rfl) (λa=>rfl) (λh=>z64 h) hsp hf;exact⟨l,λa j=>(f a j).elim λd h=>h.1,g,i⟩
def zDr (a:ActM)(d:DataW H):Prop:=OkAct a/\(a.dots= []∨∃q∈d.weights Tryz.prog 47,a.dots.length*16<=q)
set_option maxRecDepth 100000 in
theorem z5S (hsp:∀b,spare b=true){n:Nat}{cs:List Value}{y:DataW H×List MemPlace}(hf:DataW.trod enc Tryz.prog w base spare held n 47 cs=some y):
  ∃a:ActM,zDr a y.1/\∀j (h:j<(actC a).length),∃c,cs[j]? =some c/\IR (zjr w) w (actC a)[j] c:=by
 obtain⟨k,n,rfl,E,F,m,d⟩:=DataW.trod_struct Tryz.underlying47 hf;have x:k.length=3:=m;obtain⟨g,i,f,rfl⟩:∃g i f,k= [g,i,f]:=by
  match k,x with
  | [a,b,c],_=>exact⟨a,b,c,rfl⟩
 have e:cs.length=3:=by rw[F,z0B]
 obtain⟨o,p,r,rfl⟩:∃o p r,cs= [o,p,r]:=by
  match cs,e with
  | [a,b,c],_=>exact⟨a,b,c,rfl⟩
 have P:DataW.trod enc Tryz.prog w base spare held n 5 [o]=some g:=by simpa[zki,Value.cells]using d 0 _ rfl
 have Q:DataW.trod enc Tryz.prog w base spare held n 5 [p]=some i:=by simpa[zki,Value.cells]using d 1 _ rfl
 have R:DataW.trod enc Tryz.prog w base spare held n 45 [r]=some f:=by simpa[z3A,Value.cells]using d 2 _ rfl
 obtain⟨S,C,_,G⟩:=DataW.trod_int Tryz.underlying5 P;obtain⟨T,D,_,I⟩:=DataW.trod_int Tryz.underlying5 Q;simp only[yc5,and_true]at C D;subst C D;obtain⟨J,rfl,K⟩:=ztq G;obtain⟨L,rfl,M⟩:=ztq I;obtain⟨l,s,e,t⟩:=z1B hsp R;have z:∀q∈f.1.weights Tryz.prog 45,q∈y.1.weights Tryz.prog 47:=λq u=>by have A:y.1=.agg ([g,i,f].map (·.1)):=congrArg Prod.fst E;rw[A];simp only[DataW.weights,Tryz.underlying47];exact DataW.weights_mem_each (j:=2) rfl rfl q u
 refine⟨⟨J,L,l⟩,⟨⟨K,M,s⟩,e.imp id λ⟨q,u,v⟩=>⟨q,z q u,v⟩⟩,λj O=> ?_⟩;have B:j<3:=O
 match j,B with
 |0,_=>exact⟨_,rfl,.int _ _⟩
 |1,_=>exact⟨_,rfl,.int _ _⟩
 |2,_=>exact⟨_,rfl,t⟩
set_option maxRecDepth 100000 in
theorem z3d (hsp:∀b,spare b=true){r:Reach}{b0:Nat}{v:Value}{d:DataW H}{ps:List MemPlace}(hval:Value.okWide Tryz.prog w r b0 22 v)(hd:DataW.Trod enc Tryz.prog w base spare held 22 v d ps):
  ∃l:List ActM,(∀a∈l,OkAct a)/\(l= []∨∃q∈d.weights Tryz.prog 22,l.length*32<=q)/\(∀a∈l,a.dots= []∨∃q∈d.weights Tryz.prog 22,a.dots.length*16<=q)/\IR (zjr w) w (.lst (znT l)) v:=by
 obtain⟨c,n⟩:=hd;obtain⟨o,e,f,rfl⟩:=okWide_slice Tryz.underlying22 hval;have j:DataW.trod enc Tryz.prog w base spare held c 22 [.slice o e f]=some (d,ps):=by simpa[Value.cells]using n
 obtain⟨l,k,p,s⟩:=zk1 (good:=zDr) Tryz.underlying22 z0B z3Y actC ⟨0,0,[]⟩ (λa x m=>by simp[actC]at m;rcases m with rfl|rfl|rfl<;>rfl) (λa=>rfl) (λh=>z5S hsp h) hsp j;exact⟨l,λa g=>(k a g).elim λd h=>h.1.1,p,λa g=>(k a g).elim λd h=>h.1.2.imp id λ⟨q,t,i⟩=>⟨q,h.2 q t,i⟩,s⟩
theorem z6N {l:List ActM}{W:List Nat}(h:l= []∨∃q∈W,l.length*32<=q)(hW:∀q∈W,q<=reachBytes):l.length<=1000000000000000:=by
 rcases h with rfl|⟨q,a,h⟩;.simp
 .have:=hW q a;have b:reachBytes=140737488351232:=rfl;omega
theorem z7p {l:List ActM}{W:List Nat}(h:∀a∈l,a.dots= []∨∃q∈W,a.dots.length*16<=q)(hW:∀q∈W,q<=reachBytes):∀a∈l,a.dots.length<=1000000000000000:=λa c=>by
 rcases h a c with h|⟨q,b,h⟩;.rw[h];simp
 .have:=hW q b;have d:reachBytes=140737488351232:=rfl;omega
end
end
end Go.Proofs.YtdbhocoeolhjhaaGreatDoor
namespace Go.Sf
open Go.Abs
structure KeepM where
 id:Int
 bytes:Int
def zrn (k:KeepM):List AV:= [.int .i64 k.id,.int .i64 k.bytes]
def zgT (l:List KeepM):List (List AV):=l.map zrn
def zxv (ks:List KeepM)(f:FileM):Nat:=match ks.find? (λk=>decide (k.id=(f.id:Int)))with
 |some k=>min k.bytes.toNat (f.bytes.length-f.sure)
 |none=>0
def cutF (ks:List KeepM)(f:FileM):FileM:={f with bytes:=f.bytes.take (f.sure+zxv ks f),sure:=(f.bytes.take (f.sure+zxv ks f)).length}
def ledF (d:DiskM)(l:List NameM):List FileM:=d.files.filter λf=>decide (∃n∈l,n.id=f.id)
def za4 (d:DiskM)(n:Nat):List NameM:=(replay d.kept (d.moves.take n)).getD []
def ze6 (d:DiskM)(n:Nat)(ks:List KeepM):DiskM:={d with names:=za4 d n,kept:=za4 d n,moves:= [],files:=(ledF d (za4 d n)).map (cutF ks)}
theorem zzx {l l':List NameM}{m:MoveM}(h:Listed l)(hd:zfh l m=some l')(hnew:m.kind=1->m.id∉l.map (·.id)):Listed l'/\∀x∈l',x.id∈l.map (·.id)∨(m.kind=1/\x.id=m.id):=by
 unfold zfh at hd;split at hd
 .rename_i s;split at hd
  .rename_i p;split at hd;.cases hd
   .rename_i g;cases hd;refine⟨zkx h (λj=>g (.inl j)) s (hnew p),λx b=> ?_⟩;rcases zaH.1 b with rfl|b
    .exact .inr ⟨p,rfl⟩
    .exact .inl (yar.2 ⟨x,b,rfl⟩)
  .split at hd
   .split at hd;.cases hd
    .cases hd;exact⟨zkA h _,λx b=> .inl (yar.2 ⟨x,(zhc _ _).subset b,rfl⟩)⟩
   .split at hd
    .split at hd;.cases hd
     .rename_i g;cases hd;have j:hasK kN l m.name:=Classical.byContradiction λk=>g (.inl k);have o:okS m.dst:=Classical.byContradiction λk=>g (.inr (.inl k));obtain⟨x,b,q,r⟩:=z9S h.srt j;have c:=yad b;have d:idOf l m.name=x.id:=by rw[<-q];exact zgD h.srt c
      have e:=(r.map (·.id)).nodup_iff.1 h.ids;rw[yce,yef]at e;have f:=zkA h m.name;have a:(zfS (delK kN l m.name) m.dst).Sublist (delK kN l m.name):=zqg _ _;refine⟨zkx (znZ f a) (zuU f.srt m.dst) o (λn=> ?_),λy i=> .inl ?_⟩;.simp only at n;rw[d]at n;exact e.1 ((a.map _).subset n)
      .rcases zaH.1 i with rfl|i;.rw[d];exact yar.2 ⟨x,c,rfl⟩
       .exact yar.2 ⟨y,(zhc _ _).subset (a.subset i),rfl⟩
    .cases hd
 .cases hd
theorem zk2 (a b:List MoveM):zaP (a++b)=zaP a++zaP b:=by simp[zaP]
theorem zxh {d:DiskM}(h:RightM d):∀(n:Nat),n<=d.moves.length->∃l,replay d.kept (d.moves.take n)=some l/\Listed l/\∀x∈l,x.id∈d.kept.map (·.id)++zaP (d.moves.take n)
 |0,_=>⟨d.kept,by simp[replay],h.kept,λx f=>by simp;exact .inl ⟨x,f,rfl⟩⟩
 |n+1,hn=>by
  obtain⟨l,v,w,u⟩:=zxh h n (by omega);obtain⟨m,i⟩:=gL d.moves n (by omega);obtain⟨F,j,e,k,o⟩:=zi0 h.replay i;rw[v]at e;cases e;have r:=tS i;have c:=h.ids;unfold idsM at c;have s:zaP d.moves=zaP (d.moves.take n)++(zaP [m]++zaP (d.moves.drop (n+1))):=by
   conv=>lhs;rw[<-ya2 n d.moves,ybd (show n<d.moves.length by omega),(yaa.1 i).2]
   rw[show∀(a:List MoveM) (x:MoveM) b,a++x::b=a++([x]++b) from λ_ _ _=>rfl,zk2,zk2]
  obtain⟨z,A⟩:=zzx w k (λD g=>by obtain⟨x,f,p⟩:=yar.1 g;have t:=u x f;have E:zaP [m]= [m.id]:=(by simp[zaP,D]);rw[s,E,<-yax,yb7]at c;exact c.2.2 x.id t m.id (by simp) p);refine⟨j,o,z,λx f=> ?_⟩;rw[r,zk2,<-yax,yai];rcases A x f with q|⟨q,C⟩
  .obtain⟨y,B,p⟩:=yar.1 q;rw[<-p];exact .inl (u y B)
  .exact .inr (by simp[zaP,q,C])
theorem zdf {d:DiskM}(h:RightM d)(n:Nat):Listed (za4 d n)/\∀x∈za4 d n,x.id∈idsM d:=by
 have g:d.moves.take n=d.moves.take (min n d.moves.length):=by
  rcases ydm d.moves.length n with a|a;.rw[Nat.min_eq_right (by omega),yal (by omega),yal (yaf _)]
  .rw[ybt a]
 obtain⟨l,a,b,c⟩:=zxh h (min n d.moves.length) (by omega);have e:za4 d n=l:=by unfold za4;rw[g,a];rfl
 rw[e];refine⟨b,λx f=> ?_⟩;have:=c x f;unfold idsM;rw[yai]at this⊢;refine this.imp id λh=> ?_;have i:zaP d.moves=zaP (d.moves.take (min n d.moves.length))++zaP (d.moves.drop (min n d.moves.length)):=by rw[<-zk2,ya2]
 rw[i];exact List.mem_append_left _ h
theorem zqD {d:DiskM}(h:RightM d)(n:Nat):(za4 d n).length<=d.files.length:=by obtain⟨a,b⟩:=zdf h n;rw[<-h.count];have:=Go.Proofs.YtdbhocoeolhjhaaGreatDoor.nodup_len a.ids (m:=idsM d) (λi e=>by obtain⟨x,c,rfl⟩:=yar.1 e;exact b x c);simpa using this
theorem zb0 {d:DiskM}(h:RightM d){n:Nat}(hn:d.moves.length<=n):za4 d n=d.names:=by unfold za4;rw[yal hn,h.replay];rfl
theorem z8K (ks:List KeepM)(f:FileM):zxv ks f<=f.bytes.length-f.sure:=by
 unfold zxv;split;.exact Nat.min_le_right _ _
 .exact ycm _
theorem zDg (ks:List KeepM)(l:List FileM):(l.map (cutF ks)).map (·.id)=l.map (·.id):=by rw[yd0];rfl
theorem z01 (ks:List KeepM):∀l:List FileM,zbH (l.map (cutF ks))<=zbH l
 | []=>by simp[zbH]
 |f::l=>by
  have:=z01 ks l;have b:∀g a,zbH (g::a)=g.bytes.length+zbH a:=λg a=>by simp[zbH]
  rw[yce,b,b];have:(cutF ks f).bytes.length<=f.bytes.length:=by show(f.bytes.take _).length<=_;rw[yan];omega
  omega
theorem zrV {d:DiskM}(h:RightM d)(n:Nat)(ks:List KeepM):RightM (ze6 d n ks):=by
 obtain⟨k,m⟩:=zdf h n;have a:idsM (ze6 d n ks)=(za4 d n).map (·.id):=by simp[idsM,ze6,zaP]
 have j:∀f,f∈ledF d (za4 d n)->f∈d.files/\∃x∈za4 d n,x.id=f.id:=λf b=>by obtain⟨o,p⟩:=ybf.1 b;exact⟨o,by simpa using p⟩
 refine⟨h.quota,h.next1,h.next2, ?_,k,k,⟨zAl (zDg ks _) (h.filed.1.filter _),λf b=> ?_⟩,rfl,by rw[a];exact k.ids,λi=> ?_,λx c=>by rw[a];exact yar.2 ⟨x,c,rfl⟩, ?_⟩;.show((ledF d (za4 d n)).map _).length<=256;rw[ybn];exact ybu (ycs _ _) h.nfiles
 .obtain⟨g,l,rfl⟩:=yar.1 b;have:=h.filed.2 g (j g l).1;exact⟨this.1,this.2.1,yaf _⟩
 .rw[a];show _↔∃f∈(ledF d (za4 d n)).map (cutF ks),f.id=i;constructor;.intro q;obtain⟨x,c,rfl⟩:=yar.1 q;obtain⟨f,b,e⟩:=(h.same _).1 (m x c);exact⟨cutF ks f,yar.2 ⟨f,ybf.2 ⟨b,by simp;exact⟨x,c,e.symm⟩⟩,rfl⟩,e⟩
  .rintro⟨f,b,rfl⟩;obtain⟨g,l,rfl⟩:=yar.1 b;obtain⟨_,x,c,e⟩:=j g l;exact yar.2 ⟨x,c,e⟩
 .exact ybu (ybu (z01 ks _) (zl4 _ _)) h.used
def V (s:Int):BitVec 32:=BitVec.ofInt 32 s
def U32 (s:Int):Prop:=0<=s/\s<4294967296
theorem zAj (x:BitVec 32):IntKind.u32.wrap (x.toNat:Int)=x.toNat:=by have:=x.isLt;simp[IntKind.wrap,IntKind.signed,IntKind.bits];omega
theorem zDP (a b:Int):U32 (x32 a b):=by have e:x32 a b=((V a^^^V b).toNat:Int):=zAj (V a^^^V b);rw[e];have:=(V a^^^V b).isLt;exact⟨by omega,by omega⟩
def leN:Txt->Nat
 | []=>0
 |b::l=>b.toNat+256*leN l
theorem zzY (l:Txt)(b:UInt8):leN (l++ [b])=leN l+256^l.length*b.toNat:=by
 induction l with
 |nil=>simp[leN]
 |cons x l a=>simp only[ybp,leN,a,ybg,ydb];rw[yej,<-yc7,ybw 256 (256^l.length),yea]
theorem zCN (l:Txt):leN l<256^l.length:=by
 induction l with
 |nil=>simp[leN]
 |cons x l a=>have:=x.toNat_lt;simp only[leN,ybg,ydb];omega
theorem zqu (n:Int):((lo8 n).toNat:Int)=n%256:=by rw[z4l];simp[IntKind.wrap,IntKind.signed,IntKind.bits]
theorem zxF (n:Int):∀k,shrI n k=n/((256^k:Nat):Int)
 |0=>by simp[shrI]
 |k+1=>by unfold shrI;rw[zxF n k,yd7 _ (by omega),Int.ediv_ediv_of_nonneg (Int.natCast_nonneg _)];congr 1
theorem zuv (n:Int):∀k,(leN (leB n k):Int)=n%((256^k:Nat):Int)
 |0=>by simp[leB,leN,Int.emod_one]
 |k+1=>by
  unfold leB;rw[zzY,zaC];have c:=zuv n k;have b:=zqu (shrI n k);rw[zxF]at b;obtain⟨m,a⟩:∃m:Nat,m=256^k:=⟨_,rfl⟩;have i:0<m:=by rw[a];exact Nat.pow_pos (by decide)
  rw[ydb];rw[<-a]at c b⊢;rw[Int.natCast_add,c,ydt,zxF,<-a,b,ydt];have d:=Int.emod_emod_of_dvd;have j:=Int.mul_ediv_add_emod n m;have e:=Int.mul_ediv_add_emod (n/m) 256;have l:=Int.mul_ediv_add_emod n (m*256);have f:n/m/256=n/(m*256):=Int.ediv_ediv_of_nonneg (Int.natCast_nonneg _);rw[f]at e;have g:(m:Int)*(256*(n/(m*256))+(n/m)%256)=m*(n/m):=by rw[e]
  rw[Int.mul_add,<-Int.mul_assoc]at g;have h:((256:Nat):Int)=256:=rfl;rw[h];omega
end Go.Sf
namespace Go.Abs
variable [Globs]
theorem zEr {P:Program}{K:AV->zaa->Prop}{t:Tg K}{σ:zaa}{g:FuncId}{args args':List AV}{R:AV->Prop}{id e size:Nat}{els:List (List AV)}(he:σ[id]? =some (.row e size els false))(hp:∀c∈els,∀x∈c,x.pure=true)(hn:∀c∈els,∀x∈c,x≠ .nils)
  (hc:PCalls P g args' R) (ha:CoeL (σ.set id (.row e size els true)) false args args') (hK:∀r,R r->K r (σ.set id (.row e size els true))):ac P K t σ g args:=
 .inr (.inr λbase κ n w o k l=>by obtain⟨j,b,a⟩:=z4H k ⟨id,e,size,els,els,he,zoG hp hn,rfl⟩;refine(ztX b (l.grow a) (.inl ⟨args',R,ha,hc,hK⟩)).mono ?_;rintro e m ⟨r,σ2,v,κ',d,rfl,hK,f,h,i⟩;exact⟨r,σ2,v,κ',d,rfl,hK,f,a.trans h,i⟩)
end Go.Abs
namespace Go.Proofs.YtdbhocoeolhjhaaGreatDoor
open Go.Abs Go.RowKit Go.Sf
variable {G:Globs}
attribute [-simp] zaS zc2 zbM zas
end Go.Proofs.YtdbhocoeolhjhaaGreatDoor
namespace Go.Sf
open Go.Abs
theorem ziC {n:Nat}(h:n<18446744073709551616):IntKind.u64.wrap (n:Int)=n:=by simp[IntKind.wrap,IntKind.signed,IntKind.bits];omega
theorem z7y (x:BitVec 64):IntKind.u64.wrap (x.toNat:Int)=x.toNat:=ziC x.isLt
end Go.Sf
namespace Go.Proofs.YtdbhocoeolhjhaaGreatDoor
open Go.Abs Go.RowKit Go.Sf
variable {G:Globs}
attribute [-simp] zaS zc2 zbM zas
end Go.Proofs.YtdbhocoeolhjhaaGreatDoor
namespace Go.Abs
def zDX (J:Frame->zaa->Prop)(_:Tg J):AExit->Frame->zaa->Prop
 | .normal,f,σ=>jn J (.mk J) f (.mk f) σ
 |_,_,_=>False
@[simp] theorem z9V {J:Frame->zaa->Prop} {t:Tg J} {f:Frame} {σ:zaa}:zDX J t .normal f σ=jn J (.mk J) f (.mk f) σ:=rfl
variable [Globs]
theorem zD5 {P:Program}{K:AV->zaa->Prop}{σ:zaa}{g:FuncId}{args args':List AV}{R:AV->Prop}{t:Tg K}(hc:PCalls P g args' R)(ha:CoeL σ false args args')(hK:∀r,R r->K r σ):ac P K t σ g args:=.inl ⟨args',R,ha,hc,hK⟩
end Go.Abs
namespace Go.Proofs.YtdbhocoeolhjhaaGreatDoor
open Go.Abs Go.RowKit Go.Sf
variable {G:Globs}
attribute [-simp] zaS zc2 zbM zas
end Go.Proofs.YtdbhocoeolhjhaaGreatDoor
