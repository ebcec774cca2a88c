import Derived.Shelf.SlSortCmp.QuietGrown
import Derived.StillTailTactics
import Derived.Handy
import Derived.Lib.Split
import Derived.Shelf.Strconv.ParseIntPublic10
import Derived.Test.YtdbhocoeolhjhaaGreatDoorBn10
set_option maxHeartbeats 8000000
set_option linter.unusedSimpArgs false
set_option linter.unusedVariables false
set_option linter.constructorNameAsVariable false
namespace Go.Proofs.YtdbhocoeolhjhaaGreatDoor
open Go.Abs Go.RowKit Go.Sf Go.Num
variable {G:Globs}
theorem z35 (l m:List Slot)(hl:l.length<=1000000)(hm:m.length=l.length):PT 80 [.lst (zao l),.lst (zao m)] (λr=>r=.bool (decide (l=m))):=by
 refine pwP zeo ?_;have b:=zaq l;have t:=zaq m;simp[zc9,b,t,hm];refine zac (λx f σ=>∃(i:Nat),x=l.length-i/\i<=l.length/\f 0=.lst (zao l)/\f 1=.lst (zao m)/\f 5=.int .i64 i/\l.take i=m.take i/\σ= []) l.length ?_ ?_;.exact⟨0,by simp⟩
 rintro x f σ ⟨i,G,H,a,g,j,s,rfl⟩;simp[a,j,b];refine zap (λD=> ?_) (λE=> ?_)
 .have c:i<l.length:=by omega
  have u:=wS i (by omega);obtain⟨n,d⟩:=gE c;obtain⟨k,q⟩:=gL m i (by omega);have o:=zc0 d;have p:=zc0 q;obtain⟨z,A⟩:=yaa.1 o;obtain⟨B,C⟩:=yaa.1 p;by_cases e:n=k;.subst e;simp[a,g,j,o,p,zcP,zil,u];exact nx_i ⟨i+1,rfl,by omega,by simp[a],by simp[g],by simp,by rw[ybh,ybh,d,q,s],rfl⟩
  .have v:¬l=m:=λh=>e (by rw[h,q]at d;exact(Option.some.inj d).symm);have I:(decide (n.1=k.1)&&decide (n.2=k.2))=false:=(by rw[<-Bool.not_eq_true];intro h;simp at h;exact e (Prod.ext h.1 h.2));rw[decide_eq_false v];by_cases y:n.1=k.1;.have F:¬n.2=k.2:=λh=>e (Prod.ext y h);simp[a,g,j,o,p,zcP,zil,y,F]
   .simp[a,g,j,o,p,zcP,zil,y]
 .have w:i=l.length:=by omega
  subst w;rw[yav,yal (by omega)]at s;rw[decide_eq_true s];simp
theorem zzJ (step:Nat)(l m:List Slot)(hl:l.length<=1000000)(hm:m.length=l.length):PT 38 [.agg (zaf step l),.agg (zaf step m)] (λr=>r=.bool (decide (l=m))):=by refine pwP zhk ?_;simp[ze0,zaf];refine zad (z35 l m hl hm) ?_;simp
theorem z9l (l m:LadM)(h:RightL l)(h':RightL m):PT 15 [.agg (ladC l),.agg (ladC m)] (λr=>r=.bool (z29 l m)):=by
 refine pwP zhe ?_;have j:=zzJ (G:=G) 10 l.fine m.fine (by rw[h.n1];omega) (by rw[h.n1,h'.n1]);have k:=zzJ (G:=G) 60 l.wide m.wide (by rw[h.n2];omega) (by rw[h.n2,h'.n2]);simp only[zaf]at j k;unfold z29;simp[zei,ladC,zak];refine zac (λx f σ=>∃(i:Nat),x=2-i/\i<=2/\f 2=.ptr 0 0/\f 3=.ptr 1 0/\f 5=.int .i64 i/\(1<=i->l.fine=m.fine)/\(2<=i->l.wide=m.wide)/\σ= [.var 55 (ladC l),.var 55 (ladC m)]) 2 ?_ ?_;.exact⟨0,by simp,by simp,by simp,by simp,by simp,by simp,by simp,by simp[ladC,zak]⟩
 rintro x f σ ⟨i,o,p,a,c,b,d,n,rfl⟩;have g:i=0∨i=1∨i=2:=by omega
 rcases g with rfl|rfl|rfl
 .simp[a,c,b,ladC,zak,zaf];refine zb3 j ?_;by_cases e:l.fine=m.fine;.rw[decide_eq_true e];simp[b,wk1];exact nx_i ⟨1,rfl,by omega,by simp[a],by simp[c],by simp,λ_=>e,λh=>by omega,by simp⟩
  .rw[decide_eq_false e];simp
 .simp[a,c,b,ladC,zak,zaf];refine zb3 k ?_;rw[decide_eq_true (d (by omega))];by_cases e:l.wide=m.wide;.rw[decide_eq_true e];simp[b,wk2];exact nx_i ⟨2,rfl,by omega,by simp[a],by simp[c],by simp,λ_=>d (by omega),λ_=>e,by simp⟩
  .rw[decide_eq_false e];simp
 .rw[decide_eq_true (d (by omega)),decide_eq_true (n (by omega))];simp[a,b,ladC,zak]
theorem zDn (s:ShM)(p:Txt)(hd:s.down=false)(hs:Srt kM s.mets)(hl:s.mets.length<=1000000)(hh:¬hasK kM s.mets p)(c:List ArrM):PT 26 [.agg (shC s),.str p,.lst (zaO c),.int .i64 0] (λr=>r=.tup [.int .i64 0,.bool true]):=by refine pwP zeA ?_;have kF:=z03 (G:=G) s p hd hs hl hh;simp only[shC,zB2]at kF;simp[zcG,shC];refine zad kF ?_;simp[splice]
theorem zCj (s:ShM)(p:Txt)(hd:s.down=false)(hs:Srt kM s.mets)(hl:s.mets.length<=1000000){m:MetM}(hm:s.mets[posK kM s.mets p]? =some m)(hp:m.path=p)(hL:RightL m.lad)(c:List ArrM)(hc:∀a∈c,OkA a/\OkV a)(hcl:c.length<=1000000)(sure:Nat)(hsu:sure<=begK m.lad c c.length)(hf:zaz newL (c.take (begK m.lad c c.length))=m.lad):
  PT 26 [.agg (shC s),.str p,.lst (zaO c),.int .i64 sure] (λr=>r=.tup [.int .i64 (begK m.lad c c.length),.bool true]):=by
 refine pwP zeA ?_;have kF:=zq7 (G:=G) s p hd hs hl hm hp;have j:=zcg c;have F:=(zfA c).1;simp only[shC,metC]at kF;simp[zcG,shC];refine zad kF ?_;obtain⟨K,w⟩:∃K,K=begK m.lad c c.length:=⟨_,rfl⟩;rw[<-w]at hsu hf⊢;simp[splice,j];refine zac (λx f σ=>∃(i:Nat) (A:Entry),x=i/\i<=c.length/\K=begK m.lad c i/\f 2=.lst (zaO c)/\f 3=.int .i64 sure/\f 10=.ptr 1 0/\f 12=.int .i64 i/\σ= [A,.var 57 (metC m)]) c.length ?_ ?_;.exact⟨c.length,_,rfl,by simp,w,by simp,by simp,by simp,by simp,by simp[metC];rfl⟩
 rintro i f σ ⟨L,A,rfl,D,g,y,z,h,b,rfl⟩;have k:∀n,begK m.lad c n<=n:=λn=>by
  induction n with
  |zero=>exact yaf _
  |succ n M=>unfold begK;split<;>omega
 have H:=k i;have l:(sure:Int)<=i:=by omega
 have B:sure<=i:=by omega
 have t:(zaO c).take i=zaO (c.take i):=by simp[zaO,ydh]
 have o:∀a∈c.take i,OkA a/\OkV a:=λa E=>hc a (yao E);have q:=zyv (G:=G) (c.take i) o (by rw[yan];omega);have C:=z9l (G:=G) m.lad (zaz newL (c.take i)) hL (zc5 zdl o);simp only[ladC]at q C;simp[z,h,b,l,metC];refine zaX zjU (by simp) ?_;simp[y,b,j,D];rw[if_pos F,t];simp;refine zaX q (by simp[AV.pure,schC]) ?_;simp;refine zaX C (by simp[AV.pure]) ?_;cases d:z29 m.lad (zaz newL (c.take i))with
 |true=>
  have e:K=i:=by
   rw[g];cases i with
   |zero=>rfl
   |succ i=>unfold begK;rw[if_pos d]
  simp[b,e]
 |false=>
  have I:i≠0:=λe=>by
   subst e;have u:K=0:=by rw[g];rfl
   rw[u]at hf;rw[<-hf,zrS.2 rfl]at d;cases d
  obtain⟨n,rfl⟩:∃n,i=n+1:=⟨i-1,by omega⟩;have J:IntKind.i64.wrap (n:Int)=n:=wI (by omega);have v:K=begK m.lad c n:=g.trans (if_neg (by rw[d];simp));simp[b];exact nx_i ⟨n,A,rfl,by omega,v,by simp[y],by simp[z],by simp[h],by simp[J],by simp⟩
theorem zzK (b:Txt)(hl:b.length<=1000000000):PT 56 [.lst (byteEls b)] (λr=>r=.lst (byteEls b)):=by
 refine pwP zn6 ?_;have a:=zae b;simp[zi9];refine z8C λc d=> ?_;cases c;.simp;refine zbJ [] (byteEls b) false (by simp) rfl (by decide) (za1 b).1 (λh=>by cases h) rfl (by omega) (by omega) ?_;simp[zfq]
 .have e:byteEls b= []:=by refine Classical.byContradiction λh=> ?_;cases d h
  have f:b= []:=by rw[e]at a;exact ydj.1 a.symm
  simp[f,byteEls]
theorem z0k (d:DiskM)(s:Txt){f:FileM}(h:RightM d)(hl:Fits d)(ho:okS s)(hA:At d s f):PT 21 [.agg (zag d),.str s] (λr=>r=.tup [.lst (byteEls f.bytes),.int .i64 0]):=by refine pwP zxW ?_;obtain⟨g,a,b⟩:=h.file hA.1;obtain rfl:g=f:=zBM h ⟨hA.1,yad a,b⟩ hA;have l:=(yaa.1 a).1;have c:=zcK a;obtain⟨e,i⟩:=yaa.1 c;have j:=hl.bytes g (yad a);have k:=zae g.bytes;simp[zq6,zag];refine zad (zjt d s h hl ho hA.1) ?_;simp[c,zbv];refine zad (zzK g.bytes (by omega)) ?_;simp
def OwnF (V:AV)(b:Nat)(tl:zaa)(fs:List FileM):Prop:=(V=.nils/\fs= [])∨∃j n X,tl[j]? =some (.row 97 3 X false)/\X.length=n/\fs.length<=n/\Els 3 X/\X.take fs.length=zau fs/\((V=.row (b+j) n/\n=fs.length)∨V=.sub (b+j) n 3 0 fs.length)
theorem zox {σ τ:zaa}(h:zbr σ=true)(h2:zbr τ=true):zbr (σ++τ)=true:=by simp only[zbr,List.all_append,yb5]at*;exact⟨h,h2⟩
theorem z9Z {pre tl:zaa}{R:AV->zaa->Prop}{t:Tg R}{res:List (Nat×Option (Bool×Nat))}{f:Abs.Frame}{tf:Tg f}(r:AV)(hr:(res.mapM (zee (pre++tl) f)).map zaK=some r) (hru:r.under (pre++tl).length=true) (hun:∀e∈tl,e.under (pre++tl).length=true) (hR:R r (pre++tl)):er pre R t res f tf (pre++tl):=zbi (pre++tl) r hr [] (by simp) (by simp) hru (λi e a=>by
  rcases ydm i pre.length with h|h;.rw[yap h]at a;exact .inl a
  .rw[yam h]at a;exact .inr (hun e (yad a))) hR
theorem zys (d:DiskM)(l:List NameM)(hl:Fits d)(hll:l.length<=1000000)(hnd0:(l.map (·.id)).Nodup)(pre:zaa)(hpre:zbr pre=true):AT 115 [.agg (zag d),.lst (zam l)] pre
  (λr σ'=>∃V tl,r=.agg [.int .i64 d.quota,V,.lst (zam l),.lst (zam l),.nils,.int .i64 d.next]/\σ'=pre++tl/\OwnF V pre.length tl (ledF d l)):=by
 refine pwA zkS ?_;have ab:=za2 l;have H:=zbh d.files;have au:=hl.nfiles;simp[zh4,zag];obtain⟨ids,b⟩:∃ids,ids=l.map (·.id):=⟨_,rfl⟩;have ad:ids.Nodup:=by rw[b];exact hnd0
 obtain⟨A,u⟩:∃A:Entry,A=.var 30 (zag d):=⟨_,rfl⟩;obtain⟨Z,S⟩:∃Z:Entry,Z=.var 30 [.int .i64 0,.nils,.nils,.nils,.nils,.int .i64 0]:=⟨_,rfl⟩;refine zac (λx f σ=>∃(i:Nat) (tl:zaa),x=l.length-i/\i<=l.length/\f 1=.lst (zam l)/\f 2=.ptr pre.length 0/\f 4=.ptr (pre.length+1) 0/\f 5=.ptr (pre.length+3) 0/\f 9=.lst (zam l)/\f 10=.int .i64 l.length/\f 11=.int .i64 i/\zbr tl=true/\(∀e∈tl,∀m,e.under m=true)/\σ=pre++A::Z:: .mp (kvs (ids.take i)):: .var 99 [.map (pre.length+2)]::tl) l.length ?_ ?_;.exact⟨0,[],by simp,by simp,by simp,by simp,by simp,by simp,by simp,by simp[ab],by simp,rfl,by simp,by simp[u,S,zag,kvs]⟩
 rintro x f σ ⟨i,tl,hx,hi,Y,T,C,U,h9,D,E,p,v,rfl⟩;have ae:A.isItr=false:=by rw[u];rfl
 have af:Z.isItr=false:=by rw[S];rfl
 simp[D,E];refine zap (λaq=> ?_) (λar=> ?_)
 .have I:i<l.length:=by omega
  have ag:=wS i (by omega);obtain⟨n,hn⟩:=gE I;have W:=zcL hn;obtain⟨an,ao⟩:=yaa.1 W;have q:ids[i]? =some n.id:=by rw[b,yca,hn];rfl
  have ah:=zhO q;have ai:∀(t:TypeId) (cs:List AV),zbr (pre++A::Z:: .mp (kvs (ids.take i)):: .var 99 [.map (pre.length+2)]::(tl++ [.var t cs]))=true:=λt cs=>by refine zox hpre ?_;simp only[zbr,List.all_cons,ae,af]at p⊢;simp[Entry.isItr]at p⊢;exact p
  have s:=ai 101 (zcD n);simp only[zcD]at s;simp[U,h9,E,W,zcD,splice,ztn (zqr ad q),s,ag, -zaQ, -zd2, -zbr, -Entry.isItr];refine nx_i ⟨i+1,tl++ [.var 101 (zcD n)],rfl,by omega,by simp[Y],by simp[T],by simp[C],by simp[U],by simp[h9],by simp[D],by simp,zox p rfl,λe a m=> ?_, ?_⟩
  .rcases yai.1 a with a|a;.exact v e a m
   .simp at a;subst a;simp[Entry.under,zcD,AV.under]
  .rw[ah];simp[zcD]
 .have aj:i=l.length:=by omega
  have J:ids.length=l.length:=by rw[b];simp
  rw[aj,<-J,yav];have K:∀c∈zam l,∀x∈c,x≠ .nils:=λc W=>by obtain⟨n,_,rfl⟩:=yar.1 W;simp[zcD]
  have L:∀m,(Entry.mp (kvs ids)).under m=true:=λm=>by simp[Entry.under,kvs,AV.under]
  simp[Y];refine zad (zqf (zam l) (zdp _) (by omega) K) ?_;simp[Y];refine zad (zqf (zam l) (zdp _) (by omega) K) ?_;rw[u];simp[T,zag,splice];refine zai (zul (zau d.files) (zec d.files) (by omega)) ?_;rintro r σ (⟨h0,rfl,rfl⟩|⟨rfl,rfl⟩)
  .have ak:d.files= []:=(by simpa[zau]using h0);have M:ledF d l= []:=(by unfold ledF;rw[ak];rfl);simp[U];refine zai (zwa 179 [.ptr (pre.length+3) 0]) ?_;rintro r σ ⟨rfl,rfl⟩;simp[T,C,splice,S];refine z9Z (.agg [.int .i64 d.quota,.nils,.lst (zam l),.lst (zam l),.nils,.int .i64 d.next]) (by simp[zaK,C]) (by simp[AV.under]) (λe a=> ?_) ⟨_,_,rfl,rfl,.inl ⟨rfl,M⟩⟩;simp only[ybe]at a;rcases a with rfl|rfl|rfl|rfl|a
   .simp[Entry.under,AV.under]
   .simp[Entry.under,AV.under]
   .exact L _
   .simp[Entry.under,AV.under]
   .exact v e a _
  .simp[U];obtain⟨B,o⟩:∃B:zaa,B=pre++ .var 30 [.int .i64 d.quota,.lst (zau d.files),.lst (zam l),.lst (zam l),.nils,.int .i64 d.next]::Z:: .mp (kvs ids):: .var 99 [.map (pre.length+2)]::tl:=⟨_,rfl⟩;have al:B.length=pre.length+(tl.length+1+1+1+1):=by rw[o];simp
   have kA:=zoV (G:=G) (pre:=B) (k:=pre.length+3) (j:=pre.length+2) (ids:=ids) (by rw[o];exact z8O) (by rw[o];exact z9A) d.files (λc=> !decide (idC c∈ids)) (λf=>by rw[zqj]);have kD:=z9Y (G:=G) B (zau d.files) (zec d.files) (by omega) (λc=> !decide (idC c∈ids)) 179 [.ptr (pre.length+3) 0] ziU kA;have O:((zau d.files).filter λn=> !!decide (idC n∈ids))=zau (ledF d l):=(by rw[znA d.files (λf=>decide (∃n∈l,n.id=f.id)) _ (λf=>by rw[zqj,b];simp)];rfl);have P:(ledF d l).length<=d.files.length:=ycs _ _;have y:=zbh (ledF d l);rw[O,al,o]at kD;simp only[yax,ybp]at kD;refine zai kD ?_;rintro r σ ⟨X,rfl,aa,F,w⟩;replace w:=w.imp_right (And.imp_right wkD);have Q:X.length=d.files.length:=(by rw[aa,H]);rw[y]at w;obtain⟨V,hV,g⟩:∃V,r=V/\((V=.row (pre.length+(tl.length+1+1+1+1)) d.files.length/\X=zau (ledF d l))∨(V=.sub (pre.length+(tl.length+1+1+1+1)) d.files.length 3 0 (ledF d l).length/\X.take (ledF d l).length=zau (ledF d l))):=⟨r,rfl,by rw[H]at w;exact w⟩;have R:V.one=true:=(by rcases g with ⟨rfl,_⟩|⟨rfl,_⟩<;>rfl);have am:V.cells= [V]:=(by rcases g with ⟨rfl,_⟩|⟨rfl,_⟩<;>rfl);subst hV;have z:∀m,pre.length+(tl.length+5)<=m->r.under m=true:=λm hm=>by rcases g with ⟨rfl,_⟩|⟨rfl,_⟩<;>simp[AV.under]<;>omega
   rw[S];simp[T,C,splice,R,am];refine z9Z (.agg [.int .i64 d.quota,r,.lst (zam l),.lst (zam l),.nils,.int .i64 d.next]) (by simp[zaK,C]) (by simp[AV.under];exact z _ (by omega)) (λe a=> ?_) ⟨_,_,rfl,rfl,.inr ⟨tl.length+4,d.files.length,X,by simp,Q,P,F, ?_, ?_⟩⟩
   .simp only[ybe,yai,yd9,or_false]at a;rcases a with rfl|rfl|rfl|rfl|a|rfl
    .simp[Entry.under,AV.under];exact z _ (by omega)
    .simp[Entry.under,AV.under];exact z _ (by omega)
    .exact L _
    .simp[Entry.under,AV.under]
    .exact v e a _
    .exact zaD F.2.1
   .rcases g with ⟨_,h⟩|⟨_,h⟩;.rw[h,<-y,yav]
    .exact h
   .rcases g with ⟨h,h'⟩|⟨h,_⟩;.refine .inl ⟨h, ?_⟩;have:=congrArg List.length h';rw[y]at this;omega
    .exact .inr h
theorem z5A {σ:zaa}{j:Nat}(k:KeepM)(f:FileM){c1 c2:AV}(hj:σ[j]? =some (.var 97 [.int .i64 f.id,c1,c2])):AT 117 [.agg (zrn k),.ptr j 0] σ (λr σ'=>r=.bool (decide (k.id=(f.id:Int)))/\σ'=σ):=by refine pwA zsk ?_;have a:=λt=>zaN hj t;simp[zlo,zrn,a];exact zez (.bool (decide (k.id=(f.id:Int)))) (by simp[zaK]) (by simp[AV.under]) ⟨rfl,rfl⟩
theorem zsT {l:List KeepM}{i:Nat}{k:KeepM}(h:l[i]? =some k):(zgT l)[i]? =some (zrn k):=by simp[zgT,h]
theorem z1L (l:List KeepM):(zgT l).length=l.length:=by simp[zgT]
theorem z2e {σ:zaa}{j:Nat}(ks:List KeepM)(hk:ks.length<=1000000)(f:FileM){c1 c2:AV}(hj:σ[j]? =some (.var 97 [.int .i64 f.id,c1,c2])):
  AT 116 [.lst (zgT ks),.fn (.func 117) [] [.ptr j 0]] σ (λr σ'=>σ'=σ/\((r=.int .i64 (-1)/\ks.find? (λk=>decide (k.id=(f.id:Int)))=none)∨∃(i:Nat) (k:KeepM),r=.int .i64 i/\ks[i]? =some k/\ks.find? (λk=>decide (k.id=(f.id:Int)))=some k)):=by
 refine pwA zdE ?_;have l:=z1L ks;simp[zbD,gIX];refine zac (λx g σ'=>∃(i:Nat),x=ks.length-i/\i<=ks.length/\g 0=.lst (zgT ks)/\g 1=.fn (.func 117) [] [.ptr j 0]/\g 7=.int .i64 ks.length/\g 8=.int .i64 i/\ks.find? (λk=>decide (k.id=(f.id:Int)))=(ks.drop i).find? (λk=>decide (k.id=(f.id:Int)))/\σ'=σ) ks.length ?_ ?_;.exact⟨0,by simp,by simp,by simp,by simp,by simp[l],by simp⟩
 rintro x g σ' ⟨i,rfl,z,o,p,q,h,a,rfl⟩;simp[q,h];refine zap (λw=> ?_) (λy=> ?_)
 .have c:i<ks.length:=by omega
  have m:=wS i (by omega);obtain⟨k,d⟩:=gE c;have s:=zsT d;obtain⟨u,v⟩:=yaa.1 s;rw[ybd c,(yaa.1 d).2,List.find?_cons]at a;have t:=z5A (G:=G) k f hj;simp only[zrn]at t;simp[o,p,h,s,zrn];refine zvX zsv ?_;refine zai t ?_;rintro x σ' ⟨rfl,rfl⟩;by_cases b:k.id=(f.id:Int);.rw[decide_eq_true b]at a;simp[b];exact er_k σ' (.int .i64 i) (λi e b=> .inl b) ⟨rfl,.inr ⟨i,k,rfl,d,a⟩⟩
  .rw[decide_eq_false b]at a;simp[b,h,m];exact nx_i ⟨i+1,rfl,by omega,by simp[o],by simp[p],by simp[q],by simp,a,rfl⟩
 .have n:i=ks.length:=by omega
  rw[n,ydx]at a;simp;exact er_k σ' (.int .i64 (-1)) (λi e b=> .inl b) ⟨rfl,.inl ⟨rfl,a⟩⟩
theorem zBc {n:Nat}{els:List (List AV)}{k:Nat}{c:List AV}(h:Els n els)(h1:c.length=n)(h2:∀x∈c,x.pure=true)(h3:∀x∈c,x.one=true):Els n (els.set k c):=by
 obtain⟨b,d,e⟩:=h;refine⟨λy a=> ?_,λy a=> ?_,λy a=> ?_⟩<;>rcases yds a with h|rfl
 .exact b y h
 .exact h1
 .exact d y h
 .exact h2
 .exact e y h
 .exact h3
theorem z7U {fs:List FileM}{ks:List KeepM}{k:Nat}{g:FileM}(h:fs[k]? =some g):((fs.take k).map (cutF ks)++fs.drop k).set k (cutF ks g)=(fs.take (k+1)).map (cutF ks)++fs.drop (k+1):=by
 obtain⟨a,e⟩:=yaa.1 h;have b:((fs.take k).map (cutF ks)).length=k:=by simp;omega
 rw[ybd a,e,yct _ _ (by omega),b,yc2,List.set_cons_zero,ybh,h];simp
theorem z67 (d:DiskM)(h:RightM d)(hl:Fits d)(n:Nat)(hn:n<=255)(ks:List KeepM)(hk:ks.length<=1000000)(hki:∀k∈ks, -9223372036854775808<=k.bytes/\k.bytes<=9223372036854775807):
  PT 59 [.agg (zag d),.int .i64 n,.lst (zgT ks)] (λr=>r=.tup [.agg (zag (ze6 d n ks)),.int .i64 0]):=by
 refine pwP zwu ?_;have b3:=hl.nfiles;have b4:=hl.nmoves;have a9:(zaI d.moves).length=d.moves.length:=by simp[zaI]
 have kR:=zj1 (G:=G) d h hl;simp only[zag]at kR;simp[zoQ,zag];refine zad kR ?_;obtain⟨K,hK⟩:∃K,K=min n d.moves.length:=⟨_,rfl⟩;have ba:K<=d.moves.length:=by omega
 have bb:(if d.moves.length<n then(d.moves.length:Int)else(n:Int))=(K:Int):=by split<;>omega
 have bc:(if 0<K then(K:Int)else 0)=(K:Int):=by split<;>omega
 have h4:∀c∈zaI d.moves,c.length=4:=λc hc=>by obtain⟨m,_,rfl⟩:=yar.1 hc;rfl
 have an:(0:Int)<=K:=by omega
 simp[a9,bb,bc,an];rw[if_pos h4];have bd:(zaI d.moves).take K=zaI (d.moves.take K):=by simp[zaI,ydh]
 have b5:(d.moves.take K).length=K:=by rw[yan];omega
 have be:d.moves.take n=d.moves.take K:=by
  rcases ydm d.moves.length n with W|W;.rw[hK,Nat.min_eq_right (by omega),yal (by omega),yal (yaf _)]
  .rw[hK,ybt W]
 simp[ba,bd];obtain⟨D,hD⟩:∃D:Entry,D=.var 30 (zag d):=⟨_,rfl⟩;obtain⟨Z,hZ⟩:∃Z:Entry,Z=.var 30 [.int .i64 0,.nils,.nils,.nils,.nils,.int .i64 0]:=⟨_,rfl⟩;refine zac (λx f σ=>∃(i:Nat) (p:List NameM) (z:zaa),x=K-i/\i<=K/\f 2=.lst (zgT ks)/\f 3=.ptr 0 0/\f 6=.ptr 1 0/\f 7=.int .i64 0/\f 8=.lst (zam p)/\f 29=.lst (zaI (d.moves.take K))/\f 30=.int .i64 K/\f 31=.int .i64 i/\replay d.kept (d.moves.take i)=some p/\zbr z=true/\σ=D::Z::z) K ?_ ?_;.refine⟨0,d.kept,[],by simp,by simp,by simp,by simp,by simp,by simp,by simp,by simp, ?_,by simp,by simp[replay],rfl,by simp[hD,hZ,zag]⟩;simp[zaI];omega
 rintro x f σ ⟨i,p,z,rfl,hi,Q,u,C,R,f8,S,U,H,I,A,rfl⟩;simp[U,H];refine zap (λa7=> ?_) (λa8=> ?_)
 .have l:i<K:=by omega
  have ab:=wS i (by omega);obtain⟨m,hm⟩:=gL d.moves i (by omega);obtain⟨b0,aj,ak,a2,a3⟩:=zi0 h.replay hm;rw[I]at ak;cases ak;have bf:=(ztI h.kept.srt I).1;have ao:=hl.nkept;have bx:(d.moves.take i).length<=d.moves.length:=by simp;omega
  have ad:p.length<=1000000:=by have e:za4 d i=p:=(by unfold za4;rw[I];rfl);have:=zqD h i;rw[e]at this;omega
  have kD:=zuR (G:=G) p aj m bf ad a2 (hl.moves m (yad hm));have hc:(zaI (d.moves.take K))[i]? =some (zdn m):=by simp[zaI,l,hm]
  obtain⟨a4,w⟩:=yaa.1 hc;simp only[zdn]at kD w;simp[f8,S,H,hc,zdn,splice];refine zad kD ?_;simp[H,ab];exact nx_i ⟨i+1,aj,_,rfl,by omega,by simp[Q],by simp[u],by simp[C],by simp[R],by simp,by simp[S],by simp[U],by simp,a3,zox A rfl,rfl⟩
 .have bg:i=K:=by omega
  subst bg;have ae:za4 d n=p:=by unfold za4;rw[be,I];rfl
  have bh:Listed p:=by rw[<-ae];exact(zdf h n).1
  have ad:p.length<=1000000:=by rw[<-ae];have:=zqD h n;omega
  have kS:=zys (G:=G) d p hl ad bh.ids (D::Z::z) (by rw[hD,hZ];simpa[zbr,Entry.isItr]using A);simp only[zag]at kS hD;rw[hD]at kS⊢;simp[u,f8];refine zai kS ?_;rintro r σ ⟨V,t2,rfl,rfl,J⟩;obtain⟨b,E⟩:∃b,b=ledF d p:=⟨_,rfl⟩;have bi:ze6 d n ks={d with names:=p,kept:=p,moves:= [],files:=b.map (cutF ks)}:=by unfold ze6;rw[ae,E]
  rw[bi];have bj:∀f∈b,f∈d.files:=λf hf=>by rw[E]at hf;exact(ybf.1 hf).1
  rw[<-E]at J;rcases J with ⟨rfl,h0⟩|⟨j,nX,X,hj,o,b2,v,t,J⟩
  .rw[h0];simp[u,splice];refine zac (λx f σ=>∃z,f 3=.ptr 0 0/\f 6=.ptr 1 0/\f 7=.int .i64 0/\f 47=.int .i64 0/\f 48=.int .i64 0/\σ=.var 30 [.int .i64 d.quota,.nils,.lst (zam p),.lst (zam p),.nils,.int .i64 d.next]::Z::z) 0 ?_ ?_;.exact⟨_,by simp[u],by simp[C],by simp[R],by simp,by simp,rfl⟩
   rintro x f σ ⟨z,u,C,R,L,B,rfl⟩;simp[u,C,L,B,splice,hZ,zau,zaI]
  .have bk:=zbh b;obtain⟨q,hq⟩:∃q,q=z.length+j:=⟨_,rfl⟩;obtain⟨T,hT⟩:∃T,T=z++t2:=⟨_,rfl⟩;have s:T[q]? =some (.row 97 3 X false):=(by rw[hT,hq,yam (by omega),ybc];exact hj);have af:(D::Z::z).length+j=q+2:=(by simp[hq];omega);have b6:b.length<=1000000:=(by have:b.length<=d.files.length:=(by rw[E];exact ycs _ _);omega);have ag:D::Z::z++t2=D::Z::T:=(by rw[hT];rfl);rw[hD]at af ag;rw[af]at J;rw[ag];have bl:∀(Y:List (List AV)) (F:Entry) (T:zaa),T[q]? =some (.row 97 3 Y false)->Y.length=nX->view (F::Z::T) V=some (Y.take b.length):=λY F T W h2=>by
    have h3:(F::Z::T)[q+2]? =some (.row 97 3 Y false):=W;rcases J with ⟨rfl,h4⟩|rfl
    .simp only[view,h3,h2,if_true];rw[yal (by omega)]
    .simp[view,h3,h2]
   have b7:V.cells= [V]:=(by rcases J with ⟨rfl,_⟩|rfl<;>rfl);have bm:V.one=true:=(by rcases J with ⟨rfl,_⟩|rfl<;>rfl);have M:(X.take b.length).length=b.length:=(by rw[t,bk]);obtain⟨F,y⟩:∃F:Entry,F=.var 30 [.int .i64 d.quota,V,.lst (zam p),.lst (zam p),.nils,.int .i64 d.next]:=⟨_,rfl⟩;simp[u,splice,bm];rw[<-y];simp[bl X F T s o,M];clear ag hT hj;refine zac (λx f σ=>∃(i:Nat) (X:List (List AV)) (T:zaa),x=b.length-i/\i<=b.length/\f 2=.lst (zgT ks)/\f 3=.ptr 0 0/\f 6=.ptr 1 0/\f 7=.int .i64 0/\f 46=V/\f 47=.int .i64 b.length/\f 48=.int .i64 i/\T[q]? =some (.row 97 3 X false)/\X.length=nX/\Els 3 X/\X.take b.length=zau ((b.take i).map (cutF ks)++b.drop i)/\σ=F::Z::T) b.length ?_ ?_;.exact⟨0,X,T,by simp,by simp,by simp[Q],by simp[u],by simp[C],by simp[R],by simp,by simp,by simp,s,o,v,by simpa using t,rfl⟩
   clear t v o s M Q u C R f8 S U H X T A t2 af hq;rintro x f σ ⟨k,X,T,rfl,hi,Q,u,C,R,al,L,B,s,o,v,t,rfl⟩;simp[L,B];refine zap (λa7=> ?_) (λa8=> ?_)
   .have l:k<b.length:=(by omega);have ab:=wS k (by omega);obtain⟨g,hg⟩:=gE l;have aq:=bj g (yad hg);have b8:=hl.bytes g aq;have b9:=(h.filed.2 g aq).2.2;have hc:X[k]? =some (zbv g):=(by have W:(X.take b.length)[k]? =some (zbv g):=(by rw[t];refine zcK ?_;rw[yam (by simp;omega)];simp only[ybn,yan,ybt (show k<=b.length by omega),yc2,yby,ycf];exact hg);rw[ycg l]at W;exact W);obtain⟨a4,w⟩:=yaa.1 hc;have ar:=zae g.bytes;have ca:=z8K ks g;obtain⟨N,hN⟩:∃N,N=zxv ks g:=⟨_,rfl⟩;have cc:(zbv g).drop 3= []:=rfl;have kI:=z2e (G:=G) (σ:=F::Z::(T++ [.var 97 (zbv g)])) (j:=T.length+2) ks hk g (c1:=.lst (byteEls g.bytes)) (c2:=.int .i64 g.sure) (by simp[zbv]);simp only[zbv]at kI;have cd:k<X.length:=(by omega);have au:k<nX:=(by omega);simp only[zbv]at hc w;have hB:byteEls (g.bytes.take (g.sure+N))=(byteEls g.bytes).take (g.sure+N):=(by simp[byteEls,ydh]);have av:=zzK (G:=G) (g.bytes.take (g.sure+N)) (by rw[yan];omega);rw[hB]at av;have aw:=zae (g.bytes.take (g.sure+N));rw[hB]at aw;have bn:IntKind.i64.wrap ((g.sure:Int)+N)=((g.sure+N:Nat):Int):=wE (by omega);have bo:g.sure+N<=g.bytes.length:=(by omega);have ax:=(za1 g.bytes).1;have bp:IntKind.i64.wrap ((g.bytes.length:Int)-g.sure)=((g.bytes.length-g.sure:Nat):Int):=wE (by omega);rcases J with ⟨rfl,a6⟩|rfl
    all_goals
     simp[al,B,s,o,w,splice,au,l,Q];refine zai kI ?_;rintro r σ ⟨rfl,hr⟩;rcases hr with ⟨rfl,A⟩|⟨i0,kk,rfl,am,aa⟩
     focus
      have bq:N=0:=(by rw[hN];unfold zxv;rw[A]);have br:IntKind.i64.wrap (g.sure:Int)=((g.sure+N:Nat):Int):=(by rw[bq,wI (by omega)];rfl);have ah:(0:Int)<=((g.sure+N:Nat):Int):=(by omega);simp[br,ah, -Int.natCast_add]
     rotate_left
     focus
      have bz:=hki kk (yad am);have ai:=zsT am;obtain⟨b1,a5⟩:=yaa.1 ai;have ce:N=min kk.bytes.toNat (g.bytes.length-g.sure):=(by rw[hN];unfold zxv;rw[aa]);simp only[zrn]at ai a5;obtain⟨Y,hY⟩:∃Y:Int,(if((g.bytes.length-g.sure:Nat):Int)<kk.bytes then((g.bytes.length-g.sure:Nat):Int)else kk.bytes)=Y:=⟨_,rfl⟩;have bs:(if 0<Y then Y else 0)=(N:Int):=(by rw[<-hY];split<;>split at* <;>omega);have ah:(0:Int)<=((g.sure+N:Nat):Int):=(by omega);simp[Q,ai,ar,bp,hY,bs,bn,ah, -Int.natCast_add]
     all_goals
      rw[if_pos ax];simp[bo,ar];refine zad av ?_;have O:∀e:Entry,(T++ [e])[q]? =some (.row 97 3 X false):=λe=>zaN s _;have ay:zbv (cutF ks g)= [.int .i64 g.id,.lst ((byteEls g.bytes).take (g.sure+N)),.int .i64 (min (g.sure+N) g.bytes.length:Nat)]:=by unfold cutF zbv;rw[<-hN,<-hB];simp
      have bu:X.set k (zbv (cutF ks g))=X.set k [.int .i64 g.id,.lst ((byteEls g.bytes).take (g.sure+N)),.int .i64 (min (g.sure+N) g.bytes.length:Nat)]:=(by rw[ay]);simp[splice,aw,u,B,y,O,o,w,au,l,ab];refine nx_i ⟨k+1,X.set k (zbv (cutF ks g)),_,rfl,by omega,by simp[Q],by simp[u],by simp[C],by simp[R],by simp[al],by simp[L],by simp,zaR (O _) _,by simpa using o,zBc v rfl (by simp[zbv,AV.pure]) (by simp[zbv,AV.one]), ?_,by rw[y,bu]⟩;rw[<-z7U hg,List.take_set,t];simp[zau,List.map_set]
   .have ao:k=b.length:=(by omega);subst ao;rw[yav,ydx,ybi]at t;have az:=zbh (b.map (cutF ks));rw[ybn]at az;have a0:∀(σ:zaa) (m k:Nat),(X.mapM λ(c:List AV)=>c.mapM (fz σ m k))=some (X.map λc=>c.map zrj):=λσ m k=>z05 v.2.1;have P:(X.map λc=>c.map zrj).take b.length=zau (b.map (cutF ks)):=(by rw[<-ydh,t,znN]);rcases J with ⟨rfl,a6⟩|rfl
    .have bw:(X.map λc=>c.map zrj)=zau (b.map (cutF ks)):=(by rw[<-P,yal (by rw[ybn];omega)]);simp[u,C,y,hZ,splice,s,o,a0,bw,zaI]
    .have a1:∀a∈X,a.length=3:=v.1;simp[u,C,y,hZ,splice,s,o,a0,zaI];rw[if_pos a1,P];simp
theorem z0m (s:ShM)(h:RightM s.disk)(hl:Fits s.disk)(n:Nat)(hn:n<=255)(ks:List KeepM)(hk:ks.length<=1000000)(hki:∀k∈ks, -9223372036854775808<=k.bytes/\k.bytes<=9223372036854775807):
  PT 24 [.agg (shC s),.int .i64 n,.lst (zgT ks)] (λr=>r=.tup [.agg (zag (ze6 s.disk n ks)),.int .i64 0]):=by
 refine pwP zwE ?_;have a:=z67 (G:=G) s.disk h hl n hn ks hk hki;simp only[zag]at a;simp[zpb,shC];refine zad a ?_;simp[zag]
theorem zBz (s:ShM)(l:Int)(h: -1<=l):PT 23 [.agg (shC s),.int .i64 l] (λr=>r=.agg (shC {s with left:=l})):=by refine pwP zq5 ?_;have a:(if l< -1 then(-1:Int)else l)=l:=if_neg (by omega);simp[zlT,splice,shC,a]
end Go.Proofs.YtdbhocoeolhjhaaGreatDoor
namespace Go.Proofs
open Go.Shelf
def Tryz.sortRead_ren:Go.Shelf.Ren:=⟨fun|6=>119|15=>185|14=>184|28=>240|29=>241|20=>232|21=>233|22=>234|23=>235|24=>236|25=>237|26=>238|27=>239|46=>275|47=>276|48=>277|49=>278|50=>279|57=>310|n=>n,fun|22=>143|24=>149|25=>211|3=>3|39=>228|0=>0|53=>286|55=>199|4=>4|46=>296|45=>295|50=>86|5=>5|9=>9|66=>324|70=>328|76=>353|77=>354|n=>n,fun|n=>n⟩
theorem Tryz.sortRead:Go.Proofs.SlLaysF0.n6 Tryz.prog Tryz.sortRead_ren:={
 mixed:=by kernel_rfl
 f6:=⟨Tryz.f119.name,by decide,Tryz.func119.trans (congrArg some (by kernel_rfl))⟩
 f14:=⟨Tryz.f184.name,by decide,Tryz.func184.trans (congrArg some (by kernel_rfl))⟩
 f15:=Tryz.func185.trans (congrArg some (by kernel_rfl))
 f20:=⟨Tryz.f232.name,by decide,Tryz.func232.trans (congrArg some (by kernel_rfl))⟩
 f21:=⟨Tryz.f233.name,by decide,Tryz.func233.trans (congrArg some (by kernel_rfl))⟩
 f22:=⟨Tryz.f234.name,by decide,Tryz.func234.trans (congrArg some (by kernel_rfl))⟩
 f23:=⟨Tryz.f235.name,by decide,Tryz.func235.trans (congrArg some (by kernel_rfl))⟩
 f24:=⟨Tryz.f236.name,by decide,Tryz.func236.trans (congrArg some (by kernel_rfl))⟩
 f25:=⟨Tryz.f237.name,by decide,Tryz.func237.trans (congrArg some (by kernel_rfl))⟩
 f26:=⟨Tryz.f238.name,by decide,Tryz.func238.trans (congrArg some (by kernel_rfl))⟩
 f27:=⟨Tryz.f239.name,by decide,Tryz.func239.trans (congrArg some (by kernel_rfl))⟩
 f28:=Tryz.func240.trans (congrArg some (by kernel_rfl))
 f29:=Tryz.func241.trans (congrArg some (by kernel_rfl))
 f46:=⟨Tryz.f275.name,by decide,Tryz.func275.trans (congrArg some (by kernel_rfl))⟩
 f47:=Tryz.func276.trans (congrArg some (by kernel_rfl))
 f48:=Tryz.func277.trans (congrArg some (by kernel_rfl))
 f49:=⟨Tryz.f278.name,by decide,Tryz.func278.trans (congrArg some (by kernel_rfl))⟩
 f50:=⟨Tryz.f279.name,by decide,Tryz.func279.trans (congrArg some (by kernel_rfl))⟩
 f57:=⟨Tryz.f310.name,by decide,Tryz.func310.trans (congrArg some (by kernel_rfl))⟩
 t0:=Tryz.underlying0
 a0:=Tryz.isAgg0
 z0:=Tryz.sizeOf0
 v0:=Tryz.zeroValue0
 t3:=Tryz.underlying3
 a3:=Tryz.isAgg3
 z3:=Tryz.sizeOf3
 v3:=Tryz.zeroValue3
 t4:=Tryz.underlying4
 a4:=Tryz.isAgg4
 z4:=Tryz.sizeOf4
 v4:=Tryz.zeroValue4
 t5:=Tryz.underlying5
 a5:=Tryz.isAgg5
 z5:=Tryz.sizeOf5
 v5:=Tryz.zeroValue5
 t9:=Tryz.underlying9
 a9:=Tryz.isAgg9
 z9:=Tryz.sizeOf9
 v9:=Tryz.zeroValue9
 t22:=Tryz.underlying143
 a22:=Tryz.isAgg143
 z22:=Tryz.sizeOf143
 v22:=Tryz.zeroValue143
 t25:=Tryz.underlying211
 a25:=Tryz.isAgg211
 z25:=Tryz.sizeOf211
 v25:=Tryz.zeroValue211
 t39:=Tryz.underlying228
 a39:=Tryz.isAgg228
 z39:=Tryz.sizeOf228
 v39:=Tryz.zeroValue228
 t45:=Tryz.underlying295
 a45:=Tryz.isAgg295
 z45:=Tryz.sizeOf295
 v45:=Tryz.zeroValue295
 t46:=Tryz.underlying296
 a46:=Tryz.isAgg296
 z46:=Tryz.sizeOf296
 v46:=Tryz.zeroValue296
 t50:=Tryz.underlying86
 a50:=Tryz.isAgg86
 z50:=Tryz.sizeOf86
 v50:=Tryz.zeroValue86
 t53:=Tryz.underlying286
 a53:=Tryz.isAgg286
 z53:=Tryz.sizeOf286
 v53:=Tryz.zeroValue286
 t55:=Tryz.underlying199
 a55:=Tryz.isAgg199
 z55:=Tryz.sizeOf199
 v55:=Tryz.zeroValue199
 t66:=Tryz.underlying324
 a66:=Tryz.isAgg324
 z66:=Tryz.sizeOf324
 v66:=Tryz.zeroValue324
 t70:=Tryz.underlying328
 a70:=Tryz.isAgg328
 z70:=Tryz.sizeOf328
 v70:=Tryz.zeroValue328
 t76:=Tryz.underlying353
 a76:=Tryz.isAgg353
 z76:=Tryz.sizeOf353
 v76:=Tryz.zeroValue353
 t77:=Tryz.underlying354
 a77:=Tryz.isAgg354
 z77:=Tryz.sizeOf354
 v77:=Tryz.zeroValue354}
end Go.Proofs
namespace Go.Abs
open Go.Sf Go.Proofs Go.Sort Go.Proofs.YtdbhocoeolhjhaaGreatDoor
def rdC (r:RdM):List AV:= [.str r.name,.int .i64 r.id,.int .i64 r.seq,.str r.kind,.int .i64 1,.str r.path,.int .i64 1,.int .i64 500000,.lst rungsC,.int .i64 0,.int .i64 0,.int .i64 0,.int .i64 0,.lst (r.recs.map recC)]
def rdsC (l:List RdM):List (List AV):=l.map rdC
theorem zbA (l:List RdM):(rdsC l).length=l.length:=by simp[rdsC]
theorem zmT {l:List RdM}{i:Nat}{r:RdM}(h:l[i]? =some r):(rdsC l)[i]? =some (rdC r):=by simp[rdsC,h]
theorem zmJ (l:List RdM):Els 14 (rdsC l):=by refine⟨λc a=> ?_,λc a=> ?_,λc a=> ?_⟩<;>obtain⟨n,_,rfl⟩:=yar.1 a<;>simp[rdC,AV.pure,AV.one]
theorem z6t (r:RdM):∀c∈rdC r,c.one=true:=by simp[rdC,AV.one]
section
variable {κ:Key}{Im:Addr->Prop}{w:World}
abbrev SRd (κ:Key)(Im:Addr->Prop)(w:World):={x:RdM×List Value//VRL κ Im w (rdC x.1) x.2}
def zd6 (x:SRd κ Im w):List Value:=x.1.2
def rdR (x:SRd κ Im w):RdM:=x.1.1
theorem zo4 (x:SRd κ Im w):(zd6 x).length=14:=x.2.1.symm
theorem z2h (x:SRd κ Im w):∀v∈zd6 x,v.oneCell'=true:=ze1 x.2 (z6t _)
def zkK (l:List (SRd κ Im w)):List Value:=l.flatMap zd6
theorem zjM (l:List (SRd κ Im w)):(zkK l).length=l.length*14:=by
 induction l with
 |nil=>rfl
 |cons n l a=>simp only[zkK,yeh,yag,ybg]at*;rw[a,zo4];omega
theorem z6S {κ':Key}{Im':Addr->Prop}{w':World}(hg:∀(x:SRd κ Im w),VRL κ' Im' w' (rdC (rdR x)) (zd6 x))(l:List (SRd κ Im w)):VRL κ' Im' w' (rdsC (l.map rdR)).flatten (zkK l):=by
 induction l with
 |nil=>exact VRL.nil
 |cons n l a=>exact VRL.append (hg n) a
theorem z7g {l:List RdM}{xs:List Value}(h:VRL κ Im w (rdsC l).flatten xs):∃L:List (SRd κ Im w),L.map rdR=l/\zkK L=xs:=by
 induction l generalizing xs with
 |nil=>have:=h.1;simp[rdsC]at this;rw[yaq this.symm];exact⟨[],rfl,rfl⟩
 |cons n l f=>
  have e:(rdsC (n::l)).flatten=rdC n++(rdsC l).flatten:=rfl;rw[e]at h;have c:VRL κ Im w (rdC n) (xs.take 14):=by have:=h.take 14;rwa[yci (show(rdC n).length=14 from rfl)]at this
  have d:VRL κ Im w (rdsC l).flatten (xs.drop 14):=by have:=h.drop 14;rwa[List.drop_left' (show(rdC n).length=14 from rfl)]at this
  obtain⟨L,a,b⟩:=f d;refine⟨⟨(n,xs.take 14),c⟩::L,by simp[rdR,a], ?_⟩;show xs.take 14++zkK L=xs;rw[b,ya2]
theorem zsW [Inhabited (SRd κ Im w)](l:List (SRd κ Im w)):(flatK zd6 14 l.toArray).toList=zkK l:=by
 apply yeg;intro t;by_cases h:t<l.length*14
 .have c:t<(flatK zd6 14 l.toArray).toList.length:=by simp;omega
  have d:t<(zkK l).length:=by rw[zjM];exact h
  rw[yah c,yah d];congr 1;have j:(flatK zd6 14 l.toArray).toList[t]=(flatK zd6 14 l.toArray)[t]! :=by rw[getElem!_pos _ t (by simpa using c)];simp
  rw[j,get_flatK _ _ _ _ (by simpa using h)];clear c j
  induction l generalizing t with
  |nil=>simp at h
  |cons n l q=>
   have o:=zo4 n;by_cases m:t<14;.have e:t/14=0:=yen m;have f:t%14=t:=ybo m;have g:(n::l).toArray[0]! =n:=(by rw[getElem!_pos _ _ (by simp)];rfl);have a:t<(zd6 n).length:=(by omega);have i:(zkK (n::l))[t]=(zd6 n)[t]:=Option.some.inj (by rw[<-yah d,<-yah a];exact yap a);rw[e,f,g,i,getElem!_pos _ _ (by omega)]
   .obtain⟨t,rfl⟩:∃u,t=u+14:=⟨t-14,by omega⟩;have k:t<l.length*14:=(by simp at h;omega);have b:t<(zkK l).length:=(by rw[zjM];exact k);have:=q t k b;have e:(t+14)/14=t/14+1:=(by omega);have f:(t+14)%14=t%14:=(by omega);rw[e,f];have g:(zkK (n::l))[t+14]=(zkK l)[t]:=Option.some.inj (by rw[<-yah d,<-yah b];show(zd6 n++zkK l)[t+14]? =_;rw[yam (by omega),o,Nat.add_sub_cancel]);rw[g,<-this];have i:(n::l).toArray[t/14+1]! =l.toArray[t/14]! :=(by have p:t/14<l.length:=(by omega);rw[getElem!_pos _ _ (by simp;omega),getElem!_pos _ _ (by simpa using p)];simp);rw[i]
 .rw[ybv (by simp;omega),ybv (by rw[zjM];omega)]
end
variable {G:Globs}{base:Nat}{κ:Key}{Im:Addr->Prop}{w:World}{σ:zaa}
theorem zw5 {i e:Nat}{l:List RdM}(hs:SRel base κ Im σ w)(he:σ[i]? =some (.row e 14 (rdsC l) false))(hne:l≠ []):
  ∃(A:List (SRd κ Im w)) (g cap:Nat),A.map rdR=l/\κ i l.length=some (.slice (some ⟨g,0,none⟩) l.length cap)/\g<w.heap.size/\∀ [Inhabited (SRd κ Im w)],HoldsK zd6 14 w g 0 A.toArray/\∀(A':List (SRd κ Im w)) n os,A'.length=l.length->SRel base κ Im (σ.set i (.row e 14 (rdsC (A'.map rdR)) false)) (sortWorldK zd6 14 w g 0 n A'.toArray os)/\Grow base κ Im w κ Im (sortWorldK zd6 14 w g 0 n A'.toArray os):=by
 have hE:=hs.ent i _ he;unfold EOK at hE;obtain⟨v,xs,P,m,S,h0,h2,h1, -,p⟩:=hE;rw[zbA]at P m p;obtain⟨A,hA,rfl⟩:=z7g S;have Z:A.length=l.length:=by rw[<-hA];simp
 obtain⟨ai,m⟩:=m;rcases m with ⟨_,h⟩|⟨g,cap,u,rfl,y,Q,G,U,W,X⟩
 .exact absurd (yaq h) hne
 have M:g<w.heap.size:=(yba.1 Q).1;refine⟨A,g,cap,hA,P,M, ?_⟩;intro ah;have hH:HoldsK zd6 14 w g 0 A.toArray:=by
  intro j L;have aa:j<l.length*14:=by rw[<-Z];simpa using L
  refine⟨?_,by simp[World.frozen?,Q]⟩;have h3:(u.toList.take (l.length*14))[j]? =(zkK A)[j]? :=by rw[X]
  rw[ycg aa,<-zsW]at h3;simp only[World.cell?,Q,ybl];simp only[Option.isSome_none,ycr,if_false];rw[<-yb2,h3,yb2,getElem!_pos _ j L];simp
 refine⟨hH,λA' n os H=> ?_⟩;obtain⟨F,T⟩:∃F,F=flatK zd6 14 A'.toArray:=⟨_,rfl⟩;have ab:F.size=l.length*14:=by rw[T];simp[H]
 have ad:F.toList=zkK A':=by rw[T,zsW]
 have f:(A'.map rdR).length=l.length:=by simp[H]
 obtain⟨t,E⟩:∃t,t=sortWorldK zd6 14 w g 0 n A'.toArray os:=⟨_,rfl⟩;have o:t=grow (mapBlock (Sort.ahead w n) g (putCells id 0 F)) os:=by rw[E,T];rfl
 have B:t.heap[g]? =some (.cells (putCells id 0 F u) e (0,0)):=by rw[o,heap_grow_old _ _ (by simpa[mapBlock,Sort.ahead]using M)];simp[mapBlock,Sort.ahead,yew,Q,onCells]
 have d:∀k,k<w.heap.size->k≠g->t.heap[k]? =w.heap[k]? :=λk I hne=>by rw[o,heap_grow_old _ _ (by simpa[mapBlock,Sort.ahead]using I)];simp[mapBlock,Sort.ahead,yew,Ne.symm hne]
 have q:w.heap.size<=t.heap.size:=by rw[o];simp[grow,mapBlock,Sort.ahead]
 have C:(putCells id 0 F u).toList.take (l.length*14)=zkK A':=by
  apply yeg;intro j;by_cases L:j<l.length*14
  .rw[ycg L,yb2,<-ad,yb2];have ae:j<u.size:=by have:l.length*14<=cap*14:=yat _ G;omega
   simp[putCells,ab,L,ae]
  .rw[List.getElem?_take_eq_none (by omega),ybv (by rw[zjM,H];omega)]
 have af:∀a,Im a->a.block≠g:=λa R Y=>by have:=((p g rfl).1 a R Y).1;cases this
 have s:∀a,Im a->t.cell? a=w.cell? a:=λa R=>ya5 (d _ (hs.imlt a R).1 (af a R));rw[<-E];have ag:Go.RowKit.Below base w t:=⟨by rw[o];rfl,by rw[o];rfl,by rw[o];rfl,q,λk I=>d k (ycc I hs.hb) (by omega)⟩;have O:Grow base κ Im w κ Im t:=⟨λ_ _ _ h=>h,λ_ h=>h,s,λ_ h=> .inl h,ag⟩;have D:∀z:List RdM,z.length=l.length->(Entry.row e 14 (rdsC z) false).block κ i=some g:=λz J=>by simp[Entry.block,zbA,J,P,Value.ownBlock]
 refine⟨hs.set he (.row e 14 (rdsC (A'.map rdR)) false) (λ_ _ _ h=>h) (λ_ _ _ h=> .inl h) (by simp[Entry.ver,zbA,H]) (λ_ h=>h) s (λ_ h=> .inl h) q (λk I K=>d k I λh=>K (by rw[D l rfl,h])) ?_ (λb Y=> .inr (by rw[D l rfl,<-Y,D _ f])),O⟩;unfold EOK;refine⟨.slice (some ⟨g,0,none⟩) l.length cap,zkK A',by rw[zbA,f];exact P,⟨by rw[zjM,zbA,f,H],.inr ⟨g,cap,_,by rw[zbA,f],y,B,by rw[zbA,f];exact G,U,by simp[putCells,W],by rw[zbA,f];exact C⟩⟩,z6S (λx=>VRL.grow O x.2) A',by decide,(zmJ _).1,λc hc=> ?_,λh=>(by cases h), ?_⟩;.obtain⟨r,_,rfl⟩:=yar.1 hc;exact z6t r
 rw[zbA,f];exact p
end Go.Abs
namespace Go.Proofs.YtdbhocoeolhjhaaGreatDoor
open Go.Shelf Go.RowKit Go.Lib Go.Sort Go.Proofs Go.Sf
set_option maxHeartbeats 1000000 in
theorem z9a (x:ByteArray)(W:World):Calls Tryz.prog 186 #[.string x] W λe w'=>e=.returned (.bool false)/\w'=W:=by
 go_enter Tryz.func186,Tryz.ntmps186
 go_wp2
 go_ret
 exact⟨rfl,rfl⟩
def cmpB (x y:ByteArray):Int:=if Op.bytesLess x.toList y.toList=true then -1 else if(!x.toList==y.toList)=true then 1 else 0
set_option maxHeartbeats 1000000 in
theorem z86 (x y:ByteArray)(W:World):Calls Tryz.prog 122 #[.string x,.string y] W λe w'=>e=.returned (.int .i64 (cmpB x y))/\w'=W:=by
 have a:=z9a
 go_enter Tryz.func122,Tryz.ntmps122
 unfold cmpB
 go_wp2_with (go_at_call 186;refine(a _ _).mono ?_;rintro e w' ⟨rfl,rfl⟩)
 all_goals go_ret
 all_goals exact⟨rfl,rfl⟩
def or3 (a b c:Int):Int:=if a≠0 then a else if b≠0 then b else c
set_option maxHeartbeats 1000000 in
theorem z4X (blk cap:Nat)(a b c:Int)(W:World)(h0:W.cell? ⟨blk,0,none⟩=some (.int .i64 a))(h1:W.cell? ⟨blk,1,none⟩=some (.int .i64 b))(h2:W.cell? ⟨blk,2,none⟩=some (.int .i64 c)):
 Calls Tryz.prog 121 #[.slice (some ⟨blk,0,none⟩) 3 cap] W λe w'=>e=.returned (.int .i64 (or3 a b c))/\w'=W:=by
 go_enter Tryz.func121,Tryz.ntmps121
 go_wp2
 go_rounds 4
 all_goals go_ret
 all_goals exact⟨by simp_all[or3],rfl⟩
theorem z3u (a b c:Int)(W:World):Calls Tryz.prog 121 #[.slice (some ⟨W.heap.size,0,none⟩) 3 3] (W.alloc (.cells #[.int .i64 a,.int .i64 b,.int .i64 c] 3)) λe w'=>e=.returned (.int .i64 (or3 a b c))/\w'=W.alloc (.cells #[.int .i64 a,.int .i64 b,.int .i64 c] 3):=z4X _ _ a b c _ (by rw[ydl _ _ _ _ rfl];rfl) (by rw[ydl _ _ _ _ rfl];rfl) (by rw[ydl _ _ _ _ rfl];rfl)
theorem z7J (W:World)(c d:Array Value)(t:TypeId):(∀j,((W.alloc (.cells c t)).alloc (.cells d t)).cell? ⟨W.heap.size,j,none⟩=c[j]?)/\∀j,((W.alloc (.cells c t)).alloc (.cells d t)).cell? ⟨W.heap.size+1,j,none⟩=d[j]? :=by
 constructor;.intro j;rw[World.cell?_alloc_lt _ _ _ (by show W.heap.size<(W.heap.push _).size;rw[Array.size_push];omega),ydl _ _ _ _ rfl]
 .intro j;rw[ydl _ _ _ _ (by show W.heap.size+1=(W.heap.push _).size;rw[Array.size_push])]
set_option maxRecDepth 100000 in
set_option maxHeartbeats 4000000 in
theorem z2b (n1 n2 k1 k2:ByteArray)(a1 b1 a2 b2:Int)(x0 x1 x2 x3 x4 x5 x6 x7 x8 x9 y0 y1 y2 y3 y4 y5 y6 y7 y8 y9:Value)(W:World):Calls Tryz.prog 120 #[.agg #[.string n1,.int .i64 a1,.int .i64 b1,.string k1,x0,x1,x2,x3,x4,x5,x6,x7,x8,x9],.agg #[.string n2,.int .i64 a2,.int .i64 b2,.string k2,y0,y1,y2,y3,y4,y5,y6,y7,y8,y9]] W λe w'=>e=.returned (.int .i64 (or3 (Lib.compareInt a1 a2) (Lib.compareInt b1 b2) (cmpB k1 k2)))/\∃q os',w'=grow (W.drewN q) os':=by
 have l:=λx y j=>Tryz.cmp_Compare_int x y j;have o:=λx y j=>z86 x y j
 go_enter Tryz.func120,Tryz.ntmps120
 go_wp2
 obtain⟨d,h,n,r,s,t,u,v,w,f,k⟩:∃d h,(∃q os',d=grow (W.drewN q) os')/\d.cell? ⟨h,1,none⟩=some (.int .i64 a1)/\d.cell? ⟨h,2,none⟩=some (.int .i64 b1)/\d.cell? ⟨h,3,none⟩=some (.string k1)/\d.cell? ⟨h+1,1,none⟩=some (.int .i64 a2)/\d.cell? ⟨h+1,2,none⟩=some (.int .i64 b2)/\d.cell? ⟨h+1,3,none⟩=some (.string k2)/\d={(W.alloc (.cells #[.string n1,.int .i64 a1,.int .i64 b1,.string k1,x0,x1,x2,x3,x4,x5,x6,x7,x8,x9] 149)).alloc (.cells #[.string n2,.int .i64 a2,.int .i64 b2,.string k2,y0,y1,y2,y3,y4,y5,y6,y7,y8,y9] 149)with drawn:=W.drawn+1}/\h=W.heap.size:=by obtain⟨g,i⟩:=z7J W #[.string n1,.int .i64 a1,.int .i64 b1,.string k1,x0,x1,x2,x3,x4,x5,x6,x7,x8,x9] #[.string n2,.int .i64 a2,.int .i64 b2,.string k2,y0,y1,y2,y3,y4,y5,y6,y7,y8,y9] 149;refine⟨{(W.alloc (.cells #[.string n1,.int .i64 a1,.int .i64 b1,.string k1,x0,x1,x2,x3,x4,x5,x6,x7,x8,x9] 149)).alloc (.cells #[.string n2,.int .i64 a2,.int .i64 b2,.string k2,y0,y1,y2,y3,y4,y5,y6,y7,y8,y9] 149)with drawn:=W.drawn+1},W.heap.size,⟨1, #[.cells #[.string n1,.int .i64 a1,.int .i64 b1,.string k1,x0,x1,x2,x3,x4,x5,x6,x7,x8,x9] 149]++ #[.cells #[.string n2,.int .i64 a2,.int .i64 b2,.string k2,y0,y1,y2,y3,y4,y5,y6,y7,y8,y9] 149], ?_⟩,(g 1).trans rfl,(g 2).trans rfl,(g 3).trans rfl,(i 1).trans rfl,(i 2).trans rfl,(i 3).trans rfl,rfl,rfl⟩;rw[alloc_eq_grow,alloc_eq_grow,grow_grow];rfl
 refine wp_region_still_tail 21 (by kernel_rfl) (by kernel_rfl) ?_;simp only[yd4,List.take_zero,List.drop_succ_cons,List.drop_zero];have m:((W.alloc (.cells #[.string n1,.int .i64 a1,.int .i64 b1,.string k1,x0,x1,x2,x3,x4,x5,x6,x7,x8,x9] 149)).alloc (.cells #[.string n2,.int .i64 a2,.int .i64 b2,.string k2,y0,y1,y2,y3,y4,y5,y6,y7,y8,y9] 149)).drawn=W.drawn:=rfl;rw[m,<-f,<-k];clear f k m
 iterate 6 still_step
 still_call (l _ _ _)
 iterate 6 still_step
 still_call (l _ _ _)
 iterate 6 still_step
 still_call (o _ _ _)
 refine wpStill_nil ?_;have p:=λa b c=>z3u a b c d
 go_wp2_with (go_at_call 121;refine(p _ _ _).mono ?_;rintro e w' ⟨rfl,rfl⟩)
 go_ret
 obtain⟨q,os',rfl⟩:=n;exact⟨rfl,q,_,by rw[alloc_eq_grow,grow_grow]⟩
end Go.Proofs.YtdbhocoeolhjhaaGreatDoor
namespace Go.Ble
def dots:List UInt8->List (List UInt8)
 | []=> [[]]
 |c::s=>if c=46 then []::dots s else match dots s with
  | []=> [[c]]
  |p::ps=>(c::p)::ps
theorem zw8:∀{s:List UInt8},46∉s->dots s= [s]
 | [],_=>rfl
 |c::s,h=>by have a:c≠46:=λe=>h (by simp[e]);have b:46∉s:=λe=>h (by simp[e]);unfold dots;rw[if_neg a,zw8 b]
theorem z0I:∀{a t:List UInt8},46∉a->dots (a++46::t)=a::dots t
 | [],t,_=>by rw[yco,dots,if_pos rfl]
 |c::a,t,h=>by have b:c≠46:=λe=>h (by simp[e]);have d:46∉a:=λe=>h (by simp[e]);rw[ybp,dots,if_neg b,z0I d]
theorem zAt (s:List UInt8)(i:Nat):Lib.occAt s [46] i=true↔s[i]? =some 46:=by
 unfold Lib.occAt;constructor
 .intro h;obtain⟨t,a⟩:=List.isPrefixOf_iff_prefix.1 h;have:(s.drop i)[0]? =some 46:=by rw[<-a];rfl
  simpa using this
 .intro h;obtain⟨b,c⟩:=yaa.1 h;rw[ybd b,c];simp
theorem zqc {s:List UInt8}(h:46∉s):Lib.index s [46]= -1:=by
 refine Lib.index_none λj _=> ?_;cases a:Lib.occAt s [46] j with
 |false=>rfl
 |true=>exact absurd (yad ((zAt s j).1 a)) h
theorem z4z {a t:List UInt8}(h:46∉a):Lib.index (a++46::t) [46]=a.length:=by
 refine Lib.index_first (by simp) ((zAt _ _).2 (by simp)) λj c=> ?_;cases d:Lib.occAt (a++46::t) [46] j with
 |false=>rfl
 |true=>have b:=(zAt _ j).1 d;rw[yap c]at b;exact absurd (yad b) h
theorem zA3:∀s:List UInt8,46∉s∨∃a t,s=a++46::t/\46∉a
 | []=> .inl (by simp)
 |c::s=>by
  by_cases b:c=46;.subst b;exact .inr ⟨[],s,rfl,by simp⟩
  rcases zA3 s with h|⟨a,t,rfl,h⟩;.exact .inl (by simp[h];exact λe=>b e.symm)
  .exact .inr ⟨c::a,t,rfl,by simp[h];exact λe=>b e.symm⟩
theorem zvK:∀(n:Nat) (s:List UInt8),s.length<=n->Lib.splitK [46] 0 (Lib.count s [46]) s=dots s:=by
 intro n
 induction n with
 |zero=>intro s c;have:s= []:=yaq (by omega);subst this;rw[Lib.count_miss (zqc (by simp))];rfl
 |succ n f=>
  intro s c;rcases zA3 s with h|⟨a,t,rfl,h⟩
  .rw[Lib.count_miss (zqc h),zw8 h];rfl
  .have e:=z4z (t:=t) h;have d:(a++46::t).drop (a.length+1)=t:=(by rw[<-yeq,List.drop_left];rfl);have b:(a++46::t).drop (a.length+ [(46:UInt8)].length)=t:=d;rw[Lib.count_hit (by simp) e,b,ye6,Lib.splitK,if_neg (by rw[e];simp),e,z0I h];simp only[ydr,ycf,List.take_left,b];rw[f t (by simp at c;omega)]
theorem ztv (s:List UInt8):Lib.splitK [46] 0 (Lib.count s [46]) s=dots s:=zvK _ s (yaf _)
theorem zq4:∀s:List UInt8,(dots s).length<=s.length+1
 | []=>yaf _
 |c::s=>by
  have:=zq4 s;unfold dots;split;.simp;exact this
  .split;.simp
   .rename_i p a h;rw[h]at this;simp at this⊢;omega
theorem z1U (s:List UInt8):(dots s).length=Lib.count s [46]+1:=by
 rw[<-ztv];have:∀(n:Nat) (s:List UInt8),s.length<=n->(Lib.splitK [46] 0 (Lib.count s [46]) s).length=Lib.count s [46]+1:=by
  intro n
  induction n with
  |zero=>intro s b;have:s= []:=yaq (by omega);subst this;rw[Lib.count_miss (zqc (by simp))];rfl
  |succ n d=>
   intro s b;rcases zA3 s with h|⟨a,t,rfl,h⟩
   .rw[Lib.count_miss (zqc h)];rfl
   .have e:=z4z (t:=t) h;have c:(a++46::t).drop (a.length+ [(46:UInt8)].length)=t:=(by show(a++46::t).drop (a.length+1)=t;rw[<-yeq,List.drop_left];rfl);rw[Lib.count_hit (by simp) e,c,ye6 1,Lib.splitK,if_neg (by rw[e];simp),e];simp only[ydr];rw[c,ybg,d t (by simp at b;omega)]
 exact this _ s (yaf _)
end Go.Ble
namespace Go.Proofs
open Go.Shelf
def Tryz.laysC174_ren:Go.Shelf.Ren:=⟨fun|174=>271|247=>305|245=>306|287=>327|279=>328|280=>329|281=>330|282=>331|321=>341|322=>342|316=>343|171=>96|205=>344|243=>168|246=>221|283=>266|284=>267|285=>268|286=>269|129=>241|317=>298|318=>299|319=>300|320=>301|337=>321|338=>322|n=>n,fun|9=>9|3=>3|2=>2|75=>321|85=>322|4=>4|167=>369|5=>5|53=>199|175=>370|46=>228|168=>372|37=>70|0=>0|210=>381|21=>21|127=>388|145=>391|143=>389|171=>315|173=>317|212=>344|51=>286|20=>20|213=>345|232=>376|233=>377|80=>393|n=>n,fun|15=>5|16=>6|17=>1|18=>3|19=>4|n=>n⟩
theorem Tryz.laysC174:Go.Proofs.LaysC.n174 Tryz.prog Tryz.laysC174_ren:={
 mixed:=by kernel_rfl
 f129:=Tryz.func241.trans (congrArg some (by kernel_rfl))
 f171:=Tryz.func96.trans (congrArg some (by kernel_rfl))
 f174:=Tryz.func271.trans (congrArg some (by kernel_rfl))
 f205:=Tryz.func344.trans (congrArg some (by kernel_rfl))
 f243:=Tryz.func168.trans (congrArg some (by kernel_rfl))
 f245:=Tryz.func306.trans (congrArg some (by kernel_rfl))
 f246:=Tryz.func221.trans (congrArg some (by kernel_rfl))
 f247:=Tryz.func305.trans (congrArg some (by kernel_rfl))
 f279:=Tryz.func328.trans (congrArg some (by kernel_rfl))
 f280:=Tryz.func329.trans (congrArg some (by kernel_rfl))
 f281:=Tryz.func330.trans (congrArg some (by kernel_rfl))
 f282:=Tryz.func331.trans (congrArg some (by kernel_rfl))
 f283:=Tryz.func266.trans (congrArg some (by kernel_rfl))
 f284:=Tryz.func267.trans (congrArg some (by kernel_rfl))
 f285:=Tryz.func268.trans (congrArg some (by kernel_rfl))
 f286:=Tryz.func269.trans (congrArg some (by kernel_rfl))
 f287:=Tryz.func327.trans (congrArg some (by kernel_rfl))
 f316:=Tryz.func343.trans (congrArg some (by kernel_rfl))
 f317:=Tryz.func298.trans (congrArg some (by kernel_rfl))
 f318:=Tryz.func299.trans (congrArg some (by kernel_rfl))
 f319:=Tryz.func300.trans (congrArg some (by kernel_rfl))
 f320:=Tryz.func301.trans (congrArg some (by kernel_rfl))
 f321:=Tryz.func341.trans (congrArg some (by kernel_rfl))
 f322:=Tryz.func342.trans (congrArg some (by kernel_rfl))
 f337:=Tryz.func321.trans (congrArg some (by kernel_rfl))
 f338:=Tryz.func322.trans (congrArg some (by kernel_rfl))
 t0:=Tryz.underlying0
 a0:=Tryz.isAgg0
 z0:=Tryz.sizeOf0
 v0:=Tryz.zeroValue0
 t2:=Tryz.underlying2
 a2:=Tryz.isAgg2
 z2:=Tryz.sizeOf2
 v2:=Tryz.zeroValue2
 t3:=Tryz.underlying3
 a3:=Tryz.isAgg3
 z3:=Tryz.sizeOf3
 v3:=Tryz.zeroValue3
 t4:=Tryz.underlying4
 a4:=Tryz.isAgg4
 z4:=Tryz.sizeOf4
 v4:=Tryz.zeroValue4
 t5:=Tryz.underlying5
 a5:=Tryz.isAgg5
 z5:=Tryz.sizeOf5
 v5:=Tryz.zeroValue5
 t9:=Tryz.underlying9
 a9:=Tryz.isAgg9
 z9:=Tryz.sizeOf9
 v9:=Tryz.zeroValue9
 t20:=Tryz.underlying20
 a20:=Tryz.isAgg20
 z20:=Tryz.sizeOf20
 v20:=Tryz.zeroValue20
 t21:=Tryz.underlying21
 a21:=Tryz.isAgg21
 z21:=Tryz.sizeOf21
 v21:=Tryz.zeroValue21
 t37:=Tryz.underlying70
 a37:=Tryz.isAgg70
 z37:=Tryz.sizeOf70
 v37:=Tryz.zeroValue70
 t46:=Tryz.underlying228
 a46:=Tryz.isAgg228
 z46:=Tryz.sizeOf228
 v46:=Tryz.zeroValue228
 t51:=Tryz.underlying286
 a51:=Tryz.isAgg286
 z51:=Tryz.sizeOf286
 v51:=Tryz.zeroValue286
 t53:=Tryz.underlying199
 a53:=Tryz.isAgg199
 z53:=Tryz.sizeOf199
 v53:=Tryz.zeroValue199
 t75:=Tryz.underlying321
 a75:=Tryz.isAgg321
 z75:=Tryz.sizeOf321
 v75:=Tryz.zeroValue321
 t85:=Tryz.underlying322
 a85:=Tryz.isAgg322
 z85:=Tryz.sizeOf322
 v85:=Tryz.zeroValue322
 t127:=Tryz.underlying388
 a127:=Tryz.isAgg388
 z127:=Tryz.sizeOf388
 v127:=Tryz.zeroValue388
 t143:=Tryz.underlying389
 a143:=Tryz.isAgg389
 z143:=Tryz.sizeOf389
 v143:=Tryz.zeroValue389
 t145:=Tryz.underlying391
 a145:=Tryz.isAgg391
 z145:=Tryz.sizeOf391
 v145:=Tryz.zeroValue391
 t167:=Tryz.underlying369
 a167:=Tryz.isAgg369
 z167:=Tryz.sizeOf369
 v167:=Tryz.zeroValue369
 t168:=Tryz.underlying372
 a168:=Tryz.isAgg372
 z168:=Tryz.sizeOf372
 v168:=Tryz.zeroValue372
 t171:=Tryz.underlying315
 a171:=Tryz.isAgg315
 z171:=Tryz.sizeOf315
 v171:=Tryz.zeroValue315
 t173:=Tryz.underlying317
 a173:=Tryz.isAgg317
 z173:=Tryz.sizeOf317
 v173:=Tryz.zeroValue317
 t175:=Tryz.underlying370
 a175:=Tryz.isAgg370
 z175:=Tryz.sizeOf370
 v175:=Tryz.zeroValue370
 t210:=Tryz.underlying381
 a210:=Tryz.isAgg381
 z210:=Tryz.sizeOf381
 v210:=Tryz.zeroValue381
 t212:=Tryz.underlying344
 a212:=Tryz.isAgg344
 z212:=Tryz.sizeOf344
 v212:=Tryz.zeroValue344
 t213:=Tryz.underlying345
 a213:=Tryz.isAgg345
 z213:=Tryz.sizeOf345
 t232:=Tryz.underlying376
 a232:=Tryz.isAgg376
 z232:=Tryz.sizeOf376
 v232:=Tryz.zeroValue376
 t233:=Tryz.underlying377
 a233:=Tryz.isAgg377
 z233:=Tryz.sizeOf377
 v233:=Tryz.zeroValue377
 g15:=by kernel_rfl
 g16:=by kernel_rfl
 g17:=by kernel_rfl
 g18:=by kernel_rfl
 g19:=by kernel_rfl
 t80:=Tryz.underlying393
 a80:=Tryz.isAgg393
 z80:=Tryz.sizeOf393
 v80:=Tryz.zeroValue393
 i0:=by kernel_rfl
 i2:=by kernel_rfl
 i3:=by kernel_rfl
 i4:=by kernel_rfl
 i5:=by kernel_rfl
 i9:=by kernel_rfl
 i20:=by kernel_rfl
 i21:=by kernel_rfl
 i37:=by kernel_rfl
 i46:=by kernel_rfl
 i51:=by kernel_rfl
 i53:=by kernel_rfl
 i75:=by kernel_rfl
 i80:=by kernel_rfl
 i85:=by kernel_rfl
 i127:=by kernel_rfl
 i143:=by kernel_rfl
 i145:=by kernel_rfl
 i167:=by kernel_rfl
 i168:=by kernel_rfl
 i171:=by kernel_rfl
 i173:=by kernel_rfl
 i175:=by kernel_rfl
 i210:=by kernel_rfl
 i212:=by kernel_rfl
 i232:=by kernel_rfl
 i233:=by kernel_rfl
 m15:=by kernel_rfl
 m16:=by kernel_rfl
 m17:=by kernel_rfl
 m18:=by kernel_rfl
 m19:=by kernel_rfl
 c0:=by kernel_rfl
 c2:=by kernel_rfl
 c3:=by kernel_rfl
 c4:=by kernel_rfl
 c5:=by kernel_rfl
 c9:=by kernel_rfl
 c20:=by kernel_rfl
 c21:=by kernel_rfl
 c37:=by kernel_rfl
 c46:=by kernel_rfl
 c51:=by kernel_rfl
 c53:=by kernel_rfl
 c75:=by kernel_rfl
 c80:=by kernel_rfl
 c85:=by kernel_rfl
 c127:=by kernel_rfl
 c143:=by kernel_rfl
 c145:=by kernel_rfl
 c167:=by kernel_rfl
 c168:=by kernel_rfl
 c171:=by kernel_rfl
 c173:=by kernel_rfl
 c175:=by kernel_rfl
 c210:=by kernel_rfl
 c212:=by kernel_rfl
 c213:=by kernel_rfl
 c232:=by kernel_rfl
 c233:=by kernel_rfl}
open Go.RowKit in
theorem Tryz.strconv_ParseInt_10_at64_ok (s:ByteArray)(hmax:s.size<=9223372036854775806)(v:Int)(h:Lib.parseIntB 64 s.data.toList=.ok v)(w:World):
  Calls Tryz.prog 271 #[.string s,.int .i64 10,.int .i64 64] w λe w'=>e=.returned (.tuple #[.int .i64 v,.nilIface])/\(w'=w∨∃t,w'=Lib.bytesWorld w 5 t):=Any.strconv_ParseInt_10_at64_ok Tryz.laysC174 s hmax v h w
end Go.Proofs
namespace Go.Abs
open Go.RowKit
theorem z79 {G:Globs}{base:Nat}{κ:Key}{Im:Addr->Prop}{w w':World}{t:TypeId}{fz:Nat×Nat}{A:Nat}{cur:Array Value}{l:List (List UInt8)}(hs:SRel base κ Im [] w)(hb:Below w.heap.size w w')(hl:l.length<=9223372036854775807)
  (hA:w.heap.size<=A) (hg:w'.heap[A]? =some (.cells cur t fz)) (hcur:cur.toList=l.map λs=>Value.string ⟨s.toArray⟩):
  ∃Im',SRel base κ Im' [] w'/\Grow base κ Im w κ Im' w'/\IR Im' w' (.lst (l.map λs=> [.str s])) (.slice (some ⟨A,0,none⟩) l.length l.length):=by
 have m:A<w'.heap.size:=by
  rcases ydm A w'.heap.size with h|h;.exact h
  .rw[Array.getElem?_eq_none h]at hg;cases hg
 have f:∀k (d:k<l.length),w'.cell? ⟨A,0+(k*1+0),none⟩=some (.string ⟨(l[k]).toArray⟩):=λk d=>by
  have e:cur[0+(k*1+0)]? =some (.string ⟨(l[k]).toArray⟩):=by rw[<-yb2,hcur];simp[d]
  simp[World.cell?,hg];simpa using e
 refine⟨λa=>Im a∨(a.block=A/\a.spot=none),hs.world (λ_ h=> .inl h) (λa h=>h.imp id λh=>⟨by rw[h.1];exact hA,by rw[h.1];exact m,h.2⟩) hb.size hb.block,⟨λ_ _ _ h=>h,λ_ h=> .inl h,λa p=>ya5 (hb.block _ (hs.imlt a p).1),λa h=>h.imp id λh=>by rw[h.1];exact ybu hs.hb hA,hb.mono hs.hb⟩, ?_⟩;have b:(l.map λs=> [AV.str s]).length=l.length:=by simp
 have:=IR.lst (Im:=λa=>Im a∨(a.block=A/\a.spot=none)) (w:=w') (l.map λs=> [AV.str s]) 1 A 0 l.length (λk _=> .string ⟨(l.getD k []).toArray⟩) (by simp) hl (λc i=>by simp only[yar]at i;obtain⟨x,_,rfl⟩:=i;rfl) (λc i x n=>by simp only[yar]at i;obtain⟨y,_,rfl⟩:=i;simp at n;subst n;rfl) (λk j d o=>by
   rw[b]at d;have g:j=0:=by omega
   subst g;exact⟨.inr ⟨rfl,rfl⟩,by rw[f k d];simp[List.getD,d]⟩)
  (λk j d o=>by
   rw[b]at d;have g:j=0:=by simpa using o
   subst g;simp only[yc6,yb8];have e:l.getD k []=l[k]:=by simp[List.getD,d]
   rw[e];exact .str _)
 rw[b]at this;exact this
end Go.Abs
namespace Go.Proofs.YtdbhocoeolhjhaaGreatDoor
open Go.Abs Go.RowKit Go.Sf Go.Ble
variable {G:Globs}
class GMaxL [Globs]:Prop where
 mx:∃m:Int,(0,[AV.int .i64 m])∈Globs.tab
def txts (l:List Txt):List (List AV):=l.map λs=> [.str s]
theorem z5H [GMaxL](s:List UInt8)(hs:s.length<=1000000):PT 228 [.str s,.str [46]] (λr=>r=.lst (txts (dots s))):=by
 intro base κ Im w u g o;obtain⟨p,q,rfl⟩:∃p q,u= [p,q]:=by
  match u,o.1 with
  | [a,b],_=>exact⟨a,b,rfl⟩
 have v:=(o.2 0 (by simp) (by simp)).str_inv;have z:=(o.2 1 (by simp) (by simp)).str_inv;simp only[yb8,ydo]at v z;subst v z;obtain⟨m,B⟩:=GMaxL.mx;obtain⟨d,j,k⟩:=z3o g B;have c:w.cell? ⟨0,0,none⟩=some (.int .i64 m):=by have i:=j 0 (by simp);have f:=k 0 (by simp);simp only[yb8]at f;generalize d 0=y at i f;cases f;exact i
 have G:=zq4 s;have D:Lib.countB ⟨s.toArray⟩ ⟨#[46]⟩+1=(dots s).length:=by rw[z1U]
 have E:(Lib.splitB ⟨#[46]⟩ 0 (Lib.countB ⟨s.toArray⟩ ⟨#[46]⟩) ⟨s.toArray⟩).map Value.string=(dots s).map λx=>Value.string ⟨x.toArray⟩:=by
  have h:=Lib.splitB_data ⟨#[46]⟩ 0 (Lib.countB ⟨s.toArray⟩ ⟨#[46]⟩) ⟨s.toArray⟩;have F:(Lib.splitB ⟨#[46]⟩ 0 (Lib.countB ⟨s.toArray⟩ ⟨#[46]⟩) ⟨s.toArray⟩).map (·.data.toList)=dots s:=by rw[h];exact ztv s
  rw[<-F,yd0];rfl
 refine(Tryz.strings_Split ⟨s.toArray⟩ ⟨#[46]⟩ m w (by show s.toArray.size<_;simp;omega) c (by decide)).mono ?_;rintro e w' ⟨rfl,rfl⟩;rw[D,E];obtain⟨n,i,f,C⟩:=z79 (A:=w.heap.size) (l:=dots s) (t:=9) (fz:=(0,0)) (cur:=((dots s).map λl=>Value.string ⟨l.toArray⟩).toArray) g (w':=w.alloc (.cells ((dots s).map λl=>Value.string ⟨l.toArray⟩).toArray 9)) (Go.RowKit.Below.alloc (Go.RowKit.Below.refl _ _) (yaf _) _) (by omega) (yaf _) (Go.MapKept.heap_alloc w _).1 (by simp);exact⟨_,[],_,κ,n,rfl,⟨rfl,rfl⟩,i,f,.im _ _ C⟩
theorem z5D:∀i<100,Lib.parseIntB 64 (Lib.decDigits i)=.ok (i:Int):=by decide+kernel
theorem z5M (i:Nat)(hi:i<100):PT 271 [.str (Lib.decDigits i),.int .i64 10,.int .i64 64] (λr=>r=.tup [.int .i64 i,.nili]):=zBi λbase κ Im w v u x l b c d=>by
  cases b.str_inv;cases c.int_inv;cases d.int_inv;have m:=zu2 i hi;refine(Tryz.strconv_ParseInt_10_at64_ok ⟨(Lib.decDigits i).toArray⟩ (by simp[ByteArray.size];omega) (i:Int) (by simpa using z5D i hi) w).mono ?_;rintro e k ⟨rfl,a⟩;refine⟨.tup [.int .i64 i,.nili],_,rfl,rfl, ?_,λf=> .tup _ [_,_] rfl λj g h=>by
   match j,g with
   |0,_=>exact .int _ _
   |1,_=>exact .nili⟩
  rcases a with rfl|⟨t,rfl⟩;.exact Go.RowKit.Below.refl _ _
  .exact Lib.bytesWorld_below _ _ _
theorem z1X (i:Nat)(hi:i<100):PT 272 [.int .i64 i,.int .i64 10] (λr=>r=.str (Lib.decDigits i)):=by refine zrr λbase κ Im w v u h a b=> ?_;have d:=a.int_inv;have f:=b.int_inv;subst d;subst f;refine(Tryz.strconv_FormatInt_10_small i hi w).mono ?_;rintro e g ⟨rfl,rfl⟩;exact⟨_,_,rfl,rfl,Go.RowKit.Below.refl _ _,λc=> .str _⟩
theorem zxn (i:Nat)(h1:1<=i)(hi:i<100):PT 229 [.str (Lib.decDigits i)] (λr=>r=.tup [.int .i64 i,.bool true]):=by
 refine pwP zs6 ?_;have a:(1:Int)<=i:=by omega
 have b:(i:Int)<=1099511627776:=by omega
 have c:i<=1099511627776:=by omega
 simp[zla];refine zad (z5M i hi) ?_;simp[a,b];refine zad (z1X i hi) ?_;simp
theorem z5V:∀id<71,∀q<70,∀k∈ [kindP,kindC,zdv],dots (zaj id q k)= [Lib.decDigits id,Lib.decDigits q,k.drop 1]:=by decide+kernel
theorem zpV [GMaxL](id q:Nat)(kd:Txt)(h1:1<=id)(h5:id<71)(q1:1<=q)(q70:q<70)(hk:kd=kindP∨kd=kindC∨kd=zdv):PT 180 [.str (zaj id q kd)] (λr=>r=.tup [.agg [.str (zaj id q kd),.int .i64 id,.int .i64 q,.str kd],.bool (decide (kd≠zdv))]):=by
 refine pwP ztZ ?_;have a:kd∈ [kindP,kindC,zdv]:=by rcases hk with rfl|rfl|rfl<;>simp
 have c:=z5V id h5 q q70 kd a;have f:=(ztb id h5 q q70 kd a).2;have b:=z5H (G:=G) (zaj id q kd) (by omega);rw[c]at b;simp only[txts,yce,List.map_nil]at b;have d:=zxn (G:=G) id h1 (by omega);have e:=zxn (G:=G) q q1 (by omega);rcases hk with rfl|rfl|rfl
 all_goals
  simp[znh];refine zad b ?_;simp;refine zad d ?_;simp;refine zad e ?_;simp[kindP,kindC,zdv,splice]
end Go.Proofs.YtdbhocoeolhjhaaGreatDoor
namespace Go.Proofs.YtdbhocoeolhjhaaGreatDoor
open Go.Abs Go.RowKit Go.Sf Go.Num
variable {G:Globs}
theorem z2q (t1 t2:TypeId)(c1 c2:List AV):AT 124 [.agg schC] [.var t1 c1,.var t2 c2] (λr σ'=>r=.tup [.agg [.int .i64 1,.int .i64 500000,.row 7 2],.int .i64 0]/\∃a b c d e tl,σ'=.var t1 c1:: .var t2 c2::a::b::c::d::e:: .row 112 2 (zak newL) false::tl):=by
 refine pwA zpi ?_;have A:=zk7 (G:=G) 10 6 (by omega) (by omega) (by omega) (by omega);have B:=zk7 (G:=G) 60 5 (by omega) (by omega) (by omega) (by omega);simp only[zaf]at A B;simp[zjL,schC];refine zad zyj ?_;simp;refine zad zkd ?_;simp[splice];obtain⟨w,q⟩:∃n:Entry,n=.var t1 c1:=⟨_,rfl⟩;obtain⟨y,s⟩:∃n:Entry,n=.var t2 c2:=⟨_,rfl⟩;obtain⟨n,t⟩:∃n:Entry,n=.var 52 schC:=⟨_,rfl⟩;obtain⟨u,v⟩:∃u:Entry,u=.var 55 [.int .i64 0,.int .i64 0,.nils]:=⟨_,rfl⟩;rw[<-q,<-s];refine zac (λx f σ=>∃(i:Nat),x=2-i/\i<=2/\f 2=.ptr 3 0/\f 4=.ptr 4 0/\f 28=.lst rungsC/\f 29=.int .i64 2/\f 30=.int .i64 i/\((i=0/\σ= [w,y,n,u,.var 55 [.int .i64 1,.int .i64 500000,.nils]])∨ (i=1/\∃a b,(∀m,a.under m=true/\b.under m=true)/\σ= [w,y,n,u,.var 55 [.int .i64 1,.int .i64 500000,.row 7 1],a,b,.row 112 2 [zaf 10 (zij 6)] false])∨ (i=2/\∃a b c d,(∀m,a.under m=true/\b.under m=true/\c.under m=true/\d.under m=true)/\σ= [w,y,n,u,.var 55 [.int .i64 1,.int .i64 500000,.row 7 2],a,b,.row 112 2 [zaf 10 (zij 6),zaf 60 (zij 5)] false,c,d]))) 2 ?_ ?_;.exact⟨0,by simp,by simp,by simp,by simp,by simp,by simp[rungsC],by simp,.inl ⟨rfl,by simp[t,v,schC]⟩⟩
 rintro x f σ ⟨i,rfl,C,z,p,o,k,l,⟨rfl,rfl⟩|⟨rfl,a,b,j,rfl⟩|⟨rfl,a,b,c,d,j,rfl⟩⟩;.simp[o,k,l,rungsC,splice];refine zad A ?_;simp[p,splice];refine zf6 false [zaf 10 (zij 6)] (by simp[view,zaf]) (by decide) (by simp[zaf]) (λh=>by cases h) (by simp) (by simp) ?_;simp[p,l,splice,wk1];exact nx_i ⟨1,rfl,by omega,by simp[z],by simp[p],by simp[o,rungsC],by simp[k],by simp,.inr (.inl ⟨rfl,_,_,λm=>by simp[Entry.under,AV.under],rfl⟩)⟩
 .simp[o,k,l,rungsC,splice];refine zad B ?_;simp[p,splice];refine zbJ [zaf 10 (zij 6)] [zaf 60 (zij 5)] false (by simp) (by simp[view,zaf]) (by decide) (by simp[zaf]) (λh=>by cases h) rfl (by simp) (by simp) ?_;simp[p,l,splice,wk2];exact nx_i ⟨2,rfl,by omega,by simp[z],by simp[p],by simp[o,rungsC],by simp[k],by simp,.inr (.inr ⟨rfl,a,b,_,_,λm=>⟨(j m).1,(j m).2,by simp[Entry.under,AV.under],by simp[Entry.under,AV.under]⟩,rfl⟩)⟩
 .simp[z,p,k,l,v,splice];refine zbi [w,y,n,.var 55 [.int .i64 1,.int .i64 500000,.row 7 2],.var 55 [.int .i64 1,.int .i64 500000,.row 7 2],a,b,.row 112 2 [zaf 10 (zij 6),zaf 60 (zij 5)] false,c,d] (.tup [.agg [.int .i64 1,.int .i64 500000,.row 7 2],.int .i64 0]) (by simp[zaK,z]) [] (by simp) (by simp) (by simp[AV.under]) (λi e g=> ?_) ⟨rfl,_,_,_,_,_,_,rfl⟩
  match i,g with
  |0,g=>exact .inl (by simpa[q]using g)
  |1,g=>exact .inl (by simpa[s]using g)
  |2,g=>simp at g;subst g;exact .inr (by simp[t,Entry.under,schC,AV.under])
  |3,g=>simp at g;subst g;exact .inr (by simp[Entry.under,AV.under])
  |4,g=>simp at g;subst g;exact .inr (by simp[Entry.under,AV.under])
  |5,g=>simp at g;subst g;exact .inr (j _).1
  |6,g=>simp at g;subst g;exact .inr (j _).2.1
  |7,g=>simp at g;subst g;exact .inr (zaD (by simp[zaf,AV.pure]))
  |8,g=>simp at g;subst g;exact .inr (j _).2.2.1
  |9,g=>simp at g;subst g;exact .inr (j _).2.2.2
  |i+10,g=>simp at g
theorem z4A (s:SlR):PT 189 [.agg (slRC s)] (λr=>r=.bool true):=by refine pwP zsF ?_;simp[zkV,slRC,zed]
theorem z0d (rs:List SlR)(hr:∀r∈rs,OkPut r)(hl:rs.length<=1000):PT 126 [.agg schC,.lst (zfU rs)] (λr=>r=.tup [.agg (ladC (zfI rs)),.int .i64 0]):=by
 refine pwP zsa ?_;have P:=znu rs;have kN:=z2q (G:=G) 52 55 schC [.int .i64 0,.int .i64 0,.nils];simp only[schC]at kN;simp[zkU,schC];refine zai kN ?_;rintro r σ ⟨rfl,a,b,c,d,e,U,rfl⟩;simp[splice,P];refine zac (λx f σ=>∃(i:Nat) (j:Nat),x=rs.length-i/\i<=rs.length/\f 6=.ptr j 0/\f 4=.ptr 1 0/\f 22=.lst (zfU rs)/\f 23=.int .i64 rs.length/\f 24=.int .i64 i/\7<j/\σ[1]? =some (.var 55 [.int .i64 0,.int .i64 0,.nils])/\σ[7]? =some (.row 112 2 (zak (zfI (rs.take i))) false)/\σ[j]? =some (.var 55 [.int .i64 1,.int .i64 500000,.row 7 2])) rs.length ?_ ?_;.exact⟨0,U.length+8,by simp,by simp,by simp,by simp,by simp,by simp,by simp,by omega,by simp,by simp[zfI],by simp⟩
 clear U a b c d e;rintro x f σ ⟨i,j,rfl,hi,y,O,p,z,m,E,K,q,A⟩;simp[z,m];refine zap (λZ=> ?_) (λaa=> ?_)
 .have F:i<rs.length:=by omega
  have H:=wS i (by omega);obtain⟨r,L⟩:=gE F;have Q:=zwy L;obtain⟨X,Y⟩:=yaa.1 Q;have B:=hr r (yad L);have C:zfI (rs.take (i+1))=putS (zfI (rs.take i)) r:=by rw[ybh,L];simp[zfI]
  have u:RightL (zfI (rs.take i)):=zyw λx hx=>hr x (yao hx);obtain⟨l,M⟩:∃l,l=zfI (rs.take i):=⟨_,rfl⟩;rw[<-M]at q C u;have I:=z4A (G:=G) r;simp only[slRC,zed]at I;have g:∀(k:Nat) (e:Entry) (t:zaa),σ[k]? =some e->(σ++t)[k]? =some e:=λk e t h=>zaN h t;have R:r.rung=0∨r.rung=1:=by have:=B.rung;omega
  have w:=B.al;have W:=B.n;rcases R with s|s
  .rw[s]at I;have o:r.t/10*10=r.t:=by rw[s]at w;simp at w;omega
   have D:=zmL (G:=G) 10 l.fine (zsq u) u.r1 r.t B.t;have J:=zqU (G:=G) 10 l.fine (zsq u) u.r1 r.t B.t r.v W;rw[o]at D;simp only[zaf]at D J;simp[p,m,Q,slRC,zed,splice,s];refine zc1 I ?_;rintro x rfl;simp[y,g j _ _ A,g 7 _ _ q,splice,zak,zaf];refine zc1 D ?_;rintro x rfl;simp[y,g j _ _ A];refine zaX J (by simp[AV.pure]) ?_;simp[m,H,g 7 _ _ q,splice,zak,zaf];refine nx_i ⟨i+1,j,rfl,by omega,by simp[y],by simp[O],by simp[p],by simp[z],by simp,E, ?_, ?_, ?_⟩;.rw[yaj (by omega)];exact g 1 _ _ K
   .rw[zaR (g 7 _ _ q),C];simp[putS,s]
   .rw[yaj (by omega)];exact g j _ _ A
  .rw[s]at I;have o:r.t/60*60=r.t:=by rw[s]at w;simp at w;omega
   have D:=zmL (G:=G) 60 l.wide (zpB u) u.r2 r.t B.t;have J:=zqU (G:=G) 60 l.wide (zpB u) u.r2 r.t B.t r.v W;rw[o]at D;simp only[zaf]at D J;simp[p,m,Q,slRC,zed,splice,s];refine zc1 I ?_;rintro x rfl;simp[y,g j _ _ A,g 7 _ _ q,splice,zak,zaf];refine zc1 D ?_;rintro x rfl;simp[y,g j _ _ A];refine zaX J (by simp[AV.pure]) ?_;simp[m,H,g 7 _ _ q,splice,zak,zaf];refine nx_i ⟨i+1,j,rfl,by omega,by simp[y],by simp[O],by simp[p],by simp[z],by simp,E, ?_, ?_, ?_⟩;.rw[yaj (by omega)];exact g 1 _ _ K
   .rw[zaR (g 7 _ _ q),C];simp[putS,s]
   .rw[yaj (by omega)];exact g j _ _ A
 .have S:i=rs.length:=by omega
  subst S;rw[yav]at q;have e1:=zaR K;have e7:∀x,(σ.set 1 x)[7]? =some (.row 112 2 (zak (zfI rs)) false):=λx=>by rw[yaj (by omega)];exact q
  have T:(zak (zfI rs)).length=2:=rfl;simp[O,y,K,A,splice,ladC,e1,e7,T,Abs.fin,Abs.finT,Abs.fin1,fz,zwm]
end Go.Proofs.YtdbhocoeolhjhaaGreatDoor
