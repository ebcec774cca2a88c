import Derived.Test.YtdbhocoeolhjhaaGreatDoorBn8
set_option maxHeartbeats 2000000
set_option linter.unusedSimpArgs false
set_option linter.unusedVariables false
set_option linter.constructorNameAsVariable false
namespace Go.Proofs.YtdbhocoeolhjhaaGreatDoor
open Go.Sf Go.Num
def At (d:DiskM)(t:Txt)(f:FileM):Prop:=hasK kN d.names t/\f∈d.files/\f.id=idOf d.names t
theorem z4g {l:List NameM}(hs:Srt kN l){t:Txt}(h:hasK kN l t):∃n∈l,n.name=t/\n.id=idOf l t:=by obtain⟨n,a,rfl⟩:=h;exact⟨n,a,rfl,(zgD hs a).symm⟩
theorem z08 {l m:List NameM}(hl:Srt kN l)(hm:Srt kN m)(hs:∀n∈m,n∈l){t:Txt}(h:hasK kN m t):idOf m t=idOf l t:=by obtain⟨n,a,rfl⟩:=h;have b:=zgD hm a;have c:=zgD hl (hs n a);have e:kN n=n.name:=rfl;rw[e,b,c]
theorem zu8 {l:List NameM}{x:NameM}(hs:Srt kN l)(hn:¬hasK kN l x.name):idOf (insK kN l x) x.name=x.id:=zgD (zk4 hs hn) (zaH.2 (.inl rfl))
theorem z8a {d:DiskM}(h:RightM d){f g:FileM}(hf:f∈d.files)(hg:g∈d.files)(he:f.id=g.id):f=g:=by
 obtain⟨i,c⟩:=ybb hf;obtain⟨j,b⟩:=ybb hg;rcases ycl i j with a|rfl|a
 .have:=zex h.filed.1 a c b;omega
 .rw[c]at b;exact Option.some.inj b
 .have:=zex h.filed.1 a b c;omega
theorem zBM {d:DiskM}(h:RightM d){t:Txt}{f g:FileM}(hf:At d t f)(hg:At d t g):f=g:=z8a h hf.2.1 hg.2.1 (hf.2.2.trans hg.2.2.symm)
theorem z6Q {d:DiskM}(h:RightM d){t u:Txt}(ht:hasK kN d.names t)(hu:hasK kN d.names u)(he:idOf d.names t=idOf d.names u):t=u:=by
 obtain⟨n,g,rfl,k⟩:=z4g h.names.srt ht;obtain⟨m,l,rfl,o⟩:=z4g h.names.srt hu;have c:n.id=m.id:=by rw[k,o];exact he
 have:n=m:=by
  have b:=h.names.ids;rw[ya9,yb0]at b;obtain⟨i,f⟩:=ybb g;obtain⟨j,e⟩:=ybb l;rcases ycl i j with a|rfl|a
  .exact absurd c (zex b a f e)
  .rw[f]at e;exact Option.some.inj e
  .exact absurd c.symm (zex b a e f)
 rw[this]
theorem zAq {d:DiskM}{s t:Txt}{f:FileM}{g:FileM->FileM}(h:RightM d)(hs:hasK kN d.names s)(hg:∀x,(g x).id=x.id)(hA:At {d with files:=modF d.files (idOf d.names s) g} t f):∃x,At d t x/\f=if t=s then g x else x:=by
 obtain⟨j,k,l⟩:=hA;have b:hasK kN d.names t:=j;have i:f∈modF d.files (idOf d.names s) g:=k;have n:f.id=idOf d.names t:=l;obtain⟨x,m,c⟩:=yar.1 i;have o:f.id=x.id:=by rw[<-c];split;exact hg x;rfl
 refine⟨x,⟨b,m,by omega⟩, ?_⟩;by_cases a:t=s;.subst a;rw[if_pos rfl,<-c,if_pos (by omega)]
 .rw[if_neg a,<-c,if_neg];intro e;exact a (z6Q h b hs (by omega))
theorem z5l {d:DiskM}{s t b:Txt}{f:FileM}(h:RightM d)(hs:hasK kN d.names s)(hA:At (za3 d s b) t f):∃x,At d t x/\f=if t=s then{x with bytes:=x.bytes++b}else x:=zAq h hs (λ_=>rfl) hA
theorem zAS {d:DiskM}{s t:Txt}{f:FileM}(h:RightM d)(hs:hasK kN d.names s)(hA:At (zcJ d s) t f):∃x,At d t x/\f=if t=s then{x with sure:=x.bytes.length}else x:=zAq h hs (λ_=>rfl) hA
theorem z5C {d:DiskM}{s u t:Txt}{f:FileM}(h:RightM d)(hs:hasK kN d.names s)(hA:At (zbR d s u) t f):(t=u/\At d s f)∨(t≠u/\t≠s/\At d t f):=by
 obtain⟨o,l,p⟩:=hA;have j:=zgj (s:=s) h.names.srt;have k:Srt kN (zfS (delK kN d.names s) u):=j.sublist (zqg _ _);have e:=zuU j u;have g:f.id=idOf (insK kN (zfS (delK kN d.names s) u) ⟨u,idOf d.names s⟩) t:=p;by_cases a:t=u;.subst a;refine .inl ⟨rfl,hs,l, ?_⟩;rw[g];exact zu8 (x:=⟨t,idOf d.names s⟩) k e
 .obtain⟨b,m⟩:=((zt3 h hs).1 o).resolve_left a;have i:hasK kN (zfS (delK kN d.names s) u) t:=by obtain⟨n,c,rfl⟩:=m;exact⟨n,(zkm j).2 ⟨(zcA h.names.srt hs).2 ⟨c,b⟩,a⟩,rfl⟩
  refine .inr ⟨a,b,m,l, ?_⟩;rw[g,<-z08 (zk4 k e) k (λn c=>zaH.2 (.inr c)) i];exact z08 h.names.srt k (λn c=>((zcA h.names.srt hs).1 ((zkm j).1 c).1).1) i
def ptR (a:ArrM):RecM:=.pt a.time a.now a.value
def slM (s:SlR):RecM:=.sl s.rung s.t s.v
theorem zhh (bs:List ArrM):zbk bs=zbG (bs.map ptR):=by simp[zbk,zbG,ptR,payB,List.flatMap_map]
theorem zqZ (p:Txt)(l:List SlR):zfW p l=zbQ p (l.map slM):=by simp[zfW,zbQ,zoo,zbG,slM,payB,List.flatMap_map]
def Body (path b:Txt):Prop:=∃l,(∀r∈l,OkR r)/\b=zbQ path l
theorem z3H {bs:List ArrM}(h:∀x∈bs,OkA x/\OkV x):∀r∈bs.map ptR,OkR r:=λr d=>by obtain⟨x,b,rfl⟩:=yar.1 d;obtain⟨a,c⟩:=h x b;have:=a.t;have:=a.n;exact⟨by omega,by omega,c,a.v⟩
theorem zDE {l:List SlR}(h:∀x∈l,OkSl x):∀r∈l.map slM,OkR r:=λr b=>by obtain⟨x,a,rfl⟩:=yar.1 b;have:=h x a;exact⟨this.r,this.t,this.n,this.v⟩
theorem Body.more {p b:Txt}(h:Body p b){bs:List ArrM}(hb:∀x∈bs,OkA x/\OkV x):Body p (b++zbk bs):=by
 obtain⟨l,c,rfl⟩:=h;refine⟨l++bs.map ptR,λr a=> ?_, ?_⟩
 .rcases yai.1 a with a|a;.exact c r a
  .exact z3H hb r a
 .rw[zhh];simp[zbQ,zbG,yax]
variable {s:ShM}{a k:Nat}{p:Txt}
theorem z69 {t:Txt}(h:Torn t)(N:Nat):Torn (t.take N):=by
 rcases h with rfl|⟨r,a,b,c⟩;.exact .inl (by simp)
 .exact .inr ⟨r,a,(ye3 N t).trans b,by rw[yan];omega⟩
theorem z0v:∀(l:List RecM) (t:Txt) (N:Nat),(∀r∈l,OkR r)->Torn t->∃i t',i<=l.length/\Torn t'/\(zbG l++t).take N=zbG (l.take i)++t'/\∀c,c<=l.length->(zbG (l.take c)).length<=N->c<=i
 | [],t,N,_,ht=>⟨0,t.take N,yaf _,z69 ht N,by simp[zbG],λc d _=>d⟩
 |r::l,t,N,hr,ht=>by
  have b:∀e,zbG (r::e)=zay (payB r)++zbG e:=λe=>by simp[zbG]
  have n:=zbd (payB r);rcases ydm N (zay (payB r)).length with h|h
  .refine⟨0,(zay (payB r)).take N,ycm _,.inr ⟨r,hr r (by simp),ye3 _ _,by rw[yan];omega⟩, ?_,λc d a=> ?_⟩;.rw[b,yax,ya7 (by omega)];simp[zbG]
   .cases c with
    |zero=>exact yaf _
    |succ c=>rw[yd4,b,yag]at a;omega
  .obtain⟨i,t',f,g,j,k⟩:=z0v l t (N-(zay (payB r)).length) (λx m=>hr x (by simp[m])) ht;refine⟨i+1,t',by simpa using f,g, ?_,λc d a=> ?_⟩;.rw[b,yax,ycx,yal h,j,yd4,b,yax]
   .cases c with
    |zero=>omega
    |succ c=>rw[yd4,b,yag]at a;have:=k c (by simpa using d) (by omega);omega
def OkPs (g:List ArrM):Prop:=∀x∈g,OkA x/\OkV x
def SegP (path:Txt)(g:List ArrM)(b:Txt):Prop:=∃t,Torn t/\b=zbQ path (g.map ptR)++t
def zu7 (path b:Txt):Prop:=b<+:zay (zbU path)/\b.length<(zay (zbU path)).length
theorem zBP {path b:Txt}{g:List ArrM}(hg:OkPs g)(h:SegP path g b)(N:Nat):(zu7 path (b.take N)/\N<(zay (zbU path)).length)∨∃i,i<=g.length/\SegP path (g.take i) (b.take N)/\∀c,c<=g.length->(zbQ path ((g.take c).map ptR)).length<=N->c<=i:=by
 obtain⟨t,j,rfl⟩:=h;have a:∀l,zbQ path l=zay (zbU path)++zbG l:=λl=>rfl;rcases ydm N (zay (zbU path)).length with h|h
 .refine .inl ⟨?_,h⟩;have e:(zbQ path (g.map ptR)++t).take N=(zay (zbU path)).take N:=by rw[a,yax,ya7 (by omega)]
  rw[e];exact⟨ye3 _ _,by rw[yan];omega⟩
 .obtain⟨i,k,f,m,n,o⟩:=z0v (g.map ptR) t (N-(zay (zbU path)).length) (z3H hg) j;rw[ybn]at f;refine .inr ⟨i,f,⟨k,m, ?_⟩,λc p d=>o c (by simpa using p) ?_⟩;.rw[a,yax,ycx,yal h,n,a,ydh,yax]
  .rw[a,yag,ydh]at d;omega
theorem z2S (path:Txt){g:List ArrM}{c i:Nat}(h:c<=i):(zbQ path ((g.take c).map ptR)).length<=(zbQ path ((g.take i).map ptR)).length:=by
 have e:g.take i=g.take c++(g.take i).drop c:=by have:=(ya2 c (g.take i)).symm;rwa[yd1,ybt h]at this
 rw[e];simp[zbQ,zbG]
theorem zur {path b:Txt}{g:List ArrM}(h:SegP path g b)(c:Nat):(zbQ path ((g.take c).map ptR)).length<=b.length:=by obtain⟨t,_,rfl⟩:=h;have a:=z2S path (g:=g) (Nat.le_max_left c g.length);rw[yal (Nat.le_max_right c g.length)]at a;rw[yag];omega
theorem z2M {path b:Txt}{g:List ArrM}(h:SegP path g b)(h2:zu7 path b):False:=by obtain⟨t,_,rfl⟩:=h;have:=h2.2;simp only[zbQ,yag]at this;omega
structure Ent where
 id:Nat
 path:Txt
 own:List ArrM
 sure:Nat
 on:Bool
def Whole (f:FileM):Prop:=f.sure=f.bytes.length
def AtV (ns:List NameM)(fs:List FileM)(t:Txt)(f:FileM):Prop:=f∈fs/\∃x∈ns,x.name=t/\x.id=f.id
def Old (path kd:Txt)(f:FileM):Prop:=Whole f/\((kd=kindC/\∃l,RightL l/\f.bytes=zfW path (zeJ l))∨(kd=kindP/\∃g,OkPs g/\SegP path g f.bytes))
def Cnt (b n q:Nat)(kd:Txt):Prop:=(kd=kindC/\q=b/\0<b)∨(kd=kindP/\b<q/\q<=b+n)
structure Form (ns:List NameM)(fs:List FileM)(a:Nat)(e:Ent)(b k0:Nat)(gs:List (List ArrM)):Prop where
 top:b+gs.length<=a
 b0:b=0->k0=0
 kl:k0<=e.own.length
 pre:gs.flatten<+:e.own.drop k0
 sure0:gs= []->e.sure<=k0/\(e.on=true->0<b)
 has:∀q kd,Cnt b gs.length q kd->hasK kN ns (zaj e.id q kd)
 cC:∀f,0<b->AtV ns fs (zaj e.id b kindC) f->f.bytes=zfW e.path (zeJ (zaz newL (e.own.take k0)))/\Whole f
 cP:∀i g f,gs[i]? =some g->AtV ns fs (zaj e.id (b+1+i) kindP) f->SegP e.path g f.bytes/\(i+1<gs.length->Whole f)/\(i+1=gs.length->∃c,c<=g.length/\e.sure<=k0+(gs.take i).flatten.length+c/\((c=0/\(e.on=true->0<b+i))∨(zbQ e.path ((g.take c).map ptR)).length<=f.sure))
 only:∀q kd f,q<70->kd∈zbp->AtV ns fs (zaj e.id q kd) f->Cnt b gs.length q kd∨kd=zdv∨(kd=kindP/\b+gs.length<q/\zu7 e.path f.bytes)∨(1<=q/\q<b/\Old e.path kd f)
 uni:∀q f f',q<b->AtV ns fs (zaj e.id q kindC) f->AtV ns fs (zaj e.id q kindP) f'->False
variable {ns ns':List NameM}{fs fs':List FileM}{a a':Nat}{e:Ent}{b k0:Nat}{gs:List (List ArrM)}
theorem Old.up {path kd:Txt}{f f':FileM}(h:Old path kd f)(h1:f'.bytes=f.bytes)(h2:Whole f->Whole f'):Old path kd f':=⟨h2 h.1,by rw[h1];exact h.2⟩
theorem z9Q {n q:Nat}{kd:Txt}(h:Cnt b n q kd)(ha:b+n<=a):q<=a/\kd∈zbp/\1<=q:=by
 rcases h with ⟨rfl,rfl,h⟩|⟨rfl,c,d⟩;.exact⟨by omega,by simp,h⟩
 .exact⟨by omega,by simp,by omega⟩
theorem Form.frame (h:Form ns fs a e b k0 gs)(ha:a<=a')(h70:a<70)(hn:∀q kd,Cnt b gs.length q kd->hasK kN ns (zaj e.id q kd)->hasK kN ns' (zaj e.id q kd))
  (hf:∀q kd f',q<70->kd∈zbp->AtV ns' fs' (zaj e.id q kd) f'->(∃f,AtV ns fs (zaj e.id q kd) f/\f'.bytes=f.bytes/\f.sure<=f'.sure/\(Whole f->Whole f'))∨kd=zdv∨(kd=kindP/\b+gs.length<q/\zu7 e.path f'.bytes)):Form ns' fs' a' e b k0 gs:=by
 have I:=h.top;have u:∀f',0<b->AtV ns' fs' (zaj e.id b kindC) f'->∃f,AtV ns fs (zaj e.id b kindC) f/\f'.bytes=f.bytes/\f.sure<=f'.sure/\(Whole f->Whole f'):=λf' u k=>by
  rcases hf b kindC f' (by omega) (by simp) k with d|d|⟨d,_⟩;.exact d
  .exact absurd d (by decide)
  .exact absurd d (by decide)
 have D:∀q f',q<70->q<=b+gs.length->AtV ns' fs' (zaj e.id q kindP) f'->∃f,AtV ns fs (zaj e.id q kindP) f/\f'.bytes=f.bytes/\f.sure<=f'.sure/\(Whole f->Whole f'):=λq f' m u k=>by
  rcases hf q kindP f' m (by simp) k with d|d|⟨_,d,_⟩;.exact d
  .exact absurd d (by decide)
  .omega
 refine⟨by omega,h.b0,h.kl,h.pre,h.sure0,λq kd z=>hn q kd z (h.has q kd z),λf' A k=> ?_,λi g f' B k=> ?_,λq kd f' m C k=> ?_,λq f f' v d l=> ?_⟩;.obtain⟨f,d,l,_,r⟩:=u f' A k;obtain⟨n,j⟩:=h.cC f A d;exact⟨by rw[l];exact n,r j⟩
 .have G:=(yaa.1 B).1;obtain⟨f,d,l,r,n⟩:=D _ f' (by omega) (by omega) k;obtain⟨j,o,m⟩:=h.cP i g f B d;refine⟨by rw[l];exact j,λw=>n (o w),λw=> ?_⟩;obtain⟨c,p,E,s⟩:=m w;exact⟨c,p,E,s.imp id λh=>by omega⟩
 .rcases hf q kd f' m C k with ⟨f,d,l,r,n⟩|d|d
  .rcases h.only q kd f m C d with j|j|⟨j,o,p⟩|⟨j,o,p⟩;.exact .inl j
   .exact .inr (.inl j)
   .exact .inr (.inr (.inl ⟨j,o,by rw[l];exact p⟩))
   .exact .inr (.inr (.inr ⟨j,o,p.up l n⟩))
  .exact .inr (.inl d)
  .exact .inr (.inr (.inl d))
 .have H:∃f,AtV ns fs (zaj e.id q kindC) f:=by
   rcases hf q kindC f (by omega) (by simp) d with ⟨x,t,_⟩|d|⟨d,_⟩;.exact⟨x,t⟩
   .exact absurd d (by decide)
   .exact absurd d (by decide)
  obtain⟨x,t⟩:=H;obtain⟨y,F,_⟩:=D q f' (by omega) (by omega) l;exact h.uni q x y v t F
theorem Form.ext (h:Form ns fs a e b k0 gs)(bs:List ArrM):Form ns fs a ⟨e.id,e.path,e.own++bs,e.sure,e.on⟩ b k0 gs:=by
 have c:=h.kl;refine⟨h.top,h.b0,by show k0<=(e.own++bs).length;rw[yag];omega, ?_,h.sure0,h.has,λf d g=> ?_,h.cP,h.only,h.uni⟩;.show _<+:(e.own++bs).drop k0;rw[ycy c];exact h.pre.trans (List.prefix_append _ _)
 .show _=zfW e.path (zeJ (zaz newL ((e.own++bs).take k0)))/\_;rw[ya7 c];exact h.cC f d g
theorem zBp {α:Type}{l m:List (List α)}{o:List α}{k:Nat}(h:(l++m).flatten<+:o.drop k):l.flatten<+:o.drop k:=by rw[ybx]at h;exact(List.prefix_append _ _).trans h
theorem zzD (hs:Srt kN ns)(hp:fs.Pairwise λa b=>a.id<b.id){t:Txt}{f g:FileM}(h1:AtV ns fs t f)(h2:AtV ns fs t g):f=g:=by
 obtain⟨n,x,o,e,h⟩:=h1;obtain⟨p,y,q,k,l⟩:=h2;have:x=y:=znK hs o q (e.trans k.symm);subst this;have r:f.id=g.id:=h.symm.trans l;obtain⟨i,m⟩:=ybb n;obtain⟨j,d⟩:=ybb p;rcases ycl i j with c|rfl|c
 .have:=zex hp c m d;omega
 .rw[m]at d;exact Option.some.inj d
 .have:=zex hp c d m;omega
theorem ztl (h:Form ns fs a e b k0 gs)(h70:a<70)(hok:OkPs e.own)(hs:Srt kN ns)(hp:fs.Pairwise λa b=>a.id<b.id)(hfile:∀x∈ns,∃f∈fs,x.id=f.id)(ks:List KeepM)
  (hcut:∀f'∈fs',∃f∈fs,f'=cutF ks f):∃gs',Form ns fs' a e b k0 gs'/\((∀f∈fs,Whole f)->gs'=gs):=by
 have ht:=h.top;have w:∀{t f'},AtV ns fs' t f'->∃f,AtV ns fs t f/\f'=cutF ks f:=λ{t f'} ⟨u,x,I,C,E⟩=>by obtain⟨f,K,rfl⟩:=hcut f' u;exact⟨f,⟨K,x,I,C,E⟩,rfl⟩
 have W:∀{f},Whole f->(cutF ks f).bytes=f.bytes/\Whole (cutF ks f):=λ{f} H=>by have P:f.sure=f.bytes.length:=H;refine⟨?_,rfl⟩;show f.bytes.take _=_;rw[yal (by omega)]
 have aj:∀f,Whole (cutF ks f):=λf=>rfl;have hC:∀f',0<b->AtV ns fs' (zaj e.id b kindC) f'->f'.bytes=zfW e.path (zeJ (zaz newL (e.own.take k0)))/\Whole f':=λf' h0 n=>by obtain⟨f,u,rfl⟩:=w n;obtain⟨L,X⟩:=h.cC f h0 u;exact⟨by rw[(W X).1];exact L,rfl⟩
 have hU:∀q f f',q<b->AtV ns fs' (zaj e.id q kindC) f->AtV ns fs' (zaj e.id q kindP) f'->False:=λq f f' aa u L=>by obtain⟨x,I,_⟩:=w u;obtain⟨y,r,_⟩:=w L;exact h.uni q x y aa I r
 have hO:∀q s f',q<70->s∈zbp->AtV ns fs' (zaj e.id q s) f'->Cnt b gs.length q s∨s=zdv∨(s=kindP/\b+gs.length<q/\zu7 e.path f'.bytes)∨(1<=q/\q<b/\Old e.path s f'):=λq s f' F hk n=>by
  obtain⟨f,u,rfl⟩:=w n;rcases h.only q s f F hk u with l|l|⟨l,z,B⟩|⟨l,z,B⟩
  .exact .inl l
  .exact .inr (.inl l)
  .refine .inr (.inr (.inl ⟨l,z, ?_⟩));have hl:((cutF ks f).bytes).length<=f.bytes.length:=by show(f.bytes.take _).length<=_;rw[yan];omega
   exact⟨(ye3 _ _).trans B.1,by have:=B.2;omega⟩
  .exact .inr (.inr (.inr ⟨l,z,B.up (W B.1).1 λ_=>rfl⟩))
 cases S:gs.reverse with
 |nil=>
  have ad:gs= []:=by simpa using S
  subst ad;exact⟨[],⟨h.top,h.b0,h.kl,h.pre,h.sure0,h.has,hC,λi g f hg=>by simp at hg,hO,hU⟩,λ_=>rfl⟩
 |cons g gr=>
  obtain⟨d,rfl⟩:∃d,gs=d++ [g]:=⟨gr.reverse,by have:=congrArg List.reverse S;simpa using this⟩;have m:(d++ [g]).length=d.length+1:=by simp
  obtain⟨x,I,C⟩:=h.has (b+1+d.length) kindP (.inr ⟨rfl,by omega,by rw[m];omega⟩);obtain⟨f,D,E⟩:=hfile x I;have K:AtV ns fs (zaj e.id (b+1+d.length) kindP) f:=⟨D,x,I,C,E⟩;obtain⟨u,_,L⟩:=h.cP d.length g f (by simp) K;obtain⟨c,X,Y,l⟩:=L (by simp);have ae:(d++ [g]).take d.length=d:=by simp
  rw[ae]at Y;have Q:OkPs g:=λy r=>hok y (yay (h.pre.subset (by simp[r])));have R:∀i v f',i<d.length->d[i]? =some v->AtV ns fs' (zaj e.id (b+1+i) kindP) f'->SegP e.path v f'.bytes:=λi v f' U k n=>by obtain⟨y,r,rfl⟩:=w n;obtain⟨z,F,_⟩:=h.cP i v y (by rw[yap U];exact k) r;rw[(W (F (by simp;omega))).1];exact z
  have af:(∀f∈fs,Whole f)->(cutF ks f).bytes=f.bytes:=λH=>(W (H f D)).1;rcases zBP Q u (f.sure+zxv ks f)with ⟨z,F⟩|⟨i,z,F,B⟩
  .obtain⟨Z,M⟩:c=0/\(e.on=true->0<b+d.length):=by
    rcases l with l|l;.exact l
    .simp only[zbQ,yag]at l;omega
   subst Z;refine⟨d,⟨by rw[m]at ht;omega,h.b0,h.kl,zBp h.pre,λJ=> ?_,λq s O=>h.has q s ?_,hC,λi v f' k n=> ?_,λq s f' ab hk n=> ?_,hU⟩,λH=> ?_⟩;.rw[J]at Y M;exact⟨by simpa using Y,M⟩
   .rcases O with O|⟨q1,q2,q3⟩;.exact .inl O
    .exact .inr ⟨q1,q2,by rw[m];omega⟩
   .have U:=(yaa.1 k).1;have hS:=R i v f' U k n;refine⟨hS,λ_=> ?_,λJ=>⟨v.length,yaf _, ?_,.inr ?_⟩⟩;.obtain⟨y,r,rfl⟩:=w n;rfl
    .have e1:d=d.take i++ [v]:=(by conv=>lhs;rw[<-ya2 i d,ybd U,(yaa.1 k).2,yb4 (by omega)]);have:d.flatten.length=(d.take i).flatten.length+v.length:=by
      conv=>lhs;rw[e1]
      simp
     omega
    .obtain⟨y,r,rfl⟩:=w n;show _<=(cutF ks y).bytes.length;exact zur hS _
   .rcases hO q s f' ab hk n with (p|⟨p,A,G⟩)|p|⟨p,A,G⟩|p;.exact .inl (.inl p)
    .rw[m]at G;by_cases O:q<=b+d.length;.exact .inl (.inr ⟨p,A,O⟩)
     .obtain⟨y,r,rfl⟩:=w n;have ag:q=b+1+d.length:=(by omega);subst p;subst ag;rw[zzD hs hp r K];exact .inr (.inr (.inl ⟨rfl,by omega,z⟩))
    .exact .inr (.inl p)
    .exact .inr (.inr (.inl ⟨p,by rw[m]at A;omega,G⟩))
    .exact .inr (.inr (.inr p))
   .have P:=af H;have p:zu7 e.path (cutF ks f).bytes:=z;rw[P]at p;exact(z2M u p).elim
  .have o:(d++ [g.take i]).length=(d++ [g]).length:=(by simp);refine⟨d++ [g.take i],⟨by rw[o];exact ht,h.b0,h.kl, ?_,λJ=>by simp at J,by rw[o];exact h.has,hC,λj v f' k n=> ?_,by rw[o];exact hO,hU⟩,λH=> ?_⟩;.refine List.IsPrefix.trans ?_ h.pre;rw[ybx,ybx];exact(List.prefix_append_right_inj _).2 (by simpa using ye3 i g)
   .have hj:=(yaa.1 k).1;by_cases T:j<d.length;.rw[yap T]at k;refine⟨R j v f' T k n,λ_=> ?_,λJ=>by simp at J;omega⟩;obtain⟨y,r,rfl⟩:=w n;rfl
    .have ah:j=d.length:=(by simp at hj;omega);subst ah;simp at k;subst k;obtain⟨y,r,rfl⟩:=w n;have ai:=zzD hs hp r K;subst ai;refine⟨F,λ_=>rfl,λ_=>⟨min c i, ?_, ?_, ?_⟩⟩;.rw[yan];omega
     .rw[show(d++ [g.take i]).take d.length=d by simp];have:c<=i∨c=0:=by
       rcases l with l|l;.exact .inr l.1
       .exact .inl (B c X (by omega))
      omega
     .rcases l with l|l;.exact .inl ⟨by omega,l.2⟩
      .exact .inr (zur F _)
   .have p:=zur u g.length;have A:f.sure=f.bytes.length:=H f D;rw[yal (B g.length (yaf _) (by omega))]
def zjF (d:DiskM)(P:List NameM->Prop):Prop:=∀n,n<=d.moves.length->P (za4 d n)
variable {d D:DiskM}{P:List NameM->Prop}{id a a' k:Nat}
theorem z9y {d:DiskM}{m:MetM}{t:Txt}{f:FileM}(h:RightM d)(hl:0<m.last->hasK kN d.names (zcv m))(hA:At (za6 d m) t f):∃x,At d t x/\f=if 0<m.last/\t=zcv m then{x with sure:=x.bytes.length}else x:=by
 unfold za6 at hA;split at hA;.rename_i a;obtain⟨x,b,c⟩:=zAS h (hl a) hA;exact⟨x,b,by rw[c];simp[a]⟩
 .rename_i a;exact⟨f,hA,by simp[a]⟩
theorem zk6 {s:ShM}{p:Txt}(h:InvS s a k)(ha:a<=69)(hp:p∈P4){x:MetM}(hx:x∈s.mets)(hne:x.path≠p){q r:Nat}{kd l:Txt}(hq:q<70)(hr:r<70)(hk:kd∈zbp)(hl:l∈zbp):zaj x.id q kd≠zaj (zal s p).id r l:=λe=>by have b:=h.met hp;exact b.others x hx hne (zbI (h.id5 hx) b.id5 hq hr hk hl e).1
theorem zgn (h:RightM d)(hV:zjF d P):P d.names:=by have:=hV d.moves.length (yaf _);rwa[zb0 h (yaf _)]at this
theorem zjd (h:RightM d)(h0:d.moves= [])(hP:P d.names):zjF d P:=λn a=>by rw[zb0 h (by rw[h0];exact ycm _)];exact hP
theorem zjf {mv:MoveM}(hk:D.kept=d.kept)(hm:D.moves=d.moves++ [mv]){n:Nat}(hn:n<=d.moves.length):za4 D n=za4 d n:=by unfold za4;rw[hk,hm,ya7 hn]
theorem zks {mv:MoveM}(h:RightM D)(hk:D.kept=d.kept)(hm:D.moves=d.moves++ [mv])(h1:zjF d P)(h2:P D.names):zjF D P:=λn a=>by
 rw[hm]at a;by_cases b:n<=d.moves.length;.rw[zjf hk hm b];exact h1 n b
 .rw[zb0 h (by rw[hm];simp at a⊢;omega)];exact h2
theorem zoN (h:RightM d){t:Txt}{f:FileM}:AtV d.names d.files t f↔At d t f:=by
 constructor;.rintro⟨e,x,a,rfl,g⟩;exact⟨⟨x,a,rfl⟩,e,by rw[zgD h.names.srt a,g]⟩
 .rintro⟨i,e,g⟩;obtain⟨x,a,b,c⟩:=zzE h.names.srt i;exact⟨e,x,a,b,c.trans g.symm⟩
def Crea (d:DiskM):Prop:=∀mv∈d.moves,mv.kind=1
theorem zmF (h:RightM d)(hc:Crea d):zjF d λns=>∀x∈ns,x∈d.names:=by
 have e:∀j n,n+j=d.moves.length->∀x∈za4 d n,x∈d.names:=λj=>by
  induction j with
  |zero=>intro n g x b;rwa[zb0 h (by omega)]at b
  |succ j q=>
   intro n g x b;refine q (n+1) (by omega) x ?_;obtain⟨i,f⟩:=gL d.moves n (by omega);obtain⟨k,c,l,a,m⟩:=zi0 h.replay f;have o:za4 d n=k:=by unfold za4;rw[l];rfl
   have p:za4 d (n+1)=c:=(by unfold za4;rw[m];rfl);rw[o]at b;rw[p];unfold zfh at a;split at a
   .rw[if_pos (hc i (yad f))]at a;split at a;.cases a
    .cases a;exact zaH.2 (.inr b)
   .cases a
 exact λn g=>e (d.moves.length-n) n (by omega)
def Ro (id:Nat)(ns:List NameM)(fs:List FileM)(ns':List NameM)(fs':List FileM):Prop:=(∀q kd,q<70->kd∈zbp->hasK kN ns (zaj id q kd)->hasK kN ns' (zaj id q kd))/\∀q kd f',q<70->kd∈zbp->AtV ns' fs' (zaj id q kd) f'->∃f,AtV ns fs (zaj id q kd) f/\f'.bytes=f.bytes/\f.sure<=f'.sure/\(Whole f->Whole f')
theorem z5s {ns fs}:Ro id ns fs ns fs:=⟨λ_ _ _ _ h=>h,λq b f c d a=>⟨f,a,rfl,yaf _,λh=>h⟩⟩
theorem z8S {n1 f1 n2 f2 n3 f3}(h:Ro id n1 f1 n2 f2)(h':Ro id n2 f2 n3 f3):Ro id n1 f1 n3 f3:=⟨λq a b c n=>h'.1 q a b c (h.1 q a b c n),λq a f b c o=>by obtain⟨x,d,e,g,i⟩:=h'.2 q a f b c o;obtain⟨y,j,k,l,m⟩:=h.2 q a x b c d;exact⟨y,j,e.trans k,ybu l g,λp=>i (m p)⟩⟩
theorem Form.ro {ns fs ns' fs' e b k0 gs}(h:Form ns fs a e b k0 gs)(ha:a<=a')(h70:a<70)(hr:Ro e.id ns fs ns' fs'):Form ns' fs' a' e b k0 gs:=h.frame ha h70 (λq c d f=>by have:=z9Q d h.top;exact hr.1 q c (by omega) this.2.1 f) λq c g i j k=> .inl (hr.2 q c g i j k)
def Rv (id:Nat)(d D:DiskM):Prop:=∀n',n'<=D.moves.length->∃n,n<=d.moves.length/\(n'=D.moves.length->n=d.moves.length)/\Ro id (za4 d n) d.files (za4 D n') D.files
theorem zjh:Rv id d d:=λn a=>⟨n,a,λh=>h,z5s⟩
theorem zfu {d1 d2 d3:DiskM}(h:Rv id d1 d2)(h':Rv id d2 d3):Rv id d1 d3:=λn k=>by obtain⟨a,b,c,d⟩:=h' n k;obtain⟨f,g,i,j⟩:=h a b;exact⟨f,g,λe=>i (c e),z8S j d⟩
theorem zD4 (h:RightM d)(t:Txt)(ns:List NameM):Ro id ns d.files ns (zcJ d t).files:=⟨λ_ _ _ _ h=>h,λq k l m n ⟨i,x,g,b,a⟩=>by
 obtain⟨f,c,rfl⟩:=yar.1 i;have j:=(h.filed.2 f c).2.2;by_cases e:f.id=idOf d.names t;.rw[if_pos e]at a⊢;exact⟨f,⟨c,x,g,b,a⟩,rfl,j,λ_=>rfl⟩
 .rw[if_neg e]at a⊢;exact⟨f,⟨c,x,g,b,a⟩,rfl,yaf _,λh=>h⟩⟩
theorem zCb (h:RightM d)(t:Txt):Rv id d (zcJ d t):=λn a=>⟨n,a,λh=>h,zD4 h t _⟩
theorem zdM (h:RightM d)(m:MetM):Rv id d (za6 d m):=by
 unfold za6;split;.exact zCb h _
 .exact zjh
def zbL (d:DiskM)(t b:Txt)(s:Nat):DiskM:={zar d t with files:=d.files++ [⟨d.next,b,s⟩]}
theorem z6b (h:RightM d)(t b:Txt)(s n:Nat):Ro id (za4 d n) d.files (za4 d n) (zbL d t b s).files:=⟨λ_ _ _ _ h=>h,λq i f j k ⟨a,x,g,e,c⟩=>by
 rcases yai.1 (show f∈d.files++ [_] from a)with a|a;.exact⟨f,⟨a,x,g,e,c⟩,rfl,yaf _,λh=>h⟩
 .simp at a;subst a;have:=(h.idlt ((zdf h n).2 x g)).2;simp only at c;omega⟩
theorem zr9 {D0:Txt}(h:RightM d)(hn:¬hasK kN d.names D0){b:Txt}{s:Nat}{t:Txt}{f:FileM}(hA:AtV (insK kN d.names ⟨D0,d.next⟩) (d.files++ [⟨d.next,b,s⟩]) t f):(t=D0/\f=⟨d.next,b,s⟩)∨(t≠D0/\AtV d.names d.files t f):=by
 obtain⟨a,x,i,c,g⟩:=hA;rcases zaH.1 i with rfl|i
 .refine .inl ⟨c.symm, ?_⟩;rcases yai.1 a with a|a
  .have:=(h.filed.2 f a).2.1;simp only at g;omega
  .simpa using a
 .refine .inr ⟨λe=>hn ⟨x,i,c.trans e⟩, ?_⟩;rcases yai.1 a with a|a
  .exact⟨a,x,i,c,g⟩
  .simp at a;subst a;have:=(h.idlt (h.nids x i)).2;simp only at g;omega
theorem zqz (h:RightM d){t b:Txt}{s:Nat}(hD:RightM (zbL d t b s))(hn:¬hasK kN d.names t)(hne:∀q kd,q<70->kd∈zbp->zaj id q kd≠t):Rv id d (zbL d t b s):=λn a=>by
 have g:(zbL d t b s).moves=d.moves++ [⟨1,t,[],d.next⟩]:=rfl;by_cases c:n<=d.moves.length;.refine⟨n,c,λe=>by rw[e,g]at c;simp at c;omega, ?_⟩;rw[zjf (d:=d) (D:=zbL d t b s) rfl g c];exact z6b h t b s n
 .refine⟨d.moves.length,yaf _,λ_=>rfl, ?_⟩;rw[zb0 h (yaf _),zb0 hD (by rw[g]at a⊢;simp at a⊢;omega)];refine⟨λq kd i j ⟨x,l,f⟩=>⟨x,zaH.2 (.inr l),f⟩,λq kd m i j o=> ?_⟩;rcases zr9 h hn o with ⟨e,_⟩|⟨_,k⟩
  .exact absurd e (hne q kd i j)
  .exact⟨m,k,rfl,yaf _,λh=>h⟩
theorem zAc (h:RightM d){ns:List NameM}(hsub:∀x∈ns,x∈d.names){s b t:Txt}(hs:hasK kN d.names s){f':FileM}(hA:AtV ns (za3 d s b).files t f'):∃f,AtV ns d.files t f/\f'=if t=s then{f with bytes:=f.bytes++b}else f:=by
 obtain⟨k,x,g,a,c⟩:=hA;have n:AtV (za3 d s b).names (za3 d s b).files t f':=⟨k,x,hsub x g,a,c⟩;have o:At (za3 d s b) t f':=by obtain⟨l,y,i,rfl,e⟩:=n;exact⟨⟨y,i,rfl⟩,l,by rw[show(za3 d s b).names=d.names from rfl,zgD h.names.srt i,e]⟩
 obtain⟨f,m,j⟩:=z5l h hs o;refine⟨f,⟨m.2.1,x,g,a, ?_⟩,j⟩;rw[c,j];split<;>rfl
theorem z4a (h:RightM d)(hc:Crea d){s:Txt}(b:Txt)(hs:hasK kN d.names s)(hne:∀q kd,q<70->kd∈zbp->zaj id q kd≠s):Rv id d (za3 d s b):=λn c=>⟨n,c,λh=>h,λ_ _ _ _ h=>h,λq kd g i j k=>by obtain⟨f,e,a⟩:=zAc h (zmF h hc n c) hs k;rw[if_neg (hne q kd i j)]at a;subst a;exact⟨g,e,rfl,yaf _,λh=>h⟩⟩
theorem z4h (h:RightM d)(hD:RightM D){mv:MoveM}(hk:D.kept=d.kept)(hm:D.moves=d.moves++ [mv])(hf:D.files=d.files)(hx:∀x q kd,q<70->kd∈zbp->x.name=zaj id q kd->(x∈D.names↔x∈d.names)):Rv id d D:=λn g=>by
 by_cases b:n<=d.moves.length;.refine⟨n,b,λe=>by rw[e,hm]at b;simp at b;omega, ?_⟩;rw[zjf hk hm b,hf];exact z5s
 .refine⟨d.moves.length,yaf _,λ_=>rfl, ?_⟩;rw[zb0 h (yaf _),zb0 hD (by rw[hm]at g⊢;simp at g⊢;omega),hf];refine⟨λq kd c hk ⟨x,f,a⟩=>⟨x,(hx x q kd c hk a).2 f,a⟩,λq kd j c hk ⟨f,x,a,i,k⟩=>⟨j,⟨f,x,(hx x q kd c hk i).1 a,i,k⟩,rfl,yaf _,λh=>h⟩⟩
theorem zv4 {ns:List NameM}{fs:List FileM}(p:FileM->Bool):Ro id ns fs ns (fs.filter p):=⟨λ_ _ _ _ h=>h,λq d a e f ⟨b,c⟩=>⟨a,⟨(ybf.1 b).1,c⟩,rfl,yaf _,λh=>h⟩⟩
theorem zAa (h:RightM d):Rv id d (zbx d):=λn a=>⟨d.moves.length,yaf _,λ_=>rfl,by rw[zb0 h (yaf _),zb0 (zmS h) (ycm _)];exact zv4 _⟩
theorem zrk (h:RightM d):Rv id d (zis d):=by
 unfold zis;split;.exact zjh
 .exact zAa h
theorem zoL (d:DiskM):(zis d).moves= []:=by
 unfold zis;split;.assumption
 .rfl
theorem ze4 (d:DiskM)(l:List Txt):(zax d l).files=d.files:=by
 unfold zax
 induction l generalizing d with
 |nil=>rfl
 |cons n l a=>exact a (zcF d n)
theorem zml {l:List Txt}(h:SizeM d a k)(hnd:l.Nodup)(hl:∀n∈l,okS n/\hasK kN d.names n)(h0:zjF d λns=>(∀x∈ns,x∈d.names)/\∀x∈d.names,x∈ns):zjF (zax d l) λns=>(∀x∈ns,x∈d.names)/\∀x∈d.names,x.name∉l->x∈ns:=by
 refine zfp (P:=λl=>l.Nodup->(∀n∈l,okS n/\hasK kN d.names n)->zjF (zax d l) λns=>(∀x∈ns,x∈d.names)/\∀x∈d.names,x.name∉l->x∈ns) (λ_ _=> ?_) (λl n w hnd hl=> ?_) l hnd hl;.exact λn s=>⟨(h0 n s).1,λx g _=>(h0 n s).2 x g⟩
 .have f:=(yb7.1 hnd).1;have m:∀t∈l,okS t/\hasK kN d.names t:=λt y=>hl t (by simp[y]);have o:=hl n (by simp);obtain⟨p,v⟩:=zce h f m;have q:hasK kN (zax d l).names n:=(v n).2 ⟨λi=>(yb7.1 hnd).2.2 n i n (by simp) rfl,o.2⟩;have r:=w f m;have z:=zji p.right o.1 q;have b:=zgn p.right r;rw[zhf];refine zks (d:=zax d l) z rfl rfl (λj u=>⟨(r j u).1,λx g c=>(r j u).2 x g (λi=>c (by simp[i]))⟩) ⟨λx g=> ?_,λx g c=> ?_⟩;.exact b.1 x ((zcA p.right.names.srt q).1 g).1
  .refine(zcA p.right.names.srt q).2 ⟨b.2 x g (λi=>c (by simp[i])),λe=>c ?_⟩;rw[show x.name=n from e];simp
theorem zoU {l:List Txt}{e:Ent}{b k0:Nat}{gs:List (List ArrM)}{fs:List FileM}(h:Form d.names fs a e b k0 gs)(h70:a<70)(hV:zjF D λns=>(∀x∈ns,x∈d.names)/\∀x∈d.names,x.name∉l->x∈ns)(hl:∀q kd,Cnt b gs.length q kd->zaj e.id q kd∉l):zjF D λns=>Form ns fs a e b k0 gs:=λn i=>by obtain⟨f,g⟩:=hV n i;refine h.frame (yaf _) h70 (λq kd j ⟨x,k,c⟩=>⟨x,g x k (by rw[show x.name=_ from c];exact hl q kd j),c⟩) λq kd m s t ⟨o,x,p,r⟩=> .inl ⟨m,⟨o,x,f x p,r⟩,rfl,yaf _,λh=>h⟩
abbrev entM (m:MetM)(O:List ArrM)(S:Nat×Bool):Ent:=⟨m.id,m.path,O,S.1,S.2⟩
structure BM (d:DiskM)(a:Nat)(m:MetM)(O:List ArrM)(S:Nat×Bool)(k0:Nat)(gs:List (List ArrM)):Prop where
 lad:m.lad=zaz newL O
 ok:OkPs O
 fl:O.drop k0=gs.flatten
 last:m.last=if gs= []then 0 else m.base+gs.length
 ex:m.count<16->∀gi g f,gs=gi++ [g]->AtV d.names d.files (zcv m) f->f.bytes=zbQ m.path (g.map ptR)
 vw:zjF d λns=>∃j,j<=gs.length/\Form ns d.files a (entM m O S) m.base k0 (gs.take j)
 fin:Form d.names d.files a (entM m O S) m.base k0 gs
variable {d D:DiskM}{a a' k k0:Nat}{Sp:Nat×Bool}{m:MetM}{Op:List ArrM}{gs:List (List ArrM)}
theorem BM.top (h:BM d a m Op Sp k0 gs):max m.base m.last=m.base+gs.length:=by
 have:=h.last;split at this;.rename_i e;subst e;simp;omega
 .omega
theorem BM.topa (h:BM d a m Op Sp k0 gs):m.base+gs.length<=a:=h.fin.top
theorem BM.lastq (h:BM d a m Op Sp k0 gs)(hg:gs≠ []):m.last=m.base+gs.length:=by have:=h.last;rwa[if_neg hg]at this
theorem z0q (h:RightM d)(n:Nat):∀x∈za4 d n,∃f∈d.files,x.id=f.id:=λx b=>by obtain⟨f,a,e⟩:=(h.same _).1 ((zdf h n).2 x b);exact⟨f,a,e.symm⟩
theorem zn5 (h:RightM d):∀x∈d.names,∃f∈d.files,x.id=f.id:=λx b=>by obtain⟨f,a,e⟩:=(h.same _).1 (h.nids x b);exact⟨f,a,e.symm⟩
theorem Form.sure_le {ns fs e b}(h:Form ns fs a e b k0 gs)(hfile:∀x∈ns,∃f∈fs,x.id=f.id):e.sure<=k0+gs.flatten.length:=by
 cases l:gs.reverse with
 |nil=>
  have:gs= []:=by simpa using l
  subst this;simpa using(h.sure0 rfl).1
 |cons g o=>obtain⟨d,rfl⟩:∃d,gs=d++ [g]:=⟨o.reverse,by have:=congrArg List.reverse l;simpa using this⟩;obtain⟨x,k,i⟩:=h.has (b+1+d.length) kindP (.inr ⟨rfl,by omega,by simp;omega⟩);obtain⟨f,m,j⟩:=hfile x k;obtain⟨c,p,n,_⟩:=(h.cP d.length g f (by simp) ⟨m,x,k,i,j⟩).2.2 (by simp);simp at n⊢;omega
theorem Form.own_len {ns fs e b}(h:Form ns fs a e b k0 gs):k0+gs.flatten.length<=e.own.length:=by have c:=h.pre.length_le;have d:=h.kl;rw[ya3]at c;omega
theorem z7O (h:BM d a m Op Sp k0 gs)(hr:Rv m.id d D)(ha:a<=a')(h70:a<70):zjF D λns=>∃j,j<=gs.length/\Form ns D.files a' (entM m Op Sp) m.base k0 (gs.take j):=λn i=>by obtain⟨b,c,_,e⟩:=hr n i;obtain⟨j,f,g⟩:=h.vw b c;exact⟨j,f,g.ro ha h70 e⟩
theorem zlp {id:Nat}(hd:RightM d)(hD:RightM D)(hr:Rv id d D):Ro id d.names d.files D.names D.files:=by obtain⟨c,e,b,a⟩:=hr D.moves.length (yaf _);rw[b rfl,zb0 hd (yaf _),zb0 hD (yaf _)]at a;exact a
theorem zDI (h:BM d a m Op Sp k0 gs)(hd:RightM d)(hD:RightM D)(hr:Rv m.id d D)(ha:a<=a')(h70:a<70):BM D a' m Op Sp k0 gs:=by have n:=h.top;have l:=h.topa;refine⟨h.lad,h.ok,h.fl,h.last,λc i g f j k=> ?_,z7O h hr ha h70,h.fin.ro ha h70 (zlp hd hD hr)⟩;obtain⟨y,b,e,_⟩:=(zlp hd hD hr).2 m.last kindP f (by omega) (by simp) k;rw[e];exact h.ex c i g y j b
theorem z3M (hD:RightM D)(h0:D.moves= [])(h:m.lad=zaz newL Op)(ho:OkPs Op)(hf:Op.drop k0=gs.flatten)(hl:m.last=if gs= []then 0 else m.base+gs.length)(hx:m.count<16->∀gi g f,gs=gi++ [g]->AtV D.names D.files (zcv m) f->f.bytes=zbQ m.path (g.map ptR))(hF:Form D.names D.files a (entM m Op Sp) m.base k0 gs):BM D a m Op Sp k0 gs:=⟨h,ho,hf,hl,hx,zjd hD h0 ⟨gs.length,yaf _,by rw[yav];exact hF⟩,hF⟩
def upd {α:Type}(O:Txt->α)(p:Txt)(v:α):Txt->α:=λq=>if q=p then v else O q
structure BndS (s:ShM)(a:Nat)(O:Txt->List ArrM)(S:Txt->Nat×Bool):Prop where
 crea:Crea s.disk
 mets:∀m∈s.mets,∃k0 gs,BM s.disk a m (O m.path) (S m.path) k0 gs/\(gs≠ []∨0<m.base)
 none:∀p∈P4,¬hasK kM s.mets p->O p= []/\S p=(0,false)
variable {s:ShM}{p:Txt}{O:Txt->List ArrM}{S:Txt->Nat×Bool}
theorem zvr (h:InvS s a k)(hp:p∈P4)(hB:BndS s a O S):∃k0 gs,BM s.disk a (zal s p) (O p) (S p) k0 gs:=by
 have z:=h.met hp;by_cases j:hasK kM s.mets p;.obtain⟨F,l⟩:=zcY h.srt j;obtain⟨k0,gs,e,_⟩:=hB.mets _ (yad F);rw[l]at e;exact⟨k0,gs,e⟩
 .obtain⟨G,H⟩:=hB.none p hp j;have R:=h.a69;have A:∀q b,q<70->b∈zbp->¬hasK kN s.disk.names (zaj (zal s p).id q b):=λq b d t J=>by
   rcases z.dir _ J with ⟨r,I,D,e,m,E⟩|⟨x,c,o,r,I,D,e,m,E⟩;.rw[zdN j]at m;simp[znd]at m;omega
   .have T:=h.seq x c;have:=zbI z.id5 (h.id5 c) d (by omega) t (kd3 E) D;exact z.others x c o this.1.symm
  have B:∀q b,¬Cnt 0 0 q b:=λq b u=>by rcases u with ⟨_,_,h⟩|⟨_,h,M⟩<;>omega
  have C:∀ns,(∀x∈ns,x∈s.disk.names)->Form ns s.disk.files a (entM (zal s p) [] (0,false)) 0 0 []:=λns v=>⟨ycm _,λ_=>rfl,yaf _,by simp,λ_=>⟨yaf _,λh=>by cases h⟩,λq b u=>absurd u (B q b),λf K=>absurd K (by omega),λi g f w=>by simp at w,λq b f d t ⟨_,x,c,y,_⟩=>absurd ⟨x,v x c,y⟩ (A q b d t),λq f P d=>absurd d (by omega)⟩;rw[G,H];rw[zdN j]at C⊢;exact⟨0,[],rfl,λx c=>by simp at c,by simp,rfl,λ_ Q g f w=>by simp at w,λn L=>⟨0,yaf _,C _ (zmF h.size.right hB.crea n L)⟩,C _ λx c=>c⟩
theorem zve (h:InvS s a k)(hB:BndS s a O S)(hD:RightM D)(ha:a<=a')(hc:Crea D)(hr:∀x∈s.mets,x.path≠p->Rv x.id s.disk D)(hp':m.path=p)(hn:BM D a' m Op Sp k0 gs)(h0:gs≠ []∨0<m.base):BndS (zby {s with disk:=D} m) a' (upd O p Op) (upd S p Sp):=by
 have o:=h.a69;refine⟨by rw[zhA];exact hc,λx j=> ?_,λq l c=> ?_⟩
 .rw[zhA];rcases(zf1 (s:={s with disk:=D}) h.srt).1 j with rfl|⟨hx',hne⟩
  .unfold upd;rw[if_pos hp',if_pos hp'];exact⟨k0,gs,hn,h0⟩
  .rw[hp']at hne;unfold upd;rw[if_neg hne,if_neg hne];obtain⟨d,f,g,i⟩:=hB.mets x hx';exact⟨d,f,zDI g h.size.right hD (hr x hx' hne) ha (by omega),i⟩
 .rw[zqm (s:={s with disk:=D}) h.srt,hp']at c;have b:q≠p:=λe=>c (.inl e);unfold upd;rw[if_neg b,if_neg b];exact hB.none q l λn=>c (.inr n)
structure Safe (d:DiskM)(a:Nat)(ms:List MetM)(O:Txt->List ArrM)(S:Txt->Nat×Bool):Prop where
 size:SizeM d a 1000
 a69:a<=69
 reg:∀m∈ms,m.path∈P4/\1<=m.id/\m.id<=a/\OkPs (O m.path)
 idn:(ms.map MetM.id).Nodup
 pan:(ms.map MetM.path).Nodup
 none:∀p∈P4,p∉ms.map MetM.path->S p=(0,false)
 vw:zjF d λns=>(∀x∈ns,∃m∈ms,∃q kd,x.name=zaj m.id q kd/\1<=q/\q<=a/\kd∈zbp)/\∀m∈ms,∃b k0 gs,Form ns d.files a (entM m (O m.path) (S m.path)) b k0 gs
theorem zyy (h:InvS s a k):∀m∈s.mets,m.path∈P4/\1<=m.id/\m.id<=a:=λm b=>by have:=h.ids m b;have:=h.next;exact⟨h.paths m b,by omega,by omega⟩
theorem z78 (h:InvS s a k)(hk:k<=1000)(hB:BndS s a O S):Safe s.disk a s.mets O S:=by
 refine⟨h.size.more (yaf _) hk,h.a69,λm b=> ?_,h.idn,zng h.srt,λp o f=>(hB.none p o λ⟨m,b,e⟩=>f (yar.2 ⟨m,b,e⟩)).2,λn f=>⟨λx r=> ?_,λm b=> ?_⟩⟩;.obtain⟨c,d,g⟩:=zyy h m b;obtain⟨_,_,i,_⟩:=hB.mets m b;exact⟨c,d,g,i.ok⟩
 .obtain⟨m,b,q,l,e,c,d,g⟩:=h.dir x.name ⟨x,zmF h.size.right hB.crea n f x r,rfl⟩;exact⟨m,b,q,l,e,c,ybu d (h.seq m b),kd3 g⟩
 .obtain⟨k0,gs,c,_⟩:=hB.mets m b;obtain⟨j,_,d⟩:=c.vw n f;exact⟨_,_,_,d⟩
theorem z0F (h:InvS s a k)(hp:p∈P4)(hB:BndS s a O S){ms:List MetM}{O':Txt->List ArrM}(hO:∀q,q≠p->O' q=O q)(ha:a<69)
  (hms:∀x∈ms,(x.id=(zal s p).id/\x.path=p)∨(x∈s.mets/\x.path≠p)) (hm1:∃x∈ms,x.id=(zal s p).id) (hm2:∀x∈s.mets,x.path≠p->x∈ms) (hok:OkPs (O' p)) (hidn:(ms.map MetM.id).Nodup) (hpan:(ms.map MetM.path).Nodup)
  (hD:SizeM D (a+1) 1000) (hr:∀x∈s.mets,x.path≠p->Rv x.id s.disk D)
  (hv:zjF D λns=>(∀x∈ns,(∃q kd,x.name=zaj (zal s p).id q kd/\1<=q/\q<=a+1/\kd∈zbp)∨hasK kN s.disk.names x.name)/\∃b k0 gs,Form ns D.files (a+1) (entM (zal s p) (O' p) (S p)) b k0 gs):Safe D (a+1) ms O' S:=by
 have r:=h.met hp;have A:(zal s p).id<=a+1:=by
  by_cases t:hasK kM s.mets p;.have:=(zyy h _ (yad (zcY h.srt t).1)).2.2;omega
  .rw[zdN t];exact h.next
 have B:=r.path;refine⟨hD,by omega,λx i=> ?_,hidn,hpan,λq F o=> ?_,λn o=>⟨λx i=> ?_,λx i=> ?_⟩⟩
 .rcases hms x i with ⟨z,m⟩|⟨c,d⟩;.rw[z,m];exact⟨hp,r.id1,A,hok⟩
  .obtain⟨f,u,G⟩:=zyy h x c;obtain⟨_,_,C,_⟩:=hB.mets x c;rw[hO _ d];exact⟨f,u,by omega,C.ok⟩
 .refine(hB.none q F λ⟨y,l,e⟩=>o ?_).2;by_cases g:y.path=p
  .obtain⟨x,i,v⟩:=hm1;rcases hms x i with ⟨_,m⟩|⟨c,d⟩
   .exact yar.2 ⟨x,i,m.trans (g.symm.trans e)⟩
   .exact absurd v (r.others x c d)
  .exact yar.2 ⟨y,hm2 y l g,e⟩
 .rcases(hv n o).1 x i with ⟨q,kd,e,c,d,f⟩|t
  .obtain⟨y,l,w⟩:=hm1;exact⟨y,l,q,kd,by rw[w];exact e,c,d,f⟩
  .rcases r.dir _ t with ⟨q,kd,e,c,d,f⟩|⟨y,l,g,q,kd,e,c,d,f⟩;.obtain⟨y,l,w⟩:=hm1;have:=r.seq;exact⟨y,l,q,kd,by rw[w];exact e,c,by omega,kd3 f⟩
   .have:=h.seq y l;exact⟨y,hm2 y l g,q,kd,e,c,by omega,kd3 f⟩
 .rcases hms x i with ⟨z,m⟩|⟨c,d⟩;.obtain⟨b,k0,gs,E⟩:=(hv n o).2;have e:entM x (O' x.path) (S x.path)=entM (zal s p) (O' p) (S p):=(by unfold entM;rw[z,m,B]);rw[e];exact⟨b,k0,gs,E⟩
  .obtain⟨k0,gs,f,_⟩:=hB.mets x c;obtain⟨j,_,u⟩:=z7O f (hr x c d) (ydg a) (by omega) n o;rw[hO _ d];exact⟨_,_,_,u⟩
variable {d D:DiskM}{a a' k k0:Nat}{Sp:Nat×Bool}{m:MetM}{Op:List ArrM}{gs:List (List ArrM)}{s:ShM}{p t b:Txt}{O:Txt->List ArrM}{S:Txt->Nat×Bool}{e:Ent}
theorem z4E (fs:List FileM)(x:FileM)(g:FileM->FileM)(h:∀f∈fs,f.id≠x.id):modF (fs++ [x]) x.id g=fs++ [g x]:=by
 unfold modF;rw[ycn];congr 1
 .conv=>rhs;rw[<-List.map_id fs]
  exact yd3 λf a=>if_neg (h f a)
 .simp
theorem zmN (h:RightM d)(hn:¬hasK kN d.names t)(b:Txt):za3 (zar d t) t b=zbL d t b 0:=by
 have c:idOf (zar d t).names t=d.next:=zu8 (x:=⟨t,d.next⟩) h.names.srt hn;have e:=z4E d.files ⟨d.next,[],0⟩ (λf=>{f with bytes:=f.bytes++b}) λf a=>by have:=(h.filed.2 f a).2.1;show f.id≠d.next;omega
 unfold za3;rw[c];show DiskM.mk d.quota (modF (d.files++ [(⟨d.next,[],0⟩:FileM)]) d.next λf=>{f with bytes:=f.bytes++b}) (insK kN d.names ⟨t,d.next⟩) d.kept (d.moves++ [⟨1,t,[],d.next⟩]) (d.next+1)=_;rw[e];simp[zbL,zar]
theorem zy7 (h:RightM d)(hn:¬hasK kN d.names t)(b:Txt)(n:Nat):zcJ (zbL d t b n) t=zbL d t b b.length:=by
 have c:idOf (zbL d t b n).names t=d.next:=zu8 (x:=⟨t,d.next⟩) h.names.srt hn;have e:=z4E d.files ⟨d.next,b,n⟩ (λf=>{f with sure:=f.bytes.length}) λf a=>by have:=(h.filed.2 f a).2.1;show f.id≠d.next;omega
 unfold zcJ;rw[c];show DiskM.mk d.quota (modF (d.files++ [(⟨d.next,b,n⟩:FileM)]) d.next λf=>{f with sure:=f.bytes.length}) (insK kN d.names ⟨t,d.next⟩) d.kept (d.moves++ [⟨1,t,[],d.next⟩]) (d.next+1)=_;rw[e];simp[zbL,zar]
theorem zi8 {α:Type}(f:Txt->α)(p:Txt):upd f p (f p)=f:=funext λq=>by
 unfold upd;split;.rename_i h;rw[h]
 .rfl
theorem z4B {x:ShM}(h:(opS D x).down=true):(opS D x).disk=x.disk:=by
 unfold opS at h⊢;split;.rfl
 .rename_i a;rw[if_neg a]at h;split;.rfl
  .rename_i b;rw[if_neg b]at h;exact absurd h a
theorem zug {x:ShM}(h:(zdm x).down=true):(zdm x).disk=x.disk:=by
 unfold zdm at h⊢;split;.rfl
 .rename_i a;rw[if_neg a]at h;exact z4B h
theorem z8t (hs:s.down=false)(h:(zbw s m).down=true):(zbw s m).disk=s.disk:=by
 unfold zbw at h⊢;split;.rename_i a;rw[if_pos a]at h;exact z4B h
 .rfl
theorem zrF (hs:s.down=false):(zbw s m).disk=s.disk∨(zbw s m).disk=za6 s.disk m:=by
 cases h:(zbw s m).down with
 |true=>exact .inl (z8t hs h)
 |false=>exact .inr (zfG h).2
theorem ztx {x:ShM}:(opS D x).disk=x.disk∨(x.down=false/\(opS D x).disk=D):=by
 cases h:(opS D x).down with
 |true=>exact .inl (z4B h)
 |false=>exact .inr (zdD h)
theorem z0A (y:ShM)(l:List Txt):∃i,i<=l.length/\(zdr y l).disk=zax y.disk (l.take i):=by
 refine zfp (P:=λl=>∃i,i<=l.length/\(zdr y l).disk=zax y.disk (l.take i)) ⟨0,yaf _,rfl⟩ (λl x e=> ?_) l;rw[zgA];rcases ztx (D:=zcF (zdr y l).disk x) (x:=zdr y l)with h|⟨c,d⟩
 .obtain⟨i,a,b⟩:=e;exact⟨i,by simp;omega,by rw[h,b,ya7 a]⟩
 .refine⟨l.length+1,by simp, ?_⟩;rw[d,(zkt l c).2,yal (by simp),zhf]
theorem zB1 (hs:s.down=false)(h:(appF s m b).down=true):(appF s m b).disk=s.disk∨(zlO m=true/\((appF s m b).disk=za6 s.disk m∨(appF s m b).disk=zar (za6 s.disk m) (newN m))):=by
 unfold appF at h⊢;split
 .rename_i c;rw[if_pos c]at h;rw[z4B h];show(opS (zar (zbw s m).disk (newN m)) (zbw s m)).disk=_∨_;rcases ztx (D:=zar (zbw s m).disk (newN m)) (x:=zbw s m)with d|⟨d,a⟩
  .rcases zrF (m:=m) hs with a|a;.exact .inl (d.trans a)
   .exact .inr ⟨c,.inl (d.trans a)⟩
  .exact .inr ⟨c,.inr (a.trans (by rw[(zfG d).2]))⟩
 .rename_i c;rw[if_neg c]at h;exact .inl (z4B h)
theorem Form.junk {b0:Nat}(h:Form d.names d.files a e b0 k0 gs)(hR:RightM d)(hn:¬hasK kN d.names t)(ha:a<=a')(h70:a<70){b:Txt}{n:Nat}(ht:∀q kd,q<70->kd∈zbp->zaj e.id q kd=t->kd=zdv∨(kd=kindP/\b0+gs.length<q/\zu7 e.path b)):Form (zbL d t b n).names (zbL d t b n).files a' e b0 k0 gs:=h.frame ha h70 (λq kd _ ⟨x,j,c⟩=>⟨x,zaH.2 (.inr j),c⟩) λq kd k l m o=>by
  rcases zr9 hR hn o with ⟨f,g⟩|⟨_,i⟩;.subst g;exact .inr (ht q kd l m f)
  .exact .inl ⟨k,i,rfl,yaf _,λh=>h⟩
theorem Form.grow {b0:Nat}(h:Form d.names d.files a e b0 k0 gs)(hR:RightM d)(hid:e.id<71)(ha:a<69)(hn:¬hasK kN d.names (zaj e.id (b0+1+gs.length) kindP))(hfl:e.own.drop k0=gs.flatten)(hW:∀i f,i+1=gs.length->AtV d.names d.files (zaj e.id (b0+1+i) kindP) f->Whole f)(bs:List ArrM):
  Form (zbL d (zaj e.id (b0+1+gs.length) kindP) (zbQ e.path (bs.map ptR)) 0).names (zbL d (zaj e.id (b0+1+gs.length) kindP) (zbQ e.path (bs.map ptR)) 0).files (a+1) ⟨e.id,e.path,e.own++bs,e.sure,e.on⟩ b0 k0 (gs++ [bs]):=by
 have L:=h.top;have v:=h.kl;have b:(gs++ [bs]).length=gs.length+1:=by simp
 have z:∀q c,q<70->c∈zbp->¬(q=b0+1+gs.length/\c=kindP)->zaj e.id q c≠zaj e.id (b0+1+gs.length) kindP:=λq c p t m r=>by have:=zbI hid hid p (by omega) t (by simp) r;exact m ⟨this.2.1,this.2.2⟩
 have k:∀q c f,q<70->c∈zbp->¬(q=b0+1+gs.length/\c=kindP)->AtV (zbL d (zaj e.id (b0+1+gs.length) kindP) (zbQ e.path (bs.map ptR)) 0).names (zbL d (zaj e.id (b0+1+gs.length) kindP) (zbQ e.path (bs.map ptR)) 0).files (zaj e.id q c) f->AtV d.names d.files (zaj e.id q c) f:=λq c f p t m s=>by
  rcases zr9 hR hn s with ⟨G,_⟩|⟨_,j⟩;.exact absurd G (z q c p t m)
  .exact j
 refine⟨by rw[b];omega,h.b0,by show k0<=(e.own++bs).length;rw[yag];omega, ?_,λn=>by simp at n,λq c m=> ?_,λf H s=> ?_,λi g f u s=> ?_,λq c f p t s=> ?_,λq f D p j o=> ?_⟩;.show _<+:(e.own++bs).drop k0;rw[ycy v,hfl];simp
 .rw[b]at m;by_cases r:q=b0+1+gs.length/\c=kindP;.obtain⟨rfl,rfl⟩:=r;exact⟨_,zaH.2 (.inl rfl),rfl⟩
  .obtain⟨x,F,w⟩:=h.has q c (by
    rcases m with m|⟨j,o,y⟩;.exact .inl m
    .exact .inr ⟨j,o,by have:¬q=b0+1+gs.length:=λe=>r ⟨e,j⟩;omega⟩)
   exact⟨x,zaH.2 (.inr F),w⟩
 .show _=zfW e.path (zeJ (zaz newL ((e.own++bs).take k0)))/\_;rw[ya7 v];exact h.cC f H (k _ _ f (by omega) (by simp) (λn=>absurd n.2 (by decide)) s)
 .have A:=(yaa.1 u).1;rw[b]at A;by_cases J:i<gs.length
  .rw[yap J]at u;have E:=k _ _ f (by omega) (by simp) (λn=>by omega) s;obtain⟨j,o,_⟩:=h.cP i g f u E;refine⟨j,λ_=> ?_,λn=>by rw[b]at n;omega⟩;by_cases K:i+1<gs.length;.exact o K
   .exact hW i f (by omega) E
  .have B:i=gs.length:=(by omega);subst B;simp at u;subst u;rcases zr9 hR hn s with ⟨_,rfl⟩|⟨m,_⟩
   .refine⟨⟨[],.inl rfl,by simp⟩,λn=>by simp at n,λ_=>⟨0,ycm _, ?_,.inl ⟨rfl,λI=> ?_⟩⟩⟩;.have:=h.sure_le (zn5 hR);simpa using this
    .cases C:gs with
     |nil=>have:=(h.sure0 C).2 I;omega
     |cons g l=>rw[ybg];omega
   .exact absurd rfl m
 .by_cases r:q=b0+1+gs.length/\c=kindP;.exact .inl (.inr ⟨r.2,by omega,by rw[b];omega⟩)
  .rcases h.only q c f p t (k q c f p t r s)with (m|⟨j,o,y⟩)|j|⟨j,o,y⟩|j;.exact .inl (.inl m)
   .exact .inl (.inr ⟨j,o,by rw[b];omega⟩)
   .exact .inr (.inl j)
   .have:¬q=b0+1+gs.length:=λe=>r ⟨e,j⟩;exact .inr (.inr (.inl ⟨j,by rw[b];omega,y⟩))
   .exact .inr (.inr (.inr j))
 .exact h.uni q f D p (k _ _ f (by omega) (by simp) (λn=>absurd n.2 (by decide)) j) (k _ _ D (by omega) (by simp) (λn=>by omega) o)
theorem Form.sured {ns fs b}(h:Form ns fs a e b k0 gs)(hne:gs≠ []∨0<b)(hfl:e.own.drop k0=gs.flatten)(hW:∀i f,i<gs.length->AtV ns fs (zaj e.id (b+1+i) kindP) f->Whole f):Form ns fs a ⟨e.id,e.path,e.own,e.own.length,true⟩ b k0 gs:=by
 have m:=h.kl;have n:e.own.length=k0+gs.flatten.length:=by have:=congrArg List.length hfl;rw[ya3]at this;omega
 refine⟨h.top,h.b0,h.kl,h.pre,λc=> ?_,h.has,h.cC,λi g f c j=> ?_,h.only,h.uni⟩;.subst c;exact⟨by show e.own.length<=_;simp at n;omega,λ_=>hne.resolve_left λh=>h rfl⟩
 .obtain⟨d,l,_⟩:=h.cP i g f c j;have k:=(yaa.1 c).1;refine⟨d,l,λp=>⟨g.length,yaf _, ?_,.inr ?_⟩⟩
  .show e.own.length<=_;have o:gs=gs.take i++ [g]:=by conv=>lhs;rw[<-ya2 i gs,ybd k,(yaa.1 c).2,yb4 (by omega)]
   have:gs.flatten.length=(gs.take i).flatten.length+g.length:=by
    conv=>lhs;rw[o]
    simp
   omega
  .have q:=zur d g.length;have r:f.sure=f.bytes.length:=hW i f k j;show(zbQ e.path _).length<=f.sure;omega
theorem Form.pack {ns fs ns5 fs5 b}(h:Form ns fs a e b k0 gs)(hok:OkPs e.own)(hid:e.id<71)(ha:b+gs.length+1<=a')(h69:a'<70)(hS:e.sure<=e.own.length)(hW:∀i f,i<gs.length->AtV ns fs (zaj e.id (b+1+i) kindP) f->Whole f)(hfl:e.own.drop k0=gs.flatten)
  (hdir:∀q kd f,q<70->kd∈zbp->AtV ns fs (zaj e.id q kd) f->1<=q/\q<=b+gs.length/\kd≠zdv) (hhas:hasK kN ns5 (zaj e.id (b+gs.length+1) kindC))
  (hnew:∀t f,AtV ns5 fs5 t f->(t=zaj e.id (b+gs.length+1) kindC/\f.bytes=zfW e.path (zeJ (zaz newL e.own))/\Whole f)∨AtV ns fs t f):Form ns5 fs5 a' e (b+gs.length+1) e.own.length []:=by
 have d:∀q kd f,q<70->kd∈zbp->¬(q=b+gs.length+1/\kd=kindC)->AtV ns5 fs5 (zaj e.id q kd) f->AtV ns fs (zaj e.id q kd) f:=λq kd f n o m p=>by
  rcases hnew _ f p with ⟨C,_⟩|j;.have:=zbI hid hid n (by omega) o (by simp) C;exact absurd ⟨this.2.1,this.2.2⟩ m
  .exact j
 refine⟨by simpa using ha,λy=>by omega,yaf _,by simp,λ_=>⟨hS,λ_=>by omega⟩,λq kd m=> ?_,λf D p=> ?_,λi g f s=>by simp at s,λq kd f n o p=> ?_,λq f u n j r=> ?_⟩
 .rcases m with ⟨rfl,rfl,_⟩|⟨_,j,r⟩;.exact hhas
  .simp at r;omega
 .rw[yav];rcases hnew _ f p with ⟨_,j⟩|j
  .exact j
  .have:=(hdir _ _ f (by omega) (by simp) j).2.1;omega
 .by_cases m:q=b+gs.length+1/\kd=kindC;.exact .inl (.inl ⟨m.2,m.1,by omega⟩)
  .have l:=d q kd f n o m p;obtain⟨j,r,A⟩:=hdir q kd f n o l;refine .inr (.inr (.inr ⟨j,by omega, ?_⟩));rcases h.only q kd f n o l with (⟨rfl,rfl,c⟩|⟨rfl,c,k⟩)|c|⟨_,c,_⟩|⟨_,_,c⟩
   .obtain⟨k,B⟩:=h.cC f c l;exact⟨B,.inl ⟨rfl,_,zc5 zdl λx v=>hok x (yao v),k⟩⟩
   .obtain⟨i,rfl⟩:∃i,q=b+1+i:=⟨q-(b+1),by omega⟩;have w:i<gs.length:=(by omega);have s:=yah w;refine⟨hW i f w l,.inr ⟨rfl,gs[i],λx v=>hok x (yay (i:=k0) ?_),(h.cP i _ f s l).1⟩⟩;exact(show x∈e.own.drop k0 by rw[hfl];exact ybq.2 ⟨_,yaw w,v⟩)
   .exact absurd c A
   .omega
   .exact c
 .have l:=d _ _ f (by omega) (by simp) (λy=>by omega) j;have z:=d _ _ u (by omega) (by simp) (λy=>by omega) r;rcases h.only q kindC f (by omega) (by simp) l with (⟨_,rfl,c⟩|⟨c,_⟩)|c|⟨c,_⟩|⟨_,c,_⟩
  .rcases h.only q kindP u (by omega) (by simp) z with (⟨k,_⟩|⟨_,k,_⟩)|k|⟨_,k,_⟩|⟨_,k,_⟩;.exact absurd k (by decide)
   .omega
   .exact absurd k (by decide)
   .omega
   .omega
  .exact absurd c (by decide)
  .exact absurd c (by decide)
  .exact absurd c (by decide)
  .exact h.uni q f u c l z
theorem zoD (hR:RightM d)(hl:0<m.last->hasK kN d.names (zcv m))(hM:BM d a m Op Sp k0 gs)(i:Nat)(f:FileM)(hi:i<gs.length)(hA:AtV (za6 d m).names (za6 d m).files (zaj m.id (m.base+1+i) kindP) f):Whole f:=by
 have c:RightM (za6 d m):=by unfold za6;split;exact zos hR;exact hR
 obtain⟨x,j,b⟩:=z9y hR hl ((zoN c).1 hA);have l:gs≠ []:=λe=>by subst e;simp at hi
 have g:=hM.lastq l;by_cases h:0<m.last/\zaj m.id (m.base+1+i) kindP=zcv m;.rw[if_pos h]at b;rw[b];rfl
 .rw[if_neg h]at b;rw[b];refine(hM.fin.cP i _ x (yah hi) ((zoN hR).2 j)).2.1 ?_;refine Nat.lt_of_not_le λk=>h ⟨by omega, ?_⟩;unfold zcv;rw[g];congr 1;omega
theorem zgJ (m:MetM)(h:RightM d):RightM (za6 d m):=by unfold za6;split;exact zos h;exact h
theorem zqN (d:DiskM)(m:MetM):(za6 d m).moves=d.moves/\(za6 d m).kept=d.kept:=by unfold za6;split<;>exact⟨rfl,rfl⟩
theorem zzZ (h:InvS s a k)(ha:a<=69)(hp:p∈P4){q:Nat}{kd:Txt}(hq:q<70)(hk:kd∈zbp){x:MetM}(hx:x∈s.mets)(hne:x.path≠p):∀q' kd',q'<70->kd'∈zbp->zaj x.id q' kd'≠zaj (zal s p).id q kd:=λq' kd' b c=>zk6 h ha hp hx hne b hq c hk
theorem z1I (h:InvS s a k)(hp:p∈P4)(ha:a<69)(hB:BndS s a O S){bs:List ArrM}(hb:OkPs bs)(hl:bs.length<=300)(hf:(za8 (zal s p) bs).length<=s.disk.quota-zaW s.disk):BndS (zdc s (zal s p) bs) (a+1) (upd O p (O p++bs)) S:=by
 have ho:=h.met hp;have Z:=h.size.right;obtain⟨k0,gs,w⟩:=zvr h hp hB;have af:=λq kd hq L x C E=>zzZ (q:=q) (kd:=kd) h (by omega) hp hq L (x:=x) C E;have hw:=λ(D:DiskM) (m':MetM) (O':List ArrM) (S':Nat×Bool) (k1:Nat) (g1:List (List ArrM)) (Y:RightM D)=>zve (D:=D) (a':=a+1) (m:=m') (Op:=O') (Sp:=S') (k0:=k1) (gs:=g1) (p:=p) h hB Y (ydg a);have al:upd S p (S p)=S:=zi8 S p;obtain⟨m,hm⟩:∃m,m=zal s p:=⟨_,rfl⟩;rw[<-hm]at ho w af hf⊢;have hq:=ho.seq;have H:=ho.id5;have a5:=w.top;have a6:=w.topa;have P:za0 m<70:=by unfold za0;omega
 have ag:za0 m=m.base+1+gs.length:=by unfold za0;omega
 have ae:zaz m.lad bs=zaz newL (O p++bs):=by rw[w.lad];simp[zaz]
 have am:OkPs (O p++bs):=λx C=>(yai.1 C).elim (w.ok x) (hb x);have ah:(O p++bs).drop k0=gs.flatten++bs:=by rw[ycy w.fin.kl,w.fl]
 unfold zdc zvf metA;by_cases ht:zlO m=true
 .simp only[ht,if_true];have Q:¬hasK kN (za6 s.disk m).names (newN m):=by rw[zcl];exact ho.fresh h ha (q:=za0 m) (by unfold za0;omega) P (by simp)
  have K:=zgJ m Z;have ai:za8 m bs=zbQ m.path (bs.map ptR):=by unfold za8;rw[if_pos ht,zhh];rfl
  have hS:SizeM (za3 (zar (za6 s.disk m) (newN m)) (newN m) (za8 m bs)) (a+1) (k+1):=size_append (n:=newN m) (b:=za8 m bs) (zfm (zcM m h.size) (zcz m.id H (za0 m) P kindP (by simp)) Q (by omega)) (by rw[zgC,zoy];show _<=(za6 s.disk m).quota-_;rw[zft];exact hf);rw[zmN K Q]at hS⊢;have Y:=hS.right;rw[ai]at Y⊢;have av:=z7O w (zdM Z m) (ydg a) (by omega);have aw:Form (za6 s.disk m).names (za6 s.disk m).files a (entM m (O p) (S p)) m.base k0 gs:=w.fin.ro (yaf _) (by omega) (zlp Z K (zdM Z m));have hG:=aw.grow K H ha (by rw[show(entM m (O p) (S p)).id=m.id from rfl,<-ag];exact Q) w.fl (λi f hi A=>zoD Z ho.last w i f (by omega) A) bs;rw[show(entM m (O p) (S p)).id=m.id from rfl,<-ag]at hG;have an:Form (zbL (za6 s.disk m) (newN m) (zbQ m.path (bs.map ptR)) 0).names (zbL (za6 s.disk m) (newN m) (zbQ m.path (bs.map ptR)) 0).files (a+1) (entM m (O p++bs) (S p)) m.base k0 (gs++ [bs]):=hG;have F:=hw (zbL (za6 s.disk m) (newN m) (zbQ m.path (bs.map ptR)) 0) {m with lad:=zaz m.lad bs,last:=za0 m,count:=bs.length} (O p++bs) (S p) k0 (gs++ [bs]) Y (λmv au=> ?_) (λx C E=>zfu (zdM Z m) (zqz K Y Q (af _ _ P (by simp) x C E))) ho.path ⟨ae,am,by rw[ah];simp, ?_,λJ o g f X A=> ?_, ?_,an⟩ (.inl (by simp));.rw[al]at F;exact F
  .rcases yai.1 (show mv∈(za6 s.disk m).moves++ [_] from au)with z|z;.rw[(zqN _ _).1]at z;exact hB.crea mv z
   .simp at z;subst z;rfl
  .show za0 m=if gs++ [bs]= []then 0 else m.base+(gs++ [bs]).length;rw[ag];simp;omega
  .obtain⟨_,B⟩:=List.append_inj' X rfl;simp at B;subst B;rcases zr9 K Q A with ⟨_,e⟩|⟨J,_⟩
   .rw[e]
   .exact absurd rfl J
  .refine zks (d:=za6 s.disk m) Y rfl rfl (λn hn=> ?_) ⟨_,yaf _,by rw[yav];exact an⟩;obtain⟨j,z,B⟩:=av n hn;refine⟨j,by simp;omega, ?_⟩;rw[ya7 z];exact(B.ro (yaf _) (by omega) (z6b K _ _ _ n)).ext bs
 .simp only[ht,ycr,if_false];have R:m.count<16/\0<m.last:=by unfold zlO at ht;simp at ht;omega
  have ai:za8 m bs=zbk bs:=by unfold za8;rw[if_neg ht]
  have aj:gs≠ []:=λe=>by have:=w.last;rw[if_pos e]at this;omega
  have ak:=w.lastq aj;obtain⟨o,g,rfl⟩:∃o g,gs=o++ [g]:=⟨gs.dropLast,gs.getLast aj,(List.dropLast_concat_getLast aj).symm⟩;have r:(o++ [g]).length=o.length+1:=by simp
  have l:(o++ [g++bs]).length=o.length+1:=by simp
  have aa:zaj m.id (m.base+1+o.length) kindP=zcv m:=by unfold zcv;rw[ak,r];congr 1;omega
  have ao:=ho.last R.2;have hS:=size_append (n:=zcv m) (b:=za8 m bs) h.size hf;have Y:=hS.right;rw[ai]at Y⊢;have aq:=zmF Z hB.crea;have ax:o.flatten++(g++bs)=(o++ [g]).flatten++bs:=by simp
  have ab:∀ns,(∀x∈ns,x∈s.disk.names)->∀t f,AtV ns (za3 s.disk (zcv m) (zbk bs)).files t f->∃y,AtV ns s.disk.files t y/\f=if t=zcv m then{y with bytes:=y.bytes++zbk bs}else y:=λns v t f A=>zAc Z v ao A;have E:∀q kd,q<70->kd∈zbp->¬(q=m.base+1+o.length/\kd=kindP)->zaj m.id q kd≠zcv m:=λq kd u L J he=>by rw[<-aa]at he;have:=zbI H H u (by omega) L (by simp) he;exact J ⟨this.2.1,this.2.2⟩
  have T:∀ns,(∀x∈ns,x∈s.disk.names)->Form ns s.disk.files a (entM m (O p) (S p)) m.base k0 (o++ [g])->Form ns (za3 s.disk (zcv m) (zbk bs)).files (a+1) (entM m (O p++bs) (S p)) m.base k0 (o++ [g++bs]):=λns v W=>by
   have G:∀q kd f,q<70->kd∈zbp->¬(q=m.base+1+o.length/\kd=kindP)->AtV ns (za3 s.disk (zcv m) (zbk bs)).files (zaj m.id q kd) f->AtV ns s.disk.files (zaj m.id q kd) f:=λq kd f u L J A=>by obtain⟨y,I,e⟩:=ab ns v _ f A;rw[if_neg (E q kd u L J)]at e;rw[e];exact I
   have ad:=W.top;refine⟨by rw[l];rw[r]at ad;omega,W.b0,by show k0<=(O p++bs).length;have z:k0<=(O p).length:=W.kl;rw[yag];omega, ?_,λM=>by simp at M,by rw[l,<-r];exact W.has,λf h0 A=> ?_,λi g' f X A=> ?_,λq kd f u L A=> ?_,λq f f' u z B=> ?_⟩;.show _<+:(O p++bs).drop k0;rw[ah,ybx,<-ax];simp
   .show _=zfW m.path (zeJ (zaz newL ((O p++bs).take k0)))/\_;have z:k0<=(O p).length:=W.kl;rw[ya7 z];exact W.cC f h0 (G _ _ f (by rw[r]at ad;omega) (by simp) (λM=>absurd M.2 (by decide)) A)
   .have ay:=(yaa.1 X).1;rw[l]at ay;by_cases hi:i<o.length;.rw[yap hi]at X;obtain⟨z,B,_⟩:=W.cP i g' f (by rw[yap hi];exact X) (G _ _ f (by rw[r]at ad;omega) (by simp) (λM=>by omega) A);exact⟨z,λ_=>B (by rw[r];omega),λM=>by rw[l]at M;omega⟩
    .have az:i=o.length:=(by omega);subst az;simp at X;subst X;obtain⟨y,I,e⟩:=ab ns v _ f A;rw[show(entM m (O p++bs) (S p)).id=m.id from rfl]at e I;rw[if_pos aa]at e;have a0:y.bytes=zbQ m.path (g.map ptR):=w.ex R.1 o g y rfl (by rw[<-aa];exact⟨I.1,I.2.imp λx C=>⟨v x C.1,C.2⟩⟩);obtain⟨c,U,h4,h5⟩:=(W.cP o.length g y (by simp) I).2.2 (by simp);have a1:(o++ [g]).take o.length=o:=(by simp);have ar:(o++ [g++bs]).take o.length=o:=(by simp);rw[a1]at h4;refine⟨⟨[],.inl rfl, ?_⟩,λM=>by rw[l]at M;omega,λ_=>⟨c,by rw[yag];omega,by rw[ar];exact h4, ?_⟩⟩;.rw[e];show y.bytes++zbk bs=zbQ m.path _++ [];rw[a0,zhh];simp[zbQ,zbG,yax]
     .rw[ya7 U,e];exact h5
   .by_cases J:q=m.base+1+o.length/\kd=kindP;.exact .inl (.inr ⟨J.2,by omega,by rw[l];omega⟩)
    .rw[l,<-r];exact W.only q kd f u L (G q kd f u L J A)
   .rw[r]at ad;exact W.uni q f f' u (G _ _ f (by omega) (by simp) (λM=>absurd M.2 (by decide)) z) (G _ _ f' (by omega) (by simp) (λM=>by omega) B)
  have hG:=T s.disk.names (λx C=>C) w.fin;have F:=hw (za3 s.disk (zcv m) (zbk bs)) {m with lad:=zaz m.lad bs,count:=m.count+bs.length} (O p++bs) (S p) k0 (o++ [g++bs]) Y hB.crea (λx C E=>z4a Z hB.crea _ ao λq kd u L=>by rw[<-aa];exact af _ _ (by omega) (by simp) x C E q kd u L) ho.path ⟨ae,am,by rw[ah];simp,by rw[l];simp;omega,λJ g1 g2 f X A=> ?_,λn hn=> ?_,hG⟩ (.inl (by simp));.rw[al]at F;exact F
  .obtain⟨z,B⟩:=List.append_inj' X rfl;simp at B;subst B;subst z;obtain⟨y,I,e⟩:=ab s.disk.names (λx C=>C) (zcv m) f A;rw[if_pos rfl]at e;rw[e];show y.bytes++zbk bs=zbQ m.path _;rw[w.ex R.1 o g y rfl I,zhh];simp[zbQ,zbG,yax]
  .have v:=aq n hn;obtain⟨j,z,B⟩:=w.vw n hn;by_cases hj:j=(o++ [g]).length;.subst hj;rw[yav]at B;exact⟨_,yaf _,by rw[yav];exact T _ v B⟩
   .have a2:j<=o.length:=(by rw[r]at z hj;omega);refine⟨j,by rw[l];omega, ?_⟩;rw[ya7 a2]at B⊢;refine(B.frame (ydg a) (by omega) (λq kd _ h=>h) λq kd f' u L A=> .inl ?_).ext bs;obtain⟨y,I,e⟩:=ab _ v _ f' A;by_cases J:q=m.base+1+o.length/\kd=kindP
    .obtain⟨rfl,rfl⟩:=J;exfalso;have a3:AtV s.disk.names s.disk.files (zaj m.id (m.base+1+o.length) kindP) y:=⟨I.1,I.2.imp λx C=>⟨v x C.1,C.2⟩⟩;have a4:=(w.fin.cP o.length g y (by simp) a3).1;rcases B.only _ kindP y (by omega) (by simp) I with (⟨U,_⟩|⟨_,_,U⟩)|U|⟨_,_,U⟩|⟨_,U,_⟩
     .exact absurd U (by decide)
     .rw[yan]at U;omega
     .exact absurd U (by decide)
     .exact z2M a4 U
     .omega
    .rw[if_neg (E q kd u L J)]at e;subst e;exact⟨f',I,rfl,yaf _,λh=>h⟩
theorem z8V (h:InvS s a k)(hp:p∈P4)(ha:a<=69)(hB:BndS s a O S)(hh:hasK kM s.mets p):BndS (zvJ s (zal s p)) a O (upd S p ((O p).length,true)):=by
 have z:=h.met hp;have q:=h.size.right;obtain⟨E,r⟩:=zcY h.srt hh;obtain⟨k0,gs,b,d⟩:=hB.mets _ (yad E);rw[r]at b;have R:=λ(D:DiskM) (J:MetM) (K:List ArrM) (L:Nat×Bool) (M:Nat) (P:List (List ArrM)) (Q:RightM D)=>zve (D:=D) (a':=a) (m:=J) (Op:=K) (Sp:=L) (k0:=M) (gs:=P) (p:=p) h hB Q (yaf a);have A:upd O p (O p)=O:=zi8 O p;obtain⟨m,t⟩:∃m,m=zal s p:=⟨_,rfl⟩;rw[<-t]at z b d⊢;have T:=b.topa;have l:=zgJ m q;have c:RightM (zis (za6 s.disk m)):=(zhY (zcM m h.size)).right;have C:=zoL (za6 s.disk m);have n:∀id,Rv id s.disk (zis (za6 s.disk m)):=λid=>zfu (zdM q m) (zrk l);have U:=b.fin.ro (yaf a) (by omega) (zlp q c (n m.id));have B:=U.sured d b.fl λi f F w=>by obtain⟨y,u,W,_,v⟩:=(zlp l c (zrk (id:=m.id) l)).2 _ kindP f (by omega) (by simp) w;exact v (zoD q z.last b i y F u)
 have j:=R _ m (O p) ((O p).length,true) k0 gs c (λX o=>by rw[C]at o;cases o) (λx Y d=>n x.id) z.path (z3M c C b.lad b.ok b.fl b.last (λG H g f I w=> ?_) B) d;.rw[A]at j;exact j
 .have:=b.last;obtain⟨y,u,e,_⟩:=(zlp q c (n m.id)).2 m.last kindP f (by have:=b.top;omega) (by simp) w;rw[e];exact b.ex G H g y I u
abbrev cD (d:DiskM)(m:MetM)(b:Txt)(n:Nat):DiskM:=zbL (za6 d m) (zaA m) b n
structure Pk (s:ShM)(m:MetM)(b:Txt)(a k:Nat):Prop extends Packed s m b a k where
 e2:zar (za6 s.disk m) (zaA m)=cD s.disk m [] 0
 e3:za3 (zar (za6 s.disk m) (zaA m)) (zaA m) b=cD s.disk m b 0
 e4:zcJ (cD s.disk m b 0) (zaA m)=cD s.disk m b b.length
theorem pk (h:InvS s a k)(ha:a<69)(ho:OkMet s p a m)(hf:b.length<=s.disk.quota-zaW s.disk):Pk s m b a k:=by have c:=z4d h ha ho hf;exact⟨c,rfl,zmN c.s1.right c.n1 b,zy7 c.s1.right c.n1 b 0⟩
abbrev rD (d:DiskM)(m:MetM)(b:Txt):DiskM:=zbR (cD d m b b.length) (zaA m) (zaM m)
theorem Pk.s5' (hP:Pk s m b a k):SizeM (rD s.disk m b) (a+1) (k+2):=by have:=hP.s5;rw[hP.e3,hP.e4]at this;exact this
theorem Pk.s4' (hP:Pk s m b a k):SizeM (cD s.disk m b b.length) (a+1) (k+1):=by have:=hP.s4;rw[hP.e3,hP.e4]at this;exact this
theorem Pk.s3' (hP:Pk s m b a k):SizeM (cD s.disk m b 0) (a+1) (k+1):=by have:=hP.s3;rw[hP.e3]at this;exact this
theorem Pk.pack (hP:Pk s m b a k):zcQ s.disk m b=zbx (rD s.disk m b):=by unfold zcQ;rw[hP.e3,hP.e4]
theorem Pk.has4 (hP:Pk s m b a k):hasK kN (cD s.disk m b b.length).names (zaA m):=⟨_,zaH.2 (.inl rfl),rfl⟩
theorem zwS (hP:Pk s m b a k){x:NameM}(h1:x.name≠zaA m)(h2:x.name≠zaM m):x∈(rD s.disk m b).names↔x∈(cD s.disk m b b.length).names:=by
 have d:=zgj (s:=zaA m) hP.s4'.right.names.srt;constructor
 .intro c;rcases zaH.1 (show x∈insK kN (zfS (delK kN (cD s.disk m b b.length).names (zaA m)) (zaM m)) ⟨zaM m,_⟩ from c)with rfl|c
  .exact absurd rfl h2
  .exact((zcA hP.s4'.right.names.srt hP.has4).1 ((zkm d).1 c).1).1
 .exact λc=>zaH.2 (.inr ((zkm d).2 ⟨(zcA hP.s4'.right.names.srt hP.has4).2 ⟨c,h1⟩,h2⟩))
theorem zD8 (hP:Pk s m b a k)(hR:RightM s.disk){b':Txt}{n id:Nat}(hD:RightM (cD s.disk m b' n))(hne:∀q kd,q<70->kd∈zbp->zaj id q kd≠zaA m):Rv id s.disk (cD s.disk m b' n):=zfu (zdM hR m) (zqz hP.s1.right hD hP.n1 hne)
theorem zDw (hP:Pk s m b a k)(hR:RightM s.disk){id:Nat}(hne:∀q kd,q<70->kd∈zbp->zaj id q kd≠zaA m)(hne2:∀q kd,q<70->kd∈zbp->zaj id q kd≠zaM m):Rv id s.disk (rD s.disk m b):=zfu (zD8 hP hR hP.s4'.right hne) (z4h hP.s4'.right hP.s5'.right rfl rfl rfl λx q kd c d e=>zwS hP (by rw[e];exact hne q kd c d) (by rw[e];exact hne2 q kd c d))
theorem zDv (hP:Pk s m b a k)(hR:RightM s.disk){id:Nat}(hne:∀q kd,q<70->kd∈zbp->zaj id q kd≠zaA m)(hne2:∀q kd,q<70->kd∈zbp->zaj id q kd≠zaM m):Rv id s.disk (zcQ s.disk m b):=by rw[hP.pack];exact zfu (zDw hP hR hne hne2) (zAa hP.s5'.right)
theorem zt8 {l:List Txt}{id:Nat}(h:SizeM d a k)(hnd:l.Nodup)(hl:∀n∈l,okS n/\hasK kN d.names n)(hx:∀q kd,q<70->kd∈zbp->zaj id q kd∉l):Rv id d (zax d l):=by refine zfp (P:=λl=>l.Nodup->(∀n∈l,okS n/\hasK kN d.names n)->(∀q kd,q<70->kd∈zbp->zaj id q kd∉l)->Rv id d (zax d l)) (λ_ _ _=>zjh) (λl n s hnd hl hx=> ?_) l hnd hl hx;have b:=(yb7.1 hnd).1;have c:∀t∈l,okS t/\hasK kN d.names t:=λt u=>hl t (by simp[u]);have f:=hl n (by simp);obtain⟨g,r⟩:=zce h b c;have o:hasK kN (zax d l).names n:=(r n).2 ⟨λi=>(yb7.1 hnd).2.2 n i n (by simp) rfl,f.2⟩;rw[zhf];refine zfu (s b c λq kd j m i=>hx q kd j m (by simp[i])) (z4h g.right (zji g.right f.1 o) rfl rfl rfl λx q kd j m v=> ?_);have p:x.name≠n:=λe=>hx q kd j m (by rw[<-v,e];simp);exact⟨λh=>((zcA g.right.names.srt o).1 h).1,λh=>(zcA g.right.names.srt o).2 ⟨h,p⟩⟩
structure CM (s:ShM)(m:MetM)(a k k0:Nat)(gs:List (List ArrM))(Op:List ArrM)(Sp:Nat×Bool)(p:Txt):Prop where
 ho:OkMet s p a m
 hM:BM s.disk a m Op Sp k0 gs
 f1:Form (za6 s.disk m).names (za6 s.disk m).files a (entM m Op Sp) m.base k0 gs
 f5:Form (rD s.disk m (zaG m)).names (rD s.disk m (zaG m)).files (a+1) (entM m Op Sp) (za0 m) Op.length []
theorem cm (h:InvS s a k)(hp:p∈P4)(ha:a<69)(hB:BndS s a O S)(hP:Pk s (zal s p) (zaG (zal s p)) a k):∃k0 gs,CM s (zal s p) a k k0 gs (O p) (S p) p:=by
 have g:=h.met hp;have B:=h.size.right;obtain⟨k0,gs,b⟩:=zvr h hp hB;have j:=λ(x:MetM) n c q r kd l=>zk6 (x:=x) (q:=q) (r:=r) (kd:=kd) (l:=l) h (by omega) hp n c;obtain⟨m,J⟩:∃m,m=zal s p:=⟨_,rfl⟩;rw[<-J]at g b hP j⊢;have A:=zgJ m B;have I:=b.top;have L:=b.topa;have P:=g.seq;have o:za0 m=m.base+gs.length+1:=by unfold za0;omega
 have d:Form (za6 s.disk m).names (za6 s.disk m).files a (entM m (O p) (S p)) m.base k0 gs:=b.fin.ro (yaf _) (by omega) (zlp B A (zdM B m));refine⟨k0,gs,g,b,d, ?_⟩;have z:=d.pack (ns5:=(rD s.disk m (zaG m)).names) (fs5:=(rD s.disk m (zaG m)).files) b.ok g.id5 (a':=a+1) (by omega) (by omega) (ybu (d.sure_le (zn5 A)) d.own_len) (λi f K w=>zoD B g.last b i f K w) b.fl (λq kd f y z w=> ?_) ?_ λt f w=> ?_;.rw[<-o]at z;exact z
 .have M:hasK kN s.disk.names (zaj m.id q kd):=by obtain⟨_,x,n,C,_⟩:=w;rw[zcl]at n;exact⟨x,n,C⟩
  rcases g.dir _ M with ⟨r,G,D,H,v,u⟩|⟨x,n,c,r,G,D,H,v,u⟩;.have:=zbI g.id5 g.id5 y (by omega) z (kd3 u) D;obtain⟨_,rfl,rfl⟩:=this;refine⟨H,by omega,λe=> ?_⟩;rcases u with rfl|rfl<;>exact absurd e (by decide)
  .have:=h.seq x n;exact absurd D.symm (j x n c r q G kd (by omega) y (kd3 u) z)
 .rw[show(entM m (O p) (S p)).id=m.id from rfl,<-o];exact⟨_,zaH.2 (.inl rfl),rfl⟩
 .rw[show(entM m (O p) (S p)).id=m.id from rfl,<-o];rcases z5C hP.s4'.right hP.has4 ((zoN hP.s5'.right).1 w)with ⟨rfl,v⟩|⟨c,E,v⟩
  .rcases zr9 hP.s1.right hP.n1 ((zoN hP.s4'.right).2 v)with ⟨_,rfl⟩|⟨F,_⟩;.refine .inl ⟨rfl, ?_,rfl⟩;show zaG m=_;unfold zaG;rw[b.lad]
   .exact absurd rfl F
  .rcases zr9 hP.s1.right hP.n1 ((zoN hP.s4'.right).2 v)with ⟨F,_⟩|⟨_,u⟩;.exact absurd F E
   .exact .inr u
theorem z36 (hP:Pk s m (zaG m) a k)(hC:Comp s m (zaG m) a k)(hM:CM s m a k k0 gs Op Sp p)(ha:a<69){l:List Txt}(hl:l.Sublist (zc3 (zcQ s.disk m (zaG m)) m.id (zaM m))):zjF (zax (zcQ s.disk m (zaG m)) l) λns=>(∀x∈ns,x∈(zcQ s.disk m (zaG m)).names)/\Form ns (zcQ s.disk m (zaG m)).files (a+1) (entM m Op Sp) (za0 m) Op.length []:=by
 have e:=hP.s6;have j:(zcQ s.disk m (zaG m)).moves= []:=rfl;have d:Form (zcQ s.disk m (zaG m)).names (zcQ s.disk m (zaG m)).files (a+1) (entM m Op Sp) (za0 m) Op.length []:=by rw[hP.pack];exact hM.f5.ro (yaf _) (by omega) (zv4 _)
 have f:=zml e (hC.fnd.sublist hl) (λn b=>hC.fok n (hl.subset b)) (zjd e.right j ⟨λx c=>c,λx c=>c⟩);have o:=zoU d (by omega) f λq u h i=>by
  have r:=zhB.1 (hl.subset i);rcases h with ⟨rfl,rfl,_⟩|⟨_,t,g⟩
  .exact r.2.1 rfl
  .simp at g;omega
 exact λn b=>⟨(f n b).1,o n b⟩
theorem z7m (h:InvS s a k)(hp:p∈P4)(ha:a<69)(hB:BndS s a O S)(hf:(zaG (zal s p)).length<=s.disk.quota-zaW s.disk):BndS (zsD s (zal s p) (zaG (zal s p))) (a+1) O (upd S p ((O p).length,true)):=by
 have t:=h.met hp;have R:=h.size.right;have v:=pk h ha t hf;have e:=comp h ha t v.toPacked;obtain⟨k0,gs,A⟩:=cm h hp ha hB v;have d:=λ(x:MetM) j b q r kd l=>zk6 (x:=x) (q:=q) (r:=r) (kd:=kd) (l:=l) h (by omega) hp j b;have T:=λ(D:DiskM) (J:MetM) (K:List ArrM) (L:Nat×Bool) (M:Nat) (P:List (List ArrM)) (Q:RightM D)=>zve (D:=D) (a':=a+1) (m:=J) (Op:=K) (Sp:=L) (k0:=M) (gs:=P) (p:=p) h hB Q (ydg a);have B:upd O p (O p)=O:=zi8 O p;obtain⟨m,G⟩:∃m,m=zal s p:=⟨_,rfl⟩;rw[<-G]at t v e A d⊢;have hq:=t.seq;have n:za0 m<70:=by unfold za0;omega
 have u:RightM (zpK s.disk m (zaG m)):=e.s8.right;have E:(zpK s.disk m (zaG m)).moves= []:=zoL _;have U:=zgn e.s7.right (z36 v e A ha (List.Sublist.refl _));have W:Form (zpK s.disk m (zaG m)).names (zpK s.disk m (zaG m)).files (a+1) (entM m (O p) (S p)) (za0 m) (O p).length []:=by have:=U.2;rw[<-ze4 _ (zc3 (zcQ s.disk m (zaG m)) m.id (zaM m))]at this;exact this.ro (yaf _) (by omega) (zlp e.s7.right u (zrk e.s7.right))
 have C:=W.sured (.inr (by unfold za0;omega)) (by simp) λi f H Z=>by simp at H
 have j:∀x∈s.mets,x.path≠p->Rv x.id s.disk (zpK s.disk m (zaG m)):=λx j b=>by have X:=λq kd c w=>d x j b q (za0 m) kd zdv c n w (by simp);have Y:=λq kd c w=>d x j b q (za0 m) kd kindC c n w (by simp);refine zfu (zDv v R X Y) (zfu (zt8 v.s6 e.fnd e.fok λq kd c w y=> ?_) (zrk e.s7.right));have F:=(zhB.1 y).2.2;rw[zkz _ (h.id5 j) q c kd w _ t.id5]at F;exact t.others x j b (by simpa using F)
 have o:=T _ (zyR m) (O p) ((O p).length,true) (O p).length [] u (λmv z=>by rw[E]at z;cases z) j t.path (z3M u E A.hM.lad A.hM.ok (by simp) rfl (λhc gi g f I=>by simp at I) C) (.inr (by show 0<za0 m;unfold za0;omega));rw[B]at o;exact o
def MidV (s:ShM)(a:Nat)(m:MetM)(Op:List ArrM)(Sp:Nat×Bool)(D:DiskM):Prop:=zjF D λns=>(∀x∈ns,(∃q kd,x.name=zaj m.id q kd/\1<=q/\q<=a+1/\kd∈zbp)∨hasK kN s.disk.names x.name)/\∃b k0 gs,Form ns D.files (a+1) (entM m Op Sp) b k0 gs
theorem zns (h:InvS s a k)(ha:a<69)(hc:Crea s.disk)(hM:BM s.disk a m Op Sp k0 gs)(bs:List ArrM)(hD:D=s.disk∨D=za6 s.disk m):MidV s a m (Op++bs) Sp D:=by
 have f:=h.size.right;have b:Rv m.id s.disk D/\D.moves=s.disk.moves/\D.kept=s.disk.kept:=by
  rcases hD with rfl|rfl;.exact⟨zjh,rfl,rfl⟩
  .exact⟨zdM f m,zqN _ _⟩
 intro n d;refine⟨λx c=> .inr ⟨x, ?_,rfl⟩, ?_⟩
 .have e:za4 D n=za4 s.disk n:=by unfold za4;rw[b.2.1,b.2.2]
  rw[e]at c;exact zmF f hc n (by rw[<-b.2.1];exact d) x c
 .obtain⟨j,_,g⟩:=z7O hM b.1 (ydg a) (by omega) n d;exact⟨_,_,_,g.ext bs⟩
theorem z6g (h:InvS s a k)(ha:a<69)(ho:OkMet s p a m)(hc:Crea s.disk)(hM:BM s.disk a m Op Sp k0 gs)(bs:List ArrM){kd:Txt}{b:Txt}{n:Nat}(hn:¬hasK kN (za6 s.disk m).names (zaj m.id (za0 m) kd))(hD:RightM (zbL (za6 s.disk m) (zaj m.id (za0 m) kd) b n)) (hkd:kd=zdv∨(kd=kindP/\b= [])):MidV s a m (Op++bs) Sp (zbL (za6 s.disk m) (zaj m.id (za0 m) kd) b n):=by
 have l:=h.size.right;have c:=zgJ m l;have C:=zns h ha hc hM bs (.inr rfl);have E:=ho.seq;have r:=hM.top;have e:kd∈zbp:=by rcases hkd with rfl|⟨rfl,_⟩<;>simp
 have D:za0 m=max m.base m.last+1:=rfl;refine zks (d:=za6 s.disk m) hD rfl rfl (λj z=> ?_) ⟨λx f=> ?_, ?_⟩;.obtain⟨t,u,v,w,y⟩:=C j z;exact⟨t,u,v,w,y.ro (yaf _) (by omega) (z6b c _ _ _ j)⟩
 .rcases zaH.1 (show x∈insK kN (za6 s.disk m).names _ from f)with rfl|f;.exact .inl ⟨_,kd,rfl,by omega,by omega,e⟩
  .rw[zcl]at f;exact .inr ⟨x,f,rfl⟩
 .have o:Form (za6 s.disk m).names (za6 s.disk m).files a (entM m Op Sp) m.base k0 gs:=hM.fin.ro (yaf _) (by omega) (zlp l c (zdM l m));refine⟨_,_,_,(o.junk c hn (ydg a) (by omega) λq A g i B=> ?_).ext bs⟩;obtain⟨_,rfl,rfl⟩:=zbI ho.id5 ho.id5 g (by omega) i e B;rcases hkd with rfl|⟨rfl,rfl⟩
  .exact .inl rfl
  .refine .inr ⟨rfl,by omega,⟨List.nil_prefix, ?_⟩⟩;rw[zbd];simp
theorem z8c (h:InvS s a k)(hk:k<=900)(hs:s.down=false)(hp:p∈P4)(ha:a<69)(hB:BndS s a O S){bs:List ArrM}(hb:OkPs bs)(hl:bs.length<=300)(hf:(za8 (zal s p) bs).length<=s.disk.quota-zaW s.disk)(hd:(appF s (zal s p) (za8 (zal s p) bs)).down=true):
  Safe (appF s (zal s p) (za8 (zal s p) bs)).disk (a+1) (zdc s (zal s p) bs).mets (upd O p (O p++bs)) S:=by
 have o:=h.met hp;have w:=h.size.right;obtain⟨k0,gs,r⟩:=zvr h hp hB;have A:=zsN h hp ha hb hl hf;have j:(metA (zal s p) bs).id=(zal s p).id/\(metA (zal s p) bs).path=p:=by unfold metA;split<;>exact⟨rfl,o.path⟩
 have g:∀x,x∈(zdc s (zal s p) bs).mets↔x=metA (zal s p) bs∨(x∈s.mets/\x.path≠p):=λx=>by unfold zdc;rw[zf1 (s:={s with disk:=zvf s.disk (zal s p) (za8 (zal s p) bs)}) h.srt,j.2]
 have t:=λq kd v hk x f c=>zzZ (q:=q) (kd:=kd) h (by omega) hp v hk (x:=x) f c;have u:upd O p (O p++bs) p=O p++bs:=if_pos rfl;have d:=λ(D:DiskM) (E:SizeM D (a+1) 1000) (F:∀x∈s.mets,x.path≠p->Rv x.id s.disk D) (G:MidV s a (zal s p) (O p++bs) (S p) D)=>z0F (D:=D) (ms:=(zdc s (zal s p) bs).mets) (O':=upd O p (O p++bs)) h hp hB (λq v=>if_neg v) ha (λx f=>by
   rcases(g x).1 f with rfl|C
   .exact .inl j
   .exact .inr C) ⟨_,(g _).2 (.inl rfl),j.1⟩ (λx f c=>(g x).2 (.inr ⟨f,c⟩)) (by rw[u];exact λx f=>(yai.1 f).elim (r.ok x) (hb x)) A.idn (zng A.srt) E F (by rw[u];exact G)
 obtain⟨m,B⟩:∃m,m=zal s p:=⟨_,rfl⟩;rw[<-B]at o r d t hd hf⊢;have v:=o.seq;have i:za0 m<70:=by unfold za0;omega
 rcases zB1 hs hd with e|⟨_,e|e⟩;.rw[e];exact d _ (h.size.more (ydg a) (by omega)) (λx f c=>zjh) (zns h ha hB.crea r bs (.inl rfl))
 .rw[e];exact d _ ((zcM m h.size).more (ydg a) (by omega)) (λx f c=>zdM w m) (zns h ha hB.crea r bs (.inr rfl))
 .rw[e];have l:¬hasK kN (za6 s.disk m).names (newN m):=by rw[zcl];exact o.fresh h ha (q:=za0 m) (by unfold za0;omega) i (by simp)
  have y:=zfm (zcM m h.size) (zcz m.id o.id5 (za0 m) i kindP (by simp)) l (by omega);have z:=zgJ m w;exact d _ (y.more (yaf _) (by omega)) (λx f c=>zfu (zdM w m) (zqz (b:= []) (s:=0) z y.right l (t _ _ i (by simp) x f c))) (z6g (b:= []) (n:=0) h ha o hB.crea r bs l y.right (.inr ⟨rfl,rfl⟩))
theorem zuT (h:InvS s a k)(hp:p∈P4)(ha:a<69)(hB:BndS s a O S)(hh:hasK kM s.mets p)(hD:SizeM D (a+1) 1000)(hr:∀x∈s.mets,x.path≠p->Rv x.id s.disk D)(hv:MidV s a (zal s p) (O p) (S p) D):Safe D (a+1) s.mets O S:=by
 obtain⟨e,d⟩:=zcY h.srt hh;obtain⟨k0,gs,f⟩:=zvr h hp hB;exact z0F h hp hB (λ_ _=>rfl) ha (λx c=>by
  by_cases b:x.path=p;.have:x=zal s p:=znK h.srt c (yad e) (b.trans d.symm);exact .inl ⟨by rw[this],b⟩
  .exact .inr ⟨c,b⟩) ⟨_,yad e,rfl⟩ (λx c _=>c) f.ok h.idn (zng h.srt) hD hr hv
theorem z3g (h:InvS s a k)(hk:k<=900)(hs:s.down=false)(hp:p∈P4)(ha:a<69)(hB:BndS s a O S)(hh:hasK kM s.mets p)(hd:(zjp s (zal s p)).down=true):Safe (zjp s (zal s p)).disk (a+1) s.mets O S:=by
 obtain⟨k0,gs,d⟩:=zvr h hp hB;have i:=h.size.right;have e:=zug (x:=zbw s (zal s p)) hd;have c:=λD f=>zns (D:=D) h ha hB.crea d [] f;simp only[ybi]at c;unfold zjp;rw[e];rcases zrF (m:=zal s p) hs with e|e<;>rw[e]
 .exact zuT h hp ha hB hh (h.size.more (ydg a) (by omega)) (λx g b=>zjh) (c _ (.inl rfl))
 .exact zuT h hp ha hB hh ((zcM _ h.size).more (ydg a) (by omega)) (λx g b=>zdM i _) (c _ (.inr rfl))
theorem z5w (hP:Pk s m b a k)(hs:s.down=false)(hd:(zfa s m b).down=true):((zfa s m b).disk=s.disk∨(zfa s m b).disk=za6 s.disk m)∨(∃b' n,SizeM (cD s.disk m b' n) (a+1) (k+1)/\(zfa s m b).disk=cD s.disk m b' n)∨(zfa s m b).disk=rD s.disk m b:=by
 obtain⟨d,e,f,g,r,p,h,i,j,q,t⟩:∃d e f g r,d=zbw s m/\e=opS (zar d.disk (zaA m)) d/\f=opS (za3 e.disk (zaA m) b) e/\g=opS (zcJ f.disk (zaA m)) f/\r=opS (zbR g.disk (zaA m) (zaM m)) g/\zfa s m b=zdm r:=⟨_,_,_,_,_,rfl,rfl,rfl,rfl,rfl,rfl⟩;rw[t]at hd⊢;rw[zug hd];have z:=zrF (m:=m) hs;rw[<-p]at z;have A:d.down=false->d.disk=za6 s.disk m:=λc=>by rw[p]at c⊢;exact(zfG c).2
 have B:e.down=false->e.disk=cD s.disk m [] 0:=λc=>by rw[h]at c⊢;obtain⟨l,o⟩:=zdD c;rw[o,A l];exact hP.e2
 have C:f.down=false->f.disk=cD s.disk m b 0:=λc=>by rw[i]at c⊢;obtain⟨l,o⟩:=zdD c;rw[o,B l,<-hP.e2,hP.e3]
 have F:g.down=false->g.disk=cD s.disk m b b.length:=λc=>by rw[j]at c⊢;obtain⟨l,o⟩:=zdD c;rw[o,C l,hP.e4]
 have G:SizeM (cD s.disk m [] 0) (a+1) (k+1):=hP.s2;rcases ztx (D:=zbR g.disk (zaA m) (zaM m)) (x:=g)with u|⟨E,u⟩
 .rw[q,u];rcases ztx (D:=zcJ f.disk (zaA m)) (x:=f)with v|⟨o,v⟩
  .rw[j,v];rcases ztx (D:=za3 e.disk (zaA m) b) (x:=e)with w|⟨l,w⟩
   .rw[i,w];rcases ztx (D:=zar d.disk (zaA m)) (x:=d)with y|⟨c,y⟩
    .rw[h,y];exact .inl z
    .rw[h,y,A c];exact .inr (.inl ⟨[],0,G,hP.e2⟩)
   .rw[i,w,B l,<-hP.e2,hP.e3];exact .inr (.inl ⟨b,0,hP.s3',rfl⟩)
  .rw[j,v,C o,hP.e4];exact .inr (.inl ⟨b,b.length,hP.s4',rfl⟩)
 .rw[q,u,F E];exact .inr (.inr rfl)
theorem z5W (h:InvS s a k)(hk:k<=900)(hs:s.down=false)(hp:p∈P4)(ha:a<69)(hB:BndS s a O S)(hh:hasK kM s.mets p)(hf:(zaG (zal s p)).length<=s.disk.quota-zaW s.disk)(hd:(zgP s (zal s p) (zaG (zal s p))).down=true):Safe (zgP s (zal s p) (zaG (zal s p))).disk (a+1) s.mets O S:=by
 have z:=h.met hp;have L:=h.size.right;have j:=pk h ha z hf;have C:=comp h ha z j.toPacked;obtain⟨k0,gs,E⟩:=cm h hp ha hB j;have v:=λ(x:MetM) f c q r kd l=>zk6 (x:=x) (q:=q) (r:=r) (kd:=kd) (l:=l) h (by omega) hp f c;have g:=λD=>zuT (D:=D) h hp ha hB hh;obtain⟨m,X⟩:∃m,m=zal s p:=⟨_,rfl⟩;rw[<-X]at z j C E v g hd⊢;have hq:=z.seq;have y:za0 m<70:=by unfold za0;omega
 have Q:=λD M=>zns (D:=D) h ha hB.crea E.hM [] M;have A:=λK n (M:RightM (cD s.disk m K n))=>z6g (kd:=zdv) (b:=K) (n:=n) h ha z hB.crea E.hM [] j.n1 M (.inl rfl);simp only[ybi]at Q A;have R:∀x∈s.mets,x.path≠p->∀q kd,q<70->kd∈zbp->zaj x.id q kd≠zaA m:=λx f c q kd t u=>v x f c q (za0 m) kd zdv t y u (by simp);have W:∀x∈s.mets,x.path≠p->∀q kd,q<70->kd∈zbp->zaj x.id q kd≠zaM m:=λx f c q kd t u=>v x f c q (za0 m) kd kindC t y u (by simp);have T:=zug (x:=if(zfa s m (zaG m)).down then zfa s m (zaG m)else zdr (zfa s m (zaG m)) (zc3 (zfa s m (zaG m)).disk m.id (zaM m))) hd;rw[znI,T];by_cases w:(zfa s m (zaG m)).down=true
 .rw[if_pos w];rcases z5w j hs w with e|⟨K,n,F,e⟩|e
  .rcases e with e|e<;>rw[e];.exact g _ (h.size.more (ydg a) (by omega)) (λx f c=>zjh) (Q _ (.inl rfl))
   .exact g _ ((zcM _ h.size).more (ydg a) (by omega)) (λx f c=>zdM L _) (Q _ (.inr rfl))
  .rw[e];exact g _ (F.more (yaf _) (by omega)) (λx f c=>zD8 j L F.right (R x f c)) (A K n F.right)
  .rw[e];refine g _ (j.s5'.more (yaf _) (by omega)) (λx f c=>zDw j L (R x f c) (W x f c)) (zks (d:=cD s.disk m (zaG m) (zaG m).length) j.s5'.right rfl rfl (A _ _ j.s4'.right) ⟨λx f=> ?_,⟨_,_,_,E.f5⟩⟩);by_cases B:x.name=zaM m;.exact .inl ⟨_,kindC,B,by unfold za0;omega,by unfold za0;omega,by simp⟩
   .by_cases U:x.name=zaA m;.exact .inl ⟨_,zdv,U,by unfold za0;omega,by unfold za0;omega,by simp⟩
    .rcases zaH.1 (show x∈insK kN (za6 s.disk m).names _ from(zwS j U B).1 f)with rfl|f;.exact absurd rfl U
     .rw[zcl]at f;exact .inr ⟨x,f,rfl⟩
 .rw[if_neg w];have H:=z0G (by simpa using w);rw[H];obtain⟨i,_,e⟩:=z0A (zfa s m (zaG m)) (zc3 (zcQ s.disk m (zaG m)) m.id (zaM m));rw[e,H];have o:((zc3 (zcQ s.disk m (zaG m)) m.id (zaM m)).take i).Sublist (zc3 (zcQ s.disk m (zaG m)) m.id (zaM m)):=List.take_sublist _ _;have I:∀n∈(zc3 (zcQ s.disk m (zaG m)) m.id (zaM m)).take i,okS n/\hasK kN (zcQ s.disk m (zaG m)).names n:=λn P=>C.fok n (o.subset P);have F:=(zce j.s6 (C.fnd.sublist o) I).1;have Z:=C.flen;refine g _ (F.more (yaf _) (by have:=o.length_le;omega)) (λx f c=> ?_) (λn P=> ?_);.refine zfu (zDv j L (R x f c) (W x f c)) (zt8 j.s6 (C.fnd.sublist o) I λq kd t u G=> ?_);have J:=(zhB.1 (o.subset G)).2.2;rw[zkz _ (h.id5 f) q t kd u _ z.id5]at J;exact z.others x f c (by simpa using J)
  .obtain⟨J,Y⟩:=z36 j C E ha o n P;refine⟨λx f=> ?_,⟨_,_,_,by rw[ze4];exact Y⟩⟩;rcases(j.nm x.name).1 ⟨x,J x f,rfl⟩with B|⟨_,B⟩
   .exact .inl ⟨_,kindC,B,by unfold za0;omega,by unfold za0;omega,by simp⟩
   .exact .inr B
end Go.Proofs.YtdbhocoeolhjhaaGreatDoor
namespace Go.Sf
theorem zj7 {α:Type}{P:List α->Prop}(h0:P [])(h1:∀l a,P l->P (l++ [a]))(l:List α):P l:=by
 rw[<-List.reverse_reverse l]
 induction l.reverse with
 |nil=>exact h0
 |cons a l b=>rw[List.reverse_cons];exact h1 _ _ b
def zna (step:Nat)(l A:List Slot):List Slot:=A.foldl (λl s=>setR step l s.1.toNat s.2) l
theorem z1F (step:Nat)(l A:List Slot)(s:Slot):zna step l (A++ [s])=setR step (zna step l A) s.1.toNat s.2:=by simp[zna]
theorem zvz (step:Nat)(l A:List Slot):(zna step l A).length=l.length:=by
 unfold zna
 induction A generalizing l with
 |nil=>rfl
 |cons s A a=>rw[yev,a,zcR]
theorem z0K {step n i:Nat}{s:Slot}(h:zAp step n i s)(h1:s.1≠ -1)(hs:0<step):s.1.toNat/step%n=i/\(((s.1.toNat/step*step:Nat):Int),s.2)=s:=by
 rcases h with ⟨a,_⟩|⟨k,a,_,b,_,_⟩;.exact absurd a h1
 .have e:s.1.toNat=k*step:=by rw[a];exact ydr _
  rw[e,ydi _ hs];exact⟨b,Prod.ext a.symm rfl⟩
theorem zCd {step:Nat}{l:List Slot}(h:zde step l)(hs:0<step):∀{A:List Slot},(∀s∈A,s∈l/\s.1≠ -1)->∀(i:Nat) (s:Slot),l[i]? =some s->(zna step (List.replicate l.length (-1,0)) A)[i]? =some (if s∈A then s else(-1,0)):=λ{A}=>by
 refine zj7 (P:=λA=>(∀s∈A,s∈l/\s.1≠ -1)->∀(i:Nat) (s:Slot),l[i]? =some s->(zna step (List.replicate l.length (-1,0)) A)[i]? =some (if s∈A then s else(-1,0))) ?_ ?_ A;.intro _ i s b;have:=(yaa.1 b).1;simp[zna,this]
 .intro A a u p i s b;have m:=(yaa.1 b).1;have n:=u (λs k=>p s (by simp[k])) i s b;obtain⟨g,c⟩:=p a (by simp);obtain⟨j,o⟩:=ybb g;obtain⟨r,t⟩:=z0K (h j a o) c hs;have q:(zna step (List.replicate l.length (-1,0)) A).length=l.length:=by rw[zvz];simp
  rw[z1F];unfold setR;rw[q,r,t,List.getElem?_set];by_cases d:j=i;.subst d;rw[o]at b;simp only[yab]at b;subst b;simp[q,m]
  .rw[if_neg d,n];by_cases e:s=a
   .subst e;by_cases f:s.1= -1;.exact absurd f c
    .have:=(z0K (h i s b) f hs).1;omega
   .simp[e]
theorem zxi {step:Nat}{l A:List Slot}(h:zde step l)(hs:0<step)(hA:A.Perm (zhP l)):zna step (List.replicate l.length (-1,0)) A=l:=by
 have d:∀s,s∈A↔s∈l/\s.1≠ -1:=λs=>by rw[hA.mem_iff];simp[zhP]
 apply yeg;intro i;by_cases a:i<l.length
 .rw[zCd h hs (λs c=>(d s).1 c) i _ (yah a),yah a];split;.rfl
  .rename_i f;rcases h i _ (yah a)with ⟨b,e⟩|⟨k,b,_⟩
   .rw[show l[i]=(-1,0) from Prod.ext b e]
   .exact absurd ((d _).2 ⟨yaw a,by rw[b];omega⟩) f
 .rw[ybv (by rw[zvz];simp;omega),ybv (by omega)]
def putS (l:LadM)(r:SlR):LadM:=if r.rung=0 then⟨setR 10 l.fine r.t r.v,l.wide⟩else⟨l.fine,setR 60 l.wide r.t r.v⟩
def zfI (rs:List SlR):LadM:=rs.foldl putS newL
theorem z1k (l:LadM)(A:List Slot):(A.map λs=>(⟨0,s.1.toNat,s.2⟩:SlR)).foldl putS l=⟨zna 10 l.fine A,l.wide⟩:=by
 induction A generalizing l with
 |nil=>rfl
 |cons s A a=>rw[yce,yev,a];rfl
theorem z2c (l:LadM)(A:List Slot):(A.map λs=>(⟨1,s.1.toNat,s.2⟩:SlR)).foldl putS l=⟨l.fine,zna 60 l.wide A⟩:=by
 induction A generalizing l with
 |nil=>rfl
 |cons s A a=>rw[yce,yev,a];rfl
theorem z0P {l:LadM}(h:RightL l):zfI (zeJ l)=l:=by unfold zfI zeJ;rw[List.foldl_append,z1k,z2c];have a:=zxi h.r1 (by omega) (zgK l.fine);have b:=zxi h.r2 (by omega) (zgK l.wide);rw[h.n1]at a;rw[h.n2]at b;show LadM.mk (zna 10 (List.replicate 6 (-1,0)) _) (zna 60 (List.replicate 5 (-1,0)) _)=l;rw[a,b]
structure OkPut (r:SlR):Prop where
 rung:r.rung<2
 t:r.t<=1099511627776
 al:r.t%(if r.rung=0 then 10 else 60)=0
 v:i64 r.v
 n:r.v≠ -9223372036854775808
theorem zzT {l:LadM}(h:RightL l):∀r∈zeJ l,OkPut r:=λr b=>by
 unfold zeJ at b;rcases yai.1 b with b|b<;>obtain⟨s,m,rfl⟩:=yar.1 b<;>obtain⟨n,g⟩:=zuc m<;>obtain⟨i,j⟩:=ybb n
 .rcases h.r1 i s j with ⟨a,_⟩|⟨k,a,c,_,d,f⟩;.exact absurd a g
  .have e:s.1.toNat=k*10:=(by rw[a];exact ydr _);exact⟨by simp,by simp only[e];exact c,by simp[e],d,f⟩
 .rcases h.r2 i s j with ⟨a,_⟩|⟨k,a,c,_,d,f⟩;.exact absurd a g
  .have e:s.1.toNat=k*60:=(by rw[a];exact ydr _);exact⟨by simp,by simp only[e];exact c,by simp[e],d,f⟩
theorem z3J {l:LadM}{r:SlR}(h:RightL l)(hr:OkPut r):RightL (putS l r):=by
 unfold putS;split;.exact⟨by rw[zcR];exact h.n1,h.n2,zff h.r1 hr.t hr.v hr.n,h.r2⟩
 .exact⟨h.n1,by rw[zcR];exact h.n2,h.r1,zff h.r2 hr.t hr.v hr.n⟩
theorem zyw {rs:List SlR}(h:∀r∈rs,OkPut r):RightL (zfI rs):=by
 refine zj7 (P:=λrs=>(∀r∈rs,OkPut r)->RightL (zfI rs)) (λ_=>zdl) (λrs r b a=> ?_) rs h;have:zfI (rs++ [r])=putS (zfI rs) r:=by simp[zfI]
 rw[this];exact z3J (b λx c=>a x (by simp[c])) (a r (by simp))
end Go.Sf
