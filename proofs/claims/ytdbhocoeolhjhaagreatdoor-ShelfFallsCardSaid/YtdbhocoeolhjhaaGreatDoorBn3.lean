import Derived.Test.YtdbhocoeolhjhaaGreatDoorBn2
set_option maxHeartbeats 4000000
set_option linter.unusedSimpArgs false
set_option linter.unusedVariables false
set_option linter.constructorNameAsVariable false
namespace Go.Num
open Go.Abs
theorem ztd {x i:Nat}(h:x/2^i%2=0):x|||2^i=x+2^i:=by
 have d:=ydd i;obtain⟨q,n⟩:∃q,q=x/2^i/2:=⟨_,rfl⟩;obtain⟨r,b⟩:∃r,r=x%2^i:=⟨_,rfl⟩;have a:r<2^i:=by rw[b];exact yb3 _ d
 have e:x/2^i=2*q:=by omega
 have f:x=2^i*(2*q)+r:=by have:=ycq x (2^i);rw[e,<-b]at this;exact this.symm
 have c:2^i*(2*q)=2^(i+1)*q:=by rw[ydb,yc7]
 have g:=yc3 a (2*q);have j:=yc3 (show 2^i<2^(i+1) by rw[ydb];omega) q;have k:=yc3 a (2*q+1);have l:2^i*(2*q+1)=2^(i+1)*q+2^i:=by rw[yej,c,Nat.mul_one]
 have m:x|||2^i=2^i*(2*q)|||r|||2^i:=by rw[<-g,<-f]
 rw[m,Nat.or_assoc,Nat.or_comm r,<-Nat.or_assoc,c,<-j,<-l,<-k];rw[yej,Nat.mul_one];omega
theorem zCv {x i:Nat}(h:x<2^i):bt x i=0:=by unfold bt;rw[yen h]
theorem zDc (c i k:Nat)(h:i<k):bt (c*2^k) i=0:=by
 unfold bt;obtain⟨j,rfl⟩:∃j,k=i+1+j:=⟨k-i-1,by omega⟩;have:c*2^(i+1+j)=2^i*(2*(c*2^j)):=by rw[yex,ydb];simp only[ybw,Nat.mul_left_comm,yc7]
 rw[this,Nat.mul_div_cancel_left _ (ydd i),Nat.mul_mod_right]
end Go.Num
namespace Go.Proofs.YtdbhocoeolhjhaaGreatDoor
open Go.Abs Go.Num
variable {G:Globs}
theorem zy2 (x i:Nat)(hx:x<340282366920938463463374607431768211456)(hi:i<128):PT 293 [wA x,.int .i64 i] (λr=>r=.int .u64 (bt x i)):=by
 refine pwP zoz ?_;obtain⟨h,s⟩:∃h,h=x/18446744073709551616:=⟨_,rfl⟩;obtain⟨l,t⟩:∃l,l=x%18446744073709551616:=⟨_,rfl⟩;have j:h*18446744073709551616+l=x:=by omega
 rw[zdq s t];by_cases p:64<=i
 .have a:(64:Int)<=i:=by omega
  have m:IntKind.i64.wrap ((i:Int)-64)=((i-64:Nat):Int):=by rw[zdW (by omega) (by omega)];omega
  obtain⟨k,q⟩:∃k,k=i-64:=⟨_,rfl⟩;rw[<-q]at m;have d:IntKind.u64.wrap (k:Int)=k:=by rw[zba];omega
  have e:=zCT (hi:=h) (lo:=l) (i:=i) (by omega) p;rw[j,<-q]at e;obtain⟨v,c⟩:∃v,v=h/2^k:=⟨_,rfl⟩;have f:v<18446744073709551616:=by rw[c];exact yc0 (yde _ _) (by omega)
  have n:zas .shr .u64 (h:Int) k=some (v:Int):=by rw[zgF h k (by omega) (by omega),c]
  obtain⟨b,g⟩:∃b,b=v%2:=⟨_,rfl⟩;have o:zbM .and .u64 (v:Int) 1=some (b:Int):=by rw[Go.Num.and_one v f,g]
  rw[<-c,<-g]at e;rw[e];simp[-zas, -zbM,zfg,a,m,d,n,o]
 .have a:¬(64:Int)<=i:=by omega
  have d:IntKind.u64.wrap (i:Int)=i:=by rw[zba];omega
  have e:=zCE (hi:=h) (lo:=l) (i:=i) (by omega) (by omega);rw[j]at e;obtain⟨v,c⟩:∃v,v=l/2^i:=⟨_,rfl⟩;have f:v<18446744073709551616:=by rw[c];exact yc0 (yde _ _) (by omega)
  have n:zas .shr .u64 (l:Int) i=some (v:Int):=by rw[zgF l i (by omega) (by omega),c]
  obtain⟨b,g⟩:∃b,b=v%2:=⟨_,rfl⟩;have o:zbM .and .u64 (v:Int) 1=some (b:Int):=by rw[Go.Num.and_one v f,g]
  rw[<-c,<-g]at e;rw[e];simp[-zas, -zbM,zfg,a,d,n,o]
theorem zzL (x i:Nat)(hx:x<340282366920938463463374607431768211456)(hi:i<128)(h0:bt x i=0):PT 294 [wA x,.int .i64 i] (λr=>r=wA (x+2^i)):=by
 refine pwP zm7 ?_;obtain⟨h,B⟩:∃h,h=x/18446744073709551616:=⟨_,rfl⟩;obtain⟨l,C⟩:∃l,l=x%18446744073709551616:=⟨_,rfl⟩;have o:h*18446744073709551616+l=x:=by omega
 rw[zdq B C];by_cases z:64<=i
 .have b:(64:Int)<=i:=by omega
  have q:IntKind.i64.wrap ((i:Int)-64)=((i-64:Nat):Int):=by rw[zdW (by omega) (by omega)];omega
  obtain⟨k,A⟩:∃k,k=i-64:=⟨_,rfl⟩;rw[<-A]at q;have d:IntKind.u64.wrap (k:Int)=k:=by rw[zba];omega
  have e:=zCT (hi:=h) (lo:=l) (i:=i) (by omega) z;rw[o,<-A,h0]at e;have f:=ztd (x:=h) (i:=k) e.symm;obtain⟨p,c⟩:∃p,p=2^k:=⟨_,rfl⟩;have a:p<18446744073709551616:=by rw[c,show(18446744073709551616:Nat)=2^64 by decide];exact Nat.pow_lt_pow_right (by decide) (by omega)
  have y:zas .shl .u64 1 k=some (p:Int):=by have:=zjn 1 k (by omega);rw[ye4,<-c,ybo a]at this;simpa using this
  have s:zbM .or .u64 (h:Int) (p:Int)=some ((h|||p:Nat):Int):=zn4 h p (by omega) a;have g:h|||p<18446744073709551616:=Nat.or_lt_two_pow (n:=64) (by omega) a
  obtain⟨v,j⟩:∃v,v=h|||p:=⟨_,rfl⟩
  rw[<-j]at s g;have t:v=h+p:=by rw[j,c];exact f
  have u:2^i=p*18446744073709551616:=by rw[c,show(18446744073709551616:Nat)=2^64 by decide,<-yex,show k+64=i by omega]
  rw[zdq (hi:=v) (lo:=l) (n:=x+2^i) (by rw[u];omega) (by rw[u];omega)];simp[-zas, -zbM,zeq,b,q,d,y,s]
 .have b:¬(64:Int)<=i:=by omega
  have d:IntKind.u64.wrap (i:Int)=i:=by rw[zba];omega
  have e:=zCE (hi:=h) (lo:=l) (i:=i) (by omega) (by omega);rw[o,h0]at e;have f:=ztd (x:=l) (i:=i) e.symm;obtain⟨p,c⟩:∃p,p=2^i:=⟨_,rfl⟩;have a:p<18446744073709551616:=by rw[c,show(18446744073709551616:Nat)=2^64 by decide];exact Nat.pow_lt_pow_right (by decide) (by omega)
  have y:zas .shl .u64 1 i=some (p:Int):=by have:=zjn 1 i (by omega);rw[ye4,<-c,ybo a]at this;simpa using this
  have s:zbM .or .u64 (l:Int) (p:Int)=some ((l|||p:Nat):Int):=zn4 l p (by omega) a;have g:l|||p<18446744073709551616:=Nat.or_lt_two_pow (n:=64) (by omega) a
  obtain⟨w,m⟩:∃w,w=l|||p:=⟨_,rfl⟩
  rw[<-m]at s g;have t:w=l+p:=by rw[m,c];exact f
  rw[<-c,zdq (hi:=h) (lo:=w) (n:=x+p) (by omega) (by omega)];simp[-zas, -zbM,zeq,b,d,y,s]
theorem z1e (x:Nat)(hx:x<340282366920938463463374607431768211456):PT 256 [wA x] (λr=>r=.tup [wA (2*x%340282366920938463463374607431768211456),.bool (decide (170141183460469231731687303715884105728<=x))]):=by
 refine pwP zkL ?_;obtain⟨h,s⟩:∃h,h=x/18446744073709551616:=⟨_,rfl⟩;obtain⟨l,t⟩:∃l,l=x%18446744073709551616:=⟨_,rfl⟩;rw[zdq s t];obtain⟨a,c⟩:∃k,k=h*2%18446744073709551616:=⟨_,rfl⟩;obtain⟨p,d⟩:∃k,k=l*2%18446744073709551616:=⟨_,rfl⟩;obtain⟨b,e⟩:∃k,k=l/9223372036854775808:=⟨_,rfl⟩;obtain⟨f,g⟩:∃k,k=h/9223372036854775808:=⟨_,rfl⟩;have v:zas .shl .u64 (h:Int) 1=some (a:Int):=by rw[zjn h 1 (by decide),c]
 have i:zas .shl .u64 (l:Int) 1=some (p:Int):=by rw[zjn l 1 (by decide),d]
 have w:zas .shr .u64 (l:Int) 63=some (b:Int):=by rw[zgF l 63 (by omega) (by decide),e]
 have j:zas .shr .u64 (h:Int) 63=some (f:Int):=by rw[zgF h 63 (by omega) (by decide),g]
 obtain⟨o,u⟩:∃k,k=a+b:=⟨_,rfl⟩;have m:zbM .or .u64 (a:Int) (b:Int)=some (o:Int):=by
  rw[zn4 a b (by omega) (by omega),u];have y:b<2^1:=by omega
  have:=yc3 y (a/2);have q:2^1*(a/2)=a:=by omega
  rw[q]at this;rw[this]
 have z:decide ((f:Int)=1)=decide (170141183460469231731687303715884105728<=x):=by congr 1;apply propext;omega
 have q:decide (f=1)=decide (170141183460469231731687303715884105728<=x):=by congr 1;apply propext;omega
 rw[zdq (hi:=o) (lo:=p) (n:=2*x%340282366920938463463374607431768211456) (by omega) (by omega)];simp[-zas, -zbM,zgf,v,i,w,j,m,z]
 try omega
theorem z3q (a b:Nat)(ha:a<340282366920938463463374607431768211456)(hb:b<340282366920938463463374607431768211456):
  PT 255 [wA a,wA b] (λr=>r=.tup [wA ((a+b)%340282366920938463463374607431768211456),.bool (decide (340282366920938463463374607431768211456<=a+b))]):=by
 refine pwP zof ?_;obtain⟨ah,C⟩:∃h,h=a/18446744073709551616:=⟨_,rfl⟩;obtain⟨al,D⟩:∃l,l=a%18446744073709551616:=⟨_,rfl⟩;obtain⟨bh,E⟩:∃h,h=b/18446744073709551616:=⟨_,rfl⟩;obtain⟨bl,F⟩:∃l,l=b%18446744073709551616:=⟨_,rfl⟩;have hA:=zdq C D;have hB:=zdq E F;rw[hA,hB];simp[zhE];have q:zic a b 0=0:=by simp[zic,Nat.mod_one]
 have L:sumC a b 0=0:=by simp[sumC,Nat.mod_one]
 refine zac (λx f σ=>∃(i c y z:Nat),x=128-i/\i<=128/\c=sumC a b i/\wA (zic a b i)=.agg [.int .u64 y,.int .u64 z]/\f 2=.ptr 0 0/\f 3=.ptr 1 0/\f 4=.ptr 2 0/\f 6=.ptr 3 0/\f 7=.int .u64 c/\f 8=.int .i64 i/\σ= [.var 277 [.int .u64 ah,.int .u64 al],.var 277 [.int .u64 bh,.int .u64 bl],.var 277 [.int .u64 0,.int .u64 0],.var 277 [.int .u64 y,.int .u64 z]]) 128 ?_ ?_;.exact⟨0,0,0,0,rfl,by omega,L.symm,by rw[q];rfl,by simp⟩
 rintro x f σ ⟨i,c,y,z,hx,hi,H,A,I,J,K,p,Z,k,rfl⟩;have t:IntKind.i64.wrap ((i:Int)+1)=((i+1:Nat):Int):=by rw[zdW (by omega) (by omega)];omega
 have M:=zAG a b i;simp[k];refine zap (λaa=> ?_) (λab=> ?_)
 .have j:i<128:=by omega
  have O:=zy2 (G:=G) a i ha j;have P:=zy2 (G:=G) b i hb j;rw[hA]at O;rw[hB]at P;obtain⟨e,g⟩:=z6Y a b i;obtain⟨u,W⟩:∃u,u=bt a i:=⟨_,rfl⟩;obtain⟨v,X⟩:∃v,v=bt b i:=⟨_,rfl⟩;have ad:u<2:=by rw[W];exact z8U a i
  have ae:v<2:=by rw[X];exact z8U b i
  rw[<-W]at O e g;rw[<-X]at P e g;rw[<-H]at e g M;obtain⟨s,hs⟩:∃s,s=u+v+c:=⟨_,rfl⟩;rw[<-hs]at e g;have w1:IntKind.u64.wrap ((u:Int)+v)=(u:Int)+v:=by rw[zba];omega
  have w2:IntKind.u64.wrap ((u:Int)+v+c)=(s:Int):=by rw[zba];omega
  obtain⟨m,o⟩:∃m,m=s/2:=⟨_,rfl⟩;have s1:zas .shr .u64 (s:Int) 1=some (m:Int):=by rw[zgF s 1 (by omega) (by decide),o]
  obtain⟨d,Y⟩:∃d,d=s%2:=⟨_,rfl⟩;have s2:zbM .and .u64 (s:Int) 1=some (d:Int):=by rw[Go.Num.and_one s (by omega),Y]
  rw[<-o]at g;rw[<-Y]at e;simp[I,k];refine zb3 O ?_;simp[J,k];refine zb3 P ?_;simp[-zas, -zbM,Z,w1,w2,s1,s2];refine zap (λh=> ?_) (λh=> ?_);.have Q:d=1:=(by omega);have R:zic a b i<2^i:=yb3 _ (ydd i);have af:2^i*2<=340282366920938463463374607431768211456:=(by rw[<-ydb,show(340282366920938463463374607431768211456:Nat)=2^128 by decide];exact yed (by decide) (by omega));have S:=zzL (G:=G) (zic a b i) i (by omega) j (zCv R);rw[A]at S;have w:zic a b i+2^i=zic a b (i+1):=(by rw[e,Q,Nat.mul_one]);rw[w,zdq (n:=zic a b (i+1)) rfl rfl]at S;simp[p,k];refine zad S ?_;simp[p,k,t];refine nx_j (128-(i+1)) ⟨i+1,m,_,_,rfl,by omega,g.symm,zdq rfl rfl,by simp[I],by simp[J],by simp[K],by simp[p],by simp⟩
  .have T:d=0:=(by omega);have w:zic a b (i+1)=zic a b i:=(by rw[e,T,Nat.mul_zero,ycf]);simp[k,t];refine nx_j (128-(i+1)) ⟨i+1,m,y,z,rfl,by omega,g.symm,by rw[w];exact A,by simp[I],by simp[J],by simp[K],by simp[p],by simp⟩
 .have U:i=128:=by omega
  subst U;have B:(2:Nat)^128=340282366920938463463374607431768211456:=by decide
  have a1:a%2^128=a:=ybo (by rw[B];exact ha);have b1:b%2^128=b:=ybo (by rw[B];exact hb);have w:zic a b 128=(a+b)%340282366920938463463374607431768211456:=by unfold zic;rw[a1,b1,B]
  have e2:sumC a b 128=(a+b)/340282366920938463463374607431768211456:=by unfold sumC;rw[a1,b1,B]
  rw[w]at A;have e3:decide ((c:Int)=1)=decide (340282366920938463463374607431768211456<=a+b):=by rw[H,e2];congr 1;apply propext;omega
  have e4:decide (c=1)=decide (340282366920938463463374607431768211456<=a+b):=by rw[H,e2];congr 1;apply propext;omega
  rw[A];simp[K,p,Z,e3]
  try omega
theorem z2V (x y:Nat)(hx:x<18446744073709551616)(hy:y<18446744073709551616):PT 213 [.int .u64 x,.int .u64 y] (λr=>r=wA (x*y)):=by
 refine pwP zoH ?_;simp[zhU];have l:(2:Nat)^64=18446744073709551616:=by decide
 have g:∀i≤64,x*2^i<340282366920938463463374607431768211456:=λi J=>by have L:(2:Nat)^i<=2^64:=yed (by decide) J;have R:x*2^i<=x*2^64:=yc4 x L;rw[l]at R;omega
 have b:∀i,x*(y%2^i)<340282366920938463463374607431768211456:=λi=>by have L:x*(y%2^i)<=x*18446744073709551615:=yc4 x (by have:=Nat.mod_le y (2^i);omega);omega
 refine zac (λz f σ=>∃(i p q w A:Nat),z=64-i/\i<=64/\wA (x*(y%2^i))=.agg [.int .u64 p,.int .u64 q]/\wA (x*2^i)=.agg [.int .u64 w,.int .u64 A]/\f 1=.int .u64 y/\f 4=.ptr 0 0/\f 5=.ptr 1 0/\f 6=.ptr 2 0/\f 7=.int .i64 i/\σ= [.var 277 [.int .u64 0,.int .u64 0],.var 277 [.int .u64 p,.int .u64 q],.var 277 [.int .u64 w,.int .u64 A]]) 64 ?_ ?_;.refine⟨0,0,0,0,x,rfl,by omega,by simp[Nat.mod_one,wA], ?_,by simp⟩;rw[Nat.pow_zero,Nat.mul_one];exact zdq (by omega) (by omega)
 rintro z f σ ⟨i,p,q,w,A,W,J,s,K,B,C,k,c,t,rfl⟩;have m:IntKind.i64.wrap ((i:Int)+1)=((i+1:Nat):Int):=by rw[zdW (by omega) (by omega)];omega
 simp[t];refine zap (λP=> ?_) (λQ=> ?_)
 .have M:i<64:=by omega
  have D:IntKind.u64.wrap (i:Int)=i:=by rw[zba];omega
  obtain⟨v,u⟩:∃v,v=y/2^i:=⟨_,rfl⟩;have E:v<18446744073709551616:=by rw[u];exact yc0 (yde _ _) hy
  have S:zas .shr .u64 (y:Int) i=some (v:Int):=by rw[zgF y i hy (by omega),u]
  obtain⟨d,I⟩:∃d,d=v%2:=⟨_,rfl⟩;have T:zbM .and .u64 (v:Int) 1=some (d:Int):=by rw[Go.Num.and_one v E,I]
  have F:bt y i=d:=by rw[I,u];rfl
  have a:=z7E x y i;rw[F]at a;have H:=z1e (G:=G) (x*2^i) (g i (by omega));have U:2*(x*2^i)%340282366920938463463374607431768211456=x*2^(i+1):=by have e:2*(x*2^i)=x*2^(i+1):=(by rw[ydb,Nat.mul_left_comm,ybw 2]);rw[e];exact ybo (g (i+1) (by omega))
  rw[U,K,zdq (n:=x*2^(i+1)) rfl rfl]at H;simp[-zas, -zbM,B,t,D,S,T];refine zap (λh=> ?_) (λh=> ?_);.have j:d=1:=(by omega);rw[if_pos j]at a;have O:=z3q (G:=G) (x*(y%2^i)) (x*2^i) (b i) (g i (by omega));rw[<-a,ybo (b (i+1)),s,K,zdq (n:=x*(y%2^(i+1))) rfl rfl]at O;simp[k,c];refine zad O ?_;simp[k,c];refine zad H ?_;simp[c,t,m];refine nx_j (64-(i+1)) ⟨i+1,_,_,_,_,rfl,by omega,zdq rfl rfl,zdq rfl rfl,by simp[B],by simp[C],by simp[k],by simp[c],by simp⟩
  .have j:¬d=1:=(by omega);rw[if_neg j,ycf]at a;simp[c];refine zad H ?_;simp[c,t,m];refine nx_j (64-(i+1)) ⟨i+1,p,q,_,_,rfl,by omega,by rw[a];exact s,zdq rfl rfl,by simp[B],by simp[C],by simp[k],by simp[c],by simp⟩
 .have o:i=64:=by omega
  subst o;rw[l,ybo hy]at s;rw[s];simp[C,k]
theorem zAK (a d:Nat)(ha:a<340282366920938463463374607431768211456)(hd:d<18446744073709551616):
  PT 254 [wA a,.int .u64 d] (λr=>r=if d=0 then .tup [wA 0,.int .u64 0,.int .i64 1]else .tup [wA (a/d),.int .u64 ((a%d:Nat):Int),.int .i64 0]):=by
 refine pwP zo7 ?_;by_cases h0:d=0;.subst h0;simp[zfs,wA]
 rw[if_neg h0];have aw:¬(d:Int)=0:=by omega
 obtain⟨ah,Y⟩:∃h,h=a/18446744073709551616:=⟨_,rfl⟩;obtain⟨al,Z⟩:∃l,l=a%18446744073709551616:=⟨_,rfl⟩;have hA:=zdq Y Z;rw[hA];obtain⟨md,L⟩:∃m,m=a%d:=⟨_,rfl⟩;rw[<-L];simp[zfs,h0];have M:(2:Nat)^128=340282366920938463463374607431768211456:=by decide
 have ag:(2:Nat)^63=9223372036854775808:=by decide
 refine zac (λz f σ=>∃(k r T U:Nat),z=k/\k<=128/\wA (a/2^k/d*2^k)=.agg [.int .u64 T,.int .u64 U]/\r=a/2^k%d/\f 1=.int .u64 d/\f 2=.ptr 0 0/\f 4=.ptr 1 0/\f 7=.ptr 2 0/\f 8=.int .u64 r/\f 9=.int .i64 ((k:Int)-1)/\σ= [.var 277 [.int .u64 ah,.int .u64 al],.var 277 [.int .u64 0,.int .u64 0],.var 277 [.int .u64 T,.int .u64 U]]) 128 ?_ ?_;.have e:a/2^128=0:=yen (by rw[M];exact ha);refine⟨128,0,0,0,rfl,by omega,by rw[e,Nat.zero_div,Nat.zero_mul];rfl,by rw[e,Nat.zero_mod],by simp⟩
 rintro z f σ ⟨k,r,T,U,hz,hk,I,J,K,W,X,B,f8,C,rfl⟩;simp[C];refine zap (λau=> ?_) (λav=> ?_)
 .obtain⟨i,rfl⟩:∃i,k=i+1:=⟨k-1,by omega⟩;have ai:(((i+1:Nat):Int)-1)=i:=by omega
  rw[ai]at C;have p:i<128:=by omega
  have E:IntKind.i64.wrap ((i:Int)-1)=(i:Int)-1:=zdW (by omega) (by omega);have k1:=zy2 (G:=G) a i ha p;rw[hA]at k1;have x:=z92 a i;obtain⟨b,hb⟩:∃b,b=bt a i:=⟨_,rfl⟩;have hb2:b<2:=by rw[hb];exact z8U a i
  rw[<-hb]at k1 x;have aj:r<d:=by rw[J];exact yb3 _ (by omega)
  obtain⟨n,hn⟩:∃n,n=a/2^(i+1):=⟨_,rfl⟩;rw[<-hn]at x J I;have F:=ycq n d;rw[<-J]at F;obtain⟨q,hq⟩:∃q,q=n/d:=⟨_,rfl⟩;rw[<-hq]at F I;obtain⟨aa,ab⟩:=z9D (n:=n) (d:=d) (q:=q) (r:=r) (b:=b) (by rw[ybw];exact F.symm) aj hb2;obtain⟨t,ht⟩:∃t,t=r/9223372036854775808:=⟨_,rfl⟩;have ak:zas .shr .u64 (r:Int) 63=some (t:Int):=by rw[zgF r 63 (by omega) (by decide),ht,ag]
  obtain⟨w,ad⟩:∃w,w=r*2%18446744073709551616:=⟨_,rfl⟩;have am:zas .shl .u64 (r:Int) 1=some (w:Int):=by rw[zjn r 1 (by decide),ad]
  obtain⟨j,ae⟩:∃j,j=w+b:=⟨_,rfl⟩;have an:zbM .or .u64 (w:Int) (b:Int)=some (j:Int):=by
   rw[zn4 w b (by omega) (by omega),ae];have:=yc3 (show b<2^1 by omega) (w/2);have e2:2^1*(w/2)=w:=by omega
   rw[e2]at this;rw[this]
  simp[-zas, -zbM,f8,W,C,ak,am];refine zc1 k1 ?_;rintro rr rfl;simp[-zas, -zbM,an];by_cases S:d<=2*r+b
  .obtain⟨o,D⟩:=ab S;have ao:t=1∨d<=j:=(by omega);have s:IntKind.u64.wrap ((j:Int)-d)=((2*r+b-d:Nat):Int):=(by rw[zba];omega);obtain⟨H,af⟩:∃H,H=2*r+b-d:=⟨_,rfl⟩;rw[<-af]at s o D;have O:2*n+b=(2*q+1)*d+H:=o;have u:a/2^i=2*n+b:=x;have v:a/2^i/d=2*q+1:=(by rw[u,O,ybw,Nat.mul_add_div (by omega),yen D,ycf]);have y:a/2^i%d=H:=(by rw[u,O,ybw,Nat.mul_add_mod,ybo D]);have A:q*2^(i+1)+2^i=(2*q+1)*2^i:=(by rw[ya8,ye4,ydb,ybw (2^i) 2,<-yc7,ybw q 2]);have aq:(2*q+1)*2^i<340282366920938463463374607431768211456:=(by rw[<-v];have h1:a/2^i/d<=a/2^i:=yde _ _;have h2:a/2^i/d*2^i<=a/2^i*2^i:=yat _ h1;have h3:=yb9 a (2^i);omega);have k3:=zzL (G:=G) (q*2^(i+1)) i (yc0 (Nat.le_add_right _ (2^i)) (by rw[A];exact aq)) p (zDc q i (i+1) (by omega));rw[A,I,zdq (n:=(2*q+1)*2^i) rfl rfl]at k3;have fin:∀f':Abs.Frame,True:=λ_=>trivial;by_cases Q:t=1;.have g:(t:Int)=1:=(by omega);simp[Q,s,K,B,C];refine zc1 k3 ?_;rintro rr rfl;simp[B,C,E];refine nx_j i ⟨i,H,_,_,rfl,by omega,by rw[v];exact zdq rfl rfl,y.symm,by simp[K],by simp[W],by simp[X],by simp[B],by simp⟩
   .have g:¬(t:Int)=1:=(by omega);have P:d<=j:=(by omega);have c:(d:Int)<=j:=(by omega);simp[g,c,s,K,B,C];refine zc1 k3 ?_;rintro rr rfl;simp[B,C,E];refine nx_j i ⟨i,H,_,_,rfl,by omega,by rw[v];exact zdq rfl rfl,y.symm,by simp[K],by simp[W],by simp[X],by simp[B],by simp⟩
  .have o:=aa (by omega);have Q:¬t=1:=(by omega);have g:¬(t:Int)=1:=(by omega);have P:¬d<=j:=(by omega);have c:¬(d:Int)<=j:=(by omega);have R:j=2*r+b:=(by omega);have u:a/2^i=2*n+b:=x;have v:a/2^i/d=2*q:=(by rw[u,o,ybw,Nat.mul_add_div (by omega),yen (by omega),ycf]);have y:a/2^i%d=j:=(by rw[u,o,ybw,Nat.mul_add_mod,ybo (by omega),R]);have A:2*q*2^i=q*2^(i+1):=(by rw[ydb,ybw (2^i) 2,<-yc7,ybw q 2]);simp[g,c,K,C,E];refine nx_j i ⟨i,j,T,U,rfl,by omega,by rw[v,A];exact I,y.symm,by simp[K],by simp[W],by simp[X],by simp[B],by simp⟩
 .have ar:k=0:=by omega
  subst ar;rw[Nat.pow_zero,Nat.div_one,Nat.mul_one]at I;rw[Nat.pow_zero,Nat.div_one]at J;rw[<-L]at J;rw[I];simp[X,B,f8,J]
theorem z6C (a d:Nat)(ha:a<340282366920938463463374607431768211456)(hd:d<18446744073709551616):
  PT 212 [wA a,.int .u64 d] (λr=>r=if d=0 then .tup [.int .u64 0,.int .i64 1]else if rnd a d<18446744073709551616 then .tup [.int .u64 ((rnd a d:Nat):Int),.int .i64 0]else .tup [.int .u64 0,.int .i64 3]):=by
 refine pwP zlv ?_;obtain⟨J,n⟩:∃h,h=a/18446744073709551616:=⟨_,rfl⟩;obtain⟨K,o⟩:∃l,l=a%18446744073709551616:=⟨_,rfl⟩;have k:=zdq n o;have w:=zAK (G:=G) a d ha hd;rw[k]at w⊢;by_cases C:d=0;.subst C;simp[zdP];refine zad w ?_;simp[wA]
 rw[if_neg C];simp[zdP];refine zc1 w ?_;rw[if_neg C];obtain⟨q,p⟩:∃x,x=a/d:=⟨_,rfl⟩;obtain⟨m,s⟩:∃x,x=a%d:=⟨_,rfl⟩;have I:m<d:=by rw[s];exact yb3 _ (by omega)
 rw[<-p,<-s];rintro r rfl;have i:rnd a d=q+(if d-m<=m then 1 else 0):=by rw[rnd,<-p,<-s]
 rw[i];have c:IntKind.u64.wrap ((d:Int)-m)=((d-m:Nat):Int):=by rw[zba];omega
 obtain⟨L,t⟩:∃x,x=d-m:=⟨_,rfl⟩;rw[<-t]at c;have y:q<340282366920938463463374607431768211456:=by rw[p];exact yc0 (yde _ _) ha
 obtain⟨D,f⟩:∃x,x=q/18446744073709551616:=⟨_,rfl⟩;obtain⟨F,g⟩:∃x,x=q%18446744073709551616:=⟨_,rfl⟩;rw[zdq f g];simp[c];refine zap (λh=> ?_) (λh=> ?_)
 .have z:d-m<=m:=by omega
  have A:q+1<340282366920938463463374607431768211456:=by have B:2<=d:=(by omega);have:a/d<=a/2:=Nat.div_le_div_left B (by decide);omega
  simp;have k:=z3q (G:=G) q 1 y (by decide);rw[zdq f g,show wA 1=.agg [.int .u64 0,.int .u64 1] from rfl]at k;refine zad k ?_;rw[ybo A,if_pos z];obtain⟨E,u⟩:∃x,x=(q+1)/18446744073709551616:=⟨_,rfl⟩;obtain⟨H,v⟩:∃x,x=(q+1)%18446744073709551616:=⟨_,rfl⟩;rw[zdq u v];by_cases b:E=0;.have:q+1<18446744073709551616:=(by omega);have e:H=q+1:=(by omega);rw[if_pos this];simp[b,e]
  .have:¬q+1<18446744073709551616:=(by omega);have j:¬(E:Int)=0:=(by omega);rw[if_neg this];simp[b]
 .have z:¬d-m<=m:=by omega
  rw[if_neg z,ycf];by_cases b:D=0;.have:q<18446744073709551616:=(by omega);have e:F=q:=(by omega);rw[if_pos this];simp[b,e]
  .have:¬q<18446744073709551616:=(by omega);have j:¬(D:Int)=0:=(by omega);rw[if_neg this];simp[b]
end Go.Proofs.YtdbhocoeolhjhaaGreatDoor
namespace Go.Num
open Go.Abs
theorem zeD (n:N):numA n=.agg [.bool n.1,.int .i64 n.2]:=rfl
end Go.Num
namespace Go.Proofs.YtdbhocoeolhjhaaGreatDoor
open Go.Abs Go.Num
variable {G:Globs}
theorem ztL (n:N)(h:okN n):PT 208 [numA n] (λr=>r=.bool (zp4 n)):=by
 refine pwP zl3 ?_;obtain⟨b,v⟩:=n;obtain⟨a,c⟩:=h;simp only at a c;cases b
 .have e:(!decide (v= -9223372036854775808))=decide (-most<=v):=by
   unfold most;by_cases h:v= -9223372036854775808;.have:¬(-9223372036854775807<=v):=(by omega);simp[h]
   .have: -9223372036854775807<=v:=(by omega);simp[h,this]
  simp[zdO,numA,zp4];rw[<-e];simp
 .simp[zdO,numA,zp4]
theorem z1g (n:N):(zp4 n&& !n.1)=good n:=by obtain⟨b,v⟩:=n;cases b<;>simp[zp4,good]
theorem zpt (n:N)(h:okN n):PT 209 [numA n] (λr=>r=.bool (good n)):=by
 refine pwP zpF ?_;have k:=ztL (G:=G) n h;have a:=z1g n;rw[zeD]at k⊢;simp[ziP];refine zad k ?_;cases b:zp4 n;.rw[b]at a;simp at a;simp[a]
 .rw[b]at a;simp at a;simp[<-a]
theorem zb1:PT 151 [] (λr=>r=numA zbK):=by refine pwP zje ?_;simp[zfE,numA,zbK]
theorem zp5 (v:Int)(h0: -9223372036854775808<=v)(h1:v<=9223372036854775807):PT 152 [.int .i64 v] (λr=>r=numA (tell v)):=by
 refine pwP zpO ?_;have k:=ztL (G:=G) (false,v) ⟨h0,h1⟩;rw[zeD]at k;simp[ziW];refine zad k ?_;by_cases a: -9223372036854775807<=v
 .have e:tell v=(false,v):=by unfold tell most;rw[if_pos];omega
  simp[zp4,most,a,e,numA]
 .have e:tell v=zbK:=by unfold tell most;rw[if_neg];omega
  simp[zp4,most,a];refine zad zb1 ?_;simp[numA,e]
theorem zn2 (v:Int)(h0: -9223372036854775808<=v)(h1:v<=9223372036854775807):PT 211 [.int .i64 v] (λr=>r=.int .u64 v.natAbs):=by
 refine pwP zmu ?_;simp[zha];refine zap (λa=> ?_) (λb=> ?_)
 .have c:IntKind.i64.wrap (v+1)=v+1:=zdW (by omega) (by omega);have d:IntKind.i64.wrap (-(v+1))= -(v+1):=zdW (by omega) (by omega);have e:IntKind.i64.wrap (-1+ -v)= -(v+1):=by rw[zdW (by omega) (by omega)];omega
  have f:IntKind.u64.wrap (-(v+1))= -(v+1):=by rw[zba];omega
  have g:IntKind.u64.wrap (-(v+1)+1)= -v:=by rw[zba];omega
  simp[c,d,f,g];omega
 .have w:IntKind.u64.wrap v=v:=by rw[zba];omega
  simp[w];omega
theorem zop (n:Nat)(hn:n<18446744073709551616)(b:Bool):PT 210 [.int .u64 n,.bool b] (λr=>r=numA (tell (sgn b n))):=by
 refine pwP zkE ?_;simp[zge];refine zap (λd=> ?_) (λe=> ?_)
 .simp;refine zad zb1 ?_;have:tell (sgn b n)=zbK:=by unfold tell sgn most;cases b<;>simp<;>omega
  simp[this,numA]
 .have c:IntKind.i64.wrap (n:Int)=n:=zdW (by omega) (by omega);have a:IntKind.i64.wrap (-(n:Int))= -n:=zdW (by omega) (by omega);cases b;.have:tell (sgn false n)=(false,(n:Int)):=(by unfold tell sgn most;simp;omega);simp[c,this,numA]
  .have:tell (sgn true n)=(false, -(n:Int)):=(by unfold tell sgn most;simp;omega);simp[c,a,this,numA]
theorem zoi (n:Int)(h0: -9223372036854775808<=n)(h1:n<=9223372036854775807):PT 157 [.int .i64 n] (λr=>r=numA (tell (n*1000000))):=by
 refine pwP zoa ?_;simp[zii];refine zad (zn2 n h0 h1) ?_;obtain⟨s,c⟩:∃s,s=n.natAbs:=⟨_,rfl⟩;obtain⟨h,d⟩:∃x,x=s*1000000/18446744073709551616:=⟨_,rfl⟩;obtain⟨l,e⟩:∃x,x=s*1000000%18446744073709551616:=⟨_,rfl⟩;have k:=z2V (G:=G) s 1000000 (by omega) (by decide);rw[zdq d e]at k;rw[<-c];simp;refine zad k ?_;by_cases b:h=0
 .have a:sgn (decide (n<0)) l=n*1000000:=by unfold sgn;by_cases g:n<0<;>simp[g]<;>omega
  simp[b];refine zad (zop l (by omega) (decide (n<0))) ?_;rw[a];simp[numA]
 .have f:¬(h:Int)=0:=by omega
  have:tell (n*1000000)=zbK:=by unfold tell most;rw[if_neg];omega
  simp[b];refine zad zb1 ?_;simp[this,numA]
theorem zk3 (a b:N)(ha:okN a)(hb:okN b):PT 153 [numA a,numA b] (λr=>r=numA (addN a b)):=by
 refine pwP znS ?_;have q:=zpt (G:=G) a ha;have t:=zpt (G:=G) b hb;obtain⟨u,v⟩:=ha;obtain⟨w,x⟩:=hb;rw[zeD]at q t;rw[zeD a,zeD b];simp[zin];refine zad q ?_;cases c:good a with
 |false=>simp;refine zad zb1 ?_;simp[addN,c,numA]
 |true=>
  simp;refine zad t ?_;cases f:good b with
  |false=>simp;refine zad zb1 ?_;simp[addN,c,f,numA]
  |true=>
   have z:=(zgh.1 c).2;have A:=(zgh.1 f).2;simp only[most]at z A;have e:addN a b=tell (a.2+b.2):=(by simp[addN,c,f]);rw[e];by_cases l:(decide (a.2<0))=(decide (b.2<0));.have d:(decide (a.2<0)==decide (b.2<0))=true:=(by simp[l]);have n:(a.2<0↔b.2<0):=(by simpa using l);have k:IntKind.u64.wrap ((a.2.natAbs:Int)+b.2.natAbs)=((a.2.natAbs+b.2.natAbs:Nat):Int):=(by rw[zba];omega);obtain⟨y,g⟩:∃s,s=a.2.natAbs:=⟨_,rfl⟩;obtain⟨sb,h⟩:∃s,s=b.2.natAbs:=⟨_,rfl⟩;obtain⟨p,m⟩:∃s,s=y+sb:=⟨_,rfl⟩;rw[<-g,<-h,<-m]at k;have i:=zn2 (G:=G) a.2 u v;have j:=zn2 (G:=G) b.2 w x;rw[<-g]at i;rw[<-h]at j;have o:sgn (decide (a.2<0)) p=a.2+b.2:=(by unfold sgn;by_cases C:a.2<0<;>simp[C]<;>omega);simp[d];refine zb3 i ?_;simp;refine zb3 j ?_;simp[k];refine zbt (zop p (by omega) (decide (a.2<0))) (by simp) (by simp[numA]) ?_;rw[o];simp[numA]
   .have d:(decide (a.2<0)==decide (b.2<0))=false:=(by simpa using l);have n:¬(a.2<0↔b.2<0):=(by simpa using l);have k:IntKind.i64.wrap (a.2+b.2)=a.2+b.2:=zdW (by omega) (by omega);have B:tell (a.2+b.2)=(false,a.2+b.2):=(by unfold tell most;rw[if_pos];omega);rw[B];simp[d,k,numA]
theorem zkf (a b:N)(ha:okN a)(hb:okN b):PT 156 [numA a,numA b] (λr=>r=numA (divN a b)):=by
 refine pwP zom ?_;have u:=zpt (G:=G) a ha;have v:=zpt (G:=G) b hb;obtain⟨y,z⟩:=ha;obtain⟨A,B⟩:=hb;rw[zeD]at u v;rw[zeD a,zeD b];simp[zhV];refine zad u ?_;cases c:good a with
 |false=>simp;refine zad zb1 ?_;simp[divN,c,numA]
 |true=>
  simp;refine zad v ?_;cases d:good b with
  |false=>simp;refine zad zb1 ?_;simp[divN,c,d,numA]
  |true=>
   have F:=(zgh.1 c).2;have H:=(zgh.1 d).2;simp only[most]at F H;by_cases f:b.2=0;.simp[f];refine zad zb1 ?_;simp[divN,c,d,f,numA]
   .obtain⟨g,k⟩:∃s,s=a.2.natAbs:=⟨_,rfl⟩;obtain⟨sb,m⟩:∃s,s=b.2.natAbs:=⟨_,rfl⟩;have e:divN a b=tell (sgn (decide (a.2<0) !=decide (b.2<0)) (rnd (g*1000000) sb)):=(by simp[divN,c,d,f,k,m]);rw[e];have n:=zn2 (G:=G) a.2 y z;have o:=zn2 (G:=G) b.2 A B;rw[<-k]at n;rw[<-m]at o;have w:=z2V (G:=G) g 1000000 (by omega) (by decide);have t:g*1000000<340282366920938463463374607431768211456:=(by omega);have i:=z6C (G:=G) (g*1000000) sb t (by omega);have p:¬sb=0:=(by omega);rw[if_neg p]at i;obtain⟨h,C⟩:∃x,x=g*1000000/18446744073709551616:=⟨_,rfl⟩;obtain⟨l,D⟩:∃x,x=g*1000000%18446744073709551616:=⟨_,rfl⟩;rw[zdq C D]at w i;obtain⟨q,E⟩:∃q,q=rnd (g*1000000) sb:=⟨_,rfl⟩;rw[<-E]at i⊢;simp[f];refine zb3 n ?_;simp;refine zb3 w ?_;simp;refine zb3 o ?_;simp;by_cases j:q<18446744073709551616;.rw[if_pos j]at i;refine zb3 i ?_;simp;refine zad (zop q j (decide (a.2<0) !=decide (b.2<0))) ?_;simp[numA]
    .rw[if_neg j]at i;have:tell (sgn (decide (a.2<0) !=decide (b.2<0)) q)=zbK:=by unfold tell sgn most;cases(decide (a.2<0) !=decide (b.2<0))<;>simp<;>omega
     rw[this];refine zb3 i ?_;simp;refine zad zb1 ?_;simp[numA]
theorem zhW (a b:N)(ha:okN a)(hb:okN b):PT 154 [numA a,numA b] (λr=>r=numA (zs2 a b)):=by
 refine pwP zn9 ?_;have f:=zpt (G:=G) a ha;have g:=zpt (G:=G) b hb;rw[zeD]at f g;rw[zeD a,zeD b];simp[zgV];refine zad f ?_;cases c:good a with
 |false=>
  simp;refine zad g ?_;cases d:good b with
  |false=>simp;refine zad zb1 ?_;simp[zs2,c,d,numA]
  |true=>simp;refine zad f ?_;simp[c,zs2,d,numA]
 |true=>
  simp;refine zad f ?_;simp[c];refine zad g ?_;cases d:good b with
  |false=>simp[zs2,c,d,numA]
  |true=>
   by_cases e:a.2<=b.2;.simp[zs2,c,d,e,numA]
   .simp[zs2,c,d,e,numA]
theorem zik (a b:N)(ha:okN a)(hb:okN b):PT 155 [numA a,numA b] (λr=>r=numA (zs4 a b)):=by
 refine pwP zmX ?_;have f:=zpt (G:=G) a ha;have g:=zpt (G:=G) b hb;rw[zeD]at f g;rw[zeD a,zeD b];simp[zhg];refine zad f ?_;cases c:good a with
 |false=>
  simp;refine zad g ?_;cases d:good b with
  |false=>simp;refine zad zb1 ?_;simp[zs4,c,d,numA]
  |true=>simp;refine zad f ?_;simp[c,zs4,d,numA]
 |true=>
  simp;refine zad f ?_;simp[c];refine zad g ?_;cases d:good b with
  |false=>simp[zs4,c,d,numA]
  |true=>
   by_cases e:b.2<=a.2;.simp[zs4,c,d,e,numA]
   .simp[zs4,c,d,e,numA]
end Go.Proofs.YtdbhocoeolhjhaaGreatDoor
namespace Go.Sf
open Go.Abs Go.Num
def zcP (s:Slot):List AV:= [.int .i64 s.1,.int .i64 s.2]
def zao (l:List Slot):List (List AV):=l.map zcP
def zaf (step:Nat)(l:List Slot):List AV:= [.int .i64 step,.lst (zao l)]
def zak (l:LadM):List (List AV):= [zaf 10 l.fine,zaf 60 l.wide]
def ladC (l:LadM):List AV:= [.int .i64 1,.int .i64 500000,.lst (zak l)]
def rungsC:List (List AV):= [[.int .i64 10,.int .i64 6],[.int .i64 60,.int .i64 5]]
theorem zaq (l:List Slot):(zao l).length=l.length:=by simp[zao]
theorem zcN (l:List Slot):Els 2 (zao l):=by refine⟨λc a=> ?_,λc a=> ?_,λc a=> ?_⟩<;>obtain⟨n,_,rfl⟩:=yar.1 a<;>simp[zcP,AV.pure,AV.one]
theorem zc0 {l:List Slot}{i:Nat}{s:Slot}(h:l[i]? =some s):(zao l)[i]? =some (zcP s):=by simp[zao,h]
theorem zg4 (σ:zaa)(m k:Nat)(l:List Slot):((zao l).mapM λ(c:List AV)=>c.mapM (fz σ m k))=some (zao l):=zfV (zcN l).2.1 (λc a=>by obtain⟨n,_,rfl⟩:=yar.1 a;simp[zcP])
theorem zt1 (l:List Slot)(i:Nat)(s:Slot):(zao l).set i (zcP s)=zao (l.set i s):=by simp[zao,List.map_set]
theorem zyk (l:List Slot)(s:Slot):zao (l++ [s])=zao l++ [zcP s]:=by simp[zao]
structure Sized (step:Nat)(l:List Slot):Prop where
 s1:1<=step
 s2:step<=86400
 n1:1<=l.length
 n2:l.length<=400
end Go.Sf
namespace Go.Proofs.YtdbhocoeolhjhaaGreatDoor
open Go.Abs Go.RowKit Go.Sf Go.Num
variable {G:Globs}
theorem wk0:IntKind.i64.wrap 0=0:=by decide
theorem wk1:IntKind.i64.wrap 1=1:=by decide
theorem wk2:IntKind.i64.wrap 2=2:=by decide
theorem wk6:IntKind.i64.wrap 6=6:=by decide
theorem zio (t:Nat)(h:t<=1099511627776):PT 85 [.int .i64 t] (λr=>r=.bool true):=by
 refine pwP zmc ?_;have a:(0:Int)<=t:=by omega
 have b:(t:Int)<=1099511627776:=by omega
 simp[zgH,a,b]
theorem zl2 (step:Nat)(l:List Slot)(hz:Sized step l)(h:zde step l):PT 147 [.agg (zaf step l)] (λr=>r=.bool true):=by
 refine pwP zlz ?_;obtain⟨y,R,t,S⟩:=hz;have F:¬((step:Int)<1):=by omega
 have G:¬((86400:Int)<step):=by omega
 have H:¬((l.length:Int)<1):=by omega
 have I:¬((400:Int)<l.length):=by omega
 have J:¬(86400<step):=by omega
 have K:¬(400<l.length):=by omega
 have o:step≠0:=by omega
 have p:l.length≠0:=by omega
 have v:l≠ []:=λe=>by rw[e]at t;simp at t
 have a:=zaq l;simp[zgw,zaf,F,G,H,I,a];refine zac (λx f σ=>∃(i:Nat) (m:zaa),x=l.length-i/\i<=l.length/\f 1=.ptr 0 0/\f 3=.int .i64 i/\σ=.var 112 (zaf step l)::m) l.length ?_ ?_;.exact⟨0,[],by simp,by simp,by simp,by simp,by simp[zaf]⟩
 rintro x f σ ⟨i,m,T,U,b,n,rfl⟩;simp[b,n,zaf,a];refine zap (λD=> ?_) (λE=> ?_)
 .have g:i<l.length:=by omega
  have j:=wS i (by omega);obtain⟨s,u⟩:=gE g;have q:=zc0 u;obtain⟨z,A⟩:=yaa.1 q;rcases h i s u with ⟨c,d⟩|⟨k,c,d,B,W,C⟩
  .simp[b,n,q,zcP,splice,c,d,j];exact nx_i ⟨i+1,m++ [.var 186 (zcP s)],rfl,by omega,by simp[b],by simp,by simp[zcP,c,d]⟩
  .have L:¬s.1= -1:=(by omega);simp[b,n,q,zcP,splice,L];rw[c];refine zb3 (zio (k*step) d) ?_;have M:((k*step:Nat):Int).tmod step=0:=(by rw[yda (by omega)];simp);have O:((k*step:Nat):Int).tdiv step=k:=(by rw[Int.tdiv_eq_ediv_of_nonneg (by omega)];simp only[ydt];exact Int.mul_ediv_cancel _ (by omega));have P:(k:Int).tmod l.length=i:=(by rw[yda (by omega),<-B];simp);have w:k<=1099511627776:=ybu (Nat.le_mul_of_pos_right k y) d;have Q:IntKind.i64.wrap (k:Int)=k:=wI (by omega);have X:(step:Int)≠0:=(by omega);have Y:(l.length:Int)≠0:=(by omega);simp[b,n,M,O,P,Q,o,p,C,a,j, -Int.natCast_mul];exact nx_i ⟨i+1,m++ [.var 186 (zcP s)],rfl,by omega,by simp[b],by simp,by simp[zcP,c]⟩
 .simp
theorem zbC (a b:Nat):((a:Int)).tmod b=((a%b:Nat):Int):=by rw[yda (by omega)];rfl
theorem ztV (a b:Nat):((a:Int)).tdiv b=((a/b:Nat):Int):=by rw[Int.tdiv_eq_ediv_of_nonneg (by omega)];rfl
theorem zo3 (t s:Nat):(t:Int)-((t%s:Nat):Int)=((t/s*s:Nat):Int):=by have h:=ycq t s;rw[ybw]at h;omega
theorem zra (step:Nat)(l:List Slot)(hz:Sized step l)(h:zde step l)(t:Nat)(ht:t<=1099511627776):PT 150 [.agg (zaf step l),.int .i64 t] (λr=>r=.tup [.int .i64 (t/step*step:Nat),.int .i64 0]):=by
 refine pwP zlS ?_;simp[zg6,zaf];refine zad (zl2 step l hz h) ?_;simp;refine zad (zio t ht) ?_;have c:=hz.s1;have d:(step:Int)≠0:=by omega
 have a:step≠0:=by omega
 have e:=yb9 t step;have b:IntKind.i64.wrap ((t/step*step:Nat):Int)=((t/step*step:Nat):Int):=wI (by omega);simp[a,zbC,zo3,b, -Int.natCast_mul, -Int.natCast_emod];rw[ydt,Int.natCast_ediv]
theorem zto (step:Nat)(l:List Slot)(hl:l.length<=1000000):PT 149 [.agg (zaf step l)] (λr=>r=.agg (zaf step l)):=by
 refine pwP zhq ?_;have a:=zaq l;simp[zer,zaf];refine⟨?_, ?_⟩
 all_goals
  refine zbJ [] (zao l) false (by simp) rfl (by decide) (zcN l).1 (λh=>by cases h) rfl (by simp;omega) (by simp;omega) ?_;simp[zg4]
theorem zy0 (σ:zaa)(step:Nat)(l:List Slot)(hl:l.length<=1000000):AT 149 [.agg (zaf step l)] σ (λr σ'=>r=.agg [.int .i64 step,.row (σ.length+2) l.length]/\σ'=σ++ [.var 112 (zaf step l),.var 112 [.int .i64 step,.row (σ.length+2) l.length],.row 186 2 (zao l) false]):=by
 refine pwA zhq ?_;have d:=zaq l;simp[zer,zaf];refine⟨?_, ?_⟩
 all_goals
  refine zbJ [] (zao l) false (by simp) rfl (by decide) (zcN l).1 (λh=>by cases h) rfl (by simp;omega) (by simp;omega) ?_;simp[splice,d];refine zbi (σ++ [.var 112 (zaf step l),.var 112 [.int .i64 step,.row (σ.length+2) l.length],.row 186 2 (zao l) false]) (.agg [.int .i64 step,.row (σ.length+2) l.length]) (by simp[zaK]) [] (by simp[zaf]) (by simp) (by simp[AV.under]) (λi e a=> ?_) ⟨rfl,by simp[zaf]⟩;rcases ydm i σ.length with c|b
  .rw[yap c]at a;exact .inl a
  .rw[yam b]at a;right;obtain⟨j,f⟩:∃j,j=i-σ.length:=⟨_,rfl⟩;rw[<-f]at a
   match j,a with
   |0,a=>simp at a;subst a;simp[Entry.under,zaf,AV.under]
   |1,a=>simp at a;subst a;simp[Entry.under,AV.under]
   |2,a=>simp at a;subst a;exact zaD (zcN l).2.1
   |j+3,a=>simp at a
theorem zqF (step:Nat)(l:List Slot)(hz:Sized step l)(h:zde step l)(t:Nat)(ht:t<=1099511627776)(v:Int)(hv:v≠ -9223372036854775808):PT 88 [.agg (zaf step l),.int .i64 t,.int .i64 v] (λr=>r=.tup [.agg (zaf step (setR step l t v)),.int .i64 0]):=by
 refine pwP zod ?_;have n:=zaq l;obtain⟨D,E,k,F⟩:=hz;have M:(step:Int)≠0:=by omega
 have o:step≠0:=by omega
 have O:(l.length:Int)≠0:=by omega
 have u:l.length≠0:=by omega
 have B:l≠ []:=λe=>by rw[e]at k;simp at k
 have P:=yb9 t step;have w:t/step<=t:=yde _ _;obtain⟨a,b⟩:∃a,a=t/step*step:=⟨_,rfl⟩;have x:a/step=t/step:=by rw[b];exact ydi _ (by omega)
 have d:t/step%l.length<l.length:=yb3 _ (by omega);obtain⟨q,c⟩:∃q,q=t/step:=⟨_,rfl⟩;obtain⟨p,j⟩:∃p,p=q%l.length:=⟨_,rfl⟩;rw[<-c]at x w d;rw[<-j]at d;have J:(a:Int)/(step:Int)=(q:Int):=by rw[<-x];rfl
 have f:(a:Int).tdiv (step:Int)=(q:Int):=by rw[ztV,x]
 have y:IntKind.i64.wrap (q:Int)=(q:Int):=wI (by omega);have z:(q:Int).tmod (l.length:Int)=(p:Int):=by rw[zbC,j]
 have K:(q:Int)%(l.length:Int)=(p:Int):=by rw[j];rfl
 have C:=zra (G:=G) step l ⟨D,E,k,F⟩ h t ht;rw[<-b]at C;simp[zh9,zaf];refine zad C ?_;simp[hv];refine zai (zy0 _ step l (by omega)) ?_;rintro r σ ⟨rfl,rfl⟩;obtain⟨s,H⟩:∃s,l[p]? =some s:=⟨l[p]'(by omega),yah (by omega)⟩;have L:=zc0 H;obtain⟨I,m⟩:=yaa.1 L;have g:p<l.length:=by omega
 have i:(zao l).set p [.int .i64 (a:Int),.int .i64 v]=zao (setR step l t v):=by rw[j,c,setR,<-zt1,b];rfl
 have A:l.length=(zao (setR step l t v)).length:=by rw[zaq,zcR]
 simp[zaf,f,y,z,o,u,n,g,m,zcP,splice,i];rw[if_pos A.symm];simp[zg4]
theorem z4V (step:Nat)(l:List Slot)(hz:Sized step l)(h:zde step l)(t:Nat)(ht:t<=1099511627776):PT 89 [.agg (zaf step l),.int .i64 t] (λr=>r=numA (numO (getR step l t))):=by
 refine pwP zo6 ?_;have i:=zaq l;obtain⟨C,D,u,E⟩:=hz;have K:(step:Int)≠0:=by omega
 have j:step≠0:=by omega
 have L:(l.length:Int)≠0:=by omega
 have k:l.length≠0:=by omega
 have z:l≠ []:=λe=>by rw[e]at u;simp at u
 have M:=yb9 t step;have v:t/step<=t:=yde _ _;obtain⟨a,d⟩:∃a,a=t/step*step:=⟨_,rfl⟩;have w:a/step=t/step:=by rw[d];exact ydi _ (by omega)
 have b:t/step%l.length<l.length:=yb3 _ (by omega);obtain⟨q,f⟩:∃q,q=t/step:=⟨_,rfl⟩;obtain⟨p,o⟩:∃p,p=q%l.length:=⟨_,rfl⟩;rw[<-f]at w v b;rw[<-o]at b;have H:(a:Int)/(step:Int)=(q:Int):=by rw[<-w];rfl
 have c:(a:Int).tdiv (step:Int)=(q:Int):=by rw[ztV,w]
 have m:IntKind.i64.wrap (q:Int)=(q:Int):=wI (by omega);have n:(q:Int).tmod (l.length:Int)=(p:Int):=by rw[zbC,o]
 have I:(q:Int)%(l.length:Int)=(p:Int):=by rw[o];rfl
 have A:=zra (G:=G) step l ⟨C,D,u,E⟩ h t ht;rw[<-d]at A;simp[zie,zaf];refine zad A ?_;obtain⟨s,y⟩:∃s,l[p]? =some s:=⟨l[p]'(by omega),yah (by omega)⟩;have J:=zc0 y;obtain⟨F,g⟩:=yaa.1 J;have B:getR step l t=if s.1=(a:Int)then some s.2 else none:=by unfold getR;rw[<-f,<-o,y];simp only;rw[f,<-d]
 by_cases x:s.1=(a:Int);.simp[c,m,n,j,k,i,b,g,zcP,splice,x,B,numO,numA]
 .simp[c,m,n,j,k,i,b,g,zcP,splice,x];refine zad zb1 ?_;simp[B,x,numO,numA,zbK,splice]
theorem zq9 (l:List Slot)(hl:l.length<=1000000):PT 80 [.lst (zao l),.lst (zao l)] (λr=>r=.bool true):=by
 refine pwP zeo ?_;simp[zc9];have c:=zaq l;refine zac (λx f σ=>∃(i:Nat),x=l.length-i/\i<=l.length/\f 0=.lst (zao l)/\f 1=.lst (zao l)/\f 5=.int .i64 i/\σ= []) l.length ?_ ?_;.exact⟨0,by simp⟩
 rintro x f σ ⟨i,q,s,b,e,g,rfl⟩;simp[b,g,c];refine zap (λo=> ?_) (λp=> ?_)
 .have a:i<l.length:=by omega
  have d:=wS i (by omega);obtain⟨n,j⟩:=gE a;have h:=zc0 j;obtain⟨k,m⟩:=yaa.1 h;simp[b,e,g,h,zcP,zil,d];exact nx_i ⟨i+1,rfl,by omega,by simp[b],by simp[e],by simp,rfl⟩
 .simp
theorem ztG (step:Nat)(l:List Slot)(hl:l.length<=1000000):PT 38 [.agg (zaf step l),.agg (zaf step l)] (λr=>r=.bool true):=by refine pwP zhk ?_;simp[ze0,zaf];refine zad (zq9 l hl) ?_;simp
theorem zk9 (l:LadM):Els 2 (zak l):=by refine⟨λc a=> ?_,λc a=> ?_,λc a=> ?_⟩<;>(simp[zak]at a;rcases a with rfl|rfl<;>simp[zaf,AV.pure,AV.one])
theorem ztH (l:LadM)(h:RightL l):PT 15 [.agg (ladC l),.agg (ladC l)] (λr=>r=.bool true):=by
 refine pwP zhe ?_;simp[zei,ladC,zak];refine zac (λx f σ=>∃(i:Nat),x=2-i/\i<=2/\f 2=.ptr 0 0/\f 3=.ptr 1 0/\f 5=.int .i64 i/\σ= [.var 55 (ladC l),.var 55 (ladC l)]) 2 ?_ ?_;.exact⟨0,by simp,by simp,by simp,by simp,by simp,by simp[ladC,zak]⟩
 rintro x f σ ⟨i,e,g,a,c,b,rfl⟩;have d:i=0∨i=1∨i=2:=by omega
 rcases d with rfl|rfl|rfl;.simp[a,c,b,ladC,zak,zaf];refine zb3 (ztG 10 l.fine (by rw[h.n1];omega)) ?_;simp[b,wk1];exact nx_i ⟨1,rfl,by omega,by simp[a],by simp[c],by simp⟩
 .simp[a,c,b,ladC,zak,zaf];refine zb3 (ztG 60 l.wide (by rw[h.n2];omega)) ?_;simp[b,wk2];exact nx_i ⟨2,rfl,by omega,by simp[a],by simp[c],by simp⟩
 .simp[a,b,ladC,zak]
theorem zjs (a b:Nat)(h1:1<=a)(h2:a<=86400)(h3:1<=b)(h4:b<=400):PT 144 [.agg [.int .i64 a,.int .i64 b]] (λr=>r=.bool true):=by
 refine pwP zkD ?_;have c:(1:Int)<=a:=by omega
 have d:(a:Int)<=86400:=by omega
 have e:(1:Int)<=b:=by omega
 have f:(b:Int)<=400:=by omega
 have g:0<a:=by omega
 have h:0<b:=by omega
 simp[zfY,c,d,e,f]
theorem zr8 (a b:Nat)(h1:1<=a)(h2:a<=86400)(h3:1<=b)(h4:b<=400):PT 145 [.agg [.int .i64 a,.int .i64 b]] (λr=>r=.int .i64 (a*b:Nat)):=by
 refine pwP zmb ?_;have d:a*b<=86400*400:=yer h2 h4;have c:IntKind.i64.wrap ((a:Int)*b)=((a*b:Nat):Int):=by
  have e:(a:Int)*b=((a*b:Nat):Int):=by rw[ydt]
  rw[e];exact wI (by omega)
 simp[zgq];refine zad (zjs a b h1 h2 h3 h4) ?_;simp[c]
theorem zkY:PT 82 [.lst rungsC] (λr=>r=.bool true):=by
 refine pwP ziZ ?_;simp[zfe,rungsC];refine zac (λx f σ=>∃(i:Nat),x=2-i/\i<=2/\f 0=.lst rungsC/\f 3=.int .i64 i/\σ= []) 2 ?_ ?_;.exact⟨0,by simp,by simp,by simp[rungsC],by simp⟩
 rintro x f σ ⟨i,e,j,a,b,rfl⟩;have d:i=0∨i=1∨i=2:=by omega
 rcases d with rfl|rfl|rfl;.simp[a,b,rungsC];refine zad (zjs 10 6 (by omega) (by omega) (by omega) (by omega)) ?_;simp[b,wk1];exact nx_i ⟨1,rfl,by omega,by simp[a,rungsC],by simp,rfl⟩
 .simp[a,b,rungsC];refine zad (zjs 60 5 (by omega) (by omega) (by omega) (by omega)) ?_;simp[b,wk2];exact nx_i ⟨2,rfl,by omega,by simp[a,rungsC],by simp,rfl⟩
 .simp[a,b,rungsC];refine zac (λx f σ=>∃(i:Nat),x=2-i/\(i=1∨i=2)/\f 0=.lst rungsC/\f 4=.int .i64 i/\(i=1->σ= [])) 1 ?_ ?_;.exact⟨1,by omega,.inl rfl,by simp[a,rungsC],by simp,λ_=>rfl⟩
  clear a b;rintro x f σ ⟨i,e,rfl|rfl,a,c,g⟩
  .obtain rfl:=g rfl;simp[a,c,rungsC,wk0];refine⟨?_, ?_⟩
   all_goals
    refine zb3 (zr8 60 5 (by omega) (by omega) (by omega) (by omega)) ?_;simp;refine zb3 (zr8 10 6 (by omega) (by omega) (by omega) (by omega)) ?_;simp[c,wk2,wk6];exact nx_j 0 ⟨2,by omega,.inr rfl,by simp[a,rungsC],by simp,λh=>by omega⟩
  .simp[a,c,rungsC]
theorem zyi (l:LadM)(h:RightL l):PT 146 [.agg (ladC l)] (λr=>r=.lst rungsC):=by
 refine pwP zl7 ?_;have g:=zaq l.fine;have j:=zaq l.wide;rw[h.n1]at g;rw[h.n2]at j;simp[zgv,ladC,zak];refine zac (λx f σ=>∃(i:Nat),x=2-i/\i<=2/\f 1=.ptr 0 0/\f 4=.int .i64 i/\((i=0/\f 3=.nils/\σ= [.var 55 (ladC l)])∨(0<i/\f 3=.row 1 i/\σ= [.var 55 (ladC l),.row 119 2 (rungsC.take i) true]))) 2 ?_ ?_;.exact⟨0,by simp,by simp,by simp,by simp,.inl ⟨rfl,by simp,by simp[ladC,zak]⟩⟩
 rintro x f σ ⟨i,k,m,b,c,d⟩;have e:i=0∨i=1∨i=2:=by omega
 rcases e with rfl|rfl|rfl
 .obtain⟨_,a,rfl⟩:0=0/\f 3=.nils/\σ= [.var 55 (ladC l)]:=by
   rcases d with h|⟨h,_⟩;.exact h
   .omega
  simp[b,a,c,ladC,zak,zaf,g];refine zf6 true [[.int .i64 10,.int .i64 6]] (by simp[view]) (by decide) (by simp) (λ_=> .inl (by simp[zgp])) (by simp) (by simp) ?_;simp[c,wk1];exact nx_i ⟨1,rfl,by omega,by simp[b],by simp,.inr ⟨by omega,by simp,by simp[rungsC]⟩⟩
 .obtain⟨_,a,rfl⟩:0<1/\f 3=.row 1 1/\σ= [.var 55 (ladC l),.row 119 2 (rungsC.take 1) true]:=by
   rcases d with ⟨h,_⟩|h;.omega
   .exact h
  simp[b,a,c,ladC,zak,zaf,j,rungsC];refine zbJ [[.int .i64 10,.int .i64 6]] [[.int .i64 60,.int .i64 5]] true (by simp) (by simp[view]) (by decide) (by simp) (λ_=> .inl (by simp[zgp])) rfl (by simp) (by simp) ?_;simp[c,wk2];exact nx_i ⟨2,rfl,by omega,by simp[b],by simp,.inr ⟨by omega,by simp⟩⟩
 .obtain⟨_,a,rfl⟩:0<2/\f 3=.row 1 2/\σ= [.var 55 (ladC l),.row 119 2 (rungsC.take 2) true]:=by
   rcases d with ⟨h,_⟩|h;.omega
   .exact h
  simp[b,a,c,ladC,zak,rungsC]
theorem zsq {l:LadM}(h:RightL l):Sized 10 l.fine:=⟨by omega,by omega,by rw[h.n1];omega,by rw[h.n1];omega⟩
theorem zpB {l:LadM}(h:RightL l):Sized 60 l.wide:=⟨by omega,by omega,by rw[h.n2];omega,by rw[h.n2];omega⟩
theorem zvB:PT 81 [.int .i64 1,.int .i64 500000] (λr=>r=.bool true):=by refine pwP zoB ?_;simp[zif]
theorem zrv (l:LadM)(h:RightL l):PT 84 [.agg (ladC l)] (λr=>r=.bool true):=by
 refine pwP zl6 ?_;simp[zg7,ladC];refine zad zvB ?_;simp;refine zad (zyi l h) ?_;simp;refine zad zkY ?_;simp;refine zac (λx f σ=>∃(i:Nat),x=2-i/\i<=2/\f 1=.ptr 0 0/\f 3=.int .i64 i/\σ= [.var 55 (ladC l)]) 2 ?_ ?_;.exact⟨0,by simp,by simp,by simp,by simp,by simp[ladC]⟩
 rintro x f σ ⟨i,d,e,a,b,rfl⟩;have c:i=0∨i=1∨i=2:=by omega
 rcases c with rfl|rfl|rfl;.simp[a,b,ladC,zak,zaf];refine zad (zl2 10 l.fine (zsq h) h.r1) ?_;simp[b,wk1];exact nx_i ⟨1,rfl,by omega,by simp[a],by simp⟩
 .simp[a,b,ladC,zak,zaf];refine zad (zl2 60 l.wide (zpB h) h.r2) ?_;simp[b,wk2];exact nx_i ⟨2,rfl,by omega,by simp[a],by simp⟩
 .simp[a,b,ladC,zak]
theorem zv3 (step n:Nat)(h1:1<=step)(h2:step<=86400)(h3:1<=n)(h4:n<=400):PT 83 [.int .i64 step,.int .i64 n] (λr=>r=.tup [.agg (zaf step (List.replicate n (-1,0))),.int .i64 0]):=by
 refine pwP zoC ?_;have q:¬((step:Int)<1):=by omega
 have s:¬((86400:Int)<step):=by omega
 have t:¬((n:Int)<1):=by omega
 have u:¬((400:Int)<n):=by omega
 have v:step≠0:=by omega
 have w:¬(86400<step):=by omega
 have y:n≠0:=by omega
 have z:¬(400<n):=by omega
 simp[zh8,q,s,t,u];refine zac (λx f σ=>∃(i:Nat),x=n-i/\i<=n/\f 1=.int .i64 n/\f 4=.ptr 0 0/\f 6=.ptr 1 0/\f 7=.int .i64 i/\((i=0/\σ= [.var 112 [.int .i64 0,.nils],.var 112 [.int .i64 step,.nils]])∨(0<i/\σ= [.var 112 [.int .i64 0,.nils],.var 112 [.int .i64 step,.row 2 i],.row 186 2 (zao (List.replicate i (-1,0))) true]))) n ?_ ?_;.exact⟨0,by simp,by simp,by simp,by simp,by simp,by simp,.inl ⟨rfl,by simp⟩⟩
 rintro x f σ ⟨i,A,B,c,d,a,e,k⟩;simp[c,e];refine zap (λo=> ?_) (λp=> ?_)
 .have l:i<n:=by omega
  have g:=wS i (by omega);rcases k with ⟨rfl,rfl⟩|⟨m,rfl⟩
  .simp[a];refine zf6 true [[.int .i64 (-1),.int .i64 0]] (by simp[view]) (by decide) (by simp) (λ_=> .inl (by simp[zgp])) (by simp) (by simp) ?_;simp[a,e,wk1,splice];exact nx_i ⟨1,rfl,by omega,by simp[c],by simp[d],by simp[a],by simp,.inr ⟨by omega,by simp[zao,zcP]⟩⟩
  .simp[a];have b:(zao (List.replicate i ((-1:Int),(0:Int)))).length=i:=by simp[zao]
   refine zbJ (zao (List.replicate i (-1,0))) [[.int .i64 (-1),.int .i64 0]] true (by simp) (by simp[view]) (by decide) (by simp) (λ_=> .inl (by simp[zgp])) b (by simp;omega) (by simp;omega) ?_;have h:zao (List.replicate i ((-1:Int),(0:Int)))++ [[.int .i64 (-1),.int .i64 0]]=zao (List.replicate (i+1) (-1,0)):=by rw[List.replicate_succ',zyk];rfl
   rw[h];simp[a,e,g,splice];exact nx_i ⟨i+1,rfl,by omega,by simp[c],by simp[d],by simp[a],by simp,.inr ⟨by omega,by simp⟩⟩
 .have j:i=n:=by omega
  subst j;rcases k with ⟨rfl,rfl⟩|⟨m,rfl⟩
  .omega
  .have b:(zao (List.replicate i ((-1:Int),(0:Int)))).length=i:=(by simp[zao]);simp[d,a,splice,b,zaf]
def schC:List AV:= [.lst rungsC,.int .i64 1,.int .i64 500000]
theorem z3R:PT 39 [.agg schC] (λr=>r=.tup [.agg (ladC newL),.int .i64 0]):=by
 refine pwP zol ?_;simp[zhH,schC];refine zad zvB ?_;simp;refine zad zkY ?_;simp;refine zac (λx f σ=>∃(i:Nat),x=2-i/\i<=2/\f 1=.ptr 0 0/\f 2=.ptr 1 0/\f 4=.ptr 2 0/\f 5=.int .i64 i/\((i=0/\σ= [.var 52 schC,.var 55 [.int .i64 0,.int .i64 0,.nils],.var 55 [.int .i64 1,.int .i64 500000,.nils]])∨ (i=1/\∃e,σ= [.var 52 schC,.var 55 [.int .i64 0,.int .i64 0,.nils],.var 55 [.int .i64 1,.int .i64 500000,.row 4 1],e,.row 112 2 ((zak newL).take 1) true])∨ (i=2/\∃e g,σ= [.var 52 schC,.var 55 [.int .i64 0,.int .i64 0,.nils],.var 55 [.int .i64 1,.int .i64 500000,.row 4 2],e,.row 112 2 (zak newL) true,g]))) 2 ?_ ?_;.exact⟨0,by simp,by simp,by simp,by simp,by simp,by simp,.inl ⟨rfl,by simp[schC]⟩⟩
 rintro x f σ ⟨i,h,j,b,d,a,c,⟨rfl,rfl⟩|⟨rfl,e,rfl⟩|⟨rfl,e,g,rfl⟩⟩;.simp[b,c,schC,rungsC];refine zaX (zv3 10 6 (by omega) (by omega) (by omega) (by omega)) (by simp) ?_;simp[a,splice,zaf];refine zf6 true [zaf 10 (List.replicate 6 (-1,0))] (by simp[view,zaf]) (by decide) (by simp[zaf]) (λ_=> .inl (by simp[zgp,zaf])) (by simp) (by simp) ?_;simp[a,c,splice,wk1];exact nx_i ⟨1,rfl,by omega,by simp[b],by simp[d],by simp[a],by simp,.inr (.inl ⟨rfl,_,by simp[zak,newL];rfl⟩)⟩
 .simp[b,c,schC,rungsC];refine zaX (zv3 60 5 (by omega) (by omega) (by omega) (by omega)) (by simp) ?_;simp[a,splice,zaf];refine zbJ [zaf 10 (List.replicate 6 (-1,0))] [zaf 60 (List.replicate 5 (-1,0))] true (by simp[zak,newL,zaf]) (by simp[view,zaf]) (by decide) (by simp[zaf]) (λ_=> .inl (by simp[zgp,zaf])) rfl (by simp) (by simp) ?_;simp[a,c,splice,wk2];exact nx_i ⟨2,rfl,by omega,by simp[b],by simp[d],by simp[a],by simp,.inr (.inr ⟨rfl,e,_,by simp[zak,newL];rfl⟩)⟩
 .simp[b,d,a,c,schC,rungsC,splice,zak,ladC,zaf]
theorem ztF (σ:zaa)(l:LadM)(h:RightL l):AT 87 [.agg (ladC l)] σ (λr σ'=>r=.agg [.int .i64 1,.int .i64 500000,.row (σ.length+3) 2]/\σ'=σ++ [.var 55 (ladC l),.var 55 [.int .i64 1,.int .i64 500000,.row (σ.length+3) 2],.var 55 [.int .i64 1,.int .i64 500000,.row (σ.length+3) 2],.row 112 2 (zak l) false]):=by
 refine pwA zm1 ?_;simp[zgR,ladC];obtain⟨A,m⟩:∃A:Entry,A=.var 55 (ladC l):=⟨_,rfl⟩;obtain⟨B,w⟩:∃B:Entry,B=.var 55 [.int .i64 0,.int .i64 0,.nils]:=⟨_,rfl⟩;refine zac (λx f σ'=>∃(i:Nat),x=2-i/\i<=2/\f 1=.ptr σ.length 0/\f 2=.ptr (σ.length+1) 0/\f 3=.ptr (σ.length+2) 0/\f 4=.int .i64 i/\((i=0/\σ'=σ++ [A,B,.var 55 [.int .i64 1,.int .i64 500000,.nils]])∨ (0<i/\σ'=σ++ [A,B,.var 55 [.int .i64 1,.int .i64 500000,.row (σ.length+3) i],.row 112 2 ((zak l).take i) false]))) 2 ?_ ?_;.exact⟨0,by simp,by simp,by simp,by simp,by simp,by simp,.inl ⟨rfl,by simp[m,w,ladC]⟩⟩
 rintro x f σ' ⟨i,C,D,n,q,k,o,s⟩;have E:∀(a b c d:Entry),(σ++ [a,b,c,d])[σ.length+3]? =some d:=λa b c d=>by rw[yam (by omega),ybc];rfl
 have z:∀(a b c d e:Entry),(σ++ [a,b,c,d]).set (σ.length+3) e=σ++ [a,b,c,e]:=λa b c d e=>by rw[yct _ _ (by omega),ybc];rfl
 have u:i=0∨i=1∨i=2:=by omega
 rcases u with rfl|rfl|rfl
 .obtain⟨_,rfl⟩:0=0/\σ'=σ++ [A,B,.var 55 [.int .i64 1,.int .i64 500000,.nils]]:=by
   rcases s with h|⟨h,_⟩;.exact h
   .omega
  simp[n,k,o,m,ladC,zak];refine⟨?_, ?_⟩
  all_goals
   simp[zaf];refine zad (zto 10 l.fine (by rw[h.n1];omega)) ?_;simp[zaf];refine zf6 false [zaf 10 l.fine] (by simp[view,zaf]) (by decide) (by simp[zaf]) (λh=>by cases h) (by simp) (by simp) ?_;simp[k,o,wk1,splice];exact nx_i ⟨1,rfl,by omega,by simp[n],by simp[q],by simp[k],by simp,.inr ⟨by omega,by simp[m,ladC,zak,zaf]⟩⟩
 .obtain⟨_,rfl⟩:0<1/\σ'=σ++ [A,B,.var 55 [.int .i64 1,.int .i64 500000,.row (σ.length+3) 1],.row 112 2 ((zak l).take 1) false]:=by
   rcases s with ⟨h,_⟩|h;.omega
   .exact h
  simp[n,k,o,m,ladC,zak];refine⟨?_, ?_⟩
  all_goals
   simp[zaf];refine zad (zto 60 l.wide (by rw[h.n2];omega)) ?_;simp[zaf];refine zbJ [zaf 10 l.fine] [zaf 60 l.wide] false (by simp[zaf]) (by simp[view,zaf]) (by decide) (by simp[zaf]) (λh=>by cases h) rfl (by simp) (by simp) ?_;simp[k,o,wk2,splice,z];exact nx_i ⟨2,rfl,by omega,by simp[n],by simp[q],by simp[k],by simp,.inr ⟨by omega,by simp[m,ladC,zak,zaf]⟩⟩
 .obtain⟨_,rfl⟩:0<2/\σ'=σ++ [A,B,.var 55 [.int .i64 1,.int .i64 500000,.row (σ.length+3) 2],.row 112 2 ((zak l).take 2) false]:=by
   rcases s with ⟨h,_⟩|h;.omega
   .exact h
  have v:A=.var 55 [.int .i64 1,.int .i64 500000,.lst (zak l)]:=m;simp[n,q,k,o,v,w,splice,zak];refine zbi _ (.agg [.int .i64 1,.int .i64 500000,.row (σ.length+3) 2]) (by simp[zaK,q]) [] (ybi _).symm (by simp) (by simp[AV.under]) (λi e g=> ?_) ⟨rfl,rfl⟩;rcases ydm i σ.length with t|p
  .rw[yap t]at g;exact .inl g
  .rw[yam p]at g;right;obtain⟨j,y⟩:∃j,j=i-σ.length:=⟨_,rfl⟩;rw[<-y]at g
   match j,g with
   |0,g=>simp at g;subst g;simp[Entry.under,AV.under]
   |1,g=>simp at g;subst g;simp[Entry.under,AV.under]
   |2,g=>simp at g;subst g;simp[Entry.under,AV.under]
   |3,g=>simp at g;subst g;exact zaD (zk9 l).2.1
   |j+4,g=>simp at g
theorem znr (step:Nat)(l:List Slot)(hz:Sized step l)(t now:Nat)(ht:t<=1099511627776)(hn:now<=1099511627776):PT 86 [.agg (zaf step l),.int .i64 t,.int .i64 now] (λr=>r=.bool (decide (now<t/step*step+step*l.length))):=by
 refine pwP zjw ?_;obtain⟨k,g,m,h⟩:=hz;have n:(step:Int)≠0:=by omega
 have a:step≠0:=by omega
 have b:=zaq l;have o:step*l.length<=86400*400:=yer g h;have p:=yb9 t step;simp[zf5,zaf,a];have kR:PT 148 [.agg (zaf step l)] (λr=>r=.int .i64 (step*l.length:Nat)):=by
  refine pwP zmi ?_;have j:IntKind.i64.wrap ((step:Int)*l.length)=((step*l.length:Nat):Int):=by have e:(step:Int)*l.length=((step*l.length:Nat):Int):=(by rw[ydt]);rw[e];exact wI (by omega)
  simp[zgM,zaf,b,j]
 refine zb3 kR ?_;obtain⟨A,f⟩:∃A,A=t/step*step:=⟨_,rfl⟩;obtain⟨B,i⟩:∃B,B=step*l.length:=⟨_,rfl⟩;have c:IntKind.i64.wrap ((t:Int)-(t:Int).tmod step)=(A:Int):=by rw[zbC,zo3,f];exact wI (by omega)
 have d:IntKind.i64.wrap ((now:Int)-B)=(now:Int)-B:=wI (by omega);rw[<-f,<-i];simp[c,d];omega
end Go.Proofs.YtdbhocoeolhjhaaGreatDoor
namespace Go.Sf
open Go.Abs Go.Num
def zdy (l:List Int):List (List AV):=l.map λ(v:Int)=> [AV.int .i64 v]
theorem zjS (l:List Int):(zdy l).length=l.length:=by simp[zdy]
theorem zej {l:List Int}{i:Nat}{v:Int}(h:l[i]? =some v):(zdy l)[i]? =some [AV.int .i64 v]:=by simp[zdy,h]
theorem zsJ (l:List Int)(v:Int):zdy (l++ [v])=zdy l++ [[AV.int .i64 v]]:=by simp[zdy]
def numC (n:N):List AV:= [.bool n.1,.int .i64 n.2]
def sumF (l:List Int):N:=l.foldl (λa v=>addN a (tell v)) (tell 0)
def zeF (a:N)(l:List Int):N:=l.foldl (λa v=>zs2 a (tell v)) a
def zeV (a:N)(l:List Int):N:=l.foldl (λa v=>zs4 a (tell v)) a
theorem zgB (l:List Int)(v:Int):sumF (l++ [v])=addN (sumF l) (tell v):=by simp[sumF]
theorem zgm (a:N)(l:List Int)(v:Int):zeF a (l++ [v])=zs2 (zeF a l) (tell v):=by simp[zeF]
theorem zgl (a:N)(l:List Int)(v:Int):zeV a (l++ [v])=zs4 (zeV a l) (tell v):=by simp[zeV]
end Go.Sf
namespace Go.Proofs.YtdbhocoeolhjhaaGreatDoor
open Go.Abs Go.RowKit Go.Sf Go.Num
variable {G:Globs}
theorem ze5 (l:List Int):okN (sumF l):=by
 suffices h:∀(l:List Int) (a:N),okN a->okN (l.foldl (λa v=>addN a (tell v)) a) from h l _ (za9 0)
 intro l
 induction l with
 |nil=>intro a h;exact h
 |cons v l b=>intro a h;exact b _ (zDq _ _)
theorem zkB (l:List Int):∀a,okN a->okN (zeF a l):=by
 induction l with
 |nil=>intro a h;exact h
 |cons v l b=>intro a h;exact b _ (zCp h (za9 v))
theorem zkn (l:List Int):∀a,okN a->okN (zeV a l):=by
 induction l with
 |nil=>intro a h;exact h
 |cons v l b=>intro a h;exact b _ (zBN h (za9 v))
theorem zyC (l:List Int)(h0:l≠ [])(hl:l.length<=1000)(hv:∀v∈l,i64 v):PT 90 [.int .i64 1,.lst (zdy l)] (λr=>r=numA (avgN l)):=by
 refine pwP zmf ?_;have k:=zjS l;have O:0<l.length:=ycw.2 h0;have T:¬((l.length:Int)=0):=by omega
 have Q:l.length≠0:=by omega
 obtain⟨a,K⟩:=gE O;have m:=zej K;obtain⟨R,S⟩:=yaa.1 m;have P:=hv a (yad K);have U:∀i v,l[i]? =some v->(zdy l)[i]? =some [AV.int .i64 v]:=λi v h=>zej h;have J:PT 152 [.int .i64 0] (λr=>r=.agg (numC (tell 0))):=zp5 0 (by omega) (by omega);have D:PT 152 [.int .i64 a] (λr=>r=.agg (numC (tell a))):=zp5 a P.1 P.2;simp[zgI,k,Q];refine⟨?_, ?_, ?_, ?_, ?_, ?_⟩
 .refine zbt J (by simp) (by simp[numC]) ?_;simp[m];refine zbt D (by simp) (by simp[numC]) ?_;simp[m];refine zbt D (by simp) (by simp[numC]) ?_;simp[numC,splice];refine zac (λx f σ=>∃(i:Nat) (n:zaa),x=l.length-i/\i<=l.length/\f 0=.int .i64 1/\f 1=.lst (zdy l)/\f 4=.ptr 0 0/\f 5=.ptr 1 0/\f 6=.ptr 2 0/\f 7=.ptr 3 0/\f 8=.int .i64 i/\σ=.var 182 [.bool false,.int .i64 0]:: .var 182 (numC (sumF (l.take i))):: .var 182 (numC (zeF (tell a) (l.take i))):: .var 182 (numC (zeV (tell a) (l.take i)))::n) l.length ?_ ?_;.exact⟨0,[],by simp,by simp,by simp,by simp,by simp,by simp,by simp,by simp,by simp,by simp[numC,sumF,zeF,zeV]⟩
  rintro x f σ ⟨i,n,L,M,u,g,w,j,o,p,q,rfl⟩;simp[g,q,k];refine zap (λG=> ?_) (λH=> ?_);.have d:i<l.length:=(by omega);have s:=wS i (by omega);obtain⟨v,b⟩:=gE d;have y:=zej b;obtain⟨E,F⟩:=yaa.1 y;have e:=hv v (yad b);have c:=tS b;have qv:PT 152 [.int .i64 v] (λr=>r=.agg (numC (tell v))):=zp5 v e.1 e.2;have z:PT 153 [.agg (numC (sumF (l.take i))),.agg (numC (tell v))] (λr=>r=.agg (numC (sumF (l.take (i+1))))):=(by rw[c,zgB];exact zk3 _ _ (ze5 _) (za9 v));have A:PT 154 [.agg (numC (zeF (tell a) (l.take i))),.agg (numC (tell v))] (λr=>r=.agg (numC (zeF (tell a) (l.take (i+1))))):=(by rw[c,zgm];exact zhW _ _ (zkB _ _ (za9 a)) (za9 v));have B:PT 155 [.agg (numC (zeV (tell a) (l.take i))),.agg (numC (tell v))] (λr=>r=.agg (numC (zeV (tell a) (l.take (i+1))))):=(by rw[c,zgl];exact zik _ _ (zkn _ _ (za9 a)) (za9 v));simp[g,q,y];refine zad qv ?_;simp only[numC]at z A B;simp[j,numC,splice];refine zad z ?_;simp[j,o,splice];refine zad A ?_;simp[o,p,splice];refine zad B ?_;simp[p,q,splice,s];exact nx_i ⟨i+1,n++ [.var 182 (numC (tell v))],rfl,by omega,by simp[u],by simp[g],by simp[w],by simp[j],by simp[o],by simp[p],by simp,by simp[numC]⟩
  .have t:i=l.length:=(by omega);subst t;rw[yav];have C:PT 156 [.agg (numC (sumF l)),.agg (numC (tell (l.length*1000000)))] (λr=>r=.agg (numC (avgN l))):=zkf _ _ (ze5 _) (za9 _);have I:PT 157 [.int .i64 l.length] (λr=>r=.agg (numC (tell (l.length*1000000)))):=zoi _ (by omega) (by omega);simp[u,g,j,k,numC];refine zbt I (by simp) (by simp[numC]) ?_;simp only[numC]at C;simp[numC];refine zb3 C ?_;simp[w,splice,numA]
 .refine zbt J (by simp) (by simp[numC]) ?_;simp[m];refine zbt D (by simp) (by simp[numC]) ?_;simp[m];refine zbt D (by simp) (by simp[numC]) ?_;simp[numC,splice];refine zac (λx f σ=>∃(i:Nat) (n:zaa),x=l.length-i/\i<=l.length/\f 0=.int .i64 1/\f 1=.lst (zdy l)/\f 4=.ptr 0 0/\f 5=.ptr 2 0/\f 6=.ptr 1 0/\f 7=.ptr 3 0/\f 8=.int .i64 i/\σ=.var 182 [.bool false,.int .i64 0]:: .var 182 (numC (zeF (tell a) (l.take i))):: .var 182 (numC (sumF (l.take i))):: .var 182 (numC (zeV (tell a) (l.take i)))::n) l.length ?_ ?_;.exact⟨0,[],by simp,by simp,by simp,by simp,by simp,by simp,by simp,by simp,by simp,by simp[numC,sumF,zeF,zeV]⟩
  rintro x f σ ⟨i,n,L,M,u,g,w,j,o,p,q,rfl⟩;simp[g,q,k];refine zap (λG=> ?_) (λH=> ?_);.have d:i<l.length:=(by omega);have s:=wS i (by omega);obtain⟨v,b⟩:=gE d;have y:=zej b;obtain⟨E,F⟩:=yaa.1 y;have e:=hv v (yad b);have c:=tS b;have qv:PT 152 [.int .i64 v] (λr=>r=.agg (numC (tell v))):=zp5 v e.1 e.2;have z:PT 153 [.agg (numC (sumF (l.take i))),.agg (numC (tell v))] (λr=>r=.agg (numC (sumF (l.take (i+1))))):=(by rw[c,zgB];exact zk3 _ _ (ze5 _) (za9 v));have A:PT 154 [.agg (numC (zeF (tell a) (l.take i))),.agg (numC (tell v))] (λr=>r=.agg (numC (zeF (tell a) (l.take (i+1))))):=(by rw[c,zgm];exact zhW _ _ (zkB _ _ (za9 a)) (za9 v));have B:PT 155 [.agg (numC (zeV (tell a) (l.take i))),.agg (numC (tell v))] (λr=>r=.agg (numC (zeV (tell a) (l.take (i+1))))):=(by rw[c,zgl];exact zik _ _ (zkn _ _ (za9 a)) (za9 v));simp[g,q,y];refine zad qv ?_;simp only[numC]at z A B;simp[j,numC,splice];refine zad z ?_;simp[j,o,splice];refine zad A ?_;simp[o,p,splice];refine zad B ?_;simp[p,q,splice,s];exact nx_i ⟨i+1,n++ [.var 182 (numC (tell v))],rfl,by omega,by simp[u],by simp[g],by simp[w],by simp[j],by simp[o],by simp[p],by simp,by simp[numC]⟩
  .have t:i=l.length:=(by omega);subst t;rw[yav];have C:PT 156 [.agg (numC (sumF l)),.agg (numC (tell (l.length*1000000)))] (λr=>r=.agg (numC (avgN l))):=zkf _ _ (ze5 _) (za9 _);have I:PT 157 [.int .i64 l.length] (λr=>r=.agg (numC (tell (l.length*1000000)))):=zoi _ (by omega) (by omega);simp[u,g,j,k,numC];refine zbt I (by simp) (by simp[numC]) ?_;simp only[numC]at C;simp[numC];refine zb3 C ?_;simp[w,splice,numA]
 .refine zbt J (by simp) (by simp[numC]) ?_;simp[m];refine zbt D (by simp) (by simp[numC]) ?_;simp[m];refine zbt D (by simp) (by simp[numC]) ?_;simp[numC,splice];refine zac (λx f σ=>∃(i:Nat) (n:zaa),x=l.length-i/\i<=l.length/\f 0=.int .i64 1/\f 1=.lst (zdy l)/\f 4=.ptr 0 0/\f 5=.ptr 3 0/\f 6=.ptr 1 0/\f 7=.ptr 2 0/\f 8=.int .i64 i/\σ=.var 182 [.bool false,.int .i64 0]:: .var 182 (numC (zeF (tell a) (l.take i))):: .var 182 (numC (zeV (tell a) (l.take i))):: .var 182 (numC (sumF (l.take i)))::n) l.length ?_ ?_;.exact⟨0,[],by simp,by simp,by simp,by simp,by simp,by simp,by simp,by simp,by simp,by simp[numC,sumF,zeF,zeV]⟩
  rintro x f σ ⟨i,n,L,M,u,g,w,j,o,p,q,rfl⟩;simp[g,q,k];refine zap (λG=> ?_) (λH=> ?_);.have d:i<l.length:=(by omega);have s:=wS i (by omega);obtain⟨v,b⟩:=gE d;have y:=zej b;obtain⟨E,F⟩:=yaa.1 y;have e:=hv v (yad b);have c:=tS b;have qv:PT 152 [.int .i64 v] (λr=>r=.agg (numC (tell v))):=zp5 v e.1 e.2;have z:PT 153 [.agg (numC (sumF (l.take i))),.agg (numC (tell v))] (λr=>r=.agg (numC (sumF (l.take (i+1))))):=(by rw[c,zgB];exact zk3 _ _ (ze5 _) (za9 v));have A:PT 154 [.agg (numC (zeF (tell a) (l.take i))),.agg (numC (tell v))] (λr=>r=.agg (numC (zeF (tell a) (l.take (i+1))))):=(by rw[c,zgm];exact zhW _ _ (zkB _ _ (za9 a)) (za9 v));have B:PT 155 [.agg (numC (zeV (tell a) (l.take i))),.agg (numC (tell v))] (λr=>r=.agg (numC (zeV (tell a) (l.take (i+1))))):=(by rw[c,zgl];exact zik _ _ (zkn _ _ (za9 a)) (za9 v));simp[g,q,y];refine zad qv ?_;simp only[numC]at z A B;simp[j,numC,splice];refine zad z ?_;simp[j,o,splice];refine zad A ?_;simp[o,p,splice];refine zad B ?_;simp[p,q,splice,s];exact nx_i ⟨i+1,n++ [.var 182 (numC (tell v))],rfl,by omega,by simp[u],by simp[g],by simp[w],by simp[j],by simp[o],by simp[p],by simp,by simp[numC]⟩
  .have t:i=l.length:=(by omega);subst t;rw[yav];have C:PT 156 [.agg (numC (sumF l)),.agg (numC (tell (l.length*1000000)))] (λr=>r=.agg (numC (avgN l))):=zkf _ _ (ze5 _) (za9 _);have I:PT 157 [.int .i64 l.length] (λr=>r=.agg (numC (tell (l.length*1000000)))):=zoi _ (by omega) (by omega);simp[u,g,j,k,numC];refine zbt I (by simp) (by simp[numC]) ?_;simp only[numC]at C;simp[numC];refine zb3 C ?_;simp[w,splice,numA]
 .refine zbt J (by simp) (by simp[numC]) ?_;simp[m];refine zbt D (by simp) (by simp[numC]) ?_;simp[m];refine zbt D (by simp) (by simp[numC]) ?_;simp[numC,splice];refine zac (λx f σ=>∃(i:Nat) (n:zaa),x=l.length-i/\i<=l.length/\f 0=.int .i64 1/\f 1=.lst (zdy l)/\f 4=.ptr 0 0/\f 5=.ptr 1 0/\f 6=.ptr 3 0/\f 7=.ptr 2 0/\f 8=.int .i64 i/\σ=.var 182 [.bool false,.int .i64 0]:: .var 182 (numC (sumF (l.take i))):: .var 182 (numC (zeV (tell a) (l.take i))):: .var 182 (numC (zeF (tell a) (l.take i)))::n) l.length ?_ ?_;.exact⟨0,[],by simp,by simp,by simp,by simp,by simp,by simp,by simp,by simp,by simp,by simp[numC,sumF,zeF,zeV]⟩
  rintro x f σ ⟨i,n,L,M,u,g,w,j,o,p,q,rfl⟩;simp[g,q,k];refine zap (λG=> ?_) (λH=> ?_);.have d:i<l.length:=(by omega);have s:=wS i (by omega);obtain⟨v,b⟩:=gE d;have y:=zej b;obtain⟨E,F⟩:=yaa.1 y;have e:=hv v (yad b);have c:=tS b;have qv:PT 152 [.int .i64 v] (λr=>r=.agg (numC (tell v))):=zp5 v e.1 e.2;have z:PT 153 [.agg (numC (sumF (l.take i))),.agg (numC (tell v))] (λr=>r=.agg (numC (sumF (l.take (i+1))))):=(by rw[c,zgB];exact zk3 _ _ (ze5 _) (za9 v));have A:PT 154 [.agg (numC (zeF (tell a) (l.take i))),.agg (numC (tell v))] (λr=>r=.agg (numC (zeF (tell a) (l.take (i+1))))):=(by rw[c,zgm];exact zhW _ _ (zkB _ _ (za9 a)) (za9 v));have B:PT 155 [.agg (numC (zeV (tell a) (l.take i))),.agg (numC (tell v))] (λr=>r=.agg (numC (zeV (tell a) (l.take (i+1))))):=(by rw[c,zgl];exact zik _ _ (zkn _ _ (za9 a)) (za9 v));simp[g,q,y];refine zad qv ?_;simp only[numC]at z A B;simp[j,numC,splice];refine zad z ?_;simp[j,o,splice];refine zad A ?_;simp[o,p,splice];refine zad B ?_;simp[p,q,splice,s];exact nx_i ⟨i+1,n++ [.var 182 (numC (tell v))],rfl,by omega,by simp[u],by simp[g],by simp[w],by simp[j],by simp[o],by simp[p],by simp,by simp[numC]⟩
  .have t:i=l.length:=(by omega);subst t;rw[yav];have C:PT 156 [.agg (numC (sumF l)),.agg (numC (tell (l.length*1000000)))] (λr=>r=.agg (numC (avgN l))):=zkf _ _ (ze5 _) (za9 _);have I:PT 157 [.int .i64 l.length] (λr=>r=.agg (numC (tell (l.length*1000000)))):=zoi _ (by omega) (by omega);simp[u,g,j,k,numC];refine zbt I (by simp) (by simp[numC]) ?_;simp only[numC]at C;simp[numC];refine zb3 C ?_;simp[w,splice,numA]
 .refine zbt J (by simp) (by simp[numC]) ?_;simp[m];refine zbt D (by simp) (by simp[numC]) ?_;simp[m];refine zbt D (by simp) (by simp[numC]) ?_;simp[numC,splice];refine zac (λx f σ=>∃(i:Nat) (n:zaa),x=l.length-i/\i<=l.length/\f 0=.int .i64 1/\f 1=.lst (zdy l)/\f 4=.ptr 0 0/\f 5=.ptr 2 0/\f 6=.ptr 3 0/\f 7=.ptr 1 0/\f 8=.int .i64 i/\σ=.var 182 [.bool false,.int .i64 0]:: .var 182 (numC (zeV (tell a) (l.take i))):: .var 182 (numC (sumF (l.take i))):: .var 182 (numC (zeF (tell a) (l.take i)))::n) l.length ?_ ?_;.exact⟨0,[],by simp,by simp,by simp,by simp,by simp,by simp,by simp,by simp,by simp,by simp[numC,sumF,zeF,zeV]⟩
  rintro x f σ ⟨i,n,L,M,u,g,w,j,o,p,q,rfl⟩;simp[g,q,k];refine zap (λG=> ?_) (λH=> ?_);.have d:i<l.length:=(by omega);have s:=wS i (by omega);obtain⟨v,b⟩:=gE d;have y:=zej b;obtain⟨E,F⟩:=yaa.1 y;have e:=hv v (yad b);have c:=tS b;have qv:PT 152 [.int .i64 v] (λr=>r=.agg (numC (tell v))):=zp5 v e.1 e.2;have z:PT 153 [.agg (numC (sumF (l.take i))),.agg (numC (tell v))] (λr=>r=.agg (numC (sumF (l.take (i+1))))):=(by rw[c,zgB];exact zk3 _ _ (ze5 _) (za9 v));have A:PT 154 [.agg (numC (zeF (tell a) (l.take i))),.agg (numC (tell v))] (λr=>r=.agg (numC (zeF (tell a) (l.take (i+1))))):=(by rw[c,zgm];exact zhW _ _ (zkB _ _ (za9 a)) (za9 v));have B:PT 155 [.agg (numC (zeV (tell a) (l.take i))),.agg (numC (tell v))] (λr=>r=.agg (numC (zeV (tell a) (l.take (i+1))))):=(by rw[c,zgl];exact zik _ _ (zkn _ _ (za9 a)) (za9 v));simp[g,q,y];refine zad qv ?_;simp only[numC]at z A B;simp[j,numC,splice];refine zad z ?_;simp[j,o,splice];refine zad A ?_;simp[o,p,splice];refine zad B ?_;simp[p,q,splice,s];exact nx_i ⟨i+1,n++ [.var 182 (numC (tell v))],rfl,by omega,by simp[u],by simp[g],by simp[w],by simp[j],by simp[o],by simp[p],by simp,by simp[numC]⟩
  .have t:i=l.length:=(by omega);subst t;rw[yav];have C:PT 156 [.agg (numC (sumF l)),.agg (numC (tell (l.length*1000000)))] (λr=>r=.agg (numC (avgN l))):=zkf _ _ (ze5 _) (za9 _);have I:PT 157 [.int .i64 l.length] (λr=>r=.agg (numC (tell (l.length*1000000)))):=zoi _ (by omega) (by omega);simp[u,g,j,k,numC];refine zbt I (by simp) (by simp[numC]) ?_;simp only[numC]at C;simp[numC];refine zb3 C ?_;simp[w,splice,numA]
 .refine zbt J (by simp) (by simp[numC]) ?_;simp[m];refine zbt D (by simp) (by simp[numC]) ?_;simp[m];refine zbt D (by simp) (by simp[numC]) ?_;simp[numC,splice];refine zac (λx f σ=>∃(i:Nat) (n:zaa),x=l.length-i/\i<=l.length/\f 0=.int .i64 1/\f 1=.lst (zdy l)/\f 4=.ptr 0 0/\f 5=.ptr 3 0/\f 6=.ptr 2 0/\f 7=.ptr 1 0/\f 8=.int .i64 i/\σ=.var 182 [.bool false,.int .i64 0]:: .var 182 (numC (zeV (tell a) (l.take i))):: .var 182 (numC (zeF (tell a) (l.take i))):: .var 182 (numC (sumF (l.take i)))::n) l.length ?_ ?_;.exact⟨0,[],by simp,by simp,by simp,by simp,by simp,by simp,by simp,by simp,by simp,by simp[numC,sumF,zeF,zeV]⟩
  rintro x f σ ⟨i,n,L,M,u,g,w,j,o,p,q,rfl⟩;simp[g,q,k];refine zap (λG=> ?_) (λH=> ?_);.have d:i<l.length:=(by omega);have s:=wS i (by omega);obtain⟨v,b⟩:=gE d;have y:=zej b;obtain⟨E,F⟩:=yaa.1 y;have e:=hv v (yad b);have c:=tS b;have qv:PT 152 [.int .i64 v] (λr=>r=.agg (numC (tell v))):=zp5 v e.1 e.2;have z:PT 153 [.agg (numC (sumF (l.take i))),.agg (numC (tell v))] (λr=>r=.agg (numC (sumF (l.take (i+1))))):=(by rw[c,zgB];exact zk3 _ _ (ze5 _) (za9 v));have A:PT 154 [.agg (numC (zeF (tell a) (l.take i))),.agg (numC (tell v))] (λr=>r=.agg (numC (zeF (tell a) (l.take (i+1))))):=(by rw[c,zgm];exact zhW _ _ (zkB _ _ (za9 a)) (za9 v));have B:PT 155 [.agg (numC (zeV (tell a) (l.take i))),.agg (numC (tell v))] (λr=>r=.agg (numC (zeV (tell a) (l.take (i+1))))):=(by rw[c,zgl];exact zik _ _ (zkn _ _ (za9 a)) (za9 v));simp[g,q,y];refine zad qv ?_;simp only[numC]at z A B;simp[j,numC,splice];refine zad z ?_;simp[j,o,splice];refine zad A ?_;simp[o,p,splice];refine zad B ?_;simp[p,q,splice,s];exact nx_i ⟨i+1,n++ [.var 182 (numC (tell v))],rfl,by omega,by simp[u],by simp[g],by simp[w],by simp[j],by simp[o],by simp[p],by simp,by simp[numC]⟩
  .have t:i=l.length:=(by omega);subst t;rw[yav];have C:PT 156 [.agg (numC (sumF l)),.agg (numC (tell (l.length*1000000)))] (λr=>r=.agg (numC (avgN l))):=zkf _ _ (ze5 _) (za9 _);have I:PT 157 [.int .i64 l.length] (λr=>r=.agg (numC (tell (l.length*1000000)))):=zoi _ (by omega) (by omega);simp[u,g,j,k,numC];refine zbt I (by simp) (by simp[numC]) ?_;simp only[numC]at C;simp[numC];refine zb3 C ?_;simp[w,splice,numA]
theorem z4b (l:LadM)(h:RightL l)(t now:Nat)(ht:t<=1000000000)(hn:now<=1000000000):PT 40 [.agg (ladC l),.agg [.int .i64 t,.int .i64 (-9223372036854775808)],.int .i64 now] (λr=>r=.tup [.agg (ladC l),.int .i64 1]):=by refine pwP zfZ ?_;simp[zdu,ladC];refine zad (zrv l h) ?_;simp;refine zad (zio t (by omega)) ?_;simp;refine zad (zio now (by omega)) ?_;simp
theorem zpf (l:LadM)(h:RightL l)(t now:Nat)(v:Int)(ht:t<=1000000000)(hn:now<=1000000000)(h1:t<=now)(h2:now<=t+79)(hv:i64 v)(hv2:v≠ -9223372036854775808):PT 40 [.agg (ladC l),.agg [.int .i64 t,.int .i64 v],.int .i64 now] (λr=>r=.tup [.agg (ladC (zc4 l t now v)),.int .i64 0]):=by
 refine pwP zfZ ?_;have k1:¬((now:Int)<t):=by omega
 have bb:¬(now<t):=by omega
 have ab:=znr (G:=G) 10 l.fine (zsq h) t now (by omega) (by omega);have K:=znr (G:=G) 60 l.wide (zpB h) t now (by omega) (by omega);have ay:now<t/60*60+60*l.wide.length:=by rw[h.n2];have:=ycq t 60;have:=yb3 t (show 0<60 by omega);omega
 rw[decide_eq_true ay]at K;rw[h.n1]at ab;simp[zdu,ladC];refine zad (zrv l h) ?_;simp;refine zad (zio t (by omega)) ?_;simp;refine zad (zio now (by omega)) ?_;simp[hv2,k1];obtain⟨E0,u⟩:∃E0:Entry,E0=.var 55 (ladC l):=⟨_,rfl⟩;obtain⟨H,j⟩:∃H:Entry,H=.var 117 [.int .i64 t,.int .i64 v]:=⟨_,rfl⟩;obtain⟨E,Z⟩:∃E:Entry,E=.var 55 [.int .i64 0,.int .i64 0,.nils]:=⟨_,rfl⟩;have ak:IntKind.i64.wrap (-1)= -1:=by decide
 simp[zak];refine zac (λx f σ=>f 2=.int .i64 now/\f 3=.ptr 0 0/\f 4=.ptr 1 0/\f 6=.ptr 2 0/\σ= [E0,H,E]/\((x=2/\f 9=.int .i64 1/\f 8=.int .i64 (-1))∨(x=1/\f 9=.int .i64 0/\f 8=.int .i64 1)∨(x=0/\f 9=.int .i64 (-1)/\f 8=.int .i64 (if now<t/10*10+60 then 0 else 1)))) 2 ?_ ?_;.exact⟨by simp,by simp,by simp,by simp,by simp[u,j,Z,ladC,zak],.inl ⟨rfl,by simp[wk1],by simp⟩⟩
 rintro x f σ ⟨s,m,o,y,rfl,⟨rfl,R,P⟩|⟨rfl,R,P⟩|⟨rfl,R,P⟩⟩;.simp[s,m,o,R,u,j,ladC,zak,zaf];simp only[zaf]at K;refine zb3 K ?_;simp[R,wk0];exact nx_j 1 ⟨by simp[s],by simp[m],by simp[o],by simp[y],by simp[u,j,ladC,zak,zaf],.inr (.inl ⟨rfl,by simp⟩)⟩
 .simp[s,m,o,R,u,j,ladC,zak,zaf];simp only[zaf]at ab;refine zb3 ab ?_;by_cases i:now<t/10*10+60;.simp[i,R,ak];exact nx_j 0 ⟨by simp[s],by simp[m],by simp[o],by simp[y],by simp[u,j,ladC,zak,zaf],.inr (.inr ⟨rfl,by simp,by simp[i]⟩)⟩
  .simp[i,R,ak];exact nx_j 0 ⟨by simp[s],by simp[m],by simp[o],by simp[y],by simp[u,j,ladC,zak,zaf],.inr (.inr ⟨rfl,by simp,by simp[i,P]⟩)⟩
 simp[R];by_cases i:now<t/10*10+60
 .simp[P,m,i,u,ladC];refine zai (ztF _ l h) ?_;rintro r σ ⟨rfl,rfl⟩;have kS:=zqF (G:=G) 10 l.fine (zsq h) h.r1 t (by omega) v hv2;simp only[zaf]at kS;simp[P,o,i,j,zak,zaf,splice];refine zaX kS (by simp[AV.pure]) ?_;simp[splice,wk1,P,i];obtain⟨F,hF⟩:∃F,F=setR 10 l.fine t v:=⟨_,rfl⟩;have al:zde 10 F:=by rw[hF];exact zff h.r1 (by omega) hv hv2
  have az:Sized 10 F:=by rw[hF];exact⟨by omega,by omega,by rw[zcR,h.n1];omega,by rw[zcR,h.n1];omega⟩
  rw[<-hF];obtain⟨M,hM⟩:∃M:Entry,M=.var 55 [.int .i64 1,.int .i64 500000,.row 6 2]:=⟨_,rfl⟩;have b:zc4 l t now v=if(zfQ F t).1 then⟨F,l.wide⟩else⟨F,setR 60 l.wide t (zfQ F t).2⟩:=by unfold zc4;rw[if_pos i,<-hF]
  clear P R;refine zac (λx f σ=>f 2=.int .i64 now/\f 3=.ptr 0 0/\f 4=.ptr 1 0/\f 6=.ptr 2 0/\f 10=.ptr 7 0/\((x=1/\f 11=.int .i64 1/\σ= [.var 55 (ladC l),H,E,.var 55 (ladC l),M,M,.row 112 2 [zaf 10 F,zaf 60 l.wide] false,M])∨ (x=0/\f 11=.int .i64 2/\∃(W:List Slot) (Q:zaa),zc4 l t now v=⟨F,W⟩/\σ=.var 55 (ladC l)::H::E:: .var 55 (ladC l)::M::M:: .row 112 2 [zaf 10 F,zaf 60 W] false::M::Q))) 1 ?_ ?_;.exact⟨by simp[s],by simp[m],by simp[o],by simp[y],by simp,.inl ⟨rfl,by simp,by simp[hM,j,ladC,zak,zaf]⟩⟩
  clear s m o y;rintro x f σ ⟨s,m,o,y,d,⟨rfl,c,rfl⟩|⟨rfl,c,W,Q,aa,rfl⟩⟩
  .simp[s,o,d,c,hM,j,zaf];simp only[zaf]at K;refine zb3 K ?_;simp[d,c,wk0];obtain⟨a,I⟩:∃a,a=t/60*60:=⟨_,rfl⟩;have a8:a<=t:=by rw[I];exact yb9 t 60
   have a0:IntKind.i64.wrap ((t:Int)-(t:Int).tmod 60)=(a:Int):=(by have e:(t:Int).tmod 60=((t%60:Nat):Int):=zbC t 60;rw[e,zo3,I];exact wI (by omega));refine⟨?_, ?_, ?_, ?_⟩
   all_goals
    simp[o,a0];refine zac (λx f σ=>∃(k:Nat) (Q:zaa),x=6-k/\k<=6/\f 3=.ptr 0 0/\f 4=.ptr 1 0/\f 2=.int .i64 now/\f 6=.ptr 2 0/\f 10=.ptr 7 0/\f 11=.int .i64 1/\f 12=.ptr 8 0/\f 13=.int .i64 60/\f 14=.int .i64 a/\f 16=.int .i64 (a+k*10:Nat)/\AccT 2 1 9 Q (f 15) (zdy (parts F a k))/\σ=.var 55 (ladC l)::H::E:: .var 55 (ladC l)::M::M:: .row 112 2 [zaf 10 F,zaf 60 l.wide] false::M:: .var 112 (zaf 10 F)::Q) 6 ?_ ?_;.exact⟨0,[],by simp,by simp,by simp[m],by simp[o],by simp[s],by simp[y],by simp[d],by simp[c],by simp,by simp,by simp,by simp,by simp[parts,zdy];exact zku,by simp[hM,j,zaf]⟩
    clear s m o y d c;rintro x f σ ⟨k,Q,hx,hk,m,o,s,y,d,c,z,J,S,T,hA,rfl⟩;have a1:IntKind.i64.wrap ((a:Int)+60)=((a+60:Nat):Int):=wE (by omega);have a2:=zr1 F a k;have ad:=zjS (parts F a k);have a3:((zdy (parts F a k)).length+1)*8<=140737488355328:=by rw[ad];omega
    have a4:(zdy (parts F a k)).length+1<=9223372036854775807:=(by rw[ad];omega);simp[J,S,T,a1, -Int.natCast_add];refine zap (λa9=> ?_) (λba=> ?_)
    .have am:k<6:=(by omega);have an:IntKind.i64.wrap (((a+k*10:Nat):Int)+10)=((a+(k+1)*10:Nat):Int):=wE (by omega);have kG:=z4V (G:=G) 10 F az al (a+k*10) (by omega);simp only[zaf]at kG;simp[z,T,zaf, -Int.natCast_add];refine zad kG ?_;cases hg:getR 10 F (a+k*10)with
     |none=>have ae:parts F a (k+1)=parts F a k:=(by simp[parts,hg]);simp[numO,numA,splice,z,T,an, -Int.natCast_add];refine nx_i ⟨k+1,Q++ [.var 182 [.bool true,.int .i64 0]],rfl,by omega,by simp[m],by simp[o],by simp[s],by simp[y],by simp[d],by simp[c],by simp[z],by simp[J],by simp[S],by simp, ?_,by simp⟩;simp only[Frame.put_some];simp;rw[ae];exact hA.more _
     |some w=>have ae:parts F a (k+1)=parts F a k++ [w]:=(by simp[parts,hg]);simp[numO,numA,splice, -Int.natCast_add];refine zri (σ:= [.var 55 (ladC l),H,E,.var 55 (ladC l),M,M,.row 112 2 [zaf 10 F,zaf 60 l.wide] false,M,.var 112 (zaf 10 F)]) (τ:=Q++ [.var 182 [.bool false,.int .i64 w]]) (hA.more _) [.int .i64 w] (by decide) rfl a3 a4 λv' τ' ax a7 _=> ?_;simp[z,T,zaf,an, -Int.natCast_add];refine nx_i ⟨k+1,τ',rfl,by omega,by simp[m],by simp[o],by simp[s],by simp[y],by simp[d],by simp[c],by simp[z],by simp[J],by simp[S],by simp, ?_,by simp⟩;simp;rw[ae,zsJ];exact ax
    .have am:k=6:=(by omega);subst am;have p:view ([.var 55 (ladC l),H,E,.var 55 (ladC l),M,M,.row 112 2 [zaf 10 F,zaf 60 l.wide] false,M,.var 112 (zaf 10 F)]++Q) (f 15)=some (zdy (parts F a 6)):=hA.view (σ:= [.var 55 (ladC l),H,E,.var 55 (ladC l),M,M,.row 112 2 [zaf 10 F,zaf 60 l.wide] false,M,.var 112 (zaf 10 F)]);simp only[ybp,yco]at p;have af:=zuE al a 6;obtain⟨L,hL⟩:∃L,L=zdy (parts F a 6):=⟨_,rfl⟩;obtain⟨n,hn⟩:∃n,n=(parts F a 6).length:=⟨_,rfl⟩;have U:L.length=n:=(by rw[hL,ad,hn]);rw[<-hL]at p;rw[<-hn]at a2;have q:=p;simp[ladC,zaf]at q;have ao:IntKind.i64.wrap ((n:Int)*1000000)=(n:Int)*1000000:=wI (by omega);have X:IntKind.i64.wrap 3000000=3000000:=(by decide);by_cases au:n<3
     .have ag:(zfQ F t).1=true:=(by unfold zfQ;rw[<-I,<-hn,if_pos au]);rw[ag,if_pos rfl]at b;by_cases D:n=0;.have ah:L= []:=yaq (by omega);simp[c,p,ah,wk2];exact nx_j 0 ⟨by simp[s],by simp[m],by simp[o],by simp[y],by simp[d],.inr ⟨rfl,by simp,l.wide,_,b,rfl⟩⟩
      .have ah:¬L= []:=λe=>D (by rw[<-U,e];rfl);have O:(n:Int)*1000000<3000000:=(by omega);have ai:n*1000000<3000000:=(by omega);simp[m,c,z,J,q,D,U,ladC,zaf,wk6,ao,X,O,wk2];exact nx_j 0 ⟨by simp[s],by simp[m],by simp[o],by simp[y],by simp[d],.inr ⟨rfl,by simp,l.wide,_,b,by simp;rfl⟩⟩
     .have ag:zfQ F t=avgN (parts F a 6):=(by unfold zfQ;rw[<-I,<-hn,if_neg au]);rw[ag]at b;have D:n≠0:=(by omega);have ah:¬L= []:=λe=>D (by rw[<-U,e];rfl);have O:¬((n:Int)*1000000<3000000):=(by omega);have ai:¬(n*1000000<3000000):=(by omega);simp[m,z,J,q,D,U,ladC,zaf,wk6,ao,X,O];have Y:Coe ([.var 55 (ladC l),H,E,.var 55 (ladC l),M,M,.row 112 2 [zaf 10 F,zaf 60 l.wide] false,M,.var 112 (zaf 10 F)]++Q) false (f 15) (.lst L):=(by rw[hL];exact hA.coe (σ:= [.var 55 (ladC l),H,E,.var 55 (ladC l),M,M,.row 112 2 [zaf 10 F,zaf 60 l.wide] false,M,.var 112 (zaf 10 F)]) false);simp[ladC,zaf]at Y;have aq:parts F a 6≠ []:=λe=>D (by rw[hn,e];rfl);have kB:=zyC (G:=G) (parts F a 6) aq (by omega) (λv hv=>(af v hv).1);rw[<-hL]at kB;refine zzo kB (.cons (.pure _ (by simp)) (.cons Y .nil)) ?_;rintro r rfl;cases hb:(avgN (parts F a 6)).1 with
      |true=>rw[hb,if_pos rfl]at b;simp[numA,hb,c,splice,wk2];exact nx_j 0 ⟨by simp[s],by simp[m],by simp[o],by simp[y],by simp[d],.inr ⟨rfl,by simp,l.wide,_,b,by simp;rfl⟩⟩
      |false=>
       rw[hb,if_neg (by simp)]at b;have a5:=zzq _ _ hb;have ar:a/60=t/60:=by rw[I];exact ydi _ (by omega)
       have a6:setR 60 l.wide a (avgN (parts F a 6)).2=setR 60 l.wide t (avgN (parts F a 6)).2:=(by unfold setR;rw[ar]);have aj:=zqF (G:=G) 60 l.wide (zpB h) h.r2 a (by omega) (avgN (parts F a 6)).2 a5.2;rw[a6]at aj;simp only[zaf]at aj;simp[numA,hb,d,c,S,hM,splice];refine zaX aj (by simp[AV.pure]) ?_;simp[splice,c,wk2];exact nx_j 0 ⟨by simp[s],by simp[m],by simp[o],by simp[y],by simp[d],.inr ⟨rfl,by simp,_,_,b,by simp[hM];rfl⟩⟩
  .simp[y,d,c,hM,Z,zaf,splice,aa,ladC,zak]
 .simp[P,m,i,u,ladC];refine zai (ztF _ l h) ?_;rintro r σ ⟨rfl,rfl⟩;have kS:=zqF (G:=G) 60 l.wide (zpB h) h.r2 t (by omega) v hv2;simp only[zaf]at kS;simp[P,o,i,j,zak,zaf,splice];refine zaX kS (by simp[AV.pure]) ?_;simp[splice,wk2,P,i];refine zac (λx f σ=>f 6=.ptr 2 0/\f 10=.ptr 7 0/\f 11=.int .i64 2/\∃(A B C:Entry),σ= [A,B,E,C,.var 55 [.int .i64 1,.int .i64 500000,.row 6 2],.var 55 [.int .i64 1,.int .i64 500000,.row 6 2],.row 112 2 [zaf 10 l.fine,zaf 60 (setR 60 l.wide t v)] false,.var 55 [.int .i64 1,.int .i64 500000,.row 6 2]]) 0 ?_ ?_;.exact⟨by simp[y],by simp,by simp,_,_,_,by simp[zaf];exact⟨rfl,rfl,rfl⟩⟩
  rintro x g σ ⟨g6,av,aw,A,B,C,rfl⟩;have b:zc4 l t now v=⟨l.fine,setR 60 l.wide t v⟩:=by unfold zc4;rw[if_neg i]
  simp[g6,av,aw,Z,zaf,splice,b]
end Go.Proofs.YtdbhocoeolhjhaaGreatDoor
namespace Go.Sf
open Go.Abs Go.Num
structure ArrM where
 time:Nat
 value:Int
 now:Nat
structure OkA (a:ArrM):Prop where
 t:a.time<=1000000000
 n:a.now<=1000000000
 le:a.time<=a.now
 ge:a.now<=a.time+79
 v:i64 a.value
def OkV (a:ArrM):Prop:=a.value≠ -9223372036854775808
def arrC (a:ArrM):List AV:= [.int .i64 a.time,.int .i64 a.value,.int .i64 a.now,.int .i64 0]
def zaO (l:List ArrM):List (List AV):=l.map arrC
theorem zcg (l:List ArrM):(zaO l).length=l.length:=by simp[zaO]
theorem znF {l:List ArrM}{i:Nat}{a:ArrM}(h:l[i]? =some a):(zaO l)[i]? =some (arrC a):=by simp[zaO,h]
theorem zfA (l:List ArrM):Els 4 (zaO l):=by refine⟨λc a=> ?_,λc a=> ?_,λc a=> ?_⟩<;>obtain⟨n,_,rfl⟩:=yar.1 a<;>simp[arrC,AV.pure,AV.one]
def zA2 (l:LadM)(a:ArrM):LadM:=zc4 l a.time a.now a.value
def zaz (l:LadM)(as':List ArrM):LadM:=as'.foldl zA2 l
theorem z2m {l:LadM}{a:ArrM}(h:RightL l)(ha:OkA a)(hv:OkV a):RightL (zA2 l a):=zvD h (by have:=ha.t;omega) ha.v hv
theorem zc5 {l:LadM}:∀{bs:List ArrM},RightL l->(∀a∈bs,OkA a/\OkV a)->RightL (zaz l bs):=λ{bs}=>by
 induction bs generalizing l with
 |nil=>intro h _;exact h
 |cons a bs d=>intro h b;exact d (z2m h (b a (by simp)).1 (b a (by simp)).2) λx c=>b x (by simp[c])
theorem zig (l:LadM)(bs:List ArrM)(a:ArrM):zaz l (bs++ [a])=zA2 (zaz l bs) a:=by simp[zaz]
end Go.Sf
namespace Go.Proofs.YtdbhocoeolhjhaaGreatDoor
open Go.Abs Go.RowKit Go.Sf Go.Num
variable {G:Globs}
theorem zyv (bs:List ArrM)(hb:∀a∈bs,OkA a/\OkV a)(hl:bs.length<=1000000):PT 16 [.agg schC,.lst (zaO bs)] (λr=>r=.agg (ladC (zaz newL bs))):=by
 refine pwP zmm ?_;have l:=zcg bs;simp[zhi,schC];refine zad z3R ?_;simp[ladC,splice];refine zac (λx f σ=>∃(i:Nat) (h:zaa),x=bs.length-i/\i<=bs.length/\f 1=.lst (zaO bs)/\f 4=.ptr 1 0/\f 5=.ptr 2 0/\f 7=.int .i64 i/\σ=.var 52 schC:: .var 55 [.int .i64 0,.int .i64 0,.nils]:: .var 55 (ladC (zaz newL (bs.take i)))::h) bs.length ?_ ?_;.exact⟨0,[],by simp,by simp,by simp,by simp,by simp,by simp,by simp[schC,ladC,zaz]⟩
 rintro x f σ ⟨i,h,u,E,j,w,d,k,rfl⟩;simp[j,k,l];refine zap (λB=> ?_) (λC=> ?_)
 .have c:i<bs.length:=by omega
  have m:=wS i (by omega);obtain⟨a,e⟩:=gE c;have y:=znF e;obtain⟨z,A⟩:=yaa.1 y;obtain⟨b,g⟩:=hb a (yad e);have o:=tS e;have D:RightL (zaz newL (bs.take i)):=zc5 zdl λx u=>hb x (yao u);have p:=zpf (G:=G) _ D a.time a.now a.value b.t b.n b.le b.ge b.v g;have q:zc4 (zaz newL (bs.take i)) a.time a.now a.value=zaz newL (bs.take (i+1)):=by rw[o,zig];rfl
  rw[q]at p;simp[j,d,k,y,arrC,splice,ladC];simp only[ladC]at p;refine zad p ?_;simp[d,k,splice,m];exact nx_j (bs.length-(i+1)) ⟨i+1,h++ [.var 91 (arrC a),.var 55 (ladC (zaz newL (bs.take (i+1))))],rfl,by omega,by simp[j],by simp[w],by simp[d],by simp,by simp[ladC,arrC]⟩
 .have s:i=bs.length:=by omega
  subst s;simp[w,d,splice,ladC]
theorem zvT (t:Nat)(h:t<=1099511627776):PT 215 [.int .i64 t] (λr=>r=.bool true):=by
 refine pwP zvs ?_;have a:(0:Int)<=t:=by omega
 have b:(t:Int)<=1099511627776:=by omega
 simp[zps,a,b]
theorem znz (t:Nat)(h:t<=1099511627776):PT 192 [.int .i64 t] (λr=>r=.bool true):=by
 refine pwP zsB ?_;have a:(0:Int)<=t:=by omega
 have b:(t:Int)<=1099511627776:=by omega
 simp[zkX,a,b]
theorem zwU (a b:Nat)(h1:1<=a)(h2:a<=86400)(h3:1<=b)(h4:b<=400):PT 214 [.int .i64 a,.int .i64 b] (λr=>r=.bool true):=by
 refine pwP zvF ?_;have c:(1:Int)<=a:=by omega
 have d:(a:Int)<=86400:=by omega
 have e:(1:Int)<=b:=by omega
 have f:(b:Int)<=400:=by omega
 have g:0<a:=by omega
 have h:0<b:=by omega
 simp[zp1,c,d,e,f]
theorem zqG (step:Nat)(l:List Slot)(hz:Sized step l)(t:Nat)(ht:t<=1099511627776):PT 216 [.agg (zaf step l),.int .i64 t] (λr=>r=.int .i64 (t/step%l.length:Nat)):=by
 refine pwP zxd ?_;obtain⟨s,u,k,v⟩:=hz;have d:=zaq l;have w:(step:Int)≠0:=by omega
 have f:step≠0:=by omega
 have x:(l.length:Int)≠0:=by omega
 have g:l.length≠0:=by omega
 have m:l≠ []:=λe=>by rw[e]at k;simp at k
 have h:t/step<=t:=yde _ _;obtain⟨q,a⟩:∃q,q=t/step:=⟨_,rfl⟩;obtain⟨p,c⟩:∃p,p=q%l.length:=⟨_,rfl⟩;rw[<-a]at h;have n:(t:Int)/(step:Int)=(q:Int):=by rw[a];rfl
 have b:(t:Int).tdiv (step:Int)=(q:Int):=by rw[ztV,a]
 have i:IntKind.i64.wrap (q:Int)=(q:Int):=wI (by omega);have j:(q:Int).tmod (l.length:Int)=(p:Int):=by rw[zbC,c]
 have o:(q:Int)%(l.length:Int)=(p:Int):=by rw[c];rfl
 rw[<-a,<-c];simp[zpp,zaf,d,f,g,b,i,j]
theorem zm6 (step:Nat)(l:List Slot)(hz:Sized step l)(h:zde step l):PT 159 [.agg (zaf step l)] (λr=>r=.bool true):=by
 refine pwP zw0 ?_;have g:=zaq l;have p:=hz;obtain⟨y,z,A,B⟩:=hz;have P:(step:Int)≠0:=by omega
 have q:step≠0:=by omega
 simp[zp0,zaf,g];refine zad (zwU step l.length y z A B) ?_;simp[g];refine zac (λx f σ=>∃(i:Nat) (n:zaa),x=l.length-i/\i<=l.length/\f 1=.ptr 0 0/\f 13=.lst (zao l)/\f 14=.int .i64 l.length/\f 15=.int .i64 i/\σ=.var 112 (zaf step l)::n) l.length ?_ ?_;.exact⟨0,[],by simp,by simp,by simp,by simp,by simp,by simp,by simp[zaf]⟩
 rintro x f σ ⟨i,n,L,M,o,a,c,b,rfl⟩;simp[c,b];refine zap (λH=> ?_) (λI=> ?_)
 .have j:i<l.length:=by omega
  have m:=wS i (by omega);obtain⟨s,w⟩:=gE j;have t:=zc0 w;obtain⟨C,D⟩:=yaa.1 t;rcases h i s w with ⟨d,e⟩|⟨k,d,e,E,O,F⟩
  .simp[a,b,zaf,t,zcP,splice,zil,d,e,m];exact nx_i ⟨i+1,n++ [.var 186 (zcP s)],rfl,by omega,by simp[o],by simp[a],by simp[c],by simp,by simp[zcP,d,e]⟩
  .have J:¬s.1= -1:=(by omega);have u:=zqG (G:=G) step l p (k*step) e;have v:k*step/step=k:=ydi _ (by omega);rw[v,E]at u;simp only[zaf]at u;simp[a,b,zaf,t,zcP,splice,zil,J];rw[d];refine zad (zvT (k*step) e) ?_;have K:((k*step:Nat):Int).tmod step=0:=(by rw[yda (by omega)];simp);simp[o,F,K,q, -Int.natCast_mul];refine zad u ?_;simp[b,m, -Int.natCast_mul];exact nx_i ⟨i+1,n++ [.var 186 (zcP s)],rfl,by omega,by simp[o],by simp[a],by simp[c],by simp,by simp[zcP,d]⟩
 .simp
theorem zmL (step:Nat)(l:List Slot)(hz:Sized step l)(h:zde step l)(t:Nat)(ht:t<=1099511627776):PT 190 [.agg (zaf step l),.int .i64 t] (λr=>r=.tup [.int .i64 (t/step*step:Nat),.int .i64 0]):=by
 refine pwP zvC ?_;simp[zoR,zaf];refine zad (zvT t ht) ?_;simp;refine zad (zm6 step l hz h) ?_;have c:=hz.s1;have d:(step:Int)≠0:=by omega
 have a:step≠0:=by omega
 have e:=yb9 t step;have b:IntKind.i64.wrap ((t/step*step:Nat):Int)=((t/step*step:Nat):Int):=wI (by omega);simp[a,zbC,zo3,b, -Int.natCast_mul, -Int.natCast_emod];rw[ydt,Int.natCast_ediv]
theorem zqU (step:Nat)(l:List Slot)(hz:Sized step l)(h:zde step l)(t:Nat)(ht:t<=1099511627776)(v:Int)(hv:v≠ -9223372036854775808):PT 191 [.agg (zaf step l),.int .i64 t,.int .i64 v] (λr=>r=.tup [.agg (zaf step (setR step l t v)),.int .i64 0]):=by
 refine pwP z1M ?_;have c:=zaq l;have n:=hz.n1;have C:=hz.n2;have y:=yb9 t step;have o:=zmL (G:=G) step l hz h t ht;have D:=hz.s1;obtain⟨a,b⟩:∃a,a=t/step*step:=⟨_,rfl⟩;have z:a/step=t/step:=by rw[b];exact ydi _ (by omega)
 rw[<-b]at o y;obtain⟨p,e⟩:∃p,p=a/step%l.length:=⟨_,rfl⟩;have g:p<l.length:=by rw[e];exact yb3 _ (by omega)
 simp[zt4,zaf];refine zad o ?_;simp[hv];refine zai (z6z (zao l) (zcN l) (by omega)) ?_;rintro r σ (⟨w,rfl,rfl⟩|⟨rfl,rfl⟩);.have:=congrArg List.length w;rw[c]at this;simp at this;rw[this]at n;simp at n
 obtain⟨s,q⟩:∃s,l[p]? =some s:=⟨l[p]'(by omega),yah (by omega)⟩;have A:=zc0 q;obtain⟨u,f⟩:=yaa.1 A;have d:(zao l).set p [.int .i64 (a:Int),.int .i64 v]=zao (setR step l t v):=by rw[e,z,setR,<-zt1,b];rfl
 have i:(zao l).length=(zao (setR step l t v)).length:=by rw[zaq,zaq,zcR]
 simp[splice];have k:a/step%l.length=p:=e.symm;have m:=zqG (G:=G) step l hz a (by omega);rw[k]at m;simp only[zaf]at m;refine zBQ m (.cons (.agg _ [.int .i64 step,.lst (zao l)] rfl (by simp[AV.one]) (λj x B=> ?_)) (.cons (.pure _ (by simp)) .nil)) (by simp) ?_
 .match j,x with
  |0,_=>exact .pure _ (by simp)
  |1,_=>exact .row 2 _ 186 2 (zao l) false rfl rfl (.inr ⟨rfl,(zcN l).2.1⟩)
 simp[splice,f,zcP,c,g,d];rw[<-c,i];simp[zg4]
theorem zB9 (step:Nat)(l:List Slot)(hz:Sized step l)(h:zde step l)(t:Nat)(ht:t<=1099511627776):PT 244 [.agg (zaf step l),.int .i64 t] (λr=>r=numA (numO (getR step l t))):=by
 have q:=zaq l;have w:=hz.n1;have u:=yb9 t step;have g:=zmL (G:=G) step l hz h t ht;have x:=hz.s1;obtain⟨a,b⟩:∃a,a=t/step*step:=⟨_,rfl⟩;have i:a/step=t/step:=by rw[b];exact ydi _ (by omega)
 rw[<-b]at g u;obtain⟨p,c⟩:∃p,p=a/step%l.length:=⟨_,rfl⟩;have v:p<l.length:=by rw[c];exact yb3 _ (by omega)
 have d:=zqG (G:=G) step l hz a (by omega);rw[<-c]at d;obtain⟨s,f⟩:∃s,l[p]? =some s:=⟨l[p]'(by omega),yah (by omega)⟩;have e:=zc0 f;obtain⟨n,o⟩:=yaa.1 e;have j:getR step l t=if s.1=(a:Int)then some s.2 else none:=by unfold getR;rw[<-i,<-c,f];simp only;rw[i,<-b]
 have k:PT 281 [.agg (zaf step l),.int .i64 a] (λr=>r=numA (numO (getR step l t))):=by
  refine pwP zx2 ?_;simp[zpu,zaf];simp only[zaf]at d;refine zb3 d ?_;by_cases m:s.1=(a:Int);.simp[e,zcP,splice,m,j,numO,numA]
  .simp[e,zcP,splice,m,j,numO,numA]
 refine pwP z1W ?_;simp[ztw,zaf];refine zad g ?_;simp;simp only[zaf]at k;refine zad k ?_;simp[numA,splice]
theorem znR (a b:Nat)(h1:1<=a)(h2:a<=86400)(h3:1<=b)(h4:b<=400):PT 217 [.agg [.int .i64 a,.int .i64 b]] (λr=>r=.bool true):=by
 refine pwP zmI ?_;have c:(1:Int)<=a:=by omega
 have d:(a:Int)<=86400:=by omega
 have e:(1:Int)<=b:=by omega
 have f:(b:Int)<=400:=by omega
 have g:0<a:=by omega
 have h:0<b:=by omega
 simp[zgW,c,d,e,f]
theorem zrE (a b:Nat)(h1:1<=a)(h2:a<=86400)(h3:1<=b)(h4:b<=400):PT 257 [.agg [.int .i64 a,.int .i64 b]] (λr=>r=.int .i64 (a*b:Nat)):=by
 refine pwP zoF ?_;have d:a*b<=86400*400:=yer h2 h4;have c:IntKind.i64.wrap ((a:Int)*b)=((a*b:Nat):Int):=by
  have e:(a:Int)*b=((a*b:Nat):Int):=by rw[ydt]
  rw[e];exact wI (by omega)
 simp[zhX];refine zad (znR a b h1 h2 h3 h4) ?_;simp[c]
theorem zxR:PT 218 [.agg [.int .i64 10,.int .i64 6],.agg [.int .i64 60,.int .i64 5]] (λr=>r=.bool true):=by refine pwP zlM ?_;simp[zg1];refine zb3 (zrE 60 5 (by omega) (by omega) (by omega) (by omega)) ?_;simp;refine zb3 (zrE 10 6 (by omega) (by omega) (by omega) (by omega)) ?_;simp[wk6]
theorem zkd:PT 161 [.lst rungsC] (λr=>r=.bool true):=by
 refine pwP zkG ?_;simp[zfX,rungsC];refine zac (λx f σ=>∃(i:Nat) (g:zaa),x=2-i/\i<=2/\f 0=.lst rungsC/\f 13=.lst rungsC/\f 14=.int .i64 2/\f 15=.int .i64 i/\((i=0/\σ= [])∨(0<i/\σ=.var 119 [.int .i64 10,.int .i64 6]::g))) 2 ?_ ?_;.exact⟨0,[],by simp,by simp,by simp[rungsC],by simp[rungsC],by simp,by simp,.inl ⟨rfl,by simp⟩⟩
 rintro x f σ ⟨i,g,h,j,d,c,a,b,⟨rfl,rfl⟩|⟨k,rfl⟩⟩;.simp[c,a,b,rungsC];refine zb3 (znR 10 6 (by omega) (by omega) (by omega) (by omega)) ?_;simp[b,wk1];exact nx_i ⟨1,[],rfl,by omega,by simp[d,rungsC],by simp[c,rungsC],by simp[a],by simp,.inr ⟨by omega,by simp⟩⟩
 .have e:i=1∨i=2:=by omega
  rcases e with rfl|rfl;.simp[c,a,b,rungsC,splice];refine zb3 (znR 60 5 (by omega) (by omega) (by omega) (by omega)) ?_;simp[d,wk0,rungsC];refine zb3 zxR ?_;simp[b,wk2];exact nx_i ⟨2,_,rfl,by omega,by simp[d,rungsC],by simp[c,rungsC],by simp[a],by simp,.inr ⟨by omega,rfl⟩⟩
  .simp[a,b]
theorem zyj:PT 158 [.int .i64 1,.int .i64 500000] (λr=>r=.bool true):=by refine pwP zwc ?_;simp[zp2]
theorem zuF (step:Nat)(l:List Slot):PT 160 [.agg (zaf step l)] (λr=>r=.agg [.int .i64 step,.int .i64 l.length]):=by refine pwP zux ?_;simp[znl,zaf,splice,zaq]
theorem z3e (step:Nat)(l:List Slot)(hz:Sized step l):PT 243 [.agg (zaf step l)] (λr=>r=.int .i64 (step*l.length:Nat)):=by refine pwP zsl ?_;simp[zkP,zaf];refine zad (zuF step l) ?_;simp;refine zad (zrE step l.length hz.s1 hz.s2 hz.n1 hz.n2) ?_;simp
theorem zlA (step:Nat)(l:List Slot)(hz:Sized step l)(t now:Nat)(ht:t<=1099511627776)(hn:now<=1099511627776):PT 195 [.agg (zaf step l),.int .i64 t,.int .i64 now] (λr=>r=.bool (decide (now<t/step*step+step*l.length))):=by
 refine pwP zpN ?_;have kR:=z3e (G:=G) step l hz;obtain⟨h,e,i,f⟩:=hz;have j:(step:Int)≠0:=by omega
 have a:step≠0:=by omega
 have k:step*l.length<=86400*400:=yer e f;have m:=yb9 t step;simp[ziR,zaf,a];simp only[zaf]at kR;refine zb3 kR ?_;obtain⟨A,d⟩:∃A,A=t/step*step:=⟨_,rfl⟩;obtain⟨B,g⟩:∃B,B=step*l.length:=⟨_,rfl⟩;have b:IntKind.i64.wrap ((t:Int)-(t:Int).tmod step)=(A:Int):=by rw[zbC,zo3,d];exact wI (by omega)
 have c:IntKind.i64.wrap ((now:Int)-B)=(now:Int)-B:=wI (by omega);rw[<-d,<-g];simp[b,c];omega
theorem zvZ (l:LadM)(h:RightL l):PT 91 [.agg (ladC l)] (λr=>r=.bool true):=by
 refine pwP zse ?_;simp[zkQ,ladC,zak];refine zad zyj ?_;simp;have k:=h.n1;have m:=h.n2;refine zac (λx f σ=>∃(i:Nat),x=2-i/\i<=2/\f 1=.ptr 0 0/\f 19=.lst (zak l)/\f 20=.int .i64 2/\f 21=.int .i64 i/\((i=0/\f 3=.nils/\σ= [.var 55 (ladC l)])∨(i=1/\f 3=.row 2 1/\∃e,σ= [.var 55 (ladC l),e,.row 119 2 (rungsC.take 1) true])∨(i=2/\f 3=.row 2 2/\∃e j,σ= [.var 55 (ladC l),e,.row 119 2 rungsC true,j]))) 2 ?_ ?_;.exact⟨0,by simp,by simp,by simp,by simp[zak],by simp,by simp,.inl ⟨rfl,by simp,by simp[ladC,zak]⟩⟩
 rintro x f σ ⟨i,n,o,g,c,a,b,⟨rfl,d,rfl⟩|⟨rfl,d,e,rfl⟩|⟨rfl,d,e,j,rfl⟩⟩;.simp[c,a,b,zak,zaf];refine zad (zm6 10 l.fine (zsq h) h.r1) ?_;simp[d];refine zad (zuF 10 l.fine) ?_;simp[k];refine zf6 true [[.int .i64 10,.int .i64 6]] (by simp[view]) (by decide) (by simp) (λ_=> .inl (by simp[zgp])) (by simp) (by simp) ?_;simp[b,wk1];exact nx_i ⟨1,rfl,by omega,by simp[g],by simp[c,zak,zaf],by simp[a],by simp,.inr (.inl ⟨rfl,by simp,_,by simp[rungsC];rfl⟩)⟩
 .simp[c,a,b,zak,zaf];refine zad (zm6 60 l.wide (zpB h) h.r2) ?_;simp[d];refine zad (zuF 60 l.wide) ?_;simp[m];refine zbJ [[.int .i64 10,.int .i64 6]] [[.int .i64 60,.int .i64 5]] true (by simp[rungsC]) (by simp[view]) (by decide) (by simp) (λ_=> .inl (by simp[zgp])) rfl (by simp) (by simp) ?_;simp[b,wk2];exact nx_i ⟨2,rfl,by omega,by simp[g],by simp[c,zak,zaf],by simp[a],by simp,.inr (.inr ⟨rfl,by simp,e,_,by simp[rungsC];rfl⟩)⟩
 .simp[d,a,b];refine zzo zkd (.cons (.row 2 2 119 2 rungsC true (by simp) rfl (.inl rfl)) .nil) ?_;rintro r rfl;simp
theorem zDh (v:Int)(h:i64 v)(hv:v≠ -9223372036854775808):PT 288 [.int .i64 v] (λr=>r=numA (tell v)):=by
 refine pwP z2A ?_;have a:¬(v< -9223372036854775807):=by have:=h.1;omega
 have b:tell v=(false,v):=by unfold tell most;rw[if_pos ⟨by have:=h.1;omega,by have:=h.2;omega⟩]
 simp[zti,a,b,numA,splice]
theorem zCl (l:List Int)(hl:l.length<=1000)(hv:∀v∈l,i64 v/\v≠ -9223372036854775808):PT 283 [.lst (zdy l)] (λr=>r=numA (sumF l)):=by
 refine pwP zvn ?_;have g:=zjS l;have y:PT 284 [.int .i64 0] (λr=>r=.agg (numC (tell 0))):=by have:=z5I (G:=G) 0 (by omega) (by omega);exact this
 simp[zoP];refine zad y ?_;simp[numC,splice];refine zac (λx f σ=>∃(i:Nat),x=l.length-i/\i<=l.length/\f 2=.ptr 0 0/\f 3=.ptr 1 0/\f 7=.lst (zdy l)/\f 8=.int .i64 l.length/\f 9=.int .i64 i/\σ= [.var 182 [.bool false,.int .i64 0],.var 182 (numC (sumF (l.take i)))]) l.length ?_ ?_;.exact⟨0,by simp,by simp,by simp,by simp,by simp,by simp[g],by simp,by simp[numC,sumF]⟩
 rintro x f σ ⟨i,z,A,m,d,n,o,e,rfl⟩;simp[o,e];refine zap (λu=> ?_) (λw=> ?_)
 .have b:i<l.length:=by omega
  have h:=wS i (by omega);obtain⟨v,a⟩:=gE b;have p:=zej a;obtain⟨s,t⟩:=yaa.1 p;have c:=hv v (yad a);have j:=tS a;have qv:PT 288 [.int .i64 v] (λr=>r=.agg (numC (tell v))):=zDh v c.1 c.2;have q:PT 317 [.agg (numC (sumF (l.take i))),.agg (numC (tell v))] (λr=>r=.agg (numC (sumF (l.take (i+1))))):=by rw[j,zgB];exact zBk _ _ (ze5 _) (za9 v)
  simp only[numC]at q qv;simp[d,n,e,p,numC];refine zb3 qv ?_;simp;refine zb3 q ?_;simp[d,e,h,splice];exact nx_i ⟨i+1,rfl,by omega,by simp[m],by simp[d],by simp[n],by simp[o],by simp⟩
 .have k:i=l.length:=by omega
  subst k;rw[yav];simp[m,d,numC,numA,splice]
theorem z2X (l:List Int)(h0:l≠ [])(hl:l.length<=1000)(hv:∀v∈l,i64 v/\v≠ -9223372036854775808):PT 245 [.int .i64 1,.lst (zdy l)] (λr=>r=numA (avgN l)):=by
 refine pwP zsh ?_;have a:=zjS l;have c:0<l.length:=ycw.2 h0;have i:¬((l.length:Int)=0):=by omega
 have b:l.length≠0:=by omega
 have d:zdy l≠ []:=λe=>by rw[e]at a;simp at a;omega
 simp[zlf,a,b];have f:=zCl (G:=G) l hl hv;have g:=zA9 (G:=G) (sumF l) (tell (l.length*1000000)) (ze5 _) (za9 _);have h:=z5I (G:=G) l.length (by omega) (by omega);simp only[numA]at f g h;refine zad f ?_;simp;refine zad h ?_;simp;refine zad g ?_;simp[splice,numA];exact⟨rfl,rfl⟩
theorem z1j (l:LadM)(F:List Slot)(hz:Sized 10 F)(h:zde 10 F)(T0:Nat)(ht:T0<=1000000000):PT 197 [.agg (ladC l),.agg (zaf 10 F),.int .i64 T0,.int .i64 60] (λr=>r=numA (if(parts F T0 6).length<3 then(true,0)else avgN (parts F T0 6))):=by
 refine pwP zpI ?_;simp[ziV,ladC,zaf,wk6];refine zac (λx f σ=>∃(k:Nat) (i:zaa),x=6-k/\k<=6/\f 2=.int .i64 T0/\f 4=.ptr 0 0/\f 5=.ptr 1 0/\f 8=.ptr 2 0/\f 10=.int .i64 6/\f 17=.int .i64 6/\f 18=.int .i64 k/\AccT 2 1 3 i (f 9) (zdy (parts F T0 k))/\σ=.var 55 (ladC l):: .var 112 (zaf 10 F):: .var 182 [.bool false,.int .i64 0]::i) 6 ?_ ?_;.exact⟨0,[],by simp,by simp,by simp,by simp,by simp,by simp,by simp,by simp,by simp,by simp[parts,zdy];exact zku,by simp[ladC,zaf]⟩
 rintro x f σ ⟨k,i,hx,hk,E,B,H,C,d,m,g,I,rfl⟩;have K:=zr1 F T0 k;have o:=zjS (parts F T0 k);simp[m,g];refine zap (λaa=> ?_) (λab=> ?_)
 .have u:k<6:=by omega
  have M:((zdy (parts F T0 k)).length+1)*8<=140737488355328:=by rw[o];omega
  have O:(zdy (parts F T0 k)).length+1<=9223372036854775807:=by rw[o];omega
  have v:=wS k (by omega);have Q:IntKind.i64.wrap ((k:Int)*10)=((k*10:Nat):Int):=wE (by omega);have R:IntKind.i64.wrap ((T0:Int)+((k*10:Nat):Int))=((T0+k*10:Nat):Int):=wE (by omega);have Y:=zB9 (G:=G) 10 F hz h (T0+k*10) (by omega);simp only[zaf]at Y;simp[E,H,g,zaf,Q,R, -Int.natCast_add, -Int.natCast_mul];refine zad Y ?_;cases hg:getR 10 F (T0+k*10)with
  |none=>have p:parts F T0 (k+1)=parts F T0 k:=(by simp[parts,hg]);simp[numO,numA,splice,g,v];refine nx_i ⟨k+1,i++ [.var 182 [.bool true,.int .i64 0]],rfl,by omega,by simp[E],by simp[B],by simp[H],by simp[C],by simp[d],by simp[m],by simp, ?_,by simp⟩;simp;rw[p];exact I.more _
  |some w=>have p:parts F T0 (k+1)=parts F T0 k++ [w]:=(by simp[parts,hg]);simp[numO,numA,splice];refine zri (σ:= [.var 55 (ladC l),.var 112 (zaf 10 F),.var 182 [.bool false,.int .i64 0]]) (τ:=i++ [.var 182 [.bool false,.int .i64 w]]) (I.more _) [.int .i64 w] (by decide) rfl M O λv' τ' J X _=> ?_;simp[g,v];refine nx_i ⟨k+1,τ',rfl,by omega,by simp[E],by simp[B],by simp[H],by simp[C],by simp[d],by simp[m],by simp, ?_,by simp[zaf]⟩;simp;rw[p,zsJ];exact J
 .have u:k=6:=by omega
  subst u;obtain⟨P,W⟩:∃P:zaa,P= [.var 55 (ladC l),.var 112 (zaf 10 F),.var 182 [.bool false,.int .i64 0]]:=⟨_,rfl⟩;have S:P.length=3:=by rw[W];rfl
  have y:AccT 2 1 P.length i (f 9) (zdy (parts F T0 6)):=by rw[S];exact I
  have a:view (P++i) (f 9)=some (zdy (parts F T0 6)):=y.view;have b:Coe (P++i) false (f 9) (.lst (zdy (parts F T0 6))):=y.coe false;rw[W]at a b;simp only[ybp,yco]at a b;have q:=zuE h T0 6;obtain⟨L,D⟩:∃L,L=zdy (parts F T0 6):=⟨_,rfl⟩;obtain⟨n,t⟩:∃n,n=(parts F T0 6).length:=⟨_,rfl⟩;have T:L.length=n:=by rw[D,o,t]
  rw[<-D]at a b;rw[<-t]at K;have U:IntKind.i64.wrap ((n:Int)*1000000)=(n:Int)*1000000:=wI (by omega);have j:IntKind.i64.wrap 3000000=3000000:=by decide
  simp[a,T,U];rw[<-t];by_cases A:n<3;.have c:(n:Int)*1000000<3000000:=(by omega);have s:n*1000000<3000000:=(by omega);simp[B,C,d,ladC,j,c,A,splice,numA]
  .have c:¬((n:Int)*1000000<3000000):=(by omega);have s:¬(n*1000000<3000000):=(by omega);have z:parts F T0 6≠ []:=λe=>by rw[e]at t;simp at t;omega
   have Z:=z2X (G:=G) (parts F T0 6) z (by omega) q;rw[<-D]at Z;simp only[ladC]at b;simp[B,d,ladC,j,c];refine zzo Z (.cons (.pure _ (by simp)) (.cons b .nil)) ?_;rintro r rfl;simp[C,A,splice,numA]
theorem zrK (step:Nat)(l:List Slot)(hz:Sized step l)(t now:Nat)(v:Int)(ht:t<=1099511627776)(hn:now<=1099511627776):PT 194 [.agg (zaf step l),.rptr [.int .i64 t,.int .i64 v],.rptr [.int .i64 now]] (λr=>r=.bool (decide (now<t/step*step+step*l.length))):=by refine pwP zo9 ?_;simp[zhN,zaf];have k:=zlA (G:=G) step l hz t now ht hn;simp only[zaf]at k;refine zad k ?_;simp
def z02 (t now:Nat)(c:List AV):Bool:=match c with
 | .int _ s::_=>if s=10 then decide (now<t/10*10+60)else decide (now<t/60*60+300)
 |_=>false
theorem zwm (σ:zaa)(m k:Nat)(l:LadM):((zak l).mapM λ(c:List AV)=>c.mapM (fz σ m k))=some (zak l):=zfV (zk9 l).2.1 (λc a=>by simp only[zak,ybe,yd9,or_false]at a;rcases a with rfl|rfl<;>simp[zaf])
theorem zoI (l:LadM)(h:RightL l)(t now:Nat)(v:Int)(ht:t<=1000000000)(hn:now<=1000000000)(h1:t<=now)(h2:now<=t+79)(hv:i64 v)(hv2:v≠ -9223372036854775808):PT 127 [.agg (ladC l),.agg [.int .i64 t,.int .i64 v],.int .i64 now] (λr=>r=.tup [.agg (ladC (zc4 l t now v)),.int .i64 0]):=by
 refine pwP zjG ?_;have k1:¬((now:Int)<t):=by omega
 have ag:¬(now<t):=by omega
 have w:=zlA (G:=G) 10 l.fine (zsq h) t now (by omega) (by omega);have q:=zlA (G:=G) 60 l.wide (zpB h) t now (by omega) (by omega);have P:now<t/60*60+300:=by have:=ycq t 60;have:=yb3 t (show 0<60 by omega);omega
 rw[h.n2,decide_eq_true (show now<t/60*60+60*5 from P)]at q;rw[h.n1]at w;simp[zgG,ladC];refine zad (znz t (by omega)) ?_;simp;refine zad (znz now (by omega)) ?_;simp[hv2];refine zad (zvZ l h) ?_;simp[k1];have kI:=z84 (G:=G) (zak l) (zk9 l) (by simp[zak]) (z02 t now) 194 [.rptr [.int .i64 t,.int .i64 v],.rptr [.int .i64 now]] (by simp[AV.pure]) zo2 (λc E=>by
  simp only[zak,ybe,yd9,or_false]at E;rcases E with rfl|rfl
  .have:=zrK (G:=G) 10 l.fine (zsq h) t now v (by omega) (by omega);rw[h.n1]at this;exact this
  .have:=zrK (G:=G) 60 l.wide (zpB h) t now v (by omega) (by omega);rw[h.n2]at this;exact this)
 refine z6c kI (.cons (.pure _ (by simp[AV.pure,zak,zaf])) (.cons (.fn _ _ _ _ _ rfl rfl (λj h=>by simp at h) (λj h1 h2=> ?_)) .nil)) ?_
 .match j,h1 with
  |0,_=>
   refine .ptr 1 0 117 [.int .i64 t,.int .i64 v] [.int .i64 t,.int .i64 v] (by simp) rfl (by simp) rfl (λj h h'=> .pure _ ?_) (by simp[AV.one])
   match j,h with
   |0,_=>simp[AV.pure]
   |1,_=>simp[AV.pure]
  |1,_=>
   refine .ptr 2 0 3 [.int .i64 now] [.int .i64 now] (by simp) rfl (by simp) rfl (λj h h'=> .pure _ ?_) (by simp[AV.one])
   match j,h with
   |0,_=>simp[AV.pure]
 rintro r rfl;refine⟨by simp[rig], ?_⟩;obtain⟨H,W⟩:∃H:Entry,H=.var 117 [.int .i64 t,.int .i64 v]:=⟨_,rfl⟩;obtain⟨I,g⟩:∃I:Entry,I=.var 3 [.int .i64 now]:=⟨_,rfl⟩;obtain⟨J,K⟩:∃J:Entry,J=.var 55 [.int .i64 0,.int .i64 0,.nils]:=⟨_,rfl⟩;have Q:idxE (z02 t now) (zak l)=((if now<t/10*10+60 then 0 else 1:Nat):Int):=by
  by_cases p:now<t/10*10+60;.simp[zak,zaf,idxE,z02,p]
  .simp[zak,zaf,idxE,z02,p,P]
 rw[Q];obtain⟨i,m⟩:∃i:Nat,i=if now<t/10*10+60 then 0 else 1:=⟨_,rfl⟩;rw[<-m];have R:¬((i:Int)<0):=by omega
 simp[R];refine zai (zA8 (zak l) (zk9 l) (by simp[zak])) ?_;rintro r σ (⟨h0,rfl,rfl⟩|⟨rfl,rfl⟩);.simp[zak]at h0
 simp;refine zac (λx f σ=>f 3=.ptr 0 0/\f 4=.ptr 1 0/\f 5=.ptr 2 0/\f 6=.ptr 3 0/\f 8=.int .i64 i/\f 9=.row 4 2/\f 10=.int .i64 t/\((x=2-i/\f 12=.int .i64 i/\f 11=.int .i64 v/\σ= [.var 55 (ladC l),H,I,J,.row 112 2 (zak l) false])∨ (i=0/\x=1/\f 12=.int .i64 1/\f 11=.int .i64 v/\∃O,σ=.var 55 (ladC l)::H::I::J:: .row 112 2 (zak ⟨setR 10 l.fine t v,l.wide⟩) false::O)∨ (x=0/\f 12=.int .i64 2/\∃O,σ=.var 55 (ladC l)::H::I::J:: .row 112 2 (zak (zc4 l t now v)) false::O))) (2-i) ?_ ?_;.exact⟨by simp,by simp,by simp,by simp,by simp,by simp[zak],by simp,.inl ⟨rfl,by simp,by simp,by simp[W,g,K,ladC]⟩⟩
 rintro x f σ ⟨D,T,B,M,C,k,b,⟨rfl,a,u,rfl⟩|⟨X,rfl,a,u,O,rfl⟩|⟨rfl,a,O,rfl⟩⟩
 .by_cases p:now<t/10*10+60;.rw[if_pos p]at m;subst m;rw[decide_eq_true p]at w;simp[k,a,b,B,g,zak,zaf];simp only[zaf]at w;refine zb3 w ?_;have y:=zqU (G:=G) 10 l.fine (zsq h) h.r1 t (by omega) v hv2;simp only[zaf]at y;simp[C,k,b,u,a];refine zad y ?_;simp[k,a,wk1,splice];exact nx_j 1 ⟨by simp[D],by simp[T],by simp[B],by simp[M],by simp[C],by simp[k],by simp[b],.inr (.inl ⟨rfl,rfl,by simp,by simp[u],_,by simp[g];rfl⟩)⟩
  .rw[if_neg p]at m;subst m;have d:zc4 l t now v=⟨l.fine,setR 60 l.wide t v⟩:=by unfold zc4;rw[if_neg p]
   simp[k,a,b,B,g,zak,zaf];simp only[zaf]at q;refine zb3 q ?_;have y:=zqU (G:=G) 60 l.wide (zpB h) h.r2 t (by omega) v hv2;simp only[zaf]at y;simp[C,k,b,u,a];refine zad y ?_;simp[k,a,wk2,splice];exact nx_j 0 ⟨by simp[D],by simp[T],by simp[B],by simp[M],by simp[C],by simp[k],by simp[b],.inr (.inr ⟨rfl,by simp,_,by simp[g,d];rfl⟩)⟩
 .subst X;have p:now<t/10*10+60:=by refine Classical.byContradiction λp=> ?_;rw[if_neg p]at m;omega
  obtain⟨F,S⟩:∃F,F=setR 10 l.fine t v:=⟨_,rfl⟩;have Y:zde 10 F:=by rw[S];exact zff h.r1 (by omega) hv hv2
  have Z:Sized 10 F:=by rw[S];exact⟨by omega,by omega,by rw[zcR,h.n1];omega,by rw[zcR,h.n1];omega⟩
  obtain⟨z,A⟩:∃z,z=t/60*60:=⟨_,rfl⟩;have af:z<=t:=by rw[A];exact yb9 t 60
  have d:zc4 l t now v=if(zfQ F t).1 then⟨F,l.wide⟩else⟨F,setR 60 l.wide t (zfQ F t).2⟩:=by unfold zc4;rw[if_pos p,<-S]
  have aa:IntKind.i64.wrap ((t:Int)-(t:Int).tmod 60)=(z:Int):=by have e:(t:Int).tmod 60=((t%60:Nat):Int):=zbC t 60;rw[e,zo3,A];exact wI (by omega)
  have U:=z1j (G:=G) l F Z Y z (by omega);have ab:(if(parts F z 6).length<3 then(true,0)else avgN (parts F z 6))=zfQ F t:=by unfold zfQ;rw[A]
  rw[ab]at U;rw[<-S];obtain⟨n,L⟩:∃n,n=zfQ F t:=⟨_,rfl⟩;rw[<-L]at U d;simp[k,a,b,B,g,zak,zaf];simp only[zaf]at q;refine zb3 q ?_;simp only[zaf,ladC,zak,numA]at U;simp[D,C,k,b,a,wk0,ladC,zak,zaf,aa];refine zb3 U ?_;by_cases s:n.1=true;.rw[if_pos s]at d;simp[s,a,wk2,splice];exact nx_j 0 ⟨by simp[D],by simp[T],by simp[B],by simp[M],by simp[C],by simp[k],by simp[b],.inr (.inr ⟨rfl,by simp,_,by simp[g,d];rfl⟩)⟩
  .rw[if_neg s]at d;have ad:i64 n.2/\n.2≠ -9223372036854775808:=by
    have o:n.1=false:=(by simpa using s);rw[L]at o⊢;unfold zfQ at o⊢;split;.rename_i E;rw[if_pos E]at o;cases o
    .rename_i E;rw[if_neg E]at o;exact zzq _ _ o
   have y:=zqU (G:=G) 60 l.wide (zpB h) h.r2 t (by omega) n.2 ad.2;simp only[zaf]at y;simp[s,k,b,a,splice];refine zad y ?_;simp[k,a,wk2,splice];exact nx_j 0 ⟨by simp[D],by simp[T],by simp[B],by simp[M],by simp[C],by simp[k],by simp[b],.inr (.inr ⟨rfl,by simp,_,by simp[g,d];rfl⟩)⟩
 .have ae:∀x,(zak x).length=2:=λ_=>rfl;simp[D,M,k,a,ladC,K,splice,ae,zwm]
end Go.Proofs.YtdbhocoeolhjhaaGreatDoor
