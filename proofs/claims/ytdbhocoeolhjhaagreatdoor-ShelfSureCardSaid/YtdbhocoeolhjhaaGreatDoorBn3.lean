/- Numbers: the functions of fixed and wide. Numbers: a quotient of 128 bits. Numbers: quotients of wide, and of fixed. Numbers: the document's numbers o -/
import Derived.Test.YtdbhocoeolhjhaaGreatDoorCode
import Derived.Test.YtdbhocoeolhjhaaGreatDoorShelf
import Derived.Test.YtdbhocoeolhjhaaGreatDoorAbs2
import Derived.Lib.ItoaNum
import Derived.Test.YtdbhocoeolhjhaaGreatDoorBn1
import Derived.Test.YtdbhocoeolhjhaaGreatDoorBn2
set_option linter.unusedSimpArgs false
set_option linter.unusedVariables false
set_option linter.constructorNameAsVariable false
section
set_option maxHeartbeats 1000000
namespace Go.Num
open Go.Abs
def numA (n:N):AV:=.agg [.bool n.1,.int .i64 n.2]
def wA (n:Nat):AV:=.agg [.int .u64 ((n/18446744073709551616:Nat):Int),.int .u64 ((n%18446744073709551616:Nat):Int)]
def okN (n:N):Prop:= -9223372036854775808≤n.2/\n.2≤9223372036854775807
theorem zbd (x:Int):IntKind.u64.wrap x=x%18446744073709551616:=by simp[IntKind.wrap,IntKind.signed,IntKind.bits]
theorem zdM {x:Int}(h1: -9223372036854775808≤x)(h2:x≤9223372036854775807):IntKind.i64.wrap x=x:=wrap_i64 h1 h2
theorem za9 (s:Int):okN (tell s):=by
 unfold tell okN
 split
 ·rename_i h;simp only[most]at h;simp only;omega
 ·simp[zbL]
theorem zmZ:okN zbL:=by simp[okN,zbL]
theorem zA1 (a b:N):okN (addN a b):=by
 unfold addN;split
 ·exact za9 _
 ·exact zmZ
theorem z7g {a b:N}(ha:okN a)(hb:okN b):okN (zqU a b):=by
 unfold zqU;repeat' split
 all_goals first|exact ha|exact hb|exact zmZ
theorem z7K {a b:N}(ha:okN a)(hb:okN b):okN (zqF a b):=by
 unfold zqF;repeat' split
 all_goals first|exact ha|exact hb|exact zmZ
theorem zy0 (a:Nat)(h:a<18446744073709551616):zbQ .and .u64 (a:Int) 4294967295=some ((a%4294967296:Nat):Int):=by
 have e:(BitVec.ofInt 64 (a:Int)&&&BitVec.ofInt 64 4294967295).toNat=a%4294967296:=by
  rw[BitVec.toNat_and,zyD a h,show(BitVec.ofInt 64 4294967295).toNat=2^32-1 by decide,Nat.and_two_pow_sub_one_eq_mod]
 show some (IntKind.u64.wrap ((BitVec.ofInt 64 (a:Int)&&&BitVec.ofInt 64 4294967295).toNat:Int))=_
 rw[e,zib _ (by omega)]
theorem z8W {hi lo y s:Nat}(hhi:hi<y)(hy:y*2^s<18446744073709551616)(hs:s≤63)(hlo:lo<18446744073709551616):(hi*2^s%18446744073709551616|||lo/2^(64-s))=hi*2^s+lo/2^(64-s):=by
 have a:hi*2^s<18446744073709551616:=ycs (yat _ (yd4 hhi)) hy
 rw[ybj a]
 have b:lo/2^(64-s)<2^s:=by
  rw[ycn (yc7 _),<-yeq,show s+(64-s)=64 by omega];exact hlo
 have:=ycx b hi
 rw[ybp (2^s) hi]at this
 exact this.symm
theorem zwd {y:Nat}(h0:0<y)(h:y<18446744073709551616):∃s:Nat,s≤63/\Lib.bitLen y=64-s/\9223372036854775808≤y*2^s/\y*2^s<18446744073709551616:=by
 obtain⟨c,a,b⟩:=Lib.bitLenAux_bounds 64 y (by simpa using h) (by omega)
 have d:Lib.bitLen y≤64:=Lib.bitLen_le y 64 (by decide) (by simpa using h)
 change 1≤Lib.bitLen y at c
 change 2^(Lib.bitLen y-1)≤y at a
 change y<2^Lib.bitLen y at b
 refine⟨64-Lib.bitLen y,by omega,by omega, ?_, ?_⟩
 ·have e:2^(Lib.bitLen y-1)*2^(64-Lib.bitLen y)=9223372036854775808:=by
   rw[<-yeq,show Lib.bitLen y-1+(64-Lib.bitLen y)=63 by omega]
  rw[<-e];exact yat _ a
 ·have e:2^Lib.bitLen y*2^(64-Lib.bitLen y)=18446744073709551616:=by
   rw[<-yeq,show Lib.bitLen y+(64-Lib.bitLen y)=64 by omega]
  rw[<-e];exact Nat.mul_lt_mul_of_pos_right b (yc7 _)
end Go.Num
namespace Go.Proofs.YtdbhocoeolhjhaaGreatDoor
open Go.Abs Go.Num
variable {G:Globs}
theorem zoN (n:N):PCalls Tryz.prog ztv [numA n] (λr=>r=.bool (good n)):=by
 refine zaa hmix zsG rfl ?_
 obtain⟨b,v⟩:=n
 cases b<;>simp[zmd,numA,good,most]
theorem zc4:PCalls Tryz.prog zpC [] (λr=>r=numA zbL):=by
 refine zaa hmix zpJ rfl ?_
 simp[ziP,numA,zbL]
theorem z3c (n:N)(h: -9223372036854775807≤n.2)(h2:n.2≤9223372036854775807):PCalls Tryz.prog zvN [numA n] (λr=>r=.tup [.int .u64 n.2.natAbs,.bool (decide (n.2<0))]):=by
 refine zaa hmix zvc rfl ?_
 obtain⟨b,v⟩:=n
 simp only at h h2
 simp[znE,numA]
 refine zaq (λc=> ?_) (λd=> ?_)
 ·have e:IntKind.i64.wrap (-v)= -v:=zdM (by omega) (by omega)
  have a:IntKind.u64.wrap (-v)= -v:=by rw[zbd];omega
  simp[e,a,c]
  omega
 ·have a:IntKind.u64.wrap v=v:=by rw[zbd];omega
  have f:¬v<0:=by omega
  simp[a,f]
  omega
theorem z84 (n:Nat)(hn:n<18446744073709551616)(b:Bool):PCalls Tryz.prog zub [.int .u64 n,.bool b] (λr=>r=numA (tell (sgn b n))):=by
 refine zaa hmix zvw rfl ?_
 simp[znM]
 refine zaq (λd=> ?_) (λe=> ?_)
 ·simp
  refine zac zc4 (by simp) ?_
  rintro r rfl
  have:tell (sgn b n)=zbL:=by
   unfold tell sgn most
   cases b<;>simp<;>omega
  simp[this,numA]
 ·have c:IntKind.i64.wrap (n:Int)=n:=zdM (by omega) (by omega)
  have a:IntKind.i64.wrap (-(n:Int))= -n:=zdM (by omega) (by omega)
  cases b
  ·have:tell (sgn false n)=(false,(n:Int)):=by
    unfold tell sgn most;simp;omega
   simp[c,this,numA]
  ·have:tell (sgn true n)=(false, -(n:Int)):=by
    unfold tell sgn most;simp;omega
   simp[c,a,this,numA]
theorem z1G (n:Int)(h0: -9223372036854775808≤n)(h1:n≤9223372036854775807):PCalls Tryz.prog zpm [.int .i64 n] (λr=>r=numA (tell (n*1000000))):=by
 refine zaa hmix zx4 rfl ?_
 by_cases g:9223372036854<n∨n< -9223372036854
 ·have a:tell (n*1000000)=zbL:=by unfold tell most;rw[if_neg];omega
  have e:(decide (9223372036854<n)||decide (n< -9223372036854))=true:=by simpa using g
  rcases Decidable.em (9223372036854<n)with h|h
  ·simp[zia,h]
   refine zac zc4 (by simp) ?_
   rintro r rfl
   simp[a,numA]
  ·have b:n< -9223372036854:=by omega
   simp[zia,h,b]
   refine zac zc4 (by simp) ?_
   rintro r rfl
   simp[a,numA]
 ·have c:¬9223372036854<n:=by omega
  have d:¬n< -9223372036854:=by omega
  have a:tell (n*1000000)=(false,n*1000000):=by unfold tell most;rw[if_pos];omega
  have f:IntKind.i64.wrap (n*1000000)=n*1000000:=zdM (by omega) (by omega)
  simp[zia,c,d,f,a,numA]
theorem z8s (a b:N)(ha:okN a)(hb:okN b):PCalls Tryz.prog zpy [numA a,numA b] (λr=>r=numA (addN a b)):=by
 refine zaa hmix zwt rfl ?_
 obtain⟨p,q⟩:=ha
 obtain⟨s,t⟩:=hb
 simp[zpY,numA]
 refine zac (zoN a) (by simp[numA]) ?_
 rintro r rfl
 by_cases g:good a=true
 ·simp[g]
  refine zac (zoN b) (by simp[numA]) ?_
  rintro r rfl
  by_cases j:good b=true
  ·obtain⟨x,v⟩:=a
   obtain⟨y,u⟩:=b
   simp only at p q s t
   obtain⟨n,w⟩:=zf1.1 g
   obtain⟨o,z⟩:=zf1.1 j
   simp only[most]at n w o z
   subst n o
   have e:addN (false,v) (false,u)=tell (v+u):=by simp[addN,g,j]
   rw[e]
   simp[j]
   by_cases h:0<u
   ·have m:IntKind.i64.wrap (9223372036854775807-u)=9223372036854775807-u:=zdM (by omega) (by omega)
    have c:¬u<0:=by omega
    by_cases i:9223372036854775807-u<v
    ·have d:tell (v+u)=zbL:=by unfold tell most;rw[if_neg];omega
     simp[h,m,i,d]
     refine zac zc4 (by simp) ?_
     rintro r rfl
     simp[numA,d]
    ·have d:tell (v+u)=(false,v+u):=by unfold tell most;rw[if_pos];omega
     have f:IntKind.i64.wrap (v+u)=v+u:=zdM (by omega) (by omega)
     simp[h,c,m,i,d,f]
   ·by_cases c:u<0
    ·have m:IntKind.i64.wrap (-9223372036854775807-u)= -9223372036854775807-u:=zdM (by omega) (by omega)
     by_cases i:v< -9223372036854775807-u
     ·have d:tell (v+u)=zbL:=by unfold tell most;rw[if_neg];omega
      simp[h,c,m,i,d]
      refine zac zc4 (by simp) ?_
      rintro r rfl
      simp[numA,d]
     ·have d:tell (v+u)=(false,v+u):=by unfold tell most;rw[if_pos];omega
      have f:IntKind.i64.wrap (v+u)=v+u:=zdM (by omega) (by omega)
      simp[h,c,m,i,d,f]
    ·have d:tell (v+u)=(false,v+u):=by unfold tell most;rw[if_pos];omega
     have f:IntKind.i64.wrap (v+u)=v+u:=zdM (by omega) (by omega)
     simp[h,c,d,f]
  ·have k:good b=false:=by simpa using j
   simp[k]
   refine zac zc4 (by simp) ?_
   rintro r rfl
   simp[addN,g,k,numA]
 ·have l:good a=false:=by simpa using g
  simp[l]
  refine zac zc4 (by simp) ?_
  rintro r rfl
  simp[addN,l,numA]
theorem zy5 (x y:Nat)(hx:x<18446744073709551616)(hy:y<18446744073709551616):PCalls Tryz.prog 312 [.int .u64 x,.int .u64 y] (λr=>r=.tup [.int .u64 ((x*y/18446744073709551616:Nat):Int),.int .u64 ((x*y%18446744073709551616:Nat):Int)]):=
 zpN λa κ i w v u k b c=>by
  cases b.int_inv;cases c.int_inv
  refine(Tryz.bits_Mul64 x y hx hy w).mono ?_
  rintro e h ⟨rfl,rfl⟩
  exact⟨_,_,rfl,rfl,Go.RowKit.Below.refl _ _,λd=> .tup _ [_,_] rfl λj f g=>by
   match j,f with
   |0,_=>exact .int _ _
   |1,_=>exact .int _ _⟩
theorem z8p (x y:Nat)(hx:x<18446744073709551616)(hy:y<18446744073709551616):PCalls Tryz.prog z00 [.int .u64 x,.int .u64 y] (λr=>r=wA (x*y)):=by
 refine zaa hmix zzm rfl ?_
 simp[zrv]
 refine zac (zy5 x y hx hy) (by simp) ?_
 rintro r rfl
 simp[wA]
end Go.Proofs.YtdbhocoeolhjhaaGreatDoor
end
section
set_option maxHeartbeats 4000000
namespace Go.Proofs.YtdbhocoeolhjhaaGreatDoor
open Go.Abs Go.Num
variable {G:Globs}
theorem z7z (y s:Nat)(hy:y<18446744073709551616)(hs:s≤63)(hb:Lib.bitLen y=64-s):PCalls Tryz.prog 351 [.int .u64 y] (λr=>r=.int .i64 s):=
 z1q λa κ f w v g b=>by
  cases b.int_inv
  refine(Tryz.bits_LeadingZeros64 y w (by omega) (by omega)).mono ?_
  rintro e d ⟨rfl,rfl⟩
  refine⟨_,_,rfl,rfl,Go.RowKit.Below.refl _ _,λc=> ?_⟩
  have e:(64-(Lib.bitLen (y:Int).toNat:Int))=s:=by rw[ydk,hb];omega
  rw[e]
  exact .int _ _
theorem z8H (n a:Nat)(hn:n<18446744073709551616):IntKind.u64.wrap ((n:Int)/a)=((n/a:Nat):Int):=by
 have c:n/a≤n:=yc8 _ _
 have b:((n/a:Nat):Int)=(n:Int)/a:=Int.natCast_ediv n a
 rw[zbd,<-b]
 generalize n/a=k at*
 omega
theorem zAb (n a:Nat):(n:Int)%a=((n%a:Nat):Int):=(Int.natCast_emod n a).symm
theorem zAc {u a q r v B b Y:Nat}(hB:B=4294967296)(ha:a<B)(hq:q≤B+1)(hr:r<B)(hv:v<B)(hb:b<B)(hqa:q*a+r=u)(huM:u<18446744073709551616):(q:Int)*a%18446744073709551616=q*a/\(B:Int)*r%18446744073709551616=B*r/\((B:Int)*r+v)%18446744073709551616=B*r+v:=by
 have c:((q*a:Nat):Int)=(q:Int)*a:=by push_cast;rfl
 have d:((B*r:Nat):Int)=(B:Int)*r:=by push_cast;rfl
 have e:B*r≤B*(B-1):=ycv B (by omega)
 subst hB
 rw[<-c,<-d]
 omega
theorem z6y (hi lo y:Nat)(hhi:hi<y)(hyM:y<18446744073709551616)(hlo:lo<18446744073709551616):
  PCalls Tryz.prog zmL [.int .u64 hi,.int .u64 lo,.int .u64 y] (λr=>r=.tup [.int .u64 (((hi*18446744073709551616+lo)/y:Nat):Int),.int .u64 (((hi*18446744073709551616+lo)%y:Nat):Int)]):=by
 obtain⟨Q,hQ⟩:∃Q,Q=(hi*18446744073709551616+lo)/y:=⟨_,rfl⟩
 obtain⟨R,hR⟩:∃R,R=(hi*18446744073709551616+lo)%y:=⟨_,rfl⟩
 rw[<-hQ,<-hR]
 refine zaa hmix znh rfl ?_
 have a7:¬(y:Int)=0:=by omega
 have ak:¬y=0:=by omega
 have a8:¬(y:Int)≤hi:=by omega
 have al:¬y≤hi:=by omega
 by_cases h0:hi=0
 ·subst h0
  have e1:IntKind.u64.wrap ((lo:Int)/y)=Q:=by rw[z8H lo y hlo,hQ,Nat.zero_mul,ybh]
  have e2:(lo:Int).tmod y=R:=by rw[yc2 (by omega),zAb,hR,Nat.zero_mul,ybh]
  simp[ze9,a7,ak,a8,al,e1,e2]
 have bp:¬(hi:Int)=0:=by omega
 obtain⟨s,hs,bk,bl,U⟩:=zwd (y:=y) (by omega) hyM
 obtain⟨Y,E⟩:∃Y,Y=y*2^s:=⟨_,rfl⟩
 obtain⟨B,K⟩:∃B:Nat,B=4294967296:=⟨_,rfl⟩
 rw[<-E]at bl U
 have H:IntKind.u64.wrap (s:Int)=s:=by rw[zbd];omega
 have s2:zax .shl .u64 (y:Int) s=some (Y:Int):=by rw[ziK y s (by omega),E,ybj (by rw[<-E];exact U)]
 obtain⟨a,ha⟩:∃a,a=Y/4294967296:=⟨_,rfl⟩
 obtain⟨b,hb⟩:∃b,b=Y%4294967296:=⟨_,rfl⟩
 have s9:zax .shr .u64 (Y:Int) 32=some (a:Int):=by rw[zgl Y 32 U (by decide),ha]
 have bq:zbQ .and .u64 (Y:Int) 4294967295=some (b:Int):=by rw[zy0 Y U,hb]
 obtain⟨uh,ar⟩:∃uh,uh=hi*2^s%18446744073709551616:=⟨_,rfl⟩
 obtain⟨ul,ai⟩:∃ul,ul=lo/2^(64-s):=⟨_,rfl⟩
 obtain⟨u,hu⟩:∃u,u=hi*2^s+lo/2^(64-s):=⟨_,rfl⟩
 have a9:=z8W (lo:=lo) hhi (by rw[<-E];exact U) hs hlo
 rw[<-ar,<-ai]at a9
 have ba:u<Y:=by
  rw[hu,E]
  have h1:lo/2^(64-s)<2^s:=by
   rw[ycn (yc7 _),<-yeq,show s+(64-s)=64 by omega];exact hlo
  have h2:(hi+1)*2^s≤y*2^s:=yat _ hhi
  rw[ya8]at h2;omega
 have bb:ul<18446744073709551616:=by rw[ai];exact ycs (yc8 _ _) hlo
 have bc:uh<18446744073709551616:=by rw[ar];exact ybz _ (by decide)
 have br:zax .shl .u64 (hi:Int) s=some (uh:Int):=by rw[ziK hi s (by omega),ar]
 have bs:IntKind.u64.wrap (64-(s:Int))=((64-s:Nat):Int):=by rw[zbd];omega
 have bu:zax .shr .u64 (lo:Int) (64-s)=some (ul:Int):=by rw[zgl lo (64-s) hlo (by omega),ai]
 have bw:zbQ .or .u64 (uh:Int) (ul:Int)=some (u:Int):=by rw[zl1 uh ul bc bb,a9,ai,hu]
 obtain⟨u10,W⟩:∃u10,u10=lo*2^s%18446744073709551616:=⟨_,rfl⟩
 have ab:u10<18446744073709551616:=by rw[W];exact ybz _ (by decide)
 have bx:zax .shl .u64 (lo:Int) s=some (u10:Int):=by rw[ziK lo s (by omega),W]
 obtain⟨F,a1⟩:∃F,F=u10/4294967296:=⟨_,rfl⟩
 obtain⟨C,a2⟩:∃C,C=u10%4294967296:=⟨_,rfl⟩
 have bz:zax .shr .u64 (u10:Int) 32=some (F:Int):=by rw[zgl u10 32 ab (by decide),a1]
 have b0:zbQ .and .u64 (u10:Int) 4294967295=some (C:Int):=by rw[zy0 u10 ab,a2]
 have bd:a<B:=by omega
 have O:b<B:=by omega
 have ad:F<B:=by omega
 have ae:C<B:=by omega
 have b5:B≤2*a:=by omega
 have c:a*B+b=Y:=by rw[ha,hb,K];omega
 have aj:0<a:=by omega
 have am:¬(a:Int)=0:=by omega
 have an:¬a=0:=by omega
 have I:0<a*B+b:=by omega
 -- a digit's first S
 have S:∀n:Nat,n<Y->∃q r:Nat,IntKind.u64.wrap ((n:Int)/a)=q/\IntKind.u64.wrap ((n:Int)-IntKind.u64.wrap ((q:Int)*a))=r/\q*a+r=n/\r<B/\q≤B+1/\n/a≤q:=by
  intro n hn
  refine⟨n/a,n%a, ?_, ?_, ?_, ?_, ?_,yap _⟩
  ·exact z8H n a (by omega)
  ·have e:((n/a*a:Nat):Int)=((n/a:Nat):Int)*a:=by push_cast;rfl
   rw[zbd,zbd,<-e]
   have:=ycl n a
   rw[ybp]at this
   omega
  ·rw[ybp];exact ycl n a
  ·have:=ybz n aj;omega
  ·exact z6p (b:=b) b5 O (by rw[c];exact hn)
 simp[ze9,a7,ak,a8,al,h0,bp]
 refine zac (z7z y s hyM hs bk) (by simp) ?_
 rintro r rfl
 obtain⟨q0,r0,g1,g2,g3,g4,g5,g6⟩:=S u ba
 have b6:=ycm (zyv (b:=b) (u:=u) (v:=F) aj ad) g6
 simp[-zax, -zbQ,H,s2,s9,bq,br,bs,bu,bw,bx,bz,b0,aj,am,an,g1,g2,ydk]
 -- the first digit
 refine z04 0 (λf σ=>∃q:Nat,f 15=.int .u64 q/\q=(u*B+F)/Y/\f 2=.int .u64 Y/\f 8=.int .u64 s/\f 9=.int .u64 a/\f 10=.int .u64 b/\f 11=.int .u64 u/\f 13=.int .u64 F/\f 14=.int .u64 C/\σ= []) ?_ ?_
 ·rintro f σ ⟨q1,l,a5,m,o,t,d,w,z,i,rfl⟩
  obtain⟨u21,L⟩:∃u21,u21=(u*B+F)%Y:=⟨_,rfl⟩
  have af:0<Y:=by omega
  have ao:u21<Y:=by rw[L];exact ybz _ af
  have be:=ycl (u*B+F) Y
  rw[<-a5,<-L]at be
  obtain⟨p1,a3⟩:∃p1,p1=Y*q1:=⟨_,rfl⟩
  have bf:(q1:Int)*Y=p1:=by rw[a3,ybp];push_cast;rfl
  have b7:IntKind.u64.wrap (IntKind.u64.wrap (IntKind.u64.wrap ((u:Int)*4294967296)+F)-IntKind.u64.wrap ((q1:Int)*Y))=u21:=by
   rw[bf]
   simp only[zbd]
   rw[<-a3]at be
   subst K
   omega
  obtain⟨q2,r2,e1,e2,e3,e4,e5,e6⟩:=S u21 ao
  have b8:=ycm (zyv (b:=b) (u:=u21) (v:=C) aj ae) e6
  simp[-zax, -zbQ,m,o,t,d,w,z,i,l,b7,am,an,e1,e2]
  refine z04 2 (λf σ=>∃q:Nat,f 18=.int .u64 q/\q=(u21*B+C)/Y/\f 2=.int .u64 Y/\f 8=.int .u64 s/\f 10=.int .u64 b/\f 14=.int .u64 C/\f 9=.int .u64 a/\f 15=.int .u64 q1/\f 17=.int .u64 u21/\σ= []) ?_ ?_
  ·clear m o t d w z i l
   rintro f σ ⟨q3,bn,a6,m,o,d,i,t,l,D,rfl⟩
   obtain⟨j1,j2⟩:=zzg (hi:=hi) (lo:=lo) (y:=y) (M:=18446744073709551616) (B:=B) (P:=2^s) (R:=2^(64-s)) (by rw[<-yeq,show 64-s+s=64 by omega]) (by rw[K]) (yc7 _) (by omega) (u32:=u) (u10:=u10) (h:=u*B+F) (q1:=q1) (u21:=u21) (g:=u21*B+C) hu W (by rw[a1,K]) (by rw[a5,E]) (by rw[L,E]) (by rw[a2,K])
   rw[<-E,<-a6,<-hQ]at j1
   obtain⟨gm,au⟩:∃gm,gm=(u21*B+C)%Y:=⟨_,rfl⟩
   rw[<-E,<-au,<-hR]at j2
   have ca:Q<18446744073709551616:=by
    rw[hQ,ycn (by omega)]
    have:(hi+1)*18446744073709551616≤y*18446744073709551616:=yat _ hhi
    rw[ybp 18446744073709551616 y];omega
   have k6:IntKind.u64.wrap (IntKind.u64.wrap ((q1:Int)*4294967296)+q3)=Q:=by
    simp only[zbd]
    subst K
    omega
   have b9:gm<Y:=by rw[au];exact ybz _ af
   have aq:=ycl (u21*B+C) Y
   rw[<-a6,<-au]at aq
   obtain⟨p3,a4⟩:∃p3,p3=Y*q3:=⟨_,rfl⟩
   have bg:(q3:Int)*Y=p3:=by rw[a4,ybp];push_cast;rfl
   have bh:IntKind.u64.wrap (IntKind.u64.wrap (IntKind.u64.wrap ((u21:Int)*4294967296)+C)-IntKind.u64.wrap ((q3:Int)*Y))=gm:=by
    rw[bg]
    simp only[zbd]
    rw[<-a4]at aq
    subst K
    omega
   have bi:zax .shr .u64 (gm:Int) s=some (R:Int):=by rw[zgl gm s (by omega) (by omega),j2]
   simp[-zax, -zbQ,m,o,t,d,i,l,D,bn,k6,bh,bi]
  ·-- its loop
   refine zag (λx f σ=>∃q r:Nat,x=q/\f 18=.int .u64 q/\f 16=.int .u64 r/\(u21*B+C)/Y≤q/\q*a+r=u21/\r<B/\q≤B+1/\f 2=.int .u64 Y/\f 8=.int .u64 s/\f 10=.int .u64 b/\f 14=.int .u64 C/\f 9=.int .u64 a/\f 15=.int .u64 q1/\f 17=.int .u64 u21/\σ= []) q2 ?_ ?_
   ·exact⟨q2,r2,rfl,by simp,by simp,by rw[<-c];exact b8,e3,e4,e5,by simp[m],by simp[o],by simp[d],by simp[i],by simp[t],by simp[l],by simp,rfl⟩
   rintro x f σ ⟨q,r,bo,fq,fr,aa,G,hr,av,m,o,d,i,t,l,D,rfl⟩
   obtain⟨m1,m2,m3⟩:=zAc (Y:=Y) K bd av hr ae O G (by omega)
   rw[<-c]at aa
   obtain⟨T,bm⟩:∃T,T=r+a:=⟨_,rfl⟩
   have ag:IntKind.u64.wrap ((r:Int)+a)=(T:Int):=by rw[zbd];omega
   have aw:IntKind.u64.wrap (4294967296*(r:Int))=4294967296*r:=by rw[zbd];omega
   have ah:IntKind.u64.wrap (4294967296*(r:Int)+C)=4294967296*r+C:=by rw[zbd];omega
   have J:B≤q∨B*r+C<q*b->1≤q/\(u21*B+C)/(a*B+b)≤q-1/\(q-1)*a+T=u21/\IntKind.u64.wrap ((q:Int)-1)=((q-1:Nat):Int):=by
    intro h
    have hn:=z2I (v:=C) I (by rw[c];exact ao) ae G h
    have ax:1≤q:=ycs (ydp _) hn
    refine⟨ax,Nat.le_sub_one_of_lt hn, ?_,by rw[zbd];omega⟩
    obtain⟨k,rfl⟩:∃k,q=k+1:=⟨q-1,by omega⟩
    rw[ya8]at G
    simp only[Nat.add_sub_cancel];omega
   by_cases a0:B≤q
   ·obtain⟨b1,X,Z,b4⟩:=J (.inl a0)
    have A:(4294967296:Int)≤q:=by omega
    have j:4294967296≤q:=by omega
    simp[fq,fr,m,o,d,i,t,l,D,A,j,b4,ag]
    refine zaq (λh=> ?_) (λh=> ?_)
    ·simp
     refine zg3 ⟨q-1,by simp, ?_,by simp[m],by simp[o],by simp[d],by simp[i],by simp[t],by simp[l],by simp[D],rfl⟩
     rw[<-c]
     exact zoC I X Z (by omega) (by omega) O
    ·simp
     refine zad (q-1) (by omega) ⟨q-1,T,rfl,by simp,by simp,by rw[<-c];exact X,Z,by omega,by omega,by simp[m],by simp[o],by simp[d],by simp[i],by simp[t],by simp[l],by simp[D],rfl⟩
   ·have A:¬(4294967296:Int)≤q:=by omega
    have j:¬4294967296≤q:=by omega
    have bj:q*b<18446744073709551616:=by
     have h1:q*b≤(B-1)*(B-1):=yej (by omega) (by omega)
     subst K;omega
    obtain⟨p,hp⟩:∃p,p=q*b:=⟨_,rfl⟩
    have ay:(q:Int)*b=p:=by rw[hp];push_cast;rfl
    have az:IntKind.u64.wrap ((q:Int)*b)=p:=by rw[ay,zbd];omega
    simp[fq,fr,m,o,d,i,t,l,D,A,j,az,aw,ah]
    refine zaq (λh=> ?_) (λh=> ?_)
    ·have h':B*r+C<q*b:=by rw[<-hp,K];omega
     obtain⟨b1,X,Z,b4⟩:=J (.inr h')
     simp[fq,fr,m,o,d,i,t,l,D,b4,ag]
     refine zaq (λh=> ?_) (λh=> ?_)
     ·simp
      refine zg3 ⟨q-1,by simp, ?_,by simp[m],by simp[o],by simp[d],by simp[i],by simp[t],by simp[l],by simp[D],rfl⟩
      rw[<-c]
      exact zoC I X Z (by omega) (by omega) O
     ·simp
      refine zad (q-1) (by omega) ⟨q-1,T,rfl,by simp,by simp,by rw[<-c];exact X,Z,by omega,by omega,by simp[m],by simp[o],by simp[d],by simp[i],by simp[t],by simp[l],by simp[D],rfl⟩
    ·simp
     refine zg3 ⟨q,by simp[fq], ?_,by simp[m],by simp[o],by simp[d],by simp[i],by simp[t],by simp[l],by simp[D],rfl⟩
     rw[<-c]
     exact zwr I aa G (by rw[<-hp,K];omega)
 ·-- its loop
  refine zag (λx f σ=>∃q r:Nat,x=q/\f 15=.int .u64 q/\f 16=.int .u64 r/\(u*B+F)/Y≤q/\q*a+r=u/\r<B/\q≤B+1/\f 2=.int .u64 Y/\f 8=.int .u64 s/\f 9=.int .u64 a/\f 10=.int .u64 b/\f 11=.int .u64 u/\f 13=.int .u64 F/\f 14=.int .u64 C/\σ= []) q0 ?_ ?_
  ·exact⟨q0,r0,rfl,by simp,by simp,by rw[<-c];exact b6,g3,g4,g5,by simp[H],by simp[H],by simp[H],by simp[H],by simp[H],by simp[H],by simp[H],rfl⟩
  rintro x f σ ⟨q,r,bo,fq,fr,aa,G,hr,av,m,o,t,d,w,z,i,rfl⟩
  obtain⟨m1,m2,m3⟩:=zAc (Y:=Y) K bd av hr ad O G (by omega)
  rw[<-c]at aa
  obtain⟨T,bm⟩:∃T,T=r+a:=⟨_,rfl⟩
  have ag:IntKind.u64.wrap ((r:Int)+a)=(T:Int):=by rw[zbd];omega
  have aw:IntKind.u64.wrap (4294967296*(r:Int))=4294967296*r:=by rw[zbd];omega
  have ah:IntKind.u64.wrap (4294967296*(r:Int)+F)=4294967296*r+F:=by rw[zbd];omega
  have J:B≤q∨B*r+F<q*b->1≤q/\(u*B+F)/(a*B+b)≤q-1/\(q-1)*a+T=u/\IntKind.u64.wrap ((q:Int)-1)=((q-1:Nat):Int):=by
   intro h
   have hn:=z2I (v:=F) I (by rw[c];exact ba) ad G h
   have ax:1≤q:=ycs (ydp _) hn
   refine⟨ax,Nat.le_sub_one_of_lt hn, ?_,by rw[zbd];omega⟩
   obtain⟨k,rfl⟩:∃k,q=k+1:=⟨q-1,by omega⟩
   rw[ya8]at G
   simp only[Nat.add_sub_cancel];omega
  by_cases a0:B≤q
  ·obtain⟨b1,X,Z,b4⟩:=J (.inl a0)
   have A:(4294967296:Int)≤q:=by omega
   have j:4294967296≤q:=by omega
   simp[fq,fr,m,o,t,d,w,z,i,A,j,b4,ag]
   refine zaq (λh=> ?_) (λh=> ?_)
   ·simp
    refine zg3 ⟨q-1,by simp, ?_,by simp[m],by simp[o],by simp[t],by simp[d],by simp[w],by simp[z],by simp[i],rfl⟩
    rw[<-c]
    exact zoC I X Z (by omega) (by omega) O
   ·simp
    refine zad (q-1) (by omega) ⟨q-1,T,rfl,by simp,by simp,by rw[<-c];exact X,Z,by omega,by omega,by simp[m],by simp[o],by simp[t],by simp[d],by simp[w],by simp[z],by simp[i],rfl⟩
  ·have A:¬(4294967296:Int)≤q:=by omega
   have j:¬4294967296≤q:=by omega
   have bj:q*b<18446744073709551616:=by
    have h1:q*b≤(B-1)*(B-1):=yej (by omega) (by omega)
    subst K;omega
   obtain⟨p,hp⟩:∃p,p=q*b:=⟨_,rfl⟩
   have ay:(q:Int)*b=p:=by rw[hp];push_cast;rfl
   have az:IntKind.u64.wrap ((q:Int)*b)=p:=by rw[ay,zbd];omega
   simp[fq,fr,m,o,t,d,w,z,i,A,j,az,aw,ah]
   refine zaq (λh=> ?_) (λh=> ?_)
   ·have h':B*r+F<q*b:=by rw[<-hp,K];omega
    obtain⟨b1,X,Z,b4⟩:=J (.inr h')
    simp[fq,fr,m,o,t,d,w,z,i,b4,ag]
    refine zaq (λh=> ?_) (λh=> ?_)
    ·simp
     refine zg3 ⟨q-1,by simp, ?_,by simp[m],by simp[o],by simp[t],by simp[d],by simp[w],by simp[z],by simp[i],rfl⟩
     rw[<-c]
     exact zoC I X Z (by omega) (by omega) O
    ·simp
     refine zad (q-1) (by omega) ⟨q-1,T,rfl,by simp,by simp,by rw[<-c];exact X,Z,by omega,by omega,by simp[m],by simp[o],by simp[t],by simp[d],by simp[w],by simp[z],by simp[i],rfl⟩
   ·simp
    refine zg3 ⟨q,by simp[fq], ?_,by simp[m],by simp[o],by simp[t],by simp[d],by simp[w],by simp[z],by simp[i],rfl⟩
    rw[<-c]
    exact zwr I aa G (by rw[<-hp,K];omega)
end Go.Proofs.YtdbhocoeolhjhaaGreatDoor
end
section
set_option maxHeartbeats 2000000
namespace Go.Num
open Go.Abs
theorem zdl {hi lo n:Nat}(h1:hi=n/18446744073709551616)(h2:lo=n%18446744073709551616):wA n=.agg [.int .u64 (hi:Int),.int .u64 (lo:Int)]:=by subst h1 h2;rfl
end Go.Num
namespace Go.Proofs.YtdbhocoeolhjhaaGreatDoor
open Go.Abs Go.Num
variable {G:Globs}
theorem z83 (a b:Nat)(ha:a<340282366920938463463374607431768211456)(hb:b<340282366920938463463374607431768211456):
  PCalls Tryz.prog z0n [wA a,wA b] (λr=>r=.tup [wA ((a+b)%340282366920938463463374607431768211456),.bool (decide (340282366920938463463374607431768211456≤a+b))]):=by
 obtain⟨d,h⟩:∃x,x=a/18446744073709551616:=⟨_,rfl⟩
 obtain⟨e,i⟩:∃x,x=a%18446744073709551616:=⟨_,rfl⟩
 obtain⟨f,j⟩:∃x,x=b/18446744073709551616:=⟨_,rfl⟩
 obtain⟨g,k⟩:∃x,x=b%18446744073709551616:=⟨_,rfl⟩
 rw[zdl h i,zdl j k]
 obtain⟨o,q⟩:∃x,x=(e+g)%18446744073709551616:=⟨_,rfl⟩
 obtain⟨c,s⟩:∃x,x=(e+g)/18446744073709551616:=⟨_,rfl⟩
 obtain⟨p,t⟩:∃x,x=(d+f+c)%18446744073709551616:=⟨_,rfl⟩
 obtain⟨l,u⟩:∃x,x=(d+f+c)/18446744073709551616:=⟨_,rfl⟩
 rw[zdl (hi:=p) (lo:=o) (n:=(a+b)%340282366920938463463374607431768211456) (by omega) (by omega)]
 have v:((e:Int)+g)%18446744073709551616=o:=by omega
 have w:((e:Int)+g)/18446744073709551616=c:=by omega
 have y:((d:Int)+f+c)%18446744073709551616=p:=by omega
 have z:((d:Int)+f+c)/18446744073709551616=l:=by omega
 have A:(c:Int)≤1:=by omega
 have m:c≤1:=by omega
 have B:decide (l=1)=decide (340282366920938463463374607431768211456≤a+b):=by
  congr 1;apply propext;omega
 have C:decide ((l:Int)=1)=decide (340282366920938463463374607431768211456≤a+b):=by
  congr 1;apply propext;omega
 refine zaa hmix z0g rfl ?_
 simp[zry,v,w,y,z,A,m,B,C]
 try omega
theorem z2U (a d:Nat)(ha:a<340282366920938463463374607431768211456)(hd:d<18446744073709551616):
  PCalls Tryz.prog zzj [wA a,.int .u64 d] (λr=>r=if d=0 then .tup [wA 0,.int .u64 0,.int .i64 1]else .tup [wA (a/d),.int .u64 ((a%d:Nat):Int),.int .i64 0]):=by
 refine zaa hmix zzl rfl ?_
 by_cases q:d=0
 ·subst q
  simp[znp,wA]
 obtain⟨f,m⟩:∃x,x=a/18446744073709551616:=⟨_,rfl⟩
 obtain⟨k,n⟩:∃x,x=a%18446744073709551616:=⟨_,rfl⟩
 rw[zdl m n]
 have o:¬(d:Int)=0:=by omega
 obtain⟨s,i⟩:∃x,x=f/d:=⟨_,rfl⟩
 obtain⟨j,b⟩:∃x,x=f%d:=⟨_,rfl⟩
 have z:IntKind.u64.wrap ((f:Int)/d)=s:=by rw[z8H f d (by omega),i]
 have A:(f:Int).tmod d=j:=by rw[yc2 (by omega),zAb,b]
 have c:j<d:=by rw[b];exact ybz _ (by omega)
 obtain⟨t,u⟩:=zrE (y:=d) (h:=f) (l:=k) (B:=18446744073709551616) (by omega)
 have e:f*18446744073709551616+k=a:=by omega
 rw[e,<-i,<-b]at t
 rw[e,<-b]at u
 obtain⟨v,g⟩:∃x,x=(j*18446744073709551616+k)/d:=⟨_,rfl⟩
 have w:v<18446744073709551616:=by
  rw[g,ycn (by omega)]
  have:(j+1)*18446744073709551616≤d*18446744073709551616:=yat _ c
  rw[ybp 18446744073709551616 d];omega
 rw[<-g]at t
 have p:wA (a/d)=.agg [.int .u64 (s:Int),.int .u64 (v:Int)]:=zdl (by omega) (by omega)
 rw[if_neg q,p,u]
 simp[znp,q,o,z,A]
 refine zac (z6y j k d c hd (by omega)) (by simp) ?_
 rw[<-g]
 rintro r rfl
 simp
theorem z3C (a d:Nat)(ha:a<340282366920938463463374607431768211456)(hd:d<18446744073709551616):
  PCalls Tryz.prog zuJ [wA a,.int .u64 d] (λr=>r=if d=0 then .tup [.int .u64 0,.int .i64 1]else if rnd a d<18446744073709551616 then .tup [.int .u64 ((rnd a d:Nat):Int),.int .i64 0]else .tup [.int .u64 0,.int .i64 3]):=by
 refine zaa hmix zu4 rfl ?_
 have g:wA a=.agg [.int .u64 ((a/18446744073709551616:Nat):Int),.int .u64 ((a%18446744073709551616:Nat):Int)]:=rfl
 by_cases w:d=0
 ·subst w
  rw[g]
  simp[zjc]
  refine zac (z2U a 0 ha (by decide)) (by simp[wA]) ?_
  rintro r rfl
  simp[wA]
 rw[if_neg w]
 rw[g]
 simp[zjc]
 refine zac (z2U a d ha hd) (by simp[wA]) ?_
 rw[if_neg w]
 obtain⟨q,j⟩:∃x,x=a/d:=⟨_,rfl⟩
 obtain⟨m,k⟩:∃x,x=a%d:=⟨_,rfl⟩
 have B:m<d:=by rw[k];exact ybz _ (by omega)
 rw[<-j,<-k]
 rintro r rfl
 have i:rnd a d=q+(if d-m≤m then 1 else 0):=by rw[rnd,<-j,<-k]
 rw[i]
 have C:wA q=.agg [.int .u64 ((q/18446744073709551616:Nat):Int),.int .u64 ((q%18446744073709551616:Nat):Int)]:=rfl
 have b:IntKind.u64.wrap ((d:Int)-m)=((d-m:Nat):Int):=by rw[zbd];omega
 obtain⟨D,l⟩:∃x,x=d-m:=⟨_,rfl⟩
 rw[<-l]at b
 have s:q<340282366920938463463374607431768211456:=by rw[j];exact ycs (yc8 _ _) ha
 obtain⟨E,c⟩:∃x,x=q/18446744073709551616:=⟨_,rfl⟩
 obtain⟨z,f⟩:∃x,x=q%18446744073709551616:=⟨_,rfl⟩
 rw[zdl c f]
 simp[b]
 refine zaq (λh=> ?_) (λh=> ?_)
 ·have t:d-m≤m:=by omega
  have u:q+1<340282366920938463463374607431768211456:=by
   have v:2≤d:=by omega
   have:a/d≤a/2:=Nat.div_le_div_left v (by decide)
   omega
  simp
  have y:=z83 (G:=G) q 1 s (by decide)
  rw[zdl c f,show wA 1=.agg [.int .u64 0,.int .u64 1] from rfl]at y
  refine zac y (by simp) ?_
  rintro r rfl
  rw[ybj u,if_pos t]
  obtain⟨F,n⟩:∃x,x=(q+1)/18446744073709551616:=⟨_,rfl⟩
  obtain⟨A,o⟩:∃x,x=(q+1)%18446744073709551616:=⟨_,rfl⟩
  rw[zdl n o]
  simp
  refine zaq (λp=> ?_) (λp=> ?_)
  ·have:¬q+1<18446744073709551616:=by omega
   rw[if_neg this];simp
  ·have:q+1<18446744073709551616:=by omega
   have e:A=q+1:=by omega
   rw[if_pos this];simp[e]
 ·have t:¬d-m≤m:=by omega
  rw[if_neg t,ycd]
  simp
  refine zaq (λp=> ?_) (λp=> ?_)
  ·have:¬q<18446744073709551616:=by omega
   rw[if_neg this];simp
  ·have:q<18446744073709551616:=by omega
   have e:z=q:=by omega
   rw[if_pos this];simp[e]
theorem zwp (x y d:Nat)(hx:x<18446744073709551616)(hy:y<18446744073709551616)(hd:d<18446744073709551616)(b:Bool):
  PCalls Tryz.prog zo1 [.int .u64 x,.int .u64 y,.int .u64 d,.bool b] (λr=>r=numA (if d=0 then zbL else tell (sgn b (rnd (x*y) d)))):=by
 refine zaa hmix zop rfl ?_
 simp[zij]
 refine zac (z8p x y hx hy) (by simp) ?_
 rintro r rfl
 have e:x*y<340282366920938463463374607431768211456:=by
  have a:x*y≤x*18446744073709551615:=ycv x (by omega)
  omega
 have f:wA (x*y)=.agg [.int .u64 ((x*y/18446744073709551616:Nat):Int),.int .u64 ((x*y%18446744073709551616:Nat):Int)]:=rfl
 rw[f]
 simp
 refine zac (z3C (x*y) d e hd) (by simp[wA]) ?_
 rintro r rfl
 by_cases c:d=0
 ·rw[if_pos c,if_pos c]
  simp
  refine zac zc4 (by simp) ?_
  rintro r rfl
  simp[numA]
 ·rw[if_neg c,if_neg c]
  by_cases a:rnd (x*y) d<18446744073709551616
  ·rw[if_pos a]
   simp
   refine zac (z84 _ a b) (by simp) ?_
   rintro r rfl
   simp[numA]
  ·rw[if_neg a]
   have:tell (sgn b (rnd (x*y) d))=zbL:=by
    unfold tell sgn most
    cases b<;>simp<;>omega
   simp[this]
   refine zac zc4 (by simp) ?_
   rintro r rfl
   simp[numA,this]
theorem z7v (a b:N)(ha:okN a)(hb:okN b):PCalls Tryz.prog zxr [numA a,numA b] (λr=>r=numA (divN a b)):=by
 refine zaa hmix zxq rfl ?_
 obtain⟨j,h⟩:=ha
 obtain⟨k,i⟩:=hb
 simp[zpu,numA]
 refine zac (zoN a) (by simp[numA]) ?_
 rintro r rfl
 cases c:good a with
 |false=>
  simp
  refine zac zc4 (by simp) ?_
  rintro r rfl
  simp[divN,c,numA]
 |true=>
  simp
  refine zac (zoN b) (by simp[numA]) ?_
  rintro r rfl
  cases d:good b with
  |false=>
   simp
   refine zac zc4 (by simp) ?_
   rintro r rfl
   simp[divN,c,d,numA]
  |true=>
   have f:=(zf1.1 c).2
   have g:=(zf1.1 d).2
   simp only[most]at f g
   simp
   refine zac (z3c a f h) (by simp[numA]) ?_
   rintro r rfl
   simp
   refine zac (z3c b g i) (by simp[numA]) ?_
   rintro r rfl
   simp
   refine zac (zwp a.2.natAbs 1000000 b.2.natAbs (by omega) (by omega) (by omega) (decide (a.2<0) !=decide (b.2<0))) (by simp) ?_
   rintro r rfl
   by_cases e:b.2=0
   ·simp[divN,c,d,e,numA]
   ·simp[divN,c,d,e,numA]
end Go.Proofs.YtdbhocoeolhjhaaGreatDoor
end
section
set_option maxHeartbeats 2000000
namespace Go.Num
open Go.Abs
theorem zsf {x i:Nat}(h:x/2^i%2=0):x|||2^i=x+2^i:=by
 have d:=yc7 i
 obtain⟨q,n⟩:∃q,q=x/2^i/2:=⟨_,rfl⟩
 obtain⟨r,b⟩:∃r,r=x%2^i:=⟨_,rfl⟩
 have a:r<2^i:=by rw[b];exact ybz _ d
 have e:x/2^i=2*q:=by omega
 have f:x=2^i*(2*q)+r:=by
  have:=ycl x (2^i)
  rw[e,<-b]at this;exact this.symm
 have c:2^i*(2*q)=2^(i+1)*q:=by rw[yc4,yc1]
 have g:=ycx a (2*q)
 have j:=ycx (show 2^i<2^(i+1) by rw[yc4];omega) q
 have k:=ycx a (2*q+1)
 have l:2^i*(2*q+1)=2^(i+1)*q+2^i:=by rw[yec,c,Nat.mul_one]
 have m:x|||2^i=2^i*(2*q)|||r|||2^i:=by rw[<-g,<-f]
 rw[m,Nat.or_assoc,Nat.or_comm r,<-Nat.or_assoc,c,<-j,<-l,<-k]
 rw[yec,Nat.mul_one]
 omega
theorem z87 {x i:Nat}(h:x<2^i):bt x i=0:=by unfold bt;rw[yeg h]
theorem z9L (c i k:Nat)(h:i<k):bt (c*2^k) i=0:=by
 unfold bt
 obtain⟨j,rfl⟩:∃j,k=i+1+j:=⟨k-i-1,by omega⟩
 have:c*2^(i+1+j)=2^i*(2*(c*2^j)):=by
  rw[yeq,yc4]
  simp only[ybp,Nat.mul_left_comm,yc1]
 rw[this,Nat.mul_div_cancel_left _ (yc7 i),Nat.mul_mod_right]
end Go.Num
namespace Go.Proofs.YtdbhocoeolhjhaaGreatDoor
open Go.Abs Go.Num
variable {G:Globs}
theorem zwS (x i:Nat)(hx:x<340282366920938463463374607431768211456)(hi:i<128):PCalls Tryz.prog zmJ [wA x,.int .i64 i] (λr=>r=.int .u64 (bt x i)):=by
 refine zaa hmix zni rfl ?_
 obtain⟨h,s⟩:∃h,h=x/18446744073709551616:=⟨_,rfl⟩
 obtain⟨l,t⟩:∃l,l=x%18446744073709551616:=⟨_,rfl⟩
 have m:h*18446744073709551616+l=x:=by omega
 rw[zdl s t]
 by_cases g:64≤i
 ·have a:(64:Int)≤i:=by omega
  have n:IntKind.i64.wrap ((i:Int)-64)=((i-64:Nat):Int):=by rw[zdM (by omega) (by omega)];omega
  obtain⟨k,q⟩:∃k,k=i-64:=⟨_,rfl⟩
  rw[<-q]at n
  have d:IntKind.u64.wrap (k:Int)=k:=by rw[zbd];omega
  have e:=zAr (hi:=h) (lo:=l) (i:=i) (by omega) g
  rw[m,<-q]at e
  obtain⟨v,c⟩:∃v,v=h/2^k:=⟨_,rfl⟩
  have f:v<18446744073709551616:=by rw[c];exact ycs (yc8 _ _) (by omega)
  have o:zax .shr .u64 (h:Int) k=some (v:Int):=by rw[zgl h k (by omega) (by omega),c]
  obtain⟨b,j⟩:∃b,b=v%2:=⟨_,rfl⟩
  have p:zbQ .and .u64 (v:Int) 1=some (b:Int):=by rw[Go.Num.and_one v f,j]
  rw[<-c,<-j]at e
  rw[e]
  simp[-zax, -zbQ,zeF,g,a,n,d,o,p]
 ·have a:¬(64:Int)≤i:=by omega
  have d:IntKind.u64.wrap (i:Int)=i:=by rw[zbd];omega
  have e:=z9z (hi:=h) (lo:=l) (i:=i) (by omega) (by omega)
  rw[m]at e
  obtain⟨v,c⟩:∃v,v=l/2^i:=⟨_,rfl⟩
  have f:v<18446744073709551616:=by rw[c];exact ycs (yc8 _ _) (by omega)
  have o:zax .shr .u64 (l:Int) i=some (v:Int):=by rw[zgl l i (by omega) (by omega),c]
  obtain⟨b,j⟩:∃b,b=v%2:=⟨_,rfl⟩
  have p:zbQ .and .u64 (v:Int) 1=some (b:Int):=by rw[Go.Num.and_one v f,j]
  rw[<-c,<-j]at e
  rw[e]
  simp[-zax, -zbQ,zeF,g,a,d,o,p]
theorem zyB (x i:Nat)(hx:x<340282366920938463463374607431768211456)(hi:i<128)(h0:bt x i=0):PCalls Tryz.prog zlp [wA x,.int .i64 i] (λr=>r=wA (x+2^i)):=by
 refine zaa hmix zmp rfl ?_
 obtain⟨h,B⟩:∃h,h=x/18446744073709551616:=⟨_,rfl⟩
 obtain⟨l,C⟩:∃l,l=x%18446744073709551616:=⟨_,rfl⟩
 have q:h*18446744073709551616+l=x:=by omega
 rw[zdl B C]
 by_cases j:64≤i
 ·have b:(64:Int)≤i:=by omega
  have s:IntKind.i64.wrap ((i:Int)-64)=((i-64:Nat):Int):=by rw[zdM (by omega) (by omega)];omega
  obtain⟨k,A⟩:∃k,k=i-64:=⟨_,rfl⟩
  rw[<-A]at s
  have d:IntKind.u64.wrap (k:Int)=k:=by rw[zbd];omega
  have e:=zAr (hi:=h) (lo:=l) (i:=i) (by omega) j
  rw[q,<-A,h0]at e
  have f:=zsf (x:=h) (i:=k) e.symm
  obtain⟨p,c⟩:∃p,p=2^k:=⟨_,rfl⟩
  have a:p<18446744073709551616:=by rw[c,show(18446744073709551616:Nat)=2^64 by decide];exact Nat.pow_lt_pow_right (by decide) (by omega)
  have z:zax .shl .u64 1 k=some (p:Int):=by
   have:=ziK 1 k (by omega)
   rw[yew,<-c,ybj a]at this
   simpa using this
  have t:zbQ .or .u64 (h:Int) (p:Int)=some ((h|||p:Nat):Int):=zl1 h p (by omega) a
  have g:h|||p<18446744073709551616:=Nat.or_lt_two_pow (n:=64) (by omega) a
  obtain⟨w,m⟩:∃w,w=h|||p:=⟨_,rfl⟩
  rw[<-m]at t g
  have u:w=h+p:=by rw[m,c];exact f
  have v:2^i=p*18446744073709551616:=by rw[c,show(18446744073709551616:Nat)=2^64 by decide,<-yeq,show k+64=i by omega]
  rw[zdl (hi:=w) (lo:=l) (n:=x+2^i) (by rw[v];omega) (by rw[v];omega)]
  simp[-zax, -zbQ,zdY,j,b,s,d,z,t]
 ·have b:¬(64:Int)≤i:=by omega
  have d:IntKind.u64.wrap (i:Int)=i:=by rw[zbd];omega
  have e:=z9z (hi:=h) (lo:=l) (i:=i) (by omega) (by omega)
  rw[q,h0]at e
  have f:=zsf (x:=l) (i:=i) e.symm
  obtain⟨p,c⟩:∃p,p=2^i:=⟨_,rfl⟩
  have a:p<18446744073709551616:=by rw[c,show(18446744073709551616:Nat)=2^64 by decide];exact Nat.pow_lt_pow_right (by decide) (by omega)
  have z:zax .shl .u64 1 i=some (p:Int):=by
   have:=ziK 1 i (by omega)
   rw[yew,<-c,ybj a]at this
   simpa using this
  have t:zbQ .or .u64 (l:Int) (p:Int)=some ((l|||p:Nat):Int):=zl1 l p (by omega) a
  have g:l|||p<18446744073709551616:=Nat.or_lt_two_pow (n:=64) (by omega) a
  obtain⟨y,o⟩:∃y,y=l|||p:=⟨_,rfl⟩
  rw[<-o]at t g
  have u:y=l+p:=by rw[o,c];exact f
  rw[<-c,zdl (hi:=h) (lo:=y) (n:=x+p) (by omega) (by omega)]
  simp[-zax, -zbQ,zdY,j,b,d,z,t]
theorem z0w (x:Nat)(hx:x<340282366920938463463374607431768211456):PCalls Tryz.prog zjN [wA x] (λr=>r=.tup [wA (2*x%340282366920938463463374607431768211456),.bool (decide (170141183460469231731687303715884105728≤x))]):=by
 refine zaa hmix zjM rfl ?_
 obtain⟨h,s⟩:∃h,h=x/18446744073709551616:=⟨_,rfl⟩
 obtain⟨l,t⟩:∃l,l=x%18446744073709551616:=⟨_,rfl⟩
 rw[zdl s t]
 obtain⟨a,c⟩:∃k,k=h*2%18446744073709551616:=⟨_,rfl⟩
 obtain⟨q,d⟩:∃k,k=l*2%18446744073709551616:=⟨_,rfl⟩
 obtain⟨b,e⟩:∃k,k=l/9223372036854775808:=⟨_,rfl⟩
 obtain⟨f,g⟩:∃k,k=h/9223372036854775808:=⟨_,rfl⟩
 have v:zax .shl .u64 (h:Int) 1=some (a:Int):=by rw[ziK h 1 (by decide),c]
 have i:zax .shl .u64 (l:Int) 1=some (q:Int):=by rw[ziK l 1 (by decide),d]
 have w:zax .shr .u64 (l:Int) 63=some (b:Int):=by rw[zgl l 63 (by omega) (by decide),e]
 have j:zax .shr .u64 (h:Int) 63=some (f:Int):=by rw[zgl h 63 (by omega) (by decide),g]
 obtain⟨o,u⟩:∃k,k=a+b:=⟨_,rfl⟩
 have m:zbQ .or .u64 (a:Int) (b:Int)=some (o:Int):=by
  rw[zl1 a b (by omega) (by omega),u]
  have y:b<2^1:=by omega
  have:=ycx y (a/2)
  have p:2^1*(a/2)=a:=by omega
  rw[p]at this
  rw[this]
 have z:decide ((f:Int)=1)=decide (170141183460469231731687303715884105728≤x):=by congr 1;apply propext;omega
 have p:decide (f=1)=decide (170141183460469231731687303715884105728≤x):=by congr 1;apply propext;omega
 rw[zdl (hi:=o) (lo:=q) (n:=2*x%340282366920938463463374607431768211456) (by omega) (by omega)]
 simp[-zax, -zbQ,zfw,v,i,w,j,m,z,p]
 try omega
theorem z3P (a b:Nat)(ha:a<340282366920938463463374607431768211456)(hb:b<340282366920938463463374607431768211456):
  PCalls Tryz.prog zmP [wA a,wA b] (λr=>r=.tup [wA ((a+b)%340282366920938463463374607431768211456),.bool (decide (340282366920938463463374607431768211456≤a+b))]):=by
 refine zaa hmix zm7 rfl ?_
 obtain⟨ah,F⟩:∃h,h=a/18446744073709551616:=⟨_,rfl⟩
 obtain⟨al,H⟩:∃l,l=a%18446744073709551616:=⟨_,rfl⟩
 obtain⟨bh,I⟩:∃h,h=b/18446744073709551616:=⟨_,rfl⟩
 obtain⟨bl,J⟩:∃l,l=b%18446744073709551616:=⟨_,rfl⟩
 have hA:=zdl F H
 have hB:=zdl I J
 rw[hA,hB]
 simp[zgT]
 have w:zha a b 0=0:=by simp[zha,Nat.mod_one]
 have M:sumC a b 0=0:=by simp[sumC,Nat.mod_one]
 refine zag (λx f σ=>∃(i c A B:Nat),x=128-i/\i≤128/\c=sumC a b i/\wA (zha a b i)=.agg [.int .u64 A,.int .u64 B]/\f 2=.ptr 0 0/\f 3=.ptr 1 0/\f 4=.ptr 2 0/\f 6=.ptr 3 0/\f 7=.int .u64 c/\f 8=.int .i64 i/\
  σ= [.var 277 [.int .u64 ah,.int .u64 al],.var 277 [.int .u64 bh,.int .u64 bl],.var 277 [.int .u64 0,.int .u64 0],.var 277 [.int .u64 A,.int .u64 B]]) 128 ?_ ?_
 ·exact⟨0,0,0,0,rfl,by omega,M.symm,by rw[w];rfl,by simp,by simp,by simp,by simp,by simp,by simp,by simp⟩
 rintro x f σ ⟨i,c,A,B,hx,hi,K,C,q,t,L,k,D,m,rfl⟩
 have y:IntKind.i64.wrap ((i:Int)+1)=((i+1:Nat):Int):=by rw[zdM (by omega) (by omega)];omega
 have O:=z86 a b i
 simp[m]
 refine zaq (λaa=> ?_) (λab=> ?_)
 ·have j:i<128:=by omega
  have P:=zwS (G:=G) a i ha j
  have Q:=zwS (G:=G) b i hb j
  rw[hA]at P
  rw[hB]at Q
  obtain⟨e,g⟩:=z4S a b i
  obtain⟨u,X⟩:∃u,u=bt a i:=⟨_,rfl⟩
  obtain⟨v,Y⟩:∃v,v=bt b i:=⟨_,rfl⟩
  have ad:u<2:=by rw[X];exact z6e a i
  have ae:v<2:=by rw[Y];exact z6e b i
  rw[<-X]at P e g
  rw[<-Y]at Q e g
  rw[<-K]at e g O
  obtain⟨s,hs⟩:∃s,s=u+v+c:=⟨_,rfl⟩
  rw[<-hs]at e g
  have w1:IntKind.u64.wrap ((u:Int)+v)=(u:Int)+v:=by rw[zbd];omega
  have w2:IntKind.u64.wrap ((u:Int)+v+c)=(s:Int):=by rw[zbd];omega
  obtain⟨o,p⟩:∃o,o=s/2:=⟨_,rfl⟩
  have s1:zax .shr .u64 (s:Int) 1=some (o:Int):=by rw[zgl s 1 (by omega) (by decide),p]
  obtain⟨d,Z⟩:∃d,d=s%2:=⟨_,rfl⟩
  have s2:zbQ .and .u64 (s:Int) 1=some (d:Int):=by rw[Go.Num.and_one s (by omega),Z]
  rw[<-p]at g
  rw[<-Z]at e
  simp[q,t,D,m]
  refine zap P (by simp) (by simp) ?_
  simp[q,t,D,m]
  refine zap Q (by simp) (by simp) ?_
  simp[-zax, -zbQ,q,t,k,D,m,w1,w2,s1,s2]
  refine zaq (λh=> ?_) (λh=> ?_)
  ·have R:d=1:=by omega
   have S:zha a b i<2^i:=ybz _ (yc7 i)
   have af:2^i*2≤340282366920938463463374607431768211456:=by
    rw[<-yc4,show(340282366920938463463374607431768211456:Nat)=2^128 by decide];exact yd8 (by decide) (by omega)
   have T:=zyB (G:=G) (zha a b i) i (by omega) j (z87 S)
   rw[C]at T
   have z:zha a b i+2^i=zha a b (i+1):=by rw[e,R,Nat.mul_one]
   rw[z,zdl (n:=zha a b (i+1)) rfl rfl]at T
   simp[k,m]
   refine zac T (by simp) ?_
   rintro r rfl
   simp[k,m,y]
   refine zad (128-(i+1)) (by omega) ⟨i+1,o,_,_,rfl,by omega,g.symm,zdl rfl rfl,by simp[q],by simp[t],by simp[L],by simp[k],by simp,by simp,by simp⟩
  ·have U:d=0:=by omega
   have z:zha a b (i+1)=zha a b i:=by rw[e,U,Nat.mul_zero,ycd]
   simp[k,m,y]
   refine zad (128-(i+1)) (by omega) ⟨i+1,o,A,B,rfl,by omega,g.symm,by rw[z];exact C,by simp[q],by simp[t],by simp[L],by simp[k],by simp,by simp,by simp⟩
 ·have W:i=128:=by omega
  subst W
  have E:(2:Nat)^128=340282366920938463463374607431768211456:=by decide
  have a1:a%2^128=a:=ybj (by rw[E];exact ha)
  have b1:b%2^128=b:=ybj (by rw[E];exact hb)
  have z:zha a b 128=(a+b)%340282366920938463463374607431768211456:=by
   unfold zha
   rw[a1,b1,E]
  have e2:sumC a b 128=(a+b)/340282366920938463463374607431768211456:=by
   unfold sumC
   rw[a1,b1,E]
  rw[z]at C
  have e3:decide ((c:Int)=1)=decide (340282366920938463463374607431768211456≤a+b):=by
   rw[K,e2];congr 1;apply propext;omega
  have e4:decide (c=1)=decide (340282366920938463463374607431768211456≤a+b):=by
   rw[K,e2];congr 1;apply propext;omega
  rw[C]
  simp[L,k,D,e3,e4]
  try omega
end Go.Proofs.YtdbhocoeolhjhaaGreatDoor
end
section
set_option maxHeartbeats 2000000
namespace Go.Proofs.YtdbhocoeolhjhaaGreatDoor
open Go.Abs Go.Num
variable {G:Globs}
theorem z1f (x y:Nat)(hx:x<18446744073709551616)(hy:y<18446744073709551616):PCalls Tryz.prog zmM [.int .u64 x,.int .u64 y] (λr=>r=wA (x*y)):=by
 refine zaa hmix znk rfl ?_
 simp[zhn]
 have l:(2:Nat)^64=18446744073709551616:=by decide
 have j:∀i≤64,x*2^i<340282366920938463463374607431768211456:=λi J=>by
  have L:(2:Nat)^i≤2^64:=yd8 (by decide) J
  have R:x*2^i≤x*2^64:=ycv x L
  rw[l]at R;omega
 have c:∀i,x*(y%2^i)<340282366920938463463374607431768211456:=λi=>by
  have L:x*(y%2^i)≤x*18446744073709551615:=ycv x (by have:=Nat.mod_le y (2^i);omega)
  omega
 refine zag (λz f σ=>∃(i p q w A:Nat),z=64-i/\i≤64/\wA (x*(y%2^i))=.agg [.int .u64 p,.int .u64 q]/\wA (x*2^i)=.agg [.int .u64 w,.int .u64 A]/\f 1=.int .u64 y/\f 4=.ptr 0 0/\f 5=.ptr 1 0/\f 6=.ptr 2 0/\f 7=.int .i64 i/\
  σ= [.var 277 [.int .u64 0,.int .u64 0],.var 277 [.int .u64 p,.int .u64 q],.var 277 [.int .u64 w,.int .u64 A]]) 64 ?_ ?_
 ·refine⟨0,0,0,0,x,rfl,by omega,by simp[Nat.mod_one,wA], ?_,by simp,by simp,by simp,by simp,by simp,by simp⟩
  rw[Nat.pow_zero,Nat.mul_one];exact zdl (by omega) (by omega)
 rintro z f σ ⟨i,p,q,w,A,W,J,s,K,B,C,b,g,t,rfl⟩
 have m:IntKind.i64.wrap ((i:Int)+1)=((i+1:Nat):Int):=by rw[zdM (by omega) (by omega)];omega
 simp[t]
 refine zaq (λP=> ?_) (λQ=> ?_)
 ·have M:i<64:=by omega
  have D:IntKind.u64.wrap (i:Int)=i:=by rw[zbd];omega
  obtain⟨v,u⟩:∃v,v=y/2^i:=⟨_,rfl⟩
  have E:v<18446744073709551616:=by rw[u];exact ycs (yc8 _ _) hy
  have S:zax .shr .u64 (y:Int) i=some (v:Int):=by rw[zgl y i hy (by omega),u]
  obtain⟨d,I⟩:∃d,d=v%2:=⟨_,rfl⟩
  have T:zbQ .and .u64 (v:Int) 1=some (d:Int):=by rw[Go.Num.and_one v E,I]
  have F:bt y i=d:=by rw[I,u];rfl
  have a:=z5n x y i
  rw[F]at a
  have H:=z0w (G:=G) (x*2^i) (j i (by omega))
  have U:2*(x*2^i)%340282366920938463463374607431768211456=x*2^(i+1):=by
   have e:2*(x*2^i)=x*2^(i+1):=by rw[yc4,Nat.mul_left_comm,ybp 2]
   rw[e];exact ybj (j (i+1) (by omega))
  rw[U,K,zdl (n:=x*2^(i+1)) rfl rfl]at H
  simp[-zax, -zbQ,B,t,D,S,T]
  refine zaq (λh=> ?_) (λh=> ?_)
  ·have k:d=1:=by omega
   rw[if_pos k]at a
   have O:=z3P (G:=G) (x*(y%2^i)) (x*2^i) (c i) (j i (by omega))
   rw[<-a,ybj (c (i+1)),s,K,zdl (n:=x*(y%2^(i+1))) rfl rfl]at O
   simp[b,g]
   refine zac O (by simp) ?_
   rintro r rfl
   simp[b,g]
   refine zac H (by simp) ?_
   rintro r rfl
   simp[b,g,t,m]
   refine zad (64-(i+1)) (by omega) ⟨i+1,_,_,_,_,rfl,by omega,zdl rfl rfl,zdl rfl rfl,by simp[B],by simp[C],by simp[b],by simp[g],by simp,by simp⟩
  ·have k:¬d=1:=by omega
   rw[if_neg k,ycd]at a
   simp[b,g]
   refine zac H (by simp) ?_
   rintro r rfl
   simp[b,g,t,m]
   refine zad (64-(i+1)) (by omega) ⟨i+1,p,q,_,_,rfl,by omega,by rw[a];exact s,zdl rfl rfl,by simp[B],by simp[C],by simp[b],by simp[g],by simp,by simp⟩
 ·have o:i=64:=by omega
  subst o
  rw[l,ybj hy]at s
  rw[s]
  simp[C,b]
theorem z8n (a d:Nat)(ha:a<340282366920938463463374607431768211456)(hd:d<18446744073709551616):
  PCalls Tryz.prog zmT [wA a,.int .u64 d] (λr=>r=if d=0 then .tup [wA 0,.int .u64 0,.int .i64 1]else .tup [wA (a/d),.int .u64 ((a%d:Nat):Int),.int .i64 0]):=by
 refine zaa hmix zmX rfl ?_
 by_cases h0:d=0
 ·subst h0
  simp[zeB,wA]
 rw[if_neg h0]
 have ag:¬(d:Int)=0:=by omega
 obtain⟨ah,Y⟩:∃h,h=a/18446744073709551616:=⟨_,rfl⟩
 obtain⟨al,Z⟩:∃l,l=a%18446744073709551616:=⟨_,rfl⟩
 have hA:=zdl Y Z
 rw[hA]
 obtain⟨md,O⟩:∃m,m=a%d:=⟨_,rfl⟩
 rw[<-O]
 simp[zeB,h0,ag]
 have P:(2:Nat)^128=340282366920938463463374607431768211456:=by decide
 have ai:(2:Nat)^63=9223372036854775808:=by decide
 refine zag (λz f σ=>∃(k r T U:Nat),z=k/\k≤128/\wA (a/2^k/d*2^k)=.agg [.int .u64 T,.int .u64 U]/\r=a/2^k%d/\f 1=.int .u64 d/\f 2=.ptr 0 0/\f 4=.ptr 1 0/\f 7=.ptr 2 0/\f 8=.int .u64 r/\f 9=.int .i64 ((k:Int)-1)/\
  σ= [.var 277 [.int .u64 ah,.int .u64 al],.var 277 [.int .u64 0,.int .u64 0],.var 277 [.int .u64 T,.int .u64 U]]) 128 ?_ ?_
 ·have e:a/2^128=0:=yeg (by rw[P];exact ha)
  refine⟨128,0,0,0,rfl,by omega,by rw[e,Nat.zero_div,Nat.zero_mul];rfl,by rw[e,Nat.zero_mod],by simp,by simp,by simp,by simp,by simp,by simp,by simp⟩
 rintro z f σ ⟨k,r,T,U,hz,hk,L,M,H,W,X,x,f8,E,rfl⟩
 simp[E]
 refine zaq (λav=> ?_) (λaw=> ?_)
 ·obtain⟨i,rfl⟩:∃i,k=i+1:=⟨k-1,by omega⟩
  have aj:(((i+1:Nat):Int)-1)=i:=by omega
  rw[aj]at E
  have p:i<128:=by omega
  have I:IntKind.i64.wrap ((i:Int)-1)=(i:Int)-1:=zdM (by omega) (by omega)
  have k1:=zwS (G:=G) a i ha p
  rw[hA]at k1
  have A:=z6G a i
  obtain⟨b,hb⟩:∃b,b=bt a i:=⟨_,rfl⟩
  have hb2:b<2:=by rw[hb];exact z6e a i
  rw[<-hb]at k1 A
  have ak:r<d:=by rw[M];exact ybz _ (by omega)
  obtain⟨n,hn⟩:∃n,n=a/2^(i+1):=⟨_,rfl⟩
  rw[<-hn]at A M L
  have J:=ycl n d
  rw[<-M]at J
  obtain⟨q,hq⟩:∃q,q=n/d:=⟨_,rfl⟩
  rw[<-hq]at J L
  obtain⟨aa,ab⟩:=z5m (n:=n) (d:=d) (q:=q) (r:=r) (b:=b) (by rw[ybp];exact J.symm) ak hb2
  obtain⟨t,ht⟩:∃t,t=r/9223372036854775808:=⟨_,rfl⟩
  have am:zax .shr .u64 (r:Int) 63=some (t:Int):=by rw[zgl r 63 (by omega) (by decide),ht,ai]
  obtain⟨y,ad⟩:∃y,y=r*2%18446744073709551616:=⟨_,rfl⟩
  have an:zax .shl .u64 (r:Int) 1=some (y:Int):=by rw[ziK r 1 (by decide),ad]
  obtain⟨j,ae⟩:∃j,j=y+b:=⟨_,rfl⟩
  have ao:zbQ .or .u64 (y:Int) (b:Int)=some (j:Int):=by
   rw[zl1 y b (by omega) (by omega),ae]
   have:=ycx (show b<2^1 by omega) (y/2)
   have e2:2^1*(y/2)=y:=by omega
   rw[e2]at this
   rw[this]
  simp[-zax, -zbQ,f8,W,E,am,an]
  refine zac k1 (by simp) ?_
  rintro rr rfl
  simp[-zax, -zbQ,H,x,ao]
  by_cases S:d≤2*r+b
  ·obtain⟨o,F⟩:=ab S
   have aq:t=1∨d≤j:=by omega
   have s:IntKind.u64.wrap ((j:Int)-d)=((2*r+b-d:Nat):Int):=by rw[zbd];omega
   obtain⟨K,af⟩:∃K,K=2*r+b-d:=⟨_,rfl⟩
   rw[<-af]at s o F
   have Q:2*n+b=(2*q+1)*d+K:=o
   have u:a/2^i=2*n+b:=A
   have v:a/2^i/d=2*q+1:=by
    rw[u,Q,ybp,Nat.mul_add_div (by omega),yeg F,ycd]
   have B:a/2^i%d=K:=by
    rw[u,Q,ybp,Nat.mul_add_mod,ybj F]
   have C:q*2^(i+1)+2^i=(2*q+1)*2^i:=by rw[ya8,yew,yc4,ybp (2^i) 2,<-yc1,ybp q 2]
   have ar:(2*q+1)*2^i<340282366920938463463374607431768211456:=by
    rw[<-v]
    have h1:a/2^i/d≤a/2^i:=yc8 _ _
    have h2:a/2^i/d*2^i≤a/2^i*2^i:=yat _ h1
    have h3:=yb7 a (2^i)
    omega
   have k3:=zyB (G:=G) (q*2^(i+1)) i (ycs (Nat.le_add_right _ (2^i)) (by rw[C];exact ar)) p (z9L q i (i+1) (by omega))
   rw[C,L,zdl (n:=(2*q+1)*2^i) rfl rfl]at k3
   have fin:∀f':Abs.Frame,True:=λ_=>trivial
   by_cases D:t=1
   ·have c:(t:Int)=1:=by omega
    simp[D,c,s,H,x,E]
    refine zac k3 (by simp) ?_
    rintro rr rfl
    simp[x,E,I]
    refine zad i (by omega) ⟨i,K,_,_,rfl,by omega,by rw[v];exact zdl rfl rfl,B.symm,by simp[H],by simp[W],by simp[X],by simp[x],by simp,by simp,by simp⟩
   ·have c:¬(t:Int)=1:=by omega
    have w:d≤j:=by omega
    have g:(d:Int)≤j:=by omega
    simp[D,c,w,g,s,H,x,E]
    refine zac k3 (by simp) ?_
    rintro rr rfl
    simp[x,E,I]
    refine zad i (by omega) ⟨i,K,_,_,rfl,by omega,by rw[v];exact zdl rfl rfl,B.symm,by simp[H],by simp[W],by simp[X],by simp[x],by simp,by simp,by simp⟩
  ·have o:=aa (by omega)
   have D:¬t=1:=by omega
   have c:¬(t:Int)=1:=by omega
   have w:¬d≤j:=by omega
   have g:¬(d:Int)≤j:=by omega
   have R:j=2*r+b:=by omega
   have u:a/2^i=2*n+b:=A
   have v:a/2^i/d=2*q:=by
    rw[u,o,ybp,Nat.mul_add_div (by omega),yeg (by omega),ycd]
   have B:a/2^i%d=j:=by
    rw[u,o,ybp,Nat.mul_add_mod,ybj (by omega),R]
   have C:2*q*2^i=q*2^(i+1):=by rw[yc4,ybp (2^i) 2,<-yc1,ybp q 2]
   simp[D,c,w,g,H,x,E,I]
   refine zad i (by omega) ⟨i,j,T,U,rfl,by omega,by rw[v,C];exact L,B.symm,by simp[H],by simp[W],by simp[X],by simp[x],by simp,by simp,by simp⟩
 ·have au:k=0:=by omega
  subst au
  rw[Nat.pow_zero,Nat.div_one,Nat.mul_one]at L
  rw[Nat.pow_zero,Nat.div_one]at M
  rw[<-O]at M
  rw[L]
  simp[X,x,f8,M]
theorem z2G (a d:Nat)(ha:a<340282366920938463463374607431768211456)(hd:d<18446744073709551616):
  PCalls Tryz.prog zkL [wA a,.int .u64 d] (λr=>r=if d=0 then .tup [.int .u64 0,.int .i64 1]else if rnd a d<18446744073709551616 then .tup [.int .u64 ((rnd a d:Nat):Int),.int .i64 0]else .tup [.int .u64 0,.int .i64 3]):=by
 refine zaa hmix zlb rfl ?_
 obtain⟨J,n⟩:∃h,h=a/18446744073709551616:=⟨_,rfl⟩
 obtain⟨K,o⟩:∃l,l=a%18446744073709551616:=⟨_,rfl⟩
 have k:=zdl n o
 have w:=z8n (G:=G) a d ha hd
 rw[k]at w⊢
 by_cases C:d=0
 ·subst C
  simp[zd9]
  refine zac w (by simp) ?_
  rintro r rfl
  simp[wA]
 rw[if_neg C]
 simp[zd9]
 refine zac w (by simp) ?_
 rw[if_neg C]
 obtain⟨q,p⟩:∃x,x=a/d:=⟨_,rfl⟩
 obtain⟨m,s⟩:∃x,x=a%d:=⟨_,rfl⟩
 have I:m<d:=by rw[s];exact ybz _ (by omega)
 rw[<-p,<-s]
 rintro r rfl
 have j:rnd a d=q+(if d-m≤m then 1 else 0):=by rw[rnd,<-p,<-s]
 rw[j]
 have f:IntKind.u64.wrap ((d:Int)-m)=((d-m:Nat):Int):=by rw[zbd];omega
 obtain⟨L,t⟩:∃x,x=d-m:=⟨_,rfl⟩
 rw[<-t]at f
 have y:q<340282366920938463463374607431768211456:=by rw[p];exact ycs (yc8 _ _) ha
 obtain⟨D,g⟩:∃x,x=q/18446744073709551616:=⟨_,rfl⟩
 obtain⟨F,i⟩:∃x,x=q%18446744073709551616:=⟨_,rfl⟩
 rw[zdl g i]
 simp[f]
 refine zaq (λh=> ?_) (λh=> ?_)
 ·have z:d-m≤m:=by omega
  have A:q+1<340282366920938463463374607431768211456:=by
   have B:2≤d:=by omega
   have:a/d≤a/2:=Nat.div_le_div_left B (by decide)
   omega
  simp
  have k:=z3P (G:=G) q 1 y (by decide)
  rw[zdl g i,show wA 1=.agg [.int .u64 0,.int .u64 1] from rfl]at k
  refine zac k (by simp) ?_
  rintro r rfl
  rw[ybj A,if_pos z]
  obtain⟨E,u⟩:∃x,x=(q+1)/18446744073709551616:=⟨_,rfl⟩
  obtain⟨H,v⟩:∃x,x=(q+1)%18446744073709551616:=⟨_,rfl⟩
  rw[zdl u v]
  by_cases c:E=0
  ·have:q+1<18446744073709551616:=by omega
   have e:H=q+1:=by omega
   rw[if_pos this];simp[c,e]
  ·have:¬q+1<18446744073709551616:=by omega
   have b:¬(E:Int)=0:=by omega
   rw[if_neg this];simp[c,b]
 ·have z:¬d-m≤m:=by omega
  rw[if_neg z,ycd]
  by_cases c:D=0
  ·have:q<18446744073709551616:=by omega
   have e:F=q:=by omega
   rw[if_pos this];simp[c,e]
  ·have:¬q<18446744073709551616:=by omega
   have b:¬(D:Int)=0:=by omega
   rw[if_neg this];simp[c,b]
end Go.Proofs.YtdbhocoeolhjhaaGreatDoor
end
section
set_option maxHeartbeats 2000000
namespace Go.Num
open Go.Abs
theorem zel (n:N):numA n=.agg [.bool n.1,.int .i64 n.2]:=rfl
end Go.Num
namespace Go.Proofs.YtdbhocoeolhjhaaGreatDoor
open Go.Abs Go.Num
variable {G:Globs}
theorem zr6 (n:N)(h:okN n):PCalls Tryz.prog zkU [numA n] (λr=>r=.bool (zoh n)):=by
 refine zaa hmix zkI rfl ?_
 obtain⟨b,v⟩:=n
 obtain⟨a,c⟩:=h
 simp only at a c
 cases b
 ·have e:(!decide (v= -9223372036854775808))=decide (-most≤v):=by
   unfold most
   by_cases h:v= -9223372036854775808
   ·have:¬(-9223372036854775807≤v):=by omega
    simp[h]
   ·have: -9223372036854775807≤v:=by omega
    simp[h,this]
  simp[zdF,numA,zoh]
  rw[<-e];simp
 ·simp[zdF,numA,zoh]
theorem zz0 (n:N):(zoh n&& !n.1)=good n:=by
 obtain⟨b,v⟩:=n
 cases b<;>simp[zoh,good]
theorem zn0 (n:N)(h:okN n):PCalls Tryz.prog zox [numA n] (λr=>r=.bool (good n)):=by
 refine zaa hmix zot rfl ?_
 have k:=zr6 (G:=G) n h
 have a:=zz0 n
 rw[zel]at k⊢
 simp[zim]
 refine zac k (by simp) ?_
 rintro r rfl
 cases b:zoh n
 ·rw[b]at a;simp at a;simp[a]
 ·rw[b]at a;simp at a;simp[<-a]
theorem zb3:PCalls Tryz.prog ziH [] (λr=>r=numA zbL):=by
 refine zaa hmix ziI rfl ?_
 simp[zfl,numA,zbL]
theorem znX (v:Int)(h0: -9223372036854775808≤v)(h1:v≤9223372036854775807):PCalls Tryz.prog zaU [.int .i64 v] (λr=>r=numA (tell v)):=by
 refine zaa hmix zou rfl ?_
 have k:=zr6 (G:=G) (false,v) ⟨h0,h1⟩
 rw[zel]at k
 simp[zik]
 refine zac k (by simp) ?_
 rintro r rfl
 by_cases a: -9223372036854775807≤v
 ·have e:tell v=(false,v):=by unfold tell most;rw[if_pos];omega
  simp[zoh,most,a,e,numA]
 ·have e:tell v=zbL:=by unfold tell most;rw[if_neg];omega
  simp[zoh,most,a,e]
  refine zac zb3 (by simp) ?_
  rintro r rfl
  simp[numA,e]
theorem zlW (v:Int)(h0: -9223372036854775808≤v)(h1:v≤9223372036854775807):PCalls Tryz.prog zlB [.int .i64 v] (λr=>r=.int .u64 v.natAbs):=by
 refine zaa hmix zlY rfl ?_
 simp[zgz]
 refine zaq (λb=> ?_) (λc=> ?_)
 ·have d:IntKind.i64.wrap (v+1)=v+1:=zdM (by omega) (by omega)
  have e:IntKind.i64.wrap (-(v+1))= -(v+1):=zdM (by omega) (by omega)
  have a:IntKind.i64.wrap (-1+ -v)= -(v+1):=by rw[zdM (by omega) (by omega)];omega
  have f:IntKind.u64.wrap (-(v+1))= -(v+1):=by rw[zbd];omega
  have g:IntKind.u64.wrap (-(v+1)+1)= -v:=by rw[zbd];omega
  simp[d,e,a,f,g]
  omega
 ·have w:IntKind.u64.wrap v=v:=by rw[zbd];omega
  simp[w]
  omega
theorem zna (n:Nat)(hn:n<18446744073709551616)(b:Bool):PCalls Tryz.prog zjP [.int .u64 n,.bool b] (λr=>r=numA (tell (sgn b n))):=by
 refine zaa hmix zjJ rfl ?_
 simp[zfz]
 refine zaq (λd=> ?_) (λe=> ?_)
 ·simp
  refine zac zb3 (by simp) ?_
  rintro r rfl
  have:tell (sgn b n)=zbL:=by
   unfold tell sgn most
   cases b<;>simp<;>omega
  simp[this,numA]
 ·have c:IntKind.i64.wrap (n:Int)=n:=zdM (by omega) (by omega)
  have a:IntKind.i64.wrap (-(n:Int))= -n:=zdM (by omega) (by omega)
  cases b
  ·have:tell (sgn false n)=(false,(n:Int)):=by
    unfold tell sgn most;simp;omega
   simp[c,this,numA]
  ·have:tell (sgn true n)=(false, -(n:Int)):=by
    unfold tell sgn most;simp;omega
   simp[c,a,this,numA]
theorem znx (n:Int)(h0: -9223372036854775808≤n)(h1:n≤9223372036854775807):PCalls Tryz.prog zbs [.int .i64 n] (λr=>r=numA (tell (n*1000000))):=by
 refine zaa hmix zm3 rfl ?_
 simp[zhg]
 refine zac (zlW n h0 h1) (by simp) ?_
 rintro r rfl
 obtain⟨s,d⟩:∃s,s=n.natAbs:=⟨_,rfl⟩
 obtain⟨h,e⟩:∃x,x=s*1000000/18446744073709551616:=⟨_,rfl⟩
 obtain⟨l,f⟩:∃x,x=s*1000000%18446744073709551616:=⟨_,rfl⟩
 have k:=z1f (G:=G) s 1000000 (by omega) (by decide)
 rw[zdl e f]at k
 rw[<-d]
 simp
 refine zac k (by simp) ?_
 rintro r rfl
 by_cases c:h=0
 ·have a:sgn (decide (n<0)) l=n*1000000:=by
   unfold sgn;by_cases g:n<0<;>simp[g]<;>omega
  simp[c]
  refine zac (zna l (by omega) (decide (n<0))) (by simp) ?_
  rintro r rfl
  rw[a]
  simp[numA]
 ·have b:¬(h:Int)=0:=by omega
  have:tell (n*1000000)=zbL:=by unfold tell most;rw[if_neg];omega
  simp[c,b,this]
  refine zac zb3 (by simp) ?_
  rintro r rfl
  simp[this,numA]
theorem zj7 (a b:N)(ha:okN a)(hb:okN b):PCalls Tryz.prog zbr [numA a,numA b] (λr=>r=numA (addN a b)):=by
 refine zaa hmix znl rfl ?_
 have q:=zn0 (G:=G) a ha
 have t:=zn0 (G:=G) b hb
 obtain⟨u,v⟩:=ha
 obtain⟨w,x⟩:=hb
 rw[zel]at q t
 rw[zel a,zel b]
 simp[zhz]
 refine zac q (by simp) ?_
 rintro r rfl
 cases c:good a with
 |false=>
  simp
  refine zac zb3 (by simp) ?_
  rintro r rfl
  simp[addN,c,numA]
 |true=>
  simp
  refine zac t (by simp) ?_
  rintro r rfl
  cases f:good b with
  |false=>
   simp
   refine zac zb3 (by simp) ?_
   rintro r rfl
   simp[addN,c,f,numA]
  |true=>
   have z:=(zf1.1 c).2
   have A:=(zf1.1 f).2
   simp only[most]at z A
   have e:addN a b=tell (a.2+b.2):=by simp[addN,c,f]
   rw[e]
   by_cases l:(decide (a.2<0))=(decide (b.2<0))
   ·have d:(decide (a.2<0)==decide (b.2<0))=true:=by simp[l]
    have n:(a.2<0↔b.2<0):=by simpa using l
    have k:IntKind.u64.wrap ((a.2.natAbs:Int)+b.2.natAbs)=((a.2.natAbs+b.2.natAbs:Nat):Int):=by rw[zbd];omega
    obtain⟨y,g⟩:∃s,s=a.2.natAbs:=⟨_,rfl⟩
    obtain⟨sb,h⟩:∃s,s=b.2.natAbs:=⟨_,rfl⟩
    obtain⟨p,m⟩:∃s,s=y+sb:=⟨_,rfl⟩
    rw[<-g,<-h,<-m]at k
    have i:=zlW (G:=G) a.2 u v
    have j:=zlW (G:=G) b.2 w x
    rw[<-g]at i
    rw[<-h]at j
    have o:sgn (decide (a.2<0)) p=a.2+b.2:=by
     unfold sgn;by_cases C:a.2<0<;>simp[C]<;>omega
    simp[d]
    refine zap i (by simp) (by simp) ?_
    simp
    refine zap j (by simp) (by simp) ?_
    simp[k]
    refine zap (zna p (by omega) (decide (a.2<0))) (by simp) (by simp[numA]) ?_
    rw[o]
    simp[numA]
   ·have d:(decide (a.2<0)==decide (b.2<0))=false:=by simpa using l
    have n:¬(a.2<0↔b.2<0):=by simpa using l
    have k:IntKind.i64.wrap (a.2+b.2)=a.2+b.2:=zdM (by omega) (by omega)
    have B:tell (a.2+b.2)=(false,a.2+b.2):=by unfold tell most;rw[if_pos];omega
    rw[B]
    simp[d,k,numA]
theorem zjB (a b:N)(ha:okN a)(hb:okN b):PCalls Tryz.prog zbq [numA a,numA b] (λr=>r=numA (divN a b)):=by
 refine zaa hmix zm8 rfl ?_
 have u:=zn0 (G:=G) a ha
 have v:=zn0 (G:=G) b hb
 obtain⟨y,z⟩:=ha
 obtain⟨A,B⟩:=hb
 rw[zel]at u v
 rw[zel a,zel b]
 simp[zhe]
 refine zac u (by simp) ?_
 rintro r rfl
 cases c:good a with
 |false=>
  simp
  refine zac zb3 (by simp) ?_
  rintro r rfl
  simp[divN,c,numA]
 |true=>
  simp
  refine zac v (by simp) ?_
  rintro r rfl
  cases d:good b with
  |false=>
   simp
   refine zac zb3 (by simp) ?_
   rintro r rfl
   simp[divN,c,d,numA]
  |true=>
   have F:=(zf1.1 c).2
   have H:=(zf1.1 d).2
   simp only[most]at F H
   by_cases f:b.2=0
   ·simp[f]
    refine zac zb3 (by simp) ?_
    rintro r rfl
    simp[divN,c,d,f,numA]
   ·obtain⟨g,k⟩:∃s,s=a.2.natAbs:=⟨_,rfl⟩
    obtain⟨sb,m⟩:∃s,s=b.2.natAbs:=⟨_,rfl⟩
    have e:divN a b=tell (sgn (decide (a.2<0) !=decide (b.2<0)) (rnd (g*1000000) sb)):=by simp[divN,c,d,f,k,m]
    rw[e]
    have n:=zlW (G:=G) a.2 y z
    have o:=zlW (G:=G) b.2 A B
    rw[<-k]at n
    rw[<-m]at o
    have w:=z1f (G:=G) g 1000000 (by omega) (by decide)
    have t:g*1000000<340282366920938463463374607431768211456:=by omega
    have i:=z2G (G:=G) (g*1000000) sb t (by omega)
    have p:¬sb=0:=by omega
    rw[if_neg p]at i
    obtain⟨h,C⟩:∃x,x=g*1000000/18446744073709551616:=⟨_,rfl⟩
    obtain⟨l,D⟩:∃x,x=g*1000000%18446744073709551616:=⟨_,rfl⟩
    rw[zdl C D]at w i
    obtain⟨q,E⟩:∃q,q=rnd (g*1000000) sb:=⟨_,rfl⟩
    rw[<-E]at i⊢
    simp[f]
    refine zap n (by simp) (by simp) ?_
    simp
    refine zap w (by simp) (by simp) ?_
    simp
    refine zap o (by simp) (by simp) ?_
    simp
    by_cases j:q<18446744073709551616
    ·rw[if_pos j]at i
     refine zap i (by simp) (by simp) ?_
     simp
     refine zac (zna q j (decide (a.2<0) !=decide (b.2<0))) (by simp) ?_
     rintro r rfl
     simp[numA]
    ·rw[if_neg j]at i
     have:tell (sgn (decide (a.2<0) !=decide (b.2<0)) q)=zbL:=by
      unfold tell sgn most
      cases(decide (a.2<0) !=decide (b.2<0))<;>simp<;>omega
     rw[this]
     refine zap i (by simp) (by simp) ?_
     simp
     refine zac zb3 (by simp) ?_
     rintro r rfl
     simp[numA]
theorem zgY (a b:N)(ha:okN a)(hb:okN b):PCalls Tryz.prog zbh [numA a,numA b] (λr=>r=numA (zqU a b)):=by
 refine zaa hmix zmb rfl ?_
 have f:=zn0 (G:=G) a ha
 have g:=zn0 (G:=G) b hb
 rw[zel]at f g
 rw[zel a,zel b]
 simp[zg0]
 refine zac f (by simp) ?_
 rintro r rfl
 cases c:good a with
 |false=>
  simp
  refine zac g (by simp) ?_
  rintro r rfl
  cases d:good b with
  |false=>
   simp
   refine zac zb3 (by simp) ?_
   rintro r rfl
   simp[zqU,c,d,numA]
  |true=>
   simp
   refine zac f (by simp) ?_
   rintro r rfl
   simp[c,zqU,d,numA]
 |true=>
  simp
  refine zac f (by simp) ?_
  rintro r rfl
  simp[c]
  refine zac g (by simp) ?_
  rintro r rfl
  cases d:good b with
  |false=>simp[zqU,c,d,numA]
  |true=>
   by_cases e:a.2≤b.2
   ·simp[zqU,c,d,e,numA]
   ·simp[zqU,c,d,e,numA]
theorem zgX (a b:N)(ha:okN a)(hb:okN b):PCalls Tryz.prog zbe [numA a,numA b] (λr=>r=numA (zqF a b)):=by
 refine zaa hmix zmx rfl ?_
 have f:=zn0 (G:=G) a ha
 have g:=zn0 (G:=G) b hb
 rw[zel]at f g
 rw[zel a,zel b]
 simp[zg2]
 refine zac f (by simp) ?_
 rintro r rfl
 cases c:good a with
 |false=>
  simp
  refine zac g (by simp) ?_
  rintro r rfl
  cases d:good b with
  |false=>
   simp
   refine zac zb3 (by simp) ?_
   rintro r rfl
   simp[zqF,c,d,numA]
  |true=>
   simp
   refine zac f (by simp) ?_
   rintro r rfl
   simp[c,zqF,d,numA]
 |true=>
  simp
  refine zac f (by simp) ?_
  rintro r rfl
  simp[c]
  refine zac g (by simp) ?_
  rintro r rfl
  cases d:good b with
  |false=>simp[zqF,c,d,numA]
  |true=>
   by_cases e:b.2≤a.2
   ·simp[zqF,c,d,e,numA]
   ·simp[zqF,c,d,e,numA]
end Go.Proofs.YtdbhocoeolhjhaaGreatDoor
end
section
set_option maxHeartbeats 4000000
namespace Go.Sf
open Go.Abs Go.Num
def zcP (s:Slot):List AV:= [.int .i64 s.1,.int .i64 s.2]
def zat (l:List Slot):List (List AV):=l.map zcP
def zah (step:Nat)(l:List Slot):List AV:= [.int .i64 step,.lst (zat l)]
def zan (l:LadM):List (List AV):= [zah 10 l.fine,zah 60 l.wide]
def ladC (l:LadM):List AV:= [.int .i64 1,.int .i64 500000,.lst (zan l)]
def rungsC:List (List AV):= [[.int .i64 10,.int .i64 6],[.int .i64 60,.int .i64 5]]
theorem zau (l:List Slot):(zat l).length=l.length:=by simp[zat]
theorem zcI (l:List Slot):Els 2 (zat l):=by
 refine⟨λc a=> ?_,λc a=> ?_,λc a=> ?_⟩<;>obtain⟨n,_,rfl⟩:=yav.1 a<;>simp[zcP,AV.pure,AV.one]
theorem zdi {l:List Slot}{i:Nat}{s:Slot}(h:l[i]? =some s):(zat l)[i]? =some (zcP s):=by simp[zat,h]
theorem zdW (σ:zab)(m k:Nat)(l:List Slot):((zat l).mapM λ(c:List AV)=>c.mapM (fz σ m k))=some (zat l):=zeb (zcI l).2.1 (λc a=>by obtain⟨n,_,rfl⟩:=yav.1 a;simp[zcP])
theorem zrX (l:List Slot)(i:Nat)(s:Slot):(zat l).set i (zcP s)=zat (l.set i s):=by simp[zat,List.map_set]
theorem zxw (l:List Slot)(s:Slot):zat (l++ [s])=zat l++ [zcP s]:=by simp[zat]
structure Sized (step:Nat)(l:List Slot):Prop where
 s1:1≤step
 s2:step≤86400
 n1:1≤l.length
 n2:l.length≤400
end Go.Sf
namespace Go.Proofs.YtdbhocoeolhjhaaGreatDoor
open Go.Abs Go.RowKit Go.Sf Go.Num
variable {G:Globs}
theorem wk0:IntKind.i64.wrap 0=0:=by decide
theorem wk1:IntKind.i64.wrap 1=1:=by decide
theorem wk2:IntKind.i64.wrap 2=2:=by decide
theorem wk6:IntKind.i64.wrap 6=6:=by decide
theorem zhv (t:Nat)(h:t≤1099511627776):PCalls Tryz.prog zkE [.int .i64 t] (λr=>r=.bool true):=by
 refine zaa hmix zlc rfl ?_
 have a:(0:Int)≤t:=by omega
 have b:(t:Int)≤1099511627776:=by omega
 simp[zfW,a,b,h]
theorem zky (step:Nat)(l:List Slot)(hz:Sized step l)(h:zdc step l):PCalls Tryz.prog zkW [.agg (zah step l)] (λr=>r=.bool true):=by
 refine zaa hmix zkG rfl ?_
 obtain⟨C,T,y,U⟩:=hz
 have I:¬((step:Int)<1):=by omega
 have J:¬((86400:Int)<step):=by omega
 have K:¬((l.length:Int)<1):=by omega
 have L:¬((400:Int)<l.length):=by omega
 have v:¬(86400<step):=by omega
 have w:¬(400<l.length):=by omega
 have m:step≠0:=by omega
 have n:l.length≠0:=by omega
 have a:l≠ []:=λe=>by rw[e]at y;simp at y
 have c:=zau l
 simp[zfH,zah,I,J,K,L,m,v,n,a,w,c]
 refine zag (λx f σ=>∃(i:Nat) (q:zab),x=l.length-i/\i≤l.length/\f 1=.ptr 0 0/\f 3=.int .i64 i/\σ=.var 112 (zah step l)::q) l.length ?_ ?_
 ·exact⟨0,[],by simp,by simp,by simp,by simp,by simp[zah]⟩
 rintro x f σ ⟨i,q,W,X,d,t,rfl⟩
 simp[d,t,zah,c]
 refine zaq (λG=> ?_) (λH=> ?_)
 ·have o:i<l.length:=by omega
  have p:IntKind.i64.wrap ((i:Int)+1)=((i+1:Nat):Int):=by rw[wrap_i64 (by omega) (by omega)];omega
  obtain⟨s,z⟩:∃s,l[i]? =some s:=⟨_,yac o⟩
  have u:=zdi z
  obtain⟨D,b⟩:=yaa.1 u
  rcases h i s z with ⟨g,j⟩|⟨k,g,j,E,Y,F⟩
  ·simp[d,t,zah,u,b,zcP,zai,zak,splice,g,j,p]
   exact zad (l.length-(i+1)) (by omega) ⟨i+1,q++ [.var 186 (zcP s)],rfl,by omega,by simp[d],by simp,by simp[zah,zcP,g,j]⟩
  ·have A:¬s.1= -1:=by omega
   simp[d,t,zah,u,b,zcP,zai,zak,splice,A]
   rw[g]
   refine zap (zhv (k*step) j) (by simp) (by simp) ?_
   have M:((k*step:Nat):Int).tmod step=0:=by
    rw[yc2 (by omega)];simp
   have O:((k*step:Nat):Int).tdiv step=k:=by
    rw[Int.tdiv_eq_ediv_of_nonneg (by omega)]
    simp only[ydm]
    exact Int.mul_ediv_cancel _ (by omega)
   have P:(k:Int).tmod l.length=i:=by
    rw[yc2 (by omega),<-E];simp
   have B:k≤1099511627776:=ycm (Nat.le_mul_of_pos_right k C) j
   have Q:IntKind.i64.wrap (k:Int)=k:=wrap_i64 (by omega) (by omega)
   have R:(step:Int)≠0:=by omega
   have S:(l.length:Int)≠0:=by omega
   simp[d,t,zah,u,b,zcP,zai,zak,splice,A,M,O,P,Q,R,S,m,n,a,g,F,c,p, -Int.natCast_mul]
   exact zad (l.length-(i+1)) (by omega) ⟨i+1,q++ [.var 186 (zcP s)],rfl,by omega,by simp[d],by simp,by simp[zah,zcP,g]⟩
 ·simp
theorem zbM (a b:Nat):((a:Int)).tmod b=((a%b:Nat):Int):=by rw[yc2 (by omega)];rfl
theorem zt1 (a b:Nat):((a:Int)).tdiv b=((a/b:Nat):Int):=by rw[Int.tdiv_eq_ediv_of_nonneg (by omega)];rfl
theorem zmB (t s:Nat):(t:Int)-((t%s:Nat):Int)=((t/s*s:Nat):Int):=by
 have h:=ycl t s
 rw[ybp]at h
 omega
theorem zpd (step:Nat)(l:List Slot)(hz:Sized step l)(h:zdc step l)(t:Nat)(ht:t≤1099511627776):PCalls Tryz.prog zk1 [.agg (zah step l),.int .i64 t] (λr=>r=.tup [.int .i64 (t/step*step:Nat),.int .i64 0]):=by
 refine zaa hmix zk2 rfl ?_
 simp[zfJ,zah]
 refine zac (zky step l hz h) (by simp[AV.pure,zah]) ?_
 rintro r rfl
 simp
 refine zac (zhv t ht) (by simp) ?_
 rintro r rfl
 have d:=hz.s1
 have b:(step:Int)≠0:=by omega
 have a:step≠0:=by omega
 have e:=yb7 t step
 have c:IntKind.i64.wrap ((t/step*step:Nat):Int)=((t/step*step:Nat):Int):=wrap_i64 (by omega) (by omega)
 simp[b,a,zbM,zmB,c, -Int.natCast_mul, -Int.natCast_emod]
 rw[ydm,Int.natCast_ediv]
theorem zrM (step:Nat)(l:List Slot)(hl:l.length≤1000000):PCalls Tryz.prog zgy [.agg (zah step l)] (λr=>r=.agg (zah step l)):=by
 refine zaa hmix zg6 rfl ?_
 have a:=zau l
 simp[zej,zah]
 refine⟨?_, ?_⟩
 all_goals
  refine zbm [] (zat l) false (by simp) rfl (by decide) (zcI l).1 (λh=>by cases h) rfl (by simp;omega) (by simp;omega) ?_
  simp[zdW]
theorem zwC (σ:zab)(step:Nat)(l:List Slot)(hl:l.length≤1000000):ACalls Tryz.prog zgy [.agg (zah step l)] σ (λr σ'=>r=.agg [.int .i64 step,.row (σ.length+2) l.length]/\σ'=σ++ [.var 112 (zah step l),.var 112 [.int .i64 step,.row (σ.length+2) l.length],.row 186 2 (zat l) false]):=by
 refine zaf hmix zg6 rfl ?_
 have d:=zau l
 simp[zej,zah]
 refine⟨?_, ?_⟩
 all_goals
  refine zbm [] (zat l) false (by simp[zaV]) rfl (by decide) (zcI l).1 (λh=>by cases h) rfl (by simp;omega) (by simp;omega) ?_
  simp[zaQ,zay,zaV,zmg,zc7,zd7,splice,d]
  refine zav (σ++ [.var 112 (zah step l),.var 112 [.int .i64 step,.row (σ.length+2) l.length],.row 186 2 (zat l) false]) (.agg [.int .i64 step,.row (σ.length+2) l.length]) (by simp[za5,zay]) [] (by simp[zah]) (by simp) (by simp[AV.under]) (λi e a=> ?_) ⟨rfl,by simp[zah]⟩
  rcases yd2 i σ.length with c|b
  ·rw[yam c]at a
   exact .inl a
  ·rw[yak b]at a
   right
   obtain⟨j,f⟩:∃j,j=i-σ.length:=⟨_,rfl⟩
   rw[<-f]at a
   match j,a with
   |0,a=>
    simp at a;subst a
    simp[Entry.under,zah,AV.under]
   |1,a=>
    simp at a;subst a
    simp[Entry.under,AV.under]
   |2,a=>
    simp at a;subst a
    exact za3 (zcI l).2.1
   |j+3,a=>simp at a
theorem zpr (step:Nat)(l:List Slot)(hz:Sized step l)(h:zdc step l)(t:Nat)(ht:t≤1099511627776)(v:Int)(hv:v≠ -9223372036854775808):PCalls Tryz.prog zne [.agg (zah step l),.int .i64 t,.int .i64 v] (λr=>r=.tup [.agg (zah step (setR step l t v)),.int .i64 0]):=by
 refine zaa hmix znc rfl ?_
 have o:=zau l
 obtain⟨H,I,m,J⟩:=hz
 have M:(step:Int)≠0:=by omega
 have u:step≠0:=by omega
 have O:(l.length:Int)≠0:=by omega
 have w:l.length≠0:=by omega
 have d:l≠ []:=λe=>by rw[e]at m;simp at m
 have P:=yb7 t step
 have x:t/step≤t:=yc8 _ _
 obtain⟨a,b⟩:∃a,a=t/step*step:=⟨_,rfl⟩
 have y:a/step=t/step:=by rw[b];exact ydd _ (by omega)
 have f:t/step%l.length<l.length:=ybz _ (by omega)
 obtain⟨q,c⟩:∃q,q=t/step:=⟨_,rfl⟩
 obtain⟨p,k⟩:∃p,p=q%l.length:=⟨_,rfl⟩
 rw[<-c]at y x f
 rw[<-k]at f
 have z:(a:Int)/(step:Int)=(q:Int):=by rw[<-y];rfl
 have g:(a:Int).tdiv (step:Int)=(q:Int):=by rw[zt1,y]
 have A:IntKind.i64.wrap (q:Int)=(q:Int):=wrap_i64 (by omega) (by omega)
 have B:(q:Int).tmod (l.length:Int)=(p:Int):=by rw[zbM,k]
 have C:(q:Int)%(l.length:Int)=(p:Int):=by rw[k];rfl
 have E:=zpd (G:=G) step l ⟨H,I,m,J⟩ h t ht
 rw[<-b]at E
 simp[zho,zah]
 refine zac E (by simp[AV.pure,zah]) ?_
 rintro r rfl
 simp[hv]
 refine zam (zwC _ step l (by omega)) ?_
 rintro r σ ⟨rfl,rfl⟩
 obtain⟨s,K⟩:∃s,l[p]? =some s:=⟨l[p]'(by omega),yac (by omega)⟩
 have F:=zdi K
 obtain⟨L,n⟩:=yaa.1 F
 have i:p<l.length:=by omega
 have j:(zat l).set p [.int .i64 (a:Int),.int .i64 v]=zat (setR step l t v):=by
  rw[k,c,setR,<-zrX,b];rfl
 have D:l.length=(zat (setR step l t v)).length:=by rw[zau,zcM]
 simp[zah,z,g,A,B,C,M,u,O,w,d,o,i,F,n,zcP,splice,j]
 rw[if_pos D.symm]
 simp[zdW]
theorem z2d (step:Nat)(l:List Slot)(hz:Sized step l)(h:zdc step l)(t:Nat)(ht:t≤1099511627776):PCalls Tryz.prog znj [.agg (zah step l),.int .i64 t] (λr=>r=numA (numO (getR step l t))):=by
 refine zaa hmix znd rfl ?_
 have j:=zau l
 obtain⟨I,J,x,K⟩:=hz
 have D:(step:Int)≠0:=by omega
 have k:step≠0:=by omega
 have E:(l.length:Int)≠0:=by omega
 have m:l.length≠0:=by omega
 have c:l≠ []:=λe=>by rw[e]at x;simp at x
 have M:=yb7 t step
 have y:t/step≤t:=yc8 _ _
 obtain⟨a,f⟩:∃a,a=t/step*step:=⟨_,rfl⟩
 have z:a/step=t/step:=by rw[f];exact ydd _ (by omega)
 have b:t/step%l.length<l.length:=ybz _ (by omega)
 obtain⟨q,g⟩:∃q,q=t/step:=⟨_,rfl⟩
 obtain⟨p,w⟩:∃p,p=q%l.length:=⟨_,rfl⟩
 rw[<-g]at z y b
 rw[<-w]at b
 have n:(a:Int)/(step:Int)=(q:Int):=by rw[<-z];rfl
 have d:(a:Int).tdiv (step:Int)=(q:Int):=by rw[zt1,z]
 have o:IntKind.i64.wrap (q:Int)=(q:Int):=wrap_i64 (by omega) (by omega)
 have u:(q:Int).tmod (l.length:Int)=(p:Int):=by rw[zbM,w]
 have v:(q:Int)%(l.length:Int)=(p:Int):=by rw[w];rfl
 have F:=zpd (G:=G) step l ⟨I,J,x,K⟩ h t ht
 rw[<-f]at F
 simp[zhs,zah]
 refine zac F (by simp[AV.pure,zah]) ?_
 rintro r rfl
 obtain⟨s,C⟩:∃s,l[p]? =some s:=⟨l[p]'(by omega),yac (by omega)⟩
 have A:=zdi C
 obtain⟨L,i⟩:=yaa.1 A
 have H:getR step l t=if s.1=(a:Int)then some s.2 else none:=by
  unfold getR
  rw[<-g,<-w,C]
  simp only
  rw[g,<-f]
 by_cases B:s.1=(a:Int)
 ·simp[n,d,o,u,v,D,k,E,m,c,j,b,A,i,zcP,splice,B,H,numO,numA]
 ·simp[n,d,o,u,v,D,k,E,m,c,j,b,A,i,zcP,splice,B]
  refine zac zb3 (by simp) ?_
  rintro r rfl
  simp[H,B,numO,numA,zbL,splice]
theorem zpT (l:List Slot)(hl:l.length≤1000000):PCalls Tryz.prog zh4 [.lst (zat l),.lst (zat l)] (λr=>r=.bool true):=by
 refine zaa hmix zhL rfl ?_
 simp[zdP]
 have d:=zau l
 refine zag (λx f σ=>∃(i:Nat),x=l.length-i/\i≤l.length/\f 0=.lst (zat l)/\f 1=.lst (zat l)/\f 5=.int .i64 i/\σ= []) l.length ?_ ?_
 ·exact⟨0,by simp,by simp,by simp,by simp,by simp,by simp⟩
 rintro x f σ ⟨i,q,s,c,g,h,rfl⟩
 simp[c,h,d]
 refine zaq (λo=> ?_) (λp=> ?_)
 ·have a:i<l.length:=by omega
  have e:IntKind.i64.wrap ((i:Int)+1)=((i+1:Nat):Int):=by rw[wrap_i64 (by omega) (by omega)];omega
  obtain⟨n,k⟩:∃n,l[i]? =some n:=⟨_,yac a⟩
  have j:=zdi k
  obtain⟨m,b⟩:=yaa.1 j
  simp[c,g,h,j,b,zcP,zi5,e]
  exact zad (l.length-(i+1)) (by omega) ⟨i+1,rfl,by omega,by simp[c],by simp[g],by simp,rfl⟩
 ·simp
theorem zse (step:Nat)(l:List Slot)(hl:l.length≤1000000):PCalls Tryz.prog zl3 [.agg (zah step l),.agg (zah step l)] (λr=>r=.bool true):=by
 refine zaa hmix zl9 rfl ?_
 simp[zgA,zah]
 refine zac (zpT l hl) (by simp[AV.pure]) ?_
 rintro r rfl
 simp
theorem zj6 (l:LadM):Els 2 (zan l):=by
 refine⟨λc a=> ?_,λc a=> ?_,λc a=> ?_⟩<;>
 ·simp[zan]at a
  rcases a with rfl|rfl<;>simp[zah,AV.pure,AV.one]
theorem znr (l:LadM)(h:RightL l):PCalls Tryz.prog zli [.agg (ladC l),.agg (ladC l)] (λr=>r=.bool true):=by
 refine zaa hmix zmq rfl ?_
 simp[zgq,ladC,zan]
 refine zag (λx f σ=>∃(i:Nat),x=2-i/\i≤2/\f 2=.ptr 0 0/\f 3=.ptr 1 0/\f 5=.int .i64 i/\σ= [.var 55 (ladC l),.var 55 (ladC l)]) 2 ?_ ?_
 ·exact⟨0,by simp,by simp,by simp,by simp,by simp,by simp[ladC,zan]⟩
 rintro x f σ ⟨i,e,g,a,b,c,rfl⟩
 have d:i=0∨i=1∨i=2:=by omega
 rcases d with rfl|rfl|rfl
 ·simp[a,b,c,ladC,zan,zah]
  refine zap (zse 10 l.fine (by rw[h.n1];omega)) (by simp[AV.pure,zah]) (by simp) ?_
  simp[c,wk1]
  exact zad 1 (by omega) ⟨1,rfl,by omega,by simp[a],by simp[b],by simp,by simp[ladC,zan,zah]⟩
 ·simp[a,b,c,ladC,zan,zah]
  refine zap (zse 60 l.wide (by rw[h.n2];omega)) (by simp[AV.pure,zah]) (by simp) ?_
  simp[c,wk2]
  exact zad 0 (by omega) ⟨2,rfl,by omega,by simp[a],by simp[b],by simp,by simp[ladC,zan,zah]⟩
 ·simp[a,b,c,ladC,zan]
theorem ziN (a b:Nat)(h1:1≤a)(h2:a≤86400)(h3:1≤b)(h4:b≤400):PCalls Tryz.prog zjL [.agg [.int .i64 a,.int .i64 b]] (λr=>r=.bool true):=by
 refine zaa hmix zjF rfl ?_
 have e:(1:Int)≤a:=by omega
 have f:(a:Int)≤86400:=by omega
 have g:(1:Int)≤b:=by omega
 have h:(b:Int)≤400:=by omega
 have c:0<a:=by omega
 have d:0<b:=by omega
 simp[zft,e,f,g,h,h1,h2,h3,h4,c,d]
theorem zpD (a b:Nat)(h1:1≤a)(h2:a≤86400)(h3:1≤b)(h4:b≤400):PCalls Tryz.prog zkx [.agg [.int .i64 a,.int .i64 b]] (λr=>r=.int .i64 (a*b:Nat)):=by
 refine zaa hmix zkv rfl ?_
 have d:a*b≤86400*400:=yej h2 h4
 have c:IntKind.i64.wrap ((a:Int)*b)=((a*b:Nat):Int):=by
  have e:(a:Int)*b=((a*b:Nat):Int):=by rw[ydm]
  rw[e];exact wrap_i64 (by omega) (by omega)
 simp[zgj]
 refine zac (ziN a b h1 h2 h3 h4) (by simp) ?_
 rintro r rfl
 simp[c]
theorem zkp:PCalls Tryz.prog zir [.lst rungsC] (λr=>r=.bool true):=by
 refine zaa hmix zip rfl ?_
 simp[ze7,rungsC]
 refine zag (λx f σ=>∃(i:Nat),x=2-i/\i≤2/\f 0=.lst rungsC/\f 3=.int .i64 i/\σ= []) 2 ?_ ?_
 ·exact⟨0,by simp,by simp,by simp[rungsC],by simp,by simp⟩
 rintro x f σ ⟨i,e,j,a,b,rfl⟩
 have d:i=0∨i=1∨i=2:=by omega
 rcases d with rfl|rfl|rfl
 ·simp[a,b,rungsC]
  refine zac (ziN 10 6 (by omega) (by omega) (by omega) (by omega)) (by simp) ?_
  rintro r rfl
  simp[b,wk1]
  exact zad 1 (by omega) ⟨1,rfl,by omega,by simp[a,rungsC],by simp,rfl⟩
 ·simp[a,b,rungsC]
  refine zac (ziN 60 5 (by omega) (by omega) (by omega) (by omega)) (by simp) ?_
  rintro r rfl
  simp[b,wk2]
  exact zad 0 (by omega) ⟨2,rfl,by omega,by simp[a,rungsC],by simp,rfl⟩
 ·simp[a,b,rungsC]
  refine zag (λx f σ=>∃(i:Nat),x=2-i/\(i=1∨i=2)/\f 0=.lst rungsC/\f 4=.int .i64 i/\(i=1->σ= [])) 1 ?_ ?_
  ·exact⟨1,by omega,.inl rfl,by simp[a,rungsC],by simp,λ_=>rfl⟩
  clear a b
  rintro x f σ ⟨i,e,rfl|rfl,a,c,g⟩
  ·obtain rfl:=g rfl
   simp[a,c,rungsC,wk0]
   refine⟨?_, ?_⟩
   all_goals
    refine zap (zpD 60 5 (by omega) (by omega) (by omega) (by omega)) (by simp) (by simp) ?_
    simp
    refine zap (zpD 10 6 (by omega) (by omega) (by omega) (by omega)) (by simp) (by simp) ?_
    simp[c,wk2,wk6]
    exact zad 0 (by omega) ⟨2,by omega,.inr rfl,by simp[a,rungsC],by simp,λh=>by omega⟩
  ·simp[a,c,rungsC]
theorem zwM (l:LadM)(h:RightL l):PCalls Tryz.prog zkw [.agg (ladC l)] (λr=>r=.lst rungsC):=by
 refine zaa hmix zle rfl ?_
 have g:=zau l.fine
 have j:=zau l.wide
 rw[h.n1]at g
 rw[h.n2]at j
 simp[zfU,ladC,zan]
 refine zag (λx f σ=>∃(i:Nat),x=2-i/\i≤2/\f 1=.ptr 0 0/\f 4=.int .i64 i/\((i=0/\f 3=.nils/\σ= [.var 55 (ladC l)])∨(0<i/\f 3=.row 1 i/\σ= [.var 55 (ladC l),.row 119 2 (rungsC.take i) true]))) 2 ?_ ?_
 ·exact⟨0,by simp,by simp,by simp,by simp,.inl ⟨rfl,by simp,by simp[ladC,zan]⟩⟩
 rintro x f σ ⟨i,k,m,b,c,d⟩
 have e:i=0∨i=1∨i=2:=by omega
 rcases e with rfl|rfl|rfl
 ·obtain⟨_,a,rfl⟩:0=0/\f 3=.nils/\σ= [.var 55 (ladC l)]:=by
   rcases d with h|⟨h,_⟩
   ·exact h
   ·omega
  simp[b,a,c,ladC,zan,zah,g]
  refine zeX true [[.int .i64 10,.int .i64 6]] (by simp[view]) (by decide) (by simp) (λ_=> .inl (by simp[zfK])) (by simp) (by simp) ?_
  simp[c,wk1]
  exact zad 1 (by omega) ⟨1,rfl,by omega,by simp[b],by simp,.inr ⟨by omega,by simp,by simp[ladC,zan,zah,rungsC]⟩⟩
 ·obtain⟨_,a,rfl⟩:0<1/\f 3=.row 1 1/\σ= [.var 55 (ladC l),.row 119 2 (rungsC.take 1) true]:=by
   rcases d with ⟨h,_⟩|h
   ·omega
   ·exact h
  simp[b,a,c,ladC,zan,zah,j,rungsC]
  refine zbm [[.int .i64 10,.int .i64 6]] [[.int .i64 60,.int .i64 5]] true (by simp) (by simp[view]) (by decide) (by simp) (λ_=> .inl (by simp[zfK])) rfl (by simp) (by simp) ?_
  simp[c,wk2]
  exact zad 0 (by omega) ⟨2,rfl,by omega,by simp[b],by simp,.inr ⟨by omega,by simp,by simp[ladC,zan,zah,rungsC]⟩⟩
 ·obtain⟨_,a,rfl⟩:0<2/\f 3=.row 1 2/\σ= [.var 55 (ladC l),.row 119 2 (rungsC.take 2) true]:=by
   rcases d with ⟨h,_⟩|h
   ·omega
   ·exact h
  simp[b,a,c,ladC,zan,rungsC]
theorem zq8 {l:LadM}(h:RightL l):Sized 10 l.fine:=⟨by omega,by omega,by rw[h.n1];omega,by rw[h.n1];omega⟩
theorem zor {l:LadM}(h:RightL l):Sized 60 l.wide:=⟨by omega,by omega,by rw[h.n2];omega,by rw[h.n2];omega⟩
theorem ztR:PCalls Tryz.prog zm0 [.int .i64 1,.int .i64 500000] (λr=>r=.bool true):=by
 refine zaa hmix znu rfl ?_
 simp[zhr]
theorem zqd (l:LadM)(h:RightL l):PCalls Tryz.prog zkB [.agg (ladC l)] (λr=>r=.bool true):=by
 refine zaa hmix zk3 rfl ?_
 simp[zfS,ladC]
 refine zac ztR (by simp) ?_
 rintro r rfl
 simp
 refine zac (zwM l h) (by simp[AV.pure,ladC]) ?_
 rintro r rfl
 simp
 refine zac zkp (by simp[AV.pure]) ?_
 rintro r rfl
 simp
 refine zag (λx f σ=>∃(i:Nat),x=2-i/\i≤2/\f 1=.ptr 0 0/\f 3=.int .i64 i/\σ= [.var 55 (ladC l)]) 2 ?_ ?_
 ·exact⟨0,by simp,by simp,by simp,by simp,by simp[ladC]⟩
 rintro x f σ ⟨i,d,e,a,b,rfl⟩
 have c:i=0∨i=1∨i=2:=by omega
 rcases c with rfl|rfl|rfl
 ·simp[a,b,ladC,zan,zah]
  refine zac (zky 10 l.fine (zq8 h) h.r1) (by simp[AV.pure,zah]) ?_
  rintro r rfl
  simp[b,wk1]
  exact zad 1 (by omega) ⟨1,rfl,by omega,by simp[a],by simp,by simp[ladC,zan,zah]⟩
 ·simp[a,b,ladC,zan,zah]
  refine zac (zky 60 l.wide (zor h) h.r2) (by simp[AV.pure,zah]) ?_
  rintro r rfl
  simp[b,wk2]
  exact zad 0 (by omega) ⟨2,rfl,by omega,by simp[a],by simp,by simp[ladC,zan,zah]⟩
 ·simp[a,b,ladC,zan]
theorem ztA (step n:Nat)(h1:1≤step)(h2:step≤86400)(h3:1≤n)(h4:n≤400):PCalls Tryz.prog zmE [.int .i64 step,.int .i64 n] (λr=>r=.tup [.agg (zah step (List.replicate n (-1,0))),.int .i64 0]):=by
 refine zaa hmix zmD rfl ?_
 have v:¬((step:Int)<1):=by omega
 have w:¬((86400:Int)<step):=by omega
 have y:¬((n:Int)<1):=by omega
 have z:¬((400:Int)<n):=by omega
 have g:step≠0:=by omega
 have h:¬(86400<step):=by omega
 have j:n≠0:=by omega
 have k:¬(400<n):=by omega
 simp[zht,v,w,y,z,g,h,j,k]
 refine zag (λx f σ=>∃(i:Nat),x=n-i/\i≤n/\f 1=.int .i64 n/\f 4=.ptr 0 0/\f 6=.ptr 1 0/\f 7=.int .i64 i/\((i=0/\σ= [.var 112 [.int .i64 0,.nils],.var 112 [.int .i64 step,.nils]])∨(0<i/\σ= [.var 112 [.int .i64 0,.nils],.var 112 [.int .i64 step,.row 2 i],.row 186 2 (zat (List.replicate i (-1,0))) true]))) n ?_ ?_
 ·exact⟨0,by simp,by simp,by simp,by simp,by simp,by simp,.inl ⟨rfl,by simp⟩⟩
 rintro x f σ ⟨i,A,B,c,d,a,e,p⟩
 simp[c,e]
 refine zaq (λt=> ?_) (λu=> ?_)
 ·have q:i<n:=by omega
  have l:IntKind.i64.wrap ((i:Int)+1)=((i+1:Nat):Int):=by rw[wrap_i64 (by omega) (by omega)];omega
  rcases p with ⟨rfl,rfl⟩|⟨s,rfl⟩
  ·simp[a]
   refine zeX true [[.int .i64 (-1),.int .i64 0]] (by simp[view]) (by decide) (by simp) (λ_=> .inl (by simp[zfK])) (by simp) (by simp) ?_
   simp[a,e,wk1,splice]
   exact zad (n-1) (by omega) ⟨1,rfl,by omega,by simp[c],by simp[d],by simp[a],by simp,.inr ⟨by omega,by simp[zat,zcP]⟩⟩
  ·simp[a]
   have b:(zat (List.replicate i ((-1:Int),(0:Int)))).length=i:=by simp[zat]
   refine zbm (zat (List.replicate i (-1,0))) [[.int .i64 (-1),.int .i64 0]] true (by simp) (by simp[view]) (by decide) (by simp) (λ_=> .inl (by simp[zfK])) b (by simp;omega) (by simp;omega) ?_
   have m:zat (List.replicate i ((-1:Int),(0:Int)))++ [[.int .i64 (-1),.int .i64 0]]=zat (List.replicate (i+1) (-1,0)):=by
    rw[List.replicate_succ',zxw];rfl
   rw[m]
   simp[a,e,l,splice]
   exact zad (n-(i+1)) (by omega) ⟨i+1,rfl,by omega,by simp[c],by simp[d],by simp[a],by simp,.inr ⟨by omega,by simp⟩⟩
 ·have o:i=n:=by omega
  subst o
  rcases p with ⟨rfl,rfl⟩|⟨s,rfl⟩
  ·omega
  ·have b:(zat (List.replicate i ((-1:Int),(0:Int)))).length=i:=by simp[zat]
   simp[d,a,splice,b,zah]
def schC:List AV:= [.lst rungsC,.int .i64 1,.int .i64 500000]
theorem z0X:PCalls Tryz.prog znq [.agg schC] (λr=>r=.tup [.agg (ladC newL),.int .i64 0]):=by
 refine zaa hmix znt rfl ?_
 simp[zhh,schC]
 refine zac ztR (by simp) ?_
 rintro r rfl
 simp
 refine zac zkp (by simp[AV.pure]) ?_
 rintro r rfl
 simp
 refine zag (λx f σ=>∃(i:Nat),x=2-i/\i≤2/\f 1=.ptr 0 0/\f 2=.ptr 1 0/\f 4=.ptr 2 0/\f 5=.int .i64 i/\
  ((i=0/\σ= [.var 52 schC,.var 55 [.int .i64 0,.int .i64 0,.nils],.var 55 [.int .i64 1,.int .i64 500000,.nils]])∨
   (i=1/\∃e,σ= [.var 52 schC,.var 55 [.int .i64 0,.int .i64 0,.nils],.var 55 [.int .i64 1,.int .i64 500000,.row 4 1],e,.row 112 2 ((zan newL).take 1) true])∨
   (i=2/\∃e g,σ= [.var 52 schC,.var 55 [.int .i64 0,.int .i64 0,.nils],.var 55 [.int .i64 1,.int .i64 500000,.row 4 2],e,.row 112 2 (zan newL) true,g]))) 2 ?_ ?_
 ·exact⟨0,by simp,by simp,by simp,by simp,by simp,by simp,.inl ⟨rfl,by simp[schC]⟩⟩
 rintro x f σ ⟨i,h,j,b,d,a,c,⟨rfl,rfl⟩|⟨rfl,e,rfl⟩|⟨rfl,e,g,rfl⟩⟩
 ·simp[b,a,c,schC,rungsC]
  refine zbu (ztA 10 6 (by omega) (by omega) (by omega) (by omega)) (by simp) ?_
  simp[b,a,c,splice,zah]
  refine zeX true [zah 10 (List.replicate 6 (-1,0))] (by simp[view,zah]) (by decide) (by simp[zah]) (λ_=> .inl (by simp[zfK,zah])) (by simp) (by simp) ?_
  simp[a,c,splice,wk1]
  exact zad 1 (by omega) ⟨1,rfl,by omega,by simp[b],by simp[d],by simp[a],by simp,.inr (.inl ⟨rfl,_,by simp[schC,rungsC,zan,newL];rfl⟩)⟩
 ·simp[b,a,c,schC,rungsC]
  refine zbu (ztA 60 5 (by omega) (by omega) (by omega) (by omega)) (by simp) ?_
  simp[b,a,c,splice,zah]
  refine zbm [zah 10 (List.replicate 6 (-1,0))] [zah 60 (List.replicate 5 (-1,0))] true (by simp[zan,newL,zah]) (by simp[view,zah]) (by decide) (by simp[zah]) (λ_=> .inl (by simp[zfK,zah])) rfl (by simp) (by simp) ?_
  simp[a,c,splice,wk2]
  exact zad 0 (by omega) ⟨2,rfl,by omega,by simp[b],by simp[d],by simp[a],by simp,.inr (.inr ⟨rfl,e,_,by simp[schC,rungsC,zan,newL];rfl⟩)⟩
 ·simp[b,d,a,c,schC,rungsC,splice,zan,ladC,zah]
theorem zrF (σ:zab)(l:LadM)(h:RightL l):ACalls Tryz.prog zlG [.agg (ladC l)] σ (λr σ'=>r=.agg [.int .i64 1,.int .i64 500000,.row (σ.length+3) 2]/\σ'=σ++ [.var 55 (ladC l),.var 55 [.int .i64 1,.int .i64 500000,.row (σ.length+3) 2],.var 55 [.int .i64 1,.int .i64 500000,.row (σ.length+3) 2],.row 112 2 (zan l) false]):=by
 refine zaf hmix zlS rfl ?_
 simp[zgw,ladC]
 obtain⟨A,m⟩:∃A:Entry,A=.var 55 (ladC l):=⟨_,rfl⟩
 obtain⟨B,w⟩:∃B:Entry,B=.var 55 [.int .i64 0,.int .i64 0,.nils]:=⟨_,rfl⟩
 refine zag (λx f σ'=>∃(i:Nat),x=2-i/\i≤2/\f 1=.ptr σ.length 0/\f 2=.ptr (σ.length+1) 0/\f 3=.ptr (σ.length+2) 0/\f 4=.int .i64 i/\
  ((i=0/\σ'=σ++ [A,B,.var 55 [.int .i64 1,.int .i64 500000,.nils]])∨
   (0<i/\σ'=σ++ [A,B,.var 55 [.int .i64 1,.int .i64 500000,.row (σ.length+3) i],.row 112 2 ((zan l).take i) false]))) 2 ?_ ?_
 ·exact⟨0,by simp,by simp,by simp,by simp,by simp,by simp,.inl ⟨rfl,by simp[m,w,ladC]⟩⟩
 rintro x f σ' ⟨i,D,E,o,n,k,p,s⟩
 have y:∀(a b c d:Entry),(σ++ [a,b,c,d])[σ.length+3]? =some d:=λa b c d=>by
  rw[yak (by omega),ya2];rfl
 have C:∀(a b c d e:Entry),(σ++ [a,b,c,d]).set (σ.length+3) e=σ++ [a,b,c,e]:=λa b c d e=>by
  rw[ybl _ _ (by omega),ya2];rfl
 have u:i=0∨i=1∨i=2:=by omega
 rcases u with rfl|rfl|rfl
 ·obtain⟨_,rfl⟩:0=0/\σ'=σ++ [A,B,.var 55 [.int .i64 1,.int .i64 500000,.nils]]:=by
   rcases s with h|⟨h,_⟩
   ·exact h
   ·omega
  simp[o,n,k,p,m,ladC,zan,zaQ,zay,zaV]
  refine⟨?_, ?_⟩
  all_goals
   simp[zah]
   refine zac (zrM 10 l.fine (by rw[h.n1];omega)) (by simp[AV.pure,zah]) ?_
   rintro r rfl
   simp[k,zah,zaV]
   refine zeX false [zah 10 l.fine] (by simp[view,zah]) (by decide) (by simp[zah]) (λh=>by cases h) (by simp) (by simp) ?_
   simp[k,p,wk1,zaV,zd7,splice]
   exact zad 1 (by omega) ⟨1,rfl,by omega,by simp[o],by simp[n],by simp[k],by simp,.inr ⟨by omega,by simp[m,ladC,zan,zah]⟩⟩
 ·obtain⟨_,rfl⟩:0<1/\σ'=σ++ [A,B,.var 55 [.int .i64 1,.int .i64 500000,.row (σ.length+3) 1],.row 112 2 ((zan l).take 1) false]:=by
   rcases s with ⟨h,_⟩|h
   ·omega
   ·exact h
  simp[o,n,k,p,m,ladC,zan,zaQ,zay,zaV]
  refine⟨?_, ?_⟩
  all_goals
   simp[zah]
   refine zac (zrM 60 l.wide (by rw[h.n2];omega)) (by simp[AV.pure,zah]) ?_
   rintro r rfl
   simp[k,zah,zaV]
   refine zbm [zah 10 l.fine] [zah 60 l.wide] false (by simp[y,zah]) (by simp[view,zah]) (by decide) (by simp[zah]) (λh=>by cases h) rfl (by simp) (by simp) ?_
   simp[k,p,wk2,zaV,zd7,splice,y,C]
   exact zad 0 (by omega) ⟨2,rfl,by omega,by simp[o],by simp[n],by simp[k],by simp,.inr ⟨by omega,by simp[m,ladC,zan,zah]⟩⟩
 ·obtain⟨_,rfl⟩:0<2/\σ'=σ++ [A,B,.var 55 [.int .i64 1,.int .i64 500000,.row (σ.length+3) 2],.row 112 2 ((zan l).take 2) false]:=by
   rcases s with ⟨h,_⟩|h
   ·omega
   ·exact h
  have v:A=.var 55 [.int .i64 1,.int .i64 500000,.lst (zan l)]:=m
  simp[o,n,k,p,v,w,zaQ,zay,zaV,zc7,splice,zan]
  refine zav _ (.agg [.int .i64 1,.int .i64 500000,.row (σ.length+3) 2]) (by simp[za5,n,zay]) [] (yb4 _).symm (by simp) (by simp[AV.under]) (λi e g=> ?_) ⟨rfl,rfl⟩
  rcases yd2 i σ.length with t|q
  ·rw[yam t]at g
   exact .inl g
  ·rw[yak q]at g
   right
   obtain⟨j,z⟩:∃j,j=i-σ.length:=⟨_,rfl⟩
   rw[<-z]at g
   match j,g with
   |0,g=>
    simp at g;subst g
    simp[Entry.under,AV.under]
   |1,g=>
    simp at g;subst g
    simp[Entry.under,AV.under]
   |2,g=>
    simp at g;subst g
    simp[Entry.under,AV.under]
   |3,g=>
    simp at g;subst g
    exact za3 (zj6 l).2.1
   |j+4,g=>simp at g
theorem zlI (step:Nat)(l:List Slot)(hz:Sized step l)(t now:Nat)(ht:t≤1099511627776)(hn:now≤1099511627776):PCalls Tryz.prog zjd [.agg (zah step l),.int .i64 t,.int .i64 now] (λr=>r=.bool (decide (now<t/step*step+step*l.length))):=by
 refine zaa hmix zi7 rfl ?_
 obtain⟨m,g,n,h⟩:=hz
 have j:(step:Int)≠0:=by omega
 have a:step≠0:=by omega
 have b:=zau l
 have o:step*l.length≤86400*400:=yej g h
 have p:=yb7 t step
 simp[zfn,zah,j,a]
 have kR:PCalls Tryz.prog zk0 [.agg (zah step l)] (λr=>r=.int .i64 (step*l.length:Nat)):=by
  refine zaa hmix zkQ rfl ?_
  have k:IntKind.i64.wrap ((step:Int)*l.length)=((step*l.length:Nat):Int):=by
   have e:(step:Int)*l.length=((step*l.length:Nat):Int):=by rw[ydm]
   rw[e];exact wrap_i64 (by omega) (by omega)
  simp[zfQ,zah,b,k]
 refine zap kR (by simp[AV.pure,zah]) (by simp) ?_
 obtain⟨A,f⟩:∃A,A=t/step*step:=⟨_,rfl⟩
 obtain⟨B,i⟩:∃B,B=step*l.length:=⟨_,rfl⟩
 have c:IntKind.i64.wrap ((t:Int)-(t:Int).tmod step)=(A:Int):=by rw[zbM,zmB,f];exact wrap_i64 (by omega) (by omega)
 have d:IntKind.i64.wrap ((now:Int)-B)=(now:Int)-B:=wrap_i64 (by omega) (by omega)
 rw[<-f,<-i]
 simp[c,d]
 omega
end Go.Proofs.YtdbhocoeolhjhaaGreatDoor
end
