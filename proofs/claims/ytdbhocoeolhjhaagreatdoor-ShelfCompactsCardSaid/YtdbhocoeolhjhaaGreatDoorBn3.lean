/- Numbers: the functions of fixed and wide. Numbers: a quotient of 128 bits. Numbers: quotients of wide, and of fixed. Numbers: the document's numbers o -/
import Derived.Test.YtdbhocoeolhjhaaGreatDoorCode
import Derived.Test.YtdbhocoeolhjhaaGreatDoorShelf
import Derived.Test.YtdbhocoeolhjhaaGreatDoorAbs2
import Derived.Lib.ItoaNum
import Derived.Test.YtdbhocoeolhjhaaGreatDoorBn1
import Derived.Test.YtdbhocoeolhjhaaGreatDoorBn2
set_option linter.unusedSimpArgs false
set_option linter.unusedVariables false
set_option linter.constructorNameAsVariable false
section
set_option maxHeartbeats 1000000
namespace Go.Num
open Go.Abs
def numA (n:N):AV:=.agg [.bool n.1,.int .i64 n.2]
def wA (n:Nat):AV:=.agg [.int .u64 ((n/18446744073709551616:Nat):Int),.int .u64 ((n%18446744073709551616:Nat):Int)]
def okN (n:N):Prop:= -9223372036854775808≤n.2∧n.2≤9223372036854775807
theorem zbg (x:Int):IntKind.u64.wrap x=x%18446744073709551616:=by simp [IntKind.wrap,IntKind.signed,IntKind.bits]
theorem zdD {x:Int} (h1: -9223372036854775808≤x) (h2:x≤9223372036854775807):IntKind.i64.wrap x=x:=wrap_i64 h1 h2
theorem zaB (s:Int):okN (tell s):=by
 unfold tell okN
 split
 ·rename_i h;simp only [most] at h;simp only;omega
 ·simp [zbH]
theorem zmO:okN zbH:=by simp [okN,zbH]
theorem z7v (a b:N):okN (addN a b):=by
 unfold addN;split
 ·exact zaB _
 ·exact zmO
theorem z7c {a b:N} (ha:okN a) (hb:okN b):okN (zpH a b):=by
 unfold zpH;repeat' split
 all_goals first|exact ha|exact hb|exact zmO
theorem z6Y {a b:N} (ha:okN a) (hb:okN b):okN (zpI a b):=by
 unfold zpI;repeat' split
 all_goals first|exact ha|exact hb|exact zmO
theorem zxt (a:Nat) (h:a<18446744073709551616):zca .and .u64 (a:Int) 4294967295=some ((a%4294967296:Nat):Int):=by
 have e:(BitVec.ofInt 64 (a:Int)&&&BitVec.ofInt 64 4294967295).toNat=a%4294967296:=by
  rw [yef,zwX a h,show (BitVec.ofInt 64 4294967295).toNat=2^32-1 by decide,Nat.and_two_pow_sub_one_eq_mod]
 show some (IntKind.u64.wrap ((BitVec.ofInt 64 (a:Int)&&&BitVec.ofInt 64 4294967295).toNat:Int))=_
 rw [e,zdU _ (by omega)]
theorem z5T {hi lo y s:Nat} (hhi:hi<y) (hy:y*2^s<18446744073709551616) (hs:s≤63) (hlo:lo<18446744073709551616):(hi*2^s%18446744073709551616|||lo/2^(64-s))=hi*2^s+lo/2^(64-s):=by
 have h1:hi*2^s<18446744073709551616:=ycg (yas _ (ydx hhi)) hy
 rw [ybr h1]
 have h2:lo/2^(64-s)<2^s:=by
  rw [ych (yc1 _),←yd9,show s+(64-s)=64 by omega];exact hlo
 have:=ycs h2 hi
 rw [ybl (2^s) hi] at this
 exact this.symm
theorem zvi {y:Nat} (h0:0<y) (h:y<18446744073709551616):∃s:Nat,s≤63∧Lib.bitLen y=64-s∧9223372036854775808≤y*2^s∧y*2^s<18446744073709551616:=by
 obtain ⟨h1,h2,h3⟩:=Lib.bitLenAux_bounds 64 y (by simpa using h) (by omega)
 have h4:Lib.bitLen y≤64:=Lib.bitLen_le y 64 (by decide) (by simpa using h)
 change 1≤Lib.bitLen y at h1
 change 2^(Lib.bitLen y-1)≤y at h2
 change y<2^Lib.bitLen y at h3
 refine ⟨64-Lib.bitLen y,by omega,by omega, ?_, ?_⟩
 ·have e:2^(Lib.bitLen y-1)*2^(64-Lib.bitLen y)=9223372036854775808:=by
   rw [←yd9,show Lib.bitLen y-1+(64-Lib.bitLen y)=63 by omega]
  rw [←e];exact yas _ h2
 ·have e:2^Lib.bitLen y*2^(64-Lib.bitLen y)=18446744073709551616:=by
   rw [←yd9,show Lib.bitLen y+(64-Lib.bitLen y)=64 by omega]
  rw [←e];exact Nat.mul_lt_mul_of_pos_right h3 (yc1 _)
end Go.Num
namespace Go.Proofs.YtdbhocoeolhjhaaGreatDoor
open Go.Abs Go.Num
variable {G:Globs}
theorem zob (n:N):PCalls Tryz.prog zrx [numA n] (fun r=>r=.bool (good n)):=by
 refine zaa hmix zsv rfl ?_
 obtain ⟨b,v⟩:=n
 cases b<;>simp [zlj,numA,good,most]
theorem zcu:PCalls Tryz.prog zpr [] (fun r=>r=numA zbH):=by
 refine zaa hmix zp5 rfl ?_
 simp [zi8,numA,zbH]
theorem z1T (n:N) (h: -9223372036854775807≤n.2) (h2:n.2≤9223372036854775807):PCalls Tryz.prog zt5 [numA n] (fun r=>r=.tup [.int .u64 n.2.natAbs,.bool (decide (n.2<0))]):=by
 refine zaa hmix ztI rfl ?_
 obtain ⟨b,v⟩:=n
 simp only at h h2
 simp [znk,numA]
 refine zax (fun hlt=> ?_) (fun hge=> ?_)
 ·have hw:IntKind.i64.wrap (-v)= -v:=zdD (by omega) (by omega)
  have hw2:IntKind.u64.wrap (-v)= -v:=by rw [zbg];omega
  simp [hw,hw2,hlt]
  omega
 ·have hw2:IntKind.u64.wrap v=v:=by rw [zbg];omega
  have hn:¬v<0:=by omega
  simp [hw2,hn]
  omega
theorem z6M (n:Nat) (hn:n<18446744073709551616) (b:Bool):PCalls Tryz.prog zsY [.int .u64 n,.bool b] (fun r=>r=numA (tell (sgn b n))):=by
 refine zaa hmix ztp rfl ?_
 simp [znc]
 refine zax (fun hlt=> ?_) (fun hge=> ?_)
 ·simp
  refine zad zcu (by simp) ?_
  rintro r rfl
  have:tell (sgn b n)=zbH:=by
   unfold tell sgn most
   cases b<;>simp<;>omega
  simp [this,numA]
 ·have hw:IntKind.i64.wrap (n:Int)=n:=zdD (by omega) (by omega)
  have hw2:IntKind.i64.wrap (-(n:Int))= -n:=zdD (by omega) (by omega)
  cases b
  ·have:tell (sgn false n)=(false,(n:Int)):=by
    unfold tell sgn most;simp;omega
   simp [hw,this,numA]
  ·have:tell (sgn true n)=(false, -(n:Int)):=by
    unfold tell sgn most;simp;omega
   simp [hw,hw2,this,numA]
theorem z03 (n:Int) (h0: -9223372036854775808≤n) (h1:n≤9223372036854775807):PCalls Tryz.prog zpl [.int .i64 n] (fun r=>r=numA (tell (n*1000000))):=by
 refine zaa hmix zvL rfl ?_
 by_cases hc:9223372036854<n∨n< -9223372036854
 ·have ht:tell (n*1000000)=zbH:=by unfold tell most;rw [if_neg];omega
  have e:(decide (9223372036854<n)||decide (n< -9223372036854))=true:=by simpa using hc
  rcases Decidable.em (9223372036854<n) with h|h
  ·simp [zhx,h]
   refine zad zcu (by simp) ?_
   rintro r rfl
   simp [ht,numA]
  ·have h':n< -9223372036854:=by omega
   simp [zhx,h,h']
   refine zad zcu (by simp) ?_
   rintro r rfl
   simp [ht,numA]
 ·have a1:¬9223372036854<n:=by omega
  have a2:¬n< -9223372036854:=by omega
  have ht:tell (n*1000000)=(false,n*1000000):=by unfold tell most;rw [if_pos];omega
  have hw:IntKind.i64.wrap (n*1000000)=n*1000000:=zdD (by omega) (by omega)
  simp [zhx,a1,a2,hw,ht,numA]
theorem z6d (a b:N) (ha:okN a) (hb:okN b):PCalls Tryz.prog zow [numA a,numA b] (fun r=>r=numA (addN a b)):=by
 refine zaa hmix zuF rfl ?_
 obtain ⟨a1,a2⟩:=ha
 obtain ⟨b1,b2⟩:=hb
 simp [zps,numA]
 refine zad (zob a) (by simp [numA]) ?_
 rintro r rfl
 by_cases hga:good a=true
 ·simp [hga]
  refine zad (zob b) (by simp [numA]) ?_
  rintro r rfl
  by_cases hgb:good b=true
  ·obtain ⟨x,v⟩:=a
   obtain ⟨y,u⟩:=b
   simp only at a1 a2 b1 b2
   obtain ⟨hx,hv⟩:=zfu.1 hga
   obtain ⟨hy,hu⟩:=zfu.1 hgb
   simp only [most] at hx hv hy hu
   subst hx hy
   have e:addN (false,v) (false,u)=tell (v+u):=by simp [addN,hga,hgb]
   rw [e]
   simp [hgb]
   by_cases hu0:0<u
   ·have hw:IntKind.i64.wrap (9223372036854775807-u)=9223372036854775807-u:=zdD (by omega) (by omega)
    have hu1:¬u<0:=by omega
    by_cases hov:9223372036854775807-u<v
    ·have ht:tell (v+u)=zbH:=by unfold tell most;rw [if_neg];omega
     simp [hu0,hw,hov,ht]
     refine zad zcu (by simp) ?_
     rintro r rfl
     simp [numA,ht]
    ·have ht:tell (v+u)=(false,v+u):=by unfold tell most;rw [if_pos];omega
     have hw2:IntKind.i64.wrap (v+u)=v+u:=zdD (by omega) (by omega)
     simp [hu0,hu1,hw,hov,ht,hw2]
   ·by_cases hu1:u<0
    ·have hw:IntKind.i64.wrap (-9223372036854775807-u)= -9223372036854775807-u:=zdD (by omega) (by omega)
     by_cases hov:v< -9223372036854775807-u
     ·have ht:tell (v+u)=zbH:=by unfold tell most;rw [if_neg];omega
      simp [hu0,hu1,hw,hov,ht]
      refine zad zcu (by simp) ?_
      rintro r rfl
      simp [numA,ht]
     ·have ht:tell (v+u)=(false,v+u):=by unfold tell most;rw [if_pos];omega
      have hw2:IntKind.i64.wrap (v+u)=v+u:=zdD (by omega) (by omega)
      simp [hu0,hu1,hw,hov,ht,hw2]
    ·have ht:tell (v+u)=(false,v+u):=by unfold tell most;rw [if_pos];omega
     have hw2:IntKind.i64.wrap (v+u)=v+u:=zdD (by omega) (by omega)
     simp [hu0,hu1,ht,hw2]
  ·have hgb':good b=false:=by simpa using hgb
   simp [hgb']
   refine zad zcu (by simp) ?_
   rintro r rfl
   simp [addN,hga,hgb',numA]
 ·have hga':good a=false:=by simpa using hga
  simp [hga']
  refine zad zcu (by simp) ?_
  rintro r rfl
  simp [addN,hga',numA]
theorem zwK (x y:Nat) (hx:x<18446744073709551616) (hy:y<18446744073709551616):PCalls Tryz.prog 312 [.int .u64 x,.int .u64 y] (fun r=>r=.tup [.int .u64 ((x*y/18446744073709551616:Nat):Int),.int .u64 ((x*y%18446744073709551616:Nat):Int)]):=
 zsd fun base κ Im w v u hs e1 e2=>by
  cases e1.int_inv;cases e2.int_inv
  refine (Tryz.bits_Mul64 x y hx hy w).mono ?_
  rintro e w' ⟨rfl,rfl⟩
  exact ⟨_,_,rfl,rfl,Go.RowKit.Below.refl _ _,fun Im'=> .tup _ [_,_] rfl fun j hj hj'=>by
   match j,hj with
   |0,_=>exact .int _ _
   |1,_=>exact .int _ _⟩
theorem z6A (x y:Nat) (hx:x<18446744073709551616) (hy:y<18446744073709551616):PCalls Tryz.prog zyV [.int .u64 x,.int .u64 y] (fun r=>r=wA (x*y)):=by
 refine zaa hmix zyz rfl ?_
 simp [zqK]
 refine zad (zwK x y hx hy) (by simp) ?_
 rintro r rfl
 simp [wA]
end Go.Proofs.YtdbhocoeolhjhaaGreatDoor
end
section
set_option maxHeartbeats 4000000
namespace Go.Proofs.YtdbhocoeolhjhaaGreatDoor
open Go.Abs Go.Num
variable {G:Globs}
theorem z7k (y s:Nat) (hy:y<18446744073709551616) (hs:s≤63) (hb:Lib.bitLen y=64-s):PCalls Tryz.prog 351 [.int .u64 y] (fun r=>r=.int .i64 s):=
 z1x fun base κ Im w v hh e1=>by
  cases e1.int_inv
  refine (Tryz.bits_LeadingZeros64 y w (by omega) (by omega)).mono ?_
  rintro e w' ⟨rfl,rfl⟩
  refine ⟨_,_,rfl,rfl,Go.RowKit.Below.refl _ _,fun Im'=> ?_⟩
  have e:(64-(Lib.bitLen (y:Int).toNat:Int))=s:=by rw [Int.toNat_natCast,hb];omega
  rw [e]
  exact .int _ _
theorem z6T (n a:Nat) (hn:n<18446744073709551616):IntKind.u64.wrap ((n:Int)/a)=((n/a:Nat):Int):=by
 have h2:n/a≤n:=yct _ _
 have h3:((n/a:Nat):Int)=(n:Int)/a:=Int.natCast_ediv n a
 rw [zbg,←h3]
 generalize n/a=k at*
 omega
theorem z7C (n a:Nat):(n:Int)%a=((n%a:Nat):Int):=(Int.natCast_emod n a).symm
theorem z7G {u a q r v B b Y:Nat} (hB:B=4294967296) (ha:a<B) (hq:q≤B+1) (hr:r<B) (hv:v<B) (hb:b<B) (hqa:q*a+r=u) (huM:u<18446744073709551616):(q:Int)*a%18446744073709551616=q*a∧(B:Int)*r%18446744073709551616=B*r∧((B:Int)*r+v)%18446744073709551616=B*r+v:=by
 have h1:((q*a:Nat):Int)=(q:Int)*a:=by push_cast;rfl
 have h2:((B*r:Nat):Int)=(B:Int)*r:=by push_cast;rfl
 have h3:B*r≤B*(B-1):=ycq B (by omega)
 subst hB
 rw [←h1,←h2]
 omega
theorem z2o (hi lo y:Nat) (hhi:hi<y) (hyM:y<18446744073709551616) (hlo:lo<18446744073709551616):
  PCalls Tryz.prog zmY [.int .u64 hi,.int .u64 lo,.int .u64 y] (fun r=>r=.tup [.int .u64 (((hi*18446744073709551616+lo)/y:Nat):Int),.int .u64 (((hi*18446744073709551616+lo)%y:Nat):Int)]):=by
 obtain ⟨Q,hQ⟩:∃Q,Q=(hi*18446744073709551616+lo)/y:=⟨_,rfl⟩
 obtain ⟨R,hR⟩:∃R,R=(hi*18446744073709551616+lo)%y:=⟨_,rfl⟩
 rw [←hQ,←hR]
 refine zaa hmix zmg rfl ?_
 have hy0:¬(y:Int)=0:=by omega
 have hy0n:¬y=0:=by omega
 have hyh:¬(y:Int)≤hi:=by omega
 have hyh2:¬y≤hi:=by omega
 by_cases h0:hi=0
 ·subst h0
  have e1:IntKind.u64.wrap ((lo:Int)/y)=Q:=by rw [z6T lo y hlo,hQ,Nat.zero_mul,ybe]
  have e2:(lo:Int).tmod y=R:=by rw [ycw (by omega),z7C,hR,Nat.zero_mul,ybe]
  simp [ze7,hy0,hy0n,hyh,hyh2,e1,e2]
 have h0':¬(hi:Int)=0:=by omega
 obtain ⟨s,hs,hbl,hY1,hY2⟩:=zvi (y:=y) (by omega) hyM
 obtain ⟨Y,hYd⟩:∃Y,Y=y*2^s:=⟨_,rfl⟩
 obtain ⟨B,hB⟩:∃B:Nat,B=4294967296:=⟨_,rfl⟩
 rw [←hYd] at hY1 hY2
 have hsw:IntKind.u64.wrap (s:Int)=s:=by rw [zbg];omega
 have s2:za4 .shl .u64 (y:Int) s=some (Y:Int):=by rw [ziJ y s (by omega),hYd,ybr (by rw [←hYd];exact hY2)]
 obtain ⟨a,ha⟩:∃a,a=Y/4294967296:=⟨_,rfl⟩
 obtain ⟨b,hb⟩:∃b,b=Y%4294967296:=⟨_,rfl⟩
 have s9:za4 .shr .u64 (Y:Int) 32=some (a:Int):=by rw [zfF Y 32 hY2 (by decide),ha]
 have s10:zca .and .u64 (Y:Int) 4294967295=some (b:Int):=by rw [zxt Y hY2,hb]
 obtain ⟨uh,huh⟩:∃uh,uh=hi*2^s%18446744073709551616:=⟨_,rfl⟩
 obtain ⟨ul,hul⟩:∃ul,ul=lo/2^(64-s):=⟨_,rfl⟩
 obtain ⟨u,hu⟩:∃u,u=hi*2^s+lo/2^(64-s):=⟨_,rfl⟩
 have hor:=z5T (lo:=lo) hhi (by rw [←hYd];exact hY2) hs hlo
 rw [←huh,←hul] at hor
 have huY:u<Y:=by
  rw [hu,hYd]
  have h1:lo/2^(64-s)<2^s:=by
   rw [ych (yc1 _),←yd9,show s+(64-s)=64 by omega];exact hlo
  have h2:(hi+1)*2^s≤y*2^s:=yas _ hhi
  rw [ya6] at h2;omega
 have hulM:ul<18446744073709551616:=by rw [hul];exact ycg (yct _ _) hlo
 have huhM:uh<18446744073709551616:=by rw [huh];exact ybs _ (by decide)
 have s46:za4 .shl .u64 (hi:Int) s=some (uh:Int):=by rw [ziJ hi s (by omega),huh]
 have s49:IntKind.u64.wrap (64-(s:Int))=((64-s:Nat):Int):=by rw [zbg];omega
 have s50:za4 .shr .u64 (lo:Int) (64-s)=some (ul:Int):=by rw [zfF lo (64-s) hlo (by omega),hul]
 have s51:zca .or .u64 (uh:Int) (ul:Int)=some (u:Int):=by rw [ztC uh ul huhM hulM,hor,hul,hu]
 obtain ⟨u10,hu10⟩:∃u10,u10=lo*2^s%18446744073709551616:=⟨_,rfl⟩
 have hu10M:u10<18446744073709551616:=by rw [hu10];exact ybs _ (by decide)
 have s54:za4 .shl .u64 (lo:Int) s=some (u10:Int):=by rw [ziJ lo s (by omega),hu10]
 obtain ⟨u1,hu1⟩:∃u1,u1=u10/4294967296:=⟨_,rfl⟩
 obtain ⟨u0,hu0⟩:∃u0,u0=u10%4294967296:=⟨_,rfl⟩
 have s56:za4 .shr .u64 (u10:Int) 32=some (u1:Int):=by rw [zfF u10 32 hu10M (by decide),hu1]
 have s58:zca .and .u64 (u10:Int) 4294967295=some (u0:Int):=by rw [zxt u10 hu10M,hu0]
 have haB:a<B:=by omega
 have hbB:b<B:=by omega
 have hu1B:u1<B:=by omega
 have hu0B:u0<B:=by omega
 have ha2:B≤2*a:=by omega
 have hYab:a*B+b=Y:=by rw [ha,hb,hB];omega
 have ha0:0<a:=by omega
 have ha0':¬(a:Int)=0:=by omega
 have ha0n:¬a=0:=by omega
 have hY0:0<a*B+b:=by omega
 -- a digit's first guess
 have guess:∀n:Nat,n<Y→∃q r:Nat,IntKind.u64.wrap ((n:Int)/a)=q∧IntKind.u64.wrap ((n:Int)-IntKind.u64.wrap ((q:Int)*a))=r∧q*a+r=n∧r<B∧q≤B+1∧n/a≤q:=by
  intro n hn
  refine ⟨n/a,n%a, ?_, ?_, ?_, ?_, ?_,yaq _⟩
  ·exact z6T n a (by omega)
  ·have e:((n/a*a:Nat):Int)=((n/a:Nat):Int)*a:=by push_cast;rfl
   rw [zbg,zbg,←e]
   have:=ycf n a
   rw [ybl] at this
   omega
  ·rw [ybl];exact ycf n a
  ·have:=ybs n ha0;omega
  ·exact z2U (b:=b) ha2 hbB (by rw [hYab];exact hn)
 simp [ze7,hy0,hy0n,hyh,hyh2,h0,h0']
 refine zad (z7k y s hyM hs hbl) (by simp) ?_
 rintro r rfl
 obtain ⟨q0,r0,g1,g2,g3,g4,g5,g6⟩:=guess u huY
 have hg0:=yca (zxq (b:=b) (u:=u) (v:=u1) ha0 hu1B) g6
 simp [-za4, -zca,hsw,s2,s9,s10,s46,s49,s50,s51,s54,s56,s58,ha0,ha0',ha0n,g1,g2,Int.toNat_natCast]
 -- the first digit
 refine z1c 0 (fun f σ=>∃q:Nat,f 15=.int .u64 q∧q=(u*B+u1)/Y∧f 2=.int .u64 Y∧f 8=.int .u64 s∧f 9=.int .u64 a∧f 10=.int .u64 b∧f 11=.int .u64 u∧f 13=.int .u64 u1∧f 14=.int .u64 u0∧σ= []) ?_ ?_
 ·rintro f σ ⟨q1,f15,hq1,f2,f8,f9,f10,f11,f13,f14,rfl⟩
  obtain ⟨u21,hu21d⟩:∃u21,u21=(u*B+u1)%Y:=⟨_,rfl⟩
  have hYpos:0<Y:=by omega
  have hu21:u21<Y:=by rw [hu21d];exact ybs _ hYpos
  have hdm:=ycf (u*B+u1) Y
  rw [←hq1,←hu21d] at hdm
  obtain ⟨p1,hp1⟩:∃p1,p1=Y*q1:=⟨_,rfl⟩
  have hp1i:(q1:Int)*Y=p1:=by rw [hp1,ybl];push_cast;rfl
  have e17:IntKind.u64.wrap (IntKind.u64.wrap (IntKind.u64.wrap ((u:Int)*4294967296)+u1)-IntKind.u64.wrap ((q1:Int)*Y))=u21:=by
   rw [hp1i]
   simp only [zbg]
   rw [←hp1] at hdm
   subst hB
   omega
  obtain ⟨q2,r2,e1,e2,e3,e4,e5,e6⟩:=guess u21 hu21
  have hg2:=yca (zxq (b:=b) (u:=u21) (v:=u0) ha0 hu0B) e6
  simp [-za4, -zca,f2,f8,f9,f10,f11,f13,f14,f15,e17,ha0',ha0n,e1,e2]
  refine z1c 2 (fun f σ=>∃q:Nat,f 18=.int .u64 q∧q=(u21*B+u0)/Y∧f 2=.int .u64 Y∧f 8=.int .u64 s∧f 10=.int .u64 b∧f 14=.int .u64 u0∧f 9=.int .u64 a∧f 15=.int .u64 q1∧f 17=.int .u64 u21∧σ= []) ?_ ?_
  ·clear f2 f8 f9 f10 f11 f13 f14 f15
   rintro f σ ⟨q3,f18,hq3,f2,f8,f10,f14,f9,f15,f17,rfl⟩
   obtain ⟨j1,j2⟩:=zy8 (hi:=hi) (lo:=lo) (y:=y) (M:=18446744073709551616) (B:=B) (P:=2^s) (R:=2^(64-s)) (by rw [←yd9,show 64-s+s=64 by omega]) (by rw [hB]) (yc1 _) (by omega) (u32:=u) (u10:=u10) (h:=u*B+u1) (q1:=q1) (u21:=u21) (g:=u21*B+u0) hu hu10 (by rw [hu1,hB]) (by rw [hq1,hYd]) (by rw [hu21d,hYd]) (by rw [hu0,hB])
   rw [←hYd,←hq3,←hQ] at j1
   obtain ⟨gm,hgm⟩:∃gm,gm=(u21*B+u0)%Y:=⟨_,rfl⟩
   rw [←hYd,←hgm,←hR] at j2
   have hQM:Q<18446744073709551616:=by
    rw [hQ,ych (by omega)]
    have:(hi+1)*18446744073709551616≤y*18446744073709551616:=yas _ hhi
    rw [ybl 18446744073709551616 y];omega
   have k6:IntKind.u64.wrap (IntKind.u64.wrap ((q1:Int)*4294967296)+q3)=Q:=by
    simp only [zbg]
    subst hB
    omega
   have hgmY:gm<Y:=by rw [hgm];exact ybs _ hYpos
   have hdm2:=ycf (u21*B+u0) Y
   rw [←hq3,←hgm] at hdm2
   obtain ⟨p3,hp3⟩:∃p3,p3=Y*q3:=⟨_,rfl⟩
   have hp3i:(q3:Int)*Y=p3:=by rw [hp3,ybl];push_cast;rfl
   have k132:IntKind.u64.wrap (IntKind.u64.wrap (IntKind.u64.wrap ((u21:Int)*4294967296)+u0)-IntKind.u64.wrap ((q3:Int)*Y))=gm:=by
    rw [hp3i]
    simp only [zbg]
    rw [←hp3] at hdm2
    subst hB
    omega
   have k134:za4 .shr .u64 (gm:Int) s=some (R:Int):=by rw [zfF gm s (by omega) (by omega),j2]
   simp [-za4, -zca,f2,f8,f9,f10,f14,f15,f17,f18,k6,k132,k134]
  ·-- its loop
   refine zah (fun x f σ=>∃q r:Nat,x=q∧f 18=.int .u64 q∧f 16=.int .u64 r∧(u21*B+u0)/Y≤q∧q*a+r=u21∧r<B∧q≤B+1∧f 2=.int .u64 Y∧f 8=.int .u64 s∧f 10=.int .u64 b∧f 14=.int .u64 u0∧f 9=.int .u64 a∧f 15=.int .u64 q1∧f 17=.int .u64 u21∧σ= []) q2 ?_ ?_
   ·exact ⟨q2,r2,rfl,by simp,by simp,by rw [←hYab];exact hg2,e3,e4,e5,by simp [f2],by simp [f8],by simp [f10],by simp [f14],by simp [f9],by simp [f15],by simp,rfl⟩
   rintro x f σ ⟨q,r,hxq,fq,fr,hle,hqr,hr,hqB,f2,f8,f10,f14,f9,f15,f17,rfl⟩
   obtain ⟨m1,m2,m3⟩:=z7G (Y:=Y) hB haB hqB hr hu0B hbB hqr (by omega)
   rw [←hYab] at hle
   obtain ⟨r',hr'⟩:∃r',r'=r+a:=⟨_,rfl⟩
   have hra:IntKind.u64.wrap ((r:Int)+a)=(r':Int):=by rw [zbg];omega
   have hmB:IntKind.u64.wrap (4294967296*(r:Int))=4294967296*r:=by rw [zbg];omega
   have hmBv:IntKind.u64.wrap (4294967296*(r:Int)+u0)=4294967296*r+u0:=by rw [zbg];omega
   have body:B≤q∨B*r+u0<q*b→1≤q∧(u21*B+u0)/(a*B+b)≤q-1∧(q-1)*a+r'=u21∧IntKind.u64.wrap ((q:Int)-1)=((q-1:Nat):Int):=by
    intro h
    have hn:=z1g (v:=u0) hY0 (by rw [hYab];exact hu21) hu0B hqr h
    have h1q:1≤q:=ycg (ydk _) hn
    refine ⟨h1q,Nat.le_sub_one_of_lt hn, ?_,by rw [zbg];omega⟩
    obtain ⟨k,rfl⟩:∃k,q=k+1:=⟨q-1,by omega⟩
    rw [ya6] at hqr
    simp only [Nat.add_sub_cancel];omega
   by_cases hqb:B≤q
   ·obtain ⟨b1,b2,b3,b4⟩:=body (.inl hqb)
    have hqb':(4294967296:Int)≤q:=by omega
    have hqb'':4294967296≤q:=by omega
    simp [fq,fr,f2,f8,f10,f14,f9,f15,f17,hqb',hqb'',b4,hra]
    refine zax (fun h=> ?_) (fun h=> ?_)
    ·simp
     refine zc5 ⟨q-1,by simp, ?_,by simp [f2],by simp [f8],by simp [f10],by simp [f14],by simp [f9],by simp [f15],by simp [f17],rfl⟩
     rw [←hYab]
     exact zom hY0 b2 b3 (by omega) (by omega) hbB
    ·simp
     refine zae (q-1) (by omega) ⟨q-1,r',rfl,by simp,by simp,by rw [←hYab];exact b2,b3,by omega,by omega,by simp [f2],by simp [f8],by simp [f10],by simp [f14],by simp [f9],by simp [f15],by simp [f17],rfl⟩
   ·have hqb':¬(4294967296:Int)≤q:=by omega
    have hqb'':¬4294967296≤q:=by omega
    have hqbM:q*b<18446744073709551616:=by
     have h1:q*b≤(B-1)*(B-1):=yd5 (by omega) (by omega)
     subst hB;omega
    obtain ⟨p,hp⟩:∃p,p=q*b:=⟨_,rfl⟩
    have hpi:(q:Int)*b=p:=by rw [hp];push_cast;rfl
    have hwp:IntKind.u64.wrap ((q:Int)*b)=p:=by rw [hpi,zbg];omega
    simp [fq,fr,f2,f8,f10,f14,f9,f15,f17,hqb',hqb'',hwp,hmB,hmBv]
    refine zax (fun h=> ?_) (fun h=> ?_)
    ·have h':B*r+u0<q*b:=by rw [←hp,hB];omega
     obtain ⟨b1,b2,b3,b4⟩:=body (.inr h')
     simp [fq,fr,f2,f8,f10,f14,f9,f15,f17,b4,hra]
     refine zax (fun h=> ?_) (fun h=> ?_)
     ·simp
      refine zc5 ⟨q-1,by simp, ?_,by simp [f2],by simp [f8],by simp [f10],by simp [f14],by simp [f9],by simp [f15],by simp [f17],rfl⟩
      rw [←hYab]
      exact zom hY0 b2 b3 (by omega) (by omega) hbB
     ·simp
      refine zae (q-1) (by omega) ⟨q-1,r',rfl,by simp,by simp,by rw [←hYab];exact b2,b3,by omega,by omega,by simp [f2],by simp [f8],by simp [f10],by simp [f14],by simp [f9],by simp [f15],by simp [f17],rfl⟩
    ·simp
     refine zc5 ⟨q,by simp [fq], ?_,by simp [f2],by simp [f8],by simp [f10],by simp [f14],by simp [f9],by simp [f15],by simp [f17],rfl⟩
     rw [←hYab]
     exact zvm hY0 hle hqr (by rw [←hp,hB];omega)
 ·-- its loop
  refine zah (fun x f σ=>∃q r:Nat,x=q∧f 15=.int .u64 q∧f 16=.int .u64 r∧(u*B+u1)/Y≤q∧q*a+r=u∧r<B∧q≤B+1∧f 2=.int .u64 Y∧f 8=.int .u64 s∧f 9=.int .u64 a∧f 10=.int .u64 b∧f 11=.int .u64 u∧f 13=.int .u64 u1∧f 14=.int .u64 u0∧σ= []) q0 ?_ ?_
  ·exact ⟨q0,r0,rfl,by simp,by simp,by rw [←hYab];exact hg0,g3,g4,g5,by simp [hsw],by simp [hsw],by simp [hsw],by simp [hsw],by simp [hsw],by simp [hsw],by simp [hsw],rfl⟩
  rintro x f σ ⟨q,r,hxq,fq,fr,hle,hqr,hr,hqB,f2,f8,f9,f10,f11,f13,f14,rfl⟩
  obtain ⟨m1,m2,m3⟩:=z7G (Y:=Y) hB haB hqB hr hu1B hbB hqr (by omega)
  rw [←hYab] at hle
  obtain ⟨r',hr'⟩:∃r',r'=r+a:=⟨_,rfl⟩
  have hra:IntKind.u64.wrap ((r:Int)+a)=(r':Int):=by rw [zbg];omega
  have hmB:IntKind.u64.wrap (4294967296*(r:Int))=4294967296*r:=by rw [zbg];omega
  have hmBv:IntKind.u64.wrap (4294967296*(r:Int)+u1)=4294967296*r+u1:=by rw [zbg];omega
  have body:B≤q∨B*r+u1<q*b→1≤q∧(u*B+u1)/(a*B+b)≤q-1∧(q-1)*a+r'=u∧IntKind.u64.wrap ((q:Int)-1)=((q-1:Nat):Int):=by
   intro h
   have hn:=z1g (v:=u1) hY0 (by rw [hYab];exact huY) hu1B hqr h
   have h1q:1≤q:=ycg (ydk _) hn
   refine ⟨h1q,Nat.le_sub_one_of_lt hn, ?_,by rw [zbg];omega⟩
   obtain ⟨k,rfl⟩:∃k,q=k+1:=⟨q-1,by omega⟩
   rw [ya6] at hqr
   simp only [Nat.add_sub_cancel];omega
  by_cases hqb:B≤q
  ·obtain ⟨b1,b2,b3,b4⟩:=body (.inl hqb)
   have hqb':(4294967296:Int)≤q:=by omega
   have hqb'':4294967296≤q:=by omega
   simp [fq,fr,f2,f8,f9,f10,f11,f13,f14,hqb',hqb'',b4,hra]
   refine zax (fun h=> ?_) (fun h=> ?_)
   ·simp
    refine zc5 ⟨q-1,by simp, ?_,by simp [f2],by simp [f8],by simp [f9],by simp [f10],by simp [f11],by simp [f13],by simp [f14],rfl⟩
    rw [←hYab]
    exact zom hY0 b2 b3 (by omega) (by omega) hbB
   ·simp
    refine zae (q-1) (by omega) ⟨q-1,r',rfl,by simp,by simp,by rw [←hYab];exact b2,b3,by omega,by omega,by simp [f2],by simp [f8],by simp [f9],by simp [f10],by simp [f11],by simp [f13],by simp [f14],rfl⟩
  ·have hqb':¬(4294967296:Int)≤q:=by omega
   have hqb'':¬4294967296≤q:=by omega
   have hqbM:q*b<18446744073709551616:=by
    have h1:q*b≤(B-1)*(B-1):=yd5 (by omega) (by omega)
    subst hB;omega
   obtain ⟨p,hp⟩:∃p,p=q*b:=⟨_,rfl⟩
   have hpi:(q:Int)*b=p:=by rw [hp];push_cast;rfl
   have hwp:IntKind.u64.wrap ((q:Int)*b)=p:=by rw [hpi,zbg];omega
   simp [fq,fr,f2,f8,f9,f10,f11,f13,f14,hqb',hqb'',hwp,hmB,hmBv]
   refine zax (fun h=> ?_) (fun h=> ?_)
   ·have h':B*r+u1<q*b:=by rw [←hp,hB];omega
    obtain ⟨b1,b2,b3,b4⟩:=body (.inr h')
    simp [fq,fr,f2,f8,f9,f10,f11,f13,f14,b4,hra]
    refine zax (fun h=> ?_) (fun h=> ?_)
    ·simp
     refine zc5 ⟨q-1,by simp, ?_,by simp [f2],by simp [f8],by simp [f9],by simp [f10],by simp [f11],by simp [f13],by simp [f14],rfl⟩
     rw [←hYab]
     exact zom hY0 b2 b3 (by omega) (by omega) hbB
    ·simp
     refine zae (q-1) (by omega) ⟨q-1,r',rfl,by simp,by simp,by rw [←hYab];exact b2,b3,by omega,by omega,by simp [f2],by simp [f8],by simp [f9],by simp [f10],by simp [f11],by simp [f13],by simp [f14],rfl⟩
   ·simp
    refine zc5 ⟨q,by simp [fq], ?_,by simp [f2],by simp [f8],by simp [f9],by simp [f10],by simp [f11],by simp [f13],by simp [f14],rfl⟩
    rw [←hYab]
    exact zvm hY0 hle hqr (by rw [←hp,hB];omega)
end Go.Proofs.YtdbhocoeolhjhaaGreatDoor
end
section
set_option maxHeartbeats 2000000
namespace Go.Num
open Go.Abs
theorem zda {hi lo n:Nat} (h1:hi=n/18446744073709551616) (h2:lo=n%18446744073709551616):wA n=.agg [.int .u64 (hi:Int),.int .u64 (lo:Int)]:=by subst h1 h2;rfl
end Go.Num
namespace Go.Proofs.YtdbhocoeolhjhaaGreatDoor
open Go.Abs Go.Num
variable {G:Globs}
theorem z6u (a b:Nat) (ha:a<340282366920938463463374607431768211456) (hb:b<340282366920938463463374607431768211456):
  PCalls Tryz.prog zya [wA a,wA b] (fun r=>r=.tup [wA ((a+b)%340282366920938463463374607431768211456),.bool (decide (340282366920938463463374607431768211456≤a+b))]):=by
 obtain ⟨ah,hah⟩:∃x,x=a/18446744073709551616:=⟨_,rfl⟩
 obtain ⟨al,hal⟩:∃x,x=a%18446744073709551616:=⟨_,rfl⟩
 obtain ⟨bh,hbh⟩:∃x,x=b/18446744073709551616:=⟨_,rfl⟩
 obtain ⟨bl,hbl⟩:∃x,x=b%18446744073709551616:=⟨_,rfl⟩
 rw [zda hah hal,zda hbh hbl]
 obtain ⟨s0,hs0⟩:∃x,x=(al+bl)%18446744073709551616:=⟨_,rfl⟩
 obtain ⟨c0,hc0⟩:∃x,x=(al+bl)/18446744073709551616:=⟨_,rfl⟩
 obtain ⟨s1,hs1⟩:∃x,x=(ah+bh+c0)%18446744073709551616:=⟨_,rfl⟩
 obtain ⟨c1,hc1⟩:∃x,x=(ah+bh+c0)/18446744073709551616:=⟨_,rfl⟩
 rw [zda (hi:=s1) (lo:=s0) (n:=(a+b)%340282366920938463463374607431768211456) (by omega) (by omega)]
 have e1:((al:Int)+bl)%18446744073709551616=s0:=by omega
 have e2:((al:Int)+bl)/18446744073709551616=c0:=by omega
 have e3:((ah:Int)+bh+c0)%18446744073709551616=s1:=by omega
 have e4:((ah:Int)+bh+c0)/18446744073709551616=c1:=by omega
 have hc:(c0:Int)≤1:=by omega
 have hcn:c0≤1:=by omega
 have e5:decide (c1=1)=decide (340282366920938463463374607431768211456≤a+b):=by
  congr 1;apply propext;omega
 have e6:decide ((c1:Int)=1)=decide (340282366920938463463374607431768211456≤a+b):=by
  congr 1;apply propext;omega
 refine zaa hmix zyU rfl ?_
 simp [zra,e1,e2,e3,e4,hc,hcn,e5,e6]
 try omega
theorem zzi (a d:Nat) (ha:a<340282366920938463463374607431768211456) (hd:d<18446744073709551616):
  PCalls Tryz.prog zxP [wA a,.int .u64 d] (fun r=>r=if d=0 then .tup [wA 0,.int .u64 0,.int .i64 1] else .tup [wA (a/d),.int .u64 ((a%d:Nat):Int),.int .i64 0]):=by
 refine zaa hmix zyy rfl ?_
 by_cases h0:d=0
 ·subst h0
  simp [zmi,wA]
 obtain ⟨ah,hah⟩:∃x,x=a/18446744073709551616:=⟨_,rfl⟩
 obtain ⟨al,hal⟩:∃x,x=a%18446744073709551616:=⟨_,rfl⟩
 rw [zda hah hal]
 have h0':¬(d:Int)=0:=by omega
 obtain ⟨q1,hq1⟩:∃x,x=ah/d:=⟨_,rfl⟩
 obtain ⟨r1,hr1⟩:∃x,x=ah%d:=⟨_,rfl⟩
 have e1:IntKind.u64.wrap ((ah:Int)/d)=q1:=by rw [z6T ah d (by omega),hq1]
 have e2:(ah:Int).tmod d=r1:=by rw [ycw (by omega),z7C,hr1]
 have hr1d:r1<d:=by rw [hr1];exact ybs _ (by omega)
 obtain ⟨t1,t2⟩:=zq6 (y:=d) (h:=ah) (l:=al) (B:=18446744073709551616) (by omega)
 have hal':ah*18446744073709551616+al=a:=by omega
 rw [hal',←hq1,←hr1] at t1
 rw [hal',←hr1] at t2
 obtain ⟨q0,hq0⟩:∃x,x=(r1*18446744073709551616+al)/d:=⟨_,rfl⟩
 have hq0M:q0<18446744073709551616:=by
  rw [hq0,ych (by omega)]
  have:(r1+1)*18446744073709551616≤d*18446744073709551616:=yas _ hr1d
  rw [ybl 18446744073709551616 d];omega
 rw [←hq0] at t1
 have hAD:wA (a/d)=.agg [.int .u64 (q1:Int),.int .u64 (q0:Int)]:=zda (by omega) (by omega)
 rw [if_neg h0,hAD,t2]
 simp [zmi,h0,h0',e1,e2]
 refine zad (z2o r1 al d hr1d hd (by omega)) (by simp) ?_
 rw [←hq0]
 rintro r rfl
 simp
theorem z09 (a d:Nat) (ha:a<340282366920938463463374607431768211456) (hd:d<18446744073709551616):
  PCalls Tryz.prog zsE [wA a,.int .u64 d] (fun r=>r=if d=0 then .tup [.int .u64 0,.int .i64 1] else if rnd a d<18446744073709551616 then .tup [.int .u64 ((rnd a d:Nat):Int),.int .i64 0] else .tup [.int .u64 0,.int .i64 3]):=by
 refine zaa hmix zua rfl ?_
 have hwb:wA a=.agg [.int .u64 ((a/18446744073709551616:Nat):Int),.int .u64 ((a%18446744073709551616:Nat):Int)]:=rfl
 by_cases h0:d=0
 ·subst h0
  rw [hwb]
  simp [zih]
  refine zad (zzi a 0 ha (by decide)) (by simp [wA]) ?_
  rintro r rfl
  simp [wA]
 rw [if_neg h0]
 rw [hwb]
 simp [zih]
 refine zad (zzi a d ha hd) (by simp [wA]) ?_
 rw [if_neg h0]
 obtain ⟨q,hq⟩:∃x,x=a/d:=⟨_,rfl⟩
 obtain ⟨m,hm⟩:∃x,x=a%d:=⟨_,rfl⟩
 have hmd:m<d:=by rw [hm];exact ybs _ (by omega)
 rw [←hq,←hm]
 rintro r rfl
 have hrnd:rnd a d=q+(if d-m≤m then 1 else 0):=by rw [rnd,←hq,←hm]
 rw [hrnd]
 have hwq:wA q=.agg [.int .u64 ((q/18446744073709551616:Nat):Int),.int .u64 ((q%18446744073709551616:Nat):Int)]:=rfl
 have hsub:IntKind.u64.wrap ((d:Int)-m)=((d-m:Nat):Int):=by rw [zbg];omega
 obtain ⟨dm,hdm⟩:∃x,x=d-m:=⟨_,rfl⟩
 rw [←hdm] at hsub
 have hqa:q<340282366920938463463374607431768211456:=by rw [hq];exact ycg (yct _ _) ha
 obtain ⟨qh,hqh⟩:∃x,x=q/18446744073709551616:=⟨_,rfl⟩
 obtain ⟨ql,hql⟩:∃x,x=q%18446744073709551616:=⟨_,rfl⟩
 rw [zda hqh hql]
 simp [hsub]
 refine zax (fun h=> ?_) (fun h=> ?_)
 ·have h':d-m≤m:=by omega
  have hq2:q+1<340282366920938463463374607431768211456:=by
   have hd2:2≤d:=by omega
   have:a/d≤a/2:=Nat.div_le_div_left hd2 (by decide)
   omega
  simp
  have hA:=z6u (G:=G) q 1 hqa (by decide)
  rw [zda hqh hql,show wA 1=.agg [.int .u64 0,.int .u64 1] from rfl] at hA
  refine zad hA (by simp) ?_
  rintro r rfl
  rw [ybr hq2,if_pos h']
  obtain ⟨ph,hph⟩:∃x,x=(q+1)/18446744073709551616:=⟨_,rfl⟩
  obtain ⟨pl,hpl⟩:∃x,x=(q+1)%18446744073709551616:=⟨_,rfl⟩
  rw [zda hph hpl]
  simp
  refine zax (fun hh=> ?_) (fun hh=> ?_)
  ·have:¬q+1<18446744073709551616:=by omega
   rw [if_neg this];simp
  ·have:q+1<18446744073709551616:=by omega
   have e:pl=q+1:=by omega
   rw [if_pos this];simp [e]
 ·have h':¬d-m≤m:=by omega
  rw [if_neg h',ycb]
  simp
  refine zax (fun hh=> ?_) (fun hh=> ?_)
  ·have:¬q<18446744073709551616:=by omega
   rw [if_neg this];simp
  ·have:q<18446744073709551616:=by omega
   have e:ql=q:=by omega
   rw [if_pos this];simp [e]
theorem zvX (x y d:Nat) (hx:x<18446744073709551616) (hy:y<18446744073709551616) (hd:d<18446744073709551616) (b:Bool):
  PCalls Tryz.prog znN [.int .u64 x,.int .u64 y,.int .u64 d,.bool b] (fun r=>r=numA (if d=0 then zbH else tell (sgn b (rnd (x*y) d)))):=by
 refine zaa hmix znW rfl ?_
 simp [zhR]
 refine zad (z6A x y hx hy) (by simp) ?_
 rintro r rfl
 have hxy:x*y<340282366920938463463374607431768211456:=by
  have h1:x*y≤x*18446744073709551615:=ycq x (by omega)
  omega
 have hwb:wA (x*y)=.agg [.int .u64 ((x*y/18446744073709551616:Nat):Int),.int .u64 ((x*y%18446744073709551616:Nat):Int)]:=rfl
 rw [hwb]
 simp
 refine zad (z09 (x*y) d hxy hd) (by simp [wA]) ?_
 rintro r rfl
 by_cases h0:d=0
 ·rw [if_pos h0,if_pos h0]
  simp
  refine zad zcu (by simp) ?_
  rintro r rfl
  simp [numA]
 ·rw [if_neg h0,if_neg h0]
  by_cases h1:rnd (x*y) d<18446744073709551616
  ·rw [if_pos h1]
   simp
   refine zad (z6M _ h1 b) (by simp) ?_
   rintro r rfl
   simp [numA]
  ·rw [if_neg h1]
   have:tell (sgn b (rnd (x*y) d))=zbH:=by
    unfold tell sgn most
    cases b<;>simp<;>omega
   simp [this]
   refine zad zcu (by simp) ?_
   rintro r rfl
   simp [numA,this]
theorem z6j (a b:N) (ha:okN a) (hb:okN b):PCalls Tryz.prog zvB [numA a,numA b] (fun r=>r=numA (divN a b)):=by
 refine zaa hmix zvF rfl ?_
 obtain ⟨a1,a2⟩:=ha
 obtain ⟨b1,b2⟩:=hb
 simp [zp0,numA]
 refine zad (zob a) (by simp [numA]) ?_
 rintro r rfl
 cases hga:good a with
 |false=>
  simp
  refine zad zcu (by simp) ?_
  rintro r rfl
  simp [divN,hga,numA]
 |true=>
  simp
  refine zad (zob b) (by simp [numA]) ?_
  rintro r rfl
  cases hgb:good b with
  |false=>
   simp
   refine zad zcu (by simp) ?_
   rintro r rfl
   simp [divN,hga,hgb,numA]
  |true=>
   have va:=(zfu.1 hga).2
   have vb:=(zfu.1 hgb).2
   simp only [most] at va vb
   simp
   refine zad (z1T a va a2) (by simp [numA]) ?_
   rintro r rfl
   simp
   refine zad (z1T b vb b2) (by simp [numA]) ?_
   rintro r rfl
   simp
   refine zad (zvX a.2.natAbs 1000000 b.2.natAbs (by omega) (by omega) (by omega) (decide (a.2<0) !=decide (b.2<0))) (by simp) ?_
   rintro r rfl
   by_cases hb0:b.2=0
   ·simp [divN,hga,hgb,hb0,numA]
   ·simp [divN,hga,hgb,hb0,numA]
end Go.Proofs.YtdbhocoeolhjhaaGreatDoor
end
section
set_option maxHeartbeats 2000000
namespace Go.Num
open Go.Abs
theorem zqT {x i:Nat} (h:x/2^i%2=0):x|||2^i=x+2^i:=by
 have hp:=yc1 i
 obtain ⟨q,hq⟩:∃q,q=x/2^i/2:=⟨_,rfl⟩
 obtain ⟨r,hr⟩:∃r,r=x%2^i:=⟨_,rfl⟩
 have hrl:r<2^i:=by rw [hr];exact ybs _ hp
 have h2:x/2^i=2*q:=by omega
 have hx:x=2^i*(2*q)+r:=by
  have:=ycf x (2^i)
  rw [h2,←hr] at this;exact this.symm
 have e0:2^i*(2*q)=2^(i+1)*q:=by rw [yc5,ycu]
 have e1:=ycs hrl (2*q)
 have e2:=ycs (show 2^i<2^(i+1) by rw [yc5];omega) q
 have e3:=ycs hrl (2*q+1)
 have e4:2^i*(2*q+1)=2^(i+1)*q+2^i:=by rw [ydz,e0,Nat.mul_one]
 have l1:x|||2^i=2^i*(2*q)|||r|||2^i:=by rw [←e1,←hx]
 rw [l1,Nat.or_assoc,Nat.or_comm r,←Nat.or_assoc,e0,←e2,←e4,←e3]
 rw [ydz,Nat.mul_one]
 omega
theorem z5x {x i:Nat} (h:x<2^i):bt x i=0:=by unfold bt;rw [yeg h]
theorem z7V (c i k:Nat) (h:i<k):bt (c*2^k) i=0:=by
 unfold bt
 obtain ⟨j,rfl⟩:∃j,k=i+1+j:=⟨k-i-1,by omega⟩
 have:c*2^(i+1+j)=2^i*(2*(c*2^j)):=by
  rw [yd9,yc5]
  simp only [ybl,Nat.mul_left_comm,ycu]
 rw [this,Nat.mul_div_cancel_left _ (yc1 i),Nat.mul_mod_right]
end Go.Num
namespace Go.Proofs.YtdbhocoeolhjhaaGreatDoor
open Go.Abs Go.Num
variable {G:Globs}
theorem zuS (x i:Nat) (hx:x<340282366920938463463374607431768211456) (hi:i<128):PCalls Tryz.prog zlY [wA x,.int .i64 i] (fun r=>r=.int .u64 (bt x i)):=by
 refine zaa hmix zmR rfl ?_
 obtain ⟨h,hh⟩:∃h,h=x/18446744073709551616:=⟨_,rfl⟩
 obtain ⟨l,hl⟩:∃l,l=x%18446744073709551616:=⟨_,rfl⟩
 have hxs:h*18446744073709551616+l=x:=by omega
 rw [zda hh hl]
 by_cases h64:64≤i
 ·have h64':(64:Int)≤i:=by omega
  have hw1:IntKind.i64.wrap ((i:Int)-64)=((i-64:Nat):Int):=by rw [zdD (by omega) (by omega)];omega
  obtain ⟨k,hk⟩:∃k,k=i-64:=⟨_,rfl⟩
  rw [←hk] at hw1
  have hw2:IntKind.u64.wrap (k:Int)=k:=by rw [zbg];omega
  have e:=z8u (hi:=h) (lo:=l) (i:=i) (by omega) h64
  rw [hxs,←hk] at e
  obtain ⟨v,hv⟩:∃v,v=h/2^k:=⟨_,rfl⟩
  have hvM:v<18446744073709551616:=by rw [hv];exact ycg (yct _ _) (by omega)
  have s1:za4 .shr .u64 (h:Int) k=some (v:Int):=by rw [zfF h k (by omega) (by omega),hv]
  obtain ⟨b,hb⟩:∃b,b=v%2:=⟨_,rfl⟩
  have s2:zca .and .u64 (v:Int) 1=some (b:Int):=by rw [Go.Num.and_one v hvM,hb]
  rw [←hv,←hb] at e
  rw [e]
  simp [-za4, -zca,zeC,h64,h64',hw1,hw2,s1,s2]
 ·have h64':¬(64:Int)≤i:=by omega
  have hw2:IntKind.u64.wrap (i:Int)=i:=by rw [zbg];omega
  have e:=z7q (hi:=h) (lo:=l) (i:=i) (by omega) (by omega)
  rw [hxs] at e
  obtain ⟨v,hv⟩:∃v,v=l/2^i:=⟨_,rfl⟩
  have hvM:v<18446744073709551616:=by rw [hv];exact ycg (yct _ _) (by omega)
  have s1:za4 .shr .u64 (l:Int) i=some (v:Int):=by rw [zfF l i (by omega) (by omega),hv]
  obtain ⟨b,hb⟩:∃b,b=v%2:=⟨_,rfl⟩
  have s2:zca .and .u64 (v:Int) 1=some (b:Int):=by rw [Go.Num.and_one v hvM,hb]
  rw [←hv,←hb] at e
  rw [e]
  simp [-za4, -zca,zeC,h64,h64',hw2,s1,s2]
theorem zwH (x i:Nat) (hx:x<340282366920938463463374607431768211456) (hi:i<128) (h0:bt x i=0):PCalls Tryz.prog zll [wA x,.int .i64 i] (fun r=>r=wA (x+2^i)):=by
 refine zaa hmix zlJ rfl ?_
 obtain ⟨h,hh⟩:∃h,h=x/18446744073709551616:=⟨_,rfl⟩
 obtain ⟨l,hl⟩:∃l,l=x%18446744073709551616:=⟨_,rfl⟩
 have hxs:h*18446744073709551616+l=x:=by omega
 rw [zda hh hl]
 by_cases h64:64≤i
 ·have h64':(64:Int)≤i:=by omega
  have hw1:IntKind.i64.wrap ((i:Int)-64)=((i-64:Nat):Int):=by rw [zdD (by omega) (by omega)];omega
  obtain ⟨k,hk⟩:∃k,k=i-64:=⟨_,rfl⟩
  rw [←hk] at hw1
  have hw2:IntKind.u64.wrap (k:Int)=k:=by rw [zbg];omega
  have e:=z8u (hi:=h) (lo:=l) (i:=i) (by omega) h64
  rw [hxs,←hk,h0] at e
  have hor:=zqT (x:=h) (i:=k) e.symm
  obtain ⟨p,hp⟩:∃p,p=2^k:=⟨_,rfl⟩
  have hpM:p<18446744073709551616:=by rw [hp,show (18446744073709551616:Nat)=2^64 by decide];exact Nat.pow_lt_pow_right (by decide) (by omega)
  have s1:za4 .shl .u64 1 k=some (p:Int):=by
   have:=ziJ 1 k (by omega)
   rw [yej,←hp,ybr hpM] at this
   simpa using this
  have s2:zca .or .u64 (h:Int) (p:Int)=some ((h|||p:Nat):Int):=ztC h p (by omega) hpM
  have hlt:h|||p<18446744073709551616:=Nat.or_lt_two_pow (n:=64) (by omega) hpM
  obtain ⟨h',hh'⟩:∃h',h'=h|||p:=⟨_,rfl⟩
  rw [←hh'] at s2 hlt
  have hsum:h'=h+p:=by rw [hh',hp];exact hor
  have hpi:2^i=p*18446744073709551616:=by rw [hp,show (18446744073709551616:Nat)=2^64 by decide,←yd9,show k+64=i by omega]
  rw [zda (hi:=h') (lo:=l) (n:=x+2^i) (by rw [hpi];omega) (by rw [hpi];omega)]
  simp [-za4, -zca,zeb,h64,h64',hw1,hw2,s1,s2]
 ·have h64':¬(64:Int)≤i:=by omega
  have hw2:IntKind.u64.wrap (i:Int)=i:=by rw [zbg];omega
  have e:=z7q (hi:=h) (lo:=l) (i:=i) (by omega) (by omega)
  rw [hxs,h0] at e
  have hor:=zqT (x:=l) (i:=i) e.symm
  obtain ⟨p,hp⟩:∃p,p=2^i:=⟨_,rfl⟩
  have hpM:p<18446744073709551616:=by rw [hp,show (18446744073709551616:Nat)=2^64 by decide];exact Nat.pow_lt_pow_right (by decide) (by omega)
  have s1:za4 .shl .u64 1 i=some (p:Int):=by
   have:=ziJ 1 i (by omega)
   rw [yej,←hp,ybr hpM] at this
   simpa using this
  have s2:zca .or .u64 (l:Int) (p:Int)=some ((l|||p:Nat):Int):=ztC l p (by omega) hpM
  have hlt:l|||p<18446744073709551616:=Nat.or_lt_two_pow (n:=64) (by omega) hpM
  obtain ⟨l',hl'⟩:∃l',l'=l|||p:=⟨_,rfl⟩
  rw [←hl'] at s2 hlt
  have hsum:l'=l+p:=by rw [hl',hp];exact hor
  rw [←hp,zda (hi:=h) (lo:=l') (n:=x+p) (by omega) (by omega)]
  simp [-za4, -zca,zeb,h64,h64',hw2,s1,s2]
theorem zx3 (x:Nat) (hx:x<340282366920938463463374607431768211456):PCalls Tryz.prog zjn [wA x] (fun r=>r=.tup [wA (2*x%340282366920938463463374607431768211456),.bool (decide (170141183460469231731687303715884105728≤x))]):=by
 refine zaa hmix zjo rfl ?_
 obtain ⟨h,hh⟩:∃h,h=x/18446744073709551616:=⟨_,rfl⟩
 obtain ⟨l,hl⟩:∃l,l=x%18446744073709551616:=⟨_,rfl⟩
 rw [zda hh hl]
 obtain ⟨h2,hh2⟩:∃k,k=h*2%18446744073709551616:=⟨_,rfl⟩
 obtain ⟨l2,hl2⟩:∃k,k=l*2%18446744073709551616:=⟨_,rfl⟩
 obtain ⟨lt,hlt⟩:∃k,k=l/9223372036854775808:=⟨_,rfl⟩
 obtain ⟨ht,hht⟩:∃k,k=h/9223372036854775808:=⟨_,rfl⟩
 have s6:za4 .shl .u64 (h:Int) 1=some (h2:Int):=by rw [ziJ h 1 (by decide),hh2]
 have s13:za4 .shl .u64 (l:Int) 1=some (l2:Int):=by rw [ziJ l 1 (by decide),hl2]
 have s9:za4 .shr .u64 (l:Int) 63=some (lt:Int):=by rw [zfF l 63 (by omega) (by decide),hlt]
 have s17:za4 .shr .u64 (h:Int) 63=some (ht:Int):=by rw [zfF h 63 (by omega) (by decide),hht]
 obtain ⟨o,ho⟩:∃k,k=h2+lt:=⟨_,rfl⟩
 have s10:zca .or .u64 (h2:Int) (lt:Int)=some (o:Int):=by
  rw [ztC h2 lt (by omega) (by omega),ho]
  have h3:lt<2^1:=by omega
  have:=ycs h3 (h2/2)
  have e2:2^1*(h2/2)=h2:=by omega
  rw [e2] at this
  rw [this]
 have e1:decide ((ht:Int)=1)=decide (170141183460469231731687303715884105728≤x):=by congr 1;apply propext;omega
 have e2:decide (ht=1)=decide (170141183460469231731687303715884105728≤x):=by congr 1;apply propext;omega
 rw [zda (hi:=o) (lo:=l2) (n:=2*x%340282366920938463463374607431768211456) (by omega) (by omega)]
 simp [-za4, -zca,zfg,s6,s13,s9,s17,s10,e1,e2]
 try omega
theorem z1b (a b:Nat) (ha:a<340282366920938463463374607431768211456) (hb:b<340282366920938463463374607431768211456):
  PCalls Tryz.prog zmv [wA a,wA b] (fun r=>r=.tup [wA ((a+b)%340282366920938463463374607431768211456),.bool (decide (340282366920938463463374607431768211456≤a+b))]):=by
 refine zaa hmix zmJ rfl ?_
 obtain ⟨ah,hah⟩:∃h,h=a/18446744073709551616:=⟨_,rfl⟩
 obtain ⟨al,hal⟩:∃l,l=a%18446744073709551616:=⟨_,rfl⟩
 obtain ⟨bh,hbh⟩:∃h,h=b/18446744073709551616:=⟨_,rfl⟩
 obtain ⟨bl,hbl⟩:∃l,l=b%18446744073709551616:=⟨_,rfl⟩
 have hA:=zda hah hal
 have hB:=zda hbh hbl
 rw [hA,hB]
 simp [zhm]
 have hlo0:zhc a b 0=0:=by simp [zhc,Nat.mod_one]
 have hc0:sumC a b 0=0:=by simp [sumC,Nat.mod_one]
 refine zah (fun x f σ=>∃(i c oh ol:Nat),x=128-i∧i≤128∧c=sumC a b i∧wA (zhc a b i)=.agg [.int .u64 oh,.int .u64 ol]∧f 2=.ptr 0 0∧f 3=.ptr 1 0∧f 4=.ptr 2 0∧f 6=.ptr 3 0∧f 7=.int .u64 c∧f 8=.int .i64 i∧
  σ= [.var 277 [.int .u64 ah,.int .u64 al],.var 277 [.int .u64 bh,.int .u64 bl],.var 277 [.int .u64 0,.int .u64 0],.var 277 [.int .u64 oh,.int .u64 ol]]) 128 ?_ ?_
 ·exact ⟨0,0,0,0,rfl,by omega,hc0.symm,by rw [hlo0];rfl,by simp,by simp,by simp,by simp,by simp,by simp,by simp⟩
 rintro x f σ ⟨i,c,oh,ol,hx,hi,hc,hO,f2,f3,f4,f6,f7,f8,rfl⟩
 have hwi:IntKind.i64.wrap ((i:Int)+1)=((i+1:Nat):Int):=by rw [zdD (by omega) (by omega)];omega
 have hcl:=z7d a b i
 simp [f8]
 refine zax (fun hlt=> ?_) (fun hge=> ?_)
 ·have hlt':i<128:=by omega
  have k1:=zuS (G:=G) a i ha hlt'
  have k2:=zuS (G:=G) b i hb hlt'
  rw [hA] at k1
  rw [hB] at k2
  obtain ⟨st1,st2⟩:=z4p a b i
  obtain ⟨u,hu⟩:∃u,u=bt a i:=⟨_,rfl⟩
  obtain ⟨v,hv⟩:∃v,v=bt b i:=⟨_,rfl⟩
  have hu2:u<2:=by rw [hu];exact z2p a i
  have hv2:v<2:=by rw [hv];exact z2p b i
  rw [←hu] at k1 st1 st2
  rw [←hv] at k2 st1 st2
  rw [←hc] at st1 st2 hcl
  obtain ⟨s,hs⟩:∃s,s=u+v+c:=⟨_,rfl⟩
  rw [←hs] at st1 st2
  have w1:IntKind.u64.wrap ((u:Int)+v)=(u:Int)+v:=by rw [zbg];omega
  have w2:IntKind.u64.wrap ((u:Int)+v+c)=(s:Int):=by rw [zbg];omega
  obtain ⟨c',hc'⟩:∃c',c'=s/2:=⟨_,rfl⟩
  have s1:za4 .shr .u64 (s:Int) 1=some (c':Int):=by rw [zfF s 1 (by omega) (by decide),hc']
  obtain ⟨d,hd⟩:∃d,d=s%2:=⟨_,rfl⟩
  have s2:zca .and .u64 (s:Int) 1=some (d:Int):=by rw [Go.Num.and_one s (by omega),hd]
  rw [←hc'] at st2
  rw [←hd] at st1
  simp [f2,f3,f7,f8]
  refine zaq k1 (by simp) (by simp) ?_
  simp [f2,f3,f7,f8]
  refine zaq k2 (by simp) (by simp) ?_
  simp [-za4, -zca,f2,f3,f6,f7,f8,w1,w2,s1,s2]
  refine zax (fun h=> ?_) (fun h=> ?_)
  ·have hd1:d=1:=by omega
   have hsl:zhc a b i<2^i:=ybs _ (yc1 i)
   have hpw:2^i*2≤340282366920938463463374607431768211456:=by
    rw [←yc5,show (340282366920938463463374607431768211456:Nat)=2^128 by decide];exact yed (by decide) (by omega)
   have k3:=zwH (G:=G) (zhc a b i) i (by omega) hlt' (z5x hsl)
   rw [hO] at k3
   have e1:zhc a b i+2^i=zhc a b (i+1):=by rw [st1,hd1,Nat.mul_one]
   rw [e1,zda (n:=zhc a b (i+1)) rfl rfl] at k3
   simp [f6,f8]
   refine zad k3 (by simp) ?_
   rintro r rfl
   simp [f6,f8,hwi]
   refine zae (128-(i+1)) (by omega) ⟨i+1,c',_,_,rfl,by omega,st2.symm,zda rfl rfl,by simp [f2],by simp [f3],by simp [f4],by simp [f6],by simp,by simp,by simp⟩
  ·have hd0:d=0:=by omega
   have e1:zhc a b (i+1)=zhc a b i:=by rw [st1,hd0,Nat.mul_zero,ycb]
   simp [f6,f8,hwi]
   refine zae (128-(i+1)) (by omega) ⟨i+1,c',oh,ol,rfl,by omega,st2.symm,by rw [e1];exact hO,by simp [f2],by simp [f3],by simp [f4],by simp [f6],by simp,by simp,by simp⟩
 ·have hi8:i=128:=by omega
  subst hi8
  have p1:(2:Nat)^128=340282366920938463463374607431768211456:=by decide
  have a1:a%2^128=a:=ybr (by rw [p1];exact ha)
  have b1:b%2^128=b:=ybr (by rw [p1];exact hb)
  have e1:zhc a b 128=(a+b)%340282366920938463463374607431768211456:=by
   unfold zhc
   rw [a1,b1,p1]
  have e2:sumC a b 128=(a+b)/340282366920938463463374607431768211456:=by
   unfold sumC
   rw [a1,b1,p1]
  rw [e1] at hO
  have e3:decide ((c:Int)=1)=decide (340282366920938463463374607431768211456≤a+b):=by
   rw [hc,e2];congr 1;apply propext;omega
  have e4:decide (c=1)=decide (340282366920938463463374607431768211456≤a+b):=by
   rw [hc,e2];congr 1;apply propext;omega
  rw [hO]
  simp [f4,f6,f7,e3,e4]
  try omega
end Go.Proofs.YtdbhocoeolhjhaaGreatDoor
end
section
set_option maxHeartbeats 2000000
namespace Go.Proofs.YtdbhocoeolhjhaaGreatDoor
open Go.Abs Go.Num
variable {G:Globs}
theorem zzy (x y:Nat) (hx:x<18446744073709551616) (hy:y<18446744073709551616):PCalls Tryz.prog zmB [.int .u64 x,.int .u64 y] (fun r=>r=wA (x*y)):=by
 refine zaa hmix zmQ rfl ?_
 simp [zhi]
 have p64:(2:Nat)^64=18446744073709551616:=by decide
 have bnd:∀i≤64,x*2^i<340282366920938463463374607431768211456:=fun i hi=>by
  have h1:(2:Nat)^i≤2^64:=yed (by decide) hi
  have h2:x*2^i≤x*2^64:=ycq x h1
  rw [p64] at h2;omega
 have bnd2:∀i,x*(y%2^i)<340282366920938463463374607431768211456:=fun i=>by
  have h1:x*(y%2^i)≤x*18446744073709551615:=ycq x (by have:=Nat.mod_le y (2^i);omega)
  omega
 refine zah (fun z f σ=>∃(i oh ol ph pl:Nat),z=64-i∧i≤64∧wA (x*(y%2^i))=.agg [.int .u64 oh,.int .u64 ol]∧wA (x*2^i)=.agg [.int .u64 ph,.int .u64 pl]∧f 1=.int .u64 y∧f 4=.ptr 0 0∧f 5=.ptr 1 0∧f 6=.ptr 2 0∧f 7=.int .i64 i∧
  σ= [.var 277 [.int .u64 0,.int .u64 0],.var 277 [.int .u64 oh,.int .u64 ol],.var 277 [.int .u64 ph,.int .u64 pl]]) 64 ?_ ?_
 ·refine ⟨0,0,0,0,x,rfl,by omega,by simp [Nat.mod_one,wA], ?_,by simp,by simp,by simp,by simp,by simp,by simp⟩
  rw [Nat.pow_zero,Nat.mul_one];exact zda (by omega) (by omega)
 rintro z f σ ⟨i,oh,ol,ph,pl,hz,hi,hO,hP,f1,f4,f5,f6,f7,rfl⟩
 have hwi:IntKind.i64.wrap ((i:Int)+1)=((i+1:Nat):Int):=by rw [zdD (by omega) (by omega)];omega
 simp [f7]
 refine zax (fun hlt=> ?_) (fun hge=> ?_)
 ·have hlt':i<64:=by omega
  have hw2:IntKind.u64.wrap (i:Int)=i:=by rw [zbg];omega
  obtain ⟨v,hv⟩:∃v,v=y/2^i:=⟨_,rfl⟩
  have hvM:v<18446744073709551616:=by rw [hv];exact ycg (yct _ _) hy
  have s1:za4 .shr .u64 (y:Int) i=some (v:Int):=by rw [zfF y i hy (by omega),hv]
  obtain ⟨d,hd⟩:∃d,d=v%2:=⟨_,rfl⟩
  have s2:zca .and .u64 (v:Int) 1=some (d:Int):=by rw [Go.Num.and_one v hvM,hd]
  have hbt:bt y i=d:=by rw [hd,hv];rfl
  have hst:=z4w x y i
  rw [hbt] at hst
  have k2:=zx3 (G:=G) (x*2^i) (bnd i (by omega))
  have e2:2*(x*2^i)%340282366920938463463374607431768211456=x*2^(i+1):=by
   have e:2*(x*2^i)=x*2^(i+1):=by rw [yc5,Nat.mul_left_comm,ybl 2]
   rw [e];exact ybr (bnd (i+1) (by omega))
  rw [e2,hP,zda (n:=x*2^(i+1)) rfl rfl] at k2
  simp [-za4, -zca,f1,f7,hw2,s1,s2]
  refine zax (fun h=> ?_) (fun h=> ?_)
  ·have hd1:d=1:=by omega
   rw [if_pos hd1] at hst
   have k1:=z1b (G:=G) (x*(y%2^i)) (x*2^i) (bnd2 i) (bnd i (by omega))
   rw [←hst,ybr (bnd2 (i+1)),hO,hP,zda (n:=x*(y%2^(i+1))) rfl rfl] at k1
   simp [f5,f6]
   refine zad k1 (by simp) ?_
   rintro r rfl
   simp [f5,f6]
   refine zad k2 (by simp) ?_
   rintro r rfl
   simp [f5,f6,f7,hwi]
   refine zae (64-(i+1)) (by omega) ⟨i+1,_,_,_,_,rfl,by omega,zda rfl rfl,zda rfl rfl,by simp [f1],by simp [f4],by simp [f5],by simp [f6],by simp,by simp⟩
  ·have hd1:¬d=1:=by omega
   rw [if_neg hd1,ycb] at hst
   simp [f5,f6]
   refine zad k2 (by simp) ?_
   rintro r rfl
   simp [f5,f6,f7,hwi]
   refine zae (64-(i+1)) (by omega) ⟨i+1,oh,ol,_,_,rfl,by omega,by rw [hst];exact hO,zda rfl rfl,by simp [f1],by simp [f4],by simp [f5],by simp [f6],by simp,by simp⟩
 ·have hi64:i=64:=by omega
  subst hi64
  rw [p64,ybr hy] at hO
  rw [hO]
  simp [f4,f5]
theorem z6i (a d:Nat) (ha:a<340282366920938463463374607431768211456) (hd:d<18446744073709551616):
  PCalls Tryz.prog zmM [wA a,.int .u64 d] (fun r=>r=if d=0 then .tup [wA 0,.int .u64 0,.int .i64 1] else .tup [wA (a/d),.int .u64 ((a%d:Nat):Int),.int .i64 0]):=by
 refine zaa hmix zml rfl ?_
 by_cases h0:d=0
 ·subst h0
  simp [zeE,wA]
 rw [if_neg h0]
 have h0':¬(d:Int)=0:=by omega
 obtain ⟨ah,hah⟩:∃h,h=a/18446744073709551616:=⟨_,rfl⟩
 obtain ⟨al,hal⟩:∃l,l=a%18446744073709551616:=⟨_,rfl⟩
 have hA:=zda hah hal
 rw [hA]
 obtain ⟨md,hmd⟩:∃m,m=a%d:=⟨_,rfl⟩
 rw [←hmd]
 simp [zeE,h0,h0']
 have p128:(2:Nat)^128=340282366920938463463374607431768211456:=by decide
 have p63:(2:Nat)^63=9223372036854775808:=by decide
 refine zah (fun z f σ=>∃(k r qh ql:Nat),z=k∧k≤128∧wA (a/2^k/d*2^k)=.agg [.int .u64 qh,.int .u64 ql]∧r=a/2^k%d∧f 1=.int .u64 d∧f 2=.ptr 0 0∧f 4=.ptr 1 0∧f 7=.ptr 2 0∧f 8=.int .u64 r∧f 9=.int .i64 ((k:Int)-1)∧
  σ= [.var 277 [.int .u64 ah,.int .u64 al],.var 277 [.int .u64 0,.int .u64 0],.var 277 [.int .u64 qh,.int .u64 ql]]) 128 ?_ ?_
 ·have e:a/2^128=0:=yeg (by rw [p128];exact ha)
  refine ⟨128,0,0,0,rfl,by omega,by rw [e,Nat.zero_div,Nat.zero_mul];rfl,by rw [e,Nat.zero_mod],by simp,by simp,by simp,by simp,by simp,by simp,by simp⟩
 rintro z f σ ⟨k,r,qh,ql,hz,hk,hO,hr,f1,f2,f4,f7,f8,f9,rfl⟩
 simp [f9]
 refine zax (fun hlt=> ?_) (fun hge=> ?_)
 ·obtain ⟨i,rfl⟩:∃i,k=i+1:=⟨k-1,by omega⟩
  have hki:(((i+1:Nat):Int)-1)=i:=by omega
  rw [hki] at f9
  have hi128:i<128:=by omega
  have hwi:IntKind.i64.wrap ((i:Int)-1)=(i:Int)-1:=zdD (by omega) (by omega)
  have k1:=zuS (G:=G) a i ha hi128
  rw [hA] at k1
  have hst:=z3D a i
  obtain ⟨b,hb⟩:∃b,b=bt a i:=⟨_,rfl⟩
  have hb2:b<2:=by rw [hb];exact z2p a i
  rw [←hb] at k1 hst
  have hrd:r<d:=by rw [hr];exact ybs _ (by omega)
  obtain ⟨n,hn⟩:∃n,n=a/2^(i+1):=⟨_,rfl⟩
  rw [←hn] at hst hr hO
  have hnd:=ycf n d
  rw [←hr] at hnd
  obtain ⟨q,hq⟩:∃q,q=n/d:=⟨_,rfl⟩
  rw [←hq] at hnd hO
  obtain ⟨nx1,nx2⟩:=z3M (n:=n) (d:=d) (q:=q) (r:=r) (b:=b) (by rw [ybl];exact hnd.symm) hrd hb2
  obtain ⟨t,ht⟩:∃t,t=r/9223372036854775808:=⟨_,rfl⟩
  have s19:za4 .shr .u64 (r:Int) 63=some (t:Int):=by rw [zfF r 63 (by omega) (by decide),ht,p63]
  obtain ⟨r2,hr2⟩:∃r2,r2=r*2%18446744073709551616:=⟨_,rfl⟩
  have s21:za4 .shl .u64 (r:Int) 1=some (r2:Int):=by rw [ziJ r 1 (by decide),hr2]
  obtain ⟨r3,hr3⟩:∃r3,r3=r2+b:=⟨_,rfl⟩
  have s25:zca .or .u64 (r2:Int) (b:Int)=some (r3:Int):=by
   rw [ztC r2 b (by omega) (by omega),hr3]
   have:=ycs (show b<2^1 by omega) (r2/2)
   have e2:2^1*(r2/2)=r2:=by omega
   rw [e2] at this
   rw [this]
  simp [-za4, -zca,f8,f2,f9,s19,s21]
  refine zad k1 (by simp) ?_
  rintro rr rfl
  simp [-za4, -zca,f1,f7,s25]
  by_cases hge2:d≤2*r+b
  ·obtain ⟨nx3,nx4⟩:=nx2 hge2
   have hcond:t=1∨d≤r3:=by omega
   have hsub:IntKind.u64.wrap ((r3:Int)-d)=((2*r+b-d:Nat):Int):=by rw [zbg];omega
   obtain ⟨r4,hr4⟩:∃r4,r4=2*r+b-d:=⟨_,rfl⟩
   rw [←hr4] at hsub nx3 nx4
   have h2q:2*n+b=(2*q+1)*d+r4:=nx3
   have hn2:a/2^i=2*n+b:=hst
   have hdq:a/2^i/d=2*q+1:=by
    rw [hn2,h2q,ybl,Nat.mul_add_div (by omega),yeg nx4,ycb]
   have hdr:a/2^i%d=r4:=by
    rw [hn2,h2q,ybl,Nat.mul_add_mod,ybr nx4]
   have hqe:q*2^(i+1)+2^i=(2*q+1)*2^i:=by rw [ya6,yej,yc5,ybl (2^i) 2,←ycu,ybl q 2]
   have hqb:(2*q+1)*2^i<340282366920938463463374607431768211456:=by
    rw [←hdq]
    have h1:a/2^i/d≤a/2^i:=yct _ _
    have h2:a/2^i/d*2^i≤a/2^i*2^i:=yas _ h1
    have h3:=yb0 a (2^i)
    omega
   have k3:=zwH (G:=G) (q*2^(i+1)) i (ycg (Nat.le_add_right _ (2^i)) (by rw [hqe];exact hqb)) hi128 (z7V q i (i+1) (by omega))
   rw [hqe,hO,zda (n:=(2*q+1)*2^i) rfl rfl] at k3
   have fin:∀f':Abs.Frame,True:=fun _=>trivial
   by_cases ht1:t=1
   ·have ht1':(t:Int)=1:=by omega
    simp [ht1,ht1',hsub,f1,f7,f9]
    refine zad k3 (by simp) ?_
    rintro rr rfl
    simp [f7,f9,hwi]
    refine zae i (by omega) ⟨i,r4,_,_,rfl,by omega,by rw [hdq];exact zda rfl rfl,hdr.symm,by simp [f1],by simp [f2],by simp [f4],by simp [f7],by simp,by simp,by simp⟩
   ·have ht1':¬(t:Int)=1:=by omega
    have hdr3:d≤r3:=by omega
    have hdr3':(d:Int)≤r3:=by omega
    simp [ht1,ht1',hdr3,hdr3',hsub,f1,f7,f9]
    refine zad k3 (by simp) ?_
    rintro rr rfl
    simp [f7,f9,hwi]
    refine zae i (by omega) ⟨i,r4,_,_,rfl,by omega,by rw [hdq];exact zda rfl rfl,hdr.symm,by simp [f1],by simp [f2],by simp [f4],by simp [f7],by simp,by simp,by simp⟩
  ·have nx3:=nx1 (by omega)
   have ht1:¬t=1:=by omega
   have ht1':¬(t:Int)=1:=by omega
   have hdr3:¬d≤r3:=by omega
   have hdr3':¬(d:Int)≤r3:=by omega
   have hr3e:r3=2*r+b:=by omega
   have hn2:a/2^i=2*n+b:=hst
   have hdq:a/2^i/d=2*q:=by
    rw [hn2,nx3,ybl,Nat.mul_add_div (by omega),yeg (by omega),ycb]
   have hdr:a/2^i%d=r3:=by
    rw [hn2,nx3,ybl,Nat.mul_add_mod,ybr (by omega),hr3e]
   have hqe:2*q*2^i=q*2^(i+1):=by rw [yc5,ybl (2^i) 2,←ycu,ybl q 2]
   simp [ht1,ht1',hdr3,hdr3',f1,f7,f9,hwi]
   refine zae i (by omega) ⟨i,r3,qh,ql,rfl,by omega,by rw [hdq,hqe];exact hO,hdr.symm,by simp [f1],by simp [f2],by simp [f4],by simp [f7],by simp,by simp,by simp⟩
 ·have hk0:k=0:=by omega
  subst hk0
  rw [Nat.pow_zero,Nat.div_one,Nat.mul_one] at hO
  rw [Nat.pow_zero,Nat.div_one] at hr
  rw [←hmd] at hr
  rw [hO]
  simp [f4,f7,f8,hr]
theorem z0w (a d:Nat) (ha:a<340282366920938463463374607431768211456) (hd:d<18446744073709551616):
  PCalls Tryz.prog zjL [wA a,.int .u64 d] (fun r=>r=if d=0 then .tup [.int .u64 0,.int .i64 1] else if rnd a d<18446744073709551616 then .tup [.int .u64 ((rnd a d:Nat):Int),.int .i64 0] else .tup [.int .u64 0,.int .i64 3]):=by
 refine zaa hmix zky rfl ?_
 obtain ⟨ah,hah⟩:∃h,h=a/18446744073709551616:=⟨_,rfl⟩
 obtain ⟨al,hal⟩:∃l,l=a%18446744073709551616:=⟨_,rfl⟩
 have hA:=zda hah hal
 have kd:=z6i (G:=G) a d ha hd
 rw [hA] at kd⊢
 by_cases h0:d=0
 ·subst h0
  simp [zd0]
  refine zad kd (by simp) ?_
  rintro r rfl
  simp [wA]
 rw [if_neg h0]
 simp [zd0]
 refine zad kd (by simp) ?_
 rw [if_neg h0]
 obtain ⟨q,hq⟩:∃x,x=a/d:=⟨_,rfl⟩
 obtain ⟨m,hm⟩:∃x,x=a%d:=⟨_,rfl⟩
 have hmd:m<d:=by rw [hm];exact ybs _ (by omega)
 rw [←hq,←hm]
 rintro r rfl
 have hrnd:rnd a d=q+(if d-m≤m then 1 else 0):=by rw [rnd,←hq,←hm]
 rw [hrnd]
 have hsub:IntKind.u64.wrap ((d:Int)-m)=((d-m:Nat):Int):=by rw [zbg];omega
 obtain ⟨dm,hdm⟩:∃x,x=d-m:=⟨_,rfl⟩
 rw [←hdm] at hsub
 have hqa:q<340282366920938463463374607431768211456:=by rw [hq];exact ycg (yct _ _) ha
 obtain ⟨qh,hqh⟩:∃x,x=q/18446744073709551616:=⟨_,rfl⟩
 obtain ⟨ql,hql⟩:∃x,x=q%18446744073709551616:=⟨_,rfl⟩
 rw [zda hqh hql]
 simp [hsub]
 refine zax (fun h=> ?_) (fun h=> ?_)
 ·have h':d-m≤m:=by omega
  have hq2:q+1<340282366920938463463374607431768211456:=by
   have hd2:2≤d:=by omega
   have:a/d≤a/2:=Nat.div_le_div_left hd2 (by decide)
   omega
  simp
  have hA:=z1b (G:=G) q 1 hqa (by decide)
  rw [zda hqh hql,show wA 1=.agg [.int .u64 0,.int .u64 1] from rfl] at hA
  refine zad hA (by simp) ?_
  rintro r rfl
  rw [ybr hq2,if_pos h']
  obtain ⟨ph,hph⟩:∃x,x=(q+1)/18446744073709551616:=⟨_,rfl⟩
  obtain ⟨pl,hpl⟩:∃x,x=(q+1)%18446744073709551616:=⟨_,rfl⟩
  rw [zda hph hpl]
  by_cases hp0:ph=0
  ·have:q+1<18446744073709551616:=by omega
   have e:pl=q+1:=by omega
   rw [if_pos this];simp [hp0,e]
  ·have:¬q+1<18446744073709551616:=by omega
   have hp0':¬(ph:Int)=0:=by omega
   rw [if_neg this];simp [hp0,hp0']
 ·have h':¬d-m≤m:=by omega
  rw [if_neg h',ycb]
  by_cases hp0:qh=0
  ·have:q<18446744073709551616:=by omega
   have e:ql=q:=by omega
   rw [if_pos this];simp [hp0,e]
  ·have:¬q<18446744073709551616:=by omega
   have hp0':¬(qh:Int)=0:=by omega
   rw [if_neg this];simp [hp0,hp0']
end Go.Proofs.YtdbhocoeolhjhaaGreatDoor
end
section
set_option maxHeartbeats 2000000
namespace Go.Num
open Go.Abs
theorem zel (n:N):numA n=.agg [.bool n.1,.int .i64 n.2]:=rfl
end Go.Num
namespace Go.Proofs.YtdbhocoeolhjhaaGreatDoor
open Go.Abs Go.Num
variable {G:Globs}
theorem zqm (n:N) (h:okN n):PCalls Tryz.prog zjP [numA n] (fun r=>r=.bool (zn3 n)):=by
 refine zaa hmix zkm rfl ?_
 obtain ⟨b,v⟩:=n
 obtain ⟨h1,h2⟩:=h
 simp only at h1 h2
 cases b
 ·have e:(!decide (v= -9223372036854775808))=decide (-most≤v):=by
   unfold most
   by_cases h:v= -9223372036854775808
   ·have:¬(-9223372036854775807≤v):=by omega
    simp [h]
   ·have: -9223372036854775807≤v:=by omega
    simp [h,this]
  simp [zd1,numA,zn3]
  rw [←e];simp
 ·simp [zd1,numA,zn3]
theorem zxw (n:N):(zn3 n&& !n.1)=good n:=by
 obtain ⟨b,v⟩:=n
 cases b<;>simp [zn3,good]
theorem znw (n:N) (h:okN n):PCalls Tryz.prog znM [numA n] (fun r=>r=.bool (good n)):=by
 refine zaa hmix znS rfl ?_
 have k:=zqm (G:=G) n h
 have hg:=zxw n
 rw [zel] at k⊢
 simp [zhP]
 refine zad k (by simp) ?_
 rintro r rfl
 cases hr:zn3 n
 ·rw [hr] at hg;simp at hg;simp [hg]
 ·rw [hr] at hg;simp at hg;simp [←hg]
theorem zb0:PCalls Tryz.prog zi5 [] (fun r=>r=numA zbH):=by
 refine zaa hmix ziB rfl ?_
 simp [zeR,numA,zbH]
theorem zna (v:Int) (h0: -9223372036854775808≤v) (h1:v≤9223372036854775807):PCalls Tryz.prog zaX [.int .i64 v] (fun r=>r=numA (tell v)):=by
 refine zaa hmix znZ rfl ?_
 have k:=zqm (G:=G) (false,v) ⟨h0,h1⟩
 rw [zel] at k
 simp [zhM]
 refine zad k (by simp) ?_
 rintro r rfl
 by_cases hv: -9223372036854775807≤v
 ·have e:tell v=(false,v):=by unfold tell most;rw [if_pos];omega
  simp [zn3,most,hv,e,numA]
 ·have e:tell v=zbH:=by unfold tell most;rw [if_neg];omega
  simp [zn3,most,hv,e]
  refine zad zb0 (by simp) ?_
  rintro r rfl
  simp [numA,e]
theorem zkF (v:Int) (h0: -9223372036854775808≤v) (h1:v≤9223372036854775807):PCalls Tryz.prog zlg [.int .i64 v] (fun r=>r=.int .u64 v.natAbs):=by
 refine zaa hmix zkT rfl ?_
 simp [zgj]
 refine zax (fun hlt=> ?_) (fun hge=> ?_)
 ·have w1:IntKind.i64.wrap (v+1)=v+1:=zdD (by omega) (by omega)
  have w2:IntKind.i64.wrap (-(v+1))= -(v+1):=zdD (by omega) (by omega)
  have w2':IntKind.i64.wrap (-1+ -v)= -(v+1):=by rw [zdD (by omega) (by omega)];omega
  have w3:IntKind.u64.wrap (-(v+1))= -(v+1):=by rw [zbg];omega
  have w4:IntKind.u64.wrap (-(v+1)+1)= -v:=by rw [zbg];omega
  simp [w1,w2,w2',w3,w4]
  omega
 ·have w:IntKind.u64.wrap v=v:=by rw [zbg];omega
  simp [w]
  omega
theorem zm6 (n:Nat) (hn:n<18446744073709551616) (b:Bool):PCalls Tryz.prog zjl [.int .u64 n,.bool b] (fun r=>r=numA (tell (sgn b n))):=by
 refine zaa hmix zjq rfl ?_
 simp [zfo]
 refine zax (fun hlt=> ?_) (fun hge=> ?_)
 ·simp
  refine zad zb0 (by simp) ?_
  rintro r rfl
  have:tell (sgn b n)=zbH:=by
   unfold tell sgn most
   cases b<;>simp<;>omega
  simp [this,numA]
 ·have hw:IntKind.i64.wrap (n:Int)=n:=zdD (by omega) (by omega)
  have hw2:IntKind.i64.wrap (-(n:Int))= -n:=zdD (by omega) (by omega)
  cases b
  ·have:tell (sgn false n)=(false,(n:Int)):=by
    unfold tell sgn most;simp;omega
   simp [hw,this,numA]
  ·have:tell (sgn true n)=(false, -(n:Int)):=by
    unfold tell sgn most;simp;omega
   simp [hw,hw2,this,numA]
theorem zmf (n:Int) (h0: -9223372036854775808≤n) (h1:n≤9223372036854775807):PCalls Tryz.prog zbo [.int .i64 n] (fun r=>r=numA (tell (n*1000000))):=by
 refine zaa hmix zmH rfl ?_
 simp [zgW]
 refine zad (zkF n h0 h1) (by simp) ?_
 rintro r rfl
 obtain ⟨s,hs⟩:∃s,s=n.natAbs:=⟨_,rfl⟩
 obtain ⟨h,hh⟩:∃x,x=s*1000000/18446744073709551616:=⟨_,rfl⟩
 obtain ⟨l,hl⟩:∃x,x=s*1000000%18446744073709551616:=⟨_,rfl⟩
 have k:=zzy (G:=G) s 1000000 (by omega) (by decide)
 rw [zda hh hl] at k
 rw [←hs]
 simp
 refine zad k (by simp) ?_
 rintro r rfl
 by_cases hz:h=0
 ·have hsg:sgn (decide (n<0)) l=n*1000000:=by
   unfold sgn;by_cases hn:n<0<;>simp [hn]<;>omega
  simp [hz]
  refine zad (zm6 l (by omega) (decide (n<0))) (by simp) ?_
  rintro r rfl
  rw [hsg]
  simp [numA]
 ·have hz':¬(h:Int)=0:=by omega
  have:tell (n*1000000)=zbH:=by unfold tell most;rw [if_neg];omega
  simp [hz,hz',this]
  refine zad zb0 (by simp) ?_
  rintro r rfl
  simp [this,numA]
theorem zjd (a b:N) (ha:okN a) (hb:okN b):PCalls Tryz.prog zbp [numA a,numA b] (fun r=>r=numA (addN a b)):=by
 refine zaa hmix zmA rfl ?_
 have ka:=znw (G:=G) a ha
 have kb:=znw (G:=G) b hb
 obtain ⟨a1,a2⟩:=ha
 obtain ⟨b1,b2⟩:=hb
 rw [zel] at ka kb
 rw [zel a,zel b]
 simp [zgS]
 refine zad ka (by simp) ?_
 rintro r rfl
 cases hga:good a with
 |false=>
  simp
  refine zad zb0 (by simp) ?_
  rintro r rfl
  simp [addN,hga,numA]
 |true=>
  simp
  refine zad kb (by simp) ?_
  rintro r rfl
  cases hgb:good b with
  |false=>
   simp
   refine zad zb0 (by simp) ?_
   rintro r rfl
   simp [addN,hga,hgb,numA]
  |true=>
   have va:=(zfu.1 hga).2
   have vb:=(zfu.1 hgb).2
   simp only [most] at va vb
   have e:addN a b=tell (a.2+b.2):=by simp [addN,hga,hgb]
   rw [e]
   by_cases hs:(decide (a.2<0))=(decide (b.2<0))
   ·have hs':(decide (a.2<0)==decide (b.2<0))=true:=by simp [hs]
    have hsi:(a.2<0↔b.2<0):=by simpa using hs
    have hw:IntKind.u64.wrap ((a.2.natAbs:Int)+b.2.natAbs)=((a.2.natAbs+b.2.natAbs:Nat):Int):=by rw [zbg];omega
    obtain ⟨sa,hsa⟩:∃s,s=a.2.natAbs:=⟨_,rfl⟩
    obtain ⟨sb,hsb⟩:∃s,s=b.2.natAbs:=⟨_,rfl⟩
    obtain ⟨sc,hsc⟩:∃s,s=sa+sb:=⟨_,rfl⟩
    rw [←hsa,←hsb,←hsc] at hw
    have ksa:=zkF (G:=G) a.2 a1 a2
    have ksb:=zkF (G:=G) b.2 b1 b2
    rw [←hsa] at ksa
    rw [←hsb] at ksb
    have hsg:sgn (decide (a.2<0)) sc=a.2+b.2:=by
     unfold sgn;by_cases hn:a.2<0<;>simp [hn]<;>omega
    simp [hs']
    refine zaq ksa (by simp) (by simp) ?_
    simp
    refine zaq ksb (by simp) (by simp) ?_
    simp [hw]
    refine zaq (zm6 sc (by omega) (decide (a.2<0))) (by simp) (by simp [numA]) ?_
    rw [hsg]
    simp [numA]
   ·have hs':(decide (a.2<0)==decide (b.2<0))=false:=by simpa using hs
    have hsi:¬(a.2<0↔b.2<0):=by simpa using hs
    have hw:IntKind.i64.wrap (a.2+b.2)=a.2+b.2:=zdD (by omega) (by omega)
    have ht:tell (a.2+b.2)=(false,a.2+b.2):=by unfold tell most;rw [if_pos];omega
    rw [ht]
    simp [hs',hw,numA]
theorem zjc (a b:N) (ha:okN a) (hb:okN b):PCalls Tryz.prog zbl [numA a,numA b] (fun r=>r=numA (divN a b)):=by
 refine zaa hmix zmK rfl ?_
 have ka:=znw (G:=G) a ha
 have kb:=znw (G:=G) b hb
 obtain ⟨a1,a2⟩:=ha
 obtain ⟨b1,b2⟩:=hb
 rw [zel] at ka kb
 rw [zel a,zel b]
 simp [zgO]
 refine zad ka (by simp) ?_
 rintro r rfl
 cases hga:good a with
 |false=>
  simp
  refine zad zb0 (by simp) ?_
  rintro r rfl
  simp [divN,hga,numA]
 |true=>
  simp
  refine zad kb (by simp) ?_
  rintro r rfl
  cases hgb:good b with
  |false=>
   simp
   refine zad zb0 (by simp) ?_
   rintro r rfl
   simp [divN,hga,hgb,numA]
  |true=>
   have va:=(zfu.1 hga).2
   have vb:=(zfu.1 hgb).2
   simp only [most] at va vb
   by_cases hb0:b.2=0
   ·simp [hb0]
    refine zad zb0 (by simp) ?_
    rintro r rfl
    simp [divN,hga,hgb,hb0,numA]
   ·obtain ⟨sa,hsa⟩:∃s,s=a.2.natAbs:=⟨_,rfl⟩
    obtain ⟨sb,hsb⟩:∃s,s=b.2.natAbs:=⟨_,rfl⟩
    have e:divN a b=tell (sgn (decide (a.2<0) !=decide (b.2<0)) (rnd (sa*1000000) sb)):=by simp [divN,hga,hgb,hb0,hsa,hsb]
    rw [e]
    have ksa:=zkF (G:=G) a.2 a1 a2
    have ksb:=zkF (G:=G) b.2 b1 b2
    rw [←hsa] at ksa
    rw [←hsb] at ksb
    have km:=zzy (G:=G) sa 1000000 (by omega) (by decide)
    have hxy:sa*1000000<340282366920938463463374607431768211456:=by omega
    have kr:=z0w (G:=G) (sa*1000000) sb hxy (by omega)
    have hsb0:¬sb=0:=by omega
    rw [if_neg hsb0] at kr
    obtain ⟨h,hh⟩:∃x,x=sa*1000000/18446744073709551616:=⟨_,rfl⟩
    obtain ⟨l,hl⟩:∃x,x=sa*1000000%18446744073709551616:=⟨_,rfl⟩
    rw [zda hh hl] at km kr
    obtain ⟨q,hq⟩:∃q,q=rnd (sa*1000000) sb:=⟨_,rfl⟩
    rw [←hq] at kr⊢
    simp [hb0]
    refine zaq ksa (by simp) (by simp) ?_
    simp
    refine zaq km (by simp) (by simp) ?_
    simp
    refine zaq ksb (by simp) (by simp) ?_
    simp
    by_cases hqM:q<18446744073709551616
    ·rw [if_pos hqM] at kr
     refine zaq kr (by simp) (by simp) ?_
     simp
     refine zad (zm6 q hqM (decide (a.2<0) !=decide (b.2<0))) (by simp) ?_
     rintro r rfl
     simp [numA]
    ·rw [if_neg hqM] at kr
     have:tell (sgn (decide (a.2<0) !=decide (b.2<0)) q)=zbH:=by
      unfold tell sgn most
      cases (decide (a.2<0) !=decide (b.2<0))<;>simp<;>omega
     rw [this]
     refine zaq kr (by simp) (by simp) ?_
     simp
     refine zad zb0 (by simp) ?_
     rintro r rfl
     simp [numA]
theorem zgG (a b:N) (ha:okN a) (hb:okN b):PCalls Tryz.prog zbd [numA a,numA b] (fun r=>r=numA (zpH a b)):=by
 refine zaa hmix zlN rfl ?_
 have ka:=znw (G:=G) a ha
 have kb:=znw (G:=G) b hb
 rw [zel] at ka kb
 rw [zel a,zel b]
 simp [zg0]
 refine zad ka (by simp) ?_
 rintro r rfl
 cases hga:good a with
 |false=>
  simp
  refine zad kb (by simp) ?_
  rintro r rfl
  cases hgb:good b with
  |false=>
   simp
   refine zad zb0 (by simp) ?_
   rintro r rfl
   simp [zpH,hga,hgb,numA]
  |true=>
   simp
   refine zad ka (by simp) ?_
   rintro r rfl
   simp [hga,zpH,hgb,numA]
 |true=>
  simp
  refine zad ka (by simp) ?_
  rintro r rfl
  simp [hga]
  refine zad kb (by simp) ?_
  rintro r rfl
  cases hgb:good b with
  |false=>simp [zpH,hga,hgb,numA]
  |true=>
   by_cases hle:a.2≤b.2
   ·simp [zpH,hga,hgb,hle,numA]
   ·simp [zpH,hga,hgb,hle,numA]
theorem zhg (a b:N) (ha:okN a) (hb:okN b):PCalls Tryz.prog zbe [numA a,numA b] (fun r=>r=numA (zpI a b)):=by
 refine zaa hmix zlH rfl ?_
 have ka:=znw (G:=G) a ha
 have kb:=znw (G:=G) b hb
 rw [zel] at ka kb
 rw [zel a,zel b]
 simp [zg3]
 refine zad ka (by simp) ?_
 rintro r rfl
 cases hga:good a with
 |false=>
  simp
  refine zad kb (by simp) ?_
  rintro r rfl
  cases hgb:good b with
  |false=>
   simp
   refine zad zb0 (by simp) ?_
   rintro r rfl
   simp [zpI,hga,hgb,numA]
  |true=>
   simp
   refine zad ka (by simp) ?_
   rintro r rfl
   simp [hga,zpI,hgb,numA]
 |true=>
  simp
  refine zad ka (by simp) ?_
  rintro r rfl
  simp [hga]
  refine zad kb (by simp) ?_
  rintro r rfl
  cases hgb:good b with
  |false=>simp [zpI,hga,hgb,numA]
  |true=>
   by_cases hle:b.2≤a.2
   ·simp [zpI,hga,hgb,hle,numA]
   ·simp [zpI,hga,hgb,hle,numA]
end Go.Proofs.YtdbhocoeolhjhaaGreatDoor
end
section
set_option maxHeartbeats 4000000
namespace Go.Sf
open Go.Abs Go.Num
def zcI (s:Slot):List AV:= [.int .i64 s.1,.int .i64 s.2]
def zav (l:List Slot):List (List AV):=l.map zcI
def zai (step:Nat) (l:List Slot):List AV:= [.int .i64 step,.lst (zav l)]
def zap (l:LadM):List (List AV):= [zai 10 l.fine,zai 60 l.wide]
def ladC (l:LadM):List AV:= [.int .i64 1,.int .i64 500000,.lst (zap l)]
def rungsC:List (List AV):= [[.int .i64 10,.int .i64 6],[.int .i64 60,.int .i64 5]]
theorem zaw (l:List Slot):(zav l).length=l.length:=by simp [zav]
theorem zcA (l:List Slot):Els 2 (zav l):=by
 refine ⟨fun c hc=> ?_,fun c hc=> ?_,fun c hc=> ?_⟩<;>obtain ⟨n,_,rfl⟩:=yav.1 hc<;>simp [zcI,AV.pure,AV.one]
theorem zdb {l:List Slot} {i:Nat} {s:Slot} (h:l[i]? =some s):(zav l)[i]? =some (zcI s):=by simp [zav,h]
theorem zdK (σ:zac) (m k:Nat) (l:List Slot):((zav l).mapM fun (c:List AV)=>c.mapM (fz σ m k))=some (zav l):=zdg (zcA l).2.1 (fun c hc=>by obtain ⟨n,_,rfl⟩:=yav.1 hc;simp [zcI])
theorem zqt (l:List Slot) (i:Nat) (s:Slot):(zav l).set i (zcI s)=zav (l.set i s):=by simp [zav,List.map_set]
theorem zvx (l:List Slot) (s:Slot):zav (l++ [s])=zav l++ [zcI s]:=by simp [zav]
structure Sized (step:Nat) (l:List Slot):Prop where
 s1:1≤step
 s2:step≤86400
 n1:1≤l.length
 n2:l.length≤400
end Go.Sf
namespace Go.Proofs.YtdbhocoeolhjhaaGreatDoor
open Go.Abs Go.RowKit Go.Sf Go.Num
variable {G:Globs}
theorem wk0:IntKind.i64.wrap 0=0:=by decide
theorem wk1:IntKind.i64.wrap 1=1:=by decide
theorem wk2:IntKind.i64.wrap 2=2:=by decide
theorem wk6:IntKind.i64.wrap 6=6:=by decide
theorem zgY (t:Nat) (h:t≤1099511627776):PCalls Tryz.prog zkp [.int .i64 t] (fun r=>r=.bool true):=by
 refine zaa hmix zkb rfl ?_
 have h1:(0:Int)≤t:=by omega
 have h2:(t:Int)≤1099511627776:=by omega
 simp [zfU,h1,h2,h]
theorem zjI (step:Nat) (l:List Slot) (hz:Sized step l) (h:zdj step l):PCalls Tryz.prog zke [.agg (zai step l)] (fun r=>r=.bool true):=by
 refine zaa hmix zk2 rfl ?_
 obtain ⟨s1,s2,n1,n2⟩:=hz
 have k1:¬((step:Int)<1):=by omega
 have k2:¬((86400:Int)<step):=by omega
 have k3:¬((l.length:Int)<1):=by omega
 have k4:¬((400:Int)<l.length):=by omega
 have k2':¬(86400<step):=by omega
 have k4':¬(400<l.length):=by omega
 have k1':step≠0:=by omega
 have k3':l.length≠0:=by omega
 have k3'':l≠ []:=fun e=>by rw [e] at n1;simp at n1
 have hle:=zaw l
 simp [zfV,zai,k1,k2,k3,k4,k1',k2',k3',k3'',k4',hle]
 refine zah (fun x f σ=>∃(i:Nat) (tl:zac),x=l.length-i∧i≤l.length∧f 1=.ptr 0 0∧f 3=.int .i64 i∧σ=.var 112 (zai step l)::tl) l.length ?_ ?_
 ·exact ⟨0,[],by simp,by simp,by simp,by simp,by simp [zai]⟩
 rintro x f σ ⟨i,tl,hx,hi,h1,h3,rfl⟩
 simp [h1,h3,zai,hle]
 refine zax (fun hlt=> ?_) (fun hge=> ?_)
 ·have hlt':i<l.length:=by omega
  have hwi:IntKind.i64.wrap ((i:Int)+1)=((i+1:Nat):Int):=by rw [wrap_i64 (by omega) (by omega)];omega
  obtain ⟨s,hs⟩:∃s,l[i]? =some s:=⟨_,yad hlt'⟩
  have hc:=zdb hs
  obtain ⟨hx1,hx2⟩:=yaa.1 hc
  rcases h i s hs with ⟨e1,e2⟩|⟨k,e1,e2,e3,e4,e5⟩
  ·simp [h1,h3,zai,hc,hx2,zcI,zam,zal,splice,e1,e2,hwi]
   exact zae (l.length-(i+1)) (by omega) ⟨i+1,tl++ [.var 186 (zcI s)],rfl,by omega,by simp [h1],by simp,by simp [zai,zcI,e1,e2]⟩
  ·have g1:¬s.1= -1:=by omega
   simp [h1,h3,zai,hc,hx2,zcI,zam,zal,splice,g1]
   rw [e1]
   refine zaq (zgY (k*step) e2) (by simp) (by simp) ?_
   have g2:((k*step:Nat):Int).tmod step=0:=by
    rw [ycw (by omega)];simp
   have g3:((k*step:Nat):Int).tdiv step=k:=by
    rw [Int.tdiv_eq_ediv_of_nonneg (by omega)]
    simp only [yc7]
    exact Int.mul_ediv_cancel _ (by omega)
   have g4:(k:Int).tmod l.length=i:=by
    rw [ycw (by omega),←e3];simp
   have hk40:k≤1099511627776:=yca (Nat.le_mul_of_pos_right k s1) e2
   have g5:IntKind.i64.wrap (k:Int)=k:=wrap_i64 (by omega) (by omega)
   have g6:(step:Int)≠0:=by omega
   have g7:(l.length:Int)≠0:=by omega
   simp [h1,h3,zai,hc,hx2,zcI,zam,zal,splice,g1,g2,g3,g4,g5,g6,g7,k1',k3',k3'',e1,e5,hle,hwi, -Int.natCast_mul]
   exact zae (l.length-(i+1)) (by omega) ⟨i+1,tl++ [.var 186 (zcI s)],rfl,by omega,by simp [h1],by simp,by simp [zai,zcI,e1]⟩
 ·simp
theorem zbI (a b:Nat):((a:Int)).tmod b=((a%b:Nat):Int):=by rw [ycw (by omega)];rfl
theorem zrF (a b:Nat):((a:Int)).tdiv b=((a/b:Nat):Int):=by rw [Int.tdiv_eq_ediv_of_nonneg (by omega)];rfl
theorem zmd (t s:Nat):(t:Int)-((t%s:Nat):Int)=((t/s*s:Nat):Int):=by
 have h:=ycf t s
 rw [ybl] at h
 omega
theorem zot (step:Nat) (l:List Slot) (hz:Sized step l) (h:zdj step l) (t:Nat) (ht:t≤1099511627776):PCalls Tryz.prog zkn [.agg (zai step l),.int .i64 t] (fun r=>r=.tup [.int .i64 (t/step*step:Nat),.int .i64 0]):=by
 refine zaa hmix zk5 rfl ?_
 simp [zf9,zai]
 refine zad (zjI step l hz h) (by simp [AV.pure,zai]) ?_
 rintro r rfl
 simp
 refine zad (zgY t ht) (by simp) ?_
 rintro r rfl
 have s1:=hz.s1
 have g1:(step:Int)≠0:=by omega
 have g1':step≠0:=by omega
 have hd:=yb0 t step
 have hw:IntKind.i64.wrap ((t/step*step:Nat):Int)=((t/step*step:Nat):Int):=wrap_i64 (by omega) (by omega)
 simp [g1,g1',zbI,zmd,hw, -Int.natCast_mul, -Int.natCast_emod]
 rw [yc7,Int.natCast_ediv]
theorem zqY (step:Nat) (l:List Slot) (hl:l.length≤1000000):PCalls Tryz.prog zgq [.agg (zai step l)] (fun r=>r=.agg (zai step l)):=by
 refine zaa hmix zgn rfl ?_
 have hle:=zaw l
 simp [zdY,zai]
 refine ⟨?_, ?_⟩
 all_goals
  refine zaK [] (zav l) false (by simp) rfl (by decide) (zcA l).1 (fun h=>by cases h) rfl (by simp;omega) (by simp;omega) ?_
  simp [zdK]
theorem zvv (σ:zac) (step:Nat) (l:List Slot) (hl:l.length≤1000000):ACalls Tryz.prog zgq [.agg (zai step l)] σ (fun r σ'=>r=.agg [.int .i64 step,.row (σ.length+2) l.length]∧σ'=σ++ [.var 112 (zai step l),.var 112 [.int .i64 step,.row (σ.length+2) l.length],.row 186 2 (zav l) false]):=by
 refine zag hmix zgn rfl ?_
 have hle:=zaw l
 simp [zdY,zai]
 refine ⟨?_, ?_⟩
 all_goals
  refine zaK [] (zav l) false (by simp [zaY]) rfl (by decide) (zcA l).1 (fun h=>by cases h) rfl (by simp;omega) (by simp;omega) ?_
  simp [zbu,za6,zaY,zxh,zdx,zdv,splice,hle]
  refine za5 (σ++ [.var 112 (zai step l),.var 112 [.int .i64 step,.row (σ.length+2) l.length],.row 186 2 (zav l) false]) (.agg [.int .i64 step,.row (σ.length+2) l.length]) (by simp [zaE,za6]) [] (by simp [zai]) (by simp) (by simp [AV.under]) (fun i e he'=> ?_) ⟨rfl,by simp [zai]⟩
  rcases yel i σ.length with hlt|hge2
  ·rw [yar hlt] at he'
   exact .inl he'
  ·rw [yaj hge2] at he'
   right
   obtain ⟨j,hj⟩:∃j,j=i-σ.length:=⟨_,rfl⟩
   rw [←hj] at he'
   match j,he' with
   |0,he'=>
    simp at he';subst he'
    simp [Entry.under,zai,AV.under]
   |1,he'=>
    simp at he';subst he'
    simp [Entry.under,AV.under]
   |2,he'=>
    simp at he';subst he'
    exact za7 (zcA l).2.1
   |j+3,he'=>simp at he'
theorem zp2 (step:Nat) (l:List Slot) (hz:Sized step l) (h:zdj step l) (t:Nat) (ht:t≤1099511627776) (v:Int) (hv:v≠ -9223372036854775808):PCalls Tryz.prog zme [.agg (zai step l),.int .i64 t,.int .i64 v] (fun r=>r=.tup [.agg (zai step (setR step l t v)),.int .i64 0]):=by
 refine zaa hmix zmj rfl ?_
 have hle:=zaw l
 obtain ⟨s1,s2,n1,n2⟩:=hz
 have g1:(step:Int)≠0:=by omega
 have g1':step≠0:=by omega
 have g2:(l.length:Int)≠0:=by omega
 have g2':l.length≠0:=by omega
 have g2'':l≠ []:=fun e=>by rw [e] at n1;simp at n1
 have hd:=yb0 t step
 have hdl:t/step≤t:=yct _ _
 obtain ⟨at',hat⟩:∃at',at'=t/step*step:=⟨_,rfl⟩
 have hq:at'/step=t/step:=by rw [hat];exact ydf _ (by omega)
 have hpl:t/step%l.length<l.length:=ybs _ (by omega)
 obtain ⟨q,hqe⟩:∃q,q=t/step:=⟨_,rfl⟩
 obtain ⟨p,hp⟩:∃p,p=q%l.length:=⟨_,rfl⟩
 rw [←hqe] at hq hdl hpl
 rw [←hp] at hpl
 have hA1:(at':Int)/(step:Int)=(q:Int):=by rw [←hq];rfl
 have hA1':(at':Int).tdiv (step:Int)=(q:Int):=by rw [zrF,hq]
 have hA2:IntKind.i64.wrap (q:Int)=(q:Int):=wrap_i64 (by omega) (by omega)
 have hA3:(q:Int).tmod (l.length:Int)=(p:Int):=by rw [zbI,hp]
 have hA4:(q:Int)%(l.length:Int)=(p:Int):=by rw [hp];rfl
 have kA:=zot (G:=G) step l ⟨s1,s2,n1,n2⟩ h t ht
 rw [←hat] at kA
 simp [zgX,zai]
 refine zad kA (by simp [AV.pure,zai]) ?_
 rintro r rfl
 simp [hv]
 refine zar (zvv _ step l (by omega)) ?_
 rintro r σ ⟨rfl,rfl⟩
 obtain ⟨s,hs⟩:∃s,l[p]? =some s:=⟨l[p]'(by omega),yad (by omega)⟩
 have hc:=zdb hs
 obtain ⟨hx1,hx2⟩:=yaa.1 hc
 have hpl':p<l.length:=by omega
 have hset:(zav l).set p [.int .i64 (at':Int),.int .i64 v]=zav (setR step l t v):=by
  rw [hp,hqe,setR,←zqt,hat];rfl
 have hll:l.length=(zav (setR step l t v)).length:=by rw [zaw,zea]
 simp [zai,hA1,hA1',hA2,hA3,hA4,g1,g1',g2,g2',g2'',hle,hpl',hc,hx2,zcI,splice,hset]
 rw [if_pos hll.symm]
 simp [zdK]
theorem zzv (step:Nat) (l:List Slot) (hz:Sized step l) (h:zdj step l) (t:Nat) (ht:t≤1099511627776):PCalls Tryz.prog zm0 [.agg (zai step l),.int .i64 t] (fun r=>r=numA (numO (getR step l t))):=by
 refine zaa hmix zmE rfl ?_
 have hle:=zaw l
 obtain ⟨s1,s2,n1,n2⟩:=hz
 have g1:(step:Int)≠0:=by omega
 have g1':step≠0:=by omega
 have g2:(l.length:Int)≠0:=by omega
 have g2':l.length≠0:=by omega
 have g2'':l≠ []:=fun e=>by rw [e] at n1;simp at n1
 have hd:=yb0 t step
 have hdl:t/step≤t:=yct _ _
 obtain ⟨at',hat⟩:∃at',at'=t/step*step:=⟨_,rfl⟩
 have hq:at'/step=t/step:=by rw [hat];exact ydf _ (by omega)
 have hpl:t/step%l.length<l.length:=ybs _ (by omega)
 obtain ⟨q,hqe⟩:∃q,q=t/step:=⟨_,rfl⟩
 obtain ⟨p,hp⟩:∃p,p=q%l.length:=⟨_,rfl⟩
 rw [←hqe] at hq hdl hpl
 rw [←hp] at hpl
 have hA1:(at':Int)/(step:Int)=(q:Int):=by rw [←hq];rfl
 have hA1':(at':Int).tdiv (step:Int)=(q:Int):=by rw [zrF,hq]
 have hA2:IntKind.i64.wrap (q:Int)=(q:Int):=wrap_i64 (by omega) (by omega)
 have hA3:(q:Int).tmod (l.length:Int)=(p:Int):=by rw [zbI,hp]
 have hA4:(q:Int)%(l.length:Int)=(p:Int):=by rw [hp];rfl
 have kA:=zot (G:=G) step l ⟨s1,s2,n1,n2⟩ h t ht
 rw [←hat] at kA
 simp [zgR,zai]
 refine zad kA (by simp [AV.pure,zai]) ?_
 rintro r rfl
 obtain ⟨s,hs⟩:∃s,l[p]? =some s:=⟨l[p]'(by omega),yad (by omega)⟩
 have hc:=zdb hs
 obtain ⟨hx1,hx2⟩:=yaa.1 hc
 have hg:getR step l t=if s.1=(at':Int) then some s.2 else none:=by
  unfold getR
  rw [←hqe,←hp,hs]
  simp only
  rw [hqe,←hat]
 by_cases he:s.1=(at':Int)
 ·simp [hA1,hA1',hA2,hA3,hA4,g1,g1',g2,g2',g2'',hle,hpl,hc,hx2,zcI,splice,he,hg,numO,numA]
 ·simp [hA1,hA1',hA2,hA3,hA4,g1,g1',g2,g2',g2'',hle,hpl,hc,hx2,zcI,splice,he]
  refine zad zb0 (by simp) ?_
  rintro r rfl
  simp [hg,he,numO,numA,zbH,splice]
theorem zoy (l:List Slot) (hl:l.length≤1000000):PCalls Tryz.prog zhI [.lst (zav l),.lst (zav l)] (fun r=>r=.bool true):=by
 refine zaa hmix zh9 rfl ?_
 simp [zeh]
 have hle:=zaw l
 refine zah (fun x f σ=>∃(i:Nat),x=l.length-i∧i≤l.length∧f 0=.lst (zav l)∧f 1=.lst (zav l)∧f 5=.int .i64 i∧σ= []) l.length ?_ ?_
 ·exact ⟨0,by simp,by simp,by simp,by simp,by simp,by simp⟩
 rintro x f σ ⟨i,hx,hi,h0,h1,h5,rfl⟩
 simp [h0,h5,hle]
 refine zax (fun hlt=> ?_) (fun hge=> ?_)
 ·have hlt':i<l.length:=by omega
  have hwi:IntKind.i64.wrap ((i:Int)+1)=((i+1:Nat):Int):=by rw [wrap_i64 (by omega) (by omega)];omega
  obtain ⟨n,hn⟩:∃n,l[i]? =some n:=⟨_,yad hlt'⟩
  have hc:=zdb hn
  obtain ⟨hx1,hx2⟩:=yaa.1 hc
  simp [h0,h1,h5,hc,hx2,zcI,zjJ,hwi]
  exact zae (l.length-(i+1)) (by omega) ⟨i+1,rfl,by omega,by simp [h0],by simp [h1],by simp,rfl⟩
 ·simp
theorem zqx (step:Nat) (l:List Slot) (hl:l.length≤1000000):PCalls Tryz.prog zlz [.agg (zai step l),.agg (zai step l)] (fun r=>r=.bool true):=by
 refine zaa hmix zkV rfl ?_
 simp [zgr,zai]
 refine zad (zoy l hl) (by simp [AV.pure]) ?_
 rintro r rfl
 simp
theorem ziV (l:LadM):Els 2 (zap l):=by
 refine ⟨fun c hc=> ?_,fun c hc=> ?_,fun c hc=> ?_⟩<;>
 ·simp [zap] at hc
  rcases hc with rfl|rfl<;>simp [zai,AV.pure,AV.one]
theorem zms (l:LadM) (h:RightL l):PCalls Tryz.prog zly [.agg (ladC l),.agg (ladC l)] (fun r=>r=.bool true):=by
 refine zaa hmix zl9 rfl ?_
 simp [zgx,ladC,zap]
 refine zah (fun x f σ=>∃(i:Nat),x=2-i∧i≤2∧f 2=.ptr 0 0∧f 3=.ptr 1 0∧f 5=.int .i64 i∧σ= [.var 55 (ladC l),.var 55 (ladC l)]) 2 ?_ ?_
 ·exact ⟨0,by simp,by simp,by simp,by simp,by simp,by simp [ladC,zap]⟩
 rintro x f σ ⟨i,hx,hi,h2,h3,h5,rfl⟩
 have hi3:i=0∨i=1∨i=2:=by omega
 rcases hi3 with rfl|rfl|rfl
 ·simp [h2,h3,h5,ladC,zap,zai]
  refine zaq (zqx 10 l.fine (by rw [h.n1];omega)) (by simp [AV.pure,zai]) (by simp) ?_
  simp [h5,wk1]
  exact zae 1 (by omega) ⟨1,rfl,by omega,by simp [h2],by simp [h3],by simp,by simp [ladC,zap,zai]⟩
 ·simp [h2,h3,h5,ladC,zap,zai]
  refine zaq (zqx 60 l.wide (by rw [h.n2];omega)) (by simp [AV.pure,zai]) (by simp) ?_
  simp [h5,wk2]
  exact zae 0 (by omega) ⟨2,rfl,by omega,by simp [h2],by simp [h3],by simp,by simp [ladC,zap,zai]⟩
 ·simp [h2,h3,h5,ladC,zap]
theorem ziw (a b:Nat) (h1:1≤a) (h2:a≤86400) (h3:1≤b) (h4:b≤400):PCalls Tryz.prog zju [.agg [.int .i64 a,.int .i64 b]] (fun r=>r=.bool true):=by
 refine zaa hmix zji rfl ?_
 have k1:(1:Int)≤a:=by omega
 have k2:(a:Int)≤86400:=by omega
 have k3:(1:Int)≤b:=by omega
 have k4:(b:Int)≤400:=by omega
 have k1':0<a:=by omega
 have k3':0<b:=by omega
 simp [zfh,k1,k2,k3,k4,h1,h2,h3,h4,k1',k3']
theorem zpt (a b:Nat) (h1:1≤a) (h2:a≤86400) (h3:1≤b) (h4:b≤400):PCalls Tryz.prog zkd [.agg [.int .i64 a,.int .i64 b]] (fun r=>r=.int .i64 (a*b:Nat)):=by
 refine zaa hmix zka rfl ?_
 have hm:a*b≤86400*400:=yd5 h2 h4
 have hw:IntKind.i64.wrap ((a:Int)*b)=((a*b:Nat):Int):=by
  have e:(a:Int)*b=((a*b:Nat):Int):=by rw [yc7]
  rw [e];exact wrap_i64 (by omega) (by omega)
 simp [zfI]
 refine zad (ziw a b h1 h2 h3 h4) (by simp) ?_
 rintro r rfl
 simp [hw]
theorem zj0:PCalls Tryz.prog zhV [.lst rungsC] (fun r=>r=.bool true):=by
 refine zaa hmix zhY rfl ?_
 simp [ze2,rungsC]
 refine zah (fun x f σ=>∃(i:Nat),x=2-i∧i≤2∧f 0=.lst rungsC∧f 3=.int .i64 i∧σ= []) 2 ?_ ?_
 ·exact ⟨0,by simp,by simp,by simp [rungsC],by simp,by simp⟩
 rintro x f σ ⟨i,hx,hi,h0,h3,rfl⟩
 have hi3:i=0∨i=1∨i=2:=by omega
 rcases hi3 with rfl|rfl|rfl
 ·simp [h0,h3,rungsC]
  refine zad (ziw 10 6 (by omega) (by omega) (by omega) (by omega)) (by simp) ?_
  rintro r rfl
  simp [h3,wk1]
  exact zae 1 (by omega) ⟨1,rfl,by omega,by simp [h0,rungsC],by simp,rfl⟩
 ·simp [h0,h3,rungsC]
  refine zad (ziw 60 5 (by omega) (by omega) (by omega) (by omega)) (by simp) ?_
  rintro r rfl
  simp [h3,wk2]
  exact zae 0 (by omega) ⟨2,rfl,by omega,by simp [h0,rungsC],by simp,rfl⟩
 ·simp [h0,h3,rungsC]
  refine zah (fun x f σ=>∃(i:Nat),x=2-i∧(i=1∨i=2)∧f 0=.lst rungsC∧f 4=.int .i64 i∧(i=1→σ= [])) 1 ?_ ?_
  ·exact ⟨1,by omega,.inl rfl,by simp [h0,rungsC],by simp,fun _=>rfl⟩
  clear h0 h3
  rintro x f σ ⟨i,hx,rfl|rfl,h0,h4,hσ⟩
  ·obtain rfl:=hσ rfl
   simp [h0,h4,rungsC,wk0]
   refine ⟨?_, ?_⟩
   all_goals
    refine zaq (zpt 60 5 (by omega) (by omega) (by omega) (by omega)) (by simp) (by simp) ?_
    simp
    refine zaq (zpt 10 6 (by omega) (by omega) (by omega) (by omega)) (by simp) (by simp) ?_
    simp [h4,wk2,wk6]
    exact zae 0 (by omega) ⟨2,by omega,.inr rfl,by simp [h0,rungsC],by simp,fun h=>by omega⟩
  ·simp [h0,h4,rungsC]
theorem zve (l:LadM) (h:RightL l):PCalls Tryz.prog zkw [.agg (ladC l)] (fun r=>r=.lst rungsC):=by
 refine zaa hmix zkg rfl ?_
 have n1:=zaw l.fine
 have n2:=zaw l.wide
 rw [h.n1] at n1
 rw [h.n2] at n2
 simp [zfC,ladC,zap]
 refine zah (fun x f σ=>∃(i:Nat),x=2-i∧i≤2∧f 1=.ptr 0 0∧f 4=.int .i64 i∧((i=0∧f 3=.nils∧σ= [.var 55 (ladC l)])∨(0<i∧f 3=.row 1 i∧σ= [.var 55 (ladC l),.row 119 2 (rungsC.take i) true]))) 2 ?_ ?_
 ·exact ⟨0,by simp,by simp,by simp,by simp,.inl ⟨rfl,by simp,by simp [ladC,zap]⟩⟩
 rintro x f σ ⟨i,hx,hi,h1,h4,hh⟩
 have hi3:i=0∨i=1∨i=2:=by omega
 rcases hi3 with rfl|rfl|rfl
 ·obtain ⟨_,h3,rfl⟩:0=0∧f 3=.nils∧σ= [.var 55 (ladC l)]:=by
   rcases hh with h|⟨h,_⟩
   ·exact h
   ·omega
  simp [h1,h3,h4,ladC,zap,zai,n1]
  refine zhS true [[.int .i64 10,.int .i64 6]] (by simp [view]) (by decide) (by simp) (fun _=> .inl (by simp [zf4])) (by simp) (by simp) ?_
  simp [h4,wk1]
  exact zae 1 (by omega) ⟨1,rfl,by omega,by simp [h1],by simp,.inr ⟨by omega,by simp,by simp [ladC,zap,zai,rungsC]⟩⟩
 ·obtain ⟨_,h3,rfl⟩:0<1∧f 3=.row 1 1∧σ= [.var 55 (ladC l),.row 119 2 (rungsC.take 1) true]:=by
   rcases hh with ⟨h,_⟩|h
   ·omega
   ·exact h
  simp [h1,h3,h4,ladC,zap,zai,n2,rungsC]
  refine zaK [[.int .i64 10,.int .i64 6]] [[.int .i64 60,.int .i64 5]] true (by simp) (by simp [view]) (by decide) (by simp) (fun _=> .inl (by simp [zf4])) rfl (by simp) (by simp) ?_
  simp [h4,wk2]
  exact zae 0 (by omega) ⟨2,rfl,by omega,by simp [h1],by simp,.inr ⟨by omega,by simp,by simp [ladC,zap,zai,rungsC]⟩⟩
 ·obtain ⟨_,h3,rfl⟩:0<2∧f 3=.row 1 2∧σ= [.var 55 (ladC l),.row 119 2 (rungsC.take 2) true]:=by
   rcases hh with ⟨h,_⟩|h
   ·omega
   ·exact h
  simp [h1,h3,h4,ladC,zap,rungsC]
theorem zsD {l:LadM} (h:RightL l):Sized 10 l.fine:=⟨by omega,by omega,by rw [h.n1];omega,by rw [h.n1];omega⟩
theorem zpZ {l:LadM} (h:RightL l):Sized 60 l.wide:=⟨by omega,by omega,by rw [h.n2];omega,by rw [h.n2];omega⟩
theorem zsU:PCalls Tryz.prog zm3 [.int .i64 1,.int .i64 500000] (fun r=>r=.bool true):=by
 refine zaa hmix zm9 rfl ?_
 simp [zhb]
theorem zp3 (l:LadM) (h:RightL l):PCalls Tryz.prog zjY [.agg (ladC l)] (fun r=>r=.bool true):=by
 refine zaa hmix zkj rfl ?_
 simp [zfN,ladC]
 refine zad zsU (by simp) ?_
 rintro r rfl
 simp
 refine zad (zve l h) (by simp [AV.pure,ladC]) ?_
 rintro r rfl
 simp
 refine zad zj0 (by simp [AV.pure]) ?_
 rintro r rfl
 simp
 refine zah (fun x f σ=>∃(i:Nat),x=2-i∧i≤2∧f 1=.ptr 0 0∧f 3=.int .i64 i∧σ= [.var 55 (ladC l)]) 2 ?_ ?_
 ·exact ⟨0,by simp,by simp,by simp,by simp,by simp [ladC]⟩
 rintro x f σ ⟨i,hx,hi,h1,h3,rfl⟩
 have hi3:i=0∨i=1∨i=2:=by omega
 rcases hi3 with rfl|rfl|rfl
 ·simp [h1,h3,ladC,zap,zai]
  refine zad (zjI 10 l.fine (zsD h) h.r1) (by simp [AV.pure,zai]) ?_
  rintro r rfl
  simp [h3,wk1]
  exact zae 1 (by omega) ⟨1,rfl,by omega,by simp [h1],by simp,by simp [ladC,zap,zai]⟩
 ·simp [h1,h3,ladC,zap,zai]
  refine zad (zjI 60 l.wide (zpZ h) h.r2) (by simp [AV.pure,zai]) ?_
  rintro r rfl
  simp [h3,wk2]
  exact zae 0 (by omega) ⟨2,rfl,by omega,by simp [h1],by simp,by simp [ladC,zap,zai]⟩
 ·simp [h1,h3,ladC,zap]
theorem zud (step n:Nat) (h1:1≤step) (h2:step≤86400) (h3:1≤n) (h4:n≤400):PCalls Tryz.prog zmL [.int .i64 step,.int .i64 n] (fun r=>r=.tup [.agg (zai step (List.replicate n (-1,0))),.int .i64 0]):=by
 refine zaa hmix zmW rfl ?_
 have k1:¬((step:Int)<1):=by omega
 have k2:¬((86400:Int)<step):=by omega
 have k3:¬((n:Int)<1):=by omega
 have k4:¬((400:Int)<n):=by omega
 have k1':step≠0:=by omega
 have k2':¬(86400<step):=by omega
 have k3':n≠0:=by omega
 have k4':¬(400<n):=by omega
 simp [zgF,k1,k2,k3,k4,k1',k2',k3',k4']
 refine zah (fun x f σ=>∃(i:Nat),x=n-i∧i≤n∧f 1=.int .i64 n∧f 4=.ptr 0 0∧f 6=.ptr 1 0∧f 7=.int .i64 i∧((i=0∧σ= [.var 112 [.int .i64 0,.nils],.var 112 [.int .i64 step,.nils]])∨(0<i∧σ= [.var 112 [.int .i64 0,.nils],.var 112 [.int .i64 step,.row 2 i],.row 186 2 (zav (List.replicate i (-1,0))) true]))) n ?_ ?_
 ·exact ⟨0,by simp,by simp,by simp,by simp,by simp,by simp,.inl ⟨rfl,by simp⟩⟩
 rintro x f σ ⟨i,hx,hi,g1,g4,g6,g7,hh⟩
 simp [g1,g7]
 refine zax (fun hlt=> ?_) (fun hge=> ?_)
 ·have hlt':i<n:=by omega
  have hwi:IntKind.i64.wrap ((i:Int)+1)=((i+1:Nat):Int):=by rw [wrap_i64 (by omega) (by omega)];omega
  rcases hh with ⟨rfl,rfl⟩|⟨hp,rfl⟩
  ·simp [g6]
   refine zhS true [[.int .i64 (-1),.int .i64 0]] (by simp [view]) (by decide) (by simp) (fun _=> .inl (by simp [zf4])) (by simp) (by simp) ?_
   simp [g6,g7,wk1,splice]
   exact zae (n-1) (by omega) ⟨1,rfl,by omega,by simp [g1],by simp [g4],by simp [g6],by simp,.inr ⟨by omega,by simp [zav,zcI]⟩⟩
  ·simp [g6]
   have hsl:(zav (List.replicate i ((-1:Int),(0:Int)))).length=i:=by simp [zav]
   refine zaK (zav (List.replicate i (-1,0))) [[.int .i64 (-1),.int .i64 0]] true (by simp) (by simp [view]) (by decide) (by simp) (fun _=> .inl (by simp [zf4])) hsl (by simp;omega) (by simp;omega) ?_
   have hsn:zav (List.replicate i ((-1:Int),(0:Int)))++ [[.int .i64 (-1),.int .i64 0]]=zav (List.replicate (i+1) (-1,0)):=by
    rw [List.replicate_succ',zvx];rfl
   rw [hsn]
   simp [g6,g7,hwi,splice]
   exact zae (n-(i+1)) (by omega) ⟨i+1,rfl,by omega,by simp [g1],by simp [g4],by simp [g6],by simp,.inr ⟨by omega,by simp⟩⟩
 ·have hin:i=n:=by omega
  subst hin
  rcases hh with ⟨rfl,rfl⟩|⟨hp,rfl⟩
  ·omega
  ·have hsl:(zav (List.replicate i ((-1:Int),(0:Int)))).length=i:=by simp [zav]
   simp [g4,g6,splice,hsl,zai]
def schC:List AV:= [.lst rungsC,.int .i64 1,.int .i64 500000]
theorem z04:PCalls Tryz.prog zmU [.agg schC] (fun r=>r=.tup [.agg (ladC newL),.int .i64 0]):=by
 refine zaa hmix zmX rfl ?_
 simp [zgU,schC]
 refine zad zsU (by simp) ?_
 rintro r rfl
 simp
 refine zad zj0 (by simp [AV.pure]) ?_
 rintro r rfl
 simp
 refine zah (fun x f σ=>∃(i:Nat),x=2-i∧i≤2∧f 1=.ptr 0 0∧f 2=.ptr 1 0∧f 4=.ptr 2 0∧f 5=.int .i64 i∧
  ((i=0∧σ= [.var 52 schC,.var 55 [.int .i64 0,.int .i64 0,.nils],.var 55 [.int .i64 1,.int .i64 500000,.nils]])∨
   (i=1∧∃e,σ= [.var 52 schC,.var 55 [.int .i64 0,.int .i64 0,.nils],.var 55 [.int .i64 1,.int .i64 500000,.row 4 1],e,.row 112 2 ((zap newL).take 1) true])∨
   (i=2∧∃e e2,σ= [.var 52 schC,.var 55 [.int .i64 0,.int .i64 0,.nils],.var 55 [.int .i64 1,.int .i64 500000,.row 4 2],e,.row 112 2 (zap newL) true,e2]))) 2 ?_ ?_
 ·exact ⟨0,by simp,by simp,by simp,by simp,by simp,by simp,.inl ⟨rfl,by simp [schC]⟩⟩
 rintro x f σ ⟨i,hx,hi,h1,h2,h4,h5,⟨rfl,rfl⟩|⟨rfl,e,rfl⟩|⟨rfl,e,e2,rfl⟩⟩
 ·simp [h1,h4,h5,schC,rungsC]
  refine zaZ (zud 10 6 (by omega) (by omega) (by omega) (by omega)) (by simp) ?_
  simp [h1,h4,h5,splice,zai]
  refine zhS true [zai 10 (List.replicate 6 (-1,0))] (by simp [view,zai]) (by decide) (by simp [zai]) (fun _=> .inl (by simp [zf4,zai])) (by simp) (by simp) ?_
  simp [h4,h5,splice,wk1]
  exact zae 1 (by omega) ⟨1,rfl,by omega,by simp [h1],by simp [h2],by simp [h4],by simp,.inr (.inl ⟨rfl,_,by simp [schC,rungsC,zap,newL];rfl⟩)⟩
 ·simp [h1,h4,h5,schC,rungsC]
  refine zaZ (zud 60 5 (by omega) (by omega) (by omega) (by omega)) (by simp) ?_
  simp [h1,h4,h5,splice,zai]
  refine zaK [zai 10 (List.replicate 6 (-1,0))] [zai 60 (List.replicate 5 (-1,0))] true (by simp [zap,newL,zai]) (by simp [view,zai]) (by decide) (by simp [zai]) (fun _=> .inl (by simp [zf4,zai])) rfl (by simp) (by simp) ?_
  simp [h4,h5,splice,wk2]
  exact zae 0 (by omega) ⟨2,rfl,by omega,by simp [h1],by simp [h2],by simp [h4],by simp,.inr (.inr ⟨rfl,e,_,by simp [schC,rungsC,zap,newL];rfl⟩)⟩
 ·simp [h1,h2,h4,h5,schC,rungsC,splice,zap,ladC,zai]
theorem zqC (σ:zac) (l:LadM) (h:RightL l):ACalls Tryz.prog zlx [.agg (ladC l)] σ (fun r σ'=>r=.agg [.int .i64 1,.int .i64 500000,.row (σ.length+3) 2]∧σ'=σ++ [.var 55 (ladC l),.var 55 [.int .i64 1,.int .i64 500000,.row (σ.length+3) 2],.var 55 [.int .i64 1,.int .i64 500000,.row (σ.length+3) 2],.row 112 2 (zap l) false]):=by
 refine zag hmix zkE rfl ?_
 simp [zgf,ladC]
 obtain ⟨A,hA⟩:∃A:Entry,A=.var 55 (ladC l):=⟨_,rfl⟩
 obtain ⟨B,hB⟩:∃B:Entry,B=.var 55 [.int .i64 0,.int .i64 0,.nils]:=⟨_,rfl⟩
 refine zah (fun x f σ'=>∃(i:Nat),x=2-i∧i≤2∧f 1=.ptr σ.length 0∧f 2=.ptr (σ.length+1) 0∧f 3=.ptr (σ.length+2) 0∧f 4=.int .i64 i∧
  ((i=0∧σ'=σ++ [A,B,.var 55 [.int .i64 1,.int .i64 500000,.nils]])∨
   (0<i∧σ'=σ++ [A,B,.var 55 [.int .i64 1,.int .i64 500000,.row (σ.length+3) i],.row 112 2 ((zap l).take i) false]))) 2 ?_ ?_
 ·exact ⟨0,by simp,by simp,by simp,by simp,by simp,by simp,.inl ⟨rfl,by simp [hA,hB,ladC]⟩⟩
 rintro x f σ' ⟨i,hx,hi,h1,h2,h3,h4,hh⟩
 have g3:∀(a b c d:Entry),(σ++ [a,b,c,d])[σ.length+3]? =some d:=fun a b c d=>by
  rw [yaj (by omega),ya0];rfl
 have s3:∀(a b c d e:Entry),(σ++ [a,b,c,d]).set (σ.length+3) e=σ++ [a,b,c,e]:=fun a b c d e=>by
  rw [ybi _ _ (by omega),ya0];rfl
 have hi3:i=0∨i=1∨i=2:=by omega
 rcases hi3 with rfl|rfl|rfl
 ·obtain ⟨_,rfl⟩:0=0∧σ'=σ++ [A,B,.var 55 [.int .i64 1,.int .i64 500000,.nils]]:=by
   rcases hh with h|⟨h,_⟩
   ·exact h
   ·omega
  simp [h1,h2,h3,h4,hA,ladC,zap,zbu,za6,zaY]
  refine ⟨?_, ?_⟩
  all_goals
   simp [zai]
   refine zad (zqY 10 l.fine (by rw [h.n1];omega)) (by simp [AV.pure,zai]) ?_
   rintro r rfl
   simp [h3,zai,zaY]
   refine zhS false [zai 10 l.fine] (by simp [view,zai]) (by decide) (by simp [zai]) (fun h=>by cases h) (by simp) (by simp) ?_
   simp [h3,h4,wk1,zaY,zdv,splice]
   exact zae 1 (by omega) ⟨1,rfl,by omega,by simp [h1],by simp [h2],by simp [h3],by simp,.inr ⟨by omega,by simp [hA,ladC,zap,zai]⟩⟩
 ·obtain ⟨_,rfl⟩:0<1∧σ'=σ++ [A,B,.var 55 [.int .i64 1,.int .i64 500000,.row (σ.length+3) 1],.row 112 2 ((zap l).take 1) false]:=by
   rcases hh with ⟨h,_⟩|h
   ·omega
   ·exact h
  simp [h1,h2,h3,h4,hA,ladC,zap,zbu,za6,zaY]
  refine ⟨?_, ?_⟩
  all_goals
   simp [zai]
   refine zad (zqY 60 l.wide (by rw [h.n2];omega)) (by simp [AV.pure,zai]) ?_
   rintro r rfl
   simp [h3,zai,zaY]
   refine zaK [zai 10 l.fine] [zai 60 l.wide] false (by simp [g3,zai]) (by simp [view,zai]) (by decide) (by simp [zai]) (fun h=>by cases h) rfl (by simp) (by simp) ?_
   simp [h3,h4,wk2,zaY,zdv,splice,g3,s3]
   exact zae 0 (by omega) ⟨2,rfl,by omega,by simp [h1],by simp [h2],by simp [h3],by simp,.inr ⟨by omega,by simp [hA,ladC,zap,zai]⟩⟩
 ·obtain ⟨_,rfl⟩:0<2∧σ'=σ++ [A,B,.var 55 [.int .i64 1,.int .i64 500000,.row (σ.length+3) 2],.row 112 2 ((zap l).take 2) false]:=by
   rcases hh with ⟨h,_⟩|h
   ·omega
   ·exact h
  have hA':A=.var 55 [.int .i64 1,.int .i64 500000,.lst (zap l)]:=hA
  simp [h1,h2,h3,h4,hA',hB,zbu,za6,zaY,zdx,splice,zap]
  refine za5 _ (.agg [.int .i64 1,.int .i64 500000,.row (σ.length+3) 2]) (by simp [zaE,h2,za6]) [] (yby _).symm (by simp) (by simp [AV.under]) (fun i e he'=> ?_) ⟨rfl,rfl⟩
  rcases yel i σ.length with hlt|hge2
  ·rw [yar hlt] at he'
   exact .inl he'
  ·rw [yaj hge2] at he'
   right
   obtain ⟨j,hj⟩:∃j,j=i-σ.length:=⟨_,rfl⟩
   rw [←hj] at he'
   match j,he' with
   |0,he'=>
    simp at he';subst he'
    simp [Entry.under,AV.under]
   |1,he'=>
    simp at he';subst he'
    simp [Entry.under,AV.under]
   |2,he'=>
    simp at he';subst he'
    simp [Entry.under,AV.under]
   |3,he'=>
    simp at he';subst he'
    exact za7 (ziV l).2.1
   |j+4,he'=>simp at he'
theorem zkI (step:Nat) (l:List Slot) (hz:Sized step l) (t now:Nat) (ht:t≤1099511627776) (hn:now≤1099511627776):PCalls Tryz.prog ziL [.agg (zai step l),.int .i64 t,.int .i64 now] (fun r=>r=.bool (decide (now<t/step*step+step*l.length))):=by
 refine zaa hmix ziv rfl ?_
 obtain ⟨s1,s2,n1,n2⟩:=hz
 have g1:(step:Int)≠0:=by omega
 have g1':step≠0:=by omega
 have hle:=zaw l
 have hm:step*l.length≤86400*400:=yd5 s2 n2
 have hd:=yb0 t step
 simp [zeK,zai,g1,g1']
 have kR:PCalls Tryz.prog zk6 [.agg (zai step l)] (fun r=>r=.int .i64 (step*l.length:Nat)):=by
  refine zaa hmix zku rfl ?_
  have hw:IntKind.i64.wrap ((step:Int)*l.length)=((step*l.length:Nat):Int):=by
   have e:(step:Int)*l.length=((step*l.length:Nat):Int):=by rw [yc7]
   rw [e];exact wrap_i64 (by omega) (by omega)
  simp [zgd,zai,hle,hw]
 refine zaq kR (by simp [AV.pure,zai]) (by simp) ?_
 obtain ⟨A,hA⟩:∃A,A=t/step*step:=⟨_,rfl⟩
 obtain ⟨B,hB⟩:∃B,B=step*l.length:=⟨_,rfl⟩
 have hw1:IntKind.i64.wrap ((t:Int)-(t:Int).tmod step)=(A:Int):=by rw [zbI,zmd,hA];exact wrap_i64 (by omega) (by omega)
 have hw2:IntKind.i64.wrap ((now:Int)-B)=(now:Int)-B:=wrap_i64 (by omega) (by omega)
 rw [←hA,←hB]
 simp [hw1,hw2]
 omega
end Go.Proofs.YtdbhocoeolhjhaaGreatDoor
end
