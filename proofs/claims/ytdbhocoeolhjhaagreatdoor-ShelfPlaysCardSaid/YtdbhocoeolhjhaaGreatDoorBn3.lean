/- Numbers: the functions of fixed and wide. Numbers: a quotient of 128 bits. Numbers: quotients of wide, and of fixed. Numbers: the document's numbers o -/
import Derived.Test.YtdbhocoeolhjhaaGreatDoorCode
import Derived.Test.YtdbhocoeolhjhaaGreatDoorShelf
import Derived.Test.YtdbhocoeolhjhaaGreatDoorAbs2
import Derived.Lib.ItoaNum
import Derived.Test.YtdbhocoeolhjhaaGreatDoorBn1
import Derived.Test.YtdbhocoeolhjhaaGreatDoorBn2
set_option linter.unusedSimpArgs false
set_option linter.unusedVariables false
set_option linter.constructorNameAsVariable false
section
set_option maxHeartbeats 1000000
namespace Go.Num
open Go.Abs
def numA (n:N):AV:=.agg [.bool n.1,.int .i64 n.2]
def wA (n:Nat):AV:=.agg [.int .u64 ((n/18446744073709551616:Nat):Int),.int .u64 ((n%18446744073709551616:Nat):Int)]
def okN (n:N):Prop:= -9223372036854775808≤n.2∧n.2≤9223372036854775807
theorem wrap_u (x:Int):IntKind.u64.wrap x=x%18446744073709551616:=by simp [IntKind.wrap,IntKind.signed,IntKind.bits]
theorem wrap_i {x:Int} (h1: -9223372036854775808≤x) (h2:x≤9223372036854775807):IntKind.i64.wrap x=x:=wrap_i64 h1 h2
theorem ok_tell (s:Int):okN (tell s):=by
 unfold tell okN
 split
 ·rename_i h;simp only [most] at h;simp only;omega
 ·simp [nothing]
theorem ok_nothing:okN nothing:=by simp [okN,nothing]
theorem ok_add (a b:N):okN (addN a b):=by
 unfold addN;split
 ·exact ok_tell _
 ·exact ok_nothing
theorem ok_less {a b:N} (ha:okN a) (hb:okN b):okN (lessN a b):=by
 unfold lessN;repeat' split
 all_goals first|exact ha|exact hb|exact ok_nothing
theorem ok_more {a b:N} (ha:okN a) (hb:okN b):okN (moreN a b):=by
 unfold moreN;repeat' split
 all_goals first|exact ha|exact hb|exact ok_nothing
theorem and_mask (a:Nat) (h:a<18446744073709551616):bitOp .and .u64 (a:Int) 4294967295=some ((a%4294967296:Nat):Int):=by
 have e:(BitVec.ofInt 64 (a:Int)&&&BitVec.ofInt 64 4294967295).toNat=a%4294967296:=by
  rw [BitVec.toNat_and,u64_of a h,show (BitVec.ofInt 64 4294967295).toNat=2^32-1 by decide,Nat.and_two_pow_sub_one_eq_mod]
 show some (IntKind.u64.wrap ((BitVec.ofInt 64 (a:Int)&&&BitVec.ofInt 64 4294967295).toNat:Int))=_
 rw [e,u64_wrap _ (by omega)]
theorem norm_or {hi lo y s:Nat} (hhi:hi<y) (hy:y*2^s<18446744073709551616) (hs:s≤63) (hlo:lo<18446744073709551616):(hi*2^s%18446744073709551616|||lo/2^(64-s))=hi*2^s+lo/2^(64-s):=by
 have h1:hi*2^s<18446744073709551616:=Nat.lt_of_le_of_lt (Nat.mul_le_mul_right _ (Nat.le_of_lt hhi)) hy
 rw [Nat.mod_eq_of_lt h1]
 have h2:lo/2^(64-s)<2^s:=by
  rw [Nat.div_lt_iff_lt_mul (Nat.two_pow_pos _),←Nat.pow_add,show s+(64-s)=64 by omega];exact hlo
 have:=Nat.two_pow_add_eq_or_of_lt h2 hi
 rw [Nat.mul_comm (2^s) hi] at this
 exact this.symm
theorem bitLen_norm {y:Nat} (h0:0<y) (h:y<18446744073709551616):∃s:Nat,s≤63∧Lib.bitLen y=64-s∧9223372036854775808≤y*2^s∧y*2^s<18446744073709551616:=by
 obtain ⟨h1,h2,h3⟩:=Lib.bitLenAux_bounds 64 y (by simpa using h) (by omega)
 have h4:Lib.bitLen y≤64:=Lib.bitLen_le y 64 (by decide) (by simpa using h)
 change 1≤Lib.bitLen y at h1
 change 2^(Lib.bitLen y-1)≤y at h2
 change y<2^Lib.bitLen y at h3
 refine ⟨64-Lib.bitLen y,by omega,by omega, ?_, ?_⟩
 ·have e:2^(Lib.bitLen y-1)*2^(64-Lib.bitLen y)=9223372036854775808:=by
   rw [←Nat.pow_add,show Lib.bitLen y-1+(64-Lib.bitLen y)=63 by omega]
  rw [←e];exact Nat.mul_le_mul_right _ h2
 ·have e:2^Lib.bitLen y*2^(64-Lib.bitLen y)=18446744073709551616:=by
   rw [←Nat.pow_add,show Lib.bitLen y+(64-Lib.bitLen y)=64 by omega]
  rw [←e];exact Nat.mul_lt_mul_of_pos_right h3 (Nat.two_pow_pos _)
end Go.Num
namespace Go.Proofs.YtdbhocoeolhjhaaGreatDoor
open Go.Abs Go.Num
variable {G:Globs}
theorem there_ok (n:N):PCalls Tryz.prog n_fixed_there [numA n] (fun r=>r=.bool (good n)):=by
 refine pcalls_of_awp hmix c_fixed_there rfl ?_
 obtain ⟨b,v⟩:=n
 cases b<;>simp [a_fixed_there,numA,good,most]
theorem nothing_ok:PCalls Tryz.prog n_fixed_nothing [] (fun r=>r=numA nothing):=by
 refine pcalls_of_awp hmix c_fixed_nothing rfl ?_
 simp [a_fixed_nothing,numA,nothing]
theorem size_ok (n:N) (h: -9223372036854775807≤n.2) (h2:n.2≤9223372036854775807):PCalls Tryz.prog n_fixed_size [numA n] (fun r=>r=.tup [.int .u64 n.2.natAbs,.bool (decide (n.2<0))]):=by
 refine pcalls_of_awp hmix c_fixed_size rfl ?_
 obtain ⟨b,v⟩:=n
 simp only at h h2
 simp [a_fixed_size,numA]
 refine cb_dec (fun hlt=> ?_) (fun hge=> ?_)
 ·have hw:IntKind.i64.wrap (-v)= -v:=wrap_i (by omega) (by omega)
  have hw2:IntKind.u64.wrap (-v)= -v:=by rw [wrap_u];omega
  simp [hw,hw2,hlt]
  omega
 ·have hw2:IntKind.u64.wrap v=v:=by rw [wrap_u];omega
  have hn:¬v<0:=by omega
  simp [hw2,hn]
  omega
theorem told_ok (n:Nat) (hn:n<18446744073709551616) (b:Bool):PCalls Tryz.prog n_fixed_told [.int .u64 n,.bool b] (fun r=>r=numA (tell (sgn b n))):=by
 refine pcalls_of_awp hmix c_fixed_told rfl ?_
 simp [a_fixed_told]
 refine cb_dec (fun hlt=> ?_) (fun hge=> ?_)
 ·simp
  refine ac_same nothing_ok (by simp) ?_
  rintro r rfl
  have:tell (sgn b n)=nothing:=by
   unfold tell sgn most
   cases b<;>simp<;>omega
  simp [this,numA]
 ·have hw:IntKind.i64.wrap (n:Int)=n:=wrap_i (by omega) (by omega)
  have hw2:IntKind.i64.wrap (-(n:Int))= -n:=wrap_i (by omega) (by omega)
  cases b
  ·have:tell (sgn false n)=(false,(n:Int)):=by
    unfold tell sgn most;simp;omega
   simp [hw,this,numA]
  ·have:tell (sgn true n)=(false, -(n:Int)):=by
    unfold tell sgn most;simp;omega
   simp [hw,hw2,this,numA]
theorem fInt_ok (n:Int) (h0: -9223372036854775808≤n) (h1:n≤9223372036854775807):PCalls Tryz.prog n_fixed_Int [.int .i64 n] (fun r=>r=numA (tell (n*1000000))):=by
 refine pcalls_of_awp hmix c_fixed_Int rfl ?_
 by_cases hc:9223372036854<n∨n< -9223372036854
 ·have ht:tell (n*1000000)=nothing:=by unfold tell most;rw [if_neg];omega
  have e:(decide (9223372036854<n)||decide (n< -9223372036854))=true:=by simpa using hc
  rcases Decidable.em (9223372036854<n) with h|h
  ·simp [a_fixed_Int,h]
   refine ac_same nothing_ok (by simp) ?_
   rintro r rfl
   simp [ht,numA]
  ·have h':n< -9223372036854:=by omega
   simp [a_fixed_Int,h,h']
   refine ac_same nothing_ok (by simp) ?_
   rintro r rfl
   simp [ht,numA]
 ·have a1:¬9223372036854<n:=by omega
  have a2:¬n< -9223372036854:=by omega
  have ht:tell (n*1000000)=(false,n*1000000):=by unfold tell most;rw [if_pos];omega
  have hw:IntKind.i64.wrap (n*1000000)=n*1000000:=wrap_i (by omega) (by omega)
  simp [a_fixed_Int,a1,a2,hw,ht,numA]
theorem fAdd_ok (a b:N) (ha:okN a) (hb:okN b):PCalls Tryz.prog n_fixed_Add [numA a,numA b] (fun r=>r=numA (addN a b)):=by
 refine pcalls_of_awp hmix c_fixed_Add rfl ?_
 obtain ⟨a1,a2⟩:=ha
 obtain ⟨b1,b2⟩:=hb
 simp [a_fixed_Add,numA]
 refine ac_same (there_ok a) (by simp [numA]) ?_
 rintro r rfl
 by_cases hga:good a=true
 ·simp [hga]
  refine ac_same (there_ok b) (by simp [numA]) ?_
  rintro r rfl
  by_cases hgb:good b=true
  ·obtain ⟨x,v⟩:=a
   obtain ⟨y,u⟩:=b
   simp only at a1 a2 b1 b2
   obtain ⟨hx,hv⟩:=good_iff.1 hga
   obtain ⟨hy,hu⟩:=good_iff.1 hgb
   simp only [most] at hx hv hy hu
   subst hx hy
   have e:addN (false,v) (false,u)=tell (v+u):=by simp [addN,hga,hgb]
   rw [e]
   simp [hgb]
   by_cases hu0:0<u
   ·have hw:IntKind.i64.wrap (9223372036854775807-u)=9223372036854775807-u:=wrap_i (by omega) (by omega)
    have hu1:¬u<0:=by omega
    by_cases hov:9223372036854775807-u<v
    ·have ht:tell (v+u)=nothing:=by unfold tell most;rw [if_neg];omega
     simp [hu0,hw,hov,ht]
     refine ac_same nothing_ok (by simp) ?_
     rintro r rfl
     simp [numA,ht]
    ·have ht:tell (v+u)=(false,v+u):=by unfold tell most;rw [if_pos];omega
     have hw2:IntKind.i64.wrap (v+u)=v+u:=wrap_i (by omega) (by omega)
     simp [hu0,hu1,hw,hov,ht,hw2]
   ·by_cases hu1:u<0
    ·have hw:IntKind.i64.wrap (-9223372036854775807-u)= -9223372036854775807-u:=wrap_i (by omega) (by omega)
     by_cases hov:v< -9223372036854775807-u
     ·have ht:tell (v+u)=nothing:=by unfold tell most;rw [if_neg];omega
      simp [hu0,hu1,hw,hov,ht]
      refine ac_same nothing_ok (by simp) ?_
      rintro r rfl
      simp [numA,ht]
     ·have ht:tell (v+u)=(false,v+u):=by unfold tell most;rw [if_pos];omega
      have hw2:IntKind.i64.wrap (v+u)=v+u:=wrap_i (by omega) (by omega)
      simp [hu0,hu1,hw,hov,ht,hw2]
    ·have ht:tell (v+u)=(false,v+u):=by unfold tell most;rw [if_pos];omega
     have hw2:IntKind.i64.wrap (v+u)=v+u:=wrap_i (by omega) (by omega)
     simp [hu0,hu1,ht,hw2]
  ·have hgb':good b=false:=by simpa using hgb
   simp [hgb']
   refine ac_same nothing_ok (by simp) ?_
   rintro r rfl
   simp [addN,hga,hgb',numA]
 ·have hga':good a=false:=by simpa using hga
  simp [hga']
  refine ac_same nothing_ok (by simp) ?_
  rintro r rfl
  simp [addN,hga',numA]
theorem mul64_ok (x y:Nat) (hx:x<18446744073709551616) (hy:y<18446744073709551616):PCalls Tryz.prog 312 [.int .u64 x,.int .u64 y] (fun r=>r=.tup [.int .u64 ((x*y/18446744073709551616:Nat):Int),.int .u64 ((x*y%18446744073709551616:Nat):Int)]):=
 pcalls2 fun base κ Im w v u hs e1 e2=>by
  cases e1.int_inv;cases e2.int_inv
  refine (Tryz.bits_Mul64 x y hx hy w).mono ?_
  rintro e w' ⟨rfl,rfl⟩
  exact ⟨_,_,rfl,rfl,Go.RowKit.Below.refl _ _,fun Im'=> .tup _ [_,_] rfl fun j hj hj'=>by
   match j,hj with
   |0,_=>exact .int _ _
   |1,_=>exact .int _ _⟩
theorem wMul_ok (x y:Nat) (hx:x<18446744073709551616) (hy:y<18446744073709551616):PCalls Tryz.prog n_wide_Mul [.int .u64 x,.int .u64 y] (fun r=>r=wA (x*y)):=by
 refine pcalls_of_awp hmix c_wide_Mul rfl ?_
 simp [a_wide_Mul]
 refine ac_same (mul64_ok x y hx hy) (by simp) ?_
 rintro r rfl
 simp [wA]
end Go.Proofs.YtdbhocoeolhjhaaGreatDoor
end
section
set_option maxHeartbeats 4000000
namespace Go.Proofs.YtdbhocoeolhjhaaGreatDoor
open Go.Abs Go.Num
variable {G:Globs}
theorem lead_ok (y s:Nat) (hy:y<18446744073709551616) (hs:s≤63) (hb:Lib.bitLen y=64-s):PCalls Tryz.prog 351 [.int .u64 y] (fun r=>r=.int .i64 s):=
 pcalls1 fun base κ Im w v hh e1=>by
  cases e1.int_inv
  refine (Tryz.bits_LeadingZeros64 y w (by omega) (by omega)).mono ?_
  rintro e w' ⟨rfl,rfl⟩
  refine ⟨_,_,rfl,rfl,Go.RowKit.Below.refl _ _,fun Im'=> ?_⟩
  have e:(64-(Lib.bitLen (y:Int).toNat:Int))=s:=by rw [Int.toNat_natCast,hb];omega
  rw [e]
  exact .int _ _
theorem u_div (n a:Nat) (hn:n<18446744073709551616):IntKind.u64.wrap ((n:Int)/a)=((n/a:Nat):Int):=by
 have h2:n/a≤n:=Nat.div_le_self _ _
 have h3:((n/a:Nat):Int)=(n:Int)/a:=Int.natCast_ediv n a
 rw [wrap_u,←h3]
 generalize n/a=k at*
 omega
theorem u_mod (n a:Nat):(n:Int)%a=((n%a:Nat):Int):=(Int.natCast_emod n a).symm
theorem dg_lt {u a q r v B b Y:Nat} (hB:B=4294967296) (ha:a<B) (hq:q≤B+1) (hr:r<B) (hv:v<B) (hb:b<B) (hqa:q*a+r=u) (huM:u<18446744073709551616):(q:Int)*a%18446744073709551616=q*a∧(B:Int)*r%18446744073709551616=B*r∧((B:Int)*r+v)%18446744073709551616=B*r+v:=by
 have h1:((q*a:Nat):Int)=(q:Int)*a:=by push_cast;rfl
 have h2:((B*r:Nat):Int)=(B:Int)*r:=by push_cast;rfl
 have h3:B*r≤B*(B-1):=Nat.mul_le_mul_left B (by omega)
 subst hB
 rw [←h1,←h2]
 omega
theorem div64_ok (hi lo y:Nat) (hhi:hi<y) (hyM:y<18446744073709551616) (hlo:lo<18446744073709551616):
  PCalls Tryz.prog n_math_bits_Div64 [.int .u64 hi,.int .u64 lo,.int .u64 y] (fun r=>r=.tup [.int .u64 (((hi*18446744073709551616+lo)/y:Nat):Int),.int .u64 (((hi*18446744073709551616+lo)%y:Nat):Int)]):=by
 obtain ⟨Q,hQ⟩:∃Q,Q=(hi*18446744073709551616+lo)/y:=⟨_,rfl⟩
 obtain ⟨R,hR⟩:∃R,R=(hi*18446744073709551616+lo)%y:=⟨_,rfl⟩
 rw [←hQ,←hR]
 refine pcalls_of_awp hmix c_math_bits_Div64 rfl ?_
 have hy0:¬(y:Int)=0:=by omega
 have hy0n:¬y=0:=by omega
 have hyh:¬(y:Int)≤hi:=by omega
 have hyh2:¬y≤hi:=by omega
 by_cases h0:hi=0
 ·subst h0
  have e1:IntKind.u64.wrap ((lo:Int)/y)=Q:=by rw [u_div lo y hlo,hQ,Nat.zero_mul,Nat.zero_add]
  have e2:(lo:Int).tmod y=R:=by rw [Int.tmod_eq_emod_of_nonneg (by omega),u_mod,hR,Nat.zero_mul,Nat.zero_add]
  simp [a_math_bits_Div64,hy0,hy0n,hyh,hyh2,e1,e2]
 have h0':¬(hi:Int)=0:=by omega
 obtain ⟨s,hs,hbl,hY1,hY2⟩:=bitLen_norm (y:=y) (by omega) hyM
 obtain ⟨Y,hYd⟩:∃Y,Y=y*2^s:=⟨_,rfl⟩
 obtain ⟨B,hB⟩:∃B:Nat,B=4294967296:=⟨_,rfl⟩
 rw [←hYd] at hY1 hY2
 have hsw:IntKind.u64.wrap (s:Int)=s:=by rw [wrap_u];omega
 have s2:shiftOp .shl .u64 (y:Int) s=some (Y:Int):=by rw [shl_nat y s (by omega),hYd,Nat.mod_eq_of_lt (by rw [←hYd];exact hY2)]
 obtain ⟨a,ha⟩:∃a,a=Y/4294967296:=⟨_,rfl⟩
 obtain ⟨b,hb⟩:∃b,b=Y%4294967296:=⟨_,rfl⟩
 have s9:shiftOp .shr .u64 (Y:Int) 32=some (a:Int):=by rw [shr_nat Y 32 hY2 (by decide),ha]
 have s10:bitOp .and .u64 (Y:Int) 4294967295=some (b:Int):=by rw [and_mask Y hY2,hb]
 obtain ⟨uh,huh⟩:∃uh,uh=hi*2^s%18446744073709551616:=⟨_,rfl⟩
 obtain ⟨ul,hul⟩:∃ul,ul=lo/2^(64-s):=⟨_,rfl⟩
 obtain ⟨u,hu⟩:∃u,u=hi*2^s+lo/2^(64-s):=⟨_,rfl⟩
 have hor:=norm_or (lo:=lo) hhi (by rw [←hYd];exact hY2) hs hlo
 rw [←huh,←hul] at hor
 have huY:u<Y:=by
  rw [hu,hYd]
  have h1:lo/2^(64-s)<2^s:=by
   rw [Nat.div_lt_iff_lt_mul (Nat.two_pow_pos _),←Nat.pow_add,show s+(64-s)=64 by omega];exact hlo
  have h2:(hi+1)*2^s≤y*2^s:=Nat.mul_le_mul_right _ hhi
  rw [Nat.add_mul] at h2;omega
 have hulM:ul<18446744073709551616:=by rw [hul];exact Nat.lt_of_le_of_lt (Nat.div_le_self _ _) hlo
 have huhM:uh<18446744073709551616:=by rw [huh];exact Nat.mod_lt _ (by decide)
 have s46:shiftOp .shl .u64 (hi:Int) s=some (uh:Int):=by rw [shl_nat hi s (by omega),huh]
 have s49:IntKind.u64.wrap (64-(s:Int))=((64-s:Nat):Int):=by rw [wrap_u];omega
 have s50:shiftOp .shr .u64 (lo:Int) (64-s)=some (ul:Int):=by rw [shr_nat lo (64-s) hlo (by omega),hul]
 have s51:bitOp .or .u64 (uh:Int) (ul:Int)=some (u:Int):=by rw [or_nat uh ul huhM hulM,hor,hul,hu]
 obtain ⟨u10,hu10⟩:∃u10,u10=lo*2^s%18446744073709551616:=⟨_,rfl⟩
 have hu10M:u10<18446744073709551616:=by rw [hu10];exact Nat.mod_lt _ (by decide)
 have s54:shiftOp .shl .u64 (lo:Int) s=some (u10:Int):=by rw [shl_nat lo s (by omega),hu10]
 obtain ⟨u1,hu1⟩:∃u1,u1=u10/4294967296:=⟨_,rfl⟩
 obtain ⟨u0,hu0⟩:∃u0,u0=u10%4294967296:=⟨_,rfl⟩
 have s56:shiftOp .shr .u64 (u10:Int) 32=some (u1:Int):=by rw [shr_nat u10 32 hu10M (by decide),hu1]
 have s58:bitOp .and .u64 (u10:Int) 4294967295=some (u0:Int):=by rw [and_mask u10 hu10M,hu0]
 have haB:a<B:=by omega
 have hbB:b<B:=by omega
 have hu1B:u1<B:=by omega
 have hu0B:u0<B:=by omega
 have ha2:B≤2*a:=by omega
 have hYab:a*B+b=Y:=by rw [ha,hb,hB];omega
 have ha0:0<a:=by omega
 have ha0':¬(a:Int)=0:=by omega
 have ha0n:¬a=0:=by omega
 have hY0:0<a*B+b:=by omega
 -- a digit's first guess
 have guess:∀n:Nat,n<Y→∃q r:Nat,IntKind.u64.wrap ((n:Int)/a)=q∧IntKind.u64.wrap ((n:Int)-IntKind.u64.wrap ((q:Int)*a))=r∧q*a+r=n∧r<B∧q≤B+1∧n/a≤q:=by
  intro n hn
  refine ⟨n/a,n%a, ?_, ?_, ?_, ?_, ?_,Nat.le_refl _⟩
  ·exact u_div n a (by omega)
  ·have e:((n/a*a:Nat):Int)=((n/a:Nat):Int)*a:=by push_cast;rfl
   rw [wrap_u,wrap_u,←e]
   have:=Nat.div_add_mod n a
   rw [Nat.mul_comm] at this
   omega
  ·rw [Nat.mul_comm];exact Nat.div_add_mod n a
  ·have:=Nat.mod_lt n ha0;omega
  ·exact kn_first (b:=b) ha2 hbB (by rw [hYab];exact hn)
 simp [a_math_bits_Div64,hy0,hy0n,hyh,hyh2,h0,h0']
 refine ac_same (lead_ok y s hyM hs hbl) (by simp) ?_
 rintro r rfl
 obtain ⟨q0,r0,g1,g2,g3,g4,g5,g6⟩:=guess u huY
 have hg0:=Nat.le_trans (kn_guess (b:=b) (u:=u) (v:=u1) ha0 hu1B) g6
 simp [-shiftOp, -bitOp,hsw,s2,s9,s10,s46,s49,s50,s51,s54,s56,s58,ha0,ha0',ha0n,g1,g2,Int.toNat_natCast]
 -- the first digit
 refine lp_join 0 (fun f σ=>∃q:Nat,f 15=.int .u64 q∧q=(u*B+u1)/Y∧f 2=.int .u64 Y∧f 8=.int .u64 s∧f 9=.int .u64 a∧f 10=.int .u64 b∧f 11=.int .u64 u∧f 13=.int .u64 u1∧f 14=.int .u64 u0∧σ= []) ?_ ?_
 ·rintro f σ ⟨q1,f15,hq1,f2,f8,f9,f10,f11,f13,f14,rfl⟩
  obtain ⟨u21,hu21d⟩:∃u21,u21=(u*B+u1)%Y:=⟨_,rfl⟩
  have hYpos:0<Y:=by omega
  have hu21:u21<Y:=by rw [hu21d];exact Nat.mod_lt _ hYpos
  have hdm:=Nat.div_add_mod (u*B+u1) Y
  rw [←hq1,←hu21d] at hdm
  obtain ⟨p1,hp1⟩:∃p1,p1=Y*q1:=⟨_,rfl⟩
  have hp1i:(q1:Int)*Y=p1:=by rw [hp1,Nat.mul_comm];push_cast;rfl
  have e17:IntKind.u64.wrap (IntKind.u64.wrap (IntKind.u64.wrap ((u:Int)*4294967296)+u1)-IntKind.u64.wrap ((q1:Int)*Y))=u21:=by
   rw [hp1i]
   simp only [wrap_u]
   rw [←hp1] at hdm
   subst hB
   omega
  obtain ⟨q2,r2,e1,e2,e3,e4,e5,e6⟩:=guess u21 hu21
  have hg2:=Nat.le_trans (kn_guess (b:=b) (u:=u21) (v:=u0) ha0 hu0B) e6
  simp [-shiftOp, -bitOp,f2,f8,f9,f10,f11,f13,f14,f15,e17,ha0',ha0n,e1,e2]
  refine lp_join 2 (fun f σ=>∃q:Nat,f 18=.int .u64 q∧q=(u21*B+u0)/Y∧f 2=.int .u64 Y∧f 8=.int .u64 s∧f 10=.int .u64 b∧f 14=.int .u64 u0∧f 9=.int .u64 a∧f 15=.int .u64 q1∧f 17=.int .u64 u21∧σ= []) ?_ ?_
  ·clear f2 f8 f9 f10 f11 f13 f14 f15
   rintro f σ ⟨q3,f18,hq3,f2,f8,f10,f14,f9,f15,f17,rfl⟩
   obtain ⟨j1,j2⟩:=div64_join (hi:=hi) (lo:=lo) (y:=y) (M:=18446744073709551616) (B:=B) (P:=2^s) (R:=2^(64-s)) (by rw [←Nat.pow_add,show 64-s+s=64 by omega]) (by rw [hB]) (Nat.two_pow_pos _) (by omega) (u32:=u) (u10:=u10) (h:=u*B+u1) (q1:=q1) (u21:=u21) (g:=u21*B+u0) hu hu10 (by rw [hu1,hB]) (by rw [hq1,hYd]) (by rw [hu21d,hYd]) (by rw [hu0,hB])
   rw [←hYd,←hq3,←hQ] at j1
   obtain ⟨gm,hgm⟩:∃gm,gm=(u21*B+u0)%Y:=⟨_,rfl⟩
   rw [←hYd,←hgm,←hR] at j2
   have hQM:Q<18446744073709551616:=by
    rw [hQ,Nat.div_lt_iff_lt_mul (by omega)]
    have:(hi+1)*18446744073709551616≤y*18446744073709551616:=Nat.mul_le_mul_right _ hhi
    rw [Nat.mul_comm 18446744073709551616 y];omega
   have k6:IntKind.u64.wrap (IntKind.u64.wrap ((q1:Int)*4294967296)+q3)=Q:=by
    simp only [wrap_u]
    subst hB
    omega
   have hgmY:gm<Y:=by rw [hgm];exact Nat.mod_lt _ hYpos
   have hdm2:=Nat.div_add_mod (u21*B+u0) Y
   rw [←hq3,←hgm] at hdm2
   obtain ⟨p3,hp3⟩:∃p3,p3=Y*q3:=⟨_,rfl⟩
   have hp3i:(q3:Int)*Y=p3:=by rw [hp3,Nat.mul_comm];push_cast;rfl
   have k132:IntKind.u64.wrap (IntKind.u64.wrap (IntKind.u64.wrap ((u21:Int)*4294967296)+u0)-IntKind.u64.wrap ((q3:Int)*Y))=gm:=by
    rw [hp3i]
    simp only [wrap_u]
    rw [←hp3] at hdm2
    subst hB
    omega
   have k134:shiftOp .shr .u64 (gm:Int) s=some (R:Int):=by rw [shr_nat gm s (by omega) (by omega),j2]
   simp [-shiftOp, -bitOp,f2,f8,f9,f10,f14,f15,f17,f18,k6,k132,k134]
  ·-- its loop
   refine lp_startx (fun x f σ=>∃q r:Nat,x=q∧f 18=.int .u64 q∧f 16=.int .u64 r∧(u21*B+u0)/Y≤q∧q*a+r=u21∧r<B∧q≤B+1∧f 2=.int .u64 Y∧f 8=.int .u64 s∧f 10=.int .u64 b∧f 14=.int .u64 u0∧f 9=.int .u64 a∧f 15=.int .u64 q1∧f 17=.int .u64 u21∧σ= []) q2 ?_ ?_
   ·exact ⟨q2,r2,rfl,by simp,by simp,by rw [←hYab];exact hg2,e3,e4,e5,by simp [f2],by simp [f8],by simp [f10],by simp [f14],by simp [f9],by simp [f15],by simp,rfl⟩
   rintro x f σ ⟨q,r,hxq,fq,fr,hle,hqr,hr,hqB,f2,f8,f10,f14,f9,f15,f17,rfl⟩
   obtain ⟨m1,m2,m3⟩:=dg_lt (Y:=Y) hB haB hqB hr hu0B hbB hqr (by omega)
   rw [←hYab] at hle
   obtain ⟨r',hr'⟩:∃r',r'=r+a:=⟨_,rfl⟩
   have hra:IntKind.u64.wrap ((r:Int)+a)=(r':Int):=by rw [wrap_u];omega
   have hmB:IntKind.u64.wrap (4294967296*(r:Int))=4294967296*r:=by rw [wrap_u];omega
   have hmBv:IntKind.u64.wrap (4294967296*(r:Int)+u0)=4294967296*r+u0:=by rw [wrap_u];omega
   have body:B≤q∨B*r+u0<q*b→1≤q∧(u21*B+u0)/(a*B+b)≤q-1∧(q-1)*a+r'=u21∧IntKind.u64.wrap ((q:Int)-1)=((q-1:Nat):Int):=by
    intro h
    have hn:=kn_next (v:=u0) hY0 (by rw [hYab];exact hu21) hu0B hqr h
    have h1q:1≤q:=Nat.lt_of_le_of_lt (Nat.zero_le _) hn
    refine ⟨h1q,Nat.le_sub_one_of_lt hn, ?_,by rw [wrap_u];omega⟩
    obtain ⟨k,rfl⟩:∃k,q=k+1:=⟨q-1,by omega⟩
    rw [Nat.add_mul] at hqr
    simp only [Nat.add_sub_cancel];omega
   by_cases hqb:B≤q
   ·obtain ⟨b1,b2,b3,b4⟩:=body (.inl hqb)
    have hqb':(4294967296:Int)≤q:=by omega
    have hqb'':4294967296≤q:=by omega
    simp [fq,fr,f2,f8,f10,f14,f9,f15,f17,hqb',hqb'',b4,hra]
    refine cb_dec (fun h=> ?_) (fun h=> ?_)
    ·simp
     refine jn_intro ⟨q-1,by simp, ?_,by simp [f2],by simp [f8],by simp [f10],by simp [f14],by simp [f9],by simp [f15],by simp [f17],rfl⟩
     rw [←hYab]
     exact kn_break hY0 b2 b3 (by omega) (by omega) hbB
    ·simp
     refine nx_intro (q-1) (by omega) ⟨q-1,r',rfl,by simp,by simp,by rw [←hYab];exact b2,b3,by omega,by omega,by simp [f2],by simp [f8],by simp [f10],by simp [f14],by simp [f9],by simp [f15],by simp [f17],rfl⟩
   ·have hqb':¬(4294967296:Int)≤q:=by omega
    have hqb'':¬4294967296≤q:=by omega
    have hqbM:q*b<18446744073709551616:=by
     have h1:q*b≤(B-1)*(B-1):=Nat.mul_le_mul (by omega) (by omega)
     subst hB;omega
    obtain ⟨p,hp⟩:∃p,p=q*b:=⟨_,rfl⟩
    have hpi:(q:Int)*b=p:=by rw [hp];push_cast;rfl
    have hwp:IntKind.u64.wrap ((q:Int)*b)=p:=by rw [hpi,wrap_u];omega
    simp [fq,fr,f2,f8,f10,f14,f9,f15,f17,hqb',hqb'',hwp,hmB,hmBv]
    refine cb_dec (fun h=> ?_) (fun h=> ?_)
    ·have h':B*r+u0<q*b:=by rw [←hp,hB];omega
     obtain ⟨b1,b2,b3,b4⟩:=body (.inr h')
     simp [fq,fr,f2,f8,f10,f14,f9,f15,f17,b4,hra]
     refine cb_dec (fun h=> ?_) (fun h=> ?_)
     ·simp
      refine jn_intro ⟨q-1,by simp, ?_,by simp [f2],by simp [f8],by simp [f10],by simp [f14],by simp [f9],by simp [f15],by simp [f17],rfl⟩
      rw [←hYab]
      exact kn_break hY0 b2 b3 (by omega) (by omega) hbB
     ·simp
      refine nx_intro (q-1) (by omega) ⟨q-1,r',rfl,by simp,by simp,by rw [←hYab];exact b2,b3,by omega,by omega,by simp [f2],by simp [f8],by simp [f10],by simp [f14],by simp [f9],by simp [f15],by simp [f17],rfl⟩
    ·simp
     refine jn_intro ⟨q,by simp [fq], ?_,by simp [f2],by simp [f8],by simp [f10],by simp [f14],by simp [f9],by simp [f15],by simp [f17],rfl⟩
     rw [←hYab]
     exact kn_exit hY0 hle hqr (by rw [←hp,hB];omega)
 ·-- its loop
  refine lp_startx (fun x f σ=>∃q r:Nat,x=q∧f 15=.int .u64 q∧f 16=.int .u64 r∧(u*B+u1)/Y≤q∧q*a+r=u∧r<B∧q≤B+1∧f 2=.int .u64 Y∧f 8=.int .u64 s∧f 9=.int .u64 a∧f 10=.int .u64 b∧f 11=.int .u64 u∧f 13=.int .u64 u1∧f 14=.int .u64 u0∧σ= []) q0 ?_ ?_
  ·exact ⟨q0,r0,rfl,by simp,by simp,by rw [←hYab];exact hg0,g3,g4,g5,by simp [hsw],by simp [hsw],by simp [hsw],by simp [hsw],by simp [hsw],by simp [hsw],by simp [hsw],rfl⟩
  rintro x f σ ⟨q,r,hxq,fq,fr,hle,hqr,hr,hqB,f2,f8,f9,f10,f11,f13,f14,rfl⟩
  obtain ⟨m1,m2,m3⟩:=dg_lt (Y:=Y) hB haB hqB hr hu1B hbB hqr (by omega)
  rw [←hYab] at hle
  obtain ⟨r',hr'⟩:∃r',r'=r+a:=⟨_,rfl⟩
  have hra:IntKind.u64.wrap ((r:Int)+a)=(r':Int):=by rw [wrap_u];omega
  have hmB:IntKind.u64.wrap (4294967296*(r:Int))=4294967296*r:=by rw [wrap_u];omega
  have hmBv:IntKind.u64.wrap (4294967296*(r:Int)+u1)=4294967296*r+u1:=by rw [wrap_u];omega
  have body:B≤q∨B*r+u1<q*b→1≤q∧(u*B+u1)/(a*B+b)≤q-1∧(q-1)*a+r'=u∧IntKind.u64.wrap ((q:Int)-1)=((q-1:Nat):Int):=by
   intro h
   have hn:=kn_next (v:=u1) hY0 (by rw [hYab];exact huY) hu1B hqr h
   have h1q:1≤q:=Nat.lt_of_le_of_lt (Nat.zero_le _) hn
   refine ⟨h1q,Nat.le_sub_one_of_lt hn, ?_,by rw [wrap_u];omega⟩
   obtain ⟨k,rfl⟩:∃k,q=k+1:=⟨q-1,by omega⟩
   rw [Nat.add_mul] at hqr
   simp only [Nat.add_sub_cancel];omega
  by_cases hqb:B≤q
  ·obtain ⟨b1,b2,b3,b4⟩:=body (.inl hqb)
   have hqb':(4294967296:Int)≤q:=by omega
   have hqb'':4294967296≤q:=by omega
   simp [fq,fr,f2,f8,f9,f10,f11,f13,f14,hqb',hqb'',b4,hra]
   refine cb_dec (fun h=> ?_) (fun h=> ?_)
   ·simp
    refine jn_intro ⟨q-1,by simp, ?_,by simp [f2],by simp [f8],by simp [f9],by simp [f10],by simp [f11],by simp [f13],by simp [f14],rfl⟩
    rw [←hYab]
    exact kn_break hY0 b2 b3 (by omega) (by omega) hbB
   ·simp
    refine nx_intro (q-1) (by omega) ⟨q-1,r',rfl,by simp,by simp,by rw [←hYab];exact b2,b3,by omega,by omega,by simp [f2],by simp [f8],by simp [f9],by simp [f10],by simp [f11],by simp [f13],by simp [f14],rfl⟩
  ·have hqb':¬(4294967296:Int)≤q:=by omega
   have hqb'':¬4294967296≤q:=by omega
   have hqbM:q*b<18446744073709551616:=by
    have h1:q*b≤(B-1)*(B-1):=Nat.mul_le_mul (by omega) (by omega)
    subst hB;omega
   obtain ⟨p,hp⟩:∃p,p=q*b:=⟨_,rfl⟩
   have hpi:(q:Int)*b=p:=by rw [hp];push_cast;rfl
   have hwp:IntKind.u64.wrap ((q:Int)*b)=p:=by rw [hpi,wrap_u];omega
   simp [fq,fr,f2,f8,f9,f10,f11,f13,f14,hqb',hqb'',hwp,hmB,hmBv]
   refine cb_dec (fun h=> ?_) (fun h=> ?_)
   ·have h':B*r+u1<q*b:=by rw [←hp,hB];omega
    obtain ⟨b1,b2,b3,b4⟩:=body (.inr h')
    simp [fq,fr,f2,f8,f9,f10,f11,f13,f14,b4,hra]
    refine cb_dec (fun h=> ?_) (fun h=> ?_)
    ·simp
     refine jn_intro ⟨q-1,by simp, ?_,by simp [f2],by simp [f8],by simp [f9],by simp [f10],by simp [f11],by simp [f13],by simp [f14],rfl⟩
     rw [←hYab]
     exact kn_break hY0 b2 b3 (by omega) (by omega) hbB
    ·simp
     refine nx_intro (q-1) (by omega) ⟨q-1,r',rfl,by simp,by simp,by rw [←hYab];exact b2,b3,by omega,by omega,by simp [f2],by simp [f8],by simp [f9],by simp [f10],by simp [f11],by simp [f13],by simp [f14],rfl⟩
   ·simp
    refine jn_intro ⟨q,by simp [fq], ?_,by simp [f2],by simp [f8],by simp [f9],by simp [f10],by simp [f11],by simp [f13],by simp [f14],rfl⟩
    rw [←hYab]
    exact kn_exit hY0 hle hqr (by rw [←hp,hB];omega)
end Go.Proofs.YtdbhocoeolhjhaaGreatDoor
end
section
set_option maxHeartbeats 2000000
namespace Go.Num
open Go.Abs
theorem wA_eq {hi lo n:Nat} (h1:hi=n/18446744073709551616) (h2:lo=n%18446744073709551616):wA n=.agg [.int .u64 (hi:Int),.int .u64 (lo:Int)]:=by subst h1 h2;rfl
end Go.Num
namespace Go.Proofs.YtdbhocoeolhjhaaGreatDoor
open Go.Abs Go.Num
variable {G:Globs}
theorem wAdd_ok (a b:Nat) (ha:a<340282366920938463463374607431768211456) (hb:b<340282366920938463463374607431768211456):
  PCalls Tryz.prog n_wide_Add [wA a,wA b] (fun r=>r=.tup [wA ((a+b)%340282366920938463463374607431768211456),.bool (decide (340282366920938463463374607431768211456≤a+b))]):=by
 obtain ⟨ah,hah⟩:∃x,x=a/18446744073709551616:=⟨_,rfl⟩
 obtain ⟨al,hal⟩:∃x,x=a%18446744073709551616:=⟨_,rfl⟩
 obtain ⟨bh,hbh⟩:∃x,x=b/18446744073709551616:=⟨_,rfl⟩
 obtain ⟨bl,hbl⟩:∃x,x=b%18446744073709551616:=⟨_,rfl⟩
 rw [wA_eq hah hal,wA_eq hbh hbl]
 obtain ⟨s0,hs0⟩:∃x,x=(al+bl)%18446744073709551616:=⟨_,rfl⟩
 obtain ⟨c0,hc0⟩:∃x,x=(al+bl)/18446744073709551616:=⟨_,rfl⟩
 obtain ⟨s1,hs1⟩:∃x,x=(ah+bh+c0)%18446744073709551616:=⟨_,rfl⟩
 obtain ⟨c1,hc1⟩:∃x,x=(ah+bh+c0)/18446744073709551616:=⟨_,rfl⟩
 rw [wA_eq (hi:=s1) (lo:=s0) (n:=(a+b)%340282366920938463463374607431768211456) (by omega) (by omega)]
 have e1:((al:Int)+bl)%18446744073709551616=s0:=by omega
 have e2:((al:Int)+bl)/18446744073709551616=c0:=by omega
 have e3:((ah:Int)+bh+c0)%18446744073709551616=s1:=by omega
 have e4:((ah:Int)+bh+c0)/18446744073709551616=c1:=by omega
 have hc:(c0:Int)≤1:=by omega
 have hcn:c0≤1:=by omega
 have e5:decide (c1=1)=decide (340282366920938463463374607431768211456≤a+b):=by
  congr 1;apply propext;omega
 have e6:decide ((c1:Int)=1)=decide (340282366920938463463374607431768211456≤a+b):=by
  congr 1;apply propext;omega
 refine pcalls_of_awp hmix c_wide_Add rfl ?_
 simp [a_wide_Add,e1,e2,e3,e4,hc,hcn,e5,e6]
 try omega
theorem wDiv_ok (a d:Nat) (ha:a<340282366920938463463374607431768211456) (hd:d<18446744073709551616):
  PCalls Tryz.prog n_wide_Div [wA a,.int .u64 d] (fun r=>r=if d=0 then .tup [wA 0,.int .u64 0,.int .i64 1] else .tup [wA (a/d),.int .u64 ((a%d:Nat):Int),.int .i64 0]):=by
 refine pcalls_of_awp hmix c_wide_Div rfl ?_
 by_cases h0:d=0
 ·subst h0
  simp [a_wide_Div,wA]
 obtain ⟨ah,hah⟩:∃x,x=a/18446744073709551616:=⟨_,rfl⟩
 obtain ⟨al,hal⟩:∃x,x=a%18446744073709551616:=⟨_,rfl⟩
 rw [wA_eq hah hal]
 have h0':¬(d:Int)=0:=by omega
 obtain ⟨q1,hq1⟩:∃x,x=ah/d:=⟨_,rfl⟩
 obtain ⟨r1,hr1⟩:∃x,x=ah%d:=⟨_,rfl⟩
 have e1:IntKind.u64.wrap ((ah:Int)/d)=q1:=by rw [u_div ah d (by omega),hq1]
 have e2:(ah:Int).tmod d=r1:=by rw [Int.tmod_eq_emod_of_nonneg (by omega),u_mod,hr1]
 have hr1d:r1<d:=by rw [hr1];exact Nat.mod_lt _ (by omega)
 obtain ⟨t1,t2⟩:=two_digits (y:=d) (h:=ah) (l:=al) (B:=18446744073709551616) (by omega)
 have hal':ah*18446744073709551616+al=a:=by omega
 rw [hal',←hq1,←hr1] at t1
 rw [hal',←hr1] at t2
 obtain ⟨q0,hq0⟩:∃x,x=(r1*18446744073709551616+al)/d:=⟨_,rfl⟩
 have hq0M:q0<18446744073709551616:=by
  rw [hq0,Nat.div_lt_iff_lt_mul (by omega)]
  have:(r1+1)*18446744073709551616≤d*18446744073709551616:=Nat.mul_le_mul_right _ hr1d
  rw [Nat.mul_comm 18446744073709551616 d];omega
 rw [←hq0] at t1
 have hAD:wA (a/d)=.agg [.int .u64 (q1:Int),.int .u64 (q0:Int)]:=wA_eq (by omega) (by omega)
 rw [if_neg h0,hAD,t2]
 simp [a_wide_Div,h0,h0',e1,e2]
 refine ac_same (div64_ok r1 al d hr1d hd (by omega)) (by simp) ?_
 rw [←hq0]
 rintro r rfl
 simp
theorem wRound_ok (a d:Nat) (ha:a<340282366920938463463374607431768211456) (hd:d<18446744073709551616):
  PCalls Tryz.prog n_wide_Round [wA a,.int .u64 d] (fun r=>r=if d=0 then .tup [.int .u64 0,.int .i64 1] else if rnd a d<18446744073709551616 then .tup [.int .u64 ((rnd a d:Nat):Int),.int .i64 0] else .tup [.int .u64 0,.int .i64 3]):=by
 refine pcalls_of_awp hmix c_wide_Round rfl ?_
 have hwb:wA a=.agg [.int .u64 ((a/18446744073709551616:Nat):Int),.int .u64 ((a%18446744073709551616:Nat):Int)]:=rfl
 by_cases h0:d=0
 ·subst h0
  rw [hwb]
  simp [a_wide_Round]
  refine ac_same (wDiv_ok a 0 ha (by decide)) (by simp [wA]) ?_
  rintro r rfl
  simp [wA]
 rw [if_neg h0]
 rw [hwb]
 simp [a_wide_Round]
 refine ac_same (wDiv_ok a d ha hd) (by simp [wA]) ?_
 rw [if_neg h0]
 obtain ⟨q,hq⟩:∃x,x=a/d:=⟨_,rfl⟩
 obtain ⟨m,hm⟩:∃x,x=a%d:=⟨_,rfl⟩
 have hmd:m<d:=by rw [hm];exact Nat.mod_lt _ (by omega)
 rw [←hq,←hm]
 rintro r rfl
 have hrnd:rnd a d=q+(if d-m≤m then 1 else 0):=by rw [rnd,←hq,←hm]
 rw [hrnd]
 have hwq:wA q=.agg [.int .u64 ((q/18446744073709551616:Nat):Int),.int .u64 ((q%18446744073709551616:Nat):Int)]:=rfl
 have hsub:IntKind.u64.wrap ((d:Int)-m)=((d-m:Nat):Int):=by rw [wrap_u];omega
 obtain ⟨dm,hdm⟩:∃x,x=d-m:=⟨_,rfl⟩
 rw [←hdm] at hsub
 have hqa:q<340282366920938463463374607431768211456:=by rw [hq];exact Nat.lt_of_le_of_lt (Nat.div_le_self _ _) ha
 obtain ⟨qh,hqh⟩:∃x,x=q/18446744073709551616:=⟨_,rfl⟩
 obtain ⟨ql,hql⟩:∃x,x=q%18446744073709551616:=⟨_,rfl⟩
 rw [wA_eq hqh hql]
 simp [hsub]
 refine cb_dec (fun h=> ?_) (fun h=> ?_)
 ·have h':d-m≤m:=by omega
  have hq2:q+1<340282366920938463463374607431768211456:=by
   have hd2:2≤d:=by omega
   have:a/d≤a/2:=Nat.div_le_div_left hd2 (by decide)
   omega
  simp
  have hA:=wAdd_ok (G:=G) q 1 hqa (by decide)
  rw [wA_eq hqh hql,show wA 1=.agg [.int .u64 0,.int .u64 1] from rfl] at hA
  refine ac_same hA (by simp) ?_
  rintro r rfl
  rw [Nat.mod_eq_of_lt hq2,if_pos h']
  obtain ⟨ph,hph⟩:∃x,x=(q+1)/18446744073709551616:=⟨_,rfl⟩
  obtain ⟨pl,hpl⟩:∃x,x=(q+1)%18446744073709551616:=⟨_,rfl⟩
  rw [wA_eq hph hpl]
  simp
  refine cb_dec (fun hh=> ?_) (fun hh=> ?_)
  ·have:¬q+1<18446744073709551616:=by omega
   rw [if_neg this];simp
  ·have:q+1<18446744073709551616:=by omega
   have e:pl=q+1:=by omega
   rw [if_pos this];simp [e]
 ·have h':¬d-m≤m:=by omega
  rw [if_neg h',Nat.add_zero]
  simp
  refine cb_dec (fun hh=> ?_) (fun hh=> ?_)
  ·have:¬q<18446744073709551616:=by omega
   rw [if_neg this];simp
  ·have:q<18446744073709551616:=by omega
   have e:ql=q:=by omega
   rw [if_pos this];simp [e]
theorem quotient_ok (x y d:Nat) (hx:x<18446744073709551616) (hy:y<18446744073709551616) (hd:d<18446744073709551616) (b:Bool):
  PCalls Tryz.prog n_fixed_quotient [.int .u64 x,.int .u64 y,.int .u64 d,.bool b] (fun r=>r=numA (if d=0 then nothing else tell (sgn b (rnd (x*y) d)))):=by
 refine pcalls_of_awp hmix c_fixed_quotient rfl ?_
 simp [a_fixed_quotient]
 refine ac_same (wMul_ok x y hx hy) (by simp) ?_
 rintro r rfl
 have hxy:x*y<340282366920938463463374607431768211456:=by
  have h1:x*y≤x*18446744073709551615:=Nat.mul_le_mul_left x (by omega)
  omega
 have hwb:wA (x*y)=.agg [.int .u64 ((x*y/18446744073709551616:Nat):Int),.int .u64 ((x*y%18446744073709551616:Nat):Int)]:=rfl
 rw [hwb]
 simp
 refine ac_same (wRound_ok (x*y) d hxy hd) (by simp [wA]) ?_
 rintro r rfl
 by_cases h0:d=0
 ·rw [if_pos h0,if_pos h0]
  simp
  refine ac_same nothing_ok (by simp) ?_
  rintro r rfl
  simp [numA]
 ·rw [if_neg h0,if_neg h0]
  by_cases h1:rnd (x*y) d<18446744073709551616
  ·rw [if_pos h1]
   simp
   refine ac_same (told_ok _ h1 b) (by simp) ?_
   rintro r rfl
   simp [numA]
  ·rw [if_neg h1]
   have:tell (sgn b (rnd (x*y) d))=nothing:=by
    unfold tell sgn most
    cases b<;>simp<;>omega
   simp [this]
   refine ac_same nothing_ok (by simp) ?_
   rintro r rfl
   simp [numA,this]
theorem fDiv_ok (a b:N) (ha:okN a) (hb:okN b):PCalls Tryz.prog n_fixed_Div [numA a,numA b] (fun r=>r=numA (divN a b)):=by
 refine pcalls_of_awp hmix c_fixed_Div rfl ?_
 obtain ⟨a1,a2⟩:=ha
 obtain ⟨b1,b2⟩:=hb
 simp [a_fixed_Div,numA]
 refine ac_same (there_ok a) (by simp [numA]) ?_
 rintro r rfl
 cases hga:good a with
 |false=>
  simp
  refine ac_same nothing_ok (by simp) ?_
  rintro r rfl
  simp [divN,hga,numA]
 |true=>
  simp
  refine ac_same (there_ok b) (by simp [numA]) ?_
  rintro r rfl
  cases hgb:good b with
  |false=>
   simp
   refine ac_same nothing_ok (by simp) ?_
   rintro r rfl
   simp [divN,hga,hgb,numA]
  |true=>
   have va:=(good_iff.1 hga).2
   have vb:=(good_iff.1 hgb).2
   simp only [most] at va vb
   simp
   refine ac_same (size_ok a va a2) (by simp [numA]) ?_
   rintro r rfl
   simp
   refine ac_same (size_ok b vb b2) (by simp [numA]) ?_
   rintro r rfl
   simp
   refine ac_same (quotient_ok a.2.natAbs 1000000 b.2.natAbs (by omega) (by omega) (by omega) (decide (a.2<0) !=decide (b.2<0))) (by simp) ?_
   rintro r rfl
   by_cases hb0:b.2=0
   ·simp [divN,hga,hgb,hb0,numA]
   ·simp [divN,hga,hgb,hb0,numA]
end Go.Proofs.YtdbhocoeolhjhaaGreatDoor
end
section
set_option maxHeartbeats 2000000
namespace Go.Num
open Go.Abs
theorem or_add_bit {x i:Nat} (h:x/2^i%2=0):x|||2^i=x+2^i:=by
 have hp:=Nat.two_pow_pos i
 obtain ⟨q,hq⟩:∃q,q=x/2^i/2:=⟨_,rfl⟩
 obtain ⟨r,hr⟩:∃r,r=x%2^i:=⟨_,rfl⟩
 have hrl:r<2^i:=by rw [hr];exact Nat.mod_lt _ hp
 have h2:x/2^i=2*q:=by omega
 have hx:x=2^i*(2*q)+r:=by
  have:=Nat.div_add_mod x (2^i)
  rw [h2,←hr] at this;exact this.symm
 have e0:2^i*(2*q)=2^(i+1)*q:=by rw [Nat.pow_succ,Nat.mul_assoc]
 have e1:=Nat.two_pow_add_eq_or_of_lt hrl (2*q)
 have e2:=Nat.two_pow_add_eq_or_of_lt (show 2^i<2^(i+1) by rw [Nat.pow_succ];omega) q
 have e3:=Nat.two_pow_add_eq_or_of_lt hrl (2*q+1)
 have e4:2^i*(2*q+1)=2^(i+1)*q+2^i:=by rw [Nat.mul_add,e0,Nat.mul_one]
 have l1:x|||2^i=2^i*(2*q)|||r|||2^i:=by rw [←e1,←hx]
 rw [l1,Nat.or_assoc,Nat.or_comm r,←Nat.or_assoc,e0,←e2,←e4,←e3]
 rw [Nat.mul_add,Nat.mul_one]
 omega
theorem bt_zero {x i:Nat} (h:x<2^i):bt x i=0:=by unfold bt;rw [Nat.div_eq_of_lt h]
theorem bt_mul (c i k:Nat) (h:i<k):bt (c*2^k) i=0:=by
 unfold bt
 obtain ⟨j,rfl⟩:∃j,k=i+1+j:=⟨k-i-1,by omega⟩
 have:c*2^(i+1+j)=2^i*(2*(c*2^j)):=by
  rw [Nat.pow_add,Nat.pow_succ]
  simp only [Nat.mul_comm,Nat.mul_left_comm,Nat.mul_assoc]
 rw [this,Nat.mul_div_cancel_left _ (Nat.two_pow_pos i),Nat.mul_mod_right]
end Go.Num
namespace Go.Proofs.YtdbhocoeolhjhaaGreatDoor
open Go.Abs Go.Num
variable {G:Globs}
theorem rBit_ok (x i:Nat) (hx:x<340282366920938463463374607431768211456) (hi:i<128):PCalls Tryz.prog n_isobarref01_bit [wA x,.int .i64 i] (fun r=>r=.int .u64 (bt x i)):=by
 refine pcalls_of_awp hmix c_isobarref01_bit rfl ?_
 obtain ⟨h,hh⟩:∃h,h=x/18446744073709551616:=⟨_,rfl⟩
 obtain ⟨l,hl⟩:∃l,l=x%18446744073709551616:=⟨_,rfl⟩
 have hxs:h*18446744073709551616+l=x:=by omega
 rw [wA_eq hh hl]
 by_cases h64:64≤i
 ·have h64':(64:Int)≤i:=by omega
  have hw1:IntKind.i64.wrap ((i:Int)-64)=((i-64:Nat):Int):=by rw [wrap_i (by omega) (by omega)];omega
  obtain ⟨k,hk⟩:∃k,k=i-64:=⟨_,rfl⟩
  rw [←hk] at hw1
  have hw2:IntKind.u64.wrap (k:Int)=k:=by rw [wrap_u];omega
  have e:=bt_hi (hi:=h) (lo:=l) (i:=i) (by omega) h64
  rw [hxs,←hk] at e
  obtain ⟨v,hv⟩:∃v,v=h/2^k:=⟨_,rfl⟩
  have hvM:v<18446744073709551616:=by rw [hv];exact Nat.lt_of_le_of_lt (Nat.div_le_self _ _) (by omega)
  have s1:shiftOp .shr .u64 (h:Int) k=some (v:Int):=by rw [shr_nat h k (by omega) (by omega),hv]
  obtain ⟨b,hb⟩:∃b,b=v%2:=⟨_,rfl⟩
  have s2:bitOp .and .u64 (v:Int) 1=some (b:Int):=by rw [Go.Num.and_one v hvM,hb]
  rw [←hv,←hb] at e
  rw [e]
  simp [-shiftOp, -bitOp,a_isobarref01_bit,h64,h64',hw1,hw2,s1,s2]
 ·have h64':¬(64:Int)≤i:=by omega
  have hw2:IntKind.u64.wrap (i:Int)=i:=by rw [wrap_u];omega
  have e:=bt_lo (hi:=h) (lo:=l) (i:=i) (by omega) (by omega)
  rw [hxs] at e
  obtain ⟨v,hv⟩:∃v,v=l/2^i:=⟨_,rfl⟩
  have hvM:v<18446744073709551616:=by rw [hv];exact Nat.lt_of_le_of_lt (Nat.div_le_self _ _) (by omega)
  have s1:shiftOp .shr .u64 (l:Int) i=some (v:Int):=by rw [shr_nat l i (by omega) (by omega),hv]
  obtain ⟨b,hb⟩:∃b,b=v%2:=⟨_,rfl⟩
  have s2:bitOp .and .u64 (v:Int) 1=some (b:Int):=by rw [Go.Num.and_one v hvM,hb]
  rw [←hv,←hb] at e
  rw [e]
  simp [-shiftOp, -bitOp,a_isobarref01_bit,h64,h64',hw2,s1,s2]
theorem rWith_ok (x i:Nat) (hx:x<340282366920938463463374607431768211456) (hi:i<128) (h0:bt x i=0):PCalls Tryz.prog n_isobarref01_with [wA x,.int .i64 i] (fun r=>r=wA (x+2^i)):=by
 refine pcalls_of_awp hmix c_isobarref01_with rfl ?_
 obtain ⟨h,hh⟩:∃h,h=x/18446744073709551616:=⟨_,rfl⟩
 obtain ⟨l,hl⟩:∃l,l=x%18446744073709551616:=⟨_,rfl⟩
 have hxs:h*18446744073709551616+l=x:=by omega
 rw [wA_eq hh hl]
 by_cases h64:64≤i
 ·have h64':(64:Int)≤i:=by omega
  have hw1:IntKind.i64.wrap ((i:Int)-64)=((i-64:Nat):Int):=by rw [wrap_i (by omega) (by omega)];omega
  obtain ⟨k,hk⟩:∃k,k=i-64:=⟨_,rfl⟩
  rw [←hk] at hw1
  have hw2:IntKind.u64.wrap (k:Int)=k:=by rw [wrap_u];omega
  have e:=bt_hi (hi:=h) (lo:=l) (i:=i) (by omega) h64
  rw [hxs,←hk,h0] at e
  have hor:=or_add_bit (x:=h) (i:=k) e.symm
  obtain ⟨p,hp⟩:∃p,p=2^k:=⟨_,rfl⟩
  have hpM:p<18446744073709551616:=by rw [hp,show (18446744073709551616:Nat)=2^64 by decide];exact Nat.pow_lt_pow_right (by decide) (by omega)
  have s1:shiftOp .shl .u64 1 k=some (p:Int):=by
   have:=shl_nat 1 k (by omega)
   rw [Nat.one_mul,←hp,Nat.mod_eq_of_lt hpM] at this
   simpa using this
  have s2:bitOp .or .u64 (h:Int) (p:Int)=some ((h|||p:Nat):Int):=or_nat h p (by omega) hpM
  have hlt:h|||p<18446744073709551616:=Nat.or_lt_two_pow (n:=64) (by omega) hpM
  obtain ⟨h',hh'⟩:∃h',h'=h|||p:=⟨_,rfl⟩
  rw [←hh'] at s2 hlt
  have hsum:h'=h+p:=by rw [hh',hp];exact hor
  have hpi:2^i=p*18446744073709551616:=by rw [hp,show (18446744073709551616:Nat)=2^64 by decide,←Nat.pow_add,show k+64=i by omega]
  rw [wA_eq (hi:=h') (lo:=l) (n:=x+2^i) (by rw [hpi];omega) (by rw [hpi];omega)]
  simp [-shiftOp, -bitOp,a_isobarref01_with,h64,h64',hw1,hw2,s1,s2]
 ·have h64':¬(64:Int)≤i:=by omega
  have hw2:IntKind.u64.wrap (i:Int)=i:=by rw [wrap_u];omega
  have e:=bt_lo (hi:=h) (lo:=l) (i:=i) (by omega) (by omega)
  rw [hxs,h0] at e
  have hor:=or_add_bit (x:=l) (i:=i) e.symm
  obtain ⟨p,hp⟩:∃p,p=2^i:=⟨_,rfl⟩
  have hpM:p<18446744073709551616:=by rw [hp,show (18446744073709551616:Nat)=2^64 by decide];exact Nat.pow_lt_pow_right (by decide) (by omega)
  have s1:shiftOp .shl .u64 1 i=some (p:Int):=by
   have:=shl_nat 1 i (by omega)
   rw [Nat.one_mul,←hp,Nat.mod_eq_of_lt hpM] at this
   simpa using this
  have s2:bitOp .or .u64 (l:Int) (p:Int)=some ((l|||p:Nat):Int):=or_nat l p (by omega) hpM
  have hlt:l|||p<18446744073709551616:=Nat.or_lt_two_pow (n:=64) (by omega) hpM
  obtain ⟨l',hl'⟩:∃l',l'=l|||p:=⟨_,rfl⟩
  rw [←hl'] at s2 hlt
  have hsum:l'=l+p:=by rw [hl',hp];exact hor
  rw [←hp,wA_eq (hi:=h) (lo:=l') (n:=x+p) (by omega) (by omega)]
  simp [-shiftOp, -bitOp,a_isobarref01_with,h64,h64',hw2,s1,s2]
theorem rDouble_ok (x:Nat) (hx:x<340282366920938463463374607431768211456):PCalls Tryz.prog n_isobarref01_Double [wA x] (fun r=>r=.tup [wA (2*x%340282366920938463463374607431768211456),.bool (decide (170141183460469231731687303715884105728≤x))]):=by
 refine pcalls_of_awp hmix c_isobarref01_Double rfl ?_
 obtain ⟨h,hh⟩:∃h,h=x/18446744073709551616:=⟨_,rfl⟩
 obtain ⟨l,hl⟩:∃l,l=x%18446744073709551616:=⟨_,rfl⟩
 rw [wA_eq hh hl]
 obtain ⟨h2,hh2⟩:∃k,k=h*2%18446744073709551616:=⟨_,rfl⟩
 obtain ⟨l2,hl2⟩:∃k,k=l*2%18446744073709551616:=⟨_,rfl⟩
 obtain ⟨lt,hlt⟩:∃k,k=l/9223372036854775808:=⟨_,rfl⟩
 obtain ⟨ht,hht⟩:∃k,k=h/9223372036854775808:=⟨_,rfl⟩
 have s6:shiftOp .shl .u64 (h:Int) 1=some (h2:Int):=by rw [shl_nat h 1 (by decide),hh2]
 have s13:shiftOp .shl .u64 (l:Int) 1=some (l2:Int):=by rw [shl_nat l 1 (by decide),hl2]
 have s9:shiftOp .shr .u64 (l:Int) 63=some (lt:Int):=by rw [shr_nat l 63 (by omega) (by decide),hlt]
 have s17:shiftOp .shr .u64 (h:Int) 63=some (ht:Int):=by rw [shr_nat h 63 (by omega) (by decide),hht]
 obtain ⟨o,ho⟩:∃k,k=h2+lt:=⟨_,rfl⟩
 have s10:bitOp .or .u64 (h2:Int) (lt:Int)=some (o:Int):=by
  rw [or_nat h2 lt (by omega) (by omega),ho]
  have h3:lt<2^1:=by omega
  have:=Nat.two_pow_add_eq_or_of_lt h3 (h2/2)
  have e2:2^1*(h2/2)=h2:=by omega
  rw [e2] at this
  rw [this]
 have e1:decide ((ht:Int)=1)=decide (170141183460469231731687303715884105728≤x):=by congr 1;apply propext;omega
 have e2:decide (ht=1)=decide (170141183460469231731687303715884105728≤x):=by congr 1;apply propext;omega
 rw [wA_eq (hi:=o) (lo:=l2) (n:=2*x%340282366920938463463374607431768211456) (by omega) (by omega)]
 simp [-shiftOp, -bitOp,a_isobarref01_Double,s6,s13,s9,s17,s10,e1,e2]
 try omega
theorem rAdd_ok (a b:Nat) (ha:a<340282366920938463463374607431768211456) (hb:b<340282366920938463463374607431768211456):
  PCalls Tryz.prog n_isobarref01_Add [wA a,wA b] (fun r=>r=.tup [wA ((a+b)%340282366920938463463374607431768211456),.bool (decide (340282366920938463463374607431768211456≤a+b))]):=by
 refine pcalls_of_awp hmix c_isobarref01_Add rfl ?_
 obtain ⟨ah,hah⟩:∃h,h=a/18446744073709551616:=⟨_,rfl⟩
 obtain ⟨al,hal⟩:∃l,l=a%18446744073709551616:=⟨_,rfl⟩
 obtain ⟨bh,hbh⟩:∃h,h=b/18446744073709551616:=⟨_,rfl⟩
 obtain ⟨bl,hbl⟩:∃l,l=b%18446744073709551616:=⟨_,rfl⟩
 have hA:=wA_eq hah hal
 have hB:=wA_eq hbh hbl
 rw [hA,hB]
 simp [a_isobarref01_Add]
 have hlo0:sumLo a b 0=0:=by simp [sumLo,Nat.mod_one]
 have hc0:sumC a b 0=0:=by simp [sumC,Nat.mod_one]
 refine lp_startx (fun x f σ=>∃(i c oh ol:Nat),x=128-i∧i≤128∧c=sumC a b i∧wA (sumLo a b i)=.agg [.int .u64 oh,.int .u64 ol]∧f 2=.ptr 0 0∧f 3=.ptr 1 0∧f 4=.ptr 2 0∧f 6=.ptr 3 0∧f 7=.int .u64 c∧f 8=.int .i64 i∧
  σ= [.var 277 [.int .u64 ah,.int .u64 al],.var 277 [.int .u64 bh,.int .u64 bl],.var 277 [.int .u64 0,.int .u64 0],.var 277 [.int .u64 oh,.int .u64 ol]]) 128 ?_ ?_
 ·exact ⟨0,0,0,0,rfl,by omega,hc0.symm,by rw [hlo0];rfl,by simp,by simp,by simp,by simp,by simp,by simp,by simp⟩
 rintro x f σ ⟨i,c,oh,ol,hx,hi,hc,hO,f2,f3,f4,f6,f7,f8,rfl⟩
 have hwi:IntKind.i64.wrap ((i:Int)+1)=((i+1:Nat):Int):=by rw [wrap_i (by omega) (by omega)];omega
 have hcl:=sumC_le a b i
 simp [f8]
 refine cb_dec (fun hlt=> ?_) (fun hge=> ?_)
 ·have hlt':i<128:=by omega
  have k1:=rBit_ok (G:=G) a i ha hlt'
  have k2:=rBit_ok (G:=G) b i hb hlt'
  rw [hA] at k1
  rw [hB] at k2
  obtain ⟨st1,st2⟩:=sum_step a b i
  obtain ⟨u,hu⟩:∃u,u=bt a i:=⟨_,rfl⟩
  obtain ⟨v,hv⟩:∃v,v=bt b i:=⟨_,rfl⟩
  have hu2:u<2:=by rw [hu];exact bt_lt a i
  have hv2:v<2:=by rw [hv];exact bt_lt b i
  rw [←hu] at k1 st1 st2
  rw [←hv] at k2 st1 st2
  rw [←hc] at st1 st2 hcl
  obtain ⟨s,hs⟩:∃s,s=u+v+c:=⟨_,rfl⟩
  rw [←hs] at st1 st2
  have w1:IntKind.u64.wrap ((u:Int)+v)=(u:Int)+v:=by rw [wrap_u];omega
  have w2:IntKind.u64.wrap ((u:Int)+v+c)=(s:Int):=by rw [wrap_u];omega
  obtain ⟨c',hc'⟩:∃c',c'=s/2:=⟨_,rfl⟩
  have s1:shiftOp .shr .u64 (s:Int) 1=some (c':Int):=by rw [shr_nat s 1 (by omega) (by decide),hc']
  obtain ⟨d,hd⟩:∃d,d=s%2:=⟨_,rfl⟩
  have s2:bitOp .and .u64 (s:Int) 1=some (d:Int):=by rw [Go.Num.and_one s (by omega),hd]
  rw [←hc'] at st2
  rw [←hd] at st1
  simp [f2,f3,f7,f8]
  refine qc_same k1 (by simp) (by simp) ?_
  simp [f2,f3,f7,f8]
  refine qc_same k2 (by simp) (by simp) ?_
  simp [-shiftOp, -bitOp,f2,f3,f6,f7,f8,w1,w2,s1,s2]
  refine cb_dec (fun h=> ?_) (fun h=> ?_)
  ·have hd1:d=1:=by omega
   have hsl:sumLo a b i<2^i:=Nat.mod_lt _ (Nat.two_pow_pos i)
   have hpw:2^i*2≤340282366920938463463374607431768211456:=by
    rw [←Nat.pow_succ,show (340282366920938463463374607431768211456:Nat)=2^128 by decide];exact Nat.pow_le_pow_right (by decide) (by omega)
   have k3:=rWith_ok (G:=G) (sumLo a b i) i (by omega) hlt' (bt_zero hsl)
   rw [hO] at k3
   have e1:sumLo a b i+2^i=sumLo a b (i+1):=by rw [st1,hd1,Nat.mul_one]
   rw [e1,wA_eq (n:=sumLo a b (i+1)) rfl rfl] at k3
   simp [f6,f8]
   refine ac_same k3 (by simp) ?_
   rintro r rfl
   simp [f6,f8,hwi]
   refine nx_intro (128-(i+1)) (by omega) ⟨i+1,c',_,_,rfl,by omega,st2.symm,wA_eq rfl rfl,by simp [f2],by simp [f3],by simp [f4],by simp [f6],by simp,by simp,by simp⟩
  ·have hd0:d=0:=by omega
   have e1:sumLo a b (i+1)=sumLo a b i:=by rw [st1,hd0,Nat.mul_zero,Nat.add_zero]
   simp [f6,f8,hwi]
   refine nx_intro (128-(i+1)) (by omega) ⟨i+1,c',oh,ol,rfl,by omega,st2.symm,by rw [e1];exact hO,by simp [f2],by simp [f3],by simp [f4],by simp [f6],by simp,by simp,by simp⟩
 ·have hi8:i=128:=by omega
  subst hi8
  have p1:(2:Nat)^128=340282366920938463463374607431768211456:=by decide
  have a1:a%2^128=a:=Nat.mod_eq_of_lt (by rw [p1];exact ha)
  have b1:b%2^128=b:=Nat.mod_eq_of_lt (by rw [p1];exact hb)
  have e1:sumLo a b 128=(a+b)%340282366920938463463374607431768211456:=by
   unfold sumLo
   rw [a1,b1,p1]
  have e2:sumC a b 128=(a+b)/340282366920938463463374607431768211456:=by
   unfold sumC
   rw [a1,b1,p1]
  rw [e1] at hO
  have e3:decide ((c:Int)=1)=decide (340282366920938463463374607431768211456≤a+b):=by
   rw [hc,e2];congr 1;apply propext;omega
  have e4:decide (c=1)=decide (340282366920938463463374607431768211456≤a+b):=by
   rw [hc,e2];congr 1;apply propext;omega
  rw [hO]
  simp [f4,f6,f7,e3,e4]
  try omega
end Go.Proofs.YtdbhocoeolhjhaaGreatDoor
end
section
set_option maxHeartbeats 2000000
namespace Go.Proofs.YtdbhocoeolhjhaaGreatDoor
open Go.Abs Go.Num
variable {G:Globs}
theorem rMul_ok (x y:Nat) (hx:x<18446744073709551616) (hy:y<18446744073709551616):PCalls Tryz.prog n_isobarref01_Mul [.int .u64 x,.int .u64 y] (fun r=>r=wA (x*y)):=by
 refine pcalls_of_awp hmix c_isobarref01_Mul rfl ?_
 simp [a_isobarref01_Mul]
 have p64:(2:Nat)^64=18446744073709551616:=by decide
 have bnd:∀i≤64,x*2^i<340282366920938463463374607431768211456:=fun i hi=>by
  have h1:(2:Nat)^i≤2^64:=Nat.pow_le_pow_right (by decide) hi
  have h2:x*2^i≤x*2^64:=Nat.mul_le_mul_left x h1
  rw [p64] at h2;omega
 have bnd2:∀i,x*(y%2^i)<340282366920938463463374607431768211456:=fun i=>by
  have h1:x*(y%2^i)≤x*18446744073709551615:=Nat.mul_le_mul_left x (by have:=Nat.mod_le y (2^i);omega)
  omega
 refine lp_startx (fun z f σ=>∃(i oh ol ph pl:Nat),z=64-i∧i≤64∧wA (x*(y%2^i))=.agg [.int .u64 oh,.int .u64 ol]∧wA (x*2^i)=.agg [.int .u64 ph,.int .u64 pl]∧f 1=.int .u64 y∧f 4=.ptr 0 0∧f 5=.ptr 1 0∧f 6=.ptr 2 0∧f 7=.int .i64 i∧
  σ= [.var 277 [.int .u64 0,.int .u64 0],.var 277 [.int .u64 oh,.int .u64 ol],.var 277 [.int .u64 ph,.int .u64 pl]]) 64 ?_ ?_
 ·refine ⟨0,0,0,0,x,rfl,by omega,by simp [Nat.mod_one,wA], ?_,by simp,by simp,by simp,by simp,by simp,by simp⟩
  rw [Nat.pow_zero,Nat.mul_one];exact wA_eq (by omega) (by omega)
 rintro z f σ ⟨i,oh,ol,ph,pl,hz,hi,hO,hP,f1,f4,f5,f6,f7,rfl⟩
 have hwi:IntKind.i64.wrap ((i:Int)+1)=((i+1:Nat):Int):=by rw [wrap_i (by omega) (by omega)];omega
 simp [f7]
 refine cb_dec (fun hlt=> ?_) (fun hge=> ?_)
 ·have hlt':i<64:=by omega
  have hw2:IntKind.u64.wrap (i:Int)=i:=by rw [wrap_u];omega
  obtain ⟨v,hv⟩:∃v,v=y/2^i:=⟨_,rfl⟩
  have hvM:v<18446744073709551616:=by rw [hv];exact Nat.lt_of_le_of_lt (Nat.div_le_self _ _) hy
  have s1:shiftOp .shr .u64 (y:Int) i=some (v:Int):=by rw [shr_nat y i hy (by omega),hv]
  obtain ⟨d,hd⟩:∃d,d=v%2:=⟨_,rfl⟩
  have s2:bitOp .and .u64 (v:Int) 1=some (d:Int):=by rw [Go.Num.and_one v hvM,hd]
  have hbt:bt y i=d:=by rw [hd,hv];rfl
  have hst:=mul_step x y i
  rw [hbt] at hst
  have k2:=rDouble_ok (G:=G) (x*2^i) (bnd i (by omega))
  have e2:2*(x*2^i)%340282366920938463463374607431768211456=x*2^(i+1):=by
   have e:2*(x*2^i)=x*2^(i+1):=by rw [Nat.pow_succ,Nat.mul_left_comm,Nat.mul_comm 2]
   rw [e];exact Nat.mod_eq_of_lt (bnd (i+1) (by omega))
  rw [e2,hP,wA_eq (n:=x*2^(i+1)) rfl rfl] at k2
  simp [-shiftOp, -bitOp,f1,f7,hw2,s1,s2]
  refine cb_dec (fun h=> ?_) (fun h=> ?_)
  ·have hd1:d=1:=by omega
   rw [if_pos hd1] at hst
   have k1:=rAdd_ok (G:=G) (x*(y%2^i)) (x*2^i) (bnd2 i) (bnd i (by omega))
   rw [←hst,Nat.mod_eq_of_lt (bnd2 (i+1)),hO,hP,wA_eq (n:=x*(y%2^(i+1))) rfl rfl] at k1
   simp [f5,f6]
   refine ac_same k1 (by simp) ?_
   rintro r rfl
   simp [f5,f6]
   refine ac_same k2 (by simp) ?_
   rintro r rfl
   simp [f5,f6,f7,hwi]
   refine nx_intro (64-(i+1)) (by omega) ⟨i+1,_,_,_,_,rfl,by omega,wA_eq rfl rfl,wA_eq rfl rfl,by simp [f1],by simp [f4],by simp [f5],by simp [f6],by simp,by simp⟩
  ·have hd1:¬d=1:=by omega
   rw [if_neg hd1,Nat.add_zero] at hst
   simp [f5,f6]
   refine ac_same k2 (by simp) ?_
   rintro r rfl
   simp [f5,f6,f7,hwi]
   refine nx_intro (64-(i+1)) (by omega) ⟨i+1,oh,ol,_,_,rfl,by omega,by rw [hst];exact hO,wA_eq rfl rfl,by simp [f1],by simp [f4],by simp [f5],by simp [f6],by simp,by simp⟩
 ·have hi64:i=64:=by omega
  subst hi64
  rw [p64,Nat.mod_eq_of_lt hy] at hO
  rw [hO]
  simp [f4,f5]
theorem rDiv_ok (a d:Nat) (ha:a<340282366920938463463374607431768211456) (hd:d<18446744073709551616):
  PCalls Tryz.prog n_isobarref01_Div [wA a,.int .u64 d] (fun r=>r=if d=0 then .tup [wA 0,.int .u64 0,.int .i64 1] else .tup [wA (a/d),.int .u64 ((a%d:Nat):Int),.int .i64 0]):=by
 refine pcalls_of_awp hmix c_isobarref01_Div rfl ?_
 by_cases h0:d=0
 ·subst h0
  simp [a_isobarref01_Div,wA]
 rw [if_neg h0]
 have h0':¬(d:Int)=0:=by omega
 obtain ⟨ah,hah⟩:∃h,h=a/18446744073709551616:=⟨_,rfl⟩
 obtain ⟨al,hal⟩:∃l,l=a%18446744073709551616:=⟨_,rfl⟩
 have hA:=wA_eq hah hal
 rw [hA]
 obtain ⟨md,hmd⟩:∃m,m=a%d:=⟨_,rfl⟩
 rw [←hmd]
 simp [a_isobarref01_Div,h0,h0']
 have p128:(2:Nat)^128=340282366920938463463374607431768211456:=by decide
 have p63:(2:Nat)^63=9223372036854775808:=by decide
 refine lp_startx (fun z f σ=>∃(k r qh ql:Nat),z=k∧k≤128∧wA (a/2^k/d*2^k)=.agg [.int .u64 qh,.int .u64 ql]∧r=a/2^k%d∧f 1=.int .u64 d∧f 2=.ptr 0 0∧f 4=.ptr 1 0∧f 7=.ptr 2 0∧f 8=.int .u64 r∧f 9=.int .i64 ((k:Int)-1)∧
  σ= [.var 277 [.int .u64 ah,.int .u64 al],.var 277 [.int .u64 0,.int .u64 0],.var 277 [.int .u64 qh,.int .u64 ql]]) 128 ?_ ?_
 ·have e:a/2^128=0:=Nat.div_eq_of_lt (by rw [p128];exact ha)
  refine ⟨128,0,0,0,rfl,by omega,by rw [e,Nat.zero_div,Nat.zero_mul];rfl,by rw [e,Nat.zero_mod],by simp,by simp,by simp,by simp,by simp,by simp,by simp⟩
 rintro z f σ ⟨k,r,qh,ql,hz,hk,hO,hr,f1,f2,f4,f7,f8,f9,rfl⟩
 simp [f9]
 refine cb_dec (fun hlt=> ?_) (fun hge=> ?_)
 ·obtain ⟨i,rfl⟩:∃i,k=i+1:=⟨k-1,by omega⟩
  have hki:(((i+1:Nat):Int)-1)=i:=by omega
  rw [hki] at f9
  have hi128:i<128:=by omega
  have hwi:IntKind.i64.wrap ((i:Int)-1)=(i:Int)-1:=wrap_i (by omega) (by omega)
  have k1:=rBit_ok (G:=G) a i ha hi128
  rw [hA] at k1
  have hst:=div_step a i
  obtain ⟨b,hb⟩:∃b,b=bt a i:=⟨_,rfl⟩
  have hb2:b<2:=by rw [hb];exact bt_lt a i
  rw [←hb] at k1 hst
  have hrd:r<d:=by rw [hr];exact Nat.mod_lt _ (by omega)
  obtain ⟨n,hn⟩:∃n,n=a/2^(i+1):=⟨_,rfl⟩
  rw [←hn] at hst hr hO
  have hnd:=Nat.div_add_mod n d
  rw [←hr] at hnd
  obtain ⟨q,hq⟩:∃q,q=n/d:=⟨_,rfl⟩
  rw [←hq] at hnd hO
  obtain ⟨nx1,nx2⟩:=div_next (n:=n) (d:=d) (q:=q) (r:=r) (b:=b) (by rw [Nat.mul_comm];exact hnd.symm) hrd hb2
  obtain ⟨t,ht⟩:∃t,t=r/9223372036854775808:=⟨_,rfl⟩
  have s19:shiftOp .shr .u64 (r:Int) 63=some (t:Int):=by rw [shr_nat r 63 (by omega) (by decide),ht,p63]
  obtain ⟨r2,hr2⟩:∃r2,r2=r*2%18446744073709551616:=⟨_,rfl⟩
  have s21:shiftOp .shl .u64 (r:Int) 1=some (r2:Int):=by rw [shl_nat r 1 (by decide),hr2]
  obtain ⟨r3,hr3⟩:∃r3,r3=r2+b:=⟨_,rfl⟩
  have s25:bitOp .or .u64 (r2:Int) (b:Int)=some (r3:Int):=by
   rw [or_nat r2 b (by omega) (by omega),hr3]
   have:=Nat.two_pow_add_eq_or_of_lt (show b<2^1 by omega) (r2/2)
   have e2:2^1*(r2/2)=r2:=by omega
   rw [e2] at this
   rw [this]
  simp [-shiftOp, -bitOp,f8,f2,f9,s19,s21]
  refine ac_same k1 (by simp) ?_
  rintro rr rfl
  simp [-shiftOp, -bitOp,f1,f7,s25]
  by_cases hge2:d≤2*r+b
  ·obtain ⟨nx3,nx4⟩:=nx2 hge2
   have hcond:t=1∨d≤r3:=by omega
   have hsub:IntKind.u64.wrap ((r3:Int)-d)=((2*r+b-d:Nat):Int):=by rw [wrap_u];omega
   obtain ⟨r4,hr4⟩:∃r4,r4=2*r+b-d:=⟨_,rfl⟩
   rw [←hr4] at hsub nx3 nx4
   have h2q:2*n+b=(2*q+1)*d+r4:=nx3
   have hn2:a/2^i=2*n+b:=hst
   have hdq:a/2^i/d=2*q+1:=by
    rw [hn2,h2q,Nat.mul_comm,Nat.mul_add_div (by omega),Nat.div_eq_of_lt nx4,Nat.add_zero]
   have hdr:a/2^i%d=r4:=by
    rw [hn2,h2q,Nat.mul_comm,Nat.mul_add_mod,Nat.mod_eq_of_lt nx4]
   have hqe:q*2^(i+1)+2^i=(2*q+1)*2^i:=by rw [Nat.add_mul,Nat.one_mul,Nat.pow_succ,Nat.mul_comm (2^i) 2,←Nat.mul_assoc,Nat.mul_comm q 2]
   have hqb:(2*q+1)*2^i<340282366920938463463374607431768211456:=by
    rw [←hdq]
    have h1:a/2^i/d≤a/2^i:=Nat.div_le_self _ _
    have h2:a/2^i/d*2^i≤a/2^i*2^i:=Nat.mul_le_mul_right _ h1
    have h3:=Nat.div_mul_le_self a (2^i)
    omega
   have k3:=rWith_ok (G:=G) (q*2^(i+1)) i (Nat.lt_of_le_of_lt (Nat.le_add_right _ (2^i)) (by rw [hqe];exact hqb)) hi128 (bt_mul q i (i+1) (by omega))
   rw [hqe,hO,wA_eq (n:=(2*q+1)*2^i) rfl rfl] at k3
   have fin:∀f':Abs.Frame,True:=fun _=>trivial
   by_cases ht1:t=1
   ·have ht1':(t:Int)=1:=by omega
    simp [ht1,ht1',hsub,f1,f7,f9]
    refine ac_same k3 (by simp) ?_
    rintro rr rfl
    simp [f7,f9,hwi]
    refine nx_intro i (by omega) ⟨i,r4,_,_,rfl,by omega,by rw [hdq];exact wA_eq rfl rfl,hdr.symm,by simp [f1],by simp [f2],by simp [f4],by simp [f7],by simp,by simp,by simp⟩
   ·have ht1':¬(t:Int)=1:=by omega
    have hdr3:d≤r3:=by omega
    have hdr3':(d:Int)≤r3:=by omega
    simp [ht1,ht1',hdr3,hdr3',hsub,f1,f7,f9]
    refine ac_same k3 (by simp) ?_
    rintro rr rfl
    simp [f7,f9,hwi]
    refine nx_intro i (by omega) ⟨i,r4,_,_,rfl,by omega,by rw [hdq];exact wA_eq rfl rfl,hdr.symm,by simp [f1],by simp [f2],by simp [f4],by simp [f7],by simp,by simp,by simp⟩
  ·have nx3:=nx1 (by omega)
   have ht1:¬t=1:=by omega
   have ht1':¬(t:Int)=1:=by omega
   have hdr3:¬d≤r3:=by omega
   have hdr3':¬(d:Int)≤r3:=by omega
   have hr3e:r3=2*r+b:=by omega
   have hn2:a/2^i=2*n+b:=hst
   have hdq:a/2^i/d=2*q:=by
    rw [hn2,nx3,Nat.mul_comm,Nat.mul_add_div (by omega),Nat.div_eq_of_lt (by omega),Nat.add_zero]
   have hdr:a/2^i%d=r3:=by
    rw [hn2,nx3,Nat.mul_comm,Nat.mul_add_mod,Nat.mod_eq_of_lt (by omega),hr3e]
   have hqe:2*q*2^i=q*2^(i+1):=by rw [Nat.pow_succ,Nat.mul_comm (2^i) 2,←Nat.mul_assoc,Nat.mul_comm q 2]
   simp [ht1,ht1',hdr3,hdr3',f1,f7,f9,hwi]
   refine nx_intro i (by omega) ⟨i,r3,qh,ql,rfl,by omega,by rw [hdq,hqe];exact hO,hdr.symm,by simp [f1],by simp [f2],by simp [f4],by simp [f7],by simp,by simp,by simp⟩
 ·have hk0:k=0:=by omega
  subst hk0
  rw [Nat.pow_zero,Nat.div_one,Nat.mul_one] at hO
  rw [Nat.pow_zero,Nat.div_one] at hr
  rw [←hmd] at hr
  rw [hO]
  simp [f4,f7,f8,hr]
theorem rRound_ok (a d:Nat) (ha:a<340282366920938463463374607431768211456) (hd:d<18446744073709551616):
  PCalls Tryz.prog n_isobarref01_Round [wA a,.int .u64 d] (fun r=>r=if d=0 then .tup [.int .u64 0,.int .i64 1] else if rnd a d<18446744073709551616 then .tup [.int .u64 ((rnd a d:Nat):Int),.int .i64 0] else .tup [.int .u64 0,.int .i64 3]):=by
 refine pcalls_of_awp hmix c_isobarref01_Round rfl ?_
 obtain ⟨ah,hah⟩:∃h,h=a/18446744073709551616:=⟨_,rfl⟩
 obtain ⟨al,hal⟩:∃l,l=a%18446744073709551616:=⟨_,rfl⟩
 have hA:=wA_eq hah hal
 have kd:=rDiv_ok (G:=G) a d ha hd
 rw [hA] at kd⊢
 by_cases h0:d=0
 ·subst h0
  simp [a_isobarref01_Round]
  refine ac_same kd (by simp) ?_
  rintro r rfl
  simp [wA]
 rw [if_neg h0]
 simp [a_isobarref01_Round]
 refine ac_same kd (by simp) ?_
 rw [if_neg h0]
 obtain ⟨q,hq⟩:∃x,x=a/d:=⟨_,rfl⟩
 obtain ⟨m,hm⟩:∃x,x=a%d:=⟨_,rfl⟩
 have hmd:m<d:=by rw [hm];exact Nat.mod_lt _ (by omega)
 rw [←hq,←hm]
 rintro r rfl
 have hrnd:rnd a d=q+(if d-m≤m then 1 else 0):=by rw [rnd,←hq,←hm]
 rw [hrnd]
 have hsub:IntKind.u64.wrap ((d:Int)-m)=((d-m:Nat):Int):=by rw [wrap_u];omega
 obtain ⟨dm,hdm⟩:∃x,x=d-m:=⟨_,rfl⟩
 rw [←hdm] at hsub
 have hqa:q<340282366920938463463374607431768211456:=by rw [hq];exact Nat.lt_of_le_of_lt (Nat.div_le_self _ _) ha
 obtain ⟨qh,hqh⟩:∃x,x=q/18446744073709551616:=⟨_,rfl⟩
 obtain ⟨ql,hql⟩:∃x,x=q%18446744073709551616:=⟨_,rfl⟩
 rw [wA_eq hqh hql]
 simp [hsub]
 refine cb_dec (fun h=> ?_) (fun h=> ?_)
 ·have h':d-m≤m:=by omega
  have hq2:q+1<340282366920938463463374607431768211456:=by
   have hd2:2≤d:=by omega
   have:a/d≤a/2:=Nat.div_le_div_left hd2 (by decide)
   omega
  simp
  have hA:=rAdd_ok (G:=G) q 1 hqa (by decide)
  rw [wA_eq hqh hql,show wA 1=.agg [.int .u64 0,.int .u64 1] from rfl] at hA
  refine ac_same hA (by simp) ?_
  rintro r rfl
  rw [Nat.mod_eq_of_lt hq2,if_pos h']
  obtain ⟨ph,hph⟩:∃x,x=(q+1)/18446744073709551616:=⟨_,rfl⟩
  obtain ⟨pl,hpl⟩:∃x,x=(q+1)%18446744073709551616:=⟨_,rfl⟩
  rw [wA_eq hph hpl]
  by_cases hp0:ph=0
  ·have:q+1<18446744073709551616:=by omega
   have e:pl=q+1:=by omega
   rw [if_pos this];simp [hp0,e]
  ·have:¬q+1<18446744073709551616:=by omega
   have hp0':¬(ph:Int)=0:=by omega
   rw [if_neg this];simp [hp0,hp0']
 ·have h':¬d-m≤m:=by omega
  rw [if_neg h',Nat.add_zero]
  by_cases hp0:qh=0
  ·have:q<18446744073709551616:=by omega
   have e:ql=q:=by omega
   rw [if_pos this];simp [hp0,e]
  ·have:¬q<18446744073709551616:=by omega
   have hp0':¬(qh:Int)=0:=by omega
   rw [if_neg this];simp [hp0,hp0']
end Go.Proofs.YtdbhocoeolhjhaaGreatDoor
end
section
set_option maxHeartbeats 2000000
namespace Go.Num
open Go.Abs
theorem numA_eq (n:N):numA n=.agg [.bool n.1,.int .i64 n.2]:=rfl
end Go.Num
namespace Go.Proofs.YtdbhocoeolhjhaaGreatDoor
open Go.Abs Go.Num
variable {G:Globs}
theorem rnRight_ok (n:N) (h:okN n):PCalls Tryz.prog n_isobarref02_Right [numA n] (fun r=>r=.bool (rightN n)):=by
 refine pcalls_of_awp hmix c_isobarref02_Right rfl ?_
 obtain ⟨b,v⟩:=n
 obtain ⟨h1,h2⟩:=h
 simp only at h1 h2
 cases b
 ·have e:(!decide (v= -9223372036854775808))=decide (-most≤v):=by
   unfold most
   by_cases h:v= -9223372036854775808
   ·have:¬(-9223372036854775807≤v):=by omega
    simp [h]
   ·have: -9223372036854775807≤v:=by omega
    simp [h,this]
  simp [a_isobarref02_Right,numA,rightN]
  rw [←e];simp
 ·simp [a_isobarref02_Right,numA,rightN]
theorem right_good (n:N):(rightN n&& !n.1)=good n:=by
 obtain ⟨b,v⟩:=n
 cases b<;>simp [rightN,good]
theorem rIs_ok (n:N) (h:okN n):PCalls Tryz.prog n_isobarref02_is [numA n] (fun r=>r=.bool (good n)):=by
 refine pcalls_of_awp hmix c_isobarref02_is rfl ?_
 have k:=rnRight_ok (G:=G) n h
 have hg:=right_good n
 rw [numA_eq] at k⊢
 simp [a_isobarref02_is]
 refine ac_same k (by simp) ?_
 rintro r rfl
 cases hr:rightN n
 ·rw [hr] at hg;simp at hg;simp [hg]
 ·rw [hr] at hg;simp at hg;simp [←hg]
theorem rNothing_ok:PCalls Tryz.prog n_isobarref02_Nothing [] (fun r=>r=numA nothing):=by
 refine pcalls_of_awp hmix c_isobarref02_Nothing rfl ?_
 simp [a_isobarref02_Nothing,numA,nothing]
theorem rOf_ok (v:Int) (h0: -9223372036854775808≤v) (h1:v≤9223372036854775807):PCalls Tryz.prog n_isobarref02_Of [.int .i64 v] (fun r=>r=numA (tell v)):=by
 refine pcalls_of_awp hmix c_isobarref02_Of rfl ?_
 have k:=rnRight_ok (G:=G) (false,v) ⟨h0,h1⟩
 rw [numA_eq] at k
 simp [a_isobarref02_Of]
 refine ac_same k (by simp) ?_
 rintro r rfl
 by_cases hv: -9223372036854775807≤v
 ·have e:tell v=(false,v):=by unfold tell most;rw [if_pos];omega
  simp [rightN,most,hv,e,numA]
 ·have e:tell v=nothing:=by unfold tell most;rw [if_neg];omega
  simp [rightN,most,hv,e]
  refine ac_same rNothing_ok (by simp) ?_
  rintro r rfl
  simp [numA,e]
theorem rSize_ok (v:Int) (h0: -9223372036854775808≤v) (h1:v≤9223372036854775807):PCalls Tryz.prog n_isobarref02_size [.int .i64 v] (fun r=>r=.int .u64 v.natAbs):=by
 refine pcalls_of_awp hmix c_isobarref02_size rfl ?_
 simp [a_isobarref02_size]
 refine cb_dec (fun hlt=> ?_) (fun hge=> ?_)
 ·have w1:IntKind.i64.wrap (v+1)=v+1:=wrap_i (by omega) (by omega)
  have w2:IntKind.i64.wrap (-(v+1))= -(v+1):=wrap_i (by omega) (by omega)
  have w2':IntKind.i64.wrap (-1+ -v)= -(v+1):=by rw [wrap_i (by omega) (by omega)];omega
  have w3:IntKind.u64.wrap (-(v+1))= -(v+1):=by rw [wrap_u];omega
  have w4:IntKind.u64.wrap (-(v+1)+1)= -v:=by rw [wrap_u];omega
  simp [w1,w2,w2',w3,w4]
  omega
 ·have w:IntKind.u64.wrap v=v:=by rw [wrap_u];omega
  simp [w]
  omega
theorem rSigned_ok (n:Nat) (hn:n<18446744073709551616) (b:Bool):PCalls Tryz.prog n_isobarref02_signed [.int .u64 n,.bool b] (fun r=>r=numA (tell (sgn b n))):=by
 refine pcalls_of_awp hmix c_isobarref02_signed rfl ?_
 simp [a_isobarref02_signed]
 refine cb_dec (fun hlt=> ?_) (fun hge=> ?_)
 ·simp
  refine ac_same rNothing_ok (by simp) ?_
  rintro r rfl
  have:tell (sgn b n)=nothing:=by
   unfold tell sgn most
   cases b<;>simp<;>omega
  simp [this,numA]
 ·have hw:IntKind.i64.wrap (n:Int)=n:=wrap_i (by omega) (by omega)
  have hw2:IntKind.i64.wrap (-(n:Int))= -n:=wrap_i (by omega) (by omega)
  cases b
  ·have:tell (sgn false n)=(false,(n:Int)):=by
    unfold tell sgn most;simp;omega
   simp [hw,this,numA]
  ·have:tell (sgn true n)=(false, -(n:Int)):=by
    unfold tell sgn most;simp;omega
   simp [hw,hw2,this,numA]
theorem rInt_ok (n:Int) (h0: -9223372036854775808≤n) (h1:n≤9223372036854775807):PCalls Tryz.prog n_isobarref02_Int [.int .i64 n] (fun r=>r=numA (tell (n*1000000))):=by
 refine pcalls_of_awp hmix c_isobarref02_Int rfl ?_
 simp [a_isobarref02_Int]
 refine ac_same (rSize_ok n h0 h1) (by simp) ?_
 rintro r rfl
 obtain ⟨s,hs⟩:∃s,s=n.natAbs:=⟨_,rfl⟩
 obtain ⟨h,hh⟩:∃x,x=s*1000000/18446744073709551616:=⟨_,rfl⟩
 obtain ⟨l,hl⟩:∃x,x=s*1000000%18446744073709551616:=⟨_,rfl⟩
 have k:=rMul_ok (G:=G) s 1000000 (by omega) (by decide)
 rw [wA_eq hh hl] at k
 rw [←hs]
 simp
 refine ac_same k (by simp) ?_
 rintro r rfl
 by_cases hz:h=0
 ·have hsg:sgn (decide (n<0)) l=n*1000000:=by
   unfold sgn;by_cases hn:n<0<;>simp [hn]<;>omega
  simp [hz]
  refine ac_same (rSigned_ok l (by omega) (decide (n<0))) (by simp) ?_
  rintro r rfl
  rw [hsg]
  simp [numA]
 ·have hz':¬(h:Int)=0:=by omega
  have:tell (n*1000000)=nothing:=by unfold tell most;rw [if_neg];omega
  simp [hz,hz',this]
  refine ac_same rNothing_ok (by simp) ?_
  rintro r rfl
  simp [this,numA]
theorem rnAdd_ok (a b:N) (ha:okN a) (hb:okN b):PCalls Tryz.prog n_isobarref02_Add [numA a,numA b] (fun r=>r=numA (addN a b)):=by
 refine pcalls_of_awp hmix c_isobarref02_Add rfl ?_
 have ka:=rIs_ok (G:=G) a ha
 have kb:=rIs_ok (G:=G) b hb
 obtain ⟨a1,a2⟩:=ha
 obtain ⟨b1,b2⟩:=hb
 rw [numA_eq] at ka kb
 rw [numA_eq a,numA_eq b]
 simp [a_isobarref02_Add]
 refine ac_same ka (by simp) ?_
 rintro r rfl
 cases hga:good a with
 |false=>
  simp
  refine ac_same rNothing_ok (by simp) ?_
  rintro r rfl
  simp [addN,hga,numA]
 |true=>
  simp
  refine ac_same kb (by simp) ?_
  rintro r rfl
  cases hgb:good b with
  |false=>
   simp
   refine ac_same rNothing_ok (by simp) ?_
   rintro r rfl
   simp [addN,hga,hgb,numA]
  |true=>
   have va:=(good_iff.1 hga).2
   have vb:=(good_iff.1 hgb).2
   simp only [most] at va vb
   have e:addN a b=tell (a.2+b.2):=by simp [addN,hga,hgb]
   rw [e]
   by_cases hs:(decide (a.2<0))=(decide (b.2<0))
   ·have hs':(decide (a.2<0)==decide (b.2<0))=true:=by simp [hs]
    have hsi:(a.2<0↔b.2<0):=by simpa using hs
    have hw:IntKind.u64.wrap ((a.2.natAbs:Int)+b.2.natAbs)=((a.2.natAbs+b.2.natAbs:Nat):Int):=by rw [wrap_u];omega
    obtain ⟨sa,hsa⟩:∃s,s=a.2.natAbs:=⟨_,rfl⟩
    obtain ⟨sb,hsb⟩:∃s,s=b.2.natAbs:=⟨_,rfl⟩
    obtain ⟨sc,hsc⟩:∃s,s=sa+sb:=⟨_,rfl⟩
    rw [←hsa,←hsb,←hsc] at hw
    have ksa:=rSize_ok (G:=G) a.2 a1 a2
    have ksb:=rSize_ok (G:=G) b.2 b1 b2
    rw [←hsa] at ksa
    rw [←hsb] at ksb
    have hsg:sgn (decide (a.2<0)) sc=a.2+b.2:=by
     unfold sgn;by_cases hn:a.2<0<;>simp [hn]<;>omega
    simp [hs']
    refine qc_same ksa (by simp) (by simp) ?_
    simp
    refine qc_same ksb (by simp) (by simp) ?_
    simp [hw]
    refine qc_same (rSigned_ok sc (by omega) (decide (a.2<0))) (by simp) (by simp [numA]) ?_
    rw [hsg]
    simp [numA]
   ·have hs':(decide (a.2<0)==decide (b.2<0))=false:=by simpa using hs
    have hsi:¬(a.2<0↔b.2<0):=by simpa using hs
    have hw:IntKind.i64.wrap (a.2+b.2)=a.2+b.2:=wrap_i (by omega) (by omega)
    have ht:tell (a.2+b.2)=(false,a.2+b.2):=by unfold tell most;rw [if_pos];omega
    rw [ht]
    simp [hs',hw,numA]
theorem rnDiv_ok (a b:N) (ha:okN a) (hb:okN b):PCalls Tryz.prog n_isobarref02_Div [numA a,numA b] (fun r=>r=numA (divN a b)):=by
 refine pcalls_of_awp hmix c_isobarref02_Div rfl ?_
 have ka:=rIs_ok (G:=G) a ha
 have kb:=rIs_ok (G:=G) b hb
 obtain ⟨a1,a2⟩:=ha
 obtain ⟨b1,b2⟩:=hb
 rw [numA_eq] at ka kb
 rw [numA_eq a,numA_eq b]
 simp [a_isobarref02_Div]
 refine ac_same ka (by simp) ?_
 rintro r rfl
 cases hga:good a with
 |false=>
  simp
  refine ac_same rNothing_ok (by simp) ?_
  rintro r rfl
  simp [divN,hga,numA]
 |true=>
  simp
  refine ac_same kb (by simp) ?_
  rintro r rfl
  cases hgb:good b with
  |false=>
   simp
   refine ac_same rNothing_ok (by simp) ?_
   rintro r rfl
   simp [divN,hga,hgb,numA]
  |true=>
   have va:=(good_iff.1 hga).2
   have vb:=(good_iff.1 hgb).2
   simp only [most] at va vb
   by_cases hb0:b.2=0
   ·simp [hb0]
    refine ac_same rNothing_ok (by simp) ?_
    rintro r rfl
    simp [divN,hga,hgb,hb0,numA]
   ·obtain ⟨sa,hsa⟩:∃s,s=a.2.natAbs:=⟨_,rfl⟩
    obtain ⟨sb,hsb⟩:∃s,s=b.2.natAbs:=⟨_,rfl⟩
    have e:divN a b=tell (sgn (decide (a.2<0) !=decide (b.2<0)) (rnd (sa*1000000) sb)):=by simp [divN,hga,hgb,hb0,hsa,hsb]
    rw [e]
    have ksa:=rSize_ok (G:=G) a.2 a1 a2
    have ksb:=rSize_ok (G:=G) b.2 b1 b2
    rw [←hsa] at ksa
    rw [←hsb] at ksb
    have km:=rMul_ok (G:=G) sa 1000000 (by omega) (by decide)
    have hxy:sa*1000000<340282366920938463463374607431768211456:=by omega
    have kr:=rRound_ok (G:=G) (sa*1000000) sb hxy (by omega)
    have hsb0:¬sb=0:=by omega
    rw [if_neg hsb0] at kr
    obtain ⟨h,hh⟩:∃x,x=sa*1000000/18446744073709551616:=⟨_,rfl⟩
    obtain ⟨l,hl⟩:∃x,x=sa*1000000%18446744073709551616:=⟨_,rfl⟩
    rw [wA_eq hh hl] at km kr
    obtain ⟨q,hq⟩:∃q,q=rnd (sa*1000000) sb:=⟨_,rfl⟩
    rw [←hq] at kr⊢
    simp [hb0]
    refine qc_same ksa (by simp) (by simp) ?_
    simp
    refine qc_same km (by simp) (by simp) ?_
    simp
    refine qc_same ksb (by simp) (by simp) ?_
    simp
    by_cases hqM:q<18446744073709551616
    ·rw [if_pos hqM] at kr
     refine qc_same kr (by simp) (by simp) ?_
     simp
     refine ac_same (rSigned_ok q hqM (decide (a.2<0) !=decide (b.2<0))) (by simp) ?_
     rintro r rfl
     simp [numA]
    ·rw [if_neg hqM] at kr
     have:tell (sgn (decide (a.2<0) !=decide (b.2<0)) q)=nothing:=by
      unfold tell sgn most
      cases (decide (a.2<0) !=decide (b.2<0))<;>simp<;>omega
     rw [this]
     refine qc_same kr (by simp) (by simp) ?_
     simp
     refine ac_same rNothing_ok (by simp) ?_
     rintro r rfl
     simp [numA]
theorem rnLess_ok (a b:N) (ha:okN a) (hb:okN b):PCalls Tryz.prog n_isobarref02_Less [numA a,numA b] (fun r=>r=numA (lessN a b)):=by
 refine pcalls_of_awp hmix c_isobarref02_Less rfl ?_
 have ka:=rIs_ok (G:=G) a ha
 have kb:=rIs_ok (G:=G) b hb
 rw [numA_eq] at ka kb
 rw [numA_eq a,numA_eq b]
 simp [a_isobarref02_Less]
 refine ac_same ka (by simp) ?_
 rintro r rfl
 cases hga:good a with
 |false=>
  simp
  refine ac_same kb (by simp) ?_
  rintro r rfl
  cases hgb:good b with
  |false=>
   simp
   refine ac_same rNothing_ok (by simp) ?_
   rintro r rfl
   simp [lessN,hga,hgb,numA]
  |true=>
   simp
   refine ac_same ka (by simp) ?_
   rintro r rfl
   simp [hga,lessN,hgb,numA]
 |true=>
  simp
  refine ac_same ka (by simp) ?_
  rintro r rfl
  simp [hga]
  refine ac_same kb (by simp) ?_
  rintro r rfl
  cases hgb:good b with
  |false=>simp [lessN,hga,hgb,numA]
  |true=>
   by_cases hle:a.2≤b.2
   ·simp [lessN,hga,hgb,hle,numA]
   ·simp [lessN,hga,hgb,hle,numA]
theorem rnMore_ok (a b:N) (ha:okN a) (hb:okN b):PCalls Tryz.prog n_isobarref02_More [numA a,numA b] (fun r=>r=numA (moreN a b)):=by
 refine pcalls_of_awp hmix c_isobarref02_More rfl ?_
 have ka:=rIs_ok (G:=G) a ha
 have kb:=rIs_ok (G:=G) b hb
 rw [numA_eq] at ka kb
 rw [numA_eq a,numA_eq b]
 simp [a_isobarref02_More]
 refine ac_same ka (by simp) ?_
 rintro r rfl
 cases hga:good a with
 |false=>
  simp
  refine ac_same kb (by simp) ?_
  rintro r rfl
  cases hgb:good b with
  |false=>
   simp
   refine ac_same rNothing_ok (by simp) ?_
   rintro r rfl
   simp [moreN,hga,hgb,numA]
  |true=>
   simp
   refine ac_same ka (by simp) ?_
   rintro r rfl
   simp [hga,moreN,hgb,numA]
 |true=>
  simp
  refine ac_same ka (by simp) ?_
  rintro r rfl
  simp [hga]
  refine ac_same kb (by simp) ?_
  rintro r rfl
  cases hgb:good b with
  |false=>simp [moreN,hga,hgb,numA]
  |true=>
   by_cases hle:b.2≤a.2
   ·simp [moreN,hga,hgb,hle,numA]
   ·simp [moreN,hga,hgb,hle,numA]
end Go.Proofs.YtdbhocoeolhjhaaGreatDoor
end
section
set_option maxHeartbeats 4000000
namespace Go.Sf
open Go.Abs Go.Num
def slotC (s:Slot):List AV:= [.int .i64 s.1,.int .i64 s.2]
def slotsC (l:List Slot):List (List AV):=l.map slotC
def ringC (step:Nat) (l:List Slot):List AV:= [.int .i64 step,.lst (slotsC l)]
def ringsC (l:LadM):List (List AV):= [ringC 10 l.fine,ringC 60 l.wide]
def ladC (l:LadM):List AV:= [.int .i64 1,.int .i64 500000,.lst (ringsC l)]
def rungsC:List (List AV):= [[.int .i64 10,.int .i64 6],[.int .i64 60,.int .i64 5]]
theorem slotsC_len (l:List Slot):(slotsC l).length=l.length:=by simp [slotsC]
theorem slotsC_els (l:List Slot):Els 2 (slotsC l):=by
 refine ⟨fun c hc=> ?_,fun c hc=> ?_,fun c hc=> ?_⟩<;>obtain ⟨n,_,rfl⟩:=List.mem_map.1 hc<;>simp [slotC,AV.pure,AV.one]
theorem slotsC_get {l:List Slot} {i:Nat} {s:Slot} (h:l[i]? =some s):(slotsC l)[i]? =some (slotC s):=by simp [slotsC,h]
theorem slotsC_fz (σ:Store) (m k:Nat) (l:List Slot):((slotsC l).mapM fun (c:List AV)=>c.mapM (fz σ m k))=some (slotsC l):=fz_pure (slotsC_els l).2.1 (fun c hc=>by obtain ⟨n,_,rfl⟩:=List.mem_map.1 hc;simp [slotC])
theorem slotsC_set (l:List Slot) (i:Nat) (s:Slot):(slotsC l).set i (slotC s)=slotsC (l.set i s):=by simp [slotsC,List.map_set]
theorem slotsC_snoc (l:List Slot) (s:Slot):slotsC (l++ [s])=slotsC l++ [slotC s]:=by simp [slotsC]
structure Sized (step:Nat) (l:List Slot):Prop where
 s1:1≤step
 s2:step≤86400
 n1:1≤l.length
 n2:l.length≤400
end Go.Sf
namespace Go.Proofs.YtdbhocoeolhjhaaGreatDoor
open Go.Abs Go.RowKit Go.Sf Go.Num
variable {G:Globs}
theorem wk0:IntKind.i64.wrap 0=0:=by decide
theorem wk1:IntKind.i64.wrap 1=1:=by decide
theorem wk2:IntKind.i64.wrap 2=2:=by decide
theorem wk6:IntKind.i64.wrap 6=6:=by decide
theorem rTimed_ok (t:Nat) (h:t≤1099511627776):PCalls Tryz.prog n_isobarref13_Timed [.int .i64 t] (fun r=>r=.bool true):=by
 refine pcalls_of_awp hmix c_isobarref13_Timed rfl ?_
 have h1:(0:Int)≤t:=by omega
 have h2:(t:Int)≤1099511627776:=by omega
 simp [a_isobarref13_Timed,h1,h2,h]
theorem r13Right_ok (step:Nat) (l:List Slot) (hz:Sized step l) (h:RightR step l):PCalls Tryz.prog n_isobarref13_Right [.agg (ringC step l)] (fun r=>r=.bool true):=by
 refine pcalls_of_awp hmix c_isobarref13_Right rfl ?_
 obtain ⟨s1,s2,n1,n2⟩:=hz
 have k1:¬((step:Int)<1):=by omega
 have k2:¬((86400:Int)<step):=by omega
 have k3:¬((l.length:Int)<1):=by omega
 have k4:¬((400:Int)<l.length):=by omega
 have k2':¬(86400<step):=by omega
 have k4':¬(400<l.length):=by omega
 have k1':step≠0:=by omega
 have k3':l.length≠0:=by omega
 have k3'':l≠ []:=fun e=>by rw [e] at n1;simp at n1
 have hle:=slotsC_len l
 simp [a_isobarref13_Right,ringC,k1,k2,k3,k4,k1',k2',k3',k3'',k4',hle]
 refine lp_startx (fun x f σ=>∃(i:Nat) (tl:Store),x=l.length-i∧i≤l.length∧f 1=.ptr 0 0∧f 3=.int .i64 i∧σ=.var 112 (ringC step l)::tl) l.length ?_ ?_
 ·exact ⟨0,[],by simp,by simp,by simp,by simp,by simp [ringC]⟩
 rintro x f σ ⟨i,tl,hx,hi,h1,h3,rfl⟩
 simp [h1,h3,ringC,hle]
 refine cb_dec (fun hlt=> ?_) (fun hge=> ?_)
 ·have hlt':i<l.length:=by omega
  have hwi:IntKind.i64.wrap ((i:Int)+1)=((i+1:Nat):Int):=by rw [wrap_i64 (by omega) (by omega)];omega
  obtain ⟨s,hs⟩:∃s,l[i]? =some s:=⟨_,List.getElem?_eq_getElem hlt'⟩
  have hc:=slotsC_get hs
  obtain ⟨hx1,hx2⟩:=List.getElem?_eq_some_iff.1 hc
  rcases h i s hs with ⟨e1,e2⟩|⟨k,e1,e2,e3,e4,e5⟩
  ·simp [h1,h3,ringC,hc,hx2,slotC,tail_get,tail_set,splice,e1,e2,hwi]
   exact nx_intro (l.length-(i+1)) (by omega) ⟨i+1,tl++ [.var 186 (slotC s)],rfl,by omega,by simp [h1],by simp,by simp [ringC,slotC,e1,e2]⟩
  ·have g1:¬s.1= -1:=by omega
   simp [h1,h3,ringC,hc,hx2,slotC,tail_get,tail_set,splice,g1]
   rw [e1]
   refine qc_same (rTimed_ok (k*step) e2) (by simp) (by simp) ?_
   have g2:((k*step:Nat):Int).tmod step=0:=by
    rw [Int.tmod_eq_emod_of_nonneg (by omega)];simp
   have g3:((k*step:Nat):Int).tdiv step=k:=by
    rw [Int.tdiv_eq_ediv_of_nonneg (by omega)]
    simp only [Int.natCast_mul]
    exact Int.mul_ediv_cancel _ (by omega)
   have g4:(k:Int).tmod l.length=i:=by
    rw [Int.tmod_eq_emod_of_nonneg (by omega),←e3];simp
   have hk40:k≤1099511627776:=Nat.le_trans (Nat.le_mul_of_pos_right k s1) e2
   have g5:IntKind.i64.wrap (k:Int)=k:=wrap_i64 (by omega) (by omega)
   have g6:(step:Int)≠0:=by omega
   have g7:(l.length:Int)≠0:=by omega
   simp [h1,h3,ringC,hc,hx2,slotC,tail_get,tail_set,splice,g1,g2,g3,g4,g5,g6,g7,k1',k3',k3'',e1,e5,hle,hwi, -Int.natCast_mul]
   exact nx_intro (l.length-(i+1)) (by omega) ⟨i+1,tl++ [.var 186 (slotC s)],rfl,by omega,by simp [h1],by simp,by simp [ringC,slotC,e1]⟩
 ·simp
theorem tmod_nat (a b:Nat):((a:Int)).tmod b=((a%b:Nat):Int):=by rw [Int.tmod_eq_emod_of_nonneg (by omega)];rfl
theorem tdiv_nat (a b:Nat):((a:Int)).tdiv b=((a/b:Nat):Int):=by rw [Int.tdiv_eq_ediv_of_nonneg (by omega)];rfl
theorem sub_mod (t s:Nat):(t:Int)-((t%s:Nat):Int)=((t/s*s:Nat):Int):=by
 have h:=Nat.div_add_mod t s
 rw [Nat.mul_comm] at h
 omega
theorem r13Align_ok (step:Nat) (l:List Slot) (hz:Sized step l) (h:RightR step l) (t:Nat) (ht:t≤1099511627776):PCalls Tryz.prog n_isobarref13_Align [.agg (ringC step l),.int .i64 t] (fun r=>r=.tup [.int .i64 (t/step*step:Nat),.int .i64 0]):=by
 refine pcalls_of_awp hmix c_isobarref13_Align rfl ?_
 simp [a_isobarref13_Align,ringC]
 refine ac_same (r13Right_ok step l hz h) (by simp [AV.pure,ringC]) ?_
 rintro r rfl
 simp
 refine ac_same (rTimed_ok t ht) (by simp) ?_
 rintro r rfl
 have s1:=hz.s1
 have g1:(step:Int)≠0:=by omega
 have g1':step≠0:=by omega
 have hd:=Nat.div_mul_le_self t step
 have hw:IntKind.i64.wrap ((t/step*step:Nat):Int)=((t/step*step:Nat):Int):=wrap_i64 (by omega) (by omega)
 simp [g1,g1',tmod_nat,sub_mod,hw, -Int.natCast_mul, -Int.natCast_emod]
 rw [Int.natCast_mul,Int.natCast_ediv]
theorem r13Copy_ok (step:Nat) (l:List Slot) (hl:l.length≤1000000):PCalls Tryz.prog n_isobarref13_Copy [.agg (ringC step l)] (fun r=>r=.agg (ringC step l)):=by
 refine pcalls_of_awp hmix c_isobarref13_Copy rfl ?_
 have hle:=slotsC_len l
 simp [a_isobarref13_Copy,ringC]
 refine ⟨?_, ?_⟩
 all_goals
  refine ap_row [] (slotsC l) false (by simp) rfl (by decide) (slotsC_els l).1 (fun h=>by cases h) rfl (by simp;omega) (by simp;omega) ?_
  simp [slotsC_fz]
theorem r13CopyO_ok (σ:Store) (step:Nat) (l:List Slot) (hl:l.length≤1000000):ACalls Tryz.prog n_isobarref13_Copy [.agg (ringC step l)] σ (fun r σ'=>r=.agg [.int .i64 step,.row (σ.length+2) l.length]∧σ'=σ++ [.var 112 (ringC step l),.var 112 [.int .i64 step,.row (σ.length+2) l.length],.row 186 2 (slotsC l) false]):=by
 refine acalls_of_awp_e hmix c_isobarref13_Copy rfl ?_
 have hle:=slotsC_len l
 simp [a_isobarref13_Copy,ringC]
 refine ⟨?_, ?_⟩
 all_goals
  refine ap_row [] (slotsC l) false (by simp [pre_get2]) rfl (by decide) (slotsC_els l).1 (fun h=>by cases h) rfl (by simp;omega) (by simp;omega) ?_
  simp [pre_get0,pre_get1,pre_get2,pre_set0,pre_set1,pre_set2,splice,hle]
  refine er_keep (σ++ [.var 112 (ringC step l),.var 112 [.int .i64 step,.row (σ.length+2) l.length],.row 186 2 (slotsC l) false]) (.agg [.int .i64 step,.row (σ.length+2) l.length]) (by simp [tupOf,pre_get1]) [] (by simp [ringC]) (by simp) (by simp [AV.under]) (fun i e he'=> ?_) ⟨rfl,by simp [ringC]⟩
  rcases Nat.lt_or_ge i σ.length with hlt|hge2
  ·rw [List.getElem?_append_left hlt] at he'
   exact .inl he'
  ·rw [List.getElem?_append_right hge2] at he'
   right
   obtain ⟨j,hj⟩:∃j,j=i-σ.length:=⟨_,rfl⟩
   rw [←hj] at he'
   match j,he' with
   |0,he'=>
    simp at he';subst he'
    simp [Entry.under,ringC,AV.under]
   |1,he'=>
    simp at he';subst he'
    simp [Entry.under,AV.under]
   |2,he'=>
    simp at he';subst he'
    exact row_under (slotsC_els l).2.1
   |j+3,he'=>simp at he'
theorem r13Set_ok (step:Nat) (l:List Slot) (hz:Sized step l) (h:RightR step l) (t:Nat) (ht:t≤1099511627776) (v:Int) (hv:v≠ -9223372036854775808):PCalls Tryz.prog n_isobarref13_Set [.agg (ringC step l),.int .i64 t,.int .i64 v] (fun r=>r=.tup [.agg (ringC step (setR step l t v)),.int .i64 0]):=by
 refine pcalls_of_awp hmix c_isobarref13_Set rfl ?_
 have hle:=slotsC_len l
 obtain ⟨s1,s2,n1,n2⟩:=hz
 have g1:(step:Int)≠0:=by omega
 have g1':step≠0:=by omega
 have g2:(l.length:Int)≠0:=by omega
 have g2':l.length≠0:=by omega
 have g2'':l≠ []:=fun e=>by rw [e] at n1;simp at n1
 have hd:=Nat.div_mul_le_self t step
 have hdl:t/step≤t:=Nat.div_le_self _ _
 obtain ⟨at',hat⟩:∃at',at'=t/step*step:=⟨_,rfl⟩
 have hq:at'/step=t/step:=by rw [hat];exact Nat.mul_div_cancel _ (by omega)
 have hpl:t/step%l.length<l.length:=Nat.mod_lt _ (by omega)
 obtain ⟨q,hqe⟩:∃q,q=t/step:=⟨_,rfl⟩
 obtain ⟨p,hp⟩:∃p,p=q%l.length:=⟨_,rfl⟩
 rw [←hqe] at hq hdl hpl
 rw [←hp] at hpl
 have hA1:(at':Int)/(step:Int)=(q:Int):=by rw [←hq];rfl
 have hA1':(at':Int).tdiv (step:Int)=(q:Int):=by rw [tdiv_nat,hq]
 have hA2:IntKind.i64.wrap (q:Int)=(q:Int):=wrap_i64 (by omega) (by omega)
 have hA3:(q:Int).tmod (l.length:Int)=(p:Int):=by rw [tmod_nat,hp]
 have hA4:(q:Int)%(l.length:Int)=(p:Int):=by rw [hp];rfl
 have kA:=r13Align_ok (G:=G) step l ⟨s1,s2,n1,n2⟩ h t ht
 rw [←hat] at kA
 simp [a_isobarref13_Set,ringC]
 refine ac_same kA (by simp [AV.pure,ringC]) ?_
 rintro r rfl
 simp [hv]
 refine ac_eff (r13CopyO_ok _ step l (by omega)) ?_
 rintro r σ ⟨rfl,rfl⟩
 obtain ⟨s,hs⟩:∃s,l[p]? =some s:=⟨l[p]'(by omega),List.getElem?_eq_getElem (by omega)⟩
 have hc:=slotsC_get hs
 obtain ⟨hx1,hx2⟩:=List.getElem?_eq_some_iff.1 hc
 have hpl':p<l.length:=by omega
 have hset:(slotsC l).set p [.int .i64 (at':Int),.int .i64 v]=slotsC (setR step l t v):=by
  rw [hp,hqe,setR,←slotsC_set,hat];rfl
 have hll:l.length=(slotsC (setR step l t v)).length:=by rw [slotsC_len,len_setR]
 simp [ringC,hA1,hA1',hA2,hA3,hA4,g1,g1',g2,g2',g2'',hle,hpl',hc,hx2,slotC,splice,hset]
 rw [if_pos hll.symm]
 simp [slotsC_fz]
theorem r13Get_ok (step:Nat) (l:List Slot) (hz:Sized step l) (h:RightR step l) (t:Nat) (ht:t≤1099511627776):PCalls Tryz.prog n_isobarref13_Get [.agg (ringC step l),.int .i64 t] (fun r=>r=numA (numO (getR step l t))):=by
 refine pcalls_of_awp hmix c_isobarref13_Get rfl ?_
 have hle:=slotsC_len l
 obtain ⟨s1,s2,n1,n2⟩:=hz
 have g1:(step:Int)≠0:=by omega
 have g1':step≠0:=by omega
 have g2:(l.length:Int)≠0:=by omega
 have g2':l.length≠0:=by omega
 have g2'':l≠ []:=fun e=>by rw [e] at n1;simp at n1
 have hd:=Nat.div_mul_le_self t step
 have hdl:t/step≤t:=Nat.div_le_self _ _
 obtain ⟨at',hat⟩:∃at',at'=t/step*step:=⟨_,rfl⟩
 have hq:at'/step=t/step:=by rw [hat];exact Nat.mul_div_cancel _ (by omega)
 have hpl:t/step%l.length<l.length:=Nat.mod_lt _ (by omega)
 obtain ⟨q,hqe⟩:∃q,q=t/step:=⟨_,rfl⟩
 obtain ⟨p,hp⟩:∃p,p=q%l.length:=⟨_,rfl⟩
 rw [←hqe] at hq hdl hpl
 rw [←hp] at hpl
 have hA1:(at':Int)/(step:Int)=(q:Int):=by rw [←hq];rfl
 have hA1':(at':Int).tdiv (step:Int)=(q:Int):=by rw [tdiv_nat,hq]
 have hA2:IntKind.i64.wrap (q:Int)=(q:Int):=wrap_i64 (by omega) (by omega)
 have hA3:(q:Int).tmod (l.length:Int)=(p:Int):=by rw [tmod_nat,hp]
 have hA4:(q:Int)%(l.length:Int)=(p:Int):=by rw [hp];rfl
 have kA:=r13Align_ok (G:=G) step l ⟨s1,s2,n1,n2⟩ h t ht
 rw [←hat] at kA
 simp [a_isobarref13_Get,ringC]
 refine ac_same kA (by simp [AV.pure,ringC]) ?_
 rintro r rfl
 obtain ⟨s,hs⟩:∃s,l[p]? =some s:=⟨l[p]'(by omega),List.getElem?_eq_getElem (by omega)⟩
 have hc:=slotsC_get hs
 obtain ⟨hx1,hx2⟩:=List.getElem?_eq_some_iff.1 hc
 have hg:getR step l t=if s.1=(at':Int) then some s.2 else none:=by
  unfold getR
  rw [←hqe,←hp,hs]
  simp only
  rw [hqe,←hat]
 by_cases he:s.1=(at':Int)
 ·simp [hA1,hA1',hA2,hA3,hA4,g1,g1',g2,g2',g2'',hle,hpl,hc,hx2,slotC,splice,he,hg,numO,numA]
 ·simp [hA1,hA1',hA2,hA3,hA4,g1,g1',g2,g2',g2'',hle,hpl,hc,hx2,slotC,splice,he]
  refine ac_same rNothing_ok (by simp) ?_
  rintro r rfl
  simp [hg,he,numO,numA,nothing,splice]
theorem r13SameSlots_ok (l:List Slot) (hl:l.length≤1000000):PCalls Tryz.prog n_isobarref13_SameSlots [.lst (slotsC l),.lst (slotsC l)] (fun r=>r=.bool true):=by
 refine pcalls_of_awp hmix c_isobarref13_SameSlots rfl ?_
 simp [a_isobarref13_SameSlots]
 have hle:=slotsC_len l
 refine lp_startx (fun x f σ=>∃(i:Nat),x=l.length-i∧i≤l.length∧f 0=.lst (slotsC l)∧f 1=.lst (slotsC l)∧f 5=.int .i64 i∧σ= []) l.length ?_ ?_
 ·exact ⟨0,by simp,by simp,by simp,by simp,by simp,by simp⟩
 rintro x f σ ⟨i,hx,hi,h0,h1,h5,rfl⟩
 simp [h0,h5,hle]
 refine cb_dec (fun hlt=> ?_) (fun hge=> ?_)
 ·have hlt':i<l.length:=by omega
  have hwi:IntKind.i64.wrap ((i:Int)+1)=((i+1:Nat):Int):=by rw [wrap_i64 (by omega) (by omega)];omega
  obtain ⟨n,hn⟩:∃n,l[i]? =some n:=⟨_,List.getElem?_eq_getElem hlt'⟩
  have hc:=slotsC_get hn
  obtain ⟨hx1,hx2⟩:=List.getElem?_eq_some_iff.1 hc
  simp [h0,h1,h5,hc,hx2,slotC,eqAll,hwi]
  exact nx_intro (l.length-(i+1)) (by omega) ⟨i+1,rfl,by omega,by simp [h0],by simp [h1],by simp,rfl⟩
 ·simp
theorem r13Same_ok (step:Nat) (l:List Slot) (hl:l.length≤1000000):PCalls Tryz.prog n_isobarref13_Same [.agg (ringC step l),.agg (ringC step l)] (fun r=>r=.bool true):=by
 refine pcalls_of_awp hmix c_isobarref13_Same rfl ?_
 simp [a_isobarref13_Same,ringC]
 refine ac_same (r13SameSlots_ok l hl) (by simp [AV.pure]) ?_
 rintro r rfl
 simp
theorem ringsC_els (l:LadM):Els 2 (ringsC l):=by
 refine ⟨fun c hc=> ?_,fun c hc=> ?_,fun c hc=> ?_⟩<;>
 ·simp [ringsC] at hc
  rcases hc with rfl|rfl<;>simp [ringC,AV.pure,AV.one]
theorem r14Same_ok (l:LadM) (h:RightL l):PCalls Tryz.prog n_isobarref14_Same [.agg (ladC l),.agg (ladC l)] (fun r=>r=.bool true):=by
 refine pcalls_of_awp hmix c_isobarref14_Same rfl ?_
 simp [a_isobarref14_Same,ladC,ringsC]
 refine lp_startx (fun x f σ=>∃(i:Nat),x=2-i∧i≤2∧f 2=.ptr 0 0∧f 3=.ptr 1 0∧f 5=.int .i64 i∧σ= [.var 55 (ladC l),.var 55 (ladC l)]) 2 ?_ ?_
 ·exact ⟨0,by simp,by simp,by simp,by simp,by simp,by simp [ladC,ringsC]⟩
 rintro x f σ ⟨i,hx,hi,h2,h3,h5,rfl⟩
 have hi3:i=0∨i=1∨i=2:=by omega
 rcases hi3 with rfl|rfl|rfl
 ·simp [h2,h3,h5,ladC,ringsC,ringC]
  refine qc_same (r13Same_ok 10 l.fine (by rw [h.n1];omega)) (by simp [AV.pure,ringC]) (by simp) ?_
  simp [h5,wk1]
  exact nx_intro 1 (by omega) ⟨1,rfl,by omega,by simp [h2],by simp [h3],by simp,by simp [ladC,ringsC,ringC]⟩
 ·simp [h2,h3,h5,ladC,ringsC,ringC]
  refine qc_same (r13Same_ok 60 l.wide (by rw [h.n2];omega)) (by simp [AV.pure,ringC]) (by simp) ?_
  simp [h5,wk2]
  exact nx_intro 0 (by omega) ⟨2,rfl,by omega,by simp [h2],by simp [h3],by simp,by simp [ladC,ringsC,ringC]⟩
 ·simp [h2,h3,h5,ladC,ringsC]
theorem r10Single_ok (a b:Nat) (h1:1≤a) (h2:a≤86400) (h3:1≤b) (h4:b≤400):PCalls Tryz.prog n_isobarref10_Single [.agg [.int .i64 a,.int .i64 b]] (fun r=>r=.bool true):=by
 refine pcalls_of_awp hmix c_isobarref10_Single rfl ?_
 have k1:(1:Int)≤a:=by omega
 have k2:(a:Int)≤86400:=by omega
 have k3:(1:Int)≤b:=by omega
 have k4:(b:Int)≤400:=by omega
 have k1':0<a:=by omega
 have k3':0<b:=by omega
 simp [a_isobarref10_Single,k1,k2,k3,k4,h1,h2,h3,h4,k1',k3']
theorem r10Reach_ok (a b:Nat) (h1:1≤a) (h2:a≤86400) (h3:1≤b) (h4:b≤400):PCalls Tryz.prog n_isobarref10_Reach [.agg [.int .i64 a,.int .i64 b]] (fun r=>r=.int .i64 (a*b:Nat)):=by
 refine pcalls_of_awp hmix c_isobarref10_Reach rfl ?_
 have hm:a*b≤86400*400:=Nat.mul_le_mul h2 h4
 have hw:IntKind.i64.wrap ((a:Int)*b)=((a*b:Nat):Int):=by
  have e:(a:Int)*b=((a*b:Nat):Int):=by rw [Int.natCast_mul]
  rw [e];exact wrap_i64 (by omega) (by omega)
 simp [a_isobarref10_Reach]
 refine ac_same (r10Single_ok a b h1 h2 h3 h4) (by simp) ?_
 rintro r rfl
 simp [hw]
theorem r10Together_ok:PCalls Tryz.prog n_isobarref10_Together [.lst rungsC] (fun r=>r=.bool true):=by
 refine pcalls_of_awp hmix c_isobarref10_Together rfl ?_
 simp [a_isobarref10_Together,rungsC]
 refine lp_startx (fun x f σ=>∃(i:Nat),x=2-i∧i≤2∧f 0=.lst rungsC∧f 3=.int .i64 i∧σ= []) 2 ?_ ?_
 ·exact ⟨0,by simp,by simp,by simp [rungsC],by simp,by simp⟩
 rintro x f σ ⟨i,hx,hi,h0,h3,rfl⟩
 have hi3:i=0∨i=1∨i=2:=by omega
 rcases hi3 with rfl|rfl|rfl
 ·simp [h0,h3,rungsC]
  refine ac_same (r10Single_ok 10 6 (by omega) (by omega) (by omega) (by omega)) (by simp) ?_
  rintro r rfl
  simp [h3,wk1]
  exact nx_intro 1 (by omega) ⟨1,rfl,by omega,by simp [h0,rungsC],by simp,rfl⟩
 ·simp [h0,h3,rungsC]
  refine ac_same (r10Single_ok 60 5 (by omega) (by omega) (by omega) (by omega)) (by simp) ?_
  rintro r rfl
  simp [h3,wk2]
  exact nx_intro 0 (by omega) ⟨2,rfl,by omega,by simp [h0,rungsC],by simp,rfl⟩
 ·simp [h0,h3,rungsC]
  refine lp_startx (fun x f σ=>∃(i:Nat),x=2-i∧(i=1∨i=2)∧f 0=.lst rungsC∧f 4=.int .i64 i∧(i=1→σ= [])) 1 ?_ ?_
  ·exact ⟨1,by omega,.inl rfl,by simp [h0,rungsC],by simp,fun _=>rfl⟩
  clear h0 h3
  rintro x f σ ⟨i,hx,rfl|rfl,h0,h4,hσ⟩
  ·obtain rfl:=hσ rfl
   simp [h0,h4,rungsC,wk0]
   refine ⟨?_, ?_⟩
   all_goals
    refine qc_same (r10Reach_ok 60 5 (by omega) (by omega) (by omega) (by omega)) (by simp) (by simp) ?_
    simp
    refine qc_same (r10Reach_ok 10 6 (by omega) (by omega) (by omega) (by omega)) (by simp) (by simp) ?_
    simp [h4,wk2,wk6]
    exact nx_intro 0 (by omega) ⟨2,by omega,.inr rfl,by simp [h0,rungsC],by simp,fun h=>by omega⟩
  ·simp [h0,h4,rungsC]
theorem r14Rungs_ok (l:LadM) (h:RightL l):PCalls Tryz.prog n_isobarref14_Rungs [.agg (ladC l)] (fun r=>r=.lst rungsC):=by
 refine pcalls_of_awp hmix c_isobarref14_Rungs rfl ?_
 have n1:=slotsC_len l.fine
 have n2:=slotsC_len l.wide
 rw [h.n1] at n1
 rw [h.n2] at n2
 simp [a_isobarref14_Rungs,ladC,ringsC]
 refine lp_startx (fun x f σ=>∃(i:Nat),x=2-i∧i≤2∧f 1=.ptr 0 0∧f 4=.int .i64 i∧((i=0∧f 3=.nils∧σ= [.var 55 (ladC l)])∨(0<i∧f 3=.row 1 i∧σ= [.var 55 (ladC l),.row 119 2 (rungsC.take i) true]))) 2 ?_ ?_
 ·exact ⟨0,by simp,by simp,by simp,by simp,.inl ⟨rfl,by simp,by simp [ladC,ringsC]⟩⟩
 rintro x f σ ⟨i,hx,hi,h1,h4,hh⟩
 have hi3:i=0∨i=1∨i=2:=by omega
 rcases hi3 with rfl|rfl|rfl
 ·obtain ⟨_,h3,rfl⟩:0=0∧f 3=.nils∧σ= [.var 55 (ladC l)]:=by
   rcases hh with h|⟨h,_⟩
   ·exact h
   ·omega
  simp [h1,h3,h4,ladC,ringsC,ringC,n1]
  refine ap_new true [[.int .i64 10,.int .i64 6]] (by simp [view]) (by decide) (by simp) (fun _=> .inl (by simp [aview])) (by simp) (by simp) ?_
  simp [h4,wk1]
  exact nx_intro 1 (by omega) ⟨1,rfl,by omega,by simp [h1],by simp,.inr ⟨by omega,by simp,by simp [ladC,ringsC,ringC,rungsC]⟩⟩
 ·obtain ⟨_,h3,rfl⟩:0<1∧f 3=.row 1 1∧σ= [.var 55 (ladC l),.row 119 2 (rungsC.take 1) true]:=by
   rcases hh with ⟨h,_⟩|h
   ·omega
   ·exact h
  simp [h1,h3,h4,ladC,ringsC,ringC,n2,rungsC]
  refine ap_row [[.int .i64 10,.int .i64 6]] [[.int .i64 60,.int .i64 5]] true (by simp) (by simp [view]) (by decide) (by simp) (fun _=> .inl (by simp [aview])) rfl (by simp) (by simp) ?_
  simp [h4,wk2]
  exact nx_intro 0 (by omega) ⟨2,rfl,by omega,by simp [h1],by simp,.inr ⟨by omega,by simp,by simp [ladC,ringsC,ringC,rungsC]⟩⟩
 ·obtain ⟨_,h3,rfl⟩:0<2∧f 3=.row 1 2∧σ= [.var 55 (ladC l),.row 119 2 (rungsC.take 2) true]:=by
   rcases hh with ⟨h,_⟩|h
   ·omega
   ·exact h
  simp [h1,h3,h4,ladC,ringsC,rungsC]
theorem z1_of {l:LadM} (h:RightL l):Sized 10 l.fine:=⟨by omega,by omega,by rw [h.n1];omega,by rw [h.n1];omega⟩
theorem z2_of {l:LadM} (h:RightL l):Sized 60 l.wide:=⟨by omega,by omega,by rw [h.n2];omega,by rw [h.n2];omega⟩
theorem r14how_ok:PCalls Tryz.prog n_isobarref14_how [.int .i64 1,.int .i64 500000] (fun r=>r=.bool true):=by
 refine pcalls_of_awp hmix c_isobarref14_how rfl ?_
 simp [a_isobarref14_how]
theorem r14Right_ok (l:LadM) (h:RightL l):PCalls Tryz.prog n_isobarref14_Right [.agg (ladC l)] (fun r=>r=.bool true):=by
 refine pcalls_of_awp hmix c_isobarref14_Right rfl ?_
 simp [a_isobarref14_Right,ladC]
 refine ac_same r14how_ok (by simp) ?_
 rintro r rfl
 simp
 refine ac_same (r14Rungs_ok l h) (by simp [AV.pure,ladC]) ?_
 rintro r rfl
 simp
 refine ac_same r10Together_ok (by simp [AV.pure]) ?_
 rintro r rfl
 simp
 refine lp_startx (fun x f σ=>∃(i:Nat),x=2-i∧i≤2∧f 1=.ptr 0 0∧f 3=.int .i64 i∧σ= [.var 55 (ladC l)]) 2 ?_ ?_
 ·exact ⟨0,by simp,by simp,by simp,by simp,by simp [ladC]⟩
 rintro x f σ ⟨i,hx,hi,h1,h3,rfl⟩
 have hi3:i=0∨i=1∨i=2:=by omega
 rcases hi3 with rfl|rfl|rfl
 ·simp [h1,h3,ladC,ringsC,ringC]
  refine ac_same (r13Right_ok 10 l.fine (z1_of h) h.r1) (by simp [AV.pure,ringC]) ?_
  rintro r rfl
  simp [h3,wk1]
  exact nx_intro 1 (by omega) ⟨1,rfl,by omega,by simp [h1],by simp,by simp [ladC,ringsC,ringC]⟩
 ·simp [h1,h3,ladC,ringsC,ringC]
  refine ac_same (r13Right_ok 60 l.wide (z2_of h) h.r2) (by simp [AV.pure,ringC]) ?_
  rintro r rfl
  simp [h3,wk2]
  exact nx_intro 0 (by omega) ⟨2,rfl,by omega,by simp [h1],by simp,by simp [ladC,ringsC,ringC]⟩
 ·simp [h1,h3,ladC,ringsC]
theorem r13New_ok (step n:Nat) (h1:1≤step) (h2:step≤86400) (h3:1≤n) (h4:n≤400):PCalls Tryz.prog n_isobarref13_New [.int .i64 step,.int .i64 n] (fun r=>r=.tup [.agg (ringC step (List.replicate n (-1,0))),.int .i64 0]):=by
 refine pcalls_of_awp hmix c_isobarref13_New rfl ?_
 have k1:¬((step:Int)<1):=by omega
 have k2:¬((86400:Int)<step):=by omega
 have k3:¬((n:Int)<1):=by omega
 have k4:¬((400:Int)<n):=by omega
 have k1':step≠0:=by omega
 have k2':¬(86400<step):=by omega
 have k3':n≠0:=by omega
 have k4':¬(400<n):=by omega
 simp [a_isobarref13_New,k1,k2,k3,k4,k1',k2',k3',k4']
 refine lp_startx (fun x f σ=>∃(i:Nat),x=n-i∧i≤n∧f 1=.int .i64 n∧f 4=.ptr 0 0∧f 6=.ptr 1 0∧f 7=.int .i64 i∧((i=0∧σ= [.var 112 [.int .i64 0,.nils],.var 112 [.int .i64 step,.nils]])∨(0<i∧σ= [.var 112 [.int .i64 0,.nils],.var 112 [.int .i64 step,.row 2 i],.row 186 2 (slotsC (List.replicate i (-1,0))) true]))) n ?_ ?_
 ·exact ⟨0,by simp,by simp,by simp,by simp,by simp,by simp,.inl ⟨rfl,by simp⟩⟩
 rintro x f σ ⟨i,hx,hi,g1,g4,g6,g7,hh⟩
 simp [g1,g7]
 refine cb_dec (fun hlt=> ?_) (fun hge=> ?_)
 ·have hlt':i<n:=by omega
  have hwi:IntKind.i64.wrap ((i:Int)+1)=((i+1:Nat):Int):=by rw [wrap_i64 (by omega) (by omega)];omega
  rcases hh with ⟨rfl,rfl⟩|⟨hp,rfl⟩
  ·simp [g6]
   refine ap_new true [[.int .i64 (-1),.int .i64 0]] (by simp [view]) (by decide) (by simp) (fun _=> .inl (by simp [aview])) (by simp) (by simp) ?_
   simp [g6,g7,wk1,splice]
   exact nx_intro (n-1) (by omega) ⟨1,rfl,by omega,by simp [g1],by simp [g4],by simp [g6],by simp,.inr ⟨by omega,by simp [slotsC,slotC]⟩⟩
  ·simp [g6]
   have hsl:(slotsC (List.replicate i ((-1:Int),(0:Int)))).length=i:=by simp [slotsC]
   refine ap_row (slotsC (List.replicate i (-1,0))) [[.int .i64 (-1),.int .i64 0]] true (by simp) (by simp [view]) (by decide) (by simp) (fun _=> .inl (by simp [aview])) hsl (by simp;omega) (by simp;omega) ?_
   have hsn:slotsC (List.replicate i ((-1:Int),(0:Int)))++ [[.int .i64 (-1),.int .i64 0]]=slotsC (List.replicate (i+1) (-1,0)):=by
    rw [List.replicate_succ',slotsC_snoc];rfl
   rw [hsn]
   simp [g6,g7,hwi,splice]
   exact nx_intro (n-(i+1)) (by omega) ⟨i+1,rfl,by omega,by simp [g1],by simp [g4],by simp [g6],by simp,.inr ⟨by omega,by simp⟩⟩
 ·have hin:i=n:=by omega
  subst hin
  rcases hh with ⟨rfl,rfl⟩|⟨hp,rfl⟩
  ·omega
  ·have hsl:(slotsC (List.replicate i ((-1:Int),(0:Int)))).length=i:=by simp [slotsC]
   simp [g4,g6,splice,hsl,ringC]
def schC:List AV:= [.lst rungsC,.int .i64 1,.int .i64 500000]
theorem r14New_ok:PCalls Tryz.prog n_isobarref14_New [.agg schC] (fun r=>r=.tup [.agg (ladC newL),.int .i64 0]):=by
 refine pcalls_of_awp hmix c_isobarref14_New rfl ?_
 simp [a_isobarref14_New,schC]
 refine ac_same r14how_ok (by simp) ?_
 rintro r rfl
 simp
 refine ac_same r10Together_ok (by simp [AV.pure]) ?_
 rintro r rfl
 simp
 refine lp_startx (fun x f σ=>∃(i:Nat),x=2-i∧i≤2∧f 1=.ptr 0 0∧f 2=.ptr 1 0∧f 4=.ptr 2 0∧f 5=.int .i64 i∧
  ((i=0∧σ= [.var 52 schC,.var 55 [.int .i64 0,.int .i64 0,.nils],.var 55 [.int .i64 1,.int .i64 500000,.nils]])∨
   (i=1∧∃e,σ= [.var 52 schC,.var 55 [.int .i64 0,.int .i64 0,.nils],.var 55 [.int .i64 1,.int .i64 500000,.row 4 1],e,.row 112 2 ((ringsC newL).take 1) true])∨
   (i=2∧∃e e2,σ= [.var 52 schC,.var 55 [.int .i64 0,.int .i64 0,.nils],.var 55 [.int .i64 1,.int .i64 500000,.row 4 2],e,.row 112 2 (ringsC newL) true,e2]))) 2 ?_ ?_
 ·exact ⟨0,by simp,by simp,by simp,by simp,by simp,by simp,.inl ⟨rfl,by simp [schC]⟩⟩
 rintro x f σ ⟨i,hx,hi,h1,h2,h4,h5,⟨rfl,rfl⟩|⟨rfl,e,rfl⟩|⟨rfl,e,e2,rfl⟩⟩
 ·simp [h1,h4,h5,schC,rungsC]
  refine qc_any (r13New_ok 10 6 (by omega) (by omega) (by omega) (by omega)) (by simp) ?_
  simp [h1,h4,h5,splice,ringC]
  refine ap_new true [ringC 10 (List.replicate 6 (-1,0))] (by simp [view,ringC]) (by decide) (by simp [ringC]) (fun _=> .inl (by simp [aview,ringC])) (by simp) (by simp) ?_
  simp [h4,h5,splice,wk1]
  exact nx_intro 1 (by omega) ⟨1,rfl,by omega,by simp [h1],by simp [h2],by simp [h4],by simp,.inr (.inl ⟨rfl,_,by simp [schC,rungsC,ringsC,newL];rfl⟩)⟩
 ·simp [h1,h4,h5,schC,rungsC]
  refine qc_any (r13New_ok 60 5 (by omega) (by omega) (by omega) (by omega)) (by simp) ?_
  simp [h1,h4,h5,splice,ringC]
  refine ap_row [ringC 10 (List.replicate 6 (-1,0))] [ringC 60 (List.replicate 5 (-1,0))] true (by simp [ringsC,newL,ringC]) (by simp [view,ringC]) (by decide) (by simp [ringC]) (fun _=> .inl (by simp [aview,ringC])) rfl (by simp) (by simp) ?_
  simp [h4,h5,splice,wk2]
  exact nx_intro 0 (by omega) ⟨2,rfl,by omega,by simp [h1],by simp [h2],by simp [h4],by simp,.inr (.inr ⟨rfl,e,_,by simp [schC,rungsC,ringsC,newL];rfl⟩)⟩
 ·simp [h1,h2,h4,h5,schC,rungsC,splice,ringsC,ladC,ringC]
theorem r14Copy_ok (σ:Store) (l:LadM) (h:RightL l):ACalls Tryz.prog n_isobarref14_Copy [.agg (ladC l)] σ (fun r σ'=>r=.agg [.int .i64 1,.int .i64 500000,.row (σ.length+3) 2]∧σ'=σ++ [.var 55 (ladC l),.var 55 [.int .i64 1,.int .i64 500000,.row (σ.length+3) 2],.var 55 [.int .i64 1,.int .i64 500000,.row (σ.length+3) 2],.row 112 2 (ringsC l) false]):=by
 refine acalls_of_awp_e hmix c_isobarref14_Copy rfl ?_
 simp [a_isobarref14_Copy,ladC]
 obtain ⟨A,hA⟩:∃A:Entry,A=.var 55 (ladC l):=⟨_,rfl⟩
 obtain ⟨B,hB⟩:∃B:Entry,B=.var 55 [.int .i64 0,.int .i64 0,.nils]:=⟨_,rfl⟩
 refine lp_startx (fun x f σ'=>∃(i:Nat),x=2-i∧i≤2∧f 1=.ptr σ.length 0∧f 2=.ptr (σ.length+1) 0∧f 3=.ptr (σ.length+2) 0∧f 4=.int .i64 i∧
  ((i=0∧σ'=σ++ [A,B,.var 55 [.int .i64 1,.int .i64 500000,.nils]])∨
   (0<i∧σ'=σ++ [A,B,.var 55 [.int .i64 1,.int .i64 500000,.row (σ.length+3) i],.row 112 2 ((ringsC l).take i) false]))) 2 ?_ ?_
 ·exact ⟨0,by simp,by simp,by simp,by simp,by simp,by simp,.inl ⟨rfl,by simp [hA,hB,ladC]⟩⟩
 rintro x f σ' ⟨i,hx,hi,h1,h2,h3,h4,hh⟩
 have g3:∀(a b c d:Entry),(σ++ [a,b,c,d])[σ.length+3]? =some d:=fun a b c d=>by
  rw [List.getElem?_append_right (by omega),Nat.add_sub_cancel_left];rfl
 have s3:∀(a b c d e:Entry),(σ++ [a,b,c,d]).set (σ.length+3) e=σ++ [a,b,c,e]:=fun a b c d e=>by
  rw [List.set_append_right _ _ (by omega),Nat.add_sub_cancel_left];rfl
 have hi3:i=0∨i=1∨i=2:=by omega
 rcases hi3 with rfl|rfl|rfl
 ·obtain ⟨_,rfl⟩:0=0∧σ'=σ++ [A,B,.var 55 [.int .i64 1,.int .i64 500000,.nils]]:=by
   rcases hh with h|⟨h,_⟩
   ·exact h
   ·omega
  simp [h1,h2,h3,h4,hA,ladC,ringsC,pre_get0,pre_get1,pre_get2]
  refine ⟨?_, ?_⟩
  all_goals
   simp [ringC]
   refine ac_same (r13Copy_ok 10 l.fine (by rw [h.n1];omega)) (by simp [AV.pure,ringC]) ?_
   rintro r rfl
   simp [h3,ringC,pre_get2]
   refine ap_new false [ringC 10 l.fine] (by simp [view,ringC]) (by decide) (by simp [ringC]) (fun h=>by cases h) (by simp) (by simp) ?_
   simp [h3,h4,wk1,pre_get2,pre_set2,splice]
   exact nx_intro 1 (by omega) ⟨1,rfl,by omega,by simp [h1],by simp [h2],by simp [h3],by simp,.inr ⟨by omega,by simp [hA,ladC,ringsC,ringC]⟩⟩
 ·obtain ⟨_,rfl⟩:0<1∧σ'=σ++ [A,B,.var 55 [.int .i64 1,.int .i64 500000,.row (σ.length+3) 1],.row 112 2 ((ringsC l).take 1) false]:=by
   rcases hh with ⟨h,_⟩|h
   ·omega
   ·exact h
  simp [h1,h2,h3,h4,hA,ladC,ringsC,pre_get0,pre_get1,pre_get2]
  refine ⟨?_, ?_⟩
  all_goals
   simp [ringC]
   refine ac_same (r13Copy_ok 60 l.wide (by rw [h.n2];omega)) (by simp [AV.pure,ringC]) ?_
   rintro r rfl
   simp [h3,ringC,pre_get2]
   refine ap_row [ringC 10 l.fine] [ringC 60 l.wide] false (by simp [g3,ringC]) (by simp [view,ringC]) (by decide) (by simp [ringC]) (fun h=>by cases h) rfl (by simp) (by simp) ?_
   simp [h3,h4,wk2,pre_get2,pre_set2,splice,g3,s3]
   exact nx_intro 0 (by omega) ⟨2,rfl,by omega,by simp [h1],by simp [h2],by simp [h3],by simp,.inr ⟨by omega,by simp [hA,ladC,ringsC,ringC]⟩⟩
 ·obtain ⟨_,rfl⟩:0<2∧σ'=σ++ [A,B,.var 55 [.int .i64 1,.int .i64 500000,.row (σ.length+3) 2],.row 112 2 ((ringsC l).take 2) false]:=by
   rcases hh with ⟨h,_⟩|h
   ·omega
   ·exact h
  have hA':A=.var 55 [.int .i64 1,.int .i64 500000,.lst (ringsC l)]:=hA
  simp [h1,h2,h3,h4,hA',hB,pre_get0,pre_get1,pre_get2,pre_set1,splice,ringsC]
  refine er_keep _ (.agg [.int .i64 1,.int .i64 500000,.row (σ.length+3) 2]) (by simp [tupOf,h2,pre_get1]) [] (List.append_nil _).symm (by simp) (by simp [AV.under]) (fun i e he'=> ?_) ⟨rfl,rfl⟩
  rcases Nat.lt_or_ge i σ.length with hlt|hge2
  ·rw [List.getElem?_append_left hlt] at he'
   exact .inl he'
  ·rw [List.getElem?_append_right hge2] at he'
   right
   obtain ⟨j,hj⟩:∃j,j=i-σ.length:=⟨_,rfl⟩
   rw [←hj] at he'
   match j,he' with
   |0,he'=>
    simp at he';subst he'
    simp [Entry.under,AV.under]
   |1,he'=>
    simp at he';subst he'
    simp [Entry.under,AV.under]
   |2,he'=>
    simp at he';subst he'
    simp [Entry.under,AV.under]
   |3,he'=>
    simp at he';subst he'
    exact row_under (ringsC_els l).2.1
   |j+4,he'=>simp at he'
theorem r14reaches_ok (step:Nat) (l:List Slot) (hz:Sized step l) (t now:Nat) (ht:t≤1099511627776) (hn:now≤1099511627776):PCalls Tryz.prog n_isobarref14_reaches [.agg (ringC step l),.int .i64 t,.int .i64 now] (fun r=>r=.bool (decide (now<t/step*step+step*l.length))):=by
 refine pcalls_of_awp hmix c_isobarref14_reaches rfl ?_
 obtain ⟨s1,s2,n1,n2⟩:=hz
 have g1:(step:Int)≠0:=by omega
 have g1':step≠0:=by omega
 have hle:=slotsC_len l
 have hm:step*l.length≤86400*400:=Nat.mul_le_mul s2 n2
 have hd:=Nat.div_mul_le_self t step
 simp [a_isobarref14_reaches,ringC,g1,g1']
 have kR:PCalls Tryz.prog n_isobarref14_reach [.agg (ringC step l)] (fun r=>r=.int .i64 (step*l.length:Nat)):=by
  refine pcalls_of_awp hmix c_isobarref14_reach rfl ?_
  have hw:IntKind.i64.wrap ((step:Int)*l.length)=((step*l.length:Nat):Int):=by
   have e:(step:Int)*l.length=((step*l.length:Nat):Int):=by rw [Int.natCast_mul]
   rw [e];exact wrap_i64 (by omega) (by omega)
  simp [a_isobarref14_reach,ringC,hle,hw]
 refine qc_same kR (by simp [AV.pure,ringC]) (by simp) ?_
 obtain ⟨A,hA⟩:∃A,A=t/step*step:=⟨_,rfl⟩
 obtain ⟨B,hB⟩:∃B,B=step*l.length:=⟨_,rfl⟩
 have hw1:IntKind.i64.wrap ((t:Int)-(t:Int).tmod step)=(A:Int):=by rw [tmod_nat,sub_mod,hA];exact wrap_i64 (by omega) (by omega)
 have hw2:IntKind.i64.wrap ((now:Int)-B)=(now:Int)-B:=wrap_i64 (by omega) (by omega)
 rw [←hA,←hB]
 simp [hw1,hw2]
 omega
end Go.Proofs.YtdbhocoeolhjhaaGreatDoor
end
