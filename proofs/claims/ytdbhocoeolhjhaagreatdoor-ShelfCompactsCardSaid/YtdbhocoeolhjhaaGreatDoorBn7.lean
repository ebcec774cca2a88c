/- Paths of names: the functions. Shelf: slices.DeleteFunc at strings, where more lies behind the row. Shelf: files, Sync. Shelf: Append. Shelf: Sync and -/
import Derived.Test.YtdbhocoeolhjhaaGreatDoorBn1
import Derived.Test.YtdbhocoeolhjhaaGreatDoorBn2
import Derived.Test.YtdbhocoeolhjhaaGreatDoorBn3
import Derived.Test.YtdbhocoeolhjhaaGreatDoorBn4
import Derived.Test.YtdbhocoeolhjhaaGreatDoorBn5
import Derived.Test.YtdbhocoeolhjhaaGreatDoorBn6
set_option linter.unusedSimpArgs false
set_option linter.unusedVariables false
set_option linter.constructorNameAsVariable false
section
namespace Go.Proofs.YtdbhocoeolhjhaaGreatDoor
open Go.Abs Go.Glob Go.Trail
variable {G:Globs}
theorem z2e (s:List UInt8) (hs:s.length≤9223372036854775807):PCalls Tryz.prog zsV [.str s] (fun r=>r=.bool (s.all nb&& !s.isEmpty)):=by
 refine zaa hmix ztb rfl ?_
 simp [zn6]
 refine zxj (fun n f σ=>∃i:Nat,n=s.length-i∧i≤s.length∧f 0=.str s∧f 5=.int .i64 s.length∧f 6=.int .i64 i∧(s.take i).all nb=true∧σ= []) s.length ⟨0,by simp⟩ ?_
 rintro n f σ ⟨i,rfl,hi,h0,h5,h6,hall,rfl⟩
 simp [h5,h6]
 refine zax (fun hlt=> ?_) (fun hge=> ?_)
 ·have hlt':i<s.length:=by omega
  simp [h0,h6,yad hlt']
  refine zad (z5N _) (by simp) ?_
  rintro r rfl
  simp
  refine zxc (fun hn=> ?_) (fun hn=> ?_)
  ·simp
   intro h
   have:=h _ (yat hlt')
   simp [this] at hn
  ·simp [h0,h5,h6]
   refine ⟨_, ?_,i+1,rfl,by omega,by rw [wrap_i64 (by omega) (by omega)];simp, ?_⟩
   ·omega
   ·simp only [Bool.not_eq_eq_eq_not,Bool.not_false] at hn
    intro x hx
    rw [yax,yad hlt'] at hx
    simp only [ydu,yai,ybh] at hx
    rcases hx with hx|rfl
    ·simpa using yaz.1 hall x hx
    ·exact hn
 ·have e:s.take i=s:=yao (by omega)
  rw [e] at hall
  simp [h0,hall]
  cases s<;>simp
theorem z6R (s:List UInt8) (hs:s.length≤9223372036854775807):PCalls Tryz.prog zws [.str s] (fun r=>r=.bool (zwh s)):=by
 refine zaa hmix zuO rfl ?_
 simp [zoZ]
 by_cases h:s.length≤32
 ·have h':(s.length:Int)≤32:=by omega
  simp [h,h']
  refine zad (z2e s hs) (by simp) ?_
  rintro r rfl
  simp [zwh,h,h']
 ·have h':¬(s.length:Int)≤32:=by omega
  simp [h,h',zwh]
theorem z2n (s:List UInt8):PCalls Tryz.prog 304 [.str s,.str [46]] (fun r=>r=.int .i64 (Lib.indexByte s 46)):=by
 intro base κ Im w vs hs hv
 obtain ⟨v0,v1,rfl⟩:∃v0 v1,vs= [v0,v1]:=by
  match vs,hv.1 with
  | [a,b],_=>exact ⟨a,b,rfl⟩
 have e0:=(hv.2 0 (by simp) (by simp)).str_inv
 have e1:=(hv.2 1 (by simp) (by simp)).str_inv
 simp only [ycn,ydo] at e0 e1
 subst e0;subst e1
 refine (Tryz.strings_Index_one ⟨s.toArray⟩ 46 w).mono ?_
 rintro e w' ⟨rfl,rfl⟩
 exact ⟨_,[],_,κ,Im,rfl,⟨rfl,rfl⟩,hs,Grow.refl _ _ _ _,.im _ _ (.int .i64 (Lib.indexByte s 46))⟩
theorem zsa (a b:List (List UInt8)):zaW (a++b)=zaW a++zaW b:=by simp [zaW]
theorem zng (σ:zac) (l:List (List UInt8)):((zaW l).mapM fun (c:List AV)=>c.mapM (zeS σ))=some (zaW l):=by
 induction l with
 |nil=>rfl
 |cons a l ih=>
  simp only [zaW,yc6] at ih⊢
  rw [yb5,ih]
  simp [zeS]
theorem zv4 (s:List UInt8) (hs:s.length≤1000000000000000000):PCalls Tryz.prog zlt [.str s,.str [46],.int .i64 0,.int .i64 9] (fun r=>r=.lst (zaW (cutN 8 s))):=by
 refine zaa hmix zlB rfl ?_
 have hw1:IntKind.i64.wrap ((s.length:Int)+1)=(s.length:Int)+1:=wrap_i64 (by omega) (by omega)
 simp [zg2,hw1]
 obtain ⟨N,hN,hN1,hN2⟩:∃N:Nat,N+1=min 9 (s.length+1)∧N≤8∧N≤s.length:=⟨min 8 s.length,by omega,by omega,by omega⟩
 have hmm:(if (s.length:Int)+1<9 then (s.length:Int)+1 else 9)=((N+1:Nat):Int):=by split<;>omega
 simp only [hmm]
 refine zrX (N+1) rfl rfl (by omega) (by omega) (by omega) rfl ?_
 have hw2:IntKind.i64.wrap (((N+1:Nat):Int)-1)=N:=by rw [wrap_i64 (by omega) (by omega)];omega
 have hw3:IntKind.i64.wrap (N:Int)=N:=wrap_i64 (by omega) (by omega)
 simp [hw2]
 have hcut0:∀k,cutN k []= [[]]:=fun k=>by cases k<;>simp [cutN,Lib.indexByte]
 refine zah (fun x f σ=>∃(i:Nat) (done:List (List UInt8)) (s':List UInt8),x=N-i∧i≤N∧done.length=i∧f 0=.str s'∧f 1=.str [46]∧f 2=.int .i64 0∧f 3=.int .i64 N∧f 9=.row 0 (N+1)∧f 10=.int .i64 i∧i+s'.length≤s.length∧
  cutN 8 s=done++cutN (8-i) s'∧σ= [.row 9 1 (zaW (done++List.replicate (N+1-i) [])) false]) N ?_ ?_
 ·exact ⟨0,[],s,rfl,by omega,rfl,by simp,by simp,by simp,by simp [hmm,hw2,hw3],by simp,by simp,by omega,by simp,by simp [zaW]⟩
 rintro x f σ ⟨i,done,s',rfl,hi,hdl,h0,h1,h2,h3,h9,h10,hsl,hcut,rfl⟩
 have hwi:IntKind.i64.wrap ((i:Int)+1)=(i:Int)+1:=wrap_i64 (by omega) (by omega)
 have hlenL:(zaW (done++List.replicate (N+1-i) [])).length=N+1:=by simp [zaW];omega
 have hlenL2:(zaW (done++s'::List.replicate (N-i) [])).length=N+1:=by simp [zaW];omega
 have hiN:i<N+1:=by omega
 have hL:∀x:List UInt8,(zaW (done++List.replicate (N+1-i) [])).set i [.str x]=zaW (done++x::List.replicate (N-i) []):=fun x=>by
  have e:N+1-i=(N-i)+1:=by omega
  rw [e,ydb]
  simp only [zaW,ydm,yc6]
  rw [ybi _ _ (by simp;omega)]
  simp [hdl]
 have hget:(zaW (done++List.replicate (N+1-i) []))[i]? =some [.str []]:=by
  have e:N+1-i=(N-i)+1:=by omega
  rw [e,ydb]
  simp only [zaW,ydm,yc6]
  rw [yaj (by simp;omega)]
  simp [hdl]
 obtain ⟨hgx,hgy⟩:=yaa.1 hget
 have hp1:(0:Int)≤(i:Int)+1:=by omega
 have hi1:i+1≤N+1:=by omega
 have hlen1:∀c∈zaW (done++s'::List.replicate (N-i) []),c.length=1:=fun c hc=>by
  simp only [zaW,yav] at hc
  obtain ⟨x,_,rfl⟩:=hc;rfl
 have htake:List.take (i+1) (zaW (done++s'::List.replicate (N-i) []))=zaW (done++ [s']):=by
  have e:zaW (done++s'::List.replicate (N-i) [])=zaW (done++ [s'])++zaW (List.replicate (N-i) []):=by rw [←zsa];simp
  rw [e,ycl (by simp [zaW];omega),yao (by simp [zaW];omega)]
 simp [h3,h10]
 refine zax (fun hlt=> ?_) (fun hge=> ?_)
 ·have hlt':i<N:=by omega
  simp [h0,h1]
  refine zad (z2n s') (by simp) ?_
  rintro r rfl
  simp
  rcases zlC s' with ⟨g1,g2⟩|⟨m,g1,g2,g3⟩
  ·have hend:cutN 8 s=done++ [s']:=by
    rw [hcut]
    obtain ⟨k,hk⟩:∃k,8-i=k+1:=⟨7-i,by omega⟩
    rw [hk];simp [cutN,g1]
   simp [g1]
   simp [h0,h2,h9,h10,hlenL,hiN,hget,hgy,hL,hwi]
   refine z4H (σ':= [.row 9 1 (zaW (done++s'::List.replicate (N-i) [])) true]) ⟨0,9,1,zaW (done++s'::List.replicate (N-i) []),_,rfl,zng _ _,rfl⟩ ?_
   simp [h0,h2,h9,h10,hlenL2,hwi,hlen1,hp1,hi1]
   rw [hend,htake]
  ·have hm0:¬((m:Int)<0):=by omega
   have hwm:IntKind.i64.wrap (m:Int)=m:=wrap_i64 (by omega) (by omega)
   have hwm1:IntKind.i64.wrap ((m:Int)+1)=(m:Int)+1:=wrap_i64 (by omega) (by omega)
   have hml:m≤s'.length:=by omega
   have hml1:m+1≤s'.length:=by omega
   have hmp:(0:Int)≤(m:Int)+1:=by omega
   simp [g1,hm0]
   refine z19 ?_
   simp [h0,h1,h2,h9,h10,hlenL,hiN,hget,hgy,hL,hwm,hml]
   refine z19 ?_
   simp [h0,h1,h2,h9,h10,hwm1,hmp,hml1,hwi]
   refine zae (N-(i+1)) (by omega) ⟨i+1,done++ [s'.take m],s'.drop (m+1),rfl,by omega,by simp [hdl],by simp,by simp [h1],by simp [h2],by simp [h3],by simp [h9],by simp,by simp;omega, ?_, ?_⟩
   ·rw [hcut]
    obtain ⟨k,hk⟩:∃k,8-i=k+1:=⟨7-i,by omega⟩
    have hne:¬((m:Int)= -1):=by omega
    rw [hk,show 8-(i+1)=k by omega]
    simp [cutN,g1,hne]
   ·have e:N+1-(i+1)=N-i:=by omega
    simp [e]
 ·have hend:cutN 8 s=done++ [s']:=by
   have ei:i=N:=by omega
   subst ei
   rw [hcut]
   by_cases h8:i=8
   ·rw [h8];rfl
   ·have:s'= []:=yap (by omega)
    rw [this,hcut0]
  simp [h0,h2,h9,h10,hlenL,hiN,hget,hgy,hL,hwi]
  refine z4H (σ':= [.row 9 1 (zaW (done++s'::List.replicate (N-i) [])) true]) ⟨0,9,1,zaW (done++s'::List.replicate (N-i) []),_,rfl,zng _ _,rfl⟩ ?_
  simp [h0,h2,h9,h10,hlenL2,hwi,hlen1,hp1,hi1]
  rw [hend,htake]
theorem z0t (s:List UInt8) (hs:s.length≤1000000000000000000):PCalls Tryz.prog znK [.str s,.str [46],.int .i64 9] (fun r=>r=.lst (zaW (cutN 8 s))):=by
 refine zaa hmix znP rfl ?_
 simp [zhN]
 refine zad (zv4 s hs) (by simp) ?_
 rintro r rfl
 simp
theorem z4V (s:List UInt8):(cutN 8 s).length≤8↔(sp s).length≤8:=by
 constructor
 ·intro h
  refine yd0 fun hx=> ?_
  have:=zub 8 s (by omega)
  omega
 ·intro h
  rw [zv1 8 s (by omega)];exact h
theorem z7F (s:List UInt8) (hs:s.length≤1000000000000000000):PCalls Tryz.prog zuN [.str s] (fun r=>r=.tup [.lst (zaW (cutN 8 s)),.bool (decide ((cutN 8 s).length≤8))]):=by
 refine zaa hmix zvt rfl ?_
 simp [zpz]
 refine zad (z0t s hs) (by simp) ?_
 rintro r rfl
 have e:(zaW (cutN 8 s)).length=(cutN 8 s).length:=by simp [zaW]
 simp [e]
 all_goals try exact ⟨fun h=>by omega,fun h=>by omega⟩
def zu8 (x:Option (List (List UInt8))) (e:Nat):AV:=match x with
 |some l=> .tup [.lst (zaW l),.int .i64 0]
 |none=> .tup [.lst [],.int .i64 e]
theorem zqu:∀(s:List UInt8),∀p∈sp s,p.length≤s.length
 | [],p,h=>by simp [sp] at h;simp [h]
 |c::s,p,h=>by
  have ih:=zqu s
  by_cases hc:c=46
  ·subst hc
   simp only [sp,if_true,ybb] at h
   rcases h with rfl|h
   ·simp
   ·have:=ih p h;simp;omega
  ·obtain ⟨q,ps,h1,h2⟩:=z1R hc s
   rw [h2] at h
   rw [h1] at ih
   rcases ybb.1 h with rfl|h
   ·have:=ih q (by simp);simp;omega
   ·have:=ih p (by simp [h]);simp;omega
theorem z28 (s:List UInt8) (hs:s.length≤1000000000000000000):PCalls Tryz.prog zru [.str s] (fun r=>r=zu8 (path s) 13):=by
 refine zaa hmix zrI rfl ?_
 simp [zlv]
 refine zad (z7F s hs) (by simp) ?_
 rintro r rfl
 by_cases h8:(sp s).length≤8
 ·have h8':=(z4V s).2 h8
  have ec:=zv1 8 s (by omega)
  rw [ec] at h8'⊢
  have e:(zaW (sp s)).length=(sp s).length:=by simp [zaW]
  simp [h8,e]
  have hml:=zqu s
  have hp:path s=if (sp s).all zwh=true then some (sp s) else none:=by unfold path;simp [h8]
  generalize hL:sp s=L at*
  refine zxj (fun x f σ=>∃i:Nat,x=L.length-i∧i≤L.length∧f 4=.lst (zaW L)∧f 15=.lst (zaW L)∧f 16=.int .i64 L.length∧f 17=.int .i64 i∧(L.take i).all zwh=true∧σ= []) L.length ⟨0,by simp⟩ ?_
  rintro x f σ ⟨i,rfl,hi,h4,h15,h16,h17,hall,rfl⟩
  simp [h16,h17]
  refine zax (fun hlt=> ?_) (fun hge=> ?_)
  ·have hlt':i<L.length:=by omega
   obtain ⟨p,hpp⟩:∃p,L[i]? =some p:=⟨_,yad hlt'⟩
   have hm:p∈L:=yaf hpp
   have hse:(zaW L)[i]? =some [.str p]:=by simp [zaW,hpp]
   obtain ⟨hx1,hx2⟩:=yaa.1 hse
   simp [h15,h17,hse,hx2]
   refine zad (z6R p (by have:=hml p hm;omega)) (by simp) ?_
   rintro r rfl
   simp
   refine zxc (fun hn=> ?_) (fun hn=> ?_)
   ·have hno:¬L.all zwh=true:=fun h=>by
     have:=yaz.1 h p hm
     simp [this] at hn
    simp [hp,hno,zu8]
   ·simp [h4,h15,h16,h17]
    refine ⟨_, ?_,i+1,rfl,by omega,by rw [wrap_i64 (by omega) (by omega)];simp, ?_⟩
    ·omega
    ·simp only [Bool.not_eq_eq_eq_not,Bool.not_false] at hn
     intro x hx
     rw [yax,hpp] at hx
     simp only [ydu,yai,ybh] at hx
     rcases hx with hx|rfl
     ·exact yaz.1 hall x hx
     ·exact hn
  ·have e:L.take i=L:=yao (by omega)
   rw [e] at hall
   simp [h4,hp,hall,zu8]
 ·have h8':¬(cutN 8 s).length≤8:=fun h=>h8 ((z4V s).1 h)
  have hp:path s=none:=by unfold path;simp [h8]
  simp [h8',hp,zu8]
theorem z2H (s:List UInt8) (hs:s.length≤1000000000000000000):PCalls Tryz.prog zlM [.str s] (fun r=>r=.bool (path s).isSome):=by
 refine zaa hmix zrN rfl ?_
 simp [zl8]
 refine zad (z28 s hs) (by simp) ?_
 rintro r rfl
 cases path s<;>simp [zu8]
end Go.Proofs.YtdbhocoeolhjhaaGreatDoor
end
section
set_option maxHeartbeats 4000000
namespace Go.Abs
def z6S [Globs] (P:Program) (Q:zac→Prop) (g:FuncId) (capt:List AV) (V:List AV→AV) (p:List AV→Bool) (els:List (List AV)):Prop:=∀c∈els,∀(σ:zac) (K:AV→zac→Prop),Q σ→K (.bool (p c)) σ→zsp P σ K g (V c::capt)
theorem zwA [Globs] {P:Program} {Q:zac→Prop} {σ:zac} {g:FuncId} {capt:List AV} {V:List AV→AV} {p:List AV→Bool} {els:List (List AV)} (hb:zaJ P g=true) (h:z6S P Q g capt V p els) (hq:Q σ) {c:List AV} (hc:c∈els) {K:AV→zac→Prop} {t:Tg K} (hK:K (.bool (p c)) σ):
  cv P K t σ (.fn (.func g) [] capt) [V c]:=⟨hb,by simpa using h c hc σ K hq hK⟩
end Go.Abs
namespace Go.Proofs.YtdbhocoeolhjhaaGreatDoor
open Go.Abs Go.RowKit Go.Sf
variable {G:Globs}
theorem z3I (pre:zac) (els:List (List AV)) (he:Els 1 els) (hl:els.length≤1000000000) (p:List AV→Bool) (g:Nat) (capt:List AV) (hb:zaJ Tryz.prog g=true) (post:zac) (Q:zac→Prop) (hQ:∀Y tl,Q (pre++ .row 9 1 Y false::(post++tl))) (hg:z6S Tryz.prog Q g capt (fun c=>c.headD .junk) p els):
  ACalls Tryz.prog zer [.row pre.length els.length,.fn (.func g) [] capt] (pre++ .row 9 1 els false::post) (fun r σ'=>r=.int .i64 (idxE p els)∧σ'=pre++ .row 9 1 els false::post):=by
 refine zag hmix zez rfl ?_
 simp [zcl]
 refine zah (fun x f σ=>∃(i:Nat),x=els.length-i∧i≤els.length∧f 0=.row pre.length els.length∧f 1=.fn (.func g) [] capt∧f 7=.int .i64 els.length∧f 8=.int .i64 i∧(∀m∈els.take i,p m=false)∧σ=pre++ .row 9 1 els false::post) els.length ?_ ?_
 ·exact ⟨0,by simp,by simp,by simp,by simp,by simp,by simp,by simp,by simp⟩
 rintro x f σ ⟨i,hx,hi,h0,h1,h7,h8,hall,rfl⟩
 simp [h7,h8]
 refine zax (fun hlt=> ?_) (fun hge=> ?_)
 ·have hlt':i<els.length:=by omega
  have hwi:IntKind.i64.wrap ((i:Int)+1)=((i+1:Nat):Int):=by rw [wrap_i64 (by omega) (by omega)];omega
  obtain ⟨c,hc⟩:∃c,els[i]? =some c:=⟨_,yad hlt'⟩
  obtain ⟨hx1,hx2⟩:=yaa.1 hc
  have hcm:=yaf hc
  have hcl:=he.1 c hcm
  obtain ⟨c0,rfl⟩:∃c0,c= [c0]:=List.length_eq_one_iff.1 hcl
  simp [h0,h1,h8,hc,hx2,hcl,hlt',yao]
  refine zwA hb hg (by simpa using hQ els []) hcm ?_
  cases hp:p [c0] with
  |true=>
   have:=zio hc hp hall
   simp
   refine za5 (pre++ .row 9 1 els false::post) (.int .i64 (idxE p els)) (by simp [zaE,this]) [] (by simp) (by simp) (by simp [AV.under]) (fun i e he=> .inl he) ⟨rfl,rfl⟩
  |false=>
   simp [h8,hwi]
   refine zae (els.length-(i+1)) (by omega) ⟨i+1,rfl,by omega,by simp [h0],by simp [h1],by simp [h7],by simp,fun m hm=> ?_,rfl⟩
   rw [yax,hc] at hm
   simp only [ydu,yai,ybh] at hm
   rcases hm with hm|rfl
   ·exact hall m hm
   ·exact hp
 ·have hil:i=els.length:=by omega
  rw [hil,ya1] at hall
  have:=zid hall
  simp
  refine za5 (pre++ .row 9 1 els false::post) (.int .i64 (idxE p els)) (by simp [zaE,this]) [] (by simp) (by simp) (by simp [AV.under]) (fun i e he=> .inl he) ⟨rfl,rfl⟩
theorem z6N (pre:zac) (els:List (List AV)) (he:Els 1 els) (hl:els.length≤1000000000) (p:List AV→Bool) (g:Nat) (capt:List AV) (hb:zaJ Tryz.prog g=true) (post:zac) (Q:zac→Prop) (hQ:∀Y tl,Q (pre++ .row 9 1 Y false::(post++tl))) (hg:z6S Tryz.prog Q g capt (fun c=>c.headD .junk) p els):
  ACalls Tryz.prog zdP [.row pre.length els.length,.fn (.func g) [] capt] (pre++ .row 9 1 els false::post)
   (fun r σ'=>∃X:List (List AV),σ'=pre++ .row 9 1 X false::post∧X.length=els.length∧Els 1 X∧((r=.row pre.length els.length∧X=els.filter fun n=> !p n)∨(r=.sub pre.length els.length 1 0 (els.filter fun n=> !p n).length∧X.take (els.filter fun n=> !p n).length=els.filter fun n=> !p n))):=by
 refine zag hmix zdM rfl ?_
 simp [zbQ]
 refine zar (z3I pre els he hl p g capt hb post Q hQ hg) ?_
 rintro r σ ⟨rfl,rfl⟩
 rcases zjh p els with ⟨hi1,hall⟩|⟨k,n,hk,hpn,hbefore,hi2⟩
 ·have hf:(els.filter fun n=> !p n)=els:=ydn.2 fun n hn=>by simp [hall n hn]
  rw [hf]
  simp [hi1]
  refine za5 (pre++ .row 9 1 els false::post) (.row pre.length els.length) (by simp [zaE]) [] (by simp) (by simp) (by simp [AV.under]) (fun i e he=> .inl he) ⟨els,rfl,rfl,he,.inl ⟨rfl,rfl⟩⟩
 ·have hkl:k<els.length:=(yaa.1 hk).1
  have hpos:0<els.length:=by omega
  have hkn:¬((k:Int)= -1):=by omega
  have hwk:IntKind.i64.wrap ((k:Int)+1)=((k+1:Nat):Int):=by rw [wrap_i64 (by omega) (by omega)];omega
  simp [hi2,hkn,hwk]
  have hfk:((els.take k).filter fun n=> !p n)=els.take k:=ydn.2 fun n hn=>by simp [hbefore n hn]
  refine zah (fun x f σ=>∃(j:Nat) (mid:List (List AV)) (tl:zac),x=els.length-j∧j≤els.length∧f 0=.row pre.length els.length∧f 1=.fn (.func g) [] capt∧f 5=.int .i64 ((els.take j).filter fun n=> !p n).length∧f 6=.int .i64 j∧((els.take j).filter fun n=> !p n).length+mid.length=j∧Els 1 mid∧
   σ=pre++ .row 9 1 (((els.take j).filter fun n=> !p n)++(mid++els.drop j)) false::(post++tl)) (els.length-(k+1)) ?_ ?_
  ·have ht1:els.take (k+1)=els.take k++ [n]:=by rw [yax,hk];rfl
   have hf1:((els.take (k+1)).filter fun n=> !p n)=els.take k:=by
    rw [ht1,ycy,hfk];simp [hpn]
   have hnm:=yaf hk
   refine ⟨k+1,[n],[],by omega,by omega,by simp,by simp, ?_,by simp, ?_,⟨(fun c hc=>by simp at hc;subst hc;exact he.1 _ hnm),(fun c hc=>by simp at hc;subst hc;exact he.2.1 _ hnm),(fun c hc=>by simp at hc;subst hc;exact he.2.2 _ hnm)⟩, ?_⟩
   ·rw [hf1];simp [hi2,ybt (ydx hkl)]
   ·rw [hf1];simp [ybt (ydx hkl)]
   ·rw [hf1]
    have:els.take k++([n]++els.drop (k+1))=els:=by
     rw [←ya3,←ht1,ya9]
    rw [this]
    simp
  rintro x f σ ⟨j,mid,tl,hx,hj,h0,h1,h5,h6,hmid,hem,rfl⟩
  obtain ⟨A,hA⟩:∃A,A=(els.take j).filter fun n=> !p n:=⟨_,rfl⟩
  rw [←hA] at h5 hmid
  rw [←hA]
  have heA:Els 1 A:=⟨fun c hc=>he.1 c (by rw [hA] at hc;exact yak (ybn.1 hc).1),fun c hc=>he.2.1 c (by rw [hA] at hc;exact yak (ybn.1 hc).1),fun c hc=>he.2.2 c (by rw [hA] at hc;exact yak (ybn.1 hc).1)⟩
  have hlen:(A++(mid++els.drop j)).length=els.length:=by simp;omega
  simp only [yag,ya2] at hlen
  simp [h0,h6,hlen]
  refine zax (fun hlt=> ?_) (fun hge=> ?_)
  ·have hlt':j<els.length:=by omega
   have hwj:IntKind.i64.wrap ((j:Int)+1)=((j+1:Nat):Int):=by rw [wrap_i64 (by omega) (by omega)];omega
   obtain ⟨c,hv⟩:∃c,els[j]? =some c:=⟨_,yad hlt'⟩
   have hdrop:els.drop j=c::els.drop (j+1):=by
    obtain ⟨h1,h2⟩:=yaa.1 hv
    rw [ybw h1,h2]
   have hget:(A++(mid++els.drop j))[j]? =some c:=by
    rw [←ya3,yaj (by simp;omega)]
    have:j-(A++mid).length=0:=by simp;omega
    rw [this,hdrop];rfl
   obtain ⟨hx1,hx2⟩:=yaa.1 hget
   have hcm:=yaf hv
   have hcl:=he.1 c hcm
   have htake:els.take (j+1)=els.take j++ [c]:=by rw [yax,hv];rfl
   obtain ⟨c0,rfl⟩:∃c0,c= [c0]:=List.length_eq_one_iff.1 hcl
   have hone:=he.2.2 _ hcm
   simp [h0,h1,h6,hlen,hlt',hget,hx2,hcl,yao,zgh,zgv]
   skip
   refine zwA hb hg (hQ _ tl) hcm ?_
   cases hpv:p [c0] with
   |true=>
    have hf1:((els.take (j+1)).filter fun n=> !p n)=A:=by rw [htake,ycy,←hA];simp [hpv]
    simp [h6,hwj]
    refine zae (els.length-(j+1)) (by omega) ⟨j+1,mid++ [[c0]],tl,rfl,by omega,by simp [h0],by simp [h1],by rw [hf1];simp [h5],by simp,by rw [hf1];simp;omega,⟨fun d hd=> ?_,fun d hd=> ?_,fun d hd=> ?_⟩, ?_⟩
    ·rcases yai.1 hd with h|h
     ·exact hem.1 d h
     ·simp at h;subst h;exact he.1 _ hcm
    ·rcases yai.1 hd with h|h
     ·exact hem.2.1 d h
     ·simp at h;subst h;exact he.2.1 _ hcm
    ·rcases yai.1 hd with h|h
     ·exact hem.2.2 d h
     ·simp at h;subst h;exact he.2.2 _ hcm
    ·rw [hf1,hdrop];simp
   |false=>
    have hf1:((els.take (j+1)).filter fun n=> !p n)=A++ [[c0]]:=by rw [htake,ycy,←hA];simp [hpv]
    obtain ⟨mid',hs1,hs2,hs3⟩:=zrT A mid (els.drop (j+1)) [c0]
    have hAl:A.length<els.length:=by omega
    obtain ⟨d0,hd0⟩:∃d0,(A++(mid++els.drop j))[A.length]? =some d0:=⟨_,yad (by simp;omega)⟩
    obtain ⟨hy1,hy2⟩:=yaa.1 hd0
    have hd0l:d0.length=1:=by
     have:=yaf hd0
     rcases yai.1 this with h|h
     ·exact heA.1 _ h
     ·rcases yai.1 h with h|h
      ·exact hem.1 _ h
      ·exact he.1 _ (yau h)
    have hwA:IntKind.i64.wrap ((A.length:Int)+1)=((A.length+1:Nat):Int):=by rw [wrap_i64 (by omega) (by omega)];omega
    have hsp:splice d0 0 [c0]= [c0]:=by
     have hd:d0.drop 1= []:=ybu (by omega)
     simp [splice,hcl,hd]
    have hset:(A++(mid++els.drop j)).set A.length [c0]=A++ [[c0]]++(mid'++els.drop (j+1)):=by
     rw [hdrop,hs1];simp
    have hset2:(mid++els.drop j).set 0 [c0]= [c0]::(mid'++els.drop (j+1)):=by
     rw [ybi _ _ (yaq _),ycx] at hset
     simpa using hset
    have hdd:d0.drop 1= []:=ybu (by omega)
    have hce:c0.cells= [c0]:=z0r (by have:=hone c0 (by simp);exact this)
    simp [h0,h1,h5,h6,hlen,hAl,hd0,hy2,hd0l,hcl,hwj,hwA,yao,zgh,zgv,splice,hdd,hset2,hce,hone c0]
    skip
    refine zae (els.length-(j+1)) (by omega) ⟨j+1,mid',tl,rfl,by omega,by simp [h0],by simp [h1],by rw [hf1];simp,by simp,by rw [hf1];simp;omega,⟨fun d hd=> ?_,fun d hd=> ?_,fun d hd=> ?_⟩, ?_⟩
    ·rcases hs3 d hd with h|rfl
     ·exact hem.1 d h
     ·exact he.1 _ hcm
    ·rcases hs3 d hd with h|rfl
     ·exact hem.2.1 d h
     ·exact he.2.1 _ hcm
    ·rcases hs3 d hd with h|rfl
     ·exact hem.2.2 d h
     ·exact he.2.2 _ hcm
    ·rw [hf1];simp
  ·have hjl:j=els.length:=by omega
   subst hjl
   rw [ya1] at hA
   rw [yd2,yby]
   rw [ycx,ycb] at hlen
   have hAle:A.length≤els.length:=by omega
   have hdz:(A++mid).drop els.length= []:=ybu (by simp;omega)
   simp [h0,h5,hlen,hpos,hAle,hdz]
   rw [←hA]
   obtain ⟨Y,hY⟩:∃Y,Y=A++List.replicate (els.length-A.length) [.str []]:=⟨_,rfl⟩
   have hYe:Els 1 Y:=by
    rw [hY]
    refine ⟨fun d hd=> ?_,fun d hd=> ?_,fun d hd=> ?_⟩
    ·rcases yai.1 hd with h|h
     ·exact heA.1 d h
     ·rw [(ybp.1 h).2];rfl
    ·rcases yai.1 hd with h|h
     ·exact heA.2.1 d h
     ·rw [(ybp.1 h).2];simp [AV.pure]
    ·rcases yai.1 hd with h|h
     ·exact heA.2.2 d h
     ·rw [(ybp.1 h).2];simp [AV.one]
   have hYt:Y.take A.length=A:=by rw [hY,ycj];rfl
   rw [←hY]
   refine za5 (pre++ .row 9 1 Y false::post) (.sub pre.length els.length 1 0 A.length) (by simp [zaE]) tl (by simp) (by simp) (by simp [AV.under]) (fun i e he'=> ?_) ⟨Y,rfl,by rw [hY];simp;omega,hYe,.inr ⟨rfl,hYt⟩⟩
   rcases ycv i pre.length with h|h|h
   ·rw [yar h] at he'⊢
    exact .inl he'
   ·subst h
    simp at he'
    subst he'
    exact .inr (za7 hYe.2.1)
   ·rw [yaj (by omega)] at he'⊢
    obtain ⟨j,hj⟩:∃j,i-pre.length=j+1:=⟨i-pre.length-1,by omega⟩
    rw [hj] at he'⊢
    exact .inl he'
end Go.Proofs.YtdbhocoeolhjhaaGreatDoor
end
section
set_option maxHeartbeats 4000000
namespace Go.Proofs.YtdbhocoeolhjhaaGreatDoor
open Go.Abs Go.RowKit Go.Sf Go.Num
variable {G:Globs}
theorem ztk (l:List Txt):Els 1 (zd2 l):=by
 refine ⟨fun c hc=> ?_,fun c hc=> ?_,fun c hc=> ?_⟩<;>obtain ⟨n,_,rfl⟩:=yav.1 hc<;>simp [AV.pure,AV.one]
theorem z3E (σ:zac) (m k:Nat) (l:List Txt):((zd2 l).mapM fun (c:List AV)=>c.mapM (fz σ m k))=some (zd2 l):=zdg (ztk l).2.1 (fun c hc=>by obtain ⟨n,_,rfl⟩:=yav.1 hc;simp)
theorem z0O {σ:zac} {i j:Nat} {but own:Txt} (hi:σ[i]? =some (.var 9 [.str but])) (hj:σ[j]? =some (.var 9 [.str own])) (t:Txt):ACalls Tryz.prog zi4 [.str t,.ptr i 0,.ptr j 0] σ (fun r σ'=>r=.bool (decide (t=but)|| !Lib.hasPrefix t own)∧σ'=σ):=by
 refine zag hmix zo9 rfl ?_
 by_cases h:t=but
 ·simp [zfL,hi,hj,h]
  exact za5 σ (.bool true) (by simp [zaE]) [] (by simp) (yaq _) (by simp [AV.under]) (fun _ _ h=> .inl h) ⟨by simp [h],rfl⟩
 ·simp [zfL,hi,hj,h]
  refine zad (z0S t own) (by simp) ?_
  rintro r rfl
  simp
  exact za5 σ (.bool (!Lib.hasPrefix t own)) (by simp [zaE]) [] (by simp) (yaq _) (by simp [AV.under]) (fun _ _ h=> .inl h) ⟨by simp [h],rfl⟩
def z7Z (but own:Txt) (c:List AV):Bool:=match c with
 | [.str t]=>decide (t=but)|| !Lib.hasPrefix t own
 |_=>false
theorem zwq (l:List Txt) (but own:Txt):((zd2 l).filter fun n=> !z7Z but own n)=zd2 (l.filter fun t=> !(decide (t=but)|| !Lib.hasPrefix t own)):=by
 unfold zd2
 rw [List.filter_map]
 rfl
theorem z4q (d:DiskM) (h:RightM d) (hl:Fits d) (id:Nat) (hid:id<100) (but:Txt):PCalls Tryz.prog zrC [.agg (zak d),.int .i64 id,.str but] (fun r=>r=.lst (zd2 (zfd d id but))):=by
 refine zaa hmix zsm rfl ?_
 have kL:=zrS (G:=G) [.var 30 (zak d),.var 9 [.str but]] d h hl
 have d2:=zv8 id hid
 have l1:(Lib.decDigits id).length≤9223372036854775806:=by omega
 have hnn:=hl.nnames
 simp only [zak] at kL
 simp [zla,zak]
 refine zar kL ?_
 rintro r σ' ⟨rfl,rfl⟩
 simp
 refine zad (zvA id hid) (by simp) ?_
 rintro r rfl
 simp [l1,splice]
 obtain ⟨D0,hD0⟩:∃D0:Entry,D0=.var 30 (zak d):=⟨_,rfl⟩
 obtain ⟨own,hown⟩:∃own,own=Lib.decDigits id++ [46]:=⟨_,rfl⟩
 obtain ⟨ss,hss⟩:∃ss,ss=d.names.map NameM.name:=⟨_,rfl⟩
 have hsl:=zin ss
 have hsl2:ss.length=d.names.length:=by rw [hss];simp
 have hfil:zfd d id but=ss.filter fun t=> !(decide (t=but)|| !Lib.hasPrefix t own):=by rw [hss,hown];rfl
 have kD:=z6N (G:=G) [D0,.var 9 [.str but],D0] (zd2 ss) (ztk ss) (by omega) (z7Z but own) zi4 [.ptr 1 0,.ptr 4 0] zo4 [.var 9 [.str own]]
  (fun σ=>σ[1]? =some (.var 9 [.str but])∧σ[4]? =some (.var 9 [.str own])) (fun Y tl=>⟨rfl,rfl⟩) (fun c hc σ K hq hK=>by
   obtain ⟨t,_,rfl⟩:=yav.1 hc
   exact .inr (.inr ((z0O hq.1 hq.2 t).mono fun r σ' ⟨hr,hs⟩=>by subst hr;subst hs;exact hK)))
 rw [zwq,←hfil] at kD
 have hfl:=zin (zfd d id but)
 rw [hsl,hsl2,hfl] at kD
 subst hss hown hD0
 refine zar kD ?_
 rintro r σ' ⟨X,rfl,hXl,hXe,⟨rfl,rfl⟩|⟨rfl,hX⟩⟩
 ·rw [hfl] at hXl
  simp [hXl,z3E,hfl]
 ·simp [hXl]
  have hd:(zd2 (zfd d id but)).map (fun c=>c.map zu5)=zd2 (zfd d id but):=by
   unfold zd2
   rw [List.map_map]
   rfl
  rw [z1i hXe.2.1]
  simp
  rw [if_pos (by
   intro c hc
   have:=hXe.1 c hc
   simpa using this)]
  rw [←yem,hX,hd]
  simp
end Go.Proofs.YtdbhocoeolhjhaaGreatDoor
end
section
set_option maxHeartbeats 8000000
namespace Go.Proofs.YtdbhocoeolhjhaaGreatDoor
open Go.Abs Go.RowKit Go.Sf Go.Num
variable {G:Globs}
theorem zvE:∀p∈P4,(Go.Trail.path p).isSome=true:=by decide+kernel
theorem z4l {p:Txt} (h:p∈P4):PCalls Tryz.prog zlM [.str p] (fun r=>r=.bool true):=by
 have hl:∀q∈P4,q.length≤1000000000000000000:=by decide
 have:=z2H (G:=G) p (hl p h)
 rw [zvE p h] at this
 exact this
theorem zyt (hT:zlX G) (p:Txt) (h0:p≠ []) (hl:p.length≤100):PCalls Tryz.prog zeg [.agg (zaM p)] (fun r=>r=.tup [.lst (byteEls (zaL (zba p))),.int .i64 0]):=by
 refine zaa hmix zdR rfl ?_
 have kP:=zw8 (G:=G) p h0 hl
 simp only [zaM] at kP
 have hne:zba p≠ []:=by simp [zba]
 have hle:(zba p).length≤512:=by rw [zcx];omega
 simp [zcT,zaM]
 refine zad kP (by simp [AV.pure,rungsC]) ?_
 rintro r rfl
 simp
 refine zar (zhL hT (zba p) hne hle) ?_
 rintro r σ' ⟨rfl,rfl⟩
 simp [zgT,zab]
theorem zkP {σ:zac} {k:Nat} (s was:ShM) (m:MetM) (hk:σ[k]? =some (.var 127 (wkC s))) (hs:Srt kM s.mets) (hl:s.mets.length≤1000) (hx:s.next≤1000000) (hi:m.id≤1000000):
  ACalls Tryz.prog zjQ [.ptr k 0,.agg (shC was),.agg (metC m)] σ (fun r σ'=>r=.tup [.agg (shC (zco s m)),.int .i64 0]∧σ'=σ):=by
 refine zag hmix zjR rfl ?_
 have kW:=z3L (G:=G) s m hs hl hx hi
 have hg:=zdu hk
 simp only [shC,metC] at kW
 simp [zfK,shC,metC,hg,wkC]
 refine zaZ kW (by simp [AV.pure]) ?_
 simp [zbu,za6,zaY,zdv,splice]
 exact zhr (.tup [.agg (shC (zco s m)),.int .i64 0]) (by simp [zaE,shC,zaY]) (by simp [AV.under,shC]) ⟨by simp [shC],rfl⟩
def zhB (s:ShM) (p:Txt) (bs:List ArrM):AV:=
 if∀a∈bs,OkV a then
  if bs= [] then .tup [.agg (shC s),.int .i64 0]
  else if (zaO (zaz s p) bs).length≤s.disk.quota-zaC s.disk then .tup [.agg (shC (zcb s (zaz s p) bs)),.int .i64 0]
  else .tup [.agg (shC s),.int .i64 6]
 else .tup [.agg (shC s),.int .i64 1]
theorem zp8 {s:ShM} {a k:Nat} (h:InvS s a k) {p:Txt}:PCalls Tryz.prog zif [.agg (shC s),.str p] (fun r=>∃(x0:Int) (x1:Txt) (x2:List (List AV)) (x3 x4 x5 x6:Int) (x7:List (List AV)) (x8 x9 x10 e:Int),
  r=.tup [.agg [.int .i64 x0,.str x1,.lst x2,.int .i64 x3,.int .i64 x4,.int .i64 x5,.int .i64 x6,.lst x7,.int .i64 x8,.int .i64 x9,.int .i64 x10],.int .i64 e]∧
  ((¬hasK kM s.mets p∧e=15)∨(hasK kM s.mets p∧e=0∧ [.int .i64 x0,.str x1,.lst x2,.int .i64 x3,.int .i64 x4,.int .i64 x5,.int .i64 x6,.lst x7,.int .i64 x8,.int .i64 x9,.int .i64 x10]=metC (zaz s p)))):=by
 have hlen:=h.len
 by_cases hh:hasK kM s.mets p
 ·obtain ⟨h1,h2⟩:=zdn h.srt hh
  exact (zlQ s p h.srt (by omega) h1 h2).mono fun r hr=>⟨_,_,_,_,_,_,_,_,_,_,_,_,hr,.inr ⟨hh,rfl,rfl⟩⟩
 ·exact (zwP s p h.srt (by omega) hh).mono fun r hr=>⟨_,_,_,_,_,_,_,_,_,_,_,_,hr,.inl ⟨hh,rfl⟩⟩
theorem zq1 (hT:zlX G) {s:ShM} {a k:Nat} (h:InvS s a k) (ha:a<69) (hk:k≤100000) {p:Txt} (hp:p∈P4) (bs:List ArrM) (hb:∀x∈bs,OkA x) (hl:bs.length≤300):
  PCalls Tryz.prog zpG [.agg (shC s),.str p,.agg schC,.lst (zbi bs)] (fun r=>r=zhB s p bs):=by
 refine zaa hmix zpT rfl ?_
 have ho:=h.met hp
 have hlen:=h.len
 have hfits:=h.size.fits (by omega) (by omega)
 have hle:=zc7 bs
 obtain ⟨m,hm⟩:∃m,m=zaz s p:=⟨_,rfl⟩
 have ho':OkMet s p a m:=by rw [hm];exact ho
 obtain ⟨V0,hV0⟩:∃V0:Entry,V0=.var 33 (shC s):=⟨_,rfl⟩
 obtain ⟨V1,hV1⟩:∃V1:Entry,V1=.var 52 schC:=⟨_,rfl⟩
 obtain ⟨V2,hV2⟩:∃V2:Entry,V2=.var 33 [.int .i64 0,.nils,.nils,.nils,.nils,.int .i64 0,.nils,.int .i64 0,.int .i64 0,.bool false]:=⟨_,rfl⟩
 have kTr:=z4l (G:=G) hp
 have hFd:=zp8 (G:=G) h (p:=p)
 simp only [shC] at hFd
 simp [zjF,shC,schC]
 refine zad hFd (by simp [AV.pure]) ?_
 rintro r ⟨x0,x1,x2,x3,x4,x5,x6,x7,x8,x9,x10,e,rfl,hx⟩
 simp [splice, -zsC]
 refine z3w (fun f σ=>f 1=.str p∧f 3=.lst (zbi bs)∧f 4=.ptr 0 0∧f 6=.ptr 1 0∧f 8=.ptr 2 0∧f 9=.int .i64 0∧f 10=.ptr 3 0∧σ= [V0,V1,V2,.var 57 (metC m)]) ?_ ?_
 ·rintro f σ ⟨f1,f3,f4,f6,f8,f9,f10,rfl⟩
  have kAc:=zzQ (G:=G) m.lad (by rw [hm];exact ho.lad) bs hb (by omega)
  simp only [ladC] at kAc
  simp [f3,f4,f10,metC]
  by_cases hv:∀a∈bs,OkV a
  ·rw [if_pos hv,ztJ hv] at kAc
   have hR:zhB s p bs=if bs= [] then .tup [.agg (shC s),.int .i64 0] else if (zaO m bs).length≤s.disk.quota-zaC s.disk then .tup [.agg (shC (zcb s m bs)),.int .i64 0] else .tup [.agg (shC s),.int .i64 6]:=by
    unfold zhB;rw [if_pos hv,hm]
   rw [hR]
   refine zad kAc (by simp [AV.pure]) ?_
   rintro r rfl
   by_cases h0:bs= []
   ·simp [splice,f3,f4,f8,f10,h0,hle,zbi,hV0,hV2,shC]
   ·have hlp:bs.length≠0:=fun e=>h0 (ydh.1 e)
    have kF:=zzC (G:=G) hT bs (fun x hx=>⟨hb x hx,hv x hx⟩) (by omega)
    rw [if_neg h0]
    simp [splice,f3,f4,f8,f10,h0,hle,hlp]
    refine zad kF (by simp [AV.pure]) ?_
    rintro r rfl
    have hid5:=ho'.id5
    have hseq:=ho'.seq
    have hpath:=ho'.path
    have hpl:m.path≠ []∧m.path.length≤100:=by
     rw [hpath]
     have:∀q∈P4,q≠ []∧q.length≤100:=by decide
     exact this p hp
    have kHd:=zxa (G:=G) {m with lad:=zcH m.lad bs}
    have kFr:=zyt (G:=G) hT m.path hpl.1 hpl.2
    have kCc:=zmN (G:=G) (zaL (zba m.path)) (zcw bs) (by rw [zbq,zcx];omega) (by rw [zfP];omega)
    have hbl:=zab (zaO m bs)
    have hbl2:(zaO m bs).length≤20000:=by
     have h1:=zfP bs
     unfold zaO;split
     ·rw [yag,zbq,zcx,h1];omega
     ·omega
    have kRm:=fun more=>zw7 (G:=G) s.disk h.size.right hfits (zaO m bs).length (by omega) more (by have:=h.size.files;omega)
    simp only [zak] at kRm
    have hqB:IntKind.i64.wrap ((if (m.base:Int)<m.last then (m.last:Int) else (m.base:Int))+1)=((zaH m:Nat):Int):=by
     unfold zaH
     rw [wrap_i64 (by split<;>omega) (by split<;>omega)];split<;>omega
    have hqB':IntKind.i64.wrap ((if m.base<m.last then (m.last:Int) else (m.base:Int))+1)=((zaH m:Nat):Int):=by
     unfold zaH
     rw [wrap_i64 (by split<;>omega) (by split<;>omega)];split<;>omega
    have hmid:(metA m bs).id=m.id:=by unfold metA;split<;>rfl
    have hwc:IntKind.i64.wrap (bs.length:Int)=bs.length:=wrap_i64 (by omega) (by omega)
    have hn70:zaH m<70:=by unfold zaH;omega
    have kNm:PCalls Tryz.prog zcR [.int .i64 m.id,.int .i64 (zaH m:Nat),.str [46,112]] (fun r=>r=.str (newN m)):=ziS m.id (zaH m) zd8 (by omega) (by omega) (by decide)
    have okN:okS (newN m):=zcL m.id hid5 (zaH m) hn70 zd8 (by simp)
    have hnoN:¬hasK kN s.disk.names (newN m):=ho'.fresh h ha (q:=zaH m) (by unfold zaH;omega) hn70 (by simp)
    have hfiles:s.disk.files.length<256:=by have:=h.size.files;omega
    have hnx:s.disk.next<1099511627776:=by have:=h.size.next;omega
    simp only [metC] at kHd
    by_cases hl0:m.last=0
    ·have ht:zmw m=true:=by unfold zmw;simp [hl0]
     have hby:zaO m bs=zaL (zba m.path)++zcw bs:=by unfold zaO;rw [if_pos ht]
     simp only [hl0] at kHd
     have hqA:IntKind.i64.wrap ((if (m.base:Int)<0 then 0 else (m.base:Int))+1)=((zaH m:Nat):Int):=by
      unfold zaH
      rw [if_neg (by omega),wrap_i64 (by omega) (by omega)];omega
     simp [f3,f10,hl0]
     refine zad kHd (by simp [AV.pure]) ?_
     rintro r rfl
     simp
     refine zad kFr (by simp [AV.pure,zaM,rungsC]) ?_
     rintro r rfl
     simp
     refine zad kCc (by simp [AV.pure]) ?_
     rintro r rfl
     rw [←hby]
     simp [f4,hV0,shC,hbl]
     refine zad (kRm true) (by simp [AV.pure]) ?_
     rintro r rfl
     by_cases hf:(zaO m bs).length≤s.disk.quota-zaC s.disk
     ·rw [if_pos hf]
      have hS1:=ze6 h.size okN hnoN (by omega)
      have hh1:hasK kN (za1 s.disk (newN m)).names (newN m):=ze3.2 (.inl rfl)
      have hb1:(zaO m bs).length≤(za1 s.disk (newN m)).quota-zaC (za1 s.disk (newN m)):=by rw [ze8];exact hf
      have hmA:metC (metA m bs)= [.int .i64 m.id,.str m.path,.lst rungsC,.int .i64 1,.int .i64 500000,.int .i64 1,.int .i64 500000,.lst (zap (zcH m.lad bs)),.int .i64 m.base,.int .i64 (zaH m:Nat),.int .i64 bs.length]:=by
       unfold metA;rw [if_pos ht];rfl
      simp [hf,f4,f10,hl0,hqA]
      refine zad kNm (by simp) ?_
      rintro r rfl
      simp
      refine zar (zmr (k:=4) s (by simp [wkC]) h.size.right hfits okN hnoN hfiles hnx) ?_
      rintro r σ' ⟨rfl,rfl⟩
      simp [f10]
      refine zad kNm (by simp) ?_
      rintro r rfl
      simp
      refine zar (zr8 (k:=4) ⟨za1 (s.disk) (newN m),s.mets,s.next⟩ (by simp) hS1.right (hS1.fits (by omega) (by omega)) okN hh1 hb1 (by omega)) ?_
      rintro r σ' ⟨rfl,rfl⟩
      simp [f3,f10,hle,hwc]
      have kD:=fun (σ:zac) (hk4:σ[4]? =some (.var 127 (wkC ⟨zaQ (za1 (s.disk) (newN m)) (newN m) (zaO m bs),s.mets,s.next⟩)))=>zkP (G:=G) (k:=4) ⟨zaQ (za1 (s.disk) (newN m)) (newN m) (zaO m bs),s.mets,s.next⟩ s (metA m bs) hk4 h.srt (by show s.mets.length≤1000;omega) (by show s.next≤1000000;have:=h.next;omega) (by rw [hmid];omega)
      rw [hmA] at kD
      simp only [shC] at kD
      simp [f4,f10,splice]
      refine zar (kD _ (by simp)) ?_
      rintro r σ' ⟨rfl,rfl⟩
      have hApp:zcb s m bs=zco ⟨zaQ (za1 (s.disk) (newN m)) (newN m) (zaO m bs),s.mets,s.next⟩ (metA m bs):=by
       unfold zcb znV
       rw [if_pos ht]
       rw [show zaR s.disk m=s.disk by unfold zaR;rw [if_neg (by omega)]]
      rw [hApp]
      simp [f8,hV2,shC,splice]
     ·rw [if_neg hf]
      simp [hf,f4,f8,hV2,shC,splice]
    ·have hlp0:0<m.last:=by omega
     have hlp1:(0:Int)<m.last:=by omega
     have hl0':¬(m.last:Int)=0:=by omega
     have hhl:hasK kN s.disk.names (zdc m):=ho'.last hlp0
     have okL:okS (zdc m):=zcL m.id hid5 m.last (by omega) zd8 (by simp)
     have kNl:PCalls Tryz.prog zcR [.int .i64 m.id,.int .i64 m.last,.str [46,112]] (fun r=>r=.str (zdc m)):=ziS m.id m.last zd8 (by omega) (by omega) (by decide)
     by_cases hc:16≤m.count
     ·have ht:zmw m=true:=by unfold zmw;simp [hc]
      have hby:zaO m bs=zaL (zba m.path)++zcw bs:=by unfold zaO;rw [if_pos ht]
      have hc':(16:Int)≤m.count:=by omega
      simp [f3,f10,hl0,hl0',hc,hc']
      refine zad kHd (by simp [AV.pure]) ?_
      rintro r rfl
      simp
      refine zad kFr (by simp [AV.pure,zaM,rungsC]) ?_
      rintro r rfl
      simp
      refine zad kCc (by simp [AV.pure]) ?_
      rintro r rfl
      rw [←hby]
      simp [f4,hV0,shC,hbl]
      refine zad (kRm true) (by simp [AV.pure]) ?_
      rintro r rfl
      by_cases hf:(zaO m bs).length≤s.disk.quota-zaC s.disk
      ·rw [if_pos hf]
       have hS0:=zpv (n:=zdc m) h.size
       have hS1:=ze6 hS0 okN (by exact hnoN) (by omega)
       have hh1:hasK kN (za1 (zcX s.disk (zdc m)) (newN m)).names (newN m):=ze3.2 (.inl rfl)
       have hb1:(zaO m bs).length≤(za1 (zcX s.disk (zdc m)) (newN m)).quota-zaC (za1 (zcX s.disk (zdc m)) (newN m)):=by rw [ze8,zlR];exact hf
       have hmA:metC (metA m bs)= [.int .i64 m.id,.str m.path,.lst rungsC,.int .i64 1,.int .i64 500000,.int .i64 1,.int .i64 500000,.lst (zap (zcH m.lad bs)),.int .i64 m.base,.int .i64 (zaH m:Nat),.int .i64 bs.length]:=by
        unfold metA;rw [if_pos ht];rfl
       simp [hf,f4,f10,hl0,hlp0,hlp1]
       refine zad kNl (by simp) ?_
       rintro r rfl
       simp
       refine zar (zop (k:=4) s (by simp [wkC]) h.size.right hfits okL hhl) ?_
       rintro r σ' ⟨rfl,rfl⟩
       simp [f10,hqB,hqB']
       refine zad kNm (by simp) ?_
       rintro r rfl
       simp
       refine zar (zmr (k:=4) ⟨zcX s.disk (zdc m),s.mets,s.next⟩ (by simp) hS0.right (hS0.fits (by omega) (by omega)) okN hnoN (by have:=hS0.files;show (zcX s.disk (zdc m)).files.length<256;omega) (by have:=hS0.next;show (zcX s.disk (zdc m)).next<_;omega)) ?_
       rintro r σ' ⟨rfl,rfl⟩
       simp [f10]
       refine zad kNm (by simp) ?_
       rintro r rfl
       simp
       refine zar (zr8 (k:=4) ⟨za1 (zcX s.disk (zdc m)) (newN m),s.mets,s.next⟩ (by simp) hS1.right (hS1.fits (by omega) (by omega)) okN hh1 hb1 (by omega)) ?_
       rintro r σ' ⟨rfl,rfl⟩
       simp [f3,f10,hle,hwc]
       have kD:=fun (σ:zac) (hk4:σ[4]? =some (.var 127 (wkC ⟨zaQ (za1 (zcX s.disk (zdc m)) (newN m)) (newN m) (zaO m bs),s.mets,s.next⟩)))=>zkP (G:=G) (k:=4) ⟨zaQ (za1 (zcX s.disk (zdc m)) (newN m)) (newN m) (zaO m bs),s.mets,s.next⟩ s (metA m bs) hk4 h.srt (by show s.mets.length≤1000;omega) (by show s.next≤1000000;have:=h.next;omega) (by rw [hmid];omega)
       rw [hmA] at kD
       simp only [shC] at kD
       simp [f4,f10,splice]
       refine zar (kD _ (by simp)) ?_
       rintro r σ' ⟨rfl,rfl⟩
       have hApp:zcb s m bs=zco ⟨zaQ (za1 (zcX s.disk (zdc m)) (newN m)) (newN m) (zaO m bs),s.mets,s.next⟩ (metA m bs):=by
        unfold zcb znV
        rw [if_pos ht]
        rw [show zaR s.disk m=zcX s.disk (zdc m) by unfold zaR;rw [if_pos (by omega)]]
       rw [hApp]
       simp [f8,hV2,shC,splice]
      ·rw [if_neg hf]
       simp [hf,f4,f8,hV2,shC,splice]
     ·have ht:¬zmw m=true:=by unfold zmw;simp [hc,hl0]
      have hby:zaO m bs=zcw bs:=by unfold zaO;rw [if_neg ht]
      have hc':¬(16:Int)≤m.count:=by omega
      simp [f3,f4,f10,hl0,hl0',hc,hc',hV0,shC]
      rw [←hby]
      simp [hbl]
      refine zad (kRm false) (by simp [AV.pure]) ?_
      rintro r rfl
      by_cases hf:(zaO m bs).length≤s.disk.quota-zaC s.disk
      ·rw [if_pos hf]
       have hwd:IntKind.i64.wrap ((m.count:Int)+bs.length)=((m.count+bs.length:Nat):Int):=by rw [wrap_i64 (by omega) (by omega)];omega
       have hmA:metC (metA m bs)= [.int .i64 m.id,.str m.path,.lst rungsC,.int .i64 1,.int .i64 500000,.int .i64 1,.int .i64 500000,.lst (zap (zcH m.lad bs)),.int .i64 m.base,.int .i64 m.last,.int .i64 (m.count+bs.length:Nat)]:=by
        unfold metA;rw [if_neg ht];rfl
       simp [hf,f4,f10]
       refine zad kNl (by simp) ?_
       rintro r rfl
       simp
       refine zar (zr8 (k:=4) s (by simp [wkC]) h.size.right hfits okL hhl hf (by omega)) ?_
       rintro r σ' ⟨rfl,rfl⟩
       simp [f3,f10,hle,hwd, -Int.natCast_add]
       have kD:=fun (σ:zac) (hk4:σ[4]? =some (.var 127 (wkC ⟨zaQ s.disk (zdc m) (zaO m bs),s.mets,s.next⟩)))=>zkP (G:=G) (k:=4) ⟨zaQ s.disk (zdc m) (zaO m bs),s.mets,s.next⟩ s (metA m bs) hk4 h.srt (by show s.mets.length≤1000;omega) (by show s.next≤1000000;have:=h.next;omega) (by rw [hmid];omega)
       rw [hmA] at kD
       simp only [shC] at kD
       simp [f4,f10,splice, -Int.natCast_add]
       refine zar (kD _ (by simp)) ?_
       rintro r σ' ⟨rfl,rfl⟩
       have hApp:zcb s m bs=zco ⟨zaQ s.disk (zdc m) (zaO m bs),s.mets,s.next⟩ (metA m bs):=by
        unfold zcb znV
        rw [if_neg ht]
       rw [hApp]
       simp [f8,hV2,shC,splice]
      ·rw [if_neg hf]
       simp [hf,f4,f8,hV2,shC,splice]
  ·rw [if_neg hv] at kAc
   have hR:zhB s p bs=.tup [.agg (shC s),.int .i64 1]:=by
    unfold zhB;rw [if_neg hv]
   rw [hR]
   refine zad kAc (by simp [AV.pure]) ?_
   rintro r rfl
   simp [splice,f3,f4,f8,f10,hV0,hV2,shC]
 ·rcases hx with ⟨hh,rfl⟩|⟨hh,rfl,hmc⟩
  ·have kf:=zzN (G:=G) s p (by omega)
   simp only [shC,schC] at kf
   simp
   refine zad kTr (by simp) ?_
   rintro r rfl
   simp
   refine zad kf (by simp [AV.pure]) ?_
   rintro r rfl
   simp [metC,splice]
   refine zc5 ?_
   refine ⟨by simp,by simp,by simp,by simp,by simp,by simp,by simp, ?_⟩
   rw [hm,zgo hh]
   simp [hV0,hV1,hV2,shC,schC,metC,zkS]
  ·simp
   refine zad kTr (by simp) ?_
   rintro r rfl
   simp
   refine zc5 ?_
   refine ⟨by simp,by simp,by simp,by simp,by simp,by simp,by simp, ?_⟩
   rw [hm,←hmc]
   simp [hV0,hV1,hV2,shC,schC]
end Go.Proofs.YtdbhocoeolhjhaaGreatDoor
end
section
set_option maxHeartbeats 8000000
namespace Go.Proofs.YtdbhocoeolhjhaaGreatDoor
open Go.Abs Go.RowKit Go.Sf Go.Num
variable {G:Globs}
def zrj (s:ShM) (p:Txt):AV:=if hasK kM s.mets p then .tup [.agg (shC (zoG s (zaz s p))),.int .i64 0] else .tup [.agg (shC s),.int .i64 15]
theorem z2z {s:ShM} {a k:Nat} (h:InvS s a k) (ha:a≤69) (hk:k≤100000) {p:Txt} (hp:p∈P4):PCalls Tryz.prog ztG [.agg (shC s),.str p] (fun r=>r=zrj s p):=by
 refine zaa hmix zts rfl ?_
 have ho:=h.met hp
 have hlen:=h.len
 have hfits:=h.size.fits (by omega) (by omega)
 have hFd:=zp8 (G:=G) h (p:=p)
 simp only [shC] at hFd
 simp [zn9,shC]
 refine zad hFd (by simp [AV.pure]) ?_
 rintro r ⟨x0,x1,x2,x3,x4,x5,x6,x7,x8,x9,x10,e,rfl,hx⟩
 rcases hx with ⟨hh,rfl⟩|⟨hh,rfl,hmc⟩
 ·have hR:zrj s p=.tup [.agg (shC s),.int .i64 15]:=by unfold zrj;rw [if_neg hh]
  rw [hR]
  simp [splice,shC]
 ·obtain ⟨m,hm⟩:∃m,m=zaz s p:=⟨_,rfl⟩
  have hR:zrj s p=.tup [.agg (shC (zoG s m)),.int .i64 0]:=by unfold zrj;rw [if_pos hh,hm]
  rw [hR]
  rw [←hm] at ho hmc
  have hid5:=ho.id5
  have hseq:=ho.seq
  simp only [metC,yc8,AV.int.injEq,AV.str.injEq,AV.lst.injEq,true_and,and_true] at hmc
  obtain ⟨rfl,rfl,rfl,rfl,rfl,rfl,rfl,rfl,rfl,rfl,rfl⟩:=hmc
  have hsz:=ze4 m h.size
  have kK:=fun (σ:zac) (h3:σ[3]? =some (.var 127 (wkC ⟨zaR s.disk m,s.mets,s.next⟩)))=>zsh (G:=G) (k:=3) ⟨zaR s.disk m,s.mets,s.next⟩ h3 hsz.right (hsz.fits (by omega) (by omega))
  have kD:=fun (σ:zac) (h3:σ[3]? =some (.var 127 (wkC ⟨zhZ (zaR s.disk m),s.mets,s.next⟩)))=>zkP (G:=G) (k:=3) ⟨zhZ (zaR s.disk m),s.mets,s.next⟩ s m h3 h.srt (by show s.mets.length≤1000;omega) (by show s.next≤1000000;have:=h.next;omega) (by omega)
  have hS:zoG s m=zco ⟨zhZ (zaR s.disk m),s.mets,s.next⟩ m:=rfl
  rw [hS]
  simp only [shC,metC] at kD
  by_cases hl:0<m.last
  ·have hl':(0:Int)<m.last:=by omega
   have kNl:PCalls Tryz.prog zcR [.int .i64 m.id,.int .i64 m.last,.str [46,112]] (fun r=>r=.str (zdc m)):=ziS m.id m.last zd8 (by omega) (by omega) (by decide)
   have okL:okS (zdc m):=zcL m.id hid5 m.last (by omega) zd8 (by simp)
   have hhl:hasK kN s.disk.names (zdc m):=ho.last hl
   have hsy:zaR s.disk m=zcX s.disk (zdc m):=by unfold zaR;rw [if_pos hl]
   simp [splice,hl,hl']
   refine zad kNl (by simp) ?_
   rintro r rfl
   simp
   refine zar (zop (k:=3) s (by simp [wkC]) h.size.right hfits okL hhl) ?_
   rintro r σ' ⟨rfl,rfl⟩
   simp
   refine zar (kK _ (by simp [hsy])) ?_
   rintro r σ' ⟨rfl,rfl⟩
   simp
   refine zar (kD _ (by simp [zhZ])) ?_
   rintro r σ' ⟨rfl,rfl⟩
   simp [shC,splice]
  ·have hl':¬(0:Int)<m.last:=by omega
   have hsy:zaR s.disk m=s.disk:=by unfold zaR;rw [if_neg hl]
   simp [splice,hl,hl']
   refine zar (kK _ (by simp [hsy,wkC])) ?_
   rintro r σ' ⟨rfl,rfl⟩
   simp
   refine zar (kD _ (by simp [zhZ])) ?_
   rintro r σ' ⟨rfl,rfl⟩
   simp [shC,splice]
def zbZ (m:MetM):Txt:=znC m.path (zkW m.lad)
def zjX (s:ShM) (p:Txt):AV:=if hasK kM s.mets p then (if (zbZ (zaz s p)).length≤s.disk.quota-zaC s.disk then .tup [.agg (shC (zjw s (zaz s p) (zbZ (zaz s p)))),.int .i64 0] else .tup [.agg (shC s),.int .i64 6]) else .tup [.agg (shC s),.int .i64 15]
theorem zvY {l:LadM} (h:RightL l):∀x∈zkW l,OkSl x:=fun x hx=>by
 simp only [zkW,yai,yav] at hx
 rcases hx with ⟨s,hs,rfl⟩|⟨s,hs,rfl⟩
 ·obtain ⟨k,h1,h2,h3,h4⟩:=zlG h.r1 hs
  exact ⟨by simp,by simp [h1];omega,h3,h4⟩
 ·obtain ⟨k,h1,h2,h3,h4⟩:=zlG h.r2 hs
  exact ⟨by simp,by simp [h1];omega,h3,h4⟩
theorem zoj {l:LadM} (h:RightL l):(zkW l).length≤11:=by
 have h1:=zof l.fine
 have h2:=zof l.wide
 rw [h.n1] at h1
 rw [h.n2] at h2
 simp [zkW];omega
theorem zsw (hT:zlX G) {s:ShM} {a k:Nat} (h:InvS s a k) (ha:a<69) (hk:k≤100000) {p:Txt} (hp:p∈P4):PCalls Tryz.prog zpf [.agg (shC s),.str p] (fun r=>r=zjX s p):=by
 refine zaa hmix zo3 rfl ?_
 have ho:=h.met hp
 have hlen:=h.len
 have hfits:=h.size.fits (by omega) (by omega)
 have hFd:=zp8 (G:=G) h (p:=p)
 simp only [shC] at hFd
 simp [zib,shC]
 refine zad hFd (by simp [AV.pure]) ?_
 rintro r ⟨x0,x1,x2,x3,x4,x5,x6,x7,x8,x9,x10,e,rfl,hx⟩
 rcases hx with ⟨hh,rfl⟩|⟨hh,rfl,hmc⟩
 ·have hR:zjX s p=.tup [.agg (shC s),.int .i64 15]:=by unfold zjX;rw [if_neg hh]
  rw [hR]
  simp [splice,shC]
 ·obtain ⟨m,hm⟩:∃m,m=zaz s p:=⟨_,rfl⟩
  have hR:zjX s p=if (zbZ m).length≤s.disk.quota-zaC s.disk then .tup [.agg (shC (zjw s m (zbZ m))),.int .i64 0] else .tup [.agg (shC s),.int .i64 6]:=by unfold zjX;rw [if_pos hh,hm]
  rw [hR]
  rw [←hm] at ho hmc
  have hid5:=ho.id5
  have hseq:=ho.seq
  have hpath:=ho.path
  have hpl:m.path≠ []∧m.path.length≤100:=by
   rw [hpath]
   have:∀q∈P4,q≠ []∧q.length≤100:=by decide
   exact this p hp
  have kHd:=zxa (G:=G) m
  have kSl:=z2m (G:=G) m.lad ho.lad
  have kWr:=z0n (G:=G) hT m.path hpl.1 hpl.2 (zkW m.lad) (zvY ho.lad) (by have:=zoj ho.lad;omega)
  have hbl:=zab (zbZ m)
  have hbl2:(zbZ m).length≤1000:=by
   have:=zoj ho.lad
   unfold zbZ;rw [zqL];omega
  have kRm:=zw7 (G:=G) s.disk h.size.right hfits (zbZ m).length (by omega) true (by have:=h.size.files;omega)
  simp only [metC] at kHd
  simp only [ladC] at kSl
  simp only [zak] at kRm
  rw [show znC m.path (zkW m.lad)=zbZ m from rfl] at kWr
  simp only [metC,yc8,AV.int.injEq,AV.str.injEq,AV.lst.injEq,true_and,and_true] at hmc
  obtain ⟨rfl,rfl,rfl,rfl,rfl,rfl,rfl,rfl,rfl,rfl,rfl⟩:=hmc
  simp [splice]
  refine zaZ kHd (by simp [AV.pure]) ?_
  simp
  refine zaZ kSl (by simp [AV.pure]) ?_
  simp
  refine zaZ kWr (by simp [AV.pure,zaM,rungsC]) ?_
  simp [hbl]
  refine zad kRm (by simp [AV.pure]) ?_
  rintro r rfl
  by_cases hf:(zbZ m).length≤s.disk.quota-zaC s.disk
  ·rw [if_pos hf]
   have hP:=zs2 h ha ho hf
   have hC:=comp h ha ho hP
   have hn70:zaH m<70:=by unfold zaH;omega
   have kNt:PCalls Tryz.prog zcR [.int .i64 m.id,.int .i64 (zaH m:Nat),.str [46,116]] (fun r=>r=.str (zbb m)):=ziS m.id (zaH m) zrY (by omega) (by omega) (by decide)
   have kNc:PCalls Tryz.prog zcR [.int .i64 m.id,.int .i64 (zaH m:Nat),.str [46,99]] (fun r=>r=.str (zby m)):=ziS m.id (zaH m) zmV (by omega) (by omega) (by decide)
   have hqB:IntKind.i64.wrap ((if m.base<m.last then (m.last:Int) else (m.base:Int))+1)=((zaH m:Nat):Int):=by
    unfold zaH
    rw [wrap_i64 (by split<;>omega) (by split<;>omega)];split<;>omega
   have hqB':IntKind.i64.wrap ((if m.base<m.last then (m.last:Int) else (m.base:Int))+1)=((zaH m:Nat):Int):=by
    unfold zaH
    rw [wrap_i64 (by split<;>omega) (by split<;>omega)];split<;>omega
   obtain ⟨V0,hV0⟩:∃V0:Entry,V0=.var 33 (shC s):=⟨_,rfl⟩
   obtain ⟨V1,hV1⟩:∃V1:Entry,V1=.var 33 [.int .i64 0,.nils,.nils,.nils,.nils,.int .i64 0,.nils,.int .i64 0,.int .i64 0,.bool false]:=⟨_,rfl⟩
   have hfit:∀{d:DiskM} {k':Nat},SizeM d (a+1) k'→k'≤200000→Fits d:=fun hd hk'=>hd.fits (by omega) (by omega)
   by_cases hl:0<m.last
   focus
    have hl':(0:Int)<m.last:=by omega
    have kNl:PCalls Tryz.prog zcR [.int .i64 m.id,.int .i64 m.last,.str [46,112]] (fun r=>r=.str (zdc m)):=ziS m.id m.last zd8 (by omega) (by omega) (by decide)
    have okL:okS (zdc m):=zcL m.id hid5 m.last (by omega) zd8 (by simp)
    have hhl:hasK kN s.disk.names (zdc m):=ho.last hl
    have hsy:zcX s.disk (zdc m)=zaR s.disk m:=by unfold zaR;rw [if_pos hl]
    simp [hf,hl,hl']
    refine zad kNl (by simp) ?_
    rintro r rfl
    simp
    refine zar (zop (k:=3) s (by simp [wkC]) h.size.right hfits okL hhl) ?_
    rintro r σ' ⟨rfl,rfl⟩
    rw [hsy]
   rotate_left
   focus
    have hl':¬(0:Int)<m.last:=by omega
    have hsy:zaR s.disk m=s.disk:=by unfold zaR;rw [if_neg hl]
    have hwk:(Entry.var 127 [.int .i64 s.disk.quota,.lst (zaF s.disk.files),.lst (zay s.disk.names),.lst (zay s.disk.kept),.lst (zbx s.disk.moves),.int .i64 s.disk.next,.lst (zc6 s.mets),.int .i64 s.next,.int .i64 (-1),.bool false,.int .i64 0])=.var 127 (wkC ⟨zaR s.disk m,s.mets,s.next⟩):=by rw [hsy];rfl
    simp [hf,hl,hl']
    rw [hwk]
   all_goals
    simp [hqB,hqB']
    refine zaZ kNt (by simp) ?_
    simp [hqB,hqB']
    refine zaZ kNc (by simp) ?_
    simp
    refine zar (zmr (k:=3) ⟨zaR s.disk m,s.mets,s.next⟩ (by simp) hP.s1.right (hP.s1.fits (by omega) (by omega)) hP.o1 hP.n1 (by have:=hP.s1.files;show (zaR s.disk m).files.length<256;omega) (by have:=hP.s1.next;show (zaR s.disk m).next<_;omega)) ?_
    rintro r σ' ⟨rfl,rfl⟩
    simp
    refine zar (zr8 (k:=3) ⟨za1 (zaR s.disk m) (zbb m),s.mets,s.next⟩ (by simp) hP.s2.right (hfit hP.s2 (by omega)) hP.o1 hP.h2 hP.u2 (by omega)) ?_
    rintro r σ' ⟨rfl,rfl⟩
    simp
    refine zar (zop (k:=3) ⟨zaQ (za1 (zaR s.disk m) (zbb m)) (zbb m) (zbZ m),s.mets,s.next⟩ (by simp) hP.s3.right (hfit hP.s3 (by omega)) hP.o1 hP.h2) ?_
    rintro r σ' ⟨rfl,rfl⟩
    simp
    refine zar (zyI (k:=3) ⟨zcX (zaQ (za1 (zaR s.disk m) (zbb m)) (zbb m) (zbZ m)) (zbb m),s.mets,s.next⟩ (by simp) hP.s4.right (hfit hP.s4 (by omega)) hP.o1 hP.h2 hP.o2 hP.ne) ?_
    rintro r σ' ⟨rfl,rfl⟩
    simp
    refine zar (zsh (k:=3) ⟨zc2 (zcX (zaQ (za1 (zaR s.disk m) (zbb m)) (zbb m) (zbZ m)) (zbb m)) (zbb m) (zby m),s.mets,s.next⟩ (by simp) hP.s5.right (hfit hP.s5 (by omega))) ?_
    rintro r σ' ⟨rfl,rfl⟩
    have hmv:(zc2 (zcX (zaQ (za1 (zaR s.disk m) (zbb m)) (zbb m) (zbZ m)) (zbb m)) (zbb m) (zby m)).moves≠ []:=by simp [zc2]
    rw [if_neg hmv]
    rw [show zbs (zc2 (zcX (zaQ (za1 (zaR s.disk m) (zbb m)) (zbb m) (zbZ m)) (zbb m)) (zbb m) (zby m))=zg9 s.disk m (zbZ m) from rfl]
    have kFi:=z4q (G:=G) (zg9 s.disk m (zbZ m)) hP.s6.right (hfit hP.s6 (by omega)) m.id (by omega) (zby m)
    simp only [zak] at kFi
    obtain ⟨fl,hfl⟩:∃fl,fl=zfd (zg9 s.disk m (zbZ m)) m.id (zby m):=⟨_,rfl⟩
    obtain ⟨D6,hD6⟩:∃D6,D6=zg9 s.disk m (zbZ m):=⟨_,rfl⟩
    have c1:=hC.fok
    have c2:=hC.fnd
    have c3:=hC.flen
    have c4:=hC.s7
    have c5:=hP.s6
    rw [←hfl,←hD6] at c1 c4 kFi
    rw [←hfl] at c2 c3
    rw [←hD6] at c5⊢
    have hflc:=zin fl
    simp [wkC]
    refine zaZ kFi (by simp [AV.pure]) ?_
    simp [hflc]
    refine zah (fun x f σ=>∃i:Nat,x=fl.length-i∧i≤fl.length∧f 4=.ptr 1 0∧f 2=.ptr 0 0∧f 6=.ptr 2 0∧f 10=.ptr 3 0∧f 11=.int .i64 (zaH m:Nat)∧f 104=.lst (zd2 fl)∧f 105=.int .i64 fl.length∧f 106=.int .i64 i∧
     σ= [V0,V1,.var 57 (metC m),.var 127 (wkC ⟨zbt D6 (fl.take i),s.mets,s.next⟩)]) fl.length ?_ ?_
    ·exact ⟨0,by simp,by simp,by simp,by simp,by simp,by simp,by simp [hqB,hqB'],by simp,by simp,by simp,by simp [hV0,hV1,shC,metC,wkC,zbt]⟩
    rintro x f σ ⟨i,rfl,hi,f4,f2,f6,f10,f11,f104,f105,f106,rfl⟩
    simp [f105,f106]
    refine zax (fun hlt=> ?_) (fun hge=> ?_)
    ·have hlt':i<fl.length:=by omega
     have hwi:IntKind.i64.wrap ((i:Int)+1)=((i+1:Nat):Int):=by rw [wrap_i64 (by omega) (by omega)];omega
     obtain ⟨n,hn⟩:∃n,fl[i]? =some n:=⟨_,yad hlt'⟩
     have hc:(zd2 fl)[i]? =some [.str n]:=by simp [zd2,hn]
     obtain ⟨hx1,hx2⟩:=yaa.1 hc
     have hsn:fl.take (i+1)=fl.take i++ [n]:=by rw [yax,hn];rfl
     have hnd2:=c2
     rw [←ya9 i fl,ydi] at hnd2
     obtain ⟨r1,r2⟩:=zik c5 hnd2.1 fun y hy=>c1 y (yak hy)
     have hni:n∉fl.take i:=fun hm=>hnd2.2.2 n hm n (by rw [List.mem_iff_getElem?];exact ⟨0,by rw [ybz];simpa using hn⟩) rfl
     have hnn:=c1 n (yaf hn)
     have hhn:=(r2 n).2 ⟨hni,hnn.2⟩
     have htl:(fl.take i).length≤fl.length:=by simp;omega
     simp [f10,f104,f106,hc,hx2]
     refine zar (zyS (k:=3) ⟨zbt D6 (fl.take i),s.mets,s.next⟩ (by simp) r1.right (hfit r1 (by omega)) hnn.1 hhn) ?_
     rintro r σ' ⟨rfl,rfl⟩
     simp [f106,hwi]
     refine zae (fl.length-(i+1)) (by omega) ⟨i+1,rfl,by omega,by simp [f4],by simp [f2],by simp [f6],by simp [f10],by simp [f11],by simp [f104],by simp [f105],by simp, ?_⟩
     rw [hsn,zsS]
    ·have hil:i=fl.length:=by omega
     subst hil
     rw [ya1]
     simp [f10]
     refine zar (zsh (k:=3) ⟨zbt D6 fl,s.mets,s.next⟩ (by simp) c4.right (hfit c4 (by omega))) ?_
     rintro r σ' ⟨rfl,rfl⟩
     have hcd:(if (zbt D6 fl).moves= [] then zbt D6 fl else zbs (zbt D6 fl))=zhX s.disk m (zbZ m):=by rw [hD6,hfl];rfl
     simp only [hcd]
     have kD:=fun (σ:zac) (h3:σ[3]? =some (.var 127 (wkC ⟨zhX s.disk m (zbZ m),s.mets,s.next⟩)))=>zkP (G:=G) (k:=3) ⟨zhX s.disk m (zbZ m),s.mets,s.next⟩ s (zsN m) h3 h.srt (by show s.mets.length≤1000;omega) (by show s.next≤1000000;have:=h.next;omega) (by show m.id≤_;omega)
     have hm':metC (zsN m)= [.int .i64 m.id,.str m.path,.lst rungsC,.int .i64 1,.int .i64 500000,.int .i64 1,.int .i64 500000,.lst (zap m.lad),.int .i64 (zaH m:Nat),.int .i64 0,.int .i64 0]:=rfl
     rw [hm'] at kD
     simp only [shC] at kD
     simp [f2,f6,f10,f11,hV0,shC,metC,splice]
     refine zar (kD _ (by simp)) ?_
     rintro r σ' ⟨rfl,rfl⟩
     have hS:zjw s m (zbZ m)=zco ⟨zhX s.disk m (zbZ m),s.mets,s.next⟩ (zsN m):=rfl
     rw [hS]
     simp [f4,hV1,shC,splice]
  ·rw [if_neg hf]
   simp [hf,shC,splice]
end Go.Proofs.YtdbhocoeolhjhaaGreatDoor
end
section
set_option maxHeartbeats 8000000
namespace Go.Proofs.YtdbhocoeolhjhaaGreatDoor
open Go.Abs Go.RowKit Go.Sf Go.Num
variable {G:Globs}
theorem znf (l:List NameM) (hl:l.length≤1000000):PCalls Tryz.prog zhs [.lst (zay l),.lst (zay l)] (fun r=>r=.bool true):=by
 refine zaa hmix zhv rfl ?_
 have hle:=zaA l
 simp [zei]
 refine zah (fun x f σ=>∃(i:Nat),x=l.length-i∧i≤l.length∧f 0=.lst (zay l)∧f 1=.lst (zay l)∧f 5=.int .i64 i∧σ= []) l.length ?_ ?_
 ·exact ⟨0,by simp,by simp,by simp,by simp,by simp,by simp⟩
 rintro x f σ ⟨i,rfl,hi,f0,f1,f5,rfl⟩
 simp [f0,f5,hle]
 refine zax (fun hlt=> ?_) (fun hge=> ?_)
 ·have hlt':i<l.length:=by omega
  have hwi:IntKind.i64.wrap ((i:Int)+1)=((i+1:Nat):Int):=by rw [wrap_i64 (by omega) (by omega)];omega
  obtain ⟨a,ha⟩:∃a,l[i]? =some a:=⟨_,yad hlt'⟩
  have hc:=zcU ha
  obtain ⟨hx1,hx2⟩:=yaa.1 hc
  simp [f0,f1,f5,hc,hx2,zdd,zjJ,hwi]
  exact zae (l.length-(i+1)) (by omega) ⟨i+1,rfl,by omega,by simp [f0],by simp [f1],by simp,rfl⟩
 ·simp
theorem znh (l:Txt) (hl:l.length≤1000000000):PCalls Tryz.prog zlm [.lst (byteEls l),.lst (byteEls l)] (fun r=>r=.bool true):=by
 refine zaa hmix zkH rfl ?_
 have hle:=zab l
 simp [zg5]
 refine zah (fun x f σ=>∃(i:Nat),x=l.length-i∧i≤l.length∧f 0=.lst (byteEls l)∧f 1=.lst (byteEls l)∧f 5=.int .i64 i∧σ= []) l.length ?_ ?_
 ·exact ⟨0,by simp,by simp,by simp,by simp,by simp,by simp⟩
 rintro x f σ ⟨i,rfl,hi,f0,f1,f5,rfl⟩
 simp [f0,f5,hle]
 refine zax (fun hlt=> ?_) (fun hge=> ?_)
 ·have hlt':i<l.length:=by omega
  have hwi:IntKind.i64.wrap ((i:Int)+1)=((i+1:Nat):Int):=by rw [wrap_i64 (by omega) (by omega)];omega
  obtain ⟨a,ha⟩:∃a,l[i]? =some a:=⟨_,yad hlt'⟩
  have hc:=zbz ha
  obtain ⟨hx1,hx2⟩:=yaa.1 hc
  simp [f0,f1,f5,hc,hx2,zaP,hwi]
  exact zae (l.length-(i+1)) (by omega) ⟨i+1,rfl,by omega,by simp [f0],by simp [f1],by simp,rfl⟩
 ·simp
theorem znB:PCalls Tryz.prog zdZ [.lst rungsC,.lst rungsC] (fun r=>r=.bool true):=by
 refine zaa hmix zdJ rfl ?_
 simp [zc0]
 refine zah (fun x f σ=>∃(i:Nat),x=2-i∧i≤2∧f 0=.lst rungsC∧f 1=.lst rungsC∧f 5=.int .i64 i∧σ= []) 2 ?_ ?_
 ·exact ⟨0,by simp,by simp,by simp,by simp,by simp,by simp⟩
 rintro x f σ ⟨i,rfl,hi,f0,f1,f5,rfl⟩
 have hi3:i=0∨i=1∨i=2:=by omega
 rcases hi3 with rfl|rfl|rfl
 ·simp [f0,f1,f5,rungsC,zjJ,wk1]
  exact zae 1 (by omega) ⟨1,rfl,by omega,by simp [f0,rungsC],by simp [f1,rungsC],by simp,rfl⟩
 ·simp [f0,f1,f5,rungsC,zjJ,wk2]
  exact zae 0 (by omega) ⟨2,rfl,by omega,by simp [f0,rungsC],by simp [f1,rungsC],by simp,rfl⟩
 ·simp [f0,f5,rungsC]
theorem zr4:PCalls Tryz.prog zha [.agg schC,.agg schC] (fun r=>r=.bool true):=by
 refine zaa hmix zgZ rfl ?_
 simp [zdC,schC]
 refine zad znB (by simp [AV.pure]) ?_
 rintro r rfl
 simp
theorem zrW (m:MetM) (h:RightL m.lad):PCalls Tryz.prog zhp [.agg (metC m),.agg (metC m)] (fun r=>r=.bool true):=by
 refine zaa hmix zgN rfl ?_
 have kL:=zms (G:=G) m.lad h
 have kS:=zr4 (G:=G)
 simp only [ladC] at kL
 simp only [schC] at kS
 simp [zdB,metC]
 refine zad kS (by simp [AV.pure]) ?_
 rintro r rfl
 simp
 refine zad kL (by simp [AV.pure]) ?_
 rintro r rfl
 simp
theorem zqe (l:List MetM) (h:∀m∈l,RightL m.lad) (hl:l.length≤1000000):PCalls Tryz.prog zgE [.lst (zc6 l),.lst (zc6 l)] (fun r=>r=.bool true):=by
 refine zaa hmix zgD rfl ?_
 have hle:=zcs l
 simp [zdl]
 refine zah (fun x f σ=>∃(i:Nat),x=l.length-i∧i≤l.length∧f 0=.lst (zc6 l)∧f 1=.lst (zc6 l)∧f 5=.int .i64 i∧σ= []) l.length ?_ ?_
 ·exact ⟨0,by simp,by simp,by simp,by simp,by simp,by simp⟩
 rintro x f σ ⟨i,rfl,hi,f0,f1,f5,rfl⟩
 simp [f0,f5,hle]
 refine zax (fun hlt=> ?_) (fun hge=> ?_)
 ·have hlt':i<l.length:=by omega
  have hwi:IntKind.i64.wrap ((i:Int)+1)=((i+1:Nat):Int):=by rw [wrap_i64 (by omega) (by omega)];omega
  obtain ⟨a,ha⟩:∃a,l[i]? =some a:=⟨_,yad hlt'⟩
  have hc:=zkD ha
  obtain ⟨hx1,hx2⟩:=yaa.1 hc
  have kM':=zrW (G:=G) a (h a (yaf ha))
  simp only [metC] at kM'
  simp [f0,f1,f5,hc,hx2,metC]
  refine zaq kM' (by simp [AV.pure]) (by simp) ?_
  simp [f5,hwi]
  exact zae (l.length-(i+1)) (by omega) ⟨i+1,rfl,by omega,by simp [f0],by simp [f1],by simp,rfl⟩
 ·simp
theorem z02 {l:List MoveM} {i:Nat} {m:MoveM} (h:l[i]? =some m):(zbx l)[i]? =some (zcW m):=by simp [zbx,h]
theorem zwj (d:DiskM) (hl:Fits d):PCalls Tryz.prog zkN [.agg (zak d),.agg (zak d)] (fun r=>r=.bool true):=by
 refine zaa hmix zl0 rfl ?_
 have hfl:=zcr d.files
 have hml:(zbx d.moves).length=d.moves.length:=by simp [zbx]
 have h1:=hl.nfiles
 have h2:=hl.nmoves
 simp [zgl,zak]
 refine zad (znf d.names hl.nnames) (by simp [AV.pure]) ?_
 rintro r rfl
 simp
 refine zad (znf d.kept hl.nkept) (by simp [AV.pure]) ?_
 rintro r rfl
 simp
 obtain ⟨D,hD⟩:∃D:Entry,D=.var 30 (zak d):=⟨_,rfl⟩
 refine zah (fun x f σ=>∃(i:Nat) (tl:zac),x=d.files.length-i∧i≤d.files.length∧f 2=.ptr 0 0∧f 3=.ptr 1 0∧f 5=.int .i64 i∧σ=D::D::tl) d.files.length ?_ ?_
 ·exact ⟨0,[],by simp,by simp,by simp,by simp,by simp,by simp [hD,zak]⟩
 rintro x f σ ⟨i,tl,rfl,hi,f2,f3,f5,rfl⟩
 simp [f2,f5,hD,zak,hfl]
 refine zax (fun hlt=> ?_) (fun hge=> ?_)
 ·have hlt':i<d.files.length:=by omega
  have hwi:IntKind.i64.wrap ((i:Int)+1)=((i+1:Nat):Int):=by rw [wrap_i64 (by omega) (by omega)];omega
  obtain ⟨a,ha⟩:∃a,d.files[i]? =some a:=⟨_,yad hlt'⟩
  have hc:=zcV ha
  obtain ⟨hx1,hx2⟩:=yaa.1 hc
  have kB:=znh (G:=G) a.bytes (by have:=hl.bytes a (yaf ha);omega)
  simp
  refine ⟨?_, ?_, ?_, ?_, ?_, ?_, ?_, ?_⟩
  all_goals
   simp [f2,f3,f5,hc,hx2,zcv,zak,hD,zbu,za6,zdx,zxh,splice]
   refine zad kB (by simp [AV.pure]) ?_
   rintro r rfl
   simp [f5,hwi]
   exact zae (d.files.length-(i+1)) (by omega) ⟨i+1,_,rfl,by omega,by simp [f2],by simp [f3],by simp,by simp [hD,zak];rfl⟩
 ·simp
  clear f5
  refine zah (fun x f σ=>∃(i:Nat),x=d.moves.length-i∧i≤d.moves.length∧f 2=.ptr 0 0∧f 3=.ptr 1 0∧f 8=.int .i64 i∧σ=D::D::tl) d.moves.length ?_ ?_
  ·exact ⟨0,by simp,by simp,by simp [f2],by simp [f3],by simp,by simp [hD,zak]⟩
  rintro x f σ ⟨i,rfl,hi,f2,f3,f8,rfl⟩
  simp [f2,f8,hD,zak,hml]
  refine zax (fun hlt=> ?_) (fun hge=> ?_)
  ·have hlt':i<d.moves.length:=by omega
   have hwi:IntKind.i64.wrap ((i:Int)+1)=((i+1:Nat):Int):=by rw [wrap_i64 (by omega) (by omega)];omega
   obtain ⟨a,ha⟩:∃a,d.moves[i]? =some a:=⟨_,yad hlt'⟩
   have hc:=z02 ha
   obtain ⟨hx1,hx2⟩:=yaa.1 hc
   simp [f2,f3,f8,hc,hx2,zcW,zjJ,hwi,hD,zak]
   exact zae (d.moves.length-(i+1)) (by omega) ⟨i+1,rfl,by omega,by simp [f2],by simp [f3],by simp,by simp [hD,zak]⟩
  ·simp
theorem zeX {s:ShM} {a k:Nat} (h:InvS s a k) (ha:a≤69) (hk:k≤100000):PCalls Tryz.prog zld [.agg (shC s),.agg (shC s)] (fun r=>r=.bool true):=by
 refine zaa hmix zlb rfl ?_
 have hlen:=h.len
 have kD:=zwj (G:=G) s.disk (h.size.fits (by omega) (by omega))
 have kM':=zqe (G:=G) s.mets h.lad (by omega)
 simp only [zak] at kD
 simp [zgg,shC]
 refine zad kD (by simp [AV.pure]) ?_
 rintro r rfl
 simp
 refine zad kM' (by simp [AV.pure]) ?_
 rintro r rfl
 simp
def newS (q:Nat):ShM:=⟨⟨q,[],[],[],[],1⟩,[],1⟩
theorem z12 (q:Nat) (hq:q≤1000000):PCalls Tryz.prog zuR [.int .i64 q] (fun r=>r=.tup [.agg (shC (newS q)),.int .i64 0]):=by
 refine zaa hmix zwd rfl ?_
 have kN:=z7m (G:=G) q (by omega)
 simp only [zak] at kN
 simp [zoL]
 refine zad kN (by simp) ?_
 rintro r rfl
 simp [splice,shC,newS,zc6]
theorem z6w {q:Nat} (hq:q≤65535):InvS (newS q) 0 0:=by
 refine ⟨⟨zzw (by omega),hq,by simp [newS],by simp [newS],by simp [newS],by simp [newS]⟩,by simp [newS,Srt],by simp [newS],by simp [newS],by simp [newS],by simp [newS],by simp [newS],by simp [newS],by simp [newS],by simp [newS],fun t ht=> ?_⟩
 obtain ⟨x,hx,_⟩:=ht
 simp [newS] at hx
end Go.Proofs.YtdbhocoeolhjhaaGreatDoor
end
section
set_option maxHeartbeats 1000000
namespace Go.Proofs.YtdbhocoeolhjhaaGreatDoor
open Go.Sf Go.Num
structure DotM where
 back:Nat
 later:Nat
 v:Int
structure ActM where
 kind:Nat
 met:Nat
 dots:List DotM
structure OkDot (d:DotM):Prop where
 b:d.back<256
 l:d.later<256
 v:i64 d.v
structure OkAct (a:ActM):Prop where
 k:a.kind<256
 m:a.met<256
 d:∀x∈a.dots,OkDot x
def zpJ (now:Nat) (d:DotM):ArrM:=⟨now+d.later%30-d.back%80,d.v,now+d.later%30⟩
def ptsM (now:Nat):List DotM→List ArrM
 | []=> []
 |d::l=>zpJ now d::ptsM (now+d.later%30) l
def nowM (now:Nat):List DotM→Nat
 | []=>now
 |d::l=>nowM (now+d.later%30) l
theorem z0Y (now:Nat) (l:List DotM) (d:DotM):nowM now (l++ [d])=nowM now l+d.later%30:=by
 induction l generalizing now with
 |nil=>rfl
 |cons x l ih=>exact ih _
theorem z1B (now:Nat) (l:List DotM) (d:DotM):ptsM now (l++ [d])=ptsM now l++ [zpJ (nowM now l) d]:=by
 induction l generalizing now with
 |nil=>rfl
 |cons x l ih=>
  show zpJ now x::ptsM _ (l++ [d])=_
  rw [ih];rfl
theorem zsg (now:Nat) (l:List DotM):(ptsM now l).length=l.length:=by
 induction l generalizing now with
 |nil=>rfl
 |cons x l ih=>simp [ptsM,ih]
theorem zz4 (now:Nat) (l:List DotM):now≤nowM now l∧nowM now l≤now+30*l.length:=by
 induction l generalizing now with
 |nil=>exact ⟨yaq _,yaq _⟩
 |cons x l ih=>
  have:=ih (now+x.later%30)
  have h:=ybs x.later (show 0<30 by omega)
  simp only [nowM,ybf]
  omega
theorem z6f {now:Nat} (hn:1000≤now) {l:List DotM} (hl:now+30*l.length≤1000000) (hd:∀d∈l,OkDot d):∀a∈ptsM now l,OkA a:=by
 induction l generalizing now with
 |nil=>intro a ha;cases ha
 |cons x l ih=>
  intro a ha
  have h:=ybs x.later (show 0<30 by omega)
  have h2:=ybs x.back (show 0<80 by omega)
  simp only [ybf] at hl
  rcases ybb.1 (show a∈zpJ now x::ptsM (now+x.later%30) l from ha) with rfl|ha
  ·exact ⟨by simp only [zpJ];omega,by simp only [zpJ];omega,by simp only [zpJ];omega,by simp only [zpJ];omega,(hd x (by simp)).v⟩
  ·exact ih (by omega) (by omega) (fun d hd'=>hd d (by simp [hd'])) a ha
def zau (n:Nat):Txt:=P4.getD (n%4) []
theorem za9 (n:Nat):zau n∈P4:=by
 have:∀j<4,P4.getD j []∈P4:=by decide
 exact this _ (ybs _ (by omega))
theorem zy6 {i j:Nat} (h:zau i=zau j):i%4=j%4:=by
 have:∀i<4,∀j<4,P4.getD i []=P4.getD j []→i=j:=by decide
 exact this _ (ybs _ (by omega)) _ (ybs _ (by omega)) h
theorem zm7 (n:Nat):zau (n%4)=zau n:=by simp [zau]
structure PlayM where
 came:Nat→List ArrM
 sure:Nat→Nat
 now:Nat
structure PlayInv (s:ShM) (p:PlayM) (q a k:Nat):Prop where
 inv:InvS s a k
 quota:s.disk.quota=q
 ok:∀j<4,∀x∈p.came j,OkA x∧OkV x
 len:∀j<4,(p.came j).length≤300*a
 has:∀j<4,hasK kM s.mets (zau j)↔p.came j≠ []
 lad:∀j<4,(zaz s (zau j)).lad=zcH newL (p.came j)
theorem zoR {s:ShM} {p:Txt} (hs:Srt kM s.mets) {m:MetM} (hm:m∈s.mets) (hp:m.path=p):zaz s p=m:=by
 have hh:hasK kM s.mets p:=⟨m,hm,hp⟩
 obtain ⟨h1,h2⟩:=zdn hs hh
 exact zrn hs (yaf h1) hm (h2.trans hp.symm)
theorem zw9 {s:ShM} {m:MetM} (hs:Srt kM s.mets) (p:Txt):(zaz (zco s m) p).lad=if p=m.path then m.lad else (zaz s p).lad:=by
 have hS:=zst (m:=m) hs
 split
 ·rename_i h
  rw [zoR hS ((zfq hs).2 (.inl rfl)) h.symm]
 ·rename_i h
  by_cases hh:hasK kM s.mets p
  ·obtain ⟨h1,h2⟩:=zdn hs hh
   rw [zoR hS ((zfq hs).2 (.inr ⟨yaf h1,by rw [h2];exact h⟩)) h2]
  ·rw [zgo hh,zgo (by rw [zse hs];exact fun h'=>h'.elim h hh)]
   rfl
def addC (p:PlayM) (n:Nat) (bs:List ArrM) (now:Nat):PlayM:=⟨fun j=>if j=n then p.came n++bs else p.came j,p.sure,now⟩
theorem zeA (s:ShM) (m:MetM):(zco s m).disk=s.disk:=by unfold zco;split<;>rfl
theorem zuf (s:ShM) (m:MetM) (bs:List ArrM):(zcb s m bs).disk.quota=s.disk.quota:=by
 unfold zcb
 rw [zeA]
 show (znV s.disk m _).quota=_
 unfold znV;split
 ·show (zaR s.disk m).quota=_;exact zeF _ _
 ·rfl
theorem zlA (d:DiskM) (l:List Txt):(zbt d l).quota=d.quota:=by
 unfold zbt
 induction l generalizing d with
 |nil=>rfl
 |cons n l ih=>exact ih (zcO d n)
theorem zyi (s:ShM) (m:MetM) (b:Txt):(zjw s m b).disk.quota=s.disk.quota:=by
 unfold zjw
 rw [zeA]
 show (zhX s.disk m b).quota=_
 unfold zhX
 rw [zkv,zlA]
 exact zeF _ _
theorem zwJ {s:ShM} {a k a' k':Nat} (h:InvS s a k) (ha:a≤a') (hk:k≤k'):InvS s a' k':=
 ⟨h.size.more ha hk,h.srt,h.paths,h.next,h.ids,h.idn,h.lad,fun m hm=>yca (h.seq m hm) ha,h.cnt,h.last,h.dir⟩
theorem zfa {s:ShM} {p:PlayM} {q a k a' k':Nat} (h:PlayInv s p q a k) (ha:a≤a') (hk:k≤k'):PlayInv s p q a' k':=
 ⟨zwJ h.inv ha hk,h.quota,h.ok,fun j hj=>by have:=h.len j hj;omega,h.has,h.lad⟩
theorem zim {s:ShM} {p:PlayM} {q a k:Nat} (h:PlayInv s p q a k) (sure:Nat→Nat) (now:Nat):PlayInv s ⟨p.came,sure,now⟩ q a k:=⟨h.inv,h.quota,h.ok,h.len,h.has,h.lad⟩
theorem zpo {s:ShM} {p:PlayM} {q a k:Nat} (h:PlayInv s p q a k) (ha:a<69) {n:Nat} (hn:n<4) {bs:List ArrM} (hb:∀x∈bs,OkA x∧OkV x) (h0:bs≠ []) (hl:bs.length≤300) (hf:(zaO (zaz s (zau n)) bs).length≤s.disk.quota-zaC s.disk) (now:Nat):
  PlayInv (zcb s (zaz s (zau n)) bs) (addC p n bs now) q (a+1) (k+1):=by
 have hI:=zyR h.inv (za9 n) ha hb hl hf
 have ho:=h.inv.met (za9 n)
 have hpath:(metA (zaz s (zau n)) bs).path=zau n:=by unfold metA;split<;>exact ho.path
 have hlad:(metA (zaz s (zau n)) bs).lad=zcH (zaz s (zau n)).lad bs:=by unfold metA;split<;>rfl
 have hinj:∀j<4,zau j=zau n→j=n:=fun j hj e=>by have:=zy6 e;omega
 refine ⟨hI,by rw [zuf];exact h.quota,fun j hj x hx=> ?_,fun j hj=> ?_,fun j hj=> ?_,fun j hj=> ?_⟩
 ·simp only [addC] at hx
  split at hx
  ·rcases yai.1 hx with h1|h1
   ·exact h.ok n hn x h1
   ·exact hb x h1
  ·exact h.ok j hj x hx
 ·have h1:=h.len j hj
  have h2:=h.len n hn
  simp only [addC]
  split
  ·rw [yag];omega
  ·omega
 ·unfold zcb
  rw [zse (s:={s with disk:=znV s.disk _ _}) h.inv.srt,hpath]
  show zau j=zau n∨hasK kM s.mets (zau j)↔_
  simp only [addC]
  rw [h.has j hj]
  split
  ·rename_i e;subst e
   simp [h0]
  ·rename_i e
   constructor
   ·rintro (h1|h1)
    ·exact absurd (hinj j hj h1) e
    ·exact h1
   ·exact .inr
 ·unfold zcb
  rw [zw9 (s:={s with disk:=znV s.disk _ _}) h.inv.srt,hpath,hlad]
  simp only [addC]
  by_cases e:j=n
  ·subst e
   rw [if_pos rfl,if_pos rfl,h.lad j hj]
   simp [zcH]
  ·rw [if_neg (fun h'=>e (hinj j hj h')),if_neg e]
   exact h.lad j hj
theorem zxk {s:ShM} {p:PlayM} {q a k a' k':Nat} (h:PlayInv s p q a k) {n:Nat} (hn:n<4) (hh:hasK kM s.mets (zau n)) (D:DiskM) {m:MetM} (hpath:m.path=zau n) (hlad:m.lad=(zaz s (zau n)).lad) (hI:InvS (zco {s with disk:=D} m) a' k') (hq:D.quota=q) (haa:a≤a'):PlayInv (zco {s with disk:=D} m) p q a' k':=by
 refine ⟨hI,by rw [zeA];exact hq,h.ok,fun j hj=>by have:=h.len j hj;omega,fun j hj=> ?_,fun j hj=> ?_⟩
 ·rw [zse (s:={s with disk:=D}) h.inv.srt,hpath]
  show zau j=zau n∨hasK kM s.mets (zau j)↔_
  rw [←h.has j hj]
  constructor
  ·rintro (h1|h1)
   ·rw [h1];exact hh
   ·exact h1
  ·exact .inr
 ·rw [zw9 (s:={s with disk:=D}) h.inv.srt,hpath,hlad]
  show (if zau j=zau n then (zaz s (zau n)).lad else (zaz s (zau j)).lad)=_
  split
  ·rename_i e;rw [←e];exact h.lad j hj
  ·exact h.lad j hj
theorem z0j {s:ShM} {p:PlayM} {q a k:Nat} (h:PlayInv s p q a k) {n:Nat} (hn:n<4) (hh:hasK kM s.mets (zau n)):PlayInv (zoG s (zaz s (zau n))) p q a k:=
 zxk h hn hh _ (h.inv.met (za9 n)).path rfl (z4F h.inv (za9 n)) (by rw [zkv,zeF];exact h.quota) (yaq _)
theorem ztM {s:ShM} {p:PlayM} {q a k:Nat} (h:PlayInv s p q a k) (ha:a<69) {n:Nat} (hn:n<4) (hh:hasK kM s.mets (zau n)) {b:Txt} (hf:b.length≤s.disk.quota-zaC s.disk):PlayInv (zjw s (zaz s (zau n)) b) p q (a+1) k:=
 zxk h hn hh _ (h.inv.met (za9 n)).path rfl (zw4 h.inv (za9 n) ha hf) (by unfold zhX;rw [zkv,zlA];exact (zeF _ _).trans h.quota) (by omega)
theorem zro {q:Nat} (hq:q≤65535):PlayInv (newS q) ⟨fun _=> [],fun _=>0,1000⟩ q 0 0:=
 ⟨z6w hq,rfl,by simp,by simp,fun j hj=>by simp [newS,hasK],fun j hj=>by rw [zgo (by simp [newS,hasK])];rfl⟩
end Go.Proofs.YtdbhocoeolhjhaaGreatDoor
end
section
set_option maxHeartbeats 8000000
namespace Go.Sf
open Go.Abs
end Go.Sf
namespace Go.Proofs.YtdbhocoeolhjhaaGreatDoor
open Go.Abs Go.RowKit Go.Sf Go.Num
variable {G:Globs}
def dotC (d:DotM):List AV:= [.int .u8 d.back,.int .u8 d.later,.int .i64 d.v]
def zte (l:List DotM):List (List AV):=l.map dotC
def actC (a:ActM):List AV:= [.int .u8 a.kind,.int .u8 a.met,.lst (zte a.dots)]
def zrD (l:List ActM):List (List AV):=l.map actC
theorem ztq (l:List DotM):(zte l).length=l.length:=by simp [zte]
theorem zzo {l:List DotM} {i:Nat} {d:DotM} (h:l[i]? =some d):(zte l)[i]? =some (dotC d):=by simp [zte,h]
theorem zu7 (l:List ActM):(zrD l).length=l.length:=by simp [zrD]
theorem ztS {l:List ActM} {i:Nat} {d:ActM} (h:l[i]? =some d):(zrD l)[i]? =some (actC d):=by simp [zrD,h]
theorem zoe (n:Nat) (h:n<256):PCalls Tryz.prog zk7 [.int .u8 n] (fun r=>r=.str (zau n)):=by
 refine zaa hmix zle rfl ?_
 have hm:(n:Int).tmod 4=((n%4:Nat):Int):=zbI n 4
 have hm':(n:Int)%4=((n%4:Nat):Int):=by omega
 obtain ⟨j,hj⟩:∃j,j=n%4:=⟨_,rfl⟩
 have hj4:j<4:=by omega
 have hp:zau n=P4.getD j []:=by rw [hj];rfl
 rw [←hj] at hm hm'
 rw [hp]
 simp [zgu,hm]
 match j,hj4 with
 |0,_=>simp [zfE,P4]
 |1,_=>simp [zfE,P4]
 |2,_=>simp [zfE,P4]
 |3,_=>simp [zfE,P4]
theorem zkQ:PCalls Tryz.prog zkk [] (fun r=>r=.agg schC):=by
 refine zaa hmix zks rfl ?_
 simp [zfX,splice,schC,rungsC]
def zqv (l:List ActM):Nat:=l.length+(l.map fun a=>a.dots.length).sum
def znv (l:List ActM):Bool:=decide (300<zqv l)||decide (60<l.length)
def sumT (l:List ActM) (i:Nat):Nat:=l.length+((l.take i).map fun a=>a.dots.length).sum
theorem z0C (l:List ActM) (hl:l.length≤1000000000000000) (hd:∀a∈l,a.dots.length≤1000000000000000):PCalls Tryz.prog zjS [.lst (zrD l)] (fun r=>r=.bool (znv l)):=by
 refine zaa hmix zkc rfl ?_
 have hle:=zu7 l
 have hmono:∀i,((l.take i).map fun a=>a.dots.length).sum≤(l.map fun a=>a.dots.length).sum:=fun i=>by
  have e:l.map (fun a=>a.dots.length)=(l.take i).map (fun a=>a.dots.length)++(l.drop i).map fun a=>a.dots.length:=by rw [←ydm,ya9]
  rw [e,List.sum_append];omega
 simp [zf5,hle]
 refine zah (fun x f σ=>∃(i:Nat),x=l.length-i∧i≤l.length∧f 0=.lst (zrD l)∧f 3=.int .i64 (sumT l i:Nat)∧f 4=.int .i64 i∧sumT l i≤300+1000000000000000+1000000000000000∧σ= []) l.length ?_ ?_
 ·exact ⟨0,by simp,by simp,by simp,by simp [sumT],by simp,by simp [sumT];omega,by simp⟩
 rintro x f σ ⟨i,rfl,hi,f0,f3,f4,hbd,rfl⟩
 obtain ⟨n,hn⟩:∃n,n=sumT l i:=⟨_,rfl⟩
 rw [←hn] at f3 hbd
 simp [f0,f3,f4,hle]
 by_cases hlt:i<l.length
 ·by_cases hn3:n≤300
  ·have hn3':(n:Int)≤300:=by omega
   have hwi:IntKind.i64.wrap ((i:Int)+1)=((i+1:Nat):Int):=by rw [wrap_i64 (by omega) (by omega)];omega
   obtain ⟨a,ha⟩:∃a,l[i]? =some a:=⟨_,yad hlt⟩
   have hc:=ztS ha
   obtain ⟨hx1,hx2⟩:=yaa.1 hc
   have hdl:=ztq a.dots
   have hal:=hd a (yaf ha)
   have hwn:IntKind.i64.wrap ((n:Int)+a.dots.length)=((n+a.dots.length:Nat):Int):=by rw [wrap_i64 (by omega) (by omega)];omega
   have hsn:l.take (i+1)=l.take i++ [a]:=by rw [yax,ha];rfl
   have hsum:sumT l (i+1)=n+a.dots.length:=by
    unfold sumT at hn⊢
    rw [hsn,ydm,List.sum_append]
    have:(([a]:List ActM).map fun a=>a.dots.length).sum=a.dots.length:=by simp
    omega
   simp [hlt,hn3,hn3',f0,f3,f4,hc,hx2,actC,hdl,hwn,hwi, -Int.natCast_add]
   exact zae (l.length-(i+1)) (by omega) ⟨i+1,rfl,by omega,by simp [f0],by rw [hsum];simp,by simp,by omega,rfl⟩
  ·have hn3':¬(n:Int)≤300:=by omega
   have hm:=hmono i
   have ht:300<zqv l:=by unfold zqv;unfold sumT at hn;omega
   have h3:300<n:=by omega
   have h3':(300:Int)<n:=by omega
   simp [hlt,hn3,hn3',f0,f3,f4,h3,h3',znv,ht]
 ·have hil:i=l.length:=by omega
  subst hil
  unfold sumT at hn
  rw [ya1] at hn
  have ht:zqv l=n:=hn.symm
  by_cases h3:300<n
  ·have h3':(300:Int)<n:=by omega
   simp [f0,f3,f4,h3,h3',znv,ht]
  ·have h3':¬(300:Int)<n:=by omega
   simp [f0,f3,f4,h3,h3',znv,ht,hle]
   omega
end Go.Proofs.YtdbhocoeolhjhaaGreatDoor
end
section
set_option maxHeartbeats 8000000
namespace Go.Abs
theorem z4D {K:AV→zac→Prop} {t:Tg K} {e size bytes:Nat} {σ τ:zac} {a:Entry} {v:AV} {l:List (List AV)} (h:AccT e size (σ.length+1) τ v l) (x:List AV) (hs:0<size) (hx:x.length=size) (hb:(l.length+1)*bytes≤140737488355328) (h63:l.length+1≤9223372036854775807)
  (hK:∀v' τ',AccT e size (σ.length+1) τ' v' (l++ [x])→(∀en∈τ',en∈τ∨en=.row e size (l++ [x]) true)→K v' (σ++a::τ')):ap K t (σ++a::τ) e size bytes v (.lst [x]):=by
 rw [←app1]
 exact zzm (z8W h) x hs hx hb h63 fun v' τ' h1 h2 _ h4=>by rw [app1];exact hK v' τ' (by simpa using h1) h4
end Go.Abs
namespace Go.Proofs.YtdbhocoeolhjhaaGreatDoor
open Go.Abs Go.RowKit Go.Sf Go.Num
variable {G:Globs}
def plC (C0 C1 C2 C3:AV) (s0 s1 s2 s3:Int) (now:Nat):List AV:= [C0,C1,C2,C3,.int .i64 s0,.int .i64 s1,.int .i64 s2,.int .i64 s3,.int .i64 now]
def CameOK (σ:zac) (C:AV) (l:List ArrM):Prop:=(C=.nils∧l= [])∨∃id,C=.row id l.length∧σ[id]? =some (.row 91 4 (zbi l) true)
def LowC (σ:zac) (C:AV):Prop:=C=.nils∨∃id n,C=.row id n∧id<σ.length
theorem LowC.one {σ:zac} {C:AV} (h:LowC σ C):C.one=true∧C.cells= [C]:=by
 rcases h with rfl|⟨id,n,rfl,_⟩<;>exact ⟨rfl,rfl⟩
theorem LowC.under {σ:zac} {C:AV} (h:LowC σ C) {m:Nat} (hm:σ.length≤m):C.under m=true:=by
 rcases h with rfl|⟨id,n,rfl,h⟩
 ·simp [AV.under]
 ·simp [AV.under];omega
theorem CameOK.low {σ:zac} {C:AV} {l:List ArrM} (h:CameOK σ C l):LowC σ C:=by
 rcases h with ⟨rfl,_⟩|⟨id,rfl,h⟩
 ·exact .inl rfl
 ·exact .inr ⟨id,_,rfl,(yaa.1 h).1⟩
theorem CameOK.coe {σ:zac} {C:AV} {l:List ArrM} (h:CameOK σ C l) (lend:Bool):Coe σ lend C (.lst (zbi l)):=by
 rcases h with ⟨rfl,rfl⟩|⟨id,rfl,h⟩
 ·exact .nils
 ·exact .row id _ _ 4 _ true h (zc7 l) (.inl rfl)
theorem CameOK.view {σ:zac} {C:AV} {l:List ArrM} (h:CameOK σ C l):view σ C=some (zbi l):=by
 rcases h with ⟨rfl,rfl⟩|⟨id,rfl,h⟩
 ·rfl
 ·simp [Abs.view,h,zc7]
theorem z1P {σ:zac} {k:Nat} {C0 C1 C2 C3:AV} {s0 s1 s2 s3:Int} {now:Nat} (l0:LowC σ C0) (l1:LowC σ C1) (l2:LowC σ C2) (l3:LowC σ C3)
  (hk:σ[k]? =some (.var 42 (plC C0 C1 C2 C3 s0 s1 s2 s3 now))) (a:ActM) (ha:OkAct a) (hl:a.dots.length≤300) (hn1:1000≤now) (hn2:now≤600000):
  ACalls Tryz.prog zg7 [.ptr k 0,.agg (actC a)] σ (fun r σ'=>∃tl,σ'=σ.set k (.var 42 (plC C0 C1 C2 C3 s0 s1 s2 s3 (nowM now a.dots)))++ .var 47 (actC a)::tl∧AccT 91 4 (σ.length+1) tl r (zbi (ptsM now a.dots))∧∀en∈tl,∃l,en=.row 91 4 (zbi l) true):=by
 refine zag hmix zgA rfl ?_
 have hdl:=ztq a.dots
 have o0:=l0.one
 have o1:=l1.one
 have o2:=l2.one
 have o3:=l3.one
 obtain ⟨A,hA⟩:∃A:Entry,A=.var 47 (actC a):=⟨_,rfl⟩
 obtain ⟨V,hV⟩:∃V:Nat→Entry,V=fun n=> .var 42 (plC C0 C1 C2 C3 s0 s1 s2 s3 n):=⟨_,rfl⟩
 have hVn:∀n,V n=.var 42 (plC C0 C1 C2 C3 s0 s1 s2 s3 n):=fun n=>by rw [hV]
 have hself:σ.set k (V now)=σ:=by
  obtain ⟨hlt,hx⟩:=yaa.1 hk
  rw [hVn,←hx,ycr]
 simp [zdt,actC]
 refine zah (fun x f σ'=>∃(i:Nat) (tl:zac),x=a.dots.length-i∧i≤a.dots.length∧f 0=.ptr k 0∧f 3=.ptr σ.length 0∧f 6=.int .i64 i∧AccT 91 4 (σ.length+1) tl (f 5) (zbi (ptsM now (a.dots.take i)))∧(∀en∈tl,∃l,en=.row 91 4 (zbi l) true)∧σ'=σ.set k (V (nowM now (a.dots.take i)))++A::tl) a.dots.length ?_ ?_
 ·exact ⟨0,[],by simp,by simp,by simp,by simp,by simp,by simp [ptsM,zbi];exact zgt,by simp,by simp [nowM,hself,hA,actC]⟩
 rintro x f σ' ⟨i,tl,rfl,hi,f0,f3,f6,hAcc,hen,rfl⟩
 have hgA:∀(x:Entry) (t:zac),(σ.set k x++A::t)[σ.length]? =some A:=fun x t=>by
  have:σ.length=(σ.set k x).length:=by simp
  rw [this,zbu]
 have hgk:∀(x:Entry) (t:zac),(σ.set k x++t)[k]? =some x:=fun x t=>zdu (zdV hk x) t
 have hst:∀(x y:Entry) (t:zac),(σ.set k x++t).set k y=σ.set k y++t:=fun x y t=>by
  rw [zj4 (zdV hk x),List.set_set]
 have hA':A=.var 47 [.int .u8 a.kind,.int .u8 a.met,.lst (zte a.dots)]:=hA
 simp [f3,f6,hgA]
 simp [hA',hdl]
 rw [←hA']
 refine zax (fun hlt=> ?_) (fun hge=> ?_)
 ·have hlt':i<a.dots.length:=by omega
  have hwi:IntKind.i64.wrap ((i:Int)+1)=((i+1:Nat):Int):=by rw [wrap_i64 (by omega) (by omega)];omega
  obtain ⟨d,hd⟩:∃d,a.dots[i]? =some d:=⟨_,yad hlt'⟩
  have hc:=zzo hd
  obtain ⟨hx1,hx2⟩:=yaa.1 hc
  have hsn:a.dots.take (i+1)=a.dots.take i++ [d]:=by rw [yax,hd];rfl
  have hod:=ha.d d (yaf hd)
  have hnle:=zz4 now (a.dots.take i)
  have hmin:(a.dots.take i).length≤300:=by simp;omega
  obtain ⟨n,hn⟩:∃n,n=nowM now (a.dots.take i):=⟨_,rfl⟩
  have hn':nowM now (a.dots.take (i+1))=n+d.later%30:=by rw [hsn,z0Y,←hn]
  have hpt:ptsM now (a.dots.take (i+1))=ptsM now (a.dots.take i)++ [zpJ n d]:=by rw [hsn,z1B,←hn]
  rw [←hn] at hnle⊢
  have hm1:=ybs d.later (show 0<30 by omega)
  have hm2:=ybs d.back (show 0<80 by omega)
  have wl:IntKind.i64.wrap (d.later:Int)=d.later:=wrap_i64 (by omega) (by have:=hod.l;omega)
  have wb:IntKind.i64.wrap (d.back:Int)=d.back:=wrap_i64 (by omega) (by have:=hod.b;omega)
  have tl1:(d.later:Int).tmod 30=((d.later%30:Nat):Int):=zbI d.later 30
  have tb1:(d.back:Int).tmod 80=((d.back%80:Nat):Int):=zbI d.back 80
  have wn:IntKind.i64.wrap ((n:Int)+((d.later%30:Nat):Int))=((n+d.later%30:Nat):Int):=by rw [wrap_i64 (by omega) (by omega)];omega
  have wt:IntKind.i64.wrap (((n+d.later%30:Nat):Int)-((d.back%80:Nat):Int))=((n+d.later%30-d.back%80:Nat):Int):=by rw [wrap_i64 (by omega) (by omega)];omega
  simp [f0,f3,f6,hgA,hgk,hst,hVn,plC,hA',hc,hx2,dotC,wl,wb,tl1,tb1,wn,wt,splice, -Int.natCast_add, -Int.natCast_emod]
  have hal:(zbi (ptsM now (a.dots.take i))).length≤300:=by rw [zc7,zsg];exact hmin
  refine z4D (bytes:=32) (by simpa using hAcc) [.int .i64 (n+d.later%30-d.back%80:Nat),.int .i64 d.v,.int .i64 (n+d.later%30:Nat),.int .i64 0] (by decide) rfl (by omega) (by omega) fun v' τ' hA1 hA2=> ?_
  have harr:zbi (ptsM now (a.dots.take (i+1)))=zbi (ptsM now (a.dots.take i))++ [[.int .i64 (n+d.later%30-d.back%80:Nat),.int .i64 d.v,.int .i64 (n+d.later%30:Nat),.int .i64 0]]:=by
   rw [hpt];simp [zbi,arrC,zpJ]
  simp [f6,hwi]
  refine zae (a.dots.length-(i+1)) (by omega) ⟨i+1,τ',rfl,by omega,by simp [f0],by simp [f3],by simp, ?_,fun en he=> ?_, ?_⟩
  ·rw [harr]
   simpa using hA1
  ·rcases hA2 en he with h1|h1
   ·exact hen en h1
   ·exact ⟨_,by rw [h1,←harr]⟩
  ·rw [hn',hVn]
   simp [plC,hA']
 ·have hil:i=a.dots.length:=by omega
  subst hil
  rw [ya1] at hAcc⊢
  simp
  have hlt:=(yaa.1 hk).1
  have hru:(f 5).under (σ.set k (V (nowM now a.dots))++A::tl).length=true:=by
   refine hAcc.under ?_
   simp;omega
  refine za5 (σ.set k (V (nowM now a.dots))++A::tl) (f 5) (by simp [zaE]) [] (by simp) (by simp) hru (fun j e' he'=> ?_) ⟨tl,by rw [hVn],hAcc,hen⟩
  have hul:σ.length≤(σ.set k (V (nowM now a.dots))++A::tl).length:=by simp
  have hul2:σ.length≤σ.length+(tl.length+1):=by omega
  by_cases hj:j<σ.length
  ·rw [yar (by simpa using hj)] at he'
   by_cases hkj:k=j
   ·subst hkj
    rw [zdV hk] at he'
    cases he'
    right
    rw [hVn]
    simp [Entry.under,plC,AV.under]
    exact ⟨l0.under hul2,l1.under hul2,l2.under hul2,l3.under hul2⟩
   ·rw [yba hkj] at he'
    exact .inl he'
  ·rw [yaj (by simpa using yd0 hj)] at he'
   right
   rcases ybb.1 (yaf he') with rfl|h1
   ·rw [hA'];simp [Entry.under,AV.under]
   ·obtain ⟨l,rfl⟩:=hen e' h1
    exact za7 (zhe l).2.1
end Go.Proofs.YtdbhocoeolhjhaaGreatDoor
end
section
set_option maxHeartbeats 8000000
namespace Go.Proofs.YtdbhocoeolhjhaaGreatDoor
open Go.Abs Go.RowKit Go.Sf Go.Num
variable {G:Globs}
theorem zuX (c0 c1 c2 c3:List ArrM) (s0 s1 s2 s3:Int) (now:Nat) (j:Nat) (c:List ArrM) (hj:(j=0∧c=c0)∨(j=1∧c=c1)∨(j=2∧c=c2)∨(j=3∧c=c3)) (hc:∀a∈c,OkA a∧OkV a) (hcl:c.length≤1000000) (bs:List ArrM) (hb:∀a∈bs,OkA a) (hl:bs.length≤1000):
  PCalls Tryz.prog zfJ [.rptr [.lst (zbi c0),.lst (zbi c1),.lst (zbi c2),.lst (zbi c3),.int .i64 s0,.int .i64 s1,.int .i64 s2,.int .i64 s3,.int .i64 now],.int .i64 j,.lst (zbi bs)] (fun r=>r=.bool (decide (∀a∈bs,OkV a))):=by
 refine zaa hmix zfR rfl ?_
 have hle:=zc7 bs
 have kF:=z1h (G:=G) c hc hcl
 have hR:=zhq zkf hc
 obtain ⟨L,hL⟩:∃L,L=zcH newL c:=⟨_,rfl⟩
 rw [←hL] at kF hR
 simp only [ladC] at kF
 have hsplit:∀{P:Prop},(∀(x:List ArrM),x=c→P)→P:=fun h=>h c rfl
 rcases hj with ⟨rfl,rfl⟩|⟨rfl,rfl⟩|⟨rfl,rfl⟩|⟨rfl,rfl⟩
 all_goals
  simp [zcN]
  refine zaZ zkQ (by simp) ?_
  simp [zaP]
  refine zaZ kF (by simp [AV.pure,schC]) ?_
  simp [splice]
  refine zah (fun x f σ=>∃(i:Nat) (tl:zac),x=bs.length-i∧i≤bs.length∧(∀a∈bs.take i,OkV a)∧f 2=.lst (zbi bs)∧f 7=.ptr 0 0∧f 8=.int .i64 i∧σ=.var 55 (ladC (zcH L (bs.take i)))::tl) bs.length ?_ ?_
  ·exact ⟨0,[],by simp,by simp,by simp,by simp,by simp,by simp,by simp [ladC,zcH]⟩
  rintro x f σ ⟨i,tl,rfl,hi,hv,f2,f7,f8,rfl⟩
  simp [f2,f8,hle]
  refine zax (fun hlt=> ?_) (fun hge=> ?_)
  ·have hlt':i<bs.length:=by omega
   have hwi:IntKind.i64.wrap ((i:Int)+1)=((i+1:Nat):Int):=by rw [wrap_i64 (by omega) (by omega)];omega
   obtain ⟨a,ha⟩:∃a,bs[i]? =some a:=⟨_,yad hlt'⟩
   have hcc:=zlV ha
   obtain ⟨hx1,hx2⟩:=yaa.1 hcc
   have ok:=hb a (yaf ha)
   have hsn:bs.take (i+1)=bs.take i++ [a]:=by rw [yax,ha];rfl
   have hr:RightL (zcH L (bs.take i)):=zhq hR fun x hx=>⟨hb x (yak hx),hv x hx⟩
   simp [f2,f7,f8,hcc,hx2,arrC,ladC,splice,zaP]
   by_cases okv:OkV a
   ·have kA:=zny (G:=G) _ hr a.time a.now a.value ok.t ok.n ok.le ok.ge ok.v okv
    have hst:zcB (zcH L (bs.take i)) a.time a.now a.value=zcH L (bs.take (i+1)):=by rw [hsn,zmy];rfl
    rw [hst] at kA
    simp only [ladC] at kA
    refine zaZ kA (by simp [AV.pure]) ?_
    simp [f7,f8,zam,zal,splice,ladC,hwi]
    refine zae (bs.length-(i+1)) (by omega) ⟨i+1,_,rfl,by omega,fun x hx=> ?_,by simp [f2],by simp [f7],by simp,by simp [ladC];rfl⟩
    rw [hsn] at hx
    rcases yai.1 hx with h1|h1
    ·exact hv x h1
    ·simp at h1;subst h1;exact okv
   ·have hav:a.value= -9223372036854775808:=Classical.not_not.1 okv
    have kA:=z1X (G:=G) (zcH L (bs.take i)) hr a.time a.now (by have:=ok.t;omega) (by have:=ok.n;omega)
    have hn:¬∀a∈bs,OkV a:=fun hh=>okv (hh a (yaf ha))
    simp only [ladC] at kA
    rw [hav]
    refine zaZ kA (by simp [AV.pure]) ?_
    rw [decide_eq_false hn]
    simp
  ·have hil:i=bs.length:=by omega
   subst hil
   rw [ya1] at hv
   rw [decide_eq_true hv]
   simp
end Go.Proofs.YtdbhocoeolhjhaaGreatDoor
end
