/- Paths of names: the functions. Shelf: slices.DeleteFunc at strings, where more lies behind the row. Shelf: files, Sync. Shelf: Append. Shelf: Sync and -/
import Derived.Test.YtdbhocoeolhjhaaGreatDoorBn1
import Derived.Test.YtdbhocoeolhjhaaGreatDoorBn2
import Derived.Test.YtdbhocoeolhjhaaGreatDoorBn3
import Derived.Test.YtdbhocoeolhjhaaGreatDoorBn4
import Derived.Test.YtdbhocoeolhjhaaGreatDoorBn5
import Derived.Test.YtdbhocoeolhjhaaGreatDoorBn6
set_option linter.unusedSimpArgs false
set_option linter.unusedVariables false
set_option linter.constructorNameAsVariable false
section
namespace Go.Proofs.YtdbhocoeolhjhaaGreatDoor
open Go.Abs Go.Glob Go.Trail
variable {G:Globs}
theorem plain_ok (s:List UInt8) (hs:s.length≤9223372036854775807):PCalls Tryz.prog n_glob_Plain [.str s] (fun r=>r=.bool (s.all nb&& !s.isEmpty)):=by
 refine pcalls_of_awp hmix c_glob_Plain rfl ?_
 simp [a_glob_Plain]
 refine lp_start (fun n f σ=>∃i:Nat,n=s.length-i∧i≤s.length∧f 0=.str s∧f 5=.int .i64 s.length∧f 6=.int .i64 i∧(s.take i).all nb=true∧σ= []) s.length ⟨0,by simp⟩ ?_
 rintro n f σ ⟨i,rfl,hi,h0,h5,h6,hall,rfl⟩
 simp [h5,h6]
 refine cb_dec (fun hlt=> ?_) (fun hge=> ?_)
 ·have hlt':i<s.length:=by omega
  simp [h0,h6,List.getElem?_eq_getElem hlt']
  refine ac_same (byte_ok _) (by simp) ?_
  rintro r rfl
  simp
  refine cb_intro (fun hn=> ?_) (fun hn=> ?_)
  ·simp
   intro h
   have:=h _ (List.getElem_mem hlt')
   simp [this] at hn
  ·simp [h0,h5,h6]
   refine ⟨_, ?_,i+1,rfl,by omega,by rw [wrap_i64 (by omega) (by omega)];simp, ?_⟩
   ·omega
   ·simp only [Bool.not_eq_eq_eq_not,Bool.not_false] at hn
    intro x hx
    rw [List.take_add_one,List.getElem?_eq_getElem hlt'] at hx
    simp only [Option.toList_some,List.mem_append,List.mem_singleton] at hx
    rcases hx with hx|rfl
    ·simpa using List.all_eq_true.1 hall x hx
    ·exact hn
 ·have e:s.take i=s:=List.take_of_length_le (by omega)
  rw [e] at hall
  simp [h0,hall]
  cases s<;>simp
theorem name_ok (s:List UInt8) (hs:s.length≤9223372036854775807):PCalls Tryz.prog n_glob_Name [.str s] (fun r=>r=.bool (nameB s)):=by
 refine pcalls_of_awp hmix c_glob_Name rfl ?_
 simp [a_glob_Name]
 by_cases h:s.length≤32
 ·have h':(s.length:Int)≤32:=by omega
  simp [h,h']
  refine ac_same (plain_ok s hs) (by simp) ?_
  rintro r rfl
  simp [nameB,h,h']
 ·have h':¬(s.length:Int)≤32:=by omega
  simp [h,h',nameB]
theorem index_ok (s:List UInt8):PCalls Tryz.prog 304 [.str s,.str [46]] (fun r=>r=.int .i64 (Lib.indexByte s 46)):=by
 intro base κ Im w vs hs hv
 obtain ⟨v0,v1,rfl⟩:∃v0 v1,vs= [v0,v1]:=by
  match vs,hv.1 with
  | [a,b],_=>exact ⟨a,b,rfl⟩
 have e0:=(hv.2 0 (by simp) (by simp)).str_inv
 have e1:=(hv.2 1 (by simp) (by simp)).str_inv
 simp only [List.getElem_cons_zero,List.getElem_cons_succ] at e0 e1
 subst e0;subst e1
 refine (Tryz.strings_Index_one ⟨s.toArray⟩ 46 w).mono ?_
 rintro e w' ⟨rfl,rfl⟩
 exact ⟨_,[],_,κ,Im,rfl,⟨rfl,rfl⟩,hs,Grow.refl _ _ _ _,.im _ _ (.int .i64 (Lib.indexByte s 46))⟩
theorem strEls_append (a b:List (List UInt8)):strEls (a++b)=strEls a++strEls b:=by simp [strEls]
theorem strEls_share (σ:Store) (l:List (List UInt8)):((strEls l).mapM fun (c:List AV)=>c.mapM (share1 σ))=some (strEls l):=by
 induction l with
 |nil=>rfl
 |cons a l ih=>
  simp only [strEls,List.map_cons] at ih⊢
  rw [List.mapM_cons,ih]
  simp [share1]
theorem genSplit_ok (s:List UInt8) (hs:s.length≤1000000000000000000):PCalls Tryz.prog n_strings_genSplit [.str s,.str [46],.int .i64 0,.int .i64 9] (fun r=>r=.lst (strEls (cutN 8 s))):=by
 refine pcalls_of_awp hmix c_strings_genSplit rfl ?_
 have hw1:IntKind.i64.wrap ((s.length:Int)+1)=(s.length:Int)+1:=wrap_i64 (by omega) (by omega)
 simp [a_strings_genSplit,hw1]
 obtain ⟨N,hN,hN1,hN2⟩:∃N:Nat,N+1=min 9 (s.length+1)∧N≤8∧N≤s.length:=⟨min 8 s.length,by omega,by omega,by omega⟩
 have hmm:(if (s.length:Int)+1<9 then (s.length:Int)+1 else 9)=((N+1:Nat):Int):=by split<;>omega
 simp only [hmm]
 refine ms_intro (N+1) rfl rfl (by omega) (by omega) (by omega) rfl ?_
 have hw2:IntKind.i64.wrap (((N+1:Nat):Int)-1)=N:=by rw [wrap_i64 (by omega) (by omega)];omega
 have hw3:IntKind.i64.wrap (N:Int)=N:=wrap_i64 (by omega) (by omega)
 simp [hw2]
 have hcut0:∀k,cutN k []= [[]]:=fun k=>by cases k<;>simp [cutN,Lib.indexByte]
 refine lp_startx (fun x f σ=>∃(i:Nat) (done:List (List UInt8)) (s':List UInt8),x=N-i∧i≤N∧done.length=i∧f 0=.str s'∧f 1=.str [46]∧f 2=.int .i64 0∧f 3=.int .i64 N∧f 9=.row 0 (N+1)∧f 10=.int .i64 i∧i+s'.length≤s.length∧
  cutN 8 s=done++cutN (8-i) s'∧σ= [.row 9 1 (strEls (done++List.replicate (N+1-i) [])) false]) N ?_ ?_
 ·exact ⟨0,[],s,rfl,by omega,rfl,by simp,by simp,by simp,by simp [hmm,hw2,hw3],by simp,by simp,by omega,by simp,by simp [strEls]⟩
 rintro x f σ ⟨i,done,s',rfl,hi,hdl,h0,h1,h2,h3,h9,h10,hsl,hcut,rfl⟩
 have hwi:IntKind.i64.wrap ((i:Int)+1)=(i:Int)+1:=wrap_i64 (by omega) (by omega)
 have hlenL:(strEls (done++List.replicate (N+1-i) [])).length=N+1:=by simp [strEls];omega
 have hlenL2:(strEls (done++s'::List.replicate (N-i) [])).length=N+1:=by simp [strEls];omega
 have hiN:i<N+1:=by omega
 have hL:∀x:List UInt8,(strEls (done++List.replicate (N+1-i) [])).set i [.str x]=strEls (done++x::List.replicate (N-i) []):=fun x=>by
  have e:N+1-i=(N-i)+1:=by omega
  rw [e,List.replicate_succ]
  simp only [strEls,List.map_append,List.map_cons]
  rw [List.set_append_right _ _ (by simp;omega)]
  simp [hdl]
 have hget:(strEls (done++List.replicate (N+1-i) []))[i]? =some [.str []]:=by
  have e:N+1-i=(N-i)+1:=by omega
  rw [e,List.replicate_succ]
  simp only [strEls,List.map_append,List.map_cons]
  rw [List.getElem?_append_right (by simp;omega)]
  simp [hdl]
 obtain ⟨hgx,hgy⟩:=List.getElem?_eq_some_iff.1 hget
 have hp1:(0:Int)≤(i:Int)+1:=by omega
 have hi1:i+1≤N+1:=by omega
 have hlen1:∀c∈strEls (done++s'::List.replicate (N-i) []),c.length=1:=fun c hc=>by
  simp only [strEls,List.mem_map] at hc
  obtain ⟨x,_,rfl⟩:=hc;rfl
 have htake:List.take (i+1) (strEls (done++s'::List.replicate (N-i) []))=strEls (done++ [s']):=by
  have e:strEls (done++s'::List.replicate (N-i) [])=strEls (done++ [s'])++strEls (List.replicate (N-i) []):=by rw [←strEls_append];simp
  rw [e,List.take_append_of_le_length (by simp [strEls];omega),List.take_of_length_le (by simp [strEls];omega)]
 simp [h3,h10]
 refine cb_dec (fun hlt=> ?_) (fun hge=> ?_)
 ·have hlt':i<N:=by omega
  simp [h0,h1]
  refine ac_same (index_ok s') (by simp) ?_
  rintro r rfl
  simp
  rcases sp_index s' with ⟨g1,g2⟩|⟨m,g1,g2,g3⟩
  ·have hend:cutN 8 s=done++ [s']:=by
    rw [hcut]
    obtain ⟨k,hk⟩:∃k,8-i=k+1:=⟨7-i,by omega⟩
    rw [hk];simp [cutN,g1]
   simp [g1]
   simp [h0,h2,h9,h10,hlenL,hiN,hget,hgy,hL,hwi]
   refine gh_frz (σ':= [.row 9 1 (strEls (done++s'::List.replicate (N-i) [])) true]) ⟨0,9,1,strEls (done++s'::List.replicate (N-i) []),_,rfl,strEls_share _ _,rfl⟩ ?_
   simp [h0,h2,h9,h10,hlenL2,hwi,hlen1,hp1,hi1]
   rw [hend,htake]
  ·have hm0:¬((m:Int)<0):=by omega
   have hwm:IntKind.i64.wrap (m:Int)=m:=wrap_i64 (by omega) (by omega)
   have hwm1:IntKind.i64.wrap ((m:Int)+1)=(m:Int)+1:=wrap_i64 (by omega) (by omega)
   have hml:m≤s'.length:=by omega
   have hml1:m+1≤s'.length:=by omega
   have hmp:(0:Int)≤(m:Int)+1:=by omega
   simp [g1,hm0]
   refine gh_skip ?_
   simp [h0,h1,h2,h9,h10,hlenL,hiN,hget,hgy,hL,hwm,hml]
   refine gh_skip ?_
   simp [h0,h1,h2,h9,h10,hwm1,hmp,hml1,hwi]
   refine nx_intro (N-(i+1)) (by omega) ⟨i+1,done++ [s'.take m],s'.drop (m+1),rfl,by omega,by simp [hdl],by simp,by simp [h1],by simp [h2],by simp [h3],by simp [h9],by simp,by simp;omega, ?_, ?_⟩
   ·rw [hcut]
    obtain ⟨k,hk⟩:∃k,8-i=k+1:=⟨7-i,by omega⟩
    have hne:¬((m:Int)= -1):=by omega
    rw [hk,show 8-(i+1)=k by omega]
    simp [cutN,g1,hne]
   ·have e:N+1-(i+1)=N-i:=by omega
    simp [e]
 ·have hend:cutN 8 s=done++ [s']:=by
   have ei:i=N:=by omega
   subst ei
   rw [hcut]
   by_cases h8:i=8
   ·rw [h8];rfl
   ·have:s'= []:=List.eq_nil_of_length_eq_zero (by omega)
    rw [this,hcut0]
  simp [h0,h2,h9,h10,hlenL,hiN,hget,hgy,hL,hwi]
  refine gh_frz (σ':= [.row 9 1 (strEls (done++s'::List.replicate (N-i) [])) true]) ⟨0,9,1,strEls (done++s'::List.replicate (N-i) []),_,rfl,strEls_share _ _,rfl⟩ ?_
  simp [h0,h2,h9,h10,hlenL2,hwi,hlen1,hp1,hi1]
  rw [hend,htake]
theorem splitN_ok (s:List UInt8) (hs:s.length≤1000000000000000000):PCalls Tryz.prog n_strings_SplitN [.str s,.str [46],.int .i64 9] (fun r=>r=.lst (strEls (cutN 8 s))):=by
 refine pcalls_of_awp hmix c_strings_SplitN rfl ?_
 simp [a_strings_SplitN]
 refine ac_same (genSplit_ok s hs) (by simp) ?_
 rintro r rfl
 simp
theorem cut_le (s:List UInt8):(cutN 8 s).length≤8↔(sp s).length≤8:=by
 constructor
 ·intro h
  refine Nat.le_of_not_lt fun hx=> ?_
  have:=cutN_long 8 s (by omega)
  omega
 ·intro h
  rw [cutN_eq 8 s (by omega)];exact h
theorem cut_ok (s:List UInt8) (hs:s.length≤1000000000000000000):PCalls Tryz.prog n_trail_cut [.str s] (fun r=>r=.tup [.lst (strEls (cutN 8 s)),.bool (decide ((cutN 8 s).length≤8))]):=by
 refine pcalls_of_awp hmix c_trail_cut rfl ?_
 simp [a_trail_cut]
 refine ac_same (splitN_ok s hs) (by simp) ?_
 rintro r rfl
 have e:(strEls (cutN 8 s)).length=(cutN 8 s).length:=by simp [strEls]
 simp [e]
 all_goals try exact ⟨fun h=>by omega,fun h=>by omega⟩
def pathAV (x:Option (List (List UInt8))) (e:Nat):AV:=match x with
 |some l=> .tup [.lst (strEls l),.int .i64 0]
 |none=> .tup [.lst [],.int .i64 e]
theorem sp_mem_len:∀(s:List UInt8),∀p∈sp s,p.length≤s.length
 | [],p,h=>by simp [sp] at h;simp [h]
 |c::s,p,h=>by
  have ih:=sp_mem_len s
  by_cases hc:c=46
  ·subst hc
   simp only [sp,if_true,List.mem_cons] at h
   rcases h with rfl|h
   ·simp
   ·have:=ih p h;simp;omega
  ·obtain ⟨q,ps,h1,h2⟩:=sp_cons hc s
   rw [h2] at h
   rw [h1] at ih
   rcases List.mem_cons.1 h with rfl|h
   ·have:=ih q (by simp);simp;omega
   ·have:=ih p (by simp [h]);simp;omega
theorem split_ok (s:List UInt8) (hs:s.length≤1000000000000000000):PCalls Tryz.prog n_trail_Split [.str s] (fun r=>r=pathAV (path s) 13):=by
 refine pcalls_of_awp hmix c_trail_Split rfl ?_
 simp [a_trail_Split]
 refine ac_same (cut_ok s hs) (by simp) ?_
 rintro r rfl
 by_cases h8:(sp s).length≤8
 ·have h8':=(cut_le s).2 h8
  have ec:=cutN_eq 8 s (by omega)
  rw [ec] at h8'⊢
  have e:(strEls (sp s)).length=(sp s).length:=by simp [strEls]
  simp [h8,e]
  have hml:=sp_mem_len s
  have hp:path s=if (sp s).all nameB=true then some (sp s) else none:=by unfold path;simp [h8]
  generalize hL:sp s=L at*
  refine lp_start (fun x f σ=>∃i:Nat,x=L.length-i∧i≤L.length∧f 4=.lst (strEls L)∧f 15=.lst (strEls L)∧f 16=.int .i64 L.length∧f 17=.int .i64 i∧(L.take i).all nameB=true∧σ= []) L.length ⟨0,by simp⟩ ?_
  rintro x f σ ⟨i,rfl,hi,h4,h15,h16,h17,hall,rfl⟩
  simp [h16,h17]
  refine cb_dec (fun hlt=> ?_) (fun hge=> ?_)
  ·have hlt':i<L.length:=by omega
   obtain ⟨p,hpp⟩:∃p,L[i]? =some p:=⟨_,List.getElem?_eq_getElem hlt'⟩
   have hm:p∈L:=List.mem_of_getElem? hpp
   have hse:(strEls L)[i]? =some [.str p]:=by simp [strEls,hpp]
   obtain ⟨hx1,hx2⟩:=List.getElem?_eq_some_iff.1 hse
   simp [h15,h17,hse,hx2]
   refine ac_same (name_ok p (by have:=hml p hm;omega)) (by simp) ?_
   rintro r rfl
   simp
   refine cb_intro (fun hn=> ?_) (fun hn=> ?_)
   ·have hno:¬L.all nameB=true:=fun h=>by
     have:=List.all_eq_true.1 h p hm
     simp [this] at hn
    simp [hp,hno,pathAV]
   ·simp [h4,h15,h16,h17]
    refine ⟨_, ?_,i+1,rfl,by omega,by rw [wrap_i64 (by omega) (by omega)];simp, ?_⟩
    ·omega
    ·simp only [Bool.not_eq_eq_eq_not,Bool.not_false] at hn
     intro x hx
     rw [List.take_add_one,hpp] at hx
     simp only [Option.toList_some,List.mem_append,List.mem_singleton] at hx
     rcases hx with hx|rfl
     ·exact List.all_eq_true.1 hall x hx
     ·exact hn
  ·have e:L.take i=L:=List.take_of_length_le (by omega)
   rw [e] at hall
   simp [h4,hp,hall,pathAV]
 ·have h8':¬(cutN 8 s).length≤8:=fun h=>h8 ((cut_le s).1 h)
  have hp:path s=none:=by unfold path;simp [h8]
  simp [h8',hp,pathAV]
theorem right_ok (s:List UInt8) (hs:s.length≤1000000000000000000):PCalls Tryz.prog n_trail_Right [.str s] (fun r=>r=.bool (path s).isSome):=by
 refine pcalls_of_awp hmix c_trail_Right rfl ?_
 simp [a_trail_Right]
 refine ac_same (split_ok s hs) (by simp) ?_
 rintro r rfl
 cases path s<;>simp [pathAV]
end Go.Proofs.YtdbhocoeolhjhaaGreatDoor
end
section
set_option maxHeartbeats 4000000
namespace Go.Abs
def AsksQ [Globs] (P:Program) (Q:Store→Prop) (g:FuncId) (capt:List AV) (V:List AV→AV) (p:List AV→Bool) (els:List (List AV)):Prop:=∀c∈els,∀(σ:Store) (K:AV→Store→Prop),Q σ→K (.bool (p c)) σ→acall P σ K g (V c::capt)
theorem cv_asksQ [Globs] {P:Program} {Q:Store→Prop} {σ:Store} {g:FuncId} {capt:List AV} {V:List AV→AV} {p:List AV→Bool} {els:List (List AV)} (hb:hasBody P g=true) (h:AsksQ P Q g capt V p els) (hq:Q σ) {c:List AV} (hc:c∈els) {K:AV→Store→Prop} {t:Tg K} (hK:K (.bool (p c)) σ):
  cv P K t σ (.fn (.func g) [] capt) [V c]:=⟨hb,by simpa using h c hc σ K hq hK⟩
end Go.Abs
namespace Go.Proofs.YtdbhocoeolhjhaaGreatDoor
open Go.Abs Go.RowKit Go.Sf
variable {G:Globs}
theorem indexStQ (pre:Store) (els:List (List AV)) (he:Els 1 els) (hl:els.length≤1000000000) (p:List AV→Bool) (g:Nat) (capt:List AV) (hb:hasBody Tryz.prog g=true) (post:Store) (Q:Store→Prop) (hQ:∀Y tl,Q (pre++ .row 9 1 Y false::(post++tl))) (hg:AsksQ Tryz.prog Q g capt (fun c=>c.headD .junk) p els):
  ACalls Tryz.prog n_slices_IndexFunc_string_string [.row pre.length els.length,.fn (.func g) [] capt] (pre++ .row 9 1 els false::post) (fun r σ'=>r=.int .i64 (idxE p els)∧σ'=pre++ .row 9 1 els false::post):=by
 refine acalls_of_awp_e hmix c_slices_IndexFunc_string_string rfl ?_
 simp [a_slices_IndexFunc_string_string]
 refine lp_startx (fun x f σ=>∃(i:Nat),x=els.length-i∧i≤els.length∧f 0=.row pre.length els.length∧f 1=.fn (.func g) [] capt∧f 7=.int .i64 els.length∧f 8=.int .i64 i∧(∀m∈els.take i,p m=false)∧σ=pre++ .row 9 1 els false::post) els.length ?_ ?_
 ·exact ⟨0,by simp,by simp,by simp,by simp,by simp,by simp,by simp,by simp⟩
 rintro x f σ ⟨i,hx,hi,h0,h1,h7,h8,hall,rfl⟩
 simp [h7,h8]
 refine cb_dec (fun hlt=> ?_) (fun hge=> ?_)
 ·have hlt':i<els.length:=by omega
  have hwi:IntKind.i64.wrap ((i:Int)+1)=((i+1:Nat):Int):=by rw [wrap_i64 (by omega) (by omega)];omega
  obtain ⟨c,hc⟩:∃c,els[i]? =some c:=⟨_,List.getElem?_eq_getElem hlt'⟩
  obtain ⟨hx1,hx2⟩:=List.getElem?_eq_some_iff.1 hc
  have hcm:=List.mem_of_getElem? hc
  have hcl:=he.1 c hcm
  obtain ⟨c0,rfl⟩:∃c0,c= [c0]:=List.length_eq_one_iff.1 hcl
  simp [h0,h1,h8,hc,hx2,hcl,hlt',List.take_of_length_le]
  refine cv_asksQ hb hg (by simpa using hQ els []) hcm ?_
  cases hp:p [c0] with
  |true=>
   have:=idxE_some hc hp hall
   simp
   refine er_keep (pre++ .row 9 1 els false::post) (.int .i64 (idxE p els)) (by simp [tupOf,this]) [] (by simp) (by simp) (by simp [AV.under]) (fun i e he=> .inl he) ⟨rfl,rfl⟩
  |false=>
   simp [h8,hwi]
   refine nx_intro (els.length-(i+1)) (by omega) ⟨i+1,rfl,by omega,by simp [h0],by simp [h1],by simp [h7],by simp,fun m hm=> ?_,rfl⟩
   rw [List.take_add_one,hc] at hm
   simp only [Option.toList_some,List.mem_append,List.mem_singleton] at hm
   rcases hm with hm|rfl
   ·exact hall m hm
   ·exact hp
 ·have hil:i=els.length:=by omega
  rw [hil,List.take_length] at hall
  have:=idxE_none hall
  simp
  refine er_keep (pre++ .row 9 1 els false::post) (.int .i64 (idxE p els)) (by simp [tupOf,this]) [] (by simp) (by simp) (by simp [AV.under]) (fun i e he=> .inl he) ⟨rfl,rfl⟩
theorem delfStQ (pre:Store) (els:List (List AV)) (he:Els 1 els) (hl:els.length≤1000000000) (p:List AV→Bool) (g:Nat) (capt:List AV) (hb:hasBody Tryz.prog g=true) (post:Store) (Q:Store→Prop) (hQ:∀Y tl,Q (pre++ .row 9 1 Y false::(post++tl))) (hg:AsksQ Tryz.prog Q g capt (fun c=>c.headD .junk) p els):
  ACalls Tryz.prog n_slices_DeleteFunc_string_string [.row pre.length els.length,.fn (.func g) [] capt] (pre++ .row 9 1 els false::post)
   (fun r σ'=>∃X:List (List AV),σ'=pre++ .row 9 1 X false::post∧X.length=els.length∧Els 1 X∧((r=.row pre.length els.length∧X=els.filter fun n=> !p n)∨(r=.sub pre.length els.length 1 0 (els.filter fun n=> !p n).length∧X.take (els.filter fun n=> !p n).length=els.filter fun n=> !p n))):=by
 refine acalls_of_awp_e hmix c_slices_DeleteFunc_string_string rfl ?_
 simp [a_slices_DeleteFunc_string_string]
 refine ac_eff (indexStQ pre els he hl p g capt hb post Q hQ hg) ?_
 rintro r σ ⟨rfl,rfl⟩
 rcases idxE_cases p els with ⟨hi1,hall⟩|⟨k,n,hk,hpn,hbefore,hi2⟩
 ·have hf:(els.filter fun n=> !p n)=els:=List.filter_eq_self.2 fun n hn=>by simp [hall n hn]
  rw [hf]
  simp [hi1]
  refine er_keep (pre++ .row 9 1 els false::post) (.row pre.length els.length) (by simp [tupOf]) [] (by simp) (by simp) (by simp [AV.under]) (fun i e he=> .inl he) ⟨els,rfl,rfl,he,.inl ⟨rfl,rfl⟩⟩
 ·have hkl:k<els.length:=(List.getElem?_eq_some_iff.1 hk).1
  have hpos:0<els.length:=by omega
  have hkn:¬((k:Int)= -1):=by omega
  have hwk:IntKind.i64.wrap ((k:Int)+1)=((k+1:Nat):Int):=by rw [wrap_i64 (by omega) (by omega)];omega
  simp [hi2,hkn,hwk]
  have hfk:((els.take k).filter fun n=> !p n)=els.take k:=List.filter_eq_self.2 fun n hn=>by simp [hbefore n hn]
  refine lp_startx (fun x f σ=>∃(j:Nat) (mid:List (List AV)) (tl:Store),x=els.length-j∧j≤els.length∧f 0=.row pre.length els.length∧f 1=.fn (.func g) [] capt∧f 5=.int .i64 ((els.take j).filter fun n=> !p n).length∧f 6=.int .i64 j∧((els.take j).filter fun n=> !p n).length+mid.length=j∧Els 1 mid∧
   σ=pre++ .row 9 1 (((els.take j).filter fun n=> !p n)++(mid++els.drop j)) false::(post++tl)) (els.length-(k+1)) ?_ ?_
  ·have ht1:els.take (k+1)=els.take k++ [n]:=by rw [List.take_add_one,hk];rfl
   have hf1:((els.take (k+1)).filter fun n=> !p n)=els.take k:=by
    rw [ht1,List.filter_append,hfk];simp [hpn]
   have hnm:=List.mem_of_getElem? hk
   refine ⟨k+1,[n],[],by omega,by omega,by simp,by simp, ?_,by simp, ?_,⟨(fun c hc=>by simp at hc;subst hc;exact he.1 _ hnm),(fun c hc=>by simp at hc;subst hc;exact he.2.1 _ hnm),(fun c hc=>by simp at hc;subst hc;exact he.2.2 _ hnm)⟩, ?_⟩
   ·rw [hf1];simp [hi2,Nat.min_eq_left (Nat.le_of_lt hkl)]
   ·rw [hf1];simp [Nat.min_eq_left (Nat.le_of_lt hkl)]
   ·rw [hf1]
    have:els.take k++([n]++els.drop (k+1))=els:=by
     rw [←List.append_assoc,←ht1,List.take_append_drop]
    rw [this]
    simp
  rintro x f σ ⟨j,mid,tl,hx,hj,h0,h1,h5,h6,hmid,hem,rfl⟩
  obtain ⟨A,hA⟩:∃A,A=(els.take j).filter fun n=> !p n:=⟨_,rfl⟩
  rw [←hA] at h5 hmid
  rw [←hA]
  have heA:Els 1 A:=⟨fun c hc=>he.1 c (by rw [hA] at hc;exact List.mem_of_mem_take (List.mem_filter.1 hc).1),fun c hc=>he.2.1 c (by rw [hA] at hc;exact List.mem_of_mem_take (List.mem_filter.1 hc).1),fun c hc=>he.2.2 c (by rw [hA] at hc;exact List.mem_of_mem_take (List.mem_filter.1 hc).1)⟩
  have hlen:(A++(mid++els.drop j)).length=els.length:=by simp;omega
  simp only [List.length_append,List.length_drop] at hlen
  simp [h0,h6,hlen]
  refine cb_dec (fun hlt=> ?_) (fun hge=> ?_)
  ·have hlt':j<els.length:=by omega
   have hwj:IntKind.i64.wrap ((j:Int)+1)=((j+1:Nat):Int):=by rw [wrap_i64 (by omega) (by omega)];omega
   obtain ⟨c,hv⟩:∃c,els[j]? =some c:=⟨_,List.getElem?_eq_getElem hlt'⟩
   have hdrop:els.drop j=c::els.drop (j+1):=by
    obtain ⟨h1,h2⟩:=List.getElem?_eq_some_iff.1 hv
    rw [List.drop_eq_getElem_cons h1,h2]
   have hget:(A++(mid++els.drop j))[j]? =some c:=by
    rw [←List.append_assoc,List.getElem?_append_right (by simp;omega)]
    have:j-(A++mid).length=0:=by simp;omega
    rw [this,hdrop];rfl
   obtain ⟨hx1,hx2⟩:=List.getElem?_eq_some_iff.1 hget
   have hcm:=List.mem_of_getElem? hv
   have hcl:=he.1 c hcm
   have htake:els.take (j+1)=els.take j++ [c]:=by rw [List.take_add_one,hv];rfl
   obtain ⟨c0,rfl⟩:∃c0,c= [c0]:=List.length_eq_one_iff.1 hcl
   have hone:=he.2.2 _ hcm
   simp [h0,h1,h6,hlen,hlt',hget,hx2,hcl,List.take_of_length_le,pre1_get,pre1_set]
   skip
   refine cv_asksQ hb hg (hQ _ tl) hcm ?_
   cases hpv:p [c0] with
   |true=>
    have hf1:((els.take (j+1)).filter fun n=> !p n)=A:=by rw [htake,List.filter_append,←hA];simp [hpv]
    simp [h6,hwj]
    refine nx_intro (els.length-(j+1)) (by omega) ⟨j+1,mid++ [[c0]],tl,rfl,by omega,by simp [h0],by simp [h1],by rw [hf1];simp [h5],by simp,by rw [hf1];simp;omega,⟨fun d hd=> ?_,fun d hd=> ?_,fun d hd=> ?_⟩, ?_⟩
    ·rcases List.mem_append.1 hd with h|h
     ·exact hem.1 d h
     ·simp at h;subst h;exact he.1 _ hcm
    ·rcases List.mem_append.1 hd with h|h
     ·exact hem.2.1 d h
     ·simp at h;subst h;exact he.2.1 _ hcm
    ·rcases List.mem_append.1 hd with h|h
     ·exact hem.2.2 d h
     ·simp at h;subst h;exact he.2.2 _ hcm
    ·rw [hf1,hdrop];simp
   |false=>
    have hf1:((els.take (j+1)).filter fun n=> !p n)=A++ [[c0]]:=by rw [htake,List.filter_append,←hA];simp [hpv]
    obtain ⟨mid',hs1,hs2,hs3⟩:=set_midE A mid (els.drop (j+1)) [c0]
    have hAl:A.length<els.length:=by omega
    obtain ⟨d0,hd0⟩:∃d0,(A++(mid++els.drop j))[A.length]? =some d0:=⟨_,List.getElem?_eq_getElem (by simp;omega)⟩
    obtain ⟨hy1,hy2⟩:=List.getElem?_eq_some_iff.1 hd0
    have hd0l:d0.length=1:=by
     have:=List.mem_of_getElem? hd0
     rcases List.mem_append.1 this with h|h
     ·exact heA.1 _ h
     ·rcases List.mem_append.1 h with h|h
      ·exact hem.1 _ h
      ·exact he.1 _ (List.mem_of_mem_drop h)
    have hwA:IntKind.i64.wrap ((A.length:Int)+1)=((A.length+1:Nat):Int):=by rw [wrap_i64 (by omega) (by omega)];omega
    have hsp:splice d0 0 [c0]= [c0]:=by
     have hd:d0.drop 1= []:=List.drop_of_length_le (by omega)
     simp [splice,hcl,hd]
    have hset:(A++(mid++els.drop j)).set A.length [c0]=A++ [[c0]]++(mid'++els.drop (j+1)):=by
     rw [hdrop,hs1];simp
    have hset2:(mid++els.drop j).set 0 [c0]= [c0]::(mid'++els.drop (j+1)):=by
     rw [List.set_append_right _ _ (Nat.le_refl _),Nat.sub_self] at hset
     simpa using hset
    have hdd:d0.drop 1= []:=List.drop_of_length_le (by omega)
    have hce:c0.cells= [c0]:=cells_one (by have:=hone c0 (by simp);exact this)
    simp [h0,h1,h5,h6,hlen,hAl,hd0,hy2,hd0l,hcl,hwj,hwA,List.take_of_length_le,pre1_get,pre1_set,splice,hdd,hset2,hce,hone c0]
    skip
    refine nx_intro (els.length-(j+1)) (by omega) ⟨j+1,mid',tl,rfl,by omega,by simp [h0],by simp [h1],by rw [hf1];simp,by simp,by rw [hf1];simp;omega,⟨fun d hd=> ?_,fun d hd=> ?_,fun d hd=> ?_⟩, ?_⟩
    ·rcases hs3 d hd with h|rfl
     ·exact hem.1 d h
     ·exact he.1 _ hcm
    ·rcases hs3 d hd with h|rfl
     ·exact hem.2.1 d h
     ·exact he.2.1 _ hcm
    ·rcases hs3 d hd with h|rfl
     ·exact hem.2.2 d h
     ·exact he.2.2 _ hcm
    ·rw [hf1];simp
  ·have hjl:j=els.length:=by omega
   subst hjl
   rw [List.take_length] at hA
   rw [List.drop_length,List.append_nil]
   rw [Nat.sub_self,Nat.add_zero] at hlen
   have hAle:A.length≤els.length:=by omega
   have hdz:(A++mid).drop els.length= []:=List.drop_of_length_le (by simp;omega)
   simp [h0,h5,hlen,hpos,hAle,hdz]
   rw [←hA]
   obtain ⟨Y,hY⟩:∃Y,Y=A++List.replicate (els.length-A.length) [.str []]:=⟨_,rfl⟩
   have hYe:Els 1 Y:=by
    rw [hY]
    refine ⟨fun d hd=> ?_,fun d hd=> ?_,fun d hd=> ?_⟩
    ·rcases List.mem_append.1 hd with h|h
     ·exact heA.1 d h
     ·rw [(List.mem_replicate.1 h).2];rfl
    ·rcases List.mem_append.1 hd with h|h
     ·exact heA.2.1 d h
     ·rw [(List.mem_replicate.1 h).2];simp [AV.pure]
    ·rcases List.mem_append.1 hd with h|h
     ·exact heA.2.2 d h
     ·rw [(List.mem_replicate.1 h).2];simp [AV.one]
   have hYt:Y.take A.length=A:=by rw [hY,List.take_left'];rfl
   rw [←hY]
   refine er_keep (pre++ .row 9 1 Y false::post) (.sub pre.length els.length 1 0 A.length) (by simp [tupOf]) tl (by simp) (by simp) (by simp [AV.under]) (fun i e he'=> ?_) ⟨Y,rfl,by rw [hY];simp;omega,hYe,.inr ⟨rfl,hYt⟩⟩
   rcases Nat.lt_trichotomy i pre.length with h|h|h
   ·rw [List.getElem?_append_left h] at he'⊢
    exact .inl he'
   ·subst h
    simp at he'
    subst he'
    exact .inr (row_under hYe.2.1)
   ·rw [List.getElem?_append_right (by omega)] at he'⊢
    obtain ⟨j,hj⟩:∃j,i-pre.length=j+1:=⟨i-pre.length-1,by omega⟩
    rw [hj] at he'⊢
    exact .inl he'
end Go.Proofs.YtdbhocoeolhjhaaGreatDoor
end
section
set_option maxHeartbeats 4000000
namespace Go.Proofs.YtdbhocoeolhjhaaGreatDoor
open Go.Abs Go.RowKit Go.Sf Go.Num
variable {G:Globs}
theorem strsC_els (l:List Txt):Els 1 (strsC l):=by
 refine ⟨fun c hc=> ?_,fun c hc=> ?_,fun c hc=> ?_⟩<;>obtain ⟨n,_,rfl⟩:=List.mem_map.1 hc<;>simp [AV.pure,AV.one]
theorem strsC_fz (σ:Store) (m k:Nat) (l:List Txt):((strsC l).mapM fun (c:List AV)=>c.mapM (fz σ m k))=some (strsC l):=fz_pure (strsC_els l).2.1 (fun c hc=>by obtain ⟨n,_,rfl⟩:=List.mem_map.1 hc;simp)
theorem files1_ok {σ:Store} {i j:Nat} {but own:Txt} (hi:σ[i]? =some (.var 9 [.str but])) (hj:σ[j]? =some (.var 9 [.str own])) (t:Txt):ACalls Tryz.prog n_shelf_files_1 [.str t,.ptr i 0,.ptr j 0] σ (fun r σ'=>r=.bool (decide (t=but)|| !Lib.hasPrefix t own)∧σ'=σ):=by
 refine acalls_of_awp_e hmix c_shelf_files_1 rfl ?_
 by_cases h:t=but
 ·simp [a_shelf_files_1,hi,hj,h]
  exact er_keep σ (.bool true) (by simp [tupOf]) [] (by simp) (Nat.le_refl _) (by simp [AV.under]) (fun _ _ h=> .inl h) ⟨by simp [h],rfl⟩
 ·simp [a_shelf_files_1,hi,hj,h]
  refine ac_same (hasPre_ok t own) (by simp) ?_
  rintro r rfl
  simp
  exact er_keep σ (.bool (!Lib.hasPrefix t own)) (by simp [tupOf]) [] (by simp) (Nat.le_refl _) (by simp [AV.under]) (fun _ _ h=> .inl h) ⟨by simp [h],rfl⟩
def dropP (but own:Txt) (c:List AV):Bool:=match c with
 | [.str t]=>decide (t=but)|| !Lib.hasPrefix t own
 |_=>false
theorem strs_filter (l:List Txt) (but own:Txt):((strsC l).filter fun n=> !dropP but own n)=strsC (l.filter fun t=> !(decide (t=but)|| !Lib.hasPrefix t own)):=by
 unfold strsC
 rw [List.filter_map]
 rfl
theorem files_ok (d:DiskM) (h:RightM d) (hl:Fits d) (id:Nat) (hid:id<100) (but:Txt):PCalls Tryz.prog n_shelf_files [.agg (diskC d),.int .i64 id,.str but] (fun r=>r=.lst (strsC (filesM d id but))):=by
 refine pcalls_of_awp hmix c_shelf_files rfl ?_
 have kL:=dlist_ok (G:=G) [.var 30 (diskC d),.var 9 [.str but]] d h hl
 have d2:=dec_two id hid
 have l1:(Lib.decDigits id).length≤9223372036854775806:=by omega
 have hnn:=hl.nnames
 simp only [diskC] at kL
 simp [a_shelf_files,diskC]
 refine ac_eff kL ?_
 rintro r σ' ⟨rfl,rfl⟩
 simp
 refine ac_same (itoa_ok id hid) (by simp) ?_
 rintro r rfl
 simp [l1,splice]
 obtain ⟨D0,hD0⟩:∃D0:Entry,D0=.var 30 (diskC d):=⟨_,rfl⟩
 obtain ⟨own,hown⟩:∃own,own=Lib.decDigits id++ [46]:=⟨_,rfl⟩
 obtain ⟨ss,hss⟩:∃ss,ss=d.names.map NameM.name:=⟨_,rfl⟩
 have hsl:=strsC_len ss
 have hsl2:ss.length=d.names.length:=by rw [hss];simp
 have hfil:filesM d id but=ss.filter fun t=> !(decide (t=but)|| !Lib.hasPrefix t own):=by rw [hss,hown];rfl
 have kD:=delfStQ (G:=G) [D0,.var 9 [.str but],D0] (strsC ss) (strsC_els ss) (by omega) (dropP but own) n_shelf_files_1 [.ptr 1 0,.ptr 4 0] b_shelf_files_1 [.var 9 [.str own]]
  (fun σ=>σ[1]? =some (.var 9 [.str but])∧σ[4]? =some (.var 9 [.str own])) (fun Y tl=>⟨rfl,rfl⟩) (fun c hc σ K hq hK=>by
   obtain ⟨t,_,rfl⟩:=List.mem_map.1 hc
   exact .inr (.inr ((files1_ok hq.1 hq.2 t).mono fun r σ' ⟨hr,hs⟩=>by subst hr;subst hs;exact hK)))
 rw [strs_filter,←hfil] at kD
 have hfl:=strsC_len (filesM d id but)
 rw [hsl,hsl2,hfl] at kD
 subst hss hown hD0
 refine ac_eff kD ?_
 rintro r σ' ⟨X,rfl,hXl,hXe,⟨rfl,rfl⟩|⟨rfl,hX⟩⟩
 ·rw [hfl] at hXl
  simp [hXl,strsC_fz,hfl]
 ·simp [hXl]
  have hd:(strsC (filesM d id but)).map (fun c=>c.map denil)=strsC (filesM d id but):=by
   unfold strsC
   rw [List.map_map]
   rfl
  rw [fz_den hXe.2.1]
  simp
  rw [if_pos (by
   intro c hc
   have:=hXe.1 c hc
   simpa using this)]
  rw [←List.map_take,hX,hd]
  simp
end Go.Proofs.YtdbhocoeolhjhaaGreatDoor
end
section
set_option maxHeartbeats 8000000
namespace Go.Proofs.YtdbhocoeolhjhaaGreatDoor
open Go.Abs Go.RowKit Go.Sf Go.Num
variable {G:Globs}
theorem paths_right:∀p∈P4,(Go.Trail.path p).isSome=true:=by decide+kernel
theorem trail_ok {p:Txt} (h:p∈P4):PCalls Tryz.prog n_trail_Right [.str p] (fun r=>r=.bool true):=by
 have hl:∀q∈P4,q.length≤1000000000000000000:=by decide
 have:=right_ok (G:=G) p (hl p h)
 rw [paths_right p h] at this
 exact this
theorem frameHP_ok (hT:Steps G) (p:Txt) (h0:p≠ []) (hl:p.length≤100):PCalls Tryz.prog n_segment_Frame [.agg (headC p)] (fun r=>r=.tup [.lst (byteEls (frameB (headB p))),.int .i64 0]):=by
 refine pcalls_of_awp hmix c_segment_Frame rfl ?_
 have kP:=sPutH_ok (G:=G) p h0 hl
 simp only [headC] at kP
 have hne:headB p≠ []:=by simp [headB]
 have hle:(headB p).length≤512:=by rw [headB_len];omega
 simp [a_segment_Frame,headC]
 refine ac_same kP (by simp [AV.pure,rungsC]) ?_
 rintro r rfl
 simp
 refine ac_eff (framePut_ok hT (headB p) hne hle) ?_
 rintro r σ' ⟨rfl,rfl⟩
 simp [byteEls_fz,byteEls_length]
theorem wdone_ok {σ:Store} {k:Nat} (s was:ShM) (m:MetM) (hk:σ[k]? =some (.var 127 (wkC s))) (hs:Srt kM s.mets) (hl:s.mets.length≤1000) (hx:s.next≤1000000) (hi:m.id≤1000000):
  ACalls Tryz.prog n_shelf_worker_done [.ptr k 0,.agg (shC was),.agg (metC m)] σ (fun r σ'=>r=.tup [.agg (shC (withM s m)),.int .i64 0]∧σ'=σ):=by
 refine acalls_of_awp_e hmix c_shelf_worker_done rfl ?_
 have kW:=swith_ok (G:=G) s m hs hl hx hi
 have hg:=get_lt hk
 simp only [shC,metC] at kW
 simp [a_shelf_worker_done,shC,metC,hg,wkC]
 refine qc_any kW (by simp [AV.pure]) ?_
 simp [pre_get0,pre_get1,pre_get2,pre_set2,splice]
 exact er_drop (.tup [.agg (shC (withM s m)),.int .i64 0]) (by simp [tupOf,shC,pre_get2]) (by simp [AV.under,shC]) ⟨by simp [shC],rfl⟩
def appendR (s:ShM) (p:Txt) (bs:List ArrM):AV:=
 if∀a∈bs,OkV a then
  if bs= [] then .tup [.agg (shC s),.int .i64 0]
  else if (bytesA (metOf s p) bs).length≤s.disk.quota-usedM s.disk then .tup [.agg (shC (appendS s (metOf s p) bs)),.int .i64 0]
  else .tup [.agg (shC s),.int .i64 6]
 else .tup [.agg (shC s),.int .i64 1]
theorem sFind_gen {s:ShM} {a k:Nat} (h:InvS s a k) {p:Txt}:PCalls Tryz.prog n_shelf_Find [.agg (shC s),.str p] (fun r=>∃(x0:Int) (x1:Txt) (x2:List (List AV)) (x3 x4 x5 x6:Int) (x7:List (List AV)) (x8 x9 x10 e:Int),
  r=.tup [.agg [.int .i64 x0,.str x1,.lst x2,.int .i64 x3,.int .i64 x4,.int .i64 x5,.int .i64 x6,.lst x7,.int .i64 x8,.int .i64 x9,.int .i64 x10],.int .i64 e]∧
  ((¬hasK kM s.mets p∧e=15)∨(hasK kM s.mets p∧e=0∧ [.int .i64 x0,.str x1,.lst x2,.int .i64 x3,.int .i64 x4,.int .i64 x5,.int .i64 x6,.lst x7,.int .i64 x8,.int .i64 x9,.int .i64 x10]=metC (metOf s p)))):=by
 have hlen:=h.len
 by_cases hh:hasK kM s.mets p
 ·obtain ⟨h1,h2⟩:=metOf_has h.srt hh
  exact (sFind_has s p h.srt (by omega) h1 h2).mono fun r hr=>⟨_,_,_,_,_,_,_,_,_,_,_,_,hr,.inr ⟨hh,rfl,rfl⟩⟩
 ·exact (sFind_no s p h.srt (by omega) hh).mono fun r hr=>⟨_,_,_,_,_,_,_,_,_,_,_,_,hr,.inl ⟨hh,rfl⟩⟩
theorem sAppend_ok (hT:Steps G) {s:ShM} {a k:Nat} (h:InvS s a k) (ha:a<69) (hk:k≤100000) {p:Txt} (hp:p∈P4) (bs:List ArrM) (hb:∀x∈bs,OkA x) (hl:bs.length≤300):
  PCalls Tryz.prog n_shelf_Append [.agg (shC s),.str p,.agg schC,.lst (arrsC bs)] (fun r=>r=appendR s p bs):=by
 refine pcalls_of_awp hmix c_shelf_Append rfl ?_
 have ho:=h.met hp
 have hlen:=h.len
 have hfits:=h.size.fits (by omega) (by omega)
 have hle:=arrsC_len bs
 obtain ⟨m,hm⟩:∃m,m=metOf s p:=⟨_,rfl⟩
 have ho':OkMet s p a m:=by rw [hm];exact ho
 obtain ⟨V0,hV0⟩:∃V0:Entry,V0=.var 33 (shC s):=⟨_,rfl⟩
 obtain ⟨V1,hV1⟩:∃V1:Entry,V1=.var 52 schC:=⟨_,rfl⟩
 obtain ⟨V2,hV2⟩:∃V2:Entry,V2=.var 33 [.int .i64 0,.nils,.nils,.nils,.nils,.int .i64 0,.nils,.int .i64 0,.int .i64 0,.bool false]:=⟨_,rfl⟩
 have kTr:=trail_ok (G:=G) hp
 have hFd:=sFind_gen (G:=G) h (p:=p)
 simp only [shC] at hFd
 simp [a_shelf_Append,shC,schC]
 refine ac_same hFd (by simp [AV.pure]) ?_
 rintro r ⟨x0,x1,x2,x3,x4,x5,x6,x7,x8,x9,x10,e,rfl,hx⟩
 simp [splice, -awp_block]
 refine bk_joinB (fun f σ=>f 1=.str p∧f 3=.lst (arrsC bs)∧f 4=.ptr 0 0∧f 6=.ptr 1 0∧f 8=.ptr 2 0∧f 9=.int .i64 0∧f 10=.ptr 3 0∧σ= [V0,V1,V2,.var 57 (metC m)]) ?_ ?_
 ·rintro f σ ⟨f1,f3,f4,f6,f8,f9,f10,rfl⟩
  have kAc:=accept_ok (G:=G) m.lad (by rw [hm];exact ho.lad) bs hb (by omega)
  simp only [ladC] at kAc
  simp [f3,f4,f10,metC]
  by_cases hv:∀a∈bs,OkV a
  ·rw [if_pos hv,okPre_all hv] at kAc
   have hR:appendR s p bs=if bs= [] then .tup [.agg (shC s),.int .i64 0] else if (bytesA m bs).length≤s.disk.quota-usedM s.disk then .tup [.agg (shC (appendS s m bs)),.int .i64 0] else .tup [.agg (shC s),.int .i64 6]:=by
    unfold appendR;rw [if_pos hv,hm]
   rw [hR]
   refine ac_same kAc (by simp [AV.pure]) ?_
   rintro r rfl
   by_cases h0:bs= []
   ·simp [splice,f3,f4,f8,f10,h0,hle,arrsC,hV0,hV2,shC]
   ·have hlp:bs.length≠0:=fun e=>h0 (List.length_eq_zero_iff.1 e)
    have kF:=frames_ok (G:=G) hT bs (fun x hx=>⟨hb x hx,hv x hx⟩) (by omega)
    rw [if_neg h0]
    simp [splice,f3,f4,f8,f10,h0,hle,hlp]
    refine ac_same kF (by simp [AV.pure]) ?_
    rintro r rfl
    have hid5:=ho'.id5
    have hseq:=ho'.seq
    have hpath:=ho'.path
    have hpl:m.path≠ []∧m.path.length≤100:=by
     rw [hpath]
     have:∀q∈P4,q≠ []∧q.length≤100:=by decide
     exact this p hp
    have kHd:=shead_ok (G:=G) {m with lad:=foldF m.lad bs}
    have kFr:=frameHP_ok (G:=G) hT m.path hpl.1 hpl.2
    have kCc:=concatB_ok (G:=G) (frameB (headB m.path)) (framesB bs) (by rw [frameB_len,headB_len];omega) (by rw [framesB_len];omega)
    have hbl:=byteEls_length (bytesA m bs)
    have hbl2:(bytesA m bs).length≤20000:=by
     have h1:=framesB_len bs
     unfold bytesA;split
     ·rw [List.length_append,frameB_len,headB_len,h1];omega
     ·omega
    have kRm:=fun more=>sroom_ok (G:=G) s.disk h.size.right hfits (bytesA m bs).length (by omega) more (by have:=h.size.files;omega)
    simp only [diskC] at kRm
    have hqB:IntKind.i64.wrap ((if (m.base:Int)<m.last then (m.last:Int) else (m.base:Int))+1)=((nextQ m:Nat):Int):=by
     unfold nextQ
     rw [wrap_i64 (by split<;>omega) (by split<;>omega)];split<;>omega
    have hqB':IntKind.i64.wrap ((if m.base<m.last then (m.last:Int) else (m.base:Int))+1)=((nextQ m:Nat):Int):=by
     unfold nextQ
     rw [wrap_i64 (by split<;>omega) (by split<;>omega)];split<;>omega
    have hmid:(metA m bs).id=m.id:=by unfold metA;split<;>rfl
    have hwc:IntKind.i64.wrap (bs.length:Int)=bs.length:=wrap_i64 (by omega) (by omega)
    have hn70:nextQ m<70:=by unfold nextQ;omega
    have kNm:PCalls Tryz.prog n_shelf_name [.int .i64 m.id,.int .i64 (nextQ m:Nat),.str [46,112]] (fun r=>r=.str (newN m)):=sname_ok m.id (nextQ m) kindP (by omega) (by omega) (by decide)
    have okN:okS (newN m):=nameOf_ok m.id hid5 (nextQ m) hn70 kindP (by simp)
    have hnoN:¬hasK kN s.disk.names (newN m):=ho'.fresh h ha (q:=nextQ m) (by unfold nextQ;omega) hn70 (by simp)
    have hfiles:s.disk.files.length<256:=by have:=h.size.files;omega
    have hnx:s.disk.next<1099511627776:=by have:=h.size.next;omega
    simp only [metC] at kHd
    by_cases hl0:m.last=0
    ·have ht:turnM m=true:=by unfold turnM;simp [hl0]
     have hby:bytesA m bs=frameB (headB m.path)++framesB bs:=by unfold bytesA;rw [if_pos ht]
     simp only [hl0] at kHd
     have hqA:IntKind.i64.wrap ((if (m.base:Int)<0 then 0 else (m.base:Int))+1)=((nextQ m:Nat):Int):=by
      unfold nextQ
      rw [if_neg (by omega),wrap_i64 (by omega) (by omega)];omega
     simp [f3,f10,hl0]
     refine ac_same kHd (by simp [AV.pure]) ?_
     rintro r rfl
     simp
     refine ac_same kFr (by simp [AV.pure,headC,rungsC]) ?_
     rintro r rfl
     simp
     refine ac_same kCc (by simp [AV.pure]) ?_
     rintro r rfl
     rw [←hby]
     simp [f4,hV0,shC,hbl]
     refine ac_same (kRm true) (by simp [AV.pure]) ?_
     rintro r rfl
     by_cases hf:(bytesA m bs).length≤s.disk.quota-usedM s.disk
     ·rw [if_pos hf]
      have hS1:=size_create h.size okN hnoN (by omega)
      have hh1:hasK kN (createM s.disk (newN m)).names (newN m):=has_create.2 (.inl rfl)
      have hb1:(bytesA m bs).length≤(createM s.disk (newN m)).quota-usedM (createM s.disk (newN m)):=by rw [used_create];exact hf
      have hmA:metC (metA m bs)= [.int .i64 m.id,.str m.path,.lst rungsC,.int .i64 1,.int .i64 500000,.int .i64 1,.int .i64 500000,.lst (ringsC (foldF m.lad bs)),.int .i64 m.base,.int .i64 (nextQ m:Nat),.int .i64 bs.length]:=by
       unfold metA;rw [if_pos ht];rfl
      simp [hf,f4,f10,hl0,hqA]
      refine ac_same kNm (by simp) ?_
      rintro r rfl
      simp
      refine ac_eff (wcreate_ok (k:=4) s (by simp [wkC]) h.size.right hfits okN hnoN hfiles hnx) ?_
      rintro r σ' ⟨rfl,rfl⟩
      simp [f10]
      refine ac_same kNm (by simp) ?_
      rintro r rfl
      simp
      refine ac_eff (wadd_ok (k:=4) ⟨createM (s.disk) (newN m),s.mets,s.next⟩ (by simp) hS1.right (hS1.fits (by omega) (by omega)) okN hh1 hb1 (by omega)) ?_
      rintro r σ' ⟨rfl,rfl⟩
      simp [f3,f10,hle,hwc]
      have kD:=fun (σ:Store) (hk4:σ[4]? =some (.var 127 (wkC ⟨appendM (createM (s.disk) (newN m)) (newN m) (bytesA m bs),s.mets,s.next⟩)))=>wdone_ok (G:=G) (k:=4) ⟨appendM (createM (s.disk) (newN m)) (newN m) (bytesA m bs),s.mets,s.next⟩ s (metA m bs) hk4 h.srt (by show s.mets.length≤1000;omega) (by show s.next≤1000000;have:=h.next;omega) (by rw [hmid];omega)
      rw [hmA] at kD
      simp only [shC] at kD
      simp [f4,f10,splice]
      refine ac_eff (kD _ (by simp)) ?_
      rintro r σ' ⟨rfl,rfl⟩
      have hApp:appendS s m bs=withM ⟨appendM (createM (s.disk) (newN m)) (newN m) (bytesA m bs),s.mets,s.next⟩ (metA m bs):=by
       unfold appendS diskA
       rw [if_pos ht]
       rw [show syncL s.disk m=s.disk by unfold syncL;rw [if_neg (by omega)]]
      rw [hApp]
      simp [f8,hV2,shC,splice]
     ·rw [if_neg hf]
      simp [hf,f4,f8,hV2,shC,splice]
    ·have hlp0:0<m.last:=by omega
     have hlp1:(0:Int)<m.last:=by omega
     have hl0':¬(m.last:Int)=0:=by omega
     have hhl:hasK kN s.disk.names (lastN m):=ho'.last hlp0
     have okL:okS (lastN m):=nameOf_ok m.id hid5 m.last (by omega) kindP (by simp)
     have kNl:PCalls Tryz.prog n_shelf_name [.int .i64 m.id,.int .i64 m.last,.str [46,112]] (fun r=>r=.str (lastN m)):=sname_ok m.id m.last kindP (by omega) (by omega) (by decide)
     by_cases hc:16≤m.count
     ·have ht:turnM m=true:=by unfold turnM;simp [hc]
      have hby:bytesA m bs=frameB (headB m.path)++framesB bs:=by unfold bytesA;rw [if_pos ht]
      have hc':(16:Int)≤m.count:=by omega
      simp [f3,f10,hl0,hl0',hc,hc']
      refine ac_same kHd (by simp [AV.pure]) ?_
      rintro r rfl
      simp
      refine ac_same kFr (by simp [AV.pure,headC,rungsC]) ?_
      rintro r rfl
      simp
      refine ac_same kCc (by simp [AV.pure]) ?_
      rintro r rfl
      rw [←hby]
      simp [f4,hV0,shC,hbl]
      refine ac_same (kRm true) (by simp [AV.pure]) ?_
      rintro r rfl
      by_cases hf:(bytesA m bs).length≤s.disk.quota-usedM s.disk
      ·rw [if_pos hf]
       have hS0:=size_sync (n:=lastN m) h.size
       have hS1:=size_create hS0 okN (by exact hnoN) (by omega)
       have hh1:hasK kN (createM (syncM s.disk (lastN m)) (newN m)).names (newN m):=has_create.2 (.inl rfl)
       have hb1:(bytesA m bs).length≤(createM (syncM s.disk (lastN m)) (newN m)).quota-usedM (createM (syncM s.disk (lastN m)) (newN m)):=by rw [used_create,used_sync];exact hf
       have hmA:metC (metA m bs)= [.int .i64 m.id,.str m.path,.lst rungsC,.int .i64 1,.int .i64 500000,.int .i64 1,.int .i64 500000,.lst (ringsC (foldF m.lad bs)),.int .i64 m.base,.int .i64 (nextQ m:Nat),.int .i64 bs.length]:=by
        unfold metA;rw [if_pos ht];rfl
       simp [hf,f4,f10,hl0,hlp0,hlp1]
       refine ac_same kNl (by simp) ?_
       rintro r rfl
       simp
       refine ac_eff (wsync_ok (k:=4) s (by simp [wkC]) h.size.right hfits okL hhl) ?_
       rintro r σ' ⟨rfl,rfl⟩
       simp [f10,hqB,hqB']
       refine ac_same kNm (by simp) ?_
       rintro r rfl
       simp
       refine ac_eff (wcreate_ok (k:=4) ⟨syncM s.disk (lastN m),s.mets,s.next⟩ (by simp) hS0.right (hS0.fits (by omega) (by omega)) okN hnoN (by have:=hS0.files;show (syncM s.disk (lastN m)).files.length<256;omega) (by have:=hS0.next;show (syncM s.disk (lastN m)).next<_;omega)) ?_
       rintro r σ' ⟨rfl,rfl⟩
       simp [f10]
       refine ac_same kNm (by simp) ?_
       rintro r rfl
       simp
       refine ac_eff (wadd_ok (k:=4) ⟨createM (syncM s.disk (lastN m)) (newN m),s.mets,s.next⟩ (by simp) hS1.right (hS1.fits (by omega) (by omega)) okN hh1 hb1 (by omega)) ?_
       rintro r σ' ⟨rfl,rfl⟩
       simp [f3,f10,hle,hwc]
       have kD:=fun (σ:Store) (hk4:σ[4]? =some (.var 127 (wkC ⟨appendM (createM (syncM s.disk (lastN m)) (newN m)) (newN m) (bytesA m bs),s.mets,s.next⟩)))=>wdone_ok (G:=G) (k:=4) ⟨appendM (createM (syncM s.disk (lastN m)) (newN m)) (newN m) (bytesA m bs),s.mets,s.next⟩ s (metA m bs) hk4 h.srt (by show s.mets.length≤1000;omega) (by show s.next≤1000000;have:=h.next;omega) (by rw [hmid];omega)
       rw [hmA] at kD
       simp only [shC] at kD
       simp [f4,f10,splice]
       refine ac_eff (kD _ (by simp)) ?_
       rintro r σ' ⟨rfl,rfl⟩
       have hApp:appendS s m bs=withM ⟨appendM (createM (syncM s.disk (lastN m)) (newN m)) (newN m) (bytesA m bs),s.mets,s.next⟩ (metA m bs):=by
        unfold appendS diskA
        rw [if_pos ht]
        rw [show syncL s.disk m=syncM s.disk (lastN m) by unfold syncL;rw [if_pos (by omega)]]
       rw [hApp]
       simp [f8,hV2,shC,splice]
      ·rw [if_neg hf]
       simp [hf,f4,f8,hV2,shC,splice]
     ·have ht:¬turnM m=true:=by unfold turnM;simp [hc,hl0]
      have hby:bytesA m bs=framesB bs:=by unfold bytesA;rw [if_neg ht]
      have hc':¬(16:Int)≤m.count:=by omega
      simp [f3,f4,f10,hl0,hl0',hc,hc',hV0,shC]
      rw [←hby]
      simp [hbl]
      refine ac_same (kRm false) (by simp [AV.pure]) ?_
      rintro r rfl
      by_cases hf:(bytesA m bs).length≤s.disk.quota-usedM s.disk
      ·rw [if_pos hf]
       have hwd:IntKind.i64.wrap ((m.count:Int)+bs.length)=((m.count+bs.length:Nat):Int):=by rw [wrap_i64 (by omega) (by omega)];omega
       have hmA:metC (metA m bs)= [.int .i64 m.id,.str m.path,.lst rungsC,.int .i64 1,.int .i64 500000,.int .i64 1,.int .i64 500000,.lst (ringsC (foldF m.lad bs)),.int .i64 m.base,.int .i64 m.last,.int .i64 (m.count+bs.length:Nat)]:=by
        unfold metA;rw [if_neg ht];rfl
       simp [hf,f4,f10]
       refine ac_same kNl (by simp) ?_
       rintro r rfl
       simp
       refine ac_eff (wadd_ok (k:=4) s (by simp [wkC]) h.size.right hfits okL hhl hf (by omega)) ?_
       rintro r σ' ⟨rfl,rfl⟩
       simp [f3,f10,hle,hwd, -Int.natCast_add]
       have kD:=fun (σ:Store) (hk4:σ[4]? =some (.var 127 (wkC ⟨appendM s.disk (lastN m) (bytesA m bs),s.mets,s.next⟩)))=>wdone_ok (G:=G) (k:=4) ⟨appendM s.disk (lastN m) (bytesA m bs),s.mets,s.next⟩ s (metA m bs) hk4 h.srt (by show s.mets.length≤1000;omega) (by show s.next≤1000000;have:=h.next;omega) (by rw [hmid];omega)
       rw [hmA] at kD
       simp only [shC] at kD
       simp [f4,f10,splice, -Int.natCast_add]
       refine ac_eff (kD _ (by simp)) ?_
       rintro r σ' ⟨rfl,rfl⟩
       have hApp:appendS s m bs=withM ⟨appendM s.disk (lastN m) (bytesA m bs),s.mets,s.next⟩ (metA m bs):=by
        unfold appendS diskA
        rw [if_neg ht]
       rw [hApp]
       simp [f8,hV2,shC,splice]
      ·rw [if_neg hf]
       simp [hf,f4,f8,hV2,shC,splice]
  ·rw [if_neg hv] at kAc
   have hR:appendR s p bs=.tup [.agg (shC s),.int .i64 1]:=by
    unfold appendR;rw [if_neg hv]
   rw [hR]
   refine ac_same kAc (by simp [AV.pure]) ?_
   rintro r rfl
   simp [splice,f3,f4,f8,f10,hV0,hV2,shC]
 ·rcases hx with ⟨hh,rfl⟩|⟨hh,rfl,hmc⟩
  ·have kf:=sfresh_ok (G:=G) s p (by omega)
   simp only [shC,schC] at kf
   simp
   refine ac_same kTr (by simp) ?_
   rintro r rfl
   simp
   refine ac_same kf (by simp [AV.pure]) ?_
   rintro r rfl
   simp [metC,splice]
   refine jn_intro ?_
   refine ⟨by simp,by simp,by simp,by simp,by simp,by simp,by simp, ?_⟩
   rw [hm,metOf_no hh]
   simp [hV0,hV1,hV2,shC,schC,metC,freshM]
  ·simp
   refine ac_same kTr (by simp) ?_
   rintro r rfl
   simp
   refine jn_intro ?_
   refine ⟨by simp,by simp,by simp,by simp,by simp,by simp,by simp, ?_⟩
   rw [hm,←hmc]
   simp [hV0,hV1,hV2,shC,schC]
end Go.Proofs.YtdbhocoeolhjhaaGreatDoor
end
section
set_option maxHeartbeats 8000000
namespace Go.Proofs.YtdbhocoeolhjhaaGreatDoor
open Go.Abs Go.RowKit Go.Sf Go.Num
variable {G:Globs}
def syncR (s:ShM) (p:Txt):AV:=if hasK kM s.mets p then .tup [.agg (shC (syncS s (metOf s p))),.int .i64 0] else .tup [.agg (shC s),.int .i64 15]
theorem sSync_ok {s:ShM} {a k:Nat} (h:InvS s a k) (ha:a≤69) (hk:k≤100000) {p:Txt} (hp:p∈P4):PCalls Tryz.prog n_shelf_Sync [.agg (shC s),.str p] (fun r=>r=syncR s p):=by
 refine pcalls_of_awp hmix c_shelf_Sync rfl ?_
 have ho:=h.met hp
 have hlen:=h.len
 have hfits:=h.size.fits (by omega) (by omega)
 have hFd:=sFind_gen (G:=G) h (p:=p)
 simp only [shC] at hFd
 simp [a_shelf_Sync,shC]
 refine ac_same hFd (by simp [AV.pure]) ?_
 rintro r ⟨x0,x1,x2,x3,x4,x5,x6,x7,x8,x9,x10,e,rfl,hx⟩
 rcases hx with ⟨hh,rfl⟩|⟨hh,rfl,hmc⟩
 ·have hR:syncR s p=.tup [.agg (shC s),.int .i64 15]:=by unfold syncR;rw [if_neg hh]
  rw [hR]
  simp [splice,shC]
 ·obtain ⟨m,hm⟩:∃m,m=metOf s p:=⟨_,rfl⟩
  have hR:syncR s p=.tup [.agg (shC (syncS s m)),.int .i64 0]:=by unfold syncR;rw [if_pos hh,hm]
  rw [hR]
  rw [←hm] at ho hmc
  have hid5:=ho.id5
  have hseq:=ho.seq
  simp only [metC,List.cons.injEq,AV.int.injEq,AV.str.injEq,AV.lst.injEq,true_and,and_true] at hmc
  obtain ⟨rfl,rfl,rfl,rfl,rfl,rfl,rfl,rfl,rfl,rfl,rfl⟩:=hmc
  have hsz:=size_syncL m h.size
  have kK:=fun (σ:Store) (h3:σ[3]? =some (.var 127 (wkC ⟨syncL s.disk m,s.mets,s.next⟩)))=>wkeep_ok (G:=G) (k:=3) ⟨syncL s.disk m,s.mets,s.next⟩ h3 hsz.right (hsz.fits (by omega) (by omega))
  have kD:=fun (σ:Store) (h3:σ[3]? =some (.var 127 (wkC ⟨keepD (syncL s.disk m),s.mets,s.next⟩)))=>wdone_ok (G:=G) (k:=3) ⟨keepD (syncL s.disk m),s.mets,s.next⟩ s m h3 h.srt (by show s.mets.length≤1000;omega) (by show s.next≤1000000;have:=h.next;omega) (by omega)
  have hS:syncS s m=withM ⟨keepD (syncL s.disk m),s.mets,s.next⟩ m:=rfl
  rw [hS]
  simp only [shC,metC] at kD
  by_cases hl:0<m.last
  ·have hl':(0:Int)<m.last:=by omega
   have kNl:PCalls Tryz.prog n_shelf_name [.int .i64 m.id,.int .i64 m.last,.str [46,112]] (fun r=>r=.str (lastN m)):=sname_ok m.id m.last kindP (by omega) (by omega) (by decide)
   have okL:okS (lastN m):=nameOf_ok m.id hid5 m.last (by omega) kindP (by simp)
   have hhl:hasK kN s.disk.names (lastN m):=ho.last hl
   have hsy:syncL s.disk m=syncM s.disk (lastN m):=by unfold syncL;rw [if_pos hl]
   simp [splice,hl,hl']
   refine ac_same kNl (by simp) ?_
   rintro r rfl
   simp
   refine ac_eff (wsync_ok (k:=3) s (by simp [wkC]) h.size.right hfits okL hhl) ?_
   rintro r σ' ⟨rfl,rfl⟩
   simp
   refine ac_eff (kK _ (by simp [hsy])) ?_
   rintro r σ' ⟨rfl,rfl⟩
   simp
   refine ac_eff (kD _ (by simp [keepD])) ?_
   rintro r σ' ⟨rfl,rfl⟩
   simp [shC,splice]
  ·have hl':¬(0:Int)<m.last:=by omega
   have hsy:syncL s.disk m=s.disk:=by unfold syncL;rw [if_neg hl]
   simp [splice,hl,hl']
   refine ac_eff (kK _ (by simp [hsy,wkC])) ?_
   rintro r σ' ⟨rfl,rfl⟩
   simp
   refine ac_eff (kD _ (by simp [keepD])) ?_
   rintro r σ' ⟨rfl,rfl⟩
   simp [shC,splice]
def compB (m:MetM):Txt:=writeB m.path (recsM m.lad)
def compR (s:ShM) (p:Txt):AV:=if hasK kM s.mets p then (if (compB (metOf s p)).length≤s.disk.quota-usedM s.disk then .tup [.agg (shC (compS s (metOf s p) (compB (metOf s p)))),.int .i64 0] else .tup [.agg (shC s),.int .i64 6]) else .tup [.agg (shC s),.int .i64 15]
theorem recs_ok {l:LadM} (h:RightL l):∀x∈recsM l,OkSl x:=fun x hx=>by
 simp only [recsM,List.mem_append,List.mem_map] at hx
 rcases hx with ⟨s,hs,rfl⟩|⟨s,hs,rfl⟩
 ·obtain ⟨k,h1,h2,h3,h4⟩:=live_time h.r1 hs
  exact ⟨by simp,by simp [h1];omega,h3,h4⟩
 ·obtain ⟨k,h1,h2,h3,h4⟩:=live_time h.r2 hs
  exact ⟨by simp,by simp [h1];omega,h3,h4⟩
theorem recs_len {l:LadM} (h:RightL l):(recsM l).length≤11:=by
 have h1:=live_len l.fine
 have h2:=live_len l.wide
 rw [h.n1] at h1
 rw [h.n2] at h2
 simp [recsM];omega
theorem sComp_ok (hT:Steps G) {s:ShM} {a k:Nat} (h:InvS s a k) (ha:a<69) (hk:k≤100000) {p:Txt} (hp:p∈P4):PCalls Tryz.prog n_shelf_Compact [.agg (shC s),.str p] (fun r=>r=compR s p):=by
 refine pcalls_of_awp hmix c_shelf_Compact rfl ?_
 have ho:=h.met hp
 have hlen:=h.len
 have hfits:=h.size.fits (by omega) (by omega)
 have hFd:=sFind_gen (G:=G) h (p:=p)
 simp only [shC] at hFd
 simp [a_shelf_Compact,shC]
 refine ac_same hFd (by simp [AV.pure]) ?_
 rintro r ⟨x0,x1,x2,x3,x4,x5,x6,x7,x8,x9,x10,e,rfl,hx⟩
 rcases hx with ⟨hh,rfl⟩|⟨hh,rfl,hmc⟩
 ·have hR:compR s p=.tup [.agg (shC s),.int .i64 15]:=by unfold compR;rw [if_neg hh]
  rw [hR]
  simp [splice,shC]
 ·obtain ⟨m,hm⟩:∃m,m=metOf s p:=⟨_,rfl⟩
  have hR:compR s p=if (compB m).length≤s.disk.quota-usedM s.disk then .tup [.agg (shC (compS s m (compB m))),.int .i64 0] else .tup [.agg (shC s),.int .i64 6]:=by unfold compR;rw [if_pos hh,hm]
  rw [hR]
  rw [←hm] at ho hmc
  have hid5:=ho.id5
  have hseq:=ho.seq
  have hpath:=ho.path
  have hpl:m.path≠ []∧m.path.length≤100:=by
   rw [hpath]
   have:∀q∈P4,q≠ []∧q.length≤100:=by decide
   exact this p hp
  have kHd:=shead_ok (G:=G) m
  have kSl:=slots_ok (G:=G) m.lad ho.lad
  have kWr:=sWrite_ok (G:=G) hT m.path hpl.1 hpl.2 (recsM m.lad) (recs_ok ho.lad) (by have:=recs_len ho.lad;omega)
  have hbl:=byteEls_length (compB m)
  have hbl2:(compB m).length≤1000:=by
   have:=recs_len ho.lad
   unfold compB;rw [writeB_len];omega
  have kRm:=sroom_ok (G:=G) s.disk h.size.right hfits (compB m).length (by omega) true (by have:=h.size.files;omega)
  simp only [metC] at kHd
  simp only [ladC] at kSl
  simp only [diskC] at kRm
  rw [show writeB m.path (recsM m.lad)=compB m from rfl] at kWr
  simp only [metC,List.cons.injEq,AV.int.injEq,AV.str.injEq,AV.lst.injEq,true_and,and_true] at hmc
  obtain ⟨rfl,rfl,rfl,rfl,rfl,rfl,rfl,rfl,rfl,rfl,rfl⟩:=hmc
  simp [splice]
  refine qc_any kHd (by simp [AV.pure]) ?_
  simp
  refine qc_any kSl (by simp [AV.pure]) ?_
  simp
  refine qc_any kWr (by simp [AV.pure,headC,rungsC]) ?_
  simp [hbl]
  refine ac_same kRm (by simp [AV.pure]) ?_
  rintro r rfl
  by_cases hf:(compB m).length≤s.disk.quota-usedM s.disk
  ·rw [if_pos hf]
   have hP:=packed h ha ho hf
   have hC:=comp h ha ho hP
   have hn70:nextQ m<70:=by unfold nextQ;omega
   have kNt:PCalls Tryz.prog n_shelf_name [.int .i64 m.id,.int .i64 (nextQ m:Nat),.str [46,116]] (fun r=>r=.str (partN m)):=sname_ok m.id (nextQ m) kindT (by omega) (by omega) (by decide)
   have kNc:PCalls Tryz.prog n_shelf_name [.int .i64 m.id,.int .i64 (nextQ m:Nat),.str [46,99]] (fun r=>r=.str (wholeN m)):=sname_ok m.id (nextQ m) kindC (by omega) (by omega) (by decide)
   have hqB:IntKind.i64.wrap ((if m.base<m.last then (m.last:Int) else (m.base:Int))+1)=((nextQ m:Nat):Int):=by
    unfold nextQ
    rw [wrap_i64 (by split<;>omega) (by split<;>omega)];split<;>omega
   have hqB':IntKind.i64.wrap ((if m.base<m.last then (m.last:Int) else (m.base:Int))+1)=((nextQ m:Nat):Int):=by
    unfold nextQ
    rw [wrap_i64 (by split<;>omega) (by split<;>omega)];split<;>omega
   obtain ⟨V0,hV0⟩:∃V0:Entry,V0=.var 33 (shC s):=⟨_,rfl⟩
   obtain ⟨V1,hV1⟩:∃V1:Entry,V1=.var 33 [.int .i64 0,.nils,.nils,.nils,.nils,.int .i64 0,.nils,.int .i64 0,.int .i64 0,.bool false]:=⟨_,rfl⟩
   have hfit:∀{d:DiskM} {k':Nat},SizeM d (a+1) k'→k'≤200000→Fits d:=fun hd hk'=>hd.fits (by omega) (by omega)
   by_cases hl:0<m.last
   focus
    have hl':(0:Int)<m.last:=by omega
    have kNl:PCalls Tryz.prog n_shelf_name [.int .i64 m.id,.int .i64 m.last,.str [46,112]] (fun r=>r=.str (lastN m)):=sname_ok m.id m.last kindP (by omega) (by omega) (by decide)
    have okL:okS (lastN m):=nameOf_ok m.id hid5 m.last (by omega) kindP (by simp)
    have hhl:hasK kN s.disk.names (lastN m):=ho.last hl
    have hsy:syncM s.disk (lastN m)=syncL s.disk m:=by unfold syncL;rw [if_pos hl]
    simp [hf,hl,hl']
    refine ac_same kNl (by simp) ?_
    rintro r rfl
    simp
    refine ac_eff (wsync_ok (k:=3) s (by simp [wkC]) h.size.right hfits okL hhl) ?_
    rintro r σ' ⟨rfl,rfl⟩
    rw [hsy]
   rotate_left
   focus
    have hl':¬(0:Int)<m.last:=by omega
    have hsy:syncL s.disk m=s.disk:=by unfold syncL;rw [if_neg hl]
    have hwk:(Entry.var 127 [.int .i64 s.disk.quota,.lst (filesC s.disk.files),.lst (namesC s.disk.names),.lst (namesC s.disk.kept),.lst (movesC s.disk.moves),.int .i64 s.disk.next,.lst (metsC s.mets),.int .i64 s.next,.int .i64 (-1),.bool false,.int .i64 0])=.var 127 (wkC ⟨syncL s.disk m,s.mets,s.next⟩):=by rw [hsy];rfl
    simp [hf,hl,hl']
    rw [hwk]
   all_goals
    simp [hqB,hqB']
    refine qc_any kNt (by simp) ?_
    simp [hqB,hqB']
    refine qc_any kNc (by simp) ?_
    simp
    refine ac_eff (wcreate_ok (k:=3) ⟨syncL s.disk m,s.mets,s.next⟩ (by simp) hP.s1.right (hP.s1.fits (by omega) (by omega)) hP.o1 hP.n1 (by have:=hP.s1.files;show (syncL s.disk m).files.length<256;omega) (by have:=hP.s1.next;show (syncL s.disk m).next<_;omega)) ?_
    rintro r σ' ⟨rfl,rfl⟩
    simp
    refine ac_eff (wadd_ok (k:=3) ⟨createM (syncL s.disk m) (partN m),s.mets,s.next⟩ (by simp) hP.s2.right (hfit hP.s2 (by omega)) hP.o1 hP.h2 hP.u2 (by omega)) ?_
    rintro r σ' ⟨rfl,rfl⟩
    simp
    refine ac_eff (wsync_ok (k:=3) ⟨appendM (createM (syncL s.disk m) (partN m)) (partN m) (compB m),s.mets,s.next⟩ (by simp) hP.s3.right (hfit hP.s3 (by omega)) hP.o1 hP.h2) ?_
    rintro r σ' ⟨rfl,rfl⟩
    simp
    refine ac_eff (wrename_ok (k:=3) ⟨syncM (appendM (createM (syncL s.disk m) (partN m)) (partN m) (compB m)) (partN m),s.mets,s.next⟩ (by simp) hP.s4.right (hfit hP.s4 (by omega)) hP.o1 hP.h2 hP.o2 hP.ne) ?_
    rintro r σ' ⟨rfl,rfl⟩
    simp
    refine ac_eff (wkeep_ok (k:=3) ⟨renameM (syncM (appendM (createM (syncL s.disk m) (partN m)) (partN m) (compB m)) (partN m)) (partN m) (wholeN m),s.mets,s.next⟩ (by simp) hP.s5.right (hfit hP.s5 (by omega))) ?_
    rintro r σ' ⟨rfl,rfl⟩
    have hmv:(renameM (syncM (appendM (createM (syncL s.disk m) (partN m)) (partN m) (compB m)) (partN m)) (partN m) (wholeN m)).moves≠ []:=by simp [renameM]
    rw [if_neg hmv]
    rw [show syncDirM (renameM (syncM (appendM (createM (syncL s.disk m) (partN m)) (partN m) (compB m)) (partN m)) (partN m) (wholeN m))=packD s.disk m (compB m) from rfl]
    have kFi:=files_ok (G:=G) (packD s.disk m (compB m)) hP.s6.right (hfit hP.s6 (by omega)) m.id (by omega) (wholeN m)
    simp only [diskC] at kFi
    obtain ⟨fl,hfl⟩:∃fl,fl=filesM (packD s.disk m (compB m)) m.id (wholeN m):=⟨_,rfl⟩
    obtain ⟨D6,hD6⟩:∃D6,D6=packD s.disk m (compB m):=⟨_,rfl⟩
    have c1:=hC.fok
    have c2:=hC.fnd
    have c3:=hC.flen
    have c4:=hC.s7
    have c5:=hP.s6
    rw [←hfl,←hD6] at c1 c4 kFi
    rw [←hfl] at c2 c3
    rw [←hD6] at c5⊢
    have hflc:=strsC_len fl
    simp [wkC]
    refine qc_any kFi (by simp [AV.pure]) ?_
    simp [hflc]
    refine lp_startx (fun x f σ=>∃i:Nat,x=fl.length-i∧i≤fl.length∧f 4=.ptr 1 0∧f 2=.ptr 0 0∧f 6=.ptr 2 0∧f 10=.ptr 3 0∧f 11=.int .i64 (nextQ m:Nat)∧f 104=.lst (strsC fl)∧f 105=.int .i64 fl.length∧f 106=.int .i64 i∧
     σ= [V0,V1,.var 57 (metC m),.var 127 (wkC ⟨removesM D6 (fl.take i),s.mets,s.next⟩)]) fl.length ?_ ?_
    ·exact ⟨0,by simp,by simp,by simp,by simp,by simp,by simp,by simp [hqB,hqB'],by simp,by simp,by simp,by simp [hV0,hV1,shC,metC,wkC,removesM]⟩
    rintro x f σ ⟨i,rfl,hi,f4,f2,f6,f10,f11,f104,f105,f106,rfl⟩
    simp [f105,f106]
    refine cb_dec (fun hlt=> ?_) (fun hge=> ?_)
    ·have hlt':i<fl.length:=by omega
     have hwi:IntKind.i64.wrap ((i:Int)+1)=((i+1:Nat):Int):=by rw [wrap_i64 (by omega) (by omega)];omega
     obtain ⟨n,hn⟩:∃n,fl[i]? =some n:=⟨_,List.getElem?_eq_getElem hlt'⟩
     have hc:(strsC fl)[i]? =some [.str n]:=by simp [strsC,hn]
     obtain ⟨hx1,hx2⟩:=List.getElem?_eq_some_iff.1 hc
     have hsn:fl.take (i+1)=fl.take i++ [n]:=by rw [List.take_add_one,hn];rfl
     have hnd2:=c2
     rw [←List.take_append_drop i fl,List.nodup_append] at hnd2
     obtain ⟨r1,r2⟩:=size_removes c5 hnd2.1 fun y hy=>c1 y (List.mem_of_mem_take hy)
     have hni:n∉fl.take i:=fun hm=>hnd2.2.2 n hm n (by rw [List.mem_iff_getElem?];exact ⟨0,by rw [List.getElem?_drop];simpa using hn⟩) rfl
     have hnn:=c1 n (List.mem_of_getElem? hn)
     have hhn:=(r2 n).2 ⟨hni,hnn.2⟩
     have htl:(fl.take i).length≤fl.length:=by simp;omega
     simp [f10,f104,f106,hc,hx2]
     refine ac_eff (wremove_ok (k:=3) ⟨removesM D6 (fl.take i),s.mets,s.next⟩ (by simp) r1.right (hfit r1 (by omega)) hnn.1 hhn) ?_
     rintro r σ' ⟨rfl,rfl⟩
     simp [f106,hwi]
     refine nx_intro (fl.length-(i+1)) (by omega) ⟨i+1,rfl,by omega,by simp [f4],by simp [f2],by simp [f6],by simp [f10],by simp [f11],by simp [f104],by simp [f105],by simp, ?_⟩
     rw [hsn,removes_snoc]
    ·have hil:i=fl.length:=by omega
     subst hil
     rw [List.take_length]
     simp [f10]
     refine ac_eff (wkeep_ok (k:=3) ⟨removesM D6 fl,s.mets,s.next⟩ (by simp) c4.right (hfit c4 (by omega))) ?_
     rintro r σ' ⟨rfl,rfl⟩
     have hcd:(if (removesM D6 fl).moves= [] then removesM D6 fl else syncDirM (removesM D6 fl))=compD s.disk m (compB m):=by rw [hD6,hfl];rfl
     simp only [hcd]
     have kD:=fun (σ:Store) (h3:σ[3]? =some (.var 127 (wkC ⟨compD s.disk m (compB m),s.mets,s.next⟩)))=>wdone_ok (G:=G) (k:=3) ⟨compD s.disk m (compB m),s.mets,s.next⟩ s (metC' m) h3 h.srt (by show s.mets.length≤1000;omega) (by show s.next≤1000000;have:=h.next;omega) (by show m.id≤_;omega)
     have hm':metC (metC' m)= [.int .i64 m.id,.str m.path,.lst rungsC,.int .i64 1,.int .i64 500000,.int .i64 1,.int .i64 500000,.lst (ringsC m.lad),.int .i64 (nextQ m:Nat),.int .i64 0,.int .i64 0]:=rfl
     rw [hm'] at kD
     simp only [shC] at kD
     simp [f2,f6,f10,f11,hV0,shC,metC,splice]
     refine ac_eff (kD _ (by simp)) ?_
     rintro r σ' ⟨rfl,rfl⟩
     have hS:compS s m (compB m)=withM ⟨compD s.disk m (compB m),s.mets,s.next⟩ (metC' m):=rfl
     rw [hS]
     simp [f4,hV1,shC,splice]
  ·rw [if_neg hf]
   simp [hf,shC,splice]
end Go.Proofs.YtdbhocoeolhjhaaGreatDoor
end
section
set_option maxHeartbeats 8000000
namespace Go.Proofs.YtdbhocoeolhjhaaGreatDoor
open Go.Abs Go.RowKit Go.Sf Go.Num
variable {G:Globs}
theorem sameNames_ok (l:List NameM) (hl:l.length≤1000000):PCalls Tryz.prog n_isobarref06_SameNames [.lst (namesC l),.lst (namesC l)] (fun r=>r=.bool true):=by
 refine pcalls_of_awp hmix c_isobarref06_SameNames rfl ?_
 have hle:=namesC_len l
 simp [a_isobarref06_SameNames]
 refine lp_startx (fun x f σ=>∃(i:Nat),x=l.length-i∧i≤l.length∧f 0=.lst (namesC l)∧f 1=.lst (namesC l)∧f 5=.int .i64 i∧σ= []) l.length ?_ ?_
 ·exact ⟨0,by simp,by simp,by simp,by simp,by simp,by simp⟩
 rintro x f σ ⟨i,rfl,hi,f0,f1,f5,rfl⟩
 simp [f0,f5,hle]
 refine cb_dec (fun hlt=> ?_) (fun hge=> ?_)
 ·have hlt':i<l.length:=by omega
  have hwi:IntKind.i64.wrap ((i:Int)+1)=((i+1:Nat):Int):=by rw [wrap_i64 (by omega) (by omega)];omega
  obtain ⟨a,ha⟩:∃a,l[i]? =some a:=⟨_,List.getElem?_eq_getElem hlt'⟩
  have hc:=namesC_get ha
  obtain ⟨hx1,hx2⟩:=List.getElem?_eq_some_iff.1 hc
  simp [f0,f1,f5,hc,hx2,nameC,eqAll,hwi]
  exact nx_intro (l.length-(i+1)) (by omega) ⟨i+1,rfl,by omega,by simp [f0],by simp [f1],by simp,rfl⟩
 ·simp
theorem sameBytes_ok (l:Txt) (hl:l.length≤1000000000):PCalls Tryz.prog n_isobarref05_Same [.lst (byteEls l),.lst (byteEls l)] (fun r=>r=.bool true):=by
 refine pcalls_of_awp hmix c_isobarref05_Same rfl ?_
 have hle:=byteEls_length l
 simp [a_isobarref05_Same]
 refine lp_startx (fun x f σ=>∃(i:Nat),x=l.length-i∧i≤l.length∧f 0=.lst (byteEls l)∧f 1=.lst (byteEls l)∧f 5=.int .i64 i∧σ= []) l.length ?_ ?_
 ·exact ⟨0,by simp,by simp,by simp,by simp,by simp,by simp⟩
 rintro x f σ ⟨i,rfl,hi,f0,f1,f5,rfl⟩
 simp [f0,f5,hle]
 refine cb_dec (fun hlt=> ?_) (fun hge=> ?_)
 ·have hlt':i<l.length:=by omega
  have hwi:IntKind.i64.wrap ((i:Int)+1)=((i+1:Nat):Int):=by rw [wrap_i64 (by omega) (by omega)];omega
  obtain ⟨a,ha⟩:∃a,l[i]? =some a:=⟨_,List.getElem?_eq_getElem hlt'⟩
  have hc:=byteEls_get ha
  obtain ⟨hx1,hx2⟩:=List.getElem?_eq_some_iff.1 hc
  simp [f0,f1,f5,hc,hx2,cellsAt,hwi]
  exact nx_intro (l.length-(i+1)) (by omega) ⟨i+1,rfl,by omega,by simp [f0],by simp [f1],by simp,rfl⟩
 ·simp
theorem sameRungs_ok:PCalls Tryz.prog n_isobarref08_SameRungs [.lst rungsC,.lst rungsC] (fun r=>r=.bool true):=by
 refine pcalls_of_awp hmix c_isobarref08_SameRungs rfl ?_
 simp [a_isobarref08_SameRungs]
 refine lp_startx (fun x f σ=>∃(i:Nat),x=2-i∧i≤2∧f 0=.lst rungsC∧f 1=.lst rungsC∧f 5=.int .i64 i∧σ= []) 2 ?_ ?_
 ·exact ⟨0,by simp,by simp,by simp,by simp,by simp,by simp⟩
 rintro x f σ ⟨i,rfl,hi,f0,f1,f5,rfl⟩
 have hi3:i=0∨i=1∨i=2:=by omega
 rcases hi3 with rfl|rfl|rfl
 ·simp [f0,f1,f5,rungsC,eqAll,wk1]
  exact nx_intro 1 (by omega) ⟨1,rfl,by omega,by simp [f0,rungsC],by simp [f1,rungsC],by simp,rfl⟩
 ·simp [f0,f1,f5,rungsC,eqAll,wk2]
  exact nx_intro 0 (by omega) ⟨2,rfl,by omega,by simp [f0,rungsC],by simp [f1,rungsC],by simp,rfl⟩
 ·simp [f0,f5,rungsC]
theorem sameSchema_ok:PCalls Tryz.prog n_isobarref12_SameSchema [.agg schC,.agg schC] (fun r=>r=.bool true):=by
 refine pcalls_of_awp hmix c_isobarref12_SameSchema rfl ?_
 simp [a_isobarref12_SameSchema,schC]
 refine ac_same sameRungs_ok (by simp [AV.pure]) ?_
 rintro r rfl
 simp
theorem sameMetric_ok (m:MetM) (h:RightL m.lad):PCalls Tryz.prog n_isobarref21_SameMetric [.agg (metC m),.agg (metC m)] (fun r=>r=.bool true):=by
 refine pcalls_of_awp hmix c_isobarref21_SameMetric rfl ?_
 have kL:=r14Same_ok (G:=G) m.lad h
 have kS:=sameSchema_ok (G:=G)
 simp only [ladC] at kL
 simp only [schC] at kS
 simp [a_isobarref21_SameMetric,metC]
 refine ac_same kS (by simp [AV.pure]) ?_
 rintro r rfl
 simp
 refine ac_same kL (by simp [AV.pure]) ?_
 rintro r rfl
 simp
theorem sameMetrics_ok (l:List MetM) (h:∀m∈l,RightL m.lad) (hl:l.length≤1000000):PCalls Tryz.prog n_isobarref21_SameMetrics [.lst (metsC l),.lst (metsC l)] (fun r=>r=.bool true):=by
 refine pcalls_of_awp hmix c_isobarref21_SameMetrics rfl ?_
 have hle:=metsC_len l
 simp [a_isobarref21_SameMetrics]
 refine lp_startx (fun x f σ=>∃(i:Nat),x=l.length-i∧i≤l.length∧f 0=.lst (metsC l)∧f 1=.lst (metsC l)∧f 5=.int .i64 i∧σ= []) l.length ?_ ?_
 ·exact ⟨0,by simp,by simp,by simp,by simp,by simp,by simp⟩
 rintro x f σ ⟨i,rfl,hi,f0,f1,f5,rfl⟩
 simp [f0,f5,hle]
 refine cb_dec (fun hlt=> ?_) (fun hge=> ?_)
 ·have hlt':i<l.length:=by omega
  have hwi:IntKind.i64.wrap ((i:Int)+1)=((i+1:Nat):Int):=by rw [wrap_i64 (by omega) (by omega)];omega
  obtain ⟨a,ha⟩:∃a,l[i]? =some a:=⟨_,List.getElem?_eq_getElem hlt'⟩
  have hc:=metsC_get ha
  obtain ⟨hx1,hx2⟩:=List.getElem?_eq_some_iff.1 hc
  have kM':=sameMetric_ok (G:=G) a (h a (List.mem_of_getElem? ha))
  simp only [metC] at kM'
  simp [f0,f1,f5,hc,hx2,metC]
  refine qc_same kM' (by simp [AV.pure]) (by simp) ?_
  simp [f5,hwi]
  exact nx_intro (l.length-(i+1)) (by omega) ⟨i+1,rfl,by omega,by simp [f0],by simp [f1],by simp,rfl⟩
 ·simp
theorem moves_get {l:List MoveM} {i:Nat} {m:MoveM} (h:l[i]? =some m):(movesC l)[i]? =some (moveC m):=by simp [movesC,h]
theorem sameDisk_ok (d:DiskM) (hl:Fits d):PCalls Tryz.prog n_isobarref06_Same [.agg (diskC d),.agg (diskC d)] (fun r=>r=.bool true):=by
 refine pcalls_of_awp hmix c_isobarref06_Same rfl ?_
 have hfl:=filesC_len d.files
 have hml:(movesC d.moves).length=d.moves.length:=by simp [movesC]
 have h1:=hl.nfiles
 have h2:=hl.nmoves
 simp [a_isobarref06_Same,diskC]
 refine ac_same (sameNames_ok d.names hl.nnames) (by simp [AV.pure]) ?_
 rintro r rfl
 simp
 refine ac_same (sameNames_ok d.kept hl.nkept) (by simp [AV.pure]) ?_
 rintro r rfl
 simp
 obtain ⟨D,hD⟩:∃D:Entry,D=.var 30 (diskC d):=⟨_,rfl⟩
 refine lp_startx (fun x f σ=>∃(i:Nat) (tl:Store),x=d.files.length-i∧i≤d.files.length∧f 2=.ptr 0 0∧f 3=.ptr 1 0∧f 5=.int .i64 i∧σ=D::D::tl) d.files.length ?_ ?_
 ·exact ⟨0,[],by simp,by simp,by simp,by simp,by simp,by simp [hD,diskC]⟩
 rintro x f σ ⟨i,tl,rfl,hi,f2,f3,f5,rfl⟩
 simp [f2,f5,hD,diskC,hfl]
 refine cb_dec (fun hlt=> ?_) (fun hge=> ?_)
 ·have hlt':i<d.files.length:=by omega
  have hwi:IntKind.i64.wrap ((i:Int)+1)=((i+1:Nat):Int):=by rw [wrap_i64 (by omega) (by omega)];omega
  obtain ⟨a,ha⟩:∃a,d.files[i]? =some a:=⟨_,List.getElem?_eq_getElem hlt'⟩
  have hc:=filesC_get ha
  obtain ⟨hx1,hx2⟩:=List.getElem?_eq_some_iff.1 hc
  have kB:=sameBytes_ok (G:=G) a.bytes (by have:=hl.bytes a (List.mem_of_getElem? ha);omega)
  simp
  refine ⟨?_, ?_, ?_, ?_, ?_, ?_, ?_, ?_⟩
  all_goals
   simp [f2,f3,f5,hc,hx2,fileC,diskC,hD,pre_get0,pre_get1,pre_set1,pre_set0,splice]
   refine ac_same kB (by simp [AV.pure]) ?_
   rintro r rfl
   simp [f5,hwi]
   exact nx_intro (d.files.length-(i+1)) (by omega) ⟨i+1,_,rfl,by omega,by simp [f2],by simp [f3],by simp,by simp [hD,diskC];rfl⟩
 ·simp
  clear f5
  refine lp_startx (fun x f σ=>∃(i:Nat),x=d.moves.length-i∧i≤d.moves.length∧f 2=.ptr 0 0∧f 3=.ptr 1 0∧f 8=.int .i64 i∧σ=D::D::tl) d.moves.length ?_ ?_
  ·exact ⟨0,by simp,by simp,by simp [f2],by simp [f3],by simp,by simp [hD,diskC]⟩
  rintro x f σ ⟨i,rfl,hi,f2,f3,f8,rfl⟩
  simp [f2,f8,hD,diskC,hml]
  refine cb_dec (fun hlt=> ?_) (fun hge=> ?_)
  ·have hlt':i<d.moves.length:=by omega
   have hwi:IntKind.i64.wrap ((i:Int)+1)=((i+1:Nat):Int):=by rw [wrap_i64 (by omega) (by omega)];omega
   obtain ⟨a,ha⟩:∃a,d.moves[i]? =some a:=⟨_,List.getElem?_eq_getElem hlt'⟩
   have hc:=moves_get ha
   obtain ⟨hx1,hx2⟩:=List.getElem?_eq_some_iff.1 hc
   simp [f2,f3,f8,hc,hx2,moveC,eqAll,hwi,hD,diskC]
   exact nx_intro (d.moves.length-(i+1)) (by omega) ⟨i+1,rfl,by omega,by simp [f2],by simp [f3],by simp,by simp [hD,diskC]⟩
  ·simp
theorem sameShelf_ok {s:ShM} {a k:Nat} (h:InvS s a k) (ha:a≤69) (hk:k≤100000):PCalls Tryz.prog n_isobarref21_Same [.agg (shC s),.agg (shC s)] (fun r=>r=.bool true):=by
 refine pcalls_of_awp hmix c_isobarref21_Same rfl ?_
 have hlen:=h.len
 have kD:=sameDisk_ok (G:=G) s.disk (h.size.fits (by omega) (by omega))
 have kM':=sameMetrics_ok (G:=G) s.mets h.lad (by omega)
 simp only [diskC] at kD
 simp [a_isobarref21_Same,shC]
 refine ac_same kD (by simp [AV.pure]) ?_
 rintro r rfl
 simp
 refine ac_same kM' (by simp [AV.pure]) ?_
 rintro r rfl
 simp
def newS (q:Nat):ShM:=⟨⟨q,[],[],[],[],1⟩,[],1⟩
theorem sNew_ok (q:Nat) (hq:q≤1000000):PCalls Tryz.prog n_shelf_New [.int .i64 q] (fun r=>r=.tup [.agg (shC (newS q)),.int .i64 0]):=by
 refine pcalls_of_awp hmix c_shelf_New rfl ?_
 have kN:=dnew_ok (G:=G) q (by omega)
 simp only [diskC] at kN
 simp [a_shelf_New]
 refine ac_same kN (by simp) ?_
 rintro r rfl
 simp [splice,shC,newS,metsC]
theorem inv_new {q:Nat} (hq:q≤65535):InvS (newS q) 0 0:=by
 refine ⟨⟨right_new (by omega),hq,by simp [newS],by simp [newS],by simp [newS],by simp [newS]⟩,by simp [newS,Srt],by simp [newS],by simp [newS],by simp [newS],by simp [newS],by simp [newS],by simp [newS],by simp [newS],by simp [newS],fun t ht=> ?_⟩
 obtain ⟨x,hx,_⟩:=ht
 simp [newS] at hx
end Go.Proofs.YtdbhocoeolhjhaaGreatDoor
end
section
set_option maxHeartbeats 1000000
namespace Go.Proofs.YtdbhocoeolhjhaaGreatDoor
open Go.Sf Go.Num
structure DotM where
 back:Nat
 later:Nat
 v:Int
structure ActM where
 kind:Nat
 met:Nat
 dots:List DotM
structure OkDot (d:DotM):Prop where
 b:d.back<256
 l:d.later<256
 v:i64 d.v
structure OkAct (a:ActM):Prop where
 k:a.kind<256
 m:a.met<256
 d:∀x∈a.dots,OkDot x
def stepD (now:Nat) (d:DotM):ArrM:=⟨now+d.later%30-d.back%80,d.v,now+d.later%30⟩
def ptsM (now:Nat):List DotM→List ArrM
 | []=> []
 |d::l=>stepD now d::ptsM (now+d.later%30) l
def nowM (now:Nat):List DotM→Nat
 | []=>now
 |d::l=>nowM (now+d.later%30) l
theorem nowM_snoc (now:Nat) (l:List DotM) (d:DotM):nowM now (l++ [d])=nowM now l+d.later%30:=by
 induction l generalizing now with
 |nil=>rfl
 |cons x l ih=>exact ih _
theorem ptsM_snoc (now:Nat) (l:List DotM) (d:DotM):ptsM now (l++ [d])=ptsM now l++ [stepD (nowM now l) d]:=by
 induction l generalizing now with
 |nil=>rfl
 |cons x l ih=>
  show stepD now x::ptsM _ (l++ [d])=_
  rw [ih];rfl
theorem ptsM_len (now:Nat) (l:List DotM):(ptsM now l).length=l.length:=by
 induction l generalizing now with
 |nil=>rfl
 |cons x l ih=>simp [ptsM,ih]
theorem nowM_le (now:Nat) (l:List DotM):now≤nowM now l∧nowM now l≤now+30*l.length:=by
 induction l generalizing now with
 |nil=>exact ⟨Nat.le_refl _,Nat.le_refl _⟩
 |cons x l ih=>
  have:=ih (now+x.later%30)
  have h:=Nat.mod_lt x.later (show 0<30 by omega)
  simp only [nowM,List.length_cons]
  omega
theorem ptsM_ok {now:Nat} (hn:1000≤now) {l:List DotM} (hl:now+30*l.length≤1000000) (hd:∀d∈l,OkDot d):∀a∈ptsM now l,OkA a:=by
 induction l generalizing now with
 |nil=>intro a ha;cases ha
 |cons x l ih=>
  intro a ha
  have h:=Nat.mod_lt x.later (show 0<30 by omega)
  have h2:=Nat.mod_lt x.back (show 0<80 by omega)
  simp only [List.length_cons] at hl
  rcases List.mem_cons.1 (show a∈stepD now x::ptsM (now+x.later%30) l from ha) with rfl|ha
  ·exact ⟨by simp only [stepD];omega,by simp only [stepD];omega,by simp only [stepD];omega,by simp only [stepD];omega,(hd x (by simp)).v⟩
  ·exact ih (by omega) (by omega) (fun d hd'=>hd d (by simp [hd'])) a ha
def pathOf (n:Nat):Txt:=P4.getD (n%4) []
theorem pathOf_mem (n:Nat):pathOf n∈P4:=by
 have:∀j<4,P4.getD j []∈P4:=by decide
 exact this _ (Nat.mod_lt _ (by omega))
theorem pathOf_inj {i j:Nat} (h:pathOf i=pathOf j):i%4=j%4:=by
 have:∀i<4,∀j<4,P4.getD i []=P4.getD j []→i=j:=by decide
 exact this _ (Nat.mod_lt _ (by omega)) _ (Nat.mod_lt _ (by omega)) h
theorem pathOf_mod (n:Nat):pathOf (n%4)=pathOf n:=by simp [pathOf]
structure PlayM where
 came:Nat→List ArrM
 sure:Nat→Nat
 now:Nat
structure PlayInv (s:ShM) (p:PlayM) (q a k:Nat):Prop where
 inv:InvS s a k
 quota:s.disk.quota=q
 ok:∀j<4,∀x∈p.came j,OkA x∧OkV x
 len:∀j<4,(p.came j).length≤300*a
 has:∀j<4,hasK kM s.mets (pathOf j)↔p.came j≠ []
 lad:∀j<4,(metOf s (pathOf j)).lad=foldF newL (p.came j)
theorem metOf_mem {s:ShM} {p:Txt} (hs:Srt kM s.mets) {m:MetM} (hm:m∈s.mets) (hp:m.path=p):metOf s p=m:=by
 have hh:hasK kM s.mets p:=⟨m,hm,hp⟩
 obtain ⟨h1,h2⟩:=metOf_has hs hh
 exact key_inj hs (List.mem_of_getElem? h1) hm (h2.trans hp.symm)
theorem lad_with {s:ShM} {m:MetM} (hs:Srt kM s.mets) (p:Txt):(metOf (withM s m) p).lad=if p=m.path then m.lad else (metOf s p).lad:=by
 have hS:=srt_with (m:=m) hs
 split
 ·rename_i h
  rw [metOf_mem hS ((mem_with hs).2 (.inl rfl)) h.symm]
 ·rename_i h
  by_cases hh:hasK kM s.mets p
  ·obtain ⟨h1,h2⟩:=metOf_has hs hh
   rw [metOf_mem hS ((mem_with hs).2 (.inr ⟨List.mem_of_getElem? h1,by rw [h2];exact h⟩)) h2]
  ·rw [metOf_no hh,metOf_no (by rw [has_with hs];exact fun h'=>h'.elim h hh)]
   rfl
def addC (p:PlayM) (n:Nat) (bs:List ArrM) (now:Nat):PlayM:=⟨fun j=>if j=n then p.came n++bs else p.came j,p.sure,now⟩
theorem quota_with (s:ShM) (m:MetM):(withM s m).disk=s.disk:=by unfold withM;split<;>rfl
theorem quota_append (s:ShM) (m:MetM) (bs:List ArrM):(appendS s m bs).disk.quota=s.disk.quota:=by
 unfold appendS
 rw [quota_with]
 show (diskA s.disk m _).quota=_
 unfold diskA;split
 ·show (syncL s.disk m).quota=_;exact quota_syncL _ _
 ·rfl
theorem removes_quota (d:DiskM) (l:List Txt):(removesM d l).quota=d.quota:=by
 unfold removesM
 induction l generalizing d with
 |nil=>rfl
 |cons n l ih=>exact ih (removeM d n)
theorem inv_more {s:ShM} {a k a' k':Nat} (h:InvS s a k) (ha:a≤a') (hk:k≤k'):InvS s a' k':=
 ⟨h.size.more ha hk,h.srt,h.paths,h.next,h.ids,h.idn,h.lad,fun m hm=>Nat.le_trans (h.seq m hm) ha,h.cnt,h.last,h.dir⟩
theorem play_more {s:ShM} {p:PlayM} {q a k a' k':Nat} (h:PlayInv s p q a k) (ha:a≤a') (hk:k≤k'):PlayInv s p q a' k':=
 ⟨inv_more h.inv ha hk,h.quota,h.ok,fun j hj=>by have:=h.len j hj;omega,h.has,h.lad⟩
theorem play_same {s:ShM} {p:PlayM} {q a k:Nat} (h:PlayInv s p q a k) (sure:Nat→Nat) (now:Nat):PlayInv s ⟨p.came,sure,now⟩ q a k:=⟨h.inv,h.quota,h.ok,h.len,h.has,h.lad⟩
theorem play_append {s:ShM} {p:PlayM} {q a k:Nat} (h:PlayInv s p q a k) (ha:a<69) {n:Nat} (hn:n<4) {bs:List ArrM} (hb:∀x∈bs,OkA x∧OkV x) (h0:bs≠ []) (hl:bs.length≤300) (hf:(bytesA (metOf s (pathOf n)) bs).length≤s.disk.quota-usedM s.disk) (now:Nat):
  PlayInv (appendS s (metOf s (pathOf n)) bs) (addC p n bs now) q (a+1) (k+1):=by
 have hI:=inv_append h.inv (pathOf_mem n) ha hb hl hf
 have ho:=h.inv.met (pathOf_mem n)
 have hpath:(metA (metOf s (pathOf n)) bs).path=pathOf n:=by unfold metA;split<;>exact ho.path
 have hlad:(metA (metOf s (pathOf n)) bs).lad=foldF (metOf s (pathOf n)).lad bs:=by unfold metA;split<;>rfl
 have hinj:∀j<4,pathOf j=pathOf n→j=n:=fun j hj e=>by have:=pathOf_inj e;omega
 refine ⟨hI,by rw [quota_append];exact h.quota,fun j hj x hx=> ?_,fun j hj=> ?_,fun j hj=> ?_,fun j hj=> ?_⟩
 ·simp only [addC] at hx
  split at hx
  ·rcases List.mem_append.1 hx with h1|h1
   ·exact h.ok n hn x h1
   ·exact hb x h1
  ·exact h.ok j hj x hx
 ·have h1:=h.len j hj
  have h2:=h.len n hn
  simp only [addC]
  split
  ·rw [List.length_append];omega
  ·omega
 ·unfold appendS
  rw [has_with (s:={s with disk:=diskA s.disk _ _}) h.inv.srt,hpath]
  show pathOf j=pathOf n∨hasK kM s.mets (pathOf j)↔_
  simp only [addC]
  rw [h.has j hj]
  split
  ·rename_i e;subst e
   simp [h0]
  ·rename_i e
   constructor
   ·rintro (h1|h1)
    ·exact absurd (hinj j hj h1) e
    ·exact h1
   ·exact .inr
 ·unfold appendS
  rw [lad_with (s:={s with disk:=diskA s.disk _ _}) h.inv.srt,hpath,hlad]
  simp only [addC]
  by_cases e:j=n
  ·subst e
   rw [if_pos rfl,if_pos rfl,h.lad j hj]
   simp [foldF]
  ·rw [if_neg (fun h'=>e (hinj j hj h')),if_neg e]
   exact h.lad j hj
theorem play_put {s:ShM} {p:PlayM} {q a k a' k':Nat} (h:PlayInv s p q a k) {n:Nat} (hn:n<4) (hh:hasK kM s.mets (pathOf n)) (D:DiskM) {m:MetM} (hpath:m.path=pathOf n) (hlad:m.lad=(metOf s (pathOf n)).lad) (hI:InvS (withM {s with disk:=D} m) a' k') (hq:D.quota=q) (haa:a≤a'):PlayInv (withM {s with disk:=D} m) p q a' k':=by
 refine ⟨hI,by rw [quota_with];exact hq,h.ok,fun j hj=>by have:=h.len j hj;omega,fun j hj=> ?_,fun j hj=> ?_⟩
 ·rw [has_with (s:={s with disk:=D}) h.inv.srt,hpath]
  show pathOf j=pathOf n∨hasK kM s.mets (pathOf j)↔_
  rw [←h.has j hj]
  constructor
  ·rintro (h1|h1)
   ·rw [h1];exact hh
   ·exact h1
  ·exact .inr
 ·rw [lad_with (s:={s with disk:=D}) h.inv.srt,hpath,hlad]
  show (if pathOf j=pathOf n then (metOf s (pathOf n)).lad else (metOf s (pathOf j)).lad)=_
  split
  ·rename_i e;rw [←e];exact h.lad j hj
  ·exact h.lad j hj
theorem play_sync {s:ShM} {p:PlayM} {q a k:Nat} (h:PlayInv s p q a k) {n:Nat} (hn:n<4) (hh:hasK kM s.mets (pathOf n)):PlayInv (syncS s (metOf s (pathOf n))) p q a k:=
 play_put h hn hh _ (h.inv.met (pathOf_mem n)).path rfl (inv_sync h.inv (pathOf_mem n)) (by rw [quota_keepD,quota_syncL];exact h.quota) (Nat.le_refl _)
theorem play_comp {s:ShM} {p:PlayM} {q a k:Nat} (h:PlayInv s p q a k) (ha:a<69) {n:Nat} (hn:n<4) (hh:hasK kM s.mets (pathOf n)) {b:Txt} (hf:b.length≤s.disk.quota-usedM s.disk):PlayInv (compS s (metOf s (pathOf n)) b) p q (a+1) k:=
 play_put h hn hh _ (h.inv.met (pathOf_mem n)).path rfl (inv_comp h.inv (pathOf_mem n) ha hf) (by unfold compD;rw [quota_keepD,removes_quota];exact (quota_syncL _ _).trans h.quota) (by omega)
theorem play_new {q:Nat} (hq:q≤65535):PlayInv (newS q) ⟨fun _=> [],fun _=>0,1000⟩ q 0 0:=
 ⟨inv_new hq,rfl,by simp,by simp,fun j hj=>by simp [newS,hasK],fun j hj=>by rw [metOf_no (by simp [newS,hasK])];rfl⟩
end Go.Proofs.YtdbhocoeolhjhaaGreatDoor
end
section
set_option maxHeartbeats 8000000
namespace Go.Sf
open Go.Abs
end Go.Sf
namespace Go.Proofs.YtdbhocoeolhjhaaGreatDoor
open Go.Abs Go.RowKit Go.Sf Go.Num
variable {G:Globs}
def dotC (d:DotM):List AV:= [.int .u8 d.back,.int .u8 d.later,.int .i64 d.v]
def dotsC (l:List DotM):List (List AV):=l.map dotC
def actC (a:ActM):List AV:= [.int .u8 a.kind,.int .u8 a.met,.lst (dotsC a.dots)]
def actsC (l:List ActM):List (List AV):=l.map actC
theorem dotsC_len (l:List DotM):(dotsC l).length=l.length:=by simp [dotsC]
theorem dotsC_get {l:List DotM} {i:Nat} {d:DotM} (h:l[i]? =some d):(dotsC l)[i]? =some (dotC d):=by simp [dotsC,h]
theorem actsC_len (l:List ActM):(actsC l).length=l.length:=by simp [actsC]
theorem actsC_get {l:List ActM} {i:Nat} {d:ActM} (h:l[i]? =some d):(actsC l)[i]? =some (actC d):=by simp [actsC,h]
theorem lname_ok (n:Nat) (h:n<256):PCalls Tryz.prog n_isobarlaw21_name [.int .u8 n] (fun r=>r=.str (pathOf n)):=by
 refine pcalls_of_awp hmix c_isobarlaw21_name rfl ?_
 have hm:(n:Int).tmod 4=((n%4:Nat):Int):=tmod_nat n 4
 have hm':(n:Int)%4=((n%4:Nat):Int):=by omega
 obtain ⟨j,hj⟩:∃j,j=n%4:=⟨_,rfl⟩
 have hj4:j<4:=by omega
 have hp:pathOf n=P4.getD j []:=by rw [hj];rfl
 rw [←hj] at hm hm'
 rw [hp]
 simp [a_isobarlaw21_name,hm]
 match j,hj4 with
 |0,_=>simp [oneOf,P4]
 |1,_=>simp [oneOf,P4]
 |2,_=>simp [oneOf,P4]
 |3,_=>simp [oneOf,P4]
theorem lplain_ok:PCalls Tryz.prog n_isobarlaw21_plain [] (fun r=>r=.agg schC):=by
 refine pcalls_of_awp hmix c_isobarlaw21_plain rfl ?_
 simp [a_isobarlaw21_plain,splice,schC,rungsC]
def totalA (l:List ActM):Nat:=l.length+(l.map fun a=>a.dots.length).sum
def greatA (l:List ActM):Bool:=decide (300<totalA l)||decide (60<l.length)
def sumT (l:List ActM) (i:Nat):Nat:=l.length+((l.take i).map fun a=>a.dots.length).sum
theorem lgreat_ok (l:List ActM) (hl:l.length≤1000000000000000) (hd:∀a∈l,a.dots.length≤1000000000000000):PCalls Tryz.prog n_isobarlaw21_great [.lst (actsC l)] (fun r=>r=.bool (greatA l)):=by
 refine pcalls_of_awp hmix c_isobarlaw21_great rfl ?_
 have hle:=actsC_len l
 have hmono:∀i,((l.take i).map fun a=>a.dots.length).sum≤(l.map fun a=>a.dots.length).sum:=fun i=>by
  have e:l.map (fun a=>a.dots.length)=(l.take i).map (fun a=>a.dots.length)++(l.drop i).map fun a=>a.dots.length:=by rw [←List.map_append,List.take_append_drop]
  rw [e,List.sum_append];omega
 simp [a_isobarlaw21_great,hle]
 refine lp_startx (fun x f σ=>∃(i:Nat),x=l.length-i∧i≤l.length∧f 0=.lst (actsC l)∧f 3=.int .i64 (sumT l i:Nat)∧f 4=.int .i64 i∧sumT l i≤300+1000000000000000+1000000000000000∧σ= []) l.length ?_ ?_
 ·exact ⟨0,by simp,by simp,by simp,by simp [sumT],by simp,by simp [sumT];omega,by simp⟩
 rintro x f σ ⟨i,rfl,hi,f0,f3,f4,hbd,rfl⟩
 obtain ⟨n,hn⟩:∃n,n=sumT l i:=⟨_,rfl⟩
 rw [←hn] at f3 hbd
 simp [f0,f3,f4,hle]
 by_cases hlt:i<l.length
 ·by_cases hn3:n≤300
  ·have hn3':(n:Int)≤300:=by omega
   have hwi:IntKind.i64.wrap ((i:Int)+1)=((i+1:Nat):Int):=by rw [wrap_i64 (by omega) (by omega)];omega
   obtain ⟨a,ha⟩:∃a,l[i]? =some a:=⟨_,List.getElem?_eq_getElem hlt⟩
   have hc:=actsC_get ha
   obtain ⟨hx1,hx2⟩:=List.getElem?_eq_some_iff.1 hc
   have hdl:=dotsC_len a.dots
   have hal:=hd a (List.mem_of_getElem? ha)
   have hwn:IntKind.i64.wrap ((n:Int)+a.dots.length)=((n+a.dots.length:Nat):Int):=by rw [wrap_i64 (by omega) (by omega)];omega
   have hsn:l.take (i+1)=l.take i++ [a]:=by rw [List.take_add_one,ha];rfl
   have hsum:sumT l (i+1)=n+a.dots.length:=by
    unfold sumT at hn⊢
    rw [hsn,List.map_append,List.sum_append]
    have:(([a]:List ActM).map fun a=>a.dots.length).sum=a.dots.length:=by simp
    omega
   simp [hlt,hn3,hn3',f0,f3,f4,hc,hx2,actC,hdl,hwn,hwi, -Int.natCast_add]
   exact nx_intro (l.length-(i+1)) (by omega) ⟨i+1,rfl,by omega,by simp [f0],by rw [hsum];simp,by simp,by omega,rfl⟩
  ·have hn3':¬(n:Int)≤300:=by omega
   have hm:=hmono i
   have ht:300<totalA l:=by unfold totalA;unfold sumT at hn;omega
   have h3:300<n:=by omega
   have h3':(300:Int)<n:=by omega
   simp [hlt,hn3,hn3',f0,f3,f4,h3,h3',greatA,ht]
 ·have hil:i=l.length:=by omega
  subst hil
  unfold sumT at hn
  rw [List.take_length] at hn
  have ht:totalA l=n:=hn.symm
  by_cases h3:300<n
  ·have h3':(300:Int)<n:=by omega
   simp [f0,f3,f4,h3,h3',greatA,ht]
  ·have h3':¬(300:Int)<n:=by omega
   simp [f0,f3,f4,h3,h3',greatA,ht,hle]
   omega
end Go.Proofs.YtdbhocoeolhjhaaGreatDoor
end
section
set_option maxHeartbeats 8000000
namespace Go.Abs
theorem ap_acc1G {K:AV→Store→Prop} {t:Tg K} {e size bytes:Nat} {σ τ:Store} {a:Entry} {v:AV} {l:List (List AV)} (h:AccT e size (σ.length+1) τ v l) (x:List AV) (hs:0<size) (hx:x.length=size) (hb:(l.length+1)*bytes≤140737488355328) (h63:l.length+1≤9223372036854775807)
  (hK:∀v' τ',AccT e size (σ.length+1) τ' v' (l++ [x])→(∀en∈τ',en∈τ∨en=.row e size (l++ [x]) true)→K v' (σ++a::τ')):ap K t (σ++a::τ) e size bytes v (.lst [x]):=by
 rw [←app1]
 exact ap_accG (accT1 h) x hs hx hb h63 fun v' τ' h1 h2 _ h4=>by rw [app1];exact hK v' τ' (by simpa using h1) h4
end Go.Abs
namespace Go.Proofs.YtdbhocoeolhjhaaGreatDoor
open Go.Abs Go.RowKit Go.Sf Go.Num
variable {G:Globs}
def plC (C0 C1 C2 C3:AV) (s0 s1 s2 s3:Int) (now:Nat):List AV:= [C0,C1,C2,C3,.int .i64 s0,.int .i64 s1,.int .i64 s2,.int .i64 s3,.int .i64 now]
def CameOK (σ:Store) (C:AV) (l:List ArrM):Prop:=(C=.nils∧l= [])∨∃id,C=.row id l.length∧σ[id]? =some (.row 91 4 (arrsC l) true)
def LowC (σ:Store) (C:AV):Prop:=C=.nils∨∃id n,C=.row id n∧id<σ.length
theorem LowC.one {σ:Store} {C:AV} (h:LowC σ C):C.one=true∧C.cells= [C]:=by
 rcases h with rfl|⟨id,n,rfl,_⟩<;>exact ⟨rfl,rfl⟩
theorem LowC.under {σ:Store} {C:AV} (h:LowC σ C) {m:Nat} (hm:σ.length≤m):C.under m=true:=by
 rcases h with rfl|⟨id,n,rfl,h⟩
 ·simp [AV.under]
 ·simp [AV.under];omega
theorem CameOK.low {σ:Store} {C:AV} {l:List ArrM} (h:CameOK σ C l):LowC σ C:=by
 rcases h with ⟨rfl,_⟩|⟨id,rfl,h⟩
 ·exact .inl rfl
 ·exact .inr ⟨id,_,rfl,(List.getElem?_eq_some_iff.1 h).1⟩
theorem CameOK.coe {σ:Store} {C:AV} {l:List ArrM} (h:CameOK σ C l) (lend:Bool):Coe σ lend C (.lst (arrsC l)):=by
 rcases h with ⟨rfl,rfl⟩|⟨id,rfl,h⟩
 ·exact .nils
 ·exact .row id _ _ 4 _ true h (arrsC_len l) (.inl rfl)
theorem CameOK.view {σ:Store} {C:AV} {l:List ArrM} (h:CameOK σ C l):view σ C=some (arrsC l):=by
 rcases h with ⟨rfl,rfl⟩|⟨id,rfl,h⟩
 ·rfl
 ·simp [Abs.view,h,arrsC_len]
theorem points_ok {σ:Store} {k:Nat} {C0 C1 C2 C3:AV} {s0 s1 s2 s3:Int} {now:Nat} (l0:LowC σ C0) (l1:LowC σ C1) (l2:LowC σ C2) (l3:LowC σ C3)
  (hk:σ[k]? =some (.var 42 (plC C0 C1 C2 C3 s0 s1 s2 s3 now))) (a:ActM) (ha:OkAct a) (hl:a.dots.length≤300) (hn1:1000≤now) (hn2:now≤600000):
  ACalls Tryz.prog n_isobarlaw21_play_points [.ptr k 0,.agg (actC a)] σ (fun r σ'=>∃tl,σ'=σ.set k (.var 42 (plC C0 C1 C2 C3 s0 s1 s2 s3 (nowM now a.dots)))++ .var 47 (actC a)::tl∧AccT 91 4 (σ.length+1) tl r (arrsC (ptsM now a.dots))∧∀en∈tl,∃l,en=.row 91 4 (arrsC l) true):=by
 refine acalls_of_awp_e hmix c_isobarlaw21_play_points rfl ?_
 have hdl:=dotsC_len a.dots
 have o0:=l0.one
 have o1:=l1.one
 have o2:=l2.one
 have o3:=l3.one
 obtain ⟨A,hA⟩:∃A:Entry,A=.var 47 (actC a):=⟨_,rfl⟩
 obtain ⟨V,hV⟩:∃V:Nat→Entry,V=fun n=> .var 42 (plC C0 C1 C2 C3 s0 s1 s2 s3 n):=⟨_,rfl⟩
 have hVn:∀n,V n=.var 42 (plC C0 C1 C2 C3 s0 s1 s2 s3 n):=fun n=>by rw [hV]
 have hself:σ.set k (V now)=σ:=by
  obtain ⟨hlt,hx⟩:=List.getElem?_eq_some_iff.1 hk
  rw [hVn,←hx,List.set_getElem_self]
 simp [a_isobarlaw21_play_points,actC]
 refine lp_startx (fun x f σ'=>∃(i:Nat) (tl:Store),x=a.dots.length-i∧i≤a.dots.length∧f 0=.ptr k 0∧f 3=.ptr σ.length 0∧f 6=.int .i64 i∧AccT 91 4 (σ.length+1) tl (f 5) (arrsC (ptsM now (a.dots.take i)))∧(∀en∈tl,∃l,en=.row 91 4 (arrsC l) true)∧σ'=σ.set k (V (nowM now (a.dots.take i)))++A::tl) a.dots.length ?_ ?_
 ·exact ⟨0,[],by simp,by simp,by simp,by simp,by simp,by simp [ptsM,arrsC];exact accT_nil,by simp,by simp [nowM,hself,hA,actC]⟩
 rintro x f σ' ⟨i,tl,rfl,hi,f0,f3,f6,hAcc,hen,rfl⟩
 have hgA:∀(x:Entry) (t:Store),(σ.set k x++A::t)[σ.length]? =some A:=fun x t=>by
  have:σ.length=(σ.set k x).length:=by simp
  rw [this,pre_get0]
 have hgk:∀(x:Entry) (t:Store),(σ.set k x++t)[k]? =some x:=fun x t=>get_lt (get_set hk x) t
 have hst:∀(x y:Entry) (t:Store),(σ.set k x++t).set k y=σ.set k y++t:=fun x y t=>by
  rw [set_lt (get_set hk x),List.set_set]
 have hA':A=.var 47 [.int .u8 a.kind,.int .u8 a.met,.lst (dotsC a.dots)]:=hA
 simp [f3,f6,hgA]
 simp [hA',hdl]
 rw [←hA']
 refine cb_dec (fun hlt=> ?_) (fun hge=> ?_)
 ·have hlt':i<a.dots.length:=by omega
  have hwi:IntKind.i64.wrap ((i:Int)+1)=((i+1:Nat):Int):=by rw [wrap_i64 (by omega) (by omega)];omega
  obtain ⟨d,hd⟩:∃d,a.dots[i]? =some d:=⟨_,List.getElem?_eq_getElem hlt'⟩
  have hc:=dotsC_get hd
  obtain ⟨hx1,hx2⟩:=List.getElem?_eq_some_iff.1 hc
  have hsn:a.dots.take (i+1)=a.dots.take i++ [d]:=by rw [List.take_add_one,hd];rfl
  have hod:=ha.d d (List.mem_of_getElem? hd)
  have hnle:=nowM_le now (a.dots.take i)
  have hmin:(a.dots.take i).length≤300:=by simp;omega
  obtain ⟨n,hn⟩:∃n,n=nowM now (a.dots.take i):=⟨_,rfl⟩
  have hn':nowM now (a.dots.take (i+1))=n+d.later%30:=by rw [hsn,nowM_snoc,←hn]
  have hpt:ptsM now (a.dots.take (i+1))=ptsM now (a.dots.take i)++ [stepD n d]:=by rw [hsn,ptsM_snoc,←hn]
  rw [←hn] at hnle⊢
  have hm1:=Nat.mod_lt d.later (show 0<30 by omega)
  have hm2:=Nat.mod_lt d.back (show 0<80 by omega)
  have wl:IntKind.i64.wrap (d.later:Int)=d.later:=wrap_i64 (by omega) (by have:=hod.l;omega)
  have wb:IntKind.i64.wrap (d.back:Int)=d.back:=wrap_i64 (by omega) (by have:=hod.b;omega)
  have tl1:(d.later:Int).tmod 30=((d.later%30:Nat):Int):=tmod_nat d.later 30
  have tb1:(d.back:Int).tmod 80=((d.back%80:Nat):Int):=tmod_nat d.back 80
  have wn:IntKind.i64.wrap ((n:Int)+((d.later%30:Nat):Int))=((n+d.later%30:Nat):Int):=by rw [wrap_i64 (by omega) (by omega)];omega
  have wt:IntKind.i64.wrap (((n+d.later%30:Nat):Int)-((d.back%80:Nat):Int))=((n+d.later%30-d.back%80:Nat):Int):=by rw [wrap_i64 (by omega) (by omega)];omega
  simp [f0,f3,f6,hgA,hgk,hst,hVn,plC,hA',hc,hx2,dotC,wl,wb,tl1,tb1,wn,wt,splice, -Int.natCast_add, -Int.natCast_emod]
  have hal:(arrsC (ptsM now (a.dots.take i))).length≤300:=by rw [arrsC_len,ptsM_len];exact hmin
  refine ap_acc1G (bytes:=32) (by simpa using hAcc) [.int .i64 (n+d.later%30-d.back%80:Nat),.int .i64 d.v,.int .i64 (n+d.later%30:Nat),.int .i64 0] (by decide) rfl (by omega) (by omega) fun v' τ' hA1 hA2=> ?_
  have harr:arrsC (ptsM now (a.dots.take (i+1)))=arrsC (ptsM now (a.dots.take i))++ [[.int .i64 (n+d.later%30-d.back%80:Nat),.int .i64 d.v,.int .i64 (n+d.later%30:Nat),.int .i64 0]]:=by
   rw [hpt];simp [arrsC,arrC,stepD]
  simp [f6,hwi]
  refine nx_intro (a.dots.length-(i+1)) (by omega) ⟨i+1,τ',rfl,by omega,by simp [f0],by simp [f3],by simp, ?_,fun en he=> ?_, ?_⟩
  ·rw [harr]
   simpa using hA1
  ·rcases hA2 en he with h1|h1
   ·exact hen en h1
   ·exact ⟨_,by rw [h1,←harr]⟩
  ·rw [hn',hVn]
   simp [plC,hA']
 ·have hil:i=a.dots.length:=by omega
  subst hil
  rw [List.take_length] at hAcc⊢
  simp
  have hlt:=(List.getElem?_eq_some_iff.1 hk).1
  have hru:(f 5).under (σ.set k (V (nowM now a.dots))++A::tl).length=true:=by
   refine hAcc.under ?_
   simp;omega
  refine er_keep (σ.set k (V (nowM now a.dots))++A::tl) (f 5) (by simp [tupOf]) [] (by simp) (by simp) hru (fun j e' he'=> ?_) ⟨tl,by rw [hVn],hAcc,hen⟩
  have hul:σ.length≤(σ.set k (V (nowM now a.dots))++A::tl).length:=by simp
  have hul2:σ.length≤σ.length+(tl.length+1):=by omega
  by_cases hj:j<σ.length
  ·rw [List.getElem?_append_left (by simpa using hj)] at he'
   by_cases hkj:k=j
   ·subst hkj
    rw [get_set hk] at he'
    cases he'
    right
    rw [hVn]
    simp [Entry.under,plC,AV.under]
    exact ⟨l0.under hul2,l1.under hul2,l2.under hul2,l3.under hul2⟩
   ·rw [List.getElem?_set_ne hkj] at he'
    exact .inl he'
  ·rw [List.getElem?_append_right (by simpa using Nat.le_of_not_lt hj)] at he'
   right
   rcases List.mem_cons.1 (List.mem_of_getElem? he') with rfl|h1
   ·rw [hA'];simp [Entry.under,AV.under]
   ·obtain ⟨l,rfl⟩:=hen e' h1
    exact row_under (arrsC_els l).2.1
end Go.Proofs.YtdbhocoeolhjhaaGreatDoor
end
section
set_option maxHeartbeats 8000000
namespace Go.Proofs.YtdbhocoeolhjhaaGreatDoor
open Go.Abs Go.RowKit Go.Sf Go.Num
variable {G:Globs}
theorem accepted_ok (c0 c1 c2 c3:List ArrM) (s0 s1 s2 s3:Int) (now:Nat) (j:Nat) (c:List ArrM) (hj:(j=0∧c=c0)∨(j=1∧c=c1)∨(j=2∧c=c2)∨(j=3∧c=c3)) (hc:∀a∈c,OkA a∧OkV a) (hcl:c.length≤1000000) (bs:List ArrM) (hb:∀a∈bs,OkA a) (hl:bs.length≤1000):
  PCalls Tryz.prog n_isobarlaw21_play_accepted [.rptr [.lst (arrsC c0),.lst (arrsC c1),.lst (arrsC c2),.lst (arrsC c3),.int .i64 s0,.int .i64 s1,.int .i64 s2,.int .i64 s3,.int .i64 now],.int .i64 j,.lst (arrsC bs)] (fun r=>r=.bool (decide (∀a∈bs,OkV a))):=by
 refine pcalls_of_awp hmix c_isobarlaw21_play_accepted rfl ?_
 have hle:=arrsC_len bs
 have kF:=fold_ok (G:=G) c hc hcl
 have hR:=right_fold right_new_l hc
 obtain ⟨L,hL⟩:∃L,L=foldF newL c:=⟨_,rfl⟩
 rw [←hL] at kF hR
 simp only [ladC] at kF
 have hsplit:∀{P:Prop},(∀(x:List ArrM),x=c→P)→P:=fun h=>h c rfl
 rcases hj with ⟨rfl,rfl⟩|⟨rfl,rfl⟩|⟨rfl,rfl⟩|⟨rfl,rfl⟩
 all_goals
  simp [a_isobarlaw21_play_accepted]
  refine qc_any lplain_ok (by simp) ?_
  simp [cellsAt]
  refine qc_any kF (by simp [AV.pure,schC]) ?_
  simp [splice]
  refine lp_startx (fun x f σ=>∃(i:Nat) (tl:Store),x=bs.length-i∧i≤bs.length∧(∀a∈bs.take i,OkV a)∧f 2=.lst (arrsC bs)∧f 7=.ptr 0 0∧f 8=.int .i64 i∧σ=.var 55 (ladC (foldF L (bs.take i)))::tl) bs.length ?_ ?_
  ·exact ⟨0,[],by simp,by simp,by simp,by simp,by simp,by simp,by simp [ladC,foldF]⟩
  rintro x f σ ⟨i,tl,rfl,hi,hv,f2,f7,f8,rfl⟩
  simp [f2,f8,hle]
  refine cb_dec (fun hlt=> ?_) (fun hge=> ?_)
  ·have hlt':i<bs.length:=by omega
   have hwi:IntKind.i64.wrap ((i:Int)+1)=((i+1:Nat):Int):=by rw [wrap_i64 (by omega) (by omega)];omega
   obtain ⟨a,ha⟩:∃a,bs[i]? =some a:=⟨_,List.getElem?_eq_getElem hlt'⟩
   have hcc:=arrsC_get ha
   obtain ⟨hx1,hx2⟩:=List.getElem?_eq_some_iff.1 hcc
   have ok:=hb a (List.mem_of_getElem? ha)
   have hsn:bs.take (i+1)=bs.take i++ [a]:=by rw [List.take_add_one,ha];rfl
   have hr:RightL (foldF L (bs.take i)):=right_fold hR fun x hx=>⟨hb x (List.mem_of_mem_take hx),hv x hx⟩
   simp [f2,f7,f8,hcc,hx2,arrC,ladC,splice,cellsAt]
   by_cases okv:OkV a
   ·have kA:=r14Accept_ok (G:=G) _ hr a.time a.now a.value ok.t ok.n ok.le ok.ge ok.v okv
    have hst:acceptM (foldF L (bs.take i)) a.time a.now a.value=foldF L (bs.take (i+1)):=by rw [hsn,foldF_snoc];rfl
    rw [hst] at kA
    simp only [ladC] at kA
    refine qc_any kA (by simp [AV.pure]) ?_
    simp [f7,f8,tail_get,tail_set,splice,ladC,hwi]
    refine nx_intro (bs.length-(i+1)) (by omega) ⟨i+1,_,rfl,by omega,fun x hx=> ?_,by simp [f2],by simp [f7],by simp,by simp [ladC];rfl⟩
    rw [hsn] at hx
    rcases List.mem_append.1 hx with h1|h1
    ·exact hv x h1
    ·simp at h1;subst h1;exact okv
   ·have hav:a.value= -9223372036854775808:=Classical.not_not.1 okv
    have kA:=r14bad_ok (G:=G) (foldF L (bs.take i)) hr a.time a.now (by have:=ok.t;omega) (by have:=ok.n;omega)
    have hn:¬∀a∈bs,OkV a:=fun hh=>okv (hh a (List.mem_of_getElem? ha))
    simp only [ladC] at kA
    rw [hav]
    refine qc_any kA (by simp [AV.pure]) ?_
    rw [decide_eq_false hn]
    simp
  ·have hil:i=bs.length:=by omega
   subst hil
   rw [List.take_length] at hv
   rw [decide_eq_true hv]
   simp
end Go.Proofs.YtdbhocoeolhjhaaGreatDoor
end
