/- Shelf: the document's ladder takes points. Shelf: the document's Fold. Shelf: rings and ladders of the program. Shelf: the program's ladder takes poin -/
import Derived.Test.YtdbhocoeolhjhaaGreatDoorAbs2
import Derived.Shelf.Spec.SlicesGrow
import Derived.Test.YtdbhocoeolhjhaaGreatDoorLay
import Derived.Test.YtdbhocoeolhjhaaGreatDoorBn1
import Derived.Test.YtdbhocoeolhjhaaGreatDoorBn2
import Derived.Test.YtdbhocoeolhjhaaGreatDoorBn3
set_option linter.unusedSimpArgs false
set_option linter.unusedVariables false
set_option linter.constructorNameAsVariable false
section
set_option maxHeartbeats 4000000
namespace Go.Sf
open Go.Abs Go.Num
def intsC (l:List Int):List (List AV):=l.map fun (v:Int)=> [AV.int .i64 v]
theorem intsC_len (l:List Int):(intsC l).length=l.length:=by simp [intsC]
theorem intsC_get {l:List Int} {i:Nat} {v:Int} (h:l[i]? =some v):(intsC l)[i]? =some [AV.int .i64 v]:=by simp [intsC,h]
theorem intsC_snoc (l:List Int) (v:Int):intsC (l++ [v])=intsC l++ [[AV.int .i64 v]]:=by simp [intsC]
def numC (n:N):List AV:= [.bool n.1,.int .i64 n.2]
def sumF (l:List Int):N:=l.foldl (fun a v=>addN a (tell v)) (tell 0)
def lessF (a:N) (l:List Int):N:=l.foldl (fun a v=>lessN a (tell v)) a
def moreF (a:N) (l:List Int):N:=l.foldl (fun a v=>moreN a (tell v)) a
theorem sumF_snoc (l:List Int) (v:Int):sumF (l++ [v])=addN (sumF l) (tell v):=by simp [sumF]
theorem lessF_snoc (a:N) (l:List Int) (v:Int):lessF a (l++ [v])=lessN (lessF a l) (tell v):=by simp [lessF]
theorem moreF_snoc (a:N) (l:List Int) (v:Int):moreF a (l++ [v])=moreN (moreF a l) (tell v):=by simp [moreF]
end Go.Sf
namespace Go.Proofs.YtdbhocoeolhjhaaGreatDoor
open Go.Abs Go.RowKit Go.Sf Go.Num
variable {G:Globs}
theorem ok_sumF (l:List Int):okN (sumF l):=by
 suffices h:∀(l:List Int) (a:N),okN a→okN (l.foldl (fun a v=>addN a (tell v)) a) from h l _ (ok_tell 0)
 intro l
 induction l with
 |nil=>intro a h;exact h
 |cons v l ih=>intro a h;exact ih _ (ok_add _ _)
theorem ok_lessF (l:List Int):∀a,okN a→okN (lessF a l):=by
 induction l with
 |nil=>intro a h;exact h
 |cons v l ih=>intro a h;exact ih _ (ok_less h (ok_tell v))
theorem ok_moreF (l:List Int):∀a,okN a→okN (moreF a l):=by
 induction l with
 |nil=>intro a h;exact h
 |cons v l ih=>intro a h;exact ih _ (ok_more h (ok_tell v))
theorem r14Blend_ok (l:List Int) (h0:l≠ []) (hl:l.length≤1000) (hv:∀v∈l,i64 v):PCalls Tryz.prog n_isobarref14_Blend [.int .i64 1,.lst (intsC l)] (fun r=>r=numA (avgN l)):=by
 refine pcalls_of_awp hmix c_isobarref14_Blend rfl ?_
 have hle:=intsC_len l
 have hpos:0<l.length:=List.length_pos_iff.2 h0
 have k0:¬((l.length:Int)=0):=by omega
 have k0':l.length≠0:=by omega
 obtain ⟨v0,hv0⟩:∃v0,l[0]? =some v0:=⟨_,List.getElem?_eq_getElem hpos⟩
 have hc0:=intsC_get hv0
 obtain ⟨hx1,hx2⟩:=List.getElem?_eq_some_iff.1 hc0
 have hi0:=hv v0 (List.mem_of_getElem? hv0)
 have ki:∀i v,l[i]? =some v→(intsC l)[i]? =some [AV.int .i64 v]:=fun i v h=>intsC_get h
 have q0:PCalls Tryz.prog n_isobarref02_Of [.int .i64 0] (fun r=>r=.agg (numC (tell 0))):=rOf_ok 0 (by omega) (by omega)
 have q1:PCalls Tryz.prog n_isobarref02_Of [.int .i64 v0] (fun r=>r=.agg (numC (tell v0))):=rOf_ok v0 hi0.1 hi0.2
 simp [a_isobarref14_Blend,hle,k0,k0',h0]
 refine ⟨?_, ?_, ?_, ?_, ?_, ?_⟩
 ·refine qc_same q0 (by simp) (by simp [numC]) ?_
  simp [hpos,hc0,hx2]
  refine qc_same q1 (by simp) (by simp [numC]) ?_
  simp [hpos,hc0,hx2]
  refine qc_same q1 (by simp) (by simp [numC]) ?_
  simp [numC,splice]
  refine lp_startx (fun x f σ=>∃(i:Nat) (tl:Store),x=l.length-i∧i≤l.length∧f 0=.int .i64 1∧f 1=.lst (intsC l)∧f 4=.ptr 0 0∧f 5=.ptr 1 0∧f 6=.ptr 2 0∧f 7=.ptr 3 0∧f 8=.int .i64 i∧
   σ=.var 182 [.bool false,.int .i64 0]:: .var 182 (numC (sumF (l.take i))):: .var 182 (numC (lessF (tell v0) (l.take i))):: .var 182 (numC (moreF (tell v0) (l.take i)))::tl) l.length ?_ ?_
  ·exact ⟨0,[],by simp,by simp,by simp,by simp,by simp,by simp,by simp,by simp,by simp,by simp [numC,sumF,lessF,moreF]⟩
  rintro x f σ ⟨i,tl,hx,hi,g0,g1,g4,g5,g6,g7,g8,rfl⟩
  simp [g1,g8,hle]
  refine cb_dec (fun hlt=> ?_) (fun hge=> ?_)
  ·have hlt':i<l.length:=by omega
   have hwi:IntKind.i64.wrap ((i:Int)+1)=((i+1:Nat):Int):=by rw [wrap_i64 (by omega) (by omega)];omega
   obtain ⟨v,hvi⟩:∃v,l[i]? =some v:=⟨_,List.getElem?_eq_getElem hlt'⟩
   have hc:=intsC_get hvi
   obtain ⟨hy1,hy2⟩:=List.getElem?_eq_some_iff.1 hc
   have hvv:=hv v (List.mem_of_getElem? hvi)
   have hsn:l.take (i+1)=l.take i++ [v]:=by rw [List.take_add_one,hvi];rfl
   have qv:PCalls Tryz.prog n_isobarref02_Of [.int .i64 v] (fun r=>r=.agg (numC (tell v))):=rOf_ok v hvv.1 hvv.2
   have qa:PCalls Tryz.prog n_isobarref02_Add [.agg (numC (sumF (l.take i))),.agg (numC (tell v))] (fun r=>r=.agg (numC (sumF (l.take (i+1))))):=by rw [hsn,sumF_snoc];exact rnAdd_ok _ _ (ok_sumF _) (ok_tell v)
   have ql:PCalls Tryz.prog n_isobarref02_Less [.agg (numC (lessF (tell v0) (l.take i))),.agg (numC (tell v))] (fun r=>r=.agg (numC (lessF (tell v0) (l.take (i+1))))):=by rw [hsn,lessF_snoc];exact rnLess_ok _ _ (ok_lessF _ _ (ok_tell v0)) (ok_tell v)
   have qm:PCalls Tryz.prog n_isobarref02_More [.agg (numC (moreF (tell v0) (l.take i))),.agg (numC (tell v))] (fun r=>r=.agg (numC (moreF (tell v0) (l.take (i+1))))):=by rw [hsn,moreF_snoc];exact rnMore_ok _ _ (ok_moreF _ _ (ok_tell v0)) (ok_tell v)
   simp [g1,g8,hc,hy2]
   refine ac_same qv (by simp) ?_
   rintro r rfl
   simp only [numC] at qa ql qm
   simp [g5,g6,g7,numC,tail_get,tail_set,splice]
   refine ac_same qa (by simp) ?_
   rintro r rfl
   simp [g5,g6,g7,numC,tail_get,tail_set,splice]
   refine ac_same ql (by simp) ?_
   rintro r rfl
   simp [g5,g6,g7,numC,tail_get,tail_set,splice]
   refine ac_same qm (by simp) ?_
   rintro r rfl
   simp [g5,g6,g7,g8,numC,tail_get,tail_set,splice,hwi]
   exact nx_intro (l.length-(i+1)) (by omega) ⟨i+1,tl++ [.var 182 (numC (tell v))],rfl,by omega,by simp [g0],by simp [g1],by simp [g4],by simp [g5],by simp [g6],by simp [g7],by simp,by simp [numC]⟩
  ·have hil:i=l.length:=by omega
   subst hil
   rw [List.take_length]
   have qd:PCalls Tryz.prog n_isobarref02_Div [.agg (numC (sumF l)),.agg (numC (tell (l.length*1000000)))] (fun r=>r=.agg (numC (avgN l))):=rnDiv_ok _ _ (ok_sumF _) (ok_tell _)
   have qi:PCalls Tryz.prog n_isobarref02_Int [.int .i64 l.length] (fun r=>r=.agg (numC (tell (l.length*1000000)))):=rInt_ok _ (by omega) (by omega)
   simp [g0,g1,g5,hle,numC]
   refine qc_same qi (by simp) (by simp [numC]) ?_
   simp only [numC] at qd
   simp [numC]
   refine qc_same qd (by simp) (by simp) ?_
   simp [g4,splice,numA]
 ·refine qc_same q0 (by simp) (by simp [numC]) ?_
  simp [hpos,hc0,hx2]
  refine qc_same q1 (by simp) (by simp [numC]) ?_
  simp [hpos,hc0,hx2]
  refine qc_same q1 (by simp) (by simp [numC]) ?_
  simp [numC,splice]
  refine lp_startx (fun x f σ=>∃(i:Nat) (tl:Store),x=l.length-i∧i≤l.length∧f 0=.int .i64 1∧f 1=.lst (intsC l)∧f 4=.ptr 0 0∧f 5=.ptr 2 0∧f 6=.ptr 1 0∧f 7=.ptr 3 0∧f 8=.int .i64 i∧
   σ=.var 182 [.bool false,.int .i64 0]:: .var 182 (numC (lessF (tell v0) (l.take i))):: .var 182 (numC (sumF (l.take i))):: .var 182 (numC (moreF (tell v0) (l.take i)))::tl) l.length ?_ ?_
  ·exact ⟨0,[],by simp,by simp,by simp,by simp,by simp,by simp,by simp,by simp,by simp,by simp [numC,sumF,lessF,moreF]⟩
  rintro x f σ ⟨i,tl,hx,hi,g0,g1,g4,g5,g6,g7,g8,rfl⟩
  simp [g1,g8,hle]
  refine cb_dec (fun hlt=> ?_) (fun hge=> ?_)
  ·have hlt':i<l.length:=by omega
   have hwi:IntKind.i64.wrap ((i:Int)+1)=((i+1:Nat):Int):=by rw [wrap_i64 (by omega) (by omega)];omega
   obtain ⟨v,hvi⟩:∃v,l[i]? =some v:=⟨_,List.getElem?_eq_getElem hlt'⟩
   have hc:=intsC_get hvi
   obtain ⟨hy1,hy2⟩:=List.getElem?_eq_some_iff.1 hc
   have hvv:=hv v (List.mem_of_getElem? hvi)
   have hsn:l.take (i+1)=l.take i++ [v]:=by rw [List.take_add_one,hvi];rfl
   have qv:PCalls Tryz.prog n_isobarref02_Of [.int .i64 v] (fun r=>r=.agg (numC (tell v))):=rOf_ok v hvv.1 hvv.2
   have qa:PCalls Tryz.prog n_isobarref02_Add [.agg (numC (sumF (l.take i))),.agg (numC (tell v))] (fun r=>r=.agg (numC (sumF (l.take (i+1))))):=by rw [hsn,sumF_snoc];exact rnAdd_ok _ _ (ok_sumF _) (ok_tell v)
   have ql:PCalls Tryz.prog n_isobarref02_Less [.agg (numC (lessF (tell v0) (l.take i))),.agg (numC (tell v))] (fun r=>r=.agg (numC (lessF (tell v0) (l.take (i+1))))):=by rw [hsn,lessF_snoc];exact rnLess_ok _ _ (ok_lessF _ _ (ok_tell v0)) (ok_tell v)
   have qm:PCalls Tryz.prog n_isobarref02_More [.agg (numC (moreF (tell v0) (l.take i))),.agg (numC (tell v))] (fun r=>r=.agg (numC (moreF (tell v0) (l.take (i+1))))):=by rw [hsn,moreF_snoc];exact rnMore_ok _ _ (ok_moreF _ _ (ok_tell v0)) (ok_tell v)
   simp [g1,g8,hc,hy2]
   refine ac_same qv (by simp) ?_
   rintro r rfl
   simp only [numC] at qa ql qm
   simp [g5,g6,g7,numC,tail_get,tail_set,splice]
   refine ac_same qa (by simp) ?_
   rintro r rfl
   simp [g5,g6,g7,numC,tail_get,tail_set,splice]
   refine ac_same ql (by simp) ?_
   rintro r rfl
   simp [g5,g6,g7,numC,tail_get,tail_set,splice]
   refine ac_same qm (by simp) ?_
   rintro r rfl
   simp [g5,g6,g7,g8,numC,tail_get,tail_set,splice,hwi]
   exact nx_intro (l.length-(i+1)) (by omega) ⟨i+1,tl++ [.var 182 (numC (tell v))],rfl,by omega,by simp [g0],by simp [g1],by simp [g4],by simp [g5],by simp [g6],by simp [g7],by simp,by simp [numC]⟩
  ·have hil:i=l.length:=by omega
   subst hil
   rw [List.take_length]
   have qd:PCalls Tryz.prog n_isobarref02_Div [.agg (numC (sumF l)),.agg (numC (tell (l.length*1000000)))] (fun r=>r=.agg (numC (avgN l))):=rnDiv_ok _ _ (ok_sumF _) (ok_tell _)
   have qi:PCalls Tryz.prog n_isobarref02_Int [.int .i64 l.length] (fun r=>r=.agg (numC (tell (l.length*1000000)))):=rInt_ok _ (by omega) (by omega)
   simp [g0,g1,g5,hle,numC]
   refine qc_same qi (by simp) (by simp [numC]) ?_
   simp only [numC] at qd
   simp [numC]
   refine qc_same qd (by simp) (by simp) ?_
   simp [g4,splice,numA]
 ·refine qc_same q0 (by simp) (by simp [numC]) ?_
  simp [hpos,hc0,hx2]
  refine qc_same q1 (by simp) (by simp [numC]) ?_
  simp [hpos,hc0,hx2]
  refine qc_same q1 (by simp) (by simp [numC]) ?_
  simp [numC,splice]
  refine lp_startx (fun x f σ=>∃(i:Nat) (tl:Store),x=l.length-i∧i≤l.length∧f 0=.int .i64 1∧f 1=.lst (intsC l)∧f 4=.ptr 0 0∧f 5=.ptr 3 0∧f 6=.ptr 1 0∧f 7=.ptr 2 0∧f 8=.int .i64 i∧
   σ=.var 182 [.bool false,.int .i64 0]:: .var 182 (numC (lessF (tell v0) (l.take i))):: .var 182 (numC (moreF (tell v0) (l.take i))):: .var 182 (numC (sumF (l.take i)))::tl) l.length ?_ ?_
  ·exact ⟨0,[],by simp,by simp,by simp,by simp,by simp,by simp,by simp,by simp,by simp,by simp [numC,sumF,lessF,moreF]⟩
  rintro x f σ ⟨i,tl,hx,hi,g0,g1,g4,g5,g6,g7,g8,rfl⟩
  simp [g1,g8,hle]
  refine cb_dec (fun hlt=> ?_) (fun hge=> ?_)
  ·have hlt':i<l.length:=by omega
   have hwi:IntKind.i64.wrap ((i:Int)+1)=((i+1:Nat):Int):=by rw [wrap_i64 (by omega) (by omega)];omega
   obtain ⟨v,hvi⟩:∃v,l[i]? =some v:=⟨_,List.getElem?_eq_getElem hlt'⟩
   have hc:=intsC_get hvi
   obtain ⟨hy1,hy2⟩:=List.getElem?_eq_some_iff.1 hc
   have hvv:=hv v (List.mem_of_getElem? hvi)
   have hsn:l.take (i+1)=l.take i++ [v]:=by rw [List.take_add_one,hvi];rfl
   have qv:PCalls Tryz.prog n_isobarref02_Of [.int .i64 v] (fun r=>r=.agg (numC (tell v))):=rOf_ok v hvv.1 hvv.2
   have qa:PCalls Tryz.prog n_isobarref02_Add [.agg (numC (sumF (l.take i))),.agg (numC (tell v))] (fun r=>r=.agg (numC (sumF (l.take (i+1))))):=by rw [hsn,sumF_snoc];exact rnAdd_ok _ _ (ok_sumF _) (ok_tell v)
   have ql:PCalls Tryz.prog n_isobarref02_Less [.agg (numC (lessF (tell v0) (l.take i))),.agg (numC (tell v))] (fun r=>r=.agg (numC (lessF (tell v0) (l.take (i+1))))):=by rw [hsn,lessF_snoc];exact rnLess_ok _ _ (ok_lessF _ _ (ok_tell v0)) (ok_tell v)
   have qm:PCalls Tryz.prog n_isobarref02_More [.agg (numC (moreF (tell v0) (l.take i))),.agg (numC (tell v))] (fun r=>r=.agg (numC (moreF (tell v0) (l.take (i+1))))):=by rw [hsn,moreF_snoc];exact rnMore_ok _ _ (ok_moreF _ _ (ok_tell v0)) (ok_tell v)
   simp [g1,g8,hc,hy2]
   refine ac_same qv (by simp) ?_
   rintro r rfl
   simp only [numC] at qa ql qm
   simp [g5,g6,g7,numC,tail_get,tail_set,splice]
   refine ac_same qa (by simp) ?_
   rintro r rfl
   simp [g5,g6,g7,numC,tail_get,tail_set,splice]
   refine ac_same ql (by simp) ?_
   rintro r rfl
   simp [g5,g6,g7,numC,tail_get,tail_set,splice]
   refine ac_same qm (by simp) ?_
   rintro r rfl
   simp [g5,g6,g7,g8,numC,tail_get,tail_set,splice,hwi]
   exact nx_intro (l.length-(i+1)) (by omega) ⟨i+1,tl++ [.var 182 (numC (tell v))],rfl,by omega,by simp [g0],by simp [g1],by simp [g4],by simp [g5],by simp [g6],by simp [g7],by simp,by simp [numC]⟩
  ·have hil:i=l.length:=by omega
   subst hil
   rw [List.take_length]
   have qd:PCalls Tryz.prog n_isobarref02_Div [.agg (numC (sumF l)),.agg (numC (tell (l.length*1000000)))] (fun r=>r=.agg (numC (avgN l))):=rnDiv_ok _ _ (ok_sumF _) (ok_tell _)
   have qi:PCalls Tryz.prog n_isobarref02_Int [.int .i64 l.length] (fun r=>r=.agg (numC (tell (l.length*1000000)))):=rInt_ok _ (by omega) (by omega)
   simp [g0,g1,g5,hle,numC]
   refine qc_same qi (by simp) (by simp [numC]) ?_
   simp only [numC] at qd
   simp [numC]
   refine qc_same qd (by simp) (by simp) ?_
   simp [g4,splice,numA]
 ·refine qc_same q0 (by simp) (by simp [numC]) ?_
  simp [hpos,hc0,hx2]
  refine qc_same q1 (by simp) (by simp [numC]) ?_
  simp [hpos,hc0,hx2]
  refine qc_same q1 (by simp) (by simp [numC]) ?_
  simp [numC,splice]
  refine lp_startx (fun x f σ=>∃(i:Nat) (tl:Store),x=l.length-i∧i≤l.length∧f 0=.int .i64 1∧f 1=.lst (intsC l)∧f 4=.ptr 0 0∧f 5=.ptr 1 0∧f 6=.ptr 3 0∧f 7=.ptr 2 0∧f 8=.int .i64 i∧
   σ=.var 182 [.bool false,.int .i64 0]:: .var 182 (numC (sumF (l.take i))):: .var 182 (numC (moreF (tell v0) (l.take i))):: .var 182 (numC (lessF (tell v0) (l.take i)))::tl) l.length ?_ ?_
  ·exact ⟨0,[],by simp,by simp,by simp,by simp,by simp,by simp,by simp,by simp,by simp,by simp [numC,sumF,lessF,moreF]⟩
  rintro x f σ ⟨i,tl,hx,hi,g0,g1,g4,g5,g6,g7,g8,rfl⟩
  simp [g1,g8,hle]
  refine cb_dec (fun hlt=> ?_) (fun hge=> ?_)
  ·have hlt':i<l.length:=by omega
   have hwi:IntKind.i64.wrap ((i:Int)+1)=((i+1:Nat):Int):=by rw [wrap_i64 (by omega) (by omega)];omega
   obtain ⟨v,hvi⟩:∃v,l[i]? =some v:=⟨_,List.getElem?_eq_getElem hlt'⟩
   have hc:=intsC_get hvi
   obtain ⟨hy1,hy2⟩:=List.getElem?_eq_some_iff.1 hc
   have hvv:=hv v (List.mem_of_getElem? hvi)
   have hsn:l.take (i+1)=l.take i++ [v]:=by rw [List.take_add_one,hvi];rfl
   have qv:PCalls Tryz.prog n_isobarref02_Of [.int .i64 v] (fun r=>r=.agg (numC (tell v))):=rOf_ok v hvv.1 hvv.2
   have qa:PCalls Tryz.prog n_isobarref02_Add [.agg (numC (sumF (l.take i))),.agg (numC (tell v))] (fun r=>r=.agg (numC (sumF (l.take (i+1))))):=by rw [hsn,sumF_snoc];exact rnAdd_ok _ _ (ok_sumF _) (ok_tell v)
   have ql:PCalls Tryz.prog n_isobarref02_Less [.agg (numC (lessF (tell v0) (l.take i))),.agg (numC (tell v))] (fun r=>r=.agg (numC (lessF (tell v0) (l.take (i+1))))):=by rw [hsn,lessF_snoc];exact rnLess_ok _ _ (ok_lessF _ _ (ok_tell v0)) (ok_tell v)
   have qm:PCalls Tryz.prog n_isobarref02_More [.agg (numC (moreF (tell v0) (l.take i))),.agg (numC (tell v))] (fun r=>r=.agg (numC (moreF (tell v0) (l.take (i+1))))):=by rw [hsn,moreF_snoc];exact rnMore_ok _ _ (ok_moreF _ _ (ok_tell v0)) (ok_tell v)
   simp [g1,g8,hc,hy2]
   refine ac_same qv (by simp) ?_
   rintro r rfl
   simp only [numC] at qa ql qm
   simp [g5,g6,g7,numC,tail_get,tail_set,splice]
   refine ac_same qa (by simp) ?_
   rintro r rfl
   simp [g5,g6,g7,numC,tail_get,tail_set,splice]
   refine ac_same ql (by simp) ?_
   rintro r rfl
   simp [g5,g6,g7,numC,tail_get,tail_set,splice]
   refine ac_same qm (by simp) ?_
   rintro r rfl
   simp [g5,g6,g7,g8,numC,tail_get,tail_set,splice,hwi]
   exact nx_intro (l.length-(i+1)) (by omega) ⟨i+1,tl++ [.var 182 (numC (tell v))],rfl,by omega,by simp [g0],by simp [g1],by simp [g4],by simp [g5],by simp [g6],by simp [g7],by simp,by simp [numC]⟩
  ·have hil:i=l.length:=by omega
   subst hil
   rw [List.take_length]
   have qd:PCalls Tryz.prog n_isobarref02_Div [.agg (numC (sumF l)),.agg (numC (tell (l.length*1000000)))] (fun r=>r=.agg (numC (avgN l))):=rnDiv_ok _ _ (ok_sumF _) (ok_tell _)
   have qi:PCalls Tryz.prog n_isobarref02_Int [.int .i64 l.length] (fun r=>r=.agg (numC (tell (l.length*1000000)))):=rInt_ok _ (by omega) (by omega)
   simp [g0,g1,g5,hle,numC]
   refine qc_same qi (by simp) (by simp [numC]) ?_
   simp only [numC] at qd
   simp [numC]
   refine qc_same qd (by simp) (by simp) ?_
   simp [g4,splice,numA]
 ·refine qc_same q0 (by simp) (by simp [numC]) ?_
  simp [hpos,hc0,hx2]
  refine qc_same q1 (by simp) (by simp [numC]) ?_
  simp [hpos,hc0,hx2]
  refine qc_same q1 (by simp) (by simp [numC]) ?_
  simp [numC,splice]
  refine lp_startx (fun x f σ=>∃(i:Nat) (tl:Store),x=l.length-i∧i≤l.length∧f 0=.int .i64 1∧f 1=.lst (intsC l)∧f 4=.ptr 0 0∧f 5=.ptr 2 0∧f 6=.ptr 3 0∧f 7=.ptr 1 0∧f 8=.int .i64 i∧
   σ=.var 182 [.bool false,.int .i64 0]:: .var 182 (numC (moreF (tell v0) (l.take i))):: .var 182 (numC (sumF (l.take i))):: .var 182 (numC (lessF (tell v0) (l.take i)))::tl) l.length ?_ ?_
  ·exact ⟨0,[],by simp,by simp,by simp,by simp,by simp,by simp,by simp,by simp,by simp,by simp [numC,sumF,lessF,moreF]⟩
  rintro x f σ ⟨i,tl,hx,hi,g0,g1,g4,g5,g6,g7,g8,rfl⟩
  simp [g1,g8,hle]
  refine cb_dec (fun hlt=> ?_) (fun hge=> ?_)
  ·have hlt':i<l.length:=by omega
   have hwi:IntKind.i64.wrap ((i:Int)+1)=((i+1:Nat):Int):=by rw [wrap_i64 (by omega) (by omega)];omega
   obtain ⟨v,hvi⟩:∃v,l[i]? =some v:=⟨_,List.getElem?_eq_getElem hlt'⟩
   have hc:=intsC_get hvi
   obtain ⟨hy1,hy2⟩:=List.getElem?_eq_some_iff.1 hc
   have hvv:=hv v (List.mem_of_getElem? hvi)
   have hsn:l.take (i+1)=l.take i++ [v]:=by rw [List.take_add_one,hvi];rfl
   have qv:PCalls Tryz.prog n_isobarref02_Of [.int .i64 v] (fun r=>r=.agg (numC (tell v))):=rOf_ok v hvv.1 hvv.2
   have qa:PCalls Tryz.prog n_isobarref02_Add [.agg (numC (sumF (l.take i))),.agg (numC (tell v))] (fun r=>r=.agg (numC (sumF (l.take (i+1))))):=by rw [hsn,sumF_snoc];exact rnAdd_ok _ _ (ok_sumF _) (ok_tell v)
   have ql:PCalls Tryz.prog n_isobarref02_Less [.agg (numC (lessF (tell v0) (l.take i))),.agg (numC (tell v))] (fun r=>r=.agg (numC (lessF (tell v0) (l.take (i+1))))):=by rw [hsn,lessF_snoc];exact rnLess_ok _ _ (ok_lessF _ _ (ok_tell v0)) (ok_tell v)
   have qm:PCalls Tryz.prog n_isobarref02_More [.agg (numC (moreF (tell v0) (l.take i))),.agg (numC (tell v))] (fun r=>r=.agg (numC (moreF (tell v0) (l.take (i+1))))):=by rw [hsn,moreF_snoc];exact rnMore_ok _ _ (ok_moreF _ _ (ok_tell v0)) (ok_tell v)
   simp [g1,g8,hc,hy2]
   refine ac_same qv (by simp) ?_
   rintro r rfl
   simp only [numC] at qa ql qm
   simp [g5,g6,g7,numC,tail_get,tail_set,splice]
   refine ac_same qa (by simp) ?_
   rintro r rfl
   simp [g5,g6,g7,numC,tail_get,tail_set,splice]
   refine ac_same ql (by simp) ?_
   rintro r rfl
   simp [g5,g6,g7,numC,tail_get,tail_set,splice]
   refine ac_same qm (by simp) ?_
   rintro r rfl
   simp [g5,g6,g7,g8,numC,tail_get,tail_set,splice,hwi]
   exact nx_intro (l.length-(i+1)) (by omega) ⟨i+1,tl++ [.var 182 (numC (tell v))],rfl,by omega,by simp [g0],by simp [g1],by simp [g4],by simp [g5],by simp [g6],by simp [g7],by simp,by simp [numC]⟩
  ·have hil:i=l.length:=by omega
   subst hil
   rw [List.take_length]
   have qd:PCalls Tryz.prog n_isobarref02_Div [.agg (numC (sumF l)),.agg (numC (tell (l.length*1000000)))] (fun r=>r=.agg (numC (avgN l))):=rnDiv_ok _ _ (ok_sumF _) (ok_tell _)
   have qi:PCalls Tryz.prog n_isobarref02_Int [.int .i64 l.length] (fun r=>r=.agg (numC (tell (l.length*1000000)))):=rInt_ok _ (by omega) (by omega)
   simp [g0,g1,g5,hle,numC]
   refine qc_same qi (by simp) (by simp [numC]) ?_
   simp only [numC] at qd
   simp [numC]
   refine qc_same qd (by simp) (by simp) ?_
   simp [g4,splice,numA]
 ·refine qc_same q0 (by simp) (by simp [numC]) ?_
  simp [hpos,hc0,hx2]
  refine qc_same q1 (by simp) (by simp [numC]) ?_
  simp [hpos,hc0,hx2]
  refine qc_same q1 (by simp) (by simp [numC]) ?_
  simp [numC,splice]
  refine lp_startx (fun x f σ=>∃(i:Nat) (tl:Store),x=l.length-i∧i≤l.length∧f 0=.int .i64 1∧f 1=.lst (intsC l)∧f 4=.ptr 0 0∧f 5=.ptr 3 0∧f 6=.ptr 2 0∧f 7=.ptr 1 0∧f 8=.int .i64 i∧
   σ=.var 182 [.bool false,.int .i64 0]:: .var 182 (numC (moreF (tell v0) (l.take i))):: .var 182 (numC (lessF (tell v0) (l.take i))):: .var 182 (numC (sumF (l.take i)))::tl) l.length ?_ ?_
  ·exact ⟨0,[],by simp,by simp,by simp,by simp,by simp,by simp,by simp,by simp,by simp,by simp [numC,sumF,lessF,moreF]⟩
  rintro x f σ ⟨i,tl,hx,hi,g0,g1,g4,g5,g6,g7,g8,rfl⟩
  simp [g1,g8,hle]
  refine cb_dec (fun hlt=> ?_) (fun hge=> ?_)
  ·have hlt':i<l.length:=by omega
   have hwi:IntKind.i64.wrap ((i:Int)+1)=((i+1:Nat):Int):=by rw [wrap_i64 (by omega) (by omega)];omega
   obtain ⟨v,hvi⟩:∃v,l[i]? =some v:=⟨_,List.getElem?_eq_getElem hlt'⟩
   have hc:=intsC_get hvi
   obtain ⟨hy1,hy2⟩:=List.getElem?_eq_some_iff.1 hc
   have hvv:=hv v (List.mem_of_getElem? hvi)
   have hsn:l.take (i+1)=l.take i++ [v]:=by rw [List.take_add_one,hvi];rfl
   have qv:PCalls Tryz.prog n_isobarref02_Of [.int .i64 v] (fun r=>r=.agg (numC (tell v))):=rOf_ok v hvv.1 hvv.2
   have qa:PCalls Tryz.prog n_isobarref02_Add [.agg (numC (sumF (l.take i))),.agg (numC (tell v))] (fun r=>r=.agg (numC (sumF (l.take (i+1))))):=by rw [hsn,sumF_snoc];exact rnAdd_ok _ _ (ok_sumF _) (ok_tell v)
   have ql:PCalls Tryz.prog n_isobarref02_Less [.agg (numC (lessF (tell v0) (l.take i))),.agg (numC (tell v))] (fun r=>r=.agg (numC (lessF (tell v0) (l.take (i+1))))):=by rw [hsn,lessF_snoc];exact rnLess_ok _ _ (ok_lessF _ _ (ok_tell v0)) (ok_tell v)
   have qm:PCalls Tryz.prog n_isobarref02_More [.agg (numC (moreF (tell v0) (l.take i))),.agg (numC (tell v))] (fun r=>r=.agg (numC (moreF (tell v0) (l.take (i+1))))):=by rw [hsn,moreF_snoc];exact rnMore_ok _ _ (ok_moreF _ _ (ok_tell v0)) (ok_tell v)
   simp [g1,g8,hc,hy2]
   refine ac_same qv (by simp) ?_
   rintro r rfl
   simp only [numC] at qa ql qm
   simp [g5,g6,g7,numC,tail_get,tail_set,splice]
   refine ac_same qa (by simp) ?_
   rintro r rfl
   simp [g5,g6,g7,numC,tail_get,tail_set,splice]
   refine ac_same ql (by simp) ?_
   rintro r rfl
   simp [g5,g6,g7,numC,tail_get,tail_set,splice]
   refine ac_same qm (by simp) ?_
   rintro r rfl
   simp [g5,g6,g7,g8,numC,tail_get,tail_set,splice,hwi]
   exact nx_intro (l.length-(i+1)) (by omega) ⟨i+1,tl++ [.var 182 (numC (tell v))],rfl,by omega,by simp [g0],by simp [g1],by simp [g4],by simp [g5],by simp [g6],by simp [g7],by simp,by simp [numC]⟩
  ·have hil:i=l.length:=by omega
   subst hil
   rw [List.take_length]
   have qd:PCalls Tryz.prog n_isobarref02_Div [.agg (numC (sumF l)),.agg (numC (tell (l.length*1000000)))] (fun r=>r=.agg (numC (avgN l))):=rnDiv_ok _ _ (ok_sumF _) (ok_tell _)
   have qi:PCalls Tryz.prog n_isobarref02_Int [.int .i64 l.length] (fun r=>r=.agg (numC (tell (l.length*1000000)))):=rInt_ok _ (by omega) (by omega)
   simp [g0,g1,g5,hle,numC]
   refine qc_same qi (by simp) (by simp [numC]) ?_
   simp only [numC] at qd
   simp [numC]
   refine qc_same qd (by simp) (by simp) ?_
   simp [g4,splice,numA]
theorem r14bad_ok (l:LadM) (h:RightL l) (t now:Nat) (ht:t≤1000000000) (hn:now≤1000000000):PCalls Tryz.prog n_isobarref14_Accept [.agg (ladC l),.agg [.int .i64 t,.int .i64 (-9223372036854775808)],.int .i64 now] (fun r=>r=.tup [.agg (ladC l),.int .i64 1]):=by
 refine pcalls_of_awp hmix c_isobarref14_Accept rfl ?_
 simp [a_isobarref14_Accept,ladC]
 refine ac_same (r14Right_ok l h) (by simp [AV.pure,ladC]) ?_
 rintro r rfl
 simp
 refine ac_same (rTimed_ok t (by omega)) (by simp) ?_
 rintro r rfl
 simp
 refine ac_same (rTimed_ok now (by omega)) (by simp) ?_
 rintro r rfl
 simp
theorem r14Accept_ok (l:LadM) (h:RightL l) (t now:Nat) (v:Int) (ht:t≤1000000000) (hn:now≤1000000000) (h1:t≤now) (h2:now≤t+79) (hv:i64 v) (hv2:v≠ -9223372036854775808):PCalls Tryz.prog n_isobarref14_Accept [.agg (ladC l),.agg [.int .i64 t,.int .i64 v],.int .i64 now] (fun r=>r=.tup [.agg (ladC (acceptM l t now v)),.int .i64 0]):=by
 refine pcalls_of_awp hmix c_isobarref14_Accept rfl ?_
 have k1:¬((now:Int)<t):=by omega
 have k1':¬(now<t):=by omega
 have kr1:=r14reaches_ok (G:=G) 10 l.fine (z1_of h) t now (by omega) (by omega)
 have kr2:=r14reaches_ok (G:=G) 60 l.wide (z2_of h) t now (by omega) (by omega)
 have hr2:now<t/60*60+60*l.wide.length:=by
  rw [h.n2]
  have:=Nat.div_add_mod t 60
  have:=Nat.mod_lt t (show 0<60 by omega)
  omega
 rw [decide_eq_true hr2] at kr2
 rw [h.n1] at kr1
 simp [a_isobarref14_Accept,ladC]
 refine ac_same (r14Right_ok l h) (by simp [AV.pure,ladC]) ?_
 rintro r rfl
 simp
 refine ac_same (rTimed_ok t (by omega)) (by simp) ?_
 rintro r rfl
 simp
 refine ac_same (rTimed_ok now (by omega)) (by simp) ?_
 rintro r rfl
 simp [hv2,k1,k1']
 obtain ⟨E0,hE0⟩:∃E0:Entry,E0=.var 55 (ladC l):=⟨_,rfl⟩
 obtain ⟨E1,hE1⟩:∃E1:Entry,E1=.var 117 [.int .i64 t,.int .i64 v]:=⟨_,rfl⟩
 obtain ⟨E2,hE2⟩:∃E2:Entry,E2=.var 55 [.int .i64 0,.int .i64 0,.nils]:=⟨_,rfl⟩
 have wm1:IntKind.i64.wrap (-1)= -1:=by decide
 simp [ringsC,wk1]
 refine lp_startx (fun x f σ=>f 2=.int .i64 now∧f 3=.ptr 0 0∧f 4=.ptr 1 0∧f 6=.ptr 2 0∧σ= [E0,E1,E2]∧((x=2∧f 9=.int .i64 1∧f 8=.int .i64 (-1))∨(x=1∧f 9=.int .i64 0∧f 8=.int .i64 1)∨(x=0∧f 9=.int .i64 (-1)∧f 8=.int .i64 (if now<t/10*10+60 then 0 else 1)))) 2 ?_ ?_
 ·exact ⟨by simp,by simp,by simp,by simp,by simp [hE0,hE1,hE2,ladC,ringsC],.inl ⟨rfl,by simp [wk1],by simp⟩⟩
 rintro x f σ ⟨f2,f3,f4,f6,rfl,⟨rfl,f9,f8⟩|⟨rfl,f9,f8⟩|⟨rfl,f9,f8⟩⟩
 ·simp [f2,f3,f4,f8,f9,hE0,hE1,ladC,ringsC,ringC]
  simp only [ringC] at kr2
  refine qc_same kr2 (by simp [AV.pure]) (by simp) ?_
  simp [f9,wk0]
  exact nx_intro 1 (by omega) ⟨by simp [f2],by simp [f3],by simp [f4],by simp [f6],by simp [hE0,hE1,ladC,ringsC,ringC],.inr (.inl ⟨rfl,by simp,by simp⟩)⟩
 ·simp [f2,f3,f4,f8,f9,hE0,hE1,ladC,ringsC,ringC]
  simp only [ringC] at kr1
  refine qc_same kr1 (by simp [AV.pure]) (by simp) ?_
  by_cases hr1:now<t/10*10+60
  ·simp [hr1,f9,wm1]
   exact nx_intro 0 (by omega) ⟨by simp [f2],by simp [f3],by simp [f4],by simp [f6],by simp [hE0,hE1,ladC,ringsC,ringC],.inr (.inr ⟨rfl,by simp,by simp [hr1]⟩)⟩
  ·simp [hr1,f9,wm1]
   exact nx_intro 0 (by omega) ⟨by simp [f2],by simp [f3],by simp [f4],by simp [f6],by simp [hE0,hE1,ladC,ringsC,ringC],.inr (.inr ⟨rfl,by simp,by simp [hr1,f8]⟩)⟩
 simp [f9]
 by_cases hr1:now<t/10*10+60
 ·simp [f8,f3,hr1,hE0,ladC]
  refine ac_eff (r14Copy_ok _ l h) ?_
  rintro r σ ⟨rfl,rfl⟩
  have kS:=r13Set_ok (G:=G) 10 l.fine (z1_of h) h.r1 t (by omega) v hv2
  simp only [ringC] at kS
  simp [f8,f4,hr1,hE1,ringsC,ringC,splice]
  refine qc_any kS (by simp [AV.pure]) ?_
  simp [splice,wk1,f8,hr1]
  obtain ⟨F,hF⟩:∃F,F=setR 10 l.fine t v:=⟨_,rfl⟩
  have hFr:RightR 10 F:=by rw [hF];exact right_setR h.r1 (by omega) hv hv2
  have hFz:Sized 10 F:=by rw [hF];exact ⟨by omega,by omega,by rw [len_setR,h.n1];omega,by rw [len_setR,h.n1];omega⟩
  rw [←hF]
  obtain ⟨M,hM⟩:∃M:Entry,M=.var 55 [.int .i64 1,.int .i64 500000,.row 6 2]:=⟨_,rfl⟩
  have hacc:acceptM l t now v=if (coarse F t).1 then ⟨F,l.wide⟩ else ⟨F,setR 60 l.wide t (coarse F t).2⟩:=by
   unfold acceptM;rw [if_pos hr1,←hF]
  clear f8 f9
  refine lp_startx (fun x f σ=>f 2=.int .i64 now∧f 3=.ptr 0 0∧f 4=.ptr 1 0∧f 6=.ptr 2 0∧f 10=.ptr 7 0∧((x=1∧f 11=.int .i64 1∧σ= [.var 55 (ladC l),E1,E2,.var 55 (ladC l),M,M,.row 112 2 [ringC 10 F,ringC 60 l.wide] false,M])∨
   (x=0∧f 11=.int .i64 2∧∃(W:List Slot) (tl:Store),acceptM l t now v=⟨F,W⟩∧σ=.var 55 (ladC l)::E1::E2:: .var 55 (ladC l)::M::M:: .row 112 2 [ringC 10 F,ringC 60 W] false::M::tl))) 1 ?_ ?_
  ·exact ⟨by simp [f2],by simp [f3],by simp [f4],by simp [f6],by simp,.inl ⟨rfl,by simp,by simp [hM,hE1,ladC,ringsC,ringC]⟩⟩
  clear f2 f3 f4 f6
  rintro x f σ ⟨f2,f3,f4,f6,f10,⟨rfl,f11,rfl⟩|⟨rfl,f11,W,tl,hacc2,rfl⟩⟩
  ·simp [f2,f3,f4,f6,f10,f11,hM,hE1,ringC]
   simp only [ringC] at kr2
   refine qc_same kr2 (by simp [AV.pure]) (by simp) ?_
   simp [f10,f11,wk0]
   obtain ⟨T0,hT0⟩:∃T0,T0=t/60*60:=⟨_,rfl⟩
   have hT0t:T0≤t:=by rw [hT0];exact Nat.div_mul_le_self t 60
   have hwT:IntKind.i64.wrap ((t:Int)-(t:Int).tmod 60)=(T0:Int):=by
    have e:(t:Int).tmod 60=((t%60:Nat):Int):=tmod_nat t 60
    rw [e,sub_mod,hT0];exact wrap_i64 (by omega) (by omega)
   refine ⟨?_, ?_, ?_, ?_⟩
   all_goals
    simp [f4,f10,f11,hwT,splice]
    refine lp_startx (fun x f σ=>∃(k:Nat) (tl:Store),x=6-k∧k≤6∧f 3=.ptr 0 0∧f 4=.ptr 1 0∧f 2=.int .i64 now∧f 6=.ptr 2 0∧f 10=.ptr 7 0∧f 11=.int .i64 1∧f 12=.ptr 8 0∧f 13=.int .i64 60∧f 14=.int .i64 T0∧f 16=.int .i64 (T0+k*10:Nat)∧AccT 2 1 9 tl (f 15) (intsC (parts F T0 k))∧
     σ=.var 55 (ladC l)::E1::E2:: .var 55 (ladC l)::M::M:: .row 112 2 [ringC 10 F,ringC 60 l.wide] false::M:: .var 112 (ringC 10 F)::tl) 6 ?_ ?_
    ·exact ⟨0,[],by simp,by simp,by simp [f3],by simp [f4],by simp [f2],by simp [f6],by simp [f10],by simp [f11],by simp,by simp,by simp,by simp,by simp [parts,intsC];exact accT_nil,by simp [hM,hE1,ringC]⟩
    clear f2 f3 f4 f6 f10 f11
    rintro x f σ ⟨k,tl,hx,hk,f3,f4,f2,f6,f10,f11,f12,f13,f14,f16,hA,rfl⟩
    have hwS:IntKind.i64.wrap ((T0:Int)+60)=((T0+60:Nat):Int):=by rw [wrap_i64 (by omega) (by omega)];omega
    have hpl:=parts_len F T0 k
    have hil:=intsC_len (parts F T0 k)
    have hb8:((intsC (parts F T0 k)).length+1)*8≤140737488355328:=by rw [hil];omega
    have hb9:(intsC (parts F T0 k)).length+1≤9223372036854775807:=by rw [hil];omega
    simp [f13,f14,f16,hwS, -Int.natCast_add]
    refine cb_dec (fun hlt=> ?_) (fun hge=> ?_)
    ·have hk6:k<6:=by omega
     have hwk:IntKind.i64.wrap (((T0+k*10:Nat):Int)+10)=((T0+(k+1)*10:Nat):Int):=by rw [wrap_i64 (by omega) (by omega)];omega
     have kG:=r13Get_ok (G:=G) 10 F hFz hFr (T0+k*10) (by omega)
     simp only [ringC] at kG
     simp [f12,f16,ringC, -Int.natCast_add]
     refine ac_same kG (by simp [AV.pure]) ?_
     rintro r rfl
     cases hg:getR 10 F (T0+k*10) with
     |none=>
      have hpk:parts F T0 (k+1)=parts F T0 k:=by simp [parts,hg]
      simp [numO,numA,tail_get,tail_set,splice,f12,f16,ringC,hwk, -Int.natCast_add]
      refine nx_intro (6-(k+1)) (by omega) ⟨k+1,tl++ [.var 182 [.bool true,.int .i64 0]],rfl,by omega,by simp [f3],by simp [f4],by simp [f2],by simp [f6],by simp [f10],by simp [f11],by simp [f12],by simp [f13],by simp [f14],by simp, ?_,by simp [ringC]⟩
      simp only [Frame.put_some]
      simp
      rw [hpk];exact hA.more _
     |some w=>
      have hpk:parts F T0 (k+1)=parts F T0 k++ [w]:=by simp [parts,hg]
      simp [numO,numA,tail_get,tail_set,splice,f12,f16,ringC,hwk, -Int.natCast_add]
      refine ap_accT (σ:= [.var 55 (ladC l),E1,E2,.var 55 (ladC l),M,M,.row 112 2 [ringC 10 F,ringC 60 l.wide] false,M,.var 112 (ringC 10 F)]) (τ:=tl++ [.var 182 [.bool false,.int .i64 w]]) (hA.more _) [.int .i64 w] (by decide) rfl hb8 hb9 fun v' τ' hA' hle' _=> ?_
      simp [f12,f16,ringC,hwk, -Int.natCast_add]
      refine nx_intro (6-(k+1)) (by omega) ⟨k+1,τ',rfl,by omega,by simp [f3],by simp [f4],by simp [f2],by simp [f6],by simp [f10],by simp [f11],by simp [f12],by simp [f13],by simp [f14],by simp, ?_,by simp [ringC]⟩
      simp
      rw [hpk,intsC_snoc];exact hA'
    ·have hk6:k=6:=by omega
     subst hk6
     have hview:view ([.var 55 (ladC l),E1,E2,.var 55 (ladC l),M,M,.row 112 2 [ringC 10 F,ringC 60 l.wide] false,M,.var 112 (ringC 10 F)]++tl) (f 15)=some (intsC (parts F T0 6)):=hA.view (σ:= [.var 55 (ladC l),E1,E2,.var 55 (ladC l),M,M,.row 112 2 [ringC 10 F,ringC 60 l.wide] false,M,.var 112 (ringC 10 F)])
     simp only [List.cons_append,List.nil_append] at hview
     have hvals:=parts_ok hFr T0 6
     obtain ⟨L,hL⟩:∃L,L=intsC (parts F T0 6):=⟨_,rfl⟩
     obtain ⟨n,hn⟩:∃n,n=(parts F T0 6).length:=⟨_,rfl⟩
     have hLn:L.length=n:=by rw [hL,hil,hn]
     rw [←hL] at hview
     rw [←hn] at hpl
     have hview2:=hview
     simp [ladC,ringC] at hview2
     have hw9:IntKind.i64.wrap ((n:Int)*1000000)=(n:Int)*1000000:=wrap_i64 (by omega) (by omega)
     have hw10:IntKind.i64.wrap 3000000=3000000:=by decide
     by_cases hp3:n<3
     ·have hco:(coarse F t).1=true:=by unfold coarse;rw [←hT0,←hn,if_pos hp3]
      rw [hco,if_pos rfl] at hacc
      by_cases hn0:n=0
      ·have hL0:L= []:=List.eq_nil_of_length_eq_zero (by omega)
       simp [f2,f3,f10,f11,f12,f13,f14,hview,hL0,wk2]
       exact nx_intro 0 (by omega) ⟨by simp [f2],by simp [f3],by simp [f4],by simp [f6],by simp [f10],.inr ⟨rfl,by simp,l.wide,_,hacc,rfl⟩⟩
      ·have hL0:¬L= []:=fun e=>hn0 (by rw [←hLn,e];rfl)
       have hlt3:(n:Int)*1000000<3000000:=by omega
       have hlt3':n*1000000<3000000:=by omega
       simp [f2,f3,f10,f11,f12,f13,f14,hview2,hL0,hn0,hLn,ladC,ringC,wk6,hw9,hw10,hlt3,hlt3',wk2]
       exact nx_intro 0 (by omega) ⟨by simp [f2],by simp [f3],by simp [f4],by simp [f6],by simp [f10],.inr ⟨rfl,by simp,l.wide,_,hacc,by simp [ladC,ringC];rfl⟩⟩
     ·have hco:coarse F t=avgN (parts F T0 6):=by unfold coarse;rw [←hT0,←hn,if_neg hp3]
      rw [hco] at hacc
      have hn0:n≠0:=by omega
      have hL0:¬L= []:=fun e=>hn0 (by rw [←hLn,e];rfl)
      have hlt3:¬((n:Int)*1000000<3000000):=by omega
      have hlt3':¬(n*1000000<3000000):=by omega
      simp [f2,f3,f10,f11,f12,f13,f14,hview2,hL0,hn0,hLn,ladC,ringC,wk6,hw9,hw10,hlt3,hlt3',wk2]
      have hcoe:Coe ([.var 55 (ladC l),E1,E2,.var 55 (ladC l),M,M,.row 112 2 [ringC 10 F,ringC 60 l.wide] false,M,.var 112 (ringC 10 F)]++tl) false (f 15) (.lst L):=by rw [hL];exact hA.coe (σ:= [.var 55 (ladC l),E1,E2,.var 55 (ladC l),M,M,.row 112 2 [ringC 10 F,ringC 60 l.wide] false,M,.var 112 (ringC 10 F)]) false
      simp [ladC,ringC] at hcoe
      have hpne:parts F T0 6≠ []:=fun e=>hn0 (by rw [hn,e];rfl)
      have kB:=r14Blend_ok (G:=G) (parts F T0 6) hpne (by omega) (fun v hv=>(hvals v hv).1)
      rw [←hL] at kB
      refine ac_pure kB (.cons (.pure _ (by simp)) (.cons hcoe .nil)) ?_
      rintro r rfl
      cases hb:(avgN (parts F T0 6)).1 with
      |true=>
       rw [hb,if_pos rfl] at hacc
       simp [numA,hb,f11,tail_get,tail_set,splice,wk2]
       exact nx_intro 0 (by omega) ⟨by simp [f2],by simp [f3],by simp [f4],by simp [f6],by simp [f10],.inr ⟨rfl,by simp,l.wide,_,hacc,by simp [ladC,ringC];rfl⟩⟩
      |false=>
       rw [hb,if_neg (by simp)] at hacc
       have hdv:=divN_ok _ _ hb
       have hT60:T0/60=t/60:=by rw [hT0];exact Nat.mul_div_cancel _ (by omega)
       have hse:setR 60 l.wide T0 (avgN (parts F T0 6)).2=setR 60 l.wide t (avgN (parts F T0 6)).2:=by unfold setR;rw [hT60]
       have kS2:=r13Set_ok (G:=G) 60 l.wide (z2_of h) h.r2 T0 (by omega) (avgN (parts F T0 6)).2 hdv.2
       rw [hse] at kS2
       simp only [ringC] at kS2
       simp [numA,hb,f10,f11,f14,hM,tail_get,tail_set,splice,wk2]
       refine qc_any kS2 (by simp [AV.pure]) ?_
       simp [splice,f10,f11,wk2]
       exact nx_intro 0 (by omega) ⟨by simp [f2],by simp [f3],by simp [f4],by simp [f6],by simp [f10],.inr ⟨rfl,by simp,_,_,hacc,by simp [ladC,ringC,hM];rfl⟩⟩
  ·simp [f6,f10,f11,hM,hE2,ringC,splice,slotsC_fz,hacc2,ladC,ringsC]
 ·simp [f8,f3,hr1,hE0,ladC]
  refine ac_eff (r14Copy_ok _ l h) ?_
  rintro r σ ⟨rfl,rfl⟩
  have kS:=r13Set_ok (G:=G) 60 l.wide (z2_of h) h.r2 t (by omega) v hv2
  simp only [ringC] at kS
  simp [f8,f4,hr1,hE1,ringsC,ringC,splice]
  refine qc_any kS (by simp [AV.pure]) ?_
  simp [splice,wk2,f8,hr1]
  refine lp_startx (fun x f σ=>f 6=.ptr 2 0∧f 10=.ptr 7 0∧f 11=.int .i64 2∧∃(A B C:Entry),σ= [A,B,E2,C,.var 55 [.int .i64 1,.int .i64 500000,.row 6 2],.var 55 [.int .i64 1,.int .i64 500000,.row 6 2],.row 112 2 [ringC 10 l.fine,ringC 60 (setR 60 l.wide t v)] false,.var 55 [.int .i64 1,.int .i64 500000,.row 6 2]]) 0 ?_ ?_
  ·exact ⟨by simp [f6],by simp,by simp,_,_,_,by simp [ringC];exact ⟨rfl,rfl,rfl⟩⟩
  rintro x g σ ⟨g6,g10,g11,A,B,C,rfl⟩
  have hacc:acceptM l t now v=⟨l.fine,setR 60 l.wide t v⟩:=by unfold acceptM;rw [if_neg hr1]
  simp [g6,g10,g11,hE2,ringC,splice,slotsC_fz,hacc,ladC,ringsC]
end Go.Proofs.YtdbhocoeolhjhaaGreatDoor
end
section
set_option maxHeartbeats 4000000
namespace Go.Sf
open Go.Abs Go.Num
structure ArrM where
 time:Nat
 value:Int
 now:Nat
structure OkA (a:ArrM):Prop where
 t:a.time≤1000000000
 n:a.now≤1000000000
 le:a.time≤a.now
 ge:a.now≤a.time+79
 v:i64 a.value
def OkV (a:ArrM):Prop:=a.value≠ -9223372036854775808
def arrC (a:ArrM):List AV:= [.int .i64 a.time,.int .i64 a.value,.int .i64 a.now,.int .i64 0]
def arrsC (l:List ArrM):List (List AV):=l.map arrC
theorem arrsC_len (l:List ArrM):(arrsC l).length=l.length:=by simp [arrsC]
theorem arrsC_get {l:List ArrM} {i:Nat} {a:ArrM} (h:l[i]? =some a):(arrsC l)[i]? =some (arrC a):=by simp [arrsC,h]
theorem arrsC_els (l:List ArrM):Els 4 (arrsC l):=by
 refine ⟨fun c hc=> ?_,fun c hc=> ?_,fun c hc=> ?_⟩<;>obtain ⟨n,_,rfl⟩:=List.mem_map.1 hc<;>simp [arrC,AV.pure,AV.one]
def stepM (l:LadM) (a:ArrM):LadM:=acceptM l a.time a.now a.value
def foldF (l:LadM) (as':List ArrM):LadM:=as'.foldl stepM l
theorem right_step {l:LadM} {a:ArrM} (h:RightL l) (ha:OkA a) (hv:OkV a):RightL (stepM l a):=right_accept h (by have:=ha.t;omega) ha.v hv
theorem right_fold {l:LadM}:∀{bs:List ArrM},RightL l→(∀a∈bs,OkA a∧OkV a)→RightL (foldF l bs):=fun {bs}=>by
 induction bs generalizing l with
 |nil=>intro h _;exact h
 |cons a bs ih=>intro h hb;exact ih (right_step h (hb a (by simp)).1 (hb a (by simp)).2) fun x hx=>hb x (by simp [hx])
theorem foldF_snoc (l:LadM) (bs:List ArrM) (a:ArrM):foldF l (bs++ [a])=stepM (foldF l bs) a:=by simp [foldF]
end Go.Sf
namespace Go.Proofs.YtdbhocoeolhjhaaGreatDoor
open Go.Abs Go.RowKit Go.Sf Go.Num
variable {G:Globs}
theorem fold_ok (bs:List ArrM) (hb:∀a∈bs,OkA a∧OkV a) (hl:bs.length≤1000000):PCalls Tryz.prog n_isobarref21_Fold [.agg schC,.lst (arrsC bs)] (fun r=>r=.agg (ladC (foldF newL bs))):=by
 refine pcalls_of_awp hmix c_isobarref21_Fold rfl ?_
 have hle:=arrsC_len bs
 simp [a_isobarref21_Fold,schC]
 refine ac_same r14New_ok (by simp [AV.pure,schC]) ?_
 rintro r rfl
 simp [ladC,splice]
 refine lp_startx (fun x f σ=>∃(i:Nat) (tl:Store),x=bs.length-i∧i≤bs.length∧f 1=.lst (arrsC bs)∧f 4=.ptr 1 0∧f 5=.ptr 2 0∧f 7=.int .i64 i∧σ=.var 52 schC:: .var 55 [.int .i64 0,.int .i64 0,.nils]:: .var 55 (ladC (foldF newL (bs.take i)))::tl) bs.length ?_ ?_
 ·exact ⟨0,[],by simp,by simp,by simp,by simp,by simp,by simp,by simp [schC,ladC,foldF]⟩
 rintro x f σ ⟨i,tl,hx,hi,f1,f4,f5,f7,rfl⟩
 simp [f1,f7,hle]
 refine cb_dec (fun hlt=> ?_) (fun hge=> ?_)
 ·have hlt':i<bs.length:=by omega
  have hwi:IntKind.i64.wrap ((i:Int)+1)=((i+1:Nat):Int):=by rw [wrap_i64 (by omega) (by omega)];omega
  obtain ⟨a,ha⟩:∃a,bs[i]? =some a:=⟨_,List.getElem?_eq_getElem hlt'⟩
  have hc:=arrsC_get ha
  obtain ⟨hx1,hx2⟩:=List.getElem?_eq_some_iff.1 hc
  obtain ⟨ok,okv⟩:=hb a (List.mem_of_getElem? ha)
  have hsn:bs.take (i+1)=bs.take i++ [a]:=by rw [List.take_add_one,ha];rfl
  have hr:RightL (foldF newL (bs.take i)):=right_fold right_new_l fun x hx=>hb x (List.mem_of_mem_take hx)
  have kA:=r14Accept_ok (G:=G) _ hr a.time a.now a.value ok.t ok.n ok.le ok.ge ok.v okv
  have hst:acceptM (foldF newL (bs.take i)) a.time a.now a.value=foldF newL (bs.take (i+1)):=by rw [hsn,foldF_snoc];rfl
  rw [hst] at kA
  simp [f1,f5,f7,hc,hx2,arrC,tail_get,tail_set,splice,ladC]
  simp only [ladC] at kA
  refine ac_same kA (by simp [AV.pure]) ?_
  rintro r rfl
  simp [f5,f7,tail_get,tail_set,splice,ladC,hwi]
  exact nx_intro (bs.length-(i+1)) (by omega) ⟨i+1,tl++ [.var 91 (arrC a),.var 55 (ladC (foldF newL (bs.take (i+1))))],rfl,by omega,by simp [f1],by simp [f4],by simp [f5],by simp,by simp [ladC,arrC]⟩
 ·have hil:i=bs.length:=by omega
  subst hil
  simp [f4,f5,splice,ladC]
end Go.Proofs.YtdbhocoeolhjhaaGreatDoor
end
section
set_option maxHeartbeats 4000000
namespace Go.Proofs.YtdbhocoeolhjhaaGreatDoor
open Go.Abs Go.RowKit Go.Sf Go.Num
variable {G:Globs}
theorem pTimed_ok (t:Nat) (h:t≤1099511627776):PCalls Tryz.prog n_ring_timed [.int .i64 t] (fun r=>r=.bool true):=by
 refine pcalls_of_awp hmix c_ring_timed rfl ?_
 have h1:(0:Int)≤t:=by omega
 have h2:(t:Int)≤1099511627776:=by omega
 simp [a_ring_timed,h1,h2,h]
theorem lTimed_ok (t:Nat) (h:t≤1099511627776):PCalls Tryz.prog n_ladder_timed [.int .i64 t] (fun r=>r=.bool true):=by
 refine pcalls_of_awp hmix c_ladder_timed rfl ?_
 have h1:(0:Int)≤t:=by omega
 have h2:(t:Int)≤1099511627776:=by omega
 simp [a_ladder_timed,h1,h2,h]
theorem pSized_ok (a b:Nat) (h1:1≤a) (h2:a≤86400) (h3:1≤b) (h4:b≤400):PCalls Tryz.prog n_ring_sized [.int .i64 a,.int .i64 b] (fun r=>r=.bool true):=by
 refine pcalls_of_awp hmix c_ring_sized rfl ?_
 have k1:(1:Int)≤a:=by omega
 have k2:(a:Int)≤86400:=by omega
 have k3:(1:Int)≤b:=by omega
 have k4:(b:Int)≤400:=by omega
 have k1':0<a:=by omega
 have k3':0<b:=by omega
 simp [a_ring_sized,k1,k2,k3,k4,h1,h2,h3,h4,k1',k3']
theorem pPlace_ok (step:Nat) (l:List Slot) (hz:Sized step l) (t:Nat) (ht:t≤1099511627776):PCalls Tryz.prog n_ring_place [.agg (ringC step l),.int .i64 t] (fun r=>r=.int .i64 (t/step%l.length:Nat)):=by
 refine pcalls_of_awp hmix c_ring_place rfl ?_
 obtain ⟨s1,s2,n1,n2⟩:=hz
 have hle:=slotsC_len l
 have g1:(step:Int)≠0:=by omega
 have g1':step≠0:=by omega
 have g2:(l.length:Int)≠0:=by omega
 have g2':l.length≠0:=by omega
 have g2'':l≠ []:=fun e=>by rw [e] at n1;simp at n1
 have hdl:t/step≤t:=Nat.div_le_self _ _
 obtain ⟨q,hqe⟩:∃q,q=t/step:=⟨_,rfl⟩
 obtain ⟨p,hp⟩:∃p,p=q%l.length:=⟨_,rfl⟩
 rw [←hqe] at hdl
 have hA1:(t:Int)/(step:Int)=(q:Int):=by rw [hqe];rfl
 have hA1':(t:Int).tdiv (step:Int)=(q:Int):=by rw [tdiv_nat,hqe]
 have hA2:IntKind.i64.wrap (q:Int)=(q:Int):=wrap_i64 (by omega) (by omega)
 have hA3:(q:Int).tmod (l.length:Int)=(p:Int):=by rw [tmod_nat,hp]
 have hA4:(q:Int)%(l.length:Int)=(p:Int):=by rw [hp];rfl
 rw [←hqe,←hp]
 simp [a_ring_place,ringC,hle,g1,g1',g2,g2',g2'',hA1,hA1',hA2,hA3,hA4]
theorem pRight_ok (step:Nat) (l:List Slot) (hz:Sized step l) (h:RightR step l):PCalls Tryz.prog n_ring_Right [.agg (ringC step l)] (fun r=>r=.bool true):=by
 refine pcalls_of_awp hmix c_ring_Right rfl ?_
 have hle:=slotsC_len l
 have hz':=hz
 obtain ⟨s1,s2,n1,n2⟩:=hz
 have g6:(step:Int)≠0:=by omega
 have g6':step≠0:=by omega
 simp [a_ring_Right,ringC,hle]
 refine ac_same (pSized_ok step l.length s1 s2 n1 n2) (by simp) ?_
 rintro r rfl
 simp [hle]
 refine lp_startx (fun x f σ=>∃(i:Nat) (tl:Store),x=l.length-i∧i≤l.length∧f 1=.ptr 0 0∧f 13=.lst (slotsC l)∧f 14=.int .i64 l.length∧f 15=.int .i64 i∧σ=.var 112 (ringC step l)::tl) l.length ?_ ?_
 ·exact ⟨0,[],by simp,by simp,by simp,by simp,by simp [hle],by simp,by simp [ringC]⟩
 rintro x f σ ⟨i,tl,hx,hi,h1,h13,h14,h15,rfl⟩
 simp [h14,h15]
 refine cb_dec (fun hlt=> ?_) (fun hge=> ?_)
 ·have hlt':i<l.length:=by omega
  have hwi:IntKind.i64.wrap ((i:Int)+1)=((i+1:Nat):Int):=by rw [wrap_i64 (by omega) (by omega)];omega
  obtain ⟨s,hs⟩:∃s,l[i]? =some s:=⟨_,List.getElem?_eq_getElem hlt'⟩
  have hc:=slotsC_get hs
  obtain ⟨hx1,hx2⟩:=List.getElem?_eq_some_iff.1 hc
  rcases h i s hs with ⟨e1,e2⟩|⟨k,e1,e2,e3,e4,e5⟩
  ·simp [h1,h13,h15,ringC,hc,hx2,slotC,tail_get,tail_set,splice,eqAll,e1,e2,hwi]
   exact nx_intro (l.length-(i+1)) (by omega) ⟨i+1,tl++ [.var 186 (slotC s)],rfl,by omega,by simp [h1],by simp [h13],by simp [h14],by simp,by simp [ringC,slotC,e1,e2]⟩
  ·have g1:¬s.1= -1:=by omega
   have kP:=pPlace_ok (G:=G) step l hz' (k*step) e2
   have hkk:k*step/step=k:=Nat.mul_div_cancel _ (by omega)
   rw [hkk,e3] at kP
   simp only [ringC] at kP
   simp [h1,h13,h15,ringC,hc,hx2,slotC,tail_get,tail_set,splice,eqAll,g1]
   rw [e1]
   refine ac_same (pTimed_ok (k*step) e2) (by simp) ?_
   rintro r rfl
   have g2:((k*step:Nat):Int).tmod step=0:=by
    rw [Int.tmod_eq_emod_of_nonneg (by omega)];simp
   simp [h1,h13,h15,ringC,hc,hx2,slotC,tail_get,tail_set,splice,e5,g2,g6,g6', -Int.natCast_mul]
   refine ac_same kP (by simp [AV.pure]) ?_
   rintro r rfl
   simp [h15,hwi, -Int.natCast_mul]
   exact nx_intro (l.length-(i+1)) (by omega) ⟨i+1,tl++ [.var 186 (slotC s)],rfl,by omega,by simp [h1],by simp [h13],by simp [h14],by simp,by simp [ringC,slotC,e1]⟩
 ·simp
theorem pAlign_ok (step:Nat) (l:List Slot) (hz:Sized step l) (h:RightR step l) (t:Nat) (ht:t≤1099511627776):PCalls Tryz.prog n_ring_Align [.agg (ringC step l),.int .i64 t] (fun r=>r=.tup [.int .i64 (t/step*step:Nat),.int .i64 0]):=by
 refine pcalls_of_awp hmix c_ring_Align rfl ?_
 simp [a_ring_Align,ringC]
 refine ac_same (pTimed_ok t ht) (by simp) ?_
 rintro r rfl
 simp
 refine ac_same (pRight_ok step l hz h) (by simp [AV.pure,ringC]) ?_
 rintro r rfl
 have s1:=hz.s1
 have g1:(step:Int)≠0:=by omega
 have g1':step≠0:=by omega
 have hd:=Nat.div_mul_le_self t step
 have hw:IntKind.i64.wrap ((t/step*step:Nat):Int)=((t/step*step:Nat):Int):=wrap_i64 (by omega) (by omega)
 simp [g1,g1',tmod_nat,sub_mod,hw, -Int.natCast_mul, -Int.natCast_emod]
 rw [Int.natCast_mul,Int.natCast_ediv]
theorem pSet_ok (step:Nat) (l:List Slot) (hz:Sized step l) (h:RightR step l) (t:Nat) (ht:t≤1099511627776) (v:Int) (hv:v≠ -9223372036854775808):PCalls Tryz.prog n_ring_Set [.agg (ringC step l),.int .i64 t,.int .i64 v] (fun r=>r=.tup [.agg (ringC step (setR step l t v)),.int .i64 0]):=by
 refine pcalls_of_awp hmix c_ring_Set rfl ?_
 have hle:=slotsC_len l
 have n1:=hz.n1
 have n2:=hz.n2
 have hd:=Nat.div_mul_le_self t step
 have kA:=pAlign_ok (G:=G) step l hz h t ht
 have s1:=hz.s1
 obtain ⟨at',hat⟩:∃at',at'=t/step*step:=⟨_,rfl⟩
 have hq:at'/step=t/step:=by rw [hat];exact Nat.mul_div_cancel _ (by omega)
 rw [←hat] at kA hd
 obtain ⟨p,hp⟩:∃p,p=at'/step%l.length:=⟨_,rfl⟩
 have hpl:p<l.length:=by rw [hp];exact Nat.mod_lt _ (by omega)
 simp [a_ring_Set,ringC]
 refine ac_same kA (by simp [AV.pure,ringC]) ?_
 rintro r rfl
 simp [hv]
 refine ac_eff (cloneSl (slotsC l) (slotsC_els l) (by omega)) ?_
 rintro r σ (⟨h0,rfl,rfl⟩|⟨rfl,rfl⟩)
 ·have:=congrArg List.length h0
  rw [hle] at this;simp at this;rw [this] at n1;simp at n1
 obtain ⟨s,hs⟩:∃s,l[p]? =some s:=⟨l[p]'(by omega),List.getElem?_eq_getElem (by omega)⟩
 have hc:=slotsC_get hs
 obtain ⟨hx1,hx2⟩:=List.getElem?_eq_some_iff.1 hc
 have hset:(slotsC l).set p [.int .i64 (at':Int),.int .i64 v]=slotsC (setR step l t v):=by
  rw [hp,hq,setR,←slotsC_set,hat];rfl
 have hll:(slotsC l).length=(slotsC (setR step l t v)).length:=by rw [slotsC_len,slotsC_len,len_setR]
 simp [ringC,splice]
 have hp':at'/step%l.length=p:=hp.symm
 have kP:=pPlace_ok (G:=G) step l hz at' (by omega)
 rw [hp'] at kP
 simp only [ringC] at kP
 refine qc_lent kP (.cons (.agg _ [.int .i64 step,.lst (slotsC l)] rfl (by simp [AV.one]) (fun j h1 h2=> ?_)) (.cons (.pure _ (by simp)) .nil)) (by simp) ?_
 ·match j,h1 with
  |0,_=>exact .pure _ (by simp)
  |1,_=>exact .row 2 _ 186 2 (slotsC l) false rfl rfl (.inr ⟨rfl,(slotsC_els l).2.1⟩)
 simp [splice,hc,hx2,slotC,hle,hpl,hset]
 rw [←hle,hll]
 simp [slotsC_fz]
theorem pGet_ok (step:Nat) (l:List Slot) (hz:Sized step l) (h:RightR step l) (t:Nat) (ht:t≤1099511627776):PCalls Tryz.prog n_ring_Get [.agg (ringC step l),.int .i64 t] (fun r=>r=numA (numO (getR step l t))):=by
 have hle:=slotsC_len l
 have n1:=hz.n1
 have hd:=Nat.div_mul_le_self t step
 have kA:=pAlign_ok (G:=G) step l hz h t ht
 have s1:=hz.s1
 obtain ⟨at',hat⟩:∃at',at'=t/step*step:=⟨_,rfl⟩
 have hq:at'/step=t/step:=by rw [hat];exact Nat.mul_div_cancel _ (by omega)
 rw [←hat] at kA hd
 obtain ⟨p,hp⟩:∃p,p=at'/step%l.length:=⟨_,rfl⟩
 have hpl:p<l.length:=by rw [hp];exact Nat.mod_lt _ (by omega)
 have kP:=pPlace_ok (G:=G) step l hz at' (by omega)
 rw [←hp] at kP
 obtain ⟨s,hs⟩:∃s,l[p]? =some s:=⟨l[p]'(by omega),List.getElem?_eq_getElem (by omega)⟩
 have hc:=slotsC_get hs
 obtain ⟨hx1,hx2⟩:=List.getElem?_eq_some_iff.1 hc
 have hg:getR step l t=if s.1=(at':Int) then some s.2 else none:=by
  unfold getR
  rw [←hq,←hp,hs]
  simp only
  rw [hq,←hat]
 have kV:PCalls Tryz.prog n_ring_value [.agg (ringC step l),.int .i64 at'] (fun r=>r=numA (numO (getR step l t))):=by
  refine pcalls_of_awp hmix c_ring_value rfl ?_
  simp [a_ring_value,ringC]
  simp only [ringC] at kP
  refine qc_same kP (by simp [AV.pure]) (by simp) ?_
  by_cases he:s.1=(at':Int)
  ·simp [hc,hx2,slotC,splice,he,hg,numO,numA]
  ·simp [hc,hx2,slotC,splice,he,hg,numO,numA]
 refine pcalls_of_awp hmix c_ring_Get rfl ?_
 simp [a_ring_Get,ringC]
 refine ac_same kA (by simp [AV.pure,ringC]) ?_
 rintro r rfl
 simp
 simp only [ringC] at kV
 refine ac_same kV (by simp [AV.pure]) ?_
 rintro r rfl
 simp [numA,splice]
theorem tSingle_ok (a b:Nat) (h1:1≤a) (h2:a≤86400) (h3:1≤b) (h4:b≤400):PCalls Tryz.prog n_retention_single [.agg [.int .i64 a,.int .i64 b]] (fun r=>r=.bool true):=by
 refine pcalls_of_awp hmix c_retention_single rfl ?_
 have k1:(1:Int)≤a:=by omega
 have k2:(a:Int)≤86400:=by omega
 have k3:(1:Int)≤b:=by omega
 have k4:(b:Int)≤400:=by omega
 have k1':0<a:=by omega
 have k3':0<b:=by omega
 simp [a_retention_single,k1,k2,k3,k4,h1,h2,h3,h4,k1',k3']
theorem tReach_ok (a b:Nat) (h1:1≤a) (h2:a≤86400) (h3:1≤b) (h4:b≤400):PCalls Tryz.prog n_retention_Reach [.agg [.int .i64 a,.int .i64 b]] (fun r=>r=.int .i64 (a*b:Nat)):=by
 refine pcalls_of_awp hmix c_retention_Reach rfl ?_
 have hm:a*b≤86400*400:=Nat.mul_le_mul h2 h4
 have hw:IntKind.i64.wrap ((a:Int)*b)=((a*b:Nat):Int):=by
  have e:(a:Int)*b=((a*b:Nat):Int):=by rw [Int.natCast_mul]
  rw [e];exact wrap_i64 (by omega) (by omega)
 simp [a_retention_Reach]
 refine ac_same (tSingle_ok a b h1 h2 h3 h4) (by simp) ?_
 rintro r rfl
 simp [hw]
theorem tFollows_ok:PCalls Tryz.prog n_retention_follows [.agg [.int .i64 10,.int .i64 6],.agg [.int .i64 60,.int .i64 5]] (fun r=>r=.bool true):=by
 refine pcalls_of_awp hmix c_retention_follows rfl ?_
 simp [a_retention_follows]
 refine qc_same (tReach_ok 60 5 (by omega) (by omega) (by omega) (by omega)) (by simp) (by simp) ?_
 simp
 refine qc_same (tReach_ok 10 6 (by omega) (by omega) (by omega) (by omega)) (by simp) (by simp) ?_
 simp [wk6]
theorem tTogether_ok:PCalls Tryz.prog n_retention_Together [.lst rungsC] (fun r=>r=.bool true):=by
 refine pcalls_of_awp hmix c_retention_Together rfl ?_
 simp [a_retention_Together,rungsC]
 refine lp_startx (fun x f σ=>∃(i:Nat) (tl:Store),x=2-i∧i≤2∧f 0=.lst rungsC∧f 13=.lst rungsC∧f 14=.int .i64 2∧f 15=.int .i64 i∧((i=0∧σ= [])∨(0<i∧σ=.var 119 [.int .i64 10,.int .i64 6]::tl))) 2 ?_ ?_
 ·exact ⟨0,[],by simp,by simp,by simp [rungsC],by simp [rungsC],by simp,by simp,.inl ⟨rfl,by simp⟩⟩
 rintro x f σ ⟨i,tl,hx,hi,f0,f13,f14,f15,⟨rfl,rfl⟩|⟨hp,rfl⟩⟩
 ·simp [f0,f13,f14,f15,rungsC]
  refine qc_same (tSingle_ok 10 6 (by omega) (by omega) (by omega) (by omega)) (by simp) (by simp) ?_
  simp [f15,wk1]
  exact nx_intro 1 (by omega) ⟨1,[],rfl,by omega,by simp [f0,rungsC],by simp [f13,rungsC],by simp [f14],by simp,.inr ⟨by omega,by simp⟩⟩
 ·have hi3:i=1∨i=2:=by omega
  rcases hi3 with rfl|rfl
  ·simp [f0,f13,f14,f15,rungsC,tail_get,tail_set,splice]
   refine qc_same (tSingle_ok 60 5 (by omega) (by omega) (by omega) (by omega)) (by simp) (by simp) ?_
   simp [f0,f15,wk0,rungsC,tail_get,tail_set]
   refine qc_same tFollows_ok (by simp) (by simp) ?_
   simp [f15,wk2]
   exact nx_intro 0 (by omega) ⟨2,_,rfl,by omega,by simp [f0,rungsC],by simp [f13,rungsC],by simp [f14],by simp,.inr ⟨by omega,rfl⟩⟩
  ·simp [f14,f15]
theorem lhow_ok:PCalls Tryz.prog n_ladder_how [.int .i64 1,.int .i64 500000] (fun r=>r=.bool true):=by
 refine pcalls_of_awp hmix c_ladder_how rfl ?_
 simp [a_ladder_how]
theorem lrung_ok (step:Nat) (l:List Slot):PCalls Tryz.prog n_ladder_rung [.agg (ringC step l)] (fun r=>r=.agg [.int .i64 step,.int .i64 l.length]):=by
 refine pcalls_of_awp hmix c_ladder_rung rfl ?_
 simp [a_ladder_rung,ringC,splice,slotsC_len]
theorem lreach_ok (step:Nat) (l:List Slot) (hz:Sized step l):PCalls Tryz.prog n_ladder_reach [.agg (ringC step l)] (fun r=>r=.int .i64 (step*l.length:Nat)):=by
 refine pcalls_of_awp hmix c_ladder_reach rfl ?_
 simp [a_ladder_reach,ringC]
 refine ac_same (lrung_ok step l) (by simp [AV.pure,ringC]) ?_
 rintro r rfl
 simp
 refine ac_same (tReach_ok step l.length hz.s1 hz.s2 hz.n1 hz.n2) (by simp) ?_
 rintro r rfl
 simp
theorem lreaches_ok (step:Nat) (l:List Slot) (hz:Sized step l) (t now:Nat) (ht:t≤1099511627776) (hn:now≤1099511627776):PCalls Tryz.prog n_ladder_reaches [.agg (ringC step l),.int .i64 t,.int .i64 now] (fun r=>r=.bool (decide (now<t/step*step+step*l.length))):=by
 refine pcalls_of_awp hmix c_ladder_reaches rfl ?_
 have kR:=lreach_ok (G:=G) step l hz
 obtain ⟨s1,s2,n1,n2⟩:=hz
 have g1:(step:Int)≠0:=by omega
 have g1':step≠0:=by omega
 have hm:step*l.length≤86400*400:=Nat.mul_le_mul s2 n2
 have hd:=Nat.div_mul_le_self t step
 simp [a_ladder_reaches,ringC,g1,g1']
 simp only [ringC] at kR
 refine qc_same kR (by simp [AV.pure]) (by simp) ?_
 obtain ⟨A,hA⟩:∃A,A=t/step*step:=⟨_,rfl⟩
 obtain ⟨B,hB⟩:∃B,B=step*l.length:=⟨_,rfl⟩
 have hw1:IntKind.i64.wrap ((t:Int)-(t:Int).tmod step)=(A:Int):=by rw [tmod_nat,sub_mod,hA];exact wrap_i64 (by omega) (by omega)
 have hw2:IntKind.i64.wrap ((now:Int)-B)=(now:Int)-B:=wrap_i64 (by omega) (by omega)
 rw [←hA,←hB]
 simp [hw1,hw2]
 omega
theorem lRight_ok (l:LadM) (h:RightL l):PCalls Tryz.prog n_ladder_Right [.agg (ladC l)] (fun r=>r=.bool true):=by
 refine pcalls_of_awp hmix c_ladder_Right rfl ?_
 simp [a_ladder_Right,ladC,ringsC]
 refine ac_same lhow_ok (by simp) ?_
 rintro r rfl
 simp
 have n1:=h.n1
 have n2:=h.n2
 refine lp_startx (fun x f σ=>∃(i:Nat),x=2-i∧i≤2∧f 1=.ptr 0 0∧f 19=.lst (ringsC l)∧f 20=.int .i64 2∧f 21=.int .i64 i∧
  ((i=0∧f 3=.nils∧σ= [.var 55 (ladC l)])∨(i=1∧f 3=.row 2 1∧∃e,σ= [.var 55 (ladC l),e,.row 119 2 (rungsC.take 1) true])∨(i=2∧f 3=.row 2 2∧∃e e2,σ= [.var 55 (ladC l),e,.row 119 2 rungsC true,e2]))) 2 ?_ ?_
 ·exact ⟨0,by simp,by simp,by simp,by simp [ringsC],by simp,by simp,.inl ⟨rfl,by simp,by simp [ladC,ringsC]⟩⟩
 rintro x f σ ⟨i,hx,hi,f1,f19,f20,f21,⟨rfl,f3,rfl⟩|⟨rfl,f3,e,rfl⟩|⟨rfl,f3,e,e2,rfl⟩⟩
 ·simp [f1,f3,f19,f20,f21,ringsC,ringC]
  refine ac_same (pRight_ok 10 l.fine (z1_of h) h.r1) (by simp [AV.pure,ringC]) ?_
  rintro r rfl
  simp [f3,splice]
  refine ac_same (lrung_ok 10 l.fine) (by simp [AV.pure,ringC]) ?_
  rintro r rfl
  simp [n1]
  refine ap_new true [[.int .i64 10,.int .i64 6]] (by simp [view]) (by decide) (by simp) (fun _=> .inl (by simp [aview])) (by simp) (by simp) ?_
  simp [f21,wk1]
  exact nx_intro 1 (by omega) ⟨1,rfl,by omega,by simp [f1],by simp [f19,ringsC,ringC],by simp [f20],by simp,.inr (.inl ⟨rfl,by simp,_,by simp [rungsC];rfl⟩)⟩
 ·simp [f1,f3,f19,f20,f21,ringsC,ringC]
  refine ac_same (pRight_ok 60 l.wide (z2_of h) h.r2) (by simp [AV.pure,ringC]) ?_
  rintro r rfl
  simp [f3,splice]
  refine ac_same (lrung_ok 60 l.wide) (by simp [AV.pure,ringC]) ?_
  rintro r rfl
  simp [n2]
  refine ap_row [[.int .i64 10,.int .i64 6]] [[.int .i64 60,.int .i64 5]] true (by simp [rungsC]) (by simp [view]) (by decide) (by simp) (fun _=> .inl (by simp [aview])) rfl (by simp) (by simp) ?_
  simp [f21,wk2]
  exact nx_intro 0 (by omega) ⟨2,rfl,by omega,by simp [f1],by simp [f19,ringsC,ringC],by simp [f20],by simp,.inr (.inr ⟨rfl,by simp,e,_,by simp [rungsC];rfl⟩)⟩
 ·simp [f3,f20,f21]
  refine ac_pure tTogether_ok (.cons (.row 2 2 119 2 rungsC true (by simp) rfl (.inl rfl)) .nil) ?_
  rintro r rfl
  simp
end Go.Proofs.YtdbhocoeolhjhaaGreatDoor
end
section
set_option maxHeartbeats 4000000
namespace Go.Proofs.YtdbhocoeolhjhaaGreatDoor
open Go.Abs Go.RowKit Go.Sf Go.Num
variable {G:Globs}
theorem fOf_ok (v:Int) (h:i64 v) (hv:v≠ -9223372036854775808):PCalls Tryz.prog n_fixed_Of [.int .i64 v] (fun r=>r=numA (tell v)):=by
 refine pcalls_of_awp hmix c_fixed_Of rfl ?_
 have h1:¬(v< -9223372036854775807):=by have:=h.1;omega
 have h2:tell v=(false,v):=by
  unfold tell most
  rw [if_pos ⟨by have:=h.1;omega,by have:=h.2;omega⟩]
 simp [a_fixed_Of,h1,h2,numA,splice]
theorem lsum_ok (l:List Int) (hl:l.length≤1000) (hv:∀v∈l,i64 v∧v≠ -9223372036854775808):PCalls Tryz.prog n_ladder_sum [.lst (intsC l)] (fun r=>r=numA (sumF l)):=by
 refine pcalls_of_awp hmix c_ladder_sum rfl ?_
 have hle:=intsC_len l
 have q0:PCalls Tryz.prog n_fixed_Int [.int .i64 0] (fun r=>r=.agg (numC (tell 0))):=by
  have:=fInt_ok (G:=G) 0 (by omega) (by omega)
  exact this
 simp [a_ladder_sum]
 refine ac_same q0 (by simp) ?_
 rintro r rfl
 simp [numC,splice]
 refine lp_startx (fun x f σ=>∃(i:Nat),x=l.length-i∧i≤l.length∧f 2=.ptr 0 0∧f 3=.ptr 1 0∧f 7=.lst (intsC l)∧f 8=.int .i64 l.length∧f 9=.int .i64 i∧σ= [.var 182 [.bool false,.int .i64 0],.var 182 (numC (sumF (l.take i)))]) l.length ?_ ?_
 ·exact ⟨0,by simp,by simp,by simp,by simp,by simp,by simp [hle],by simp,by simp [numC,sumF]⟩
 rintro x f σ ⟨i,hx,hi,f2,f3,f7,f8,f9,rfl⟩
 simp [f8,f9]
 refine cb_dec (fun hlt=> ?_) (fun hge=> ?_)
 ·have hlt':i<l.length:=by omega
  have hwi:IntKind.i64.wrap ((i:Int)+1)=((i+1:Nat):Int):=by rw [wrap_i64 (by omega) (by omega)];omega
  obtain ⟨v,hvi⟩:∃v,l[i]? =some v:=⟨_,List.getElem?_eq_getElem hlt'⟩
  have hc:=intsC_get hvi
  obtain ⟨hy1,hy2⟩:=List.getElem?_eq_some_iff.1 hc
  have hvv:=hv v (List.mem_of_getElem? hvi)
  have hsn:l.take (i+1)=l.take i++ [v]:=by rw [List.take_add_one,hvi];rfl
  have qv:PCalls Tryz.prog n_fixed_Of [.int .i64 v] (fun r=>r=.agg (numC (tell v))):=fOf_ok v hvv.1 hvv.2
  have qa:PCalls Tryz.prog n_fixed_Add [.agg (numC (sumF (l.take i))),.agg (numC (tell v))] (fun r=>r=.agg (numC (sumF (l.take (i+1))))):=by rw [hsn,sumF_snoc];exact fAdd_ok _ _ (ok_sumF _) (ok_tell v)
  simp only [numC] at qa qv
  simp [f3,f7,f9,hc,hy2,numC]
  refine qc_same qv (by simp) (by simp) ?_
  simp
  refine qc_same qa (by simp) (by simp) ?_
  simp [f3,f9,hwi,splice]
  exact nx_intro (l.length-(i+1)) (by omega) ⟨i+1,rfl,by omega,by simp [f2],by simp [f3],by simp [f7],by simp [f8],by simp,by simp [numC]⟩
 ·have hil:i=l.length:=by omega
  subst hil
  rw [List.take_length]
  simp [f2,f3,numC,numA,splice]
theorem lBlend_ok (l:List Int) (h0:l≠ []) (hl:l.length≤1000) (hv:∀v∈l,i64 v∧v≠ -9223372036854775808):PCalls Tryz.prog n_ladder_Blend [.int .i64 1,.lst (intsC l)] (fun r=>r=numA (avgN l)):=by
 refine pcalls_of_awp hmix c_ladder_Blend rfl ?_
 have hle:=intsC_len l
 have hpos:0<l.length:=List.length_pos_iff.2 h0
 have k0:¬((l.length:Int)=0):=by omega
 have k0':l.length≠0:=by omega
 have k0'':intsC l≠ []:=fun e=>by rw [e] at hle;simp at hle;omega
 simp [a_ladder_Blend,hle,k0,k0',k0'',h0]
 have qs:=lsum_ok (G:=G) l hl hv
 have qd:=fDiv_ok (G:=G) (sumF l) (tell (l.length*1000000)) (ok_sumF _) (ok_tell _)
 have qi:=fInt_ok (G:=G) l.length (by omega) (by omega)
 simp only [numA] at qs qd qi
 refine ac_same qs (by simp [AV.pure]) ?_
 rintro r rfl
 simp
 refine ac_same qi (by simp) ?_
 rintro r rfl
 simp
 refine ac_same qd (by simp) ?_
 rintro r rfl
 simp [splice,numA]
 exact ⟨rfl,rfl⟩
theorem coarser_ok (l:LadM) (F:List Slot) (hz:Sized 10 F) (h:RightR 10 F) (T0:Nat) (ht:T0≤1000000000):PCalls Tryz.prog n_ladder_coarser [.agg (ladC l),.agg (ringC 10 F),.int .i64 T0,.int .i64 60] (fun r=>r=numA (if (parts F T0 6).length<3 then (true,0) else avgN (parts F T0 6))):=by
 refine pcalls_of_awp hmix c_ladder_coarser rfl ?_
 simp [a_ladder_coarser,ladC,ringC,wk6]
 refine lp_startx (fun x f σ=>∃(k:Nat) (tl:Store),x=6-k∧k≤6∧f 2=.int .i64 T0∧f 4=.ptr 0 0∧f 5=.ptr 1 0∧f 8=.ptr 2 0∧f 10=.int .i64 6∧f 17=.int .i64 6∧f 18=.int .i64 k∧AccT 2 1 3 tl (f 9) (intsC (parts F T0 k))∧
  σ=.var 55 (ladC l):: .var 112 (ringC 10 F):: .var 182 [.bool false,.int .i64 0]::tl) 6 ?_ ?_
 ·exact ⟨0,[],by simp,by simp,by simp,by simp,by simp,by simp,by simp,by simp,by simp,by simp [parts,intsC];exact accT_nil,by simp [ladC,ringC]⟩
 rintro x f σ ⟨k,tl,hx,hk,f2,f4,f5,f8,f10,f17,f18,hA,rfl⟩
 have hpl:=parts_len F T0 k
 have hil:=intsC_len (parts F T0 k)
 simp [f17,f18]
 refine cb_dec (fun hlt=> ?_) (fun hge=> ?_)
 ·have hk6:k<6:=by omega
  have hb8:((intsC (parts F T0 k)).length+1)*8≤140737488355328:=by rw [hil];omega
  have hb9:(intsC (parts F T0 k)).length+1≤9223372036854775807:=by rw [hil];omega
  have hwk:IntKind.i64.wrap ((k:Int)+1)=((k+1:Nat):Int):=by rw [wrap_i64 (by omega) (by omega)];omega
  have hwm:IntKind.i64.wrap ((k:Int)*10)=((k*10:Nat):Int):=by rw [wrap_i64 (by omega) (by omega)];omega
  have hwa:IntKind.i64.wrap ((T0:Int)+((k*10:Nat):Int))=((T0+k*10:Nat):Int):=by rw [wrap_i64 (by omega) (by omega)];omega
  have kG:=pGet_ok (G:=G) 10 F hz h (T0+k*10) (by omega)
  simp only [ringC] at kG
  simp [f2,f5,f18,ringC,hwm,hwa, -Int.natCast_add, -Int.natCast_mul]
  refine ac_same kG (by simp [AV.pure]) ?_
  rintro r rfl
  cases hg:getR 10 F (T0+k*10) with
  |none=>
   have hpk:parts F T0 (k+1)=parts F T0 k:=by simp [parts,hg]
   simp [numO,numA,tail_get,tail_set,splice,f18,hwk]
   refine nx_intro (6-(k+1)) (by omega) ⟨k+1,tl++ [.var 182 [.bool true,.int .i64 0]],rfl,by omega,by simp [f2],by simp [f4],by simp [f5],by simp [f8],by simp [f10],by simp [f17],by simp, ?_,by simp [ringC]⟩
   simp
   rw [hpk];exact hA.more _
  |some w=>
   have hpk:parts F T0 (k+1)=parts F T0 k++ [w]:=by simp [parts,hg]
   simp [numO,numA,tail_get,tail_set,splice]
   refine ap_accT (σ:= [.var 55 (ladC l),.var 112 (ringC 10 F),.var 182 [.bool false,.int .i64 0]]) (τ:=tl++ [.var 182 [.bool false,.int .i64 w]]) (hA.more _) [.int .i64 w] (by decide) rfl hb8 hb9 fun v' τ' hA' hle' _=> ?_
   simp [f18,hwk]
   refine nx_intro (6-(k+1)) (by omega) ⟨k+1,τ',rfl,by omega,by simp [f2],by simp [f4],by simp [f5],by simp [f8],by simp [f10],by simp [f17],by simp, ?_,by simp [ringC]⟩
   simp
   rw [hpk,intsC_snoc];exact hA'
 ·have hk6:k=6:=by omega
  subst hk6
  obtain ⟨P,hP⟩:∃P:Store,P= [.var 55 (ladC l),.var 112 (ringC 10 F),.var 182 [.bool false,.int .i64 0]]:=⟨_,rfl⟩
  have hPl:P.length=3:=by rw [hP];rfl
  have hA3:AccT 2 1 P.length tl (f 9) (intsC (parts F T0 6)):=by rw [hPl];exact hA
  have hview:view (P++tl) (f 9)=some (intsC (parts F T0 6)):=hA3.view
  have hcoe:Coe (P++tl) false (f 9) (.lst (intsC (parts F T0 6))):=hA3.coe false
  rw [hP] at hview hcoe
  simp only [List.cons_append,List.nil_append] at hview hcoe
  have hvals:=parts_ok h T0 6
  obtain ⟨L,hL⟩:∃L,L=intsC (parts F T0 6):=⟨_,rfl⟩
  obtain ⟨n,hn⟩:∃n,n=(parts F T0 6).length:=⟨_,rfl⟩
  have hLn:L.length=n:=by rw [hL,hil,hn]
  rw [←hL] at hview hcoe
  rw [←hn] at hpl
  have hw9:IntKind.i64.wrap ((n:Int)*1000000)=(n:Int)*1000000:=wrap_i64 (by omega) (by omega)
  have hw10:IntKind.i64.wrap 3000000=3000000:=by decide
  simp [hview,hLn,hw9]
  rw [←hn]
  by_cases hp3:n<3
  ·have hlt3:(n:Int)*1000000<3000000:=by omega
   have hlt3':n*1000000<3000000:=by omega
   simp [f4,f8,f10,ladC,hw9,hw10,hlt3,hlt3',hp3,splice,numA]
  ·have hlt3:¬((n:Int)*1000000<3000000):=by omega
   have hlt3':¬(n*1000000<3000000):=by omega
   have hpne:parts F T0 6≠ []:=fun e=>by rw [e] at hn;simp at hn;omega
   have kB:=lBlend_ok (G:=G) (parts F T0 6) hpne (by omega) hvals
   rw [←hL] at kB
   simp only [ladC] at hcoe
   simp [f4,f10,ladC,hw9,hw10,hlt3,hlt3']
   refine ac_pure kB (.cons (.pure _ (by simp)) (.cons hcoe .nil)) ?_
   rintro r rfl
   simp [f8,hp3,splice,numA]
theorem lAccept1_ok (step:Nat) (l:List Slot) (hz:Sized step l) (t now:Nat) (v:Int) (ht:t≤1099511627776) (hn:now≤1099511627776):PCalls Tryz.prog n_ladder_Accept_1 [.agg (ringC step l),.rptr [.int .i64 t,.int .i64 v],.rptr [.int .i64 now]] (fun r=>r=.bool (decide (now<t/step*step+step*l.length))):=by
 refine pcalls_of_awp hmix c_ladder_Accept_1 rfl ?_
 simp [a_ladder_Accept_1,ringC]
 have k:=lreaches_ok (G:=G) step l hz t now ht hn
 simp only [ringC] at k
 refine ac_same k (by simp [AV.pure]) ?_
 rintro r rfl
 simp
end Go.Proofs.YtdbhocoeolhjhaaGreatDoor
end
section
set_option maxHeartbeats 4000000
namespace Go.Proofs.YtdbhocoeolhjhaaGreatDoor
open Go.Abs Go.RowKit Go.Sf Go.Num
variable {G:Globs}
def reachP (t now:Nat) (c:List AV):Bool:=match c with
 | .int _ s::_=>if s=10 then decide (now<t/10*10+60) else decide (now<t/60*60+300)
 |_=>false
theorem ringsC_fz (σ:Store) (m k:Nat) (l:LadM):((ringsC l).mapM fun (c:List AV)=>c.mapM (fz σ m k))=some (ringsC l):=fz_pure (ringsC_els l).2.1 (fun c hc=>by simp only [ringsC,List.mem_cons,List.not_mem_nil,or_false] at hc;rcases hc with rfl|rfl<;>simp [ringC])
theorem lAccept_ok (l:LadM) (h:RightL l) (t now:Nat) (v:Int) (ht:t≤1000000000) (hn:now≤1000000000) (h1:t≤now) (h2:now≤t+79) (hv:i64 v) (hv2:v≠ -9223372036854775808):PCalls Tryz.prog n_ladder_Accept [.agg (ladC l),.agg [.int .i64 t,.int .i64 v],.int .i64 now] (fun r=>r=.tup [.agg (ladC (acceptM l t now v)),.int .i64 0]):=by
 refine pcalls_of_awp hmix c_ladder_Accept rfl ?_
 have k1:¬((now:Int)<t):=by omega
 have k1':¬(now<t):=by omega
 have kr1:=lreaches_ok (G:=G) 10 l.fine (z1_of h) t now (by omega) (by omega)
 have kr2:=lreaches_ok (G:=G) 60 l.wide (z2_of h) t now (by omega) (by omega)
 have hr2:now<t/60*60+300:=by
  have:=Nat.div_add_mod t 60
  have:=Nat.mod_lt t (show 0<60 by omega)
  omega
 rw [h.n2,decide_eq_true (show now<t/60*60+60*5 from hr2)] at kr2
 rw [h.n1] at kr1
 simp [a_ladder_Accept,ladC]
 refine ac_same (lTimed_ok t (by omega)) (by simp) ?_
 rintro r rfl
 simp
 refine ac_same (lTimed_ok now (by omega)) (by simp) ?_
 rintro r rfl
 simp [hv2]
 refine ac_same (lRight_ok l h) (by simp [AV.pure,ladC]) ?_
 rintro r rfl
 simp [k1,k1']
 have kI:=indexlRi (G:=G) (ringsC l) (ringsC_els l) (by simp [ringsC]) (reachP t now) n_ladder_Accept_1 [.rptr [.int .i64 t,.int .i64 v],.rptr [.int .i64 now]] (by simp [AV.pure]) b_ladder_Accept_1 (fun c hc=>by
  simp only [ringsC,List.mem_cons,List.not_mem_nil,or_false] at hc
  rcases hc with rfl|rfl
  ·have:=lAccept1_ok (G:=G) 10 l.fine (z1_of h) t now v (by omega) (by omega)
   rw [h.n1] at this
   exact this
  ·have:=lAccept1_ok (G:=G) 60 l.wide (z2_of h) t now v (by omega) (by omega)
   rw [h.n2] at this
   exact this)
 refine ac_lent kI (.cons (.pure _ (by simp [AV.pure,ringsC,ringC])) (.cons (.fn _ _ _ _ _ rfl rfl (fun j h=>by simp at h) (fun j h1 h2=> ?_)) .nil)) ?_
 ·match j,h1 with
  |0,_=>
   refine .ptr 1 0 117 [.int .i64 t,.int .i64 v] [.int .i64 t,.int .i64 v] (by simp) rfl (by simp) rfl (fun j h h'=> .pure _ ?_) (by simp [AV.one])
   match j,h with
   |0,_=>simp [AV.pure]
   |1,_=>simp [AV.pure]
  |1,_=>
   refine .ptr 2 0 3 [.int .i64 now] [.int .i64 now] (by simp) rfl (by simp) rfl (fun j h h'=> .pure _ ?_) (by simp [AV.one])
   match j,h with
   |0,_=>simp [AV.pure]
 rintro r rfl
 refine ⟨by simp [rig], ?_⟩
 obtain ⟨E1,hE1⟩:∃E1:Entry,E1=.var 117 [.int .i64 t,.int .i64 v]:=⟨_,rfl⟩
 obtain ⟨E2,hE2⟩:∃E2:Entry,E2=.var 3 [.int .i64 now]:=⟨_,rfl⟩
 obtain ⟨E3,hE3⟩:∃E3:Entry,E3=.var 55 [.int .i64 0,.int .i64 0,.nils]:=⟨_,rfl⟩
 have hidx:idxE (reachP t now) (ringsC l)=((if now<t/10*10+60 then 0 else 1:Nat):Int):=by
  by_cases hr:now<t/10*10+60
  ·simp [ringsC,ringC,idxE,reachP,hr]
  ·simp [ringsC,ringC,idxE,reachP,hr,hr2]
 rw [hidx]
 obtain ⟨at',hat⟩:∃at':Nat,at'=if now<t/10*10+60 then 0 else 1:=⟨_,rfl⟩
 rw [←hat]
 have hat2:¬((at':Int)<0):=by omega
 simp [hat2]
 refine ac_eff (cloneRi (ringsC l) (ringsC_els l) (by simp [ringsC])) ?_
 rintro r σ (⟨h0,rfl,rfl⟩|⟨rfl,rfl⟩)
 ·simp [ringsC] at h0
 simp
 refine lp_startx (fun x f σ=>f 3=.ptr 0 0∧f 4=.ptr 1 0∧f 5=.ptr 2 0∧f 6=.ptr 3 0∧f 8=.int .i64 at'∧f 9=.row 4 2∧f 10=.int .i64 t∧
  ((x=2-at'∧f 12=.int .i64 at'∧f 11=.int .i64 v∧σ= [.var 55 (ladC l),E1,E2,E3,.row 112 2 (ringsC l) false])∨
   (at'=0∧x=1∧f 12=.int .i64 1∧f 11=.int .i64 v∧∃tl,σ=.var 55 (ladC l)::E1::E2::E3:: .row 112 2 (ringsC ⟨setR 10 l.fine t v,l.wide⟩) false::tl)∨
   (x=0∧f 12=.int .i64 2∧∃tl,σ=.var 55 (ladC l)::E1::E2::E3:: .row 112 2 (ringsC (acceptM l t now v)) false::tl))) (2-at') ?_ ?_
 ·exact ⟨by simp,by simp,by simp,by simp,by simp,by simp [ringsC],by simp,.inl ⟨rfl,by simp,by simp,by simp [hE1,hE2,hE3,ladC]⟩⟩
 rintro x f σ ⟨f3,f4,f5,f6,f8,f9,f10,⟨rfl,f12,f11,rfl⟩|⟨ha0,rfl,f12,f11,tl,rfl⟩|⟨rfl,f12,tl,rfl⟩⟩
 ·by_cases hr:now<t/10*10+60
  ·rw [if_pos hr] at hat
   subst hat
   rw [decide_eq_true hr] at kr1
   simp [f9,f12,f10,f5,hE2,ringsC,ringC]
   simp only [ringC] at kr1
   refine qc_same kr1 (by simp [AV.pure]) (by simp) ?_
   have kS:=pSet_ok (G:=G) 10 l.fine (z1_of h) h.r1 t (by omega) v hv2
   simp only [ringC] at kS
   simp [f8,f9,f10,f11,f12]
   refine ac_same kS (by simp [AV.pure]) ?_
   rintro r rfl
   simp [f8,f9,f12,ringC,wk1,splice]
   exact nx_intro 1 (by omega) ⟨by simp [f3],by simp [f4],by simp [f5],by simp [f6],by simp [f8],by simp [f9],by simp [f10],.inr (.inl ⟨rfl,rfl,by simp,by simp [f11],_,by simp [hE2,ringsC,ringC];rfl⟩)⟩
  ·rw [if_neg hr] at hat
   subst hat
   have hacc:acceptM l t now v=⟨l.fine,setR 60 l.wide t v⟩:=by unfold acceptM;rw [if_neg hr]
   simp [f9,f12,f10,f5,hE2,ringsC,ringC]
   simp only [ringC] at kr2
   refine qc_same kr2 (by simp [AV.pure]) (by simp) ?_
   have kS:=pSet_ok (G:=G) 60 l.wide (z2_of h) h.r2 t (by omega) v hv2
   simp only [ringC] at kS
   simp [f8,f9,f10,f11,f12]
   refine ac_same kS (by simp [AV.pure]) ?_
   rintro r rfl
   simp [f8,f9,f12,ringC,wk2,splice]
   exact nx_intro 0 (by omega) ⟨by simp [f3],by simp [f4],by simp [f5],by simp [f6],by simp [f8],by simp [f9],by simp [f10],.inr (.inr ⟨rfl,by simp,_,by simp [hE2,ringsC,ringC,hacc];rfl⟩)⟩
 ·subst ha0
  have hr:now<t/10*10+60:=by
   refine Classical.byContradiction fun hr=> ?_
   rw [if_neg hr] at hat;omega
  obtain ⟨F,hF⟩:∃F,F=setR 10 l.fine t v:=⟨_,rfl⟩
  have hFr:RightR 10 F:=by rw [hF];exact right_setR h.r1 (by omega) hv hv2
  have hFz:Sized 10 F:=by rw [hF];exact ⟨by omega,by omega,by rw [len_setR,h.n1];omega,by rw [len_setR,h.n1];omega⟩
  obtain ⟨T0,hT0⟩:∃T0,T0=t/60*60:=⟨_,rfl⟩
  have hT0t:T0≤t:=by rw [hT0];exact Nat.div_mul_le_self t 60
  have hacc:acceptM l t now v=if (coarse F t).1 then ⟨F,l.wide⟩ else ⟨F,setR 60 l.wide t (coarse F t).2⟩:=by
   unfold acceptM;rw [if_pos hr,←hF]
  have hwT:IntKind.i64.wrap ((t:Int)-(t:Int).tmod 60)=(T0:Int):=by
   have e:(t:Int).tmod 60=((t%60:Nat):Int):=tmod_nat t 60
   rw [e,sub_mod,hT0];exact wrap_i64 (by omega) (by omega)
  have kC:=coarser_ok (G:=G) l F hFz hFr T0 (by omega)
  have hco:(if (parts F T0 6).length<3 then (true,0) else avgN (parts F T0 6))=coarse F t:=by unfold coarse;rw [hT0]
  rw [hco] at kC
  rw [←hF]
  obtain ⟨n,hn0⟩:∃n,n=coarse F t:=⟨_,rfl⟩
  rw [←hn0] at kC hacc
  simp [f9,f12,f10,f5,hE2,ringsC,ringC]
  simp only [ringC] at kr2
  refine qc_same kr2 (by simp [AV.pure]) (by simp) ?_
  simp only [ringC,ladC,ringsC,numA] at kC
  simp [f3,f8,f9,f10,f11,f12,wk0,ladC,ringsC,ringC,hwT]
  refine qc_same kC (by simp [AV.pure]) (by simp) ?_
  by_cases hnn:n.1=true
  ·rw [if_pos hnn] at hacc
   simp [hnn,f12,wk2,splice,tail_get,tail_set]
   exact nx_intro 0 (by omega) ⟨by simp [f3],by simp [f4],by simp [f5],by simp [f6],by simp [f8],by simp [f9],by simp [f10],.inr (.inr ⟨rfl,by simp,_,by simp [hE2,ladC,ringsC,ringC,hacc];rfl⟩)⟩
  ·rw [if_neg hnn] at hacc
   have hv':i64 n.2∧n.2≠ -9223372036854775808:=by
    have hn1:n.1=false:=by simpa using hnn
    rw [hn0] at hn1⊢
    unfold coarse at hn1⊢
    split
    ·rename_i hc;rw [if_pos hc] at hn1;cases hn1
    ·rename_i hc;rw [if_neg hc] at hn1;exact divN_ok _ _ hn1
   have kS:=pSet_ok (G:=G) 60 l.wide (z2_of h) h.r2 t (by omega) n.2 hv'.2
   simp only [ringC] at kS
   simp [hnn,f9,f10,f12,splice,tail_get,tail_set]
   refine ac_same kS (by simp [AV.pure]) ?_
   rintro r rfl
   simp [f9,f12,ringC,wk2,splice,tail_get,tail_set]
   exact nx_intro 0 (by omega) ⟨by simp [f3],by simp [f4],by simp [f5],by simp [f6],by simp [f8],by simp [f9],by simp [f10],.inr (.inr ⟨rfl,by simp,_,by simp [hE2,ladC,ringsC,ringC,hacc];rfl⟩)⟩
 ·have hrl:∀x,(ringsC x).length=2:=fun _=>rfl
  simp [f3,f6,f9,f12,ladC,hE3,splice,hrl,ringsC_fz]
end Go.Proofs.YtdbhocoeolhjhaaGreatDoor
end
section
namespace Go.Abs
open Go.RowKit Go.Proofs Go.Shelf
variable {G:Globs}
section
variable {P:Program} {ρ:Ren} {σ:Store}
theorem grow_nil_ok (L:Lays8.n4 P ρ) (i0:TypeInfo) (z:Value) (hi0:P.info? (ρ.t 25)=some i0) (hz0:i0.zero=some z) (hs0:0<i0.size) (hzs:z.cells.size=i0.size) (im:Bool) {n:Nat} (hb:n*i0.bytes≤140737488355328) (h62:n≤4611686018427387904):
  ACalls P (ρ.f 4) [.nils,.int .i64 n] σ (fun r σ'=>r=.row σ.length 0∧σ'=σ++ [.row (ρ.t 25) i0.size [] im]):=by
 intro base κ Im w vs hs hv
 obtain ⟨u,v,rfl,hu,hv⟩:∃u v,vs= [u,v]∧VR κ Im w .nils u∧VR κ Im w (.int .i64 n) v:=by
  match vs,hv.1 with
  | [u,v],_=>exact ⟨u,v,rfl,hv.2 0 (by simp) (by simp),hv.2 1 (by simp) (by simp)⟩
 have e1:=hu.nils_inv
 have e2:=hv.int_inv
 subst e1;subst e2
 by_cases hn:n=0
 ·subst hn
  refine (Any8.slices_Grow_room L none 0 0 0 w (Nat.le_refl _) (by omega) (by omega) (Nat.le_refl _)).mono ?_
  rintro e w' ⟨rfl,rfl⟩
  obtain ⟨κ',Im',h1,h2,h3⟩:=new_row (e:=ρ.t 25) (size:=i0.size) (n:=0) (m:= []) (im:=im) (v:=.slice none 0 0) (w':=w') (xs:= []) hs rfl hs0 (by simp) (by simp) ⟨by simp,.inl ⟨rfl,rfl⟩⟩ (fun _ _=>rfl) (Nat.le_refl _) rfl rfl rfl ⟨rfl,fun j h=>by simp at h⟩ (fun _=>⟨rfl,fun j h=>by simp at h⟩)
  exact ⟨_,_,_,κ',Im',rfl,⟨rfl,rfl⟩,h2,h3,h1⟩
 ·refine (Any8.slices_Grow_grow L i0 z hi0 hz0 hs0 none 0 0 n [] w (Nat.le_refl _) (by omega) (by simpa using hb) (by omega) (by simp) (fun _=>rfl) (fun _ h=>by cases h)).mono ?_
  rintro e w' ⟨rfl,rfl⟩
  have hge:=grownCap_ge w (0+n) 0 (ρ.t 25)
  have hle:=grownCap_le_maxLen w (0+n) 0 (ρ.t 25) (by unfold maxLen;omega)
  have hown:(w.drew.alloc (.cells (([]:List Value).toArray++Builtin.zeroCells z.cells (0+n-0)++Builtin.zeroCells z.cells (grownCap w (0+n) 0 (ρ.t 25)-(0+n))) (ρ.t 25))).ownsRow w.heap.size (ρ.t 25) i0.size (.slice (some ⟨w.heap.size,0,none⟩) 0 (grownCap w (0+n) 0 (ρ.t 25))) 0 []:=by
   refine ⟨by simp,.inr ⟨w.heap.size,_,_,rfl,Nat.le_refl _,heap_alloc_new w.drew _,Nat.zero_le _,hle, ?_,by simp⟩⟩
   simp only [Array.size_append,size_zeroCells,List.size_toArray,List.length_nil,Nat.zero_add,hzs,←Nat.add_mul]
   rw [Nat.zero_add] at hge;congr 1;omega
  obtain ⟨κ',Im',h1,h2,h3⟩:=new_row (e:=ρ.t 25) (size:=i0.size) (n:=0) (m:= []) (im:=im) (xs:= []) hs rfl hs0 (by simp) (by simp) hown (fun k hk=>heap_alloc_old w.drew _ hk) (by simp) rfl rfl rfl ⟨rfl,fun j h=>by simp at h⟩ (fun _=>⟨rfl,fun j h=>by simp at h⟩)
  exact ⟨_,_,_,κ',Im',rfl,⟨rfl,rfl⟩,h2,h3,h1⟩
end
end Go.Abs
end
section
set_option maxHeartbeats 4000000
namespace Go.Sf
open Go.Abs
theorem byteEls_app (a b:Txt):byteEls (a++b)=byteEls a++byteEls b:=by simp [byteEls]
theorem byteEls_els (l:Txt):Els 1 (byteEls l):=by
 refine ⟨fun c hc=> ?_,fun c hc=> ?_,fun c hc=> ?_⟩<;>obtain ⟨n,_,rfl⟩:=List.mem_map.1 hc<;>simp [AV.pure,AV.one]
theorem byteEls_length (l:Txt):(byteEls l).length=l.length:=by simp [byteEls]
theorem byteEls_fz (σ:Store) (m k:Nat) (l:Txt):((byteEls l).mapM fun (c:List AV)=>c.mapM (fz σ m k))=some (byteEls l):=fz_pure (byteEls_els l).2.1 (fun c hc=>by obtain ⟨n,_,rfl⟩:=List.mem_map.1 hc;simp)
end Go.Sf
namespace Go.Proofs.YtdbhocoeolhjhaaGreatDoor
open Go.Abs Go.RowKit Go.Sf
variable {G:Globs}
theorem growB_ok {σ:Store} {n:Nat} (hn:n≤2000000000):ACalls Tryz.prog n_slices_Grow_byte_byte [.nils,.int .i64 n] σ (fun r σ'=>r=.row σ.length 0∧σ'=σ++ [.row 5 1 [] true]):=by
 have hk:(Tryz.prog.info? (Tryz.laysGB_ren.t 25)).map (fun i=>(i.size,i.bytes,i.zero.map fun z=>z.cells.size))=some (1,1,some 1):=by kernel_rfl
 obtain ⟨i0,hi0,hk⟩:=Option.map_eq_some_iff.1 hk
 simp only [Prod.mk.injEq] at hk
 obtain ⟨h1,h3,hk⟩:=hk
 obtain ⟨z,hz,h2⟩:=Option.map_eq_some_iff.1 hk
 have:=grow_nil_ok (G:=G) (σ:=σ) Tryz.laysGB i0 z hi0 hz (by omega) (by omega) true (n:=n) (by rw [h3];omega) (by omega)
 rw [h1] at this
 exact this
theorem concatB_ok (a b:Txt) (ha:a.length≤1000000000) (hb:b.length≤1000000000):PCalls Tryz.prog n_slices_Concat_byte_byte [.lst [[.lst (byteEls a)],[.lst (byteEls b)]]] (fun r=>r=.lst (byteEls (a++b))):=by
 refine pcalls_of_awp hmix c_slices_Concat_byte_byte rfl ?_
 have la:=byteEls_length a
 have lb:=byteEls_length b
 simp [a_slices_Concat_byte_byte]
 refine lp_startx (fun n f σ=>∃i:Nat,n=2-i∧i≤2∧f 0=.lst [[.lst (byteEls a)],[.lst (byteEls b)]]∧f 9=.lst [[.lst (byteEls a)],[.lst (byteEls b)]]∧f 10=.int .i64 2∧f 11=.int .i64 i∧f 3=.int .i64 ((if i=0 then 0 else if i=1 then a.length else a.length+b.length:Nat):Int)∧σ= []) 2 ⟨0,rfl,by omega,by simp,by simp,by simp,by simp,by simp,rfl⟩ ?_
 rintro n f σ ⟨i,rfl,hi,h0,h9,h10,h11,h3,rfl⟩
 have hi3:i=0∨i=1∨i=2:=by omega
 rcases hi3 with rfl|rfl|rfl
 ·have hw:IntKind.i64.wrap (a.length:Int)=a.length:=wrap_i64 (by omega) (by omega)
  have hn:¬((a.length:Int)<0):=by omega
  simp at h3
  simp [h9,h10,h11,h3,la,hw,hn]
  exact nx_intro 1 (by omega) ⟨1,rfl,by omega,by simp [h0],by simp [h9],by simp [h10],by simp [wrap_i64],by simp,rfl⟩
 ·have hw:IntKind.i64.wrap ((a.length:Int)+b.length)=(a.length:Int)+b.length:=wrap_i64 (by omega) (by omega)
  have hn:¬((a.length:Int)+b.length<0):=by omega
  simp at h3
  simp [h9,h10,h11,h3,lb,hw,hn]
  exact nx_intro 0 (by omega) ⟨2,rfl,by omega,by simp [h0],by simp [h9],by simp [h10],by simp [wrap_i64],by simp,rfl⟩
 ·simp at h3
  simp [h9,h10,h11,h3]
  have hg:=growB_ok (G:=G) (σ:= []) (n:=a.length+b.length) (by omega)
  simp only [Int.natCast_add] at hg
  refine ac_eff hg ?_
  rintro r σ' ⟨rfl,rfl⟩
  simp [h0]
  clear h9 h10 h11 h3
  refine lp_startx (fun n f σ'=>∃i:Nat,n=2-i∧i≤2∧f 25=.lst [[.lst (byteEls a)],[.lst (byteEls b)]]∧f 26=.int .i64 2∧f 27=.int .i64 i∧f 6=.row 0 (byteEls (if i=0 then [] else if i=1 then a else a++b)).length∧σ'= [.row 5 1 (byteEls (if i=0 then [] else if i=1 then a else a++b)) true]) 2 ⟨0,rfl,by omega,by simp [h0],by simp,by simp,by simp [byteEls],by simp [byteEls]⟩ ?_
  rintro n f σ' ⟨i,rfl,hi,h25,h26,h27,h6,rfl⟩
  have hi3:i=0∨i=1∨i=2:=by omega
  rcases hi3 with rfl|rfl|rfl
  ·simp at h6
   simp [h25,h26,h27,h6]
   refine ap_row (byteEls []) (byteEls a) true (by simp) rfl (by omega) (byteEls_els a).1 (fun _=> .inl rfl) rfl (by simp [byteEls];omega) (by simp [byteEls];omega) ?_
   simp [h25,h26,h27]
   refine nx_intro 1 (by omega) ⟨1,rfl,by omega,by simp [h25],by simp [h26],by simp [wrap_i64], ?_, ?_⟩
   ·simp [byteEls]
   ·simp [byteEls]
  ·simp at h6
   simp [h25,h26,h27,h6]
   refine ap_row (byteEls a) (byteEls b) true (by simp) rfl (by omega) (byteEls_els b).1 (fun _=> .inl rfl) rfl (by simp [byteEls];omega) (by simp [byteEls];omega) ?_
   simp [h25,h26,h27]
   refine nx_intro 0 (by omega) ⟨2,rfl,by omega,by simp [h25],by simp [h26],by simp [wrap_i64], ?_, ?_⟩
   ·simp [byteEls_app]
   ·simp [byteEls_app]
  ·simp at h6
   simp [h25,h26,h27,h6]
end Go.Proofs.YtdbhocoeolhjhaaGreatDoor
end
section
set_option maxHeartbeats 4000000
namespace Go.Sf
open Go.Abs
def stepsT:List Int:= [0x00000000,0x105ec76f,0x20bd8ede,0x30e349b1,0x417b1dbc,0x5125dad3,0x61c69362,0x7198540d,0x82f63b78,0x92a8fc17,0xa24bb5a6,0xb21572c9,0xc38d26c4,0xd3d3e1ab,0xe330a81a,0xf36e6f75]
def stepsC:List AV:=stepsT.map (AV.int .u32)
def x32 (a b:Int):Int:=IntKind.u32.wrap (BitVec.ofInt IntKind.u32.bits a^^^BitVec.ofInt IntKind.u32.bits b).toNat
def a32 (a b:Int):Int:=IntKind.u32.wrap (BitVec.ofInt IntKind.u32.bits a&&&BitVec.ofInt IntKind.u32.bits b).toNat
def crcN (s:Int):Int:=x32 (s.fdiv 16) (stepsT.getD (a32 s 15).toNat 0)
def crcB (s:Int) (x:UInt8):Int:=crcN (crcN (x32 s (IntKind.u32.wrap x.toNat)))
def crcU (s:Int) (b:Txt):Int:=x32 IntKind.u32.max (b.foldl crcB (x32 IntKind.u32.max s))
def shrI (n:Int):Nat→Int
 |0=>n
 |k+1=>(shrI n k).fdiv 256
def lo8 (n:Int):UInt8:=UInt8.ofNat (IntKind.u8.wrap n).toNat
def leB (n:Int):Nat→Txt
 |0=> []
 |k+1=>leB n k++ [lo8 (shrI n k)]
def putB (b:Txt):Txt:=b++leB (crcU 0 b) 4
def frameB (p:Txt):Txt:=putB ([lo8 p.length,lo8 ((p.length:Int).fdiv 256)]++p)
theorem leB_len (n:Int):∀k,(leB n k).length=k
 |0=>rfl
 |k+1=>by simp [leB,leB_len n k]
theorem putB_len (b:Txt):(putB b).length=b.length+4:=by simp [putB,leB_len]
theorem frameB_len (p:Txt):(frameB p).length=p.length+6:=by simp [frameB,putB_len]
theorem u8_wrap_bounds (n:Int):0≤IntKind.u8.wrap n∧IntKind.u8.wrap n<256:=by
 simp [IntKind.wrap,IntKind.signed,IntKind.bits];omega
theorem lo8_nat (n:Int):((lo8 n).toNat:Int)=IntKind.u8.wrap n:=by
 have:=u8_wrap_bounds n
 simp only [lo8,UInt8.toNat_ofNat']
 omega
theorem a32_15 (s:Int):0≤a32 s 15∧a32 s 15<16:=by
 have h:(BitVec.ofInt IntKind.u32.bits s&&&BitVec.ofInt IntKind.u32.bits 15).toNat≤15:=by
  rw [BitVec.toNat_and]
  exact Nat.and_le_right
 unfold a32
 obtain ⟨x,hx⟩:∃x,x=(BitVec.ofInt IntKind.u32.bits s&&&BitVec.ofInt IntKind.u32.bits 15).toNat:=⟨_,rfl⟩
 rw [←hx] at h⊢
 simp [IntKind.wrap,IntKind.signed,IntKind.bits];omega
theorem steps_take {n:Nat} (h:n<16):(stepsC.drop n).take 1= [.int .u32 (stepsT.getD n 0)]:=by
 have:∀n:Fin 16,(stepsT.drop n.1).take 1= [stepsT.getD n.1 0]:=by decide
 unfold stepsC
 rw [←List.map_drop,←List.map_take,this ⟨n,h⟩];rfl
theorem crcN_eq (z:Int):∃n:Nat,n<16∧a32 z 15=n∧crcN z=x32 (z.fdiv 16) (stepsT.getD n 0):=by
 have h:=a32_15 z
 refine ⟨(a32 z 15).toNat,by omega,by omega,rfl⟩
end Go.Sf
namespace Go.Proofs.YtdbhocoeolhjhaaGreatDoor
open Go.Abs Go.RowKit Go.Sf
variable {G:Globs}
theorem inv_32 (s:Int):invStep (.int .u32 s)=some (.int .u32 (x32 IntKind.u32.max s)):=rfl
theorem bs_xor (a b:Int):bitStep .xor (.int .u32 a) (.int .u32 b)=some (.int .u32 (x32 a b)):=rfl
theorem bs_and (a b:Int):bitStep .and (.int .u32 a) (.int .u32 b)=some (.int .u32 (a32 a b)):=rfl
theorem bs_shr4 (a:Int):bitStep .shr (.int .u32 a) (.int .u64 4)=some (.int .u32 (a.fdiv 16)):=rfl
theorem bs_shr8 (a:Int):bitStep .shr (.int .u32 a) (.int .u64 8)=some (.int .u32 (a.fdiv 256)):=rfl
theorem bs_shr8i (a:Int):bitStep .shr (.int .i64 a) (.int .u64 8)=some (.int .i64 (a.fdiv 256)):=rfl
theorem byteEls_get {b:Txt} {i:Nat} {x:UInt8} (h:b[i]? =some x):(byteEls b)[i]? =some [.int .u8 x.toNat]:=by simp [byteEls,h]
attribute [-simp] bitStep invStep bitOp shiftOp
theorem crcUpdate_ok (hT:Globs.tab.lookup 2=some stepsC) (s:Int) (b:Txt) (hl:b.length≤1000000000):PCalls Tryz.prog n_crc_Update [.int .u32 s,.lst (byteEls b)] (fun r=>r=.int .u32 (crcU s b)):=by
 refine pcalls_of_awp hmix c_crc_Update rfl ?_
 have hbl:=byteEls_length b
 simp [a_crc_Update,inv_32,hbl]
 obtain ⟨s0,hs0⟩:∃s0,s0=x32 IntKind.u32.max s:=⟨_,rfl⟩
 rw [←hs0]
 refine lp_startx (fun x f σ=>∃i:Nat,x=b.length-i∧i≤b.length∧f 5=.int .u32 ((b.take i).foldl crcB s0)∧f 10=.lst (byteEls b)∧f 11=.int .i64 b.length∧f 12=.int .i64 i∧σ= []) b.length ?_ ?_
 ·exact ⟨0,by simp,by simp,by simp,by simp,by simp,by simp,by simp⟩
 rintro x f σ ⟨i,rfl,hi,f5,f10,f11,f12,rfl⟩
 simp [f11,f12]
 refine cb_dec (fun hlt=> ?_) (fun hge=> ?_)
 ·have hlt':i<b.length:=by omega
  have hwi:IntKind.i64.wrap ((i:Int)+1)=((i+1:Nat):Int):=by rw [wrap_i64 (by omega) (by omega)];omega
  obtain ⟨y,hy⟩:∃y,b[i]? =some y:=⟨_,List.getElem?_eq_getElem hlt'⟩
  have hc:=byteEls_get hy
  obtain ⟨hx1,hx2⟩:=List.getElem?_eq_some_iff.1 hc
  have hsn:b.take (i+1)=b.take i++ [y]:=by rw [List.take_add_one,hy];rfl
  simp [f5,f10,f12,hc,hx2,cellsAt,bs_xor]
  obtain ⟨s1,hs1⟩:∃s1,s1=(b.take i).foldl crcB s0:=⟨_,rfl⟩
  rw [←hs1]
  have hB:(b.take (i+1)).foldl crcB s0=crcN (crcN (x32 s1 (IntKind.u32.wrap y.toNat))):=by rw [hsn,List.foldl_append,←hs1];rfl
  refine lp_startx (fun x f σ=>∃k:Nat,x=2-k∧k≤2∧f 5=.int .u32 (if k=0 then x32 s1 (IntKind.u32.wrap y.toNat) else if k=1 then crcN (x32 s1 (IntKind.u32.wrap y.toNat)) else crcN (crcN (x32 s1 (IntKind.u32.wrap y.toNat))))∧f 10=.lst (byteEls b)∧f 11=.int .i64 b.length∧f 12=.int .i64 i∧f 20=.int .i64 k∧σ= []) 2 ?_ ?_
  ·exact ⟨0,by simp,by simp,by simp,by simp [f10],by simp [f11],by simp [f12],by simp,by simp⟩
  clear f5 f10 f11 f12
  rintro x f σ ⟨k,rfl,hk,f5,f10,f11,f12,f20,rfl⟩
  have hk3:k=0∨k=1∨k=2:=by omega
  rcases hk3 with rfl|rfl|rfl
  ·simp at f5
   obtain ⟨z,hz⟩:∃z,z=x32 s1 (IntKind.u32.wrap y.toNat):=⟨_,rfl⟩
   obtain ⟨n,hn16,hn,hcn⟩:=crcN_eq z
   have hst:n+1≤stepsC.length:=by simp [stepsC,stepsT];omega
   have hst':n<stepsC.length:=hst
   rw [←hz] at f5⊢
   simp [f5,f20,bs_shr4,bs_and,wk1,hn,hn16,cellsAt,hT,hst,hst',steps_take hn16,bs_xor]
   exact nx_intro 1 (by omega) ⟨1,rfl,by omega,by simp [hcn],by simp [f10],by simp [f11],by simp [f12],by simp,rfl⟩
  ·simp at f5
   obtain ⟨z,hz⟩:∃z,z=crcN (x32 s1 (IntKind.u32.wrap y.toNat)):=⟨_,rfl⟩
   obtain ⟨n,hn16,hn,hcn⟩:=crcN_eq z
   have hst:n+1≤stepsC.length:=by simp [stepsC,stepsT];omega
   have hst':n<stepsC.length:=hst
   rw [←hz] at f5⊢
   simp [f5,f20,bs_shr4,bs_and,wk2,hn,hn16,cellsAt,hT,hst,hst',steps_take hn16,bs_xor]
   exact nx_intro 0 (by omega) ⟨2,rfl,by omega,by simp [hcn],by simp [f10],by simp [f11],by simp [f12],by simp,rfl⟩
  ·simp at f5
   simp [f20,f12,hwi]
   exact nx_intro (b.length-(i+1)) (by omega) ⟨i+1,rfl,by omega,by simp [f5,hB],by simp [f10],by simp [f11],by simp,rfl⟩
 ·have hil:i=b.length:=by omega
  subst hil
  rw [List.take_length] at f5
  simp [f5,inv_32]
  simp [crcU,hs0]
end Go.Proofs.YtdbhocoeolhjhaaGreatDoor
end
section
set_option maxHeartbeats 4000000
namespace Go.Abs
variable [Globs]
theorem er_more {σ₀ ext:Store} {R:AV→Store→Prop} {t:Tg R} {res:List (Nat×Option (Bool×Nat))} {f:Frame} {tf:Tg f} (r:AV) (hr:(res.mapM (evalRes (σ₀++ext) f)).map tupOf=some r) (hru:r.under (σ₀++ext).length=true)
  (hu:∀e∈ext,e.under (σ₀++ext).length=true) (hR:R r (σ₀++ext)):er σ₀ R t res f tf (σ₀++ext):=by
 refine er_keep (σ₀++ext) r hr [] (by simp) (by simp) hru (fun i e he'=> ?_) hR
 rcases Nat.lt_or_ge i σ₀.length with hlt|hge2
 ·rw [List.getElem?_append_left hlt] at he'
  exact .inl he'
 ·rw [List.getElem?_append_right hge2] at he'
  exact .inr (hu e (List.mem_of_getElem? he'))
end Go.Abs
namespace Go.Proofs.YtdbhocoeolhjhaaGreatDoor
open Go.Abs Go.RowKit Go.Sf
variable {G:Globs}
attribute [-simp] bitStep invStep bitOp shiftOp
theorem lo8_el (n:Int):([AV.int .u8 (IntKind.u8.wrap n)]:List AV)= [.int .u8 (lo8 n).toNat]:=by rw [lo8_nat]
theorem byteEls_leB (b:Txt) (n:Int) (k:Nat):byteEls (b++leB n (k+1))=byteEls (b++leB n k)++ [[.int .u8 (IntKind.u8.wrap (shrI n k))]]:=by
 rw [lo8_el,leB,←List.append_assoc,byteEls_app];rfl
theorem crcSum_ok (hT:Globs.tab.lookup 2=some stepsC) (b:Txt) (hl:b.length≤1000000000):PCalls Tryz.prog n_crc_Sum [.lst (byteEls b)] (fun r=>r=.int .u32 (crcU 0 b)):=by
 refine pcalls_of_awp hmix c_crc_Sum rfl ?_
 simp [a_crc_Sum]
 refine ac_same (crcUpdate_ok hT 0 b hl) (by simp [AV.pure]) ?_
 rintro r rfl
 simp
theorem cloneB_0 (b:Txt) (h:b≠ []) (hl:b.length≤1000000000):ACalls Tryz.prog n_bytes_Clone [.lst (byteEls b)] [] (Cloned 5 1 (byteEls b) []):=by
 refine acalls_of_awp_e hmix c_bytes_Clone rfl ?_
 have hbl:=byteEls_length b
 simp [a_bytes_Clone]
 refine nl_of fun c hc=> ?_
 cases c
 ·simp
  refine ap_row [] (byteEls b) false (by simp) rfl (by decide) (byteEls_els b).1 (fun h=>by cases h) rfl (by omega) (by omega) ?_
  simp
  refine er_keep [.row 5 1 (byteEls b) false] (.row 0 (byteEls b).length) (by simp [tupOf]) [] (by simp) (by simp) (by simp [AV.under]) (fun i e he'=> ?_) (.inr ⟨rfl,rfl⟩)
  refine .inr ?_
  match i,he' with
  |0,he'=>
   simp only [List.getElem?_cons_zero,Option.some.injEq] at he'
   subst he'
   exact row_under (byteEls_els b).2.1
  |i+1,he'=>simp at he'
 ·have h0:byteEls b= []:=by
   refine Classical.byContradiction fun h=> ?_
   cases hc h
  rw [h0] at hbl
  exact absurd (List.length_eq_zero_iff.1 hbl.symm) h
theorem cloneB_ok (b:Txt) (h:b≠ []) (hl:b.length≤1000000000) {σ:Store}:ACalls Tryz.prog n_bytes_Clone [.lst (byteEls b)] σ (fun r σ'=>r=.row σ.length b.length∧σ'=σ++ [.row 5 1 (byteEls b) false]):=by
 refine (acalls_cloned (cloneB_0 b h hl) (by simp [AV.pure]) (byteEls_els b).2.1).mono ?_
 rintro r σ' (⟨h0,_,_⟩|⟨rfl,rfl⟩)
 ·have:=byteEls_length b
  rw [h0] at this
  exact absurd (List.length_eq_zero_iff.1 this.symm) h
 ·exact ⟨by rw [byteEls_length],rfl⟩
theorem crcPut_ok (hT:Globs.tab.lookup 2=some stepsC) (b:Txt) (h:b≠ []) (hl:b.length≤100000000) {σ:Store}:ACalls Tryz.prog n_crc_Put [.lst (byteEls b)] σ (fun r σ'=>r=.row σ.length (putB b).length∧σ'=σ++ [.row 5 1 (byteEls (putB b)) false]):=by
 refine acalls_of_awp_e hmix c_crc_Put rfl ?_
 simp [a_crc_Put]
 refine ac_eff (cloneB_ok b h (by omega)) ?_
 rintro r σ' ⟨rfl,rfl⟩
 simp
 refine ac_same (crcSum_ok hT b (by omega)) (by simp [AV.pure]) ?_
 rintro r rfl
 simp
 obtain ⟨s,hs⟩:∃s,s=crcU 0 b:=⟨_,rfl⟩
 rw [←hs]
 refine lp_startx (fun x f σ'=>∃k:Nat,x=4-k∧k≤4∧f 3=.row σ.length (b++leB s k).length∧f 4=.int .u32 (shrI s k)∧f 9=.int .i64 k∧σ'=σ++ [.row 5 1 (byteEls (b++leB s k)) false]) 4 ?_ ?_
 ·exact ⟨0,by simp,by simp,by simp [leB],by simp [shrI],by simp,by simp [leB]⟩
 rintro x f σ' ⟨k,rfl,hk,f3,f4,f9,rfl⟩
 simp [f9]
 have hll:(b++leB s k).length=b.length+k:=by simp [leB_len]
 have hbl:=byteEls_length (b++leB s k)
 refine cb_dec (fun hlt=> ?_) (fun hge=> ?_)
 ·have hk4:k<4:=by omega
  have hwk:IntKind.i64.wrap ((k:Int)+1)=((k+1:Nat):Int):=by rw [wrap_i64 (by omega) (by omega)];omega
  simp [f3,f4,f9,bs_shr8, -List.length_append]
  refine ap_row (byteEls (b++leB s k)) [[.int .u8 (IntKind.u8.wrap (shrI s k))]] false (by simp) (by simp [view]) (by decide) (by simp) (fun h=>by cases h) (by rw [hbl]) (by simp [hll, -List.length_append];omega) (by simp [hll, -List.length_append];omega) ?_
  simp [f4,f9,bs_shr8,hwk, -List.length_append]
  refine nx_intro (4-(k+1)) (by omega) ⟨k+1,rfl,by omega, ?_,by simp [shrI],by simp,by simp [byteEls_leB]⟩
  simp [leB,leB_len]
  omega
 ·have hk4:k=4:=by omega
  subst hk4
  have hbp:b++leB s 4=putB b:=by rw [hs];rfl
  rw [hbp] at f3⊢
  simp [f3]
  exact er_more (ext:= [.row 5 1 (byteEls (putB b)) false]) (.row σ.length (putB b).length) (by simp [tupOf,f3]) (by simp [AV.under]) (fun e he=>by simp only [List.mem_singleton] at he;subst he;exact row_under (byteEls_els _).2.1) ⟨rfl,rfl⟩
theorem framePut_ok (hT:Globs.tab.lookup 2=some stepsC) (p:Txt) (h:p≠ []) (hl:p.length≤512) {σ:Store}:ACalls Tryz.prog n_frame_Put [.lst (byteEls p)] σ (fun r σ'=>r=.tup [.row σ.length (frameB p).length,.int .i64 0]∧σ'=σ++ [.row 5 1 (byteEls (frameB p)) false]):=by
 refine acalls_of_awp_e hmix c_frame_Put rfl ?_
 have hbl:=byteEls_length p
 have hpos:0<p.length:=List.length_pos_iff.2 h
 have k1:p.length≠0:=by omega
 have k2:¬512<p.length:=by omega
 have k2':¬(512:Int)<p.length:=by omega
 have kc:=concatB_ok (G:=G) [lo8 p.length,lo8 ((p.length:Int).fdiv 256)] p (by simp) (by omega)
 have hb2:byteEls [lo8 p.length,lo8 ((p.length:Int).fdiv 256)]= [[.int .u8 (IntKind.u8.wrap p.length)],[.int .u8 (IntKind.u8.wrap ((p.length:Int).fdiv 256))]]:=by
  rw [lo8_el,lo8_el];rfl
 rw [hb2] at kc
 simp [a_frame_Put,hbl,k1,k2,k2',h,bs_shr8i]
 refine ac_same kc (by simp [AV.pure]) ?_
 rintro r rfl
 simp
 have kp:=crcPut_ok (G:=G) hT ([lo8 p.length,lo8 ((p.length:Int).fdiv 256)]++p) (by simp) (by simp;omega) (σ:=σ)
 refine ac_eff kp ?_
 rintro r σ' ⟨rfl,rfl⟩
 simp
 exact er_more (ext:= [.row 5 1 (byteEls (frameB p)) false]) (.tup [.row σ.length (frameB p).length,.int .i64 0]) (by simp [tupOf,frameB]) (by simp [AV.under]) (fun e he=>by simp only [List.mem_singleton] at he;subst he;exact row_under (byteEls_els _).2.1) ⟨rfl,rfl⟩
theorem number_ok (R0:Entry) (tl:Store) (b:Txt) (n:Int) (w:Nat) (hw:w≤8) (hl:b.length≤100000000):ACalls Tryz.prog n_segment_writer_number [.ptr 2 0,.int .i64 n,.int .i64 w] (R0:: .row 5 1 (byteEls b) false:: .var 268 [.row 1 b.length]::tl)
  (fun r σ'=>r=.tup []∧σ'=R0:: .row 5 1 (byteEls (b++leB n w)) false:: .var 268 [.row 1 (b++leB n w).length]::tl):=by
 refine acalls_of_awp_e hmix c_segment_writer_number rfl ?_
 simp [a_segment_writer_number]
 refine lp_startx (fun x f σ'=>∃k:Nat,x=w-k∧k≤w∧f 0=.ptr 2 0∧f 1=.int .i64 (shrI n k)∧f 6=.int .i64 w∧f 7=.int .i64 k∧σ'=R0:: .row 5 1 (byteEls (b++leB n k)) false:: .var 268 [.row 1 (b++leB n k).length]::tl) w ?_ ?_
 ·exact ⟨0,by simp,by simp,by simp,by simp [shrI],by simp,by simp,by simp [leB]⟩
 rintro x f σ' ⟨k,rfl,hk,f0,f1,f6,f7,rfl⟩
 have hll:(b++leB n k).length=b.length+k:=by simp [leB_len]
 have hbl:=byteEls_length (b++leB n k)
 simp [f6,f7, -List.length_append]
 refine cb_dec (fun hlt=> ?_) (fun hge=> ?_)
 ·have hwk:IntKind.i64.wrap ((k:Int)+1)=((k+1:Nat):Int):=by rw [wrap_i64 (by omega) (by omega)];omega
  simp [f0,f1,f7, -List.length_append]
  refine ap_row (byteEls (b++leB n k)) [[.int .u8 (IntKind.u8.wrap (shrI n k))]] false (by simp) (by simp [view]) (by decide) (by simp) (fun h=>by cases h) (by rw [hbl]) (by simp [hll, -List.length_append];omega) (by simp [hll, -List.length_append];omega) ?_
  simp [f0,f1,f7,bs_shr8i,hwk,splice, -List.length_append]
  refine nx_intro (w-(k+1)) (by omega) ⟨k+1,rfl,by omega,by simp [f0],by simp [shrI],by simp [f6],by simp, ?_⟩
  rw [byteEls_leB]
  simp [leB,leB_len]
  omega
 ·have hk4:k=w:=by omega
  subst hk4
  simp [-List.length_append]
  refine er_keep (R0:: .row 5 1 (byteEls (b++leB n k)) false:: .var 268 [.row 1 (b++leB n k).length]::tl) (.tup []) (by simp [tupOf]) [] (by simp) (by simp) (by simp [AV.under]) (fun i e he=> ?_) ⟨rfl,rfl⟩
  match i,he with
  |0,he=>exact .inl he
  |1,he=>
   simp only [List.getElem?_cons_succ,List.getElem?_cons_zero,Option.some.injEq] at he
   subst he
   exact .inr (row_under (byteEls_els _).2.1)
  |2,he=>
   simp only [List.getElem?_cons_succ,List.getElem?_cons_zero,Option.some.injEq] at he
   subst he
   exact .inr (by simp [Entry.under,AV.under])
  |i+3,he=>exact .inl he
end Go.Proofs.YtdbhocoeolhjhaaGreatDoor
end
section
set_option maxHeartbeats 4000000
namespace Go.Sf
open Go.Abs
def headC (path:Txt):List AV:= [.int .i64 1,.str path,.int .i64 1,.int .i64 500000,.lst rungsC,.int .i64 0,.int .i64 0,.int .i64 0,.int .i64 0]
def pointC (X:AV) (t now:Nat) (v:Int):List AV:= [.int .i64 2,.str [],.int .i64 0,.int .i64 0,X,.int .i64 0,.int .i64 t,.int .i64 now,.int .i64 v]
def slotR (X:AV) (r t:Nat) (v:Int):List AV:= [.int .i64 3,.str [],.int .i64 0,.int .i64 0,X,.int .i64 r,.int .i64 t,.int .i64 0,.int .i64 v]
def Blank (X:AV):Prop:=X=.nils∨X=.lst []
def headB (path:Txt):Txt:= [lo8 1]++leB path.length 2++path++leB 1 1++leB 500000 4++leB 2 1++leB 10 4++leB 6 2++leB 60 4++leB 5 2
def pointB (t now:Nat) (v:Int):Txt:= [lo8 2]++leB t 8++leB now 8++leB v 8
def slotB (r t:Nat) (v:Int):Txt:= [lo8 3]++leB r 1++leB t 8++leB v 8
theorem headB_len (p:Txt):(headB p).length=p.length+21:=by simp [headB,leB_len];omega
theorem pointB_len (t now:Nat) (v:Int):(pointB t now v).length=25:=by simp [pointB,leB_len]
theorem slotB_len (r t:Nat) (v:Int):(slotB r t v).length=18:=by simp [slotB,leB_len]
end Go.Sf
namespace Go.Proofs.YtdbhocoeolhjhaaGreatDoor
open Go.Abs Go.RowKit Go.Sf
variable {G:Globs}
theorem sTimed_ok (t:Nat) (h:t≤1099511627776):PCalls Tryz.prog n_segment_timed [.int .i64 t] (fun r=>r=.bool true):=by
 refine pcalls_of_awp hmix c_segment_timed rfl ?_
 have h1:(0:Int)≤t:=by omega
 have h2:(t:Int)≤1099511627776:=by omega
 simp [a_segment_timed,h1,h2,h]
theorem sBlankP_ok (X:AV) (hX:Blank X) (t now:Nat) (v:Int):PCalls Tryz.prog n_segment_blankHead [.agg (pointC X t now v)] (fun r=>r=.bool true):=by
 refine pcalls_of_awp hmix c_segment_blankHead rfl ?_
 rcases hX with rfl|rfl<;>simp [a_segment_blankHead,pointC]
theorem sBlankS_ok (X:AV) (hX:Blank X) (r t:Nat) (v:Int):PCalls Tryz.prog n_segment_blankHead [.agg (slotR X r t v)] (fun r=>r=.bool true):=by
 refine pcalls_of_awp hmix c_segment_blankHead rfl ?_
 rcases hX with rfl|rfl<;>simp [a_segment_blankHead,slotR]
theorem sRungs_ok:PCalls Tryz.prog n_segment_rungs [.lst rungsC] (fun r=>r=.bool true):=by
 refine pcalls_of_awp hmix c_segment_rungs rfl ?_
 simp [a_segment_rungs,rungsC]
 refine lp_startx (fun x f σ=>∃(i:Nat) (tl:Store),x=2-i∧i≤2∧f 13=.lst rungsC∧f 14=.int .i64 2∧f 15=.int .i64 i∧σ=tl) 2 ?_ ?_
 ·exact ⟨0,[],by simp,by simp,by simp [rungsC],by simp,by simp,by simp⟩
 rintro x f σ ⟨i,tl,hx,hi,f13,f14,f15,rfl⟩
 have hi3:i=0∨i=1∨i=2:=by omega
 rcases hi3 with rfl|rfl|rfl
 ·simp [f13,f14,f15,rungsC,wk1,tail_get,tail_set,splice]
  exact nx_intro 1 (by omega) ⟨1,_,rfl,by omega,by simp [f13,rungsC],by simp [f14],by simp,rfl⟩
 ·simp [f13,f14,f15,rungsC,wk2,tail_get,tail_set,splice]
  exact nx_intro 0 (by omega) ⟨2,_,rfl,by omega,by simp [f13,rungsC],by simp [f14],by simp,rfl⟩
 ·simp [f14,f15]
theorem sRightH_ok (p:Txt) (h0:p≠ []) (hl:p.length≤100):PCalls Tryz.prog n_segment_Right [.agg (headC p)] (fun r=>r=.bool true):=by
 refine pcalls_of_awp hmix c_segment_Right rfl ?_
 have h2:(p.length:Int)≤263:=by omega
 have h2':p.length≤263:=by omega
 simp [a_segment_Right,headC,h0,h2,h2']
 refine ac_same sRungs_ok (by simp [AV.pure,rungsC]) ?_
 rintro r rfl
 simp
theorem sRightP_ok (X:AV) (hX:Blank X) (t now:Nat) (v:Int) (ht:t≤1099511627776) (hn:now≤1099511627776) (hv:v≠ -9223372036854775808):PCalls Tryz.prog n_segment_Right [.agg (pointC X t now v)] (fun r=>r=.bool true):=by
 refine pcalls_of_awp hmix c_segment_Right rfl ?_
 have kB:=sBlankP_ok (G:=G) X hX t now v
 simp only [pointC] at kB
 rcases hX with rfl|rfl
 all_goals
  simp [a_segment_Right,pointC]
  refine ac_same kB (by simp [AV.pure]) ?_
  rintro r rfl
  simp
  refine ac_same (sTimed_ok t ht) (by simp) ?_
  rintro r rfl
  simp
  refine ac_same (sTimed_ok now hn) (by simp) ?_
  rintro r rfl
  simp [hv]
theorem sRightS_ok (X:AV) (hX:Blank X) (i t:Nat) (v:Int) (hi:i<4) (ht:t≤1099511627776) (hv:v≠ -9223372036854775808):PCalls Tryz.prog n_segment_Right [.agg (slotR X i t v)] (fun r=>r=.bool true):=by
 refine pcalls_of_awp hmix c_segment_Right rfl ?_
 have kB:=sBlankS_ok (G:=G) X hX i t v
 simp only [slotR] at kB
 have h1:(0:Int)≤i:=by omega
 have h2:(i:Int)<4:=by omega
 rcases hX with rfl|rfl
 all_goals
  simp [a_segment_Right,slotR]
  refine ac_same kB (by simp [AV.pure]) ?_
  rintro r rfl
  simp [h1,h2,hi]
  refine ac_same (sTimed_ok t ht) (by simp) ?_
  rintro r rfl
  simp [hv]
theorem b_one (n:Int):([[AV.int .u8 (IntKind.u8.wrap n)]]:List (List AV))=byteEls [lo8 n]:=by rw [lo8_el];rfl
theorem sPutP_ok (X:AV) (hX:Blank X) (t now:Nat) (v:Int) (ht:t≤1099511627776) (hn:now≤1099511627776) (hv:v≠ -9223372036854775808) (hv2:i64 v):PCalls Tryz.prog n_segment_Put [.agg (pointC X t now v)] (fun r=>r=.tup [.lst (byteEls (pointB t now v)),.int .i64 0]):=by
 refine pcalls_of_awp hmix c_segment_Put rfl ?_
 have kR:=sRightP_ok (G:=G) X hX t now v ht hn hv
 have hw:IntKind.i64.wrap v=v:=wrap_i64 hv2.1 hv2.2
 simp only [pointC] at kR
 rcases hX with rfl|rfl
 all_goals
  simp [a_segment_Put,pointC]
  refine ac_same kR (by simp [AV.pure]) ?_
  rintro r rfl
  simp
  rw [b_one]
  refine ac_eff (number_ok _ [] [lo8 2] t 8 (by omega) (by simp)) ?_
  rintro r σ' ⟨rfl,rfl⟩
  obtain ⟨b1,hb1⟩:∃b1,b1= [lo8 2]++leB t 8:=⟨_,rfl⟩
  have hlb1:b1.length=9:=by rw [hb1];simp [leB_len]
  rw [←hb1]
  simp
  refine ac_eff (number_ok _ [] b1 now 8 (by omega) (by omega)) ?_
  rintro r σ' ⟨rfl,rfl⟩
  obtain ⟨b2,hb2⟩:∃b2,b2=b1++leB now 8:=⟨_,rfl⟩
  have hlb2:b2.length=17:=by rw [hb2];simp [leB_len,hlb1]
  rw [←hb2]
  simp
  refine ac_eff (number_ok _ [] b2 v 8 (by omega) (by omega)) ?_
  rintro r σ' ⟨rfl,rfl⟩
  obtain ⟨b3,hb3⟩:∃b3,b3=b2++leB v 8:=⟨_,rfl⟩
  have hlb3:b3.length=25:=by rw [hb3];simp [leB_len,hlb2]
  rw [←hb3]
  simp
  have hb:b3=pointB t now v:=by rw [hb3,hb2,hb1];rfl
  rw [hb]
  simp [byteEls_fz,byteEls_length]
theorem sPutS_ok (X:AV) (hX:Blank X) (i t:Nat) (v:Int) (hi:i<4) (ht:t≤1099511627776) (hv:v≠ -9223372036854775808) (hv2:i64 v):PCalls Tryz.prog n_segment_Put [.agg (slotR X i t v)] (fun r=>r=.tup [.lst (byteEls (slotB i t v)),.int .i64 0]):=by
 refine pcalls_of_awp hmix c_segment_Put rfl ?_
 have kR:=sRightS_ok (G:=G) X hX i t v hi ht hv
 have hw:IntKind.i64.wrap v=v:=wrap_i64 hv2.1 hv2.2
 simp only [slotR] at kR
 rcases hX with rfl|rfl
 all_goals
  simp [a_segment_Put,slotR]
  refine ac_same kR (by simp [AV.pure]) ?_
  rintro r rfl
  simp
  rw [b_one]
  refine ac_eff (number_ok _ [] [lo8 3] i 1 (by omega) (by simp)) ?_
  rintro r σ' ⟨rfl,rfl⟩
  obtain ⟨b1,hb1⟩:∃b1,b1= [lo8 3]++leB i 1:=⟨_,rfl⟩
  have hlb1:b1.length=2:=by rw [hb1];simp [leB_len]
  rw [←hb1]
  simp
  refine ac_eff (number_ok _ [] b1 t 8 (by omega) (by omega)) ?_
  rintro r σ' ⟨rfl,rfl⟩
  obtain ⟨b2,hb2⟩:∃b2,b2=b1++leB t 8:=⟨_,rfl⟩
  have hlb2:b2.length=10:=by rw [hb2];simp [leB_len,hlb1]
  rw [←hb2]
  simp
  refine ac_eff (number_ok _ [] b2 v 8 (by omega) (by omega)) ?_
  rintro r σ' ⟨rfl,rfl⟩
  obtain ⟨b3,hb3⟩:∃b3,b3=b2++leB v 8:=⟨_,rfl⟩
  have hlb3:b3.length=18:=by rw [hb3];simp [leB_len,hlb2]
  rw [←hb3]
  simp
  have hb:b3=slotB i t v:=by rw [hb3,hb2,hb1];rfl
  rw [hb]
  simp [byteEls_fz,byteEls_length]
theorem sPutH_ok (p:Txt) (h0:p≠ []) (hl:p.length≤100):PCalls Tryz.prog n_segment_Put [.agg (headC p)] (fun r=>r=.tup [.lst (byteEls (headB p)),.int .i64 0]):=by
 refine pcalls_of_awp hmix c_segment_Put rfl ?_
 have kR:=sRightH_ok (G:=G) p h0 hl
 simp only [headC] at kR
 simp [a_segment_Put,headC]
 refine ac_same kR (by simp [AV.pure,rungsC]) ?_
 rintro r rfl
 simp
 rw [b_one]
 refine ac_eff (number_ok _ [] [lo8 1] p.length 2 (by omega) (by simp)) ?_
 rintro r σ' ⟨rfl,rfl⟩
 obtain ⟨b1,hb1⟩:∃b1,b1= [lo8 1]++leB p.length 2:=⟨_,rfl⟩
 have hlb1:b1.length=3:=by rw [hb1];simp [leB_len]
 rw [←hb1]
 simp
 refine aps_row (byteEls b1) false (by simp) (byteEls_length b1) (by omega) ?_
 simp [splice]
 rw [←byteEls_app]
 obtain ⟨b2,hb2⟩:∃b2,b2=b1++p:=⟨_,rfl⟩
 have hlb2:b2.length=p.length+3:=by rw [hb2];simp [hlb1];omega
 have hlb2':b1.length+p.length=b2.length:=by omega
 rw [←hb2,hlb2']
 refine ac_eff (number_ok _ [] b2 1 1 (by omega) (by omega)) ?_
 rintro r σ' ⟨rfl,rfl⟩
 obtain ⟨b3,hb3⟩:∃b3,b3=b2++leB 1 1:=⟨_,rfl⟩
 have hlb3:b3.length=p.length+4:=by rw [hb3];simp [leB_len,hlb2]
 rw [←hb3]
 simp
 refine ac_eff (number_ok _ [] b3 500000 4 (by omega) (by omega)) ?_
 rintro r σ' ⟨rfl,rfl⟩
 obtain ⟨b4,hb4⟩:∃b4,b4=b3++leB 500000 4:=⟨_,rfl⟩
 have hlb4:b4.length=p.length+8:=by rw [hb4];simp [leB_len,hlb3]
 rw [←hb4]
 simp [rungsC]
 refine ac_eff (number_ok _ [] b4 2 1 (by omega) (by omega)) ?_
 rintro r σ' ⟨rfl,rfl⟩
 obtain ⟨b5,hb5⟩:∃b5,b5=b4++leB 2 1:=⟨_,rfl⟩
 have hlb5:b5.length=p.length+9:=by rw [hb5];simp [leB_len,hlb4]
 rw [←hb5]
 simp [rungsC]
 obtain ⟨b6,hb6⟩:∃b6,b6=b5++leB 10 4:=⟨_,rfl⟩
 obtain ⟨b7,hb7⟩:∃b7,b7=b6++leB 6 2:=⟨_,rfl⟩
 obtain ⟨b8,hb8⟩:∃b8,b8=b7++leB 60 4:=⟨_,rfl⟩
 obtain ⟨b9,hb9⟩:∃b9,b9=b8++leB 5 2:=⟨_,rfl⟩
 have hlb6:b6.length=p.length+13:=by rw [hb6];simp [leB_len,hlb5]
 have hlb7:b7.length=p.length+15:=by rw [hb7];simp [leB_len,hlb6]
 have hlb8:b8.length=p.length+19:=by rw [hb8];simp [leB_len,hlb7]
 have hlb9:b9.length=p.length+21:=by rw [hb9];simp [leB_len,hlb8]
 have hbb:b9=headB p:=by rw [hb9,hb8,hb7,hb6,hb5,hb4,hb3,hb2,hb1];rfl
 obtain ⟨R0,hR0⟩:∃R0:Entry,R0=.var 74 (headC p):=⟨_,rfl⟩
 refine lp_startx (fun x f σ=>∃(i:Nat) (b:Txt) (tl:Store),x=2-i∧((i=0∧b=b5∧tl= [])∨(i=1∧b=b7∧tl.length=1)∨(i=2∧b=b9))∧f 4=.ptr 2 0∧f 49=.lst rungsC∧f 50=.int .i64 2∧f 51=.int .i64 i∧σ=R0:: .row 5 1 (byteEls b) false:: .var 268 [.row 1 b.length]::tl) 2 ?_ ?_
 ·exact ⟨0,b5,[],by simp,by simp,by simp,by simp [rungsC],by simp,by simp,by simp [hR0,headC,rungsC]⟩
 rintro x f σ ⟨i,b,tl,hx,hh,f4,f49,f50,f51,rfl⟩
 rcases hh with ⟨rfl,rfl,rfl⟩|⟨rfl,rfl,htl⟩|⟨rfl,rfl⟩
 ·simp [f4,f49,f50,f51,rungsC,splice]
  refine ac_eff (number_ok _ _ b 10 4 (by omega) (by omega)) ?_
  rintro r σ' ⟨rfl,rfl⟩
  rw [←hb6]
  simp [f4]
  refine ac_eff (number_ok _ _ b6 6 2 (by omega) (by omega)) ?_
  rintro r σ' ⟨rfl,rfl⟩
  rw [←hb7]
  simp [f51,wk1]
  exact nx_intro 1 (by omega) ⟨1,b7,_,rfl,.inr (.inl ⟨rfl,rfl,rfl⟩),by simp [f4],by simp [f49,rungsC],by simp [f50],by simp,rfl⟩
 ·obtain ⟨E,rfl⟩:∃E,tl= [E]:=List.length_eq_one_iff.1 htl
  simp [f4,f49,f50,f51,rungsC,splice]
  refine ac_eff (number_ok _ _ b 60 4 (by omega) (by omega)) ?_
  rintro r σ' ⟨rfl,rfl⟩
  rw [←hb8]
  simp [f4]
  refine ac_eff (number_ok _ _ b8 5 2 (by omega) (by omega)) ?_
  rintro r σ' ⟨rfl,rfl⟩
  rw [←hb9]
  simp [f51,wk2]
  exact nx_intro 0 (by omega) ⟨2,b9,_,rfl,.inr (.inr ⟨rfl,rfl⟩),by simp [f4],by simp [f49,rungsC],by simp [f50],by simp,rfl⟩
 ·simp [f4,f50,f51,byteEls_fz,byteEls_length,hbb]
end Go.Proofs.YtdbhocoeolhjhaaGreatDoor
end
