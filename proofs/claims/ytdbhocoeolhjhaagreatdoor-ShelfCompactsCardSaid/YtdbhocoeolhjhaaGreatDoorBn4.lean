/- Shelf: the document's ladder takes points. Shelf: the document's Fold. Shelf: rings and ladders of the program. Shelf: the program's ladder takes poin -/
import Derived.Test.YtdbhocoeolhjhaaGreatDoorAbs2
import Derived.Shelf.Spec.SlicesGrow
import Derived.Test.YtdbhocoeolhjhaaGreatDoorLay
import Derived.Test.YtdbhocoeolhjhaaGreatDoorBn1
import Derived.Test.YtdbhocoeolhjhaaGreatDoorBn2
import Derived.Test.YtdbhocoeolhjhaaGreatDoorBn3
set_option linter.unusedSimpArgs false
set_option linter.unusedVariables false
set_option linter.constructorNameAsVariable false
section
set_option maxHeartbeats 4000000
namespace Go.Sf
open Go.Abs Go.Num
def zdh (l:List Int):List (List AV):=l.map fun (v:Int)=> [AV.int .i64 v]
theorem zi3 (l:List Int):(zdh l).length=l.length:=by simp [zdh]
theorem zdO {l:List Int} {i:Nat} {v:Int} (h:l[i]? =some v):(zdh l)[i]? =some [AV.int .i64 v]:=by simp [zdh,h]
theorem zq0 (l:List Int) (v:Int):zdh (l++ [v])=zdh l++ [[AV.int .i64 v]]:=by simp [zdh]
def numC (n:N):List AV:= [.bool n.1,.int .i64 n.2]
def sumF (l:List Int):N:=l.foldl (fun a v=>addN a (tell v)) (tell 0)
def zes (a:N) (l:List Int):N:=l.foldl (fun a v=>zpH a (tell v)) a
def zew (a:N) (l:List Int):N:=l.foldl (fun a v=>zpI a (tell v)) a
theorem zga (l:List Int) (v:Int):sumF (l++ [v])=addN (sumF l) (tell v):=by simp [sumF]
theorem zf3 (a:N) (l:List Int) (v:Int):zes a (l++ [v])=zpH (zes a l) (tell v):=by simp [zes]
theorem zf0 (a:N) (l:List Int) (v:Int):zew a (l++ [v])=zpI (zew a l) (tell v):=by simp [zew]
end Go.Sf
namespace Go.Proofs.YtdbhocoeolhjhaaGreatDoor
open Go.Abs Go.RowKit Go.Sf Go.Num
variable {G:Globs}
theorem zdQ (l:List Int):okN (sumF l):=by
 suffices h:∀(l:List Int) (a:N),okN a→okN (l.foldl (fun a v=>addN a (tell v)) a) from h l _ (zaB 0)
 intro l
 induction l with
 |nil=>intro a h;exact h
 |cons v l ih=>intro a h;exact ih _ (z7v _ _)
theorem ziW (l:List Int):∀a,okN a→okN (zes a l):=by
 induction l with
 |nil=>intro a h;exact h
 |cons v l ih=>intro a h;exact ih _ (z7c h (zaB v))
theorem ziU (l:List Int):∀a,okN a→okN (zew a l):=by
 induction l with
 |nil=>intro a h;exact h
 |cons v l ih=>intro a h;exact ih _ (z6Y h (zaB v))
theorem zvk (l:List Int) (h0:l≠ []) (hl:l.length≤1000) (hv:∀v∈l,i64 v):PCalls Tryz.prog zk1 [.int .i64 1,.lst (zdh l)] (fun r=>r=numA (avgN l)):=by
 refine zaa hmix zk3 rfl ?_
 have hle:=zi3 l
 have hpos:0<l.length:=yda.2 h0
 have k0:¬((l.length:Int)=0):=by omega
 have k0':l.length≠0:=by omega
 obtain ⟨v0,hv0⟩:∃v0,l[0]? =some v0:=⟨_,yad hpos⟩
 have hc0:=zdO hv0
 obtain ⟨hx1,hx2⟩:=yaa.1 hc0
 have hi0:=hv v0 (yaf hv0)
 have ki:∀i v,l[i]? =some v→(zdh l)[i]? =some [AV.int .i64 v]:=fun i v h=>zdO h
 have q0:PCalls Tryz.prog zaX [.int .i64 0] (fun r=>r=.agg (numC (tell 0))):=zna 0 (by omega) (by omega)
 have q1:PCalls Tryz.prog zaX [.int .i64 v0] (fun r=>r=.agg (numC (tell v0))):=zna v0 hi0.1 hi0.2
 simp [zf6,hle,k0,k0',h0]
 refine ⟨?_, ?_, ?_, ?_, ?_, ?_⟩
 ·refine zaq q0 (by simp) (by simp [numC]) ?_
  simp [hpos,hc0,hx2]
  refine zaq q1 (by simp) (by simp [numC]) ?_
  simp [hpos,hc0,hx2]
  refine zaq q1 (by simp) (by simp [numC]) ?_
  simp [numC,splice]
  refine zah (fun x f σ=>∃(i:Nat) (tl:zac),x=l.length-i∧i≤l.length∧f 0=.int .i64 1∧f 1=.lst (zdh l)∧f 4=.ptr 0 0∧f 5=.ptr 1 0∧f 6=.ptr 2 0∧f 7=.ptr 3 0∧f 8=.int .i64 i∧
   σ=.var 182 [.bool false,.int .i64 0]:: .var 182 (numC (sumF (l.take i))):: .var 182 (numC (zes (tell v0) (l.take i))):: .var 182 (numC (zew (tell v0) (l.take i)))::tl) l.length ?_ ?_
  ·exact ⟨0,[],by simp,by simp,by simp,by simp,by simp,by simp,by simp,by simp,by simp,by simp [numC,sumF,zes,zew]⟩
  rintro x f σ ⟨i,tl,hx,hi,g0,g1,g4,g5,g6,g7,g8,rfl⟩
  simp [g1,g8,hle]
  refine zax (fun hlt=> ?_) (fun hge=> ?_)
  ·have hlt':i<l.length:=by omega
   have hwi:IntKind.i64.wrap ((i:Int)+1)=((i+1:Nat):Int):=by rw [wrap_i64 (by omega) (by omega)];omega
   obtain ⟨v,hvi⟩:∃v,l[i]? =some v:=⟨_,yad hlt'⟩
   have hc:=zdO hvi
   obtain ⟨hy1,hy2⟩:=yaa.1 hc
   have hvv:=hv v (yaf hvi)
   have hsn:l.take (i+1)=l.take i++ [v]:=by rw [yax,hvi];rfl
   have qv:PCalls Tryz.prog zaX [.int .i64 v] (fun r=>r=.agg (numC (tell v))):=zna v hvv.1 hvv.2
   have qa:PCalls Tryz.prog zbp [.agg (numC (sumF (l.take i))),.agg (numC (tell v))] (fun r=>r=.agg (numC (sumF (l.take (i+1))))):=by rw [hsn,zga];exact zjd _ _ (zdQ _) (zaB v)
   have ql:PCalls Tryz.prog zbd [.agg (numC (zes (tell v0) (l.take i))),.agg (numC (tell v))] (fun r=>r=.agg (numC (zes (tell v0) (l.take (i+1))))):=by rw [hsn,zf3];exact zgG _ _ (ziW _ _ (zaB v0)) (zaB v)
   have qm:PCalls Tryz.prog zbe [.agg (numC (zew (tell v0) (l.take i))),.agg (numC (tell v))] (fun r=>r=.agg (numC (zew (tell v0) (l.take (i+1))))):=by rw [hsn,zf0];exact zhg _ _ (ziU _ _ (zaB v0)) (zaB v)
   simp [g1,g8,hc,hy2]
   refine zad qv (by simp) ?_
   rintro r rfl
   simp only [numC] at qa ql qm
   simp [g5,g6,g7,numC,zam,zal,splice]
   refine zad qa (by simp) ?_
   rintro r rfl
   simp [g5,g6,g7,numC,zam,zal,splice]
   refine zad ql (by simp) ?_
   rintro r rfl
   simp [g5,g6,g7,numC,zam,zal,splice]
   refine zad qm (by simp) ?_
   rintro r rfl
   simp [g5,g6,g7,g8,numC,zam,zal,splice,hwi]
   exact zae (l.length-(i+1)) (by omega) ⟨i+1,tl++ [.var 182 (numC (tell v))],rfl,by omega,by simp [g0],by simp [g1],by simp [g4],by simp [g5],by simp [g6],by simp [g7],by simp,by simp [numC]⟩
  ·have hil:i=l.length:=by omega
   subst hil
   rw [ya1]
   have qd:PCalls Tryz.prog zbl [.agg (numC (sumF l)),.agg (numC (tell (l.length*1000000)))] (fun r=>r=.agg (numC (avgN l))):=zjc _ _ (zdQ _) (zaB _)
   have qi:PCalls Tryz.prog zbo [.int .i64 l.length] (fun r=>r=.agg (numC (tell (l.length*1000000)))):=zmf _ (by omega) (by omega)
   simp [g0,g1,g5,hle,numC]
   refine zaq qi (by simp) (by simp [numC]) ?_
   simp only [numC] at qd
   simp [numC]
   refine zaq qd (by simp) (by simp) ?_
   simp [g4,splice,numA]
 ·refine zaq q0 (by simp) (by simp [numC]) ?_
  simp [hpos,hc0,hx2]
  refine zaq q1 (by simp) (by simp [numC]) ?_
  simp [hpos,hc0,hx2]
  refine zaq q1 (by simp) (by simp [numC]) ?_
  simp [numC,splice]
  refine zah (fun x f σ=>∃(i:Nat) (tl:zac),x=l.length-i∧i≤l.length∧f 0=.int .i64 1∧f 1=.lst (zdh l)∧f 4=.ptr 0 0∧f 5=.ptr 2 0∧f 6=.ptr 1 0∧f 7=.ptr 3 0∧f 8=.int .i64 i∧
   σ=.var 182 [.bool false,.int .i64 0]:: .var 182 (numC (zes (tell v0) (l.take i))):: .var 182 (numC (sumF (l.take i))):: .var 182 (numC (zew (tell v0) (l.take i)))::tl) l.length ?_ ?_
  ·exact ⟨0,[],by simp,by simp,by simp,by simp,by simp,by simp,by simp,by simp,by simp,by simp [numC,sumF,zes,zew]⟩
  rintro x f σ ⟨i,tl,hx,hi,g0,g1,g4,g5,g6,g7,g8,rfl⟩
  simp [g1,g8,hle]
  refine zax (fun hlt=> ?_) (fun hge=> ?_)
  ·have hlt':i<l.length:=by omega
   have hwi:IntKind.i64.wrap ((i:Int)+1)=((i+1:Nat):Int):=by rw [wrap_i64 (by omega) (by omega)];omega
   obtain ⟨v,hvi⟩:∃v,l[i]? =some v:=⟨_,yad hlt'⟩
   have hc:=zdO hvi
   obtain ⟨hy1,hy2⟩:=yaa.1 hc
   have hvv:=hv v (yaf hvi)
   have hsn:l.take (i+1)=l.take i++ [v]:=by rw [yax,hvi];rfl
   have qv:PCalls Tryz.prog zaX [.int .i64 v] (fun r=>r=.agg (numC (tell v))):=zna v hvv.1 hvv.2
   have qa:PCalls Tryz.prog zbp [.agg (numC (sumF (l.take i))),.agg (numC (tell v))] (fun r=>r=.agg (numC (sumF (l.take (i+1))))):=by rw [hsn,zga];exact zjd _ _ (zdQ _) (zaB v)
   have ql:PCalls Tryz.prog zbd [.agg (numC (zes (tell v0) (l.take i))),.agg (numC (tell v))] (fun r=>r=.agg (numC (zes (tell v0) (l.take (i+1))))):=by rw [hsn,zf3];exact zgG _ _ (ziW _ _ (zaB v0)) (zaB v)
   have qm:PCalls Tryz.prog zbe [.agg (numC (zew (tell v0) (l.take i))),.agg (numC (tell v))] (fun r=>r=.agg (numC (zew (tell v0) (l.take (i+1))))):=by rw [hsn,zf0];exact zhg _ _ (ziU _ _ (zaB v0)) (zaB v)
   simp [g1,g8,hc,hy2]
   refine zad qv (by simp) ?_
   rintro r rfl
   simp only [numC] at qa ql qm
   simp [g5,g6,g7,numC,zam,zal,splice]
   refine zad qa (by simp) ?_
   rintro r rfl
   simp [g5,g6,g7,numC,zam,zal,splice]
   refine zad ql (by simp) ?_
   rintro r rfl
   simp [g5,g6,g7,numC,zam,zal,splice]
   refine zad qm (by simp) ?_
   rintro r rfl
   simp [g5,g6,g7,g8,numC,zam,zal,splice,hwi]
   exact zae (l.length-(i+1)) (by omega) ⟨i+1,tl++ [.var 182 (numC (tell v))],rfl,by omega,by simp [g0],by simp [g1],by simp [g4],by simp [g5],by simp [g6],by simp [g7],by simp,by simp [numC]⟩
  ·have hil:i=l.length:=by omega
   subst hil
   rw [ya1]
   have qd:PCalls Tryz.prog zbl [.agg (numC (sumF l)),.agg (numC (tell (l.length*1000000)))] (fun r=>r=.agg (numC (avgN l))):=zjc _ _ (zdQ _) (zaB _)
   have qi:PCalls Tryz.prog zbo [.int .i64 l.length] (fun r=>r=.agg (numC (tell (l.length*1000000)))):=zmf _ (by omega) (by omega)
   simp [g0,g1,g5,hle,numC]
   refine zaq qi (by simp) (by simp [numC]) ?_
   simp only [numC] at qd
   simp [numC]
   refine zaq qd (by simp) (by simp) ?_
   simp [g4,splice,numA]
 ·refine zaq q0 (by simp) (by simp [numC]) ?_
  simp [hpos,hc0,hx2]
  refine zaq q1 (by simp) (by simp [numC]) ?_
  simp [hpos,hc0,hx2]
  refine zaq q1 (by simp) (by simp [numC]) ?_
  simp [numC,splice]
  refine zah (fun x f σ=>∃(i:Nat) (tl:zac),x=l.length-i∧i≤l.length∧f 0=.int .i64 1∧f 1=.lst (zdh l)∧f 4=.ptr 0 0∧f 5=.ptr 3 0∧f 6=.ptr 1 0∧f 7=.ptr 2 0∧f 8=.int .i64 i∧
   σ=.var 182 [.bool false,.int .i64 0]:: .var 182 (numC (zes (tell v0) (l.take i))):: .var 182 (numC (zew (tell v0) (l.take i))):: .var 182 (numC (sumF (l.take i)))::tl) l.length ?_ ?_
  ·exact ⟨0,[],by simp,by simp,by simp,by simp,by simp,by simp,by simp,by simp,by simp,by simp [numC,sumF,zes,zew]⟩
  rintro x f σ ⟨i,tl,hx,hi,g0,g1,g4,g5,g6,g7,g8,rfl⟩
  simp [g1,g8,hle]
  refine zax (fun hlt=> ?_) (fun hge=> ?_)
  ·have hlt':i<l.length:=by omega
   have hwi:IntKind.i64.wrap ((i:Int)+1)=((i+1:Nat):Int):=by rw [wrap_i64 (by omega) (by omega)];omega
   obtain ⟨v,hvi⟩:∃v,l[i]? =some v:=⟨_,yad hlt'⟩
   have hc:=zdO hvi
   obtain ⟨hy1,hy2⟩:=yaa.1 hc
   have hvv:=hv v (yaf hvi)
   have hsn:l.take (i+1)=l.take i++ [v]:=by rw [yax,hvi];rfl
   have qv:PCalls Tryz.prog zaX [.int .i64 v] (fun r=>r=.agg (numC (tell v))):=zna v hvv.1 hvv.2
   have qa:PCalls Tryz.prog zbp [.agg (numC (sumF (l.take i))),.agg (numC (tell v))] (fun r=>r=.agg (numC (sumF (l.take (i+1))))):=by rw [hsn,zga];exact zjd _ _ (zdQ _) (zaB v)
   have ql:PCalls Tryz.prog zbd [.agg (numC (zes (tell v0) (l.take i))),.agg (numC (tell v))] (fun r=>r=.agg (numC (zes (tell v0) (l.take (i+1))))):=by rw [hsn,zf3];exact zgG _ _ (ziW _ _ (zaB v0)) (zaB v)
   have qm:PCalls Tryz.prog zbe [.agg (numC (zew (tell v0) (l.take i))),.agg (numC (tell v))] (fun r=>r=.agg (numC (zew (tell v0) (l.take (i+1))))):=by rw [hsn,zf0];exact zhg _ _ (ziU _ _ (zaB v0)) (zaB v)
   simp [g1,g8,hc,hy2]
   refine zad qv (by simp) ?_
   rintro r rfl
   simp only [numC] at qa ql qm
   simp [g5,g6,g7,numC,zam,zal,splice]
   refine zad qa (by simp) ?_
   rintro r rfl
   simp [g5,g6,g7,numC,zam,zal,splice]
   refine zad ql (by simp) ?_
   rintro r rfl
   simp [g5,g6,g7,numC,zam,zal,splice]
   refine zad qm (by simp) ?_
   rintro r rfl
   simp [g5,g6,g7,g8,numC,zam,zal,splice,hwi]
   exact zae (l.length-(i+1)) (by omega) ⟨i+1,tl++ [.var 182 (numC (tell v))],rfl,by omega,by simp [g0],by simp [g1],by simp [g4],by simp [g5],by simp [g6],by simp [g7],by simp,by simp [numC]⟩
  ·have hil:i=l.length:=by omega
   subst hil
   rw [ya1]
   have qd:PCalls Tryz.prog zbl [.agg (numC (sumF l)),.agg (numC (tell (l.length*1000000)))] (fun r=>r=.agg (numC (avgN l))):=zjc _ _ (zdQ _) (zaB _)
   have qi:PCalls Tryz.prog zbo [.int .i64 l.length] (fun r=>r=.agg (numC (tell (l.length*1000000)))):=zmf _ (by omega) (by omega)
   simp [g0,g1,g5,hle,numC]
   refine zaq qi (by simp) (by simp [numC]) ?_
   simp only [numC] at qd
   simp [numC]
   refine zaq qd (by simp) (by simp) ?_
   simp [g4,splice,numA]
 ·refine zaq q0 (by simp) (by simp [numC]) ?_
  simp [hpos,hc0,hx2]
  refine zaq q1 (by simp) (by simp [numC]) ?_
  simp [hpos,hc0,hx2]
  refine zaq q1 (by simp) (by simp [numC]) ?_
  simp [numC,splice]
  refine zah (fun x f σ=>∃(i:Nat) (tl:zac),x=l.length-i∧i≤l.length∧f 0=.int .i64 1∧f 1=.lst (zdh l)∧f 4=.ptr 0 0∧f 5=.ptr 1 0∧f 6=.ptr 3 0∧f 7=.ptr 2 0∧f 8=.int .i64 i∧
   σ=.var 182 [.bool false,.int .i64 0]:: .var 182 (numC (sumF (l.take i))):: .var 182 (numC (zew (tell v0) (l.take i))):: .var 182 (numC (zes (tell v0) (l.take i)))::tl) l.length ?_ ?_
  ·exact ⟨0,[],by simp,by simp,by simp,by simp,by simp,by simp,by simp,by simp,by simp,by simp [numC,sumF,zes,zew]⟩
  rintro x f σ ⟨i,tl,hx,hi,g0,g1,g4,g5,g6,g7,g8,rfl⟩
  simp [g1,g8,hle]
  refine zax (fun hlt=> ?_) (fun hge=> ?_)
  ·have hlt':i<l.length:=by omega
   have hwi:IntKind.i64.wrap ((i:Int)+1)=((i+1:Nat):Int):=by rw [wrap_i64 (by omega) (by omega)];omega
   obtain ⟨v,hvi⟩:∃v,l[i]? =some v:=⟨_,yad hlt'⟩
   have hc:=zdO hvi
   obtain ⟨hy1,hy2⟩:=yaa.1 hc
   have hvv:=hv v (yaf hvi)
   have hsn:l.take (i+1)=l.take i++ [v]:=by rw [yax,hvi];rfl
   have qv:PCalls Tryz.prog zaX [.int .i64 v] (fun r=>r=.agg (numC (tell v))):=zna v hvv.1 hvv.2
   have qa:PCalls Tryz.prog zbp [.agg (numC (sumF (l.take i))),.agg (numC (tell v))] (fun r=>r=.agg (numC (sumF (l.take (i+1))))):=by rw [hsn,zga];exact zjd _ _ (zdQ _) (zaB v)
   have ql:PCalls Tryz.prog zbd [.agg (numC (zes (tell v0) (l.take i))),.agg (numC (tell v))] (fun r=>r=.agg (numC (zes (tell v0) (l.take (i+1))))):=by rw [hsn,zf3];exact zgG _ _ (ziW _ _ (zaB v0)) (zaB v)
   have qm:PCalls Tryz.prog zbe [.agg (numC (zew (tell v0) (l.take i))),.agg (numC (tell v))] (fun r=>r=.agg (numC (zew (tell v0) (l.take (i+1))))):=by rw [hsn,zf0];exact zhg _ _ (ziU _ _ (zaB v0)) (zaB v)
   simp [g1,g8,hc,hy2]
   refine zad qv (by simp) ?_
   rintro r rfl
   simp only [numC] at qa ql qm
   simp [g5,g6,g7,numC,zam,zal,splice]
   refine zad qa (by simp) ?_
   rintro r rfl
   simp [g5,g6,g7,numC,zam,zal,splice]
   refine zad ql (by simp) ?_
   rintro r rfl
   simp [g5,g6,g7,numC,zam,zal,splice]
   refine zad qm (by simp) ?_
   rintro r rfl
   simp [g5,g6,g7,g8,numC,zam,zal,splice,hwi]
   exact zae (l.length-(i+1)) (by omega) ⟨i+1,tl++ [.var 182 (numC (tell v))],rfl,by omega,by simp [g0],by simp [g1],by simp [g4],by simp [g5],by simp [g6],by simp [g7],by simp,by simp [numC]⟩
  ·have hil:i=l.length:=by omega
   subst hil
   rw [ya1]
   have qd:PCalls Tryz.prog zbl [.agg (numC (sumF l)),.agg (numC (tell (l.length*1000000)))] (fun r=>r=.agg (numC (avgN l))):=zjc _ _ (zdQ _) (zaB _)
   have qi:PCalls Tryz.prog zbo [.int .i64 l.length] (fun r=>r=.agg (numC (tell (l.length*1000000)))):=zmf _ (by omega) (by omega)
   simp [g0,g1,g5,hle,numC]
   refine zaq qi (by simp) (by simp [numC]) ?_
   simp only [numC] at qd
   simp [numC]
   refine zaq qd (by simp) (by simp) ?_
   simp [g4,splice,numA]
 ·refine zaq q0 (by simp) (by simp [numC]) ?_
  simp [hpos,hc0,hx2]
  refine zaq q1 (by simp) (by simp [numC]) ?_
  simp [hpos,hc0,hx2]
  refine zaq q1 (by simp) (by simp [numC]) ?_
  simp [numC,splice]
  refine zah (fun x f σ=>∃(i:Nat) (tl:zac),x=l.length-i∧i≤l.length∧f 0=.int .i64 1∧f 1=.lst (zdh l)∧f 4=.ptr 0 0∧f 5=.ptr 2 0∧f 6=.ptr 3 0∧f 7=.ptr 1 0∧f 8=.int .i64 i∧
   σ=.var 182 [.bool false,.int .i64 0]:: .var 182 (numC (zew (tell v0) (l.take i))):: .var 182 (numC (sumF (l.take i))):: .var 182 (numC (zes (tell v0) (l.take i)))::tl) l.length ?_ ?_
  ·exact ⟨0,[],by simp,by simp,by simp,by simp,by simp,by simp,by simp,by simp,by simp,by simp [numC,sumF,zes,zew]⟩
  rintro x f σ ⟨i,tl,hx,hi,g0,g1,g4,g5,g6,g7,g8,rfl⟩
  simp [g1,g8,hle]
  refine zax (fun hlt=> ?_) (fun hge=> ?_)
  ·have hlt':i<l.length:=by omega
   have hwi:IntKind.i64.wrap ((i:Int)+1)=((i+1:Nat):Int):=by rw [wrap_i64 (by omega) (by omega)];omega
   obtain ⟨v,hvi⟩:∃v,l[i]? =some v:=⟨_,yad hlt'⟩
   have hc:=zdO hvi
   obtain ⟨hy1,hy2⟩:=yaa.1 hc
   have hvv:=hv v (yaf hvi)
   have hsn:l.take (i+1)=l.take i++ [v]:=by rw [yax,hvi];rfl
   have qv:PCalls Tryz.prog zaX [.int .i64 v] (fun r=>r=.agg (numC (tell v))):=zna v hvv.1 hvv.2
   have qa:PCalls Tryz.prog zbp [.agg (numC (sumF (l.take i))),.agg (numC (tell v))] (fun r=>r=.agg (numC (sumF (l.take (i+1))))):=by rw [hsn,zga];exact zjd _ _ (zdQ _) (zaB v)
   have ql:PCalls Tryz.prog zbd [.agg (numC (zes (tell v0) (l.take i))),.agg (numC (tell v))] (fun r=>r=.agg (numC (zes (tell v0) (l.take (i+1))))):=by rw [hsn,zf3];exact zgG _ _ (ziW _ _ (zaB v0)) (zaB v)
   have qm:PCalls Tryz.prog zbe [.agg (numC (zew (tell v0) (l.take i))),.agg (numC (tell v))] (fun r=>r=.agg (numC (zew (tell v0) (l.take (i+1))))):=by rw [hsn,zf0];exact zhg _ _ (ziU _ _ (zaB v0)) (zaB v)
   simp [g1,g8,hc,hy2]
   refine zad qv (by simp) ?_
   rintro r rfl
   simp only [numC] at qa ql qm
   simp [g5,g6,g7,numC,zam,zal,splice]
   refine zad qa (by simp) ?_
   rintro r rfl
   simp [g5,g6,g7,numC,zam,zal,splice]
   refine zad ql (by simp) ?_
   rintro r rfl
   simp [g5,g6,g7,numC,zam,zal,splice]
   refine zad qm (by simp) ?_
   rintro r rfl
   simp [g5,g6,g7,g8,numC,zam,zal,splice,hwi]
   exact zae (l.length-(i+1)) (by omega) ⟨i+1,tl++ [.var 182 (numC (tell v))],rfl,by omega,by simp [g0],by simp [g1],by simp [g4],by simp [g5],by simp [g6],by simp [g7],by simp,by simp [numC]⟩
  ·have hil:i=l.length:=by omega
   subst hil
   rw [ya1]
   have qd:PCalls Tryz.prog zbl [.agg (numC (sumF l)),.agg (numC (tell (l.length*1000000)))] (fun r=>r=.agg (numC (avgN l))):=zjc _ _ (zdQ _) (zaB _)
   have qi:PCalls Tryz.prog zbo [.int .i64 l.length] (fun r=>r=.agg (numC (tell (l.length*1000000)))):=zmf _ (by omega) (by omega)
   simp [g0,g1,g5,hle,numC]
   refine zaq qi (by simp) (by simp [numC]) ?_
   simp only [numC] at qd
   simp [numC]
   refine zaq qd (by simp) (by simp) ?_
   simp [g4,splice,numA]
 ·refine zaq q0 (by simp) (by simp [numC]) ?_
  simp [hpos,hc0,hx2]
  refine zaq q1 (by simp) (by simp [numC]) ?_
  simp [hpos,hc0,hx2]
  refine zaq q1 (by simp) (by simp [numC]) ?_
  simp [numC,splice]
  refine zah (fun x f σ=>∃(i:Nat) (tl:zac),x=l.length-i∧i≤l.length∧f 0=.int .i64 1∧f 1=.lst (zdh l)∧f 4=.ptr 0 0∧f 5=.ptr 3 0∧f 6=.ptr 2 0∧f 7=.ptr 1 0∧f 8=.int .i64 i∧
   σ=.var 182 [.bool false,.int .i64 0]:: .var 182 (numC (zew (tell v0) (l.take i))):: .var 182 (numC (zes (tell v0) (l.take i))):: .var 182 (numC (sumF (l.take i)))::tl) l.length ?_ ?_
  ·exact ⟨0,[],by simp,by simp,by simp,by simp,by simp,by simp,by simp,by simp,by simp,by simp [numC,sumF,zes,zew]⟩
  rintro x f σ ⟨i,tl,hx,hi,g0,g1,g4,g5,g6,g7,g8,rfl⟩
  simp [g1,g8,hle]
  refine zax (fun hlt=> ?_) (fun hge=> ?_)
  ·have hlt':i<l.length:=by omega
   have hwi:IntKind.i64.wrap ((i:Int)+1)=((i+1:Nat):Int):=by rw [wrap_i64 (by omega) (by omega)];omega
   obtain ⟨v,hvi⟩:∃v,l[i]? =some v:=⟨_,yad hlt'⟩
   have hc:=zdO hvi
   obtain ⟨hy1,hy2⟩:=yaa.1 hc
   have hvv:=hv v (yaf hvi)
   have hsn:l.take (i+1)=l.take i++ [v]:=by rw [yax,hvi];rfl
   have qv:PCalls Tryz.prog zaX [.int .i64 v] (fun r=>r=.agg (numC (tell v))):=zna v hvv.1 hvv.2
   have qa:PCalls Tryz.prog zbp [.agg (numC (sumF (l.take i))),.agg (numC (tell v))] (fun r=>r=.agg (numC (sumF (l.take (i+1))))):=by rw [hsn,zga];exact zjd _ _ (zdQ _) (zaB v)
   have ql:PCalls Tryz.prog zbd [.agg (numC (zes (tell v0) (l.take i))),.agg (numC (tell v))] (fun r=>r=.agg (numC (zes (tell v0) (l.take (i+1))))):=by rw [hsn,zf3];exact zgG _ _ (ziW _ _ (zaB v0)) (zaB v)
   have qm:PCalls Tryz.prog zbe [.agg (numC (zew (tell v0) (l.take i))),.agg (numC (tell v))] (fun r=>r=.agg (numC (zew (tell v0) (l.take (i+1))))):=by rw [hsn,zf0];exact zhg _ _ (ziU _ _ (zaB v0)) (zaB v)
   simp [g1,g8,hc,hy2]
   refine zad qv (by simp) ?_
   rintro r rfl
   simp only [numC] at qa ql qm
   simp [g5,g6,g7,numC,zam,zal,splice]
   refine zad qa (by simp) ?_
   rintro r rfl
   simp [g5,g6,g7,numC,zam,zal,splice]
   refine zad ql (by simp) ?_
   rintro r rfl
   simp [g5,g6,g7,numC,zam,zal,splice]
   refine zad qm (by simp) ?_
   rintro r rfl
   simp [g5,g6,g7,g8,numC,zam,zal,splice,hwi]
   exact zae (l.length-(i+1)) (by omega) ⟨i+1,tl++ [.var 182 (numC (tell v))],rfl,by omega,by simp [g0],by simp [g1],by simp [g4],by simp [g5],by simp [g6],by simp [g7],by simp,by simp [numC]⟩
  ·have hil:i=l.length:=by omega
   subst hil
   rw [ya1]
   have qd:PCalls Tryz.prog zbl [.agg (numC (sumF l)),.agg (numC (tell (l.length*1000000)))] (fun r=>r=.agg (numC (avgN l))):=zjc _ _ (zdQ _) (zaB _)
   have qi:PCalls Tryz.prog zbo [.int .i64 l.length] (fun r=>r=.agg (numC (tell (l.length*1000000)))):=zmf _ (by omega) (by omega)
   simp [g0,g1,g5,hle,numC]
   refine zaq qi (by simp) (by simp [numC]) ?_
   simp only [numC] at qd
   simp [numC]
   refine zaq qd (by simp) (by simp) ?_
   simp [g4,splice,numA]
theorem z1X (l:LadM) (h:RightL l) (t now:Nat) (ht:t≤1000000000) (hn:now≤1000000000):PCalls Tryz.prog zfp [.agg (ladC l),.agg [.int .i64 t,.int .i64 (-9223372036854775808)],.int .i64 now] (fun r=>r=.tup [.agg (ladC l),.int .i64 1]):=by
 refine zaa hmix zfk rfl ?_
 simp [zde,ladC]
 refine zad (zp3 l h) (by simp [AV.pure,ladC]) ?_
 rintro r rfl
 simp
 refine zad (zgY t (by omega)) (by simp) ?_
 rintro r rfl
 simp
 refine zad (zgY now (by omega)) (by simp) ?_
 rintro r rfl
 simp
theorem zny (l:LadM) (h:RightL l) (t now:Nat) (v:Int) (ht:t≤1000000000) (hn:now≤1000000000) (h1:t≤now) (h2:now≤t+79) (hv:i64 v) (hv2:v≠ -9223372036854775808):PCalls Tryz.prog zfp [.agg (ladC l),.agg [.int .i64 t,.int .i64 v],.int .i64 now] (fun r=>r=.tup [.agg (ladC (zcB l t now v)),.int .i64 0]):=by
 refine zaa hmix zfk rfl ?_
 have k1:¬((now:Int)<t):=by omega
 have k1':¬(now<t):=by omega
 have kr1:=zkI (G:=G) 10 l.fine (zsD h) t now (by omega) (by omega)
 have kr2:=zkI (G:=G) 60 l.wide (zpZ h) t now (by omega) (by omega)
 have hr2:now<t/60*60+60*l.wide.length:=by
  rw [h.n2]
  have:=ycf t 60
  have:=ybs t (show 0<60 by omega)
  omega
 rw [decide_eq_true hr2] at kr2
 rw [h.n1] at kr1
 simp [zde,ladC]
 refine zad (zp3 l h) (by simp [AV.pure,ladC]) ?_
 rintro r rfl
 simp
 refine zad (zgY t (by omega)) (by simp) ?_
 rintro r rfl
 simp
 refine zad (zgY now (by omega)) (by simp) ?_
 rintro r rfl
 simp [hv2,k1,k1']
 obtain ⟨E0,hE0⟩:∃E0:Entry,E0=.var 55 (ladC l):=⟨_,rfl⟩
 obtain ⟨E1,hE1⟩:∃E1:Entry,E1=.var 117 [.int .i64 t,.int .i64 v]:=⟨_,rfl⟩
 obtain ⟨E2,hE2⟩:∃E2:Entry,E2=.var 55 [.int .i64 0,.int .i64 0,.nils]:=⟨_,rfl⟩
 have wm1:IntKind.i64.wrap (-1)= -1:=by decide
 simp [zap,wk1]
 refine zah (fun x f σ=>f 2=.int .i64 now∧f 3=.ptr 0 0∧f 4=.ptr 1 0∧f 6=.ptr 2 0∧σ= [E0,E1,E2]∧((x=2∧f 9=.int .i64 1∧f 8=.int .i64 (-1))∨(x=1∧f 9=.int .i64 0∧f 8=.int .i64 1)∨(x=0∧f 9=.int .i64 (-1)∧f 8=.int .i64 (if now<t/10*10+60 then 0 else 1)))) 2 ?_ ?_
 ·exact ⟨by simp,by simp,by simp,by simp,by simp [hE0,hE1,hE2,ladC,zap],.inl ⟨rfl,by simp [wk1],by simp⟩⟩
 rintro x f σ ⟨f2,f3,f4,f6,rfl,⟨rfl,f9,f8⟩|⟨rfl,f9,f8⟩|⟨rfl,f9,f8⟩⟩
 ·simp [f2,f3,f4,f8,f9,hE0,hE1,ladC,zap,zai]
  simp only [zai] at kr2
  refine zaq kr2 (by simp [AV.pure]) (by simp) ?_
  simp [f9,wk0]
  exact zae 1 (by omega) ⟨by simp [f2],by simp [f3],by simp [f4],by simp [f6],by simp [hE0,hE1,ladC,zap,zai],.inr (.inl ⟨rfl,by simp,by simp⟩)⟩
 ·simp [f2,f3,f4,f8,f9,hE0,hE1,ladC,zap,zai]
  simp only [zai] at kr1
  refine zaq kr1 (by simp [AV.pure]) (by simp) ?_
  by_cases hr1:now<t/10*10+60
  ·simp [hr1,f9,wm1]
   exact zae 0 (by omega) ⟨by simp [f2],by simp [f3],by simp [f4],by simp [f6],by simp [hE0,hE1,ladC,zap,zai],.inr (.inr ⟨rfl,by simp,by simp [hr1]⟩)⟩
  ·simp [hr1,f9,wm1]
   exact zae 0 (by omega) ⟨by simp [f2],by simp [f3],by simp [f4],by simp [f6],by simp [hE0,hE1,ladC,zap,zai],.inr (.inr ⟨rfl,by simp,by simp [hr1,f8]⟩)⟩
 simp [f9]
 by_cases hr1:now<t/10*10+60
 ·simp [f8,f3,hr1,hE0,ladC]
  refine zar (zqC _ l h) ?_
  rintro r σ ⟨rfl,rfl⟩
  have kS:=zp2 (G:=G) 10 l.fine (zsD h) h.r1 t (by omega) v hv2
  simp only [zai] at kS
  simp [f8,f4,hr1,hE1,zap,zai,splice]
  refine zaZ kS (by simp [AV.pure]) ?_
  simp [splice,wk1,f8,hr1]
  obtain ⟨F,hF⟩:∃F,F=setR 10 l.fine t v:=⟨_,rfl⟩
  have hFr:zdj 10 F:=by rw [hF];exact zgM h.r1 (by omega) hv hv2
  have hFz:Sized 10 F:=by rw [hF];exact ⟨by omega,by omega,by rw [zea,h.n1];omega,by rw [zea,h.n1];omega⟩
  rw [←hF]
  obtain ⟨M,hM⟩:∃M:Entry,M=.var 55 [.int .i64 1,.int .i64 500000,.row 6 2]:=⟨_,rfl⟩
  have hacc:zcB l t now v=if (zeV F t).1 then ⟨F,l.wide⟩ else ⟨F,setR 60 l.wide t (zeV F t).2⟩:=by
   unfold zcB;rw [if_pos hr1,←hF]
  clear f8 f9
  refine zah (fun x f σ=>f 2=.int .i64 now∧f 3=.ptr 0 0∧f 4=.ptr 1 0∧f 6=.ptr 2 0∧f 10=.ptr 7 0∧((x=1∧f 11=.int .i64 1∧σ= [.var 55 (ladC l),E1,E2,.var 55 (ladC l),M,M,.row 112 2 [zai 10 F,zai 60 l.wide] false,M])∨
   (x=0∧f 11=.int .i64 2∧∃(W:List Slot) (tl:zac),zcB l t now v=⟨F,W⟩∧σ=.var 55 (ladC l)::E1::E2:: .var 55 (ladC l)::M::M:: .row 112 2 [zai 10 F,zai 60 W] false::M::tl))) 1 ?_ ?_
  ·exact ⟨by simp [f2],by simp [f3],by simp [f4],by simp [f6],by simp,.inl ⟨rfl,by simp,by simp [hM,hE1,ladC,zap,zai]⟩⟩
  clear f2 f3 f4 f6
  rintro x f σ ⟨f2,f3,f4,f6,f10,⟨rfl,f11,rfl⟩|⟨rfl,f11,W,tl,hacc2,rfl⟩⟩
  ·simp [f2,f3,f4,f6,f10,f11,hM,hE1,zai]
   simp only [zai] at kr2
   refine zaq kr2 (by simp [AV.pure]) (by simp) ?_
   simp [f10,f11,wk0]
   obtain ⟨T0,hT0⟩:∃T0,T0=t/60*60:=⟨_,rfl⟩
   have hT0t:T0≤t:=by rw [hT0];exact yb0 t 60
   have hwT:IntKind.i64.wrap ((t:Int)-(t:Int).tmod 60)=(T0:Int):=by
    have e:(t:Int).tmod 60=((t%60:Nat):Int):=zbI t 60
    rw [e,zmd,hT0];exact wrap_i64 (by omega) (by omega)
   refine ⟨?_, ?_, ?_, ?_⟩
   all_goals
    simp [f4,f10,f11,hwT,splice]
    refine zah (fun x f σ=>∃(k:Nat) (tl:zac),x=6-k∧k≤6∧f 3=.ptr 0 0∧f 4=.ptr 1 0∧f 2=.int .i64 now∧f 6=.ptr 2 0∧f 10=.ptr 7 0∧f 11=.int .i64 1∧f 12=.ptr 8 0∧f 13=.int .i64 60∧f 14=.int .i64 T0∧f 16=.int .i64 (T0+k*10:Nat)∧AccT 2 1 9 tl (f 15) (zdh (parts F T0 k))∧
     σ=.var 55 (ladC l)::E1::E2:: .var 55 (ladC l)::M::M:: .row 112 2 [zai 10 F,zai 60 l.wide] false::M:: .var 112 (zai 10 F)::tl) 6 ?_ ?_
    ·exact ⟨0,[],by simp,by simp,by simp [f3],by simp [f4],by simp [f2],by simp [f6],by simp [f10],by simp [f11],by simp,by simp,by simp,by simp,by simp [parts,zdh];exact zgt,by simp [hM,hE1,zai]⟩
    clear f2 f3 f4 f6 f10 f11
    rintro x f σ ⟨k,tl,hx,hk,f3,f4,f2,f6,f10,f11,f12,f13,f14,f16,hA,rfl⟩
    have hwS:IntKind.i64.wrap ((T0:Int)+60)=((T0+60:Nat):Int):=by rw [wrap_i64 (by omega) (by omega)];omega
    have hpl:=zpj F T0 k
    have hil:=zi3 (parts F T0 k)
    have hb8:((zdh (parts F T0 k)).length+1)*8≤140737488355328:=by rw [hil];omega
    have hb9:(zdh (parts F T0 k)).length+1≤9223372036854775807:=by rw [hil];omega
    simp [f13,f14,f16,hwS, -Int.natCast_add]
    refine zax (fun hlt=> ?_) (fun hge=> ?_)
    ·have hk6:k<6:=by omega
     have hwk:IntKind.i64.wrap (((T0+k*10:Nat):Int)+10)=((T0+(k+1)*10:Nat):Int):=by rw [wrap_i64 (by omega) (by omega)];omega
     have kG:=zzv (G:=G) 10 F hFz hFr (T0+k*10) (by omega)
     simp only [zai] at kG
     simp [f12,f16,zai, -Int.natCast_add]
     refine zad kG (by simp [AV.pure]) ?_
     rintro r rfl
     cases hg:getR 10 F (T0+k*10) with
     |none=>
      have hpk:parts F T0 (k+1)=parts F T0 k:=by simp [parts,hg]
      simp [numO,numA,zam,zal,splice,f12,f16,zai,hwk, -Int.natCast_add]
      refine zae (6-(k+1)) (by omega) ⟨k+1,tl++ [.var 182 [.bool true,.int .i64 0]],rfl,by omega,by simp [f3],by simp [f4],by simp [f2],by simp [f6],by simp [f10],by simp [f11],by simp [f12],by simp [f13],by simp [f14],by simp, ?_,by simp [zai]⟩
      simp only [Frame.put_some]
      simp
      rw [hpk];exact hA.more _
     |some w=>
      have hpk:parts F T0 (k+1)=parts F T0 k++ [w]:=by simp [parts,hg]
      simp [numO,numA,zam,zal,splice,f12,f16,zai,hwk, -Int.natCast_add]
      refine zmt (σ:= [.var 55 (ladC l),E1,E2,.var 55 (ladC l),M,M,.row 112 2 [zai 10 F,zai 60 l.wide] false,M,.var 112 (zai 10 F)]) (τ:=tl++ [.var 182 [.bool false,.int .i64 w]]) (hA.more _) [.int .i64 w] (by decide) rfl hb8 hb9 fun v' τ' hA' hle' _=> ?_
      simp [f12,f16,zai,hwk, -Int.natCast_add]
      refine zae (6-(k+1)) (by omega) ⟨k+1,τ',rfl,by omega,by simp [f3],by simp [f4],by simp [f2],by simp [f6],by simp [f10],by simp [f11],by simp [f12],by simp [f13],by simp [f14],by simp, ?_,by simp [zai]⟩
      simp
      rw [hpk,zq0];exact hA'
    ·have hk6:k=6:=by omega
     subst hk6
     have hview:view ([.var 55 (ladC l),E1,E2,.var 55 (ladC l),M,M,.row 112 2 [zai 10 F,zai 60 l.wide] false,M,.var 112 (zai 10 F)]++tl) (f 15)=some (zdh (parts F T0 6)):=hA.view (σ:= [.var 55 (ladC l),E1,E2,.var 55 (ladC l),M,M,.row 112 2 [zai 10 F,zai 60 l.wide] false,M,.var 112 (zai 10 F)])
     simp only [ybv,yci] at hview
     have hvals:=zrE hFr T0 6
     obtain ⟨L,hL⟩:∃L,L=zdh (parts F T0 6):=⟨_,rfl⟩
     obtain ⟨n,hn⟩:∃n,n=(parts F T0 6).length:=⟨_,rfl⟩
     have hLn:L.length=n:=by rw [hL,hil,hn]
     rw [←hL] at hview
     rw [←hn] at hpl
     have hview2:=hview
     simp [ladC,zai] at hview2
     have hw9:IntKind.i64.wrap ((n:Int)*1000000)=(n:Int)*1000000:=wrap_i64 (by omega) (by omega)
     have hw10:IntKind.i64.wrap 3000000=3000000:=by decide
     by_cases hp3:n<3
     ·have hco:(zeV F t).1=true:=by unfold zeV;rw [←hT0,←hn,if_pos hp3]
      rw [hco,if_pos rfl] at hacc
      by_cases hn0:n=0
      ·have hL0:L= []:=yap (by omega)
       simp [f2,f3,f10,f11,f12,f13,f14,hview,hL0,wk2]
       exact zae 0 (by omega) ⟨by simp [f2],by simp [f3],by simp [f4],by simp [f6],by simp [f10],.inr ⟨rfl,by simp,l.wide,_,hacc,rfl⟩⟩
      ·have hL0:¬L= []:=fun e=>hn0 (by rw [←hLn,e];rfl)
       have hlt3:(n:Int)*1000000<3000000:=by omega
       have hlt3':n*1000000<3000000:=by omega
       simp [f2,f3,f10,f11,f12,f13,f14,hview2,hL0,hn0,hLn,ladC,zai,wk6,hw9,hw10,hlt3,hlt3',wk2]
       exact zae 0 (by omega) ⟨by simp [f2],by simp [f3],by simp [f4],by simp [f6],by simp [f10],.inr ⟨rfl,by simp,l.wide,_,hacc,by simp [ladC,zai];rfl⟩⟩
     ·have hco:zeV F t=avgN (parts F T0 6):=by unfold zeV;rw [←hT0,←hn,if_neg hp3]
      rw [hco] at hacc
      have hn0:n≠0:=by omega
      have hL0:¬L= []:=fun e=>hn0 (by rw [←hLn,e];rfl)
      have hlt3:¬((n:Int)*1000000<3000000):=by omega
      have hlt3':¬(n*1000000<3000000):=by omega
      simp [f2,f3,f10,f11,f12,f13,f14,hview2,hL0,hn0,hLn,ladC,zai,wk6,hw9,hw10,hlt3,hlt3',wk2]
      have hcoe:Coe ([.var 55 (ladC l),E1,E2,.var 55 (ladC l),M,M,.row 112 2 [zai 10 F,zai 60 l.wide] false,M,.var 112 (zai 10 F)]++tl) false (f 15) (.lst L):=by rw [hL];exact hA.coe (σ:= [.var 55 (ladC l),E1,E2,.var 55 (ladC l),M,M,.row 112 2 [zai 10 F,zai 60 l.wide] false,M,.var 112 (zai 10 F)]) false
      simp [ladC,zai] at hcoe
      have hpne:parts F T0 6≠ []:=fun e=>hn0 (by rw [hn,e];rfl)
      have kB:=zvk (G:=G) (parts F T0 6) hpne (by omega) (fun v hv=>(hvals v hv).1)
      rw [←hL] at kB
      refine zv9 kB (.cons (.pure _ (by simp)) (.cons hcoe .nil)) ?_
      rintro r rfl
      cases hb:(avgN (parts F T0 6)).1 with
      |true=>
       rw [hb,if_pos rfl] at hacc
       simp [numA,hb,f11,zam,zal,splice,wk2]
       exact zae 0 (by omega) ⟨by simp [f2],by simp [f3],by simp [f4],by simp [f6],by simp [f10],.inr ⟨rfl,by simp,l.wide,_,hacc,by simp [ladC,zai];rfl⟩⟩
      |false=>
       rw [hb,if_neg (by simp)] at hacc
       have hdv:=zwc _ _ hb
       have hT60:T0/60=t/60:=by rw [hT0];exact ydf _ (by omega)
       have hse:setR 60 l.wide T0 (avgN (parts F T0 6)).2=setR 60 l.wide t (avgN (parts F T0 6)).2:=by unfold setR;rw [hT60]
       have kS2:=zp2 (G:=G) 60 l.wide (zpZ h) h.r2 T0 (by omega) (avgN (parts F T0 6)).2 hdv.2
       rw [hse] at kS2
       simp only [zai] at kS2
       simp [numA,hb,f10,f11,f14,hM,zam,zal,splice,wk2]
       refine zaZ kS2 (by simp [AV.pure]) ?_
       simp [splice,f10,f11,wk2]
       exact zae 0 (by omega) ⟨by simp [f2],by simp [f3],by simp [f4],by simp [f6],by simp [f10],.inr ⟨rfl,by simp,_,_,hacc,by simp [ladC,zai,hM];rfl⟩⟩
  ·simp [f6,f10,f11,hM,hE2,zai,splice,zdK,hacc2,ladC,zap]
 ·simp [f8,f3,hr1,hE0,ladC]
  refine zar (zqC _ l h) ?_
  rintro r σ ⟨rfl,rfl⟩
  have kS:=zp2 (G:=G) 60 l.wide (zpZ h) h.r2 t (by omega) v hv2
  simp only [zai] at kS
  simp [f8,f4,hr1,hE1,zap,zai,splice]
  refine zaZ kS (by simp [AV.pure]) ?_
  simp [splice,wk2,f8,hr1]
  refine zah (fun x f σ=>f 6=.ptr 2 0∧f 10=.ptr 7 0∧f 11=.int .i64 2∧∃(A B C:Entry),σ= [A,B,E2,C,.var 55 [.int .i64 1,.int .i64 500000,.row 6 2],.var 55 [.int .i64 1,.int .i64 500000,.row 6 2],.row 112 2 [zai 10 l.fine,zai 60 (setR 60 l.wide t v)] false,.var 55 [.int .i64 1,.int .i64 500000,.row 6 2]]) 0 ?_ ?_
  ·exact ⟨by simp [f6],by simp,by simp,_,_,_,by simp [zai];exact ⟨rfl,rfl,rfl⟩⟩
  rintro x g σ ⟨g6,g10,g11,A,B,C,rfl⟩
  have hacc:zcB l t now v=⟨l.fine,setR 60 l.wide t v⟩:=by unfold zcB;rw [if_neg hr1]
  simp [g6,g10,g11,hE2,zai,splice,zdK,hacc,ladC,zap]
end Go.Proofs.YtdbhocoeolhjhaaGreatDoor
end
section
set_option maxHeartbeats 4000000
namespace Go.Sf
open Go.Abs Go.Num
structure ArrM where
 time:Nat
 value:Int
 now:Nat
structure OkA (a:ArrM):Prop where
 t:a.time≤1000000000
 n:a.now≤1000000000
 le:a.time≤a.now
 ge:a.now≤a.time+79
 v:i64 a.value
def OkV (a:ArrM):Prop:=a.value≠ -9223372036854775808
def arrC (a:ArrM):List AV:= [.int .i64 a.time,.int .i64 a.value,.int .i64 a.now,.int .i64 0]
def zbi (l:List ArrM):List (List AV):=l.map arrC
theorem zc7 (l:List ArrM):(zbi l).length=l.length:=by simp [zbi]
theorem zlV {l:List ArrM} {i:Nat} {a:ArrM} (h:l[i]? =some a):(zbi l)[i]? =some (arrC a):=by simp [zbi,h]
theorem zhe (l:List ArrM):Els 4 (zbi l):=by
 refine ⟨fun c hc=> ?_,fun c hc=> ?_,fun c hc=> ?_⟩<;>obtain ⟨n,_,rfl⟩:=yav.1 hc<;>simp [arrC,AV.pure,AV.one]
def z6F (l:LadM) (a:ArrM):LadM:=zcB l a.time a.now a.value
def zcH (l:LadM) (as':List ArrM):LadM:=as'.foldl z6F l
theorem zyN {l:LadM} {a:ArrM} (h:RightL l) (ha:OkA a) (hv:OkV a):RightL (z6F l a):=zux h (by have:=ha.t;omega) ha.v hv
theorem zhq {l:LadM}:∀{bs:List ArrM},RightL l→(∀a∈bs,OkA a∧OkV a)→RightL (zcH l bs):=fun {bs}=>by
 induction bs generalizing l with
 |nil=>intro h _;exact h
 |cons a bs ih=>intro h hb;exact ih (zyN h (hb a (by simp)).1 (hb a (by simp)).2) fun x hx=>hb x (by simp [hx])
theorem zmy (l:LadM) (bs:List ArrM) (a:ArrM):zcH l (bs++ [a])=z6F (zcH l bs) a:=by simp [zcH]
end Go.Sf
namespace Go.Proofs.YtdbhocoeolhjhaaGreatDoor
open Go.Abs Go.RowKit Go.Sf Go.Num
variable {G:Globs}
theorem z1h (bs:List ArrM) (hb:∀a∈bs,OkA a∧OkV a) (hl:bs.length≤1000000):PCalls Tryz.prog zlP [.agg schC,.lst (zbi bs)] (fun r=>r=.agg (ladC (zcH newL bs))):=by
 refine zaa hmix zl2 rfl ?_
 have hle:=zc7 bs
 simp [zgi,schC]
 refine zad z04 (by simp [AV.pure,schC]) ?_
 rintro r rfl
 simp [ladC,splice]
 refine zah (fun x f σ=>∃(i:Nat) (tl:zac),x=bs.length-i∧i≤bs.length∧f 1=.lst (zbi bs)∧f 4=.ptr 1 0∧f 5=.ptr 2 0∧f 7=.int .i64 i∧σ=.var 52 schC:: .var 55 [.int .i64 0,.int .i64 0,.nils]:: .var 55 (ladC (zcH newL (bs.take i)))::tl) bs.length ?_ ?_
 ·exact ⟨0,[],by simp,by simp,by simp,by simp,by simp,by simp,by simp [schC,ladC,zcH]⟩
 rintro x f σ ⟨i,tl,hx,hi,f1,f4,f5,f7,rfl⟩
 simp [f1,f7,hle]
 refine zax (fun hlt=> ?_) (fun hge=> ?_)
 ·have hlt':i<bs.length:=by omega
  have hwi:IntKind.i64.wrap ((i:Int)+1)=((i+1:Nat):Int):=by rw [wrap_i64 (by omega) (by omega)];omega
  obtain ⟨a,ha⟩:∃a,bs[i]? =some a:=⟨_,yad hlt'⟩
  have hc:=zlV ha
  obtain ⟨hx1,hx2⟩:=yaa.1 hc
  obtain ⟨ok,okv⟩:=hb a (yaf ha)
  have hsn:bs.take (i+1)=bs.take i++ [a]:=by rw [yax,ha];rfl
  have hr:RightL (zcH newL (bs.take i)):=zhq zkf fun x hx=>hb x (yak hx)
  have kA:=zny (G:=G) _ hr a.time a.now a.value ok.t ok.n ok.le ok.ge ok.v okv
  have hst:zcB (zcH newL (bs.take i)) a.time a.now a.value=zcH newL (bs.take (i+1)):=by rw [hsn,zmy];rfl
  rw [hst] at kA
  simp [f1,f5,f7,hc,hx2,arrC,zam,zal,splice,ladC]
  simp only [ladC] at kA
  refine zad kA (by simp [AV.pure]) ?_
  rintro r rfl
  simp [f5,f7,zam,zal,splice,ladC,hwi]
  exact zae (bs.length-(i+1)) (by omega) ⟨i+1,tl++ [.var 91 (arrC a),.var 55 (ladC (zcH newL (bs.take (i+1))))],rfl,by omega,by simp [f1],by simp [f4],by simp [f5],by simp,by simp [ladC,arrC]⟩
 ·have hil:i=bs.length:=by omega
  subst hil
  simp [f4,f5,splice,ladC]
end Go.Proofs.YtdbhocoeolhjhaaGreatDoor
end
section
set_option maxHeartbeats 4000000
namespace Go.Proofs.YtdbhocoeolhjhaaGreatDoor
open Go.Abs Go.RowKit Go.Sf Go.Num
variable {G:Globs}
theorem zs6 (t:Nat) (h:t≤1099511627776):PCalls Tryz.prog ztQ [.int .i64 t] (fun r=>r=.bool true):=by
 refine zaa hmix ztB rfl ?_
 have h1:(0:Int)≤t:=by omega
 have h2:(t:Int)≤1099511627776:=by omega
 simp [zn0,h1,h2,h]
theorem zlr (t:Nat) (h:t≤1099511627776):PCalls Tryz.prog zpL [.int .i64 t] (fun r=>r=.bool true):=by
 refine zaa hmix zpN rfl ?_
 have h1:(0:Int)≤t:=by omega
 have h2:(t:Int)≤1099511627776:=by omega
 simp [zjx,h1,h2,h]
theorem zu1 (a b:Nat) (h1:1≤a) (h2:a≤86400) (h3:1≤b) (h4:b≤400):PCalls Tryz.prog ztU [.int .i64 a,.int .i64 b] (fun r=>r=.bool true):=by
 refine zaa hmix zug rfl ?_
 have k1:(1:Int)≤a:=by omega
 have k2:(a:Int)≤86400:=by omega
 have k3:(1:Int)≤b:=by omega
 have k4:(b:Int)≤400:=by omega
 have k1':0<a:=by omega
 have k3':0<b:=by omega
 simp [zn7,k1,k2,k3,k4,h1,h2,h3,h4,k1',k3']
theorem zoM (step:Nat) (l:List Slot) (hz:Sized step l) (t:Nat) (ht:t≤1099511627776):PCalls Tryz.prog zto [.agg (zai step l),.int .i64 t] (fun r=>r=.int .i64 (t/step%l.length:Nat)):=by
 refine zaa hmix zut rfl ?_
 obtain ⟨s1,s2,n1,n2⟩:=hz
 have hle:=zaw l
 have g1:(step:Int)≠0:=by omega
 have g1':step≠0:=by omega
 have g2:(l.length:Int)≠0:=by omega
 have g2':l.length≠0:=by omega
 have g2'':l≠ []:=fun e=>by rw [e] at n1;simp at n1
 have hdl:t/step≤t:=yct _ _
 obtain ⟨q,hqe⟩:∃q,q=t/step:=⟨_,rfl⟩
 obtain ⟨p,hp⟩:∃p,p=q%l.length:=⟨_,rfl⟩
 rw [←hqe] at hdl
 have hA1:(t:Int)/(step:Int)=(q:Int):=by rw [hqe];rfl
 have hA1':(t:Int).tdiv (step:Int)=(q:Int):=by rw [zrF,hqe]
 have hA2:IntKind.i64.wrap (q:Int)=(q:Int):=wrap_i64 (by omega) (by omega)
 have hA3:(q:Int).tmod (l.length:Int)=(p:Int):=by rw [zbI,hp]
 have hA4:(q:Int)%(l.length:Int)=(p:Int):=by rw [hp];rfl
 rw [←hqe,←hp]
 simp [zns,zai,hle,g1,g1',g2,g2',g2'',hA1,hA1',hA2,hA3,hA4]
theorem zkK (step:Nat) (l:List Slot) (hz:Sized step l) (h:zdj step l):PCalls Tryz.prog zsH [.agg (zai step l)] (fun r=>r=.bool true):=by
 refine zaa hmix zsA rfl ?_
 have hle:=zaw l
 have hz':=hz
 obtain ⟨s1,s2,n1,n2⟩:=hz
 have g6:(step:Int)≠0:=by omega
 have g6':step≠0:=by omega
 simp [znj,zai,hle]
 refine zad (zu1 step l.length s1 s2 n1 n2) (by simp) ?_
 rintro r rfl
 simp [hle]
 refine zah (fun x f σ=>∃(i:Nat) (tl:zac),x=l.length-i∧i≤l.length∧f 1=.ptr 0 0∧f 13=.lst (zav l)∧f 14=.int .i64 l.length∧f 15=.int .i64 i∧σ=.var 112 (zai step l)::tl) l.length ?_ ?_
 ·exact ⟨0,[],by simp,by simp,by simp,by simp,by simp [hle],by simp,by simp [zai]⟩
 rintro x f σ ⟨i,tl,hx,hi,h1,h13,h14,h15,rfl⟩
 simp [h14,h15]
 refine zax (fun hlt=> ?_) (fun hge=> ?_)
 ·have hlt':i<l.length:=by omega
  have hwi:IntKind.i64.wrap ((i:Int)+1)=((i+1:Nat):Int):=by rw [wrap_i64 (by omega) (by omega)];omega
  obtain ⟨s,hs⟩:∃s,l[i]? =some s:=⟨_,yad hlt'⟩
  have hc:=zdb hs
  obtain ⟨hx1,hx2⟩:=yaa.1 hc
  rcases h i s hs with ⟨e1,e2⟩|⟨k,e1,e2,e3,e4,e5⟩
  ·simp [h1,h13,h15,zai,hc,hx2,zcI,zam,zal,splice,zjJ,e1,e2,hwi]
   exact zae (l.length-(i+1)) (by omega) ⟨i+1,tl++ [.var 186 (zcI s)],rfl,by omega,by simp [h1],by simp [h13],by simp [h14],by simp,by simp [zai,zcI,e1,e2]⟩
  ·have g1:¬s.1= -1:=by omega
   have kP:=zoM (G:=G) step l hz' (k*step) e2
   have hkk:k*step/step=k:=ydf _ (by omega)
   rw [hkk,e3] at kP
   simp only [zai] at kP
   simp [h1,h13,h15,zai,hc,hx2,zcI,zam,zal,splice,zjJ,g1]
   rw [e1]
   refine zad (zs6 (k*step) e2) (by simp) ?_
   rintro r rfl
   have g2:((k*step:Nat):Int).tmod step=0:=by
    rw [ycw (by omega)];simp
   simp [h1,h13,h15,zai,hc,hx2,zcI,zam,zal,splice,e5,g2,g6,g6', -Int.natCast_mul]
   refine zad kP (by simp [AV.pure]) ?_
   rintro r rfl
   simp [h15,hwi, -Int.natCast_mul]
   exact zae (l.length-(i+1)) (by omega) ⟨i+1,tl++ [.var 186 (zcI s)],rfl,by omega,by simp [h1],by simp [h13],by simp [h14],by simp,by simp [zai,zcI,e1]⟩
 ·simp
theorem zsJ (step:Nat) (l:List Slot) (hz:Sized step l) (h:zdj step l) (t:Nat) (ht:t≤1099511627776):PCalls Tryz.prog zsM [.agg (zai step l),.int .i64 t] (fun r=>r=.tup [.int .i64 (t/step*step:Nat),.int .i64 0]):=by
 refine zaa hmix zu2 rfl ?_
 simp [znp,zai]
 refine zad (zs6 t ht) (by simp) ?_
 rintro r rfl
 simp
 refine zad (zkK step l hz h) (by simp [AV.pure,zai]) ?_
 rintro r rfl
 have s1:=hz.s1
 have g1:(step:Int)≠0:=by omega
 have g1':step≠0:=by omega
 have hd:=yb0 t step
 have hw:IntKind.i64.wrap ((t/step*step:Nat):Int)=((t/step*step:Nat):Int):=wrap_i64 (by omega) (by omega)
 simp [g1,g1',zbI,zmd,hw, -Int.natCast_mul, -Int.natCast_emod]
 rw [yc7,Int.natCast_ediv]
theorem zwf (step:Nat) (l:List Slot) (hz:Sized step l) (h:zdj step l) (t:Nat) (ht:t≤1099511627776) (v:Int) (hv:v≠ -9223372036854775808):PCalls Tryz.prog zxX [.agg (zai step l),.int .i64 t,.int .i64 v] (fun r=>r=.tup [.agg (zai step (setR step l t v)),.int .i64 0]):=by
 refine zaa hmix zx8 rfl ?_
 have hle:=zaw l
 have n1:=hz.n1
 have n2:=hz.n2
 have hd:=yb0 t step
 have kA:=zsJ (G:=G) step l hz h t ht
 have s1:=hz.s1
 obtain ⟨at',hat⟩:∃at',at'=t/step*step:=⟨_,rfl⟩
 have hq:at'/step=t/step:=by rw [hat];exact ydf _ (by omega)
 rw [←hat] at kA hd
 obtain ⟨p,hp⟩:∃p,p=at'/step%l.length:=⟨_,rfl⟩
 have hpl:p<l.length:=by rw [hp];exact ybs _ (by omega)
 simp [zqj,zai]
 refine zad kA (by simp [AV.pure,zai]) ?_
 rintro r rfl
 simp [hv]
 refine zar (z1G (zav l) (zcA l) (by omega)) ?_
 rintro r σ (⟨h0,rfl,rfl⟩|⟨rfl,rfl⟩)
 ·have:=congrArg List.length h0
  rw [hle] at this;simp at this;rw [this] at n1;simp at n1
 obtain ⟨s,hs⟩:∃s,l[p]? =some s:=⟨l[p]'(by omega),yad (by omega)⟩
 have hc:=zdb hs
 obtain ⟨hx1,hx2⟩:=yaa.1 hc
 have hset:(zav l).set p [.int .i64 (at':Int),.int .i64 v]=zav (setR step l t v):=by
  rw [hp,hq,setR,←zqt,hat];rfl
 have hll:(zav l).length=(zav (setR step l t v)).length:=by rw [zaw,zaw,zea]
 simp [zai,splice]
 have hp':at'/step%l.length=p:=hp.symm
 have kP:=zoM (G:=G) step l hz at' (by omega)
 rw [hp'] at kP
 simp only [zai] at kP
 refine z5Q kP (.cons (.agg _ [.int .i64 step,.lst (zav l)] rfl (by simp [AV.one]) (fun j h1 h2=> ?_)) (.cons (.pure _ (by simp)) .nil)) (by simp) ?_
 ·match j,h1 with
  |0,_=>exact .pure _ (by simp)
  |1,_=>exact .row 2 _ 186 2 (zav l) false rfl rfl (.inr ⟨rfl,(zcA l).2.1⟩)
 simp [splice,hc,hx2,zcI,hle,hpl,hset]
 rw [←hle,hll]
 simp [zdK]
theorem z6U (step:Nat) (l:List Slot) (hz:Sized step l) (h:zdj step l) (t:Nat) (ht:t≤1099511627776):PCalls Tryz.prog zxz [.agg (zai step l),.int .i64 t] (fun r=>r=numA (numO (getR step l t))):=by
 have hle:=zaw l
 have n1:=hz.n1
 have hd:=yb0 t step
 have kA:=zsJ (G:=G) step l hz h t ht
 have s1:=hz.s1
 obtain ⟨at',hat⟩:∃at',at'=t/step*step:=⟨_,rfl⟩
 have hq:at'/step=t/step:=by rw [hat];exact ydf _ (by omega)
 rw [←hat] at kA hd
 obtain ⟨p,hp⟩:∃p,p=at'/step%l.length:=⟨_,rfl⟩
 have hpl:p<l.length:=by rw [hp];exact ybs _ (by omega)
 have kP:=zoM (G:=G) step l hz at' (by omega)
 rw [←hp] at kP
 obtain ⟨s,hs⟩:∃s,l[p]? =some s:=⟨l[p]'(by omega),yad (by omega)⟩
 have hc:=zdb hs
 obtain ⟨hx1,hx2⟩:=yaa.1 hc
 have hg:getR step l t=if s.1=(at':Int) then some s.2 else none:=by
  unfold getR
  rw [←hq,←hp,hs]
  simp only
  rw [hq,←hat]
 have kV:PCalls Tryz.prog zty [.agg (zai step l),.int .i64 at'] (fun r=>r=numA (numO (getR step l t))):=by
  refine zaa hmix zuh rfl ?_
  simp [znd,zai]
  simp only [zai] at kP
  refine zaq kP (by simp [AV.pure]) (by simp) ?_
  by_cases he:s.1=(at':Int)
  ·simp [hc,hx2,zcI,splice,he,hg,numO,numA]
  ·simp [hc,hx2,zcI,splice,he,hg,numO,numA]
 refine zaa hmix zxV rfl ?_
 simp [zqD,zai]
 refine zad kA (by simp [AV.pure,zai]) ?_
 rintro r rfl
 simp
 simp only [zai] at kV
 refine zad kV (by simp [AV.pure]) ?_
 rintro r rfl
 simp [numA,splice]
theorem zm8 (a b:Nat) (h1:1≤a) (h2:a≤86400) (h3:1≤b) (h4:b≤400):PCalls Tryz.prog zls [.agg [.int .i64 a,.int .i64 b]] (fun r=>r=.bool true):=by
 refine zaa hmix zkG rfl ?_
 have k1:(1:Int)≤a:=by omega
 have k2:(a:Int)≤86400:=by omega
 have k3:(1:Int)≤b:=by omega
 have k4:(b:Int)≤400:=by omega
 have k1':0<a:=by omega
 have k3':0<b:=by omega
 simp [zgw,k1,k2,k3,k4,h1,h2,h3,h4,k1',k3']
theorem zo2 (a b:Nat) (h1:1≤a) (h2:a≤86400) (h3:1≤b) (h4:b≤400):PCalls Tryz.prog zmD [.agg [.int .i64 a,.int .i64 b]] (fun r=>r=.int .i64 (a*b:Nat)):=by
 refine zaa hmix zmm rfl ?_
 have hm:a*b≤86400*400:=yd5 h2 h4
 have hw:IntKind.i64.wrap ((a:Int)*b)=((a*b:Nat):Int):=by
  have e:(a:Int)*b=((a*b:Nat):Int):=by rw [yc7]
  rw [e];exact wrap_i64 (by omega) (by omega)
 simp [zho]
 refine zad (zm8 a b h1 h2 h3 h4) (by simp) ?_
 rintro r rfl
 simp [hw]
theorem zwn:PCalls Tryz.prog zjH [.agg [.int .i64 10,.int .i64 6],.agg [.int .i64 60,.int .i64 5]] (fun r=>r=.bool true):=by
 refine zaa hmix zkh rfl ?_
 simp [zfY]
 refine zaq (zo2 60 5 (by omega) (by omega) (by omega) (by omega)) (by simp) (by simp) ?_
 simp
 refine zaq (zo2 10 6 (by omega) (by omega) (by omega) (by omega)) (by simp) (by simp) ?_
 simp [wk6]
theorem znx:PCalls Tryz.prog zjp [.lst rungsC] (fun r=>r=.bool true):=by
 refine zaa hmix zjs rfl ?_
 simp [zfn,rungsC]
 refine zah (fun x f σ=>∃(i:Nat) (tl:zac),x=2-i∧i≤2∧f 0=.lst rungsC∧f 13=.lst rungsC∧f 14=.int .i64 2∧f 15=.int .i64 i∧((i=0∧σ= [])∨(0<i∧σ=.var 119 [.int .i64 10,.int .i64 6]::tl))) 2 ?_ ?_
 ·exact ⟨0,[],by simp,by simp,by simp [rungsC],by simp [rungsC],by simp,by simp,.inl ⟨rfl,by simp⟩⟩
 rintro x f σ ⟨i,tl,hx,hi,f0,f13,f14,f15,⟨rfl,rfl⟩|⟨hp,rfl⟩⟩
 ·simp [f0,f13,f14,f15,rungsC]
  refine zaq (zm8 10 6 (by omega) (by omega) (by omega) (by omega)) (by simp) (by simp) ?_
  simp [f15,wk1]
  exact zae 1 (by omega) ⟨1,[],rfl,by omega,by simp [f0,rungsC],by simp [f13,rungsC],by simp [f14],by simp,.inr ⟨by omega,by simp⟩⟩
 ·have hi3:i=1∨i=2:=by omega
  rcases hi3 with rfl|rfl
  ·simp [f0,f13,f14,f15,rungsC,zam,zal,splice]
   refine zaq (zm8 60 5 (by omega) (by omega) (by omega) (by omega)) (by simp) (by simp) ?_
   simp [f0,f15,wk0,rungsC,zam,zal]
   refine zaq zwn (by simp) (by simp) ?_
   simp [f15,wk2]
   exact zae 0 (by omega) ⟨2,_,rfl,by omega,by simp [f0,rungsC],by simp [f13,rungsC],by simp [f14],by simp,.inr ⟨by omega,rfl⟩⟩
  ·simp [f14,f15]
theorem z0b:PCalls Tryz.prog zt7 [.int .i64 1,.int .i64 500000] (fun r=>r=.bool true):=by
 refine zaa hmix zul rfl ?_
 simp [znl]
theorem zsu (step:Nat) (l:List Slot):PCalls Tryz.prog zrL [.agg (zai step l)] (fun r=>r=.agg [.int .i64 step,.int .i64 l.length]):=by
 refine zaa hmix zrU rfl ?_
 simp [zk8,zai,splice,zaw]
theorem zzc (step:Nat) (l:List Slot) (hz:Sized step l):PCalls Tryz.prog zqf [.agg (zai step l)] (fun r=>r=.int .i64 (step*l.length:Nat)):=by
 refine zaa hmix zpQ rfl ?_
 simp [zj7,zai]
 refine zad (zsu step l) (by simp [AV.pure,zai]) ?_
 rintro r rfl
 simp
 refine zad (zo2 step l.length hz.s1 hz.s2 hz.n1 hz.n2) (by simp) ?_
 rintro r rfl
 simp
theorem zkl (step:Nat) (l:List Slot) (hz:Sized step l) (t now:Nat) (ht:t≤1099511627776) (hn:now≤1099511627776):PCalls Tryz.prog znL [.agg (zai step l),.int .i64 t,.int .i64 now] (fun r=>r=.bool (decide (now<t/step*step+step*l.length))):=by
 refine zaa hmix znO rfl ?_
 have kR:=zzc (G:=G) step l hz
 obtain ⟨s1,s2,n1,n2⟩:=hz
 have g1:(step:Int)≠0:=by omega
 have g1':step≠0:=by omega
 have hm:step*l.length≤86400*400:=yd5 s2 n2
 have hd:=yb0 t step
 simp [zhT,zai,g1,g1']
 simp only [zai] at kR
 refine zaq kR (by simp [AV.pure]) (by simp) ?_
 obtain ⟨A,hA⟩:∃A,A=t/step*step:=⟨_,rfl⟩
 obtain ⟨B,hB⟩:∃B,B=step*l.length:=⟨_,rfl⟩
 have hw1:IntKind.i64.wrap ((t:Int)-(t:Int).tmod step)=(A:Int):=by rw [zbI,zmd,hA];exact wrap_i64 (by omega) (by omega)
 have hw2:IntKind.i64.wrap ((now:Int)-B)=(now:Int)-B:=wrap_i64 (by omega) (by omega)
 rw [←hA,←hB]
 simp [hw1,hw2]
 omega
theorem ztl (l:LadM) (h:RightL l):PCalls Tryz.prog zpY [.agg (ladC l)] (fun r=>r=.bool true):=by
 refine zaa hmix zpE rfl ?_
 simp [zj1,ladC,zap]
 refine zad z0b (by simp) ?_
 rintro r rfl
 simp
 have n1:=h.n1
 have n2:=h.n2
 refine zah (fun x f σ=>∃(i:Nat),x=2-i∧i≤2∧f 1=.ptr 0 0∧f 19=.lst (zap l)∧f 20=.int .i64 2∧f 21=.int .i64 i∧
  ((i=0∧f 3=.nils∧σ= [.var 55 (ladC l)])∨(i=1∧f 3=.row 2 1∧∃e,σ= [.var 55 (ladC l),e,.row 119 2 (rungsC.take 1) true])∨(i=2∧f 3=.row 2 2∧∃e e2,σ= [.var 55 (ladC l),e,.row 119 2 rungsC true,e2]))) 2 ?_ ?_
 ·exact ⟨0,by simp,by simp,by simp,by simp [zap],by simp,by simp,.inl ⟨rfl,by simp,by simp [ladC,zap]⟩⟩
 rintro x f σ ⟨i,hx,hi,f1,f19,f20,f21,⟨rfl,f3,rfl⟩|⟨rfl,f3,e,rfl⟩|⟨rfl,f3,e,e2,rfl⟩⟩
 ·simp [f1,f3,f19,f20,f21,zap,zai]
  refine zad (zkK 10 l.fine (zsD h) h.r1) (by simp [AV.pure,zai]) ?_
  rintro r rfl
  simp [f3,splice]
  refine zad (zsu 10 l.fine) (by simp [AV.pure,zai]) ?_
  rintro r rfl
  simp [n1]
  refine zhS true [[.int .i64 10,.int .i64 6]] (by simp [view]) (by decide) (by simp) (fun _=> .inl (by simp [zf4])) (by simp) (by simp) ?_
  simp [f21,wk1]
  exact zae 1 (by omega) ⟨1,rfl,by omega,by simp [f1],by simp [f19,zap,zai],by simp [f20],by simp,.inr (.inl ⟨rfl,by simp,_,by simp [rungsC];rfl⟩)⟩
 ·simp [f1,f3,f19,f20,f21,zap,zai]
  refine zad (zkK 60 l.wide (zpZ h) h.r2) (by simp [AV.pure,zai]) ?_
  rintro r rfl
  simp [f3,splice]
  refine zad (zsu 60 l.wide) (by simp [AV.pure,zai]) ?_
  rintro r rfl
  simp [n2]
  refine zaK [[.int .i64 10,.int .i64 6]] [[.int .i64 60,.int .i64 5]] true (by simp [rungsC]) (by simp [view]) (by decide) (by simp) (fun _=> .inl (by simp [zf4])) rfl (by simp) (by simp) ?_
  simp [f21,wk2]
  exact zae 0 (by omega) ⟨2,rfl,by omega,by simp [f1],by simp [f19,zap,zai],by simp [f20],by simp,.inr (.inr ⟨rfl,by simp,e,_,by simp [rungsC];rfl⟩)⟩
 ·simp [f3,f20,f21]
  refine zv9 znx (.cons (.row 2 2 119 2 rungsC true (by simp) rfl (.inl rfl)) .nil) ?_
  rintro r rfl
  simp
end Go.Proofs.YtdbhocoeolhjhaaGreatDoor
end
section
set_option maxHeartbeats 4000000
namespace Go.Proofs.YtdbhocoeolhjhaaGreatDoor
open Go.Abs Go.RowKit Go.Sf Go.Num
variable {G:Globs}
theorem z7P (v:Int) (h:i64 v) (hv:v≠ -9223372036854775808):PCalls Tryz.prog zqN [.int .i64 v] (fun r=>r=numA (tell v)):=by
 refine zaa hmix zy1 rfl ?_
 have h1:¬(v< -9223372036854775807):=by have:=h.1;omega
 have h2:tell v=(false,v):=by
  unfold tell most
  rw [if_pos ⟨by have:=h.1;omega,by have:=h.2;omega⟩]
 simp [zqn,h1,h2,numA,splice]
theorem z5t (l:List Int) (hl:l.length≤1000) (hv:∀v∈l,i64 v∧v≠ -9223372036854775808):PCalls Tryz.prog ztd [.lst (zdh l)] (fun r=>r=numA (sumF l)):=by
 refine zaa hmix zs3 rfl ?_
 have hle:=zi3 l
 have q0:PCalls Tryz.prog zpl [.int .i64 0] (fun r=>r=.agg (numC (tell 0))):=by
  have:=z03 (G:=G) 0 (by omega) (by omega)
  exact this
 simp [znF]
 refine zad q0 (by simp) ?_
 rintro r rfl
 simp [numC,splice]
 refine zah (fun x f σ=>∃(i:Nat),x=l.length-i∧i≤l.length∧f 2=.ptr 0 0∧f 3=.ptr 1 0∧f 7=.lst (zdh l)∧f 8=.int .i64 l.length∧f 9=.int .i64 i∧σ= [.var 182 [.bool false,.int .i64 0],.var 182 (numC (sumF (l.take i)))]) l.length ?_ ?_
 ·exact ⟨0,by simp,by simp,by simp,by simp,by simp,by simp [hle],by simp,by simp [numC,sumF]⟩
 rintro x f σ ⟨i,hx,hi,f2,f3,f7,f8,f9,rfl⟩
 simp [f8,f9]
 refine zax (fun hlt=> ?_) (fun hge=> ?_)
 ·have hlt':i<l.length:=by omega
  have hwi:IntKind.i64.wrap ((i:Int)+1)=((i+1:Nat):Int):=by rw [wrap_i64 (by omega) (by omega)];omega
  obtain ⟨v,hvi⟩:∃v,l[i]? =some v:=⟨_,yad hlt'⟩
  have hc:=zdO hvi
  obtain ⟨hy1,hy2⟩:=yaa.1 hc
  have hvv:=hv v (yaf hvi)
  have hsn:l.take (i+1)=l.take i++ [v]:=by rw [yax,hvi];rfl
  have qv:PCalls Tryz.prog zqN [.int .i64 v] (fun r=>r=.agg (numC (tell v))):=z7P v hvv.1 hvv.2
  have qa:PCalls Tryz.prog zow [.agg (numC (sumF (l.take i))),.agg (numC (tell v))] (fun r=>r=.agg (numC (sumF (l.take (i+1))))):=by rw [hsn,zga];exact z6d _ _ (zdQ _) (zaB v)
  simp only [numC] at qa qv
  simp [f3,f7,f9,hc,hy2,numC]
  refine zaq qv (by simp) (by simp) ?_
  simp
  refine zaq qa (by simp) (by simp) ?_
  simp [f3,f9,hwi,splice]
  exact zae (l.length-(i+1)) (by omega) ⟨i+1,rfl,by omega,by simp [f2],by simp [f3],by simp [f7],by simp [f8],by simp,by simp [numC]⟩
 ·have hil:i=l.length:=by omega
  subst hil
  rw [ya1]
  simp [f2,f3,numC,numA,splice]
theorem z11 (l:List Int) (h0:l≠ []) (hl:l.length≤1000) (hv:∀v∈l,i64 v∧v≠ -9223372036854775808):PCalls Tryz.prog zpS [.int .i64 1,.lst (zdh l)] (fun r=>r=numA (avgN l)):=by
 refine zaa hmix zpC rfl ?_
 have hle:=zi3 l
 have hpos:0<l.length:=yda.2 h0
 have k0:¬((l.length:Int)=0):=by omega
 have k0':l.length≠0:=by omega
 have k0'':zdh l≠ []:=fun e=>by rw [e] at hle;simp at hle;omega
 simp [zjC,hle,k0,k0',k0'',h0]
 have qs:=z5t (G:=G) l hl hv
 have qd:=z6j (G:=G) (sumF l) (tell (l.length*1000000)) (zdQ _) (zaB _)
 have qi:=z03 (G:=G) l.length (by omega) (by omega)
 simp only [numA] at qs qd qi
 refine zad qs (by simp [AV.pure]) ?_
 rintro r rfl
 simp
 refine zad qi (by simp) ?_
 rintro r rfl
 simp
 refine zad qd (by simp) ?_
 rintro r rfl
 simp [splice,numA]
 exact ⟨rfl,rfl⟩
theorem zyp (l:LadM) (F:List Slot) (hz:Sized 10 F) (h:zdj 10 F) (T0:Nat) (ht:T0≤1000000000):PCalls Tryz.prog znU [.agg (ladC l),.agg (zai 10 F),.int .i64 T0,.int .i64 60] (fun r=>r=numA (if (parts F T0 6).length<3 then (true,0) else avgN (parts F T0 6))):=by
 refine zaa hmix znX rfl ?_
 simp [zhO,ladC,zai,wk6]
 refine zah (fun x f σ=>∃(k:Nat) (tl:zac),x=6-k∧k≤6∧f 2=.int .i64 T0∧f 4=.ptr 0 0∧f 5=.ptr 1 0∧f 8=.ptr 2 0∧f 10=.int .i64 6∧f 17=.int .i64 6∧f 18=.int .i64 k∧AccT 2 1 3 tl (f 9) (zdh (parts F T0 k))∧
  σ=.var 55 (ladC l):: .var 112 (zai 10 F):: .var 182 [.bool false,.int .i64 0]::tl) 6 ?_ ?_
 ·exact ⟨0,[],by simp,by simp,by simp,by simp,by simp,by simp,by simp,by simp,by simp,by simp [parts,zdh];exact zgt,by simp [ladC,zai]⟩
 rintro x f σ ⟨k,tl,hx,hk,f2,f4,f5,f8,f10,f17,f18,hA,rfl⟩
 have hpl:=zpj F T0 k
 have hil:=zi3 (parts F T0 k)
 simp [f17,f18]
 refine zax (fun hlt=> ?_) (fun hge=> ?_)
 ·have hk6:k<6:=by omega
  have hb8:((zdh (parts F T0 k)).length+1)*8≤140737488355328:=by rw [hil];omega
  have hb9:(zdh (parts F T0 k)).length+1≤9223372036854775807:=by rw [hil];omega
  have hwk:IntKind.i64.wrap ((k:Int)+1)=((k+1:Nat):Int):=by rw [wrap_i64 (by omega) (by omega)];omega
  have hwm:IntKind.i64.wrap ((k:Int)*10)=((k*10:Nat):Int):=by rw [wrap_i64 (by omega) (by omega)];omega
  have hwa:IntKind.i64.wrap ((T0:Int)+((k*10:Nat):Int))=((T0+k*10:Nat):Int):=by rw [wrap_i64 (by omega) (by omega)];omega
  have kG:=z6U (G:=G) 10 F hz h (T0+k*10) (by omega)
  simp only [zai] at kG
  simp [f2,f5,f18,zai,hwm,hwa, -Int.natCast_add, -Int.natCast_mul]
  refine zad kG (by simp [AV.pure]) ?_
  rintro r rfl
  cases hg:getR 10 F (T0+k*10) with
  |none=>
   have hpk:parts F T0 (k+1)=parts F T0 k:=by simp [parts,hg]
   simp [numO,numA,zam,zal,splice,f18,hwk]
   refine zae (6-(k+1)) (by omega) ⟨k+1,tl++ [.var 182 [.bool true,.int .i64 0]],rfl,by omega,by simp [f2],by simp [f4],by simp [f5],by simp [f8],by simp [f10],by simp [f17],by simp, ?_,by simp [zai]⟩
   simp
   rw [hpk];exact hA.more _
  |some w=>
   have hpk:parts F T0 (k+1)=parts F T0 k++ [w]:=by simp [parts,hg]
   simp [numO,numA,zam,zal,splice]
   refine zmt (σ:= [.var 55 (ladC l),.var 112 (zai 10 F),.var 182 [.bool false,.int .i64 0]]) (τ:=tl++ [.var 182 [.bool false,.int .i64 w]]) (hA.more _) [.int .i64 w] (by decide) rfl hb8 hb9 fun v' τ' hA' hle' _=> ?_
   simp [f18,hwk]
   refine zae (6-(k+1)) (by omega) ⟨k+1,τ',rfl,by omega,by simp [f2],by simp [f4],by simp [f5],by simp [f8],by simp [f10],by simp [f17],by simp, ?_,by simp [zai]⟩
   simp
   rw [hpk,zq0];exact hA'
 ·have hk6:k=6:=by omega
  subst hk6
  obtain ⟨P,hP⟩:∃P:zac,P= [.var 55 (ladC l),.var 112 (zai 10 F),.var 182 [.bool false,.int .i64 0]]:=⟨_,rfl⟩
  have hPl:P.length=3:=by rw [hP];rfl
  have hA3:AccT 2 1 P.length tl (f 9) (zdh (parts F T0 6)):=by rw [hPl];exact hA
  have hview:view (P++tl) (f 9)=some (zdh (parts F T0 6)):=hA3.view
  have hcoe:Coe (P++tl) false (f 9) (.lst (zdh (parts F T0 6))):=hA3.coe false
  rw [hP] at hview hcoe
  simp only [ybv,yci] at hview hcoe
  have hvals:=zrE h T0 6
  obtain ⟨L,hL⟩:∃L,L=zdh (parts F T0 6):=⟨_,rfl⟩
  obtain ⟨n,hn⟩:∃n,n=(parts F T0 6).length:=⟨_,rfl⟩
  have hLn:L.length=n:=by rw [hL,hil,hn]
  rw [←hL] at hview hcoe
  rw [←hn] at hpl
  have hw9:IntKind.i64.wrap ((n:Int)*1000000)=(n:Int)*1000000:=wrap_i64 (by omega) (by omega)
  have hw10:IntKind.i64.wrap 3000000=3000000:=by decide
  simp [hview,hLn,hw9]
  rw [←hn]
  by_cases hp3:n<3
  ·have hlt3:(n:Int)*1000000<3000000:=by omega
   have hlt3':n*1000000<3000000:=by omega
   simp [f4,f8,f10,ladC,hw9,hw10,hlt3,hlt3',hp3,splice,numA]
  ·have hlt3:¬((n:Int)*1000000<3000000):=by omega
   have hlt3':¬(n*1000000<3000000):=by omega
   have hpne:parts F T0 6≠ []:=fun e=>by rw [e] at hn;simp at hn;omega
   have kB:=z11 (G:=G) (parts F T0 6) hpne (by omega) hvals
   rw [←hL] at kB
   simp only [ladC] at hcoe
   simp [f4,f10,ladC,hw9,hw10,hlt3,hlt3']
   refine zv9 kB (.cons (.pure _ (by simp)) (.cons hcoe .nil)) ?_
   rintro r rfl
   simp [f8,hp3,splice,numA]
theorem zoq (step:Nat) (l:List Slot) (hz:Sized step l) (t now:Nat) (v:Int) (ht:t≤1099511627776) (hn:now≤1099511627776):PCalls Tryz.prog zhk [.agg (zai step l),.rptr [.int .i64 t,.int .i64 v],.rptr [.int .i64 now]] (fun r=>r=.bool (decide (now<t/step*step+step*l.length))):=by
 refine zaa hmix zmF rfl ?_
 simp [zgJ,zai]
 have k:=zkl (G:=G) step l hz t now ht hn
 simp only [zai] at k
 refine zad k (by simp [AV.pure]) ?_
 rintro r rfl
 simp
end Go.Proofs.YtdbhocoeolhjhaaGreatDoor
end
section
set_option maxHeartbeats 4000000
namespace Go.Proofs.YtdbhocoeolhjhaaGreatDoor
open Go.Abs Go.RowKit Go.Sf Go.Num
variable {G:Globs}
def zwG (t now:Nat) (c:List AV):Bool:=match c with
 | .int _ s::_=>if s=10 then decide (now<t/10*10+60) else decide (now<t/60*60+300)
 |_=>false
theorem zsG (σ:zac) (m k:Nat) (l:LadM):((zap l).mapM fun (c:List AV)=>c.mapM (fz σ m k))=some (zap l):=zdg (ziV l).2.1 (fun c hc=>by simp only [zap,ybb,ydq,or_false] at hc;rcases hc with rfl|rfl<;>simp [zai])
theorem zxF (l:LadM) (h:RightL l) (t now:Nat) (v:Int) (ht:t≤1000000000) (hn:now≤1000000000) (h1:t≤now) (h2:now≤t+79) (hv:i64 v) (hv2:v≠ -9223372036854775808):PCalls Tryz.prog ziM [.agg (ladC l),.agg [.int .i64 t,.int .i64 v],.int .i64 now] (fun r=>r=.tup [.agg (ladC (zcB l t now v)),.int .i64 0]):=by
 refine zaa hmix ziA rfl ?_
 have k1:¬((now:Int)<t):=by omega
 have k1':¬(now<t):=by omega
 have kr1:=zkl (G:=G) 10 l.fine (zsD h) t now (by omega) (by omega)
 have kr2:=zkl (G:=G) 60 l.wide (zpZ h) t now (by omega) (by omega)
 have hr2:now<t/60*60+300:=by
  have:=ycf t 60
  have:=ybs t (show 0<60 by omega)
  omega
 rw [h.n2,decide_eq_true (show now<t/60*60+60*5 from hr2)] at kr2
 rw [h.n1] at kr1
 simp [zf7,ladC]
 refine zad (zlr t (by omega)) (by simp) ?_
 rintro r rfl
 simp
 refine zad (zlr now (by omega)) (by simp) ?_
 rintro r rfl
 simp [hv2]
 refine zad (ztl l h) (by simp [AV.pure,ladC]) ?_
 rintro r rfl
 simp [k1,k1']
 have kI:=z4E (G:=G) (zap l) (ziV l) (by simp [zap]) (zwG t now) zhk [.rptr [.int .i64 t,.int .i64 v],.rptr [.int .i64 now]] (by simp [AV.pure]) zm4 (fun c hc=>by
  simp only [zap,ybb,ydq,or_false] at hc
  rcases hc with rfl|rfl
  ·have:=zoq (G:=G) 10 l.fine (zsD h) t now v (by omega) (by omega)
   rw [h.n1] at this
   exact this
  ·have:=zoq (G:=G) 60 l.wide (zpZ h) t now v (by omega) (by omega)
   rw [h.n2] at this
   exact this)
 refine z0U kI (.cons (.pure _ (by simp [AV.pure,zap,zai])) (.cons (.fn _ _ _ _ _ rfl rfl (fun j h=>by simp at h) (fun j h1 h2=> ?_)) .nil)) ?_
 ·match j,h1 with
  |0,_=>
   refine .ptr 1 0 117 [.int .i64 t,.int .i64 v] [.int .i64 t,.int .i64 v] (by simp) rfl (by simp) rfl (fun j h h'=> .pure _ ?_) (by simp [AV.one])
   match j,h with
   |0,_=>simp [AV.pure]
   |1,_=>simp [AV.pure]
  |1,_=>
   refine .ptr 2 0 3 [.int .i64 now] [.int .i64 now] (by simp) rfl (by simp) rfl (fun j h h'=> .pure _ ?_) (by simp [AV.one])
   match j,h with
   |0,_=>simp [AV.pure]
 rintro r rfl
 refine ⟨by simp [rig], ?_⟩
 obtain ⟨E1,hE1⟩:∃E1:Entry,E1=.var 117 [.int .i64 t,.int .i64 v]:=⟨_,rfl⟩
 obtain ⟨E2,hE2⟩:∃E2:Entry,E2=.var 3 [.int .i64 now]:=⟨_,rfl⟩
 obtain ⟨E3,hE3⟩:∃E3:Entry,E3=.var 55 [.int .i64 0,.int .i64 0,.nils]:=⟨_,rfl⟩
 have hidx:idxE (zwG t now) (zap l)=((if now<t/10*10+60 then 0 else 1:Nat):Int):=by
  by_cases hr:now<t/10*10+60
  ·simp [zap,zai,idxE,zwG,hr]
  ·simp [zap,zai,idxE,zwG,hr,hr2]
 rw [hidx]
 obtain ⟨at',hat⟩:∃at':Nat,at'=if now<t/10*10+60 then 0 else 1:=⟨_,rfl⟩
 rw [←hat]
 have hat2:¬((at':Int)<0):=by omega
 simp [hat2]
 refine zar (z6a (zap l) (ziV l) (by simp [zap])) ?_
 rintro r σ (⟨h0,rfl,rfl⟩|⟨rfl,rfl⟩)
 ·simp [zap] at h0
 simp
 refine zah (fun x f σ=>f 3=.ptr 0 0∧f 4=.ptr 1 0∧f 5=.ptr 2 0∧f 6=.ptr 3 0∧f 8=.int .i64 at'∧f 9=.row 4 2∧f 10=.int .i64 t∧
  ((x=2-at'∧f 12=.int .i64 at'∧f 11=.int .i64 v∧σ= [.var 55 (ladC l),E1,E2,E3,.row 112 2 (zap l) false])∨
   (at'=0∧x=1∧f 12=.int .i64 1∧f 11=.int .i64 v∧∃tl,σ=.var 55 (ladC l)::E1::E2::E3:: .row 112 2 (zap ⟨setR 10 l.fine t v,l.wide⟩) false::tl)∨
   (x=0∧f 12=.int .i64 2∧∃tl,σ=.var 55 (ladC l)::E1::E2::E3:: .row 112 2 (zap (zcB l t now v)) false::tl))) (2-at') ?_ ?_
 ·exact ⟨by simp,by simp,by simp,by simp,by simp,by simp [zap],by simp,.inl ⟨rfl,by simp,by simp,by simp [hE1,hE2,hE3,ladC]⟩⟩
 rintro x f σ ⟨f3,f4,f5,f6,f8,f9,f10,⟨rfl,f12,f11,rfl⟩|⟨ha0,rfl,f12,f11,tl,rfl⟩|⟨rfl,f12,tl,rfl⟩⟩
 ·by_cases hr:now<t/10*10+60
  ·rw [if_pos hr] at hat
   subst hat
   rw [decide_eq_true hr] at kr1
   simp [f9,f12,f10,f5,hE2,zap,zai]
   simp only [zai] at kr1
   refine zaq kr1 (by simp [AV.pure]) (by simp) ?_
   have kS:=zwf (G:=G) 10 l.fine (zsD h) h.r1 t (by omega) v hv2
   simp only [zai] at kS
   simp [f8,f9,f10,f11,f12]
   refine zad kS (by simp [AV.pure]) ?_
   rintro r rfl
   simp [f8,f9,f12,zai,wk1,splice]
   exact zae 1 (by omega) ⟨by simp [f3],by simp [f4],by simp [f5],by simp [f6],by simp [f8],by simp [f9],by simp [f10],.inr (.inl ⟨rfl,rfl,by simp,by simp [f11],_,by simp [hE2,zap,zai];rfl⟩)⟩
  ·rw [if_neg hr] at hat
   subst hat
   have hacc:zcB l t now v=⟨l.fine,setR 60 l.wide t v⟩:=by unfold zcB;rw [if_neg hr]
   simp [f9,f12,f10,f5,hE2,zap,zai]
   simp only [zai] at kr2
   refine zaq kr2 (by simp [AV.pure]) (by simp) ?_
   have kS:=zwf (G:=G) 60 l.wide (zpZ h) h.r2 t (by omega) v hv2
   simp only [zai] at kS
   simp [f8,f9,f10,f11,f12]
   refine zad kS (by simp [AV.pure]) ?_
   rintro r rfl
   simp [f8,f9,f12,zai,wk2,splice]
   exact zae 0 (by omega) ⟨by simp [f3],by simp [f4],by simp [f5],by simp [f6],by simp [f8],by simp [f9],by simp [f10],.inr (.inr ⟨rfl,by simp,_,by simp [hE2,zap,zai,hacc];rfl⟩)⟩
 ·subst ha0
  have hr:now<t/10*10+60:=by
   refine Classical.byContradiction fun hr=> ?_
   rw [if_neg hr] at hat;omega
  obtain ⟨F,hF⟩:∃F,F=setR 10 l.fine t v:=⟨_,rfl⟩
  have hFr:zdj 10 F:=by rw [hF];exact zgM h.r1 (by omega) hv hv2
  have hFz:Sized 10 F:=by rw [hF];exact ⟨by omega,by omega,by rw [zea,h.n1];omega,by rw [zea,h.n1];omega⟩
  obtain ⟨T0,hT0⟩:∃T0,T0=t/60*60:=⟨_,rfl⟩
  have hT0t:T0≤t:=by rw [hT0];exact yb0 t 60
  have hacc:zcB l t now v=if (zeV F t).1 then ⟨F,l.wide⟩ else ⟨F,setR 60 l.wide t (zeV F t).2⟩:=by
   unfold zcB;rw [if_pos hr,←hF]
  have hwT:IntKind.i64.wrap ((t:Int)-(t:Int).tmod 60)=(T0:Int):=by
   have e:(t:Int).tmod 60=((t%60:Nat):Int):=zbI t 60
   rw [e,zmd,hT0];exact wrap_i64 (by omega) (by omega)
  have kC:=zyp (G:=G) l F hFz hFr T0 (by omega)
  have hco:(if (parts F T0 6).length<3 then (true,0) else avgN (parts F T0 6))=zeV F t:=by unfold zeV;rw [hT0]
  rw [hco] at kC
  rw [←hF]
  obtain ⟨n,hn0⟩:∃n,n=zeV F t:=⟨_,rfl⟩
  rw [←hn0] at kC hacc
  simp [f9,f12,f10,f5,hE2,zap,zai]
  simp only [zai] at kr2
  refine zaq kr2 (by simp [AV.pure]) (by simp) ?_
  simp only [zai,ladC,zap,numA] at kC
  simp [f3,f8,f9,f10,f11,f12,wk0,ladC,zap,zai,hwT]
  refine zaq kC (by simp [AV.pure]) (by simp) ?_
  by_cases hnn:n.1=true
  ·rw [if_pos hnn] at hacc
   simp [hnn,f12,wk2,splice,zam,zal]
   exact zae 0 (by omega) ⟨by simp [f3],by simp [f4],by simp [f5],by simp [f6],by simp [f8],by simp [f9],by simp [f10],.inr (.inr ⟨rfl,by simp,_,by simp [hE2,ladC,zap,zai,hacc];rfl⟩)⟩
  ·rw [if_neg hnn] at hacc
   have hv':i64 n.2∧n.2≠ -9223372036854775808:=by
    have hn1:n.1=false:=by simpa using hnn
    rw [hn0] at hn1⊢
    unfold zeV at hn1⊢
    split
    ·rename_i hc;rw [if_pos hc] at hn1;cases hn1
    ·rename_i hc;rw [if_neg hc] at hn1;exact zwc _ _ hn1
   have kS:=zwf (G:=G) 60 l.wide (zpZ h) h.r2 t (by omega) n.2 hv'.2
   simp only [zai] at kS
   simp [hnn,f9,f10,f12,splice,zam,zal]
   refine zad kS (by simp [AV.pure]) ?_
   rintro r rfl
   simp [f9,f12,zai,wk2,splice,zam,zal]
   exact zae 0 (by omega) ⟨by simp [f3],by simp [f4],by simp [f5],by simp [f6],by simp [f8],by simp [f9],by simp [f10],.inr (.inr ⟨rfl,by simp,_,by simp [hE2,ladC,zap,zai,hacc];rfl⟩)⟩
 ·have hrl:∀x,(zap x).length=2:=fun _=>rfl
  simp [f3,f6,f9,f12,ladC,hE3,splice,hrl,zsG]
end Go.Proofs.YtdbhocoeolhjhaaGreatDoor
end
section
namespace Go.Abs
open Go.RowKit Go.Proofs Go.Shelf
variable {G:Globs}
section
variable {P:Program} {ρ:Ren} {σ:zac}
theorem zvp (L:Lays8.n4 P ρ) (i0:TypeInfo) (z:Value) (hi0:P.info? (ρ.t 25)=some i0) (hz0:i0.zero=some z) (hs0:0<i0.size) (hzs:z.cells.size=i0.size) (im:Bool) {n:Nat} (hb:n*i0.bytes≤140737488355328) (h62:n≤4611686018427387904):
  ACalls P (ρ.f 4) [.nils,.int .i64 n] σ (fun r σ'=>r=.row σ.length 0∧σ'=σ++ [.row (ρ.t 25) i0.size [] im]):=by
 intro base κ Im w vs hs hv
 obtain ⟨u,v,rfl,hu,hv⟩:∃u v,vs= [u,v]∧VR κ Im w .nils u∧VR κ Im w (.int .i64 n) v:=by
  match vs,hv.1 with
  | [u,v],_=>exact ⟨u,v,rfl,hv.2 0 (by simp) (by simp),hv.2 1 (by simp) (by simp)⟩
 have e1:=hu.nils_inv
 have e2:=hv.int_inv
 subst e1;subst e2
 by_cases hn:n=0
 ·subst hn
  refine (Any8.slices_Grow_room L none 0 0 0 w (yaq _) (by omega) (by omega) (yaq _)).mono ?_
  rintro e w' ⟨rfl,rfl⟩
  obtain ⟨κ',Im',h1,h2,h3⟩:=zmP (e:=ρ.t 25) (size:=i0.size) (n:=0) (m:= []) (im:=im) (v:=.slice none 0 0) (w':=w') (xs:= []) hs rfl hs0 (by simp) (by simp) ⟨by simp,.inl ⟨rfl,rfl⟩⟩ (fun _ _=>rfl) (yaq _) rfl rfl rfl ⟨rfl,fun j h=>by simp at h⟩ (fun _=>⟨rfl,fun j h=>by simp at h⟩)
  exact ⟨_,_,_,κ',Im',rfl,⟨rfl,rfl⟩,h2,h3,h1⟩
 ·refine (Any8.slices_Grow_grow L i0 z hi0 hz0 hs0 none 0 0 n [] w (yaq _) (by omega) (by simpa using hb) (by omega) (by simp) (fun _=>rfl) (fun _ h=>by cases h)).mono ?_
  rintro e w' ⟨rfl,rfl⟩
  have hge:=grownCap_ge w (0+n) 0 (ρ.t 25)
  have hle:=grownCap_le_maxLen w (0+n) 0 (ρ.t 25) (by unfold maxLen;omega)
  have hown:(w.drew.alloc (.cells (([]:List Value).toArray++Builtin.zeroCells z.cells (0+n-0)++Builtin.zeroCells z.cells (grownCap w (0+n) 0 (ρ.t 25)-(0+n))) (ρ.t 25))).ownsRow w.heap.size (ρ.t 25) i0.size (.slice (some ⟨w.heap.size,0,none⟩) 0 (grownCap w (0+n) 0 (ρ.t 25))) 0 []:=by
   refine ⟨by simp,.inr ⟨w.heap.size,_,_,rfl,yaq _,heap_alloc_new w.drew _,ydk _,hle, ?_,by simp⟩⟩
   simp only [yeb,size_zeroCells,yec,ycz,ybe,hzs,←ya6]
   rw [ybe] at hge;congr 1;omega
  obtain ⟨κ',Im',h1,h2,h3⟩:=zmP (e:=ρ.t 25) (size:=i0.size) (n:=0) (m:= []) (im:=im) (xs:= []) hs rfl hs0 (by simp) (by simp) hown (fun k hk=>heap_alloc_old w.drew _ hk) (by simp) rfl rfl rfl ⟨rfl,fun j h=>by simp at h⟩ (fun _=>⟨rfl,fun j h=>by simp at h⟩)
  exact ⟨_,_,_,κ',Im',rfl,⟨rfl,rfl⟩,h2,h3,h1⟩
end
end Go.Abs
end
section
set_option maxHeartbeats 4000000
namespace Go.Sf
open Go.Abs
theorem zan (a b:Txt):byteEls (a++b)=byteEls a++byteEls b:=by simp [byteEls]
theorem zao (l:Txt):Els 1 (byteEls l):=by
 refine ⟨fun c hc=> ?_,fun c hc=> ?_,fun c hc=> ?_⟩<;>obtain ⟨n,_,rfl⟩:=yav.1 hc<;>simp [AV.pure,AV.one]
theorem zab (l:Txt):(byteEls l).length=l.length:=by simp [byteEls]
theorem zgT (σ:zac) (m k:Nat) (l:Txt):((byteEls l).mapM fun (c:List AV)=>c.mapM (fz σ m k))=some (byteEls l):=zdg (zao l).2.1 (fun c hc=>by obtain ⟨n,_,rfl⟩:=yav.1 hc;simp)
end Go.Sf
namespace Go.Proofs.YtdbhocoeolhjhaaGreatDoor
open Go.Abs Go.RowKit Go.Sf
variable {G:Globs}
theorem z2r {σ:zac} {n:Nat} (hn:n≤2000000000):ACalls Tryz.prog zh3 [.nils,.int .i64 n] σ (fun r σ'=>r=.row σ.length 0∧σ'=σ++ [.row 5 1 [] true]):=by
 have hk:(Tryz.prog.info? (Tryz.laysGB_ren.t 25)).map (fun i=>(i.size,i.bytes,i.zero.map fun z=>z.cells.size))=some (1,1,some 1):=by kernel_rfl
 obtain ⟨i0,hi0,hk⟩:=yae.1 hk
 simp only [Prod.mk.injEq] at hk
 obtain ⟨h1,h3,hk⟩:=hk
 obtain ⟨z,hz,h2⟩:=yae.1 hk
 have:=zvp (G:=G) (σ:=σ) Tryz.laysGB i0 z hi0 hz (by omega) (by omega) true (n:=n) (by rw [h3];omega) (by omega)
 rw [h1] at this
 exact this
theorem zmN (a b:Txt) (ha:a.length≤1000000000) (hb:b.length≤1000000000):PCalls Tryz.prog zgB [.lst [[.lst (byteEls a)],[.lst (byteEls b)]]] (fun r=>r=.lst (byteEls (a++b))):=by
 refine zaa hmix zg8 rfl ?_
 have la:=zab a
 have lb:=zab b
 simp [zdm]
 refine zah (fun n f σ=>∃i:Nat,n=2-i∧i≤2∧f 0=.lst [[.lst (byteEls a)],[.lst (byteEls b)]]∧f 9=.lst [[.lst (byteEls a)],[.lst (byteEls b)]]∧f 10=.int .i64 2∧f 11=.int .i64 i∧f 3=.int .i64 ((if i=0 then 0 else if i=1 then a.length else a.length+b.length:Nat):Int)∧σ= []) 2 ⟨0,rfl,by omega,by simp,by simp,by simp,by simp,by simp,rfl⟩ ?_
 rintro n f σ ⟨i,rfl,hi,h0,h9,h10,h11,h3,rfl⟩
 have hi3:i=0∨i=1∨i=2:=by omega
 rcases hi3 with rfl|rfl|rfl
 ·have hw:IntKind.i64.wrap (a.length:Int)=a.length:=wrap_i64 (by omega) (by omega)
  have hn:¬((a.length:Int)<0):=by omega
  simp at h3
  simp [h9,h10,h11,h3,la,hw,hn]
  exact zae 1 (by omega) ⟨1,rfl,by omega,by simp [h0],by simp [h9],by simp [h10],by simp [wrap_i64],by simp,rfl⟩
 ·have hw:IntKind.i64.wrap ((a.length:Int)+b.length)=(a.length:Int)+b.length:=wrap_i64 (by omega) (by omega)
  have hn:¬((a.length:Int)+b.length<0):=by omega
  simp at h3
  simp [h9,h10,h11,h3,lb,hw,hn]
  exact zae 0 (by omega) ⟨2,rfl,by omega,by simp [h0],by simp [h9],by simp [h10],by simp [wrap_i64],by simp,rfl⟩
 ·simp at h3
  simp [h9,h10,h11,h3]
  have hg:=z2r (G:=G) (σ:= []) (n:=a.length+b.length) (by omega)
  simp only [Int.natCast_add] at hg
  refine zar hg ?_
  rintro r σ' ⟨rfl,rfl⟩
  simp [h0]
  clear h9 h10 h11 h3
  refine zah (fun n f σ'=>∃i:Nat,n=2-i∧i≤2∧f 25=.lst [[.lst (byteEls a)],[.lst (byteEls b)]]∧f 26=.int .i64 2∧f 27=.int .i64 i∧f 6=.row 0 (byteEls (if i=0 then [] else if i=1 then a else a++b)).length∧σ'= [.row 5 1 (byteEls (if i=0 then [] else if i=1 then a else a++b)) true]) 2 ⟨0,rfl,by omega,by simp [h0],by simp,by simp,by simp [byteEls],by simp [byteEls]⟩ ?_
  rintro n f σ' ⟨i,rfl,hi,h25,h26,h27,h6,rfl⟩
  have hi3:i=0∨i=1∨i=2:=by omega
  rcases hi3 with rfl|rfl|rfl
  ·simp at h6
   simp [h25,h26,h27,h6]
   refine zaK (byteEls []) (byteEls a) true (by simp) rfl (by omega) (zao a).1 (fun _=> .inl rfl) rfl (by simp [byteEls];omega) (by simp [byteEls];omega) ?_
   simp [h25,h26,h27]
   refine zae 1 (by omega) ⟨1,rfl,by omega,by simp [h25],by simp [h26],by simp [wrap_i64], ?_, ?_⟩
   ·simp [byteEls]
   ·simp [byteEls]
  ·simp at h6
   simp [h25,h26,h27,h6]
   refine zaK (byteEls a) (byteEls b) true (by simp) rfl (by omega) (zao b).1 (fun _=> .inl rfl) rfl (by simp [byteEls];omega) (by simp [byteEls];omega) ?_
   simp [h25,h26,h27]
   refine zae 0 (by omega) ⟨2,rfl,by omega,by simp [h25],by simp [h26],by simp [wrap_i64], ?_, ?_⟩
   ·simp [zan]
   ·simp [zan]
  ·simp at h6
   simp [h25,h26,h27,h6]
end Go.Proofs.YtdbhocoeolhjhaaGreatDoor
end
section
set_option maxHeartbeats 4000000
namespace Go.Sf
open Go.Abs
def stepsT:List Int:= [0x00000000,0x105ec76f,0x20bd8ede,0x30e349b1,0x417b1dbc,0x5125dad3,0x61c69362,0x7198540d,0x82f63b78,0x92a8fc17,0xa24bb5a6,0xb21572c9,0xc38d26c4,0xd3d3e1ab,0xe330a81a,0xf36e6f75]
def stepsC:List AV:=stepsT.map (AV.int .u32)
def x32 (a b:Int):Int:=IntKind.u32.wrap (BitVec.ofInt IntKind.u32.bits a^^^BitVec.ofInt IntKind.u32.bits b).toNat
def a32 (a b:Int):Int:=IntKind.u32.wrap (BitVec.ofInt IntKind.u32.bits a&&&BitVec.ofInt IntKind.u32.bits b).toNat
def crcN (s:Int):Int:=x32 (s.fdiv 16) (stepsT.getD (a32 s 15).toNat 0)
def crcB (s:Int) (x:UInt8):Int:=crcN (crcN (x32 s (IntKind.u32.wrap x.toNat)))
def crcU (s:Int) (b:Txt):Int:=x32 IntKind.u32.max (b.foldl crcB (x32 IntKind.u32.max s))
def shrI (n:Int):Nat→Int
 |0=>n
 |k+1=>(shrI n k).fdiv 256
def lo8 (n:Int):UInt8:=UInt8.ofNat (IntKind.u8.wrap n).toNat
def leB (n:Int):Nat→Txt
 |0=> []
 |k+1=>leB n k++ [lo8 (shrI n k)]
def putB (b:Txt):Txt:=b++leB (crcU 0 b) 4
def zaL (p:Txt):Txt:=putB ([lo8 p.length,lo8 ((p.length:Int).fdiv 256)]++p)
theorem zaj (n:Int):∀k,(leB n k).length=k
 |0=>rfl
 |k+1=>by simp [leB,zaj n k]
theorem zon (b:Txt):(putB b).length=b.length+4:=by simp [putB,zaj]
theorem zbq (p:Txt):(zaL p).length=p.length+6:=by simp [zaL,zon]
theorem zpP (n:Int):0≤IntKind.u8.wrap n∧IntKind.u8.wrap n<256:=by
 simp [IntKind.wrap,IntKind.signed,IntKind.bits];omega
theorem z0J (n:Int):((lo8 n).toNat:Int)=IntKind.u8.wrap n:=by
 have:=zpP n
 simp only [lo8,UInt8.toNat_ofNat']
 omega
theorem z7J (s:Int):0≤a32 s 15∧a32 s 15<16:=by
 have h:(BitVec.ofInt IntKind.u32.bits s&&&BitVec.ofInt IntKind.u32.bits 15).toNat≤15:=by
  rw [yef]
  exact Nat.and_le_right
 unfold a32
 obtain ⟨x,hx⟩:∃x,x=(BitVec.ofInt IntKind.u32.bits s&&&BitVec.ofInt IntKind.u32.bits 15).toNat:=⟨_,rfl⟩
 rw [←hx] at h⊢
 simp [IntKind.wrap,IntKind.signed,IntKind.bits];omega
theorem zrc {n:Nat} (h:n<16):(stepsC.drop n).take 1= [.int .u32 (stepsT.getD n 0)]:=by
 have:∀n:Fin 16,(stepsT.drop n.1).take 1= [stepsT.getD n.1 0]:=by decide
 unfold stepsC
 rw [←List.map_drop,←yem,this ⟨n,h⟩];rfl
theorem zzJ (z:Int):∃n:Nat,n<16∧a32 z 15=n∧crcN z=x32 (z.fdiv 16) (stepsT.getD n 0):=by
 have h:=z7J z
 refine ⟨(a32 z 15).toNat,by omega,by omega,rfl⟩
end Go.Sf
namespace Go.Proofs.YtdbhocoeolhjhaaGreatDoor
open Go.Abs Go.RowKit Go.Sf
variable {G:Globs}
theorem z0q (s:Int):zcK (.int .u32 s)=some (.int .u32 (x32 IntKind.u32.max s)):=rfl
theorem zqR (a b:Int):zbn .xor (.int .u32 a) (.int .u32 b)=some (.int .u32 (x32 a b)):=rfl
theorem zxd (a b:Int):zbn .and (.int .u32 a) (.int .u32 b)=some (.int .u32 (a32 a b)):=rfl
theorem z0k (a:Int):zbn .shr (.int .u32 a) (.int .u64 4)=some (.int .u32 (a.fdiv 16)):=rfl
theorem zv7 (a:Int):zbn .shr (.int .u32 a) (.int .u64 8)=some (.int .u32 (a.fdiv 256)):=rfl
theorem zwT (a:Int):zbn .shr (.int .i64 a) (.int .u64 8)=some (.int .i64 (a.fdiv 256)):=rfl
theorem zbz {b:Txt} {i:Nat} {x:UInt8} (h:b[i]? =some x):(byteEls b)[i]? =some [.int .u8 x.toNat]:=by simp [byteEls,h]
attribute [-simp] zbn zcK zca za4
theorem zuq (hT:Globs.tab.lookup 2=some stepsC) (s:Int) (b:Txt) (hl:b.length≤1000000000):PCalls Tryz.prog zs1 [.int .u32 s,.lst (byteEls b)] (fun r=>r=.int .u32 (crcU s b)):=by
 refine zaa hmix zs7 rfl ?_
 have hbl:=zab b
 simp [znH,z0q,hbl]
 obtain ⟨s0,hs0⟩:∃s0,s0=x32 IntKind.u32.max s:=⟨_,rfl⟩
 rw [←hs0]
 refine zah (fun x f σ=>∃i:Nat,x=b.length-i∧i≤b.length∧f 5=.int .u32 ((b.take i).foldl crcB s0)∧f 10=.lst (byteEls b)∧f 11=.int .i64 b.length∧f 12=.int .i64 i∧σ= []) b.length ?_ ?_
 ·exact ⟨0,by simp,by simp,by simp,by simp,by simp,by simp,by simp⟩
 rintro x f σ ⟨i,rfl,hi,f5,f10,f11,f12,rfl⟩
 simp [f11,f12]
 refine zax (fun hlt=> ?_) (fun hge=> ?_)
 ·have hlt':i<b.length:=by omega
  have hwi:IntKind.i64.wrap ((i:Int)+1)=((i+1:Nat):Int):=by rw [wrap_i64 (by omega) (by omega)];omega
  obtain ⟨y,hy⟩:∃y,b[i]? =some y:=⟨_,yad hlt'⟩
  have hc:=zbz hy
  obtain ⟨hx1,hx2⟩:=yaa.1 hc
  have hsn:b.take (i+1)=b.take i++ [y]:=by rw [yax,hy];rfl
  simp [f5,f10,f12,hc,hx2,zaP,zqR]
  obtain ⟨s1,hs1⟩:∃s1,s1=(b.take i).foldl crcB s0:=⟨_,rfl⟩
  rw [←hs1]
  have hB:(b.take (i+1)).foldl crcB s0=crcN (crcN (x32 s1 (IntKind.u32.wrap y.toNat))):=by rw [hsn,List.foldl_append,←hs1];rfl
  refine zah (fun x f σ=>∃k:Nat,x=2-k∧k≤2∧f 5=.int .u32 (if k=0 then x32 s1 (IntKind.u32.wrap y.toNat) else if k=1 then crcN (x32 s1 (IntKind.u32.wrap y.toNat)) else crcN (crcN (x32 s1 (IntKind.u32.wrap y.toNat))))∧f 10=.lst (byteEls b)∧f 11=.int .i64 b.length∧f 12=.int .i64 i∧f 20=.int .i64 k∧σ= []) 2 ?_ ?_
  ·exact ⟨0,by simp,by simp,by simp,by simp [f10],by simp [f11],by simp [f12],by simp,by simp⟩
  clear f5 f10 f11 f12
  rintro x f σ ⟨k,rfl,hk,f5,f10,f11,f12,f20,rfl⟩
  have hk3:k=0∨k=1∨k=2:=by omega
  rcases hk3 with rfl|rfl|rfl
  ·simp at f5
   obtain ⟨z,hz⟩:∃z,z=x32 s1 (IntKind.u32.wrap y.toNat):=⟨_,rfl⟩
   obtain ⟨n,hn16,hn,hcn⟩:=zzJ z
   have hst:n+1≤stepsC.length:=by simp [stepsC,stepsT];omega
   have hst':n<stepsC.length:=hst
   rw [←hz] at f5⊢
   simp [f5,f20,z0k,zxd,wk1,hn,hn16,zaP,hT,hst,hst',zrc hn16,zqR]
   exact zae 1 (by omega) ⟨1,rfl,by omega,by simp [hcn],by simp [f10],by simp [f11],by simp [f12],by simp,rfl⟩
  ·simp at f5
   obtain ⟨z,hz⟩:∃z,z=crcN (x32 s1 (IntKind.u32.wrap y.toNat)):=⟨_,rfl⟩
   obtain ⟨n,hn16,hn,hcn⟩:=zzJ z
   have hst:n+1≤stepsC.length:=by simp [stepsC,stepsT];omega
   have hst':n<stepsC.length:=hst
   rw [←hz] at f5⊢
   simp [f5,f20,z0k,zxd,wk2,hn,hn16,zaP,hT,hst,hst',zrc hn16,zqR]
   exact zae 0 (by omega) ⟨2,rfl,by omega,by simp [hcn],by simp [f10],by simp [f11],by simp [f12],by simp,rfl⟩
  ·simp at f5
   simp [f20,f12,hwi]
   exact zae (b.length-(i+1)) (by omega) ⟨i+1,rfl,by omega,by simp [f5,hB],by simp [f10],by simp [f11],by simp,rfl⟩
 ·have hil:i=b.length:=by omega
  subst hil
  rw [ya1] at f5
  simp [f5,z0q]
  simp [crcU,hs0]
end Go.Proofs.YtdbhocoeolhjhaaGreatDoor
end
section
set_option maxHeartbeats 4000000
namespace Go.Abs
variable [Globs]
theorem zmq {σ₀ ext:zac} {R:AV→zac→Prop} {t:Tg R} {res:List (Nat×Option (Bool×Nat))} {f:Frame} {tf:Tg f} (r:AV) (hr:(res.mapM (zff (σ₀++ext) f)).map zaE=some r) (hru:r.under (σ₀++ext).length=true)
  (hu:∀e∈ext,e.under (σ₀++ext).length=true) (hR:R r (σ₀++ext)):er σ₀ R t res f tf (σ₀++ext):=by
 refine za5 (σ₀++ext) r hr [] (by simp) (by simp) hru (fun i e he'=> ?_) hR
 rcases yel i σ₀.length with hlt|hge2
 ·rw [yar hlt] at he'
  exact .inl he'
 ·rw [yaj hge2] at he'
  exact .inr (hu e (yaf he'))
end Go.Abs
namespace Go.Proofs.YtdbhocoeolhjhaaGreatDoor
open Go.Abs Go.RowKit Go.Sf
variable {G:Globs}
attribute [-simp] zbn zcK zca za4
theorem zxi (n:Int):([AV.int .u8 (IntKind.u8.wrap n)]:List AV)= [.int .u8 (lo8 n).toNat]:=by rw [z0J]
theorem zaS (b:Txt) (n:Int) (k:Nat):byteEls (b++leB n (k+1))=byteEls (b++leB n k)++ [[.int .u8 (IntKind.u8.wrap (shrI n k))]]:=by
 rw [zxi,leB,←ya3,zan];rfl
theorem z1p (hT:Globs.tab.lookup 2=some stepsC) (b:Txt) (hl:b.length≤1000000000):PCalls Tryz.prog z0D [.lst (byteEls b)] (fun r=>r=.int .u32 (crcU 0 b)):=by
 refine zaa hmix zzK rfl ?_
 simp [zup]
 refine zad (zuq hT 0 b hl) (by simp [AV.pure]) ?_
 rintro r rfl
 simp
theorem z33 (b:Txt) (h:b≠ []) (hl:b.length≤1000000000):ACalls Tryz.prog zlU [.lst (byteEls b)] [] (zfD 5 1 (byteEls b) []):=by
 refine zag hmix zrt rfl ?_
 have hbl:=zab b
 simp [zln]
 refine zr0 fun c hc=> ?_
 cases c
 ·simp
  refine zaK [] (byteEls b) false (by simp) rfl (by decide) (zao b).1 (fun h=>by cases h) rfl (by omega) (by omega) ?_
  simp
  refine za5 [.row 5 1 (byteEls b) false] (.row 0 (byteEls b).length) (by simp [zaE]) [] (by simp) (by simp) (by simp [AV.under]) (fun i e he'=> ?_) (.inr ⟨rfl,rfl⟩)
  refine .inr ?_
  match i,he' with
  |0,he'=>
   simp only [ybm,yab] at he'
   subst he'
   exact za7 (zao b).2.1
  |i+1,he'=>simp at he'
 ·have h0:byteEls b= []:=by
   refine Classical.byContradiction fun h=> ?_
   cases hc h
  rw [h0] at hbl
  exact absurd (ydh.1 hbl.symm) h
theorem zs8 (b:Txt) (h:b≠ []) (hl:b.length≤1000000000) {σ:zac}:ACalls Tryz.prog zlU [.lst (byteEls b)] σ (fun r σ'=>r=.row σ.length b.length∧σ'=σ++ [.row 5 1 (byteEls b) false]):=by
 refine (zc4 (z33 b h hl) (by simp [AV.pure]) (zao b).2.1).mono ?_
 rintro r σ' (⟨h0,_,_⟩|⟨rfl,rfl⟩)
 ·have:=zab b
  rw [h0] at this
  exact absurd (ydh.1 this.symm) h
 ·exact ⟨by rw [zab],rfl⟩
theorem z10 (hT:Globs.tab.lookup 2=some stepsC) (b:Txt) (h:b≠ []) (hl:b.length≤100000000) {σ:zac}:ACalls Tryz.prog zyZ [.lst (byteEls b)] σ (fun r σ'=>r=.row σ.length (putB b).length∧σ'=σ++ [.row 5 1 (byteEls (putB b)) false]):=by
 refine zag hmix z1j rfl ?_
 simp [zsI]
 refine zar (zs8 b h (by omega)) ?_
 rintro r σ' ⟨rfl,rfl⟩
 simp
 refine zad (z1p hT b (by omega)) (by simp [AV.pure]) ?_
 rintro r rfl
 simp
 obtain ⟨s,hs⟩:∃s,s=crcU 0 b:=⟨_,rfl⟩
 rw [←hs]
 refine zah (fun x f σ'=>∃k:Nat,x=4-k∧k≤4∧f 3=.row σ.length (b++leB s k).length∧f 4=.int .u32 (shrI s k)∧f 9=.int .i64 k∧σ'=σ++ [.row 5 1 (byteEls (b++leB s k)) false]) 4 ?_ ?_
 ·exact ⟨0,by simp,by simp,by simp [leB],by simp [shrI],by simp,by simp [leB]⟩
 rintro x f σ' ⟨k,rfl,hk,f3,f4,f9,rfl⟩
 simp [f9]
 have hll:(b++leB s k).length=b.length+k:=by simp [zaj]
 have hbl:=zab (b++leB s k)
 refine zax (fun hlt=> ?_) (fun hge=> ?_)
 ·have hk4:k<4:=by omega
  have hwk:IntKind.i64.wrap ((k:Int)+1)=((k+1:Nat):Int):=by rw [wrap_i64 (by omega) (by omega)];omega
  simp [f3,f4,f9,zv7, -List.length_append]
  refine zaK (byteEls (b++leB s k)) [[.int .u8 (IntKind.u8.wrap (shrI s k))]] false (by simp) (by simp [view]) (by decide) (by simp) (fun h=>by cases h) (by rw [hbl]) (by simp [hll, -List.length_append];omega) (by simp [hll, -List.length_append];omega) ?_
  simp [f4,f9,zv7,hwk, -List.length_append]
  refine zae (4-(k+1)) (by omega) ⟨k+1,rfl,by omega, ?_,by simp [shrI],by simp,by simp [zaS]⟩
  simp [leB,zaj]
  omega
 ·have hk4:k=4:=by omega
  subst hk4
  have hbp:b++leB s 4=putB b:=by rw [hs];rfl
  rw [hbp] at f3⊢
  simp [f3]
  exact zmq (ext:= [.row 5 1 (byteEls (putB b)) false]) (.row σ.length (putB b).length) (by simp [zaE,f3]) (by simp [AV.under]) (fun e he=>by simp only [ybh] at he;subst he;exact za7 (zao _).2.1) ⟨rfl,rfl⟩
theorem zhL (hT:Globs.tab.lookup 2=some stepsC) (p:Txt) (h:p≠ []) (hl:p.length≤512) {σ:zac}:ACalls Tryz.prog zvq [.lst (byteEls p)] σ (fun r σ'=>r=.tup [.row σ.length (zaL p).length,.int .i64 0]∧σ'=σ++ [.row 5 1 (byteEls (zaL p)) false]):=by
 refine zag hmix zvl rfl ?_
 have hbl:=zab p
 have hpos:0<p.length:=yda.2 h
 have k1:p.length≠0:=by omega
 have k2:¬512<p.length:=by omega
 have k2':¬(512:Int)<p.length:=by omega
 have kc:=zmN (G:=G) [lo8 p.length,lo8 ((p.length:Int).fdiv 256)] p (by simp) (by omega)
 have hb2:byteEls [lo8 p.length,lo8 ((p.length:Int).fdiv 256)]= [[.int .u8 (IntKind.u8.wrap p.length)],[.int .u8 (IntKind.u8.wrap ((p.length:Int).fdiv 256))]]:=by
  rw [zxi,zxi];rfl
 rw [hb2] at kc
 simp [zpb,hbl,k1,k2,k2',h,zwT]
 refine zad kc (by simp [AV.pure]) ?_
 rintro r rfl
 simp
 have kp:=z10 (G:=G) hT ([lo8 p.length,lo8 ((p.length:Int).fdiv 256)]++p) (by simp) (by simp;omega) (σ:=σ)
 refine zar kp ?_
 rintro r σ' ⟨rfl,rfl⟩
 simp
 exact zmq (ext:= [.row 5 1 (byteEls (zaL p)) false]) (.tup [.row σ.length (zaL p).length,.int .i64 0]) (by simp [zaE,zaL]) (by simp [AV.under]) (fun e he=>by simp only [ybh] at he;subst he;exact za7 (zao _).2.1) ⟨rfl,rfl⟩
theorem zbP (R0:Entry) (tl:zac) (b:Txt) (n:Int) (w:Nat) (hw:w≤8) (hl:b.length≤100000000):ACalls Tryz.prog zhG [.ptr 2 0,.int .i64 n,.int .i64 w] (R0:: .row 5 1 (byteEls b) false:: .var 268 [.row 1 b.length]::tl)
  (fun r σ'=>r=.tup []∧σ'=R0:: .row 5 1 (byteEls (b++leB n w)) false:: .var 268 [.row 1 (b++leB n w).length]::tl):=by
 refine zag hmix zh0 rfl ?_
 simp [zee]
 refine zah (fun x f σ'=>∃k:Nat,x=w-k∧k≤w∧f 0=.ptr 2 0∧f 1=.int .i64 (shrI n k)∧f 6=.int .i64 w∧f 7=.int .i64 k∧σ'=R0:: .row 5 1 (byteEls (b++leB n k)) false:: .var 268 [.row 1 (b++leB n k).length]::tl) w ?_ ?_
 ·exact ⟨0,by simp,by simp,by simp,by simp [shrI],by simp,by simp,by simp [leB]⟩
 rintro x f σ' ⟨k,rfl,hk,f0,f1,f6,f7,rfl⟩
 have hll:(b++leB n k).length=b.length+k:=by simp [zaj]
 have hbl:=zab (b++leB n k)
 simp [f6,f7, -List.length_append]
 refine zax (fun hlt=> ?_) (fun hge=> ?_)
 ·have hwk:IntKind.i64.wrap ((k:Int)+1)=((k+1:Nat):Int):=by rw [wrap_i64 (by omega) (by omega)];omega
  simp [f0,f1,f7, -List.length_append]
  refine zaK (byteEls (b++leB n k)) [[.int .u8 (IntKind.u8.wrap (shrI n k))]] false (by simp) (by simp [view]) (by decide) (by simp) (fun h=>by cases h) (by rw [hbl]) (by simp [hll, -List.length_append];omega) (by simp [hll, -List.length_append];omega) ?_
  simp [f0,f1,f7,zwT,hwk,splice, -List.length_append]
  refine zae (w-(k+1)) (by omega) ⟨k+1,rfl,by omega,by simp [f0],by simp [shrI],by simp [f6],by simp, ?_⟩
  rw [zaS]
  simp [leB,zaj]
  omega
 ·have hk4:k=w:=by omega
  subst hk4
  simp [-List.length_append]
  refine za5 (R0:: .row 5 1 (byteEls (b++leB n k)) false:: .var 268 [.row 1 (b++leB n k).length]::tl) (.tup []) (by simp [zaE]) [] (by simp) (by simp) (by simp [AV.under]) (fun i e he=> ?_) ⟨rfl,rfl⟩
  match i,he with
  |0,he=>exact .inl he
  |1,he=>
   simp only [ydg,ybm,yab] at he
   subst he
   exact .inr (za7 (zao _).2.1)
  |2,he=>
   simp only [ydg,ybm,yab] at he
   subst he
   exact .inr (by simp [Entry.under,AV.under])
  |i+3,he=>exact .inl he
end Go.Proofs.YtdbhocoeolhjhaaGreatDoor
end
section
set_option maxHeartbeats 4000000
namespace Go.Sf
open Go.Abs
def zaM (path:Txt):List AV:= [.int .i64 1,.str path,.int .i64 1,.int .i64 500000,.lst rungsC,.int .i64 0,.int .i64 0,.int .i64 0,.int .i64 0]
def zbf (X:AV) (t now:Nat) (v:Int):List AV:= [.int .i64 2,.str [],.int .i64 0,.int .i64 0,X,.int .i64 0,.int .i64 t,.int .i64 now,.int .i64 v]
def zcy (X:AV) (r t:Nat) (v:Int):List AV:= [.int .i64 3,.str [],.int .i64 0,.int .i64 0,X,.int .i64 r,.int .i64 t,.int .i64 0,.int .i64 v]
def zii (X:AV):Prop:=X=.nils∨X=.lst []
def zba (path:Txt):Txt:= [lo8 1]++leB path.length 2++path++leB 1 1++leB 500000 4++leB 2 1++leB 10 4++leB 6 2++leB 60 4++leB 5 2
def zbC (t now:Nat) (v:Int):Txt:= [lo8 2]++leB t 8++leB now 8++leB v 8
def zdG (r t:Nat) (v:Int):Txt:= [lo8 3]++leB r 1++leB t 8++leB v 8
theorem zcx (p:Txt):(zba p).length=p.length+21:=by simp [zba,zaj];omega
theorem zfy (t now:Nat) (v:Int):(zbC t now v).length=25:=by simp [zbC,zaj]
theorem zhj (r t:Nat) (v:Int):(zdG r t v).length=18:=by simp [zdG,zaj]
end Go.Sf
namespace Go.Proofs.YtdbhocoeolhjhaaGreatDoor
open Go.Abs Go.RowKit Go.Sf
variable {G:Globs}
theorem zo5 (t:Nat) (h:t≤1099511627776):PCalls Tryz.prog zoO [.int .i64 t] (fun r=>r=.bool true):=by
 refine zaa hmix zoz rfl ?_
 have h1:(0:Int)≤t:=by omega
 have h2:(t:Int)≤1099511627776:=by omega
 simp [zix,h1,h2,h]
theorem zyA (X:AV) (hX:zii X) (t now:Nat) (v:Int):PCalls Tryz.prog zfT [.agg (zbf X t now v)] (fun r=>r=.bool true):=by
 refine zaa hmix zgb rfl ?_
 rcases hX with rfl|rfl<;>simp [zd5,zbf]
theorem zxH (X:AV) (hX:zii X) (r t:Nat) (v:Int):PCalls Tryz.prog zfT [.agg (zcy X r t v)] (fun r=>r=.bool true):=by
 refine zaa hmix zgb rfl ?_
 rcases hX with rfl|rfl<;>simp [zd5,zcy]
theorem z1Z:PCalls Tryz.prog zpc [.lst rungsC] (fun r=>r=.bool true):=by
 refine zaa hmix zpp rfl ?_
 simp [ziF,rungsC]
 refine zah (fun x f σ=>∃(i:Nat) (tl:zac),x=2-i∧i≤2∧f 13=.lst rungsC∧f 14=.int .i64 2∧f 15=.int .i64 i∧σ=tl) 2 ?_ ?_
 ·exact ⟨0,[],by simp,by simp,by simp [rungsC],by simp,by simp,by simp⟩
 rintro x f σ ⟨i,tl,hx,hi,f13,f14,f15,rfl⟩
 have hi3:i=0∨i=1∨i=2:=by omega
 rcases hi3 with rfl|rfl|rfl
 ·simp [f13,f14,f15,rungsC,wk1,zam,zal,splice]
  exact zae 1 (by omega) ⟨1,_,rfl,by omega,by simp [f13,rungsC],by simp [f14],by simp,rfl⟩
 ·simp [f13,f14,f15,rungsC,wk2,zam,zal,splice]
  exact zae 0 (by omega) ⟨2,_,rfl,by omega,by simp [f13,rungsC],by simp [f14],by simp,rfl⟩
 ·simp [f14,f15]
theorem zxv (p:Txt) (h0:p≠ []) (hl:p.length≤100):PCalls Tryz.prog zfO [.agg (zaM p)] (fun r=>r=.bool true):=by
 refine zaa hmix zfM rfl ?_
 have h2:(p.length:Int)≤263:=by omega
 have h2':p.length≤263:=by omega
 simp [zdH,zaM,h0,h2,h2']
 refine zad z1Z (by simp [AV.pure,rungsC]) ?_
 rintro r rfl
 simp
theorem zxT (X:AV) (hX:zii X) (t now:Nat) (v:Int) (ht:t≤1099511627776) (hn:now≤1099511627776) (hv:v≠ -9223372036854775808):PCalls Tryz.prog zfO [.agg (zbf X t now v)] (fun r=>r=.bool true):=by
 refine zaa hmix zfM rfl ?_
 have kB:=zyA (G:=G) X hX t now v
 simp only [zbf] at kB
 rcases hX with rfl|rfl
 all_goals
  simp [zdH,zbf]
  refine zad kB (by simp [AV.pure]) ?_
  rintro r rfl
  simp
  refine zad (zo5 t ht) (by simp) ?_
  rintro r rfl
  simp
  refine zad (zo5 now hn) (by simp) ?_
  rintro r rfl
  simp [hv]
theorem zys (X:AV) (hX:zii X) (i t:Nat) (v:Int) (hi:i<4) (ht:t≤1099511627776) (hv:v≠ -9223372036854775808):PCalls Tryz.prog zfO [.agg (zcy X i t v)] (fun r=>r=.bool true):=by
 refine zaa hmix zfM rfl ?_
 have kB:=zxH (G:=G) X hX i t v
 simp only [zcy] at kB
 have h1:(0:Int)≤i:=by omega
 have h2:(i:Int)<4:=by omega
 rcases hX with rfl|rfl
 all_goals
  simp [zdH,zcy]
  refine zad kB (by simp [AV.pure]) ?_
  rintro r rfl
  simp [h1,h2,hi]
  refine zad (zo5 t ht) (by simp) ?_
  rintro r rfl
  simp [hv]
theorem z6s (n:Int):([[AV.int .u8 (IntKind.u8.wrap n)]]:List (List AV))=byteEls [lo8 n]:=by rw [zxi];rfl
theorem z3S (X:AV) (hX:zii X) (t now:Nat) (v:Int) (ht:t≤1099511627776) (hn:now≤1099511627776) (hv:v≠ -9223372036854775808) (hv2:i64 v):PCalls Tryz.prog zh5 [.agg (zbf X t now v)] (fun r=>r=.tup [.lst (byteEls (zbC t now v)),.int .i64 0]):=by
 refine zaa hmix zhF rfl ?_
 have kR:=zxT (G:=G) X hX t now v ht hn hv
 have hw:IntKind.i64.wrap v=v:=wrap_i64 hv2.1 hv2.2
 simp only [zbf] at kR
 rcases hX with rfl|rfl
 all_goals
  simp [zfs,zbf]
  refine zad kR (by simp [AV.pure]) ?_
  rintro r rfl
  simp
  rw [z6s]
  refine zar (zbP _ [] [lo8 2] t 8 (by omega) (by simp)) ?_
  rintro r σ' ⟨rfl,rfl⟩
  obtain ⟨b1,hb1⟩:∃b1,b1= [lo8 2]++leB t 8:=⟨_,rfl⟩
  have hlb1:b1.length=9:=by rw [hb1];simp [zaj]
  rw [←hb1]
  simp
  refine zar (zbP _ [] b1 now 8 (by omega) (by omega)) ?_
  rintro r σ' ⟨rfl,rfl⟩
  obtain ⟨b2,hb2⟩:∃b2,b2=b1++leB now 8:=⟨_,rfl⟩
  have hlb2:b2.length=17:=by rw [hb2];simp [zaj,hlb1]
  rw [←hb2]
  simp
  refine zar (zbP _ [] b2 v 8 (by omega) (by omega)) ?_
  rintro r σ' ⟨rfl,rfl⟩
  obtain ⟨b3,hb3⟩:∃b3,b3=b2++leB v 8:=⟨_,rfl⟩
  have hlb3:b3.length=25:=by rw [hb3];simp [zaj,hlb2]
  rw [←hb3]
  simp
  have hb:b3=zbC t now v:=by rw [hb3,hb2,hb1];rfl
  rw [hb]
  simp [zgT,zab]
theorem z4t (X:AV) (hX:zii X) (i t:Nat) (v:Int) (hi:i<4) (ht:t≤1099511627776) (hv:v≠ -9223372036854775808) (hv2:i64 v):PCalls Tryz.prog zh5 [.agg (zcy X i t v)] (fun r=>r=.tup [.lst (byteEls (zdG i t v)),.int .i64 0]):=by
 refine zaa hmix zhF rfl ?_
 have kR:=zys (G:=G) X hX i t v hi ht hv
 have hw:IntKind.i64.wrap v=v:=wrap_i64 hv2.1 hv2.2
 simp only [zcy] at kR
 rcases hX with rfl|rfl
 all_goals
  simp [zfs,zcy]
  refine zad kR (by simp [AV.pure]) ?_
  rintro r rfl
  simp
  rw [z6s]
  refine zar (zbP _ [] [lo8 3] i 1 (by omega) (by simp)) ?_
  rintro r σ' ⟨rfl,rfl⟩
  obtain ⟨b1,hb1⟩:∃b1,b1= [lo8 3]++leB i 1:=⟨_,rfl⟩
  have hlb1:b1.length=2:=by rw [hb1];simp [zaj]
  rw [←hb1]
  simp
  refine zar (zbP _ [] b1 t 8 (by omega) (by omega)) ?_
  rintro r σ' ⟨rfl,rfl⟩
  obtain ⟨b2,hb2⟩:∃b2,b2=b1++leB t 8:=⟨_,rfl⟩
  have hlb2:b2.length=10:=by rw [hb2];simp [zaj,hlb1]
  rw [←hb2]
  simp
  refine zar (zbP _ [] b2 v 8 (by omega) (by omega)) ?_
  rintro r σ' ⟨rfl,rfl⟩
  obtain ⟨b3,hb3⟩:∃b3,b3=b2++leB v 8:=⟨_,rfl⟩
  have hlb3:b3.length=18:=by rw [hb3];simp [zaj,hlb2]
  rw [←hb3]
  simp
  have hb:b3=zdG i t v:=by rw [hb3,hb2,hb1];rfl
  rw [hb]
  simp [zgT,zab]
theorem zw8 (p:Txt) (h0:p≠ []) (hl:p.length≤100):PCalls Tryz.prog zh5 [.agg (zaM p)] (fun r=>r=.tup [.lst (byteEls (zba p)),.int .i64 0]):=by
 refine zaa hmix zhF rfl ?_
 have kR:=zxv (G:=G) p h0 hl
 simp only [zaM] at kR
 simp [zfs,zaM]
 refine zad kR (by simp [AV.pure,rungsC]) ?_
 rintro r rfl
 simp
 rw [z6s]
 refine zar (zbP _ [] [lo8 1] p.length 2 (by omega) (by simp)) ?_
 rintro r σ' ⟨rfl,rfl⟩
 obtain ⟨b1,hb1⟩:∃b1,b1= [lo8 1]++leB p.length 2:=⟨_,rfl⟩
 have hlb1:b1.length=3:=by rw [hb1];simp [zaj]
 rw [←hb1]
 simp
 refine z0P (byteEls b1) false (by simp) (zab b1) (by omega) ?_
 simp [splice]
 rw [←zan]
 obtain ⟨b2,hb2⟩:∃b2,b2=b1++p:=⟨_,rfl⟩
 have hlb2:b2.length=p.length+3:=by rw [hb2];simp [hlb1];omega
 have hlb2':b1.length+p.length=b2.length:=by omega
 rw [←hb2,hlb2']
 refine zar (zbP _ [] b2 1 1 (by omega) (by omega)) ?_
 rintro r σ' ⟨rfl,rfl⟩
 obtain ⟨b3,hb3⟩:∃b3,b3=b2++leB 1 1:=⟨_,rfl⟩
 have hlb3:b3.length=p.length+4:=by rw [hb3];simp [zaj,hlb2]
 rw [←hb3]
 simp
 refine zar (zbP _ [] b3 500000 4 (by omega) (by omega)) ?_
 rintro r σ' ⟨rfl,rfl⟩
 obtain ⟨b4,hb4⟩:∃b4,b4=b3++leB 500000 4:=⟨_,rfl⟩
 have hlb4:b4.length=p.length+8:=by rw [hb4];simp [zaj,hlb3]
 rw [←hb4]
 simp [rungsC]
 refine zar (zbP _ [] b4 2 1 (by omega) (by omega)) ?_
 rintro r σ' ⟨rfl,rfl⟩
 obtain ⟨b5,hb5⟩:∃b5,b5=b4++leB 2 1:=⟨_,rfl⟩
 have hlb5:b5.length=p.length+9:=by rw [hb5];simp [zaj,hlb4]
 rw [←hb5]
 simp [rungsC]
 obtain ⟨b6,hb6⟩:∃b6,b6=b5++leB 10 4:=⟨_,rfl⟩
 obtain ⟨b7,hb7⟩:∃b7,b7=b6++leB 6 2:=⟨_,rfl⟩
 obtain ⟨b8,hb8⟩:∃b8,b8=b7++leB 60 4:=⟨_,rfl⟩
 obtain ⟨b9,hb9⟩:∃b9,b9=b8++leB 5 2:=⟨_,rfl⟩
 have hlb6:b6.length=p.length+13:=by rw [hb6];simp [zaj,hlb5]
 have hlb7:b7.length=p.length+15:=by rw [hb7];simp [zaj,hlb6]
 have hlb8:b8.length=p.length+19:=by rw [hb8];simp [zaj,hlb7]
 have hlb9:b9.length=p.length+21:=by rw [hb9];simp [zaj,hlb8]
 have hbb:b9=zba p:=by rw [hb9,hb8,hb7,hb6,hb5,hb4,hb3,hb2,hb1];rfl
 obtain ⟨R0,hR0⟩:∃R0:Entry,R0=.var 74 (zaM p):=⟨_,rfl⟩
 refine zah (fun x f σ=>∃(i:Nat) (b:Txt) (tl:zac),x=2-i∧((i=0∧b=b5∧tl= [])∨(i=1∧b=b7∧tl.length=1)∨(i=2∧b=b9))∧f 4=.ptr 2 0∧f 49=.lst rungsC∧f 50=.int .i64 2∧f 51=.int .i64 i∧σ=R0:: .row 5 1 (byteEls b) false:: .var 268 [.row 1 b.length]::tl) 2 ?_ ?_
 ·exact ⟨0,b5,[],by simp,by simp,by simp,by simp [rungsC],by simp,by simp,by simp [hR0,zaM,rungsC]⟩
 rintro x f σ ⟨i,b,tl,hx,hh,f4,f49,f50,f51,rfl⟩
 rcases hh with ⟨rfl,rfl,rfl⟩|⟨rfl,rfl,htl⟩|⟨rfl,rfl⟩
 ·simp [f4,f49,f50,f51,rungsC,splice]
  refine zar (zbP _ _ b 10 4 (by omega) (by omega)) ?_
  rintro r σ' ⟨rfl,rfl⟩
  rw [←hb6]
  simp [f4]
  refine zar (zbP _ _ b6 6 2 (by omega) (by omega)) ?_
  rintro r σ' ⟨rfl,rfl⟩
  rw [←hb7]
  simp [f51,wk1]
  exact zae 1 (by omega) ⟨1,b7,_,rfl,.inr (.inl ⟨rfl,rfl,rfl⟩),by simp [f4],by simp [f49,rungsC],by simp [f50],by simp,rfl⟩
 ·obtain ⟨E,rfl⟩:∃E,tl= [E]:=List.length_eq_one_iff.1 htl
  simp [f4,f49,f50,f51,rungsC,splice]
  refine zar (zbP _ _ b 60 4 (by omega) (by omega)) ?_
  rintro r σ' ⟨rfl,rfl⟩
  rw [←hb8]
  simp [f4]
  refine zar (zbP _ _ b8 5 2 (by omega) (by omega)) ?_
  rintro r σ' ⟨rfl,rfl⟩
  rw [←hb9]
  simp [f51,wk2]
  exact zae 0 (by omega) ⟨2,b9,_,rfl,.inr (.inr ⟨rfl,rfl⟩),by simp [f4],by simp [f49,rungsC],by simp [f50],by simp,rfl⟩
 ·simp [f4,f50,f51,zgT,zab,hbb]
end Go.Proofs.YtdbhocoeolhjhaaGreatDoor
end
