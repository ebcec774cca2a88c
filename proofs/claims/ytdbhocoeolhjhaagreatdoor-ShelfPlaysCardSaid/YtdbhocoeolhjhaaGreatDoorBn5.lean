/- Shelf: records in frames; the bytes of points and of slots. Shelf: the bytes of points; a whole segment. Shelf: a row of slots that slices.SortFunc ha -/
import Derived.Test.YtdbhocoeolhjhaaGreatDoorSlLay
import Derived.Test.YtdbhocoeolhjhaaGreatDoorShelf
import Derived.Shelf.SlSortCmp.InsertionK
import Derived.Shelf.SlSortCmp.NoneTotal
import Derived.Test.YtdbhocoeolhjhaaGreatDoorBn1
import Derived.Test.YtdbhocoeolhjhaaGreatDoorBn2
import Derived.Test.YtdbhocoeolhjhaaGreatDoorBn3
import Derived.Test.YtdbhocoeolhjhaaGreatDoorBn4
set_option linter.unusedSimpArgs false
set_option linter.unusedVariables false
set_option linter.constructorNameAsVariable false
section
set_option maxHeartbeats 4000000
namespace Go.Sf
open Go.Abs
structure PtM where
 t:Nat
 now:Nat
 v:Int
end Go.Sf
namespace Go.Proofs.YtdbhocoeolhjhaaGreatDoor
open Go.Abs Go.RowKit Go.Sf
abbrev Steps (G:Globs):Prop:=(@Globs.tab G).lookup 2=some stepsC
variable {G:Globs}
theorem frameP_ok (hT:Steps G) (X:AV) (hX:Blank X) (t now:Nat) (v:Int) (ht:t≤1099511627776) (hn:now≤1099511627776) (hv:v≠ -9223372036854775808) (hv2:i64 v) {σ:Store}:ACalls Tryz.prog n_segment_Frame [.agg (pointC X t now v)] σ (fun r σ'=>r=.tup [.row (σ.length+1) (frameB ((pointB t now v))).length,.int .i64 0]∧σ'=σ++ [.var 74 (pointC X t now v),.row 5 1 (byteEls (frameB ((pointB t now v)))) false]):=by
 refine acalls_of_awp_e hmix c_segment_Frame rfl ?_
 have kP:=sPutP_ok (G:=G) X hX t now v ht hn hv hv2
 simp only [pointC] at kP
 have hne:(pointB t now v)≠ []:=by simp [pointB]
 have hle:((pointB t now v)).length≤512:=by rw [pointB_len];omega
 have hbl:=byteEls_length ((pointB t now v))
 rcases hX with rfl|rfl
 all_goals
  simp [a_segment_Frame,pointC]
  refine ac_same kP (by simp [AV.pure]) ?_
  rintro r rfl
  simp
  refine ac_eff (framePut_ok hT (pointB t now v) hne hle) ?_
  rintro r σ' ⟨rfl,rfl⟩
  simp
  exact er_more (ext:= [.var 74 (pointC _ t now v),.row 5 1 (byteEls (frameB (pointB t now v))) false]) (.tup [.row (σ.length+1) (frameB (pointB t now v)).length,.int .i64 0]) (by simp [tupOf]) (by simp [AV.under]) (fun e he=>by
   simp only [List.mem_cons,List.not_mem_nil,or_false] at he
   rcases he with rfl|rfl
   ·simp [Entry.under,AV.under,pointC]
   ·exact row_under (byteEls_els _).2.1) ⟨rfl,by simp [pointC]⟩
theorem frameS_ok (hT:Steps G) (X:AV) (hX:Blank X) (i t:Nat) (v:Int) (hi:i<4) (ht:t≤1099511627776) (hv:v≠ -9223372036854775808) (hv2:i64 v) {σ:Store}:ACalls Tryz.prog n_segment_Frame [.agg (slotR X i t v)] σ (fun r σ'=>r=.tup [.row (σ.length+1) (frameB ((slotB i t v))).length,.int .i64 0]∧σ'=σ++ [.var 74 (slotR X i t v),.row 5 1 (byteEls (frameB ((slotB i t v)))) false]):=by
 refine acalls_of_awp_e hmix c_segment_Frame rfl ?_
 have kP:=sPutS_ok (G:=G) X hX i t v hi ht hv hv2
 simp only [slotR] at kP
 have hne:(slotB i t v)≠ []:=by simp [slotB]
 have hle:((slotB i t v)).length≤512:=by rw [slotB_len];omega
 have hbl:=byteEls_length ((slotB i t v))
 rcases hX with rfl|rfl
 all_goals
  simp [a_segment_Frame,slotR]
  refine ac_same kP (by simp [AV.pure]) ?_
  rintro r rfl
  simp
  refine ac_eff (framePut_ok hT (slotB i t v) hne hle) ?_
  rintro r σ' ⟨rfl,rfl⟩
  simp
  exact er_more (ext:= [.var 74 (slotR _ i t v),.row 5 1 (byteEls (frameB (slotB i t v))) false]) (.tup [.row (σ.length+1) (frameB (slotB i t v)).length,.int .i64 0]) (by simp [tupOf]) (by simp [AV.under]) (fun e he=>by
   simp only [List.mem_cons,List.not_mem_nil,or_false] at he
   rcases he with rfl|rfl
   ·simp [Entry.under,AV.under,slotR]
   ·exact row_under (byteEls_els _).2.1) ⟨rfl,by simp [slotR]⟩
theorem frameH_ok (hT:Steps G) (p:Txt) (h0:p≠ []) (hl:p.length≤100) {σ:Store}:ACalls Tryz.prog n_segment_Frame [.agg (headC p)] σ (fun r σ'=>r=.tup [.row (σ.length+1) (frameB ((headB p))).length,.int .i64 0]∧σ'=σ++ [.var 74 (headC p),.row 5 1 (byteEls (frameB ((headB p)))) false]):=by
 refine acalls_of_awp_e hmix c_segment_Frame rfl ?_
 have kP:=sPutH_ok (G:=G) p h0 hl
 simp only [headC] at kP
 have hne:(headB p)≠ []:=by simp [headB]
 have hle:((headB p)).length≤512:=by rw [headB_len];omega
 have hbl:=byteEls_length ((headB p))
 have h9:True:=trivial
 all_goals
  simp [a_segment_Frame,headC]
  refine ac_same kP (by simp [AV.pure,rungsC]) ?_
  rintro r rfl
  simp
  refine ac_eff (framePut_ok hT (headB p) hne hle) ?_
  rintro r σ' ⟨rfl,rfl⟩
  simp
  exact er_more (ext:= [.var 74 (headC p),.row 5 1 (byteEls (frameB (headB p))) false]) (.tup [.row (σ.length+1) (frameB (headB p)).length,.int .i64 0]) (by simp [tupOf]) (by simp [AV.under]) (fun e he=>by
   simp only [List.mem_cons,List.not_mem_nil,or_false] at he
   rcases he with rfl|rfl
   ·simp [Entry.under,AV.under,headC,rungsC]
   ·exact row_under (byteEls_els _).2.1) ⟨rfl,by simp [headC]⟩
end Go.Proofs.YtdbhocoeolhjhaaGreatDoor
end
section
set_option maxHeartbeats 4000000
namespace Go.Abs
theorem get_p2 {σ:Store} {a b c:Entry} {tl:Store}:(σ++a::b::c::tl)[σ.length+1+1]? =some c:=by
 rw [List.getElem?_append_right (by omega),show σ.length+1+1-σ.length=2 by omega];rfl
theorem get_p5 {A B C x y z:Entry} {tl:Store}:(A::B::C::(tl++ [x,y,z]))[tl.length+1+1+1+1+1]? =some z:=by
 simp only [List.getElem?_cons_succ]
 rw [List.getElem?_append_right (by omega),show tl.length+1+1-tl.length=2 by omega];rfl
theorem ap_accM {K:AV→Store→Prop} {t:Tg K} {e size bytes:Nat} {σ τ:Store} {v y:AV} {l m:List (List AV)} (h:AccT e size σ.length τ v l) (hv:view (σ++τ) y=some m) (hm:m≠ []) (hs:0<size) (hl:∀c∈m,c.length=size) (hf:Fixed (σ++τ) y m) (hb:(l.length+m.length)*bytes≤140737488355328) (h63:l.length+m.length≤9223372036854775807)
  (hK:∀v' τ',AccT e size σ.length τ' v' (l++m)→τ.length≤τ'.length→K v' (σ++τ')):ap K t (σ++τ) e size bytes v y:=by
 rcases h with ⟨rfl,rfl⟩|⟨h1,p,rfl,h3⟩
 ·refine ap_new true m hv hs hl (fun _=>hf) (by simpa using hb) (by simpa using h63) ?_
  have:=hK (.row (σ++τ).length m.length) (τ++ [.row e size m true]) (.inr ⟨by simpa using hm,τ.length,by simp,by simp⟩) (by simp)
  simpa using this
 ·obtain ⟨hp,_⟩:=List.getElem?_eq_some_iff.1 h3
  refine ap_row l m true (by rw [List.getElem?_append_right (by omega),Nat.add_sub_cancel_left];exact h3) hv hs hl (fun _=>hf) rfl hb h63 ?_
  have:=hK (.row (σ.length+p) (l.length+m.length)) (τ.set p (.row e size (l++m) true)) (.inr ⟨by simp [h1],p,by simp,by simp [hp]⟩) (by simp)
  rw [List.set_append_right _ _ (by omega),Nat.add_sub_cancel_left]
  exact this
end Go.Abs
namespace Go.Sf
open Go.Abs
def framesB (bs:List ArrM):Txt:=bs.flatMap fun a=>frameB (pointB a.time a.now a.value)
theorem framesB_snoc (bs:List ArrM) (a:ArrM):framesB (bs++ [a])=framesB bs++frameB (pointB a.time a.now a.value):=by simp [framesB]
theorem framesB_len (bs:List ArrM):(framesB bs).length=31*bs.length:=by
 induction bs with
 |nil=>rfl
 |cons a bs ih=>
  have:framesB (a::bs)=frameB (pointB a.time a.now a.value)++framesB bs:=rfl
  rw [this,List.length_append,ih,frameB_len,pointB_len,List.length_cons];omega
structure SlR where
 rung:Nat
 t:Nat
 v:Int
structure OkSl (s:SlR):Prop where
 r:s.rung<4
 t:s.t≤1099511627776
 v:i64 s.v
 n:s.v≠ -9223372036854775808
def slRC (s:SlR):List AV:=slotR (.lst []) s.rung s.t s.v
def slRsC (l:List SlR):List (List AV):=l.map slRC
def slRsB (l:List SlR):Txt:=l.flatMap fun s=>frameB (slotB s.rung s.t s.v)
theorem slRsB_snoc (l:List SlR) (s:SlR):slRsB (l++ [s])=slRsB l++frameB (slotB s.rung s.t s.v):=by simp [slRsB]
theorem slRsB_len (l:List SlR):(slRsB l).length=24*l.length:=by
 induction l with
 |nil=>rfl
 |cons a bs ih=>
  have:slRsB (a::bs)=frameB (slotB a.rung a.t a.v)++slRsB bs:=rfl
  rw [this,List.length_append,ih,frameB_len,slotB_len,List.length_cons];omega
theorem slRsC_len (l:List SlR):(slRsC l).length=l.length:=by simp [slRsC]
theorem slRsC_get {l:List SlR} {i:Nat} {s:SlR} (h:l[i]? =some s):(slRsC l)[i]? =some (slRC s):=by simp [slRsC,h]
def writeB (path:Txt) (l:List SlR):Txt:=frameB (headB path)++slRsB l
theorem writeB_len (p:Txt) (l:List SlR):(writeB p l).length=p.length+27+24*l.length:=by
 simp [writeB,slRsB_len,frameB_len,headB_len]
end Go.Sf
namespace Go.Proofs.YtdbhocoeolhjhaaGreatDoor
open Go.Abs Go.RowKit Go.Sf
variable {G:Globs}
theorem frames_ok (hT:Steps G) (bs:List ArrM) (hb:∀a∈bs,OkA a∧OkV a) (hl:bs.length≤1000):PCalls Tryz.prog n_shelf_frames [.lst (arrsC bs)] (fun r=>r=.tup [.lst (byteEls (framesB bs)),.int .i64 0]):=by
 refine pcalls_of_awp hmix c_shelf_frames rfl ?_
 have hle:=arrsC_len bs
 simp [a_shelf_frames,hle]
 refine lp_startx (fun x f σ=>∃(i:Nat),x=bs.length-i∧i≤bs.length∧AccT 5 1 0 σ (f 4) (byteEls (framesB (bs.take i)))∧f 9=.lst (arrsC bs)∧f 10=.int .i64 bs.length∧f 11=.int .i64 i) bs.length ?_ ?_
 ·exact ⟨0,by simp,by simp,by simp [framesB,byteEls];exact accT_nil,by simp,by simp,by simp⟩
 rintro x f σ ⟨i,rfl,hi,hA,f9,f10,f11⟩
 have hfl:=framesB_len (bs.take i)
 have hfe:=byteEls_length (framesB (bs.take i))
 have hmin:(bs.take i).length=i:=by simp;omega
 simp [f10,f11]
 refine cb_dec (fun hlt=> ?_) (fun hge=> ?_)
 ·have hlt':i<bs.length:=by omega
  have hwi:IntKind.i64.wrap ((i:Int)+1)=((i+1:Nat):Int):=by rw [wrap_i64 (by omega) (by omega)];omega
  obtain ⟨a,ha⟩:∃a,bs[i]? =some a:=⟨_,List.getElem?_eq_getElem hlt'⟩
  have hc:=arrsC_get ha
  obtain ⟨hx1,hx2⟩:=List.getElem?_eq_some_iff.1 hc
  obtain ⟨ok,okv⟩:=hb a (List.mem_of_getElem? ha)
  have hsn:bs.take (i+1)=bs.take i++ [a]:=by rw [List.take_add_one,ha];rfl
  have o1:=ok.t
  have o2:=ok.n
  have kF:=fun (σ:Store)=>frameP_ok (G:=G) hT .nils (.inl rfl) a.time a.now a.value (by omega) (by omega) okv ok.v (σ:=σ)
  simp only [pointC] at kF
  simp [f9,f11,hc,hx2,arrC,tail_get,tail_set,splice]
  refine ac_eff (kF _) ?_
  rintro r σ' ⟨rfl,rfl⟩
  obtain ⟨b,hb'⟩:∃b,b=frameB (pointB a.time a.now a.value):=⟨_,rfl⟩
  have hbl:b.length=31:=by rw [hb',frameB_len,pointB_len]
  have hbe:=byteEls_length b
  have hb0:byteEls b≠ []:=fun e=>by rw [e] at hbe;simp at hbe;omega
  rw [←hb']
  simp
  have hA2:=(((hA.more [Entry.var 91 (arrC a)]).more [Entry.var 74 (pointC .nils a.time a.now a.value)]).more [Entry.row 5 1 (byteEls b) false])
  simp only [List.append_assoc,List.cons_append,List.nil_append,arrC,pointC] at hA2
  refine ap_accM (σ:= []) hA2 (m:=byteEls b) ?_ hb0 (by decide) (byteEls_els b).1 (.inr (byteEls_els b).2.1) (by rw [hfe,hfl,hmin,hbe,hbl];omega) (by rw [hfe,hfl,hmin,hbe,hbl];omega) fun v' τ' hA' hle'=> ?_
  ·show view (σ++ [_,_,.row 5 1 (byteEls b) false]) (.row (σ.length+1+1) b.length)=some (byteEls b)
   simp only [view,get_p2,hbe,if_true]
  simp [f11,hwi]
  refine nx_intro (bs.length-(i+1)) (by omega) ⟨i+1,rfl,by omega, ?_,by simp [f9],by simp [f10],by simp⟩
  simp
  rw [hsn,framesB_snoc,byteEls_app,←hb']
  exact hA'
 ·have hil:i=bs.length:=by omega
  subst hil
  rw [List.take_length] at hA
  simp [hA.finT0]
theorem sWrite_ok (hT:Steps G) (p:Txt) (h0:p≠ []) (hp:p.length≤100) (l:List SlR) (hs:∀s∈l,OkSl s) (hl:l.length≤1000):PCalls Tryz.prog n_segment_Write [.agg (headC p),.lst (slRsC l)] (fun r=>r=.tup [.lst (byteEls (writeB p l)),.int .i64 0]):=by
 refine pcalls_of_awp hmix c_segment_Write rfl ?_
 have hle:=slRsC_len l
 have kH:=fun (σ:Store)=>frameH_ok (G:=G) hT p h0 hp (σ:=σ)
 simp only [headC] at kH
 simp [a_segment_Write,headC,hle,rungsC]
 simp only [rungsC] at kH
 refine ac_eff (kH _) ?_
 rintro r σ' ⟨rfl,rfl⟩
 simp
 obtain ⟨R0,hR0⟩:∃R0:Entry,R0=.var 74 (headC p):=⟨_,rfl⟩
 obtain ⟨H,hH⟩:∃H,H=frameB (headB p):=⟨_,rfl⟩
 have hHl:H.length=p.length+27:=by rw [hH,frameB_len,headB_len]
 rw [←hH]
 refine lp_startx (fun x f σ=>∃(i:Nat) (tl:Store),x=l.length-i∧i≤l.length∧f 6=.row 2 (H++slRsB (l.take i)).length∧f 23=.lst (slRsC l)∧f 24=.int .i64 l.length∧f 25=.int .i64 i∧σ=R0::R0:: .row 5 1 (byteEls (H++slRsB (l.take i))) false::tl) l.length ?_ ?_
 ·exact ⟨0,[],by simp,by simp,by simp [slRsB],by simp,by simp [hle],by simp,by simp [slRsB,hR0,headC,rungsC]⟩
 rintro x f σ ⟨i,tl,rfl,hi,f6,f23,f24,f25,rfl⟩
 have hmin:(l.take i).length=i:=by simp;omega
 obtain ⟨B,hB⟩:∃B,B=H++slRsB (l.take i):=⟨_,rfl⟩
 have hBl:B.length=p.length+27+24*i:=by rw [hB,List.length_append,slRsB_len,hmin,hHl]
 have hBe:=byteEls_length B
 rw [←hB] at f6⊢
 simp [f24,f25]
 refine cb_dec (fun hlt=> ?_) (fun hge=> ?_)
 ·have hlt':i<l.length:=by omega
  have hwi:IntKind.i64.wrap ((i:Int)+1)=((i+1:Nat):Int):=by rw [wrap_i64 (by omega) (by omega)];omega
  obtain ⟨a,ha⟩:∃a,l[i]? =some a:=⟨_,List.getElem?_eq_getElem hlt'⟩
  have hc:=slRsC_get ha
  obtain ⟨hx1,hx2⟩:=List.getElem?_eq_some_iff.1 hc
  have ok:=hs a (List.mem_of_getElem? ha)
  have hsn:l.take (i+1)=l.take i++ [a]:=by rw [List.take_add_one,ha];rfl
  have kF:=fun (σ:Store)=>frameS_ok (G:=G) hT (.lst []) (.inr rfl) a.rung a.t a.v ok.r ok.t ok.n ok.v (σ:=σ)
  simp only [slotR] at kF
  simp [f23,f25,hc,hx2,slRC,slotR,tail_get,tail_set,splice]
  refine ac_eff (kF _) ?_
  rintro r σ' ⟨rfl,rfl⟩
  obtain ⟨b,hb'⟩:∃b,b=frameB (slotB a.rung a.t a.v):=⟨_,rfl⟩
  have hbl:b.length=24:=by rw [hb',frameB_len,slotB_len]
  have hbe:=byteEls_length b
  rw [←hb']
  simp [f6]
  refine ap_row (byteEls B) (byteEls b) false (by simp) ?_ (by decide) (byteEls_els b).1 (fun h=>by cases h) hBe (by rw [hbe];omega) (by rw [hbe];omega) ?_
  ·simp only [view,get_p5,hbe,if_true]
  simp [f25,hwi,hbe]
  refine nx_intro (l.length-(i+1)) (by omega) ⟨i+1,tl++ [.var 74 (slRC a),.var 74 (slRC a),.row 5 1 (byteEls b) false],rfl,by omega, ?_,by simp [f23],by simp [f24],by simp, ?_⟩
  ·rw [hsn,slRsB_snoc,←hb',←List.append_assoc,←hB]
   simp
  ·rw [hsn,slRsB_snoc,←hb',←List.append_assoc,←hB,byteEls_app]
   rfl
 ·have hil:i=l.length:=by omega
  subst hil
  rw [List.take_length] at hB
  have hBw:B=writeB p l:=by rw [hB,hH];rfl
  simp [f6,hBe,byteEls_fz,hBw,byteEls_length]
end Go.Proofs.YtdbhocoeolhjhaaGreatDoor
end
section
set_option maxHeartbeats 2000000
namespace Go.Abs
open Go.Sf Go.Proofs Go.Sort Go.Proofs.YtdbhocoeolhjhaaGreatDoor
def encS (n:Slot):List Value:= [.int .i64 n.1,.int .i64 n.2]
def vals2 (l:List Slot):List Value:=l.flatMap encS
theorem vals2_len (l:List Slot):(vals2 l).length=l.length*2:=by
 induction l with
 |nil=>rfl
 |cons n l ih=>simp only [vals2,List.flatMap_cons,List.length_append,List.length_cons] at*;rw [ih];simp [encS];omega
theorem flat_vals2 (l:List Slot):(flatK encS 2 l.toArray).toList=vals2 l:=by
 apply List.ext_getElem?
 intro t
 by_cases h:t<l.length*2
 ·have h1:t<(flatK encS 2 l.toArray).toList.length:=by simp;omega
  have h2:t<(vals2 l).length:=by rw [vals2_len];exact h
  rw [List.getElem?_eq_getElem h1,List.getElem?_eq_getElem h2]
  congr 1
  have e1:(flatK encS 2 l.toArray).toList[t]=(flatK encS 2 l.toArray)[t]! :=by
   rw [getElem!_pos _ t (by simpa using h1)];simp
  rw [e1,get_flatK _ _ _ _ (by simpa using h)]
  clear h1 e1
  induction l generalizing t with
  |nil=>simp at h
  |cons n l ih=>
   match t,h,h2 with
   |0,h,h2=>simp [vals2,encS]
   |1,h,h2=>simp [vals2,encS]
   |t+2,h,h2=>
    have h':t<l.length*2:=by simp at h;omega
    have h2':t<(vals2 l).length:=by rw [vals2_len];exact h'
    have:=ih t h' h2'
    have e2:(t+2)/2=t/2+1:=by omega
    have e3:(t+2)%2=t%2:=by omega
    rw [e2,e3]
    have e4:(vals2 (n::l))[t+2]=(vals2 l)[t]:=by simp [vals2,encS]
    rw [e4,←this]
    have e5:(n::l).toArray[t/2+1]! =l.toArray[t/2]! :=by
     have hq:t/2<l.length:=by omega
     rw [getElem!_pos _ _ (by simp;omega),getElem!_pos _ _ (by simpa using hq)]
     simp
    rw [e5]
 ·rw [List.getElem?_eq_none (by simp;omega),List.getElem?_eq_none (by rw [vals2_len];omega)]
variable {G:Globs} {base:Nat} {κ:Key} {Im:Addr→Prop} {w:World} {σ:Store}
theorem slotsC_cons (n:Slot) (l:List Slot):slotsC (n::l)= [.int .i64 n.1,.int .i64 n.2]::slotsC l:=rfl
theorem vals2_of {l:List Slot} {xs:List Value} (h:VRL κ Im w (slotsC l).flatten xs):xs=vals2 l:=by
 induction l generalizing xs with
 |nil=>
  have:=h.1
  simp [slotsC] at this
  rw [List.eq_nil_of_length_eq_zero this.symm];rfl
 |cons n l ih=>
  rw [slotsC_cons] at h
  simp only [List.flatten_cons] at h
  have hl:=h.1
  simp at hl
  match xs,h,hl with
  |x::y::xs,h,_=>
   obtain ⟨u,hu,h1⟩:=h.get? (i:=0) (a:=.int .i64 n.1) (by simp)
   obtain ⟨u2,hu2,h2⟩:=h.get? (i:=1) (a:=.int .i64 n.2) (by simp)
   simp at hu hu2
   subst hu;subst hu2
   have h3:VRL κ Im w (slotsC l).flatten xs:=by
    have:=h.drop 2
    simpa using this
   rw [h1.int_inv,h2.int_inv,ih h3]
   rfl
  | [x],h,hl=>simp at hl
  | [],h,hl=>simp at hl
theorem vals2_vr (l:List Slot):VRL κ Im w (slotsC l).flatten (vals2 l):=by
 induction l with
 |nil=>exact VRL.nil
 |cons n l ih=>
  rw [slotsC_cons]
  simp only [List.flatten_cons,vals2,List.flatMap_cons]
  exact VRL.append (.cons (.im _ _ (.int _ _)) (.cons (.im _ _ (.int _ _)) .nil)) ih
theorem slotsC_one (l:List Slot):∀c∈slotsC l,∀x∈c,x.one=true:=fun c hc x hx=>by
 simp only [slotsC,List.mem_map] at hc
 obtain ⟨n,_,rfl⟩:=hc
 simp [slotC] at hx
 rcases hx with rfl|rfl<;>rfl
theorem slotsC_two (l:List Slot):∀c∈slotsC l,c.length=2:=fun c hc=>by
 simp only [slotsC,List.mem_map] at hc
 obtain ⟨n,_,rfl⟩:=hc
 rfl
theorem srel_sorted {i e:Nat} {l A R:List Slot} (hlA:l=A++R) (hs:SRel base κ Im σ w) (he:σ[i]? =some (.row e 2 (slotsC l) false)) (hne:l≠ []):
  ∃g cap,κ i l.length=some (.slice (some ⟨g,0,none⟩) l.length cap)∧g<w.heap.size∧HoldsK encS 2 w g 0 A.toArray∧
   ∀(A':List Slot) n os,A'.length=A.length→SRel base κ Im (σ.set i (.row e 2 (slotsC (A'++R)) false)) (sortWorldK encS 2 w g 0 n A'.toArray os)∧Grow base κ Im w κ Im (sortWorldK encS 2 w g 0 n A'.toArray os):=by
 have hE:=hs.ent i _ he
 unfold EOK at hE
 obtain ⟨v,xs,hκ,hown,hvr,h0,h2,h1, -,hblk⟩:=hE
 rw [slotsC_len] at hκ hown hblk
 have hxs:=vals2_of hvr
 subst hxs
 obtain ⟨hlx,hown⟩:=hown
 rcases hown with ⟨_,h⟩|⟨g,cap,cur,rfl,hbase,hg,hc1,hc2,hc3,htk⟩
 ·exact absurd (List.eq_nil_of_length_eq_zero h) hne
 have hgs:g<w.heap.size:=(Array.getElem?_eq_some_iff.1 hg).1
 have hAl:A.length≤l.length:=by rw [hlA];simp
 have hvA:vals2 l=vals2 A++vals2 R:=by rw [hlA];simp [vals2]
 have hH:HoldsK encS 2 w g 0 A.toArray:=by
  intro j hj
  have hjA:j<A.length*2:=by simpa using hj
  have hj':j<l.length*2:=by omega
  refine ⟨?_,by simp [World.frozen?,hg]⟩
  have h3:(cur.toList.take (l.length*2))[j]? =(vals2 l)[j]? :=by rw [htk]
  rw [List.getElem?_take_of_lt hj',hvA,List.getElem?_append_left (by rw [vals2_len];exact hjA),←flat_vals2] at h3
  simp only [World.cell?,hg,Nat.zero_add]
  simp only [Option.isSome_none,Bool.false_eq_true,if_false]
  rw [←Array.getElem?_toList,h3,Array.getElem?_toList,getElem!_pos _ j hj]
  simp [hj]
 refine ⟨g,cap,hκ,hgs,hH,fun A' n os hl=> ?_⟩
 obtain ⟨F,hF⟩:∃F,F=flatK encS 2 A'.toArray:=⟨_,rfl⟩
 have hFs:F.size=A.length*2:=by rw [hF];simp [hl]
 have hFl:F.toList=vals2 A':=by rw [hF,flat_vals2]
 obtain ⟨l',hl'⟩:∃l',l'=A'++R:=⟨_,rfl⟩
 have hll:l'.length=l.length:=by rw [hl',hlA];simp [hl]
 have hv':vals2 l'=F.toList++vals2 R:=by rw [hl',hFl];simp [vals2]
 rw [←hl']
 obtain ⟨w',hw'⟩:∃w',w'=sortWorldK encS 2 w g 0 n A'.toArray os:=⟨_,rfl⟩
 have hw2:w'=grow (mapBlock (Sort.ahead w n) g (putCells id 0 F)) os:=by rw [hw',hF];rfl
 have hheap:w'.heap[g]? =some (.cells (putCells id 0 F cur) e (0,0)):=by
  rw [hw2,heap_grow_old _ _ (by simpa [mapBlock,Sort.ahead] using hgs)]
  simp [mapBlock,Sort.ahead,Array.getElem?_modify,hg,onCells]
 have hother:∀k,k<w.heap.size→k≠g→w'.heap[k]? =w.heap[k]? :=fun k hk hne=>by
  rw [hw2,heap_grow_old _ _ (by simpa [mapBlock,Sort.ahead] using hk)]
  simp [mapBlock,Sort.ahead,Array.getElem?_modify,Ne.symm hne]
 have hsize:w.heap.size≤w'.heap.size:=by rw [hw2];simp [grow,mapBlock,Sort.ahead]
 have htake:(putCells id 0 F cur).toList.take (l.length*2)=vals2 l':=by
  rw [hv']
  apply List.ext_getElem?
  intro j
  have hR:(vals2 R).length=(l.length-A.length)*2:=by rw [vals2_len,hlA];simp
  by_cases hj:j<l.length*2
  ·rw [List.getElem?_take_of_lt hj,Array.getElem?_toList]
   have hjc:j<cur.size:=by
    have:l.length*2≤cap*2:=Nat.mul_le_mul_right _ hc1
    omega
   by_cases hjF:j<F.size
   ·rw [List.getElem?_append_left (by simpa using hjF),Array.getElem?_toList]
    simp [putCells,hjF,hjc]
   ·rw [List.getElem?_append_right (by simpa using Nat.le_of_not_lt hjF)]
    have h3:(cur.toList.take (l.length*2))[j]? =(vals2 l)[j]? :=by rw [htk]
    rw [List.getElem?_take_of_lt hj,hvA,List.getElem?_append_right (by rw [vals2_len];omega),Array.getElem?_toList,vals2_len] at h3
    rw [Array.length_toList,hFs,←h3]
    simp [putCells,hjF,hjc]
  ·rw [List.getElem?_take_eq_none (by omega),List.getElem?_eq_none (by rw [List.length_append,Array.length_toList,hR,hFs];omega)]
 have hIm:∀a,Im a→a.block≠g:=fun a ha hb=>by
  have:=((hblk g rfl).1 a ha hb).1
  cases this
 have hcell:∀a,Im a→w'.cell? a=w.cell? a:=fun a ha=>World.cell?_of_block (hother _ (hs.imlt a ha).1 (hIm a ha))
 rw [←hw']
 have hbl:Go.RowKit.Below base w w':=⟨by rw [hw2];rfl,by rw [hw2];rfl,by rw [hw2];rfl,hsize,fun k hk=>hother k (Nat.lt_of_lt_of_le hk hs.hb) (by omega)⟩
 have hbe:∀l'':List Slot,l''.length=l.length→(Entry.row e 2 (slotsC l'') false).block κ i=some g:=fun l'' hl''=>by
  simp [Entry.block,slotsC_len,hl'',hκ,Value.ownBlock]
 refine ⟨hs.set he (.row e 2 (slotsC l') false) (fun _ _ _ h=>h) (fun _ _ _ h=> .inl h) (by simp [Entry.ver,slotsC_len,hll]) (fun _ h=>h) hcell (fun _ h=> .inl h) hsize (fun k hk hne2=>hother k hk fun h=>hne2 (by rw [hbe l rfl,h])) ?_ (fun b hb=> .inr (by rw [hbe l rfl,←hb,hbe l' hll])),⟨fun _ _ _ h=>h,fun _ h=>h,hcell,fun _ h=> .inl h,hbl⟩⟩
 unfold EOK
 refine ⟨.slice (some ⟨g,0,none⟩) l.length cap,vals2 l',by rw [slotsC_len,hll];exact hκ,⟨by rw [vals2_len,slotsC_len],.inr ⟨g,cap,_,by rw [slotsC_len,hll],hbase,hheap,by rw [slotsC_len,hll];exact hc1,hc2,by simp [putCells,hc3],by rw [slotsC_len,hll];exact htake⟩⟩,vals2_vr l',by decide,slotsC_two l',slotsC_one l',fun h=>(by cases h), ?_⟩
 rw [slotsC_len,hll]
 exact hblk
end Go.Abs
namespace Go.Proofs.YtdbhocoeolhjhaaGreatDoor
open Go.Shelf Go.RowKit Go.Lib Go.Sort Go.Proofs Go.Sf
theorem ltH (x y:Slot):ltOf (fun x y:Slot=>Lib.compareInt x.1 y.1) x y=decide (x.1<y.1):=by
 unfold ltOf Lib.compareInt
 by_cases h1:x.1<y.1
 ·simp [h1]
 ·by_cases h2:y.1<x.1
  ·simp [h1,h2]
  ·simp [h1,h2]
theorem swoH:SWO (ltOf fun x y:Slot=>Lib.compareInt x.1 y.1) where
 irrefl x:=by rw [ltH];simp
 trans x y z h1 h2:=by rw [ltH] at*;simp only [decide_eq_true_eq] at*;omega
 ntrans x y z h1 h2:=by rw [ltH] at*;simp only [decide_eq_false_iff_not] at*;omega
set_option maxHeartbeats 1000000 in
theorem nodes1_lays (x y:Slot) (W:World):Calls Tryz.prog 166 #[.agg #[.int .i64 x.1,.int .i64 x.2],.agg #[.int .i64 y.1,.int .i64 y.2]] W fun e w'=>e=.returned (.int .i64 (Lib.compareInt x.1 y.1))∧∃q os',w'=grow (W.drewN q) os':=by
 have hcon:=fun W'=>Tryz.cmp_Compare_int x.1 y.1 W'
 generalize Lib.compareInt x.1 y.1=r at hcon⊢
 go_enter Tryz.func166,Tryz.ntmps166
 go_wp2_with (go_at_call 111;refine (hcon _).mono ?_;rintro e w' ⟨rfl,rfl⟩)
 go_ret
 exact ⟨rfl,0,_,by rw [alloc_eq_grow,alloc_eq_grow,grow_grow];rfl⟩
theorem nodes1_cmp (blk off size:Nat) (w:World):CmpLays Tryz.prog 166 #[] Go.Abs.encS 2 (fun x y=>Lib.compareInt x.1 y.1) blk off size w:=
 fun _ _ _ _ x y=>nodes1_lays x y _
theorem perm_of {l:List Slot} {d:Array Slot} (h:PermIn 0 l.toArray.size l.toArray d):d.toList.Perm l:=by
 obtain ⟨h1,_,h3⟩:=h
 have e1:(d.extract 0 l.toArray.size).toList=d.toList:=by
  rw [←h1];simp
 have e2:(l.toArray.extract 0 l.toArray.size).toList=l:=by simp
 rw [e1,e2] at h3
 exact h3
theorem sorted_of {l:List Slot} {d:Array Slot} (hs:d.size=l.length) (h:SortedIn (ltOf fun x y:Slot=>Lib.compareInt x.1 y.1) 0 l.toArray.size d):d.toList.Pairwise fun a b=>a.1≤b.1:=by
 rw [List.pairwise_iff_getElem]
 intro i j hi hj hij
 have hj':j<d.size:=by simpa using hj
 have hi':i<d.size:=by simpa using hi
 have:=h i j (Nat.zero_le _) hij (by simpa [hs] using hj')
 rw [ltH,getElem!_pos d j hj',getElem!_pos d i hi'] at this
 simpa using this
open Go.Abs in
variable {G:Globs} in
theorem sortSl_ok {σ:Store} {id e:Nat} {A R:List Slot} {X:AV} (hX:(X=.row id (A++R).length∧R= [])∨X=.sub id (A++R).length 2 0 A.length) (he:σ[id]? =some (.row e 2 (slotsC (A++R)) false)) (hA:A≠ []) (hl:A.length<4611686018427387904):
  ACalls Tryz.prog 165 [X,.fn (.func 166) [] []] σ fun r σ'=>r=.tup []∧∃A':List Slot,A'.Perm A∧(A'.Pairwise fun a b=>a.1≤b.1)∧σ'=σ.set id (.row e 2 (slotsC (A'++R)) false):=by
 intro base κ Im w vs hs hv
 have hne:A++R≠ []:=fun h=>hA (List.append_eq_nil_iff.1 h).1
 have hA0:0<A.length:=List.length_pos_iff.2 hA
 obtain ⟨g,cap,hκ,hg,hH,hall⟩:=srel_sorted (A:=A) (R:=R) rfl hs he hne
 obtain ⟨u0,hu0,hv0⟩:=hv.get? (i:=0) (a:=X) rfl
 obtain ⟨u1,hu1,hv1⟩:=hv.get? (i:=1) (a:=.fn (.func 166) [] []) rfl
 obtain ⟨c0,hu⟩:∃c0,u0=.slice (some ⟨g,0,none⟩) A.length c0:=by
  rcases hX with ⟨rfl,hR⟩|rfl
  ·obtain ⟨_,_,_,hk⟩:=hv0.row_inv
   rw [hκ] at hk
   have:=Option.some.inj hk
   subst hR
   exact ⟨cap,by rw [←this];simp⟩
  ·obtain ⟨b,cap2,ad,c,rfl,hk,_,_,had,_,_,_⟩:=hv0.sub_inv
   have hkk:=hκ.symm.trans hk
   simp only [Option.some.injEq,Value.slice.injEq,Addr.mk.injEq,true_and,and_true] at hkk
   rw [had hA0,←hkk.1]
   exact ⟨c,by simp⟩
 subst hu
 obtain ⟨fs,us,rfl,hfs,hus⟩:=hv1.fn_inv
 have hfs0:fs= []:=List.eq_nil_of_length_eq_zero hfs.1.symm
 have hus0:us= []:=List.eq_nil_of_length_eq_zero hus.1.symm
 subst hfs0;subst hus0
 have hvs:vs= [.slice (some ⟨g,0,none⟩) A.length c0,.func (.func 166) #[] #[]]:=by
  have hlen:=hv.1
  match vs,hlen with
  | [a,b],_=>
   simp at hu0 hu1
   rw [hu0,hu1]
 subst hvs
 have eg:∀args w,(callFunc 166 args).run Tryz.prog w=.ok (.enter 166 args) w:=enters_of Tryz.func166 (by kernel_rfl) rfl
 have hc:=AnyQ.slices_SortFunc Tryz.sortSlot 2 Tryz.isAgg186 Tryz.sizeOf186 encS (fun _=>rfl) (fun x v hv=>by simp [encS] at hv;rcases hv with rfl|rfl<;>rfl) (fun x y=>Lib.compareInt x.1 y.1) swoH 166 #[] g 0 c0 A.toArray w eg (nodes1_cmp g 0 _ w) hH hg (by simpa using hl)
 refine Calls.mono hc ?_
 rintro e' w' ⟨rfl,d',n,os,hp,hsd,rfl⟩
 have hsz:d'.size=A.length:=by simpa using hp.1
 obtain ⟨h1,h2⟩:=hall d'.toList n os (by simpa using hsz)
 have hd:d'.toList.toArray=d':=by simp
 rw [hd] at h1 h2
 exact ⟨.tup [],_,.tuple #[],κ,Im,rfl,⟨rfl,d'.toList,perm_of hp,sorted_of hsz hsd,rfl⟩,h1,h2,.im _ _ (by first|exact .tup _ _ rfl (fun j h=>by simp at h)|constructor<;>simp)⟩
end Go.Proofs.YtdbhocoeolhjhaaGreatDoor
end
section
set_option maxHeartbeats 4000000
namespace Go.Sf
open Go.Abs
def liveF (l:List Slot):List Slot:=l.filter fun s=> !decide (s.1= -1)
def liveM (l:List Slot):List Slot:=(liveF l).mergeSort fun a b=>decide (a.1≤b.1)
theorem live_perm (l:List Slot):(liveM l).Perm (liveF l):=List.mergeSort_perm _ _
theorem live_len (l:List Slot):(liveM l).length≤l.length:=by
 rw [(live_perm l).length_eq];exact List.length_filter_le _ _
theorem live_sorted (l:List Slot):(liveM l).Pairwise fun a b=>a.1≤b.1:=by
 have h:=List.pairwise_mergeSort (le:=fun a b:Slot=>decide (a.1≤b.1)) (fun a b c h1 h2=>by simp only [decide_eq_true_eq] at*;omega) (fun a b=>by simp only [Bool.or_eq_true,decide_eq_true_eq];omega) (liveF l)
 exact h.imp fun h=>by simpa using h
theorem live_mem {l:List Slot} {s:Slot} (h:s∈liveM l):s∈l∧s.1≠ -1:=by
 have:=(live_perm l).mem_iff.1 h
 simp [liveF] at this
 exact ⟨this.1,this.2⟩
theorem live_one {step:Nat} {l:List Slot} (h:RightR step l) (hs:0<step) {a b:Slot} (ha:a∈l) (hb:b∈l) (ha1:a.1≠ -1) (he:a.1=b.1):a=b:=by
 obtain ⟨i,hi⟩:=List.getElem?_of_mem ha
 obtain ⟨j,hj⟩:=List.getElem?_of_mem hb
 rcases h i a hi with ⟨h1,_⟩|⟨k,h1,_,h3,_,_⟩
 ·exact absurd h1 ha1
 rcases h j b hj with ⟨g1,_⟩|⟨k',g1,_,g3,_,_⟩
 ·exact absurd (he.trans g1) ha1
 have:k*step=k'*step:=by omega
 have hk:k=k':=Nat.eq_of_mul_eq_mul_right hs this
 subst hk
 have hij:i=j:=h3.symm.trans g3
 subst hij
 rw [hi] at hj
 exact Option.some.inj hj
theorem live_uniq {step:Nat} {l A:List Slot} (h:RightR step l) (hs:0<step) (hp:A.Perm (liveF l)) (ho:A.Pairwise fun a b=>a.1≤b.1):A=liveM l:=by
 refine List.Perm.eq_of_pairwise (le:=fun a b:Slot=>a.1≤b.1) (fun a b ha hb h1 h2=> ?_) ho (live_sorted l) (hp.trans (live_perm l).symm)
 have ha':=hp.mem_iff.1 ha
 simp [liveF] at ha'
 exact live_one h hs ha'.1 (live_mem hb).1 ha'.2 (by omega)
def recsM (l:LadM):List SlR:=(liveM l.fine).map (fun s=>⟨0,s.1.toNat,s.2⟩)++(liveM l.wide).map fun s=>⟨1,s.1.toNat,s.2⟩
end Go.Sf
namespace Go.Proofs.YtdbhocoeolhjhaaGreatDoor
open Go.Abs Go.RowKit Go.Sf
variable {G:Globs}
theorem sortSl_none {σ:Store} {id n:Nat}:ACalls Tryz.prog 165 [.sub id n 2 0 0,.fn (.func 166) [] []] σ fun r σ'=>r=.tup []∧σ'=σ:=by
 intro base κ Im w vs hs hv
 obtain ⟨u0,hu0,hv0⟩:=hv.get? (i:=0) (a:=.sub id n 2 0 0) rfl
 obtain ⟨u1,hu1,hv1⟩:=hv.get? (i:=1) (a:=.fn (.func 166) [] []) rfl
 obtain ⟨b,cap2,ad,c,rfl,hk,_,_,had,_,_,_⟩:=hv0.sub_inv
 have hvs:vs= [.slice (some ad) (0-0) c,u1]:=by
  have hlen:=hv.1
  match vs,hlen with
  | [a,b],_=>
   simp at hu0 hu1
   rw [hu0,hu1]
 subst hvs
 refine Calls.mono (AnyF.slices_SortFunc_none Tryz.sortSlot (some ad) c u1 w) ?_
 rintro e' w' ⟨rfl,rfl⟩
 exact ⟨.tup [],σ,.tuple #[],κ,Im,rfl,⟨rfl,rfl⟩,hs,Grow.refl _ _ _ _,.im _ _ (by first|exact .tup _ _ rfl (fun j h=>by simp at h)|constructor<;>simp)⟩
theorem live1_ok (s:Slot):PCalls Tryz.prog n_ring_Live_1 [.agg (slotC s)] (fun r=>r=.bool (decide (s.1= -1))):=by
 refine pcalls_of_awp hmix c_ring_Live_1 rfl ?_
 simp [a_ring_Live_1,slotC]
def goneP (c:List AV):Bool:=match c with
 | .int _ t::_=>decide (t= -1)
 |_=>false
theorem live_asks (pre:Store) (l:List Slot):Asks Tryz.prog pre n_ring_Live_1 [] .agg goneP (slotsC l):=fun c hc X K hK=>by
 obtain ⟨s,_,rfl⟩:=List.mem_map.1 hc
 exact .inl ⟨_,_,coeL_same (by simp [AV.pure,slotC]),live1_ok s,fun r hr=>by subst hr;exact hK⟩
theorem live_filter (l:List Slot):((slotsC l).filter fun n=> !goneP n)=slotsC (liveF l):=by
 unfold slotsC liveF
 rw [List.filter_map]
 rfl
theorem pLive_ok (step:Nat) (l:List Slot) (hz:Sized step l) (h:RightR step l):PCalls Tryz.prog n_ring_Live [.agg (ringC step l)] (fun r=>r=.lst (slotsC (liveM l))):=by
 refine pcalls_of_awp hmix c_ring_Live rfl ?_
 have hle:=slotsC_len l
 have n1:=hz.n1
 have n2:=hz.n2
 have kR:=pRight_ok (G:=G) step l hz h
 simp only [ringC] at kR
 simp [a_ring_Live,ringC]
 refine ac_same kR (by simp [AV.pure]) ?_
 rintro r rfl
 simp
 refine ac_eff (cloneSl (slotsC l) (slotsC_els l) (by omega)) ?_
 rintro r σ (⟨h0,rfl,rfl⟩|⟨rfl,rfl⟩)
 ·have:=congrArg List.length h0
  rw [hle] at this;simp at this;rw [this] at n1;simp at n1
 simp
 have kD:=delfSl (G:=G) [.var 112 (ringC step l)] (slotsC l) (slotsC_els l) (by omega) goneP n_ring_Live_1 [] b_ring_Live_1 (live_asks _ l)
 rw [live_filter] at kD
 refine ac_eff kD ?_
 rintro r σ ⟨X,rfl,hXl,hXe,hr⟩
 have hfl:=slotsC_len (liveF l)
 rcases hr with ⟨rfl,rfl⟩|⟨rfl,n,hX⟩
 ·have hne:liveF l≠ []:=fun e=>by rw [hfl,hle,e] at hXl;simp at hXl;omega
  have kS:=sortSl_ok (G:=G) (σ:= [.var 112 (ringC step l),.row 186 2 (slotsC (liveF l)) false]) (id:=1) (e:=186) (A:=liveF l) (R:= []) (X:=.row 1 l.length) (.inl ⟨by rw [List.append_nil,←hfl,hXl,hle],rfl⟩) (by simp) hne (by rw [←hfl,hXl];omega)
  simp [hle]
  refine ac_eff kS ?_
  rintro r σ ⟨rfl,A',hp,ho,rfl⟩
  have hA':=live_uniq h (by have:=hz.s1;omega) hp ho
  subst hA'
  have hll:(slotsC (liveM l)).length=l.length:=by rw [slotsC_len,(live_perm l).length_eq,←hfl,hXl,hle]
  simp [hll,slotsC_fz]
 ·have hz0:List.replicate n [AV.int .i64 0,AV.int .i64 0]=slotsC (List.replicate n (0,0)):=by simp [slotsC,slotC]
  have hX2:X=slotsC (liveF l++List.replicate n (0,0)):=by rw [hX,hz0];simp [slotsC]
  have hnl:(liveF l++List.replicate n ((0,0):Slot)).length=l.length:=by rw [hX2,slotsC_len,hle] at hXl;exact hXl
  subst hX2
  rw [hfl,hle]
  by_cases hne:liveF l= []
  ·have hlm:liveM l= []:=by simp [liveM,hne]
   simp [hne]
   refine ac_eff sortSl_none ?_
   rintro r σ ⟨rfl,rfl⟩
   have hnl2:(slotsC (List.replicate n ((0,0):Slot))).length=l.length:=by rw [slotsC_len,←hnl,hne];rfl
   have htwo:∀c∈slotsC (List.replicate n ((0,0):Slot)),c.length=2:=(slotsC_els _).1
   simp [hnl2,slotsC_fz,hlm]
   rw [if_pos htwo]
   simp [slotsC,hlm]
  ·have kS:=sortSl_ok (G:=G) (σ:= [.var 112 (ringC step l),.row 186 2 (slotsC (liveF l++List.replicate n (0,0))) false]) (id:=1) (e:=186) (A:=liveF l) (R:=List.replicate n (0,0)) (X:=.sub 1 l.length 2 0 (liveF l).length) (.inr (by rw [hnl])) (by simp) hne (by have:=hnl;simp at this;omega)
   simp
   refine ac_eff kS ?_
   rintro r σ ⟨rfl,A',hp,ho,rfl⟩
   have hA':=live_uniq h (by have:=hz.s1;omega) hp ho
   subst hA'
   have hlp:=(live_perm l).length_eq
   have hnl2:(slotsC (liveM l++List.replicate n ((0,0):Slot))).length=l.length:=by rw [slotsC_len,←hnl];simp [hlp]
   have htwo:∀c∈slotsC (liveM l++List.replicate n ((0,0):Slot)),c.length=2:=(slotsC_els _).1
   simp [hnl2,slotsC_fz]
   rw [if_pos htwo]
   simp [←hlp,slotsC]
end Go.Proofs.YtdbhocoeolhjhaaGreatDoor
end
section
set_option maxHeartbeats 4000000
namespace Go.Proofs.YtdbhocoeolhjhaaGreatDoor
open Go.Abs Go.RowKit Go.Sf Go.Num
variable {G:Globs}
def recOf (i:Nat) (s:Slot):SlR:=⟨i,s.1.toNat,s.2⟩
theorem live_time {step:Nat} {l:List Slot} (h:RightR step l) {s:Slot} (hs:s∈liveM l):∃k:Nat,s.1=(k:Int)∧k≤1099511627776∧i64 s.2∧s.2≠ -9223372036854775808:=by
 obtain ⟨hm,hne⟩:=live_mem hs
 obtain ⟨i,hi⟩:=List.getElem?_of_mem hm
 rcases h i s hi with ⟨h1,_⟩|⟨k,h1,h2,_,h4,h5⟩
 ·exact absurd h1 hne
 ·exact ⟨_,h1,h2,h4,h5⟩
theorem slots_ok (l:LadM) (h:RightL l):PCalls Tryz.prog n_ladder_Slots [.agg (ladC l)] (fun r=>r=.lst (slRsC (recsM l))):=by
 refine pcalls_of_awp hmix c_ladder_Slots rfl ?_
 simp [a_ladder_Slots,ladC]
 refine ac_same (lRight_ok l h) (by simp [AV.pure,ladC]) ?_
 rintro r rfl
 simp [ringsC]
 obtain ⟨R0,hR0⟩:∃R0:Entry,R0=.var 55 (ladC l):=⟨_,rfl⟩
 obtain ⟨L1,hL1⟩:∃L1,L1=(liveM l.fine).map (recOf 0):=⟨_,rfl⟩
 obtain ⟨L2,hL2⟩:∃L2,L2=(liveM l.wide).map (recOf 1):=⟨_,rfl⟩
 have hrec:recsM l=L1++L2:=by rw [hL1,hL2];rfl
 have n1:=live_len l.fine
 have n2:=live_len l.wide
 rw [h.n1] at n1
 rw [h.n2] at n2
 have hl1:L1.length≤6:=by rw [hL1];simpa using n1
 have hl2:L2.length≤5:=by rw [hL2];simpa using n2
 refine lp_startx (fun x f σ=>∃(i:Nat) (tl:Store),x=2-i∧i≤2∧AccT 74 9 1 tl (f 3) (slRsC (if i=0 then [] else if i=1 then L1 else L1++L2))∧f 12=.lst (ringsC l)∧f 13=.int .i64 2∧f 14=.int .i64 i∧σ=R0::tl) 2 ?_ ?_
 ·exact ⟨0,[],by simp,by simp,by simp [slRsC];exact accT_nil,by simp [ringsC],by simp,by simp,by simp [hR0,ladC,ringsC]⟩
 rintro x f σ ⟨i,tl,rfl,hi,hA,f12,f13,f14,rfl⟩
 have hi3:i=0∨i=1∨i=2:=by omega
 rcases hi3 with rfl|rfl|rfl
 ·simp at hA
  simp [f12,f13,f14,ringsC,ringC]
  refine ac_same (by have:=pLive_ok (G:=G) 10 l.fine (z1_of h) h.r1;exact this) (by simp [AV.pure]) ?_
  rintro r rfl
  have hml:=slotsC_len (liveM l.fine)
  simp [hml]
  have hA0:=hA.more [Entry.var 112 (ringC 10 l.fine)]
  refine lp_startx (fun x f σ=>∃(j:Nat) (tl:Store),x=(liveM l.fine).length-j∧j≤(liveM l.fine).length∧AccT 74 9 1 tl (f 3) (slRsC ([]++((liveM l.fine).take j).map (recOf 0)))∧f 4=.int .i64 0∧f 12=.lst (ringsC l)∧f 13=.int .i64 2∧f 14=.int .i64 0∧f 20=.lst (slotsC (liveM l.fine))∧f 21=.int .i64 (liveM l.fine).length∧f 22=.int .i64 j∧σ=R0::tl) (liveM l.fine).length ?_ ?_
  ·exact ⟨0,_,by simp,by simp,by simpa using hA0,by simp,by simp [f12,ringsC,ringC],by simp [f13],by simp [f14],by simp,by simp,by simp,by simp [ringC]⟩
  clear f12 f13 f14 hA hA0
  rintro x f σ ⟨j,tl,rfl,hj,hA,f4,f12,f13,f14,f20,f21,f22,rfl⟩
  simp [f21,f22]
  refine cb_dec (fun hlt=> ?_) (fun hge=> ?_)
  ·have hlt':j<(liveM l.fine).length:=by omega
   have hwj:IntKind.i64.wrap ((j:Int)+1)=((j+1:Nat):Int):=by rw [wrap_i64 (by omega) (by omega)];omega
   obtain ⟨s,hs⟩:∃s,(liveM l.fine)[j]? =some s:=⟨_,List.getElem?_eq_getElem hlt'⟩
   have hc:=slotsC_get hs
   obtain ⟨hx1,hx2⟩:=List.getElem?_eq_some_iff.1 hc
   obtain ⟨k,hk,hk2,_,_⟩:=live_time h.r1 (List.mem_of_getElem? hs)
   have hrs: [.int .i64 3,.str [],.int .i64 0,.int .i64 0,.lst [],.int .i64 0,.int .i64 s.1,.int .i64 0,.int .i64 s.2]=slRC (recOf 0 s):=by
    simp [slRC,slotR,recOf,hk]
   have hlen:(slRsC ([]++((liveM l.fine).take j).map (recOf 0))).length≤12:=by
    rw [slRsC_len];simp;omega
   have hsn:slRsC ([]++((liveM l.fine).take (j+1)).map (recOf 0))=slRsC ([]++((liveM l.fine).take j).map (recOf 0))++ [slRC (recOf 0 s)]:=by
    rw [List.take_add_one,hs]
    simp [slRsC]
   simp [f4,f20,f22,hc,hx2,slotC,tail_get,tail_set,splice]
   rw [hrs]
   refine ap_accT (bytes:=96) (σ:= [R0]) (hA.more [Entry.var 186 [.int .i64 s.1,.int .i64 s.2]]) (slRC (recOf 0 s)) (by decide) rfl (by omega) (by omega) fun v' τ' hA' hle' _=> ?_
   simp [f22,hwj]
   refine nx_intro ((liveM l.fine).length-(j+1)) (by omega) ⟨j+1,τ',rfl,by omega, ?_,by simp [f4],by simp [f12],by simp [f13],by simp [f14],by simp [f20],by simp [f21],by simp,rfl⟩
   simp
   simp only [List.nil_append] at hsn hA'
   rw [←List.map_take,hsn]
   exact hA'
  ·have hjl:j=(liveM l.fine).length:=by omega
   subst hjl
   rw [List.take_length] at hA
   simp [f14,wk1]
   exact nx_intro 1 (by omega) ⟨1,tl,rfl,by omega,by simpa [hL1] using hA,by simp [f12,ringsC,ringC],by simp [f13],by simp,rfl⟩
 ·simp at hA
  simp [f12,f13,f14,ringsC,ringC]
  refine ac_same (by have:=pLive_ok (G:=G) 60 l.wide (z2_of h) h.r2;exact this) (by simp [AV.pure]) ?_
  rintro r rfl
  have hml:=slotsC_len (liveM l.wide)
  simp [hml]
  have hA0:=hA.more [Entry.var 112 (ringC 60 l.wide)]
  refine lp_startx (fun x f σ=>∃(j:Nat) (tl:Store),x=(liveM l.wide).length-j∧j≤(liveM l.wide).length∧AccT 74 9 1 tl (f 3) (slRsC (L1++((liveM l.wide).take j).map (recOf 1)))∧f 4=.int .i64 1∧f 12=.lst (ringsC l)∧f 13=.int .i64 2∧f 14=.int .i64 1∧f 20=.lst (slotsC (liveM l.wide))∧f 21=.int .i64 (liveM l.wide).length∧f 22=.int .i64 j∧σ=R0::tl) (liveM l.wide).length ?_ ?_
  ·exact ⟨0,_,by simp,by simp,by simpa using hA0,by simp,by simp [f12,ringsC,ringC],by simp [f13],by simp [f14],by simp,by simp,by simp,by simp [ringC]⟩
  clear f12 f13 f14 hA hA0
  rintro x f σ ⟨j,tl,rfl,hj,hA,f4,f12,f13,f14,f20,f21,f22,rfl⟩
  simp [f21,f22]
  refine cb_dec (fun hlt=> ?_) (fun hge=> ?_)
  ·have hlt':j<(liveM l.wide).length:=by omega
   have hwj:IntKind.i64.wrap ((j:Int)+1)=((j+1:Nat):Int):=by rw [wrap_i64 (by omega) (by omega)];omega
   obtain ⟨s,hs⟩:∃s,(liveM l.wide)[j]? =some s:=⟨_,List.getElem?_eq_getElem hlt'⟩
   have hc:=slotsC_get hs
   obtain ⟨hx1,hx2⟩:=List.getElem?_eq_some_iff.1 hc
   obtain ⟨k,hk,hk2,_,_⟩:=live_time h.r2 (List.mem_of_getElem? hs)
   have hrs: [.int .i64 3,.str [],.int .i64 0,.int .i64 0,.lst [],.int .i64 1,.int .i64 s.1,.int .i64 0,.int .i64 s.2]=slRC (recOf 1 s):=by
    simp [slRC,slotR,recOf,hk]
   have hlen:(slRsC (L1++((liveM l.wide).take j).map (recOf 1))).length≤12:=by
    rw [slRsC_len];simp;omega
   have hsn:slRsC (L1++((liveM l.wide).take (j+1)).map (recOf 1))=slRsC (L1++((liveM l.wide).take j).map (recOf 1))++ [slRC (recOf 1 s)]:=by
    rw [List.take_add_one,hs]
    simp [slRsC]
   simp [f4,f20,f22,hc,hx2,slotC,tail_get,tail_set,splice]
   rw [hrs]
   refine ap_accT (bytes:=96) (σ:= [R0]) (hA.more [Entry.var 186 [.int .i64 s.1,.int .i64 s.2]]) (slRC (recOf 1 s)) (by decide) rfl (by omega) (by omega) fun v' τ' hA' hle' _=> ?_
   simp [f22,hwj]
   refine nx_intro ((liveM l.wide).length-(j+1)) (by omega) ⟨j+1,τ',rfl,by omega, ?_,by simp [f4],by simp [f12],by simp [f13],by simp [f14],by simp [f20],by simp [f21],by simp,rfl⟩
   simp
   rw [←List.map_take,hsn]
   exact hA'
  ·have hjl:j=(liveM l.wide).length:=by omega
   subst hjl
   rw [List.take_length] at hA
   simp [f14,wk2]
   exact nx_intro 0 (by omega) ⟨2,tl,rfl,by omega,by simpa [hL2] using hA,by simp [f12,ringsC,ringC],by simp [f13],by simp,rfl⟩
 ·simp at hA
  have hf:=AccT.finR (σ:= [R0]) hA 0
  simp only [List.cons_append,List.nil_append] at hf
  simp [f13,f14,hf,hrec]
theorem mulU_ok (x y:Nat) (hx:x<18446744073709551616) (hy:y<18446744073709551616):PCalls Tryz.prog n_math_bits_Mul [.int .u64 x,.int .u64 y] (fun r=>r=.tup [.int .u64 ((x*y/18446744073709551616:Nat):Int),.int .u64 ((x*y%18446744073709551616:Nat):Int)]):=by
 refine pcalls_of_awp hmix c_math_bits_Mul rfl ?_
 have hw1:IntKind.u64.wrap ((x*y/18446744073709551616:Nat):Int)=((x*y/18446744073709551616:Nat):Int):=by
  rw [wrap_u]
  have:x*y/18446744073709551616<18446744073709551616:=by
   have h1:x*y≤x*18446744073709551615:=Nat.mul_le_mul_left x (by omega)
   omega
  omega
 have hw2:IntKind.u64.wrap ((x*y%18446744073709551616:Nat):Int)=((x*y%18446744073709551616:Nat):Int):=by rw [wrap_u];omega
 obtain ⟨h,hh⟩:∃h,h=x*y/18446744073709551616:=⟨_,rfl⟩
 obtain ⟨l,hl⟩:∃l,l=x*y%18446744073709551616:=⟨_,rfl⟩
 have kM:=mul64_ok (G:=G) x y hx hy
 rw [←hh,←hl] at kM⊢
 rw [←hh] at hw1
 rw [←hl] at hw2
 have wx:IntKind.u64.wrap (x:Int)=(x:Int):=by rw [wrap_u];omega
 have wy:IntKind.u64.wrap (y:Int)=(y:Int):=by rw [wrap_u];omega
 simp [a_math_bits_Mul,wx,wy]
 refine ac_same kM (by simp) ?_
 rintro r rfl
 simp [hw1,hw2]
def noneS (n:Nat):List Slot:=List.replicate n (-1,0)
def repS (n k:Nat):List (List AV):=List.replicate k [AV.int .i64 (-1),AV.int .i64 0]++List.replicate (n-k) [AV.int .i64 0,AV.int .i64 0]
theorem repS_len {n k:Nat} (h:k≤n):(repS n k).length=n:=by simp [repS];omega
theorem repS_take (n k:Nat):(repS n k).take k=List.replicate k [AV.int .i64 (-1),AV.int .i64 0]:=by
 unfold repS
 exact List.take_left' (by simp)
theorem repS_step {n k:Nat} (h:k≤n):(repS n k).take k++(List.replicate k [AV.int .i64 (-1),AV.int .i64 0]).take (n-k)++(repS n k).drop (k+min k (n-k))=repS n (k+min k (n-k)):=by
 rw [repS_take,List.take_replicate]
 unfold repS
 rw [List.drop_append]
 simp only [List.length_replicate]
 rw [show k+min k (n-k)-k=min k (n-k) by omega,List.drop_replicate,List.drop_replicate,show k-(k+min k (n-k))=0 by omega,List.replicate_zero,List.nil_append,Nat.min_comm (n-k) k,List.replicate_append_replicate]
 congr 2
 omega
theorem repS_zero (n:Nat):List.replicate n [AV.int .i64 0,AV.int .i64 0]=repS n 0:=by simp [repS]
theorem repS_one (n:Nat): [[AV.int .i64 (-1),AV.int .i64 0]].take n++(repS n 0).drop (min 1 n)=repS n (min 1 n):=by
 cases n with
 |zero=>simp [repS]
 |succ n=>simp [repS,List.replicate_succ]
theorem repS_end (n:Nat):repS n n=slotsC (noneS n):=by simp [repS,slotsC,slotC,noneS]
theorem repeat_ok (n:Nat) (hn:n≤100000):PCalls Tryz.prog n_slices_Repeat_api_Slot_api_Slot [.lst [[.int .i64 (-1),.int .i64 0]],.int .i64 n] (fun r=>r=.lst (slotsC (noneS n))):=by
 refine pcalls_of_awp hmix c_slices_Repeat_api_Slot_api_Slot rfl ?_
 have kM:=mulU_ok (G:=G) 1 n (by decide) (by omega)
 have e1:1*n/18446744073709551616=0:=by omega
 have e2:1*n%18446744073709551616=n:=by omega
 rw [e1,e2] at kM
 have w1:IntKind.u64.wrap (n:Int)=(n:Int):=by rw [wrap_u];omega
 have w2:IntKind.i64.wrap (n:Int)=(n:Int):=wrap_i64 (by omega) (by omega)
 have w3:IntKind.u64.wrap 1=1:=by decide
 have h0:¬(n:Int)<0:=by omega
 have h9:¬(9223372036854775807:Int)<(n:Int):=by omega
 have h9':¬9223372036854775807<n:=by omega
 simp [a_slices_Repeat_api_Slot_api_Slot,h0,w1,w3]
 refine ac_same kM (by simp) ?_
 rintro r rfl
 simp [h9,h9',w2]
 refine ms_intro n rfl rfl (by omega) (by omega) (by decide) rfl ?_
 rw [repS_zero]
 have hl0:=repS_len (n:=n) (Nat.zero_le n)
 simp
 refine cp_intro [[.int .i64 (-1),.int .i64 0]] (min 1 n) (σ':= [.row 186 2 (repS n (min 1 n)) false]) rfl (by simp) (by decide) ?_ ?_
 ·simp [cpyAt,hl0]
  have:=repS_one n
  simpa using this
 simp
 refine lp_startx (fun x f σ=>∃k:Nat,x=n-k∧k≤n∧(1≤k∨n=0)∧f 7=.row 0 n∧f 8=.int .i64 k∧σ= [.row 186 2 (repS n k) false]) (n-min 1 n) ?_ ?_
 ·exact ⟨min 1 n,rfl,by omega,by omega,by simp,by simp,rfl⟩
 rintro x f σ ⟨k,rfl,hk,hk1,f7,f8,rfl⟩
 have hl:=repS_len hk
 simp [f7,f8,hl]
 refine cb_dec (fun hlt=> ?_) (fun hge=> ?_)
 ·have hlt':k<n:=by omega
  have hn0:0<n:=by omega
  have hm:1≤min k (n-k):=by omega
  obtain ⟨d,hd⟩:∃d,d=min k (n-k):=⟨_,rfl⟩
  have hw:IntKind.i64.wrap ((k:Int)+d)=((k+d:Nat):Int):=by rw [wrap_i64 (by omega) (by omega)];omega
  have hkn:k≤n:=by omega
  simp [f7,f8,hl,hn0,hkn]
  refine cp_intro (List.replicate k [.int .i64 (-1),.int .i64 0]) d (σ':= [.row 186 2 (repS n (k+d)) false]) ?_ (by simp) (by decide) ?_ ?_
  ·simp [hl,repS_take]
  ·have:=repS_step hkn
   rw [←hd] at this
   simp only [cpyAt,List.getElem?_cons_zero,hl,List.length_replicate]
   rw [if_pos ⟨trivial,trivial,trivial,hkn,Nat.le_refl _⟩]
   simp only [←hd,List.set_cons_zero]
   rw [this]
  simp [hw]
  refine nx_intro (n-(k+d)) (by omega) ⟨k+d,rfl,by omega,by omega,by simp [f7],by simp,rfl⟩
 ·have:k=n:=by omega
  subst this
  have hll:(slotsC (noneS k)).length=k:=by simp [slotsC_len,noneS]
  simp [f7,repS_end,slotsC_fz,hll]
theorem ringNew_ok (s n:Nat) (h1:1≤s) (h2:s≤86400) (h3:1≤n) (h4:n≤400):PCalls Tryz.prog n_ring_New [.int .i64 s,.int .i64 n] (fun r=>r=.tup [.agg (ringC s (noneS n)),.int .i64 0]):=by
 refine pcalls_of_awp hmix c_ring_New rfl ?_
 simp [a_ring_New]
 refine ac_same (pSized_ok s n h1 h2 h3 h4) (by simp) ?_
 rintro r rfl
 simp
 refine ac_same (repeat_ok n (by omega)) (by simp [AV.pure]) ?_
 rintro r rfl
 simp [splice,ringC]
theorem ladNew_ok:PCalls Tryz.prog n_ladder_New [.agg schC] (fun r=>r=.tup [.agg (ladC newL),.int .i64 0]):=by
 refine pcalls_of_awp hmix c_ladder_New rfl ?_
 have k1:=ringNew_ok (G:=G) 10 6 (by omega) (by omega) (by omega) (by omega)
 have k2:=ringNew_ok (G:=G) 60 5 (by omega) (by omega) (by omega) (by omega)
 simp only [ringC] at k1 k2
 simp [a_ladder_New,schC]
 refine ac_same lhow_ok (by simp) ?_
 rintro r rfl
 simp
 refine ac_same tTogether_ok (by simp [AV.pure]) ?_
 rintro r rfl
 simp [splice]
 obtain ⟨S0,hS0⟩:∃S0:Entry,S0=.var 52 schC:=⟨_,rfl⟩
 obtain ⟨L0,hL0⟩:∃L0:Entry,L0=.var 55 [.int .i64 0,.int .i64 0,.nils]:=⟨_,rfl⟩
 refine lp_startx (fun x f σ=>∃(i:Nat),x=2-i∧i≤2∧f 2=.ptr 1 0∧f 4=.ptr 2 0∧f 28=.lst rungsC∧f 29=.int .i64 2∧f 30=.int .i64 i∧
  ((i=0∧σ= [S0,L0,.var 55 [.int .i64 1,.int .i64 500000,.nils]])∨
   (i=1∧∃a b,σ= [S0,L0,.var 55 [.int .i64 1,.int .i64 500000,.row 5 1],a,b,.row 112 2 [ringC 10 (noneS 6)] true])∨
   (i=2∧∃a b c d,σ= [S0,L0,.var 55 [.int .i64 1,.int .i64 500000,.row 5 2],a,b,.row 112 2 [ringC 10 (noneS 6),ringC 60 (noneS 5)] true,c,d]))) 2 ?_ ?_
 ·exact ⟨0,by simp,by simp,by simp,by simp,by simp,by simp [rungsC],by simp,.inl ⟨rfl,by simp [hS0,hL0,schC]⟩⟩
 rintro x f σ ⟨i,rfl,hi,f2,f4,f28,f29,f30,⟨rfl,rfl⟩|⟨rfl,a,b,rfl⟩|⟨rfl,a,b,c,d,rfl⟩⟩
 ·simp [f2,f4,f28,f29,f30,rungsC,splice]
  refine ac_same k1 (by simp) ?_
  rintro r rfl
  simp [f4,splice]
  refine ap_new true [ringC 10 (noneS 6)] (by simp [view,ringC]) (by decide) (by simp [ringC]) (fun _=> .inl (by simp [aview,ringC])) (by simp) (by simp) ?_
  simp [f4,f30,splice,wk1]
  exact nx_intro 1 (by omega) ⟨1,rfl,by omega,by simp [f2],by simp [f4],by simp [f28,rungsC],by simp [f29],by simp,.inr (.inl ⟨rfl,_,_,rfl⟩)⟩
 ·simp [f2,f4,f28,f29,f30,rungsC,splice]
  refine ac_same k2 (by simp) ?_
  rintro r rfl
  simp [f4,splice]
  refine ap_row [ringC 10 (noneS 6)] [ringC 60 (noneS 5)] true (by simp) (by simp [view,ringC]) (by decide) (by simp [ringC]) (fun _=> .inl (by simp [aview,ringC])) rfl (by simp) (by simp) ?_
  simp [f4,f30,splice,wk2]
  exact nx_intro 0 (by omega) ⟨2,rfl,by omega,by simp [f2],by simp [f4],by simp [f28,rungsC],by simp [f29],by simp,.inr (.inr ⟨rfl,a,b,_,_,rfl⟩)⟩
 ·simp [f2,f4,f29,f30,hL0,splice,ladC,ringsC,newL]
  exact ⟨rfl,rfl⟩
theorem lAccept_bad (l:LadM) (t now:Nat) (ht:t≤1000000000) (hn:now≤1000000000):PCalls Tryz.prog n_ladder_Accept [.agg (ladC l),.agg [.int .i64 t,.int .i64 (-9223372036854775808)],.int .i64 now] (fun r=>r=.tup [.agg (ladC l),.int .i64 1]):=by
 refine pcalls_of_awp hmix c_ladder_Accept rfl ?_
 simp [a_ladder_Accept,ladC]
 refine ac_same (lTimed_ok t (by omega)) (by simp) ?_
 rintro r rfl
 simp
 refine ac_same (lTimed_ok now (by omega)) (by simp) ?_
 rintro r rfl
 simp [splice]
def okPre (bs:List ArrM):List ArrM:=bs.takeWhile fun a=>decide (a.value≠ -9223372036854775808)
theorem okPre_at {bs:List ArrM} {i:Nat} {a:ArrM} (h:bs[i]? =some a) (hv:∀x∈bs.take i,OkV x) (ha:¬OkV a):okPre bs=bs.take i:=by
 induction bs generalizing i with
 |nil=>simp at h
 |cons b bs ih=>
  cases i with
  |zero=>
   simp at h;subst h
   unfold OkV at ha
   simp [okPre,Classical.not_not.1 ha]
  |succ i=>
   have hb:OkV b:=hv b (by simp)
   have:=ih (i:=i) (by simpa using h) fun x hx=>hv x (by simp [hx])
   unfold OkV at hb
   simp only [okPre] at this⊢
   simp [hb]
   simpa using this
theorem okPre_all {bs:List ArrM} (hv:∀x∈bs,OkV x):okPre bs=bs:=by
 induction bs with
 |nil=>rfl
 |cons b bs ih=>
  have hb:OkV b:=hv b (by simp)
  have:=ih fun x hx=>hv x (by simp [hx])
  unfold OkV at hb
  simp only [okPre] at this⊢
  simp [hb]
  simpa using this
instance (a:ArrM):Decidable (OkV a):=by unfold OkV;exact inferInstance
theorem accept_ok (l:LadM) (h:RightL l) (bs:List ArrM) (hb:∀a∈bs,OkA a) (hl:bs.length≤1000):PCalls Tryz.prog n_shelf_accept [.agg (ladC l),.lst (arrsC bs)] (fun r=>r=.tup [.agg (ladC (foldF l (okPre bs))),.int .i64 (if∀a∈bs,OkV a then 0 else 1)]):=by
 refine pcalls_of_awp hmix c_shelf_accept rfl ?_
 have hle:=arrsC_len bs
 simp [a_shelf_accept,hle,ladC]
 obtain ⟨E0,hE0⟩:∃E0:Entry,E0=.var 55 [.int .i64 0,.int .i64 0,.nils]:=⟨_,rfl⟩
 refine lp_startx (fun x f σ=>∃(i:Nat) (tl:Store),x=bs.length-i∧i≤bs.length∧(∀a∈bs.take i,OkV a)∧f 2=.ptr 0 0∧f 4=.ptr 1 0∧f 9=.lst (arrsC bs)∧f 10=.int .i64 bs.length∧f 11=.int .i64 i∧σ=.var 55 (ladC (foldF l (bs.take i)))::E0::tl) bs.length ?_ ?_
 ·exact ⟨0,[],by simp,by simp,by simp,by simp,by simp,by simp,by simp,by simp,by simp [hE0,ladC,foldF]⟩
 rintro x f σ ⟨i,tl,rfl,hi,hv,f2,f4,f9,f10,f11,rfl⟩
 simp [f10,f11]
 refine cb_dec (fun hlt=> ?_) (fun hge=> ?_)
 ·have hlt':i<bs.length:=by omega
  have hwi:IntKind.i64.wrap ((i:Int)+1)=((i+1:Nat):Int):=by rw [wrap_i64 (by omega) (by omega)];omega
  obtain ⟨a,ha⟩:∃a,bs[i]? =some a:=⟨_,List.getElem?_eq_getElem hlt'⟩
  have hc:=arrsC_get ha
  obtain ⟨hx1,hx2⟩:=List.getElem?_eq_some_iff.1 hc
  have ok:=hb a (List.mem_of_getElem? ha)
  have hsn:bs.take (i+1)=bs.take i++ [a]:=by rw [List.take_add_one,ha];rfl
  have hr:RightL (foldF l (bs.take i)):=right_fold h fun x hx=>⟨hb x (List.mem_of_mem_take hx),hv x hx⟩
  simp [f2,f9,f11,hc,hx2,arrC,tail_get,tail_set,splice,ladC]
  by_cases okv:OkV a
  ·have kA:=lAccept_ok (G:=G) _ hr a.time a.now a.value ok.t ok.n ok.le ok.ge ok.v okv
   have hst:acceptM (foldF l (bs.take i)) a.time a.now a.value=foldF l (bs.take (i+1)):=by rw [hsn,foldF_snoc];rfl
   rw [hst] at kA
   simp only [ladC] at kA
   refine ac_same kA (by simp [AV.pure]) ?_
   rintro r rfl
   simp [f2,f11,tail_get,tail_set,splice,ladC,hwi]
   refine nx_intro (bs.length-(i+1)) (by omega) ⟨i+1,tl++ [.var 91 (arrC a)],rfl,by omega,fun x hx=> ?_,by simp [f2],by simp [f4],by simp [f9],by simp [f10],by simp,by simp [ladC,arrC]⟩
   rw [hsn] at hx
   rcases List.mem_append.1 hx with h1|h1
   ·exact hv x h1
   ·simp at h1;subst h1;exact okv
  ·have hav:a.value= -9223372036854775808:=Classical.not_not.1 okv
   have kA:=lAccept_bad (G:=G) (foldF l (bs.take i)) a.time a.now ok.t ok.n
   have hn:¬∀a∈bs,OkV a:=fun hh=>okv (hh a (List.mem_of_getElem? ha))
   simp only [ladC] at kA
   rw [hav]
   refine ac_same kA (by simp [AV.pure]) ?_
   rintro r rfl
   rw [okPre_at ha hv okv]
   simp [f2,f4,hE0,splice,hn,ringsC_fz]
 ·have hil:i=bs.length:=by omega
  subst hil
  rw [List.take_length] at hv⊢
  rw [okPre_all hv]
  simp [f2,f4,hE0,splice,ladC,hv]
  exact hv
end Go.Proofs.YtdbhocoeolhjhaaGreatDoor
end
section
namespace Go.Sf
section
variable {α:Type} {key:α→Txt}
theorem insK_perm (l:List α) (x:α):(insK key l x).Perm (x::l):=by
 have:=List.perm_middle (a:=x) (l₁:=l.take (posK key l (key x))) (l₂:=l.drop (posK key l (key x)))
 rwa [List.take_append_drop] at this
theorem del_at {l:List α} {s:Txt} (hs:Srt key l) (h:hasK key l s):∃x,l[posK key l s]? =some x∧key x=s∧l.Perm (x::delK key l s):=by
 obtain ⟨x,hx,hk⟩:=(has_pos hs).1 h
 have hlt:=(List.getElem?_eq_some_iff.1 hx).1
 refine ⟨x,hx,hk, ?_⟩
 have e:l=l.take (posK key l s)++x::l.drop (posK key l s+1):=by
  conv=>lhs;rw [←List.take_append_drop (posK key l s) l]
  rw [List.drop_eq_getElem_cons hlt,(List.getElem?_eq_some_iff.1 hx).2]
 conv=>lhs;rw [e]
 exact List.perm_middle
end
theorem idOf_eq {l:List NameM} (hs:Srt kN l) {n:NameM} (h:n∈l):idOf l n.name=n.id:=by
 induction l with
 |nil=>simp at h
 |cons x l ih=>
  unfold idOf
  split
  ·rename_i hx
   rw [key_inj hs (x:=x) (y:=n) (by simp) h hx]
  ·rename_i hx
   rcases List.mem_cons.1 h with rfl|h
   ·exact absurd rfl hx
   ·exact ih (List.Pairwise.of_cons hs) h
theorem idOf_mem {l:List NameM} (hs:Srt kN l) {s:Txt} (h:hasK kN l s):∃n∈l,n.name=s∧n.id=idOf l s:=by
 obtain ⟨n,hn,rfl⟩:=h
 exact ⟨n,hn,rfl,(idOf_eq hs hn).symm⟩
def modF (fs:List FileM) (id:Nat) (g:FileM→FileM):List FileM:=fs.map fun f=>if f.id=id then g f else f
def createM (d:DiskM) (s:Txt):DiskM:={d with files:=d.files++ [⟨d.next,[],0⟩],names:=insK kN d.names ⟨s,d.next⟩,moves:=d.moves++ [⟨1,s,[],d.next⟩],next:=d.next+1}
def appendM (d:DiskM) (s b:Txt):DiskM:={d with files:=modF d.files (idOf d.names s) fun f=>{f with bytes:=f.bytes++b}}
def syncM (d:DiskM) (s:Txt):DiskM:={d with files:=modF d.files (idOf d.names s) fun f=>{f with sure:=f.bytes.length}}
def syncDirM (d:DiskM):DiskM:={d with kept:=d.names,moves:= [],files:=d.files.filter fun f=>decide (∃n∈d.names,n.id=f.id)}
def renameM (d:DiskM) (s t:Txt):DiskM:={d with names:=insK kN (dropK (delK kN d.names s) t) ⟨t,idOf d.names s⟩,moves:=d.moves++ [⟨3,s,t,0⟩]}
def removeM (d:DiskM) (s:Txt):DiskM:={d with names:=delK kN d.names s,moves:=d.moves++ [⟨2,s,[],0⟩]}
theorem replay_snoc {l:List NameM} {ms:List MoveM} {m:MoveM}:replay l (ms++ [m])=(replay l ms).bind fun l'=>doneM l' m:=by
 induction ms generalizing l with
 |nil=>simp [replay]
 |cons x ms ih=>
  simp only [List.cons_append,replay]
  cases doneM l x with
  |none=>rfl
  |some l'=>simpa using ih
theorem listed_ins {l:List NameM} {x:NameM} (h:Listed l) (hn:¬hasK kN l x.name) (ho:okS x.name) (hi:x.id∉l.map (·.id)):Listed (insK kN l x):=by
 refine ⟨srt_insK h.srt hn,fun n hm=> ?_, ?_⟩
 ·rcases mem_insK.1 hm with rfl|hm
  ·exact ho
  ·exact h.ok n hm
 ·have:=(insK_perm (key:=kN) l x).map (·.id)
  refine this.nodup_iff.2 ?_
  rw [List.map_cons,List.nodup_cons]
  exact ⟨hi,h.ids⟩
theorem listed_sub {l l':List NameM} (h:Listed l) (hs:l'.Sublist l):Listed l':=⟨h.srt.sublist hs,fun n hn=>h.ok n (hs.subset hn),h.ids.sublist (hs.map _)⟩
theorem listed_del {l:List NameM} (h:Listed l) (s:Txt):Listed (delK kN l s):=listed_sub h (delK_sub l s)
theorem drop_sub (l:List NameM) (s:Txt):(dropK l s).Sublist l:=by
 unfold dropK;split
 ·exact delK_sub l s
 ·exact List.Sublist.refl _
theorem has_drop {l:List NameM} (hs:Srt kN l) (s:Txt):¬hasK kN (dropK l s) s:=by
 unfold dropK;split
 ·rename_i hh
  rintro ⟨x,hx,hk⟩
  exact ((mem_delK hs hh).1 hx).2 hk
 ·assumption
theorem mem_drop {l:List NameM} (hs:Srt kN l) {s:Txt} {n:NameM}:n∈dropK l s↔n∈l∧n.name≠s:=by
 unfold dropK;split
 ·rename_i hh;exact mem_delK hs hh
 ·rename_i hh
  exact ⟨fun h=>⟨h,fun e=>hh ⟨n,h,e⟩⟩,fun h=>h.1⟩
theorem RightM.idlt {d:DiskM} (h:RightM d) {i:Nat} (hi:i∈idsM d):1≤i∧i<d.next:=by
 obtain ⟨f,hf,rfl⟩:=(h.same i).1 hi
 have:=h.filed.2 f hf
 exact ⟨this.1,this.2.1⟩
theorem addIds_snoc (ms:List MoveM) (m:MoveM):addIds (ms++ [m])=addIds ms++(if m.kind=1 then [m.id] else []):=by
 unfold addIds
 by_cases h:m.kind=1<;>simp [h]
theorem right_create {d:DiskM} {s:Txt} (h:RightM d) (ho:okS s) (hn:¬hasK kN d.names s) (hf:d.files.length<256) (hx:d.next<1099511627776):RightM (createM d s):=by
 have hids:idsM (createM d s)=idsM d++ [d.next]:=by
  simp only [idsM,createM,addIds_snoc,if_pos,List.append_assoc]
 have hnew:d.next∉idsM d:=fun hm=>by have:=(h.idlt hm).2;omega
 refine ⟨h.quota, ?_, ?_, ?_,h.kept, ?_,⟨?_,fun f hm=> ?_⟩, ?_, ?_,fun i=> ?_,fun n hm=> ?_, ?_⟩
 ·show 1≤d.next+1;omega
 ·show d.next+1≤_;omega
 ·show (d.files++ [_]).length≤256;simp;omega
 ·exact listed_ins h.names hn ho (fun hm=>by
   obtain ⟨n,hn',e⟩:=List.mem_map.1 hm
   have:=(h.idlt (h.nids n hn')).2
   simp only at e;omega)
 ·show (d.files++ [_]).Pairwise _
  rw [List.pairwise_append]
  refine ⟨h.filed.1,by simp,fun a ha b hb=> ?_⟩
  simp at hb;subst hb
  exact (h.filed.2 a ha).2.1
 ·have hm':f∈d.files++ [⟨d.next,[],0⟩]:=hm
  show 1≤f.id∧f.id<d.next+1∧_
  rcases List.mem_append.1 hm' with hm|hm
  ·have:=h.filed.2 f hm;exact ⟨this.1,by omega,this.2.2⟩
  ·simp at hm;subst hm;exact ⟨h.next1,by simp,by simp⟩
 ·show replay d.kept (d.moves++ [_])=_
  rw [replay_snoc,h.replay]
  simp only [Option.bind_some,doneM,if_pos ho,if_pos]
  rw [if_neg (by
   rintro (h1|h1|h1)
   ·exact hn h1
   ·exact h1 rfl
   ·have:=h.next1;simp at h1;omega)]
  rfl
 ·rw [hids,List.nodup_append]
  exact ⟨h.ids,by simp,fun a ha b hb e=>by simp at hb;subst hb;subst e;exact hnew ha⟩
 ·rw [hids,List.mem_append,h.same i]
  show _↔∃f∈d.files++ [_],f.id=i
  simp only [List.mem_append,List.mem_singleton]
  constructor
  ·rintro (⟨f,hf,e⟩|rfl)
   ·exact ⟨f,.inl hf,e⟩
   ·exact ⟨_,.inr rfl,rfl⟩
  ·rintro ⟨f,hf|rfl,e⟩
   ·exact .inl ⟨f,hf,e⟩
   ·exact .inr e.symm
 ·rw [hids]
  rcases mem_insK.1 hm with rfl|hm
  ·simp
  ·exact List.mem_append.2 (.inl (h.nids n hm))
 ·have:=h.used
  show (((d.files++ [_]).map _).sum)≤d.quota
  simpa [usedM,usedL] using this
theorem modF_ids (fs:List FileM) (id:Nat) (g:FileM→FileM) (hg:∀f,(g f).id=f.id):(modF fs id g).map (·.id)=fs.map (·.id):=by
 simp only [modF,List.map_map]
 refine List.map_congr_left fun f _=> ?_
 show (if f.id=id then g f else f).id=f.id
 split
 ·exact hg f
 ·rfl
theorem pw_ids {fs gs:List FileM} (h:gs.map (·.id)=fs.map (·.id)) (hp:fs.Pairwise fun a b=>a.id<b.id):gs.Pairwise fun a b=>a.id<b.id:=by
 have h1:(fs.map (·.id)).Pairwise (· < ·):=List.pairwise_map.2 hp
 rw [←h] at h1
 exact List.pairwise_map.1 h1
theorem right_mod {d:DiskM} {id:Nat} {g:FileM→FileM} (h:RightM d) (hg:∀f,(g f).id=f.id) (hsu:∀f∈d.files,(g f).sure≤(g f).bytes.length) (hu:usedL (modF d.files id g)≤d.quota):RightM {d with files:=modF d.files id g}:=by
 have hm:=modF_ids d.files id g hg
 have hin:∀i,(∃f∈modF d.files id g,f.id=i)↔∃f∈d.files,f.id=i:=fun i=>by
  have h1:(∃f∈modF d.files id g,f.id=i)↔i∈(modF d.files id g).map (·.id):=by simp
  have h2:(∃f∈d.files,f.id=i)↔i∈d.files.map (·.id):=by simp
  rw [h1,h2,hm]
 refine ⟨h.quota,h.next1,h.next2, ?_,h.kept,h.names,⟨pw_ids hm h.filed.1,fun f hf=> ?_⟩,h.replay,h.ids,fun i=> ?_,h.nids,hu⟩
 ·show (modF d.files id g).length≤256
  simpa [modF] using h.nfiles
 ·obtain ⟨f0,hf0,rfl⟩:=List.mem_map.1 hf
  have h0:=h.filed.2 f0 hf0
  show 1≤(if f0.id=id then g f0 else f0).id∧(if f0.id=id then g f0 else f0).id<d.next∧_
  split
  ·rw [hg];exact ⟨h0.1,h0.2.1,hsu f0 hf0⟩
  ·exact h0
 ·show i∈idsM d↔_
  rw [hin,h.same]
theorem used_mod:∀(fs:List FileM) (id:Nat) (b:Txt),(fs.map (·.id)).Nodup→usedL (modF fs id fun f=>{f with bytes:=f.bytes++b})≤usedL fs+b.length∧((∃f∈fs,f.id=id)→usedL (modF fs id fun f=>{f with bytes:=f.bytes++b})=usedL fs+b.length)∧((¬∃f∈fs,f.id=id)→usedL (modF fs id fun f=>{f with bytes:=f.bytes++b})=usedL fs)
 | [],_,_,_=>by simp [usedL,modF]
 |f::fs,id,b,hn=>by
  rw [List.map_cons,List.nodup_cons] at hn
  obtain ⟨h1,h2,h3⟩:=used_mod fs id b hn.2
  have hc:∀g,usedL (modF (f::fs) id g)=((if f.id=id then g f else f).bytes.length)+usedL (modF fs id g):=fun g=>by simp [usedL,modF]
  have hc0:usedL (f::fs)=f.bytes.length+usedL fs:=by simp [usedL]
  rw [hc,hc0]
  by_cases he:f.id=id
  ·have hno:¬∃f'∈fs,f'.id=id:=fun ⟨f',hf',e⟩=>hn.1 (List.mem_map.2 ⟨f',hf',by rw [e,he]⟩)
   rw [if_pos he,h3 hno]
   refine ⟨by simp;omega,fun _=>by simp;omega,fun hx=>absurd ⟨f,by simp,he⟩ hx⟩
  ·rw [if_neg he]
   refine ⟨by omega, ?_,fun hx=> ?_⟩
   ·rintro ⟨f',hf',e⟩
    rcases List.mem_cons.1 hf' with rfl|hf'
    ·exact absurd e he
    ·rw [h2 ⟨f',hf',e⟩];omega
   ·rw [h3 fun ⟨f',hf',e⟩=>hx ⟨f',List.mem_cons_of_mem _ hf',e⟩]
theorem right_append {d:DiskM} {s b:Txt} (h:RightM d) (hb:b.length≤d.quota-usedM d):RightM (appendM d s b):=by
 have h1:=(used_mod d.files (idOf d.names s) b h.filed.ids).1
 have h2:=h.used
 refine right_mod h (fun _=>rfl) (fun f hf=> ?_) ?_
 ·have:=(h.filed.2 f hf).2.2
  show f.sure≤(f.bytes++b).length
  simp;omega
 ·have:usedL d.files=usedM d:=rfl
  omega
theorem used_sync (d:DiskM) (s:Txt):usedM (syncM d s)=usedM d:=by
 show usedL (modF _ _ _)=usedL _
 unfold usedL modF
 rw [List.map_map]
 congr 1
 refine List.map_congr_left fun f _=> ?_
 show (if f.id=_ then _ else f).bytes.length=_
 split<;>rfl
theorem right_sync {d:DiskM} {s:Txt} (h:RightM d):RightM (syncM d s):=
 right_mod h (fun _=>rfl) (fun f hf=>Nat.le_refl _) (by have:=used_sync d s;have:=h.used;simp only [usedM,syncM] at*;omega)
theorem used_filter (p:FileM→Bool):∀fs:List FileM,usedL (fs.filter p)≤usedL fs
 | []=>by simp [usedL]
 |f::fs=>by
  have:=used_filter p fs
  have hc:∀g gs,usedL (g::gs)=g.bytes.length+usedL gs:=fun g gs=>by simp [usedL]
  rw [List.filter_cons]
  split
  ·rw [hc,hc];omega
  ·rw [hc];omega
theorem right_syncDir {d:DiskM} (h:RightM d):RightM (syncDirM d):=by
 have hids:idsM (syncDirM d)=d.names.map (·.id):=by simp [idsM,syncDirM,addIds]
 refine ⟨h.quota,h.next1,h.next2, ?_,h.names,h.names,⟨h.filed.1.filter _,fun f hf=>h.filed.2 f (List.mem_filter.1 hf).1⟩,rfl,by rw [hids];exact h.names.ids,fun i=> ?_,fun n hn=> ?_, ?_⟩
 ·exact Nat.le_trans (List.length_filter_le _ _) h.nfiles
 ·rw [hids]
  show _↔∃f∈d.files.filter _,f.id=i
  constructor
  ·intro hi
   obtain ⟨n,hn,rfl⟩:=List.mem_map.1 hi
   obtain ⟨f,hf,e⟩:=(h.same _).1 (h.nids n hn)
   exact ⟨f,List.mem_filter.2 ⟨hf,by simp;exact ⟨n,hn,e.symm⟩⟩,e⟩
  ·rintro ⟨f,hf,rfl⟩
   have:=(List.mem_filter.1 hf).2
   simp only [decide_eq_true_eq] at this
   obtain ⟨n,hn,e⟩:=this
   exact List.mem_map.2 ⟨n,hn,e⟩
 ·rw [hids];exact List.mem_map.2 ⟨n,hn,rfl⟩
 ·exact Nat.le_trans (used_filter _ _) h.used
theorem ids_keep {d:DiskM} {ns:List NameM} {m:MoveM} (hk:m.kind≠1):idsM {d with names:=ns,moves:=d.moves++ [m]}=idsM d:=by
 simp [idsM,addIds_snoc,hk]
theorem right_remove {d:DiskM} {s:Txt} (h:RightM d) (ho:okS s) (hh:hasK kN d.names s):RightM (removeM d s):=by
 have hids:idsM (removeM d s)=idsM d:=ids_keep (by simp)
 refine ⟨h.quota,h.next1,h.next2,h.nfiles,h.kept,listed_del h.names s,h.filed, ?_,by rw [hids];exact h.ids,fun i=>by rw [hids];exact h.same i,fun n hn=>by rw [hids];exact h.nids n ((delK_sub _ _).subset hn),h.used⟩
 show replay d.kept (d.moves++ [_])=_
 rw [replay_snoc,h.replay]
 simp [doneM,ho,hh,removeM]
theorem right_rename {d:DiskM} {s t:Txt} (h:RightM d) (ho:okS s) (hh:hasK kN d.names s) (hot:okS t) (hne:t≠s):RightM (renameM d s t):=by
 have hids:idsM (renameM d s t)=idsM d:=ids_keep (by simp)
 obtain ⟨x,hx,hk,hp⟩:=del_at h.names.srt hh
 have hxm:=List.mem_of_getElem? hx
 have hid:idOf d.names s=x.id:=by rw [←hk];exact idOf_eq h.names.srt hxm
 have hnd:=(hp.map (·.id)).nodup_iff.1 h.names.ids
 rw [List.map_cons,List.nodup_cons] at hnd
 have hdl:=listed_del h.names s
 have hsub:(dropK (delK kN d.names s) t).Sublist (delK kN d.names s):=drop_sub _ _
 refine ⟨h.quota,h.next1,h.next2,h.nfiles,h.kept, ?_,h.filed, ?_,by rw [hids];exact h.ids,fun i=>by rw [hids];exact h.same i,fun n hn=> ?_,h.used⟩
 ·refine listed_ins (listed_sub hdl hsub) (has_drop hdl.srt t) hot (fun hm=> ?_)
  simp only at hm
  rw [hid] at hm
  exact hnd.1 ((hsub.map _).subset hm)
 ·show replay d.kept (d.moves++ [_])=_
  rw [replay_snoc,h.replay]
  simp [doneM,ho,hh,hot,hne,renameM]
 ·rw [hids]
  rcases mem_insK.1 hn with rfl|hn
  ·show idOf d.names s∈_
   rw [hid];exact h.nids x hxm
  ·exact h.nids n ((delK_sub _ _).subset (hsub.subset hn))
theorem right_new {q:Nat} (hq:q≤1073741824):RightM ⟨q,[],[],[],[],1⟩:=by
 refine ⟨hq,by simp,by simp,by simp,⟨by simp [Srt],by simp,by simp⟩,⟨by simp [Srt],by simp,by simp⟩,⟨by simp,by simp⟩,rfl,by simp [idsM,addIds],fun i=>by simp [idsM,addIds],by simp,by simp [usedM,usedL]⟩
end Go.Sf
end
section
set_option maxHeartbeats 2000000
namespace Go.Sf
open Go.Abs
def kvs (ids:List Nat):List (AV×AV):=ids.map fun (i:Nat)=>(AV.int .i64 (i:Int),AV.bool true)
theorem kvs_len (ids:List Nat):(kvs ids).length=ids.length:=by simp [kvs]
theorem kvs_snoc (ids:List Nat) (i:Nat):kvs (ids++ [i])=kvs ids++ [(AV.int .i64 (i:Int),AV.bool true)]:=by simp [kvs]
theorem mf_none {ids:List Nat} {i:Nat} (h:i∉ids) (p:Nat):mapFind 0 (.int .i64 i) (kvs ids) p=some none:=by
 induction ids generalizing p with
 |nil=>rfl
 |cons x ids ih=>
  have hx:¬x=i:=fun e=>h (by simp [e])
  have:=ih (fun hm=>h (by simp [hm])) (p+1)
  simp only [kvs,List.map_cons,mapFind]
  simp only [kvs] at this
  have hx2:¬(x:Int)=(i:Int):=by omega
  have hx3:¬(i:Int)=(x:Int):=by omega
  simp [eq1,hx,Ne.symm hx,hx2,hx3,this]
theorem mp_new {ids:List Nat} {i:Nat} (h:i∉ids):mapPut 0 (.int .i64 i) (.bool true) (kvs ids)=some (kvs (ids++ [i])):=by
 rw [mapPut,mf_none h,kvs_snoc];rfl
theorem no_mv {kv:List (AV×AV)} {tl:Store} {t:TypeId} {c:List AV}:noItr (.mp kv::(tl++ [.var t c]))=noItr tl:=by simp [noItr,Entry.isItr]
theorem no_tv {tl:Store} {t:TypeId} {c:List AV}:noItr (tl++ [.var t c])=noItr tl:=by simp [noItr,Entry.isItr]
def NoI (tl:Store):Prop:=noItr tl=true
theorem NoI.nil:NoI []:=rfl
theorem NoI.var {tl:Store} (h:NoI tl) (t:TypeId) (c:List AV):NoI (tl++ [.var t c]):=by unfold NoI;rw [no_tv];exact h
theorem NoI.eq {tl:Store} (h:NoI tl):noItr tl=true:=h
theorem w01:IntKind.i64.wrap 1=1:=by decide
theorem mf_some {ids:List Nat} {i:Nat} (h:i∈ids) (p:Nat):∃q,mapFind 0 (.int .i64 i) (kvs ids) p=some (some (q,.bool true)):=by
 induction ids generalizing p with
 |nil=>simp at h
 |cons x ids ih=>
  simp only [kvs,List.map_cons,mapFind]
  by_cases hx:x=i
  ·subst hx;simp [eq1]
  ·obtain ⟨q,hq⟩:=ih (by rcases List.mem_cons.1 h with h|h;exact absurd h.symm hx;exact h) (p+1)
   simp only [kvs] at hq
   have hx2:¬(x:Int)=(i:Int):=by omega
   have hx3:¬(i:Int)=(x:Int):=by omega
   simp [eq1,hx,Ne.symm hx,hx2,hx3,hq]
end Go.Sf
namespace Go.Proofs.YtdbhocoeolhjhaaGreatDoor
open Go.Abs Go.RowKit Go.Sf
variable {G:Globs}
theorem dropped_ok (l:List NameM) (s:Txt) (hs:Srt kN l) (hl:l.length≤1000000):PCalls Tryz.prog n_disk_dropped [.lst (namesC l),.str s] (fun r=>r=.lst (namesC (dropK l s))):=by
 refine pcalls_of_awp hmix c_disk_dropped rfl ?_
 simp [a_disk_dropped]
 refine ac_same (dplace_ok l s hs (by omega)) (by simp) ?_
 rintro r rfl
 by_cases hh:hasK kN l s
 ·obtain ⟨x,hx,hk⟩:=(has_pos hs).1 hh
  have hlt:=(List.getElem?_eq_some_iff.1 hx).1
  have hw:IntKind.i64.wrap ((posK kN l s:Int)+1)=(posK kN l s:Int)+1:=wrap_i64 (by omega) (by omega)
  simp [hh]
  refine ac_eff (cloneNm (namesC l) (namesC_els l) (by rw [namesC_len];omega)) ?_
  rintro r σ (⟨h0,rfl,rfl⟩|⟨rfl,rfl⟩)
  ·have:=congrArg List.length h0
   rw [namesC_len] at this
   simp at this;rw [this] at hlt;simp at hlt
  simp [hw]
  refine ac_eff (deleteNm (id:=0) (els:=namesC l) (i:=posK kN l s) (by simp) (by rw [namesC_len];exact hlt)) ?_
  rintro r σ ⟨rfl,rfl⟩
  rw [namesC_del]
  have hq:(namesC l).length-1=(namesC (delK kN l s)).length:=by
   have:=len_delK hs hh
   rw [namesC_len,namesC_len];omega
  rw [hq]
  simp [namesC_fz,dropK,hh]
 ·simp [hh,dropK]
def okLen (m:MoveM):Prop:=m.name.length≤1000000∧m.dst.length≤1000000∧m.kind≤1000000∧m.id≤1000000000000000
theorem ddone_ok (l l':List NameM) (m:MoveM) (hs:Srt kN l) (hl:l.length≤1000000) (hd:doneM l m=some l') (hm:okLen m):PCalls Tryz.prog n_disk_done [.lst (namesC l),.agg (moveC m)] (fun r=>r=.tup [.lst (namesC l'),.bool true]):=by
 refine pcalls_of_awp hmix c_disk_done rfl ?_
 obtain ⟨k,nm,tgt,id⟩:=m
 obtain ⟨q1,q2,q3,q4⟩:=hm
 simp only at q1 q2 q3 q4
 simp [a_disk_done,moveC]
 refine ac_same (dplace_ok l nm hs (by omega)) (by simp) ?_
 rintro r rfl
 have hok:okS nm:=by
  unfold doneM at hd
  split at hd
  ·assumption
  ·cases hd
 simp
 refine ac_same (valid_ok nm (by omega)) (by simp) ?_
 rintro r rfl
 simp [hok]
 unfold doneM at hd
 simp only at hd
 rw [if_pos hok] at hd
 split at hd
 ·rename_i hk
  subst hk
  split at hd
  ·cases hd
  rename_i hc
  simp only [Option.some.injEq] at hd
  subst hd
  have h1:¬hasK kN l nm:=fun h=>hc (.inl h)
  have h2:tgt= []:=Classical.byContradiction fun h=>hc (.inr (.inl h))
  have h3:¬((id:Int)<1):=fun h=>hc (.inr (.inr (by omega)))
  subst h2
  simp [h1,h3]
  refine ac_same (added_ok l nm id hs (by omega)) (by simp) ?_
  rintro r rfl
  simp
 split at hd
 ·rename_i hk1 hk
  subst hk
  split at hd
  ·cases hd
  rename_i hc
  simp only [Option.some.injEq] at hd
  subst hd
  have h1:hasK kN l nm:=Classical.byContradiction fun h=>hc (.inl h)
  have h2:tgt= []:=Classical.byContradiction fun h=>hc (.inr (.inl h))
  have h3:id=0:=Classical.byContradiction fun h=>hc (.inr (.inr h))
  subst h2;subst h3
  simp [h1]
  refine ac_same (dropped_ok l nm hs (by omega)) (by simp) ?_
  rintro r rfl
  simp [dropK,h1]
 split at hd
 ·rename_i hk1 hk2 hk
  subst hk
  split at hd
  ·cases hd
  rename_i hc
  simp only [Option.some.injEq] at hd
  subst hd
  have h1:hasK kN l nm:=Classical.byContradiction fun h=>hc (.inl h)
  have h2:okS tgt:=Classical.byContradiction fun h=>hc (.inr (.inl h))
  have h3:¬tgt=nm:=fun h=>hc (.inr (.inr (.inl h)))
  have h4:id=0:=Classical.byContradiction fun h=>hc (.inr (.inr (.inr h)))
  subst h4
  obtain ⟨x,hx,hk⟩:=(has_pos hs).1 h1
  have hlt:=(List.getElem?_eq_some_iff.1 hx).1
  have hxm:=List.mem_of_getElem? hx
  have hid:idOf l nm=x.id:=by rw [←hk];exact idOf_eq hs hxm
  have hxc:=namesC_get hx
  obtain ⟨hy1,hy2⟩:=List.getElem?_eq_some_iff.1 hxc
  have hsd:Srt kN (delK kN l nm):=srt_delK hs
  have hld:=len_delK hs h1
  simp [h1]
  refine ac_same (valid_ok tgt (by omega)) (by simp) ?_
  rintro r rfl
  simp [h2,h3]
  refine qc_any (r:=.lst (namesC (delK kN l nm))) ((dropped_ok l nm hs (by omega)).mono fun r h=>by rw [h];simp [dropK,h1]) (by simp) ?_
  simp
  refine qc_any (dropped_ok (delK kN l nm) tgt hsd (by omega)) (by simp) ?_
  simp [hxc,hy2,nameC]
  have hds:=drop_sub (delK kN l nm) tgt
  refine qc_any (added_ok (dropK (delK kN l nm) tgt) tgt x.id (hsd.sublist hds) (by have:=hds.length_le;omega)) (by simp) ?_
  simp [hid]
 ·cases hd
theorem take_snoc {α:Type} {l:List α} {i:Nat} {n:α} (h:l[i]? =some n):l.take (i+1)=l.take i++ [n]:=by rw [List.take_add_one,h];rfl
theorem nd_take {l:List Nat} (h:l.Nodup) {i x:Nat} (hx:l[i]? =some x):x∉l.take i:=fun hm=>by
 obtain ⟨j,hj,e⟩:=List.mem_iff_getElem.1 hm
 rw [List.length_take] at hj
 rw [List.getElem_take] at e
 obtain ⟨hi,e2⟩:=List.getElem?_eq_some_iff.1 hx
 have:=(List.nodup_iff_pairwise_ne.1 h)
 exact List.pairwise_iff_getElem.1 this j i (by omega) hi (by omega) (by rw [e,e2])
theorem dlisted_ok (l:List NameM) (h:Listed l) (hl:l.length≤1000000):PCalls Tryz.prog n_disk_listed [.lst (namesC l)] (fun r=>r=.bool true):=by
 refine pcalls_of_awp hmix c_disk_listed rfl ?_
 simp [a_disk_listed]
 have hle:=namesC_len l
 obtain ⟨ids,hids⟩:∃ids,ids=l.map (·.id):=⟨_,rfl⟩
 have hnd:ids.Nodup:=by rw [hids];exact h.ids
 refine lp_startx (fun x f σ=>∃(i:Nat) (tl:Store),x=l.length-i∧i≤l.length∧f 0=.lst (namesC l)∧f 3=.map 0∧f 7=.lst (namesC l)∧f 8=.int .i64 l.length∧f 9=.int .i64 i∧NoI tl∧σ=.mp (kvs (ids.take i))::tl) l.length ?_ ?_
 ·exact ⟨0,[],by simp,by simp,by simp,by simp,by simp,by simp [hle],by simp,NoI.nil,by simp [kvs]⟩
 rintro x f σ ⟨i,tl,hx,hi,h0,h3,h7,h8,h9,hno,rfl⟩
 simp [h8,h9]
 refine cb_dec (fun hlt=> ?_) (fun hge=> ?_)
 ·have hlt':i<l.length:=by omega
  have hwi:IntKind.i64.wrap ((i:Int)+1)=((i+1:Nat):Int):=by rw [wrap_i64 (by omega) (by omega)];omega
  obtain ⟨n,hn⟩:∃n,l[i]? =some n:=⟨_,List.getElem?_eq_getElem hlt'⟩
  have hc:=namesC_get hn
  obtain ⟨hx1,hx2⟩:=List.getElem?_eq_some_iff.1 hc
  have hnm:=List.mem_of_getElem? hn
  have hok:=h.ok n hnm
  have hidi:ids[i]? =some n.id:=by rw [hids,List.getElem?_map,hn];rfl
  have hmf:=mf_none (nd_take hnd hidi) 0
  have hsn:=take_snoc hidi
  simp [h0,h3,h7,h9,hc,hx2,nameC,tail_get,tail_set,splice]
  refine qc_same (r:=.bool true) ((valid_ok n.name (by have:=hok.2;omega)).mono fun r hr=>by rw [hr];simp [hok]) (by simp) (by simp) ?_
  by_cases hi0:i=0
  ·subst hi0
   have hmf0:mapFind 0 (.int .i64 n.id) (kvs []) 0=some none:=rfl
   have hmn:mapPut 0 (.int .i64 n.id) (.bool true) (kvs [])=some (kvs [n.id]):=mp_new (ids:= []) (by simp)
   simp [h0,h3,h7,h9,hc,hx2,nameC,tail_get,tail_set,splice,hmf0,hmn,no_mv,hno.eq, -mapFind, -mapPut, -noItr, -Entry.isItr]
   refine nx_intro (l.length-1) (by omega) ⟨1,tl++ [.var 101 [.str n.name,.int .i64 n.id]],rfl,by omega,by simp [h0],by simp [h3],by simp [h7],by simp [h8],by simp [h9,w01],hno.var _ _, ?_⟩
   rw [hsn];simp
  ·have hw1:IntKind.i64.wrap ((i:Int)-1)=((i-1:Nat):Int):=by rw [wrap_i64 (by omega) (by omega)];omega
   obtain ⟨n1,hn1⟩:∃n1,l[i-1]? =some n1:=⟨l[i-1]'(by omega),List.getElem?_eq_getElem (by omega)⟩
   have hc1:=namesC_get hn1
   obtain ⟨hy1,hy2⟩:=List.getElem?_eq_some_iff.1 hc1
   have hlt1:n1.name<n.name:=by
    obtain ⟨g1,rfl⟩:=List.getElem?_eq_some_iff.1 hn
    obtain ⟨g2,rfl⟩:=List.getElem?_eq_some_iff.1 hn1
    exact List.pairwise_iff_getElem.1 h.srt _ _ g2 g1 (by omega)
   have hpos:(0:Int)<i:=by omega
   have hpos2:0<i:=by omega
   simp [h0,h3,h7,h9,hc,hx2,nameC,tail_get,tail_set,splice,hmf,hpos,hpos2,hw1,hc1,hy2,less_iff,hlt1,mp_new (nd_take hnd hidi),no_mv,hno.eq, -mapFind, -mapPut, -noItr, -Entry.isItr]
   refine nx_intro (l.length-(i+1)) (by omega) ⟨i+1,tl++ [.var 101 [.str n.name,.int .i64 n.id]],rfl,by omega,by simp [h0],by simp [h3],by simp [h7],by simp [h8],by simp [h9,hwi],hno.var _ _, ?_⟩
   rw [hsn]
 ·simp
structure Fits (d:DiskM):Prop where
 nfiles:d.files.length≤1000000
 nnames:d.names.length≤1000000
 nkept:d.kept.length≤1000000
 nmoves:d.moves.length≤500000
 bytes:∀f∈d.files,f.bytes.length≤1000000000
 moves:∀m∈d.moves,okLen m
theorem byteEls_len (l:Txt):(byteEls l).length=l.length:=by simp [byteEls]
theorem dfiled_ok (d:DiskM) (h:Filed d.next d.files) (hq:d.quota≤1000000000000) (hx:d.next≤1000000000000000) (hl:Fits d):PCalls Tryz.prog n_disk_filed [.agg (diskC d)] (fun r=>r=.bool true):=by
 refine pcalls_of_awp hmix c_disk_filed rfl ?_
 simp [a_disk_filed,diskC]
 have hle:=filesC_len d.files
 have hlf:=hl.nfiles
 refine lp_startx (fun x f σ=>∃(i:Nat) (tl:Store),x=d.files.length-i∧i≤d.files.length∧f 1=.ptr 0 0∧f 6=.lst (filesC d.files)∧f 7=.int .i64 d.files.length∧f 8=.int .i64 i∧σ=.var 30 (diskC d)::tl) d.files.length ?_ ?_
 ·exact ⟨0,[],by simp,by simp,by simp,by simp,by simp [hle],by simp,by simp [diskC]⟩
 rintro x f σ ⟨i,tl,hx,hi,h1,h6,h7,h8,rfl⟩
 simp [h7,h8]
 refine cb_dec (fun hlt=> ?_) (fun hge=> ?_)
 ·have hlt':i<d.files.length:=by omega
  have hwi:IntKind.i64.wrap ((i:Int)+1)=((i+1:Nat):Int):=by rw [wrap_i64 (by omega) (by omega)];omega
  obtain ⟨n,hn⟩:∃n,d.files[i]? =some n:=⟨_,List.getElem?_eq_getElem hlt'⟩
  have hc:=filesC_get hn
  obtain ⟨hx1,hx2⟩:=List.getElem?_eq_some_iff.1 hc
  have hnm:=List.mem_of_getElem? hn
  obtain ⟨g1,g2,g3⟩:=h.2 n hnm
  have k1:¬((n.id:Int)<1):=by omega
  have k2:¬((d.next:Int)≤n.id):=by omega
  have k3:¬((n.sure:Int)<0):=by omega
  have k4:¬((n.bytes.length:Int)<n.sure):=by omega
  have k2':¬(d.next≤n.id):=by omega
  have k4':¬(n.bytes.length<n.sure):=by omega
  have k1':¬n.id<1:=by omega
  by_cases hi0:i=0
  ·subst hi0
   simp [h1,h6,h8,hc,hx2,fileC,diskC,tail_get,tail_set,splice,k1,k2,k3,k4,k2',k4',byteEls_len,w01]
   exact nx_intro (d.files.length-1) (by omega) ⟨1,tl++ [.var 97 (fileC n)],rfl,by omega,by simp [h1],by simp [h6],by simp [h7],by simp,by simp [diskC,fileC]⟩
  ·have hw1:IntKind.i64.wrap ((i:Int)-1)=((i-1:Nat):Int):=by rw [wrap_i64 (by omega) (by omega)];omega
   obtain ⟨n1,hn1⟩:∃n1,d.files[i-1]? =some n1:=⟨d.files[i-1]'(by omega),List.getElem?_eq_getElem (by omega)⟩
   have hc1:=filesC_get hn1
   obtain ⟨hy1,hy2⟩:=List.getElem?_eq_some_iff.1 hc1
   have hlt1:n1.id<n.id:=by
    obtain ⟨u1,e1⟩:=List.getElem?_eq_some_iff.1 hn
    obtain ⟨u2,e2⟩:=List.getElem?_eq_some_iff.1 hn1
    rw [←e1,←e2]
    exact List.pairwise_iff_getElem.1 h.1 _ _ u2 u1 (by omega)
   have hpos:(0:Int)<i:=by omega
   have hpos2:0<i:=by omega
   have hn5:¬(n.id≤n1.id):=by omega
   simp [h1,h6,h8,hc,hx2,fileC,diskC,tail_get,tail_set,splice,k1,k2,k3,k4,k2',k4',byteEls_len,hpos,hpos2,hw1,hc1,hy2,hn5,hwi]
   exact nx_intro (d.files.length-(i+1)) (by omega) ⟨i+1,tl++ [.var 97 (fileC n)],rfl,by omega,by simp [h1],by simp [h6],by simp [h7],by simp,by simp [diskC,fileC]⟩
 ·simp
theorem deq_ok (l:List NameM) (hl:l.length≤1000000):PCalls Tryz.prog n_slices_Equal_api_Name_api_Name [.lst (namesC l),.lst (namesC l)] (fun r=>r=.bool true):=by
 refine pcalls_of_awp hmix c_slices_Equal_api_Name_api_Name rfl ?_
 simp [a_slices_Equal_api_Name_api_Name]
 have hle:=namesC_len l
 refine lp_startx (fun x f σ=>∃(i:Nat),x=l.length-i∧i≤l.length∧f 0=.lst (namesC l)∧f 1=.lst (namesC l)∧f 12=.int .i64 l.length∧f 13=.int .i64 i∧σ= []) l.length ?_ ?_
 ·exact ⟨0,by simp,by simp,by simp,by simp,by simp [hle],by simp,by simp⟩
 rintro x f σ ⟨i,hx,hi,h0,h1,h7,h8,rfl⟩
 simp [h7,h8]
 refine cb_dec (fun hlt=> ?_) (fun hge=> ?_)
 ·have hlt':i<l.length:=by omega
  have hwi:IntKind.i64.wrap ((i:Int)+1)=((i+1:Nat):Int):=by rw [wrap_i64 (by omega) (by omega)];omega
  obtain ⟨n,hn⟩:∃n,l[i]? =some n:=⟨_,List.getElem?_eq_getElem hlt'⟩
  have hc:=namesC_get hn
  obtain ⟨hx1,hx2⟩:=List.getElem?_eq_some_iff.1 hc
  simp [h0,h1,h8,hc,hx2,nameC,eqAll,hwi]
  exact nx_intro (l.length-(i+1)) (by omega) ⟨i+1,rfl,by omega,by simp [h0],by simp [h1],by simp [h7],by simp,rfl⟩
 ·simp
theorem used_take (fs:List FileM):∀{i:Nat} {n:FileM},fs[i]? =some n→usedL (fs.take (i+1))=usedL (fs.take i)+n.bytes.length:=fun {i n} h=>by
 rw [take_snoc h];simp [usedL]
theorem used_le:∀(fs:List FileM),(∀f∈fs,f.bytes.length≤1000000000)→usedL fs≤fs.length*1000000000
 | [],_=>by simp [usedL]
 |f::fs,h=>by
  have h1:=used_le fs fun g hg=>h g (by simp [hg])
  have h2:=h f (by simp)
  have:usedL (f::fs)=f.bytes.length+usedL fs:=by simp [usedL]
  rw [this,List.length_cons];omega
theorem dused_ok (d:DiskM) (hl:Fits d):PCalls Tryz.prog n_disk_Used [.agg (diskC d)] (fun r=>r=.int .i64 (usedM d)):=by
 refine pcalls_of_awp hmix c_disk_Used rfl ?_
 simp [a_disk_Used,diskC]
 have hle:=filesC_len d.files
 have hlf:=hl.nfiles
 refine lp_startx (fun x f σ=>∃(i:Nat) (tl:Store),x=d.files.length-i∧i≤d.files.length∧f 3=.int .i64 (usedL (d.files.take i))∧f 7=.lst (filesC d.files)∧f 8=.int .i64 d.files.length∧f 9=.int .i64 i∧σ=.var 30 (diskC d)::tl) d.files.length ?_ ?_
 ·exact ⟨0,[],by simp,by simp,by simp [usedL],by simp,by simp [hle],by simp,by simp [diskC]⟩
 rintro x f σ ⟨i,tl,hx,hi,h3,h7,h8,h9,rfl⟩
 simp [h8,h9]
 refine cb_dec (fun hlt=> ?_) (fun hge=> ?_)
 ·have hlt':i<d.files.length:=by omega
  have hwi:IntKind.i64.wrap ((i:Int)+1)=((i+1:Nat):Int):=by rw [wrap_i64 (by omega) (by omega)];omega
  obtain ⟨n,hn⟩:∃n,d.files[i]? =some n:=⟨_,List.getElem?_eq_getElem hlt'⟩
  have hc:=filesC_get hn
  obtain ⟨hx1,hx2⟩:=List.getElem?_eq_some_iff.1 hc
  have hnm:=List.mem_of_getElem? hn
  have hb:=hl.bytes n hnm
  have hu:=used_le (d.files.take i) fun f hf=>hl.bytes f (List.mem_of_mem_take hf)
  rw [List.length_take,Nat.min_eq_left hi] at hu
  have hun:=used_take d.files hn
  have hwu:IntKind.i64.wrap ((usedL (d.files.take i):Int)+n.bytes.length)=(usedL (d.files.take (i+1)):Int):=by rw [hun,wrap_i64 (by omega) (by omega)];omega
  simp [h3,h7,h9,hc,hx2,fileC,diskC,tail_get,tail_set,splice,byteEls_len,hwi,hwu]
  exact nx_intro (d.files.length-(i+1)) (by omega) ⟨i+1,tl++ [.var 97 (fileC n)],rfl,by omega,by simp,by simp [h7],by simp [h8],by simp,by simp [diskC,fileC]⟩
 ·have hil:i=d.files.length:=by omega
  subst hil
  simp [h3,usedM]
end Go.Proofs.YtdbhocoeolhjhaaGreatDoor
end
section
set_option maxHeartbeats 4000000
namespace Go.Sf
open Go.Abs
theorem replay_take {l r:List NameM}:∀{ms:List MoveM} {i:Nat} {m:MoveM},replay l ms=some r→ms[i]? =some m→∃li li',replay l (ms.take i)=some li∧doneM li m=some li'∧replay l (ms.take (i+1))=some li':=fun {ms i m} h hm=>by
 have e:ms=ms.take i++(m::ms.drop (i+1)):=by
  conv=>lhs;rw [←List.take_append_drop i ms]
  obtain ⟨hi,e⟩:=List.getElem?_eq_some_iff.1 hm
  rw [List.drop_eq_getElem_cons hi,e]
 have happ:∀(a b:List MoveM) (l:List NameM),replay l (a++b)=(replay l a).bind fun l'=>replay l' b:=by
  intro a
  induction a with
  |nil=>intro b l;rfl
  |cons x a ih=>
   intro b l
   simp only [List.cons_append,replay]
   cases doneM l x with
   |none=>rfl
   |some l'=>simpa using ih b l'
 rw [e,happ] at h
 cases h1:replay l (ms.take i) with
 |none=>rw [h1] at h;cases h
 |some li=>
  rw [h1] at h
  simp only [Option.bind_some,replay] at h
  cases h2:doneM li m with
  |none=>rw [h2] at h;cases h
  |some li'=>
   have:ms.take (i+1)=ms.take i++ [m]:=by rw [List.take_add_one,hm];rfl
   refine ⟨li,li',rfl,h2, ?_⟩
   rw [this,replay_snoc,h1];exact h2
theorem srt_replay {l r:List NameM}:∀{ms:List MoveM},Srt kN l→replay l ms=some r→Srt kN r∧r.length≤l.length+ms.length:=fun {ms}=>by
 induction ms generalizing l with
 |nil=>intro hs h;simp [replay] at h;subst h;exact ⟨hs,by simp⟩
 |cons x ms ih=>
  intro hs h
  simp only [replay] at h
  cases h2:doneM l x with
  |none=>rw [h2] at h;cases h
  |some l'=>
   rw [h2] at h
   simp only [Option.bind_some] at h
   have h3:=ih (srt_done hs h2) h
   have h4:=len_done hs h2
   exact ⟨h3.1,by simp only [List.length_cons];omega⟩
theorem addIds_take {ms:List MoveM} {i:Nat} {m:MoveM} (h:ms[i]? =some m):addIds (ms.take (i+1))=addIds (ms.take i)++(if m.kind=1 then [m.id] else []):=by
 have:ms.take (i+1)=ms.take i++ [m]:=by rw [List.take_add_one,h];rfl
 rw [this,addIds_snoc]
theorem addIds_split {ms:List MoveM} {i:Nat} {m:MoveM} (h:ms[i]? =some m):∃r,addIds ms=addIds (ms.take i)++((if m.kind=1 then [m.id] else [])++r):=by
 refine ⟨addIds (ms.drop (i+1)), ?_⟩
 have e:ms=ms.take (i+1)++ms.drop (i+1):=(List.take_append_drop _ _).symm
 have happ:∀a b,addIds (a++b)=addIds a++addIds b:=fun a b=>by simp [addIds]
 conv=>lhs;rw [e]
 rw [happ,addIds_take h,List.append_assoc]
end Go.Sf
namespace Go.Proofs.YtdbhocoeolhjhaaGreatDoor
open Go.Abs Go.RowKit Go.Sf
variable {G:Globs}
theorem dright_ok (d:DiskM) (h:RightM d) (hl:Fits d):PCalls Tryz.prog n_disk_Right [.agg (diskC d)] (fun r=>r=.bool true):=by
 refine pcalls_of_awp hmix c_disk_Right rfl ?_
 have q1:=h.quota
 have q2:=h.next1
 have q3:=h.next2
 have q4:=h.nfiles
 have q5:=h.nkept
 have k1:¬((d.quota:Int)<0):=by omega
 have k2:¬((1073741824:Int)<d.quota):=by omega
 have k3:¬((d.next:Int)<1):=by omega
 have k4:¬((1099511627776:Int)<d.next):=by omega
 have k5:¬((256:Int)<d.files.length):=by omega
 have k6:¬((256:Int)<d.kept.length):=by omega
 have k2':¬(1073741824<d.quota):=by omega
 have k4':¬(1099511627776<d.next):=by omega
 have k5':¬(256<d.files.length):=by omega
 have k6':¬(256<d.kept.length):=by omega
 have k3':¬(d.next<1):=by omega
 have k3'':d.next≠0:=by omega
 have hfl:=filesC_len d.files
 have hkl:=namesC_len d.kept
 have hml:=movesC_len d.moves
 simp [a_disk_Right,diskC,k1,k2,k3,k4,k5,k6,k2',k3',k4',k5',k6',k3'',hfl,hkl]
 refine ac_same (dlisted_ok d.kept h.kept hl.nkept) (by simp [AV.pure]) ?_
 rintro r rfl
 simp
 refine ac_same (dfiled_ok d h.filed (by omega) (by omega) hl) (by simp [AV.pure,diskC]) ?_
 rintro r rfl
 simp
 obtain ⟨kid,hkid⟩:∃kid,kid=d.kept.map (·.id):=⟨_,rfl⟩
 have hnd:=h.ids
 unfold idsM at hnd
 rw [←hkid] at hnd
 have hkn:kid.Nodup:=(List.nodup_append.1 hnd).1
 have hcnt:=h.count
 unfold idsM at hcnt
 rw [←hkid] at hcnt
 refine lp_startx (fun x f σ=>∃(i:Nat) (tl:Store),x=d.kept.length-i∧i≤d.kept.length∧f 1=.ptr 0 0∧f 3=.map 1∧f 55=.lst (namesC d.kept)∧f 56=.int .i64 d.kept.length∧f 57=.int .i64 i∧NoI tl∧σ=.var 30 (diskC d):: .mp (kvs (kid.take i))::tl) d.kept.length ?_ ?_
 ·exact ⟨0,[],by simp,by simp,by simp,by simp,by simp,by simp [hkl],by simp,NoI.nil,by simp [diskC,kvs]⟩
 rintro x f σ ⟨i,tl,hx,hi,h1,h3,h55,h56,h57,hno,rfl⟩
 simp [h56,h57]
 refine cb_dec (fun hlt=> ?_) (fun hge=> ?_)
 ·have hlt':i<d.kept.length:=by omega
  have hwi:IntKind.i64.wrap ((i:Int)+1)=((i+1:Nat):Int):=by rw [wrap_i64 (by omega) (by omega)];omega
  obtain ⟨n,hn⟩:∃n,d.kept[i]? =some n:=⟨_,List.getElem?_eq_getElem hlt'⟩
  have hc:=namesC_get hn
  obtain ⟨hx1,hx2⟩:=List.getElem?_eq_some_iff.1 hc
  have hidi:kid[i]? =some n.id:=by rw [hkid,List.getElem?_map,hn];rfl
  have hsn:=take_snoc hidi
  have hnm:∀(a:Entry) (kv:List (AV×AV)) (t:TypeId) (c:List AV),a.isItr=false→noItr (a:: .mp kv::(tl++ [.var t c]))=true:=fun a kv t c ha=>by
   have:=(hno.var t c).eq
   simp only [noItr,List.all_cons,ha] at this⊢
   simp [Entry.isItr] at this⊢
   exact this
  have hnm1:=hnm (.var 30 (diskC d)) (kvs (kid.take i)) 101 (nameC n) rfl
  simp only [diskC,nameC] at hnm1
  simp [h1,h3,h55,h57,hc,hx2,nameC,diskC,tail_get,tail_set,splice,mp_new (nd_take hkn hidi),hnm1,hwi, -mapFind, -mapPut, -noItr, -Entry.isItr]
  refine nx_intro (d.kept.length-(i+1)) (by omega) ⟨i+1,tl++ [.var 101 (nameC n)],rfl,by omega,by simp [h1],by simp [h3],by simp [h55],by simp [h56],by simp,hno.var _ _, ?_⟩
  rw [hsn];simp [diskC,nameC]
 have hil:i=d.kept.length:=by omega
 have hkl2:kid.length=d.kept.length:=by rw [hkid];simp
 rw [hil,←hkl2,List.take_length]
 simp [h1,diskC,hml]
 have hlm:=hl.nmoves
 refine lp_startx (fun x f σ=>∃(i:Nat) (tl:Store) (li:List NameM),x=d.moves.length-i∧i≤d.moves.length∧f 1=.ptr 0 0∧f 3=.map 1∧f 6=.lst (namesC li)∧f 68=.lst (movesC d.moves)∧f 69=.int .i64 d.moves.length∧f 70=.int .i64 i∧NoI tl∧replay d.kept (d.moves.take i)=some li∧σ=.var 30 (diskC d):: .mp (kvs (kid++addIds (d.moves.take i)))::tl) d.moves.length ?_ ?_
 ·exact ⟨0,tl,d.kept,by simp,by simp,by simp [h1],by simp [h3],by simp,by simp,by simp,by simp,hno,by simp [replay],by simp [diskC,addIds]⟩
 clear h55 h56 h57 h1 h3 hx hge hi hil
 rintro x f σ ⟨i,tl,li,hx,hi,h1,h3,h6,h68,h69,h70,hno,hrp,rfl⟩
 simp [h69,h70]
 refine cb_dec (fun hlt=> ?_) (fun hge=> ?_)
 ·have hlt':i<d.moves.length:=by omega
  have hwi:IntKind.i64.wrap ((i:Int)+1)=((i+1:Nat):Int):=by rw [wrap_i64 (by omega) (by omega)];omega
  obtain ⟨m,hm⟩:∃m,d.moves[i]? =some m:=⟨_,List.getElem?_eq_getElem hlt'⟩
  have hc:=movesC_get hm
  obtain ⟨hx1,hx2⟩:=List.getElem?_eq_some_iff.1 hc
  have hmm:=List.mem_of_getElem? hm
  obtain ⟨li0,li',hr1,hr2,hr3⟩:=replay_take h.replay hm
  rw [hrp] at hr1
  simp only [Option.some.injEq] at hr1
  subst hr1
  obtain ⟨hsl,hll⟩:=srt_replay h.kept.srt hrp
  rw [List.length_take,Nat.min_eq_left hi] at hll
  have hat:=addIds_take hm
  obtain ⟨rr,hsp⟩:=addIds_split hm
  have hnm:∀(a:Entry) (kv:List (AV×AV)) (t:TypeId) (c:List AV),a.isItr=false→noItr (a:: .mp kv::(tl++ [.var t c]))=true:=fun a kv t c ha=>by
   have:=(hno.var t c).eq
   simp only [noItr,List.all_cons,ha] at this⊢
   simp [Entry.isItr] at this⊢
   exact this
  have hnm1:=hnm (.var 30 (diskC d)) (kvs (kid++addIds (d.moves.take i))) 103 (moveC m) rfl
  simp only [diskC,moveC] at hnm1
  have hkd:=ddone_ok (G:=G) li li' m hsl (by omega) hr2 (hl.moves m hmm)
  by_cases hk:m.kind=1
  ·rw [if_pos hk] at hat hsp
   have hnew:m.id∉kid++addIds (d.moves.take i):=fun hin=>by
    rw [hsp] at hnd
    rw [←List.append_assoc] at hnd
    exact (List.nodup_append.1 hnd).2.2 _ hin _ (by simp) rfl
   have hlen:(kid++addIds (d.moves.take i)).length+1≤d.files.length:=by
    rw [←hcnt,hsp];simp;omega
   simp only [List.length_append] at hlen
   have hkk:(m.kind:Int)=1:=by omega
   have hmf:=mf_none hnew 0
   simp [h1,h3,h6,h68,h70,hc,hx2,moveC,diskC,tail_get,tail_set,splice,hkk,hk,hmf, -mapFind, -mapPut, -noItr, -Entry.isItr]
   have hmc:moveC m= [.int .i64 1,.str m.name,.str m.dst,.int .i64 m.id]:=by simp [moveC,hk]
   rw [hmc] at hkd
   refine ac_same hkd (by simp) ?_
   rintro r rfl
   have hmpn:=mp_new hnew
   rw [List.append_assoc,←hat] at hmpn
   have hnm2:=hnm (.var 30 (diskC d)) (kvs (kid++addIds (d.moves.take i))) 103 [.int .i64 1,.str m.name,.str m.dst,.int .i64 m.id] rfl
   simp only [diskC] at hnm2
   have hk7:¬((d.files.length:Int)<((kid++addIds (d.moves.take (i+1))).length:Nat)):=by
    rw [hat];simp only [List.length_append,List.length_singleton];omega
   have hk8:¬(d.files.length<(kid++addIds (d.moves.take (i+1))).length):=by omega
   simp [h1,h3,h6,h68,h70,hc,hx2,moveC,diskC,tail_get,tail_set,splice,hkk,hk,hmpn,hnm2,hwi,kvs_len,hfl, -List.length_append,hk7,hk8, -mapFind, -mapPut, -noItr, -Entry.isItr]
   refine nx_intro (d.moves.length-(i+1)) (by omega) ⟨i+1,tl++ [.var 103 (moveC m)],li',rfl,by omega,by simp [h1],by simp [h3],by simp,by simp [h68],by simp [h69],by simp,hno.var _ _,hr3, ?_⟩
   simp [diskC,hmc]
  ·rw [if_neg hk,List.append_nil] at hat
   have hkk:¬((m.kind:Int)=1):=by omega
   simp [h1,h3,h6,h68,h70,hc,hx2,moveC,diskC,tail_get,tail_set,splice,hkk,hk, -mapFind, -mapPut, -noItr, -Entry.isItr]
   simp only [moveC] at hkd
   refine ac_same hkd (by simp) ?_
   rintro r rfl
   have hlen:(kid++addIds (d.moves.take i)).length≤d.files.length:=by
    rw [←hcnt,hsp];simp
   have hk7:¬((d.files.length:Int)<((kid++addIds (d.moves.take i)).length:Nat)):=by omega
   have hk8:¬(d.files.length<(kid++addIds (d.moves.take i)).length):=by omega
   simp [h1,h3,h6,h68,h70,hc,hx2,moveC,diskC,tail_get,tail_set,splice,hkk,hk,hwi,kvs_len,hfl, -List.length_append,hk7,hk8, -mapFind, -mapPut, -noItr, -Entry.isItr]
   refine nx_intro (d.moves.length-(i+1)) (by omega) ⟨i+1,tl++ [.var 103 (moveC m)],li',rfl,by omega,by simp [h1],by simp [h3],by simp,by simp [h68],by simp [h69],by simp,hno.var _ _,hr3, ?_⟩
   rw [hat];simp [diskC,moveC]
 have hil:i=d.moves.length:=by omega
 rw [hil,List.take_length] at hrp
 rw [hil,List.take_length]
 rw [h.replay] at hrp
 simp only [Option.some.injEq] at hrp
 subst hrp
 simp [h1,h6,diskC]
 have hln:=hl.nnames
 refine ac_same (deq_ok d.names (by omega)) (by simp [AV.pure]) ?_
 rintro r rfl
 have hcn:(kid++addIds d.moves).length=d.files.length:=hcnt
 simp [h1,h3,hfl,kvs_len, -List.length_append,hcn]
 clear h68 h69 h70 h6 hge hil hi hx
 refine lp_startx (fun x f σ=>∃(i:Nat) (tl:Store),x=d.files.length-i∧i≤d.files.length∧f 1=.ptr 0 0∧f 3=.map 1∧f 118=.lst (filesC d.files)∧f 119=.int .i64 d.files.length∧f 120=.int .i64 i∧σ=.var 30 (diskC d):: .mp (kvs (kid++addIds d.moves))::tl) d.files.length ?_ ?_
 ·exact ⟨0,tl,by simp,by simp,by simp [h1],by simp [h3],by simp,by simp,by simp,by simp [diskC]⟩
 clear h1 h3
 rintro x f σ ⟨i,tl,hx,hi,h1,h3,h118,h119,h120,rfl⟩
 simp [h119,h120]
 refine cb_dec (fun hlt=> ?_) (fun hge=> ?_)
 ·have hlt':i<d.files.length:=by omega
  have hwi:IntKind.i64.wrap ((i:Int)+1)=((i+1:Nat):Int):=by rw [wrap_i64 (by omega) (by omega)];omega
  obtain ⟨n,hn⟩:∃n,d.files[i]? =some n:=⟨_,List.getElem?_eq_getElem hlt'⟩
  have hc:=filesC_get hn
  obtain ⟨hx1,hx2⟩:=List.getElem?_eq_some_iff.1 hc
  have hin:n.id∈kid++addIds d.moves:=by
   have:=(h.same n.id).2 ⟨n,List.mem_of_getElem? hn,rfl⟩
   unfold idsM at this
   rw [hkid];exact this
  obtain ⟨q,hq⟩:=mf_some hin 0
  simp [h1,h3,h118,h120,hc,hx2,fileC,diskC,tail_get,tail_set,splice,hq,hwi, -mapFind, -mapPut, -noItr, -Entry.isItr]
  refine nx_intro (d.files.length-(i+1)) (by omega) ⟨i+1,tl++ [.var 97 (fileC n)],rfl,by omega,by simp [h1],by simp [h3],by simp [h118],by simp [h119],by simp,by simp [diskC,fileC]⟩
 ·have hu:=h.used
  simp [h1,diskC]
  refine qc_same (dused_ok d hl) (by simp [AV.pure,diskC]) (by simp) ?_
  simp [h1,hu]
end Go.Proofs.YtdbhocoeolhjhaaGreatDoor
end
section
set_option maxHeartbeats 4000000
namespace Go.Sf
open Go.Abs
def posF:List FileM→Nat→Nat
 | [],_=>0
 |f::fs,i=>if f.id<i then posF fs i+1 else 0
theorem posF_le:∀(l:List FileM) (s:Nat),posF l s≤l.length
 | [],_=>Nat.le_refl _
 |x::l,s=>by
  unfold posF
  have:=posF_le l s
  split<;>simp<;>omega
theorem posF_lt:∀{l:List FileM} {s:Nat} {i:Nat} {x:FileM},i<posF l s→l[i]? =some x→x.id<s
 | [],_,_,_,h,_=>by simp [posF] at h
 |y::l,s,i,x,h,hx=>by
  unfold posF at h
  split at h
  ·rename_i hy
   cases i with
   |zero=>simp at hx;subst hx;exact hy
   |succ i=>exact posF_lt (l:=l) (i:=i) (by omega) (by simpa using hx)
  ·omega
theorem posF_ge:∀{l:List FileM} {s:Nat} {i:Nat} {x:FileM},(l.Pairwise fun a b=>a.id<b.id)→posF l s≤i→l[i]? =some x→¬x.id<s
 | [],_,_,_,_,_,hx=>by simp at hx
 |y::l,s,i,x,hs,h,hx=>by
  rw [List.pairwise_cons] at hs
  unfold posF at h
  split at h
  ·cases i with
   |zero=>omega
   |succ i=>exact posF_ge (l:=l) (i:=i) hs.2 (by omega) (by simpa using hx)
  ·rename_i hy
   cases i with
   |zero=>simp at hx;subst hx;exact hy
   |succ i=>
    have hm:x∈l:=List.mem_of_getElem? (by simpa using hx)
    have:=hs.1 x hm
    omega
theorem posF_at {l:List FileM} {f:FileM} (hs:l.Pairwise fun a b=>a.id<b.id) (hf:f∈l):l[posF l f.id]? =some f:=by
 obtain ⟨j,hj,rfl⟩:=List.mem_iff_getElem.1 hf
 have hg:l[j]? =some l[j]:=List.getElem?_eq_getElem hj
 have h1:posF l l[j].id≤j:=Classical.byContradiction fun h=>by have:=posF_lt (l:=l) (i:=j) (s:=l[j].id) (by omega) hg;omega
 rcases Nat.lt_or_eq_of_le h1 with h2|h2
 ·have hy:l[posF l l[j].id]? =some (l[posF l l[j].id]'(by omega)):=List.getElem?_eq_getElem (by omega)
  have h3:=posF_ge hs (Nat.le_refl _) hy
  have h4:=List.pairwise_iff_getElem.1 hs _ _ (by omega) hj h2
  omega
 ·rw [h2];exact hg
theorem set_mod {l:List FileM} (hs:l.Pairwise fun a b=>a.id<b.id) {i:Nat} {f:FileM} (hf:l[i]? =some f) (g:FileM→FileM):l.set i (g f)=modF l f.id g:=by
 obtain ⟨hi,rfl⟩:=List.getElem?_eq_some_iff.1 hf
 refine List.ext_getElem (by simp [modF]) fun j h1 h2=> ?_
 simp only [modF,List.getElem_map]
 rw [List.getElem_set]
 split
 ·rename_i e;subst e;simp
 ·rename_i e
  rw [List.length_set] at h1
  have:¬l[j].id=l[i].id:=fun h=>by
   rcases Nat.lt_or_gt_of_ne e with h'|h'
   ·have:=List.pairwise_iff_getElem.1 hs _ _ hi h1 h';omega
   ·have:=List.pairwise_iff_getElem.1 hs _ _ h1 hi h';omega
  rw [if_neg this]
theorem RightM.file {d:DiskM} (h:RightM d) {s:Txt} (hh:hasK kN d.names s):∃f,d.files[posF d.files (idOf d.names s)]? =some f∧f.id=idOf d.names s:=by
 obtain ⟨n,hn,hk,hid⟩:=idOf_mem h.names.srt hh
 obtain ⟨f,hf,e⟩:=(h.same n.id).1 (h.nids n hn)
 have:=posF_at h.filed.1 hf
 rw [e,hid] at this
 exact ⟨f,this,by rw [e,hid]⟩
end Go.Sf
namespace Go.Proofs.YtdbhocoeolhjhaaGreatDoor
open Go.Abs Go.RowKit Go.Sf
variable {G:Globs}
theorem dfind1_ok (f:FileM) (i:Nat):PCalls Tryz.prog n_disk_find_1 [.agg (fileC f),.int .i64 i] (fun r=>r=.int .i64 (Lib.compareInt f.id i)):=by
 refine pcalls_of_awp hmix c_disk_find_1 rfl ?_
 simp [a_disk_find_1,fileC]
 refine ac_same (compareInt_ok f.id i) (by simp) ?_
 rintro r rfl
 simp
theorem dfind_no (d:DiskM) (s:Txt) (h:RightM d) (hl:Fits d) (ho:okS s) (hh:¬hasK kN d.names s):PCalls Tryz.prog n_disk_find [.agg (diskC d),.str s] (fun r=>r=.tup [.int .i64 0,.int .i64 4]):=by
 refine pcalls_of_awp hmix c_disk_find rfl ?_
 simp [a_disk_find,diskC]
 refine ac_same (dright_ok d h hl) (by simp [AV.pure,diskC]) ?_
 rintro r rfl
 simp
 refine ac_same (valid_ok s (by have:=ho.2;omega)) (by simp) ?_
 rintro r rfl
 simp [ho]
 refine ac_same (dplace_ok d.names s h.names.srt (by have:=hl.nnames;omega)) (by simp) ?_
 rintro r rfl
 simp [hh]
theorem dfind_has (d:DiskM) (s:Txt) (h:RightM d) (hl:Fits d) (ho:okS s) (hh:hasK kN d.names s):PCalls Tryz.prog n_disk_find [.agg (diskC d),.str s] (fun r=>r=.tup [.int .i64 (posF d.files (idOf d.names s)),.int .i64 0]):=by
 refine pcalls_of_awp hmix c_disk_find rfl ?_
 simp [a_disk_find,diskC]
 refine ac_same (dright_ok d h hl) (by simp [AV.pure,diskC]) ?_
 rintro r rfl
 simp
 refine ac_same (valid_ok s (by have:=ho.2;omega)) (by simp) ?_
 rintro r rfl
 simp [ho]
 refine ac_same (dplace_ok d.names s h.names.srt (by have:=hl.nnames;omega)) (by simp) ?_
 rintro r rfl
 obtain ⟨x,hx,hk⟩:=(has_pos h.names.srt).1 hh
 have hxm:=List.mem_of_getElem? hx
 have hid:idOf d.names s=x.id:=by rw [←hk];exact idOf_eq h.names.srt hxm
 have hxc:=namesC_get hx
 obtain ⟨hy1,hy2⟩:=List.getElem?_eq_some_iff.1 hxc
 simp [hh,hxc,hy2,nameC]
 have hp:=posF_le d.files x.id
 have kB:=bsFi (G:=G) (filesC d.files) (filesC_els d.files) (by rw [filesC_len];have:=hl.nfiles;omega) (.int .i64 x.id) (by simp [AV.pure]) n_disk_find_1 b_disk_find_1 (posF d.files x.id) (by rw [filesC_len];exact hp)
  (fun i=>match d.files[i]? with|some n=>Lib.compareInt n.id x.id|none=>0)
  (fun i c hc=>by
   obtain ⟨n,hn,rfl⟩:=filesC_inv hc
   simp only [hn]
   exact dfind1_ok n x.id)
  (fun i hi=>by
   obtain ⟨n,hn⟩:∃n,d.files[i]? =some n:=⟨d.files[i]'(by omega),List.getElem?_eq_getElem (by omega)⟩
   simp only [hn]
   have:=posF_lt hi hn
   unfold Lib.compareInt
   split
   ·omega
   ·split<;>omega)
  (fun i h1 h2=>by
   rw [filesC_len] at h2
   obtain ⟨n,hn⟩:∃n,d.files[i]? =some n:=⟨d.files[i]'h2,List.getElem?_eq_getElem h2⟩
   simp only [hn]
   have:=posF_ge h.filed.1 h1 hn
   unfold Lib.compareInt
   split
   ·omega
   ·split<;>omega)
 refine qc_same kB (by simp [AV.pure]) (by simp) ?_
 simp [hid]
theorem dmoved_ok (d:DiskM) (m:MoveM) (l':List NameM) (hs:Srt kN d.names) (hd:doneM d.names m=some l') (hl:Fits d) (hm:okLen m):PCalls Tryz.prog n_disk_moved [.agg (diskC d),.agg (moveC m)] (fun r=>r=.agg (diskC {d with names:=l',moves:=d.moves++ [m]})):=by
 refine pcalls_of_awp hmix c_disk_moved rfl ?_
 have h1:=hl.nnames
 have h2:=hl.nmoves
 simp [a_disk_moved,diskC,moveC]
 have hkd:=ddone_ok (G:=G) d.names l' m hs (by omega) hd hm
 simp only [moveC] at hkd
 refine ac_same hkd (by simp) ?_
 rintro r rfl
 simp
 have hml:=movesC_len d.moves
 refine ⟨?_, ?_, ?_⟩
 all_goals
  refine ac_eff (cloneMv (movesC d.moves) (movesC_els d.moves) (by omega)) ?_
  rintro r σ (⟨h0,rfl,rfl⟩|⟨rfl,rfl⟩)
  ·have h0':d.moves= []:=by simpa [movesC] using h0
   simp
   refine ap_new true [moveC m] (by simp [moveC,view]) (by decide) (by simp [moveC]) (fun _=> .inl (by simp [aview,moveC])) (by simp) (by simp) ?_
   simp [h0',movesC]
  ·simp
   refine ap_row (movesC d.moves) [moveC m] false (by simp) (by simp [moveC,view]) (by decide) (by simp [moveC]) (fun h=>by cases h) rfl (by simp [hml];omega) (by simp [hml];omega) ?_
   have e1:movesC d.moves++ [moveC m]=movesC (d.moves++ [m]):=by simp [movesC]
   have e2:(movesC d.moves).length+1=(movesC (d.moves++ [m])).length:=by simp [movesC]
   simp only [e1,e2,List.length_cons,List.length_nil,Nat.zero_add]
   simp [movesC_fz]
theorem dcreate_ok (d:DiskM) (s:Txt) (h:RightM d) (hl:Fits d) (ho:okS s) (hh:¬hasK kN d.names s) (hf:d.files.length<256) (hx:d.next<1099511627776):PCalls Tryz.prog n_disk_Create [.agg (diskC d),.str s] (fun r=>r=.tup [.agg (diskC (createM d s)),.int .i64 0]):=by
 refine pcalls_of_awp hmix c_disk_Create rfl ?_
 have hfl:=filesC_len d.files
 have k1:¬((256:Int)≤d.files.length):=by omega
 have k2:¬((1099511627776:Int)≤d.next):=by omega
 have k1':¬(256≤d.files.length):=by omega
 have k2':¬(1099511627776≤d.next):=by omega
 have hw:IntKind.i64.wrap ((d.next:Int)+1)=((d.next+1:Nat):Int):=by rw [wrap_i64 (by omega) (by omega)];omega
 simp [a_disk_Create,diskC]
 refine ac_same (dfind_no d s h hl ho hh) (by simp [AV.pure,diskC]) ?_
 rintro r rfl
 simp [k1,k2,k1',k2',hfl]
 have hr:=(right_create h ho hh hf hx).replay
 have hd:doneM d.names ⟨1,s,[],d.next⟩=some (insK kN d.names ⟨s,d.next⟩):=by
  have:¬(d.next<1):=by have:=h.next1;omega
  simp [doneM,ho,hh,this]
 refine ac_same (dmoved_ok d ⟨1,s,[],d.next⟩ _ h.names.srt hd hl ⟨by have:=ho.2;simp only;omega,by simp,by simp,by simp only;omega⟩) (by simp [AV.pure,diskC,moveC]) ?_
 rintro r rfl
 simp [diskC]
 refine ac_eff (cloneFi (filesC d.files) (filesC_els d.files) (by omega)) ?_
 rintro r σ (⟨h0,rfl,rfl⟩|⟨rfl,rfl⟩)
 ·have h0':d.files= []:=by simpa [filesC] using h0
  simp
  refine ap_new true [[.int .i64 d.next,.lst [],.int .i64 0]] (by simp [view]) (by decide) (by simp) (fun _=> .inl (by simp [aview])) (by simp) (by simp) ?_
  simp [hw]
  simp [createM,h0',filesC,fileC,byteEls]
 ·simp
  refine ap_row (filesC d.files) [[.int .i64 d.next,.lst [],.int .i64 0]] false (by simp) (by simp [view]) (by decide) (by simp) (fun h=>by cases h) rfl (by simp [hfl];omega) (by simp [hfl];omega) ?_
  have e1:filesC d.files++ [[.int .i64 d.next,.lst [],.int .i64 0]]=filesC (d.files++ [⟨d.next,[],0⟩]):=by simp [filesC,fileC,byteEls]
  have e2:(filesC d.files).length+1=(filesC (d.files++ [⟨d.next,[],0⟩])).length:=by simp [filesC]
  simp only [e1,e2,List.length_cons,List.length_nil,Nat.zero_add]
  simp [filesC_fz,hw,createM]
theorem dset_ok (d:DiskM) (i:Nat) (f:FileM) (hi:i<d.files.length) (hl:Fits d):PCalls Tryz.prog n_disk_set [.agg (diskC d),.int .i64 i,.agg (fileC f)] (fun r=>r=.agg (diskC {d with files:=d.files.set i f})):=by
 refine pcalls_of_awp hmix c_disk_set rfl ?_
 have hfl:=filesC_len d.files
 have hlf:=hl.nfiles
 simp [a_disk_set,diskC,fileC]
 refine ac_eff (cloneFi (filesC d.files) (filesC_els d.files) (by omega)) ?_
 rintro r σ (⟨h0,rfl,rfl⟩|⟨rfl,rfl⟩)
 ·have h0':d.files= []:=by simpa [filesC] using h0
  rw [h0'] at hi;simp at hi
 ·obtain ⟨g,hg⟩:∃g,d.files[i]? =some g:=⟨_,List.getElem?_eq_getElem hi⟩
  have hc:=filesC_get hg
  obtain ⟨hx1,hx2⟩:=List.getElem?_eq_some_iff.1 hc
  have e1:(filesC d.files).set i [.int .i64 f.id,.lst (byteEls f.bytes),.int .i64 f.sure]=filesC (d.files.set i f):=by simp [filesC,fileC,List.map_set]
  have e2:(filesC d.files).length=(filesC (d.files.set i f)).length:=by simp [filesC]
  have hi2:i<(filesC d.files).length:=by omega
  simp [hi2,hi,hc,hx2,fileC,splice,e1]
  rw [e2]
  simp [filesC_fz]
end Go.Proofs.YtdbhocoeolhjhaaGreatDoor
end
section
set_option maxHeartbeats 4000000
namespace Go.Proofs.YtdbhocoeolhjhaaGreatDoor
open Go.Abs Go.RowKit Go.Sf
variable {G:Globs}
theorem dnew_ok (q:Nat) (hq:q≤1073741824):PCalls Tryz.prog n_disk_New [.int .i64 q] (fun r=>r=.tup [.agg (diskC ⟨q,[],[],[],[],1⟩),.int .i64 0]):=by
 refine pcalls_of_awp hmix c_disk_New rfl ?_
 have h1:¬((q:Int)<0):=by omega
 have h2:¬((1073741824:Int)<q):=by omega
 have h2':¬(1073741824<q):=by omega
 simp [a_disk_New,h1,h2,h2',diskC,filesC,namesC,movesC]
theorem dappend_ok (d:DiskM) (s b:Txt) (h:RightM d) (hl:Fits d) (ho:okS s) (hh:hasK kN d.names s) (hb:b.length≤d.quota-usedM d) (hbl:b.length≤1000000000):PCalls Tryz.prog n_disk_Append [.agg (diskC d),.str s,.lst (byteEls b)] (fun r=>r=.tup [.agg (diskC (appendM d s b)),.int .i64 0]):=by
 refine pcalls_of_awp hmix c_disk_Append rfl ?_
 have hu:=h.used
 have hq:=h.quota
 obtain ⟨g,hg,hid⟩:=h.file hh
 have hi:=(List.getElem?_eq_some_iff.1 hg).1
 have hc:=filesC_get hg
 obtain ⟨hx1,hx2⟩:=List.getElem?_eq_some_iff.1 hc
 have hgb:=hl.bytes g (List.mem_of_getElem? hg)
 simp [a_disk_Append,diskC]
 refine ac_same (dfind_has d s h hl ho hh) (by simp [AV.pure,diskC]) ?_
 rintro r rfl
 simp
 refine qc_same (dused_ok d hl) (by simp [AV.pure,diskC]) (by simp) ?_
 have hw:IntKind.i64.wrap ((d.quota:Int)-(usedM d:Nat))=((d.quota-usedM d:Nat):Int):=by rw [wrap_i64 (by omega) (by omega)];omega
 have k1:¬(((d.quota-usedM d:Nat):Int)<b.length):=by omega
 have k1':¬(d.quota-usedM d<b.length):=by omega
 simp [hw,byteEls_length,k1,k1',hc,hx2,fileC,splice]
 refine ac_same (concatB_ok g.bytes b (by omega) (by omega)) (by simp [AV.pure]) ?_
 rintro r rfl
 simp [splice]
 have hs:=set_mod h.filed.1 hg (fun f=>{f with bytes:=f.bytes++b})
 have kS:=dset_ok (G:=G) d (posF d.files (idOf d.names s)) {g with bytes:=g.bytes++b} hi hl
 simp only [diskC,fileC] at kS
 refine ac_same kS (by simp [AV.pure,diskC,fileC]) ?_
 rintro r rfl
 simp [appendM,←hid,hs]
 rw [←hs,hid]
theorem dsync_ok (d:DiskM) (s:Txt) (h:RightM d) (hl:Fits d) (ho:okS s) (hh:hasK kN d.names s):PCalls Tryz.prog n_disk_Sync [.agg (diskC d),.str s] (fun r=>r=.tup [.agg (diskC (syncM d s)),.int .i64 0]):=by
 refine pcalls_of_awp hmix c_disk_Sync rfl ?_
 obtain ⟨g,hg,hid⟩:=h.file hh
 have hi:=(List.getElem?_eq_some_iff.1 hg).1
 have hc:=filesC_get hg
 obtain ⟨hx1,hx2⟩:=List.getElem?_eq_some_iff.1 hc
 simp [a_disk_Sync,diskC]
 refine ac_same (dfind_has d s h hl ho hh) (by simp [AV.pure,diskC]) ?_
 rintro r rfl
 simp [hc,hx2,fileC,splice,byteEls_length]
 have hs:=set_mod h.filed.1 hg (fun f=>{f with sure:=f.bytes.length})
 have kS:=dset_ok (G:=G) d (posF d.files (idOf d.names s)) {g with sure:=g.bytes.length} hi hl
 simp only [diskC,fileC] at kS
 refine ac_same kS (by simp [AV.pure,diskC,fileC]) ?_
 rintro r rfl
 simp [syncM,←hid,hs]
 rw [←hs,hid]
theorem dremove_ok (d:DiskM) (s:Txt) (h:RightM d) (hl:Fits d) (ho:okS s) (hh:hasK kN d.names s):PCalls Tryz.prog n_disk_Remove [.agg (diskC d),.str s] (fun r=>r=.tup [.agg (diskC (removeM d s)),.int .i64 0]):=by
 refine pcalls_of_awp hmix c_disk_Remove rfl ?_
 simp [a_disk_Remove,diskC]
 refine ac_same (dfind_has d s h hl ho hh) (by simp [AV.pure,diskC]) ?_
 rintro r rfl
 simp
 have hd:doneM d.names ⟨2,s,[],0⟩=some (delK kN d.names s):=by simp [doneM,ho,hh]
 have kM:=dmoved_ok (G:=G) d ⟨2,s,[],0⟩ _ h.names.srt hd hl ⟨by have:=ho.2;simp only;omega,by simp,by simp,by simp⟩
 simp only [diskC,moveC] at kM
 refine ac_same kM (by simp [AV.pure]) ?_
 rintro r rfl
 simp [removeM]
theorem drename_ok (d:DiskM) (s t:Txt) (h:RightM d) (hl:Fits d) (ho:okS s) (hh:hasK kN d.names s) (hot:okS t) (hne:t≠s):PCalls Tryz.prog n_disk_Rename [.agg (diskC d),.str s,.str t] (fun r=>r=.tup [.agg (diskC (renameM d s t)),.int .i64 0]):=by
 refine pcalls_of_awp hmix c_disk_Rename rfl ?_
 simp [a_disk_Rename,diskC]
 refine ac_same (dfind_has d s h hl ho hh) (by simp [AV.pure,diskC]) ?_
 rintro r rfl
 simp
 refine ac_same (valid_ok t (by have:=hot.2;omega)) (by simp) ?_
 rintro r rfl
 have hne':¬s=t:=fun e=>hne e.symm
 simp [hot,hne']
 have hd:doneM d.names ⟨3,s,t,0⟩=some (insK kN (dropK (delK kN d.names s) t) ⟨t,idOf d.names s⟩):=by simp [doneM,ho,hh,hot,hne]
 have kM:=dmoved_ok (G:=G) d ⟨3,s,t,0⟩ _ h.names.srt hd hl ⟨by have:=ho.2;simp only;omega,by have:=hot.2;simp only;omega,by simp,by simp⟩
 simp only [diskC,moveC] at kM
 refine ac_same kM (by simp [AV.pure]) ?_
 rintro r rfl
 simp [renameM]
def strsC (l:List Txt):List (List AV):=l.map fun s=> [AV.str s]
theorem strsC_len (l:List Txt):(strsC l).length=l.length:=by simp [strsC]
theorem dlist_ok (σ:Store) (d:DiskM) (h:RightM d) (hl:Fits d):ACalls Tryz.prog n_disk_List [.agg (diskC d)] σ (fun r σ'=>r=.tup [.row (σ.length+1) d.names.length,.int .i64 0]∧σ'=σ++ [.var 30 (diskC d),.row 9 1 (strsC (d.names.map (·.name))) false]):=by
 refine acalls_of_awp_e hmix c_disk_List rfl ?_
 have hnl:=namesC_len d.names
 have hln:=hl.nnames
 simp [a_disk_List,diskC]
 refine ac_same (dright_ok d h hl) (by simp [AV.pure,diskC]) ?_
 rintro r rfl
 simp [hnl,pre_get0]
 refine ms_intro d.names.length rfl rfl (by omega) (by omega) (by decide) rfl ?_
 simp [hnl,pre_get0]
 obtain ⟨ss,hss⟩:∃ss,ss=d.names.map (·.name):=⟨_,rfl⟩
 have hsl:ss.length=d.names.length:=by rw [hss];simp
 rw [←hss]
 refine lp_startx (fun x f σ'=>∃(i:Nat) (tl:Store),x=d.names.length-i∧i≤d.names.length∧f 3=.int .i64 0∧f 4=.row (σ.length+1) d.names.length∧f 15=.lst (namesC d.names)∧f 16=.int .i64 d.names.length∧f 17=.int .i64 i∧σ'=σ++ .var 30 (diskC d):: .row 9 1 (strsC (ss.take i)++List.replicate (d.names.length-i) [.str []]) false::tl) d.names.length ?_ ?_
 ·exact ⟨0,[],by simp,by simp,by simp,by simp,by simp,by simp [hnl],by simp,by simp [strsC,diskC]⟩
 rintro x f σ' ⟨i,tl,hx,hi,h3,h4,h15,h16,h17,rfl⟩
 simp [h16,h17]
 refine cb_dec (fun hlt=> ?_) (fun hge=> ?_)
 ·have hlt':i<d.names.length:=by omega
  have hwi:IntKind.i64.wrap ((i:Int)+1)=((i+1:Nat):Int):=by rw [wrap_i64 (by omega) (by omega)];omega
  obtain ⟨n,hn⟩:∃n,d.names[i]? =some n:=⟨_,List.getElem?_eq_getElem hlt'⟩
  have hc:=namesC_get hn
  obtain ⟨hx1,hx2⟩:=List.getElem?_eq_some_iff.1 hc
  have hsi:ss[i]? =some n.name:=by rw [hss,List.getElem?_map,hn];rfl
  have htk:(strsC (ss.take i)).length=i:=by rw [strsC_len,List.length_take];omega
  obtain ⟨R,hR⟩:∃R,R=strsC (ss.take i)++List.replicate (d.names.length-i) [AV.str []]:=⟨_,rfl⟩
  have hRl:R.length=d.names.length:=by rw [hR,List.length_append,htk,List.length_replicate];omega
  have hRi:R[i]? =some [.str []]:=by
   rw [hR,List.getElem?_append_right (by omega),htk,Nat.sub_self,List.getElem?_replicate,if_pos (by omega)]
  have hRs:R.set i [.str n.name]=strsC (ss.take (i+1))++List.replicate (d.names.length-(i+1)) [.str []]:=by
   rw [hR,List.set_append_right _ _ (by omega),htk,Nat.sub_self]
   have:d.names.length-i=(d.names.length-(i+1))+1:=by omega
   rw [this,List.replicate_succ,List.set_cons_zero,take_snoc hsi]
   simp [strsC]
  obtain ⟨hy1,hy2⟩:=List.getElem?_eq_some_iff.1 hRi
  rw [←hR]
  simp [h3,h4,h15,h17,hc,hx2,nameC,hRl,hRi,hy2,hlt',splice,pre_get0,pre_get1,pre_set1,pre2_get,pre2_set,hRs,hwi]
  refine nx_intro (d.names.length-(i+1)) (by omega) ⟨i+1,tl++ [.var 101 (nameC n)],rfl,by omega,by simp [h3],by simp [h4],by simp [h15],by simp [h16],by simp, ?_⟩
  simp [nameC]
 ·have hil:i=d.names.length:=by omega
  subst hil
  have e0:strsC (ss.take d.names.length)++List.replicate (d.names.length-d.names.length) [AV.str []]=strsC ss:=by
   rw [←hsl,List.take_length];simp
  rw [e0]
  simp [h4]
  refine er_keep (σ++ [.var 30 (diskC d),.row 9 1 (strsC ss) false]) (.tup [.row (σ.length+1) d.names.length,.int .i64 0]) (by simp [tupOf,h3]) tl (by simp) (by simp) (by simp [AV.under]) (fun i e he'=> ?_) ⟨rfl,by simp [diskC]⟩
  rcases Nat.lt_or_ge i σ.length with hlt|hge2
  ·rw [List.getElem?_append_left hlt] at he'
   exact .inl he'
  ·rw [List.getElem?_append_right hge2] at he'
   right
   obtain ⟨j,hj⟩:∃j,j=i-σ.length:=⟨_,rfl⟩
   rw [←hj] at he'
   match j,he' with
   |0,he'=>
    simp at he';subst he'
    simp [Entry.under,diskC,AV.under]
   |1,he'=>
    simp at he';subst he'
    refine row_under fun c hc=> ?_
    obtain ⟨n,_,rfl⟩:=List.mem_map.1 hc
    simp [AV.pure]
   |j+2,he'=>simp at he'
theorem settled1_ok {σ:Store} {k j:Nat} {ids:List Nat} (hk:σ[k]? =some (.var 99 [.map j])) (hj:σ[j]? =some (.mp (kvs ids))) (f:FileM):ACalls Tryz.prog n_disk_settled_1 [.agg (fileC f),.ptr k 0] σ (fun r σ'=>r=.bool (!decide (f.id∈ids))∧σ'=σ):=by
 refine acalls_of_awp_e hmix c_disk_settled_1 rfl ?_
 have hkl:=(List.getElem?_eq_some_iff.1 hk).1
 have hjl:=(List.getElem?_eq_some_iff.1 hj).1
 have g1:∀(e:Entry),(σ++ [e])[k]? =some (.var 99 [.map j]):=fun e=>by rw [List.getElem?_append_left hkl];exact hk
 have g2:∀(e:Entry),(σ++ [e])[j]? =some (.mp (kvs ids)):=fun e=>by rw [List.getElem?_append_left hjl];exact hj
 have fin:∀(b:Bool) (f':Abs.Frame) (e:Entry),f' 3=.bool b→b=(!decide (f.id∈ids))→er σ (fun r σ'=>r=.bool (!decide (f.id∈ids))∧σ'=σ) (.mk _) [(3,none)] f' (.mk _) (σ++ [e]):=fun b f' e h3 hb=>by
  refine er_keep σ (.bool b) (by simp [tupOf,h3]) [e] rfl (by simp) (by simp [AV.under]) (fun i e he=> .inl he) ⟨by rw [hb],rfl⟩
 by_cases hm:f.id∈ids
 ·obtain ⟨q,hq⟩:=mf_some hm 0
  simp [a_disk_settled_1,fileC,g1,g2,hq, -mapFind]
  exact fin false _ _ (by simp) (by simp [hm])
 ·have hq:=mf_none hm 0
  simp [a_disk_settled_1,fileC,g1,g2,hq, -mapFind]
  exact fin true _ _ (by simp) (by simp [hm])
theorem settled_asks {pre:Store} {k j:Nat} {ids:List Nat} (hk:pre[k]? =some (.var 99 [.map j])) (hj:pre[j]? =some (.mp (kvs ids))) (fs:List FileM) (p:List AV→Bool) (hp:∀f,p (fileC f)= !decide (f.id∈ids)):Asks Tryz.prog pre n_disk_settled_1 [.ptr k 0] .agg p (filesC fs):=fun c hc X K hK=>by
 obtain ⟨f,_,rfl⟩:=List.mem_map.1 hc
 have hkl:=(List.getElem?_eq_some_iff.1 hk).1
 have hjl:=(List.getElem?_eq_some_iff.1 hj).1
 refine .inr (.inr ((settled1_ok (σ:=pre++X) (by rw [List.getElem?_append_left hkl];exact hk) (by rw [List.getElem?_append_left hjl];exact hj) f).mono ?_))
 rintro r σ' ⟨rfl,rfl⟩
 rw [←hp];exact hK
def denil:AV→AV
 | .nils=> .lst []
 |v=>v
theorem fz_den {σ:Store} {m k:Nat}:∀{els:List (List AV)},(∀c∈els,∀x∈c,x.pure=true)→(els.mapM fun (c:List AV)=>c.mapM (fz σ m k))=some (els.map fun c=>c.map denil)
 | [],_=>rfl
 |c::els,h=>by
  have h1:∀(l:List AV),(∀x∈l,x.pure=true)→l.mapM (fz σ m k)=some (l.map denil):=by
   intro l
   induction l with
   |nil=>intro _;rfl
   |cons x l ih=>
    intro h
    rw [List.mapM_cons,ih (fun y hy=>h y (List.mem_cons_of_mem _ hy))]
    have hx:=h x (by simp)
    cases x<;>first|(simp [AV.pure] at hx;done)|(cases k<;>simp [fz,hx,denil])
  rw [List.mapM_cons,h1 c (h c (by simp)),fz_den (fun d hd=>h d (List.mem_cons_of_mem _ hd))]
  rfl
theorem filesC_den (fs:List FileM):((filesC fs).map fun c=>c.map denil)=filesC fs:=by
 simp [filesC,fileC,denil]
def idC:List AV→Nat
 | .int _ n::_=>n.toNat
 |_=>0
theorem idC_file (f:FileM):idC (fileC f)=f.id:=by simp [idC,fileC]
theorem filesC_filter (fs:List FileM) (p:FileM→Bool) (q:List AV→Bool) (h:∀f,q (fileC f)=p f):(filesC fs).filter q=filesC (fs.filter p):=by
 simp only [filesC,List.filter_map]
 congr 1
 exact List.filter_congr fun f _=>h f
theorem dsettled_ok (d:DiskM) (h:RightM d) (hl:Fits d):PCalls Tryz.prog n_disk_settled [.agg (diskC d),.lst (namesC d.names)] (fun r=>r=.agg (diskC (syncDirM d))):=by
 refine pcalls_of_awp hmix c_disk_settled rfl ?_
 have hnl:=namesC_len d.names
 have hln:=hl.nnames
 have hfl:=filesC_len d.files
 have hlf:=hl.nfiles
 simp [a_disk_settled,diskC]
 obtain ⟨ids,hids⟩:∃ids,ids=d.names.map (·.id):=⟨_,rfl⟩
 have hnd:ids.Nodup:=by rw [hids];exact h.names.ids
 refine lp_startx (fun x f σ=>∃(i:Nat) (tl:Store),x=d.names.length-i∧i≤d.names.length∧f 1=.lst (namesC d.names)∧f 2=.ptr 0 0∧f 4=.ptr 1 0∧f 5=.ptr 3 0∧f 9=.lst (namesC d.names)∧f 10=.int .i64 d.names.length∧f 11=.int .i64 i∧NoI tl∧
  σ=.var 30 (diskC d):: .var 30 [.int .i64 0,.nils,.nils,.nils,.nils,.int .i64 0]:: .mp (kvs (ids.take i)):: .var 99 [.map 2]::tl) d.names.length ?_ ?_
 ·exact ⟨0,[],by simp,by simp,by simp,by simp,by simp,by simp,by simp,by simp [hnl],by simp,NoI.nil,by simp [diskC,kvs]⟩
 rintro x f σ ⟨i,tl,hx,hi,h1,h2,h4,h5,h9,h10,h11,hno,rfl⟩
 simp [h10,h11]
 refine cb_dec (fun hlt=> ?_) (fun hge=> ?_)
 ·have hlt':i<d.names.length:=by omega
  have hwi:IntKind.i64.wrap ((i:Int)+1)=((i+1:Nat):Int):=by rw [wrap_i64 (by omega) (by omega)];omega
  obtain ⟨n,hn⟩:∃n,d.names[i]? =some n:=⟨_,List.getElem?_eq_getElem hlt'⟩
  have hc:=namesC_get hn
  obtain ⟨hx1,hx2⟩:=List.getElem?_eq_some_iff.1 hc
  have hidi:ids[i]? =some n.id:=by rw [hids,List.getElem?_map,hn];rfl
  have hsn:=take_snoc hidi
  have hnm:∀(a b c:Entry) (kv:List (AV×AV)) (t:TypeId) (cs:List AV),a.isItr=false→b.isItr=false→c.isItr=false→noItr (a::b:: .mp kv::c::(tl++ [.var t cs]))=true:=fun a b c kv t cs ha hb hcc=>by
   have:=(hno.var t cs).eq
   simp only [noItr,List.all_cons,ha,hb,hcc] at this⊢
   simp [Entry.isItr] at this⊢
   exact this
  have hnm1:=hnm (.var 30 (diskC d)) (.var 30 [.int .i64 0,.nils,.nils,.nils,.nils,.int .i64 0]) (.var 99 [.map 2]) (kvs (ids.take i)) 101 (nameC n) rfl rfl rfl
  simp only [diskC,nameC] at hnm1
  simp [h1,h2,h4,h5,h9,h11,hc,hx2,nameC,diskC,tail_get,tail_set,splice,mp_new (nd_take hnd hidi),hnm1,hwi, -mapFind, -mapPut, -noItr, -Entry.isItr]
  refine nx_intro (d.names.length-(i+1)) (by omega) ⟨i+1,tl++ [.var 101 (nameC n)],rfl,by omega,by simp [h1],by simp [h2],by simp [h4],by simp [h5],by simp [h9],by simp [h10],by simp,hno.var _ _, ?_⟩
  rw [hsn];simp [diskC,nameC]
 ·have hil:i=d.names.length:=by omega
  have hkl2:ids.length=d.names.length:=by rw [hids];simp
  rw [hil,←hkl2,List.take_length]
  have hnn:∀c∈namesC d.names,∀x∈c,x≠ .nils:=fun c hc=>by obtain ⟨n,_,rfl⟩:=List.mem_map.1 hc;simp [nameC]
  simp [h1]
  refine ac_same (pcloneNm (namesC d.names) (namesC_els _) (by omega) hnn) (by simp [AV.pure]) ?_
  rintro r rfl
  simp [h1]
  refine ac_same (pcloneNm (namesC d.names) (namesC_els _) (by omega) hnn) (by simp [AV.pure]) ?_
  rintro r rfl
  simp [h2,diskC,splice]
  refine ac_eff (cloneFi (filesC d.files) (filesC_els d.files) (by omega)) ?_
  rintro r σ (⟨h0,rfl,rfl⟩|⟨rfl,rfl⟩)
  ·simp [h5]
   refine ac_eff (delfNilFi n_disk_settled_1 [.ptr 3 0]) ?_
   rintro r σ ⟨rfl,rfl⟩
   have h0':d.files= []:=by simpa [filesC] using h0
   simp [h2,h4,splice]
   simp [syncDirM,h0',filesC,movesC]
  ·simp [h5]
   obtain ⟨pre,hpre⟩:∃pre:Store,pre=.var 30 [.int .i64 d.quota,.lst (filesC d.files),.lst (namesC d.names),.lst (namesC d.names),.nils,.int .i64 d.next]:: .var 30 [.int .i64 0,.nils,.nils,.nils,.nils,.int .i64 0]:: .mp (kvs ids):: .var 99 [.map 2]::tl:=⟨_,rfl⟩
   have hpl:pre.length=tl.length+1+1+1+1:=by rw [hpre];rfl
   have kA:=settled_asks (G:=G) (pre:=pre) (k:=3) (j:=2) (ids:=ids) (by rw [hpre];rfl) (by rw [hpre];rfl) d.files (fun c=> !decide (idC c∈ids)) (fun f=>by rw [idC_file])
   have kD:=delfFi (G:=G) pre (filesC d.files) (filesC_els d.files) (by omega) (fun c=> !decide (idC c∈ids)) n_disk_settled_1 [.ptr 3 0] b_disk_settled_1 kA
   have hflt:((filesC d.files).filter fun n=> !!decide (idC n∈ids))=filesC (syncDirM d).files:=by
    rw [filesC_filter d.files (fun f=>decide (∃n∈d.names,n.id=f.id)) _ (fun f=>by rw [idC_file,hids];simp)]
    rfl
   rw [hflt,hpl,hpre] at kD
   refine ac_eff kD ?_
   rintro r σ ⟨X,rfl,hX1,hX2,hX3⟩
   have hfz:∀(σ:Store) (m k:Nat),(X.mapM fun (c:List AV)=>c.mapM (fz σ m k))=some (X.map fun c=>c.map denil):=fun σ m k=>fz_den hX2.2.1
   have hX1':X.length=d.files.length:=by rw [hX1,hfl]
   rcases hX3 with ⟨rfl,rfl⟩|⟨rfl,hX4⟩
   ·simp [h2,h4,splice,hfz,hX1]
    rw [filesC_den]
    simp [syncDirM,movesC]
   ·have hall:∀a∈X,a.length=3:=hX2.1
    have htk:(X.map fun c=>c.map denil).take (filesC (syncDirM d).files).length=filesC (syncDirM d).files:=by
     rw [←List.map_take,hX4,filesC_den]
    simp [h2,h4,splice,hfz,hX1]
    rw [if_pos hall,htk]
    simp [syncDirM,movesC]
theorem dsyncDir_ok (d:DiskM) (h:RightM d) (hl:Fits d):PCalls Tryz.prog n_disk_SyncDir [.agg (diskC d)] (fun r=>r=.tup [.agg (diskC (syncDirM d)),.int .i64 0]):=by
 refine pcalls_of_awp hmix c_disk_SyncDir rfl ?_
 simp [a_disk_SyncDir,diskC]
 refine ac_same (dright_ok d h hl) (by simp [AV.pure,diskC]) ?_
 rintro r rfl
 simp
 refine ac_same (dsettled_ok d h hl) (by simp [AV.pure,diskC]) ?_
 rintro r rfl
 simp [diskC]
end Go.Proofs.YtdbhocoeolhjhaaGreatDoor
end
