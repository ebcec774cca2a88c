/- Shelf: records in frames; the bytes of points and of slots. Shelf: the bytes of points; a whole segment. Shelf: a row of slots that slices.SortFunc ha -/
import Derived.Test.YtdbhocoeolhjhaaGreatDoorSlLay
import Derived.Test.YtdbhocoeolhjhaaGreatDoorShelf
import Derived.Shelf.SlSortCmp.InsertionK
import Derived.Shelf.SlSortCmp.NoneTotal
import Derived.Test.YtdbhocoeolhjhaaGreatDoorBn1
import Derived.Test.YtdbhocoeolhjhaaGreatDoorBn2
import Derived.Test.YtdbhocoeolhjhaaGreatDoorBn3
import Derived.Test.YtdbhocoeolhjhaaGreatDoorBn4
set_option linter.unusedSimpArgs false
set_option linter.unusedVariables false
set_option linter.constructorNameAsVariable false
section
set_option maxHeartbeats 4000000
namespace Go.Sf
open Go.Abs
structure PtM where
 t:Nat
 now:Nat
 v:Int
end Go.Sf
namespace Go.Proofs.YtdbhocoeolhjhaaGreatDoor
open Go.Abs Go.RowKit Go.Sf
abbrev zlX (G:Globs):Prop:=(@Globs.tab G).lookup 2=some stepsC
variable {G:Globs}
theorem zzt (hT:zlX G) (X:AV) (hX:zii X) (t now:Nat) (v:Int) (ht:t≤1099511627776) (hn:now≤1099511627776) (hv:v≠ -9223372036854775808) (hv2:i64 v) {σ:zac}:ACalls Tryz.prog zeg [.agg (zbf X t now v)] σ (fun r σ'=>r=.tup [.row (σ.length+1) (zaL ((zbC t now v))).length,.int .i64 0]∧σ'=σ++ [.var 74 (zbf X t now v),.row 5 1 (byteEls (zaL ((zbC t now v)))) false]):=by
 refine zag hmix zdR rfl ?_
 have kP:=z3S (G:=G) X hX t now v ht hn hv hv2
 simp only [zbf] at kP
 have hne:(zbC t now v)≠ []:=by simp [zbC]
 have hle:((zbC t now v)).length≤512:=by rw [zfy];omega
 have hbl:=zab ((zbC t now v))
 rcases hX with rfl|rfl
 all_goals
  simp [zcT,zbf]
  refine zad kP (by simp [AV.pure]) ?_
  rintro r rfl
  simp
  refine zar (zhL hT (zbC t now v) hne hle) ?_
  rintro r σ' ⟨rfl,rfl⟩
  simp
  exact zmq (ext:= [.var 74 (zbf _ t now v),.row 5 1 (byteEls (zaL (zbC t now v))) false]) (.tup [.row (σ.length+1) (zaL (zbC t now v)).length,.int .i64 0]) (by simp [zaE]) (by simp [AV.under]) (fun e he=>by
   simp only [ybb,ydq,or_false] at he
   rcases he with rfl|rfl
   ·simp [Entry.under,AV.under,zbf]
   ·exact za7 (zao _).2.1) ⟨rfl,by simp [zbf]⟩
theorem z1m (hT:zlX G) (X:AV) (hX:zii X) (i t:Nat) (v:Int) (hi:i<4) (ht:t≤1099511627776) (hv:v≠ -9223372036854775808) (hv2:i64 v) {σ:zac}:ACalls Tryz.prog zeg [.agg (zcy X i t v)] σ (fun r σ'=>r=.tup [.row (σ.length+1) (zaL ((zdG i t v))).length,.int .i64 0]∧σ'=σ++ [.var 74 (zcy X i t v),.row 5 1 (byteEls (zaL ((zdG i t v)))) false]):=by
 refine zag hmix zdR rfl ?_
 have kP:=z4t (G:=G) X hX i t v hi ht hv hv2
 simp only [zcy] at kP
 have hne:(zdG i t v)≠ []:=by simp [zdG]
 have hle:((zdG i t v)).length≤512:=by rw [zhj];omega
 have hbl:=zab ((zdG i t v))
 rcases hX with rfl|rfl
 all_goals
  simp [zcT,zcy]
  refine zad kP (by simp [AV.pure]) ?_
  rintro r rfl
  simp
  refine zar (zhL hT (zdG i t v) hne hle) ?_
  rintro r σ' ⟨rfl,rfl⟩
  simp
  exact zmq (ext:= [.var 74 (zcy _ i t v),.row 5 1 (byteEls (zaL (zdG i t v))) false]) (.tup [.row (σ.length+1) (zaL (zdG i t v)).length,.int .i64 0]) (by simp [zaE]) (by simp [AV.under]) (fun e he=>by
   simp only [ybb,ydq,or_false] at he
   rcases he with rfl|rfl
   ·simp [Entry.under,AV.under,zcy]
   ·exact za7 (zao _).2.1) ⟨rfl,by simp [zcy]⟩
theorem z1e (hT:zlX G) (p:Txt) (h0:p≠ []) (hl:p.length≤100) {σ:zac}:ACalls Tryz.prog zeg [.agg (zaM p)] σ (fun r σ'=>r=.tup [.row (σ.length+1) (zaL ((zba p))).length,.int .i64 0]∧σ'=σ++ [.var 74 (zaM p),.row 5 1 (byteEls (zaL ((zba p)))) false]):=by
 refine zag hmix zdR rfl ?_
 have kP:=zw8 (G:=G) p h0 hl
 simp only [zaM] at kP
 have hne:(zba p)≠ []:=by simp [zba]
 have hle:((zba p)).length≤512:=by rw [zcx];omega
 have hbl:=zab ((zba p))
 have h9:True:=trivial
 all_goals
  simp [zcT,zaM]
  refine zad kP (by simp [AV.pure,rungsC]) ?_
  rintro r rfl
  simp
  refine zar (zhL hT (zba p) hne hle) ?_
  rintro r σ' ⟨rfl,rfl⟩
  simp
  exact zmq (ext:= [.var 74 (zaM p),.row 5 1 (byteEls (zaL (zba p))) false]) (.tup [.row (σ.length+1) (zaL (zba p)).length,.int .i64 0]) (by simp [zaE]) (by simp [AV.under]) (fun e he=>by
   simp only [ybb,ydq,or_false] at he
   rcases he with rfl|rfl
   ·simp [Entry.under,AV.under,zaM,rungsC]
   ·exact za7 (zao _).2.1) ⟨rfl,by simp [zaM]⟩
end Go.Proofs.YtdbhocoeolhjhaaGreatDoor
end
section
set_option maxHeartbeats 4000000
namespace Go.Abs
theorem z8w {σ:zac} {a b c:Entry} {tl:zac}:(σ++a::b::c::tl)[σ.length+1+1]? =some c:=by
 rw [yaj (by omega),show σ.length+1+1-σ.length=2 by omega];rfl
theorem z72 {A B C x y z:Entry} {tl:zac}:(A::B::C::(tl++ [x,y,z]))[tl.length+1+1+1+1+1]? =some z:=by
 simp only [ydg]
 rw [yaj (by omega),show tl.length+1+1-tl.length=2 by omega];rfl
theorem z6Z {K:AV→zac→Prop} {t:Tg K} {e size bytes:Nat} {σ τ:zac} {v y:AV} {l m:List (List AV)} (h:AccT e size σ.length τ v l) (hv:view (σ++τ) y=some m) (hm:m≠ []) (hs:0<size) (hl:∀c∈m,c.length=size) (hf:zlE (σ++τ) y m) (hb:(l.length+m.length)*bytes≤140737488355328) (h63:l.length+m.length≤9223372036854775807)
  (hK:∀v' τ',AccT e size σ.length τ' v' (l++m)→τ.length≤τ'.length→K v' (σ++τ')):ap K t (σ++τ) e size bytes v y:=by
 rcases h with ⟨rfl,rfl⟩|⟨h1,p,rfl,h3⟩
 ·refine zhS true m hv hs hl (fun _=>hf) (by simpa using hb) (by simpa using h63) ?_
  have:=hK (.row (σ++τ).length m.length) (τ++ [.row e size m true]) (.inr ⟨by simpa using hm,τ.length,by simp,by simp⟩) (by simp)
  simpa using this
 ·obtain ⟨hp,_⟩:=yaa.1 h3
  refine zaK l m true (by rw [yaj (by omega),ya0];exact h3) hv hs hl (fun _=>hf) rfl hb h63 ?_
  have:=hK (.row (σ.length+p) (l.length+m.length)) (τ.set p (.row e size (l++m) true)) (.inr ⟨by simp [h1],p,by simp,by simp [hp]⟩) (by simp)
  rw [ybi _ _ (by omega),ya0]
  exact this
end Go.Abs
namespace Go.Sf
open Go.Abs
def zcw (bs:List ArrM):Txt:=bs.flatMap fun a=>zaL (zbC a.time a.now a.value)
theorem zt8 (bs:List ArrM) (a:ArrM):zcw (bs++ [a])=zcw bs++zaL (zbC a.time a.now a.value):=by simp [zcw]
theorem zfP (bs:List ArrM):(zcw bs).length=31*bs.length:=by
 induction bs with
 |nil=>rfl
 |cons a bs ih=>
  have:zcw (a::bs)=zaL (zbC a.time a.now a.value)++zcw bs:=rfl
  rw [this,yag,ih,zbq,zfy,ybf];omega
structure SlR where
 rung:Nat
 t:Nat
 v:Int
structure OkSl (s:SlR):Prop where
 r:s.rung<4
 t:s.t≤1099511627776
 v:i64 s.v
 n:s.v≠ -9223372036854775808
def slRC (s:SlR):List AV:=zcy (.lst []) s.rung s.t s.v
def zhw (l:List SlR):List (List AV):=l.map slRC
def zmz (l:List SlR):Txt:=l.flatMap fun s=>zaL (zdG s.rung s.t s.v)
theorem zqM (l:List SlR) (s:SlR):zmz (l++ [s])=zmz l++zaL (zdG s.rung s.t s.v):=by simp [zmz]
theorem ztR (l:List SlR):(zmz l).length=24*l.length:=by
 induction l with
 |nil=>rfl
 |cons a bs ih=>
  have:zmz (a::bs)=zaL (zdG a.rung a.t a.v)++zmz bs:=rfl
  rw [this,yag,ih,zbq,zhj,ybf];omega
theorem zpa (l:List SlR):(zhw l).length=l.length:=by simp [zhw]
theorem zzq {l:List SlR} {i:Nat} {s:SlR} (h:l[i]? =some s):(zhw l)[i]? =some (slRC s):=by simp [zhw,h]
def znC (path:Txt) (l:List SlR):Txt:=zaL (zba path)++zmz l
theorem zqL (p:Txt) (l:List SlR):(znC p l).length=p.length+27+24*l.length:=by
 simp [znC,ztR,zbq,zcx]
end Go.Sf
namespace Go.Proofs.YtdbhocoeolhjhaaGreatDoor
open Go.Abs Go.RowKit Go.Sf
variable {G:Globs}
theorem zzC (hT:zlX G) (bs:List ArrM) (hb:∀a∈bs,OkA a∧OkV a) (hl:bs.length≤1000):PCalls Tryz.prog zqc [.lst (zbi bs)] (fun r=>r=.tup [.lst (byteEls (zcw bs)),.int .i64 0]):=by
 refine zaa hmix zp9 rfl ?_
 have hle:=zc7 bs
 simp [zjB,hle]
 refine zah (fun x f σ=>∃(i:Nat),x=bs.length-i∧i≤bs.length∧AccT 5 1 0 σ (f 4) (byteEls (zcw (bs.take i)))∧f 9=.lst (zbi bs)∧f 10=.int .i64 bs.length∧f 11=.int .i64 i) bs.length ?_ ?_
 ·exact ⟨0,by simp,by simp,by simp [zcw,byteEls];exact zgt,by simp,by simp,by simp⟩
 rintro x f σ ⟨i,rfl,hi,hA,f9,f10,f11⟩
 have hfl:=zfP (bs.take i)
 have hfe:=zab (zcw (bs.take i))
 have hmin:(bs.take i).length=i:=by simp;omega
 simp [f10,f11]
 refine zax (fun hlt=> ?_) (fun hge=> ?_)
 ·have hlt':i<bs.length:=by omega
  have hwi:IntKind.i64.wrap ((i:Int)+1)=((i+1:Nat):Int):=by rw [wrap_i64 (by omega) (by omega)];omega
  obtain ⟨a,ha⟩:∃a,bs[i]? =some a:=⟨_,yad hlt'⟩
  have hc:=zlV ha
  obtain ⟨hx1,hx2⟩:=yaa.1 hc
  obtain ⟨ok,okv⟩:=hb a (yaf ha)
  have hsn:bs.take (i+1)=bs.take i++ [a]:=by rw [yax,ha];rfl
  have o1:=ok.t
  have o2:=ok.n
  have kF:=fun (σ:zac)=>zzt (G:=G) hT .nils (.inl rfl) a.time a.now a.value (by omega) (by omega) okv ok.v (σ:=σ)
  simp only [zbf] at kF
  simp [f9,f11,hc,hx2,arrC,zam,zal,splice]
  refine zar (kF _) ?_
  rintro r σ' ⟨rfl,rfl⟩
  obtain ⟨b,hb'⟩:∃b,b=zaL (zbC a.time a.now a.value):=⟨_,rfl⟩
  have hbl:b.length=31:=by rw [hb',zbq,zfy]
  have hbe:=zab b
  have hb0:byteEls b≠ []:=fun e=>by rw [e] at hbe;simp at hbe;omega
  rw [←hb']
  simp
  have hA2:=(((hA.more [Entry.var 91 (arrC a)]).more [Entry.var 74 (zbf .nils a.time a.now a.value)]).more [Entry.row 5 1 (byteEls b) false])
  simp only [ya3,ybv,yci,arrC,zbf] at hA2
  refine z6Z (σ:= []) hA2 (m:=byteEls b) ?_ hb0 (by decide) (zao b).1 (.inr (zao b).2.1) (by rw [hfe,hfl,hmin,hbe,hbl];omega) (by rw [hfe,hfl,hmin,hbe,hbl];omega) fun v' τ' hA' hle'=> ?_
  ·show view (σ++ [_,_,.row 5 1 (byteEls b) false]) (.row (σ.length+1+1) b.length)=some (byteEls b)
   simp only [view,z8w,hbe,if_true]
  simp [f11,hwi]
  refine zae (bs.length-(i+1)) (by omega) ⟨i+1,rfl,by omega, ?_,by simp [f9],by simp [f10],by simp⟩
  simp
  rw [hsn,zt8,zan,←hb']
  exact hA'
 ·have hil:i=bs.length:=by omega
  subst hil
  rw [ya1] at hA
  simp [hA.finT0]
theorem z0n (hT:zlX G) (p:Txt) (h0:p≠ []) (hp:p.length≤100) (l:List SlR) (hs:∀s∈l,OkSl s) (hl:l.length≤1000):PCalls Tryz.prog zo1 [.agg (zaM p),.lst (zhw l)] (fun r=>r=.tup [.lst (byteEls (znC p l)),.int .i64 0]):=by
 refine zaa hmix zpk rfl ?_
 have hle:=zpa l
 have kH:=fun (σ:zac)=>z1e (G:=G) hT p h0 hp (σ:=σ)
 simp only [zaM] at kH
 simp [ziD,zaM,hle,rungsC]
 simp only [rungsC] at kH
 refine zar (kH _) ?_
 rintro r σ' ⟨rfl,rfl⟩
 simp
 obtain ⟨R0,hR0⟩:∃R0:Entry,R0=.var 74 (zaM p):=⟨_,rfl⟩
 obtain ⟨H,hH⟩:∃H,H=zaL (zba p):=⟨_,rfl⟩
 have hHl:H.length=p.length+27:=by rw [hH,zbq,zcx]
 rw [←hH]
 refine zah (fun x f σ=>∃(i:Nat) (tl:zac),x=l.length-i∧i≤l.length∧f 6=.row 2 (H++zmz (l.take i)).length∧f 23=.lst (zhw l)∧f 24=.int .i64 l.length∧f 25=.int .i64 i∧σ=R0::R0:: .row 5 1 (byteEls (H++zmz (l.take i))) false::tl) l.length ?_ ?_
 ·exact ⟨0,[],by simp,by simp,by simp [zmz],by simp,by simp [hle],by simp,by simp [zmz,hR0,zaM,rungsC]⟩
 rintro x f σ ⟨i,tl,rfl,hi,f6,f23,f24,f25,rfl⟩
 have hmin:(l.take i).length=i:=by simp;omega
 obtain ⟨B,hB⟩:∃B,B=H++zmz (l.take i):=⟨_,rfl⟩
 have hBl:B.length=p.length+27+24*i:=by rw [hB,yag,ztR,hmin,hHl]
 have hBe:=zab B
 rw [←hB] at f6⊢
 simp [f24,f25]
 refine zax (fun hlt=> ?_) (fun hge=> ?_)
 ·have hlt':i<l.length:=by omega
  have hwi:IntKind.i64.wrap ((i:Int)+1)=((i+1:Nat):Int):=by rw [wrap_i64 (by omega) (by omega)];omega
  obtain ⟨a,ha⟩:∃a,l[i]? =some a:=⟨_,yad hlt'⟩
  have hc:=zzq ha
  obtain ⟨hx1,hx2⟩:=yaa.1 hc
  have ok:=hs a (yaf ha)
  have hsn:l.take (i+1)=l.take i++ [a]:=by rw [yax,ha];rfl
  have kF:=fun (σ:zac)=>z1m (G:=G) hT (.lst []) (.inr rfl) a.rung a.t a.v ok.r ok.t ok.n ok.v (σ:=σ)
  simp only [zcy] at kF
  simp [f23,f25,hc,hx2,slRC,zcy,zam,zal,splice]
  refine zar (kF _) ?_
  rintro r σ' ⟨rfl,rfl⟩
  obtain ⟨b,hb'⟩:∃b,b=zaL (zdG a.rung a.t a.v):=⟨_,rfl⟩
  have hbl:b.length=24:=by rw [hb',zbq,zhj]
  have hbe:=zab b
  rw [←hb']
  simp [f6]
  refine zaK (byteEls B) (byteEls b) false (by simp) ?_ (by decide) (zao b).1 (fun h=>by cases h) hBe (by rw [hbe];omega) (by rw [hbe];omega) ?_
  ·simp only [view,z72,hbe,if_true]
  simp [f25,hwi,hbe]
  refine zae (l.length-(i+1)) (by omega) ⟨i+1,tl++ [.var 74 (slRC a),.var 74 (slRC a),.row 5 1 (byteEls b) false],rfl,by omega, ?_,by simp [f23],by simp [f24],by simp, ?_⟩
  ·rw [hsn,zqM,←hb',←ya3,←hB]
   simp
  ·rw [hsn,zqM,←hb',←ya3,←hB,zan]
   rfl
 ·have hil:i=l.length:=by omega
  subst hil
  rw [ya1] at hB
  have hBw:B=znC p l:=by rw [hB,hH];rfl
  simp [f6,hBe,zgT,hBw,zab]
end Go.Proofs.YtdbhocoeolhjhaaGreatDoor
end
section
set_option maxHeartbeats 2000000
namespace Go.Abs
open Go.Sf Go.Proofs Go.Sort Go.Proofs.YtdbhocoeolhjhaaGreatDoor
def encS (n:Slot):List Value:= [.int .i64 n.1,.int .i64 n.2]
def zfb (l:List Slot):List Value:=l.flatMap encS
theorem zeL (l:List Slot):(zfb l).length=l.length*2:=by
 induction l with
 |nil=>rfl
 |cons n l ih=>simp only [zfb,List.flatMap_cons,yag,ybf] at*;rw [ih];simp [encS];omega
theorem zqq (l:List Slot):(flatK encS 2 l.toArray).toList=zfb l:=by
 apply List.ext_getElem?
 intro t
 by_cases h:t<l.length*2
 ·have h1:t<(flatK encS 2 l.toArray).toList.length:=by simp;omega
  have h2:t<(zfb l).length:=by rw [zeL];exact h
  rw [yad h1,yad h2]
  congr 1
  have e1:(flatK encS 2 l.toArray).toList[t]=(flatK encS 2 l.toArray)[t]! :=by
   rw [getElem!_pos _ t (by simpa using h1)];simp
  rw [e1,get_flatK _ _ _ _ (by simpa using h)]
  clear h1 e1
  induction l generalizing t with
  |nil=>simp at h
  |cons n l ih=>
   match t,h,h2 with
   |0,h,h2=>simp [zfb,encS]
   |1,h,h2=>simp [zfb,encS]
   |t+2,h,h2=>
    have h':t<l.length*2:=by simp at h;omega
    have h2':t<(zfb l).length:=by rw [zeL];exact h'
    have:=ih t h' h2'
    have e2:(t+2)/2=t/2+1:=by omega
    have e3:(t+2)%2=t%2:=by omega
    rw [e2,e3]
    have e4:(zfb (n::l))[t+2]=(zfb l)[t]:=by simp [zfb,encS]
    rw [e4,←this]
    have e5:(n::l).toArray[t/2+1]! =l.toArray[t/2]! :=by
     have hq:t/2<l.length:=by omega
     rw [getElem!_pos _ _ (by simp;omega),getElem!_pos _ _ (by simpa using hq)]
     simp
    rw [e5]
 ·rw [yco (by simp;omega),yco (by rw [zeL];omega)]
variable {G:Globs} {base:Nat} {κ:Key} {Im:Addr→Prop} {w:World} {σ:zac}
theorem zo0 (n:Slot) (l:List Slot):zav (n::l)= [.int .i64 n.1,.int .i64 n.2]::zav l:=rfl
theorem z3H {l:List Slot} {xs:List Value} (h:VRL κ Im w (zav l).flatten xs):xs=zfb l:=by
 induction l generalizing xs with
 |nil=>
  have:=h.1
  simp [zav] at this
  rw [yap this.symm];rfl
 |cons n l ih=>
  rw [zo0] at h
  simp only [ybd] at h
  have hl:=h.1
  simp at hl
  match xs,h,hl with
  |x::y::xs,h,_=>
   obtain ⟨u,hu,h1⟩:=h.get? (i:=0) (a:=.int .i64 n.1) (by simp)
   obtain ⟨u2,hu2,h2⟩:=h.get? (i:=1) (a:=.int .i64 n.2) (by simp)
   simp at hu hu2
   subst hu;subst hu2
   have h3:VRL κ Im w (zav l).flatten xs:=by
    have:=h.drop 2
    simpa using this
   rw [h1.int_inv,h2.int_inv,ih h3]
   rfl
  | [x],h,hl=>simp at hl
  | [],h,hl=>simp at hl
theorem z2L (l:List Slot):VRL κ Im w (zav l).flatten (zfb l):=by
 induction l with
 |nil=>exact VRL.nil
 |cons n l ih=>
  rw [zo0]
  simp only [ybd,zfb,List.flatMap_cons]
  exact VRL.append (.cons (.im _ _ (.int _ _)) (.cons (.im _ _ (.int _ _)) .nil)) ih
theorem zym (l:List Slot):∀c∈zav l,∀x∈c,x.one=true:=fun c hc x hx=>by
 simp only [zav,yav] at hc
 obtain ⟨n,_,rfl⟩:=hc
 simp [zcI] at hx
 rcases hx with rfl|rfl<;>rfl
theorem zyG (l:List Slot):∀c∈zav l,c.length=2:=fun c hc=>by
 simp only [zav,yav] at hc
 obtain ⟨n,_,rfl⟩:=hc
 rfl
theorem zv6 {i e:Nat} {l A R:List Slot} (hlA:l=A++R) (hs:SRel base κ Im σ w) (he:σ[i]? =some (.row e 2 (zav l) false)) (hne:l≠ []):
  ∃g cap,κ i l.length=some (.slice (some ⟨g,0,none⟩) l.length cap)∧g<w.heap.size∧HoldsK encS 2 w g 0 A.toArray∧
   ∀(A':List Slot) n os,A'.length=A.length→SRel base κ Im (σ.set i (.row e 2 (zav (A'++R)) false)) (sortWorldK encS 2 w g 0 n A'.toArray os)∧Grow base κ Im w κ Im (sortWorldK encS 2 w g 0 n A'.toArray os):=by
 have hE:=hs.ent i _ he
 unfold EOK at hE
 obtain ⟨v,xs,hκ,hown,hvr,h0,h2,h1, -,hblk⟩:=hE
 rw [zaw] at hκ hown hblk
 have hxs:=z3H hvr
 subst hxs
 obtain ⟨hlx,hown⟩:=hown
 rcases hown with ⟨_,h⟩|⟨g,cap,cur,rfl,hbase,hg,hc1,hc2,hc3,htk⟩
 ·exact absurd (yap h) hne
 have hgs:g<w.heap.size:=(ya7.1 hg).1
 have hAl:A.length≤l.length:=by rw [hlA];simp
 have hvA:zfb l=zfb A++zfb R:=by rw [hlA];simp [zfb]
 have hH:HoldsK encS 2 w g 0 A.toArray:=by
  intro j hj
  have hjA:j<A.length*2:=by simpa using hj
  have hj':j<l.length*2:=by omega
  refine ⟨?_,by simp [World.frozen?,hg]⟩
  have h3:(cur.toList.take (l.length*2))[j]? =(zfb l)[j]? :=by rw [htk]
  rw [List.getElem?_take_of_lt hj',hvA,yar (by rw [zeL];exact hjA),←zqq] at h3
  simp only [World.cell?,hg,ybe]
  simp only [Option.isSome_none,yds,if_false]
  rw [←ycp,h3,ycp,getElem!_pos _ j hj]
  simp [hj]
 refine ⟨g,cap,hκ,hgs,hH,fun A' n os hl=> ?_⟩
 obtain ⟨F,hF⟩:∃F,F=flatK encS 2 A'.toArray:=⟨_,rfl⟩
 have hFs:F.size=A.length*2:=by rw [hF];simp [hl]
 have hFl:F.toList=zfb A':=by rw [hF,zqq]
 obtain ⟨l',hl'⟩:∃l',l'=A'++R:=⟨_,rfl⟩
 have hll:l'.length=l.length:=by rw [hl',hlA];simp [hl]
 have hv':zfb l'=F.toList++zfb R:=by rw [hl',hFl];simp [zfb]
 rw [←hl']
 obtain ⟨w',hw'⟩:∃w',w'=sortWorldK encS 2 w g 0 n A'.toArray os:=⟨_,rfl⟩
 have hw2:w'=grow (mapBlock (Sort.ahead w n) g (putCells id 0 F)) os:=by rw [hw',hF];rfl
 have hheap:w'.heap[g]? =some (.cells (putCells id 0 F cur) e (0,0)):=by
  rw [hw2,heap_grow_old _ _ (by simpa [mapBlock,Sort.ahead] using hgs)]
  simp [mapBlock,Sort.ahead,Array.getElem?_modify,hg,onCells]
 have hother:∀k,k<w.heap.size→k≠g→w'.heap[k]? =w.heap[k]? :=fun k hk hne=>by
  rw [hw2,heap_grow_old _ _ (by simpa [mapBlock,Sort.ahead] using hk)]
  simp [mapBlock,Sort.ahead,Array.getElem?_modify,Ne.symm hne]
 have hsize:w.heap.size≤w'.heap.size:=by rw [hw2];simp [grow,mapBlock,Sort.ahead]
 have htake:(putCells id 0 F cur).toList.take (l.length*2)=zfb l':=by
  rw [hv']
  apply List.ext_getElem?
  intro j
  have hR:(zfb R).length=(l.length-A.length)*2:=by rw [zeL,hlA];simp
  by_cases hj:j<l.length*2
  ·rw [List.getElem?_take_of_lt hj,ycp]
   have hjc:j<cur.size:=by
    have:l.length*2≤cap*2:=yas _ hc1
    omega
   by_cases hjF:j<F.size
   ·rw [yar (by simpa using hjF),ycp]
    simp [putCells,hjF,hjc]
   ·rw [yaj (by simpa using yd0 hjF)]
    have h3:(cur.toList.take (l.length*2))[j]? =(zfb l)[j]? :=by rw [htk]
    rw [List.getElem?_take_of_lt hj,hvA,yaj (by rw [zeL];omega),ycp,zeL] at h3
    rw [ya4,hFs,←h3]
    simp [putCells,hjF,hjc]
  ·rw [List.getElem?_take_eq_none (by omega),yco (by rw [yag,ya4,hR,hFs];omega)]
 have hIm:∀a,Im a→a.block≠g:=fun a ha hb=>by
  have:=((hblk g rfl).1 a ha hb).1
  cases this
 have hcell:∀a,Im a→w'.cell? a=w.cell? a:=fun a ha=>ya8 (hother _ (hs.imlt a ha).1 (hIm a ha))
 rw [←hw']
 have hbl:Go.RowKit.Below base w w':=⟨by rw [hw2];rfl,by rw [hw2];rfl,by rw [hw2];rfl,hsize,fun k hk=>hother k (yb9 hk hs.hb) (by omega)⟩
 have hbe:∀l'':List Slot,l''.length=l.length→(Entry.row e 2 (zav l'') false).block κ i=some g:=fun l'' hl''=>by
  simp [Entry.block,zaw,hl'',hκ,Value.ownBlock]
 refine ⟨hs.set he (.row e 2 (zav l') false) (fun _ _ _ h=>h) (fun _ _ _ h=> .inl h) (by simp [Entry.ver,zaw,hll]) (fun _ h=>h) hcell (fun _ h=> .inl h) hsize (fun k hk hne2=>hother k hk fun h=>hne2 (by rw [hbe l rfl,h])) ?_ (fun b hb=> .inr (by rw [hbe l rfl,←hb,hbe l' hll])),⟨fun _ _ _ h=>h,fun _ h=>h,hcell,fun _ h=> .inl h,hbl⟩⟩
 unfold EOK
 refine ⟨.slice (some ⟨g,0,none⟩) l.length cap,zfb l',by rw [zaw,hll];exact hκ,⟨by rw [zeL,zaw],.inr ⟨g,cap,_,by rw [zaw,hll],hbase,hheap,by rw [zaw,hll];exact hc1,hc2,by simp [putCells,hc3],by rw [zaw,hll];exact htake⟩⟩,z2L l',by decide,zyG l',zym l',fun h=>(by cases h), ?_⟩
 rw [zaw,hll]
 exact hblk
end Go.Abs
namespace Go.Proofs.YtdbhocoeolhjhaaGreatDoor
open Go.Shelf Go.RowKit Go.Lib Go.Sort Go.Proofs Go.Sf
theorem ltH (x y:Slot):ltOf (fun x y:Slot=>Lib.compareInt x.1 y.1) x y=decide (x.1<y.1):=by
 unfold ltOf Lib.compareInt
 by_cases h1:x.1<y.1
 ·simp [h1]
 ·by_cases h2:y.1<x.1
  ·simp [h1,h2]
  ·simp [h1,h2]
theorem swoH:SWO (ltOf fun x y:Slot=>Lib.compareInt x.1 y.1) where
 irrefl x:=by rw [ltH];simp
 trans x y z h1 h2:=by rw [ltH] at*;simp only [decide_eq_true_eq] at*;omega
 ntrans x y z h1 h2:=by rw [ltH] at*;simp only [decide_eq_false_iff_not] at*;omega
set_option maxHeartbeats 1000000 in
theorem zuU (x y:Slot) (W:World):Calls Tryz.prog 166 #[.agg #[.int .i64 x.1,.int .i64 x.2],.agg #[.int .i64 y.1,.int .i64 y.2]] W fun e w'=>e=.returned (.int .i64 (Lib.compareInt x.1 y.1))∧∃q os',w'=grow (W.drewN q) os':=by
 have hcon:=fun W'=>Tryz.cmp_Compare_int x.1 y.1 W'
 generalize Lib.compareInt x.1 y.1=r at hcon⊢
 go_enter Tryz.func166,Tryz.ntmps166
 go_wp2_with (go_at_call 111;refine (hcon _).mono ?_;rintro e w' ⟨rfl,rfl⟩)
 go_ret
 exact ⟨rfl,0,_,by rw [alloc_eq_grow,alloc_eq_grow,grow_grow];rfl⟩
theorem zx5 (blk off size:Nat) (w:World):CmpLays Tryz.prog 166 #[] Go.Abs.encS 2 (fun x y=>Lib.compareInt x.1 y.1) blk off size w:=
 fun _ _ _ _ x y=>zuU x y _
theorem z6t {l:List Slot} {d:Array Slot} (h:PermIn 0 l.toArray.size l.toArray d):d.toList.Perm l:=by
 obtain ⟨h1,_,h3⟩:=h
 have e1:(d.extract 0 l.toArray.size).toList=d.toList:=by
  rw [←h1];simp
 have e2:(l.toArray.extract 0 l.toArray.size).toList=l:=by simp
 rw [e1,e2] at h3
 exact h3
theorem zyY {l:List Slot} {d:Array Slot} (hs:d.size=l.length) (h:SortedIn (ltOf fun x y:Slot=>Lib.compareInt x.1 y.1) 0 l.toArray.size d):d.toList.Pairwise fun a b=>a.1≤b.1:=by
 rw [ybg]
 intro i j hi hj hij
 have hj':j<d.size:=by simpa using hj
 have hi':i<d.size:=by simpa using hi
 have:=h i j (ydk _) hij (by simpa [hs] using hj')
 rw [ltH,getElem!_pos d j hj',getElem!_pos d i hi'] at this
 simpa using this
open Go.Abs in
variable {G:Globs} in
theorem zum {σ:zac} {id e:Nat} {A R:List Slot} {X:AV} (hX:(X=.row id (A++R).length∧R= [])∨X=.sub id (A++R).length 2 0 A.length) (he:σ[id]? =some (.row e 2 (zav (A++R)) false)) (hA:A≠ []) (hl:A.length<4611686018427387904):
  ACalls Tryz.prog 165 [X,.fn (.func 166) [] []] σ fun r σ'=>r=.tup []∧∃A':List Slot,A'.Perm A∧(A'.Pairwise fun a b=>a.1≤b.1)∧σ'=σ.set id (.row e 2 (zav (A'++R)) false):=by
 intro base κ Im w vs hs hv
 have hne:A++R≠ []:=fun h=>hA (List.append_eq_nil_iff.1 h).1
 have hA0:0<A.length:=yda.2 hA
 obtain ⟨g,cap,hκ,hg,hH,hall⟩:=zv6 (A:=A) (R:=R) rfl hs he hne
 obtain ⟨u0,hu0,hv0⟩:=hv.get? (i:=0) (a:=X) rfl
 obtain ⟨u1,hu1,hv1⟩:=hv.get? (i:=1) (a:=.fn (.func 166) [] []) rfl
 obtain ⟨c0,hu⟩:∃c0,u0=.slice (some ⟨g,0,none⟩) A.length c0:=by
  rcases hX with ⟨rfl,hR⟩|rfl
  ·obtain ⟨_,_,_,hk⟩:=hv0.row_inv
   rw [hκ] at hk
   have:=Option.some.inj hk
   subst hR
   exact ⟨cap,by rw [←this];simp⟩
  ·obtain ⟨b,cap2,ad,c,rfl,hk,_,_,had,_,_,_⟩:=hv0.sub_inv
   have hkk:=hκ.symm.trans hk
   simp only [yab,Value.slice.injEq,Addr.mk.injEq,true_and,and_true] at hkk
   rw [had hA0,←hkk.1]
   exact ⟨c,by simp⟩
 subst hu
 obtain ⟨fs,us,rfl,hfs,hus⟩:=hv1.fn_inv
 have hfs0:fs= []:=yap hfs.1.symm
 have hus0:us= []:=yap hus.1.symm
 subst hfs0;subst hus0
 have hvs:vs= [.slice (some ⟨g,0,none⟩) A.length c0,.func (.func 166) #[] #[]]:=by
  have hlen:=hv.1
  match vs,hlen with
  | [a,b],_=>
   simp at hu0 hu1
   rw [hu0,hu1]
 subst hvs
 have eg:∀args w,(callFunc 166 args).run Tryz.prog w=.ok (.enter 166 args) w:=enters_of Tryz.func166 (by kernel_rfl) rfl
 have hc:=AnyQ.slices_SortFunc Tryz.sortSlot 2 Tryz.isAgg186 Tryz.sizeOf186 encS (fun _=>rfl) (fun x v hv=>by simp [encS] at hv;rcases hv with rfl|rfl<;>rfl) (fun x y=>Lib.compareInt x.1 y.1) swoH 166 #[] g 0 c0 A.toArray w eg (zx5 g 0 _ w) hH hg (by simpa using hl)
 refine Calls.mono hc ?_
 rintro e' w' ⟨rfl,d',n,os,hp,hsd,rfl⟩
 have hsz:d'.size=A.length:=by simpa using hp.1
 obtain ⟨h1,h2⟩:=hall d'.toList n os (by simpa using hsz)
 have hd:d'.toList.toArray=d':=by simp
 rw [hd] at h1 h2
 exact ⟨.tup [],_,.tuple #[],κ,Im,rfl,⟨rfl,d'.toList,z6t hp,zyY hsz hsd,rfl⟩,h1,h2,.im _ _ (by first|exact .tup _ _ rfl (fun j h=>by simp at h)|constructor<;>simp)⟩
end Go.Proofs.YtdbhocoeolhjhaaGreatDoor
end
section
set_option maxHeartbeats 4000000
namespace Go.Sf
open Go.Abs
def zia (l:List Slot):List Slot:=l.filter fun s=> !decide (s.1= -1)
def zbR (l:List Slot):List Slot:=(zia l).mergeSort fun a b=>decide (a.1≤b.1)
theorem ziI (l:List Slot):(zbR l).Perm (zia l):=List.mergeSort_perm _ _
theorem zof (l:List Slot):(zbR l).length≤l.length:=by
 rw [(ziI l).length_eq];exact yd8 _ _
theorem zv3 (l:List Slot):(zbR l).Pairwise fun a b=>a.1≤b.1:=by
 have h:=List.pairwise_mergeSort (le:=fun a b:Slot=>decide (a.1≤b.1)) (fun a b c h1 h2=>by simp only [decide_eq_true_eq] at*;omega) (fun a b=>by simp only [Bool.or_eq_true,decide_eq_true_eq];omega) (zia l)
 exact h.imp fun h=>by simpa using h
theorem zwZ {l:List Slot} {s:Slot} (h:s∈zbR l):s∈l∧s.1≠ -1:=by
 have:=(ziI l).mem_iff.1 h
 simp [zia] at this
 exact ⟨this.1,this.2⟩
theorem z3b {step:Nat} {l:List Slot} (h:zdj step l) (hs:0<step) {a b:Slot} (ha:a∈l) (hb:b∈l) (ha1:a.1≠ -1) (he:a.1=b.1):a=b:=by
 obtain ⟨i,hi⟩:=yb4 ha
 obtain ⟨j,hj⟩:=yb4 hb
 rcases h i a hi with ⟨h1,_⟩|⟨k,h1,_,h3,_,_⟩
 ·exact absurd h1 ha1
 rcases h j b hj with ⟨g1,_⟩|⟨k',g1,_,g3,_,_⟩
 ·exact absurd (he.trans g1) ha1
 have:k*step=k'*step:=by omega
 have hk:k=k':=Nat.eq_of_mul_eq_mul_right hs this
 subst hk
 have hij:i=j:=h3.symm.trans g3
 subst hij
 rw [hi] at hj
 exact Option.some.inj hj
theorem zu3 {step:Nat} {l A:List Slot} (h:zdj step l) (hs:0<step) (hp:A.Perm (zia l)) (ho:A.Pairwise fun a b=>a.1≤b.1):A=zbR l:=by
 refine List.Perm.eq_of_pairwise (le:=fun a b:Slot=>a.1≤b.1) (fun a b ha hb h1 h2=> ?_) ho (zv3 l) (hp.trans (ziI l).symm)
 have ha':=hp.mem_iff.1 ha
 simp [zia] at ha'
 exact z3b h hs ha'.1 (zwZ hb).1 ha'.2 (by omega)
def zkW (l:LadM):List SlR:=(zbR l.fine).map (fun s=>⟨0,s.1.toNat,s.2⟩)++(zbR l.wide).map fun s=>⟨1,s.1.toNat,s.2⟩
end Go.Sf
namespace Go.Proofs.YtdbhocoeolhjhaaGreatDoor
open Go.Abs Go.RowKit Go.Sf
variable {G:Globs}
theorem zvP {σ:zac} {id n:Nat}:ACalls Tryz.prog 165 [.sub id n 2 0 0,.fn (.func 166) [] []] σ fun r σ'=>r=.tup []∧σ'=σ:=by
 intro base κ Im w vs hs hv
 obtain ⟨u0,hu0,hv0⟩:=hv.get? (i:=0) (a:=.sub id n 2 0 0) rfl
 obtain ⟨u1,hu1,hv1⟩:=hv.get? (i:=1) (a:=.fn (.func 166) [] []) rfl
 obtain ⟨b,cap2,ad,c,rfl,hk,_,_,had,_,_,_⟩:=hv0.sub_inv
 have hvs:vs= [.slice (some ad) (0-0) c,u1]:=by
  have hlen:=hv.1
  match vs,hlen with
  | [a,b],_=>
   simp at hu0 hu1
   rw [hu0,hu1]
 subst hvs
 refine Calls.mono (AnyF.slices_SortFunc_none Tryz.sortSlot (some ad) c u1 w) ?_
 rintro e' w' ⟨rfl,rfl⟩
 exact ⟨.tup [],σ,.tuple #[],κ,Im,rfl,⟨rfl,rfl⟩,hs,Grow.refl _ _ _ _,.im _ _ (by first|exact .tup _ _ rfl (fun j h=>by simp at h)|constructor<;>simp)⟩
theorem z4y (s:Slot):PCalls Tryz.prog zh1 [.agg (zcI s)] (fun r=>r=.bool (decide (s.1= -1))):=by
 refine zaa hmix zrz rfl ?_
 simp [zlL,zcI]
def z5L (c:List AV):Bool:=match c with
 | .int _ t::_=>decide (t= -1)
 |_=>false
theorem zz7 (pre:zac) (l:List Slot):Asks Tryz.prog pre zh1 [] .agg z5L (zav l):=fun c hc X K hK=>by
 obtain ⟨s,_,rfl⟩:=yav.1 hc
 exact .inl ⟨_,_,ziC (by simp [AV.pure,zcI]),z4y s,fun r hr=>by subst hr;exact hK⟩
theorem zuQ (l:List Slot):((zav l).filter fun n=> !z5L n)=zav (zia l):=by
 unfold zav zia
 rw [List.filter_map]
 rfl
theorem zwR (step:Nat) (l:List Slot) (hz:Sized step l) (h:zdj step l):PCalls Tryz.prog zv5 [.agg (zai step l)] (fun r=>r=.lst (zav (zbR l))):=by
 refine zaa hmix zva rfl ?_
 have hle:=zaw l
 have n1:=hz.n1
 have n2:=hz.n2
 have kR:=zkK (G:=G) step l hz h
 simp only [zai] at kR
 simp [zph,zai]
 refine zad kR (by simp [AV.pure]) ?_
 rintro r rfl
 simp
 refine zar (z1G (zav l) (zcA l) (by omega)) ?_
 rintro r σ (⟨h0,rfl,rfl⟩|⟨rfl,rfl⟩)
 ·have:=congrArg List.length h0
  rw [hle] at this;simp at this;rw [this] at n1;simp at n1
 simp
 have kD:=z7y (G:=G) [.var 112 (zai step l)] (zav l) (zcA l) (by omega) z5L zh1 [] zrR (zz7 _ l)
 rw [zuQ] at kD
 refine zar kD ?_
 rintro r σ ⟨X,rfl,hXl,hXe,hr⟩
 have hfl:=zaw (zia l)
 rcases hr with ⟨rfl,rfl⟩|⟨rfl,n,hX⟩
 ·have hne:zia l≠ []:=fun e=>by rw [hfl,hle,e] at hXl;simp at hXl;omega
  have kS:=zum (G:=G) (σ:= [.var 112 (zai step l),.row 186 2 (zav (zia l)) false]) (id:=1) (e:=186) (A:=zia l) (R:= []) (X:=.row 1 l.length) (.inl ⟨by rw [yby,←hfl,hXl,hle],rfl⟩) (by simp) hne (by rw [←hfl,hXl];omega)
  simp [hle]
  refine zar kS ?_
  rintro r σ ⟨rfl,A',hp,ho,rfl⟩
  have hA':=zu3 h (by have:=hz.s1;omega) hp ho
  subst hA'
  have hll:(zav (zbR l)).length=l.length:=by rw [zaw,(ziI l).length_eq,←hfl,hXl,hle]
  simp [hll,zdK]
 ·have hz0:List.replicate n [AV.int .i64 0,AV.int .i64 0]=zav (List.replicate n (0,0)):=by simp [zav,zcI]
  have hX2:X=zav (zia l++List.replicate n (0,0)):=by rw [hX,hz0];simp [zav]
  have hnl:(zia l++List.replicate n ((0,0):Slot)).length=l.length:=by rw [hX2,zaw,hle] at hXl;exact hXl
  subst hX2
  rw [hfl,hle]
  by_cases hne:zia l= []
  ·have hlm:zbR l= []:=by simp [zbR,hne]
   simp [hne]
   refine zar zvP ?_
   rintro r σ ⟨rfl,rfl⟩
   have hnl2:(zav (List.replicate n ((0,0):Slot))).length=l.length:=by rw [zaw,←hnl,hne];rfl
   have htwo:∀c∈zav (List.replicate n ((0,0):Slot)),c.length=2:=(zcA _).1
   simp [hnl2,zdK,hlm]
   rw [if_pos htwo]
   simp [zav,hlm]
  ·have kS:=zum (G:=G) (σ:= [.var 112 (zai step l),.row 186 2 (zav (zia l++List.replicate n (0,0))) false]) (id:=1) (e:=186) (A:=zia l) (R:=List.replicate n (0,0)) (X:=.sub 1 l.length 2 0 (zia l).length) (.inr (by rw [hnl])) (by simp) hne (by have:=hnl;simp at this;omega)
   simp
   refine zar kS ?_
   rintro r σ ⟨rfl,A',hp,ho,rfl⟩
   have hA':=zu3 h (by have:=hz.s1;omega) hp ho
   subst hA'
   have hlp:=(ziI l).length_eq
   have hnl2:(zav (zbR l++List.replicate n ((0,0):Slot))).length=l.length:=by rw [zaw,←hnl];simp [hlp]
   have htwo:∀c∈zav (zbR l++List.replicate n ((0,0):Slot)),c.length=2:=(zcA _).1
   simp [hnl2,zdK]
   rw [if_pos htwo]
   simp [←hlp,zav]
end Go.Proofs.YtdbhocoeolhjhaaGreatDoor
end
section
set_option maxHeartbeats 4000000
namespace Go.Proofs.YtdbhocoeolhjhaaGreatDoor
open Go.Abs Go.RowKit Go.Sf Go.Num
variable {G:Globs}
def zhU (i:Nat) (s:Slot):SlR:=⟨i,s.1.toNat,s.2⟩
theorem zlG {step:Nat} {l:List Slot} (h:zdj step l) {s:Slot} (hs:s∈zbR l):∃k:Nat,s.1=(k:Int)∧k≤1099511627776∧i64 s.2∧s.2≠ -9223372036854775808:=by
 obtain ⟨hm,hne⟩:=zwZ hs
 obtain ⟨i,hi⟩:=yb4 hm
 rcases h i s hi with ⟨h1,_⟩|⟨k,h1,h2,_,h4,h5⟩
 ·exact absurd h1 hne
 ·exact ⟨_,h1,h2,h4,h5⟩
theorem z2m (l:LadM) (h:RightL l):PCalls Tryz.prog zpW [.agg (ladC l)] (fun r=>r=.lst (zhw (zkW l))):=by
 refine zaa hmix zpK rfl ?_
 simp [zj9,ladC]
 refine zad (ztl l h) (by simp [AV.pure,ladC]) ?_
 rintro r rfl
 simp [zap]
 obtain ⟨R0,hR0⟩:∃R0:Entry,R0=.var 55 (ladC l):=⟨_,rfl⟩
 obtain ⟨L1,hL1⟩:∃L1,L1=(zbR l.fine).map (zhU 0):=⟨_,rfl⟩
 obtain ⟨L2,hL2⟩:∃L2,L2=(zbR l.wide).map (zhU 1):=⟨_,rfl⟩
 have hrec:zkW l=L1++L2:=by rw [hL1,hL2];rfl
 have n1:=zof l.fine
 have n2:=zof l.wide
 rw [h.n1] at n1
 rw [h.n2] at n2
 have hl1:L1.length≤6:=by rw [hL1];simpa using n1
 have hl2:L2.length≤5:=by rw [hL2];simpa using n2
 refine zah (fun x f σ=>∃(i:Nat) (tl:zac),x=2-i∧i≤2∧AccT 74 9 1 tl (f 3) (zhw (if i=0 then [] else if i=1 then L1 else L1++L2))∧f 12=.lst (zap l)∧f 13=.int .i64 2∧f 14=.int .i64 i∧σ=R0::tl) 2 ?_ ?_
 ·exact ⟨0,[],by simp,by simp,by simp [zhw];exact zgt,by simp [zap],by simp,by simp,by simp [hR0,ladC,zap]⟩
 rintro x f σ ⟨i,tl,rfl,hi,hA,f12,f13,f14,rfl⟩
 have hi3:i=0∨i=1∨i=2:=by omega
 rcases hi3 with rfl|rfl|rfl
 ·simp at hA
  simp [f12,f13,f14,zap,zai]
  refine zad (by have:=zwR (G:=G) 10 l.fine (zsD h) h.r1;exact this) (by simp [AV.pure]) ?_
  rintro r rfl
  have hml:=zaw (zbR l.fine)
  simp [hml]
  have hA0:=hA.more [Entry.var 112 (zai 10 l.fine)]
  refine zah (fun x f σ=>∃(j:Nat) (tl:zac),x=(zbR l.fine).length-j∧j≤(zbR l.fine).length∧AccT 74 9 1 tl (f 3) (zhw ([]++((zbR l.fine).take j).map (zhU 0)))∧f 4=.int .i64 0∧f 12=.lst (zap l)∧f 13=.int .i64 2∧f 14=.int .i64 0∧f 20=.lst (zav (zbR l.fine))∧f 21=.int .i64 (zbR l.fine).length∧f 22=.int .i64 j∧σ=R0::tl) (zbR l.fine).length ?_ ?_
  ·exact ⟨0,_,by simp,by simp,by simpa using hA0,by simp,by simp [f12,zap,zai],by simp [f13],by simp [f14],by simp,by simp,by simp,by simp [zai]⟩
  clear f12 f13 f14 hA hA0
  rintro x f σ ⟨j,tl,rfl,hj,hA,f4,f12,f13,f14,f20,f21,f22,rfl⟩
  simp [f21,f22]
  refine zax (fun hlt=> ?_) (fun hge=> ?_)
  ·have hlt':j<(zbR l.fine).length:=by omega
   have hwj:IntKind.i64.wrap ((j:Int)+1)=((j+1:Nat):Int):=by rw [wrap_i64 (by omega) (by omega)];omega
   obtain ⟨s,hs⟩:∃s,(zbR l.fine)[j]? =some s:=⟨_,yad hlt'⟩
   have hc:=zdb hs
   obtain ⟨hx1,hx2⟩:=yaa.1 hc
   obtain ⟨k,hk,hk2,_,_⟩:=zlG h.r1 (yaf hs)
   have hrs: [.int .i64 3,.str [],.int .i64 0,.int .i64 0,.lst [],.int .i64 0,.int .i64 s.1,.int .i64 0,.int .i64 s.2]=slRC (zhU 0 s):=by
    simp [slRC,zcy,zhU,hk]
   have hlen:(zhw ([]++((zbR l.fine).take j).map (zhU 0))).length≤12:=by
    rw [zpa];simp;omega
   have hsn:zhw ([]++((zbR l.fine).take (j+1)).map (zhU 0))=zhw ([]++((zbR l.fine).take j).map (zhU 0))++ [slRC (zhU 0 s)]:=by
    rw [yax,hs]
    simp [zhw]
   simp [f4,f20,f22,hc,hx2,zcI,zam,zal,splice]
   rw [hrs]
   refine zmt (bytes:=96) (σ:= [R0]) (hA.more [Entry.var 186 [.int .i64 s.1,.int .i64 s.2]]) (slRC (zhU 0 s)) (by decide) rfl (by omega) (by omega) fun v' τ' hA' hle' _=> ?_
   simp [f22,hwj]
   refine zae ((zbR l.fine).length-(j+1)) (by omega) ⟨j+1,τ',rfl,by omega, ?_,by simp [f4],by simp [f12],by simp [f13],by simp [f14],by simp [f20],by simp [f21],by simp,rfl⟩
   simp
   simp only [yci] at hsn hA'
   rw [←yem,hsn]
   exact hA'
  ·have hjl:j=(zbR l.fine).length:=by omega
   subst hjl
   rw [ya1] at hA
   simp [f14,wk1]
   exact zae 1 (by omega) ⟨1,tl,rfl,by omega,by simpa [hL1] using hA,by simp [f12,zap,zai],by simp [f13],by simp,rfl⟩
 ·simp at hA
  simp [f12,f13,f14,zap,zai]
  refine zad (by have:=zwR (G:=G) 60 l.wide (zpZ h) h.r2;exact this) (by simp [AV.pure]) ?_
  rintro r rfl
  have hml:=zaw (zbR l.wide)
  simp [hml]
  have hA0:=hA.more [Entry.var 112 (zai 60 l.wide)]
  refine zah (fun x f σ=>∃(j:Nat) (tl:zac),x=(zbR l.wide).length-j∧j≤(zbR l.wide).length∧AccT 74 9 1 tl (f 3) (zhw (L1++((zbR l.wide).take j).map (zhU 1)))∧f 4=.int .i64 1∧f 12=.lst (zap l)∧f 13=.int .i64 2∧f 14=.int .i64 1∧f 20=.lst (zav (zbR l.wide))∧f 21=.int .i64 (zbR l.wide).length∧f 22=.int .i64 j∧σ=R0::tl) (zbR l.wide).length ?_ ?_
  ·exact ⟨0,_,by simp,by simp,by simpa using hA0,by simp,by simp [f12,zap,zai],by simp [f13],by simp [f14],by simp,by simp,by simp,by simp [zai]⟩
  clear f12 f13 f14 hA hA0
  rintro x f σ ⟨j,tl,rfl,hj,hA,f4,f12,f13,f14,f20,f21,f22,rfl⟩
  simp [f21,f22]
  refine zax (fun hlt=> ?_) (fun hge=> ?_)
  ·have hlt':j<(zbR l.wide).length:=by omega
   have hwj:IntKind.i64.wrap ((j:Int)+1)=((j+1:Nat):Int):=by rw [wrap_i64 (by omega) (by omega)];omega
   obtain ⟨s,hs⟩:∃s,(zbR l.wide)[j]? =some s:=⟨_,yad hlt'⟩
   have hc:=zdb hs
   obtain ⟨hx1,hx2⟩:=yaa.1 hc
   obtain ⟨k,hk,hk2,_,_⟩:=zlG h.r2 (yaf hs)
   have hrs: [.int .i64 3,.str [],.int .i64 0,.int .i64 0,.lst [],.int .i64 1,.int .i64 s.1,.int .i64 0,.int .i64 s.2]=slRC (zhU 1 s):=by
    simp [slRC,zcy,zhU,hk]
   have hlen:(zhw (L1++((zbR l.wide).take j).map (zhU 1))).length≤12:=by
    rw [zpa];simp;omega
   have hsn:zhw (L1++((zbR l.wide).take (j+1)).map (zhU 1))=zhw (L1++((zbR l.wide).take j).map (zhU 1))++ [slRC (zhU 1 s)]:=by
    rw [yax,hs]
    simp [zhw]
   simp [f4,f20,f22,hc,hx2,zcI,zam,zal,splice]
   rw [hrs]
   refine zmt (bytes:=96) (σ:= [R0]) (hA.more [Entry.var 186 [.int .i64 s.1,.int .i64 s.2]]) (slRC (zhU 1 s)) (by decide) rfl (by omega) (by omega) fun v' τ' hA' hle' _=> ?_
   simp [f22,hwj]
   refine zae ((zbR l.wide).length-(j+1)) (by omega) ⟨j+1,τ',rfl,by omega, ?_,by simp [f4],by simp [f12],by simp [f13],by simp [f14],by simp [f20],by simp [f21],by simp,rfl⟩
   simp
   rw [←yem,hsn]
   exact hA'
  ·have hjl:j=(zbR l.wide).length:=by omega
   subst hjl
   rw [ya1] at hA
   simp [f14,wk2]
   exact zae 0 (by omega) ⟨2,tl,rfl,by omega,by simpa [hL2] using hA,by simp [f12,zap,zai],by simp [f13],by simp,rfl⟩
 ·simp at hA
  have hf:=AccT.finR (σ:= [R0]) hA 0
  simp only [ybv,yci] at hf
  simp [f13,f14,hf,hrec]
theorem z64 (x y:Nat) (hx:x<18446744073709551616) (hy:y<18446744073709551616):PCalls Tryz.prog zpi [.int .u64 x,.int .u64 y] (fun r=>r=.tup [.int .u64 ((x*y/18446744073709551616:Nat):Int),.int .u64 ((x*y%18446744073709551616:Nat):Int)]):=by
 refine zaa hmix zp4 rfl ?_
 have hw1:IntKind.u64.wrap ((x*y/18446744073709551616:Nat):Int)=((x*y/18446744073709551616:Nat):Int):=by
  rw [zbg]
  have:x*y/18446744073709551616<18446744073709551616:=by
   have h1:x*y≤x*18446744073709551615:=ycq x (by omega)
   omega
  omega
 have hw2:IntKind.u64.wrap ((x*y%18446744073709551616:Nat):Int)=((x*y%18446744073709551616:Nat):Int):=by rw [zbg];omega
 obtain ⟨h,hh⟩:∃h,h=x*y/18446744073709551616:=⟨_,rfl⟩
 obtain ⟨l,hl⟩:∃l,l=x*y%18446744073709551616:=⟨_,rfl⟩
 have kM:=zwK (G:=G) x y hx hy
 rw [←hh,←hl] at kM⊢
 rw [←hh] at hw1
 rw [←hl] at hw2
 have wx:IntKind.u64.wrap (x:Int)=(x:Int):=by rw [zbg];omega
 have wy:IntKind.u64.wrap (y:Int)=(y:Int):=by rw [zbg];omega
 simp [ziG,wx,wy]
 refine zad kM (by simp) ?_
 rintro r rfl
 simp [hw1,hw2]
def znQ (n:Nat):List Slot:=List.replicate n (-1,0)
def repS (n k:Nat):List (List AV):=List.replicate k [AV.int .i64 (-1),AV.int .i64 0]++List.replicate (n-k) [AV.int .i64 0,AV.int .i64 0]
theorem zwB {n k:Nat} (h:k≤n):(repS n k).length=n:=by simp [repS];omega
theorem zti (n k:Nat):(repS n k).take k=List.replicate k [AV.int .i64 (-1),AV.int .i64 0]:=by
 unfold repS
 exact ycj (by simp)
theorem z0F {n k:Nat} (h:k≤n):(repS n k).take k++(List.replicate k [AV.int .i64 (-1),AV.int .i64 0]).take (n-k)++(repS n k).drop (k+min k (n-k))=repS n (k+min k (n-k)):=by
 rw [zti,List.take_replicate]
 unfold repS
 rw [yd1]
 simp only [List.length_replicate]
 rw [show k+min k (n-k)-k=min k (n-k) by omega,List.drop_replicate,List.drop_replicate,show k-(k+min k (n-k))=0 by omega,List.replicate_zero,yci,Nat.min_comm (n-k) k,List.replicate_append_replicate]
 congr 2
 omega
theorem zzr (n:Nat):List.replicate n [AV.int .i64 0,AV.int .i64 0]=repS n 0:=by simp [repS]
theorem z3c (n:Nat): [[AV.int .i64 (-1),AV.int .i64 0]].take n++(repS n 0).drop (min 1 n)=repS n (min 1 n):=by
 cases n with
 |zero=>simp [repS]
 |succ n=>simp [repS,ydb]
theorem z32 (n:Nat):repS n n=zav (znQ n):=by simp [repS,zav,zcI,znQ]
theorem z0G (n:Nat) (hn:n≤100000):PCalls Tryz.prog zec [.lst [[.int .i64 (-1),.int .i64 0]],.int .i64 n] (fun r=>r=.lst (zav (znQ n))):=by
 refine zaa hmix zdW rfl ?_
 have kM:=z64 (G:=G) 1 n (by decide) (by omega)
 have e1:1*n/18446744073709551616=0:=by omega
 have e2:1*n%18446744073709551616=n:=by omega
 rw [e1,e2] at kM
 have w1:IntKind.u64.wrap (n:Int)=(n:Int):=by rw [zbg];omega
 have w2:IntKind.i64.wrap (n:Int)=(n:Int):=wrap_i64 (by omega) (by omega)
 have w3:IntKind.u64.wrap 1=1:=by decide
 have h0:¬(n:Int)<0:=by omega
 have h9:¬(9223372036854775807:Int)<(n:Int):=by omega
 have h9':¬9223372036854775807<n:=by omega
 simp [zbO,h0,w1,w3]
 refine zad kM (by simp) ?_
 rintro r rfl
 simp [h9,h9',w2]
 refine zrX n rfl rfl (by omega) (by omega) (by decide) rfl ?_
 rw [zzr]
 have hl0:=zwB (n:=n) (ydk n)
 simp
 refine zxo [[.int .i64 (-1),.int .i64 0]] (min 1 n) (σ':= [.row 186 2 (repS n (min 1 n)) false]) rfl (by simp) (by decide) ?_ ?_
 ·simp [zvh,hl0]
  have:=z3c n
  simpa using this
 simp
 refine zah (fun x f σ=>∃k:Nat,x=n-k∧k≤n∧(1≤k∨n=0)∧f 7=.row 0 n∧f 8=.int .i64 k∧σ= [.row 186 2 (repS n k) false]) (n-min 1 n) ?_ ?_
 ·exact ⟨min 1 n,rfl,by omega,by omega,by simp,by simp,rfl⟩
 rintro x f σ ⟨k,rfl,hk,hk1,f7,f8,rfl⟩
 have hl:=zwB hk
 simp [f7,f8,hl]
 refine zax (fun hlt=> ?_) (fun hge=> ?_)
 ·have hlt':k<n:=by omega
  have hn0:0<n:=by omega
  have hm:1≤min k (n-k):=by omega
  obtain ⟨d,hd⟩:∃d,d=min k (n-k):=⟨_,rfl⟩
  have hw:IntKind.i64.wrap ((k:Int)+d)=((k+d:Nat):Int):=by rw [wrap_i64 (by omega) (by omega)];omega
  have hkn:k≤n:=by omega
  simp [f7,f8,hl,hn0,hkn]
  refine zxo (List.replicate k [.int .i64 (-1),.int .i64 0]) d (σ':= [.row 186 2 (repS n (k+d)) false]) ?_ (by simp) (by decide) ?_ ?_
  ·simp [hl,zti]
  ·have:=z0F hkn
   rw [←hd] at this
   simp only [zvh,ybm,hl,List.length_replicate]
   rw [if_pos ⟨trivial,trivial,trivial,hkn,yaq _⟩]
   simp only [←hd,List.set_cons_zero]
   rw [this]
  simp [hw]
  refine zae (n-(k+d)) (by omega) ⟨k+d,rfl,by omega,by omega,by simp [f7],by simp,rfl⟩
 ·have:k=n:=by omega
  subst this
  have hll:(zav (znQ k)).length=k:=by simp [zaw,znQ]
  simp [f7,z32,zdK,hll]
theorem zq4 (s n:Nat) (h1:1≤s) (h2:s≤86400) (h3:1≤n) (h4:n≤400):PCalls Tryz.prog zyf [.int .i64 s,.int .i64 n] (fun r=>r=.tup [.agg (zai s (znQ n)),.int .i64 0]):=by
 refine zaa hmix zy2 rfl ?_
 simp [zqo]
 refine zad (zu1 s n h1 h2 h3 h4) (by simp) ?_
 rintro r rfl
 simp
 refine zad (z0G n (by omega)) (by simp [AV.pure]) ?_
 rintro r rfl
 simp [splice,zai]
theorem zzI:PCalls Tryz.prog zur [.agg schC] (fun r=>r=.tup [.agg (ladC newL),.int .i64 0]):=by
 refine zaa hmix zt3 rfl ?_
 have k1:=zq4 (G:=G) 10 6 (by omega) (by omega) (by omega) (by omega)
 have k2:=zq4 (G:=G) 60 5 (by omega) (by omega) (by omega) (by omega)
 simp only [zai] at k1 k2
 simp [znI,schC]
 refine zad z0b (by simp) ?_
 rintro r rfl
 simp
 refine zad znx (by simp [AV.pure]) ?_
 rintro r rfl
 simp [splice]
 obtain ⟨S0,hS0⟩:∃S0:Entry,S0=.var 52 schC:=⟨_,rfl⟩
 obtain ⟨L0,hL0⟩:∃L0:Entry,L0=.var 55 [.int .i64 0,.int .i64 0,.nils]:=⟨_,rfl⟩
 refine zah (fun x f σ=>∃(i:Nat),x=2-i∧i≤2∧f 2=.ptr 1 0∧f 4=.ptr 2 0∧f 28=.lst rungsC∧f 29=.int .i64 2∧f 30=.int .i64 i∧
  ((i=0∧σ= [S0,L0,.var 55 [.int .i64 1,.int .i64 500000,.nils]])∨
   (i=1∧∃a b,σ= [S0,L0,.var 55 [.int .i64 1,.int .i64 500000,.row 5 1],a,b,.row 112 2 [zai 10 (znQ 6)] true])∨
   (i=2∧∃a b c d,σ= [S0,L0,.var 55 [.int .i64 1,.int .i64 500000,.row 5 2],a,b,.row 112 2 [zai 10 (znQ 6),zai 60 (znQ 5)] true,c,d]))) 2 ?_ ?_
 ·exact ⟨0,by simp,by simp,by simp,by simp,by simp,by simp [rungsC],by simp,.inl ⟨rfl,by simp [hS0,hL0,schC]⟩⟩
 rintro x f σ ⟨i,rfl,hi,f2,f4,f28,f29,f30,⟨rfl,rfl⟩|⟨rfl,a,b,rfl⟩|⟨rfl,a,b,c,d,rfl⟩⟩
 ·simp [f2,f4,f28,f29,f30,rungsC,splice]
  refine zad k1 (by simp) ?_
  rintro r rfl
  simp [f4,splice]
  refine zhS true [zai 10 (znQ 6)] (by simp [view,zai]) (by decide) (by simp [zai]) (fun _=> .inl (by simp [zf4,zai])) (by simp) (by simp) ?_
  simp [f4,f30,splice,wk1]
  exact zae 1 (by omega) ⟨1,rfl,by omega,by simp [f2],by simp [f4],by simp [f28,rungsC],by simp [f29],by simp,.inr (.inl ⟨rfl,_,_,rfl⟩)⟩
 ·simp [f2,f4,f28,f29,f30,rungsC,splice]
  refine zad k2 (by simp) ?_
  rintro r rfl
  simp [f4,splice]
  refine zaK [zai 10 (znQ 6)] [zai 60 (znQ 5)] true (by simp) (by simp [view,zai]) (by decide) (by simp [zai]) (fun _=> .inl (by simp [zf4,zai])) rfl (by simp) (by simp) ?_
  simp [f4,f30,splice,wk2]
  exact zae 0 (by omega) ⟨2,rfl,by omega,by simp [f2],by simp [f4],by simp [f28,rungsC],by simp [f29],by simp,.inr (.inr ⟨rfl,a,b,_,_,rfl⟩)⟩
 ·simp [f2,f4,f29,f30,hL0,splice,ladC,zap,newL]
  exact ⟨rfl,rfl⟩
theorem zvw (l:LadM) (t now:Nat) (ht:t≤1000000000) (hn:now≤1000000000):PCalls Tryz.prog ziM [.agg (ladC l),.agg [.int .i64 t,.int .i64 (-9223372036854775808)],.int .i64 now] (fun r=>r=.tup [.agg (ladC l),.int .i64 1]):=by
 refine zaa hmix ziA rfl ?_
 simp [zf7,ladC]
 refine zad (zlr t (by omega)) (by simp) ?_
 rintro r rfl
 simp
 refine zad (zlr now (by omega)) (by simp) ?_
 rintro r rfl
 simp [splice]
def zyK (bs:List ArrM):List ArrM:=bs.takeWhile fun a=>decide (a.value≠ -9223372036854775808)
theorem z3u {bs:List ArrM} {i:Nat} {a:ArrM} (h:bs[i]? =some a) (hv:∀x∈bs.take i,OkV x) (ha:¬OkV a):zyK bs=bs.take i:=by
 induction bs generalizing i with
 |nil=>simp at h
 |cons b bs ih=>
  cases i with
  |zero=>
   simp at h;subst h
   unfold OkV at ha
   simp [zyK,Classical.not_not.1 ha]
  |succ i=>
   have hb:OkV b:=hv b (by simp)
   have:=ih (i:=i) (by simpa using h) fun x hx=>hv x (by simp [hx])
   unfold OkV at hb
   simp only [zyK] at this⊢
   simp [hb]
   simpa using this
theorem ztJ {bs:List ArrM} (hv:∀x∈bs,OkV x):zyK bs=bs:=by
 induction bs with
 |nil=>rfl
 |cons b bs ih=>
  have hb:OkV b:=hv b (by simp)
  have:=ih fun x hx=>hv x (by simp [hx])
  unfold OkV at hb
  simp only [zyK] at this⊢
  simp [hb]
  simpa using this
instance (a:ArrM):Decidable (OkV a):=by unfold OkV;exact inferInstance
theorem zzQ (l:LadM) (h:RightL l) (bs:List ArrM) (hb:∀a∈bs,OkA a) (hl:bs.length≤1000):PCalls Tryz.prog zpF [.agg (ladC l),.lst (zbi bs)] (fun r=>r=.tup [.agg (ladC (zcH l (zyK bs))),.int .i64 (if∀a∈bs,OkV a then 0 else 1)]):=by
 refine zaa hmix zqd rfl ?_
 have hle:=zc7 bs
 simp [zj5,hle,ladC]
 obtain ⟨E0,hE0⟩:∃E0:Entry,E0=.var 55 [.int .i64 0,.int .i64 0,.nils]:=⟨_,rfl⟩
 refine zah (fun x f σ=>∃(i:Nat) (tl:zac),x=bs.length-i∧i≤bs.length∧(∀a∈bs.take i,OkV a)∧f 2=.ptr 0 0∧f 4=.ptr 1 0∧f 9=.lst (zbi bs)∧f 10=.int .i64 bs.length∧f 11=.int .i64 i∧σ=.var 55 (ladC (zcH l (bs.take i)))::E0::tl) bs.length ?_ ?_
 ·exact ⟨0,[],by simp,by simp,by simp,by simp,by simp,by simp,by simp,by simp,by simp [hE0,ladC,zcH]⟩
 rintro x f σ ⟨i,tl,rfl,hi,hv,f2,f4,f9,f10,f11,rfl⟩
 simp [f10,f11]
 refine zax (fun hlt=> ?_) (fun hge=> ?_)
 ·have hlt':i<bs.length:=by omega
  have hwi:IntKind.i64.wrap ((i:Int)+1)=((i+1:Nat):Int):=by rw [wrap_i64 (by omega) (by omega)];omega
  obtain ⟨a,ha⟩:∃a,bs[i]? =some a:=⟨_,yad hlt'⟩
  have hc:=zlV ha
  obtain ⟨hx1,hx2⟩:=yaa.1 hc
  have ok:=hb a (yaf ha)
  have hsn:bs.take (i+1)=bs.take i++ [a]:=by rw [yax,ha];rfl
  have hr:RightL (zcH l (bs.take i)):=zhq h fun x hx=>⟨hb x (yak hx),hv x hx⟩
  simp [f2,f9,f11,hc,hx2,arrC,zam,zal,splice,ladC]
  by_cases okv:OkV a
  ·have kA:=zxF (G:=G) _ hr a.time a.now a.value ok.t ok.n ok.le ok.ge ok.v okv
   have hst:zcB (zcH l (bs.take i)) a.time a.now a.value=zcH l (bs.take (i+1)):=by rw [hsn,zmy];rfl
   rw [hst] at kA
   simp only [ladC] at kA
   refine zad kA (by simp [AV.pure]) ?_
   rintro r rfl
   simp [f2,f11,zam,zal,splice,ladC,hwi]
   refine zae (bs.length-(i+1)) (by omega) ⟨i+1,tl++ [.var 91 (arrC a)],rfl,by omega,fun x hx=> ?_,by simp [f2],by simp [f4],by simp [f9],by simp [f10],by simp,by simp [ladC,arrC]⟩
   rw [hsn] at hx
   rcases yai.1 hx with h1|h1
   ·exact hv x h1
   ·simp at h1;subst h1;exact okv
  ·have hav:a.value= -9223372036854775808:=Classical.not_not.1 okv
   have kA:=zvw (G:=G) (zcH l (bs.take i)) a.time a.now ok.t ok.n
   have hn:¬∀a∈bs,OkV a:=fun hh=>okv (hh a (yaf ha))
   simp only [ladC] at kA
   rw [hav]
   refine zad kA (by simp [AV.pure]) ?_
   rintro r rfl
   rw [z3u ha hv okv]
   simp [f2,f4,hE0,splice,hn,zsG]
 ·have hil:i=bs.length:=by omega
  subst hil
  rw [ya1] at hv⊢
  rw [ztJ hv]
  simp [f2,f4,hE0,splice,ladC,hv]
  exact hv
end Go.Proofs.YtdbhocoeolhjhaaGreatDoor
end
section
namespace Go.Sf
section
variable {α:Type} {key:α→Txt}
theorem z1V (l:List α) (x:α):(insK key l x).Perm (x::l):=by
 have:=List.perm_middle (a:=x) (l₁:=l.take (posK key l (key x))) (l₂:=l.drop (posK key l (key x)))
 rwa [ya9] at this
theorem z8h {l:List α} {s:Txt} (hs:Srt key l) (h:hasK key l s):∃x,l[posK key l s]? =some x∧key x=s∧l.Perm (x::delK key l s):=by
 obtain ⟨x,hx,hk⟩:=(zd9 hs).1 h
 have hlt:=(yaa.1 hx).1
 refine ⟨x,hx,hk, ?_⟩
 have e:l=l.take (posK key l s)++x::l.drop (posK key l s+1):=by
  conv=>lhs;rw [←ya9 (posK key l s) l]
  rw [ybw hlt,(yaa.1 hx).2]
 conv=>lhs;rw [e]
 exact List.perm_middle
end
theorem ziE {l:List NameM} (hs:Srt kN l) {n:NameM} (h:n∈l):idOf l n.name=n.id:=by
 induction l with
 |nil=>simp at h
 |cons x l ih=>
  unfold idOf
  split
  ·rename_i hx
   rw [zrn hs (x:=x) (y:=n) (by simp) h hx]
  ·rename_i hx
   rcases ybb.1 h with rfl|h
   ·exact absurd rfl hx
   ·exact ih (List.Pairwise.of_cons hs) h
theorem z3s {l:List NameM} (hs:Srt kN l) {s:Txt} (h:hasK kN l s):∃n∈l,n.name=s∧n.id=idOf l s:=by
 obtain ⟨n,hn,rfl⟩:=h
 exact ⟨n,hn,rfl,(ziE hs hn).symm⟩
def modF (fs:List FileM) (id:Nat) (g:FileM→FileM):List FileM:=fs.map fun f=>if f.id=id then g f else f
def za1 (d:DiskM) (s:Txt):DiskM:={d with files:=d.files++ [⟨d.next,[],0⟩],names:=insK kN d.names ⟨s,d.next⟩,moves:=d.moves++ [⟨1,s,[],d.next⟩],next:=d.next+1}
def zaQ (d:DiskM) (s b:Txt):DiskM:={d with files:=modF d.files (idOf d.names s) fun f=>{f with bytes:=f.bytes++b}}
def zcX (d:DiskM) (s:Txt):DiskM:={d with files:=modF d.files (idOf d.names s) fun f=>{f with sure:=f.bytes.length}}
def zbs (d:DiskM):DiskM:={d with kept:=d.names,moves:= [],files:=d.files.filter fun f=>decide (∃n∈d.names,n.id=f.id)}
def zc2 (d:DiskM) (s t:Txt):DiskM:={d with names:=insK kN (zfZ (delK kN d.names s) t) ⟨t,idOf d.names s⟩,moves:=d.moves++ [⟨3,s,t,0⟩]}
def zcO (d:DiskM) (s:Txt):DiskM:={d with names:=delK kN d.names s,moves:=d.moves++ [⟨2,s,[],0⟩]}
theorem zhu {l:List NameM} {ms:List MoveM} {m:MoveM}:replay l (ms++ [m])=(replay l ms).bind fun l'=>zft l' m:=by
 induction ms generalizing l with
 |nil=>simp [replay]
 |cons x ms ih=>
  simp only [ybv,replay]
  cases zft l x with
  |none=>rfl
  |some l'=>simpa using ih
theorem zqF {l:List NameM} {x:NameM} (h:Listed l) (hn:¬hasK kN l x.name) (ho:okS x.name) (hi:x.id∉l.map (·.id)):Listed (insK kN l x):=by
 refine ⟨zh8 h.srt hn,fun n hm=> ?_, ?_⟩
 ·rcases zcp.1 hm with rfl|hm
  ·exact ho
  ·exact h.ok n hm
 ·have:=(z1V (key:=kN) l x).map (·.id)
  refine this.nodup_iff.2 ?_
  rw [yc6,ydl]
  exact ⟨hi,h.ids⟩
theorem zqA {l l':List NameM} (h:Listed l) (hs:l'.Sublist l):Listed l':=⟨h.srt.sublist hs,fun n hn=>h.ok n (hs.subset hn),h.ids.sublist (hs.map _)⟩
theorem zqE {l:List NameM} (h:Listed l) (s:Txt):Listed (delK kN l s):=zqA h (ziZ l s)
theorem zrv (l:List NameM) (s:Txt):(zfZ l s).Sublist l:=by
 unfold zfZ;split
 ·exact ziZ l s
 ·exact List.Sublist.refl _
theorem zxn {l:List NameM} (hs:Srt kN l) (s:Txt):¬hasK kN (zfZ l s) s:=by
 unfold zfZ;split
 ·rename_i hh
  rintro ⟨x,hx,hk⟩
  exact ((zeJ hs hh).1 hx).2 hk
 ·assumption
theorem zol {l:List NameM} (hs:Srt kN l) {s:Txt} {n:NameM}:n∈zfZ l s↔n∈l∧n.name≠s:=by
 unfold zfZ;split
 ·rename_i hh;exact zeJ hs hh
 ·rename_i hh
  exact ⟨fun h=>⟨h,fun e=>hh ⟨n,h,e⟩⟩,fun h=>h.1⟩
theorem RightM.idlt {d:DiskM} (h:RightM d) {i:Nat} (hi:i∈idsM d):1≤i∧i<d.next:=by
 obtain ⟨f,hf,rfl⟩:=(h.same i).1 hi
 have:=h.filed.2 f hf
 exact ⟨this.1,this.2.1⟩
theorem zjK (ms:List MoveM) (m:MoveM):zbL (ms++ [m])=zbL ms++(if m.kind=1 then [m.id] else []):=by
 unfold zbL
 by_cases h:m.kind=1<;>simp [h]
theorem zn5 {d:DiskM} {s:Txt} (h:RightM d) (ho:okS s) (hn:¬hasK kN d.names s) (hf:d.files.length<256) (hx:d.next<1099511627776):RightM (za1 d s):=by
 have hids:idsM (za1 d s)=idsM d++ [d.next]:=by
  simp only [idsM,za1,zjK,if_pos,ya3]
 have hnew:d.next∉idsM d:=fun hm=>by have:=(h.idlt hm).2;omega
 refine ⟨h.quota, ?_, ?_, ?_,h.kept, ?_,⟨?_,fun f hm=> ?_⟩, ?_, ?_,fun i=> ?_,fun n hm=> ?_, ?_⟩
 ·show 1≤d.next+1;omega
 ·show d.next+1≤_;omega
 ·show (d.files++ [_]).length≤256;simp;omega
 ·exact zqF h.names hn ho (fun hm=>by
   obtain ⟨n,hn',e⟩:=yav.1 hm
   have:=(h.idlt (h.nids n hn')).2
   simp only at e;omega)
 ·show (d.files++ [_]).Pairwise _
  rw [ydv]
  refine ⟨h.filed.1,by simp,fun a ha b hb=> ?_⟩
  simp at hb;subst hb
  exact (h.filed.2 a ha).2.1
 ·have hm':f∈d.files++ [⟨d.next,[],0⟩]:=hm
  show 1≤f.id∧f.id<d.next+1∧_
  rcases yai.1 hm' with hm|hm
  ·have:=h.filed.2 f hm;exact ⟨this.1,by omega,this.2.2⟩
  ·simp at hm;subst hm;exact ⟨h.next1,by simp,by simp⟩
 ·show replay d.kept (d.moves++ [_])=_
  rw [zhu,h.replay]
  simp only [ydr,zft,if_pos ho,if_pos]
  rw [if_neg (by
   rintro (h1|h1|h1)
   ·exact hn h1
   ·exact h1 rfl
   ·have:=h.next1;simp at h1;omega)]
  rfl
 ·rw [hids,ydi]
  exact ⟨h.ids,by simp,fun a ha b hb e=>by simp at hb;subst hb;subst e;exact hnew ha⟩
 ·rw [hids,yai,h.same i]
  show _↔∃f∈d.files++ [_],f.id=i
  simp only [yai,ybh]
  constructor
  ·rintro (⟨f,hf,e⟩|rfl)
   ·exact ⟨f,.inl hf,e⟩
   ·exact ⟨_,.inr rfl,rfl⟩
  ·rintro ⟨f,hf|rfl,e⟩
   ·exact .inl ⟨f,hf,e⟩
   ·exact .inr e.symm
 ·rw [hids]
  rcases zcp.1 hm with rfl|hm
  ·simp
  ·exact yai.2 (.inl (h.nids n hm))
 ·have:=h.used
  show (((d.files++ [_]).map _).sum)≤d.quota
  simpa [zaC,zbX] using this
theorem z3h (fs:List FileM) (id:Nat) (g:FileM→FileM) (hg:∀f,(g f).id=f.id):(modF fs id g).map (·.id)=fs.map (·.id):=by
 simp only [modF,List.map_map]
 refine ydy fun f _=> ?_
 show (if f.id=id then g f else f).id=f.id
 split
 ·exact hg f
 ·rfl
theorem z8t {fs gs:List FileM} (h:gs.map (·.id)=fs.map (·.id)) (hp:fs.Pairwise fun a b=>a.id<b.id):gs.Pairwise fun a b=>a.id<b.id:=by
 have h1:(fs.map (·.id)).Pairwise (· < ·):=ycm.2 hp
 rw [←h] at h1
 exact ycm.1 h1
theorem ztV {d:DiskM} {id:Nat} {g:FileM→FileM} (h:RightM d) (hg:∀f,(g f).id=f.id) (hsu:∀f∈d.files,(g f).sure≤(g f).bytes.length) (hu:zbX (modF d.files id g)≤d.quota):RightM {d with files:=modF d.files id g}:=by
 have hm:=z3h d.files id g hg
 have hin:∀i,(∃f∈modF d.files id g,f.id=i)↔∃f∈d.files,f.id=i:=fun i=>by
  have h1:(∃f∈modF d.files id g,f.id=i)↔i∈(modF d.files id g).map (·.id):=by simp
  have h2:(∃f∈d.files,f.id=i)↔i∈d.files.map (·.id):=by simp
  rw [h1,h2,hm]
 refine ⟨h.quota,h.next1,h.next2, ?_,h.kept,h.names,⟨z8t hm h.filed.1,fun f hf=> ?_⟩,h.replay,h.ids,fun i=> ?_,h.nids,hu⟩
 ·show (modF d.files id g).length≤256
  simpa [modF] using h.nfiles
 ·obtain ⟨f0,hf0,rfl⟩:=yav.1 hf
  have h0:=h.filed.2 f0 hf0
  show 1≤(if f0.id=id then g f0 else f0).id∧(if f0.id=id then g f0 else f0).id<d.next∧_
  split
  ·rw [hg];exact ⟨h0.1,h0.2.1,hsu f0 hf0⟩
  ·exact h0
 ·show i∈idsM d↔_
  rw [hin,h.same]
theorem zsj:∀(fs:List FileM) (id:Nat) (b:Txt),(fs.map (·.id)).Nodup→zbX (modF fs id fun f=>{f with bytes:=f.bytes++b})≤zbX fs+b.length∧((∃f∈fs,f.id=id)→zbX (modF fs id fun f=>{f with bytes:=f.bytes++b})=zbX fs+b.length)∧((¬∃f∈fs,f.id=id)→zbX (modF fs id fun f=>{f with bytes:=f.bytes++b})=zbX fs)
 | [],_,_,_=>by simp [zbX,modF]
 |f::fs,id,b,hn=>by
  rw [yc6,ydl] at hn
  obtain ⟨h1,h2,h3⟩:=zsj fs id b hn.2
  have hc:∀g,zbX (modF (f::fs) id g)=((if f.id=id then g f else f).bytes.length)+zbX (modF fs id g):=fun g=>by simp [zbX,modF]
  have hc0:zbX (f::fs)=f.bytes.length+zbX fs:=by simp [zbX]
  rw [hc,hc0]
  by_cases he:f.id=id
  ·have hno:¬∃f'∈fs,f'.id=id:=fun ⟨f',hf',e⟩=>hn.1 (yav.2 ⟨f',hf',by rw [e,he]⟩)
   rw [if_pos he,h3 hno]
   refine ⟨by simp;omega,fun _=>by simp;omega,fun hx=>absurd ⟨f,by simp,he⟩ hx⟩
  ·rw [if_neg he]
   refine ⟨by omega, ?_,fun hx=> ?_⟩
   ·rintro ⟨f',hf',e⟩
    rcases ybb.1 hf' with rfl|hf'
    ·exact absurd e he
    ·rw [h2 ⟨f',hf',e⟩];omega
   ·rw [h3 fun ⟨f',hf',e⟩=>hx ⟨f',ybq _ hf',e⟩]
theorem ztP {d:DiskM} {s b:Txt} (h:RightM d) (hb:b.length≤d.quota-zaC d):RightM (zaQ d s b):=by
 have h1:=(zsj d.files (idOf d.names s) b h.filed.ids).1
 have h2:=h.used
 refine ztV h (fun _=>rfl) (fun f hf=> ?_) ?_
 ·have:=(h.filed.2 f hf).2.2
  show f.sure≤(f.bytes++b).length
  simp;omega
 ·have:zbX d.files=zaC d:=rfl
  omega
theorem zlR (d:DiskM) (s:Txt):zaC (zcX d s)=zaC d:=by
 show zbX (modF _ _ _)=zbX _
 unfold zbX modF
 rw [List.map_map]
 congr 1
 refine ydy fun f _=> ?_
 show (if f.id=_ then _ else f).bytes.length=_
 split<;>rfl
theorem zyX {d:DiskM} {s:Txt} (h:RightM d):RightM (zcX d s):=
 ztV h (fun _=>rfl) (fun f hf=>yaq _) (by have:=zlR d s;have:=h.used;simp only [zaC,zcX] at*;omega)
theorem zh6 (p:FileM→Bool):∀fs:List FileM,zbX (fs.filter p)≤zbX fs
 | []=>by simp [zbX]
 |f::fs=>by
  have:=zh6 p fs
  have hc:∀g gs,zbX (g::gs)=g.bytes.length+zbX gs:=fun g gs=>by simp [zbX]
  rw [List.filter_cons]
  split
  ·rw [hc,hc];omega
  ·rw [hc];omega
theorem zsf {d:DiskM} (h:RightM d):RightM (zbs d):=by
 have hids:idsM (zbs d)=d.names.map (·.id):=by simp [idsM,zbs,zbL]
 refine ⟨h.quota,h.next1,h.next2, ?_,h.names,h.names,⟨h.filed.1.filter _,fun f hf=>h.filed.2 f (ybn.1 hf).1⟩,rfl,by rw [hids];exact h.names.ids,fun i=> ?_,fun n hn=> ?_, ?_⟩
 ·exact yca (yd8 _ _) h.nfiles
 ·rw [hids]
  show _↔∃f∈d.files.filter _,f.id=i
  constructor
  ·intro hi
   obtain ⟨n,hn,rfl⟩:=yav.1 hi
   obtain ⟨f,hf,e⟩:=(h.same _).1 (h.nids n hn)
   exact ⟨f,ybn.2 ⟨hf,by simp;exact ⟨n,hn,e.symm⟩⟩,e⟩
  ·rintro ⟨f,hf,rfl⟩
   have:=(ybn.1 hf).2
   simp only [decide_eq_true_eq] at this
   obtain ⟨n,hn,e⟩:=this
   exact yav.2 ⟨n,hn,e⟩
 ·rw [hids];exact yav.2 ⟨n,hn,rfl⟩
 ·exact yca (zh6 _ _) h.used
theorem zwz {d:DiskM} {ns:List NameM} {m:MoveM} (hk:m.kind≠1):idsM {d with names:=ns,moves:=d.moves++ [m]}=idsM d:=by
 simp [idsM,zjK,hk]
theorem ztO {d:DiskM} {s:Txt} (h:RightM d) (ho:okS s) (hh:hasK kN d.names s):RightM (zcO d s):=by
 have hids:idsM (zcO d s)=idsM d:=zwz (by simp)
 refine ⟨h.quota,h.next1,h.next2,h.nfiles,h.kept,zqE h.names s,h.filed, ?_,by rw [hids];exact h.ids,fun i=>by rw [hids];exact h.same i,fun n hn=>by rw [hids];exact h.nids n ((ziZ _ _).subset hn),h.used⟩
 show replay d.kept (d.moves++ [_])=_
 rw [zhu,h.replay]
 simp [zft,ho,hh,zcO]
theorem zsT {d:DiskM} {s t:Txt} (h:RightM d) (ho:okS s) (hh:hasK kN d.names s) (hot:okS t) (hne:t≠s):RightM (zc2 d s t):=by
 have hids:idsM (zc2 d s t)=idsM d:=zwz (by simp)
 obtain ⟨x,hx,hk,hp⟩:=z8h h.names.srt hh
 have hxm:=yaf hx
 have hid:idOf d.names s=x.id:=by rw [←hk];exact ziE h.names.srt hxm
 have hnd:=(hp.map (·.id)).nodup_iff.1 h.names.ids
 rw [yc6,ydl] at hnd
 have hdl:=zqE h.names s
 have hsub:(zfZ (delK kN d.names s) t).Sublist (delK kN d.names s):=zrv _ _
 refine ⟨h.quota,h.next1,h.next2,h.nfiles,h.kept, ?_,h.filed, ?_,by rw [hids];exact h.ids,fun i=>by rw [hids];exact h.same i,fun n hn=> ?_,h.used⟩
 ·refine zqF (zqA hdl hsub) (zxn hdl.srt t) hot (fun hm=> ?_)
  simp only at hm
  rw [hid] at hm
  exact hnd.1 ((hsub.map _).subset hm)
 ·show replay d.kept (d.moves++ [_])=_
  rw [zhu,h.replay]
  simp [zft,ho,hh,hot,hne,zc2]
 ·rw [hids]
  rcases zcp.1 hn with rfl|hn
  ·show idOf d.names s∈_
   rw [hid];exact h.nids x hxm
  ·exact h.nids n ((ziZ _ _).subset (hsub.subset hn))
theorem zzw {q:Nat} (hq:q≤1073741824):RightM ⟨q,[],[],[],[],1⟩:=by
 refine ⟨hq,by simp,by simp,by simp,⟨by simp [Srt],by simp,by simp⟩,⟨by simp [Srt],by simp,by simp⟩,⟨by simp,by simp⟩,rfl,by simp [idsM,zbL],fun i=>by simp [idsM,zbL],by simp,by simp [zaC,zbX]⟩
end Go.Sf
end
section
set_option maxHeartbeats 2000000
namespace Go.Sf
open Go.Abs
def kvs (ids:List Nat):List (AV×AV):=ids.map fun (i:Nat)=>(AV.int .i64 (i:Int),AV.bool true)
theorem zuY (ids:List Nat):(kvs ids).length=ids.length:=by simp [kvs]
theorem z2s (ids:List Nat) (i:Nat):kvs (ids++ [i])=kvs ids++ [(AV.int .i64 (i:Int),AV.bool true)]:=by simp [kvs]
theorem zrw {ids:List Nat} {i:Nat} (h:i∉ids) (p:Nat):zbr 0 (.int .i64 i) (kvs ids) p=some none:=by
 induction ids generalizing p with
 |nil=>rfl
 |cons x ids ih=>
  have hx:¬x=i:=fun e=>h (by simp [e])
  have:=ih (fun hm=>h (by simp [hm])) (p+1)
  simp only [kvs,yc6,zbr]
  simp only [kvs] at this
  have hx2:¬(x:Int)=(i:Int):=by omega
  have hx3:¬(i:Int)=(x:Int):=by omega
  simp [eq1,hx,Ne.symm hx,hx2,hx3,this]
theorem zsQ {ids:List Nat} {i:Nat} (h:i∉ids):zeO 0 (.int .i64 i) (.bool true) (kvs ids)=some (kvs (ids++ [i])):=by
 rw [zeO,zrw h,z2s];rfl
theorem z7S {kv:List (AV×AV)} {tl:zac} {t:TypeId} {c:List AV}:zdF (.mp kv::(tl++ [.var t c]))=zdF tl:=by simp [zdF,Entry.isItr]
theorem z9g {tl:zac} {t:TypeId} {c:List AV}:zdF (tl++ [.var t c])=zdF tl:=by simp [zdF,Entry.isItr]
def NoI (tl:zac):Prop:=zdF tl=true
theorem NoI.nil:NoI []:=rfl
theorem NoI.var {tl:zac} (h:NoI tl) (t:TypeId) (c:List AV):NoI (tl++ [.var t c]):=by unfold NoI;rw [z9g];exact h
theorem NoI.eq {tl:zac} (h:NoI tl):zdF tl=true:=h
theorem w01:IntKind.i64.wrap 1=1:=by decide
theorem z2a {ids:List Nat} {i:Nat} (h:i∈ids) (p:Nat):∃q,zbr 0 (.int .i64 i) (kvs ids) p=some (some (q,.bool true)):=by
 induction ids generalizing p with
 |nil=>simp at h
 |cons x ids ih=>
  simp only [kvs,yc6,zbr]
  by_cases hx:x=i
  ·subst hx;simp [eq1]
  ·obtain ⟨q,hq⟩:=ih (by rcases ybb.1 h with h|h;exact absurd h.symm hx;exact h) (p+1)
   simp only [kvs] at hq
   have hx2:¬(x:Int)=(i:Int):=by omega
   have hx3:¬(i:Int)=(x:Int):=by omega
   simp [eq1,hx,Ne.symm hx,hx2,hx3,hq]
end Go.Sf
namespace Go.Proofs.YtdbhocoeolhjhaaGreatDoor
open Go.Abs Go.RowKit Go.Sf
variable {G:Globs}
theorem zmI (l:List NameM) (s:Txt) (hs:Srt kN l) (hl:l.length≤1000000):PCalls Tryz.prog zpB [.lst (zay l),.str s] (fun r=>r=.lst (zay (zfZ l s))):=by
 refine zaa hmix zqg rfl ?_
 simp [zjD]
 refine zad (ziy l s hs (by omega)) (by simp) ?_
 rintro r rfl
 by_cases hh:hasK kN l s
 ·obtain ⟨x,hx,hk⟩:=(zd9 hs).1 hh
  have hlt:=(yaa.1 hx).1
  have hw:IntKind.i64.wrap ((posK kN l s:Int)+1)=(posK kN l s:Int)+1:=wrap_i64 (by omega) (by omega)
  simp [hh]
  refine zar (zzk (zay l) (ze9 l) (by rw [zaA];omega)) ?_
  rintro r σ (⟨h0,rfl,rfl⟩|⟨rfl,rfl⟩)
  ·have:=congrArg List.length h0
   rw [zaA] at this
   simp at this;rw [this] at hlt;simp at hlt
  simp [hw]
  refine zar (z23 (id:=0) (els:=zay l) (i:=posK kN l s) (by simp) (by rw [zaA];exact hlt)) ?_
  rintro r σ ⟨rfl,rfl⟩
  rw [zyr]
  have hq:(zay l).length-1=(zay (delK kN l s)).length:=by
   have:=zxl hs hh
   rw [zaA,zaA];omega
  rw [hq]
  simp [zoW,zfZ,hh]
 ·simp [hh,zfZ]
def z4o (m:MoveM):Prop:=m.name.length≤1000000∧m.dst.length≤1000000∧m.kind≤1000000∧m.id≤1000000000000000
theorem zxr (l l':List NameM) (m:MoveM) (hs:Srt kN l) (hl:l.length≤1000000) (hd:zft l m=some l') (hm:z4o m):PCalls Tryz.prog zuV [.lst (zay l),.agg (zcW m)] (fun r=>r=.tup [.lst (zay l'),.bool true]):=by
 refine zaa hmix zuT rfl ?_
 obtain ⟨k,nm,tgt,id⟩:=m
 obtain ⟨q1,q2,q3,q4⟩:=hm
 simp only at q1 q2 q3 q4
 simp [zoK,zcW]
 refine zad (ziy l nm hs (by omega)) (by simp) ?_
 rintro r rfl
 have hok:okS nm:=by
  unfold zft at hd
  split at hd
  ·assumption
  ·cases hd
 simp
 refine zad (ziY nm (by omega)) (by simp) ?_
 rintro r rfl
 simp [hok]
 unfold zft at hd
 simp only at hd
 rw [if_pos hok] at hd
 split at hd
 ·rename_i hk
  subst hk
  split at hd
  ·cases hd
  rename_i hc
  simp only [yab] at hd
  subst hd
  have h1:¬hasK kN l nm:=fun h=>hc (.inl h)
  have h2:tgt= []:=Classical.byContradiction fun h=>hc (.inr (.inl h))
  have h3:¬((id:Int)<1):=fun h=>hc (.inr (.inr (by omega)))
  subst h2
  simp [h1,h3]
  refine zad (zwD l nm id hs (by omega)) (by simp) ?_
  rintro r rfl
  simp
 split at hd
 ·rename_i hk1 hk
  subst hk
  split at hd
  ·cases hd
  rename_i hc
  simp only [yab] at hd
  subst hd
  have h1:hasK kN l nm:=Classical.byContradiction fun h=>hc (.inl h)
  have h2:tgt= []:=Classical.byContradiction fun h=>hc (.inr (.inl h))
  have h3:id=0:=Classical.byContradiction fun h=>hc (.inr (.inr h))
  subst h2;subst h3
  simp [h1]
  refine zad (zmI l nm hs (by omega)) (by simp) ?_
  rintro r rfl
  simp [zfZ,h1]
 split at hd
 ·rename_i hk1 hk2 hk
  subst hk
  split at hd
  ·cases hd
  rename_i hc
  simp only [yab] at hd
  subst hd
  have h1:hasK kN l nm:=Classical.byContradiction fun h=>hc (.inl h)
  have h2:okS tgt:=Classical.byContradiction fun h=>hc (.inr (.inl h))
  have h3:¬tgt=nm:=fun h=>hc (.inr (.inr (.inl h)))
  have h4:id=0:=Classical.byContradiction fun h=>hc (.inr (.inr (.inr h)))
  subst h4
  obtain ⟨x,hx,hk⟩:=(zd9 hs).1 h1
  have hlt:=(yaa.1 hx).1
  have hxm:=yaf hx
  have hid:idOf l nm=x.id:=by rw [←hk];exact ziE hs hxm
  have hxc:=zcU hx
  obtain ⟨hy1,hy2⟩:=yaa.1 hxc
  have hsd:Srt kN (delK kN l nm):=zfr hs
  have hld:=zxl hs h1
  simp [h1]
  refine zad (ziY tgt (by omega)) (by simp) ?_
  rintro r rfl
  simp [h2,h3]
  refine zaZ (r:=.lst (zay (delK kN l nm))) ((zmI l nm hs (by omega)).mono fun r h=>by rw [h];simp [zfZ,h1]) (by simp) ?_
  simp
  refine zaZ (zmI (delK kN l nm) tgt hsd (by omega)) (by simp) ?_
  simp [hxc,hy2,zdd]
  have hds:=zrv (delK kN l nm) tgt
  refine zaZ (zwD (zfZ (delK kN l nm) tgt) tgt x.id (hsd.sublist hds) (by have:=hds.length_le;omega)) (by simp) ?_
  simp [hid]
 ·cases hd
theorem zi1 {α:Type} {l:List α} {i:Nat} {n:α} (h:l[i]? =some n):l.take (i+1)=l.take i++ [n]:=by rw [yax,h];rfl
theorem zrG {l:List Nat} (h:l.Nodup) {i x:Nat} (hx:l[i]? =some x):x∉l.take i:=fun hm=>by
 obtain ⟨j,hj,e⟩:=yaw.1 hm
 rw [yan] at hj
 rw [yb7] at e
 obtain ⟨hi,e2⟩:=yaa.1 hx
 have:=(yb1.1 h)
 exact ybg.1 this j i (by omega) hi (by omega) (by rw [e,e2])
theorem zyE (l:List NameM) (h:Listed l) (hl:l.length≤1000000):PCalls Tryz.prog zrJ [.lst (zay l)] (fun r=>r=.bool true):=by
 refine zaa hmix zr7 rfl ?_
 simp [zlO]
 have hle:=zaA l
 obtain ⟨ids,hids⟩:∃ids,ids=l.map (·.id):=⟨_,rfl⟩
 have hnd:ids.Nodup:=by rw [hids];exact h.ids
 refine zah (fun x f σ=>∃(i:Nat) (tl:zac),x=l.length-i∧i≤l.length∧f 0=.lst (zay l)∧f 3=.map 0∧f 7=.lst (zay l)∧f 8=.int .i64 l.length∧f 9=.int .i64 i∧NoI tl∧σ=.mp (kvs (ids.take i))::tl) l.length ?_ ?_
 ·exact ⟨0,[],by simp,by simp,by simp,by simp,by simp,by simp [hle],by simp,NoI.nil,by simp [kvs]⟩
 rintro x f σ ⟨i,tl,hx,hi,h0,h3,h7,h8,h9,hno,rfl⟩
 simp [h8,h9]
 refine zax (fun hlt=> ?_) (fun hge=> ?_)
 ·have hlt':i<l.length:=by omega
  have hwi:IntKind.i64.wrap ((i:Int)+1)=((i+1:Nat):Int):=by rw [wrap_i64 (by omega) (by omega)];omega
  obtain ⟨n,hn⟩:∃n,l[i]? =some n:=⟨_,yad hlt'⟩
  have hc:=zcU hn
  obtain ⟨hx1,hx2⟩:=yaa.1 hc
  have hnm:=yaf hn
  have hok:=h.ok n hnm
  have hidi:ids[i]? =some n.id:=by rw [hids,yb8,hn];rfl
  have hmf:=zrw (zrG hnd hidi) 0
  have hsn:=zi1 hidi
  simp [h0,h3,h7,h9,hc,hx2,zdd,zam,zal,splice]
  refine zaq (r:=.bool true) ((ziY n.name (by have:=hok.2;omega)).mono fun r hr=>by rw [hr];simp [hok]) (by simp) (by simp) ?_
  by_cases hi0:i=0
  ·subst hi0
   have hmf0:zbr 0 (.int .i64 n.id) (kvs []) 0=some none:=rfl
   have hmn:zeO 0 (.int .i64 n.id) (.bool true) (kvs [])=some (kvs [n.id]):=zsQ (ids:= []) (by simp)
   simp [h0,h3,h7,h9,hc,hx2,zdd,zam,zal,splice,hmf0,hmn,z7S,hno.eq, -zbr, -zeO, -zdF, -Entry.isItr]
   refine zae (l.length-1) (by omega) ⟨1,tl++ [.var 101 [.str n.name,.int .i64 n.id]],rfl,by omega,by simp [h0],by simp [h3],by simp [h7],by simp [h8],by simp [h9,w01],hno.var _ _, ?_⟩
   rw [hsn];simp
  ·have hw1:IntKind.i64.wrap ((i:Int)-1)=((i-1:Nat):Int):=by rw [wrap_i64 (by omega) (by omega)];omega
   obtain ⟨n1,hn1⟩:∃n1,l[i-1]? =some n1:=⟨l[i-1]'(by omega),yad (by omega)⟩
   have hc1:=zcU hn1
   obtain ⟨hy1,hy2⟩:=yaa.1 hc1
   have hlt1:n1.name<n.name:=by
    obtain ⟨g1,rfl⟩:=yaa.1 hn
    obtain ⟨g2,rfl⟩:=yaa.1 hn1
    exact ybg.1 h.srt _ _ g2 g1 (by omega)
   have hpos:(0:Int)<i:=by omega
   have hpos2:0<i:=by omega
   simp [h0,h3,h7,h9,hc,hx2,zdd,zam,zal,splice,hmf,hpos,hpos2,hw1,hc1,hy2,zxm,hlt1,zsQ (zrG hnd hidi),z7S,hno.eq, -zbr, -zeO, -zdF, -Entry.isItr]
   refine zae (l.length-(i+1)) (by omega) ⟨i+1,tl++ [.var 101 [.str n.name,.int .i64 n.id]],rfl,by omega,by simp [h0],by simp [h3],by simp [h7],by simp [h8],by simp [h9,hwi],hno.var _ _, ?_⟩
   rw [hsn]
 ·simp
structure Fits (d:DiskM):Prop where
 nfiles:d.files.length≤1000000
 nnames:d.names.length≤1000000
 nkept:d.kept.length≤1000000
 nmoves:d.moves.length≤500000
 bytes:∀f∈d.files,f.bytes.length≤1000000000
 moves:∀m∈d.moves,z4o m
theorem zkr (l:Txt):(byteEls l).length=l.length:=by simp [byteEls]
theorem z1D (d:DiskM) (h:Filed d.next d.files) (hq:d.quota≤1000000000000) (hx:d.next≤1000000000000000) (hl:Fits d):PCalls Tryz.prog zuu [.agg (zak d)] (fun r=>r=.bool true):=by
 refine zaa hmix zth rfl ?_
 simp [zne,zak]
 have hle:=zcr d.files
 have hlf:=hl.nfiles
 refine zah (fun x f σ=>∃(i:Nat) (tl:zac),x=d.files.length-i∧i≤d.files.length∧f 1=.ptr 0 0∧f 6=.lst (zaF d.files)∧f 7=.int .i64 d.files.length∧f 8=.int .i64 i∧σ=.var 30 (zak d)::tl) d.files.length ?_ ?_
 ·exact ⟨0,[],by simp,by simp,by simp,by simp,by simp [hle],by simp,by simp [zak]⟩
 rintro x f σ ⟨i,tl,hx,hi,h1,h6,h7,h8,rfl⟩
 simp [h7,h8]
 refine zax (fun hlt=> ?_) (fun hge=> ?_)
 ·have hlt':i<d.files.length:=by omega
  have hwi:IntKind.i64.wrap ((i:Int)+1)=((i+1:Nat):Int):=by rw [wrap_i64 (by omega) (by omega)];omega
  obtain ⟨n,hn⟩:∃n,d.files[i]? =some n:=⟨_,yad hlt'⟩
  have hc:=zcV hn
  obtain ⟨hx1,hx2⟩:=yaa.1 hc
  have hnm:=yaf hn
  obtain ⟨g1,g2,g3⟩:=h.2 n hnm
  have k1:¬((n.id:Int)<1):=by omega
  have k2:¬((d.next:Int)≤n.id):=by omega
  have k3:¬((n.sure:Int)<0):=by omega
  have k4:¬((n.bytes.length:Int)<n.sure):=by omega
  have k2':¬(d.next≤n.id):=by omega
  have k4':¬(n.bytes.length<n.sure):=by omega
  have k1':¬n.id<1:=by omega
  by_cases hi0:i=0
  ·subst hi0
   simp [h1,h6,h8,hc,hx2,zcv,zak,zam,zal,splice,k1,k2,k3,k4,k2',k4',zkr,w01]
   exact zae (d.files.length-1) (by omega) ⟨1,tl++ [.var 97 (zcv n)],rfl,by omega,by simp [h1],by simp [h6],by simp [h7],by simp,by simp [zak,zcv]⟩
  ·have hw1:IntKind.i64.wrap ((i:Int)-1)=((i-1:Nat):Int):=by rw [wrap_i64 (by omega) (by omega)];omega
   obtain ⟨n1,hn1⟩:∃n1,d.files[i-1]? =some n1:=⟨d.files[i-1]'(by omega),yad (by omega)⟩
   have hc1:=zcV hn1
   obtain ⟨hy1,hy2⟩:=yaa.1 hc1
   have hlt1:n1.id<n.id:=by
    obtain ⟨u1,e1⟩:=yaa.1 hn
    obtain ⟨u2,e2⟩:=yaa.1 hn1
    rw [←e1,←e2]
    exact ybg.1 h.1 _ _ u2 u1 (by omega)
   have hpos:(0:Int)<i:=by omega
   have hpos2:0<i:=by omega
   have hn5:¬(n.id≤n1.id):=by omega
   simp [h1,h6,h8,hc,hx2,zcv,zak,zam,zal,splice,k1,k2,k3,k4,k2',k4',zkr,hpos,hpos2,hw1,hc1,hy2,hn5,hwi]
   exact zae (d.files.length-(i+1)) (by omega) ⟨i+1,tl++ [.var 97 (zcv n)],rfl,by omega,by simp [h1],by simp [h6],by simp [h7],by simp,by simp [zak,zcv]⟩
 ·simp
theorem z79 (l:List NameM) (hl:l.length≤1000000):PCalls Tryz.prog zeu [.lst (zay l),.lst (zay l)] (fun r=>r=.bool true):=by
 refine zaa hmix ze0 rfl ?_
 simp [zcn]
 have hle:=zaA l
 refine zah (fun x f σ=>∃(i:Nat),x=l.length-i∧i≤l.length∧f 0=.lst (zay l)∧f 1=.lst (zay l)∧f 12=.int .i64 l.length∧f 13=.int .i64 i∧σ= []) l.length ?_ ?_
 ·exact ⟨0,by simp,by simp,by simp,by simp,by simp [hle],by simp,by simp⟩
 rintro x f σ ⟨i,hx,hi,h0,h1,h7,h8,rfl⟩
 simp [h7,h8]
 refine zax (fun hlt=> ?_) (fun hge=> ?_)
 ·have hlt':i<l.length:=by omega
  have hwi:IntKind.i64.wrap ((i:Int)+1)=((i+1:Nat):Int):=by rw [wrap_i64 (by omega) (by omega)];omega
  obtain ⟨n,hn⟩:∃n,l[i]? =some n:=⟨_,yad hlt'⟩
  have hc:=zcU hn
  obtain ⟨hx1,hx2⟩:=yaa.1 hc
  simp [h0,h1,h8,hc,hx2,zdd,zjJ,hwi]
  exact zae (l.length-(i+1)) (by omega) ⟨i+1,rfl,by omega,by simp [h0],by simp [h1],by simp [h7],by simp,rfl⟩
 ·simp
theorem z0X (fs:List FileM):∀{i:Nat} {n:FileM},fs[i]? =some n→zbX (fs.take (i+1))=zbX (fs.take i)+n.bytes.length:=fun {i n} h=>by
 rw [zi1 h];simp [zbX]
theorem z0H:∀(fs:List FileM),(∀f∈fs,f.bytes.length≤1000000000)→zbX fs≤fs.length*1000000000
 | [],_=>by simp [zbX]
 |f::fs,h=>by
  have h1:=z0H fs fun g hg=>h g (by simp [hg])
  have h2:=h f (by simp)
  have:zbX (f::fs)=f.bytes.length+zbX fs:=by simp [zbX]
  rw [this,ybf];omega
theorem zrg (d:DiskM) (hl:Fits d):PCalls Tryz.prog zvV [.agg (zak d)] (fun r=>r=.int .i64 (zaC d)):=by
 refine zaa hmix zwi rfl ?_
 simp [zoC,zak]
 have hle:=zcr d.files
 have hlf:=hl.nfiles
 refine zah (fun x f σ=>∃(i:Nat) (tl:zac),x=d.files.length-i∧i≤d.files.length∧f 3=.int .i64 (zbX (d.files.take i))∧f 7=.lst (zaF d.files)∧f 8=.int .i64 d.files.length∧f 9=.int .i64 i∧σ=.var 30 (zak d)::tl) d.files.length ?_ ?_
 ·exact ⟨0,[],by simp,by simp,by simp [zbX],by simp,by simp [hle],by simp,by simp [zak]⟩
 rintro x f σ ⟨i,tl,hx,hi,h3,h7,h8,h9,rfl⟩
 simp [h8,h9]
 refine zax (fun hlt=> ?_) (fun hge=> ?_)
 ·have hlt':i<d.files.length:=by omega
  have hwi:IntKind.i64.wrap ((i:Int)+1)=((i+1:Nat):Int):=by rw [wrap_i64 (by omega) (by omega)];omega
  obtain ⟨n,hn⟩:∃n,d.files[i]? =some n:=⟨_,yad hlt'⟩
  have hc:=zcV hn
  obtain ⟨hx1,hx2⟩:=yaa.1 hc
  have hnm:=yaf hn
  have hb:=hl.bytes n hnm
  have hu:=z0H (d.files.take i) fun f hf=>hl.bytes f (yak hf)
  rw [yan,ybt hi] at hu
  have hun:=z0X d.files hn
  have hwu:IntKind.i64.wrap ((zbX (d.files.take i):Int)+n.bytes.length)=(zbX (d.files.take (i+1)):Int):=by rw [hun,wrap_i64 (by omega) (by omega)];omega
  simp [h3,h7,h9,hc,hx2,zcv,zak,zam,zal,splice,zkr,hwi,hwu]
  exact zae (d.files.length-(i+1)) (by omega) ⟨i+1,tl++ [.var 97 (zcv n)],rfl,by omega,by simp,by simp [h7],by simp [h8],by simp,by simp [zak,zcv]⟩
 ·have hil:i=d.files.length:=by omega
  subst hil
  simp [h3,zaC]
end Go.Proofs.YtdbhocoeolhjhaaGreatDoor
end
section
set_option maxHeartbeats 4000000
namespace Go.Sf
open Go.Abs
theorem zvy {l r:List NameM}:∀{ms:List MoveM} {i:Nat} {m:MoveM},replay l ms=some r→ms[i]? =some m→∃li li',replay l (ms.take i)=some li∧zft li m=some li'∧replay l (ms.take (i+1))=some li':=fun {ms i m} h hm=>by
 have e:ms=ms.take i++(m::ms.drop (i+1)):=by
  conv=>lhs;rw [←ya9 i ms]
  obtain ⟨hi,e⟩:=yaa.1 hm
  rw [ybw hi,e]
 have happ:∀(a b:List MoveM) (l:List NameM),replay l (a++b)=(replay l a).bind fun l'=>replay l' b:=by
  intro a
  induction a with
  |nil=>intro b l;rfl
  |cons x a ih=>
   intro b l
   simp only [ybv,replay]
   cases zft l x with
   |none=>rfl
   |some l'=>simpa using ih b l'
 rw [e,happ] at h
 cases h1:replay l (ms.take i) with
 |none=>rw [h1] at h;cases h
 |some li=>
  rw [h1] at h
  simp only [ydr,replay] at h
  cases h2:zft li m with
  |none=>rw [h2] at h;cases h
  |some li'=>
   have:ms.take (i+1)=ms.take i++ [m]:=by rw [yax,hm];rfl
   refine ⟨li,li',rfl,h2, ?_⟩
   rw [this,zhu,h1];exact h2
theorem zx0 {l r:List NameM}:∀{ms:List MoveM},Srt kN l→replay l ms=some r→Srt kN r∧r.length≤l.length+ms.length:=fun {ms}=>by
 induction ms generalizing l with
 |nil=>intro hs h;simp [replay] at h;subst h;exact ⟨hs,by simp⟩
 |cons x ms ih=>
  intro hs h
  simp only [replay] at h
  cases h2:zft l x with
  |none=>rw [h2] at h;cases h
  |some l'=>
   rw [h2] at h
   simp only [ydr] at h
   have h3:=ih (z26 hs h2) h
   have h4:=z47 hs h2
   exact ⟨h3.1,by simp only [ybf];omega⟩
theorem zoS {ms:List MoveM} {i:Nat} {m:MoveM} (h:ms[i]? =some m):zbL (ms.take (i+1))=zbL (ms.take i)++(if m.kind=1 then [m.id] else []):=by
 have:ms.take (i+1)=ms.take i++ [m]:=by rw [yax,h];rfl
 rw [this,zjK]
theorem ztn {ms:List MoveM} {i:Nat} {m:MoveM} (h:ms[i]? =some m):∃r,zbL ms=zbL (ms.take i)++((if m.kind=1 then [m.id] else [])++r):=by
 refine ⟨zbL (ms.drop (i+1)), ?_⟩
 have e:ms=ms.take (i+1)++ms.drop (i+1):=(ya9 _ _).symm
 have happ:∀a b,zbL (a++b)=zbL a++zbL b:=fun a b=>by simp [zbL]
 conv=>lhs;rw [e]
 rw [happ,zoS h,ya3]
end Go.Sf
namespace Go.Proofs.YtdbhocoeolhjhaaGreatDoor
open Go.Abs Go.RowKit Go.Sf
variable {G:Globs}
theorem zlS (d:DiskM) (h:RightM d) (hl:Fits d):PCalls Tryz.prog ztj [.agg (zak d)] (fun r=>r=.bool true):=by
 refine zaa hmix zt9 rfl ?_
 have q1:=h.quota
 have q2:=h.next1
 have q3:=h.next2
 have q4:=h.nfiles
 have q5:=h.nkept
 have k1:¬((d.quota:Int)<0):=by omega
 have k2:¬((1073741824:Int)<d.quota):=by omega
 have k3:¬((d.next:Int)<1):=by omega
 have k4:¬((1099511627776:Int)<d.next):=by omega
 have k5:¬((256:Int)<d.files.length):=by omega
 have k6:¬((256:Int)<d.kept.length):=by omega
 have k2':¬(1073741824<d.quota):=by omega
 have k4':¬(1099511627776<d.next):=by omega
 have k5':¬(256<d.files.length):=by omega
 have k6':¬(256<d.kept.length):=by omega
 have k3':¬(d.next<1):=by omega
 have k3'':d.next≠0:=by omega
 have hfl:=zcr d.files
 have hkl:=zaA d.kept
 have hml:=zre d.moves
 simp [znu,zak,k1,k2,k3,k4,k5,k6,k2',k3',k4',k5',k6',k3'',hfl,hkl]
 refine zad (zyE d.kept h.kept hl.nkept) (by simp [AV.pure]) ?_
 rintro r rfl
 simp
 refine zad (z1D d h.filed (by omega) (by omega) hl) (by simp [AV.pure,zak]) ?_
 rintro r rfl
 simp
 obtain ⟨kid,hkid⟩:∃kid,kid=d.kept.map (·.id):=⟨_,rfl⟩
 have hnd:=h.ids
 unfold idsM at hnd
 rw [←hkid] at hnd
 have hkn:kid.Nodup:=(ydi.1 hnd).1
 have hcnt:=h.count
 unfold idsM at hcnt
 rw [←hkid] at hcnt
 refine zah (fun x f σ=>∃(i:Nat) (tl:zac),x=d.kept.length-i∧i≤d.kept.length∧f 1=.ptr 0 0∧f 3=.map 1∧f 55=.lst (zay d.kept)∧f 56=.int .i64 d.kept.length∧f 57=.int .i64 i∧NoI tl∧σ=.var 30 (zak d):: .mp (kvs (kid.take i))::tl) d.kept.length ?_ ?_
 ·exact ⟨0,[],by simp,by simp,by simp,by simp,by simp,by simp [hkl],by simp,NoI.nil,by simp [zak,kvs]⟩
 rintro x f σ ⟨i,tl,hx,hi,h1,h3,h55,h56,h57,hno,rfl⟩
 simp [h56,h57]
 refine zax (fun hlt=> ?_) (fun hge=> ?_)
 ·have hlt':i<d.kept.length:=by omega
  have hwi:IntKind.i64.wrap ((i:Int)+1)=((i+1:Nat):Int):=by rw [wrap_i64 (by omega) (by omega)];omega
  obtain ⟨n,hn⟩:∃n,d.kept[i]? =some n:=⟨_,yad hlt'⟩
  have hc:=zcU hn
  obtain ⟨hx1,hx2⟩:=yaa.1 hc
  have hidi:kid[i]? =some n.id:=by rw [hkid,yb8,hn];rfl
  have hsn:=zi1 hidi
  have hnm:∀(a:Entry) (kv:List (AV×AV)) (t:TypeId) (c:List AV),a.isItr=false→zdF (a:: .mp kv::(tl++ [.var t c]))=true:=fun a kv t c ha=>by
   have:=(hno.var t c).eq
   simp only [zdF,List.all_cons,ha] at this⊢
   simp [Entry.isItr] at this⊢
   exact this
  have hnm1:=hnm (.var 30 (zak d)) (kvs (kid.take i)) 101 (zdd n) rfl
  simp only [zak,zdd] at hnm1
  simp [h1,h3,h55,h57,hc,hx2,zdd,zak,zam,zal,splice,zsQ (zrG hkn hidi),hnm1,hwi, -zbr, -zeO, -zdF, -Entry.isItr]
  refine zae (d.kept.length-(i+1)) (by omega) ⟨i+1,tl++ [.var 101 (zdd n)],rfl,by omega,by simp [h1],by simp [h3],by simp [h55],by simp [h56],by simp,hno.var _ _, ?_⟩
  rw [hsn];simp [zak,zdd]
 have hil:i=d.kept.length:=by omega
 have hkl2:kid.length=d.kept.length:=by rw [hkid];simp
 rw [hil,←hkl2,ya1]
 simp [h1,zak,hml]
 have hlm:=hl.nmoves
 refine zah (fun x f σ=>∃(i:Nat) (tl:zac) (li:List NameM),x=d.moves.length-i∧i≤d.moves.length∧f 1=.ptr 0 0∧f 3=.map 1∧f 6=.lst (zay li)∧f 68=.lst (zbx d.moves)∧f 69=.int .i64 d.moves.length∧f 70=.int .i64 i∧NoI tl∧replay d.kept (d.moves.take i)=some li∧σ=.var 30 (zak d):: .mp (kvs (kid++zbL (d.moves.take i)))::tl) d.moves.length ?_ ?_
 ·exact ⟨0,tl,d.kept,by simp,by simp,by simp [h1],by simp [h3],by simp,by simp,by simp,by simp,hno,by simp [replay],by simp [zak,zbL]⟩
 clear h55 h56 h57 h1 h3 hx hge hi hil
 rintro x f σ ⟨i,tl,li,hx,hi,h1,h3,h6,h68,h69,h70,hno,hrp,rfl⟩
 simp [h69,h70]
 refine zax (fun hlt=> ?_) (fun hge=> ?_)
 ·have hlt':i<d.moves.length:=by omega
  have hwi:IntKind.i64.wrap ((i:Int)+1)=((i+1:Nat):Int):=by rw [wrap_i64 (by omega) (by omega)];omega
  obtain ⟨m,hm⟩:∃m,d.moves[i]? =some m:=⟨_,yad hlt'⟩
  have hc:=zxD hm
  obtain ⟨hx1,hx2⟩:=yaa.1 hc
  have hmm:=yaf hm
  obtain ⟨li0,li',hr1,hr2,hr3⟩:=zvy h.replay hm
  rw [hrp] at hr1
  simp only [yab] at hr1
  subst hr1
  obtain ⟨hsl,hll⟩:=zx0 h.kept.srt hrp
  rw [yan,ybt hi] at hll
  have hat:=zoS hm
  obtain ⟨rr,hsp⟩:=ztn hm
  have hnm:∀(a:Entry) (kv:List (AV×AV)) (t:TypeId) (c:List AV),a.isItr=false→zdF (a:: .mp kv::(tl++ [.var t c]))=true:=fun a kv t c ha=>by
   have:=(hno.var t c).eq
   simp only [zdF,List.all_cons,ha] at this⊢
   simp [Entry.isItr] at this⊢
   exact this
  have hnm1:=hnm (.var 30 (zak d)) (kvs (kid++zbL (d.moves.take i))) 103 (zcW m) rfl
  simp only [zak,zcW] at hnm1
  have hkd:=zxr (G:=G) li li' m hsl (by omega) hr2 (hl.moves m hmm)
  by_cases hk:m.kind=1
  ·rw [if_pos hk] at hat hsp
   have hnew:m.id∉kid++zbL (d.moves.take i):=fun hin=>by
    rw [hsp] at hnd
    rw [←ya3] at hnd
    exact (ydi.1 hnd).2.2 _ hin _ (by simp) rfl
   have hlen:(kid++zbL (d.moves.take i)).length+1≤d.files.length:=by
    rw [←hcnt,hsp];simp;omega
   simp only [yag] at hlen
   have hkk:(m.kind:Int)=1:=by omega
   have hmf:=zrw hnew 0
   simp [h1,h3,h6,h68,h70,hc,hx2,zcW,zak,zam,zal,splice,hkk,hk,hmf, -zbr, -zeO, -zdF, -Entry.isItr]
   have hmc:zcW m= [.int .i64 1,.str m.name,.str m.dst,.int .i64 m.id]:=by simp [zcW,hk]
   rw [hmc] at hkd
   refine zad hkd (by simp) ?_
   rintro r rfl
   have hmpn:=zsQ hnew
   rw [ya3,←hat] at hmpn
   have hnm2:=hnm (.var 30 (zak d)) (kvs (kid++zbL (d.moves.take i))) 103 [.int .i64 1,.str m.name,.str m.dst,.int .i64 m.id] rfl
   simp only [zak] at hnm2
   have hk7:¬((d.files.length:Int)<((kid++zbL (d.moves.take (i+1))).length:Nat)):=by
    rw [hat];simp only [yag,List.length_singleton];omega
   have hk8:¬(d.files.length<(kid++zbL (d.moves.take (i+1))).length):=by omega
   simp [h1,h3,h6,h68,h70,hc,hx2,zcW,zak,zam,zal,splice,hkk,hk,hmpn,hnm2,hwi,zuY,hfl, -List.length_append,hk7,hk8, -zbr, -zeO, -zdF, -Entry.isItr]
   refine zae (d.moves.length-(i+1)) (by omega) ⟨i+1,tl++ [.var 103 (zcW m)],li',rfl,by omega,by simp [h1],by simp [h3],by simp,by simp [h68],by simp [h69],by simp,hno.var _ _,hr3, ?_⟩
   simp [zak,hmc]
  ·rw [if_neg hk,yby] at hat
   have hkk:¬((m.kind:Int)=1):=by omega
   simp [h1,h3,h6,h68,h70,hc,hx2,zcW,zak,zam,zal,splice,hkk,hk, -zbr, -zeO, -zdF, -Entry.isItr]
   simp only [zcW] at hkd
   refine zad hkd (by simp) ?_
   rintro r rfl
   have hlen:(kid++zbL (d.moves.take i)).length≤d.files.length:=by
    rw [←hcnt,hsp];simp
   have hk7:¬((d.files.length:Int)<((kid++zbL (d.moves.take i)).length:Nat)):=by omega
   have hk8:¬(d.files.length<(kid++zbL (d.moves.take i)).length):=by omega
   simp [h1,h3,h6,h68,h70,hc,hx2,zcW,zak,zam,zal,splice,hkk,hk,hwi,zuY,hfl, -List.length_append,hk7,hk8, -zbr, -zeO, -zdF, -Entry.isItr]
   refine zae (d.moves.length-(i+1)) (by omega) ⟨i+1,tl++ [.var 103 (zcW m)],li',rfl,by omega,by simp [h1],by simp [h3],by simp,by simp [h68],by simp [h69],by simp,hno.var _ _,hr3, ?_⟩
   rw [hat];simp [zak,zcW]
 have hil:i=d.moves.length:=by omega
 rw [hil,ya1] at hrp
 rw [hil,ya1]
 rw [h.replay] at hrp
 simp only [yab] at hrp
 subst hrp
 simp [h1,h6,zak]
 have hln:=hl.nnames
 refine zad (z79 d.names (by omega)) (by simp [AV.pure]) ?_
 rintro r rfl
 have hcn:(kid++zbL d.moves).length=d.files.length:=hcnt
 simp [h1,h3,hfl,zuY, -List.length_append,hcn]
 clear h68 h69 h70 h6 hge hil hi hx
 refine zah (fun x f σ=>∃(i:Nat) (tl:zac),x=d.files.length-i∧i≤d.files.length∧f 1=.ptr 0 0∧f 3=.map 1∧f 118=.lst (zaF d.files)∧f 119=.int .i64 d.files.length∧f 120=.int .i64 i∧σ=.var 30 (zak d):: .mp (kvs (kid++zbL d.moves))::tl) d.files.length ?_ ?_
 ·exact ⟨0,tl,by simp,by simp,by simp [h1],by simp [h3],by simp,by simp,by simp,by simp [zak]⟩
 clear h1 h3
 rintro x f σ ⟨i,tl,hx,hi,h1,h3,h118,h119,h120,rfl⟩
 simp [h119,h120]
 refine zax (fun hlt=> ?_) (fun hge=> ?_)
 ·have hlt':i<d.files.length:=by omega
  have hwi:IntKind.i64.wrap ((i:Int)+1)=((i+1:Nat):Int):=by rw [wrap_i64 (by omega) (by omega)];omega
  obtain ⟨n,hn⟩:∃n,d.files[i]? =some n:=⟨_,yad hlt'⟩
  have hc:=zcV hn
  obtain ⟨hx1,hx2⟩:=yaa.1 hc
  have hin:n.id∈kid++zbL d.moves:=by
   have:=(h.same n.id).2 ⟨n,yaf hn,rfl⟩
   unfold idsM at this
   rw [hkid];exact this
  obtain ⟨q,hq⟩:=z2a hin 0
  simp [h1,h3,h118,h120,hc,hx2,zcv,zak,zam,zal,splice,hq,hwi, -zbr, -zeO, -zdF, -Entry.isItr]
  refine zae (d.files.length-(i+1)) (by omega) ⟨i+1,tl++ [.var 97 (zcv n)],rfl,by omega,by simp [h1],by simp [h3],by simp [h118],by simp [h119],by simp,by simp [zak,zcv]⟩
 ·have hu:=h.used
  simp [h1,zak]
  refine zaq (zrg d hl) (by simp [AV.pure,zak]) (by simp) ?_
  simp [h1,hu]
end Go.Proofs.YtdbhocoeolhjhaaGreatDoor
end
section
set_option maxHeartbeats 4000000
namespace Go.Sf
open Go.Abs
def posF:List FileM→Nat→Nat
 | [],_=>0
 |f::fs,i=>if f.id<i then posF fs i+1 else 0
theorem z0A:∀(l:List FileM) (s:Nat),posF l s≤l.length
 | [],_=>yaq _
 |x::l,s=>by
  unfold posF
  have:=z0A l s
  split<;>simp<;>omega
theorem zuD:∀{l:List FileM} {s:Nat} {i:Nat} {x:FileM},i<posF l s→l[i]? =some x→x.id<s
 | [],_,_,_,h,_=>by simp [posF] at h
 |y::l,s,i,x,h,hx=>by
  unfold posF at h
  split at h
  ·rename_i hy
   cases i with
   |zero=>simp at hx;subst hx;exact hy
   |succ i=>exact zuD (l:=l) (i:=i) (by omega) (by simpa using hx)
  ·omega
theorem zvU:∀{l:List FileM} {s:Nat} {i:Nat} {x:FileM},(l.Pairwise fun a b=>a.id<b.id)→posF l s≤i→l[i]? =some x→¬x.id<s
 | [],_,_,_,_,_,hx=>by simp at hx
 |y::l,s,i,x,hs,h,hx=>by
  rw [yd7] at hs
  unfold posF at h
  split at h
  ·cases i with
   |zero=>omega
   |succ i=>exact zvU (l:=l) (i:=i) hs.2 (by omega) (by simpa using hx)
  ·rename_i hy
   cases i with
   |zero=>simp at hx;subst hx;exact hy
   |succ i=>
    have hm:x∈l:=yaf (by simpa using hx)
    have:=hs.1 x hm
    omega
theorem z60 {l:List FileM} {f:FileM} (hs:l.Pairwise fun a b=>a.id<b.id) (hf:f∈l):l[posF l f.id]? =some f:=by
 obtain ⟨j,hj,rfl⟩:=yaw.1 hf
 have hg:l[j]? =some l[j]:=yad hj
 have h1:posF l l[j].id≤j:=Classical.byContradiction fun h=>by have:=zuD (l:=l) (i:=j) (s:=l[j].id) (by omega) hg;omega
 rcases Nat.lt_or_eq_of_le h1 with h2|h2
 ·have hy:l[posF l l[j].id]? =some (l[posF l l[j].id]'(by omega)):=yad (by omega)
  have h3:=zvU hs (yaq _) hy
  have h4:=ybg.1 hs _ _ (by omega) hj h2
  omega
 ·rw [h2];exact hg
theorem z06 {l:List FileM} (hs:l.Pairwise fun a b=>a.id<b.id) {i:Nat} {f:FileM} (hf:l[i]? =some f) (g:FileM→FileM):l.set i (g f)=modF l f.id g:=by
 obtain ⟨hi,rfl⟩:=yaa.1 hf
 refine List.ext_getElem (by simp [modF]) fun j h1 h2=> ?_
 simp only [modF,yc2]
 rw [List.getElem_set]
 split
 ·rename_i e;subst e;simp
 ·rename_i e
  rw [List.length_set] at h1
  have:¬l[j].id=l[i].id:=fun h=>by
   rcases Nat.lt_or_gt_of_ne e with h'|h'
   ·have:=ybg.1 hs _ _ hi h1 h';omega
   ·have:=ybg.1 hs _ _ h1 hi h';omega
  rw [if_neg this]
theorem RightM.file {d:DiskM} (h:RightM d) {s:Txt} (hh:hasK kN d.names s):∃f,d.files[posF d.files (idOf d.names s)]? =some f∧f.id=idOf d.names s:=by
 obtain ⟨n,hn,hk,hid⟩:=z3s h.names.srt hh
 obtain ⟨f,hf,e⟩:=(h.same n.id).1 (h.nids n hn)
 have:=z60 h.filed.1 hf
 rw [e,hid] at this
 exact ⟨f,this,by rw [e,hid]⟩
end Go.Sf
namespace Go.Proofs.YtdbhocoeolhjhaaGreatDoor
open Go.Abs Go.RowKit Go.Sf
variable {G:Globs}
theorem z13 (f:FileM) (i:Nat):PCalls Tryz.prog zl3 [.agg (zcv f),.int .i64 i] (fun r=>r=.int .i64 (Lib.compareInt f.id i)):=by
 refine zaa hmix zr6 rfl ?_
 simp [zkO,zcv]
 refine zad (zrZ f.id i) (by simp) ?_
 rintro r rfl
 simp
theorem z2i (d:DiskM) (s:Txt) (h:RightM d) (hl:Fits d) (ho:okS s) (hh:¬hasK kN d.names s):PCalls Tryz.prog zoF [.agg (zak d),.str s] (fun r=>r=.tup [.int .i64 0,.int .i64 4]):=by
 refine zaa hmix zp1 rfl ?_
 simp [zjU,zak]
 refine zad (zlS d h hl) (by simp [AV.pure,zak]) ?_
 rintro r rfl
 simp
 refine zad (ziY s (by have:=ho.2;omega)) (by simp) ?_
 rintro r rfl
 simp [ho]
 refine zad (ziy d.names s h.names.srt (by have:=hl.nnames;omega)) (by simp) ?_
 rintro r rfl
 simp [hh]
theorem ziz (d:DiskM) (s:Txt) (h:RightM d) (hl:Fits d) (ho:okS s) (hh:hasK kN d.names s):PCalls Tryz.prog zoF [.agg (zak d),.str s] (fun r=>r=.tup [.int .i64 (posF d.files (idOf d.names s)),.int .i64 0]):=by
 refine zaa hmix zp1 rfl ?_
 simp [zjU,zak]
 refine zad (zlS d h hl) (by simp [AV.pure,zak]) ?_
 rintro r rfl
 simp
 refine zad (ziY s (by have:=ho.2;omega)) (by simp) ?_
 rintro r rfl
 simp [ho]
 refine zad (ziy d.names s h.names.srt (by have:=hl.nnames;omega)) (by simp) ?_
 rintro r rfl
 obtain ⟨x,hx,hk⟩:=(zd9 h.names.srt).1 hh
 have hxm:=yaf hx
 have hid:idOf d.names s=x.id:=by rw [←hk];exact ziE h.names.srt hxm
 have hxc:=zcU hx
 obtain ⟨hy1,hy2⟩:=yaa.1 hxc
 simp [hh,hxc,hy2,zdd]
 have hp:=z0A d.files x.id
 have kB:=bsFi (G:=G) (zaF d.files) (zf1 d.files) (by rw [zcr];have:=hl.nfiles;omega) (.int .i64 x.id) (by simp [AV.pure]) zl3 zrA (posF d.files x.id) (by rw [zcr];exact hp)
  (fun i=>match d.files[i]? with|some n=>Lib.compareInt n.id x.id|none=>0)
  (fun i c hc=>by
   obtain ⟨n,hn,rfl⟩:=zyn hc
   simp only [hn]
   exact z13 n x.id)
  (fun i hi=>by
   obtain ⟨n,hn⟩:∃n,d.files[i]? =some n:=⟨d.files[i]'(by omega),yad (by omega)⟩
   simp only [hn]
   have:=zuD hi hn
   unfold Lib.compareInt
   split
   ·omega
   ·split<;>omega)
  (fun i h1 h2=>by
   rw [zcr] at h2
   obtain ⟨n,hn⟩:∃n,d.files[i]? =some n:=⟨d.files[i]'h2,yad h2⟩
   simp only [hn]
   have:=zvU h.filed.1 h1 hn
   unfold Lib.compareInt
   split
   ·omega
   ·split<;>omega)
 refine zaq kB (by simp [AV.pure]) (by simp) ?_
 simp [hid]
theorem zpu (d:DiskM) (m:MoveM) (l':List NameM) (hs:Srt kN d.names) (hd:zft d.names m=some l') (hl:Fits d) (hm:z4o m):PCalls Tryz.prog zsK [.agg (zak d),.agg (zcW m)] (fun r=>r=.agg (zak {d with names:=l',moves:=d.moves++ [m]})):=by
 refine zaa hmix zsO rfl ?_
 have h1:=hl.nnames
 have h2:=hl.nmoves
 simp [znt,zak,zcW]
 have hkd:=zxr (G:=G) d.names l' m hs (by omega) hd hm
 simp only [zcW] at hkd
 refine zad hkd (by simp) ?_
 rintro r rfl
 simp
 have hml:=zre d.moves
 refine ⟨?_, ?_, ?_⟩
 all_goals
  refine zar (z6h (zbx d.moves) (zrd d.moves) (by omega)) ?_
  rintro r σ (⟨h0,rfl,rfl⟩|⟨rfl,rfl⟩)
  ·have h0':d.moves= []:=by simpa [zbx] using h0
   simp
   refine zhS true [zcW m] (by simp [zcW,view]) (by decide) (by simp [zcW]) (fun _=> .inl (by simp [zf4,zcW])) (by simp) (by simp) ?_
   simp [h0',zbx]
  ·simp
   refine zaK (zbx d.moves) [zcW m] false (by simp) (by simp [zcW,view]) (by decide) (by simp [zcW]) (fun h=>by cases h) rfl (by simp [hml];omega) (by simp [hml];omega) ?_
   have e1:zbx d.moves++ [zcW m]=zbx (d.moves++ [m]):=by simp [zbx]
   have e2:(zbx d.moves).length+1=(zbx (d.moves++ [m])).length:=by simp [zbx]
   simp only [e1,e2,ybf,ycz,ybe]
   simp [z1w]
theorem zyq (d:DiskM) (s:Txt) (h:RightM d) (hl:Fits d) (ho:okS s) (hh:¬hasK kN d.names s) (hf:d.files.length<256) (hx:d.next<1099511627776):PCalls Tryz.prog zrk [.agg (zak d),.str s] (fun r=>r=.tup [.agg (zak (za1 d s)),.int .i64 0]):=by
 refine zaa hmix zrO rfl ?_
 have hfl:=zcr d.files
 have k1:¬((256:Int)≤d.files.length):=by omega
 have k2:¬((1099511627776:Int)≤d.next):=by omega
 have k1':¬(256≤d.files.length):=by omega
 have k2':¬(1099511627776≤d.next):=by omega
 have hw:IntKind.i64.wrap ((d.next:Int)+1)=((d.next+1:Nat):Int):=by rw [wrap_i64 (by omega) (by omega)];omega
 simp [zkC,zak]
 refine zad (z2i d s h hl ho hh) (by simp [AV.pure,zak]) ?_
 rintro r rfl
 simp [k1,k2,k1',k2',hfl]
 have hr:=(zn5 h ho hh hf hx).replay
 have hd:zft d.names ⟨1,s,[],d.next⟩=some (insK kN d.names ⟨s,d.next⟩):=by
  have:¬(d.next<1):=by have:=h.next1;omega
  simp [zft,ho,hh,this]
 refine zad (zpu d ⟨1,s,[],d.next⟩ _ h.names.srt hd hl ⟨by have:=ho.2;simp only;omega,by simp,by simp,by simp only;omega⟩) (by simp [AV.pure,zak,zcW]) ?_
 rintro r rfl
 simp [zak]
 refine zar (zvj (zaF d.files) (zf1 d.files) (by omega)) ?_
 rintro r σ (⟨h0,rfl,rfl⟩|⟨rfl,rfl⟩)
 ·have h0':d.files= []:=by simpa [zaF] using h0
  simp
  refine zhS true [[.int .i64 d.next,.lst [],.int .i64 0]] (by simp [view]) (by decide) (by simp) (fun _=> .inl (by simp [zf4])) (by simp) (by simp) ?_
  simp [hw]
  simp [za1,h0',zaF,zcv,byteEls]
 ·simp
  refine zaK (zaF d.files) [[.int .i64 d.next,.lst [],.int .i64 0]] false (by simp) (by simp [view]) (by decide) (by simp) (fun h=>by cases h) rfl (by simp [hfl];omega) (by simp [hfl];omega) ?_
  have e1:zaF d.files++ [[.int .i64 d.next,.lst [],.int .i64 0]]=zaF (d.files++ [⟨d.next,[],0⟩]):=by simp [zaF,zcv,byteEls]
  have e2:(zaF d.files).length+1=(zaF (d.files++ [⟨d.next,[],0⟩])).length:=by simp [zaF]
  simp only [e1,e2,ybf,ycz,ybe]
  simp [zs0,hw,za1]
theorem z1n (d:DiskM) (i:Nat) (f:FileM) (hi:i<d.files.length) (hl:Fits d):PCalls Tryz.prog zyu [.agg (zak d),.int .i64 i,.agg (zcv f)] (fun r=>r=.agg (zak {d with files:=d.files.set i f})):=by
 refine zaa hmix zyT rfl ?_
 have hfl:=zcr d.files
 have hlf:=hl.nfiles
 simp [zqU,zak,zcv]
 refine zar (zvj (zaF d.files) (zf1 d.files) (by omega)) ?_
 rintro r σ (⟨h0,rfl,rfl⟩|⟨rfl,rfl⟩)
 ·have h0':d.files= []:=by simpa [zaF] using h0
  rw [h0'] at hi;simp at hi
 ·obtain ⟨g,hg⟩:∃g,d.files[i]? =some g:=⟨_,yad hi⟩
  have hc:=zcV hg
  obtain ⟨hx1,hx2⟩:=yaa.1 hc
  have e1:(zaF d.files).set i [.int .i64 f.id,.lst (byteEls f.bytes),.int .i64 f.sure]=zaF (d.files.set i f):=by simp [zaF,zcv,List.map_set]
  have e2:(zaF d.files).length=(zaF (d.files.set i f)).length:=by simp [zaF]
  have hi2:i<(zaF d.files).length:=by omega
  simp [hi2,hi,hc,hx2,zcv,splice,e1]
  rw [e2]
  simp [zs0]
end Go.Proofs.YtdbhocoeolhjhaaGreatDoor
end
section
set_option maxHeartbeats 4000000
namespace Go.Proofs.YtdbhocoeolhjhaaGreatDoor
open Go.Abs Go.RowKit Go.Sf
variable {G:Globs}
theorem z7m (q:Nat) (hq:q≤1073741824):PCalls Tryz.prog zyl [.int .i64 q] (fun r=>r=.tup [.agg (zak ⟨q,[],[],[],[],1⟩),.int .i64 0]):=by
 refine zaa hmix zxZ rfl ?_
 have h1:¬((q:Int)<0):=by omega
 have h2:¬((1073741824:Int)<q):=by omega
 have h2':¬(1073741824<q):=by omega
 simp [zqZ,h1,h2,h2',zak,zaF,zay,zbx]
theorem zx7 (d:DiskM) (s b:Txt) (h:RightM d) (hl:Fits d) (ho:okS s) (hh:hasK kN d.names s) (hb:b.length≤d.quota-zaC d) (hbl:b.length≤1000000000):PCalls Tryz.prog zsy [.agg (zak d),.str s,.lst (byteEls b)] (fun r=>r=.tup [.agg (zak (zaQ d s b)),.int .i64 0]):=by
 refine zaa hmix zrl rfl ?_
 have hu:=h.used
 have hq:=h.quota
 obtain ⟨g,hg,hid⟩:=h.file hh
 have hi:=(yaa.1 hg).1
 have hc:=zcV hg
 obtain ⟨hx1,hx2⟩:=yaa.1 hc
 have hgb:=hl.bytes g (yaf hg)
 simp [zlT,zak]
 refine zad (ziz d s h hl ho hh) (by simp [AV.pure,zak]) ?_
 rintro r rfl
 simp
 refine zaq (zrg d hl) (by simp [AV.pure,zak]) (by simp) ?_
 have hw:IntKind.i64.wrap ((d.quota:Int)-(zaC d:Nat))=((d.quota-zaC d:Nat):Int):=by rw [wrap_i64 (by omega) (by omega)];omega
 have k1:¬(((d.quota-zaC d:Nat):Int)<b.length):=by omega
 have k1':¬(d.quota-zaC d<b.length):=by omega
 simp [hw,zab,k1,k1',hc,hx2,zcv,splice]
 refine zad (zmN g.bytes b (by omega) (by omega)) (by simp [AV.pure]) ?_
 rintro r rfl
 simp [splice]
 have hs:=z06 h.filed.1 hg (fun f=>{f with bytes:=f.bytes++b})
 have kS:=z1n (G:=G) d (posF d.files (idOf d.names s)) {g with bytes:=g.bytes++b} hi hl
 simp only [zak,zcv] at kS
 refine zad kS (by simp [AV.pure,zak,zcv]) ?_
 rintro r rfl
 simp [zaQ,←hid,hs]
 rw [←hs,hid]
theorem z2Q (d:DiskM) (s:Txt) (h:RightM d) (hl:Fits d) (ho:okS s) (hh:hasK kN d.names s):PCalls Tryz.prog zwk [.agg (zak d),.str s] (fun r=>r=.tup [.agg (zak (zcX d s)),.int .i64 0]):=by
 refine zaa hmix zvo rfl ?_
 obtain ⟨g,hg,hid⟩:=h.file hh
 have hi:=(yaa.1 hg).1
 have hc:=zcV hg
 obtain ⟨hx1,hx2⟩:=yaa.1 hc
 simp [zo8,zak]
 refine zad (ziz d s h hl ho hh) (by simp [AV.pure,zak]) ?_
 rintro r rfl
 simp [hc,hx2,zcv,splice,zab]
 have hs:=z06 h.filed.1 hg (fun f=>{f with sure:=f.bytes.length})
 have kS:=z1n (G:=G) d (posF d.files (idOf d.names s)) {g with sure:=g.bytes.length} hi hl
 simp only [zak,zcv] at kS
 refine zad kS (by simp [AV.pure,zak,zcv]) ?_
 rintro r rfl
 simp [zcX,←hid,hs]
 rw [←hs,hid]
theorem zyc (d:DiskM) (s:Txt) (h:RightM d) (hl:Fits d) (ho:okS s) (hh:hasK kN d.names s):PCalls Tryz.prog zrp [.agg (zak d),.str s] (fun r=>r=.tup [.agg (zak (zcO d s)),.int .i64 0]):=by
 refine zaa hmix zsb rfl ?_
 simp [zlp,zak]
 refine zad (ziz d s h hl ho hh) (by simp [AV.pure,zak]) ?_
 rintro r rfl
 simp
 have hd:zft d.names ⟨2,s,[],0⟩=some (delK kN d.names s):=by simp [zft,ho,hh]
 have kM:=zpu (G:=G) d ⟨2,s,[],0⟩ _ h.names.srt hd hl ⟨by have:=ho.2;simp only;omega,by simp,by simp,by simp⟩
 simp only [zak,zcW] at kM
 refine zad kM (by simp [AV.pure]) ?_
 rintro r rfl
 simp [zcO]
theorem zxB (d:DiskM) (s t:Txt) (h:RightM d) (hl:Fits d) (ho:okS s) (hh:hasK kN d.names s) (hot:okS t) (hne:t≠s):PCalls Tryz.prog zsr [.agg (zak d),.str s,.str t] (fun r=>r=.tup [.agg (zak (zc2 d s t)),.int .i64 0]):=by
 refine zaa hmix zri rfl ?_
 simp [zlI,zak]
 refine zad (ziz d s h hl ho hh) (by simp [AV.pure,zak]) ?_
 rintro r rfl
 simp
 refine zad (ziY t (by have:=hot.2;omega)) (by simp) ?_
 rintro r rfl
 have hne':¬s=t:=fun e=>hne e.symm
 simp [hot,hne']
 have hd:zft d.names ⟨3,s,t,0⟩=some (insK kN (zfZ (delK kN d.names s) t) ⟨t,idOf d.names s⟩):=by simp [zft,ho,hh,hot,hne]
 have kM:=zpu (G:=G) d ⟨3,s,t,0⟩ _ h.names.srt hd hl ⟨by have:=ho.2;simp only;omega,by have:=hot.2;simp only;omega,by simp,by simp⟩
 simp only [zak,zcW] at kM
 refine zad kM (by simp [AV.pure]) ?_
 rintro r rfl
 simp [zc2]
def zd2 (l:List Txt):List (List AV):=l.map fun s=> [AV.str s]
theorem zin (l:List Txt):(zd2 l).length=l.length:=by simp [zd2]
theorem zrS (σ:zac) (d:DiskM) (h:RightM d) (hl:Fits d):ACalls Tryz.prog zvO [.agg (zak d)] σ (fun r σ'=>r=.tup [.row (σ.length+1) d.names.length,.int .i64 0]∧σ'=σ++ [.var 30 (zak d),.row 9 1 (zd2 (d.names.map (·.name))) false]):=by
 refine zag hmix zwr rfl ?_
 have hnl:=zaA d.names
 have hln:=hl.nnames
 simp [zoT,zak]
 refine zad (zlS d h hl) (by simp [AV.pure,zak]) ?_
 rintro r rfl
 simp [hnl,zbu]
 refine zrX d.names.length rfl rfl (by omega) (by omega) (by decide) rfl ?_
 simp [hnl,zbu]
 obtain ⟨ss,hss⟩:∃ss,ss=d.names.map (·.name):=⟨_,rfl⟩
 have hsl:ss.length=d.names.length:=by rw [hss];simp
 rw [←hss]
 refine zah (fun x f σ'=>∃(i:Nat) (tl:zac),x=d.names.length-i∧i≤d.names.length∧f 3=.int .i64 0∧f 4=.row (σ.length+1) d.names.length∧f 15=.lst (zay d.names)∧f 16=.int .i64 d.names.length∧f 17=.int .i64 i∧σ'=σ++ .var 30 (zak d):: .row 9 1 (zd2 (ss.take i)++List.replicate (d.names.length-i) [.str []]) false::tl) d.names.length ?_ ?_
 ·exact ⟨0,[],by simp,by simp,by simp,by simp,by simp,by simp [hnl],by simp,by simp [zd2,zak]⟩
 rintro x f σ' ⟨i,tl,hx,hi,h3,h4,h15,h16,h17,rfl⟩
 simp [h16,h17]
 refine zax (fun hlt=> ?_) (fun hge=> ?_)
 ·have hlt':i<d.names.length:=by omega
  have hwi:IntKind.i64.wrap ((i:Int)+1)=((i+1:Nat):Int):=by rw [wrap_i64 (by omega) (by omega)];omega
  obtain ⟨n,hn⟩:∃n,d.names[i]? =some n:=⟨_,yad hlt'⟩
  have hc:=zcU hn
  obtain ⟨hx1,hx2⟩:=yaa.1 hc
  have hsi:ss[i]? =some n.name:=by rw [hss,yb8,hn];rfl
  have htk:(zd2 (ss.take i)).length=i:=by rw [zin,yan];omega
  obtain ⟨R,hR⟩:∃R,R=zd2 (ss.take i)++List.replicate (d.names.length-i) [AV.str []]:=⟨_,rfl⟩
  have hRl:R.length=d.names.length:=by rw [hR,yag,htk,List.length_replicate];omega
  have hRi:R[i]? =some [.str []]:=by
   rw [hR,yaj (by omega),htk,ycx,List.getElem?_replicate,if_pos (by omega)]
  have hRs:R.set i [.str n.name]=zd2 (ss.take (i+1))++List.replicate (d.names.length-(i+1)) [.str []]:=by
   rw [hR,ybi _ _ (by omega),htk,ycx]
   have:d.names.length-i=(d.names.length-(i+1))+1:=by omega
   rw [this,ydb,List.set_cons_zero,zi1 hsi]
   simp [zd2]
  obtain ⟨hy1,hy2⟩:=yaa.1 hRi
  rw [←hR]
  simp [h3,h4,h15,h17,hc,hx2,zdd,hRl,hRi,hy2,hlt',splice,zbu,za6,zdx,z2T,z2Z,hRs,hwi]
  refine zae (d.names.length-(i+1)) (by omega) ⟨i+1,tl++ [.var 101 (zdd n)],rfl,by omega,by simp [h3],by simp [h4],by simp [h15],by simp [h16],by simp, ?_⟩
  simp [zdd]
 ·have hil:i=d.names.length:=by omega
  subst hil
  have e0:zd2 (ss.take d.names.length)++List.replicate (d.names.length-d.names.length) [AV.str []]=zd2 ss:=by
   rw [←hsl,ya1];simp
  rw [e0]
  simp [h4]
  refine za5 (σ++ [.var 30 (zak d),.row 9 1 (zd2 ss) false]) (.tup [.row (σ.length+1) d.names.length,.int .i64 0]) (by simp [zaE,h3]) tl (by simp) (by simp) (by simp [AV.under]) (fun i e he'=> ?_) ⟨rfl,by simp [zak]⟩
  rcases yel i σ.length with hlt|hge2
  ·rw [yar hlt] at he'
   exact .inl he'
  ·rw [yaj hge2] at he'
   right
   obtain ⟨j,hj⟩:∃j,j=i-σ.length:=⟨_,rfl⟩
   rw [←hj] at he'
   match j,he' with
   |0,he'=>
    simp at he';subst he'
    simp [Entry.under,zak,AV.under]
   |1,he'=>
    simp at he';subst he'
    refine za7 fun c hc=> ?_
    obtain ⟨n,_,rfl⟩:=yav.1 hc
    simp [AV.pure]
   |j+2,he'=>simp at he'
theorem zwb {σ:zac} {k j:Nat} {ids:List Nat} (hk:σ[k]? =some (.var 99 [.map j])) (hj:σ[j]? =some (.mp (kvs ids))) (f:FileM):ACalls Tryz.prog zdy [.agg (zcv f),.ptr k 0] σ (fun r σ'=>r=.bool (!decide (f.id∈ids))∧σ'=σ):=by
 refine zag hmix znJ rfl ?_
 have hkl:=(yaa.1 hk).1
 have hjl:=(yaa.1 hj).1
 have g1:∀(e:Entry),(σ++ [e])[k]? =some (.var 99 [.map j]):=fun e=>by rw [yar hkl];exact hk
 have g2:∀(e:Entry),(σ++ [e])[j]? =some (.mp (kvs ids)):=fun e=>by rw [yar hjl];exact hj
 have fin:∀(b:Bool) (f':Abs.Frame) (e:Entry),f' 3=.bool b→b=(!decide (f.id∈ids))→er σ (fun r σ'=>r=.bool (!decide (f.id∈ids))∧σ'=σ) (.mk _) [(3,none)] f' (.mk _) (σ++ [e]):=fun b f' e h3 hb=>by
  refine za5 σ (.bool b) (by simp [zaE,h3]) [e] rfl (by simp) (by simp [AV.under]) (fun i e he=> .inl he) ⟨by rw [hb],rfl⟩
 by_cases hm:f.id∈ids
 ·obtain ⟨q,hq⟩:=z2a hm 0
  simp [zfe,zcv,g1,g2,hq, -zbr]
  exact fin false _ _ (by simp) (by simp [hm])
 ·have hq:=zrw hm 0
  simp [zfe,zcv,g1,g2,hq, -zbr]
  exact fin true _ _ (by simp) (by simp [hm])
theorem ztA {pre:zac} {k j:Nat} {ids:List Nat} (hk:pre[k]? =some (.var 99 [.map j])) (hj:pre[j]? =some (.mp (kvs ids))) (fs:List FileM) (p:List AV→Bool) (hp:∀f,p (zcv f)= !decide (f.id∈ids)):Asks Tryz.prog pre zdy [.ptr k 0] .agg p (zaF fs):=fun c hc X K hK=>by
 obtain ⟨f,_,rfl⟩:=yav.1 hc
 have hkl:=(yaa.1 hk).1
 have hjl:=(yaa.1 hj).1
 refine .inr (.inr ((zwb (σ:=pre++X) (by rw [yar hkl];exact hk) (by rw [yar hjl];exact hj) f).mono ?_))
 rintro r σ' ⟨rfl,rfl⟩
 rw [←hp];exact hK
def zu5:AV→AV
 | .nils=> .lst []
 |v=>v
theorem z1i {σ:zac} {m k:Nat}:∀{els:List (List AV)},(∀c∈els,∀x∈c,x.pure=true)→(els.mapM fun (c:List AV)=>c.mapM (fz σ m k))=some (els.map fun c=>c.map zu5)
 | [],_=>rfl
 |c::els,h=>by
  have h1:∀(l:List AV),(∀x∈l,x.pure=true)→l.mapM (fz σ m k)=some (l.map zu5):=by
   intro l
   induction l with
   |nil=>intro _;rfl
   |cons x l ih=>
    intro h
    rw [yb5,ih (fun y hy=>h y (ybq _ hy))]
    have hx:=h x (by simp)
    cases x<;>first|(simp [AV.pure] at hx;done)|(cases k<;>simp [fz,hx,zu5])
  rw [yb5,h1 c (h c (by simp)),z1i (fun d hd=>h d (ybq _ hd))]
  rfl
theorem zq8 (fs:List FileM):((zaF fs).map fun c=>c.map zu5)=zaF fs:=by
 simp [zaF,zcv,zu5]
def idC:List AV→Nat
 | .int _ n::_=>n.toNat
 |_=>0
theorem zwY (f:FileM):idC (zcv f)=f.id:=by simp [idC,zcv]
theorem zsq (fs:List FileM) (p:FileM→Bool) (q:List AV→Bool) (h:∀f,q (zcv f)=p f):(zaF fs).filter q=zaF (fs.filter p):=by
 simp only [zaF,List.filter_map]
 congr 1
 exact List.filter_congr fun f _=>h f
theorem zuC (d:DiskM) (h:RightM d) (hl:Fits d):PCalls Tryz.prog zpO [.agg (zak d),.lst (zay d.names)] (fun r=>r=.agg (zak (zbs d))):=by
 refine zaa hmix zpU rfl ?_
 have hnl:=zaA d.names
 have hln:=hl.nnames
 have hfl:=zcr d.files
 have hlf:=hl.nfiles
 simp [zjz,zak]
 obtain ⟨ids,hids⟩:∃ids,ids=d.names.map (·.id):=⟨_,rfl⟩
 have hnd:ids.Nodup:=by rw [hids];exact h.names.ids
 refine zah (fun x f σ=>∃(i:Nat) (tl:zac),x=d.names.length-i∧i≤d.names.length∧f 1=.lst (zay d.names)∧f 2=.ptr 0 0∧f 4=.ptr 1 0∧f 5=.ptr 3 0∧f 9=.lst (zay d.names)∧f 10=.int .i64 d.names.length∧f 11=.int .i64 i∧NoI tl∧
  σ=.var 30 (zak d):: .var 30 [.int .i64 0,.nils,.nils,.nils,.nils,.int .i64 0]:: .mp (kvs (ids.take i)):: .var 99 [.map 2]::tl) d.names.length ?_ ?_
 ·exact ⟨0,[],by simp,by simp,by simp,by simp,by simp,by simp,by simp,by simp [hnl],by simp,NoI.nil,by simp [zak,kvs]⟩
 rintro x f σ ⟨i,tl,hx,hi,h1,h2,h4,h5,h9,h10,h11,hno,rfl⟩
 simp [h10,h11]
 refine zax (fun hlt=> ?_) (fun hge=> ?_)
 ·have hlt':i<d.names.length:=by omega
  have hwi:IntKind.i64.wrap ((i:Int)+1)=((i+1:Nat):Int):=by rw [wrap_i64 (by omega) (by omega)];omega
  obtain ⟨n,hn⟩:∃n,d.names[i]? =some n:=⟨_,yad hlt'⟩
  have hc:=zcU hn
  obtain ⟨hx1,hx2⟩:=yaa.1 hc
  have hidi:ids[i]? =some n.id:=by rw [hids,yb8,hn];rfl
  have hsn:=zi1 hidi
  have hnm:∀(a b c:Entry) (kv:List (AV×AV)) (t:TypeId) (cs:List AV),a.isItr=false→b.isItr=false→c.isItr=false→zdF (a::b:: .mp kv::c::(tl++ [.var t cs]))=true:=fun a b c kv t cs ha hb hcc=>by
   have:=(hno.var t cs).eq
   simp only [zdF,List.all_cons,ha,hb,hcc] at this⊢
   simp [Entry.isItr] at this⊢
   exact this
  have hnm1:=hnm (.var 30 (zak d)) (.var 30 [.int .i64 0,.nils,.nils,.nils,.nils,.int .i64 0]) (.var 99 [.map 2]) (kvs (ids.take i)) 101 (zdd n) rfl rfl rfl
  simp only [zak,zdd] at hnm1
  simp [h1,h2,h4,h5,h9,h11,hc,hx2,zdd,zak,zam,zal,splice,zsQ (zrG hnd hidi),hnm1,hwi, -zbr, -zeO, -zdF, -Entry.isItr]
  refine zae (d.names.length-(i+1)) (by omega) ⟨i+1,tl++ [.var 101 (zdd n)],rfl,by omega,by simp [h1],by simp [h2],by simp [h4],by simp [h5],by simp [h9],by simp [h10],by simp,hno.var _ _, ?_⟩
  rw [hsn];simp [zak,zdd]
 ·have hil:i=d.names.length:=by omega
  have hkl2:ids.length=d.names.length:=by rw [hids];simp
  rw [hil,←hkl2,ya1]
  have hnn:∀c∈zay d.names,∀x∈c,x≠ .nils:=fun c hc=>by obtain ⟨n,_,rfl⟩:=yav.1 hc;simp [zdd]
  simp [h1]
  refine zad (zxf (zay d.names) (ze9 _) (by omega) hnn) (by simp [AV.pure]) ?_
  rintro r rfl
  simp [h1]
  refine zad (zxf (zay d.names) (ze9 _) (by omega) hnn) (by simp [AV.pure]) ?_
  rintro r rfl
  simp [h2,zak,splice]
  refine zar (zvj (zaF d.files) (zf1 d.files) (by omega)) ?_
  rintro r σ (⟨h0,rfl,rfl⟩|⟨rfl,rfl⟩)
  ·simp [h5]
   refine zar (z0i zdy [.ptr 3 0]) ?_
   rintro r σ ⟨rfl,rfl⟩
   have h0':d.files= []:=by simpa [zaF] using h0
   simp [h2,h4,splice]
   simp [zbs,h0',zaF,zbx]
  ·simp [h5]
   obtain ⟨pre,hpre⟩:∃pre:zac,pre=.var 30 [.int .i64 d.quota,.lst (zaF d.files),.lst (zay d.names),.lst (zay d.names),.nils,.int .i64 d.next]:: .var 30 [.int .i64 0,.nils,.nils,.nils,.nils,.int .i64 0]:: .mp (kvs ids):: .var 99 [.map 2]::tl:=⟨_,rfl⟩
   have hpl:pre.length=tl.length+1+1+1+1:=by rw [hpre];rfl
   have kA:=ztA (G:=G) (pre:=pre) (k:=3) (j:=2) (ids:=ids) (by rw [hpre];rfl) (by rw [hpre];rfl) d.files (fun c=> !decide (idC c∈ids)) (fun f=>by rw [zwY])
   have kD:=z7X (G:=G) pre (zaF d.files) (zf1 d.files) (by omega) (fun c=> !decide (idC c∈ids)) zdy [.ptr 3 0] znT kA
   have hflt:((zaF d.files).filter fun n=> !!decide (idC n∈ids))=zaF (zbs d).files:=by
    rw [zsq d.files (fun f=>decide (∃n∈d.names,n.id=f.id)) _ (fun f=>by rw [zwY,hids];simp)]
    rfl
   rw [hflt,hpl,hpre] at kD
   refine zar kD ?_
   rintro r σ ⟨X,rfl,hX1,hX2,hX3⟩
   have hfz:∀(σ:zac) (m k:Nat),(X.mapM fun (c:List AV)=>c.mapM (fz σ m k))=some (X.map fun c=>c.map zu5):=fun σ m k=>z1i hX2.2.1
   have hX1':X.length=d.files.length:=by rw [hX1,hfl]
   rcases hX3 with ⟨rfl,rfl⟩|⟨rfl,hX4⟩
   ·simp [h2,h4,splice,hfz,hX1]
    rw [zq8]
    simp [zbs,zbx]
   ·have hall:∀a∈X,a.length=3:=hX2.1
    have htk:(X.map fun c=>c.map zu5).take (zaF (zbs d).files).length=zaF (zbs d).files:=by
     rw [←yem,hX4,zq8]
    simp [h2,h4,splice,hfz,hX1]
    rw [if_pos hall,htk]
    simp [zbs,zbx]
theorem zvQ (d:DiskM) (h:RightM d) (hl:Fits d):PCalls Tryz.prog zjA [.agg (zak d)] (fun r=>r=.tup [.agg (zak (zbs d)),.int .i64 0]):=by
 refine zaa hmix zpM rfl ?_
 simp [zj8,zak]
 refine zad (zlS d h hl) (by simp [AV.pure,zak]) ?_
 rintro r rfl
 simp
 refine zad (zuC d h hl) (by simp [AV.pure,zak]) ?_
 rintro r rfl
 simp [zak]
end Go.Proofs.YtdbhocoeolhjhaaGreatDoor
end
