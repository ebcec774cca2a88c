/- Shelf, plain: metrics, names of files, a shelf and its invariant. Shelf: the small functions of the shelf. Shelf: the worker's operations. Shelf, plai -/
import Derived.WalkKit
import Derived.Test.YtdbhocoeolhjhaaGreatDoorCode
import Derived.Test.YtdbhocoeolhjhaaGreatDoorShelf
import Derived.Test.YtdbhocoeolhjhaaGreatDoorAbs2
import Derived.Lib.IndexAny
import Derived.Lib.Bytealg
import Derived.Test.YtdbhocoeolhjhaaGreatDoorBn1
import Derived.Test.YtdbhocoeolhjhaaGreatDoorBn2
import Derived.Test.YtdbhocoeolhjhaaGreatDoorBn3
import Derived.Test.YtdbhocoeolhjhaaGreatDoorBn4
import Derived.Test.YtdbhocoeolhjhaaGreatDoorBn5
set_option linter.unusedSimpArgs false
set_option linter.unusedVariables false
set_option linter.constructorNameAsVariable false
section
set_option maxHeartbeats 1000000
namespace Go.Sf
open Go.Abs Go.Num
structure MetM where
 id:Nat
 path:Txt
 lad:LadM
 base:Nat
 last:Nat
 count:Nat
structure ShM where
 disk:DiskM
 mets:List MetM
 next:Nat
abbrev kM:MetM→Txt:=MetM.path
def metC (m:MetM):List AV:= [.int .i64 m.id,.str m.path,.lst rungsC,.int .i64 1,.int .i64 500000,.int .i64 1,.int .i64 500000,.lst (ringsC m.lad),.int .i64 m.base,.int .i64 m.last,.int .i64 m.count]
def metsC (l:List MetM):List (List AV):=l.map metC
def shC (s:ShM):List AV:= [.int .i64 s.disk.quota,.lst (filesC s.disk.files),.lst (namesC s.disk.names),.lst (namesC s.disk.kept),.lst (movesC s.disk.moves),.int .i64 s.disk.next,.lst (metsC s.mets),.int .i64 s.next,.int .i64 (-1),.bool false]
theorem metsC_len (l:List MetM):(metsC l).length=l.length:=by simp [metsC]
theorem metsC_get {l:List MetM} {i:Nat} {m:MetM} (h:l[i]? =some m):(metsC l)[i]? =some (metC m):=by simp [metsC,h]
theorem metsC_inv {l:List MetM} {i:Nat} {c:List AV} (h:(metsC l)[i]? =some c):∃m,l[i]? =some m∧c=metC m:=by
 simp only [metsC,List.getElem?_map,Option.map_eq_some_iff] at h
 obtain ⟨m,h1,h2⟩:=h
 exact ⟨m,h1,h2.symm⟩
theorem metsC_els (l:List MetM):Els 11 (metsC l):=by
 refine ⟨fun c hc=> ?_,fun c hc=> ?_,fun c hc=> ?_⟩<;>obtain ⟨n,_,rfl⟩:=List.mem_map.1 hc<;>simp [metC,AV.pure,AV.one]
theorem metsC_fz (σ:Store) (m k:Nat) (l:List MetM):((metsC l).mapM fun (c:List AV)=>c.mapM (fz σ m k))=some (metsC l):=fz_pure (metsC_els l).2.1 (fun c hc=>by obtain ⟨n,_,rfl⟩:=List.mem_map.1 hc;simp [metC])
theorem metsC_ins (l:List MetM) (x:MetM):(metsC l).take (posK kM l x.path)++metC x::(metsC l).drop (posK kM l x.path)=metsC (insK kM l x):=by
 simp [metsC,insK]
def withM (s:ShM) (m:MetM):ShM:=if hasK kM s.mets m.path then {s with mets:=s.mets.set (posK kM s.mets m.path) m} else {s with mets:=insK kM s.mets m,next:=max s.next (m.id+1)}
def kindP:Txt:= [46,112]
def kindC:Txt:= [46,99]
def kindT:Txt:= [46,116]
def nameOf (id seq:Nat) (kind:Txt):Txt:=Lib.decDigits id++ [46]++Lib.decDigits seq++kind
def P4:List Txt:= [[97],[98],[97,46,99],[100,46,101,46,102]]
def numT (s:Txt):Nat:=s.foldl (fun n b=>n*10+(b.toNat-48)) 0
def unname (s:Txt):Nat×Nat×Txt:=
 let a:=s.takeWhile (· ≠46)
 let r:=(s.dropWhile (· ≠46)).drop 1
 (numT a,numT (r.takeWhile (· ≠46)),r.dropWhile (· ≠46))
theorem unname_ok:∀id<5,∀q<70,∀k∈ [kindP,kindC,kindT],unname (nameOf id q k)=(id,q,k):=by decide+kernel
theorem nameOf_inj {i j q r:Nat} {k l:Txt} (hi:i<5) (hj:j<5) (hq:q<70) (hr:r<70) (hk:k∈ [kindP,kindC,kindT]) (hl:l∈ [kindP,kindC,kindT]) (h:nameOf i q k=nameOf j r l):i=j∧q=r∧k=l:=by
 have h1:=unname_ok i hi q hq k hk
 have h2:=unname_ok j hj r hr l hl
 rw [h,h2] at h1
 simpa [eq_comm] using h1
theorem nameOf_ok:∀id<5,∀q<70,∀k∈ [kindP,kindC,kindT],okS (nameOf id q k):=by decide+kernel
theorem nameOf_pre:∀id<5,∀q<70,∀k∈ [kindP,kindC,kindT],∀j<5,Lib.hasPrefix (nameOf id q k) (Lib.decDigits j++ [46])=decide (id=j):=by decide+kernel
end Go.Sf
end
section
set_option maxHeartbeats 4000000
namespace Go.Sf
def zeroM:List Abs.AV:= [.int .i64 0,.str [],.lst [],.int .i64 0,.int .i64 0,.int .i64 0,.int .i64 0,.lst [],.int .i64 0,.int .i64 0,.int .i64 0]
end Go.Sf
namespace Go.Proofs.YtdbhocoeolhjhaaGreatDoor
open Go.Abs Go.RowKit Go.Sf Go.Num
variable {G:Globs}
theorem shead_ok (m:MetM):PCalls Tryz.prog n_shelf_head [.agg (metC m)] (fun r=>r=.agg (headC m.path)):=by
 refine pcalls_of_awp hmix c_shelf_head rfl ?_
 simp [a_shelf_head,metC,headC,splice]
theorem dec_two:∀i<100,(Lib.decDigits i).length≤2:=by decide+kernel
theorem sname_ok (i q:Nat) (k:Txt) (hi:i<100) (hq:q<100) (hk:k.length≤1000):PCalls Tryz.prog n_shelf_name [.int .i64 i,.int .i64 q,.str k] (fun r=>r=.str (nameOf i q k)):=by
 refine pcalls_of_awp hmix c_shelf_name rfl ?_
 have d1:=dec_two i hi
 have d2:=dec_two q hq
 have l1:(Lib.decDigits i).length≤9223372036854775806:=by omega
 have l2:(Lib.decDigits i).length+(1+(Lib.decDigits q).length)≤9223372036854775807:=by omega
 have l2':(Lib.decDigits i).length+((Lib.decDigits q).length+1)≤9223372036854775807:=by omega
 have l4:(Lib.decDigits i).length+1+(Lib.decDigits q).length≤9223372036854775807:=by omega
 have l5:(Lib.decDigits i).length+((Lib.decDigits q).length+1)+k.length≤9223372036854775807:=by omega
 have l3:(Lib.decDigits i).length+((Lib.decDigits q).length+k.length+1)≤9223372036854775807:=by omega
 simp [a_shelf_name]
 refine ac_same (itoa_ok i hi) (by simp) ?_
 rintro r rfl
 simp [l1]
 refine ac_same (itoa_ok q hq) (by simp) ?_
 rintro r rfl
 simp [l2,l2',l3,l4,l5,nameOf]
theorem splace1_ok (m:MetM) (s:Txt):PCalls Tryz.prog n_shelf_place_1 [.agg (metC m),.str s] (fun r=>r=.int .i64 (Lib.compareBytes m.path s)):=by
 refine pcalls_of_awp hmix c_shelf_place_1 rfl ?_
 simp [a_shelf_place_1,metC]
 refine ac_same (compare_ok _ _) (by simp) ?_
 rintro r rfl
 simp
theorem splace_ok (s:ShM) (p:Txt) (hs:Srt kM s.mets) (hl:s.mets.length≤1000000):PCalls Tryz.prog n_shelf_place [.agg (shC s),.str p] (fun r=>r=.tup [.int .i64 (posK kM s.mets p),.bool (decide (hasK kM s.mets p))]):=by
 refine pcalls_of_awp hmix c_shelf_place rfl ?_
 simp [a_shelf_place,shC]
 have hp:=posK_le (key:=kM) s.mets p
 have kB:=bsMt (G:=G) (metsC s.mets) (metsC_els s.mets) (by rw [metsC_len];omega) (.str p) (by simp [AV.pure]) n_shelf_place_1 b_shelf_place_1 (posK kM s.mets p) (by rw [metsC_len];exact hp)
  (fun i=>match s.mets[i]? with|some n=>Lib.compareBytes n.path p|none=>0)
  (fun i c hc=>by
   obtain ⟨n,hn,rfl⟩:=metsC_inv hc
   simp only [hn]
   exact splace1_ok n p)
  (fun i hi=>by
   obtain ⟨n,hn⟩:∃n,s.mets[i]? =some n:=⟨s.mets[i]'(by omega),List.getElem?_eq_getElem (by omega)⟩
   simp only [hn]
   exact (cmp_neg _ _).2 (posK_lt hi hn))
  (fun i h1 h2=>by
   rw [metsC_len] at h2
   obtain ⟨n,hn⟩:∃n,s.mets[i]? =some n:=⟨s.mets[i]'h2,List.getElem?_eq_getElem h2⟩
   simp only [hn]
   have:=posK_ge hs h1 hn
   exact Int.not_lt.1 fun h=>this ((cmp_neg _ _).1 h))
 refine ac_same kB (by simp [AV.pure]) ?_
 rintro r rfl
 simp
 rw [metsC_len]
 by_cases hh:hasK kM s.mets p
 ·obtain ⟨n,hn,hk⟩:=(has_pos hs).1 hh
  have:=(List.getElem?_eq_some_iff.1 hn).1
  have hz:=(cmp_zero n.path p).2 hk
  obtain ⟨hx1,hx2⟩:=List.getElem?_eq_some_iff.1 hn
  simp [hh,hn,this,hz,hx2]
 ·by_cases hlt:posK kM s.mets p<s.mets.length
  ·obtain ⟨n,hn⟩:∃n,s.mets[posK kM s.mets p]? =some n:=⟨s.mets[posK kM s.mets p]'hlt,List.getElem?_eq_getElem hlt⟩
   have hne:n.path≠p:=fun e=>hh ((has_pos hs).2 ⟨n,hn,e⟩)
   have:¬Lib.compareBytes n.path p=0:=fun e=>hne ((cmp_zero _ _).1 e)
   obtain ⟨hx1,hx2⟩:=List.getElem?_eq_some_iff.1 hn
   simp [hh,hn,hlt,this,hx2]
  ·simp [hh,hlt]
theorem sFind_no (s:ShM) (p:Txt) (hs:Srt kM s.mets) (hl:s.mets.length≤1000000) (hh:¬hasK kM s.mets p):PCalls Tryz.prog n_shelf_Find [.agg (shC s),.str p] (fun r=>r=.tup [.agg zeroM,.int .i64 15]):=by
 refine pcalls_of_awp hmix c_shelf_Find rfl ?_
 have kP:=splace_ok (G:=G) s p hs hl
 simp only [shC] at kP
 simp [a_shelf_Find,shC]
 refine ac_same kP (by simp [AV.pure]) ?_
 rintro r rfl
 simp [hh,splice,zeroM]
theorem sFind_has (s:ShM) (p:Txt) (hs:Srt kM s.mets) (hl:s.mets.length≤1000000) {m:MetM} (hm:s.mets[posK kM s.mets p]? =some m) (hh:m.path=p):PCalls Tryz.prog n_shelf_Find [.agg (shC s),.str p] (fun r=>r=.tup [.agg (metC m),.int .i64 0]):=by
 refine pcalls_of_awp hmix c_shelf_Find rfl ?_
 have kP:=splace_ok (G:=G) s p hs hl
 have hh':hasK kM s.mets p:=(has_pos hs).2 ⟨m,hm,hh⟩
 have hc:=metsC_get hm
 obtain ⟨hx1,hx2⟩:=List.getElem?_eq_some_iff.1 hc
 simp only [shC] at kP
 simp [a_shelf_Find,shC]
 refine ac_same kP (by simp [AV.pure]) ?_
 rintro r rfl
 simp [hh',hc,hx2,metC,splice]
theorem sfresh_ok (s:ShM) (p:Txt) (hl:s.mets.length<64):PCalls Tryz.prog n_shelf_fresh [.agg (shC s),.str p,.agg schC] (fun r=>r=.tup [.agg (metC ⟨s.next,p,newL,0,0,0⟩),.int .i64 0]):=by
 refine pcalls_of_awp hmix c_shelf_fresh rfl ?_
 have k:=ladNew_ok (G:=G)
 have kc:=pcloneRu (G:=G) rungsC (by refine ⟨?_, ?_, ?_⟩<;>simp [rungsC,AV.pure,AV.one]) (by simp [rungsC]) (by simp [rungsC])
 have h64:¬(64≤(s.mets.length:Int)):=by omega
 have h64':¬(64≤s.mets.length):=by omega
 simp only [schC,ladC] at k
 simp [a_shelf_fresh,shC,schC]
 refine ac_same k (by simp [AV.pure]) ?_
 rintro r rfl
 simp [splice,metsC_len,h64,h64']
 refine ac_same kc (by simp [AV.pure]) ?_
 rintro r rfl
 simp [splice,metC]
theorem sroom_ok (d:DiskM) (h:RightM d) (hl:Fits d) (n:Nat) (hn:n≤1000000000) (more:Bool) (hf:d.files.length<256):PCalls Tryz.prog n_shelf_room [.agg (diskC d),.int .i64 n,.bool more] (fun r=>r=.int .i64 (if n≤d.quota-usedM d then 0 else 6)):=by
 refine pcalls_of_awp hmix c_shelf_room rfl ?_
 have kU:=dused_ok (G:=G) d hl
 have hq:=h.quota
 have hu:=h.used
 have hw:IntKind.i64.wrap ((d.quota:Int)-usedM d)=((d.quota-usedM d:Nat):Int):=by rw [wrap_i64 (by omega) (by omega)];omega
 have h6:¬(256≤(d.files.length:Int)):=by omega
 have h6':¬(256≤d.files.length):=by omega
 simp only [diskC] at kU
 simp [a_shelf_room,diskC]
 refine qc_same kU (by simp [AV.pure]) (by simp) ?_
 by_cases hc:n≤d.quota-usedM d
 ·have hc':¬((d.quota-usedM d:Nat):Int)<n:=by omega
  have hc'':¬(d.quota-usedM d)<n:=by omega
  cases more<;>simp [hw,hc,hc',hc'',filesC_len,h6,h6']
 ·have hc':((d.quota-usedM d:Nat):Int)<n:=by omega
  have hc'':(d.quota-usedM d)<n:=by omega
  simp [hw,hc,hc',hc'']
theorem swith_ok (s:ShM) (m:MetM) (hs:Srt kM s.mets) (hl:s.mets.length≤1000) (hx:s.next≤1000000) (hi:m.id≤1000000):PCalls Tryz.prog n_shelf_with [.agg (shC s),.agg (metC m)] (fun r=>r=.agg (shC (withM s m))):=by
 refine pcalls_of_awp hmix c_shelf_with rfl ?_
 have kP:=splace_ok (G:=G) s m.path hs (by omega)
 have hp:=posK_le (key:=kM) s.mets m.path
 have hml:=metsC_len s.mets
 have hwi:IntKind.i64.wrap ((m.id:Int)+1)=((m.id+1:Nat):Int):=by rw [wrap_i64 (by omega) (by omega)];omega
 have hmx:(if (s.next:Int)<m.id+1 then (m.id:Int)+1 else s.next)=((max s.next (m.id+1):Nat):Int):=by split<;>omega
 have hpi:=posK_le (key:=kM) (insK kM s.mets m) m.path
 simp only [shC] at kP
 simp [a_shelf_with,shC,metC]
 refine ac_same kP (by simp [AV.pure]) ?_
 rintro r rfl
 simp
 refine ac_eff (cloneMt (metsC s.mets) (metsC_els s.mets) (by omega)) ?_
 rintro r σ (⟨h0,rfl,rfl⟩|⟨rfl,rfl⟩)
 ·have h0':s.mets= []:=by simpa [metsC] using h0
  have hno:¬hasK kM s.mets m.path:=by rw [h0'];simp [hasK]
  simp [hno,splice]
  have e0:posK kM s.mets m.path=0:=by rw [h0'];rfl
  rw [e0]
  refine ac_eff (insNilMt (jd:=3) (T2:=57) (c:=metC m) (by simp [metC]) rfl (by simp [metC,AV.pure])) ?_
  rintro r σ ⟨rfl,rfl⟩
  have hw:withM s m={s with mets:= [m],next:=max s.next (m.id+1)}:=by
   unfold withM
   rw [if_neg hno,h0'];rfl
  rw [hw]
  simp [metC,splice,hwi,shC,metsC,hmx]
 ·by_cases hh:hasK kM s.mets m.path
  ·obtain ⟨n,hn,hk⟩:=(has_pos hs).1 hh
   have hpl:=(List.getElem?_eq_some_iff.1 hn).1
   have hc:=metsC_get hn
   obtain ⟨hx1,hx2⟩:=List.getElem?_eq_some_iff.1 hc
   have e1:(metsC s.mets).set (posK kM s.mets m.path) (metC m)=metsC (s.mets.set (posK kM s.mets m.path) m):=by simp [metsC,List.map_set]
   have e2:(metsC s.mets).length=(metsC (s.mets.set (posK kM s.mets m.path) m)).length:=by simp [metsC]
   have hw:withM s m={s with mets:=s.mets.set (posK kM s.mets m.path) m}:=by
    unfold withM
    rw [if_pos hh]
   simp only [metC] at e1
   have hpl2:posK kM s.mets m.path<(metsC s.mets).length:=by omega
   rw [hw]
   simp [hh,splice,hc,hx2,hpl,hpl2,metC,e1,shC]
   rw [e2]
   simp [metsC_fz]
  ·simp [hh,splice]
   have hw:withM s m={s with mets:=insK kM s.mets m,next:=max s.next (m.id+1)}:=by
    unfold withM
    rw [if_neg hh]
   have hq:(metsC s.mets).length+1=(metsC (insK kM s.mets m)).length:=by rw [metsC_len,metsC_len,len_insK]
   have hc:=metsC_ins s.mets m
   simp only [metC] at hc
   have hat:(insK kM s.mets m)[posK kM s.mets m.path]? =some m:=by
    unfold insK
    rw [List.getElem?_append_right (by rw [List.length_take];exact Nat.min_le_left _ _),List.length_take,Nat.min_eq_left hp,Nat.sub_self];rfl
   have hca:=metsC_get hat
   obtain ⟨hx1,hx2⟩:=List.getElem?_eq_some_iff.1 hca
   have hse:(metsC (insK kM s.mets m)).set (posK kM s.mets m.path) (metC m)=metsC (insK kM s.mets m):=by
    rw [←hx2,List.set_getElem_self]
   simp only [metC] at hse
   by_cases hlt:posK kM s.mets m.path<s.mets.length
   ·refine ac_eff (insertMt (id:=3) (jd:=4) (T2:=57) (els:=metsC s.mets) (c:=metC m) (i:=posK kM s.mets m.path) (by simp) (by simp [metC]) (by omega) (by rw [metsC_len];exact hlt) (by rw [metsC_len];omega)) ?_
    rintro r σ ⟨rfl,rfl⟩
    simp only [metC]
    rw [hc,hq,hw]
    simp [splice,hwi,hmx,hx1,hca,hx2,metC,hse,metsC_fz,shC]
   ·have he:posK kM s.mets m.path=s.mets.length:=by omega
    have hn:=metsC_len s.mets
    rw [he,←hn,List.take_length,List.drop_length] at hc
    rw [he,←hn]
    refine ac_eff (insEndMt (id:=3) (jd:=4) (T2:=57) (els:=metsC s.mets) (c:=metC m) (by simp) (by simp [metC]) (metsC_els _) rfl (by simp [metC,AV.pure]) (by rw [metsC_len];omega)) ?_
    rintro r σ ⟨rfl,rfl⟩
    simp only [metC]
    rw [hc,hq,hw]
    rw [he,←hn] at hca hse
    obtain ⟨hx3,hx4⟩:=List.getElem?_eq_some_iff.1 hca
    simp [splice,hwi,hmx,hx3,hca,hx4,metC,hse,metsC_fz,shC]
end Go.Proofs.YtdbhocoeolhjhaaGreatDoor
end
section
set_option maxHeartbeats 4000000
namespace Go.Sf
open Go.Abs
def wkC (s:ShM):List AV:= [.int .i64 s.disk.quota,.lst (filesC s.disk.files),.lst (namesC s.disk.names),.lst (namesC s.disk.kept),.lst (movesC s.disk.moves),.int .i64 s.disk.next,.lst (metsC s.mets),.int .i64 s.next,.int .i64 (-1),.bool false,.int .i64 0]
end Go.Sf
namespace Go.Proofs.YtdbhocoeolhjhaaGreatDoor
open Go.Abs Go.RowKit Go.Sf Go.Num
variable {G:Globs}
theorem get_lt {σ:Store} {k:Nat} {e:Entry} (h:σ[k]? =some e) (l:Store):(σ++l)[k]? =some e:=by
 rw [List.getElem?_append_left (List.getElem?_eq_some_iff.1 h).1];exact h
theorem get_set {σ:Store} {k:Nat} {e:Entry} (h:σ[k]? =some e) (x:Entry):(σ.set k x)[k]? =some x:=by
 simp [(List.getElem?_eq_some_iff.1 h).1]
theorem set_lt {σ:Store} {k:Nat} {e:Entry} (h:σ[k]? =some e) (l:Store) (x:Entry):(σ++l).set k x=σ.set k x++l:=by
 rw [List.set_append_left _ _ (List.getElem?_eq_some_iff.1 h).1]
theorem er_set {σ:Store} {k:Nat} {e x:Entry} {R:AV→Store→Prop} {t:Tg R} {res:List (Nat×Option (Bool×Nat))} {f:Abs.Frame} {tf:Tg f} (hk:σ[k]? =some e) (r:AV) (hr:(res.mapM (evalRes (σ.set k x) f)).map tupOf=some r) (hru:r.under (σ.set k x).length=true)
  (hu:x.under (σ.set k x).length=true) (hR:R r (σ.set k x)):er σ R t res f tf (σ.set k x):=by
 refine er_keep (σ.set k x) r hr [] (by simp) (by simp) hru (fun i e' he'=> ?_) hR
 by_cases hik:k=i
 ·subst hik
  rw [get_set hk] at he'
  cases he'
  exact .inr hu
 ·rw [List.getElem?_set_ne hik] at he'
  exact .inl he'
theorem er_setx {σ ext:Store} {k:Nat} {e x:Entry} {R:AV→Store→Prop} {t:Tg R} {res:List (Nat×Option (Bool×Nat))} {f:Abs.Frame} {tf:Tg f} (hk:σ[k]? =some e) (r:AV) (hr:(res.mapM (evalRes (σ.set k x++ext) f)).map tupOf=some r) (hru:r.under (σ.set k x).length=true)
  (hu:x.under (σ.set k x).length=true) (hR:R r (σ.set k x)):er σ R t res f tf (σ.set k x++ext):=by
 refine er_keep (σ.set k x) r hr ext rfl (by simp) hru (fun i e' he'=> ?_) hR
 by_cases hik:k=i
 ·subst hik
  rw [get_set hk] at he'
  cases he'
  exact .inr hu
 ·rw [List.getElem?_set_ne hik] at he'
  exact .inl he'
theorem er_drop {σ ext:Store} {R:AV→Store→Prop} {t:Tg R} {res:List (Nat×Option (Bool×Nat))} {f:Abs.Frame} {tf:Tg f} (r:AV) (hr:(res.mapM (evalRes (σ++ext) f)).map tupOf=some r) (hru:r.under σ.length=true) (hR:R r σ):er σ R t res f tf (σ++ext):=
 er_keep σ r hr ext rfl (Nat.le_refl _) hru (fun _ _ h=> .inl h) hR
theorem act_ok {σ:Store} {k:Nat} (s:ShM) (g:Nat) (capt:List AV) (D':DiskM) (hb:hasBody Tryz.prog g=true) (hk:σ[k]? =some (.var 127 (wkC s))) (hc:ACalls Tryz.prog g (.agg (diskC s.disk)::capt) σ (fun r σ'=>r=.tup [.agg (diskC D'),.int .i64 0]∧σ'=σ)):
  ACalls Tryz.prog n_shelf_worker_act [.ptr k 0,.fn (.func g) [] capt] σ (fun r σ'=>r=.tup []∧σ'=σ.set k (.var 127 (wkC {s with disk:=D'}))):=by
 refine acalls_of_awp_e hmix c_shelf_worker_act rfl ?_
 have hgs:=get_set hk
 simp [a_shelf_worker_act,hk,wkC]
 refine cv_fn hb ?_
 simp only [diskC] at hc
 refine ac_eff hc ?_
 rintro r σ' ⟨rfl,rfl⟩
 simp [hk,hgs,wkC,splice]
 exact er_set hk (.tup []) (by simp [tupOf]) (by simp [AV.under]) (by simp [Entry.under,AV.under]) ⟨rfl,by simp [wkC]⟩
theorem ac_of_pc {P:Program} {f:FuncId} {args:List AV} {σ:Store} {R:AV→Prop} (h:PCalls P f args R) (ha:args.all AV.pure=true):ACalls P f args σ (fun r σ'=>R r∧σ'=σ):=
 fun base κ Im w vs hs hv=>acall_ok hs hv (.inl ⟨args,R,coeL_same ha,h,fun r hr=>⟨hr,rfl⟩⟩)
theorem wcreate1_ok {σ:Store} {j:Nat} {n:Txt} (d:DiskM) (hj:σ[j]? =some (.var 9 [.str n])) (h:RightM d) (hl:Fits d) (ho:okS n) (hh:¬hasK kN d.names n) (hf:d.files.length<256) (hx:d.next<1099511627776):
  ACalls Tryz.prog n_shelf_worker_create_1 [.agg (diskC d),.ptr j 0] σ (fun r σ'=>r=.tup [.agg (diskC (createM (d) n)),.int .i64 0]∧σ'=σ):=by
 refine acalls_of_awp_e hmix c_shelf_worker_create_1 rfl ?_
 have kC:=dcreate_ok (G:=G) d n h hl ho hh hf hx
 simp only [diskC] at kC
 have gj:=get_lt hj
 simp [a_shelf_worker_create_1,diskC,gj]
 refine ac_same kC (by simp [AV.pure]) ?_
 rintro r rfl
 simp [pre_get1,pre_set1,splice]
 exact er_drop (.tup [.agg (diskC (createM (d) n)),.int .i64 0]) (by simp [tupOf,diskC,pre_get1]) (by simp [AV.under,diskC]) ⟨by simp [diskC],rfl⟩
theorem wcreate_ok {σ:Store} {k:Nat} {n:Txt} (s:ShM) (hk:σ[k]? =some (.var 127 (wkC s))) (h:RightM s.disk) (hl:Fits s.disk) (ho:okS n) (hh:¬hasK kN s.disk.names n) (hf:s.disk.files.length<256) (hx:s.disk.next<1099511627776):
  ACalls Tryz.prog n_shelf_worker_create [.ptr k 0,.str n] σ (fun r σ'=>r=.tup []∧σ'=σ.set k (.var 127 (wkC {s with disk:=createM (s.disk) n}))):=by
 refine acalls_of_awp_e hmix c_shelf_worker_create rfl ?_
 simp [a_shelf_worker_create]
 have kA:=act_ok (G:=G) (σ:=σ++ [.var 9 [.str n]]) s n_shelf_worker_create_1 [.ptr (σ.length) 0] (createM (s.disk) n) b_shelf_worker_create_1 (get_lt hk _) (wcreate1_ok s.disk (by simp) h hl ho hh hf hx)
 refine ac_eff kA ?_
 rintro r σ' ⟨rfl,rfl⟩
 rw [set_lt hk]
 simp
 exact er_setx hk (.tup []) (by simp [tupOf]) (by simp [AV.under]) (by simp [Entry.under,AV.under,wkC]) ⟨rfl,rfl⟩
theorem wsync1_ok {σ:Store} {j:Nat} {n:Txt} (d:DiskM) (hj:σ[j]? =some (.var 9 [.str n])) (h:RightM d) (hl:Fits d) (ho:okS n) (hh:hasK kN d.names n):
  ACalls Tryz.prog n_shelf_worker_sync_1 [.agg (diskC d),.ptr j 0] σ (fun r σ'=>r=.tup [.agg (diskC (syncM (d) n)),.int .i64 0]∧σ'=σ):=by
 refine acalls_of_awp_e hmix c_shelf_worker_sync_1 rfl ?_
 have kC:=dsync_ok (G:=G) d n h hl ho hh
 simp only [diskC] at kC
 have gj:=get_lt hj
 simp [a_shelf_worker_sync_1,diskC,gj]
 refine ac_same kC (by simp [AV.pure]) ?_
 rintro r rfl
 simp [pre_get1,pre_set1,splice]
 exact er_drop (.tup [.agg (diskC (syncM (d) n)),.int .i64 0]) (by simp [tupOf,diskC,pre_get1]) (by simp [AV.under,diskC]) ⟨by simp [diskC],rfl⟩
theorem wsync_ok {σ:Store} {k:Nat} {n:Txt} (s:ShM) (hk:σ[k]? =some (.var 127 (wkC s))) (h:RightM s.disk) (hl:Fits s.disk) (ho:okS n) (hh:hasK kN s.disk.names n):
  ACalls Tryz.prog n_shelf_worker_sync [.ptr k 0,.str n] σ (fun r σ'=>r=.tup []∧σ'=σ.set k (.var 127 (wkC {s with disk:=syncM (s.disk) n}))):=by
 refine acalls_of_awp_e hmix c_shelf_worker_sync rfl ?_
 simp [a_shelf_worker_sync]
 have kA:=act_ok (G:=G) (σ:=σ++ [.var 9 [.str n]]) s n_shelf_worker_sync_1 [.ptr (σ.length) 0] (syncM (s.disk) n) b_shelf_worker_sync_1 (get_lt hk _) (wsync1_ok s.disk (by simp) h hl ho hh)
 refine ac_eff kA ?_
 rintro r σ' ⟨rfl,rfl⟩
 rw [set_lt hk]
 simp
 exact er_setx hk (.tup []) (by simp [tupOf]) (by simp [AV.under]) (by simp [Entry.under,AV.under,wkC]) ⟨rfl,rfl⟩
theorem wremove1_ok {σ:Store} {j:Nat} {n:Txt} (d:DiskM) (hj:σ[j]? =some (.var 9 [.str n])) (h:RightM d) (hl:Fits d) (ho:okS n) (hh:hasK kN d.names n):
  ACalls Tryz.prog n_shelf_worker_remove_1 [.agg (diskC d),.ptr j 0] σ (fun r σ'=>r=.tup [.agg (diskC (removeM (d) n)),.int .i64 0]∧σ'=σ):=by
 refine acalls_of_awp_e hmix c_shelf_worker_remove_1 rfl ?_
 have kC:=dremove_ok (G:=G) d n h hl ho hh
 simp only [diskC] at kC
 have gj:=get_lt hj
 simp [a_shelf_worker_remove_1,diskC,gj]
 refine ac_same kC (by simp [AV.pure]) ?_
 rintro r rfl
 simp [pre_get1,pre_set1,splice]
 exact er_drop (.tup [.agg (diskC (removeM (d) n)),.int .i64 0]) (by simp [tupOf,diskC,pre_get1]) (by simp [AV.under,diskC]) ⟨by simp [diskC],rfl⟩
theorem wremove_ok {σ:Store} {k:Nat} {n:Txt} (s:ShM) (hk:σ[k]? =some (.var 127 (wkC s))) (h:RightM s.disk) (hl:Fits s.disk) (ho:okS n) (hh:hasK kN s.disk.names n):
  ACalls Tryz.prog n_shelf_worker_remove [.ptr k 0,.str n] σ (fun r σ'=>r=.tup []∧σ'=σ.set k (.var 127 (wkC {s with disk:=removeM (s.disk) n}))):=by
 refine acalls_of_awp_e hmix c_shelf_worker_remove rfl ?_
 simp [a_shelf_worker_remove]
 have kA:=act_ok (G:=G) (σ:=σ++ [.var 9 [.str n]]) s n_shelf_worker_remove_1 [.ptr (σ.length) 0] (removeM (s.disk) n) b_shelf_worker_remove_1 (get_lt hk _) (wremove1_ok s.disk (by simp) h hl ho hh)
 refine ac_eff kA ?_
 rintro r σ' ⟨rfl,rfl⟩
 rw [set_lt hk]
 simp
 exact er_setx hk (.tup []) (by simp [tupOf]) (by simp [AV.under]) (by simp [Entry.under,AV.under,wkC]) ⟨rfl,rfl⟩
theorem wadd1_ok {σ:Store} {j i:Nat} {n:Txt} {b:Txt} (d:DiskM) (hj:σ[j]? =some (.var 9 [.str n])) (hi:σ[i]? =some (.var 70 [.lst (byteEls b)])) (h:RightM d) (hl:Fits d) (ho:okS n) (hh:hasK kN d.names n) (hb:b.length≤d.quota-usedM d) (hbl:b.length≤1000000000):
  ACalls Tryz.prog n_shelf_worker_add_1 [.agg (diskC d),.ptr j 0,.ptr i 0] σ (fun r σ'=>r=.tup [.agg (diskC (appendM (d) n b)),.int .i64 0]∧σ'=σ):=by
 refine acalls_of_awp_e hmix c_shelf_worker_add_1 rfl ?_
 have kC:=dappend_ok (G:=G) d n b h hl ho hh hb hbl
 simp only [diskC] at kC
 have gj:=get_lt hj
 have gi:=get_lt hi
 simp [a_shelf_worker_add_1,diskC,gj,gi]
 refine ac_same kC (by simp [AV.pure]) ?_
 rintro r rfl
 simp [pre_get1,pre_set1,splice]
 exact er_drop (.tup [.agg (diskC (appendM (d) n b)),.int .i64 0]) (by simp [tupOf,diskC,pre_get1]) (by simp [AV.under,diskC]) ⟨by simp [diskC],rfl⟩
theorem wadd_ok {σ:Store} {k:Nat} {n:Txt} {b:Txt} (s:ShM) (hk:σ[k]? =some (.var 127 (wkC s))) (h:RightM s.disk) (hl:Fits s.disk) (ho:okS n) (hh:hasK kN s.disk.names n) (hb:b.length≤s.disk.quota-usedM s.disk) (hbl:b.length≤1000000000):
  ACalls Tryz.prog n_shelf_worker_add [.ptr k 0,.str n,.lst (byteEls b)] σ (fun r σ'=>r=.tup []∧σ'=σ.set k (.var 127 (wkC {s with disk:=appendM (s.disk) n b}))):=by
 refine acalls_of_awp_e hmix c_shelf_worker_add rfl ?_
 simp [a_shelf_worker_add]
 have kA:=act_ok (G:=G) (σ:=σ++ [.var 9 [.str n],.var 70 [.lst (byteEls b)]]) s n_shelf_worker_add_1 [.ptr (σ.length) 0,.ptr (σ.length+1) 0] (appendM (s.disk) n b) b_shelf_worker_add_1 (get_lt hk _) (wadd1_ok s.disk (by simp) (by simp [pre_get1]) h hl ho hh hb hbl)
 refine ac_eff kA ?_
 rintro r σ' ⟨rfl,rfl⟩
 rw [set_lt hk]
 simp
 exact er_setx hk (.tup []) (by simp [tupOf]) (by simp [AV.under]) (by simp [Entry.under,AV.under,wkC]) ⟨rfl,rfl⟩
theorem wrename1_ok {σ:Store} {j i:Nat} {n:Txt} {t:Txt} (d:DiskM) (hj:σ[j]? =some (.var 9 [.str n])) (hi:σ[i]? =some (.var 9 [.str t])) (h:RightM d) (hl:Fits d) (ho:okS n) (hh:hasK kN d.names n) (hot:okS t) (hne:t≠n):
  ACalls Tryz.prog n_shelf_worker_rename_1 [.agg (diskC d),.ptr j 0,.ptr i 0] σ (fun r σ'=>r=.tup [.agg (diskC (renameM (d) n t)),.int .i64 0]∧σ'=σ):=by
 refine acalls_of_awp_e hmix c_shelf_worker_rename_1 rfl ?_
 have kC:=drename_ok (G:=G) d n t h hl ho hh hot hne
 simp only [diskC] at kC
 have gj:=get_lt hj
 have gi:=get_lt hi
 simp [a_shelf_worker_rename_1,diskC,gj,gi]
 refine ac_same kC (by simp [AV.pure]) ?_
 rintro r rfl
 simp [pre_get1,pre_set1,splice]
 exact er_drop (.tup [.agg (diskC (renameM (d) n t)),.int .i64 0]) (by simp [tupOf,diskC,pre_get1]) (by simp [AV.under,diskC]) ⟨by simp [diskC],rfl⟩
theorem wrename_ok {σ:Store} {k:Nat} {n:Txt} {t:Txt} (s:ShM) (hk:σ[k]? =some (.var 127 (wkC s))) (h:RightM s.disk) (hl:Fits s.disk) (ho:okS n) (hh:hasK kN s.disk.names n) (hot:okS t) (hne:t≠n):
  ACalls Tryz.prog n_shelf_worker_rename [.ptr k 0,.str n,.str t] σ (fun r σ'=>r=.tup []∧σ'=σ.set k (.var 127 (wkC {s with disk:=renameM (s.disk) n t}))):=by
 refine acalls_of_awp_e hmix c_shelf_worker_rename rfl ?_
 simp [a_shelf_worker_rename]
 have kA:=act_ok (G:=G) (σ:=σ++ [.var 9 [.str n],.var 9 [.str t]]) s n_shelf_worker_rename_1 [.ptr (σ.length) 0,.ptr (σ.length+1) 0] (renameM (s.disk) n t) b_shelf_worker_rename_1 (get_lt hk _) (wrename1_ok s.disk (by simp) (by simp [pre_get1]) h hl ho hh hot hne)
 refine ac_eff kA ?_
 rintro r σ' ⟨rfl,rfl⟩
 rw [set_lt hk]
 simp
 exact er_setx hk (.tup []) (by simp [tupOf]) (by simp [AV.under]) (by simp [Entry.under,AV.under,wkC]) ⟨rfl,rfl⟩
theorem wkeep_ok {σ:Store} {k:Nat} (s:ShM) (hk:σ[k]? =some (.var 127 (wkC s))) (h:RightM s.disk) (hl:Fits s.disk):
  ACalls Tryz.prog n_shelf_worker_keep [.ptr k 0] σ (fun r σ'=>r=.tup []∧σ'=σ.set k (.var 127 (wkC {s with disk:=if s.disk.moves= [] then s.disk else syncDirM s.disk}))):=by
 refine acalls_of_awp_e hmix c_shelf_worker_keep rfl ?_
 have hml:(movesC s.disk.moves).length=s.disk.moves.length:=by simp [movesC]
 by_cases h0:s.disk.moves= []
 ·have hself:σ.set k (.var 127 (wkC s))=σ:=by
   obtain ⟨hlt,hx⟩:=List.getElem?_eq_some_iff.1 hk
   rw [←hx,List.set_getElem_self]
  rw [if_pos h0]
  simp [a_shelf_worker_keep,hk,wkC,h0,movesC]
  exact er_keep σ (.tup []) (by simp [tupOf]) [] (by simp) (Nat.le_refl _) (by simp [AV.under]) (fun _ _ h=> .inl h) ⟨rfl,by simpa [wkC,h0,movesC] using hself.symm⟩
 ·have hpos:0<s.disk.moves.length:=List.length_pos_iff.2 h0
  rw [if_neg h0]
  simp [a_shelf_worker_keep,hk,wkC,hml,hpos]
  refine ac_eff (act_ok (G:=G) s n_disk_SyncDir [] (syncDirM s.disk) b_disk_SyncDir hk (ac_of_pc (dsyncDir_ok s.disk h hl) (by simp [AV.pure,diskC]))) ?_
  rintro r σ' ⟨rfl,rfl⟩
  simp
  exact er_set hk (.tup []) (by simp [tupOf]) (by simp [AV.under]) (by simp [Entry.under,AV.under,wkC]) ⟨rfl,by simp [wkC]⟩
end Go.Proofs.YtdbhocoeolhjhaaGreatDoor
end
section
set_option maxHeartbeats 1000000
namespace Go.Proofs.YtdbhocoeolhjhaaGreatDoor
open Go.Sf Go.Num
structure SizeM (d:DiskM) (a k:Nat):Prop where
 right:RightM d
 quota:d.quota≤65535
 files:d.files.length≤a
 next:d.next≤a+1
 moves:d.moves.length≤k
 okm:∀m∈d.moves,okLen m
theorem mem_le_sum {l:List Nat} {x:Nat} (h:x∈l):x≤l.sum:=by
 induction l with
 |nil=>cases h
 |cons y l ih=>
  rw [List.sum_cons]
  rcases List.mem_cons.1 h with rfl|h
  ·omega
  ·have:=ih h;omega
theorem nodup_len {α:Type} [BEq α] [LawfulBEq α] {l m:List α} (h:l.Nodup) (hs:∀i∈l,i∈m):l.length≤m.length:=by
 induction l generalizing m with
 |nil=>simp
 |cons x l ih=>
  have hx:=hs x (by simp)
  have hn:=List.nodup_cons.1 h
  have:=ih (m:=m.erase x) hn.2 fun i hi=>(List.mem_erase_of_ne (fun e=>hn.1 (by rw [←e];exact hi))).2 (hs i (by simp [hi]))
  rw [List.length_erase_of_mem hx] at this
  have:=List.length_pos_of_mem hx
  simp;omega
theorem right_nnames {d:DiskM} (h:RightM d):d.names.length≤d.files.length:=by
 rw [←h.count]
 have:=nodup_len h.names.ids (m:=idsM d) (fun i hi=>by
  obtain ⟨n,hn,rfl⟩:=List.mem_map.1 hi
  exact h.nids n hn)
 simpa using this
theorem SizeM.fits {d:DiskM} {a k:Nat} (h:SizeM d a k) (ha:a≤1000) (hk:k≤500000):Fits d:=by
 have h1:=h.files
 have h2:=right_nnames h.right
 have h3:=h.right.nkept
 have h4:=h.moves
 refine ⟨by omega,by omega,by omega,by omega,fun f hf=> ?_,h.okm⟩
 have h5:=h.right.used
 have h6:=h.quota
 have:f.bytes.length≤usedL d.files:=mem_le_sum (List.mem_map.2 ⟨f,hf,rfl⟩)
 unfold usedM at h5
 omega
theorem SizeM.more {d:DiskM} {a k a' k':Nat} (h:SizeM d a k) (ha:a≤a') (hk:k≤k'):SizeM d a' k':=⟨h.right,h.quota,by have:=h.files;omega,by have:=h.next;omega,by have:=h.moves;omega,h.okm⟩
theorem okS_len {s:Txt} (h:okS s):s.length≤96:=h.2
theorem size_create {d:DiskM} {a k:Nat} {n:Txt} (h:SizeM d a k) (ho:okS n) (hn:¬hasK kN d.names n) (ha:a<250):SizeM (createM d n) (a+1) (k+1):=by
 have h1:=h.files
 have h2:=h.next
 have h3:=h.moves
 refine ⟨right_create h.right ho hn (by omega) (by omega),h.quota, ?_, ?_, ?_,fun m hm=> ?_⟩
 ·show (d.files++ [_]).length≤_
  simp;omega
 ·show d.next+1≤_
  omega
 ·show (d.moves++ [_]).length≤_
  simp;omega
 ·rcases List.mem_append.1 (show m∈d.moves++ [_] from hm) with h|h
  ·rename_i hh;exact hh.okm m h
  ·simp at h
   subst h
   have:=okS_len ho
   refine ⟨?_, ?_, ?_, ?_⟩<;>simp<;>omega
theorem used_create (d:DiskM) (n:Txt):usedM (createM d n)=usedM d:=by simp [usedM,usedL,createM]
theorem len_mod (fs:List FileM) (id:Nat) (g:FileM→FileM):(modF fs id g).length=fs.length:=by simp [modF]
theorem size_append {d:DiskM} {a k:Nat} {n b:Txt} (h:SizeM d a k) (hb:b.length≤d.quota-usedM d):SizeM (appendM d n b) a k:=
 ⟨right_append h.right hb,h.quota,by show (modF _ _ _).length≤_;rw [len_mod];exact h.files,h.next,h.moves,h.okm⟩
theorem size_sync {d:DiskM} {a k:Nat} {n:Txt} (h:SizeM d a k):SizeM (syncM d n) a k:=
 ⟨right_sync h.right,h.quota,by show (modF _ _ _).length≤_;rw [len_mod];exact h.files,h.next,h.moves,h.okm⟩
theorem size_syncDir {d:DiskM} {a k:Nat} (h:SizeM d a k):SizeM (syncDirM d) a 0:=
 ⟨right_syncDir h.right,h.quota,Nat.le_trans (List.length_filter_le _ _) h.files,h.next,Nat.le_refl _,by simp [syncDirM]⟩
theorem size_remove {d:DiskM} {a k:Nat} {n:Txt} (h:SizeM d a k) (ho:okS n) (hh:hasK kN d.names n):SizeM (removeM d n) a (k+1):=by
 have h3:=h.moves
 refine ⟨right_remove h.right ho hh,h.quota,h.files,h.next, ?_,fun m hm=> ?_⟩
 ·show (d.moves++ [_]).length≤_
  simp;omega
 ·rcases List.mem_append.1 (show m∈d.moves++ [_] from hm) with h'|h'
  ·exact h.okm m h'
  ·simp at h'
   subst h'
   have:=okS_len ho
   refine ⟨?_, ?_, ?_, ?_⟩<;>simp<;>omega
theorem size_rename {d:DiskM} {a k:Nat} {n t:Txt} (h:SizeM d a k) (ho:okS n) (hh:hasK kN d.names n) (hot:okS t) (hne:t≠n):SizeM (renameM d n t) a (k+1):=by
 have h3:=h.moves
 refine ⟨right_rename h.right ho hh hot hne,h.quota,h.files,h.next, ?_,fun m hm=> ?_⟩
 ·show (d.moves++ [_]).length≤_
  simp;omega
 ·rcases List.mem_append.1 (show m∈d.moves++ [_] from hm) with h'|h'
  ·exact h.okm m h'
  ·simp at h'
   subst h'
   have:=okS_len ho
   have:=okS_len hot
   refine ⟨?_, ?_, ?_, ?_⟩<;>simp<;>omega
theorem has_create {d:DiskM} {n s:Txt}:hasK kN (createM d n).names s↔s=n∨hasK kN d.names s:=by
 constructor
 ·rintro ⟨x,hx,hk⟩
  rcases mem_insK.1 (show x∈insK kN d.names ⟨n,d.next⟩ from hx) with rfl|hx
  ·exact .inl hk.symm
  ·exact .inr ⟨x,hx,hk⟩
 ·rintro (rfl|⟨x,hx,hk⟩)
  ·exact ⟨⟨s,d.next⟩,mem_insK.2 (.inl rfl),rfl⟩
  ·exact ⟨x,mem_insK.2 (.inr hx),hk⟩
theorem has_remove {d:DiskM} {n s:Txt} (h:RightM d) (hh:hasK kN d.names n):hasK kN (removeM d n).names s↔s≠n∧hasK kN d.names s:=by
 constructor
 ·rintro ⟨x,hx,hk⟩
  obtain ⟨h1,h2⟩:=(mem_delK h.names.srt hh).1 (show x∈delK kN d.names n from hx)
  exact ⟨fun e=>h2 (hk.trans e),x,h1,hk⟩
 ·rintro ⟨hne,x,hx,hk⟩
  exact ⟨x,(mem_delK h.names.srt hh).2 ⟨hx,fun e=>hne (hk.symm.trans e)⟩,hk⟩
theorem has_rename {d:DiskM} {n t s:Txt} (h:RightM d) (hh:hasK kN d.names n):hasK kN (renameM d n t).names s↔s=t∨(s≠n∧hasK kN d.names s):=by
 have hs':Srt kN (delK kN d.names n):=srt_delK h.names.srt
 constructor
 ·rintro ⟨x,hx,hk⟩
  rcases mem_insK.1 (show x∈insK kN (dropK (delK kN d.names n) t) ⟨t,idOf d.names n⟩ from hx) with rfl|hx
  ·exact .inl hk.symm
  ·obtain ⟨h1,h2⟩:=(mem_drop hs').1 hx
   obtain ⟨h3,h4⟩:=(mem_delK h.names.srt hh).1 h1
   exact .inr ⟨fun e=>h4 (hk.trans e),x,h3,hk⟩
 ·rintro (rfl|⟨hne,x,hx,hk⟩)
  ·exact ⟨⟨s,idOf d.names n⟩,mem_insK.2 (.inl rfl),rfl⟩
  ·by_cases hst:s=t
   ·subst hst;exact ⟨⟨s,idOf d.names n⟩,mem_insK.2 (.inl rfl),rfl⟩
   ·exact ⟨x,mem_insK.2 (.inr ((mem_drop hs').2 ⟨(mem_delK h.names.srt hh).2 ⟨hx,fun e=>hne (hk.symm.trans e)⟩,fun e=>hst (hk.symm.trans e)⟩)),hk⟩
def removesM (d:DiskM) (l:List Txt):DiskM:=l.foldl removeM d
theorem removes_snoc (d:DiskM) (l:List Txt) (n:Txt):removesM d (l++ [n])=removeM (removesM d l) n:=by simp [removesM]
theorem size_removes {a:Nat}:∀{l:List Txt} {d:DiskM} {k:Nat},SizeM d a k→l.Nodup→(∀n∈l,okS n∧hasK kN d.names n)→SizeM (removesM d l) a (k+l.length)∧∀s,hasK kN (removesM d l).names s↔s∉l∧hasK kN d.names s
 | [],d,k,h,_,_=>⟨h,fun s=>by simp [removesM]⟩
 |n::l,d,k,h,hnd,hl=>by
  have hn:=hl n (by simp)
  have hnd':=List.nodup_cons.1 hnd
  have h1:=size_remove h hn.1 hn.2
  obtain ⟨h2,h3⟩:=size_removes (l:=l) h1 hnd'.2 fun x hx=>⟨(hl x (by simp [hx])).1,(has_remove h.right hn.2).2 ⟨fun e=>hnd'.1 (by rw [←e];exact hx),(hl x (by simp [hx])).2⟩⟩
  have e:removesM d (n::l)=removesM (removeM d n) l:=rfl
  rw [e]
  refine ⟨by have e2:k+(n::l).length=k+1+l.length:=by simp;omega
             rw [e2];exact h2,fun s=> ?_⟩
  rw [h3 s,has_remove h.right hn.2]
  simp only [List.mem_cons,not_or]
  constructor
  ·rintro ⟨e1,e2,e3⟩;exact ⟨⟨e2,e1⟩,e3⟩
  ·rintro ⟨⟨e2,e1⟩,e3⟩;exact ⟨e1,e2,e3⟩
end Go.Proofs.YtdbhocoeolhjhaaGreatDoor
end
section
set_option maxHeartbeats 1000000
namespace Go.Proofs.YtdbhocoeolhjhaaGreatDoor
open Go.Sf Go.Num
abbrev kinds3:List Txt:= [kindP,kindC,kindT]
def Named (m:MetM) (t:Txt):Prop:=∃q kd,t=nameOf m.id q kd∧1≤q∧q≤max m.base m.last∧(kd=kindP∨kd=kindC)
theorem kd3 {kd:Txt} (h:kd=kindP∨kd=kindC):kd∈kinds3:=by rcases h with rfl|rfl<;>simp
structure InvS (s:ShM) (a k:Nat):Prop where
 size:SizeM s.disk a k
 srt:Srt kM s.mets
 paths:∀m∈s.mets,m.path∈P4
 next:s.next=s.mets.length+1
 ids:∀m∈s.mets,1≤m.id∧m.id<s.next
 idn:(s.mets.map MetM.id).Nodup
 lad:∀m∈s.mets,RightL m.lad
 seq:∀m∈s.mets,max m.base m.last≤a
 cnt:∀m∈s.mets,m.count≤1000
 last:∀m∈s.mets,0<m.last→hasK kN s.disk.names (nameOf m.id m.last kindP)
 dir:∀t,hasK kN s.disk.names t→∃m∈s.mets,Named m t
theorem srt_nodup {l:List MetM} (h:Srt kM l):(l.map MetM.path).Nodup:=by
 rw [List.nodup_iff_pairwise_ne,List.pairwise_map]
 exact h.imp fun hab e=>by
  have hab':MetM.path _<MetM.path _:=hab
  rw [e] at hab';exact tl_irrefl _ hab'
theorem InvS.len {s:ShM} {a k:Nat} (h:InvS s a k):s.mets.length≤4:=by
 have:=nodup_len (srt_nodup h.srt) (m:=P4) fun p hp=>by
  obtain ⟨m,hm,rfl⟩:=List.mem_map.1 hp
  exact h.paths m hm
 simpa [P4] using this
theorem InvS.len3 {s:ShM} {a k:Nat} (h:InvS s a k) {p:Txt} (hp:p∈P4) (hn:¬hasK kM s.mets p):s.mets.length≤3:=by
 have h1:(p::s.mets.map MetM.path).Nodup:=List.nodup_cons.2 ⟨fun hm=>by
  obtain ⟨m,hm,he⟩:=List.mem_map.1 hm
  exact hn ⟨m,hm,he⟩,srt_nodup h.srt⟩
 have:=nodup_len h1 (m:=P4) fun q hq=>by
  rcases List.mem_cons.1 hq with rfl|hq
  ·exact hp
  ·obtain ⟨m,hm,rfl⟩:=List.mem_map.1 hq
   exact h.paths m hm
 simp [P4] at this
 omega
def freshM (s:ShM) (p:Txt):MetM:=⟨s.next,p,newL,0,0,0⟩
def metOf (s:ShM) (p:Txt):MetM:=if hasK kM s.mets p then (s.mets[posK kM s.mets p]?).getD (freshM s p) else freshM s p
theorem metOf_no {s:ShM} {p:Txt} (h:¬hasK kM s.mets p):metOf s p=freshM s p:=by unfold metOf;rw [if_neg h]
theorem metOf_has {s:ShM} {p:Txt} (hs:Srt kM s.mets) (h:hasK kM s.mets p):s.mets[posK kM s.mets p]? =some (metOf s p)∧(metOf s p).path=p:=by
 obtain ⟨m,hm,hk⟩:=(has_pos hs).1 h
 have:metOf s p=m:=by unfold metOf;rw [if_pos h,hm];rfl
 rw [this];exact ⟨hm,hk⟩
structure OkMet (s:ShM) (p:Txt) (a:Nat) (m:MetM):Prop where
 path:m.path=p
 id1:1≤m.id
 id5:m.id<5
 lad:RightL m.lad
 seq:max m.base m.last≤a
 cnt:m.count≤1000
 others:∀x∈s.mets,x.path≠p→x.id≠m.id
 last:0<m.last→hasK kN s.disk.names (nameOf m.id m.last kindP)
 dir:∀t,hasK kN s.disk.names t→Named m t∨∃x∈s.mets,x.path≠p∧Named x t
theorem InvS.id5 {s:ShM} {a k:Nat} (h:InvS s a k) {m:MetM} (hm:m∈s.mets):m.id<5:=by
 have h1:=(h.ids m hm).2
 have h2:=h.next
 have h3:=h.len
 omega
theorem pw_idx {α:Type} {R:α→α→Prop} {l:List α} (h:l.Pairwise R) {i j:Nat} {x y:α} (hij:i<j) (hx:l[i]? =some x) (hy:l[j]? =some y):R x y:=by
 obtain ⟨h1,rfl⟩:=List.getElem?_eq_some_iff.1 hx
 obtain ⟨h2,rfl⟩:=List.getElem?_eq_some_iff.1 hy
 exact List.pairwise_iff_getElem.1 h i j h1 h2 hij
theorem id_inj {l:List MetM} (h:(l.map MetM.id).Nodup) {x y:MetM} (hx:x∈l) (hy:y∈l) (he:x.id=y.id):x=y:=by
 rw [List.nodup_iff_pairwise_ne,List.pairwise_map] at h
 obtain ⟨i,hi⟩:=List.getElem?_of_mem hx
 obtain ⟨j,hj⟩:=List.getElem?_of_mem hy
 rcases Nat.lt_trichotomy i j with hij|rfl|hij
 ·exact absurd he (pw_idx h hij hi hj)
 ·rw [hi] at hj;exact Option.some.inj hj
 ·exact absurd he.symm (pw_idx h hij hj hi)
theorem InvS.met {s:ShM} {a k:Nat} (h:InvS s a k) {p:Txt} (hp:p∈P4):OkMet s p a (metOf s p):=by
 by_cases hh:hasK kM s.mets p
 ·obtain ⟨hm,hk⟩:=metOf_has h.srt hh
  have hmem:=List.mem_of_getElem? hm
  refine ⟨hk,(h.ids _ hmem).1,h.id5 hmem,h.lad _ hmem,h.seq _ hmem,h.cnt _ hmem,fun x hx hne he=>hne ?_,h.last _ hmem,fun t ht=> ?_⟩
  ·have:=id_inj h.idn hx hmem he
   rw [this];exact hk
  ·obtain ⟨x,hx,hn⟩:=h.dir t ht
   by_cases hxp:x.path=p
   ·have:x=metOf s p:=key_inj h.srt hx hmem (hxp.trans hk.symm)
    exact .inl (this▸hn)
   ·exact .inr ⟨x,hx,hxp,hn⟩
 ·rw [metOf_no hh]
  have h3:=h.len3 hp hh
  have hn:=h.next
  refine ⟨rfl,by show 1≤s.next;omega,by show s.next<5;omega,right_new_l,by simp [freshM],by simp [freshM],fun x hx _ he=> ?_,by simp [freshM],fun t ht=> ?_⟩
  ·have:=(h.ids x hx).2
   have he':x.id=s.next:=he
   omega
  ·obtain ⟨x,hx,hn⟩:=h.dir t ht
   exact .inr ⟨x,hx,fun e=>hh ⟨x,hx,e⟩,hn⟩
theorem OkMet.fresh {s:ShM} {p:Txt} {a:Nat} {m:MetM} {k:Nat} (h:InvS s a k) (ho:OkMet s p a m) (ha:a<69) {q:Nat} {kd:Txt} (hq:max m.base m.last<q) (hq2:q<70) (hk:kd∈kinds3):¬hasK kN s.disk.names (nameOf m.id q kd):=fun hh=>by
 rcases ho.dir _ hh with ⟨r,k2,he,h1,h2,h3⟩|⟨x,hx,hxp,r,k2,he,h1,h2,h3⟩
 ·have hs:=ho.seq
  have:=nameOf_inj ho.id5 ho.id5 hq2 (by omega) hk (kd3 h3) he
  omega
 ·have hs:=h.seq x hx
  have:=nameOf_inj ho.id5 (h.id5 hx) hq2 (by omega) hk (kd3 h3) he
  exact ho.others x hx hxp this.1.symm
theorem mem_with {s:ShM} {m x:MetM} (hs:Srt kM s.mets):x∈(withM s m).mets↔x=m∨(x∈s.mets∧x.path≠m.path):=by
 unfold withM
 split
 ·rename_i hh
  obtain ⟨y,hy,hk⟩:=(has_pos hs).1 hh
  obtain ⟨hlt,hg⟩:=List.getElem?_eq_some_iff.1 hy
  constructor
  ·intro hx
   obtain ⟨i,hi⟩:=List.getElem?_of_mem (show x∈s.mets.set (posK kM s.mets m.path) m from hx)
   rw [List.getElem?_set] at hi
   split at hi
   ·rename_i he
    exact .inl (by simpa using hi.symm)
   ·rename_i hne
    refine .inr ⟨List.mem_of_getElem? hi,fun e=>hne ?_⟩
    have hxy:x=y:=key_inj hs (List.mem_of_getElem? hi) (List.mem_of_getElem? hy) (e.trans hk.symm)
    rcases Nat.lt_trichotomy (posK kM s.mets m.path) i with h|h|h
    ·have:=pw_idx hs h hy hi
     rw [hxy] at this;exact absurd this (tl_irrefl _)
    ·exact h
    ·have:=pw_idx hs h hi hy
     rw [hxy] at this;exact absurd this (tl_irrefl _)
  ·rintro (rfl|⟨hx,hne⟩)
   ·show x∈s.mets.set _ x
    rw [List.mem_iff_getElem?]
    exact ⟨posK kM s.mets x.path,by simp [hlt]⟩
   ·obtain ⟨i,hi⟩:=List.getElem?_of_mem hx
    show x∈s.mets.set _ m
    rw [List.mem_iff_getElem?]
    refine ⟨i, ?_⟩
    rw [List.getElem?_set_ne]
    ·exact hi
    ·intro e;subst e
     rw [hy] at hi
     have:=Option.some.inj hi
     subst this
     exact hne hk
 ·rename_i hh
  constructor
  ·intro hx
   rcases mem_insK.1 (show x∈insK kM s.mets m from hx) with h|h
   ·exact .inl h
   ·exact .inr ⟨h,fun e=>hh ⟨x,h,e⟩⟩
  ·rintro (rfl|⟨hx,_⟩)
   ·exact mem_insK.2 (.inl rfl)
   ·exact mem_insK.2 (.inr hx)
theorem has_with {s:ShM} {m:MetM} (hs:Srt kM s.mets) {p:Txt}:hasK kM (withM s m).mets p↔p=m.path∨hasK kM s.mets p:=by
 constructor
 ·rintro ⟨x,hx,hk⟩
  rcases (mem_with hs).1 hx with rfl|⟨h,_⟩
  ·exact .inl hk.symm
  ·exact .inr ⟨x,h,hk⟩
 ·rintro (rfl|⟨x,hx,hk⟩)
  ·exact ⟨m,(mem_with hs).2 (.inl rfl),rfl⟩
  ·by_cases he:x.path=m.path
   ·exact ⟨m,(mem_with hs).2 (.inl rfl),he.symm.trans hk⟩
   ·exact ⟨x,(mem_with hs).2 (.inr ⟨hx,he⟩),hk⟩
theorem srt_with {s:ShM} {m:MetM} (hs:Srt kM s.mets):Srt kM (withM s m).mets:=by
 unfold withM
 split
 ·rename_i hh
  obtain ⟨y,hy,hk⟩:=(has_pos hs).1 hh
  obtain ⟨hlt,hg⟩:=List.getElem?_eq_some_iff.1 hy
  show (s.mets.set (posK kM s.mets m.path) m).Pairwise _
  have h1:((s.mets.set (posK kM s.mets m.path) m).map kM)=s.mets.map kM:=by
   apply List.ext_getElem?
   intro i
   rw [List.getElem?_map,List.getElem?_map,List.getElem?_set]
   split
   ·rename_i e;subst e
    simp [hlt,hy,hk,hg]
   ·rfl
  have h2:(s.mets.map kM).Pairwise fun a b=>a<b:=List.pairwise_map.2 hs
  rw [←h1] at h2
  exact List.pairwise_map.1 h2
 ·rename_i hh
  exact srt_insK hs hh
theorem len_with {s:ShM} {m:MetM}:(withM s m).mets.length=if hasK kM s.mets m.path then s.mets.length else s.mets.length+1:=by
 unfold withM
 split
 ·simp
 ·exact len_insK _ _
theorem inv_with {s:ShM} {a k a' k':Nat} {p:Txt} (h:InvS s a k) (hp:p∈P4) (D:DiskM) (hD:SizeM D a' k') (haa:a≤a') {m:MetM} (hpath:m.path=p) (hid:m.id=(metOf s p).id) (hlad:RightL m.lad) (hseq:max m.base m.last≤a') (hcnt:m.count≤1000)
  (hlast:0<m.last→hasK kN D.names (nameOf m.id m.last kindP)) (hdir:∀t,hasK kN D.names t→Named m t∨∃x∈s.mets,x.path≠p∧Named x t)
  (hol:∀x∈s.mets,x.path≠p→0<x.last→hasK kN D.names (nameOf x.id x.last kindP)):InvS (withM {s with disk:=D} m) a' k':=by
 have ho:=h.met hp
 have hs':Srt kM ({s with disk:=D}:ShM).mets:=h.srt
 have hdisk:(withM {s with disk:=D} m).disk=D:=by unfold withM;split<;>rfl
 have hmem:∀x,x∈(withM {s with disk:=D} m).mets↔x=m∨(x∈s.mets∧x.path≠p):=fun x=>by rw [mem_with hs',hpath]
 have hnext:(withM {s with disk:=D} m).next=(withM {s with disk:=D} m).mets.length+1:=by
  rw [len_with,hpath]
  have hn:=h.next
  unfold withM
  rw [hpath]
  show (if hasK kM s.mets p then _ else _:ShM).next=(if hasK kM s.mets p then s.mets.length else s.mets.length+1)+1
  by_cases hh:hasK kM s.mets p
  ·rw [if_pos hh,if_pos hh];exact hn
  ·rw [if_neg hh,if_neg hh]
   have:m.id=s.next:=by rw [hid,metOf_no hh];rfl
   show max s.next (m.id+1)=s.mets.length+1+1
   omega
 have hnx:s.next≤(withM {s with disk:=D} m).next:=by
  unfold withM;split
  ·exact Nat.le_refl _
  ·exact Nat.le_max_left _ _
 refine ⟨by rw [hdisk];exact hD,srt_with hs',fun x hx=> ?_,hnext,fun x hx=> ?_, ?_,fun x hx=> ?_,fun x hx=> ?_,fun x hx=> ?_,fun x hx hl=> ?_,fun t ht=> ?_⟩
 ·rcases (hmem x).1 hx with rfl|⟨h1,_⟩
  ·rw [hpath];exact hp
  ·exact h.paths x h1
 ·rcases (hmem x).1 hx with rfl|⟨h1,_⟩
  ·refine ⟨by rw [hid];exact ho.id1, ?_⟩
   by_cases hh:hasK kM s.mets p
   ·have hm:=List.mem_of_getElem? (metOf_has h.srt hh).1
    have:=(h.ids _ hm).2
    rw [hid];omega
   ·unfold withM
    rw [if_neg (by rw [hpath];exact hh)]
    exact Nat.lt_of_lt_of_le (Nat.lt_succ_self _) (Nat.le_max_right _ _)
  ·have:=h.ids x h1
   exact ⟨this.1,Nat.lt_of_lt_of_le this.2 hnx⟩
 ·rw [List.nodup_iff_pairwise_ne,List.pairwise_map,List.pairwise_iff_getElem]
  intro i j hi hj hij he
  have hS:=srt_with (m:=m) hs'
  have hx:=(hmem _).1 (List.getElem_mem hi)
  have hy:=(hmem _).1 (List.getElem_mem hj)
  have hlt:=List.pairwise_iff_getElem.1 hS i j hi hj hij
  generalize (withM {s with disk:=D} m).mets[i]=x at*
  generalize (withM {s with disk:=D} m).mets[j]=y at*
  rcases hx with rfl|⟨h1,h1'⟩<;>rcases hy with rfl|⟨h2,h2'⟩
  ·exact tl_irrefl _ hlt
  ·exact ho.others y h2 h2' (by rw [←he,hid])
  ·exact ho.others x h1 h1' (by rw [he,hid])
  ·have:=id_inj h.idn h1 h2 he
   subst this
   exact tl_irrefl _ hlt
 ·rcases (hmem x).1 hx with rfl|⟨h1,_⟩
  ·exact hlad
  ·exact h.lad x h1
 ·rcases (hmem x).1 hx with rfl|⟨h1,_⟩
  ·exact hseq
  ·have:=h.seq x h1;omega
 ·rcases (hmem x).1 hx with rfl|⟨h1,_⟩
  ·exact hcnt
  ·exact h.cnt x h1
 ·rw [hdisk]
  rcases (hmem x).1 hx with rfl|⟨h1,h2⟩
  ·exact hlast hl
  ·exact hol x h1 h2 hl
 ·rw [hdisk] at ht
  rcases hdir t ht with h1|⟨x,h1,h2,h3⟩
  ·exact ⟨m,(hmem m).2 (.inl rfl),h1⟩
  ·exact ⟨x,(hmem x).2 (.inr ⟨h1,h2⟩),h3⟩
end Go.Proofs.YtdbhocoeolhjhaaGreatDoor
end
section
set_option maxHeartbeats 1000000
namespace Go.Proofs.YtdbhocoeolhjhaaGreatDoor
open Go.Sf Go.Num
def lastN (m:MetM):Txt:=nameOf m.id m.last kindP
def nextQ (m:MetM):Nat:=max m.base m.last+1
def newN (m:MetM):Txt:=nameOf m.id (nextQ m) kindP
def partN (m:MetM):Txt:=nameOf m.id (nextQ m) kindT
def wholeN (m:MetM):Txt:=nameOf m.id (nextQ m) kindC
def turnM (m:MetM):Bool:=decide (m.last=0)||decide (16≤m.count)
def bytesA (m:MetM) (bs:List ArrM):Txt:=if turnM m then frameB (headB m.path)++framesB bs else framesB bs
def syncL (d:DiskM) (m:MetM):DiskM:=if 0<m.last then syncM d (lastN m) else d
def diskA (d:DiskM) (m:MetM) (b:Txt):DiskM:=if turnM m then appendM (createM (syncL d m) (newN m)) (newN m) b else appendM d (lastN m) b
def metA (m:MetM) (bs:List ArrM):MetM:=if turnM m then {m with lad:=foldF m.lad bs,last:=nextQ m,count:=bs.length} else {m with lad:=foldF m.lad bs,count:=m.count+bs.length}
def appendS (s:ShM) (m:MetM) (bs:List ArrM):ShM:=withM {s with disk:=diskA s.disk m (bytesA m bs)} (metA m bs)
def keepD (d:DiskM):DiskM:=if d.moves= [] then d else syncDirM d
def syncS (s:ShM) (m:MetM):ShM:=withM {s with disk:=keepD (syncL s.disk m)} m
def packD (d:DiskM) (m:MetM) (b:Txt):DiskM:=syncDirM (renameM (syncM (appendM (createM (syncL d m) (partN m)) (partN m) b) (partN m)) (partN m) (wholeN m))
def filesM (d:DiskM) (id:Nat) (but:Txt):List Txt:=(d.names.map NameM.name).filter fun t=> !(decide (t=but)|| !Lib.hasPrefix t (Lib.decDigits id++ [46]))
def compD (d:DiskM) (m:MetM) (b:Txt):DiskM:=keepD (removesM (packD d m b) (filesM (packD d m b) m.id (wholeN m)))
def metC' (m:MetM):MetM:={m with base:=nextQ m,last:=0,count:=0}
def compS (s:ShM) (m:MetM) (b:Txt):ShM:=withM {s with disk:=compD s.disk m b} (metC' m)
theorem size_syncL {d:DiskM} {a k:Nat} (m:MetM) (h:SizeM d a k):SizeM (syncL d m) a k:=by
 unfold syncL;split
 ·exact size_sync h
 ·exact h
theorem names_syncL (d:DiskM) (m:MetM):(syncL d m).names=d.names:=by unfold syncL;split<;>rfl
theorem used_syncL (d:DiskM) (m:MetM):usedM (syncL d m)=usedM d:=by
 unfold syncL;split
 ·exact used_sync _ _
 ·rfl
theorem quota_syncL (d:DiskM) (m:MetM):(syncL d m).quota=d.quota:=by unfold syncL;split<;>rfl
theorem size_keepD {d:DiskM} {a k:Nat} (h:SizeM d a k):SizeM (keepD d) a 0:=by
 unfold keepD;split
 ·rename_i h0;exact ⟨h.right,h.quota,h.files,h.next,by rw [h0];exact Nat.le_refl _,h.okm⟩
 ·exact size_syncDir h
theorem names_keepD (d:DiskM):(keepD d).names=d.names:=by unfold keepD;split<;>rfl
theorem quota_keepD (d:DiskM):(keepD d).quota=d.quota:=by unfold keepD;split<;>rfl
variable {s:ShM} {a k:Nat} {p:Txt}
theorem inv_append (h:InvS s a k) (hp:p∈P4) (ha:a<69) {bs:List ArrM} (hb:∀x∈bs,OkA x∧OkV x) (hl:bs.length≤300) (hf:(bytesA (metOf s p) bs).length≤s.disk.quota-usedM s.disk):InvS (appendS s (metOf s p) bs) (a+1) (k+1):=by
 have ho:=h.met hp
 obtain ⟨m,hm⟩:∃m,m=metOf s p:=⟨_,rfl⟩
 rw [←hm] at ho hf⊢
 have hlad:RightL (foldF m.lad bs):=right_fold ho.lad hb
 have hq:=ho.seq
 have hid5:=ho.id5
 unfold appendS diskA metA
 by_cases ht:turnM m=true
 ·simp only [ht,if_true]
  have hno:¬hasK kN (syncL s.disk m).names (newN m):=by
   rw [names_syncL]
   exact ho.fresh h ha (q:=nextQ m) (by unfold nextQ;omega) (by unfold nextQ;omega) (by simp)
  have hS:=size_create (size_syncL m h.size) (nameOf_ok m.id hid5 (nextQ m) (by unfold nextQ;omega) kindP (by simp)) hno (by omega)
  have hA:=size_append (n:=newN m) (b:=bytesA m bs) hS (by rw [used_create,used_syncL];show _≤(syncL s.disk m).quota-_;rw [quota_syncL];exact hf)
  have hnames:∀t,hasK kN (appendM (createM (syncL s.disk m) (newN m)) (newN m) (bytesA m bs)).names t↔t=newN m∨hasK kN s.disk.names t:=fun t=>by
   have:=has_create (d:=syncL s.disk m) (n:=newN m) (s:=t)
   rw [names_syncL] at this
   exact this
  refine inv_with h hp _ hA (by omega) ho.path (by rw [←hm]) hlad (by show max m.base (nextQ m)≤_;unfold nextQ;omega) (by show bs.length≤_;omega) (fun _=>(hnames _).2 (.inl rfl)) (fun t ht'=> ?_) (fun x hx hne hl'=>(hnames _).2 (.inr (h.last x hx hl')))
  rcases (hnames t).1 ht' with rfl|ht'
  ·exact .inl ⟨nextQ m,kindP,rfl,by unfold nextQ;omega,by show _≤max m.base (nextQ m);omega,.inl rfl⟩
  ·rcases ho.dir t ht' with ⟨q,kd,e1,e2,e3,e4⟩|h1
   ·exact .inl ⟨q,kd,e1,e2,by show _≤max m.base (nextQ m);unfold nextQ;omega,e4⟩
   ·exact .inr h1
 ·simp only [ht]
  have hcnt:m.count<16∧0<m.last:=by
   unfold turnM at ht
   simp at ht
   omega
  have hA:=size_append (n:=lastN m) (b:=bytesA m bs) (h.size.more (Nat.le_succ a) (Nat.le_succ k)) hf
  exact inv_with h hp _ hA (by omega) ho.path (by rw [←hm];rfl) hlad (by show max m.base m.last≤_;omega) (by show m.count+bs.length≤_;omega) (fun hl'=>ho.last hl') (fun t ht'=>ho.dir t ht') (fun x hx hne hl'=>h.last x hx hl')
theorem inv_sync (h:InvS s a k) (hp:p∈P4):InvS (syncS s (metOf s p)) a k:=by
 have ho:=h.met hp
 obtain ⟨m,hm⟩:∃m,m=metOf s p:=⟨_,rfl⟩
 rw [←hm] at ho⊢
 have hS:=size_keepD (size_syncL m h.size)
 have hn:(keepD (syncL s.disk m)).names=s.disk.names:=by rw [names_keepD,names_syncL]
 exact inv_with h hp _ (hS.more (Nat.le_refl _) (Nat.zero_le k)) (Nat.le_refl _) ho.path (by rw [←hm]) ho.lad ho.seq ho.cnt (fun hl=>by rw [hn];exact ho.last hl) (fun t ht=>by rw [hn] at ht;exact ho.dir t ht) (fun x hx hne hl=>by rw [hn];exact h.last x hx hl)
structure Packed (s:ShM) (m:MetM) (b:Txt) (a k:Nat):Prop where
 s1:SizeM (syncL s.disk m) a k
 n1:¬hasK kN (syncL s.disk m).names (partN m)
 o1:okS (partN m)
 o2:okS (wholeN m)
 ne:wholeN m≠partN m
 s2:SizeM (createM (syncL s.disk m) (partN m)) (a+1) (k+1)
 h2:hasK kN (createM (syncL s.disk m) (partN m)).names (partN m)
 u2:b.length≤(createM (syncL s.disk m) (partN m)).quota-usedM (createM (syncL s.disk m) (partN m))
 s3:SizeM (appendM (createM (syncL s.disk m) (partN m)) (partN m) b) (a+1) (k+1)
 s4:SizeM (syncM (appendM (createM (syncL s.disk m) (partN m)) (partN m) b) (partN m)) (a+1) (k+1)
 s5:SizeM (renameM (syncM (appendM (createM (syncL s.disk m) (partN m)) (partN m) b) (partN m)) (partN m) (wholeN m)) (a+1) (k+2)
 s6:SizeM (packD s.disk m b) (a+1) 0
 nm:∀t,hasK kN (packD s.disk m b).names t↔t=wholeN m∨(t≠partN m∧hasK kN s.disk.names t)
theorem packed (h:InvS s a k) (ha:a<69) {m:MetM} (ho:OkMet s p a m) {b:Txt} (hf:b.length≤s.disk.quota-usedM s.disk):Packed s m b a k:=by
 have hq:=ho.seq
 have hid5:=ho.id5
 have hn70:nextQ m<70:=by unfold nextQ;omega
 have hno:¬hasK kN (syncL s.disk m).names (partN m):=by
  rw [names_syncL]
  exact ho.fresh h ha (q:=nextQ m) (by unfold nextQ;omega) hn70 (by simp)
 have o1:okS (partN m):=nameOf_ok m.id hid5 (nextQ m) hn70 kindT (by simp)
 have o2:okS (wholeN m):=nameOf_ok m.id hid5 (nextQ m) hn70 kindC (by simp)
 have ne:wholeN m≠partN m:=fun e=>by
  have:=(nameOf_inj hid5 hid5 hn70 hn70 (by simp) (by simp) e).2.2
  exact absurd this (by decide)
 have s1:=size_syncL m h.size
 have s2:=size_create s1 o1 hno (by omega)
 have h2:hasK kN (createM (syncL s.disk m) (partN m)).names (partN m):=has_create.2 (.inl rfl)
 have u2:b.length≤(createM (syncL s.disk m) (partN m)).quota-usedM (createM (syncL s.disk m) (partN m)):=by
  rw [used_create,used_syncL];show _≤(syncL s.disk m).quota-_;rw [quota_syncL];exact hf
 have s3:=size_append (n:=partN m) s2 u2
 have s4:=size_sync (n:=partN m) s3
 have s5:=size_rename (n:=partN m) (t:=wholeN m) s4 o1 h2 o2 ne
 refine ⟨s1,hno,o1,o2,ne,s2,h2,u2,s3,s4,s5,size_syncDir s5,fun t=> ?_⟩
 have h5:=has_rename (d:=syncM (appendM (createM (syncL s.disk m) (partN m)) (partN m) b) (partN m)) (n:=partN m) (t:=wholeN m) (s:=t) s4.right h2
 have h6:hasK kN (syncM (appendM (createM (syncL s.disk m) (partN m)) (partN m) b) (partN m)).names t↔t=partN m∨hasK kN s.disk.names t:=by
  have:=has_create (d:=syncL s.disk m) (n:=partN m) (s:=t)
  rw [names_syncL] at this
  exact this
 rw [h6] at h5
 refine h5.trans ⟨?_, ?_⟩
 ·rintro (h|⟨h1,h|h⟩)
  ·exact .inl h
  ·exact absurd h h1
  ·exact .inr ⟨h1,h⟩
 ·rintro (h|⟨h1,h⟩)
  ·exact .inl h
  ·exact .inr ⟨h1,.inr h⟩
theorem mem_filesM {d:DiskM} {id:Nat} {but t:Txt}:t∈filesM d id but↔hasK kN d.names t∧t≠but∧Lib.hasPrefix t (Lib.decDigits id++ [46])=true:=by
 simp only [filesM,List.mem_filter,List.mem_map,hasK]
 simp
theorem files_nodup {d:DiskM} (h:RightM d) (id:Nat) (but:Txt):(filesM d id but).Nodup:=by
 have h0:(d.names.map NameM.name).Nodup:=by
  rw [List.nodup_iff_pairwise_ne,List.pairwise_map]
  exact h.names.srt.imp fun hab e=>by
   have hab':NameM.name _<NameM.name _:=hab
   rw [e] at hab';exact tl_irrefl _ hab'
 exact h0.sublist List.filter_sublist
structure Comp (s:ShM) (m:MetM) (b:Txt) (a k:Nat):Prop where
 fok:∀n∈filesM (packD s.disk m b) m.id (wholeN m),okS n∧hasK kN (packD s.disk m b).names n
 fnd:(filesM (packD s.disk m b) m.id (wholeN m)).Nodup
 flen:(filesM (packD s.disk m b) m.id (wholeN m)).length≤a+1
 s7:SizeM (removesM (packD s.disk m b) (filesM (packD s.disk m b) m.id (wholeN m))) (a+1) (a+1)
 s8:SizeM (compD s.disk m b) (a+1) 0
 nm:∀t,hasK kN (compD s.disk m b).names t↔t=wholeN m∨(hasK kN s.disk.names t∧∃x∈s.mets,x.path≠m.path∧Named x t)
theorem comp (h:InvS s a k) (ha:a<69) {m:MetM} (ho:OkMet s p a m) {b:Txt} (hP:Packed s m b a k):Comp s m b a k:=by
 have hq:=ho.seq
 have hid5:=ho.id5
 have hn70:nextQ m<70:=by unfold nextQ;omega
 have hpath:=ho.path
 have hnamed:∀t,hasK kN (packD s.disk m b).names t→t=wholeN m∨(t≠partN m∧(Named m t∨∃x∈s.mets,x.path≠p∧Named x t)∧hasK kN s.disk.names t):=fun t ht=>by
  rcases (hP.nm t).1 ht with h1|⟨h1,h2⟩
  ·exact .inl h1
  ·exact .inr ⟨h1,ho.dir t h2,h2⟩
 have hnq:∀{x:MetM} {q:Nat},x∈s.mets→q≤max x.base x.last→q<70:=fun {x q} hx hq'=>by have:=h.seq x hx;omega
 have fok:∀n∈filesM (packD s.disk m b) m.id (wholeN m),okS n∧hasK kN (packD s.disk m b).names n:=fun n hn=>by
  obtain ⟨h1,h2,_⟩:=mem_filesM.1 hn
  refine ⟨?_,h1⟩
  rcases hnamed n h1 with h3|⟨_,⟨q,kd,e1,e2,e3,e4⟩|⟨x,hx,hxp,q,kd,e1,e2,e3,e4⟩,_⟩
  ·exact absurd h3 h2
  ·rw [e1];exact nameOf_ok _ hid5 q (by omega) _ (kd3 e4)
  ·rw [e1];exact nameOf_ok _ (h.id5 hx) q (hnq hx e3) _ (kd3 e4)
 have fnd:=files_nodup hP.s6.right m.id (wholeN m)
 have flen:(filesM (packD s.disk m b) m.id (wholeN m)).length≤a+1:=by
  have h1:=right_nnames hP.s6.right
  have h2:=hP.s6.files
  have h3:(filesM (packD s.disk m b) m.id (wholeN m)).length≤((packD s.disk m b).names.map NameM.name).length:=List.length_filter_le _ _
  rw [List.length_map] at h3
  omega
 obtain ⟨h7,h8⟩:=size_removes hP.s6 fnd fok
 have s7:=h7.more (a':=a+1) (k':=a+1) (Nat.le_refl _) (by omega)
 refine ⟨fok,fnd,flen,s7,size_keepD s7,fun t=> ?_⟩
 unfold compD
 rw [names_keepD,h8 t,mem_filesM]
 constructor
 ·rintro ⟨h1,h2⟩
  rcases hnamed t h2 with h3|⟨h3,⟨q,kd,e1,e2,e3,e4⟩|h4,h5⟩
  ·exact .inl h3
  ·by_cases hw:t=wholeN m
   ·exact .inl hw
   ·refine absurd ⟨h2,hw, ?_⟩ h1
    rw [e1,nameOf_pre _ hid5 q (by omega) kd (kd3 e4) _ hid5]
    simp
  ·rw [hpath];exact .inr ⟨h5,h4⟩
 ·rintro (rfl|⟨h1,x,hx,hxp,q,kd,e1,e2,e3,e4⟩)
  ·exact ⟨fun h=>h.2.1 rfl,(hP.nm _).2 (.inl rfl)⟩
  ·rw [hpath] at hxp
   have hne:=ho.others x hx hxp
   have hx5:=h.id5 hx
   have hq70:=hnq hx e3
   refine ⟨fun hh=> ?_,(hP.nm t).2 (.inr ⟨fun e=> ?_,h1⟩)⟩
   ·have:=hh.2.2
    rw [e1,nameOf_pre _ hx5 q hq70 kd (kd3 e4) _ hid5] at this
    exact hne (by simpa using this)
   ·rw [e1] at e
    exact hne (nameOf_inj hx5 hid5 hq70 hn70 (kd3 e4) (by simp) e).1
theorem inv_comp (h:InvS s a k) (hp:p∈P4) (ha:a<69) {b:Txt} (hf:b.length≤s.disk.quota-usedM s.disk):InvS (compS s (metOf s p) b) (a+1) k:=by
 have ho:=h.met hp
 obtain ⟨m,hm⟩:∃m,m=metOf s p:=⟨_,rfl⟩
 rw [←hm] at ho⊢
 have hP:=packed h ha ho hf
 have hC:=comp h ha ho hP
 have hq:=ho.seq
 have hpath:=ho.path
 refine inv_with h hp _ (hC.s8.more (Nat.le_refl _) (Nat.zero_le k)) (by omega) ho.path (by rw [←hm];rfl) ho.lad (by show max (nextQ m) 0≤_;unfold nextQ;omega) (by show 0≤_;omega) (fun hl=>absurd hl (by show¬0<0;omega)) (fun t ht=> ?_) (fun x hx hne hl=> ?_)
 ·rcases (hC.nm t).1 ht with rfl|⟨_,h2⟩
  ·exact .inl ⟨nextQ m,kindC,rfl,by unfold nextQ;omega,by show _≤max (nextQ m) 0;omega,.inr rfl⟩
  ·rw [hpath] at h2;exact .inr h2
 ·refine (hC.nm _).2 (.inr ⟨h.last x hx hl,x,hx,by rw [hpath];exact hne,x.last,kindP,rfl,hl,by omega,.inl rfl⟩)
end Go.Proofs.YtdbhocoeolhjhaaGreatDoor
end
section
namespace Go.Glob
def nb (c:UInt8):Bool:=(97≤c&&c≤122)||(65≤c&&c≤90)||(48≤c&&c≤57)|| [95,45,58,37,35,64,43,61].contains c
def rng:List UInt8→Option (UInt8×List UInt8)
 |d::h::s=>if d=45∧nb h=true then some (h,s) else none
 |_=>none
def cls:Nat→Bool→List UInt8→Option (List (UInt8×UInt8)×List UInt8)
 |0,_,_=>none
 |_+1,_,[]=>none
 |n+1,ne,c::s=>
  if c=93∧ne=true then some ([],s)
  else if nb c=false then none
  else match rng s with
   |some (h,s')=>if h<c then none else (cls n true s').map fun x=>((c,h)::x.1,x.2)
   |none=>(cls n true s).map fun x=>((c,c)::x.1,x.2)
inductive Pc where
 |lit (c:UInt8)
 |q
 |star
 |cls (rs:List (UInt8×UInt8)) (text:List UInt8)
 |br (as_:List (List Pc))
def stop (c:UInt8):Bool:=c=44||c=125
mutual
def cnt:Nat→List Pc→Nat
 |n,[]=>n
 |n,.br as_::l=>cnt (min 65 (n*cntA 0 as_)) l
 |n,.lit _::l=>cnt n l
 |n,.q::l=>cnt n l
 |n,.star::l=>cnt n l
 |n,.cls _ _::l=>cnt n l
def cntA:Nat→List (List Pc)→Nat
 |n,[]=>n
 |n,a::as_=>cntA (min 65 (n+cnt 1 a)) as_
end
def Pc.text:Pc→List UInt8
 | .lit c=> [c]
 | .q=> [63]
 | .star=> [42]
 | .cls _ t=>t
 | .br _=> []
def texts (l:List Pc):List UInt8:=l.flatMap Pc.text
def Pc.one:Pc→UInt8→Bool
 | .q,_=>true
 | .lit l,c=>decide (l=c)
 | .cls rs _,c=>rs.any fun r=>r.1≤c&&c≤r.2
 | .star,_=>false
 | .br _,_=>false
def tls {α:Type}:List α→List (List α)
 | []=> [[]]
 |a::s=>(a::s)::tls s
def mt:List Pc→List UInt8→Bool
 | [],s=>s.isEmpty
 | .star::l,s=>(tls s).any (mt l)
 | .lit _::_,[]=>false
 | .q::_,[]=>false
 | .cls _ _::_,[]=>false
 | .br _::_,[]=>false
 | .lit p::l,c::s=>(Pc.lit p).one c&&mt l s
 | .q::l,c::s=>Pc.q.one c&&mt l s
 | .cls r t::l,c::s=>(Pc.cls r t).one c&&mt l s
 | .br a::l,c::s=>(Pc.br a).one c&&mt l s
end Go.Glob
end
section
namespace Go.Glob
mutual
def okL:List Pc→Prop
 | []=>True
 | .lit c::l=>nb c=true∧okL l
 | .q::l=>okL l
 | .star::l=>okL l
 | .cls rs t::l=>(∃b,t=91::b∧∀m x,b.length<m→cls m false (b++x)=some (rs,x))∧okL l
 | .br as_::l=>okA as_∧okL l
def okA:List (List Pc)→Prop
 | []=>True
 |a::as_=>okL a∧okA as_
end
def flat:List Pc→Prop
 | []=>True
 | .br _::_=>False
 | .lit _::l=>flat l
 | .q::l=>flat l
 | .star::l=>flat l
 | .cls _ _::l=>flat l
theorem flat_append:∀{l m:List Pc},flat l→flat m→flat (l++m)
 | [],_,_,h=>h
 | .br _::_,_,h,_=>h.elim
 | .lit _::l,m,h,h'=>flat_append (l:=l) (m:=m) h h'
 | .q::l,m,h,h'=>flat_append (l:=l) (m:=m) h h'
 | .star::l,m,h,h'=>flat_append (l:=l) (m:=m) h h'
 | .cls _ _::l,m,h,h'=>flat_append (l:=l) (m:=m) h h'
theorem okL_append:∀{l m:List Pc},okL l→okL m→okL (l++m)
 | [],_,_,h=>h
 | .br _::l,m,h,h'=>by simp only [List.cons_append,okL] at h⊢;exact ⟨h.1,okL_append h.2 h'⟩
 | .lit _::l,m,h,h'=>by simp only [List.cons_append,okL] at h⊢;exact ⟨h.1,okL_append h.2 h'⟩
 | .q::l,m,h,h'=>by simp only [List.cons_append,okL] at h⊢;exact okL_append h h'
 | .star::l,m,h,h'=>by simp only [List.cons_append,okL] at h⊢;exact okL_append h h'
 | .cls _ _::l,m,h,h'=>by simp only [List.cons_append,okL] at h⊢;exact ⟨h.1,okL_append h.2 h'⟩
theorem texts_append (l m:List Pc):texts (l++m)=texts l++texts m:=by simp [texts]
def Good (n:Nat) (l:List Pc):Prop:=flat l∧okL l∧(texts l).length≤n
theorem Good.app {a b:Nat} {l m:List Pc} (h:Good a l) (h':Good b m):Good (a+b) (l++m):=
 ⟨flat_append h.1 h'.1,okL_append h.2.1 h'.2.1,by rw [texts_append,List.length_append];exact Nat.add_le_add h.2.2 h'.2.2⟩
theorem Good.le {a b:Nat} {l:List Pc} (h:Good a l) (hab:a≤b):Good b l:=⟨h.1,h.2.1,Nat.le_trans h.2.2 hab⟩
theorem mt_star (l:List Pc) (s:List UInt8):mt (.star::l) s=(mt l s||match s with| []=>false|_::s'=>mt (.star::l) s'):=by
 cases s<;>simp [mt,tls]
theorem mt_other {p:Pc} (hp:p≠ .star) (l:List Pc) (c:UInt8) (s:List UInt8):mt (p::l) (c::s)=(p.one c&&mt l s):=by
 cases p<;>first|exact absurd rfl hp|rfl
theorem mt_other_nil {p:Pc} (hp:p≠ .star) (l:List Pc):mt (p::l) []=false:=by
 cases p<;>first|exact absurd rfl hp|rfl
def starless (l:List Pc):Prop:=∀p∈l,p≠ .star
theorem mt_skip:∀(M R:List Pc) (s:List UInt8),starless M→mt (M++R) s=true→M.length≤s.length∧mt R (s.drop M.length)=true
 | [],R,s,_,h=>by simpa using h
 |p::M,R,[],hM,h=>by
  rw [List.cons_append,mt_other_nil (hM p (by simp))] at h
  cases h
 |p::M,R,c::s,hM,h=>by
  rw [List.cons_append,mt_other (hM p (by simp)),Bool.and_eq_true] at h
  have:=mt_skip M R s (fun x hx=>hM x (by simp [hx])) h.2
  exact ⟨by simp;omega,by simpa using this.2⟩
structure Fit (l:List Pc) (name:List UInt8) (at_ k:Nat) (back:Option Nat) (from_:Nat):Prop where
 hat:at_≤l.length
 hk:k≤name.length
 hfk:from_≤k
 f0:back=none→mt l name=mt (l.drop at_) (name.drop k)
 f1:∀b,back=some b→b<at_∧l[b]? =some .star∧k-from_=at_-b-1∧starless ((l.take at_).drop (b+1))∧
  mt l name=(mt (l.drop at_) (name.drop k)||(decide (from_<name.length)&&mt (l.drop b) (name.drop (from_+1))))
theorem drop_cons {α:Type} {l:List α} {i:Nat} {a:α} (h:l[i]? =some a):l.drop i=a::l.drop (i+1):=by
 obtain ⟨hlt,rfl⟩:=List.getElem?_eq_some_iff.1 h
 exact List.drop_eq_getElem_cons hlt
theorem Fit.step {l:List Pc} {name:List UInt8} {at_ k:Nat} {back:Option Nat} {from_:Nat} {p:Pc} {c:UInt8} (h:Fit l name at_ k back from_) (hp:l[at_]? =some p) (hs:p≠ .star) (hc:name[k]? =some c) (ho:p.one c=true):
  Fit l name (at_+1) (k+1) back from_:=by
 have h1:=(List.getElem?_eq_some_iff.1 hp).1
 have h2:=(List.getElem?_eq_some_iff.1 hc).1
 have e:mt (l.drop at_) (name.drop k)=mt (l.drop (at_+1)) (name.drop (k+1)):=by
  rw [drop_cons hp,drop_cons hc,mt_other hs,ho,Bool.true_and]
 refine ⟨by omega,by omega,by have:=h.hfk;omega,fun hn=>by rw [←e];exact h.f0 hn,fun b hb=> ?_⟩
 obtain ⟨g1,g2,g3,g4,g5⟩:=h.f1 b hb
 refine ⟨by omega,g2,by have:=h.hfk;omega,fun x hq=> ?_,by rw [←e];exact g5⟩
 have:l.take (at_+1)=l.take at_++ [p]:=by rw [List.take_add_one,hp];rfl
 rw [this,List.drop_append_of_le_length (by simp;omega)] at hq
 rcases List.mem_append.1 hq with hq|hq
 ·exact g4 x hq
 ·simp only [List.mem_singleton] at hq;subst hq;exact hs
def Stuck (l:List Pc) (name:List UInt8) (at_ k:Nat):Prop:=∃c,name[k]? =some c∧(l[at_]? =none∨∃p,l[at_]? =some p∧p≠ .star∧p.one c=false)
theorem Stuck.mt {l:List Pc} {name:List UInt8} {at_ k:Nat} (h:Stuck l name at_ k):Glob.mt (l.drop at_) (name.drop k)=false:=by
 obtain ⟨c,hc,h⟩:=h
 rw [drop_cons hc]
 rcases h with h|⟨p,hp,hs,ho⟩
 ·rw [List.drop_eq_nil_of_le (List.getElem?_eq_none_iff.1 h)];rfl
 ·rw [drop_cons hp,mt_other hs,ho,Bool.false_and]
theorem Fit.back {l:List Pc} {name:List UInt8} {at_ k:Nat} {b from_:Nat} (h:Fit l name at_ k (some b) from_) (hs:Stuck l name at_ k):Fit l name (b+1) (from_+1) (some b) (from_+1):=by
 obtain ⟨g1,g2,g3,g4,g5⟩:=h.f1 b rfl
 have hk:k<name.length:=by obtain ⟨c,hc,_⟩:=hs;exact (List.getElem?_eq_some_iff.1 hc).1
 have hfk:=h.hfk
 have hat:=h.hat
 refine ⟨by omega,by omega,Nat.le_refl _,nofun,fun b' hb'=> ?_⟩
 cases hb'
 refine ⟨by omega,g2,by omega,fun p hp=> ?_, ?_⟩
 ·rw [List.drop_eq_nil_of_le (by rw [List.length_take];exact Nat.min_le_left _ _)] at hp;cases hp
 ·rw [g5,hs.mt,Bool.false_or]
  have hfr:decide (from_<name.length)=true:=by simp;omega
  rw [hfr,Bool.true_and,drop_cons g2,mt_star]
  congr 1
  by_cases hf:from_+1<name.length
  ·rw [List.drop_eq_getElem_cons hf];simp [hf]
  ·rw [List.drop_eq_nil_of_le (by omega)];simp [hf]
theorem Fit.done {l:List Pc} {name:List UInt8} {at_ from_:Nat} {back:Option Nat} (h:Fit l name at_ name.length back from_):mt l name=mt (l.drop at_) []:=by
 have e0:name.drop name.length= []:=List.drop_eq_nil_of_le (Nat.le_refl _)
 cases hb:back with
 |none=>rw [h.f0 hb,e0]
 |some b=>
  obtain ⟨g1,g2,g3,g4,g5⟩:=h.f1 b hb
  rw [g5,e0]
  cases hy:(decide (from_<name.length)&&mt (l.drop b) (name.drop (from_+1))) with
  |false=>rw [Bool.or_false]
  |true=>
   exfalso
   simp only [Bool.and_eq_true,decide_eq_true_eq] at hy
   obtain ⟨hfr,hy⟩:=hy
   rw [drop_cons g2] at hy
   simp only [mt,List.any_eq_true] at hy
   obtain ⟨t,ht,hy⟩:=hy
   have htl:t.length≤(name.drop (from_+1)).length:=by
    clear hy
    generalize name.drop (from_+1)=s at ht
    induction s with
    |nil=>simp [tls] at ht;simp [ht]
    |cons c s ih=>
     simp only [tls,List.mem_cons] at ht
     rcases ht with rfl|ht
     ·simp
     ·have:=ih ht;simp;omega
   have es:l.drop (b+1)=(l.take at_).drop (b+1)++l.drop at_:=by
    have:l.drop (b+1)=((l.take at_)++l.drop at_).drop (b+1):=by rw [List.take_append_drop]
    rw [this,List.drop_append_of_le_length (by have:=h.hat;simp;omega)]
   rw [es] at hy
   obtain ⟨m1,m2⟩:=mt_skip _ _ _ g4 hy
   have hat:=h.hat
   simp at m1 htl
   omega
end Go.Glob
end
section
namespace Go.Proofs.YtdbhocoeolhjhaaGreatDoor
open Go.Abs Go.Glob
variable {G:Globs}
theorem indexByte_ok (s:List UInt8) (c:UInt8):PCalls Tryz.prog 319 [.str s,.int .u8 c.toNat] (fun r=>r=.int .i64 (Lib.indexByte s c)):=by
 intro base κ Im w vs hs hv
 obtain ⟨v0,v1,rfl⟩:∃v0 v1,vs= [v0,v1]:=by
  match vs,hv.1 with
  | [a,b],_=>exact ⟨a,b,rfl⟩
 have e0:=(hv.2 0 (by simp) (by simp)).str_inv
 have e1:=(hv.2 1 (by simp) (by simp)).int_inv
 simp only [List.getElem_cons_zero,List.getElem_cons_succ] at e0 e1
 subst e0;subst e1
 refine (Tryz.strings_IndexByte ⟨s.toArray⟩ c.toNat w).mono ?_
 rintro e w' ⟨rfl,rfl⟩
 exact ⟨_,[],_,κ,Im,rfl,⟨rfl,rfl⟩,hs,Grow.refl _ _ _ _,.im _ _ (by simpa using IR.int (Im:=Im) (w:=w') .i64 (Lib.indexByte s c))⟩
theorem nb_index (c:UInt8):nb c=((97≤c&&c≤122)||(65≤c&&c≤90)||(48≤c&&c≤57)||decide (0≤Lib.indexByte [95,45,58,37,35,64,43,61] c)):=by
 unfold nb
 rw [Lib.contains_iff_indexByte]
theorem byte_ok (c:UInt8):PCalls Tryz.prog n_glob_Byte [.int .u8 c.toNat] (fun r=>r=.bool (nb c)):=by
 refine pcalls_of_awp hmix c_glob_Byte rfl ?_
 simp [a_glob_Byte]
 repeat' (first
  |(refine gd_dt (fun _=> ?_) (fun _=> ?_))
  |(refine cb_dec (fun _=> ?_) (fun _=> ?_))
  |(refine ac_same (indexByte_ok _ _) (by simp) ?_;rintro r rfl)
  |simp [*])
 all_goals (simp [nb_index,UInt8.le_iff_toNat_le];omega)
def strEls (l:List (List UInt8)):List (List AV):=l.map fun s=> [.str s]
end Go.Proofs.YtdbhocoeolhjhaaGreatDoor
end
section
namespace Go.Trail
open Go.Glob
def sp:List UInt8→List (List UInt8)
 | []=> [[]]
 |c::s=>if c=46 then []::sp s else match sp s with
  |p::ps=>(c::p)::ps
  | []=> [[c]]
def cutN:Nat→List UInt8→List (List UInt8)
 |0,s=> [s]
 |n+1,s=>if Lib.indexByte s 46= -1 then [s] else s.take (Lib.indexByte s 46).toNat::cutN n (s.drop ((Lib.indexByte s 46).toNat+1))
theorem sp_ne (s:List UInt8):sp s≠ []:=by
 cases s with
 |nil=>simp [sp]
 |cons c s=>
  simp only [sp]
  split
  ·simp
  ·split<;>simp
theorem sp_cons {c:UInt8} (h:c≠46) (s:List UInt8):∃p ps,sp s=p::ps∧sp (c::s)=(c::p)::ps:=by
 cases hs:sp s with
 |nil=>exact absurd hs (sp_ne s)
 |cons p ps=>exact ⟨p,ps,rfl,by simp [sp,h,hs]⟩
theorem sp_index:∀(s:List UInt8),(Lib.indexByte s 46= -1∧sp s= [s])∨(∃m:Nat,Lib.indexByte s 46=m∧m<s.length∧sp s=s.take m::sp (s.drop (m+1)))
 | []=> .inl ⟨rfl,rfl⟩
 |c::s=>by
  by_cases hc:c=46
  ·subst hc
   exact .inr ⟨0,by simp [Lib.indexByte],by simp,by simp [sp]⟩
  ·obtain ⟨p,ps,h1,h2⟩:=sp_cons hc s
   have hb:(c==46)=false:=by simpa using hc
   rcases sp_index s with ⟨g1,g2⟩|⟨m,g1,g2,g3⟩
   ·refine .inl ⟨by simp [Lib.indexByte,hb,g1], ?_⟩
    rw [h1] at g2
    simp only [List.cons.injEq] at g2
    rw [h2,g2.1,g2.2]
   ·refine .inr ⟨m+1, ?_,by simp;omega, ?_⟩
    ·simp only [Lib.indexByte,hb,g1]
     have:¬((m:Int)== -1)=true:=by simp
     rw [if_neg this];simp
    ·rw [h1] at g3
     simp only [List.cons.injEq] at g3
     rw [h2,g3.1,g3.2];simp
theorem cutN_eq:∀(n:Nat) (s:List UInt8),(sp s).length≤n+1→cutN n s=sp s
 |0,s,h=>by
  rcases sp_index s with ⟨_,g⟩|⟨m,_,_,g⟩
  ·simp [cutN,g]
  ·rw [g] at h
   have:=List.length_pos_iff.2 (sp_ne (s.drop (m+1)))
   rw [List.length_cons] at h;omega
 |n+1,s,h=>by
  rcases sp_index s with ⟨g1,g⟩|⟨m,g1,_,g⟩
  ·simp [cutN,g,g1]
  ·rw [g] at h
   have hne:¬((m:Int)= -1):=by omega
   simp only [cutN,g1,if_neg hne,g]
   rw [show ((m:Int)).toNat=m from rfl,cutN_eq n _ (by simpa using h)]
theorem cutN_long:∀(n:Nat) (s:List UInt8),n+1≤(sp s).length→(cutN n s).length=n+1
 |0,s,h=>rfl
 |n+1,s,h=>by
  rcases sp_index s with ⟨g1,g⟩|⟨m,g1,_,g⟩
  ·rw [g] at h;simp at h
  ·rw [g] at h
   have hne:¬((m:Int)= -1):=by omega
   simp only [cutN,g1,if_neg hne]
   rw [List.length_cons,show ((m:Int)).toNat=m from rfl,cutN_long n _ (by simpa using h)]
def nameB (s:List UInt8):Bool:=decide (s.length≤32)&&(s.all nb&& !s.isEmpty)
def path (s:List UInt8):Option (List (List UInt8)):=if (sp s).length≤8∧(sp s).all nameB=true then some (sp s) else none
end Go.Trail
end
