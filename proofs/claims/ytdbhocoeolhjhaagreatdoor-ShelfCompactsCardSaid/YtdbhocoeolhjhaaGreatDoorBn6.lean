/- Shelf, plain: metrics, names of files, a shelf and its invariant. Shelf: the small functions of the shelf. Shelf: the worker's operations. Shelf, plai -/
import Derived.WalkKit
import Derived.Test.YtdbhocoeolhjhaaGreatDoorCode
import Derived.Test.YtdbhocoeolhjhaaGreatDoorShelf
import Derived.Test.YtdbhocoeolhjhaaGreatDoorAbs2
import Derived.Lib.IndexAny
import Derived.Lib.Bytealg
import Derived.Test.YtdbhocoeolhjhaaGreatDoorBn1
import Derived.Test.YtdbhocoeolhjhaaGreatDoorBn2
import Derived.Test.YtdbhocoeolhjhaaGreatDoorBn3
import Derived.Test.YtdbhocoeolhjhaaGreatDoorBn4
import Derived.Test.YtdbhocoeolhjhaaGreatDoorBn5
set_option linter.unusedSimpArgs false
set_option linter.unusedVariables false
set_option linter.constructorNameAsVariable false
section
set_option maxHeartbeats 1000000
namespace Go.Sf
open Go.Abs Go.Num
structure MetM where
 id:Nat
 path:Txt
 lad:LadM
 base:Nat
 last:Nat
 count:Nat
structure ShM where
 disk:DiskM
 mets:List MetM
 next:Nat
abbrev kM:MetM→Txt:=MetM.path
def metC (m:MetM):List AV:= [.int .i64 m.id,.str m.path,.lst rungsC,.int .i64 1,.int .i64 500000,.int .i64 1,.int .i64 500000,.lst (zap m.lad),.int .i64 m.base,.int .i64 m.last,.int .i64 m.count]
def zc6 (l:List MetM):List (List AV):=l.map metC
def shC (s:ShM):List AV:= [.int .i64 s.disk.quota,.lst (zaF s.disk.files),.lst (zay s.disk.names),.lst (zay s.disk.kept),.lst (zbx s.disk.moves),.int .i64 s.disk.next,.lst (zc6 s.mets),.int .i64 s.next,.int .i64 (-1),.bool false]
theorem zcs (l:List MetM):(zc6 l).length=l.length:=by simp [zc6]
theorem zkD {l:List MetM} {i:Nat} {m:MetM} (h:l[i]? =some m):(zc6 l)[i]? =some (metC m):=by simp [zc6,h]
theorem z0f {l:List MetM} {i:Nat} {c:List AV} (h:(zc6 l)[i]? =some c):∃m,l[i]? =some m∧c=metC m:=by
 simp only [zc6,yb8,yae] at h
 obtain ⟨m,h1,h2⟩:=h
 exact ⟨m,h1,h2.symm⟩
theorem zl1 (l:List MetM):Els 11 (zc6 l):=by
 refine ⟨fun c hc=> ?_,fun c hc=> ?_,fun c hc=> ?_⟩<;>obtain ⟨n,_,rfl⟩:=yav.1 hc<;>simp [metC,AV.pure,AV.one]
theorem zrQ (σ:zac) (m k:Nat) (l:List MetM):((zc6 l).mapM fun (c:List AV)=>c.mapM (fz σ m k))=some (zc6 l):=zdg (zl1 l).2.1 (fun c hc=>by obtain ⟨n,_,rfl⟩:=yav.1 hc;simp [metC])
theorem z1U (l:List MetM) (x:MetM):(zc6 l).take (posK kM l x.path)++metC x::(zc6 l).drop (posK kM l x.path)=zc6 (insK kM l x):=by
 simp [zc6,insK]
def zco (s:ShM) (m:MetM):ShM:=if hasK kM s.mets m.path then {s with mets:=s.mets.set (posK kM s.mets m.path) m} else {s with mets:=insK kM s.mets m,next:=max s.next (m.id+1)}
def zd8:Txt:= [46,112]
def zmV:Txt:= [46,99]
def zrY:Txt:= [46,116]
def zdo (id seq:Nat) (kind:Txt):Txt:=Lib.decDigits id++ [46]++Lib.decDigits seq++kind
def P4:List Txt:= [[97],[98],[97,46,99],[100,46,101,46,102]]
def numT (s:Txt):Nat:=s.foldl (fun n b=>n*10+(b.toNat-48)) 0
def z7r (s:Txt):Nat×Nat×Txt:=
 let a:=s.takeWhile (· ≠46)
 let r:=(s.dropWhile (· ≠46)).drop 1
 (numT a,numT (r.takeWhile (· ≠46)),r.dropWhile (· ≠46))
theorem zt0:∀id<5,∀q<70,∀k∈ [zd8,zmV,zrY],z7r (zdo id q k)=(id,q,k):=by decide+kernel
theorem zfx {i j q r:Nat} {k l:Txt} (hi:i<5) (hj:j<5) (hq:q<70) (hr:r<70) (hk:k∈ [zd8,zmV,zrY]) (hl:l∈ [zd8,zmV,zrY]) (h:zdo i q k=zdo j r l):i=j∧q=r∧k=l:=by
 have h1:=zt0 i hi q hq k hk
 have h2:=zt0 j hj r hr l hl
 rw [h,h2] at h1
 simpa [eq_comm] using h1
theorem zcL:∀id<5,∀q<70,∀k∈ [zd8,zmV,zrY],okS (zdo id q k):=by decide+kernel
theorem zqH:∀id<5,∀q<70,∀k∈ [zd8,zmV,zrY],∀j<5,Lib.hasPrefix (zdo id q k) (Lib.decDigits j++ [46])=decide (id=j):=by decide+kernel
end Go.Sf
end
section
set_option maxHeartbeats 4000000
namespace Go.Sf
def z5E:List Abs.AV:= [.int .i64 0,.str [],.lst [],.int .i64 0,.int .i64 0,.int .i64 0,.int .i64 0,.lst [],.int .i64 0,.int .i64 0,.int .i64 0]
end Go.Sf
namespace Go.Proofs.YtdbhocoeolhjhaaGreatDoor
open Go.Abs Go.RowKit Go.Sf Go.Num
variable {G:Globs}
theorem zxa (m:MetM):PCalls Tryz.prog zsX [.agg (metC m)] (fun r=>r=.agg (zaM m.path)):=by
 refine zaa hmix ztv rfl ?_
 simp [znG,metC,zaM,splice]
theorem zv8:∀i<100,(Lib.decDigits i).length≤2:=by decide+kernel
theorem ziS (i q:Nat) (k:Txt) (hi:i<100) (hq:q<100) (hk:k.length≤1000):PCalls Tryz.prog zcR [.int .i64 i,.int .i64 q,.str k] (fun r=>r=.str (zdo i q k)):=by
 refine zaa hmix zuA rfl ?_
 have d1:=zv8 i hi
 have d2:=zv8 q hq
 have l1:(Lib.decDigits i).length≤9223372036854775806:=by omega
 have l2:(Lib.decDigits i).length+(1+(Lib.decDigits q).length)≤9223372036854775807:=by omega
 have l2':(Lib.decDigits i).length+((Lib.decDigits q).length+1)≤9223372036854775807:=by omega
 have l4:(Lib.decDigits i).length+1+(Lib.decDigits q).length≤9223372036854775807:=by omega
 have l5:(Lib.decDigits i).length+((Lib.decDigits q).length+1)+k.length≤9223372036854775807:=by omega
 have l3:(Lib.decDigits i).length+((Lib.decDigits q).length+k.length+1)≤9223372036854775807:=by omega
 simp [zmZ]
 refine zad (zvA i hi) (by simp) ?_
 rintro r rfl
 simp [l1]
 refine zad (zvA q hq) (by simp) ?_
 rintro r rfl
 simp [l2,l2',l3,l4,l5,zdo]
theorem zxE (m:MetM) (s:Txt):PCalls Tryz.prog zi7 [.agg (metC m),.str s] (fun r=>r=.int .i64 (Lib.compareBytes m.path s)):=by
 refine zaa hmix zoJ rfl ?_
 simp [zi0,metC]
 refine zad (zql _ _) (by simp) ?_
 rintro r rfl
 simp
theorem zpe (s:ShM) (p:Txt) (hs:Srt kM s.mets) (hl:s.mets.length≤1000000):PCalls Tryz.prog zrK [.agg (shC s),.str p] (fun r=>r=.tup [.int .i64 (posK kM s.mets p),.bool (decide (hasK kM s.mets p))]):=by
 refine zaa hmix zrM rfl ?_
 simp [zlo,shC]
 have hp:=zk4 (key:=kM) s.mets p
 have kB:=bsMt (G:=G) (zc6 s.mets) (zl1 s.mets) (by rw [zcs];omega) (.str p) (by simp [AV.pure]) zi7 zoH (posK kM s.mets p) (by rw [zcs];exact hp)
  (fun i=>match s.mets[i]? with|some n=>Lib.compareBytes n.path p|none=>0)
  (fun i c hc=>by
   obtain ⟨n,hn,rfl⟩:=z0f hc
   simp only [hn]
   exact zxE n p)
  (fun i hi=>by
   obtain ⟨n,hn⟩:∃n,s.mets[i]? =some n:=⟨s.mets[i]'(by omega),yad (by omega)⟩
   simp only [hn]
   exact (zoQ _ _).2 (zpq hi hn))
  (fun i h1 h2=>by
   rw [zcs] at h2
   obtain ⟨n,hn⟩:∃n,s.mets[i]? =some n:=⟨s.mets[i]'h2,yad h2⟩
   simp only [hn]
   have:=zpd hs h1 hn
   exact Int.not_lt.1 fun h=>this ((zoQ _ _).1 h))
 refine zad kB (by simp [AV.pure]) ?_
 rintro r rfl
 simp
 rw [zcs]
 by_cases hh:hasK kM s.mets p
 ·obtain ⟨n,hn,hk⟩:=(zd9 hs).1 hh
  have:=(yaa.1 hn).1
  have hz:=(zl6 n.path p).2 hk
  obtain ⟨hx1,hx2⟩:=yaa.1 hn
  simp [hh,hn,this,hz,hx2]
 ·by_cases hlt:posK kM s.mets p<s.mets.length
  ·obtain ⟨n,hn⟩:∃n,s.mets[posK kM s.mets p]? =some n:=⟨s.mets[posK kM s.mets p]'hlt,yad hlt⟩
   have hne:n.path≠p:=fun e=>hh ((zd9 hs).2 ⟨n,hn,e⟩)
   have:¬Lib.compareBytes n.path p=0:=fun e=>hne ((zl6 _ _).1 e)
   obtain ⟨hx1,hx2⟩:=yaa.1 hn
   simp [hh,hn,hlt,this,hx2]
  ·simp [hh,hlt]
theorem zwP (s:ShM) (p:Txt) (hs:Srt kM s.mets) (hl:s.mets.length≤1000000) (hh:¬hasK kM s.mets p):PCalls Tryz.prog zif [.agg (shC s),.str p] (fun r=>r=.tup [.agg z5E,.int .i64 15]):=by
 refine zaa hmix znr rfl ?_
 have kP:=zpe (G:=G) s p hs hl
 simp only [shC] at kP
 simp [zie,shC]
 refine zad kP (by simp [AV.pure]) ?_
 rintro r rfl
 simp [hh,splice,z5E]
theorem zlQ (s:ShM) (p:Txt) (hs:Srt kM s.mets) (hl:s.mets.length≤1000000) {m:MetM} (hm:s.mets[posK kM s.mets p]? =some m) (hh:m.path=p):PCalls Tryz.prog zif [.agg (shC s),.str p] (fun r=>r=.tup [.agg (metC m),.int .i64 0]):=by
 refine zaa hmix znr rfl ?_
 have kP:=zpe (G:=G) s p hs hl
 have hh':hasK kM s.mets p:=(zd9 hs).2 ⟨m,hm,hh⟩
 have hc:=zkD hm
 obtain ⟨hx1,hx2⟩:=yaa.1 hc
 simp only [shC] at kP
 simp [zie,shC]
 refine zad kP (by simp [AV.pure]) ?_
 rintro r rfl
 simp [hh',hc,hx2,metC,splice]
theorem zzN (s:ShM) (p:Txt) (hl:s.mets.length<64):PCalls Tryz.prog zrH [.agg (shC s),.str p,.agg schC] (fun r=>r=.tup [.agg (metC ⟨s.next,p,newL,0,0,0⟩),.int .i64 0]):=by
 refine zaa hmix zry rfl ?_
 have k:=zzI (G:=G)
 have kc:=z2W (G:=G) rungsC (by refine ⟨?_, ?_, ?_⟩<;>simp [rungsC,AV.pure,AV.one]) (by simp [rungsC]) (by simp [rungsC])
 have h64:¬(64≤(s.mets.length:Int)):=by omega
 have h64':¬(64≤s.mets.length):=by omega
 simp only [schC,ladC] at k
 simp [zlF,shC,schC]
 refine zad k (by simp [AV.pure]) ?_
 rintro r rfl
 simp [splice,zcs,h64,h64']
 refine zad kc (by simp [AV.pure]) ?_
 rintro r rfl
 simp [splice,metC]
theorem zw7 (d:DiskM) (h:RightM d) (hl:Fits d) (n:Nat) (hn:n≤1000000000) (more:Bool) (hf:d.files.length<256):PCalls Tryz.prog zuv [.agg (zak d),.int .i64 n,.bool more] (fun r=>r=.int .i64 (if n≤d.quota-zaC d then 0 else 6)):=by
 refine zaa hmix zuj rfl ?_
 have kU:=zrg (G:=G) d hl
 have hq:=h.quota
 have hu:=h.used
 have hw:IntKind.i64.wrap ((d.quota:Int)-zaC d)=((d.quota-zaC d:Nat):Int):=by rw [wrap_i64 (by omega) (by omega)];omega
 have h6:¬(256≤(d.files.length:Int)):=by omega
 have h6':¬(256≤d.files.length):=by omega
 simp only [zak] at kU
 simp [znq,zak]
 refine zaq kU (by simp [AV.pure]) (by simp) ?_
 by_cases hc:n≤d.quota-zaC d
 ·have hc':¬((d.quota-zaC d:Nat):Int)<n:=by omega
  have hc'':¬(d.quota-zaC d)<n:=by omega
  cases more<;>simp [hw,hc,hc',hc'',zcr,h6,h6']
 ·have hc':((d.quota-zaC d:Nat):Int)<n:=by omega
  have hc'':(d.quota-zaC d)<n:=by omega
  simp [hw,hc,hc',hc'']
theorem z3L (s:ShM) (m:MetM) (hs:Srt kM s.mets) (hl:s.mets.length≤1000) (hx:s.next≤1000000) (hi:m.id≤1000000):PCalls Tryz.prog zui [.agg (shC s),.agg (metC m)] (fun r=>r=.agg (shC (zco s m))):=by
 refine zaa hmix zs4 rfl ?_
 have kP:=zpe (G:=G) s m.path hs (by omega)
 have hp:=zk4 (key:=kM) s.mets m.path
 have hml:=zcs s.mets
 have hwi:IntKind.i64.wrap ((m.id:Int)+1)=((m.id+1:Nat):Int):=by rw [wrap_i64 (by omega) (by omega)];omega
 have hmx:(if (s.next:Int)<m.id+1 then (m.id:Int)+1 else s.next)=((max s.next (m.id+1):Nat):Int):=by split<;>omega
 have hpi:=zk4 (key:=kM) (insK kM s.mets m) m.path
 simp only [shC] at kP
 simp [zn8,shC,metC]
 refine zad kP (by simp [AV.pure]) ?_
 rintro r rfl
 simp
 refine zar (z5g (zc6 s.mets) (zl1 s.mets) (by omega)) ?_
 rintro r σ (⟨h0,rfl,rfl⟩|⟨rfl,rfl⟩)
 ·have h0':s.mets= []:=by simpa [zc6] using h0
  have hno:¬hasK kM s.mets m.path:=by rw [h0'];simp [hasK]
  simp [hno,splice]
  have e0:posK kM s.mets m.path=0:=by rw [h0'];rfl
  rw [e0]
  refine zar (z3q (jd:=3) (T2:=57) (c:=metC m) (by simp [metC]) rfl (by simp [metC,AV.pure])) ?_
  rintro r σ ⟨rfl,rfl⟩
  have hw:zco s m={s with mets:= [m],next:=max s.next (m.id+1)}:=by
   unfold zco
   rw [if_neg hno,h0'];rfl
  rw [hw]
  simp [metC,splice,hwi,shC,zc6,hmx]
 ·by_cases hh:hasK kM s.mets m.path
  ·obtain ⟨n,hn,hk⟩:=(zd9 hs).1 hh
   have hpl:=(yaa.1 hn).1
   have hc:=zkD hn
   obtain ⟨hx1,hx2⟩:=yaa.1 hc
   have e1:(zc6 s.mets).set (posK kM s.mets m.path) (metC m)=zc6 (s.mets.set (posK kM s.mets m.path) m):=by simp [zc6,List.map_set]
   have e2:(zc6 s.mets).length=(zc6 (s.mets.set (posK kM s.mets m.path) m)).length:=by simp [zc6]
   have hw:zco s m={s with mets:=s.mets.set (posK kM s.mets m.path) m}:=by
    unfold zco
    rw [if_pos hh]
   simp only [metC] at e1
   have hpl2:posK kM s.mets m.path<(zc6 s.mets).length:=by omega
   rw [hw]
   simp [hh,splice,hc,hx2,hpl,hpl2,metC,e1,shC]
   rw [e2]
   simp [zrQ]
  ·simp [hh,splice]
   have hw:zco s m={s with mets:=insK kM s.mets m,next:=max s.next (m.id+1)}:=by
    unfold zco
    rw [if_neg hh]
   have hq:(zc6 s.mets).length+1=(zc6 (insK kM s.mets m)).length:=by rw [zcs,zcs,zjf]
   have hc:=z1U s.mets m
   simp only [metC] at hc
   have hat:(insK kM s.mets m)[posK kM s.mets m.path]? =some m:=by
    unfold insK
    rw [yaj (by rw [yan];exact Nat.min_le_left _ _),yan,ybt hp,ycx];rfl
   have hca:=zkD hat
   obtain ⟨hx1,hx2⟩:=yaa.1 hca
   have hse:(zc6 (insK kM s.mets m)).set (posK kM s.mets m.path) (metC m)=zc6 (insK kM s.mets m):=by
    rw [←hx2,ycr]
   simp only [metC] at hse
   by_cases hlt:posK kM s.mets m.path<s.mets.length
   ·refine zar (z2q (id:=3) (jd:=4) (T2:=57) (els:=zc6 s.mets) (c:=metC m) (i:=posK kM s.mets m.path) (by simp) (by simp [metC]) (by omega) (by rw [zcs];exact hlt) (by rw [zcs];omega)) ?_
    rintro r σ ⟨rfl,rfl⟩
    simp only [metC]
    rw [hc,hq,hw]
    simp [splice,hwi,hmx,hx1,hca,hx2,metC,hse,zrQ,shC]
   ·have he:posK kM s.mets m.path=s.mets.length:=by omega
    have hn:=zcs s.mets
    rw [he,←hn,ya1,yd2] at hc
    rw [he,←hn]
    refine zar (z3f (id:=3) (jd:=4) (T2:=57) (els:=zc6 s.mets) (c:=metC m) (by simp) (by simp [metC]) (zl1 _) rfl (by simp [metC,AV.pure]) (by rw [zcs];omega)) ?_
    rintro r σ ⟨rfl,rfl⟩
    simp only [metC]
    rw [hc,hq,hw]
    rw [he,←hn] at hca hse
    obtain ⟨hx3,hx4⟩:=yaa.1 hca
    simp [splice,hwi,hmx,hx3,hca,hx4,metC,hse,zrQ,shC]
end Go.Proofs.YtdbhocoeolhjhaaGreatDoor
end
section
set_option maxHeartbeats 4000000
namespace Go.Sf
open Go.Abs
def wkC (s:ShM):List AV:= [.int .i64 s.disk.quota,.lst (zaF s.disk.files),.lst (zay s.disk.names),.lst (zay s.disk.kept),.lst (zbx s.disk.moves),.int .i64 s.disk.next,.lst (zc6 s.mets),.int .i64 s.next,.int .i64 (-1),.bool false,.int .i64 0]
end Go.Sf
namespace Go.Proofs.YtdbhocoeolhjhaaGreatDoor
open Go.Abs Go.RowKit Go.Sf Go.Num
variable {G:Globs}
theorem zdu {σ:zac} {k:Nat} {e:Entry} (h:σ[k]? =some e) (l:zac):(σ++l)[k]? =some e:=by
 rw [yar (yaa.1 h).1];exact h
theorem zdV {σ:zac} {k:Nat} {e:Entry} (h:σ[k]? =some e) (x:Entry):(σ.set k x)[k]? =some x:=by
 simp [(yaa.1 h).1]
theorem zj4 {σ:zac} {k:Nat} {e:Entry} (h:σ[k]? =some e) (l:zac) (x:Entry):(σ++l).set k x=σ.set k x++l:=by
 rw [List.set_append_left _ _ (yaa.1 h).1]
theorem zzh {σ:zac} {k:Nat} {e x:Entry} {R:AV→zac→Prop} {t:Tg R} {res:List (Nat×Option (Bool×Nat))} {f:Abs.Frame} {tf:Tg f} (hk:σ[k]? =some e) (r:AV) (hr:(res.mapM (zff (σ.set k x) f)).map zaE=some r) (hru:r.under (σ.set k x).length=true)
  (hu:x.under (σ.set k x).length=true) (hR:R r (σ.set k x)):er σ R t res f tf (σ.set k x):=by
 refine za5 (σ.set k x) r hr [] (by simp) (by simp) hru (fun i e' he'=> ?_) hR
 by_cases hik:k=i
 ·subst hik
  rw [zdV hk] at he'
  cases he'
  exact .inr hu
 ·rw [yba hik] at he'
  exact .inl he'
theorem zhK {σ ext:zac} {k:Nat} {e x:Entry} {R:AV→zac→Prop} {t:Tg R} {res:List (Nat×Option (Bool×Nat))} {f:Abs.Frame} {tf:Tg f} (hk:σ[k]? =some e) (r:AV) (hr:(res.mapM (zff (σ.set k x++ext) f)).map zaE=some r) (hru:r.under (σ.set k x).length=true)
  (hu:x.under (σ.set k x).length=true) (hR:R r (σ.set k x)):er σ R t res f tf (σ.set k x++ext):=by
 refine za5 (σ.set k x) r hr ext rfl (by simp) hru (fun i e' he'=> ?_) hR
 by_cases hik:k=i
 ·subst hik
  rw [zdV hk] at he'
  cases he'
  exact .inr hu
 ·rw [yba hik] at he'
  exact .inl he'
theorem zhr {σ ext:zac} {R:AV→zac→Prop} {t:Tg R} {res:List (Nat×Option (Bool×Nat))} {f:Abs.Frame} {tf:Tg f} (r:AV) (hr:(res.mapM (zff (σ++ext) f)).map zaE=some r) (hru:r.under σ.length=true) (hR:R r σ):er σ R t res f tf (σ++ext):=
 za5 σ r hr ext rfl (yaq _) hru (fun _ _ h=> .inl h) hR
theorem zqJ {σ:zac} {k:Nat} (s:ShM) (g:Nat) (capt:List AV) (D':DiskM) (hb:zaJ Tryz.prog g=true) (hk:σ[k]? =some (.var 127 (wkC s))) (hc:ACalls Tryz.prog g (.agg (zak s.disk)::capt) σ (fun r σ'=>r=.tup [.agg (zak D'),.int .i64 0]∧σ'=σ)):
  ACalls Tryz.prog zkZ [.ptr k 0,.fn (.func g) [] capt] σ (fun r σ'=>r=.tup []∧σ'=σ.set k (.var 127 (wkC {s with disk:=D'}))):=by
 refine zag hmix zlc rfl ?_
 have hgs:=zdV hk
 simp [zgm,hk,wkC]
 refine zuB hb ?_
 simp only [zak] at hc
 refine zar hc ?_
 rintro r σ' ⟨rfl,rfl⟩
 simp [hk,hgs,wkC,splice]
 exact zzh hk (.tup []) (by simp [zaE]) (by simp [AV.under]) (by simp [Entry.under,AV.under]) ⟨rfl,by simp [wkC]⟩
theorem z48 {P:Program} {f:FuncId} {args:List AV} {σ:zac} {R:AV→Prop} (h:PCalls P f args R) (ha:args.all AV.pure=true):ACalls P f args σ (fun r σ'=>R r∧σ'=σ):=
 fun base κ Im w vs hs hv=>zrq hs hv (.inl ⟨args,R,ziC ha,h,fun r hr=>⟨hr,rfl⟩⟩)
theorem zvW {σ:zac} {j:Nat} {n:Txt} (d:DiskM) (hj:σ[j]? =some (.var 9 [.str n])) (h:RightM d) (hl:Fits d) (ho:okS n) (hh:¬hasK kN d.names n) (hf:d.files.length<256) (hx:d.next<1099511627776):
  ACalls Tryz.prog zen [.agg (zak d),.ptr j 0] σ (fun r σ'=>r=.tup [.agg (zak (za1 (d) n)),.int .i64 0]∧σ'=σ):=by
 refine zag hmix zhH rfl ?_
 have kC:=zyq (G:=G) d n h hl ho hh hf hx
 simp only [zak] at kC
 have gj:=zdu hj
 simp [zed,zak,gj]
 refine zad kC (by simp [AV.pure]) ?_
 rintro r rfl
 simp [za6,zdx,splice]
 exact zhr (.tup [.agg (zak (za1 (d) n)),.int .i64 0]) (by simp [zaE,zak,za6]) (by simp [AV.under,zak]) ⟨by simp [zak],rfl⟩
theorem zmr {σ:zac} {k:Nat} {n:Txt} (s:ShM) (hk:σ[k]? =some (.var 127 (wkC s))) (h:RightM s.disk) (hl:Fits s.disk) (ho:okS n) (hh:¬hasK kN s.disk.names n) (hf:s.disk.files.length<256) (hx:s.disk.next<1099511627776):
  ACalls Tryz.prog ziH [.ptr k 0,.str n] σ (fun r σ'=>r=.tup []∧σ'=σ.set k (.var 127 (wkC {s with disk:=za1 (s.disk) n}))):=by
 refine zag hmix zi2 rfl ?_
 simp [zeZ]
 have kA:=zqJ (G:=G) (σ:=σ++ [.var 9 [.str n]]) s zen [.ptr (σ.length) 0] (za1 (s.disk) n) zhD (zdu hk _) (zvW s.disk (by simp) h hl ho hh hf hx)
 refine zar kA ?_
 rintro r σ' ⟨rfl,rfl⟩
 rw [zj4 hk]
 simp
 exact zhK hk (.tup []) (by simp [zaE]) (by simp [AV.under]) (by simp [Entry.under,AV.under,wkC]) ⟨rfl,rfl⟩
theorem z1J {σ:zac} {j:Nat} {n:Txt} (d:DiskM) (hj:σ[j]? =some (.var 9 [.str n])) (h:RightM d) (hl:Fits d) (ho:okS n) (hh:hasK kN d.names n):
  ACalls Tryz.prog zeU [.agg (zak d),.ptr j 0] σ (fun r σ'=>r=.tup [.agg (zak (zcX (d) n)),.int .i64 0]∧σ'=σ):=by
 refine zag hmix ziK rfl ?_
 have kC:=z2Q (G:=G) d n h hl ho hh
 simp only [zak] at kC
 have gj:=zdu hj
 simp [zeY,zak,gj]
 refine zad kC (by simp [AV.pure]) ?_
 rintro r rfl
 simp [za6,zdx,splice]
 exact zhr (.tup [.agg (zak (zcX (d) n)),.int .i64 0]) (by simp [zaE,zak,za6]) (by simp [AV.under,zak]) ⟨by simp [zak],rfl⟩
theorem zop {σ:zac} {k:Nat} {n:Txt} (s:ShM) (hk:σ[k]? =some (.var 127 (wkC s))) (h:RightM s.disk) (hl:Fits s.disk) (ho:okS n) (hh:hasK kN s.disk.names n):
  ACalls Tryz.prog zjV [.ptr k 0,.str n] σ (fun r σ'=>r=.tup []∧σ'=σ.set k (.var 127 (wkC {s with disk:=zcX (s.disk) n}))):=by
 refine zag hmix zkt rfl ?_
 simp [zfA]
 have kA:=zqJ (G:=G) (σ:=σ++ [.var 9 [.str n]]) s zeU [.ptr (σ.length) 0] (zcX (s.disk) n) ziN (zdu hk _) (z1J s.disk (by simp) h hl ho hh)
 refine zar kA ?_
 rintro r σ' ⟨rfl,rfl⟩
 rw [zj4 hk]
 simp
 exact zhK hk (.tup []) (by simp [zaE]) (by simp [AV.under]) (by simp [Entry.under,AV.under,wkC]) ⟨rfl,rfl⟩
theorem zvc {σ:zac} {j:Nat} {n:Txt} (d:DiskM) (hj:σ[j]? =some (.var 9 [.str n])) (h:RightM d) (hl:Fits d) (ho:okS n) (hh:hasK kN d.names n):
  ACalls Tryz.prog zej [.agg (zak d),.ptr j 0] σ (fun r σ'=>r=.tup [.agg (zak (zcO (d) n)),.int .i64 0]∧σ'=σ):=by
 refine zag hmix zh7 rfl ?_
 have kC:=zyc (G:=G) d n h hl ho hh
 simp only [zak] at kC
 have gj:=zdu hj
 simp [zeo,zak,gj]
 refine zad kC (by simp [AV.pure]) ?_
 rintro r rfl
 simp [za6,zdx,splice]
 exact zhr (.tup [.agg (zak (zcO (d) n)),.int .i64 0]) (by simp [zaE,zak,za6]) (by simp [AV.under,zak]) ⟨by simp [zak],rfl⟩
theorem zyS {σ:zac} {k:Nat} {n:Txt} (s:ShM) (hk:σ[k]? =some (.var 127 (wkC s))) (h:RightM s.disk) (hl:Fits s.disk) (ho:okS n) (hh:hasK kN s.disk.names n):
  ACalls Tryz.prog ziu [.ptr k 0,.str n] σ (fun r σ'=>r=.tup []∧σ'=σ.set k (.var 127 (wkC {s with disk:=zcO (s.disk) n}))):=by
 refine zag hmix ziq rfl ?_
 simp [zeN]
 have kA:=zqJ (G:=G) (σ:=σ++ [.var 9 [.str n]]) s zej [.ptr (σ.length) 0] (zcO (s.disk) n) zhA (zdu hk _) (zvc s.disk (by simp) h hl ho hh)
 refine zar kA ?_
 rintro r σ' ⟨rfl,rfl⟩
 rw [zj4 hk]
 simp
 exact zhK hk (.tup []) (by simp [zaE]) (by simp [AV.under]) (by simp [Entry.under,AV.under,wkC]) ⟨rfl,rfl⟩
theorem z3x {σ:zac} {j i:Nat} {n:Txt} {b:Txt} (d:DiskM) (hj:σ[j]? =some (.var 9 [.str n])) (hi:σ[i]? =some (.var 70 [.lst (byteEls b)])) (h:RightM d) (hl:Fits d) (ho:okS n) (hh:hasK kN d.names n) (hb:b.length≤d.quota-zaC d) (hbl:b.length≤1000000000):
  ACalls Tryz.prog zfi [.agg (zak d),.ptr j 0,.ptr i 0] σ (fun r σ'=>r=.tup [.agg (zak (zaQ (d) n b)),.int .i64 0]∧σ'=σ):=by
 refine zag hmix zjt rfl ?_
 have kC:=zx7 (G:=G) d n b h hl ho hh hb hbl
 simp only [zak] at kC
 have gj:=zdu hj
 have gi:=zdu hi
 simp [zfj,zak,gj,gi]
 refine zad kC (by simp [AV.pure]) ?_
 rintro r rfl
 simp [za6,zdx,splice]
 exact zhr (.tup [.agg (zak (zaQ (d) n b)),.int .i64 0]) (by simp [zaE,zak,za6]) (by simp [AV.under,zak]) ⟨by simp [zak],rfl⟩
theorem zr8 {σ:zac} {k:Nat} {n:Txt} {b:Txt} (s:ShM) (hk:σ[k]? =some (.var 127 (wkC s))) (h:RightM s.disk) (hl:Fits s.disk) (ho:okS n) (hh:hasK kN s.disk.names n) (hb:b.length≤s.disk.quota-zaC s.disk) (hbl:b.length≤1000000000):
  ACalls Tryz.prog zlf [.ptr k 0,.str n,.lst (byteEls b)] σ (fun r σ'=>r=.tup []∧σ'=σ.set k (.var 127 (wkC {s with disk:=zaQ (s.disk) n b}))):=by
 refine zag hmix zk9 rfl ?_
 simp [zg1]
 have kA:=zqJ (G:=G) (σ:=σ++ [.var 9 [.str n],.var 70 [.lst (byteEls b)]]) s zfi [.ptr (σ.length) 0,.ptr (σ.length+1) 0] (zaQ (s.disk) n b) zjr (zdu hk _) (z3x s.disk (by simp) (by simp [za6]) h hl ho hh hb hbl)
 refine zar kA ?_
 rintro r σ' ⟨rfl,rfl⟩
 rw [zj4 hk]
 simp
 exact zhK hk (.tup []) (by simp [zaE]) (by simp [AV.under]) (by simp [Entry.under,AV.under,wkC]) ⟨rfl,rfl⟩
theorem zvz {σ:zac} {j i:Nat} {n:Txt} {t:Txt} (d:DiskM) (hj:σ[j]? =some (.var 9 [.str n])) (hi:σ[i]? =some (.var 9 [.str t])) (h:RightM d) (hl:Fits d) (ho:okS n) (hh:hasK kN d.names n) (hot:okS t) (hne:t≠n):
  ACalls Tryz.prog zef [.agg (zak d),.ptr j 0,.ptr i 0] σ (fun r σ'=>r=.tup [.agg (zak (zc2 (d) n t)),.int .i64 0]∧σ'=σ):=by
 refine zag hmix zhy rfl ?_
 have kC:=zxB (G:=G) d n t h hl ho hh hot hne
 simp only [zak] at kC
 have gj:=zdu hj
 have gi:=zdu hi
 simp [zdL,zak,gj,gi]
 refine zad kC (by simp [AV.pure]) ?_
 rintro r rfl
 simp [za6,zdx,splice]
 exact zhr (.tup [.agg (zak (zc2 (d) n t)),.int .i64 0]) (by simp [zaE,zak,za6]) (by simp [AV.under,zak]) ⟨by simp [zak],rfl⟩
theorem zyI {σ:zac} {k:Nat} {n:Txt} {t:Txt} (s:ShM) (hk:σ[k]? =some (.var 127 (wkC s))) (h:RightM s.disk) (hl:Fits s.disk) (ho:okS n) (hh:hasK kN s.disk.names n) (hot:okS t) (hne:t≠n):
  ACalls Tryz.prog zi9 [.ptr k 0,.str n,.str t] σ (fun r σ'=>r=.tup []∧σ'=σ.set k (.var 127 (wkC {s with disk:=zc2 (s.disk) n t}))):=by
 refine zag hmix zil rfl ?_
 simp [zfc]
 have kA:=zqJ (G:=G) (σ:=σ++ [.var 9 [.str n],.var 9 [.str t]]) s zef [.ptr (σ.length) 0,.ptr (σ.length+1) 0] (zc2 (s.disk) n t) zhz (zdu hk _) (zvz s.disk (by simp) (by simp [za6]) h hl ho hh hot hne)
 refine zar kA ?_
 rintro r σ' ⟨rfl,rfl⟩
 rw [zj4 hk]
 simp
 exact zhK hk (.tup []) (by simp [zaE]) (by simp [AV.under]) (by simp [Entry.under,AV.under,wkC]) ⟨rfl,rfl⟩
theorem zsh {σ:zac} {k:Nat} (s:ShM) (hk:σ[k]? =some (.var 127 (wkC s))) (h:RightM s.disk) (hl:Fits s.disk):
  ACalls Tryz.prog zkx [.ptr k 0] σ (fun r σ'=>r=.tup []∧σ'=σ.set k (.var 127 (wkC {s with disk:=if s.disk.moves= [] then s.disk else zbs s.disk}))):=by
 refine zag hmix zko rfl ?_
 have hml:(zbx s.disk.moves).length=s.disk.moves.length:=by simp [zbx]
 by_cases h0:s.disk.moves= []
 ·have hself:σ.set k (.var 127 (wkC s))=σ:=by
   obtain ⟨hlt,hx⟩:=yaa.1 hk
   rw [←hx,ycr]
  rw [if_pos h0]
  simp [zd4,hk,wkC,h0,zbx]
  exact za5 σ (.tup []) (by simp [zaE]) [] (by simp) (yaq _) (by simp [AV.under]) (fun _ _ h=> .inl h) ⟨rfl,by simpa [wkC,h0,zbx] using hself.symm⟩
 ·have hpos:0<s.disk.moves.length:=yda.2 h0
  rw [if_neg h0]
  simp [zd4,hk,wkC,hml,hpos]
  refine zar (zqJ (G:=G) s zjA [] (zbs s.disk) zpR hk (z48 (zvQ s.disk h hl) (by simp [AV.pure,zak]))) ?_
  rintro r σ' ⟨rfl,rfl⟩
  simp
  exact zzh hk (.tup []) (by simp [zaE]) (by simp [AV.under]) (by simp [Entry.under,AV.under,wkC]) ⟨rfl,by simp [wkC]⟩
end Go.Proofs.YtdbhocoeolhjhaaGreatDoor
end
section
set_option maxHeartbeats 1000000
namespace Go.Proofs.YtdbhocoeolhjhaaGreatDoor
open Go.Sf Go.Num
structure SizeM (d:DiskM) (a k:Nat):Prop where
 right:RightM d
 quota:d.quota≤65535
 files:d.files.length≤a
 next:d.next≤a+1
 moves:d.moves.length≤k
 okm:∀m∈d.moves,z4o m
theorem zq7 {l:List Nat} {x:Nat} (h:x∈l):x≤l.sum:=by
 induction l with
 |nil=>cases h
 |cons y l ih=>
  rw [List.sum_cons]
  rcases ybb.1 h with rfl|h
  ·omega
  ·have:=ih h;omega
theorem zov {α:Type} [BEq α] [LawfulBEq α] {l m:List α} (h:l.Nodup) (hs:∀i∈l,i∈m):l.length≤m.length:=by
 induction l generalizing m with
 |nil=>simp
 |cons x l ih=>
  have hx:=hs x (by simp)
  have hn:=ydl.1 h
  have:=ih (m:=m.erase x) hn.2 fun i hi=>(List.mem_erase_of_ne (fun e=>hn.1 (by rw [←e];exact hi))).2 (hs i (by simp [hi]))
  rw [List.length_erase_of_mem hx] at this
  have:=List.length_pos_of_mem hx
  simp;omega
theorem zn2 {d:DiskM} (h:RightM d):d.names.length≤d.files.length:=by
 rw [←h.count]
 have:=zov h.names.ids (m:=idsM d) (fun i hi=>by
  obtain ⟨n,hn,rfl⟩:=yav.1 hi
  exact h.nids n hn)
 simpa using this
theorem SizeM.fits {d:DiskM} {a k:Nat} (h:SizeM d a k) (ha:a≤1000) (hk:k≤500000):Fits d:=by
 have h1:=h.files
 have h2:=zn2 h.right
 have h3:=h.right.nkept
 have h4:=h.moves
 refine ⟨by omega,by omega,by omega,by omega,fun f hf=> ?_,h.okm⟩
 have h5:=h.right.used
 have h6:=h.quota
 have:f.bytes.length≤zbX d.files:=zq7 (yav.2 ⟨f,hf,rfl⟩)
 unfold zaC at h5
 omega
theorem SizeM.more {d:DiskM} {a k a' k':Nat} (h:SizeM d a k) (ha:a≤a') (hk:k≤k'):SizeM d a' k':=⟨h.right,h.quota,by have:=h.files;omega,by have:=h.next;omega,by have:=h.moves;omega,h.okm⟩
theorem zsi {s:Txt} (h:okS s):s.length≤96:=h.2
theorem ze6 {d:DiskM} {a k:Nat} {n:Txt} (h:SizeM d a k) (ho:okS n) (hn:¬hasK kN d.names n) (ha:a<250):SizeM (za1 d n) (a+1) (k+1):=by
 have h1:=h.files
 have h2:=h.next
 have h3:=h.moves
 refine ⟨zn5 h.right ho hn (by omega) (by omega),h.quota, ?_, ?_, ?_,fun m hm=> ?_⟩
 ·show (d.files++ [_]).length≤_
  simp;omega
 ·show d.next+1≤_
  omega
 ·show (d.moves++ [_]).length≤_
  simp;omega
 ·rcases yai.1 (show m∈d.moves++ [_] from hm) with h|h
  ·rename_i hh;exact hh.okm m h
  ·simp at h
   subst h
   have:=zsi ho
   refine ⟨?_, ?_, ?_, ?_⟩<;>simp<;>omega
theorem ze8 (d:DiskM) (n:Txt):zaC (za1 d n)=zaC d:=by simp [zaC,zbX,za1]
theorem z1M (fs:List FileM) (id:Nat) (g:FileM→FileM):(modF fs id g).length=fs.length:=by simp [modF]
theorem size_append {d:DiskM} {a k:Nat} {n b:Txt} (h:SizeM d a k) (hb:b.length≤d.quota-zaC d):SizeM (zaQ d n b) a k:=
 ⟨ztP h.right hb,h.quota,by show (modF _ _ _).length≤_;rw [z1M];exact h.files,h.next,h.moves,h.okm⟩
theorem zpv {d:DiskM} {a k:Nat} {n:Txt} (h:SizeM d a k):SizeM (zcX d n) a k:=
 ⟨zyX h.right,h.quota,by show (modF _ _ _).length≤_;rw [z1M];exact h.files,h.next,h.moves,h.okm⟩
theorem zno {d:DiskM} {a k:Nat} (h:SizeM d a k):SizeM (zbs d) a 0:=
 ⟨zsf h.right,h.quota,yca (yd8 _ _) h.files,h.next,yaq _,by simp [zbs]⟩
theorem zpg {d:DiskM} {a k:Nat} {n:Txt} (h:SizeM d a k) (ho:okS n) (hh:hasK kN d.names n):SizeM (zcO d n) a (k+1):=by
 have h3:=h.moves
 refine ⟨ztO h.right ho hh,h.quota,h.files,h.next, ?_,fun m hm=> ?_⟩
 ·show (d.moves++ [_]).length≤_
  simp;omega
 ·rcases yai.1 (show m∈d.moves++ [_] from hm) with h'|h'
  ·exact h.okm m h'
  ·simp at h'
   subst h'
   have:=zsi ho
   refine ⟨?_, ?_, ?_, ?_⟩<;>simp<;>omega
theorem zvu {d:DiskM} {a k:Nat} {n t:Txt} (h:SizeM d a k) (ho:okS n) (hh:hasK kN d.names n) (hot:okS t) (hne:t≠n):SizeM (zc2 d n t) a (k+1):=by
 have h3:=h.moves
 refine ⟨zsT h.right ho hh hot hne,h.quota,h.files,h.next, ?_,fun m hm=> ?_⟩
 ·show (d.moves++ [_]).length≤_
  simp;omega
 ·rcases yai.1 (show m∈d.moves++ [_] from hm) with h'|h'
  ·exact h.okm m h'
  ·simp at h'
   subst h'
   have:=zsi ho
   have:=zsi hot
   refine ⟨?_, ?_, ?_, ?_⟩<;>simp<;>omega
theorem ze3 {d:DiskM} {n s:Txt}:hasK kN (za1 d n).names s↔s=n∨hasK kN d.names s:=by
 constructor
 ·rintro ⟨x,hx,hk⟩
  rcases zcp.1 (show x∈insK kN d.names ⟨n,d.next⟩ from hx) with rfl|hx
  ·exact .inl hk.symm
  ·exact .inr ⟨x,hx,hk⟩
 ·rintro (rfl|⟨x,hx,hk⟩)
  ·exact ⟨⟨s,d.next⟩,zcp.2 (.inl rfl),rfl⟩
  ·exact ⟨x,zcp.2 (.inr hx),hk⟩
theorem zjb {d:DiskM} {n s:Txt} (h:RightM d) (hh:hasK kN d.names n):hasK kN (zcO d n).names s↔s≠n∧hasK kN d.names s:=by
 constructor
 ·rintro ⟨x,hx,hk⟩
  obtain ⟨h1,h2⟩:=(zeJ h.names.srt hh).1 (show x∈delK kN d.names n from hx)
  exact ⟨fun e=>h2 (hk.trans e),x,h1,hk⟩
 ·rintro ⟨hne,x,hx,hk⟩
  exact ⟨x,(zeJ h.names.srt hh).2 ⟨hx,fun e=>hne (hk.symm.trans e)⟩,hk⟩
theorem zq3 {d:DiskM} {n t s:Txt} (h:RightM d) (hh:hasK kN d.names n):hasK kN (zc2 d n t).names s↔s=t∨(s≠n∧hasK kN d.names s):=by
 have hs':Srt kN (delK kN d.names n):=zfr h.names.srt
 constructor
 ·rintro ⟨x,hx,hk⟩
  rcases zcp.1 (show x∈insK kN (zfZ (delK kN d.names n) t) ⟨t,idOf d.names n⟩ from hx) with rfl|hx
  ·exact .inl hk.symm
  ·obtain ⟨h1,h2⟩:=(zol hs').1 hx
   obtain ⟨h3,h4⟩:=(zeJ h.names.srt hh).1 h1
   exact .inr ⟨fun e=>h4 (hk.trans e),x,h3,hk⟩
 ·rintro (rfl|⟨hne,x,hx,hk⟩)
  ·exact ⟨⟨s,idOf d.names n⟩,zcp.2 (.inl rfl),rfl⟩
  ·by_cases hst:s=t
   ·subst hst;exact ⟨⟨s,idOf d.names n⟩,zcp.2 (.inl rfl),rfl⟩
   ·exact ⟨x,zcp.2 (.inr ((zol hs').2 ⟨(zeJ h.names.srt hh).2 ⟨hx,fun e=>hne (hk.symm.trans e)⟩,fun e=>hst (hk.symm.trans e)⟩)),hk⟩
def zbt (d:DiskM) (l:List Txt):DiskM:=l.foldl zcO d
theorem zsS (d:DiskM) (l:List Txt) (n:Txt):zbt d (l++ [n])=zcO (zbt d l) n:=by simp [zbt]
theorem zik {a:Nat}:∀{l:List Txt} {d:DiskM} {k:Nat},SizeM d a k→l.Nodup→(∀n∈l,okS n∧hasK kN d.names n)→SizeM (zbt d l) a (k+l.length)∧∀s,hasK kN (zbt d l).names s↔s∉l∧hasK kN d.names s
 | [],d,k,h,_,_=>⟨h,fun s=>by simp [zbt]⟩
 |n::l,d,k,h,hnd,hl=>by
  have hn:=hl n (by simp)
  have hnd':=ydl.1 hnd
  have h1:=zpg h hn.1 hn.2
  obtain ⟨h2,h3⟩:=zik (l:=l) h1 hnd'.2 fun x hx=>⟨(hl x (by simp [hx])).1,(zjb h.right hn.2).2 ⟨fun e=>hnd'.1 (by rw [←e];exact hx),(hl x (by simp [hx])).2⟩⟩
  have e:zbt d (n::l)=zbt (zcO d n) l:=rfl
  rw [e]
  refine ⟨by have e2:k+(n::l).length=k+1+l.length:=by simp;omega
             rw [e2];exact h2,fun s=> ?_⟩
  rw [h3 s,zjb h.right hn.2]
  simp only [ybb,not_or]
  constructor
  ·rintro ⟨e1,e2,e3⟩;exact ⟨⟨e2,e1⟩,e3⟩
  ·rintro ⟨⟨e2,e1⟩,e3⟩;exact ⟨e1,e2,e3⟩
end Go.Proofs.YtdbhocoeolhjhaaGreatDoor
end
section
set_option maxHeartbeats 1000000
namespace Go.Proofs.YtdbhocoeolhjhaaGreatDoor
open Go.Sf Go.Num
abbrev zqs:List Txt:= [zd8,zmV,zrY]
def ztm (m:MetM) (t:Txt):Prop:=∃q kd,t=zdo m.id q kd∧1≤q∧q≤max m.base m.last∧(kd=zd8∨kd=zmV)
theorem kd3 {kd:Txt} (h:kd=zd8∨kd=zmV):kd∈zqs:=by rcases h with rfl|rfl<;>simp
structure InvS (s:ShM) (a k:Nat):Prop where
 size:SizeM s.disk a k
 srt:Srt kM s.mets
 paths:∀m∈s.mets,m.path∈P4
 next:s.next=s.mets.length+1
 ids:∀m∈s.mets,1≤m.id∧m.id<s.next
 idn:(s.mets.map MetM.id).Nodup
 lad:∀m∈s.mets,RightL m.lad
 seq:∀m∈s.mets,max m.base m.last≤a
 cnt:∀m∈s.mets,m.count≤1000
 last:∀m∈s.mets,0<m.last→hasK kN s.disk.names (zdo m.id m.last zd8)
 dir:∀t,hasK kN s.disk.names t→∃m∈s.mets,ztm m t
theorem ztZ {l:List MetM} (h:Srt kM l):(l.map MetM.path).Nodup:=by
 rw [yb1,ycm]
 exact h.imp fun hab e=>by
  have hab':MetM.path _<MetM.path _:=hab
  rw [e] at hab';exact zc8 _ hab'
theorem InvS.len {s:ShM} {a k:Nat} (h:InvS s a k):s.mets.length≤4:=by
 have:=zov (ztZ h.srt) (m:=P4) fun p hp=>by
  obtain ⟨m,hm,rfl⟩:=yav.1 hp
  exact h.paths m hm
 simpa [P4] using this
theorem InvS.len3 {s:ShM} {a k:Nat} (h:InvS s a k) {p:Txt} (hp:p∈P4) (hn:¬hasK kM s.mets p):s.mets.length≤3:=by
 have h1:(p::s.mets.map MetM.path).Nodup:=ydl.2 ⟨fun hm=>by
  obtain ⟨m,hm,he⟩:=yav.1 hm
  exact hn ⟨m,hm,he⟩,ztZ h.srt⟩
 have:=zov h1 (m:=P4) fun q hq=>by
  rcases ybb.1 hq with rfl|hq
  ·exact hp
  ·obtain ⟨m,hm,rfl⟩:=yav.1 hq
   exact h.paths m hm
 simp [P4] at this
 omega
def zkS (s:ShM) (p:Txt):MetM:=⟨s.next,p,newL,0,0,0⟩
def zaz (s:ShM) (p:Txt):MetM:=if hasK kM s.mets p then (s.mets[posK kM s.mets p]?).getD (zkS s p) else zkS s p
theorem zgo {s:ShM} {p:Txt} (h:¬hasK kM s.mets p):zaz s p=zkS s p:=by unfold zaz;rw [if_neg h]
theorem zdn {s:ShM} {p:Txt} (hs:Srt kM s.mets) (h:hasK kM s.mets p):s.mets[posK kM s.mets p]? =some (zaz s p)∧(zaz s p).path=p:=by
 obtain ⟨m,hm,hk⟩:=(zd9 hs).1 h
 have:zaz s p=m:=by unfold zaz;rw [if_pos h,hm];rfl
 rw [this];exact ⟨hm,hk⟩
structure OkMet (s:ShM) (p:Txt) (a:Nat) (m:MetM):Prop where
 path:m.path=p
 id1:1≤m.id
 id5:m.id<5
 lad:RightL m.lad
 seq:max m.base m.last≤a
 cnt:m.count≤1000
 others:∀x∈s.mets,x.path≠p→x.id≠m.id
 last:0<m.last→hasK kN s.disk.names (zdo m.id m.last zd8)
 dir:∀t,hasK kN s.disk.names t→ztm m t∨∃x∈s.mets,x.path≠p∧ztm x t
theorem InvS.id5 {s:ShM} {a k:Nat} (h:InvS s a k) {m:MetM} (hm:m∈s.mets):m.id<5:=by
 have h1:=(h.ids m hm).2
 have h2:=h.next
 have h3:=h.len
 omega
theorem zkM {α:Type} {R:α→α→Prop} {l:List α} (h:l.Pairwise R) {i j:Nat} {x y:α} (hij:i<j) (hx:l[i]? =some x) (hy:l[j]? =some y):R x y:=by
 obtain ⟨h1,rfl⟩:=yaa.1 hx
 obtain ⟨h2,rfl⟩:=yaa.1 hy
 exact ybg.1 h i j h1 h2 hij
theorem z4Y {l:List MetM} (h:(l.map MetM.id).Nodup) {x y:MetM} (hx:x∈l) (hy:y∈l) (he:x.id=y.id):x=y:=by
 rw [yb1,ycm] at h
 obtain ⟨i,hi⟩:=yb4 hx
 obtain ⟨j,hj⟩:=yb4 hy
 rcases ycv i j with hij|rfl|hij
 ·exact absurd he (zkM h hij hi hj)
 ·rw [hi] at hj;exact Option.some.inj hj
 ·exact absurd he.symm (zkM h hij hj hi)
theorem InvS.met {s:ShM} {a k:Nat} (h:InvS s a k) {p:Txt} (hp:p∈P4):OkMet s p a (zaz s p):=by
 by_cases hh:hasK kM s.mets p
 ·obtain ⟨hm,hk⟩:=zdn h.srt hh
  have hmem:=yaf hm
  refine ⟨hk,(h.ids _ hmem).1,h.id5 hmem,h.lad _ hmem,h.seq _ hmem,h.cnt _ hmem,fun x hx hne he=>hne ?_,h.last _ hmem,fun t ht=> ?_⟩
  ·have:=z4Y h.idn hx hmem he
   rw [this];exact hk
  ·obtain ⟨x,hx,hn⟩:=h.dir t ht
   by_cases hxp:x.path=p
   ·have:x=zaz s p:=zrn h.srt hx hmem (hxp.trans hk.symm)
    exact .inl (this▸hn)
   ·exact .inr ⟨x,hx,hxp,hn⟩
 ·rw [zgo hh]
  have h3:=h.len3 hp hh
  have hn:=h.next
  refine ⟨rfl,by show 1≤s.next;omega,by show s.next<5;omega,zkf,by simp [zkS],by simp [zkS],fun x hx _ he=> ?_,by simp [zkS],fun t ht=> ?_⟩
  ·have:=(h.ids x hx).2
   have he':x.id=s.next:=he
   omega
  ·obtain ⟨x,hx,hn⟩:=h.dir t ht
   exact .inr ⟨x,hx,fun e=>hh ⟨x,hx,e⟩,hn⟩
theorem OkMet.fresh {s:ShM} {p:Txt} {a:Nat} {m:MetM} {k:Nat} (h:InvS s a k) (ho:OkMet s p a m) (ha:a<69) {q:Nat} {kd:Txt} (hq:max m.base m.last<q) (hq2:q<70) (hk:kd∈zqs):¬hasK kN s.disk.names (zdo m.id q kd):=fun hh=>by
 rcases ho.dir _ hh with ⟨r,k2,he,h1,h2,h3⟩|⟨x,hx,hxp,r,k2,he,h1,h2,h3⟩
 ·have hs:=ho.seq
  have:=zfx ho.id5 ho.id5 hq2 (by omega) hk (kd3 h3) he
  omega
 ·have hs:=h.seq x hx
  have:=zfx ho.id5 (h.id5 hx) hq2 (by omega) hk (kd3 h3) he
  exact ho.others x hx hxp this.1.symm
theorem zfq {s:ShM} {m x:MetM} (hs:Srt kM s.mets):x∈(zco s m).mets↔x=m∨(x∈s.mets∧x.path≠m.path):=by
 unfold zco
 split
 ·rename_i hh
  obtain ⟨y,hy,hk⟩:=(zd9 hs).1 hh
  obtain ⟨hlt,hg⟩:=yaa.1 hy
  constructor
  ·intro hx
   obtain ⟨i,hi⟩:=yb4 (show x∈s.mets.set (posK kM s.mets m.path) m from hx)
   rw [List.getElem?_set] at hi
   split at hi
   ·rename_i he
    exact .inl (by simpa using hi.symm)
   ·rename_i hne
    refine .inr ⟨yaf hi,fun e=>hne ?_⟩
    have hxy:x=y:=zrn hs (yaf hi) (yaf hy) (e.trans hk.symm)
    rcases ycv (posK kM s.mets m.path) i with h|h|h
    ·have:=zkM hs h hy hi
     rw [hxy] at this;exact absurd this (zc8 _)
    ·exact h
    ·have:=zkM hs h hi hy
     rw [hxy] at this;exact absurd this (zc8 _)
  ·rintro (rfl|⟨hx,hne⟩)
   ·show x∈s.mets.set _ x
    rw [List.mem_iff_getElem?]
    exact ⟨posK kM s.mets x.path,by simp [hlt]⟩
   ·obtain ⟨i,hi⟩:=yb4 hx
    show x∈s.mets.set _ m
    rw [List.mem_iff_getElem?]
    refine ⟨i, ?_⟩
    rw [yba]
    ·exact hi
    ·intro e;subst e
     rw [hy] at hi
     have:=Option.some.inj hi
     subst this
     exact hne hk
 ·rename_i hh
  constructor
  ·intro hx
   rcases zcp.1 (show x∈insK kM s.mets m from hx) with h|h
   ·exact .inl h
   ·exact .inr ⟨h,fun e=>hh ⟨x,h,e⟩⟩
  ·rintro (rfl|⟨hx,_⟩)
   ·exact zcp.2 (.inl rfl)
   ·exact zcp.2 (.inr hx)
theorem zse {s:ShM} {m:MetM} (hs:Srt kM s.mets) {p:Txt}:hasK kM (zco s m).mets p↔p=m.path∨hasK kM s.mets p:=by
 constructor
 ·rintro ⟨x,hx,hk⟩
  rcases (zfq hs).1 hx with rfl|⟨h,_⟩
  ·exact .inl hk.symm
  ·exact .inr ⟨x,h,hk⟩
 ·rintro (rfl|⟨x,hx,hk⟩)
  ·exact ⟨m,(zfq hs).2 (.inl rfl),rfl⟩
  ·by_cases he:x.path=m.path
   ·exact ⟨m,(zfq hs).2 (.inl rfl),he.symm.trans hk⟩
   ·exact ⟨x,(zfq hs).2 (.inr ⟨hx,he⟩),hk⟩
theorem zst {s:ShM} {m:MetM} (hs:Srt kM s.mets):Srt kM (zco s m).mets:=by
 unfold zco
 split
 ·rename_i hh
  obtain ⟨y,hy,hk⟩:=(zd9 hs).1 hh
  obtain ⟨hlt,hg⟩:=yaa.1 hy
  show (s.mets.set (posK kM s.mets m.path) m).Pairwise _
  have h1:((s.mets.set (posK kM s.mets m.path) m).map kM)=s.mets.map kM:=by
   apply List.ext_getElem?
   intro i
   rw [yb8,yb8,List.getElem?_set]
   split
   ·rename_i e;subst e
    simp [hlt,hy,hk,hg]
   ·rfl
  have h2:(s.mets.map kM).Pairwise fun a b=>a<b:=ycm.2 hs
  rw [←h1] at h2
  exact ycm.1 h2
 ·rename_i hh
  exact zh8 hs hh
theorem z3X {s:ShM} {m:MetM}:(zco s m).mets.length=if hasK kM s.mets m.path then s.mets.length else s.mets.length+1:=by
 unfold zco
 split
 ·simp
 ·exact zjf _ _
theorem zok {s:ShM} {a k a' k':Nat} {p:Txt} (h:InvS s a k) (hp:p∈P4) (D:DiskM) (hD:SizeM D a' k') (haa:a≤a') {m:MetM} (hpath:m.path=p) (hid:m.id=(zaz s p).id) (hlad:RightL m.lad) (hseq:max m.base m.last≤a') (hcnt:m.count≤1000)
  (hlast:0<m.last→hasK kN D.names (zdo m.id m.last zd8)) (hdir:∀t,hasK kN D.names t→ztm m t∨∃x∈s.mets,x.path≠p∧ztm x t)
  (hol:∀x∈s.mets,x.path≠p→0<x.last→hasK kN D.names (zdo x.id x.last zd8)):InvS (zco {s with disk:=D} m) a' k':=by
 have ho:=h.met hp
 have hs':Srt kM ({s with disk:=D}:ShM).mets:=h.srt
 have hdisk:(zco {s with disk:=D} m).disk=D:=by unfold zco;split<;>rfl
 have hmem:∀x,x∈(zco {s with disk:=D} m).mets↔x=m∨(x∈s.mets∧x.path≠p):=fun x=>by rw [zfq hs',hpath]
 have hnext:(zco {s with disk:=D} m).next=(zco {s with disk:=D} m).mets.length+1:=by
  rw [z3X,hpath]
  have hn:=h.next
  unfold zco
  rw [hpath]
  show (if hasK kM s.mets p then _ else _:ShM).next=(if hasK kM s.mets p then s.mets.length else s.mets.length+1)+1
  by_cases hh:hasK kM s.mets p
  ·rw [if_pos hh,if_pos hh];exact hn
  ·rw [if_neg hh,if_neg hh]
   have:m.id=s.next:=by rw [hid,zgo hh];rfl
   show max s.next (m.id+1)=s.mets.length+1+1
   omega
 have hnx:s.next≤(zco {s with disk:=D} m).next:=by
  unfold zco;split
  ·exact yaq _
  ·exact Nat.le_max_left _ _
 refine ⟨by rw [hdisk];exact hD,zst hs',fun x hx=> ?_,hnext,fun x hx=> ?_, ?_,fun x hx=> ?_,fun x hx=> ?_,fun x hx=> ?_,fun x hx hl=> ?_,fun t ht=> ?_⟩
 ·rcases (hmem x).1 hx with rfl|⟨h1,_⟩
  ·rw [hpath];exact hp
  ·exact h.paths x h1
 ·rcases (hmem x).1 hx with rfl|⟨h1,_⟩
  ·refine ⟨by rw [hid];exact ho.id1, ?_⟩
   by_cases hh:hasK kM s.mets p
   ·have hm:=yaf (zdn h.srt hh).1
    have:=(h.ids _ hm).2
    rw [hid];omega
   ·unfold zco
    rw [if_neg (by rw [hpath];exact hh)]
    exact yb9 (Nat.lt_succ_self _) (Nat.le_max_right _ _)
  ·have:=h.ids x h1
   exact ⟨this.1,yb9 this.2 hnx⟩
 ·rw [yb1,ycm,ybg]
  intro i j hi hj hij he
  have hS:=zst (m:=m) hs'
  have hx:=(hmem _).1 (yat hi)
  have hy:=(hmem _).1 (yat hj)
  have hlt:=ybg.1 hS i j hi hj hij
  generalize (zco {s with disk:=D} m).mets[i]=x at*
  generalize (zco {s with disk:=D} m).mets[j]=y at*
  rcases hx with rfl|⟨h1,h1'⟩<;>rcases hy with rfl|⟨h2,h2'⟩
  ·exact zc8 _ hlt
  ·exact ho.others y h2 h2' (by rw [←he,hid])
  ·exact ho.others x h1 h1' (by rw [he,hid])
  ·have:=z4Y h.idn h1 h2 he
   subst this
   exact zc8 _ hlt
 ·rcases (hmem x).1 hx with rfl|⟨h1,_⟩
  ·exact hlad
  ·exact h.lad x h1
 ·rcases (hmem x).1 hx with rfl|⟨h1,_⟩
  ·exact hseq
  ·have:=h.seq x h1;omega
 ·rcases (hmem x).1 hx with rfl|⟨h1,_⟩
  ·exact hcnt
  ·exact h.cnt x h1
 ·rw [hdisk]
  rcases (hmem x).1 hx with rfl|⟨h1,h2⟩
  ·exact hlast hl
  ·exact hol x h1 h2 hl
 ·rw [hdisk] at ht
  rcases hdir t ht with h1|⟨x,h1,h2,h3⟩
  ·exact ⟨m,(hmem m).2 (.inl rfl),h1⟩
  ·exact ⟨x,(hmem x).2 (.inr ⟨h1,h2⟩),h3⟩
end Go.Proofs.YtdbhocoeolhjhaaGreatDoor
end
section
set_option maxHeartbeats 1000000
namespace Go.Proofs.YtdbhocoeolhjhaaGreatDoor
open Go.Sf Go.Num
def zdc (m:MetM):Txt:=zdo m.id m.last zd8
def zaH (m:MetM):Nat:=max m.base m.last+1
def newN (m:MetM):Txt:=zdo m.id (zaH m) zd8
def zbb (m:MetM):Txt:=zdo m.id (zaH m) zrY
def zby (m:MetM):Txt:=zdo m.id (zaH m) zmV
def zmw (m:MetM):Bool:=decide (m.last=0)||decide (16≤m.count)
def zaO (m:MetM) (bs:List ArrM):Txt:=if zmw m then zaL (zba m.path)++zcw bs else zcw bs
def zaR (d:DiskM) (m:MetM):DiskM:=if 0<m.last then zcX d (zdc m) else d
def znV (d:DiskM) (m:MetM) (b:Txt):DiskM:=if zmw m then zaQ (za1 (zaR d m) (newN m)) (newN m) b else zaQ d (zdc m) b
def metA (m:MetM) (bs:List ArrM):MetM:=if zmw m then {m with lad:=zcH m.lad bs,last:=zaH m,count:=bs.length} else {m with lad:=zcH m.lad bs,count:=m.count+bs.length}
def zcb (s:ShM) (m:MetM) (bs:List ArrM):ShM:=zco {s with disk:=znV s.disk m (zaO m bs)} (metA m bs)
def zhZ (d:DiskM):DiskM:=if d.moves= [] then d else zbs d
def zoG (s:ShM) (m:MetM):ShM:=zco {s with disk:=zhZ (zaR s.disk m)} m
def zg9 (d:DiskM) (m:MetM) (b:Txt):DiskM:=zbs (zc2 (zcX (zaQ (za1 (zaR d m) (zbb m)) (zbb m) b) (zbb m)) (zbb m) (zby m))
def zfd (d:DiskM) (id:Nat) (but:Txt):List Txt:=(d.names.map NameM.name).filter fun t=> !(decide (t=but)|| !Lib.hasPrefix t (Lib.decDigits id++ [46]))
def zhX (d:DiskM) (m:MetM) (b:Txt):DiskM:=zhZ (zbt (zg9 d m b) (zfd (zg9 d m b) m.id (zby m)))
def zsN (m:MetM):MetM:={m with base:=zaH m,last:=0,count:=0}
def zjw (s:ShM) (m:MetM) (b:Txt):ShM:=zco {s with disk:=zhX s.disk m b} (zsN m)
theorem ze4 {d:DiskM} {a k:Nat} (m:MetM) (h:SizeM d a k):SizeM (zaR d m) a k:=by
 unfold zaR;split
 ·exact zpv h
 ·exact h
theorem zdz (d:DiskM) (m:MetM):(zaR d m).names=d.names:=by unfold zaR;split<;>rfl
theorem zgK (d:DiskM) (m:MetM):zaC (zaR d m)=zaC d:=by
 unfold zaR;split
 ·exact zlR _ _
 ·rfl
theorem zeF (d:DiskM) (m:MetM):(zaR d m).quota=d.quota:=by unfold zaR;split<;>rfl
theorem zqO {d:DiskM} {a k:Nat} (h:SizeM d a k):SizeM (zhZ d) a 0:=by
 unfold zhZ;split
 ·rename_i h0;exact ⟨h.right,h.quota,h.files,h.next,by rw [h0];exact yaq _,h.okm⟩
 ·exact zno h
theorem zoP (d:DiskM):(zhZ d).names=d.names:=by unfold zhZ;split<;>rfl
theorem zkv (d:DiskM):(zhZ d).quota=d.quota:=by unfold zhZ;split<;>rfl
variable {s:ShM} {a k:Nat} {p:Txt}
theorem zyR (h:InvS s a k) (hp:p∈P4) (ha:a<69) {bs:List ArrM} (hb:∀x∈bs,OkA x∧OkV x) (hl:bs.length≤300) (hf:(zaO (zaz s p) bs).length≤s.disk.quota-zaC s.disk):InvS (zcb s (zaz s p) bs) (a+1) (k+1):=by
 have ho:=h.met hp
 obtain ⟨m,hm⟩:∃m,m=zaz s p:=⟨_,rfl⟩
 rw [←hm] at ho hf⊢
 have hlad:RightL (zcH m.lad bs):=zhq ho.lad hb
 have hq:=ho.seq
 have hid5:=ho.id5
 unfold zcb znV metA
 by_cases ht:zmw m=true
 ·simp only [ht,if_true]
  have hno:¬hasK kN (zaR s.disk m).names (newN m):=by
   rw [zdz]
   exact ho.fresh h ha (q:=zaH m) (by unfold zaH;omega) (by unfold zaH;omega) (by simp)
  have hS:=ze6 (ze4 m h.size) (zcL m.id hid5 (zaH m) (by unfold zaH;omega) zd8 (by simp)) hno (by omega)
  have hA:=size_append (n:=newN m) (b:=zaO m bs) hS (by rw [ze8,zgK];show _≤(zaR s.disk m).quota-_;rw [zeF];exact hf)
  have hnames:∀t,hasK kN (zaQ (za1 (zaR s.disk m) (newN m)) (newN m) (zaO m bs)).names t↔t=newN m∨hasK kN s.disk.names t:=fun t=>by
   have:=ze3 (d:=zaR s.disk m) (n:=newN m) (s:=t)
   rw [zdz] at this
   exact this
  refine zok h hp _ hA (by omega) ho.path (by rw [←hm]) hlad (by show max m.base (zaH m)≤_;unfold zaH;omega) (by show bs.length≤_;omega) (fun _=>(hnames _).2 (.inl rfl)) (fun t ht'=> ?_) (fun x hx hne hl'=>(hnames _).2 (.inr (h.last x hx hl')))
  rcases (hnames t).1 ht' with rfl|ht'
  ·exact .inl ⟨zaH m,zd8,rfl,by unfold zaH;omega,by show _≤max m.base (zaH m);omega,.inl rfl⟩
  ·rcases ho.dir t ht' with ⟨q,kd,e1,e2,e3,e4⟩|h1
   ·exact .inl ⟨q,kd,e1,e2,by show _≤max m.base (zaH m);unfold zaH;omega,e4⟩
   ·exact .inr h1
 ·simp only [ht]
  have hcnt:m.count<16∧0<m.last:=by
   unfold zmw at ht
   simp at ht
   omega
  have hA:=size_append (n:=zdc m) (b:=zaO m bs) (h.size.more (Nat.le_succ a) (Nat.le_succ k)) hf
  exact zok h hp _ hA (by omega) ho.path (by rw [←hm];rfl) hlad (by show max m.base m.last≤_;omega) (by show m.count+bs.length≤_;omega) (fun hl'=>ho.last hl') (fun t ht'=>ho.dir t ht') (fun x hx hne hl'=>h.last x hx hl')
theorem z4F (h:InvS s a k) (hp:p∈P4):InvS (zoG s (zaz s p)) a k:=by
 have ho:=h.met hp
 obtain ⟨m,hm⟩:∃m,m=zaz s p:=⟨_,rfl⟩
 rw [←hm] at ho⊢
 have hS:=zqO (ze4 m h.size)
 have hn:(zhZ (zaR s.disk m)).names=s.disk.names:=by rw [zoP,zdz]
 exact zok h hp _ (hS.more (yaq _) (ydk k)) (yaq _) ho.path (by rw [←hm]) ho.lad ho.seq ho.cnt (fun hl=>by rw [hn];exact ho.last hl) (fun t ht=>by rw [hn] at ht;exact ho.dir t ht) (fun x hx hne hl=>by rw [hn];exact h.last x hx hl)
structure Packed (s:ShM) (m:MetM) (b:Txt) (a k:Nat):Prop where
 s1:SizeM (zaR s.disk m) a k
 n1:¬hasK kN (zaR s.disk m).names (zbb m)
 o1:okS (zbb m)
 o2:okS (zby m)
 ne:zby m≠zbb m
 s2:SizeM (za1 (zaR s.disk m) (zbb m)) (a+1) (k+1)
 h2:hasK kN (za1 (zaR s.disk m) (zbb m)).names (zbb m)
 u2:b.length≤(za1 (zaR s.disk m) (zbb m)).quota-zaC (za1 (zaR s.disk m) (zbb m))
 s3:SizeM (zaQ (za1 (zaR s.disk m) (zbb m)) (zbb m) b) (a+1) (k+1)
 s4:SizeM (zcX (zaQ (za1 (zaR s.disk m) (zbb m)) (zbb m) b) (zbb m)) (a+1) (k+1)
 s5:SizeM (zc2 (zcX (zaQ (za1 (zaR s.disk m) (zbb m)) (zbb m) b) (zbb m)) (zbb m) (zby m)) (a+1) (k+2)
 s6:SizeM (zg9 s.disk m b) (a+1) 0
 nm:∀t,hasK kN (zg9 s.disk m b).names t↔t=zby m∨(t≠zbb m∧hasK kN s.disk.names t)
theorem zs2 (h:InvS s a k) (ha:a<69) {m:MetM} (ho:OkMet s p a m) {b:Txt} (hf:b.length≤s.disk.quota-zaC s.disk):Packed s m b a k:=by
 have hq:=ho.seq
 have hid5:=ho.id5
 have hn70:zaH m<70:=by unfold zaH;omega
 have hno:¬hasK kN (zaR s.disk m).names (zbb m):=by
  rw [zdz]
  exact ho.fresh h ha (q:=zaH m) (by unfold zaH;omega) hn70 (by simp)
 have o1:okS (zbb m):=zcL m.id hid5 (zaH m) hn70 zrY (by simp)
 have o2:okS (zby m):=zcL m.id hid5 (zaH m) hn70 zmV (by simp)
 have ne:zby m≠zbb m:=fun e=>by
  have:=(zfx hid5 hid5 hn70 hn70 (by simp) (by simp) e).2.2
  exact absurd this (by decide)
 have s1:=ze4 m h.size
 have s2:=ze6 s1 o1 hno (by omega)
 have h2:hasK kN (za1 (zaR s.disk m) (zbb m)).names (zbb m):=ze3.2 (.inl rfl)
 have u2:b.length≤(za1 (zaR s.disk m) (zbb m)).quota-zaC (za1 (zaR s.disk m) (zbb m)):=by
  rw [ze8,zgK];show _≤(zaR s.disk m).quota-_;rw [zeF];exact hf
 have s3:=size_append (n:=zbb m) s2 u2
 have s4:=zpv (n:=zbb m) s3
 have s5:=zvu (n:=zbb m) (t:=zby m) s4 o1 h2 o2 ne
 refine ⟨s1,hno,o1,o2,ne,s2,h2,u2,s3,s4,s5,zno s5,fun t=> ?_⟩
 have h5:=zq3 (d:=zcX (zaQ (za1 (zaR s.disk m) (zbb m)) (zbb m) b) (zbb m)) (n:=zbb m) (t:=zby m) (s:=t) s4.right h2
 have h6:hasK kN (zcX (zaQ (za1 (zaR s.disk m) (zbb m)) (zbb m) b) (zbb m)).names t↔t=zbb m∨hasK kN s.disk.names t:=by
  have:=ze3 (d:=zaR s.disk m) (n:=zbb m) (s:=t)
  rw [zdz] at this
  exact this
 rw [h6] at h5
 refine h5.trans ⟨?_, ?_⟩
 ·rintro (h|⟨h1,h|h⟩)
  ·exact .inl h
  ·exact absurd h h1
  ·exact .inr ⟨h1,h⟩
 ·rintro (h|⟨h1,h⟩)
  ·exact .inl h
  ·exact .inr ⟨h1,.inr h⟩
theorem zq9 {d:DiskM} {id:Nat} {but t:Txt}:t∈zfd d id but↔hasK kN d.names t∧t≠but∧Lib.hasPrefix t (Lib.decDigits id++ [46])=true:=by
 simp only [zfd,ybn,yav,hasK]
 simp
theorem zvT {d:DiskM} (h:RightM d) (id:Nat) (but:Txt):(zfd d id but).Nodup:=by
 have h0:(d.names.map NameM.name).Nodup:=by
  rw [yb1,ycm]
  exact h.names.srt.imp fun hab e=>by
   have hab':NameM.name _<NameM.name _:=hab
   rw [e] at hab';exact zc8 _ hab'
 exact h0.sublist List.filter_sublist
structure Comp (s:ShM) (m:MetM) (b:Txt) (a k:Nat):Prop where
 fok:∀n∈zfd (zg9 s.disk m b) m.id (zby m),okS n∧hasK kN (zg9 s.disk m b).names n
 fnd:(zfd (zg9 s.disk m b) m.id (zby m)).Nodup
 flen:(zfd (zg9 s.disk m b) m.id (zby m)).length≤a+1
 s7:SizeM (zbt (zg9 s.disk m b) (zfd (zg9 s.disk m b) m.id (zby m))) (a+1) (a+1)
 s8:SizeM (zhX s.disk m b) (a+1) 0
 nm:∀t,hasK kN (zhX s.disk m b).names t↔t=zby m∨(hasK kN s.disk.names t∧∃x∈s.mets,x.path≠m.path∧ztm x t)
theorem comp (h:InvS s a k) (ha:a<69) {m:MetM} (ho:OkMet s p a m) {b:Txt} (hP:Packed s m b a k):Comp s m b a k:=by
 have hq:=ho.seq
 have hid5:=ho.id5
 have hn70:zaH m<70:=by unfold zaH;omega
 have hpath:=ho.path
 have hnamed:∀t,hasK kN (zg9 s.disk m b).names t→t=zby m∨(t≠zbb m∧(ztm m t∨∃x∈s.mets,x.path≠p∧ztm x t)∧hasK kN s.disk.names t):=fun t ht=>by
  rcases (hP.nm t).1 ht with h1|⟨h1,h2⟩
  ·exact .inl h1
  ·exact .inr ⟨h1,ho.dir t h2,h2⟩
 have hnq:∀{x:MetM} {q:Nat},x∈s.mets→q≤max x.base x.last→q<70:=fun {x q} hx hq'=>by have:=h.seq x hx;omega
 have fok:∀n∈zfd (zg9 s.disk m b) m.id (zby m),okS n∧hasK kN (zg9 s.disk m b).names n:=fun n hn=>by
  obtain ⟨h1,h2,_⟩:=zq9.1 hn
  refine ⟨?_,h1⟩
  rcases hnamed n h1 with h3|⟨_,⟨q,kd,e1,e2,e3,e4⟩|⟨x,hx,hxp,q,kd,e1,e2,e3,e4⟩,_⟩
  ·exact absurd h3 h2
  ·rw [e1];exact zcL _ hid5 q (by omega) _ (kd3 e4)
  ·rw [e1];exact zcL _ (h.id5 hx) q (hnq hx e3) _ (kd3 e4)
 have fnd:=zvT hP.s6.right m.id (zby m)
 have flen:(zfd (zg9 s.disk m b) m.id (zby m)).length≤a+1:=by
  have h1:=zn2 hP.s6.right
  have h2:=hP.s6.files
  have h3:(zfd (zg9 s.disk m b) m.id (zby m)).length≤((zg9 s.disk m b).names.map NameM.name).length:=yd8 _ _
  rw [yc0] at h3
  omega
 obtain ⟨h7,h8⟩:=zik hP.s6 fnd fok
 have s7:=h7.more (a':=a+1) (k':=a+1) (yaq _) (by omega)
 refine ⟨fok,fnd,flen,s7,zqO s7,fun t=> ?_⟩
 unfold zhX
 rw [zoP,h8 t,zq9]
 constructor
 ·rintro ⟨h1,h2⟩
  rcases hnamed t h2 with h3|⟨h3,⟨q,kd,e1,e2,e3,e4⟩|h4,h5⟩
  ·exact .inl h3
  ·by_cases hw:t=zby m
   ·exact .inl hw
   ·refine absurd ⟨h2,hw, ?_⟩ h1
    rw [e1,zqH _ hid5 q (by omega) kd (kd3 e4) _ hid5]
    simp
  ·rw [hpath];exact .inr ⟨h5,h4⟩
 ·rintro (rfl|⟨h1,x,hx,hxp,q,kd,e1,e2,e3,e4⟩)
  ·exact ⟨fun h=>h.2.1 rfl,(hP.nm _).2 (.inl rfl)⟩
  ·rw [hpath] at hxp
   have hne:=ho.others x hx hxp
   have hx5:=h.id5 hx
   have hq70:=hnq hx e3
   refine ⟨fun hh=> ?_,(hP.nm t).2 (.inr ⟨fun e=> ?_,h1⟩)⟩
   ·have:=hh.2.2
    rw [e1,zqH _ hx5 q hq70 kd (kd3 e4) _ hid5] at this
    exact hne (by simpa using this)
   ·rw [e1] at e
    exact hne (zfx hx5 hid5 hq70 hn70 (kd3 e4) (by simp) e).1
theorem zw4 (h:InvS s a k) (hp:p∈P4) (ha:a<69) {b:Txt} (hf:b.length≤s.disk.quota-zaC s.disk):InvS (zjw s (zaz s p) b) (a+1) k:=by
 have ho:=h.met hp
 obtain ⟨m,hm⟩:∃m,m=zaz s p:=⟨_,rfl⟩
 rw [←hm] at ho⊢
 have hP:=zs2 h ha ho hf
 have hC:=comp h ha ho hP
 have hq:=ho.seq
 have hpath:=ho.path
 refine zok h hp _ (hC.s8.more (yaq _) (ydk k)) (by omega) ho.path (by rw [←hm];rfl) ho.lad (by show max (zaH m) 0≤_;unfold zaH;omega) (by show 0≤_;omega) (fun hl=>absurd hl (by show¬0<0;omega)) (fun t ht=> ?_) (fun x hx hne hl=> ?_)
 ·rcases (hC.nm t).1 ht with rfl|⟨_,h2⟩
  ·exact .inl ⟨zaH m,zmV,rfl,by unfold zaH;omega,by show _≤max (zaH m) 0;omega,.inr rfl⟩
  ·rw [hpath] at h2;exact .inr h2
 ·refine (hC.nm _).2 (.inr ⟨h.last x hx hl,x,hx,by rw [hpath];exact hne,x.last,zd8,rfl,hl,by omega,.inl rfl⟩)
end Go.Proofs.YtdbhocoeolhjhaaGreatDoor
end
section
namespace Go.Glob
def nb (c:UInt8):Bool:=(97≤c&&c≤122)||(65≤c&&c≤90)||(48≤c&&c≤57)|| [95,45,58,37,35,64,43,61].contains c
def rng:List UInt8→Option (UInt8×List UInt8)
 |d::h::s=>if d=45∧nb h=true then some (h,s) else none
 |_=>none
def cls:Nat→Bool→List UInt8→Option (List (UInt8×UInt8)×List UInt8)
 |0,_,_=>none
 |_+1,_,[]=>none
 |n+1,ne,c::s=>
  if c=93∧ne=true then some ([],s)
  else if nb c=false then none
  else match rng s with
   |some (h,s')=>if h<c then none else (cls n true s').map fun x=>((c,h)::x.1,x.2)
   |none=>(cls n true s).map fun x=>((c,c)::x.1,x.2)
inductive Pc where
 |lit (c:UInt8)
 |q
 |star
 |cls (rs:List (UInt8×UInt8)) (text:List UInt8)
 |br (as_:List (List Pc))
def stop (c:UInt8):Bool:=c=44||c=125
mutual
def cnt:Nat→List Pc→Nat
 |n,[]=>n
 |n,.br as_::l=>cnt (min 65 (n*cntA 0 as_)) l
 |n,.lit _::l=>cnt n l
 |n,.q::l=>cnt n l
 |n,.star::l=>cnt n l
 |n,.cls _ _::l=>cnt n l
def cntA:Nat→List (List Pc)→Nat
 |n,[]=>n
 |n,a::as_=>cntA (min 65 (n+cnt 1 a)) as_
end
def Pc.text:Pc→List UInt8
 | .lit c=> [c]
 | .q=> [63]
 | .star=> [42]
 | .cls _ t=>t
 | .br _=> []
def z1t (l:List Pc):List UInt8:=l.flatMap Pc.text
def Pc.one:Pc→UInt8→Bool
 | .q,_=>true
 | .lit l,c=>decide (l=c)
 | .cls rs _,c=>rs.any fun r=>r.1≤c&&c≤r.2
 | .star,_=>false
 | .br _,_=>false
def tls {α:Type}:List α→List (List α)
 | []=> [[]]
 |a::s=>(a::s)::tls s
def mt:List Pc→List UInt8→Bool
 | [],s=>s.isEmpty
 | .star::l,s=>(tls s).any (mt l)
 | .lit _::_,[]=>false
 | .q::_,[]=>false
 | .cls _ _::_,[]=>false
 | .br _::_,[]=>false
 | .lit p::l,c::s=>(Pc.lit p).one c&&mt l s
 | .q::l,c::s=>Pc.q.one c&&mt l s
 | .cls r t::l,c::s=>(Pc.cls r t).one c&&mt l s
 | .br a::l,c::s=>(Pc.br a).one c&&mt l s
end Go.Glob
end
section
namespace Go.Glob
mutual
def okL:List Pc→Prop
 | []=>True
 | .lit c::l=>nb c=true∧okL l
 | .q::l=>okL l
 | .star::l=>okL l
 | .cls rs t::l=>(∃b,t=91::b∧∀m x,b.length<m→cls m false (b++x)=some (rs,x))∧okL l
 | .br as_::l=>okA as_∧okL l
def okA:List (List Pc)→Prop
 | []=>True
 |a::as_=>okL a∧okA as_
end
def flat:List Pc→Prop
 | []=>True
 | .br _::_=>False
 | .lit _::l=>flat l
 | .q::l=>flat l
 | .star::l=>flat l
 | .cls _ _::l=>flat l
theorem zfQ:∀{l m:List Pc},flat l→flat m→flat (l++m)
 | [],_,_,h=>h
 | .br _::_,_,h,_=>h.elim
 | .lit _::l,m,h,h'=>zfQ (l:=l) (m:=m) h h'
 | .q::l,m,h,h'=>zfQ (l:=l) (m:=m) h h'
 | .star::l,m,h,h'=>zfQ (l:=l) (m:=m) h h'
 | .cls _ _::l,m,h,h'=>zfQ (l:=l) (m:=m) h h'
theorem zfz:∀{l m:List Pc},okL l→okL m→okL (l++m)
 | [],_,_,h=>h
 | .br _::l,m,h,h'=>by simp only [ybv,okL] at h⊢;exact ⟨h.1,zfz h.2 h'⟩
 | .lit _::l,m,h,h'=>by simp only [ybv,okL] at h⊢;exact ⟨h.1,zfz h.2 h'⟩
 | .q::l,m,h,h'=>by simp only [ybv,okL] at h⊢;exact zfz h h'
 | .star::l,m,h,h'=>by simp only [ybv,okL] at h⊢;exact zfz h h'
 | .cls _ _::l,m,h,h'=>by simp only [ybv,okL] at h⊢;exact ⟨h.1,zfz h.2 h'⟩
theorem zs5 (l m:List Pc):z1t (l++m)=z1t l++z1t m:=by simp [z1t]
def Good (n:Nat) (l:List Pc):Prop:=flat l∧okL l∧(z1t l).length≤n
theorem Good.app {a b:Nat} {l m:List Pc} (h:Good a l) (h':Good b m):Good (a+b) (l++m):=
 ⟨zfQ h.1 h'.1,zfz h.2.1 h'.2.1,by rw [zs5,yag];exact Nat.add_le_add h.2.2 h'.2.2⟩
theorem Good.le {a b:Nat} {l:List Pc} (h:Good a l) (hab:a≤b):Good b l:=⟨h.1,h.2.1,yca h.2.2 hab⟩
theorem z6y (l:List Pc) (s:List UInt8):mt (.star::l) s=(mt l s||match s with| []=>false|_::s'=>mt (.star::l) s'):=by
 cases s<;>simp [mt,tls]
theorem zsx {p:Pc} (hp:p≠ .star) (l:List Pc) (c:UInt8) (s:List UInt8):mt (p::l) (c::s)=(p.one c&&mt l s):=by
 cases p<;>first|exact absurd rfl hp|rfl
theorem ztg {p:Pc} (hp:p≠ .star) (l:List Pc):mt (p::l) []=false:=by
 cases p<;>first|exact absurd rfl hp|rfl
def zxe (l:List Pc):Prop:=∀p∈l,p≠ .star
theorem z0R:∀(M R:List Pc) (s:List UInt8),zxe M→mt (M++R) s=true→M.length≤s.length∧mt R (s.drop M.length)=true
 | [],R,s,_,h=>by simpa using h
 |p::M,R,[],hM,h=>by
  rw [ybv,ztg (hM p (by simp))] at h
  cases h
 |p::M,R,c::s,hM,h=>by
  rw [ybv,zsx (hM p (by simp)),yb3] at h
  have:=z0R M R s (fun x hx=>hM x (by simp [hx])) h.2
  exact ⟨by simp;omega,by simpa using this.2⟩
structure Fit (l:List Pc) (name:List UInt8) (at_ k:Nat) (back:Option Nat) (from_:Nat):Prop where
 hat:at_≤l.length
 hk:k≤name.length
 hfk:from_≤k
 f0:back=none→mt l name=mt (l.drop at_) (name.drop k)
 f1:∀b,back=some b→b<at_∧l[b]? =some .star∧k-from_=at_-b-1∧zxe ((l.take at_).drop (b+1))∧
  mt l name=(mt (l.drop at_) (name.drop k)||(decide (from_<name.length)&&mt (l.drop b) (name.drop (from_+1))))
theorem zgL {α:Type} {l:List α} {i:Nat} {a:α} (h:l[i]? =some a):l.drop i=a::l.drop (i+1):=by
 obtain ⟨hlt,rfl⟩:=yaa.1 h
 exact ybw hlt
theorem Fit.step {l:List Pc} {name:List UInt8} {at_ k:Nat} {back:Option Nat} {from_:Nat} {p:Pc} {c:UInt8} (h:Fit l name at_ k back from_) (hp:l[at_]? =some p) (hs:p≠ .star) (hc:name[k]? =some c) (ho:p.one c=true):
  Fit l name (at_+1) (k+1) back from_:=by
 have h1:=(yaa.1 hp).1
 have h2:=(yaa.1 hc).1
 have e:mt (l.drop at_) (name.drop k)=mt (l.drop (at_+1)) (name.drop (k+1)):=by
  rw [zgL hp,zgL hc,zsx hs,ho,Bool.true_and]
 refine ⟨by omega,by omega,by have:=h.hfk;omega,fun hn=>by rw [←e];exact h.f0 hn,fun b hb=> ?_⟩
 obtain ⟨g1,g2,g3,g4,g5⟩:=h.f1 b hb
 refine ⟨by omega,g2,by have:=h.hfk;omega,fun x hq=> ?_,by rw [←e];exact g5⟩
 have:l.take (at_+1)=l.take at_++ [p]:=by rw [yax,hp];rfl
 rw [this,yd3 (by simp;omega)] at hq
 rcases yai.1 hq with hq|hq
 ·exact g4 x hq
 ·simp only [ybh] at hq;subst hq;exact hs
def Stuck (l:List Pc) (name:List UInt8) (at_ k:Nat):Prop:=∃c,name[k]? =some c∧(l[at_]? =none∨∃p,l[at_]? =some p∧p≠ .star∧p.one c=false)
theorem Stuck.mt {l:List Pc} {name:List UInt8} {at_ k:Nat} (h:Stuck l name at_ k):Glob.mt (l.drop at_) (name.drop k)=false:=by
 obtain ⟨c,hc,h⟩:=h
 rw [zgL hc]
 rcases h with h|⟨p,hp,hs,ho⟩
 ·rw [yc9 (List.getElem?_eq_none_iff.1 h)];rfl
 ·rw [zgL hp,zsx hs,ho,Bool.false_and]
theorem Fit.back {l:List Pc} {name:List UInt8} {at_ k:Nat} {b from_:Nat} (h:Fit l name at_ k (some b) from_) (hs:Stuck l name at_ k):Fit l name (b+1) (from_+1) (some b) (from_+1):=by
 obtain ⟨g1,g2,g3,g4,g5⟩:=h.f1 b rfl
 have hk:k<name.length:=by obtain ⟨c,hc,_⟩:=hs;exact (yaa.1 hc).1
 have hfk:=h.hfk
 have hat:=h.hat
 refine ⟨by omega,by omega,yaq _,nofun,fun b' hb'=> ?_⟩
 cases hb'
 refine ⟨by omega,g2,by omega,fun p hp=> ?_, ?_⟩
 ·rw [yc9 (by rw [yan];exact Nat.min_le_left _ _)] at hp;cases hp
 ·rw [g5,hs.mt,Bool.false_or]
  have hfr:decide (from_<name.length)=true:=by simp;omega
  rw [hfr,Bool.true_and,zgL g2,z6y]
  congr 1
  by_cases hf:from_+1<name.length
  ·rw [ybw hf];simp [hf]
  ·rw [yc9 (by omega)];simp [hf]
theorem Fit.done {l:List Pc} {name:List UInt8} {at_ from_:Nat} {back:Option Nat} (h:Fit l name at_ name.length back from_):mt l name=mt (l.drop at_) []:=by
 have e0:name.drop name.length= []:=yc9 (yaq _)
 cases hb:back with
 |none=>rw [h.f0 hb,e0]
 |some b=>
  obtain ⟨g1,g2,g3,g4,g5⟩:=h.f1 b hb
  rw [g5,e0]
  cases hy:(decide (from_<name.length)&&mt (l.drop b) (name.drop (from_+1))) with
  |false=>rw [Bool.or_false]
  |true=>
   exfalso
   simp only [yb3,decide_eq_true_eq] at hy
   obtain ⟨hfr,hy⟩:=hy
   rw [zgL g2] at hy
   simp only [mt,List.any_eq_true] at hy
   obtain ⟨t,ht,hy⟩:=hy
   have htl:t.length≤(name.drop (from_+1)).length:=by
    clear hy
    generalize name.drop (from_+1)=s at ht
    induction s with
    |nil=>simp [tls] at ht;simp [ht]
    |cons c s ih=>
     simp only [tls,ybb] at ht
     rcases ht with rfl|ht
     ·simp
     ·have:=ih ht;simp;omega
   have es:l.drop (b+1)=(l.take at_).drop (b+1)++l.drop at_:=by
    have:l.drop (b+1)=((l.take at_)++l.drop at_).drop (b+1):=by rw [ya9]
    rw [this,yd3 (by have:=h.hat;simp;omega)]
   rw [es] at hy
   obtain ⟨m1,m2⟩:=z0R _ _ _ g4 hy
   have hat:=h.hat
   simp at m1 htl
   omega
end Go.Glob
end
section
namespace Go.Proofs.YtdbhocoeolhjhaaGreatDoor
open Go.Abs Go.Glob
variable {G:Globs}
theorem ztz (s:List UInt8) (c:UInt8):PCalls Tryz.prog 319 [.str s,.int .u8 c.toNat] (fun r=>r=.int .i64 (Lib.indexByte s c)):=by
 intro base κ Im w vs hs hv
 obtain ⟨v0,v1,rfl⟩:∃v0 v1,vs= [v0,v1]:=by
  match vs,hv.1 with
  | [a,b],_=>exact ⟨a,b,rfl⟩
 have e0:=(hv.2 0 (by simp) (by simp)).str_inv
 have e1:=(hv.2 1 (by simp) (by simp)).int_inv
 simp only [ycn,ydo] at e0 e1
 subst e0;subst e1
 refine (Tryz.strings_IndexByte ⟨s.toArray⟩ c.toNat w).mono ?_
 rintro e w' ⟨rfl,rfl⟩
 exact ⟨_,[],_,κ,Im,rfl,⟨rfl,rfl⟩,hs,Grow.refl _ _ _ _,.im _ _ (by simpa using IR.int (Im:=Im) (w:=w') .i64 (Lib.indexByte s c))⟩
theorem z34 (c:UInt8):nb c=((97≤c&&c≤122)||(65≤c&&c≤90)||(48≤c&&c≤57)||decide (0≤Lib.indexByte [95,45,58,37,35,64,43,61] c)):=by
 unfold nb
 rw [Lib.contains_iff_indexByte]
theorem z5N (c:UInt8):PCalls Tryz.prog zuJ [.int .u8 c.toNat] (fun r=>r=.bool (nb c)):=by
 refine zaa hmix zvr rfl ?_
 simp [zoI]
 repeat' (first
  |(refine z8Y (fun _=> ?_) (fun _=> ?_))
  |(refine zax (fun _=> ?_) (fun _=> ?_))
  |(refine zad (ztz _ _) (by simp) ?_;rintro r rfl)
  |simp [*])
 all_goals (simp [z34,UInt8.le_iff_toNat_le];omega)
def zaW (l:List (List UInt8)):List (List AV):=l.map fun s=> [.str s]
end Go.Proofs.YtdbhocoeolhjhaaGreatDoor
end
section
namespace Go.Trail
open Go.Glob
def sp:List UInt8→List (List UInt8)
 | []=> [[]]
 |c::s=>if c=46 then []::sp s else match sp s with
  |p::ps=>(c::p)::ps
  | []=> [[c]]
def cutN:Nat→List UInt8→List (List UInt8)
 |0,s=> [s]
 |n+1,s=>if Lib.indexByte s 46= -1 then [s] else s.take (Lib.indexByte s 46).toNat::cutN n (s.drop ((Lib.indexByte s 46).toNat+1))
theorem z7w (s:List UInt8):sp s≠ []:=by
 cases s with
 |nil=>simp [sp]
 |cons c s=>
  simp only [sp]
  split
  ·simp
  ·split<;>simp
theorem z1R {c:UInt8} (h:c≠46) (s:List UInt8):∃p ps,sp s=p::ps∧sp (c::s)=(c::p)::ps:=by
 cases hs:sp s with
 |nil=>exact absurd hs (z7w s)
 |cons p ps=>exact ⟨p,ps,rfl,by simp [sp,h,hs]⟩
theorem zlC:∀(s:List UInt8),(Lib.indexByte s 46= -1∧sp s= [s])∨(∃m:Nat,Lib.indexByte s 46=m∧m<s.length∧sp s=s.take m::sp (s.drop (m+1)))
 | []=> .inl ⟨rfl,rfl⟩
 |c::s=>by
  by_cases hc:c=46
  ·subst hc
   exact .inr ⟨0,by simp [Lib.indexByte],by simp,by simp [sp]⟩
  ·obtain ⟨p,ps,h1,h2⟩:=z1R hc s
   have hb:(c==46)=false:=by simpa using hc
   rcases zlC s with ⟨g1,g2⟩|⟨m,g1,g2,g3⟩
   ·refine .inl ⟨by simp [Lib.indexByte,hb,g1], ?_⟩
    rw [h1] at g2
    simp only [yc8] at g2
    rw [h2,g2.1,g2.2]
   ·refine .inr ⟨m+1, ?_,by simp;omega, ?_⟩
    ·simp only [Lib.indexByte,hb,g1]
     have:¬((m:Int)== -1)=true:=by simp
     rw [if_neg this];simp
    ·rw [h1] at g3
     simp only [yc8] at g3
     rw [h2,g3.1,g3.2];simp
theorem zv1:∀(n:Nat) (s:List UInt8),(sp s).length≤n+1→cutN n s=sp s
 |0,s,h=>by
  rcases zlC s with ⟨_,g⟩|⟨m,_,_,g⟩
  ·simp [cutN,g]
  ·rw [g] at h
   have:=yda.2 (z7w (s.drop (m+1)))
   rw [ybf] at h;omega
 |n+1,s,h=>by
  rcases zlC s with ⟨g1,g⟩|⟨m,g1,_,g⟩
  ·simp [cutN,g,g1]
  ·rw [g] at h
   have hne:¬((m:Int)= -1):=by omega
   simp only [cutN,g1,if_neg hne,g]
   rw [show ((m:Int)).toNat=m from rfl,zv1 n _ (by simpa using h)]
theorem zub:∀(n:Nat) (s:List UInt8),n+1≤(sp s).length→(cutN n s).length=n+1
 |0,s,h=>rfl
 |n+1,s,h=>by
  rcases zlC s with ⟨g1,g⟩|⟨m,g1,_,g⟩
  ·rw [g] at h;simp at h
  ·rw [g] at h
   have hne:¬((m:Int)= -1):=by omega
   simp only [cutN,g1,if_neg hne]
   rw [ybf,show ((m:Int)).toNat=m from rfl,zub n _ (by simpa using h)]
def zwh (s:List UInt8):Bool:=decide (s.length≤32)&&(s.all nb&& !s.isEmpty)
def path (s:List UInt8):Option (List (List UInt8)):=if (sp s).length≤8∧(sp s).all zwh=true then some (sp s) else none
end Go.Trail
end
