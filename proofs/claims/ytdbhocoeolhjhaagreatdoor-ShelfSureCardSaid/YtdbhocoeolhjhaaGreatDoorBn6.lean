/- Shelf, plain: metrics, names of files, a shelf and its invariant. Shelf: the small functions of the shelf. Shelf: the worker's operations. Shelf, plai -/
import Derived.WalkKit
import Derived.Test.YtdbhocoeolhjhaaGreatDoorCode
import Derived.Test.YtdbhocoeolhjhaaGreatDoorShelf
import Derived.Test.YtdbhocoeolhjhaaGreatDoorAbs2
import Derived.Lib.IndexAny
import Derived.Lib.Bytealg
import Derived.Test.YtdbhocoeolhjhaaGreatDoorBn1
import Derived.Test.YtdbhocoeolhjhaaGreatDoorBn2
import Derived.Test.YtdbhocoeolhjhaaGreatDoorBn3
import Derived.Test.YtdbhocoeolhjhaaGreatDoorBn4
import Derived.Test.YtdbhocoeolhjhaaGreatDoorBn5
set_option linter.unusedSimpArgs false
set_option linter.unusedVariables false
set_option linter.constructorNameAsVariable false
section
set_option maxHeartbeats 1000000
namespace Go.Sf
open Go.Abs Go.Num
structure MetM where
 id:Nat
 path:Txt
 lad:LadM
 base:Nat
 last:Nat
 count:Nat
structure ShM where
 disk:DiskM
 mets:List MetM
 next:Nat
abbrev kM:MetM->Txt:=MetM.path
def metC (m:MetM):List AV:= [.int .i64 m.id,.str m.path,.lst rungsC,.int .i64 1,.int .i64 500000,.int .i64 1,.int .i64 500000,.lst (zan m.lad),.int .i64 m.base,.int .i64 m.last,.int .i64 m.count]
def zc0 (l:List MetM):List (List AV):=l.map metC
def shC (s:ShM):List AV:= [.int .i64 s.disk.quota,.lst (za2 s.disk.files),.lst (zao s.disk.names),.lst (zao s.disk.kept),.lst (zbv s.disk.moves),.int .i64 s.disk.next,.lst (zc0 s.mets),.int .i64 s.next,.int .i64 (-1),.bool false]
theorem zb9 (l:List MetM):(zc0 l).length=l.length:=by simp[zc0]
theorem zhw {l:List MetM}{i:Nat}{m:MetM}(h:l[i]? =some m):(zc0 l)[i]? =some (metC m):=by simp[zc0,h]
theorem z33 {l:List MetM}{i:Nat}{c:List AV}(h:(zc0 l)[i]? =some c):∃m,l[i]? =some m/\c=metC m:=by
 simp only[zc0,yb8,yaf]at h
 obtain⟨m,a,b⟩:=h
 exact⟨m,a,b.symm⟩
theorem zmy (l:List MetM):Els 11 (zc0 l):=by
 refine⟨λc a=> ?_,λc a=> ?_,λc a=> ?_⟩<;>obtain⟨n,_,rfl⟩:=yav.1 a<;>simp[metC,AV.pure,AV.one]
theorem zs0 (σ:zab)(m k:Nat)(l:List MetM):((zc0 l).mapM λ(c:List AV)=>c.mapM (fz σ m k))=some (zc0 l):=zeb (zmy l).2.1 (λc a=>by obtain⟨n,_,rfl⟩:=yav.1 a;simp[metC])
theorem z3E (l:List MetM)(x:MetM):(zc0 l).take (posK kM l x.path)++metC x::(zc0 l).drop (posK kM l x.path)=zc0 (insK kM l x):=by
 simp[zc0,insK]
def zbB (s:ShM)(m:MetM):ShM:=if hasK kM s.mets m.path then{s with mets:=s.mets.set (posK kM s.mets m.path) m}else{s with mets:=insK kM s.mets m,next:=max s.next (m.id+1)}
def kindP:Txt:= [46,112]
def kindC:Txt:= [46,99]
def ztw:Txt:= [46,116]
def zaD (id seq:Nat)(kind:Txt):Txt:=Lib.decDigits id++ [46]++Lib.decDigits seq++kind
def P4:List Txt:= [[97],[98],[97,46,99],[100,46,101,46,102]]
def numT (s:Txt):Nat:=s.foldl (λn b=>n*10+(b.toNat-48)) 0
def z9X (s:Txt):Nat×Nat×Txt:=
 let a:=s.takeWhile (· ≠46)
 let r:=(s.dropWhile (· ≠46)).drop 1
 (numT a,numT (r.takeWhile (· ≠46)),r.dropWhile (· ≠46))
theorem ztL:∀id<5,∀q<70,∀k∈ [kindP,kindC,ztw],z9X (zaD id q k)=(id,q,k):=by decide+kernel
theorem zbo {i j q r:Nat}{k l:Txt}(hi:i<5)(hj:j<5)(hq:q<70)(hr:r<70)(hk:k∈ [kindP,kindC,ztw])(hl:l∈ [kindP,kindC,ztw])(h:zaD i q k=zaD j r l):i=j/\q=r/\k=l:=by
 have a:=ztL i hi q hq k hk
 have b:=ztL j hj r hr l hl
 rw[h,b]at a
 simpa[eq_comm]using a
theorem zcY:∀id<5,∀q<70,∀k∈ [kindP,kindC,ztw],okS (zaD id q k):=by decide+kernel
theorem zrO:∀id<5,∀q<70,∀k∈ [kindP,kindC,ztw],∀j<5,Lib.hasPrefix (zaD id q k) (Lib.decDigits j++ [46])=decide (id=j):=by decide+kernel
end Go.Sf
end
section
set_option maxHeartbeats 4000000
namespace Go.Sf
def zAm:List Abs.AV:= [.int .i64 0,.str [],.lst [],.int .i64 0,.int .i64 0,.int .i64 0,.int .i64 0,.lst [],.int .i64 0,.int .i64 0,.int .i64 0]
end Go.Sf
namespace Go.Proofs.YtdbhocoeolhjhaaGreatDoor
open Go.Abs Go.RowKit Go.Sf Go.Num
variable {G:Globs}
theorem zxI (m:MetM):PCalls Tryz.prog ztB [.agg (metC m)] (λr=>r=.agg (zbS m.path)):=by
 refine zaa hmix zv8 rfl ?_
 simp[znI,metC,zbS,splice]
theorem zt5:∀i<100,(Lib.decDigits i).length≤2:=by decide+kernel
theorem zj3 (i q:Nat)(k:Txt)(hi:i<100)(hq:q<100)(hk:k.length≤1000):PCalls Tryz.prog zdd [.int .i64 i,.int .i64 q,.str k] (λr=>r=.str (zaD i q k)):=by
 refine zaa hmix zup rfl ?_
 have g:=zt5 i hi
 have h:=zt5 q hq
 have b:(Lib.decDigits i).length≤9223372036854775806:=by omega
 have c:(Lib.decDigits i).length+(1+(Lib.decDigits q).length)≤9223372036854775807:=by omega
 have a:(Lib.decDigits i).length+((Lib.decDigits q).length+1)≤9223372036854775807:=by omega
 have d:(Lib.decDigits i).length+1+(Lib.decDigits q).length≤9223372036854775807:=by omega
 have e:(Lib.decDigits i).length+((Lib.decDigits q).length+1)+k.length≤9223372036854775807:=by omega
 have f:(Lib.decDigits i).length+((Lib.decDigits q).length+k.length+1)≤9223372036854775807:=by omega
 simp[zn7]
 refine zac (zwJ i hi) (by simp) ?_
 rintro r rfl
 simp[b]
 refine zac (zwJ q hq) (by simp) ?_
 rintro r rfl
 simp[c,a,f,d,e,zaD]
theorem zz5 (m:MetM)(s:Txt):PCalls Tryz.prog ziT [.agg (metC m),.str s] (λr=>r=.int .i64 (Lib.compareBytes m.path s)):=by
 refine zaa hmix zqw rfl ?_
 simp[ziS,metC]
 refine zac (zsj _ _) (by simp) ?_
 rintro r rfl
 simp
theorem zlH (s:ShM)(p:Txt)(hs:Srt kM s.mets)(hl:s.mets.length≤1000000):PCalls Tryz.prog zsD [.agg (shC s),.str p] (λr=>r=.tup [.int .i64 (posK kM s.mets p),.bool (decide (hasK kM s.mets p))]):=by
 refine zaa hmix zst rfl ?_
 simp[zln,shC]
 have t:=zk8 (key:=kM) s.mets p
 have u:=bsMt (G:=G) (zc0 s.mets) (zmy s.mets) (by rw[zb9];omega) (.str p) (by simp[AV.pure]) ziT zqi (posK kM s.mets p) (by rw[zb9];exact t)
  (λi=>match s.mets[i]? with|some n=>Lib.compareBytes n.path p|none=>0)
  (λi c m=>by
   obtain⟨n,a,rfl⟩:=z33 m
   simp only[a]
   exact zz5 n p)
  (λi o=>by
   obtain⟨n,a⟩:∃n,s.mets[i]? =some n:=⟨s.mets[i]'(by omega),yac (by omega)⟩
   simp only[a]
   exact(zoR _ _).2 (zpR o a))
  (λi q j=>by
   rw[zb9]at j
   obtain⟨n,a⟩:∃n,s.mets[i]? =some n:=⟨s.mets[i]'j,yac j⟩
   simp only[a]
   have:=zpf hs q a
   exact Int.not_lt.1 λh=>this ((zoR _ _).1 h))
 refine zac u (by simp[AV.pure]) ?_
 rintro r rfl
 simp
 rw[zb9]
 by_cases f:hasK kM s.mets p
 ·obtain⟨n,a,l⟩:=(zdE hs).1 f
  have:=(yaa.1 a).1
  have v:=(zlt n.path p).2 l
  obtain⟨g,d⟩:=yaa.1 a
  simp[f,a,this,v,d]
 ·by_cases b:posK kM s.mets p<s.mets.length
  ·obtain⟨n,a⟩:∃n,s.mets[posK kM s.mets p]? =some n:=⟨s.mets[posK kM s.mets p]'b,yac b⟩
   have k:n.path≠p:=λe=>f ((zdE hs).2 ⟨n,a,e⟩)
   have:¬Lib.compareBytes n.path p=0:=λe=>k ((zlt _ _).1 e)
   obtain⟨g,d⟩:=yaa.1 a
   simp[f,a,b,this,d]
  ·simp[f,b]
theorem z5K (s:ShM)(p:Txt)(hs:Srt kM s.mets)(hl:s.mets.length≤1000000)(hh:¬hasK kM s.mets p):PCalls Tryz.prog ziD [.agg (shC s),.str p] (λr=>r=.tup [.agg zAm,.int .i64 15]):=by
 refine zaa hmix zoe rfl ?_
 have a:=zlH (G:=G) s p hs hl
 simp only[shC]at a
 simp[zit,shC]
 refine zac a (by simp[AV.pure]) ?_
 rintro r rfl
 simp[hh,splice,zAm]
theorem zuy (s:ShM)(p:Txt)(hs:Srt kM s.mets)(hl:s.mets.length≤1000000){m:MetM}(hm:s.mets[posK kM s.mets p]? =some m)(hh:m.path=p):PCalls Tryz.prog ziD [.agg (shC s),.str p] (λr=>r=.tup [.agg (metC m),.int .i64 0]):=by
 refine zaa hmix zoe rfl ?_
 have c:=zlH (G:=G) s p hs hl
 have b:hasK kM s.mets p:=(zdE hs).2 ⟨m,hm,hh⟩
 have d:=zhw hm
 obtain⟨e,a⟩:=yaa.1 d
 simp only[shC]at c
 simp[zit,shC]
 refine zac c (by simp[AV.pure]) ?_
 rintro r rfl
 simp[b,d,a,metC,splice]
theorem z0Q (s:ShM)(p:Txt)(hl:s.mets.length<64):PCalls Tryz.prog ztg [.agg (shC s),.str p,.agg schC] (λr=>r=.tup [.agg (metC ⟨s.next,p,newL,0,0,0⟩),.int .i64 0]):=by
 refine zaa hmix ztb rfl ?_
 have k:=zqt (G:=G)
 have c:=z5J (G:=G) rungsC (by refine⟨?_, ?_, ?_⟩<;>simp[rungsC,AV.pure,AV.one]) (by simp[rungsC]) (by simp[rungsC])
 have b:¬(64≤(s.mets.length:Int)):=by omega
 have a:¬(64≤s.mets.length):=by omega
 simp only[schC,ladC]at k
 simp[zlZ,shC,schC]
 refine zac k (by simp[AV.pure]) ?_
 rintro r rfl
 simp[splice,zb9,b,a]
 refine zac c (by simp[AV.pure]) ?_
 rintro r rfl
 simp[splice,metC]
theorem zxU (d:DiskM)(h:RightM d)(hl:Fits d)(n:Nat)(hn:n≤1000000000)(more:Bool)(hf:d.files.length<256):PCalls Tryz.prog zvp [.agg (zal d),.int .i64 n,.bool more] (λr=>r=.int .i64 (if n≤d.quota-zbf d then 0 else 6)):=by
 refine zaa hmix ztS rfl ?_
 have e:=zsY (G:=G) d hl
 have j:=h.quota
 have k:=h.used
 have f:IntKind.i64.wrap ((d.quota:Int)-zbf d)=((d.quota-zbf d:Nat):Int):=by rw[wrap_i64 (by omega) (by omega)];omega
 have i:¬(256≤(d.files.length:Int)):=by omega
 have c:¬(256≤d.files.length):=by omega
 simp only[zal]at e
 simp[znF,zal]
 refine zap e (by simp[AV.pure]) (by simp) ?_
 by_cases g:n≤d.quota-zbf d
 ·have b:¬((d.quota-zbf d:Nat):Int)<n:=by omega
  have a:¬(d.quota-zbf d)<n:=by omega
  cases more<;>simp[f,g,b,a,zbJ,i,c]
 ·have b:((d.quota-zbf d:Nat):Int)<n:=by omega
  have a:(d.quota-zbf d)<n:=by omega
  simp[f,g,b,a]
theorem zyC (s:ShM)(m:MetM)(hs:Srt kM s.mets)(hl:s.mets.length≤1000)(hx:s.next≤1000000)(hi:m.id≤1000000):PCalls Tryz.prog zug [.agg (shC s),.agg (metC m)] (λr=>r=.agg (shC (zbB s m))):=by
 refine zaa hmix zuW rfl ?_
 have z:=zlH (G:=G) s m.path hs (by omega)
 have D:=zk8 (key:=kM) s.mets m.path
 have E:=zb9 s.mets
 have e:IntKind.i64.wrap ((m.id:Int)+1)=((m.id+1:Nat):Int):=by rw[wrap_i64 (by omega) (by omega)];omega
 have f:(if(s.next:Int)<m.id+1 then(m.id:Int)+1 else s.next)=((max s.next (m.id+1):Nat):Int):=by split<;>omega
 have F:=zk8 (key:=kM) (insK kM s.mets m) m.path
 simp only[shC]at z
 simp[zny,shC,metC]
 refine zac z (by simp[AV.pure]) ?_
 rintro r rfl
 simp
 refine zam (z9o (zc0 s.mets) (zmy s.mets) (by omega)) ?_
 rintro r σ (⟨C,rfl,rfl⟩|⟨rfl,rfl⟩)
 ·have g:s.mets= []:=by simpa[zc0]using C
  have o:¬hasK kM s.mets m.path:=by rw[g];simp[hasK]
  simp[o,splice]
  have H:posK kM s.mets m.path=0:=by rw[g];rfl
  rw[H]
  refine zam (z6u (jd:=3) (T2:=57) (c:=metC m) (by simp[metC]) rfl (by simp[metC,AV.pure])) ?_
  rintro r σ ⟨rfl,rfl⟩
  have k:zbB s m={s with mets:= [m],next:=max s.next (m.id+1)}:=by
   unfold zbB
   rw[if_neg o,g];rfl
  rw[k]
  simp[metC,splice,e,shC,zc0,f]
 ·by_cases q:hasK kM s.mets m.path
  ·obtain⟨n,j,J⟩:=(zdE hs).1 q
   have v:=(yaa.1 j).1
   have h:=zhw j
   obtain⟨l,b⟩:=yaa.1 h
   have A:(zc0 s.mets).set (posK kM s.mets m.path) (metC m)=zc0 (s.mets.set (posK kM s.mets m.path) m):=by simp[zc0,List.map_set]
   have I:(zc0 s.mets).length=(zc0 (s.mets.set (posK kM s.mets m.path) m)).length:=by simp[zc0]
   have k:zbB s m={s with mets:=s.mets.set (posK kM s.mets m.path) m}:=by
    unfold zbB
    rw[if_pos q]
   simp only[metC]at A
   have p:posK kM s.mets m.path<(zc0 s.mets).length:=by omega
   rw[k]
   simp[q,splice,h,b,v,p,metC,A,shC]
   rw[I]
   simp[zs0]
  ·simp[q,splice]
   have k:zbB s m={s with mets:=insK kM s.mets m,next:=max s.next (m.id+1)}:=by
    unfold zbB
    rw[if_neg q]
   have B:(zc0 s.mets).length+1=(zc0 (insK kM s.mets m)).length:=by rw[zb9,zb9,zj0]
   have h:=z3E s.mets m
   simp only[metC]at h
   have w:(insK kM s.mets m)[posK kM s.mets m.path]? =some m:=by
    unfold insK
    rw[yak (by rw[yas];exact Nat.min_le_left _ _),yas,yb0 D,yc3];rfl
   have a:=zhw w
   obtain⟨l,b⟩:=yaa.1 a
   have d:(zc0 (insK kM s.mets m)).set (posK kM s.mets m.path) (metC m)=zc0 (insK kM s.mets m):=by
    rw[<-b,ycf]
   simp only[metC]at d
   by_cases y:posK kM s.mets m.path<s.mets.length
   ·refine zam (z5U (id:=3) (jd:=4) (T2:=57) (els:=zc0 s.mets) (c:=metC m) (i:=posK kM s.mets m.path) (by simp) (by simp[metC]) (by omega) (by rw[zb9];exact y) (by rw[zb9];omega)) ?_
    rintro r σ ⟨rfl,rfl⟩
    simp only[metC]
    rw[h,B,k]
    simp[splice,e,f,l,a,b,metC,d,zs0,shC]
   ·have x:posK kM s.mets m.path=s.mets.length:=by omega
    have j:=zb9 s.mets
    rw[x,<-j,ya0,yd1]at h
    rw[x,<-j]
    refine zam (z4d (id:=3) (jd:=4) (T2:=57) (els:=zc0 s.mets) (c:=metC m) (by simp) (by simp[metC]) (zmy _) rfl (by simp[metC,AV.pure]) (by rw[zb9];omega)) ?_
    rintro r σ ⟨rfl,rfl⟩
    simp only[metC]
    rw[h,B,k]
    rw[x,<-j]at a d
    obtain⟨t,u⟩:=yaa.1 a
    simp[splice,e,f,t,a,u,metC,d,zs0,shC]
end Go.Proofs.YtdbhocoeolhjhaaGreatDoor
end
section
set_option maxHeartbeats 4000000
namespace Go.Sf
open Go.Abs
def wkC (s:ShM):List AV:= [.int .i64 s.disk.quota,.lst (za2 s.disk.files),.lst (zao s.disk.names),.lst (zao s.disk.kept),.lst (zbv s.disk.moves),.int .i64 s.disk.next,.lst (zc0 s.mets),.int .i64 s.next,.int .i64 (-1),.bool false,.int .i64 0]
end Go.Sf
namespace Go.Proofs.YtdbhocoeolhjhaaGreatDoor
open Go.Abs Go.RowKit Go.Sf Go.Num
variable {G:Globs}
theorem zaP {σ:zab}{k:Nat}{e:Entry}(h:σ[k]? =some e)(l:zab):(σ++l)[k]? =some e:=by
 rw[yam (yaa.1 h).1];exact h
theorem zaY {σ:zab}{k:Nat}{e:Entry}(h:σ[k]? =some e)(x:Entry):(σ.set k x)[k]? =some x:=by
 simp[(yaa.1 h).1]
theorem zkk {σ:zab}{k:Nat}{e:Entry}(h:σ[k]? =some e)(l:zab)(x:Entry):(σ++l).set k x=σ.set k x++l:=by
 rw[List.set_append_left _ _ (yaa.1 h).1]
theorem zuI {σ:zab}{k:Nat}{e x:Entry}{R:AV->zab->Prop}{t:Tg R}{res:List (Nat×Option (Bool×Nat))}{f:Abs.Frame}{tf:Tg f}(hk:σ[k]? =some e)(r:AV)(hr:(res.mapM (zfo (σ.set k x) f)).map za5=some r) (hru:r.under (σ.set k x).length=true)
  (hu:x.under (σ.set k x).length=true) (hR:R r (σ.set k x)):er σ R t res f tf (σ.set k x):=by
 refine zav (σ.set k x) r hr [] (by simp) (by simp) hru (λi c a=> ?_) hR
 by_cases b:k=i
 ·subst b
  rw[zaY hk]at a
  cases a
  exact .inr hu
 ·rw[yai b]at a
  exact .inl a
theorem zhY {σ ext:zab}{k:Nat}{e x:Entry}{R:AV->zab->Prop}{t:Tg R}{res:List (Nat×Option (Bool×Nat))}{f:Abs.Frame}{tf:Tg f}(hk:σ[k]? =some e)(r:AV)(hr:(res.mapM (zfo (σ.set k x++ext) f)).map za5=some r) (hru:r.under (σ.set k x).length=true)
  (hu:x.under (σ.set k x).length=true) (hR:R r (σ.set k x)):er σ R t res f tf (σ.set k x++ext):=by
 refine zav (σ.set k x) r hr ext rfl (by simp) hru (λi c a=> ?_) hR
 by_cases b:k=i
 ·subst b
  rw[zaY hk]at a
  cases a
  exact .inr hu
 ·rw[yai b]at a
  exact .inl a
theorem zgC {σ ext:zab}{R:AV->zab->Prop}{t:Tg R}{res:List (Nat×Option (Bool×Nat))}{f:Abs.Frame}{tf:Tg f}(r:AV)(hr:(res.mapM (zfo (σ++ext) f)).map za5=some r) (hru:r.under σ.length=true) (hR:R r σ):er σ R t res f tf (σ++ext):=
 zav σ r hr ext rfl (yap _) hru (λ_ _ h=> .inl h) hR
theorem zrQ {σ:zab}{k:Nat}(s:ShM)(g:Nat)(capt:List AV)(D':DiskM)(hb:zaE Tryz.prog g=true)(hk:σ[k]? =some (.var 127 (wkC s)))(hc:ACalls Tryz.prog g (.agg (zal s.disk)::capt) σ (λr σ'=>r=.tup [.agg (zal D'),.int .i64 0]/\σ'=σ)):
  ACalls Tryz.prog zms [.ptr k 0,.fn (.func g) [] capt] σ (λr σ'=>r=.tup []/\σ'=σ.set k (.var 127 (wkC {s with disk:=D'}))):=by
 refine zaf hmix zl7 rfl ?_
 have a:=zaY hk
 simp[zgB,hk,wkC]
 refine zqV hb ?_
 simp only[zal]at hc
 refine zam hc ?_
 rintro r σ' ⟨rfl,rfl⟩
 simp[hk,a,wkC,splice]
 exact zuI hk (.tup []) (by simp[za5]) (by simp[AV.under]) (by simp[Entry.under,AV.under]) ⟨rfl,by simp[wkC]⟩
theorem z49 {P:Program}{f:FuncId}{args:List AV}{σ:zab}{R:AV->Prop}(h:PCalls P f args R)(ha:args.all AV.pure=true):ACalls P f args σ (λr σ'=>R r/\σ'=σ):=
 λa κ e w g b c=>zsX b c (.inl ⟨args,R,ziV ha,h,λr d=>⟨d,rfl⟩⟩)
theorem zw5 {σ:zab}{j:Nat}{n:Txt}(d:DiskM)(hj:σ[j]? =some (.var 9 [.str n]))(h:RightM d)(hl:Fits d)(ho:okS n)(hh:¬hasK kN d.names n)(hf:d.files.length<256)(hx:d.next<1099511627776):
  ACalls Tryz.prog zeg [.agg (zal d),.ptr j 0] σ (λr σ'=>r=.tup [.agg (zal (zaz (d) n)),.int .i64 0]/\σ'=σ):=by
 refine zaf hmix zid rfl ?_
 have a:=zzZ (G:=G) d n h hl ho hh hf hx
 simp only[zal]at a
 have b:=zaP hj
 simp[zec,zal,b]
 refine zac a (by simp[AV.pure]) ?_
 rintro r rfl
 simp[zay,zc7,splice]
 exact zgC (.tup [.agg (zal (zaz (d) n)),.int .i64 0]) (by simp[za5,zal,zay]) (by simp[AV.under,zal]) ⟨by simp[zal],rfl⟩
theorem znw {σ:zab}{k:Nat}{n:Txt}(s:ShM)(hk:σ[k]? =some (.var 127 (wkC s)))(h:RightM s.disk)(hl:Fits s.disk)(ho:okS n)(hh:¬hasK kN s.disk.names n)(hf:s.disk.files.length<256)(hx:s.disk.next<1099511627776):
  ACalls Tryz.prog zi1 [.ptr k 0,.str n] σ (λr σ'=>r=.tup []/\σ'=σ.set k (.var 127 (wkC {s with disk:=zaz (s.disk) n}))):=by
 refine zaf hmix ziZ rfl ?_
 simp[zfh]
 have a:=zrQ (G:=G) (σ:=σ++ [.var 9 [.str n]]) s zeg [.ptr (σ.length) 0] (zaz (s.disk) n) zhT (zaP hk _) (zw5 s.disk (by simp) h hl ho hh hf hx)
 refine zam a ?_
 rintro r σ' ⟨rfl,rfl⟩
 rw[zkk hk]
 simp
 exact zhY hk (.tup []) (by simp[za5]) (by simp[AV.under]) (by simp[Entry.under,AV.under,wkC]) ⟨rfl,rfl⟩
theorem z0I {σ:zab}{j:Nat}{n:Txt}(d:DiskM)(hj:σ[j]? =some (.var 9 [.str n]))(h:RightM d)(hl:Fits d)(ho:okS n)(hh:hasK kN d.names n):
  ACalls Tryz.prog zeV [.agg (zal d),.ptr j 0] σ (λr σ'=>r=.tup [.agg (zal (zdk (d) n)),.int .i64 0]/\σ'=σ):=by
 refine zaf hmix zjr rfl ?_
 have a:=z4f (G:=G) d n h hl ho hh
 simp only[zal]at a
 have b:=zaP hj
 simp[zfg,zal,b]
 refine zac a (by simp[AV.pure]) ?_
 rintro r rfl
 simp[zay,zc7,splice]
 exact zgC (.tup [.agg (zal (zdk (d) n)),.int .i64 0]) (by simp[za5,zal,zay]) (by simp[AV.under,zal]) ⟨by simp[zal],rfl⟩
theorem zoA {σ:zab}{k:Nat}{n:Txt}(s:ShM)(hk:σ[k]? =some (.var 127 (wkC s)))(h:RightM s.disk)(hl:Fits s.disk)(ho:okS n)(hh:hasK kN s.disk.names n):
  ACalls Tryz.prog zkM [.ptr k 0,.str n] σ (λr σ'=>r=.tup []/\σ'=σ.set k (.var 127 (wkC {s with disk:=zdk (s.disk) n}))):=by
 refine zaf hmix zkz rfl ?_
 simp[zgf]
 have a:=zrQ (G:=G) (σ:=σ++ [.var 9 [.str n]]) s zeV [.ptr (σ.length) 0] (zdk (s.disk) n) ziG (zaP hk _) (z0I s.disk (by simp) h hl ho hh)
 refine zam a ?_
 rintro r σ' ⟨rfl,rfl⟩
 rw[zkk hk]
 simp
 exact zhY hk (.tup []) (by simp[za5]) (by simp[AV.under]) (by simp[Entry.under,AV.under,wkC]) ⟨rfl,rfl⟩
theorem zwH {σ:zab}{j:Nat}{n:Txt}(d:DiskM)(hj:σ[j]? =some (.var 9 [.str n]))(h:RightM d)(hl:Fits d)(ho:okS n)(hh:hasK kN d.names n):
  ACalls Tryz.prog zdX [.agg (zal d),.ptr j 0] σ (λr σ'=>r=.tup [.agg (zal (zdo (d) n)),.int .i64 0]/\σ'=σ):=by
 refine zaf hmix zh5 rfl ?_
 have a:=zyZ (G:=G) d n h hl ho hh
 simp only[zal]at a
 have b:=zaP hj
 simp[zef,zal,b]
 refine zac a (by simp[AV.pure]) ?_
 rintro r rfl
 simp[zay,zc7,splice]
 exact zgC (.tup [.agg (zal (zdo (d) n)),.int .i64 0]) (by simp[za5,zal,zay]) (by simp[AV.under,zal]) ⟨by simp[zal],rfl⟩
theorem zzx {σ:zab}{k:Nat}{n:Txt}(s:ShM)(hk:σ[k]? =some (.var 127 (wkC s)))(h:RightM s.disk)(hl:Fits s.disk)(ho:okS n)(hh:hasK kN s.disk.names n):
  ACalls Tryz.prog zjn [.ptr k 0,.str n] σ (λr σ'=>r=.tup []/\σ'=σ.set k (.var 127 (wkC {s with disk:=zdo (s.disk) n}))):=by
 refine zaf hmix zjb rfl ?_
 simp[zfe]
 have a:=zrQ (G:=G) (σ:=σ++ [.var 9 [.str n]]) s zdX [.ptr (σ.length) 0] (zdo (s.disk) n) zhU (zaP hk _) (zwH s.disk (by simp) h hl ho hh)
 refine zam a ?_
 rintro r σ' ⟨rfl,rfl⟩
 rw[zkk hk]
 simp
 exact zhY hk (.tup []) (by simp[za5]) (by simp[AV.under]) (by simp[Entry.under,AV.under,wkC]) ⟨rfl,rfl⟩
theorem z5L {σ:zab}{j i:Nat}{n:Txt}{b:Txt}(d:DiskM)(hj:σ[j]? =some (.var 9 [.str n]))(hi:σ[i]? =some (.var 70 [.lst (byteEls b)])) (h:RightM d) (hl:Fits d) (ho:okS n) (hh:hasK kN d.names n) (hb:b.length≤d.quota-zbf d) (hbl:b.length≤1000000000):
  ACalls Tryz.prog zfx [.agg (zal d),.ptr j 0,.ptr i 0] σ (λr σ'=>r=.tup [.agg (zal (zaJ (d) n b)),.int .i64 0]/\σ'=σ):=by
 refine zaf hmix zjI rfl ?_
 have a:=zzA (G:=G) d n b h hl ho hh hb hbl
 simp only[zal]at a
 have c:=zaP hj
 have e:=zaP hi
 simp[zfs,zal,c,e]
 refine zac a (by simp[AV.pure]) ?_
 rintro r rfl
 simp[zay,zc7,splice]
 exact zgC (.tup [.agg (zal (zaJ (d) n b)),.int .i64 0]) (by simp[za5,zal,zay]) (by simp[AV.under,zal]) ⟨by simp[zal],rfl⟩
theorem zts {σ:zab}{k:Nat}{n:Txt}{b:Txt}(s:ShM)(hk:σ[k]? =some (.var 127 (wkC s)))(h:RightM s.disk)(hl:Fits s.disk)(ho:okS n)(hh:hasK kN s.disk.names n)(hb:b.length≤s.disk.quota-zbf s.disk)(hbl:b.length≤1000000000):
  ACalls Tryz.prog zlm [.ptr k 0,.str n,.lst (byteEls b)] σ (λr σ'=>r=.tup []/\σ'=σ.set k (.var 127 (wkC {s with disk:=zaJ (s.disk) n b}))):=by
 refine zaf hmix zl2 rfl ?_
 simp[zg1]
 have a:=zrQ (G:=G) (σ:=σ++ [.var 9 [.str n],.var 70 [.lst (byteEls b)]]) s zfx [.ptr (σ.length) 0,.ptr (σ.length+1) 0] (zaJ (s.disk) n b) zjK (zaP hk _) (z5L s.disk (by simp) (by simp[zay]) h hl ho hh hb hbl)
 refine zam a ?_
 rintro r σ' ⟨rfl,rfl⟩
 rw[zkk hk]
 simp
 exact zhY hk (.tup []) (by simp[za5]) (by simp[AV.under]) (by simp[Entry.under,AV.under,wkC]) ⟨rfl,rfl⟩
theorem zwN {σ:zab}{j i:Nat}{n:Txt}{t:Txt}(d:DiskM)(hj:σ[j]? =some (.var 9 [.str n]))(hi:σ[i]? =some (.var 9 [.str t]))(h:RightM d)(hl:Fits d)(ho:okS n)(hh:hasK kN d.names n)(hot:okS t)(hne:t≠n):
  ACalls Tryz.prog zei [.agg (zal d),.ptr j 0,.ptr i 0] σ (λr σ'=>r=.tup [.agg (zal (zcK (d) n t)),.int .i64 0]/\σ'=σ):=by
 refine zaf hmix zhM rfl ?_
 have a:=zzO (G:=G) d n t h hl ho hh hot hne
 simp only[zal]at a
 have b:=zaP hj
 have c:=zaP hi
 simp[zee,zal,b,c]
 refine zac a (by simp[AV.pure]) ?_
 rintro r rfl
 simp[zay,zc7,splice]
 exact zgC (.tup [.agg (zal (zcK (d) n t)),.int .i64 0]) (by simp[za5,zal,zay]) (by simp[AV.under,zal]) ⟨by simp[zal],rfl⟩
theorem zzP {σ:zab}{k:Nat}{n:Txt}{t:Txt}(s:ShM)(hk:σ[k]? =some (.var 127 (wkC s)))(h:RightM s.disk)(hl:Fits s.disk)(ho:okS n)(hh:hasK kN s.disk.names n)(hot:okS t)(hne:t≠n):
  ACalls Tryz.prog zjh [.ptr k 0,.str n,.str t] σ (λr σ'=>r=.tup []/\σ'=σ.set k (.var 127 (wkC {s with disk:=zcK (s.disk) n t}))):=by
 refine zaf hmix zjm rfl ?_
 simp[zeT]
 have a:=zrQ (G:=G) (σ:=σ++ [.var 9 [.str n],.var 9 [.str t]]) s zei [.ptr (σ.length) 0,.ptr (σ.length+1) 0] (zcK (s.disk) n t) zh7 (zaP hk _) (zwN s.disk (by simp) (by simp[zay]) h hl ho hh hot hne)
 refine zam a ?_
 rintro r σ' ⟨rfl,rfl⟩
 rw[zkk hk]
 simp
 exact zhY hk (.tup []) (by simp[za5]) (by simp[AV.under]) (by simp[Entry.under,AV.under,wkC]) ⟨rfl,rfl⟩
theorem zoB {σ:zab}{k:Nat}(s:ShM)(hk:σ[k]? =some (.var 127 (wkC s)))(h:RightM s.disk)(hl:Fits s.disk):
  ACalls Tryz.prog zkJ [.ptr k 0] σ (λr σ'=>r=.tup []/\σ'=σ.set k (.var 127 (wkC {s with disk:=if s.disk.moves= []then s.disk else zb2 s.disk}))):=by
 refine zaf hmix zk9 rfl ?_
 have d:(zbv s.disk.moves).length=s.disk.moves.length:=by simp[zbv]
 by_cases c:s.disk.moves= []
 ·have a:σ.set k (.var 127 (wkC s))=σ:=by
   obtain⟨e,f⟩:=yaa.1 hk
   rw[<-f,ycf]
  rw[if_pos c]
  simp[zdC,hk,wkC,c,zbv]
  exact zav σ (.tup []) (by simp[za5]) [] (by simp) (yap _) (by simp[AV.under]) (λ_ _ h=> .inl h) ⟨rfl,by simpa[wkC,c,zbv]using a.symm⟩
 ·have b:0<s.disk.moves.length:=ycu.2 c
  rw[if_neg c]
  simp[zdC,hk,wkC,d,b]
  refine zam (zrQ (G:=G) s zkc [] (zb2 s.disk) zqM hk (z49 (zxv s.disk h hl) (by simp[AV.pure,zal]))) ?_
  rintro r σ' ⟨rfl,rfl⟩
  simp
  exact zuI hk (.tup []) (by simp[za5]) (by simp[AV.under]) (by simp[Entry.under,AV.under,wkC]) ⟨rfl,by simp[wkC]⟩
end Go.Proofs.YtdbhocoeolhjhaaGreatDoor
end
section
set_option maxHeartbeats 1000000
namespace Go.Proofs.YtdbhocoeolhjhaaGreatDoor
open Go.Sf Go.Num
structure SizeM (d:DiskM)(a k:Nat):Prop where
 right:RightM d
 quota:d.quota≤65535
 files:d.files.length≤a
 next:d.next≤a+1
 moves:d.moves.length≤k
 okm:∀m∈d.moves,z4y m
theorem zrr {l:List Nat}{x:Nat}(h:x∈l):x≤l.sum:=by
 induction l with
 |nil=>cases h
 |cons y l a=>
  rw[List.sum_cons]
  rcases ybb.1 h with rfl|h
  ·omega
  ·have:=a h;omega
theorem zqk {α:Type} [BEq α] [LawfulBEq α]{l m:List α}(h:l.Nodup)(hs:∀i∈l,i∈m):l.length≤m.length:=by
 induction l generalizing m with
 |nil=>simp
 |cons x l d=>
  have b:=hs x (by simp)
  have c:=ydt.1 h
  have:=d (m:=m.erase x) c.2 λi a=>(List.mem_erase_of_ne (λe=>c.1 (by rw[<-e];exact a))).2 (hs i (by simp[a]))
  rw[List.length_erase_of_mem b]at this
  have:=List.length_pos_of_mem b
  simp;omega
theorem znW {d:DiskM}(h:RightM d):d.names.length≤d.files.length:=by
 rw[<-h.count]
 have:=zqk h.names.ids (m:=idsM d) (λi b=>by
  obtain⟨n,a,rfl⟩:=yav.1 b
  exact h.nids n a)
 simpa using this
theorem SizeM.fits {d:DiskM}{a k:Nat}(h:SizeM d a k)(ha:a≤1000)(hk:k≤500000):Fits d:=by
 have e:=h.files
 have g:=znW h.right
 have i:=h.right.nkept
 have j:=h.moves
 refine⟨by omega,by omega,by omega,by omega,λf b=> ?_,h.okm⟩
 have c:=h.right.used
 have l:=h.quota
 have:f.bytes.length≤zc1 d.files:=zrr (yav.2 ⟨f,b,rfl⟩)
 unfold zbf at c
 omega
theorem SizeM.more {d:DiskM}{a k a' k':Nat}(h:SizeM d a k)(ha:a≤a')(hk:k≤k'):SizeM d a' k':=⟨h.right,h.quota,by have:=h.files;omega,by have:=h.next;omega,by have:=h.moves;omega,h.okm⟩
theorem zsQ {s:Txt}(h:okS s):s.length≤96:=h.2
theorem zfF {d:DiskM}{a k:Nat}{n:Txt}(h:SizeM d a k)(ho:okS n)(hn:¬hasK kN d.names n)(ha:a<250):SizeM (zaz d n) (a+1) (k+1):=by
 have e:=h.files
 have f:=h.next
 have g:=h.moves
 refine⟨zn9 h.right ho hn (by omega) (by omega),h.quota, ?_, ?_, ?_,λm b=> ?_⟩
 ·show(d.files++ [_]).length≤_
  simp;omega
 ·show d.next+1≤_
  omega
 ·show(d.moves++ [_]).length≤_
  simp;omega
 ·rcases yag.1 (show m∈d.moves++ [_] from b)with h|h
  ·rename_i c;exact c.okm m h
  ·simp at h
   subst h
   have:=zsQ ho
   refine⟨?_, ?_, ?_, ?_⟩<;>simp<;>omega
theorem zhV (d:DiskM)(n:Txt):zbf (zaz d n)=zbf d:=by simp[zbf,zc1,zaz]
theorem z1Z (fs:List FileM)(id:Nat)(g:FileM->FileM):(modF fs id g).length=fs.length:=by simp[modF]
theorem size_append {d:DiskM}{a k:Nat}{n b:Txt}(h:SizeM d a k)(hb:b.length≤d.quota-zbf d):SizeM (zaJ d n b) a k:=
 ⟨ztC h.right hb,h.quota,by show(modF _ _ _).length≤_;rw[z1Z];exact h.files,h.next,h.moves,h.okm⟩
theorem zpX {d:DiskM}{a k:Nat}{n:Txt}(h:SizeM d a k):SizeM (zdk d n) a k:=
 ⟨zyR h.right,h.quota,by show(modF _ _ _).length≤_;rw[z1Z];exact h.files,h.next,h.moves,h.okm⟩
theorem znU {d:DiskM}{a k:Nat}(h:SizeM d a k):SizeM (zb2 d) a 0:=
 ⟨zsz h.right,h.quota,ycm (yen _ _) h.files,h.next,yap _,by simp[zb2]⟩
theorem zqa {d:DiskM}{a k:Nat}{n:Txt}(h:SizeM d a k)(ho:okS n)(hh:hasK kN d.names n):SizeM (zdo d n) a (k+1):=by
 have e:=h.moves
 refine⟨zuX h.right ho hh,h.quota,h.files,h.next, ?_,λm c=> ?_⟩
 ·show(d.moves++ [_]).length≤_
  simp;omega
 ·rcases yag.1 (show m∈d.moves++ [_] from c)with b|b
  ·exact h.okm m b
  ·simp at b
   subst b
   have:=zsQ ho
   refine⟨?_, ?_, ?_, ?_⟩<;>simp<;>omega
theorem zxB {d:DiskM}{a k:Nat}{n t:Txt}(h:SizeM d a k)(ho:okS n)(hh:hasK kN d.names n)(hot:okS t)(hne:t≠n):SizeM (zcK d n t) a (k+1):=by
 have e:=h.moves
 refine⟨zvB h.right ho hh hot hne,h.quota,h.files,h.next, ?_,λm c=> ?_⟩
 ·show(d.moves++ [_]).length≤_
  simp;omega
 ·rcases yag.1 (show m∈d.moves++ [_] from c)with b|b
  ·exact h.okm m b
  ·simp at b
   subst b
   have:=zsQ ho
   have:=zsQ hot
   refine⟨?_, ?_, ?_, ?_⟩<;>simp<;>omega
theorem zdK {d:DiskM}{n s:Txt}:hasK kN (zaz d n).names s↔s=n∨hasK kN d.names s:=by
 constructor
 ·rintro⟨x,a,b⟩
  rcases zc2.1 (show x∈insK kN d.names ⟨n,d.next⟩ from a)with rfl|a
  ·exact .inl b.symm
  ·exact .inr ⟨x,a,b⟩
 ·rintro(rfl|⟨x,a,b⟩)
  ·exact⟨⟨s,d.next⟩,zc2.2 (.inl rfl),rfl⟩
  ·exact⟨x,zc2.2 (.inr a),b⟩
theorem zj2 {d:DiskM}{n s:Txt}(h:RightM d)(hh:hasK kN d.names n):hasK kN (zdo d n).names s↔s≠n/\hasK kN d.names s:=by
 constructor
 ·rintro⟨x,b,a⟩
  obtain⟨f,g⟩:=(zeM h.names.srt hh).1 (show x∈delK kN d.names n from b)
  exact⟨λe=>g (a.trans e),x,f,a⟩
 ·rintro⟨c,x,b,a⟩
  exact⟨x,(zeM h.names.srt hh).2 ⟨b,λe=>c (a.symm.trans e)⟩,a⟩
theorem zrI {d:DiskM}{n t s:Txt}(h:RightM d)(hh:hasK kN d.names n):hasK kN (zcK d n t).names s↔s=t∨(s≠n/\hasK kN d.names s):=by
 have c:Srt kN (delK kN d.names n):=zf3 h.names.srt
 constructor
 ·rintro⟨x,b,a⟩
  rcases zc2.1 (show x∈insK kN (zfM (delK kN d.names n) t) ⟨t,idOf d.names n⟩ from b)with rfl|b
  ·exact .inl a.symm
  ·obtain⟨i,l⟩:=(zoJ c).1 b
   obtain⟨j,k⟩:=(zeM h.names.srt hh).1 i
   exact .inr ⟨λe=>k (a.trans e),x,j,a⟩
 ·rintro(rfl|⟨g,x,b,a⟩)
  ·exact⟨⟨s,idOf d.names n⟩,zc2.2 (.inl rfl),rfl⟩
  ·by_cases f:s=t
   ·subst f;exact⟨⟨s,idOf d.names n⟩,zc2.2 (.inl rfl),rfl⟩
   ·exact⟨x,zc2.2 (.inr ((zoJ c).2 ⟨(zeM h.names.srt hh).2 ⟨b,λe=>g (a.symm.trans e)⟩,λe=>f (a.symm.trans e)⟩)),a⟩
def zb0 (d:DiskM)(l:List Txt):DiskM:=l.foldl zdo d
theorem zt6 (d:DiskM)(l:List Txt)(n:Txt):zb0 d (l++ [n])=zdo (zb0 d l) n:=by simp[zb0]
theorem ziE {a:Nat}:∀{l:List Txt} {d:DiskM} {k:Nat},SizeM d a k->l.Nodup->(∀n∈l,okS n/\hasK kN d.names n)->SizeM (zb0 d l) a (k+l.length)/\∀s,hasK kN (zb0 d l).names s↔s∉l/\hasK kN d.names s
 | [],d,k,h,_,_=>⟨h,λs=>by simp[zb0]⟩
 |n::l,d,k,h,hnd,hl=>by
  have f:=hl n (by simp)
  have b:=ydt.1 hnd
  have p:=zqa h f.1 f.2
  obtain⟨m,o⟩:=ziE (l:=l) p b.2 λx j=>⟨(hl x (by simp[j])).1,(zj2 h.right f.2).2 ⟨λe=>b.1 (by rw[<-e];exact j),(hl x (by simp[j])).2⟩⟩
  have e:zb0 d (n::l)=zb0 (zdo d n) l:=rfl
  rw[e]
  refine⟨by have c:k+(n::l).length=k+1+l.length:=by simp;omega
            rw[c];exact m,λs=> ?_⟩
  rw[o s,zj2 h.right f.2]
  simp only[ybb,not_or]
  constructor
  ·rintro⟨g,c,i⟩;exact⟨⟨c,g⟩,i⟩
  ·rintro⟨⟨c,g⟩,i⟩;exact⟨g,c,i⟩
end Go.Proofs.YtdbhocoeolhjhaaGreatDoor
end
section
set_option maxHeartbeats 1000000
namespace Go.Proofs.YtdbhocoeolhjhaaGreatDoor
open Go.Sf Go.Num
abbrev zjj:List Txt:= [kindP,kindC,ztw]
def zu3 (m:MetM)(t:Txt):Prop:=∃q kd,t=zaD m.id q kd/\1≤q/\q≤max m.base m.last/\(kd=kindP∨kd=kindC)
theorem kd3 {kd:Txt}(h:kd=kindP∨kd=kindC):kd∈zjj:=by rcases h with rfl|rfl<;>simp
structure InvS (s:ShM)(a k:Nat):Prop where
 size:SizeM s.disk a k
 srt:Srt kM s.mets
 paths:∀m∈s.mets,m.path∈P4
 next:s.next=s.mets.length+1
 ids:∀m∈s.mets,1≤m.id/\m.id<s.next
 idn:(s.mets.map MetM.id).Nodup
 lad:∀m∈s.mets,RightL m.lad
 seq:∀m∈s.mets,max m.base m.last≤a
 cnt:∀m∈s.mets,m.count≤1000
 last:∀m∈s.mets,0<m.last->hasK kN s.disk.names (zaD m.id m.last kindP)
 dir:∀t,hasK kN s.disk.names t->∃m∈s.mets,zu3 m t
theorem zlL {l:List MetM}(h:Srt kM l):(l.map MetM.path).Nodup:=by
 rw[ybg,ybv]
 exact h.imp λb e=>by
  have a:MetM.path _<MetM.path _:=b
  rw[e]at a;exact zbX _ a
theorem InvS.len {s:ShM}{a k:Nat}(h:InvS s a k):s.mets.length≤4:=by
 have:=zqk (zlL h.srt) (m:=P4) λp c=>by
  obtain⟨m,b,rfl⟩:=yav.1 c
  exact h.paths m b
 simpa[P4]using this
theorem InvS.len3 {s:ShM}{a k:Nat}(h:InvS s a k){p:Txt}(hp:p∈P4)(hn:¬hasK kM s.mets p):s.mets.length≤3:=by
 have e:(p::s.mets.map MetM.path).Nodup:=ydt.2 ⟨λb=>by
  obtain⟨m,b,d⟩:=yav.1 b
  exact hn ⟨m,b,d⟩,zlL h.srt⟩
 have:=zqk e (m:=P4) λq c=>by
  rcases ybb.1 c with rfl|c
  ·exact hp
  ·obtain⟨m,b,rfl⟩:=yav.1 c
   exact h.paths m b
 simp[P4]at this
 omega
def zix (s:ShM)(p:Txt):MetM:=⟨s.next,p,newL,0,0,0⟩
def za7 (s:ShM)(p:Txt):MetM:=if hasK kM s.mets p then(s.mets[posK kM s.mets p]?).getD (zix s p)else zix s p
theorem zf7 {s:ShM}{p:Txt}(h:¬hasK kM s.mets p):za7 s p=zix s p:=by unfold za7;rw[if_neg h]
theorem zcT {s:ShM}{p:Txt}(hs:Srt kM s.mets)(h:hasK kM s.mets p):s.mets[posK kM s.mets p]? =some (za7 s p)/\(za7 s p).path=p:=by
 obtain⟨m,a,b⟩:=(zdE hs).1 h
 have:za7 s p=m:=by unfold za7;rw[if_pos h,a];rfl
 rw[this];exact⟨a,b⟩
structure OkMet (s:ShM)(p:Txt)(a:Nat)(m:MetM):Prop where
 path:m.path=p
 id1:1≤m.id
 id5:m.id<5
 lad:RightL m.lad
 seq:max m.base m.last≤a
 cnt:m.count≤1000
 others:∀x∈s.mets,x.path≠p->x.id≠m.id
 last:0<m.last->hasK kN s.disk.names (zaD m.id m.last kindP)
 dir:∀t,hasK kN s.disk.names t->zu3 m t∨∃x∈s.mets,x.path≠p/\zu3 x t
theorem InvS.id5 {s:ShM}{a k:Nat}(h:InvS s a k){m:MetM}(hm:m∈s.mets):m.id<5:=by
 have b:=(h.ids m hm).2
 have c:=h.next
 have d:=h.len
 omega
theorem zg5 {α:Type}{R:α->α->Prop}{l:List α}(h:l.Pairwise R){i j:Nat}{x y:α}(hij:i<j)(hx:l[i]? =some x)(hy:l[j]? =some y):R x y:=by
 obtain⟨a,rfl⟩:=yaa.1 hx
 obtain⟨b,rfl⟩:=yaa.1 hy
 exact ybi.1 h i j a b hij
theorem z3r {l:List MetM}(h:(l.map MetM.id).Nodup){x y:MetM}(hx:x∈l)(hy:y∈l)(he:x.id=y.id):x=y:=by
 rw[ybg,ybv]at h
 obtain⟨i,c⟩:=ybe hx
 obtain⟨j,b⟩:=ybe hy
 rcases ycr i j with a|rfl|a
 ·exact absurd he (zg5 h a c b)
 ·rw[c]at b;exact Option.some.inj b
 ·exact absurd he.symm (zg5 h a b c)
theorem InvS.met {s:ShM}{a k:Nat}(h:InvS s a k){p:Txt}(hp:p∈P4):OkMet s p a (za7 s p):=by
 by_cases g:hasK kM s.mets p
 ·obtain⟨n,i⟩:=zcT h.srt g
  have b:=yae n
  refine⟨i,(h.ids _ b).1,h.id5 b,h.lad _ b,h.seq _ b,h.cnt _ b,λx c j l=>j ?_,h.last _ b,λt m=> ?_⟩
  ·have:=z3r h.idn c b l
   rw[this];exact i
  ·obtain⟨x,c,d⟩:=h.dir t m
   by_cases f:x.path=p
   ·have:x=za7 s p:=zsq h.srt c b (f.trans i.symm)
    exact .inl (this▸d)
   ·exact .inr ⟨x,c,f,d⟩
 ·rw[zf7 g]
  have q:=h.len3 hp g
  have d:=h.next
  refine⟨rfl,by show 1≤s.next;omega,by show s.next<5;omega,zeG,by simp[zix],by simp[zix],λx c _ l=> ?_,by simp[zix],λt m=> ?_⟩
  ·have:=(h.ids x c).2
   have o:x.id=s.next:=l
   omega
  ·obtain⟨x,c,d⟩:=h.dir t m
   exact .inr ⟨x,c,λe=>g ⟨x,c,e⟩,d⟩
theorem OkMet.fresh {s:ShM}{p:Txt}{a:Nat}{m:MetM}{k:Nat}(h:InvS s a k)(ho:OkMet s p a m)(ha:a<69){q:Nat}{kd:Txt}(hq:max m.base m.last<q)(hq2:q<70)(hk:kd∈zjj):¬hasK kN s.disk.names (zaD m.id q kd):=λj=>by
 rcases ho.dir _ j with ⟨r,f,b,g,i,c⟩|⟨x,d,e,r,f,b,g,i,c⟩
 ·have l:=ho.seq
  have:=zbo ho.id5 ho.id5 hq2 (by omega) hk (kd3 c) b
  omega
 ·have l:=h.seq x d
  have:=zbo ho.id5 (h.id5 d) hq2 (by omega) hk (kd3 c) b
  exact ho.others x d e this.1.symm
theorem zeP {s:ShM}{m x:MetM}(hs:Srt kM s.mets):x∈(zbB s m).mets↔x=m∨(x∈s.mets/\x.path≠m.path):=by
 unfold zbB
 split
 ·rename_i j
  obtain⟨y,d,k⟩:=(zdE hs).1 j
  obtain⟨g,l⟩:=yaa.1 d
  constructor
  ·intro b
   obtain⟨i,a⟩:=ybe (show x∈s.mets.set (posK kM s.mets m.path) m from b)
   rw[List.getElem?_set]at a
   split at a
   ·rename_i n
    exact .inl (by simpa using a.symm)
   ·rename_i c
    refine .inr ⟨yae a,λe=>c ?_⟩
    have f:x=y:=zsq hs (yae a) (yae d) (e.trans k.symm)
    rcases ycr (posK kM s.mets m.path) i with h|h|h
    ·have:=zg5 hs h d a
     rw[f]at this;exact absurd this (zbX _)
    ·exact h
    ·have:=zg5 hs h a d
     rw[f]at this;exact absurd this (zbX _)
  ·rintro(rfl|⟨b,c⟩)
   ·show x∈s.mets.set _ x
    rw[List.mem_iff_getElem?]
    exact⟨posK kM s.mets x.path,by simp[g]⟩
   ·obtain⟨i,a⟩:=ybe b
    show x∈s.mets.set _ m
    rw[List.mem_iff_getElem?]
    refine⟨i, ?_⟩
    rw[yai]
    ·exact a
    ·intro e;subst e
     rw[d]at a
     have:=Option.some.inj a
     subst this
     exact c k
 ·rename_i j
  constructor
  ·intro b
   rcases zc2.1 (show x∈insK kM s.mets m from b)with h|h
   ·exact .inl h
   ·exact .inr ⟨h,λe=>j ⟨x,h,e⟩⟩
  ·rintro(rfl|⟨b,_⟩)
   ·exact zc2.2 (.inl rfl)
   ·exact zc2.2 (.inr b)
theorem zo9 {s:ShM}{m:MetM}(hs:Srt kM s.mets){p:Txt}:hasK kM (zbB s m).mets p↔p=m.path∨hasK kM s.mets p:=by
 constructor
 ·rintro⟨x,b,a⟩
  rcases(zeP hs).1 b with rfl|⟨h,_⟩
  ·exact .inl a.symm
  ·exact .inr ⟨x,h,a⟩
 ·rintro(rfl|⟨x,b,a⟩)
  ·exact⟨m,(zeP hs).2 (.inl rfl),rfl⟩
  ·by_cases c:x.path=m.path
   ·exact⟨m,(zeP hs).2 (.inl rfl),c.symm.trans a⟩
   ·exact⟨x,(zeP hs).2 (.inr ⟨b,c⟩),a⟩
theorem zoE {s:ShM}{m:MetM}(hs:Srt kM s.mets):Srt kM (zbB s m).mets:=by
 unfold zbB
 split
 ·rename_i d
  obtain⟨y,f,h⟩:=(zdE hs).1 d
  obtain⟨c,j⟩:=yaa.1 f
  show(s.mets.set (posK kM s.mets m.path) m).Pairwise _
  have k:((s.mets.set (posK kM s.mets m.path) m).map kM)=s.mets.map kM:=by
   apply yea
   intro i
   rw[yb8,yb8,List.getElem?_set]
   split
   ·rename_i e;subst e
    simp[c,f,h,j]
   ·rfl
  have g:(s.mets.map kM).Pairwise λa b=>a<b:=ybv.2 hs
  rw[<-k]at g
  exact ybv.1 g
 ·rename_i d
  exact zhX hs d
theorem zte {s:ShM}{m:MetM}:(zbB s m).mets.length=if hasK kM s.mets m.path then s.mets.length else s.mets.length+1:=by
 unfold zbB
 split
 ·simp
 ·exact zj0 _ _
theorem zo4 {s:ShM}{a k a' k':Nat}{p:Txt}(h:InvS s a k)(hp:p∈P4)(D:DiskM)(hD:SizeM D a' k')(haa:a≤a'){m:MetM}(hpath:m.path=p)(hid:m.id=(za7 s p).id)(hlad:RightL m.lad)(hseq:max m.base m.last≤a')(hcnt:m.count≤1000)
  (hlast:0<m.last->hasK kN D.names (zaD m.id m.last kindP)) (hdir:∀t,hasK kN D.names t->zu3 m t∨∃x∈s.mets,x.path≠p/\zu3 x t)
  (hol:∀x∈s.mets,x.path≠p->0<x.last->hasK kN D.names (zaD x.id x.last kindP)):InvS (zbB {s with disk:=D} m) a' k':=by
 have w:=h.met hp
 have g:Srt kM ({s with disk:=D}:ShM).mets:=h.srt
 have d:(zbB {s with disk:=D} m).disk=D:=by unfold zbB;split<;>rfl
 have b:∀x,x∈(zbB {s with disk:=D} m).mets↔x=m∨(x∈s.mets/\x.path≠p):=λx=>by rw[zeP g,hpath]
 have l:(zbB {s with disk:=D} m).next=(zbB {s with disk:=D} m).mets.length+1:=by
  rw[zte,hpath]
  have G:=h.next
  unfold zbB
  rw[hpath]
  show(if hasK kM s.mets p then _ else _:ShM).next=(if hasK kM s.mets p then s.mets.length else s.mets.length+1)+1
  by_cases f:hasK kM s.mets p
  ·rw[if_pos f,if_pos f];exact G
  ·rw[if_neg f,if_neg f]
   have:m.id=s.next:=by rw[hid,zf7 f];rfl
   show max s.next (m.id+1)=s.mets.length+1+1
   omega
 have z:s.next≤(zbB {s with disk:=D} m).next:=by
  unfold zbB;split
  ·exact yap _
  ·exact Nat.le_max_left _ _
 refine⟨by rw[d];exact hD,zoE g,λx e=> ?_,l,λx e=> ?_, ?_,λx e=> ?_,λx e=> ?_,λx e=> ?_,λx e A=> ?_,λt B=> ?_⟩
 ·rcases(b x).1 e with rfl|⟨c,_⟩
  ·rw[hpath];exact hp
  ·exact h.paths x c
 ·rcases(b x).1 e with rfl|⟨c,_⟩
  ·refine⟨by rw[hid];exact w.id1, ?_⟩
   by_cases f:hasK kM s.mets p
   ·have H:=yae (zcT h.srt f).1
    have:=(h.ids _ H).2
    rw[hid];omega
   ·unfold zbB
    rw[if_neg (by rw[hpath];exact f)]
    exact yca (Nat.lt_succ_self _) (Nat.le_max_right _ _)
  ·have:=h.ids x c
   exact⟨this.1,yca this.2 z⟩
 ·rw[ybg,ybv,ybi]
  intro i j C E u v
  have I:=zoE (m:=m) g
  have e:=(b _).1 (yaw C)
  have J:=(b _).1 (yaw E)
  have o:=ybi.1 I i j C E u
  generalize (zbB {s with disk:=D} m).mets[i]=x at*
  generalize (zbB {s with disk:=D} m).mets[j]=y at*
  rcases e with rfl|⟨c,q⟩<;>rcases J with rfl|⟨n,r⟩
  ·exact zbX _ o
  ·exact w.others y n r (by rw[<-v,hid])
  ·exact w.others x c q (by rw[v,hid])
  ·have:=z3r h.idn c n v
   subst this
   exact zbX _ o
 ·rcases(b x).1 e with rfl|⟨c,_⟩
  ·exact hlad
  ·exact h.lad x c
 ·rcases(b x).1 e with rfl|⟨c,_⟩
  ·exact hseq
  ·have:=h.seq x c;omega
 ·rcases(b x).1 e with rfl|⟨c,_⟩
  ·exact hcnt
  ·exact h.cnt x c
 ·rw[d]
  rcases(b x).1 e with rfl|⟨c,n⟩
  ·exact hlast A
  ·exact hol x c n A
 ·rw[d]at B
  rcases hdir t B with c|⟨x,c,n,F⟩
  ·exact⟨m,(b m).2 (.inl rfl),c⟩
  ·exact⟨x,(b x).2 (.inr ⟨c,n⟩),F⟩
end Go.Proofs.YtdbhocoeolhjhaaGreatDoor
end
section
set_option maxHeartbeats 1000000
namespace Go.Proofs.YtdbhocoeolhjhaaGreatDoor
open Go.Sf Go.Num
def zbW (m:MetM):Txt:=zaD m.id m.last kindP
def zaG (m:MetM):Nat:=max m.base m.last+1
def newN (m:MetM):Txt:=zaD m.id (zaG m) kindP
def zbb (m:MetM):Txt:=zaD m.id (zaG m) ztw
def zcd (m:MetM):Txt:=zaD m.id (zaG m) kindC
def zm9 (m:MetM):Bool:=decide (m.last=0)||decide (16≤m.count)
def zaW (m:MetM)(bs:List ArrM):Txt:=if zm9 m then zaI (zdf m.path)++zbT bs else zbT bs
def zaK (d:DiskM)(m:MetM):DiskM:=if 0<m.last then zdk d (zbW m)else d
def zqY (d:DiskM)(m:MetM)(b:Txt):DiskM:=if zm9 m then zaJ (zaz (zaK d m) (newN m)) (newN m) b else zaJ d (zbW m) b
def metA (m:MetM)(bs:List ArrM):MetM:=if zm9 m then{m with lad:=zba m.lad bs,last:=zaG m,count:=bs.length}else{m with lad:=zba m.lad bs,count:=m.count+bs.length}
def zcC (s:ShM)(m:MetM)(bs:List ArrM):ShM:=zbB {s with disk:=zqY s.disk m (zaW m bs)} (metA m bs)
def zgn (d:DiskM):DiskM:=if d.moves= []then d else zb2 d
def zhC (s:ShM)(m:MetM):ShM:=zbB {s with disk:=zgn (zaK s.disk m)} m
def zgU (d:DiskM)(m:MetM)(b:Txt):DiskM:=zb2 (zcK (zdk (zaJ (zaz (zaK d m) (zbb m)) (zbb m) b) (zbb m)) (zbb m) (zcd m))
def zeY (d:DiskM)(id:Nat)(but:Txt):List Txt:=(d.names.map NameM.name).filter λt=> !(decide (t=but)|| !Lib.hasPrefix t (Lib.decDigits id++ [46]))
def zos (d:DiskM)(m:MetM)(b:Txt):DiskM:=zgn (zb0 (zgU d m b) (zeY (zgU d m b) m.id (zcd m)))
def z5X (m:MetM):MetM:={m with base:=zaG m,last:=0,count:=0}
def zqR (s:ShM)(m:MetM)(b:Txt):ShM:=zbB {s with disk:=zos s.disk m b} (z5X m)
theorem zfC {d:DiskM}{a k:Nat}(m:MetM)(h:SizeM d a k):SizeM (zaK d m) a k:=by
 unfold zaK;split
 ·exact zpX h
 ·exact h
theorem zcZ (d:DiskM)(m:MetM):(zaK d m).names=d.names:=by unfold zaK;split<;>rfl
theorem zrw (d:DiskM)(m:MetM):zbf (zaK d m)=zbf d:=by
 unfold zaK;split
 ·exact zpi _ _
 ·rfl
theorem zeA (d:DiskM)(m:MetM):(zaK d m).quota=d.quota:=by unfold zaK;split<;>rfl
theorem zrW {d:DiskM}{a k:Nat}(h:SizeM d a k):SizeM (zgn d) a 0:=by
 unfold zgn;split
 ·rename_i b;exact⟨h.right,h.quota,h.files,h.next,by rw[b];exact yap _,h.okm⟩
 ·exact znU h
theorem zkC (d:DiskM):(zgn d).names=d.names:=by unfold zgn;split<;>rfl
theorem zk7 (d:DiskM):(zgn d).quota=d.quota:=by unfold zgn;split<;>rfl
variable {s:ShM}{a k:Nat}{p:Txt}
theorem zyY (h:InvS s a k)(hp:p∈P4)(ha:a<69){bs:List ArrM}(hb:∀x∈bs,OkA x/\OkV x)(hl:bs.length≤300)(hf:(zaW (za7 s p) bs).length≤s.disk.quota-zbf s.disk):InvS (zcC s (za7 s p) bs) (a+1) (k+1):=by
 have g:=h.met hp
 obtain⟨m,o⟩:∃m,m=za7 s p:=⟨_,rfl⟩
 rw[<-o]at g hf⊢
 have i:RightL (zba m.lad bs):=zdm g.lad hb
 have G:=g.seq
 have j:=g.id5
 unfold zcC zqY metA
 by_cases l:zm9 m=true
 ·simp only[l,if_true]
  have v:¬hasK kN (zaK s.disk m).names (newN m):=by
   rw[zcZ]
   exact g.fresh h ha (q:=zaG m) (by unfold zaG;omega) (by unfold zaG;omega) (by simp)
  have E:=zfF (zfC m h.size) (zcY m.id j (zaG m) (by unfold zaG;omega) kindP (by simp)) v (by omega)
  have w:=size_append (n:=newN m) (b:=zaW m bs) E (by rw[zhV,zrw];show _≤(zaK s.disk m).quota-_;rw[zeA];exact hf)
  have c:∀t,hasK kN (zaJ (zaz (zaK s.disk m) (newN m)) (newN m) (zaW m bs)).names t↔t=newN m∨hasK kN s.disk.names t:=λt=>by
   have:=zdK (d:=zaK s.disk m) (n:=newN m) (s:=t)
   rw[zcZ]at this
   exact this
  refine zo4 h hp _ w (by omega) g.path (by rw[<-o]) i (by show max m.base (zaG m)≤_;unfold zaG;omega) (by show bs.length≤_;omega) (λ_=>(c _).2 (.inl rfl)) (λt e=> ?_) (λx r u f=>(c _).2 (.inr (h.last x r f)))
  rcases(c t).1 e with rfl|e
  ·exact .inl ⟨zaG m,kindP,rfl,by unfold zaG;omega,by show _≤max m.base (zaG m);omega,.inl rfl⟩
  ·rcases g.dir t e with ⟨q,z,A,B,F,C⟩|D
   ·exact .inl ⟨q,z,A,B,by show _≤max m.base (zaG m);unfold zaG;omega,C⟩
   ·exact .inr D
 ·simp only[l]
  have y:m.count<16/\0<m.last:=by
   unfold zm9 at l
   simp at l
   omega
  have w:=size_append (n:=zbW m) (b:=zaW m bs) (h.size.more (Nat.le_succ a) (Nat.le_succ k)) hf
  exact zo4 h hp _ w (by omega) g.path (by rw[<-o];rfl) i (by show max m.base m.last≤_;omega) (by show m.count+bs.length≤_;omega) (λf=>g.last f) (λt e=>g.dir t e) (λx r u f=>h.last x r f)
theorem zs5 (h:InvS s a k)(hp:p∈P4):InvS (zhC s (za7 s p)) a k:=by
 have b:=h.met hp
 obtain⟨m,e⟩:∃m,m=za7 s p:=⟨_,rfl⟩
 rw[<-e]at b⊢
 have j:=zrW (zfC m h.size)
 have d:(zgn (zaK s.disk m)).names=s.disk.names:=by rw[zkC,zcZ]
 exact zo4 h hp _ (j.more (yap _) (ydp k)) (yap _) b.path (by rw[<-e]) b.lad b.seq b.cnt (λc=>by rw[d];exact b.last c) (λt f=>by rw[d]at f;exact b.dir t f) (λx g i c=>by rw[d];exact h.last x g c)
structure Packed (s:ShM)(m:MetM)(b:Txt)(a k:Nat):Prop where
 s1:SizeM (zaK s.disk m) a k
 n1:¬hasK kN (zaK s.disk m).names (zbb m)
 o1:okS (zbb m)
 o2:okS (zcd m)
 ne:zcd m≠zbb m
 s2:SizeM (zaz (zaK s.disk m) (zbb m)) (a+1) (k+1)
 h2:hasK kN (zaz (zaK s.disk m) (zbb m)).names (zbb m)
 u2:b.length≤(zaz (zaK s.disk m) (zbb m)).quota-zbf (zaz (zaK s.disk m) (zbb m))
 s3:SizeM (zaJ (zaz (zaK s.disk m) (zbb m)) (zbb m) b) (a+1) (k+1)
 s4:SizeM (zdk (zaJ (zaz (zaK s.disk m) (zbb m)) (zbb m) b) (zbb m)) (a+1) (k+1)
 s5:SizeM (zcK (zdk (zaJ (zaz (zaK s.disk m) (zbb m)) (zbb m) b) (zbb m)) (zbb m) (zcd m)) (a+1) (k+2)
 s6:SizeM (zgU s.disk m b) (a+1) 0
 nm:∀t,hasK kN (zgU s.disk m b).names t↔t=zcd m∨(t≠zbb m/\hasK kN s.disk.names t)
theorem zyl (h:InvS s a k)(ha:a<69){m:MetM}(ho:OkMet s p a m){b:Txt}(hf:b.length≤s.disk.quota-zbf s.disk):Packed s m b a k:=by
 have C:=ho.seq
 have f:=ho.id5
 have c:zaG m<70:=by unfold zaG;omega
 have g:¬hasK kN (zaK s.disk m).names (zbb m):=by
  rw[zcZ]
  exact ho.fresh h ha (q:=zaG m) (by unfold zaG;omega) c (by simp)
 have j:okS (zbb m):=zcY m.id f (zaG m) c ztw (by simp)
 have r:okS (zcd m):=zcY m.id f (zaG m) c kindC (by simp)
 have u:zcd m≠zbb m:=λe=>by
  have:=(zbo f f c c (by simp) (by simp) e).2.2
  exact absurd this (by decide)
 have v:=zfC m h.size
 have w:=zfF v j g (by omega)
 have l:hasK kN (zaz (zaK s.disk m) (zbb m)).names (zbb m):=zdK.2 (.inl rfl)
 have x:b.length≤(zaz (zaK s.disk m) (zbb m)).quota-zbf (zaz (zaK s.disk m) (zbb m)):=by
  rw[zhV,zrw];show _≤(zaK s.disk m).quota-_;rw[zeA];exact hf
 have y:=size_append (n:=zbb m) w x
 have o:=zpX (n:=zbb m) y
 have z:=zxB (n:=zbb m) (t:=zcd m) o j l r u
 refine⟨v,g,j,r,u,w,l,x,y,o,z,znU z,λt=> ?_⟩
 have A:=zrI (d:=zdk (zaJ (zaz (zaK s.disk m) (zbb m)) (zbb m) b) (zbb m)) (n:=zbb m) (t:=zcd m) (s:=t) o.right l
 have B:hasK kN (zdk (zaJ (zaz (zaK s.disk m) (zbb m)) (zbb m) b) (zbb m)).names t↔t=zbb m∨hasK kN s.disk.names t:=by
  have:=zdK (d:=zaK s.disk m) (n:=zbb m) (s:=t)
  rw[zcZ]at this
  exact this
 rw[B]at A
 refine A.trans ⟨?_, ?_⟩
 ·rintro(h|⟨i,h|h⟩)
  ·exact .inl h
  ·exact absurd h i
  ·exact .inr ⟨i,h⟩
 ·rintro(h|⟨i,h⟩)
  ·exact .inl h
  ·exact .inr ⟨i,.inr h⟩
theorem zrL {d:DiskM}{id:Nat}{but t:Txt}:t∈zeY d id but↔hasK kN d.names t/\t≠but/\Lib.hasPrefix t (Lib.decDigits id++ [46])=true:=by
 simp only[zeY,ybs,yav,hasK]
 simp
theorem zx9 {d:DiskM}(h:RightM d)(id:Nat)(but:Txt):(zeY d id but).Nodup:=by
 have c:(d.names.map NameM.name).Nodup:=by
  rw[ybg,ybv]
  exact h.names.srt.imp λb e=>by
   have a:NameM.name _<NameM.name _:=b
   rw[e]at a;exact zbX _ a
 exact c.sublist List.filter_sublist
structure Comp (s:ShM)(m:MetM)(b:Txt)(a k:Nat):Prop where
 fok:∀n∈zeY (zgU s.disk m b) m.id (zcd m),okS n/\hasK kN (zgU s.disk m b).names n
 fnd:(zeY (zgU s.disk m b) m.id (zcd m)).Nodup
 flen:(zeY (zgU s.disk m b) m.id (zcd m)).length≤a+1
 s7:SizeM (zb0 (zgU s.disk m b) (zeY (zgU s.disk m b) m.id (zcd m))) (a+1) (a+1)
 s8:SizeM (zos s.disk m b) (a+1) 0
 nm:∀t,hasK kN (zos s.disk m b).names t↔t=zcd m∨(hasK kN s.disk.names t/\∃x∈s.mets,x.path≠m.path/\zu3 x t)
theorem comp (h:InvS s a k)(ha:a<69){m:MetM}(ho:OkMet s p a m){b:Txt}(hP:Packed s m b a k):Comp s m b a k:=by
 have R:=ho.seq
 have c:=ho.id5
 have z:zaG m<70:=by unfold zaG;omega
 have g:=ho.path
 have d:∀t,hasK kN (zgU s.disk m b).names t->t=zcd m∨(t≠zbb m/\(zu3 m t∨∃x∈s.mets,x.path≠p/\zu3 x t)/\hasK kN s.disk.names t):=λt O=>by
  rcases(hP.nm t).1 O with f|⟨f,i⟩
  ·exact .inl f
  ·exact .inr ⟨f,ho.dir t i,i⟩
 have A:∀{x:MetM} {q:Nat},x∈s.mets->q≤max x.base x.last->q<70:=λ{x q} j hq'=>by have:=h.seq x j;omega
 have B:∀n∈zeY (zgU s.disk m b) m.id (zcd m),okS n/\hasK kN (zgU s.disk m b).names n:=λn P=>by
  obtain⟨f,i,_⟩:=zrL.1 P
  refine⟨?_,f⟩
  rcases d n f with v|⟨_,⟨q,w,l,G,y,o⟩|⟨x,j,u,q,w,l,G,y,o⟩,_⟩
  ·exact absurd v i
  ·rw[l];exact zcY _ c q (by omega) _ (kd3 o)
  ·rw[l];exact zcY _ (h.id5 j) q (A j y) _ (kd3 o)
 have C:=zx9 hP.s6.right m.id (zcd m)
 have D:(zeY (zgU s.disk m b) m.id (zcd m)).length≤a+1:=by
  have f:=znW hP.s6.right
  have i:=hP.s6.files
  have v:(zeY (zgU s.disk m b) m.id (zcd m)).length≤((zgU s.disk m b).names.map NameM.name).length:=yen _ _
  rw[ycc]at v
  omega
 obtain⟨J,K⟩:=ziE hP.s6 C B
 have H:=J.more (a':=a+1) (k':=a+1) (yap _) (by omega)
 refine⟨B,C,D,H,zrW H,λt=> ?_⟩
 unfold zos
 rw[zkC,K t,zrL]
 constructor
 ·rintro⟨f,i⟩
  rcases d t i with v|⟨v,⟨q,w,l,G,y,o⟩|L,M⟩
  ·exact .inl v
  ·by_cases I:t=zcd m
   ·exact .inl I
   ·refine absurd ⟨i,I, ?_⟩ f
    rw[l,zrO _ c q (by omega) w (kd3 o) _ c]
    simp
  ·rw[g];exact .inr ⟨M,L⟩
 ·rintro(rfl|⟨f,x,j,u,q,w,l,G,y,o⟩)
  ·exact⟨λh=>h.2.1 rfl,(hP.nm _).2 (.inl rfl)⟩
  ·rw[g]at u
   have E:=ho.others x j u
   have F:=h.id5 j
   have r:=A j y
   refine⟨λQ=> ?_,(hP.nm t).2 (.inr ⟨λe=> ?_,f⟩)⟩
   ·have:=Q.2.2
    rw[l,zrO _ F q r w (kd3 o) _ c]at this
    exact E (by simpa using this)
   ·rw[l]at e
    exact E (zbo F c r z (kd3 o) (by simp) e).1
theorem z4u (h:InvS s a k)(hp:p∈P4)(ha:a<69){b:Txt}(hf:b.length≤s.disk.quota-zbf s.disk):InvS (zqR s (za7 s p) b) (a+1) k:=by
 have d:=h.met hp
 obtain⟨m,i⟩:∃m,m=za7 s p:=⟨_,rfl⟩
 rw[<-i]at d⊢
 have o:=zyl h ha d hf
 have g:=comp h ha d o
 have q:=d.seq
 have c:=d.path
 refine zo4 h hp _ (g.s8.more (yap _) (ydp k)) (by omega) d.path (by rw[<-i];rfl) d.lad (by show max (zaG m) 0≤_;unfold zaG;omega) (by show 0≤_;omega) (λe=>absurd e (by show¬0<0;omega)) (λt n=> ?_) (λx l f e=> ?_)
 ·rcases(g.nm t).1 n with rfl|⟨_,j⟩
  ·exact .inl ⟨zaG m,kindC,rfl,by unfold zaG;omega,by show _≤max (zaG m) 0;omega,.inr rfl⟩
  ·rw[c]at j;exact .inr j
 ·refine(g.nm _).2 (.inr ⟨h.last x l e,x,l,by rw[c];exact f,x.last,kindP,rfl,e,by omega,.inl rfl⟩)
end Go.Proofs.YtdbhocoeolhjhaaGreatDoor
end
section
namespace Go.Glob
def nb (c:UInt8):Bool:=(97≤c&&c≤122)||(65≤c&&c≤90)||(48≤c&&c≤57)|| [95,45,58,37,35,64,43,61].contains c
def rng:List UInt8->Option (UInt8×List UInt8)
 |d::h::s=>if d=45/\nb h=true then some (h,s)else none
 |_=>none
def cls:Nat->Bool->List UInt8->Option (List (UInt8×UInt8)×List UInt8)
 |0,_,_=>none
 |_+1,_,[]=>none
 |n+1,ne,c::s=>
  if c=93/\ne=true then some ([],s)
  else if nb c=false then none
  else match rng s with
   |some (h,s')=>if h<c then none else(cls n true s').map λx=>((c,h)::x.1,x.2)
   |none=>(cls n true s).map λx=>((c,c)::x.1,x.2)
inductive Pc where
 |lit (c:UInt8)
 |q
 |star
 |cls (rs:List (UInt8×UInt8)) (text:List UInt8)
 |br (as_:List (List Pc))
def stop (c:UInt8):Bool:=c=44||c=125
mutual
def pcs:Nat->List UInt8->Option (List Pc×List UInt8×Nat)
 |0,_=>none
 |_+1,[]=>some ([],[],0)
 |n+1,c::s=>
  if c=44∨c=125 then some ([],c::s,0)
  else if c=63 then(pcs n s).map λx=>(.q::x.1,x.2)
  else if c=42 then(pcs n s).map λx=>(.star::x.1,x.2)
  else if c=91 then(cls n false s).bind λx=>(pcs n x.2).map λy=>(.cls x.1 ((c::s).take (s.length+1-x.2.length))::y.1,y.2)
  else if c=123 then(alts n s).bind λx=>(pcs n x.2.1).map λy=>(.br x.1::y.1,y.2.1,max (x.2.2+1) y.2.2)
  else if nb c=true then(pcs n s).map λx=>(.lit c::x.1,x.2)
  else none
def alts:Nat->List UInt8->Option (List (List Pc)×List UInt8×Nat)
 |0,_=>none
 |n+1,s=>(pcs n s).bind λx=>match x.2.1 with
  | []=>none
  |c::r=>if c=125 then some ([x.1],r,x.2.2)else(alts n r).map λy=>(x.1::y.1,y.2.1,max x.2.2 y.2.2)
end
mutual
def cnt:Nat->List Pc->Nat
 |n,[]=>n
 |n,.br as_::l=>cnt (min 65 (n*cntA 0 as_)) l
 |n,.lit _::l=>cnt n l
 |n,.q::l=>cnt n l
 |n,.star::l=>cnt n l
 |n,.cls _ _::l=>cnt n l
def cntA:Nat->List (List Pc)->Nat
 |n,[]=>n
 |n,a::as_=>cntA (min 65 (n+cnt 1 a)) as_
end
def Pc.text:Pc->List UInt8
 | .lit c=> [c]
 | .q=> [63]
 | .star=> [42]
 | .cls _ t=>t
 | .br _=> []
def z0V (l:List Pc):List UInt8:=l.flatMap Pc.text
def Pc.one:Pc->UInt8->Bool
 | .q,_=>true
 | .lit l,c=>decide (l=c)
 | .cls rs _,c=>rs.any λr=>r.1≤c&&c≤r.2
 | .star,_=>false
 | .br _,_=>false
def tls {α:Type}:List α->List (List α)
 | []=> [[]]
 |a::s=>(a::s)::tls s
def mt:List Pc->List UInt8->Bool
 | [],s=>s.isEmpty
 | .star::l,s=>(tls s).any (mt l)
 | .lit _::_,[]=>false
 | .q::_,[]=>false
 | .cls _ _::_,[]=>false
 | .br _::_,[]=>false
 | .lit p::l,c::s=>(Pc.lit p).one c&&mt l s
 | .q::l,c::s=>Pc.q.one c&&mt l s
 | .cls r t::l,c::s=>(Pc.cls r t).one c&&mt l s
 | .br a::l,c::s=>(Pc.br a).one c&&mt l s
def zAy (s:List UInt8):Except Nat (List Pc):=
 if 128<s.length then .error 12
 else match pcs (2*s.length+2) s with
  |some (l,r,d)=>if s= []∨r≠ []then .error 10 else if 4<d then .error 19 else if 64<cnt 1 l then .error 11 else .ok l
  |none=> .error 10
end Go.Glob
end
section
namespace Go.Glob
mutual
def okL:List Pc->Prop
 | []=>True
 | .lit c::l=>nb c=true/\okL l
 | .q::l=>okL l
 | .star::l=>okL l
 | .cls rs t::l=>(∃b,t=91::b/\∀m x,b.length<m->cls m false (b++x)=some (rs,x))/\okL l
 | .br as_::l=>okA as_/\okL l
def okA:List (List Pc)->Prop
 | []=>True
 |a::as_=>okL a/\okA as_
end
def flat:List Pc->Prop
 | []=>True
 | .br _::_=>False
 | .lit _::l=>flat l
 | .q::l=>flat l
 | .star::l=>flat l
 | .cls _ _::l=>flat l
theorem zfL:∀{l m:List Pc},flat l->flat m->flat (l++m)
 | [],_,_,h=>h
 | .br _::_,_,h,_=>h.elim
 | .lit _::l,m,h,h'=>zfL (l:=l) (m:=m) h h'
 | .q::l,m,h,h'=>zfL (l:=l) (m:=m) h h'
 | .star::l,m,h,h'=>zfL (l:=l) (m:=m) h h'
 | .cls _ _::l,m,h,h'=>zfL (l:=l) (m:=m) h h'
theorem zfB:∀{l m:List Pc},okL l->okL m->okL (l++m)
 | [],_,_,h=>h
 | .br _::l,m,h,h'=>by simp only[ybq,okL]at h⊢;exact⟨h.1,zfB h.2 h'⟩
 | .lit _::l,m,h,h'=>by simp only[ybq,okL]at h⊢;exact⟨h.1,zfB h.2 h'⟩
 | .q::l,m,h,h'=>by simp only[ybq,okL]at h⊢;exact zfB h h'
 | .star::l,m,h,h'=>by simp only[ybq,okL]at h⊢;exact zfB h h'
 | .cls _ _::l,m,h,h'=>by simp only[ybq,okL]at h⊢;exact⟨h.1,zfB h.2 h'⟩
theorem zvH (l m:List Pc):z0V (l++m)=z0V l++z0V m:=by simp[z0V]
def Good (n:Nat)(l:List Pc):Prop:=flat l/\okL l/\(z0V l).length≤n
theorem Good.app {a b:Nat}{l m:List Pc}(h:Good a l)(h':Good b m):Good (a+b) (l++m):=
 ⟨zfL h.1 h'.1,zfB h.2.1 h'.2.1,by rw[zvH,yaj];exact Nat.add_le_add h.2.2 h'.2.2⟩
theorem Good.le {a b:Nat}{l:List Pc}(h:Good a l)(hab:a≤b):Good b l:=⟨h.1,h.2.1,ycm h.2.2 hab⟩
theorem zxE {s:List UInt8}{l:List Pc}(h:zAy s=.ok l):s.length≤128/\s≠ []/\∃d,pcs (2*s.length+2) s=some (l,[],d)/\d≤4/\cnt 1 l≤64:=by
 unfold zAy at h
 split at h
 ·cases h
 rename_i c
 split at h
 ·rename_i e r d b
  split at h
  ·cases h
  rename_i a
  split at h
  ·cases h
  rename_i f
  split at h
  ·cases h
  rename_i g
  simp only[Except.ok.injEq]at h
  subst h
  simp only[not_or,ne_eq,Decidable.not_not]at a
  obtain⟨a,rfl⟩:=a
  exact⟨by omega,a,d,b,by omega,by omega⟩
 ·cases h
theorem z78 (l:List Pc)(s:List UInt8):mt (.star::l) s=(mt l s||match s with| []=>false|_::s'=>mt (.star::l) s'):=by
 cases s<;>simp[mt,tls]
theorem ztz {p:Pc}(hp:p≠ .star)(l:List Pc)(c:UInt8)(s:List UInt8):mt (p::l) (c::s)=(p.one c&&mt l s):=by
 cases p<;>first|exact absurd rfl hp|rfl
theorem zuF {p:Pc}(hp:p≠ .star)(l:List Pc):mt (p::l) []=false:=by
 cases p<;>first|exact absurd rfl hp|rfl
def zxN (l:List Pc):Prop:=∀p∈l,p≠ .star
theorem z2f:∀(M R:List Pc) (s:List UInt8),zxN M->mt (M++R) s=true->M.length≤s.length/\mt R (s.drop M.length)=true
 | [],R,s,_,h=>by simpa using h
 |p::M,R,[],hM,h=>by
  rw[ybq,zuF (hM p (by simp))]at h
  cases h
 |p::M,R,c::s,hM,h=>by
  rw[ybq,ztz (hM p (by simp)),yb6]at h
  have:=z2f M R s (λx a=>hM x (by simp[a])) h.2
  exact⟨by simp;omega,by simpa using this.2⟩
structure Fit (l:List Pc)(name:List UInt8)(at_ k:Nat)(back:Option Nat)(from_:Nat):Prop where
 hat:at_≤l.length
 hk:k≤name.length
 hfk:from_≤k
 f0:back=none->mt l name=mt (l.drop at_) (name.drop k)
 f1:∀b,back=some b->b<at_/\l[b]? =some .star/\k-from_=at_-b-1/\zxN ((l.take at_).drop (b+1))/\
  mt l name=(mt (l.drop at_) (name.drop k)||(decide (from_<name.length)&&mt (l.drop b) (name.drop (from_+1))))
theorem zgV {α:Type}{l:List α}{i:Nat}{a:α}(h:l[i]? =some a):l.drop i=a::l.drop (i+1):=by
 obtain⟨b,rfl⟩:=yaa.1 h
 exact ybn b
theorem Fit.step {l:List Pc}{name:List UInt8}{at_ k:Nat}{back:Option Nat}{from_:Nat}{p:Pc}{c:UInt8}(h:Fit l name at_ k back from_)(hp:l[at_]? =some p)(hs:p≠ .star)(hc:name[k]? =some c)(ho:p.one c=true):
  Fit l name (at_+1) (k+1) back from_:=by
 have o:=(yaa.1 hp).1
 have q:=(yaa.1 hc).1
 have e:mt (l.drop at_) (name.drop k)=mt (l.drop (at_+1)) (name.drop (k+1)):=by
  rw[zgV hp,zgV hc,ztz hs,ho,Bool.true_and]
 refine⟨by omega,by omega,by have:=h.hfk;omega,λi=>by rw[<-e];exact h.f0 i,λb j=> ?_⟩
 obtain⟨m,d,n,f,g⟩:=h.f1 b j
 refine⟨by omega,d,by have:=h.hfk;omega,λx a=> ?_,by rw[<-e];exact g⟩
 have:l.take (at_+1)=l.take at_++ [p]:=by rw[yau,hp];rfl
 rw[this,yef (by simp;omega)]at a
 rcases yag.1 a with a|a
 ·exact f x a
 ·simp only[ybk]at a;subst a;exact hs
def Stuck (l:List Pc)(name:List UInt8)(at_ k:Nat):Prop:=∃c,name[k]? =some c/\(l[at_]? =none∨∃p,l[at_]? =some p/\p≠ .star/\p.one c=false)
theorem Stuck.mt {l:List Pc}{name:List UInt8}{at_ k:Nat}(h:Stuck l name at_ k):Glob.mt (l.drop at_) (name.drop k)=false:=by
 obtain⟨c,a,h⟩:=h
 rw[zgV a]
 rcases h with h|⟨p,b,d,e⟩
 ·rw[ydh (List.getElem?_eq_none_iff.1 h)];rfl
 ·rw[zgV b,ztz d,e,Bool.false_and]
theorem Fit.back {l:List Pc}{name:List UInt8}{at_ k:Nat}{b from_:Nat}(h:Fit l name at_ k (some b) from_)(hs:Stuck l name at_ k):Fit l name (b+1) (from_+1) (some b) (from_+1):=by
 obtain⟨o,f,q,r,i⟩:=h.f1 b rfl
 have t:k<name.length:=by obtain⟨c,j,_⟩:=hs;exact(yaa.1 j).1
 have m:=h.hfk
 have n:=h.hat
 refine⟨by omega,by omega,yap _,nofun,λs a=> ?_⟩
 cases a
 refine⟨by omega,f,by omega,λp g=> ?_, ?_⟩
 ·rw[ydh (by rw[yas];exact Nat.min_le_left _ _)]at g;cases g
 ·rw[i,hs.mt,Bool.false_or]
  have d:decide (from_<name.length)=true:=by simp;omega
  rw[d,Bool.true_and,zgV f,z78]
  congr 1
  by_cases e:from_+1<name.length
  ·rw[ybn e];simp[e]
  ·rw[ydh (by omega)];simp[e]
theorem Fit.done {l:List Pc}{name:List UInt8}{at_ from_:Nat}{back:Option Nat}(h:Fit l name at_ name.length back from_):mt l name=mt (l.drop at_) []:=by
 have f:name.drop name.length= []:=ydh (yap _)
 cases g:back with
 |none=>rw[h.f0 g,f]
 |some b=>
  obtain⟨r,i,u,j,k⟩:=h.f1 b g
  rw[k,f]
  cases a:(decide (from_<name.length)&&mt (l.drop b) (name.drop (from_+1)))with
  |false=>rw[Bool.or_false]
  |true=>
   exfalso
   simp only[yb6,decide_eq_true_eq]at a
   obtain⟨m,a⟩:=a
   rw[zgV i]at a
   simp only[mt,List.any_eq_true]at a
   obtain⟨t,d,a⟩:=a
   have e:t.length≤(name.drop (from_+1)).length:=by
    clear a
    generalize name.drop (from_+1)=s at d
    induction s with
    |nil=>simp[tls]at d;simp[d]
    |cons c s q=>
     simp only[tls,ybb]at d
     rcases d with rfl|d
     ·simp
     ·have:=q d;simp;omega
   have o:l.drop (b+1)=(l.take at_).drop (b+1)++l.drop at_:=by
    have:l.drop (b+1)=((l.take at_)++l.drop at_).drop (b+1):=by rw[yba]
    rw[this,yef (by have:=h.hat;simp;omega)]
   rw[o]at a
   obtain⟨n,v⟩:=z2f _ _ _ j a
   have p:=h.hat
   simp at n e
   omega
end Go.Glob
end
section
namespace Go.Proofs.YtdbhocoeolhjhaaGreatDoor
open Go.Abs Go.Glob
variable {G:Globs}
theorem ztQ (s:List UInt8)(c:UInt8):PCalls Tryz.prog 319 [.str s,.int .u8 c.toNat] (λr=>r=.int .i64 (Lib.indexByte s c)):=by
 intro h κ Im w i m d
 obtain⟨f,g,rfl⟩:∃f g,i= [f,g]:=by
  match i,d.1 with
  | [a,b],_=>exact⟨a,b,rfl⟩
 have j:=(d.2 0 (by simp) (by simp)).str_inv
 have k:=(d.2 1 (by simp) (by simp)).int_inv
 simp only[yb5,ydi]at j k
 subst j;subst k
 refine(Tryz.strings_IndexByte ⟨s.toArray⟩ c.toNat w).mono ?_
 rintro e l ⟨rfl,rfl⟩
 exact⟨_,[],_,κ,Im,rfl,⟨rfl,rfl⟩,m,Grow.refl _ _ _ _,.im _ _ (by simpa using IR.int (Im:=Im) (w:=l) .i64 (Lib.indexByte s c))⟩
theorem z6g (c:UInt8):nb c=((97≤c&&c≤122)||(65≤c&&c≤90)||(48≤c&&c≤57)||decide (0≤Lib.indexByte [95,45,58,37,35,64,43,61] c)):=by
 unfold nb
 rw[Lib.contains_iff_indexByte]
theorem z7n (c:UInt8):PCalls Tryz.prog zwm [.int .u8 c.toNat] (λr=>r=.bool (nb c)):=by
 refine zaa hmix zwg rfl ?_
 simp[zpB]
 repeat' (first
  |(refine zBo (λ_=> ?_) (λ_=> ?_))
  |(refine zaq (λ_=> ?_) (λ_=> ?_))
  |(refine zac (ztQ _ _) (by simp) ?_;rintro r rfl)
  |simp[*])
 all_goals (simp[z6g,UInt8.le_iff_toNat_le];omega)
def zaR (l:List (List UInt8)):List (List AV):=l.map λs=> [.str s]
end Go.Proofs.YtdbhocoeolhjhaaGreatDoor
end
section
namespace Go.Trail
open Go.Glob
def sp:List UInt8->List (List UInt8)
 | []=> [[]]
 |c::s=>if c=46 then []::sp s else match sp s with
  |p::ps=>(c::p)::ps
  | []=> [[c]]
def cutN:Nat->List UInt8->List (List UInt8)
 |0,s=> [s]
 |n+1,s=>if Lib.indexByte s 46= -1 then [s]else s.take (Lib.indexByte s 46).toNat::cutN n (s.drop ((Lib.indexByte s 46).toNat+1))
theorem zAk (s:List UInt8):sp s≠ []:=by
 cases s with
 |nil=>simp[sp]
 |cons c s=>
  simp only[sp]
  split
  ·simp
  ·split<;>simp
theorem z0W {c:UInt8}(h:c≠46)(s:List UInt8):∃p ps,sp s=p::ps/\sp (c::s)=(c::p)::ps:=by
 cases a:sp s with
 |nil=>exact absurd a (zAk s)
 |cons p ps=>exact⟨p,ps,rfl,by simp[sp,h,a]⟩
theorem zlu:∀(s:List UInt8),(Lib.indexByte s 46= -1/\sp s= [s])∨(∃m:Nat,Lib.indexByte s 46=m/\m<s.length/\sp s=s.take m::sp (s.drop (m+1)))
 | []=> .inl ⟨rfl,rfl⟩
 |c::s=>by
  by_cases e:c=46
  ·subst e
   exact .inr ⟨0,by simp[Lib.indexByte],by simp,by simp[sp]⟩
  ·obtain⟨p,i,f,g⟩:=z0W e s
   have h:(c==46)=false:=by simpa using e
   rcases zlu s with ⟨d,a⟩|⟨m,d,a,b⟩
   ·refine .inl ⟨by simp[Lib.indexByte,h,d], ?_⟩
    rw[f]at a
    simp only[yde]at a
    rw[g,a.1,a.2]
   ·refine .inr ⟨m+1, ?_,by simp;omega, ?_⟩
    ·simp only[Lib.indexByte,h,d]
     have:¬((m:Int)== -1)=true:=by simp
     rw[if_neg this];simp
    ·rw[f]at b
     simp only[yde]at b
     rw[g,b.1,b.2];simp
theorem zwU:∀(n:Nat) (s:List UInt8),(sp s).length≤n+1->cutN n s=sp s
 |0,s,h=>by
  rcases zlu s with ⟨_,g⟩|⟨m,_,_,g⟩
  ·simp[cutN,g]
  ·rw[g]at h
   have:=ycu.2 (zAk (s.drop (m+1)))
   rw[ybc]at h;omega
 |n+1,s,h=>by
  rcases zlu s with ⟨a,g⟩|⟨m,a,_,g⟩
  ·simp[cutN,g,a]
  ·rw[g]at h
   have b:¬((m:Int)= -1):=by omega
   simp only[cutN,a,if_neg b,g]
   rw[show((m:Int)).toNat=m from rfl,zwU n _ (by simpa using h)]
theorem zud:∀(n:Nat) (s:List UInt8),n+1≤(sp s).length->(cutN n s).length=n+1
 |0,s,h=>rfl
 |n+1,s,h=>by
  rcases zlu s with ⟨b,g⟩|⟨m,b,_,g⟩
  ·rw[g]at h;simp at h
  ·rw[g]at h
   have a:¬((m:Int)= -1):=by omega
   simp only[cutN,b,if_neg a]
   rw[ybc,show((m:Int)).toNat=m from rfl,zud n _ (by simpa using h)]
def zvQ (s:List UInt8):Bool:=decide (s.length≤32)&&(s.all nb&& !s.isEmpty)
def path (s:List UInt8):Option (List (List UInt8)):=if(sp s).length≤8/\(sp s).all zvQ=true then some (sp s)else none
end Go.Trail
end
