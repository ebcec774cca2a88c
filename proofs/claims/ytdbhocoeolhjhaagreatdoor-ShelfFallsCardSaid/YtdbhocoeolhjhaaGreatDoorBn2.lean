import Derived.Test.YtdbhocoeolhjhaaGreatDoorShelf
import Derived.Lib.ItoaNum
import Derived.Test.YtdbhocoeolhjhaaGreatDoorBn1
set_option maxHeartbeats 4000000
set_option linter.unusedSimpArgs false
set_option linter.unusedVariables false
set_option linter.constructorNameAsVariable false
namespace Go.Sf
abbrev Txt:=List UInt8
theorem zcy (a:Txt):¬a<a:=List.lt_irrefl a
theorem zCi (x y:UInt8)(h1:¬x<y)(h2:¬y<x):x=y:=by apply UInt8.toNat_inj.1;have a:¬x.toNat<y.toNat:=λh=>h1 (UInt8.lt_iff_toNat_lt.2 h);have b:¬y.toNat<x.toNat:=λh=>h2 (UInt8.lt_iff_toNat_lt.2 h);omega
theorem zCr {x y z:UInt8}(h1:x<y)(h2:y<z):x<z:=UInt8.lt_iff_toNat_lt.2 (by have:=UInt8.lt_iff_toNat_lt.1 h1;have:=UInt8.lt_iff_toNat_lt.1 h2;omega)
theorem zEj (x:UInt8):¬x<x:=λh=>by have:=UInt8.lt_iff_toNat_lt.1 h;omega
theorem z0h:∀{a b c:Txt},a<b->b<c->a<c
 |_,[],_,h,_=>by simp at h
 |_,_,[],_,h=>by simp at h
 | [],_,z::c,_,_=>by simp
 |x::a,y::b,z::c,d,e=>by
  rw[yeb]at d e⊢;rcases d with d|⟨rfl,d⟩<;>rcases e with e|⟨rfl,e⟩
  .exact .inl (zCr d e)
  .exact .inl d
  .exact .inl e
  .exact .inr ⟨rfl,z0h d e⟩
theorem zAe:∀(a b:Txt),¬a<b->¬b<a->a=b
 | [],[],_,_=>rfl
 | [],_::_,h,_=>absurd (by simp) h
 |_::_,[],_,h=>absurd (by simp) h
 |x::a,y::b,h1,h2=>by rw[yeb]at h1 h2;have c:x=y:=zCi x y (λh=>h1 (.inl h)) (λh=>h2 (.inl h));subst c;rw[zAe a b (λh=>h1 (.inr ⟨rfl,h⟩)) (λh=>h2 (.inr ⟨rfl,h⟩))]
section
variable {α:Type}(key:α->Txt)
def Srt (l:List α):Prop:=l.Pairwise λa b=>key a<key b
def posK:List α->Txt->Nat
 | [],_=>0
 |x::l,s=>if key x<s then posK l s+1 else 0
def hasK (l:List α)(s:Txt):Prop:=∃x∈l,key x=s
instance (l:List α)(s:Txt):Decidable (hasK key l s):=by unfold hasK;exact inferInstance
def insK (l:List α)(x:α):List α:=l.take (posK key l (key x))++x::l.drop (posK key l (key x))
def delK (l:List α)(s:Txt):List α:=l.take (posK key l s)++l.drop (posK key l s+1)
variable {key}
theorem zlR:∀(l:List α) (s:Txt),posK key l s<=l.length
 | [],_=>yaf _
 |x::l,s=>by unfold posK;have:=zlR l s;split<;>simp<;>omega
theorem zqK:∀{l:List α} {s:Txt} {i:Nat} {x:α},i<posK key l s->l[i]? =some x->key x<s
 | [],_,_,_,h,_=>by simp[posK]at h
 |y::l,s,i,x,h,hx=>by
  unfold posK at h;split at h
  .rename_i a;cases i with
   |zero=>simp at hx;subst hx;exact a
   |succ i=>exact zqK (l:=l) (i:=i) (by omega) (by simpa using hx)
  .omega
theorem zqM:∀{l:List α} {s:Txt} {i:Nat} {x:α},Srt key l->posK key l s<=i->l[i]? =some x->¬key x<s
 | [],_,_,_,_,_,hx=>by simp at hx
 |y::l,s,i,x,hs,h,hx=>by
  rw[Srt,yet]at hs;unfold posK at h;split at h
  .cases i with
   |zero=>omega
   |succ i=>exact zqM (l:=l) (i:=i) hs.2 (by omega) (by simpa using hx)
  .rename_i a;cases i with
   |zero=>simp at hx;subst hx;exact a
   |succ i=>have c:x∈l:=yad (by simpa using hx);exact λb=>a (z0h (hs.1 x c) b)
theorem zdU {l:List α}{s:Txt}(hs:Srt key l):hasK key l s↔∃x,l[posK key l s]? =some x/\key x=s:=by
 constructor
 .rintro⟨x,a,rfl⟩;obtain⟨i,c,rfl⟩:=yaz.1 a;have e:l[i]? =some l[i]:=yah c;have g:posK key l (key l[i])<=i:=Classical.byContradiction λh=>zcy (key l[i]) (zqK (key:=key) (l:=l) (s:=key l[i]) (i:=i) (by omega) e);rcases Nat.lt_or_eq_of_le g with b|b
  .obtain⟨y,d⟩:∃y,l[posK key l (key l[i])]? =some y:=⟨l[posK key l (key l[i])]'(by omega),yah (by omega)⟩;have j:=zqM hs (yaf _) d;have k:key y<key l[i]:=(by obtain⟨f,rfl⟩:=yaa.1 d;exact ybm.1 hs _ _ f c b);exact absurd k j
  .exact⟨l[i],by rw[b];exact e,rfl⟩
 .rintro⟨x,a,rfl⟩;exact⟨x,yad a,rfl⟩
theorem zaH {l:List α}{x y:α}:y∈insK key l x↔y=x∨y∈l:=by
 unfold insK;rw[yai,ybe];constructor
 .rintro(h|rfl|h);.exact .inr (yao h)
  .exact .inl rfl
  .exact .inr (yay h)
 .rintro(rfl|h);.exact .inr (.inl rfl)
  .rw[<-ya2 (posK key l (key x)) l,yai]at h;rcases h with h|h
   .exact .inl h
   .exact .inr (.inr h)
theorem zkw (l:List α)(x:α):(insK key l x).length=l.length+1:=by have:=zlR (key:=key) l (key x);simp[insK];omega
theorem zk4 {l:List α}{x:α}(hs:Srt key l)(hn:¬hasK key l (key x)):Srt key (insK key l x):=by
 unfold Srt insK;have a:Srt key (l.take (posK key l (key x))++l.drop (posK key l (key x))):=by rw[ya2];exact hs
 rw[Srt,ydk]at a;rw[ydk,yet];refine⟨a.1,⟨λy b=> ?_,a.2.1⟩,λy b z d=> ?_⟩;.obtain⟨i,c,rfl⟩:=yaz.1 b;rw[yd2];rw[ya3]at c;have f:l[posK key l (key x)+i]? =some l[posK key l (key x)+i]:=yah (by omega);have h:=zqM hs (Nat.le_add_right _ i) f;refine Classical.byContradiction λg=> ?_;have:=zAe _ _ h g;exact hn ⟨_,yad f,this⟩
 .have e:key y<key x:=by obtain⟨i,c,rfl⟩:=yaz.1 b;rw[yck];rw[yan]at c;exact zqK (l:=l) (i:=i) (by omega) (yah (by omega))
  rcases ybe.1 d with rfl|d;.exact e
  .exact a.2.2 y b z d
theorem zhc (l:List α)(s:Txt):(delK key l s).Sublist l:=by
 have:=ya2 (posK key l s) l;unfold delK
 conv=>rhs;rw[<-this]
 refine List.Sublist.append (List.Sublist.refl _) ?_;rw[<-yeq];exact List.drop_sublist _ _
theorem zgj {l:List α}{s:Txt}(hs:Srt key l):Srt key (delK key l s):=hs.sublist (zhc l s)
theorem zz4 {l:List α}{s:Txt}(hs:Srt key l)(h:hasK key l s):(delK key l s).length+1=l.length:=by obtain⟨x,a,_⟩:=(zdU hs).1 h;have:=(yaa.1 a).1;simp[delK];omega
theorem znK {l:List α}(hs:Srt key l){x y:α}(hx:x∈l)(hy:y∈l)(h:key x=key y):x=y:=by
 obtain⟨i,b,rfl⟩:=yaz.1 hx;obtain⟨j,c,rfl⟩:=yaz.1 hy;rcases ycl i j with a|a|a
 .have:=ybm.1 hs _ _ b c a;rw[h]at this;exact absurd this (zcy _)
 .subst a;rfl
 .have:=ybm.1 hs _ _ c b a;rw[h]at this;exact absurd this (zcy _)
theorem zcA {l:List α}{s:Txt}{y:α}(hs:Srt key l)(h:hasK key l s):y∈delK key l s↔y∈l/\key y≠s:=by
 obtain⟨x,g,d⟩:=(zdU hs).1 h;have f:=(yaa.1 g).1;have e:l=l.take (posK key l s)++x::l.drop (posK key l s+1):=by
  conv=>lhs;rw[<-ya2 (posK key l s) l]
  rw[ybd f,(yaa.1 g).2]
 have b:Srt key (l.take (posK key l s)++x::l.drop (posK key l s+1)):=by rw[<-e];exact hs
 rw[Srt,ydk,yet]at b;have i:y∈l↔y∈l.take (posK key l s)∨y=x∨y∈l.drop (posK key l s+1):=by
  conv=>lhs;rw[e]
  rw[yai,ybe]
 unfold delK;rw[yai,i];constructor
 .rintro(a|a);.refine⟨.inl a,λc=> ?_⟩;have:=b.2.2 y a x (by simp);rw[c,d]at this;exact zcy _ this
  .refine⟨.inr (.inr a),λc=> ?_⟩;have:=b.2.1.1 y a;rw[c,d]at this;exact zcy _ this
 .rintro⟨a|rfl|a,c⟩;.exact .inl a
  .exact absurd d c
  .exact .inr a
end
structure NameM where
 name:Txt
 id:Nat
 deriving DecidableEq
structure MoveM where
 kind:Nat
 name:Txt
 dst:Txt
 id:Nat
 deriving DecidableEq
structure FileM where
 id:Nat
 bytes:Txt
 sure:Nat
 deriving DecidableEq
structure DiskM where
 quota:Nat
 files:List FileM
 names:List NameM
 kept:List NameM
 moves:List MoveM
 next:Nat
 deriving DecidableEq
abbrev kN:NameM->Txt:=NameM.name
def okS (s:Txt):Prop:=s≠ []/\s.length<=96
instance (s:Txt):Decidable (okS s):=by unfold okS;exact inferInstance
def zfS (l:List NameM)(s:Txt):List NameM:=if hasK kN l s then delK kN l s else l
def idOf:List NameM->Txt->Nat
 | [],_=>0
 |n::l,s=>if n.name=s then n.id else idOf l s
def zfh (l:List NameM)(m:MoveM):Option (List NameM):=if okS m.name then
  if m.kind=1 then(if hasK kN l m.name∨m.dst≠ []∨m.id<1 then none else some (insK kN l ⟨m.name,m.id⟩))
  else if m.kind=2 then(if¬hasK kN l m.name∨m.dst≠ []∨m.id≠0 then none else some (delK kN l m.name))
  else if m.kind=3 then(if¬hasK kN l m.name∨¬okS m.dst∨m.dst=m.name∨m.id≠0 then none else some (insK kN (zfS (delK kN l m.name) m.dst) ⟨m.dst,idOf l m.name⟩))
  else none
 else none
def replay:List NameM->List MoveM->Option (List NameM)
 |l,[]=>some l
 |l,m::ms=>(zfh l m).bind λl'=>replay l' ms
def zaP (ms:List MoveM):List Nat:=(ms.filter λm=>m.kind=1).map (·.id)
def idsM (d:DiskM):List Nat:=d.kept.map (·.id)++zaP d.moves
def zbH (fs:List FileM):Nat:=(fs.map λf=>f.bytes.length).sum
def zaW (d:DiskM):Nat:=zbH d.files
structure Listed (l:List NameM):Prop where
 srt:Srt kN l
 ok:∀n∈l,okS n.name
 ids:(l.map (·.id)).Nodup
def Filed (next:Nat)(fs:List FileM):Prop:=(fs.Pairwise λa b=>a.id<b.id)/\∀f∈fs,1<=f.id/\f.id<next/\f.sure<=f.bytes.length
structure RightM (d:DiskM):Prop where
 quota:d.quota<=1073741824
 next1:1<=d.next
 next2:d.next<=1099511627776
 nfiles:d.files.length<=256
 kept:Listed d.kept
 names:Listed d.names
 filed:Filed d.next d.files
 replay:replay d.kept d.moves=some d.names
 ids:(idsM d).Nodup
 same:∀i,i∈idsM d↔∃f∈d.files,f.id=i
 nids:∀n∈d.names,n.id∈idsM d
 used:zaW d<=d.quota
theorem Filed.ids {next:Nat}{fs:List FileM}(h:Filed next fs):(fs.map (·.id)).Nodup:=by rw[ya9,yb0];exact h.1.imp λa=>by omega
theorem RightM.count {d:DiskM}(h:RightM d):(idsM d).length=d.files.length:=by have:=((List.perm_ext_iff_of_nodup h.ids h.filed.ids).2 λi=>by rw[h.same i];simp).length_eq;simpa using this
theorem RightM.nkept {d:DiskM}(h:RightM d):d.kept.length<=256:=by have a:=h.count;have b:=h.nfiles;simp only[idsM,yag,ybn]at a;omega
theorem z8Q {l l':List NameM}{m:MoveM}(hs:Srt kN l)(h:zfh l m=some l'):Srt kN l':=by
 unfold zfh at h;split at h
 case isFalse=>cases h
 split at h
 .split at h;.cases h
  .rename_i d;simp only[yab]at h;subst h;exact zk4 hs (λa=>d (.inl a))
 split at h
 .split at h;.cases h
  .simp only[yab]at h;subst h;exact zgj hs
 split at h
 .split at h;.cases h
  .simp only[yab]at h;subst h;refine zk4 ?_ ?_
   .unfold zfS;split;.exact zgj (zgj hs)
    .exact zgj hs
   .unfold zfS;split;.rename_i a;rintro⟨x,b,c⟩;exact((zcA (zgj hs) a).1 b).2 c
    .assumption
 .cases h
theorem z7o {l l':List NameM}{m:MoveM}(hs:Srt kN l)(h:zfh l m=some l'):l'.length<=l.length+1:=by
 have a:∀(l:List NameM) s,(delK kN l s).length<=l.length:=λl s=>(zhc l s).length_le;unfold zfh at h;split at h
 case isFalse=>cases h
 split at h
 .split at h;.cases h
  .simp only[yab]at h;subst h;rw[zkw];exact yaf _
 split at h
 .split at h;.cases h
  .simp only[yab]at h;subst h;have:=a l m.name;omega
 split at h
 .split at h;.cases h
  .simp only[yab]at h;subst h;rw[zkw];have b:=a l m.name;have c:=a (delK kN l m.name) m.dst;unfold zfS;split<;>omega
 .cases h
end Go.Sf
namespace Go.Sf
open Go.Abs
def zcD (n:NameM):List AV:= [.str n.name,.int .i64 n.id]
def zam (l:List NameM):List (List AV):=l.map zcD
def zdn (m:MoveM):List AV:= [.int .i64 m.kind,.str m.name,.str m.dst,.int .i64 m.id]
def zaI (l:List MoveM):List (List AV):=l.map zdn
def zbv (f:FileM):List AV:= [.int .i64 f.id,.lst (byteEls f.bytes),.int .i64 f.sure]
def zau (l:List FileM):List (List AV):=l.map zbv
def zag (d:DiskM):List AV:= [.int .i64 d.quota,.lst (zau d.files),.lst (zam d.names),.lst (zam d.kept),.lst (zaI d.moves),.int .i64 d.next]
theorem za2 (l:List NameM):(zam l).length=l.length:=by simp[zam]
theorem ztK (l:List MoveM):(zaI l).length=l.length:=by simp[zaI]
theorem zbh (l:List FileM):(zau l).length=l.length:=by simp[zau]
theorem zdp (l:List NameM):Els 2 (zam l):=by refine⟨λc a=> ?_,λc a=> ?_,λc a=> ?_⟩<;>obtain⟨n,_,rfl⟩:=yar.1 a<;>simp[zcD,AV.pure,AV.one]
theorem ztO (l:List MoveM):Els 4 (zaI l):=by refine⟨λc a=> ?_,λc a=> ?_,λc a=> ?_⟩<;>obtain⟨n,_,rfl⟩:=yar.1 a<;>simp[zdn,AV.pure,AV.one]
theorem zec (l:List FileM):Els 3 (zau l):=by refine⟨λc a=> ?_,λc a=> ?_,λc a=> ?_⟩<;>obtain⟨n,_,rfl⟩:=yar.1 a<;>simp[zbv,AV.pure,AV.one]
theorem zcL {l:List NameM}{i:Nat}{n:NameM}(h:l[i]? =some n):(zam l)[i]? =some (zcD n):=by simp[zam,h]
theorem z1b {l:List MoveM}{i:Nat}{n:MoveM}(h:l[i]? =some n):(zaI l)[i]? =some (zdn n):=by simp[zaI,h]
theorem zcK {l:List FileM}{i:Nat}{n:FileM}(h:l[i]? =some n):(zau l)[i]? =some (zbv n):=by simp[zau,h]
theorem z1s {l:List NameM}{i:Nat}{c:List AV}(h:(zam l)[i]? =some c):∃n,l[i]? =some n/\c=zcD n:=by simp only[zam,yca,yae]at h;obtain⟨n,a,rfl⟩:=h;exact⟨n,a,rfl⟩
theorem z16 {l:List FileM}{i:Nat}{c:List AV}(h:(zau l)[i]? =some c):∃n,l[i]? =some n/\c=zbv n:=by simp only[zau,yca,yae]at h;obtain⟨n,a,rfl⟩:=h;exact⟨n,a,rfl⟩
theorem zqv (σ:zaa)(m k:Nat)(l:List NameM):((zam l).mapM λ(c:List AV)=>c.mapM (fz σ m k))=some (zam l):=zfV (zdp l).2.1 (λc a=>by obtain⟨n,_,rfl⟩:=yar.1 a;simp[zcD])
theorem z52 (σ:zaa)(m k:Nat)(l:List MoveM):((zaI l).mapM λ(c:List AV)=>c.mapM (fz σ m k))=some (zaI l):=zfV (ztO l).2.1 (λc a=>by obtain⟨n,_,rfl⟩:=yar.1 a;simp[zdn])
theorem zwA (σ:zaa)(m k:Nat)(l:List FileM):((zau l).mapM λ(c:List AV)=>c.mapM (fz σ m k))=some (zau l):=zfV (zec l).2.1 (λc a=>by obtain⟨n,_,rfl⟩:=yar.1 a;simp[zbv])
theorem zrL (l:List NameM)(i:Nat):(zam l).take i=zam (l.take i):=by simp[zam]
theorem zq0 (l:List NameM)(i:Nat):(zam l).drop i=zam (l.drop i):=by simp[zam]
theorem ztQ (a b:List NameM):zam (a++b)=zam a++zam b:=by simp[zam]
theorem zxU (a:NameM)(b:List NameM):zam (a::b)=zcD a::zam b:=by simp[zam]
theorem ztM (l:List NameM)(x:NameM):(zam l).take (posK kN l x.name)++zcD x::(zam l).drop (posK kN l x.name)=zam (insK kN l x):=by rw[zrL,zq0,insK,ztQ,zxU]
theorem z1u (l:List NameM)(s:Txt):(zam l).take (posK kN l s)++(zam l).drop (posK kN l s+1)=zam (delK kN l s):=by rw[zrL,zq0,delK,ztQ]
theorem zqQ:∀(a b:Txt),Lib.compareBytes a b<0↔a<b
 | [],[]=>by simp[Lib.compareBytes]
 | [],_::_=>by simp[Lib.compareBytes]
 |_::_,[]=>by simp[Lib.compareBytes]
 |x::a,y::b=>by
  have g:=zqQ a b;simp only[Lib.compareBytes];by_cases c:x<y;.simp[c,yeb]
  .by_cases f:y<x
   .have d:x≠y:=λe=>by subst e;exact c f
    simp[c,f,d,yeb]
   .obtain rfl:=zCi x y c f;simp[c];simpa using g
theorem zmp:∀(a b:Txt),Lib.compareBytes a b=0↔a=b
 | [],[]=>by simp[Lib.compareBytes]
 | [],_::_=>by simp[Lib.compareBytes]
 |_::_,[]=>by simp[Lib.compareBytes]
 |x::a,y::b=>by
  have g:=zmp a b;simp only[Lib.compareBytes];by_cases d:x<y
  .have c:x≠y:=λe=>by subst e;exact zEj x d
   simp[d,c]
  .by_cases f:y<x
   .have c:x≠y:=λe=>by subst e;exact d f
    simp[d,f,c]
   .obtain rfl:=zCi x y d f;simp[d,g]
theorem z0n:∀(a b:Txt),Op.bytesLess a b=decide (a<b)
 |_,[]=>by unfold Op.bytesLess;simp
 | [],_::_=>by simp[Op.bytesLess]
 |x::a,y::b=>by have c:=z0n a b;simp[Op.bytesLess,c,yeb];congr 1
end Go.Sf
namespace Go.Proofs.YtdbhocoeolhjhaaGreatDoor
open Go.Abs Go.RowKit Go.Sf
variable {G:Globs}
theorem zt9 (s p:Txt):PT 79 [.str s,.str p] (λr=>r=.int .i64 (Lib.compareBytes s p)):=by refine zrr λa κ i w v u j b c=> ?_;have f:=b.str_inv;have g:=c.str_inv;subst f;subst g;refine(Tryz.strings_Compare ⟨s.toArray⟩ ⟨p.toArray⟩ w).mono ?_;rintro e h ⟨rfl,rfl⟩;exact⟨_,_,rfl,rfl,Go.RowKit.Below.refl _ _,λd=> .int _ _⟩
theorem zuw (x y:Int):PT 111 [.int .i64 x,.int .i64 y] (λr=>r=.int .i64 (Lib.compareInt x y)):=by refine zrr λa κ i w v u j b c=> ?_;have f:=b.int_inv;have g:=c.int_inv;subst f;subst g;refine(Tryz.cmp_Compare_int x y w).mono ?_;rintro e h ⟨rfl,rfl⟩;exact⟨_,_,rfl,rfl,Go.RowKit.Below.refl _ _,λd=> .int _ _⟩
theorem zxH (i:Nat)(hi:i<100):PT 96 [.int .i64 i] (λr=>r=.str (Lib.decDigits i)):=by refine z3n λa κ g w v h b=> ?_;have d:=b.int_inv;subst d;refine(Tryz.strconv_Itoa_small i hi w).mono ?_;rintro e f ⟨rfl,rfl⟩;exact⟨_,_,rfl,rfl,Go.RowKit.Below.refl _ _,λc=> .str _⟩
theorem z3W (s p:Txt):PT 106 [.str s,.str p] (λr=>r=.bool (Lib.hasPrefix s p)):=by refine zrr λa κ i w v u j b c=> ?_;have f:=b.str_inv;have g:=c.str_inv;subst f;subst g;refine(Tryz.strings_HasPrefix ⟨s.toArray⟩ ⟨p.toArray⟩ w).mono ?_;rintro e h ⟨rfl,rfl⟩;exact⟨_,_,rfl,rfl,Go.RowKit.Below.refl _ _,λd=> .bool _⟩
theorem zkh (s:Txt)(hl:s.length<=1000000000):PT 73 [.str s] (λr=>r=.bool (decide (okS s))):=by
 refine pwP zx8 ?_;by_cases a:s= [];.subst a;simp[zjQ,okS]
 .simp[zjQ,a,okS];omega
theorem z18 (n:NameM)(s:Txt):PT 139 [.agg (zcD n),.str s] (λr=>r=.int .i64 (Lib.compareBytes n.name s)):=by refine pwP zsm ?_;simp[zlg,zcD];refine zad (zt9 n.name s) ?_;simp
theorem zj3 (l:List NameM)(s:Txt)(hs:Srt kN l)(hl:l.length<=1000000000):PT 74 [.lst (zam l),.str s] (λr=>r=.tup [.int .i64 (posK kN l s),.bool (decide (hasK kN l s))]):=by
 refine pwP zwI ?_;simp[zoX];have t:=zlR (key:=kN) l s;have u:=bsNm (G:=G) (zam l) (zdp l) (by rw[za2];exact hl) (.str s) (by simp[AV.pure]) 139 zs0 (posK kN l s) (by rw[za2];exact t) (λi=>match l[i]? with|some n=>Lib.compareBytes n.name s|none=>0) (λi c o=>by obtain⟨n,a,rfl⟩:=z1s o;simp only[a];exact z18 n s) (λi p=>by obtain⟨n,a⟩:∃n,l[i]? =some n:=⟨l[i]'(by omega),yah (by omega)⟩;simp only[a];exact(zqQ _ _).2 (zqK p a)) (λi q j=>by rw[za2]at j;obtain⟨n,a⟩:∃n,l[i]? =some n:=⟨l[i]'j,yah j⟩;simp only[a];have:=zqM hs q a;exact Int.not_lt.1 λh=>this ((zqQ _ _).1 h));refine zad u ?_;simp;rw[za2];by_cases f:hasK kN l s;.obtain⟨n,a,m⟩:=(zdU hs).1 f;have:=(yaa.1 a).1;have v:=(zmp n.name s).2 m;obtain⟨g,d⟩:=yaa.1 a;simp[f,this,v,d]
 .by_cases b:posK kN l s<l.length;.obtain⟨n,a⟩:∃n,l[posK kN l s]? =some n:=⟨l[posK kN l s]'b,yah b⟩;have k:n.name≠s:=λe=>f ((zdU hs).2 ⟨n,a,e⟩);have:¬Lib.compareBytes n.name s=0:=λe=>k ((zmp _ _).1 e);obtain⟨g,d⟩:=yaa.1 a;simp[f,b,this,d]
  .simp[f,b]
theorem zzy (l:List NameM)(s:Txt)(id:Nat)(hs:Srt kN l)(hl:l.length<=1000000):PT 75 [.lst (zam l),.str s,.int .i64 id] (λr=>r=.lst (zam (insK kN l ⟨s,id⟩))):=by
 refine pwP zwP ?_;simp[zpx];refine zad (zj3 l s hs (by omega)) ?_;simp;refine zai (z5N (zam l) (zdp l) (by rw[za2];omega)) ?_;have k:=zlR (key:=kN) l s;rintro r σ (⟨h,rfl,rfl⟩|⟨rfl,rfl⟩)
 .have b:l= []:=by simpa[zam]using h
  subst b;simp;have j:posK kN [] s=0:=rfl;rw[j];refine zai (z8k (jd:=0) (T2:=101) (c:= [.str s,.int .i64 id]) (by simp) rfl (by simp[AV.pure])) ?_;rintro r σ ⟨rfl,rfl⟩;simp[insK,posK,zam,zcD]
 .simp;by_cases e:posK kN l s<l.length
  .refine zai (z9h (id:=0) (jd:=1) (T2:=101) (els:=zam l) (c:= [.str s,.int .i64 id]) (i:=posK kN l s) (by simp) (by simp) (by omega) (by rw[za2];exact e) (by rw[za2];omega)) ?_;rintro r σ ⟨rfl,rfl⟩;have a:=ztM l ⟨s,id⟩;simp only[zcD]at a;rw[a];have d:(zam l).length+1=(zam (insK kN l ⟨s,id⟩)).length:=by rw[za2,za2,zkw]
   rw[d];simp[zqv]
  .have f:posK kN l s=l.length:=(by omega);rw[f];have g:=za2 l;rw[<-g];refine zai (z7S (id:=0) (jd:=1) (T2:=101) (els:=zam l) (c:= [.str s,.int .i64 id]) (by simp) (by simp) (zdp l) rfl (by simp[AV.pure]) (by rw[za2];omega)) ?_;rintro r σ ⟨rfl,rfl⟩;have a:=ztM l ⟨s,id⟩;rw[f,<-g,yav,ydx]at a;simp only[zcD]at a;rw[a];have d:(zam l).length+1=(zam (insK kN l ⟨s,id⟩)).length:=(by rw[za2,za2,zkw]);rw[d];simp[zqv]
end Go.Proofs.YtdbhocoeolhjhaaGreatDoor
namespace Go.Num
theorem zAm {a b u v q r B:Nat}(hr:q*a+r=u):q*(a*B+b)+(B*r+v)=u*B+v+q*b:=by subst hr;rw[yej,ya8,yc7,ybw B r];omega
theorem zza {a b u v q r B:Nat}(hy:0<a*B+b)(hq:(u*B+v)/(a*B+b)<=q)(hr:q*a+r=u)(h:q*b<=B*r+v):q=(u*B+v)/(a*B+b):=by have:=zAm (b:=b) (v:=v) (B:=B) hr;exact Nat.le_antisymm ((Nat.le_div_iff_mul_le hy).2 (by omega)) hq
theorem zqh {a b u v q r B:Nat}(hy:0<a*B+b)(hq:(u*B+v)/(a*B+b)<=q)(hr:q*a+r=u)(hB:B<=r)(hqB:q<=B)(hb:b<B):q=(u*B+v)/(a*B+b):=by refine zza hy hq hr ?_;have c:q*b<=B*B:=yer hqB (yey hb);have d:B*B<=B*r:=yc4 B hB;omega
theorem z6l {a b u v q r B:Nat}(hy:0<a*B+b)(hu:u<a*B+b)(hv:v<B)(hr:q*a+r=u)(h:B<=q∨B*r+v<q*b):(u*B+v)/(a*B+b)<q:=by
 rw[ycv hy];rcases h with h|h
 .have c:u*B+v<(u+1)*B:=by rw[ya8];omega
  have d:(u+1)*B<=(a*B+b)*B:=yat B hu;have e:(a*B+b)*B<=q*(a*B+b):=by rw[ybw q];exact yc4 _ h
  omega
 .have:=zAm (b:=b) (v:=v) (B:=B) hr;omega
theorem z09 {a b u v B:Nat}(ha:0<a)(hv:v<B):(u*B+v)/(a*B+b)<=u/a:=by
 have d:0<B:=by omega
 rw[Nat.le_div_iff_mul_le ha];have e:(u*B+v)/(a*B+b)*(a*B+b)<=u*B+v:=yb9 _ _;have f:(u*B+v)/(a*B+b)*(a*B)<=(u*B+v)/(a*B+b)*(a*B+b):=yc4 _ (Nat.le_add_right _ _);have c:(u*B+v)/(a*B+b)*a*B<(u+1)*B:=by rw[yc7,ya8];omega
 have:=Nat.lt_of_mul_lt_mul_right c;omega
theorem z8y {a b u B:Nat}(ha:B<=2*a)(hb:b<B)(hu:u<a*B+b):u/a<=B+1:=by
 have c:0<a:=by omega
 have:u<(B+2)*a:=by
  have e:(B+2)*a=a*B+2*a:=by rw[ya8,ybw B a]
  omega
 have:=(ycv c).2 this;omega
theorem zsX {y h l B:Nat}(hy:0<y):let q1:=h/y;let a:=h%y;(h*B+l)/y=q1*B+(a*B+l)/y/\(h*B+l)%y=(a*B+l)%y:=by
 intro q1 a;have e:h*B+l=y*(q1*B)+(a*B+l):=by
  have:=ycq h y;have b:h*B=(y*q1+a)*B:=by rw[this]
  rw[b,ya8,yc7];omega
 rw[e];exact⟨Nat.mul_add_div hy _ _,Nat.mul_add_mod _ _ _⟩
theorem z11 {hi lo y M B P R:Nat}(hM:M=R*P)(hMB:M=B*B)(hp:0<P)(hy:0<y){u32 u10 h q1 u21 g:Nat}
  (e1:u32=hi*P+lo/R) (e2:u10=lo*P%M) (e3:h=u32*B+u10/B) (e4:q1=h/(y*P)) (e5:u21=h%(y*P)) (e6:g=u21*B+u10%B):
  (hi*M+lo)/y=q1*B+g/(y*P)/\(hi*M+lo)%y=g%(y*P)/P:=by
 have b:0<y*P:=Nat.mul_pos hy hp;have c:lo*P=lo/R*M+u10:=by
  have a:=ycq (lo*P) M;have d:lo*P/M=lo/R:=by rw[hM];exact Nat.mul_div_mul_right _ _ hp
  rw[d,ybw,<-e2]at a;exact a.symm
 have k:u10/B*B+u10%B=u10:=by have:=ycq u10 B;rw[ybw]at this;exact this
 have i:(hi*M+lo)*P=h*B+u10%B:=by
  have a:(hi*M+lo)*P=hi*P*M+lo*P:=by rw[ya8,yc7,ybw M P,<-yc7]
  have d:h*B=u32*M+u10/B*B:=by rw[e3,ya8,yc7,<-hMB]
  have m:u32*M=hi*P*M+lo/R*M:=by rw[e1,ya8]
  rw[a,c,d,m,yea (hi*P*M+lo/R*M),k,yea]
 obtain⟨e,f⟩:=zsX (y:=y*P) (h:=h) (l:=u10%B) (B:=B) b;rw[<-e4,<-e5,<-e6]at e;rw[<-e5,<-e6]at f;have n:(hi*M+lo)/y=(hi*M+lo)*P/(y*P):=(Nat.mul_div_mul_right _ _ hp).symm;have j:(hi*M+lo)*P%(y*P)=(hi*M+lo)%y*P:=Nat.mul_mod_mul_right _ _ _;constructor;.rw[n,i];exact e
 .rw[i,f]at j;rw[j,ydi _ hp]
abbrev N:=Bool×Int
abbrev most:Int:=9223372036854775807
def good (n:N):Bool:= !n.1&&decide (-most<=n.2)
def zp4 (n:N):Bool:=if n.1 then decide (n.2=0)else decide (-most<=n.2)
def zbK:N:=(true,0)
def tell (s:Int):N:=if -most<=s/\s<=most then(false,s)else zbK
def addN (a b:N):N:=if good a&&good b then tell (a.2+b.2)else zbK
def zs2 (a b:N):N:=if good a then(if good b then(if a.2<=b.2 then a else b)else a)else if good b then b else zbK
def zs4 (a b:N):N:=if good a then(if good b then(if b.2<=a.2 then a else b)else a)else if good b then b else zbK
def rnd (x d:Nat):Nat:=x/d+(if d-x%d<=x%d then 1 else 0)
def sgn (below:Bool)(n:Nat):Int:=if below then -(n:Int)else n
def divN (a b:N):N:=if good a&&good b&&decide (b.2≠0)then tell (sgn (decide (a.2<0) !=decide (b.2<0)) (rnd (a.2.natAbs*1000000) b.2.natAbs))else zbK
def zD1 (l:List N):List N:=l.filter good
end Go.Num
namespace Go.Sf
open Go.Num
abbrev Slot:=Int×Int
def i64 (v:Int):Prop:= -9223372036854775808<=v/\v<=9223372036854775807
def zAp (step n i:Nat)(s:Slot):Prop:=(s.1= -1/\s.2=0)∨∃k:Nat,s.1=((k*step:Nat):Int)/\k*step<=1099511627776/\k%n=i/\i64 s.2/\s.2≠ -9223372036854775808
def zde (step:Nat)(l:List Slot):Prop:=∀i s,l[i]? =some s->zAp step l.length i s
def setR (step:Nat)(l:List Slot)(t:Nat)(v:Int):List Slot:=l.set (t/step%l.length) (((t/step*step:Nat):Int),v)
def getR (step:Nat)(l:List Slot)(t:Nat):Option Int:=match l[t/step%l.length]? with
 |some s=>if s.1=((t/step*step:Nat):Int)then some s.2 else none
 |none=>none
theorem zcR (step:Nat)(l:List Slot)(t:Nat)(v:Int):(setR step l t v).length=l.length:=by simp[setR]
theorem zff {step:Nat}{l:List Slot}{t:Nat}{v:Int}(h:zde step l)(ht:t<=1099511627776)(hv:i64 v)(hv2:v≠ -9223372036854775808):zde step (setR step l t v):=λi s a=>by
 rw[zcR];unfold setR at a;rw[List.getElem?_set]at a;split at a
 .rename_i e;split at a;.simp only[yab]at a;subst a;refine .inr ⟨t/step,rfl, ?_,e,hv,hv2⟩;have:=yb9 t step;omega
  .cases a
 .exact h i s a
theorem zCh {step:Nat}{l:List Slot}{t:Nat}{v:Int}(h:zde step l)(hg:getR step l t=some v):i64 v/\v≠ -9223372036854775808:=by
 unfold getR at hg;split at hg
 .rename_i s d;split at hg
  .rename_i e;simp only[yab]at hg;subst hg;rcases h _ _ d with ⟨a,_⟩|⟨k,_,_,_,b,c⟩
   .rw[a]at e;omega
   .exact⟨b,c⟩
  .cases hg
 .cases hg
structure LadM where
 fine:List Slot
 wide:List Slot
structure RightL (l:LadM):Prop where
 n1:l.fine.length=6
 n2:l.wide.length=5
 r1:zde 10 l.fine
 r2:zde 60 l.wide
def newL:LadM:=⟨List.replicate 6 (-1,0),List.replicate 5 (-1,0)⟩
def numO:Option Int->N
 |some v=>(false,v)
 |none=>(true,0)
def parts (l:List Slot)(t:Nat):Nat->List Int
 |0=> []
 |k+1=>parts l t k++(getR 10 l (t+k*10)).toList
def avgN (l:List Int):N:=divN (l.foldl (λa v=>addN a (tell v)) (tell 0)) (tell (l.length*1000000))
def zfQ (l:List Slot)(t:Nat):N:=if(parts l (t/60*60) 6).length<3 then(true,0)else avgN (parts l (t/60*60) 6)
def zc4 (l:LadM)(t now:Nat)(v:Int):LadM:=if now<t/10*10+60 then
  let f:=setR 10 l.fine t v;let n:=zfQ f t
  if n.1 then⟨f,l.wide⟩else⟨f,setR 60 l.wide t n.2⟩
 else⟨l.fine,setR 60 l.wide t v⟩
theorem zr1 (l:List Slot)(t:Nat):∀k,(parts l t k).length<=k
 |0=>by simp[parts]
 |k+1=>by have:=zr1 l t k;simp only[parts,yag];cases getR 10 l (t+k*10)<;>simp<;>omega
theorem zuE {l:List Slot}(h:zde 10 l)(t:Nat):∀k,∀v∈parts l t k,i64 v/\v≠ -9223372036854775808
 |0=>by simp[parts]
 |k+1=>λv a=>by
  simp only[parts,yai,Option.mem_toList]at a;rcases a with a|a
  .exact zuE h t k v a
  .exact zCh h a
theorem zAz (s:Int)(h:(tell s).1=false):i64 (tell s).2/\(tell s).2≠ -9223372036854775808:=by
 unfold tell at*;split;.rename_i a;unfold most at a;exact⟨⟨by simp only;omega,by simp only;omega⟩,by simp only;omega⟩
 .rename_i a;rw[if_neg a]at h;cases h
theorem zzq (a b:N)(h:(divN a b).1=false):i64 (divN a b).2/\(divN a b).2≠ -9223372036854775808:=by
 unfold divN at*;split;.rename_i c;rw[if_pos c]at h;exact zAz _ h
 .rename_i c;rw[if_neg c]at h;cases h
theorem zdl:RightL newL:=by refine⟨rfl,rfl,λi s a=> .inl ?_,λi s a=> .inl ?_⟩<;>(have:=yad a;simp[newL]at this;subst this;exact⟨rfl,rfl⟩)
theorem zvD {l:LadM}{t now:Nat}{v:Int}(h:RightL l)(ht:t<=1099511627776)(hv:i64 v)(hv2:v≠ -9223372036854775808):RightL (zc4 l t now v):=by
 unfold zc4;split
 .have c:=zff (t:=t) h.r1 ht hv hv2;simp only;split;.exact⟨by rw[zcR];exact h.n1,h.n2,c,h.r2⟩
  .rename_i d;have a:(zfQ (setR 10 l.fine t v) t).1=false:=by simpa using d
   have:i64 (zfQ (setR 10 l.fine t v) t).2/\(zfQ (setR 10 l.fine t v) t).2≠ -9223372036854775808:=by
    unfold zfQ at a⊢;split;.rename_i b;rw[if_pos b]at a;cases a
    .rename_i b;rw[if_neg b]at a;exact zzq _ _ a
   exact⟨by rw[zcR];exact h.n1,by rw[zcR];exact h.n2,c,zff h.r2 ht this.1 this.2⟩
 .exact⟨h.n1,by rw[zcR];exact h.n2,h.r1,zff h.r2 ht hv hv2⟩
end Go.Sf
namespace Go.Num
def bt (a i:Nat):Nat:=a/2^i%2
theorem z8U (a i:Nat):bt a i<2:=yb3 _ (by decide)
theorem zCE {hi lo i:Nat}(hl:lo<18446744073709551616)(h:i<64):bt (hi*18446744073709551616+lo) i=lo/2^i%2:=by
 unfold bt;have e:hi*18446744073709551616=2^i*(hi*2^(64-i)):=by rw[show(18446744073709551616:Nat)=2^i*2^(64-i) by rw[<-yex,show i+(64-i)=64 by omega]];rw[Nat.mul_left_comm]
 rw[e,Nat.mul_add_div (ydd i)];have a:hi*2^(64-i)=2*(hi*2^(63-i)):=by rw[show 64-i=(63-i)+1 by omega,ydb];rw[ybw (2^(63-i)) 2,Nat.mul_left_comm]
 rw[a,Nat.mul_add_mod]
theorem zCT {hi lo i:Nat}(hl:lo<18446744073709551616)(h:64<=i):bt (hi*18446744073709551616+lo) i=hi/2^(i-64)%2:=by
 unfold bt;have e:2^i=18446744073709551616*2^(i-64):=by rw[show(18446744073709551616:Nat)=2^64 by decide,<-yex,show 64+(i-64)=i by omega]
 rw[e,<-Nat.div_div_eq_div_mul];congr 2;omega
def zic (a b i:Nat):Nat:=(a%2^i+b%2^i)%2^i
def sumC (a b i:Nat):Nat:=(a%2^i+b%2^i)/2^i
theorem z6Y (a b i:Nat):zic a b (i+1)=zic a b i+2^i*((bt a i+bt b i+sumC a b i)%2)/\sumC a b (i+1)=(bt a i+bt b i+sumC a b i)/2:=by
 have j:=ydd i;have l:=Nat.mod_pow_succ (x:=a) (b:=2) (k:=i);have m:=Nat.mod_pow_succ (x:=b) (b:=2) (k:=i);have p:=ycq (a%2^i+b%2^i) (2^i);have e:a%2^(i+1)+b%2^(i+1)=2^i*(bt a i+bt b i+sumC a b i)+zic a b i:=by rw[l,m];unfold sumC zic bt;rw[yej,yej];omega
 have n:zic a b i<2^i:=yb3 _ j;obtain⟨s,g⟩:∃s,bt a i+bt b i+sumC a b i=s:=⟨_,rfl⟩;rw[g]at e⊢;have f:2^i*s+zic a b i=2^(i+1)*(s/2)+(zic a b i+2^i*(s%2)):=by
  have:=ycq s 2;have h:2^i*s=2^i*(2*(s/2)+s%2):=by rw[this]
  rw[h,yej,ydb,yc7];omega
 have c:zic a b i+2^i*(s%2)<2^(i+1):=by
  have o:s%2<=1:=by have:=yb3 s (show 0<2 by decide);omega
  have:=yc4 (2^i) o;rw[ydb];omega
 have d:=ydd (i+1);constructor;.show(a%2^(i+1)+b%2^(i+1))%2^(i+1)=_;rw[e,f,Nat.mul_add_mod,ybo c]
 .show(a%2^(i+1)+b%2^(i+1))/2^(i+1)=_;rw[e,f,Nat.mul_add_div d,yen c];omega
theorem zAG (a b i:Nat):sumC a b i<=1:=by
 have c:=ydd i;have d:=yb3 a c;have e:=yb3 b c;unfold sumC;have:(a%2^i+b%2^i)/2^i<2:=by rw[ycv c];omega
 omega
theorem z7E (x y i:Nat):x*(y%2^(i+1))=x*(y%2^i)+(if bt y i=1 then x*2^i else 0):=by
 have h:=Nat.mod_pow_succ (x:=y) (b:=2) (k:=i);have c:=z8U y i;unfold bt at*;rw[h,yej];split;.rename_i a;rw[a,Nat.mul_one]
 .have:y/2^i%2=0:=by omega
  rw[this];simp
theorem z92 (a i:Nat):a/2^i=2*(a/2^(i+1))+bt a i:=by
 have:a/2^(i+1)=a/2^i/2:=by rw[ydb,Nat.div_div_eq_div_mul]
 rw[this];unfold bt;omega
theorem z9D {n d q r b:Nat}(h:n=q*d+r)(hr:r<d)(hb:b<2):(2*r+b<d->2*n+b=(2*q)*d+(2*r+b))/\(d<=2*r+b->2*n+b=(2*q+1)*d+(2*r+b-d)/\2*r+b-d<d):=by
 subst h;constructor;.intro _;rw[yej,yc7];omega
 .intro h;refine⟨?_,by omega⟩;rw[yej,ya8,yc7];omega
end Go.Num
namespace Go.Num
open Go.Abs
theorem zzA (a:Nat)(h:a<18446744073709551616):(BitVec.ofInt 64 (a:Int)).toNat=a:=by rw[BitVec.toNat_ofInt];omega
theorem ziC (a:Nat)(h:a<18446744073709551616):IntKind.u64.wrap (a:Int)=a:=by have:=Go.IntKind.wrap;simp[IntKind.wrap,IntKind.signed,IntKind.bits];omega
theorem and_one (a:Nat)(h:a<18446744073709551616):zbM .and .u64 (a:Int) 1=some ((a%2:Nat):Int):=by
 have e:(BitVec.ofInt 64 (a:Int)&&&BitVec.ofInt 64 1).toNat=a%2:=by rw[BitVec.toNat_and,zzA a h,show(BitVec.ofInt 64 1).toNat=1 by decide,Nat.and_one_is_mod]
 show some (IntKind.u64.wrap ((BitVec.ofInt 64 (a:Int)&&&BitVec.ofInt 64 1).toNat:Int))=_;rw[e,ziC _ (by omega)]
theorem zn4 (a b:Nat)(h:a<18446744073709551616)(h2:b<18446744073709551616):zbM .or .u64 (a:Int) (b:Int)=some ((a|||b:Nat):Int):=by
 have e:(BitVec.ofInt 64 (a:Int)|||BitVec.ofInt 64 (b:Int)).toNat=a|||b:=by rw[BitVec.toNat_or,zzA a h,zzA b h2]
 have c:a|||b<18446744073709551616:=Nat.or_lt_two_pow (n:=64) h h2
 show some (IntKind.u64.wrap ((BitVec.ofInt 64 (a:Int)|||BitVec.ofInt 64 (b:Int)).toNat:Int))=_;rw[e,ziC _ c]
theorem zgF (a n:Nat)(h:a<18446744073709551616)(hn:n<=64):zas .shr .u64 (a:Int) n=some ((a/2^n:Nat):Int):=by show some ((a:Int).fdiv (2^min n 64))=_;rw[ybt hn];congr 1;rw[show((2:Int)^n)=((2^n:Nat):Int) by push_cast;rfl];exact Int.ofNat_fdiv _ _|>.symm
theorem zjn (a n:Nat)(hn:n<=64):zas .shl .u64 (a:Int) n=some ((a*2^n%18446744073709551616:Nat):Int):=by show some (IntKind.u64.wrap ((a:Int)*2^min n 64))=_;rw[ybt hn];rw[show(a:Int)*2^n=((a*2^n:Nat):Int) by push_cast;rfl];simp[IntKind.wrap,IntKind.signed,IntKind.bits]
end Go.Num
namespace Go.Num
theorem zgh {n:N}:good n=true↔n.1=false/\ -most<=n.2:=by simp[good]
theorem z3N:tell 0=(false,0):=by decide
theorem add_zero {k:N}(h:good k=true)(h2:k.2<=most):addN (tell 0) k=k:=by
 obtain⟨a,b⟩:=zgh.1 h;have c:good (tell 0)=true:=by decide
 unfold addN;rw[c,h];simp only[Bool.and_self,if_true];rw[z3N];unfold tell;simp only[Int.zero_add];rw[if_pos ⟨b,h2⟩,<-a]
end Go.Num
namespace Go.Num
open Go.Abs
def numA (n:N):AV:=.agg [.bool n.1,.int .i64 n.2]
def wA (n:Nat):AV:=.agg [.int .u64 ((n/18446744073709551616:Nat):Int),.int .u64 ((n%18446744073709551616:Nat):Int)]
def okN (n:N):Prop:= -9223372036854775808<=n.2/\n.2<=9223372036854775807
theorem zba (x:Int):IntKind.u64.wrap x=x%18446744073709551616:=by simp[IntKind.wrap,IntKind.signed,IntKind.bits]
theorem zdW {x:Int}(h1: -9223372036854775808<=x)(h2:x<=9223372036854775807):IntKind.i64.wrap x=x:=wrap_i64 h1 h2
theorem za9 (s:Int):okN (tell s):=by
 unfold tell okN;split;.rename_i h;simp only[most]at h;simp only;omega
 .simp[zbK]
theorem zow:okN zbK:=by simp[okN,zbK]
theorem zDq (a b:N):okN (addN a b):=by
 unfold addN;split;.exact za9 _
 .exact zow
theorem zCp {a b:N}(ha:okN a)(hb:okN b):okN (zs2 a b):=by
 unfold zs2;repeat' split
 all_goals first|exact ha|exact hb|exact zow
theorem zBN {a b:N}(ha:okN a)(hb:okN b):okN (zs4 a b):=by
 unfold zs4;repeat' split
 all_goals first|exact ha|exact hb|exact zow
theorem zzN (a:Nat)(h:a<18446744073709551616):zbM .and .u64 (a:Int) 4294967295=some ((a%4294967296:Nat):Int):=by
 have e:(BitVec.ofInt 64 (a:Int)&&&BitVec.ofInt 64 4294967295).toNat=a%4294967296:=by rw[BitVec.toNat_and,zzA a h,show(BitVec.ofInt 64 4294967295).toNat=2^32-1 by decide,Nat.and_two_pow_sub_one_eq_mod]
 show some (IntKind.u64.wrap ((BitVec.ofInt 64 (a:Int)&&&BitVec.ofInt 64 4294967295).toNat:Int))=_;rw[e,ziC _ (by omega)]
theorem zA0 {hi lo y s:Nat}(hhi:hi<y)(hy:y*2^s<18446744073709551616)(hs:s<=63)(hlo:lo<18446744073709551616):(hi*2^s%18446744073709551616|||lo/2^(64-s))=hi*2^s+lo/2^(64-s):=by
 have a:hi*2^s<18446744073709551616:=yc0 (yat _ (yey hhi)) hy;rw[ybo a];have b:lo/2^(64-s)<2^s:=by rw[ycv (ydd _),<-yex,show s+(64-s)=64 by omega];exact hlo
 have:=yc3 b hi;rw[ybw (2^s) hi]at this;exact this.symm
theorem zxK {y:Nat}(h0:0<y)(h:y<18446744073709551616):∃s:Nat,s<=63/\Lib.bitLen y=64-s/\9223372036854775808<=y*2^s/\y*2^s<18446744073709551616:=by
 obtain⟨c,a,b⟩:=Lib.bitLenAux_bounds 64 y (by simpa using h) (by omega);have d:Lib.bitLen y<=64:=Lib.bitLen_le y 64 (by decide) (by simpa using h);change 1<=Lib.bitLen y at c;change 2^(Lib.bitLen y-1)<=y at a;change y<2^Lib.bitLen y at b;refine⟨64-Lib.bitLen y,by omega,by omega, ?_, ?_⟩
 .have e:2^(Lib.bitLen y-1)*2^(64-Lib.bitLen y)=9223372036854775808:=by rw[<-yex,show Lib.bitLen y-1+(64-Lib.bitLen y)=63 by omega]
  rw[<-e];exact yat _ a
 .have e:2^Lib.bitLen y*2^(64-Lib.bitLen y)=18446744073709551616:=by rw[<-yex,show Lib.bitLen y+(64-Lib.bitLen y)=64 by omega]
  rw[<-e];exact Nat.mul_lt_mul_of_pos_right b (ydd _)
end Go.Num
namespace Go.Proofs.YtdbhocoeolhjhaaGreatDoor
open Go.Abs Go.Num
variable {G:Globs}
theorem zpX (n:N):PT 313 [numA n] (λr=>r=.bool (good n)):=by refine pwP zuC ?_;obtain⟨b,v⟩:=n;cases b<;>simp[zmB,numA,good,most]
theorem zcx:PT 314 [] (λr=>r=numA zbK):=by refine pwP zq1 ?_;simp[zj9,numA,zbK]
theorem z5B (n:N)(h: -9223372036854775807<=n.2)(h2:n.2<=9223372036854775807):PT 315 [numA n] (λr=>r=.tup [.int .u64 n.2.natAbs,.bool (decide (n.2<0))]):=by
 refine pwP zwL ?_;obtain⟨b,v⟩:=n;simp only at h h2;simp[zpk,numA];refine zap (λc=> ?_) (λd=> ?_)
 .have e:IntKind.i64.wrap (-v)= -v:=zdW (by omega) (by omega);have a:IntKind.u64.wrap (-v)= -v:=by rw[zba];omega
  simp[e,a,c];omega
 .have a:IntKind.u64.wrap v=v:=by rw[zba];omega
  have f:¬v<0:=by omega
  simp[a,f];omega
theorem zC1 (n:Nat)(hn:n<18446744073709551616)(b:Bool):PT 335 [.int .u64 n,.bool b] (λr=>r=numA (tell (sgn b n))):=by
 refine pwP zxo ?_;simp[zpc];refine zap (λd=> ?_) (λe=> ?_)
 .simp;refine zad zcx ?_;have:tell (sgn b n)=zbK:=by unfold tell sgn most;cases b<;>simp<;>omega
  simp[this,numA]
 .have c:IntKind.i64.wrap (n:Int)=n:=zdW (by omega) (by omega);have a:IntKind.i64.wrap (-(n:Int))= -n:=zdW (by omega) (by omega);cases b;.have:tell (sgn false n)=(false,(n:Int)):=(by unfold tell sgn most;simp;omega);simp[c,this,numA]
  .have:tell (sgn true n)=(false, -(n:Int)):=(by unfold tell sgn most;simp;omega);simp[c,a,this,numA]
theorem z5I (n:Int)(h0: -9223372036854775808<=n)(h1:n<=9223372036854775807):PT 284 [.int .i64 n] (λr=>r=numA (tell (n*1000000))):=by
 refine pwP zy9 ?_;by_cases g:9223372036854<n∨n< -9223372036854
 .have a:tell (n*1000000)=zbK:=by unfold tell most;rw[if_neg];omega
  have e:(decide (9223372036854<n)||decide (n< -9223372036854))=true:=by simpa using g
  rcases Decidable.em (9223372036854<n)with h|h;.simp[ziE,h];refine zad zcx ?_;simp[a,numA]
  .have b:n< -9223372036854:=(by omega);simp[ziE,h,b];refine zad zcx ?_;simp[a,numA]
 .have c:¬9223372036854<n:=by omega
  have d:¬n< -9223372036854:=by omega
  have a:tell (n*1000000)=(false,n*1000000):=by unfold tell most;rw[if_pos];omega
  have f:IntKind.i64.wrap (n*1000000)=n*1000000:=zdW (by omega) (by omega);simp[ziE,c,d,f,a,numA]
theorem zBk (a b:N)(ha:okN a)(hb:okN b):PT 317 [numA a,numA b] (λr=>r=numA (addN a b)):=by
 refine pwP zyS ?_;obtain⟨p,q⟩:=ha;obtain⟨s,t⟩:=hb;simp[zre,numA];refine zad (zpX a) ?_;by_cases f:good a=true
 .simp[f];refine zad (zpX b) ?_;by_cases j:good b=true
  .obtain⟨x,v⟩:=a;obtain⟨y,u⟩:=b;simp only at p q s t;obtain⟨n,w⟩:=zgh.1 f;obtain⟨o,z⟩:=zgh.1 j;simp only[most]at n w o z;subst n o;have e:addN (false,v) (false,u)=tell (v+u):=(by simp[addN,f,j]);rw[e];simp[j];by_cases g:0<u
   .have m:IntKind.i64.wrap (9223372036854775807-u)=9223372036854775807-u:=zdW (by omega) (by omega);have c:¬u<0:=(by omega);by_cases h:9223372036854775807-u<v;.have i:tell (v+u)=zbK:=(by unfold tell most;rw[if_neg];omega);simp[g,m,h];refine zad zcx ?_;simp[numA,i]
    .have i:tell (v+u)=(false,v+u):=(by unfold tell most;rw[if_pos];omega);have d:IntKind.i64.wrap (v+u)=v+u:=zdW (by omega) (by omega);simp[g,c,m,h,i,d]
   .by_cases c:u<0
    .have m:IntKind.i64.wrap (-9223372036854775807-u)= -9223372036854775807-u:=zdW (by omega) (by omega);by_cases h:v< -9223372036854775807-u;.have i:tell (v+u)=zbK:=(by unfold tell most;rw[if_neg];omega);simp[g,c,m,h];refine zad zcx ?_;simp[numA,i]
     .have i:tell (v+u)=(false,v+u):=(by unfold tell most;rw[if_pos];omega);have d:IntKind.i64.wrap (v+u)=v+u:=zdW (by omega) (by omega);simp[g,c,m,h,i,d]
    .have i:tell (v+u)=(false,v+u):=(by unfold tell most;rw[if_pos];omega);have d:IntKind.i64.wrap (v+u)=v+u:=zdW (by omega) (by omega);simp[g,c,i,d]
  .have k:good b=false:=(by simpa using j);simp[k];refine zad zcx ?_;simp[addN,f,k,numA]
 .have l:good a=false:=by simpa using f
  simp[l];refine zad zcx ?_;simp[addN,l,numA]
theorem z0y (x y:Nat)(hx:x<18446744073709551616)(hy:y<18446744073709551616):PT 312 [.int .u64 x,.int .u64 y] (λr=>r=.tup [.int .u64 ((x*y/18446744073709551616:Nat):Int),.int .u64 ((x*y%18446744073709551616:Nat):Int)]):=zrr λa κ i w v u k b c=>by
  cases b.int_inv;cases c.int_inv;refine(Tryz.bits_Mul64 x y hx hy w).mono ?_;rintro e h ⟨rfl,rfl⟩;exact⟨_,_,rfl,rfl,Go.RowKit.Below.refl _ _,λd=> .tup _ [_,_] rfl λj f g=>by
   match j,f with
   |0,_=>exact .int _ _
   |1,_=>exact .int _ _⟩
theorem zC3 (x y:Nat)(hx:x<18446744073709551616)(hy:y<18446744073709551616):PT 334 [.int .u64 x,.int .u64 y] (λr=>r=wA (x*y)):=by refine pwP z1l ?_;simp[zt2];refine zad (z0y x y hx hy) ?_;simp[wA]
theorem zCs (y s:Nat)(hy:y<18446744073709551616)(hs:s<=63)(hb:Lib.bitLen y=64-s):PT 351 [.int .u64 y] (λr=>r=.int .i64 s):=z3n λa κ f w v g b=>by
  cases b.int_inv;refine(Tryz.bits_LeadingZeros64 y w (by omega) (by omega)).mono ?_;rintro e d ⟨rfl,rfl⟩;refine⟨_,_,rfl,rfl,Go.RowKit.Below.refl _ _,λc=> ?_⟩;have e:(64-(Lib.bitLen (y:Int).toNat:Int))=s:=by rw[ydr,hb];omega
  rw[e];exact .int _ _
theorem zAB (n a:Nat)(hn:n<18446744073709551616):IntKind.u64.wrap ((n:Int)/a)=((n/a:Nat):Int):=by have c:n/a<=n:=yde _ _;have b:((n/a:Nat):Int)=(n:Int)/a:=Int.natCast_ediv n a;rw[zba,<-b];generalize n/a=k at*;omega
theorem zC8 (n a:Nat):(n:Int)%a=((n%a:Nat):Int):=(Int.natCast_emod n a).symm
theorem zDp {u a q r v B b Y:Nat}(hB:B=4294967296)(ha:a<B)(hq:q<=B+1)(hr:r<B)(hv:v<B)(hb:b<B)(hqa:q*a+r=u)(huM:u<18446744073709551616):(q:Int)*a%18446744073709551616=q*a/\(B:Int)*r%18446744073709551616=B*r/\((B:Int)*r+v)%18446744073709551616=B*r+v:=by
 have c:((q*a:Nat):Int)=(q:Int)*a:=by push_cast;rfl
 have d:((B*r:Nat):Int)=(B:Int)*r:=by push_cast;rfl
 have e:B*r<=B*(B-1):=yc4 B (by omega);subst hB;rw[<-c,<-d];omega
theorem z8e (hi lo y:Nat)(hhi:hi<y)(hyM:y<18446744073709551616)(hlo:lo<18446744073709551616):
  PT 349 [.int .u64 hi,.int .u64 lo,.int .u64 y] (λr=>r=.tup [.int .u64 (((hi*18446744073709551616+lo)/y:Nat):Int),.int .u64 (((hi*18446744073709551616+lo)%y:Nat):Int)]):=by
 obtain⟨Q,hQ⟩:∃Q,Q=(hi*18446744073709551616+lo)/y:=⟨_,rfl⟩;obtain⟨R,hR⟩:∃R,R=(hi*18446744073709551616+lo)%y:=⟨_,rfl⟩;rw[<-hQ,<-hR];refine pwP zoM ?_;have b8:¬(y:Int)=0:=by omega
 have ai:¬y=0:=by omega
 have bk:¬(y:Int)<=hi:=by omega
 have b5:¬y<=hi:=by omega
 by_cases h0:hi=0
 .subst h0;have e1:IntKind.u64.wrap ((lo:Int)/y)=Q:=by rw[zAB lo y hlo,hQ,Nat.zero_mul,ybl]
  have e2:(lo:Int).tmod y=R:=by rw[yda (by omega),zC8,hR,Nat.zero_mul,ybl]
  simp[zfl,ai,e1,e2]
 have b9:¬(hi:Int)=0:=by omega
 obtain⟨s,hs,bf,bg,T⟩:=zxK (y:=y) (by omega) hyM;obtain⟨Y,t⟩:∃Y,Y=y*2^s:=⟨_,rfl⟩;obtain⟨B,H⟩:∃B:Nat,B=4294967296:=⟨_,rfl⟩;rw[<-t]at bg T;have bl:IntKind.u64.wrap (s:Int)=s:=by rw[zba];omega
 have s2:zas .shl .u64 (y:Int) s=some (Y:Int):=by rw[zjn y s (by omega),t,ybo (by rw[<-t];exact T)]
 obtain⟨a,ha⟩:∃a,a=Y/4294967296:=⟨_,rfl⟩;obtain⟨b,hb⟩:∃b,b=Y%4294967296:=⟨_,rfl⟩;have s9:zas .shr .u64 (Y:Int) 32=some (a:Int):=by rw[zgF Y 32 T (by decide),ha]
 have bm:zbM .and .u64 (Y:Int) 4294967295=some (b:Int):=by rw[zzN Y T,hb]
 obtain⟨uh,am⟩:∃uh,uh=hi*2^s%18446744073709551616:=⟨_,rfl⟩;obtain⟨ul,ah⟩:∃ul,ul=lo/2^(64-s):=⟨_,rfl⟩;obtain⟨u,hu⟩:∃u,u=hi*2^s+lo/2^(64-s):=⟨_,rfl⟩;have a4:=zA0 (lo:=lo) hhi (by rw[<-t];exact T) hs hlo;rw[<-am,<-ah]at a4;have a5:u<Y:=by
  rw[hu,t];have h1:lo/2^(64-s)<2^s:=by rw[ycv (ydd _),<-yex,show s+(64-s)=64 by omega];exact hlo
  have h2:(hi+1)*2^s<=y*2^s:=yat _ hhi;rw[ya8]at h2;omega
 have a6:ul<18446744073709551616:=by rw[ah];exact yc0 (yde _ _) hlo
 have a7:uh<18446744073709551616:=by rw[am];exact yb3 _ (by decide)
 have bn:zas .shl .u64 (hi:Int) s=some (uh:Int):=by rw[zjn hi s (by omega),am]
 have bo:IntKind.u64.wrap (64-(s:Int))=((64-s:Nat):Int):=by rw[zba];omega
 have bp:zas .shr .u64 (lo:Int) (64-s)=some (ul:Int):=by rw[zgF lo (64-s) hlo (by omega),ah]
 have bq:zbM .or .u64 (uh:Int) (ul:Int)=some (u:Int):=by rw[zn4 uh ul a7 a6,a4,ah,hu]
 obtain⟨u10,U⟩:∃u10,u10=lo*2^s%18446744073709551616:=⟨_,rfl⟩;have aa:u10<18446744073709551616:=by rw[U];exact yb3 _ (by decide)
 have br:zas .shl .u64 (lo:Int) s=some (u10:Int):=by rw[zjn lo s (by omega),U]
 obtain⟨w,ay⟩:∃w,w=u10/4294967296:=⟨_,rfl⟩;obtain⟨m,az⟩:∃m,m=u10%4294967296:=⟨_,rfl⟩;have bs:zas .shr .u64 (u10:Int) 32=some (w:Int):=by rw[zgF u10 32 aa (by decide),ay]
 have bu:zbM .and .u64 (u10:Int) 4294967295=some (m:Int):=by rw[zzN u10 aa,az]
 have a8:a<B:=by omega
 have K:b<B:=by omega
 have ab:w<B:=by omega
 have ad:m<B:=by omega
 have bw:B<=2*a:=by omega
 have c:a*B+b=Y:=by rw[ha,hb,H];omega
 have aq:0<a:=by omega
 have b6:¬(a:Int)=0:=by omega
 have aj:¬a=0:=by omega
 have E:0<a*B+b:=by omega
 -- a digit's first L
 have L:∀n:Nat,n<Y->∃q r:Nat,IntKind.u64.wrap ((n:Int)/a)=q/\IntKind.u64.wrap ((n:Int)-IntKind.u64.wrap ((q:Int)*a))=r/\q*a+r=n/\r<B/\q<=B+1/\n/a<=q:=by
  intro n hn;refine⟨n/a,n%a, ?_, ?_, ?_, ?_, ?_,yaf _⟩;.exact zAB n a (by omega)
  .have e:((n/a*a:Nat):Int)=((n/a:Nat):Int)*a:=(by push_cast;rfl);rw[zba,zba,<-e];have:=ycq n a;rw[ybw]at this;omega
  .rw[ybw];exact ycq n a
  .have:=yb3 n aq;omega
  .exact z8y (b:=b) bw K (by rw[c];exact hn)
 simp[zfl,ai,bk,h0];refine zad (zCs y s hyM hs bf) ?_;obtain⟨q0,r0,g1,g2,g3,g4,g5,g6⟩:=L u a5;have bx:=ybu (z09 (b:=b) (u:=u) (v:=w) aq ab) g6;simp[-zas, -zbM,bl,s2,s9,bm,bn,bo,bp,bq,br,bs,bu,aj,g1,g2,ydr]
 -- the first digit
 refine z5k 0 (λf σ=>∃q:Nat,f 15=.int .u64 q/\q=(u*B+w)/Y/\f 2=.int .u64 Y/\f 8=.int .u64 s/\f 9=.int .u64 a/\f 10=.int .u64 b/\f 11=.int .u64 u/\f 13=.int .u64 w/\f 14=.int .u64 m/\σ= []) ?_ ?_
 .rintro f σ ⟨q1,j,a2,C,G,o,d,D,z,i,rfl⟩;obtain⟨u21,I⟩:∃u21,u21=(u*B+w)%Y:=⟨_,rfl⟩;have ae:0<Y:=by omega
  have ak:u21<Y:=by rw[I];exact yb3 _ ae
  have a9:=ycq (u*B+w) Y;rw[<-a2,<-I]at a9;obtain⟨p1,a0⟩:∃p1,p1=Y*q1:=⟨_,rfl⟩;have ba:(q1:Int)*Y=p1:=by rw[a0,ybw];push_cast;rfl
  have bz:IntKind.u64.wrap (IntKind.u64.wrap (IntKind.u64.wrap ((u:Int)*4294967296)+w)-IntKind.u64.wrap ((q1:Int)*Y))=u21:=by rw[ba];simp only[zba];rw[<-a0]at a9;subst H;omega
  obtain⟨q2,r2,e1,e2,e3,e4,e5,e6⟩:=L u21 ak;have b0:=ybu (z09 (b:=b) (u:=u21) (v:=m) aq ad) e6;simp[-zas, -zbM,C,o,D,z,j,bz,aj,e1,e2];refine z5k 2 (λf σ=>∃q:Nat,f 18=.int .u64 q/\q=(u21*B+m)/Y/\f 2=.int .u64 Y/\f 8=.int .u64 s/\f 10=.int .u64 b/\f 14=.int .u64 m/\f 9=.int .u64 a/\f 15=.int .u64 q1/\f 17=.int .u64 u21/\σ= []) ?_ ?_
  .clear C G o d D z i j;rintro f σ ⟨q3,bi,a3,C,G,d,i,o,j,J,rfl⟩;obtain⟨j1,j2⟩:=z11 (hi:=hi) (lo:=lo) (y:=y) (M:=18446744073709551616) (B:=B) (P:=2^s) (R:=2^(64-s)) (by rw[<-yex,show 64-s+s=64 by omega]) (by rw[H]) (ydd _) (by omega) (u32:=u) (u10:=u10) (h:=u*B+w) (q1:=q1) (u21:=u21) (g:=u21*B+m) hu U (by rw[ay,H]) (by rw[a2,t]) (by rw[I,t]) (by rw[az,H]);rw[<-t,<-a3,<-hQ]at j1;obtain⟨gm,an⟩:∃gm,gm=(u21*B+m)%Y:=⟨_,rfl⟩;rw[<-t,<-an,<-hR]at j2;have ca:Q<18446744073709551616:=by rw[hQ,ycv (by omega)];have:(hi+1)*18446744073709551616<=y*18446744073709551616:=yat _ hhi;rw[ybw 18446744073709551616 y];omega
   have k6:IntKind.u64.wrap (IntKind.u64.wrap ((q1:Int)*4294967296)+q3)=Q:=(by simp only[zba];subst H;omega);have b7:gm<Y:=(by rw[an];exact yb3 _ ae);have al:=ycq (u21*B+m) Y;rw[<-a3,<-an]at al;obtain⟨p3,a1⟩:∃p3,p3=Y*q3:=⟨_,rfl⟩;have bb:(q3:Int)*Y=p3:=(by rw[a1,ybw];push_cast;rfl);have bc:IntKind.u64.wrap (IntKind.u64.wrap (IntKind.u64.wrap ((u21:Int)*4294967296)+m)-IntKind.u64.wrap ((q3:Int)*Y))=gm:=(by rw[bb];simp only[zba];rw[<-a1]at al;subst H;omega);have bd:zas .shr .u64 (gm:Int) s=some (R:Int):=(by rw[zgF gm s (by omega) (by omega),j2]);simp[-zas, -zbM,C,G,i,j,J,bi,k6,bc,bd]
  ·-- its loop
   refine zac (λx f σ=>∃q r:Nat,x=q/\f 18=.int .u64 q/\f 16=.int .u64 r/\(u21*B+m)/Y<=q/\q*a+r=u21/\r<B/\q<=B+1/\f 2=.int .u64 Y/\f 8=.int .u64 s/\f 10=.int .u64 b/\f 14=.int .u64 m/\f 9=.int .u64 a/\f 15=.int .u64 q1/\f 17=.int .u64 u21/\σ= []) q2 ?_ ?_;.exact⟨q2,r2,rfl,by simp,by simp,by rw[<-c];exact b0,e3,e4,e5,by simp[C],by simp[G],by simp[d],by simp[i],by simp[o],by simp[j],by simp,rfl⟩
   rintro x f σ ⟨q,r,bj,fq,fr,Z,A,hr,ao,C,G,d,i,o,j,J,rfl⟩;obtain⟨m1,m2,m3⟩:=zDp (Y:=Y) H a8 ao hr ad K A (by omega);rw[<-c]at Z;obtain⟨S,bh⟩:∃S,S=r+a:=⟨_,rfl⟩;have af:IntKind.u64.wrap ((r:Int)+a)=(S:Int):=by rw[zba];omega
   have ar:IntKind.u64.wrap (4294967296*(r:Int))=4294967296*r:=(by rw[zba];omega);have ag:IntKind.u64.wrap (4294967296*(r:Int)+m)=4294967296*r+m:=(by rw[zba];omega);have F:B<=q∨B*r+m<q*b->1<=q/\(u21*B+m)/(a*B+b)<=q-1/\(q-1)*a+S=u21/\IntKind.u64.wrap ((q:Int)-1)=((q-1:Nat):Int):=(by intro h;have hn:=z6l (v:=m) E (by rw[c];exact ak) ad A h;have au:1<=q:=yc0 (ycm _) hn;refine⟨au,Nat.le_sub_one_of_lt hn, ?_,by rw[zba];omega⟩;obtain⟨k,rfl⟩:∃k,q=k+1:=⟨q-1,by omega⟩;rw[ya8]at A;simp only[Nat.add_sub_cancel];omega);by_cases ax:B<=q
   .obtain⟨b1,W,X,b4⟩:=F (.inl ax);have l:(4294967296:Int)<=q:=(by omega);have O:4294967296<=q:=(by omega);simp[fq,fr,o,l,b4,af];refine zap (λh=> ?_) (λh=> ?_);.simp;refine zfx ⟨q-1,by simp, ?_,by simp[C],by simp[G],by simp[d],by simp[i],by simp[o],by simp[j],by simp[J],rfl⟩;rw[<-c];exact zqh E W X (by omega) (by omega) K
    .simp;refine nx_i ⟨q-1,S,rfl,by simp,by simp,by rw[<-c];exact W,X,by omega,by omega,by simp[C],by simp[G],by simp[d],by simp[i],by simp[o],by simp[j],by simp[J],rfl⟩
   .have l:¬(4294967296:Int)<=q:=(by omega);have O:¬4294967296<=q:=(by omega);have be:q*b<18446744073709551616:=(by have h1:q*b<=(B-1)*(B-1):=yer (by omega) (by omega);subst H;omega);obtain⟨p,hp⟩:∃p,p=q*b:=⟨_,rfl⟩;have av:(q:Int)*b=p:=(by rw[hp];push_cast;rfl);have aw:IntKind.u64.wrap ((q:Int)*b)=p:=(by rw[av,zba];omega);simp[fq,fr,d,i,l,aw,ar,ag];refine zap (λh=> ?_) (λh=> ?_)
    .have h':B*r+m<q*b:=(by rw[<-hp,H];omega);obtain⟨b1,W,X,b4⟩:=F (.inr h');simp[fq,fr,o,b4,af];refine zap (λh=> ?_) (λh=> ?_);.simp;refine zfx ⟨q-1,by simp, ?_,by simp[C],by simp[G],by simp[d],by simp[i],by simp[o],by simp[j],by simp[J],rfl⟩;rw[<-c];exact zqh E W X (by omega) (by omega) K
     .simp;refine nx_i ⟨q-1,S,rfl,by simp,by simp,by rw[<-c];exact W,X,by omega,by omega,by simp[C],by simp[G],by simp[d],by simp[i],by simp[o],by simp[j],by simp[J],rfl⟩
    .simp;refine zfx ⟨q,by simp[fq], ?_,by simp[C],by simp[G],by simp[d],by simp[i],by simp[o],by simp[j],by simp[J],rfl⟩;rw[<-c];exact zza E Z A (by rw[<-hp,H];omega)
 ·-- its loop
  refine zac (λx f σ=>∃q r:Nat,x=q/\f 15=.int .u64 q/\f 16=.int .u64 r/\(u*B+w)/Y<=q/\q*a+r=u/\r<B/\q<=B+1/\f 2=.int .u64 Y/\f 8=.int .u64 s/\f 9=.int .u64 a/\f 10=.int .u64 b/\f 11=.int .u64 u/\f 13=.int .u64 w/\f 14=.int .u64 m/\σ= []) q0 ?_ ?_;.exact⟨q0,r0,rfl,by simp,by simp,by rw[<-c];exact bx,g3,g4,g5,by simp,by simp,by simp,by simp,by simp,by simp,by simp,rfl⟩
  rintro x f σ ⟨q,r,bj,fq,fr,Z,A,hr,ao,C,G,o,d,D,z,i,rfl⟩;obtain⟨m1,m2,m3⟩:=zDp (Y:=Y) H a8 ao hr ab K A (by omega);rw[<-c]at Z;obtain⟨S,bh⟩:∃S,S=r+a:=⟨_,rfl⟩;have af:IntKind.u64.wrap ((r:Int)+a)=(S:Int):=by rw[zba];omega
  have ar:IntKind.u64.wrap (4294967296*(r:Int))=4294967296*r:=by rw[zba];omega
  have ag:IntKind.u64.wrap (4294967296*(r:Int)+w)=4294967296*r+w:=by rw[zba];omega
  have F:B<=q∨B*r+w<q*b->1<=q/\(u*B+w)/(a*B+b)<=q-1/\(q-1)*a+S=u/\IntKind.u64.wrap ((q:Int)-1)=((q-1:Nat):Int):=by intro h;have hn:=z6l (v:=w) E (by rw[c];exact a5) ab A h;have au:1<=q:=yc0 (ycm _) hn;refine⟨au,Nat.le_sub_one_of_lt hn, ?_,by rw[zba];omega⟩;obtain⟨k,rfl⟩:∃k,q=k+1:=⟨q-1,by omega⟩;rw[ya8]at A;simp only[Nat.add_sub_cancel];omega
  by_cases ax:B<=q
  .obtain⟨b1,W,X,b4⟩:=F (.inl ax);have l:(4294967296:Int)<=q:=(by omega);have O:4294967296<=q:=(by omega);simp[fq,fr,o,l,b4,af];refine zap (λh=> ?_) (λh=> ?_);.simp;refine zfx ⟨q-1,by simp, ?_,by simp[C],by simp[G],by simp[o],by simp[d],by simp[D],by simp[z],by simp[i],rfl⟩;rw[<-c];exact zqh E W X (by omega) (by omega) K
   .simp;refine nx_i ⟨q-1,S,rfl,by simp,by simp,by rw[<-c];exact W,X,by omega,by omega,by simp[C],by simp[G],by simp[o],by simp[d],by simp[D],by simp[z],by simp[i],rfl⟩
  .have l:¬(4294967296:Int)<=q:=(by omega);have O:¬4294967296<=q:=(by omega);have be:q*b<18446744073709551616:=(by have h1:q*b<=(B-1)*(B-1):=yer (by omega) (by omega);subst H;omega);obtain⟨p,hp⟩:∃p,p=q*b:=⟨_,rfl⟩;have av:(q:Int)*b=p:=(by rw[hp];push_cast;rfl);have aw:IntKind.u64.wrap ((q:Int)*b)=p:=(by rw[av,zba];omega);simp[fq,fr,d,z,l,aw,ar,ag];refine zap (λh=> ?_) (λh=> ?_)
   .have h':B*r+w<q*b:=(by rw[<-hp,H];omega);obtain⟨b1,W,X,b4⟩:=F (.inr h');simp[fq,fr,o,b4,af];refine zap (λh=> ?_) (λh=> ?_);.simp;refine zfx ⟨q-1,by simp, ?_,by simp[C],by simp[G],by simp[o],by simp[d],by simp[D],by simp[z],by simp[i],rfl⟩;rw[<-c];exact zqh E W X (by omega) (by omega) K
    .simp;refine nx_i ⟨q-1,S,rfl,by simp,by simp,by rw[<-c];exact W,X,by omega,by omega,by simp[C],by simp[G],by simp[o],by simp[d],by simp[D],by simp[z],by simp[i],rfl⟩
   .simp;refine zfx ⟨q,by simp[fq], ?_,by simp[C],by simp[G],by simp[o],by simp[d],by simp[D],by simp[z],by simp[i],rfl⟩;rw[<-c];exact zza E Z A (by rw[<-hp,H];omega)
end Go.Proofs.YtdbhocoeolhjhaaGreatDoor
namespace Go.Num
open Go.Abs
theorem zdq {hi lo n:Nat}(h1:hi=n/18446744073709551616)(h2:lo=n%18446744073709551616):wA n=.agg [.int .u64 (hi:Int),.int .u64 (lo:Int)]:=by subst h1 h2;rfl
end Go.Num
namespace Go.Proofs.YtdbhocoeolhjhaaGreatDoor
open Go.Abs Go.Num
variable {G:Globs}
theorem zCa (a b:Nat)(ha:a<340282366920938463463374607431768211456)(hb:b<340282366920938463463374607431768211456):
  PT 346 [wA a,wA b] (λr=>r=.tup [wA ((a+b)%340282366920938463463374607431768211456),.bool (decide (340282366920938463463374607431768211456<=a+b))]):=by
 obtain⟨d,h⟩:∃x,x=a/18446744073709551616:=⟨_,rfl⟩;obtain⟨e,i⟩:∃x,x=a%18446744073709551616:=⟨_,rfl⟩;obtain⟨f,j⟩:∃x,x=b/18446744073709551616:=⟨_,rfl⟩;obtain⟨g,k⟩:∃x,x=b%18446744073709551616:=⟨_,rfl⟩;rw[zdq h i,zdq j k];obtain⟨m,p⟩:∃x,x=(e+g)%18446744073709551616:=⟨_,rfl⟩;obtain⟨c,q⟩:∃x,x=(e+g)/18446744073709551616:=⟨_,rfl⟩;obtain⟨o,s⟩:∃x,x=(d+f+c)%18446744073709551616:=⟨_,rfl⟩;obtain⟨l,t⟩:∃x,x=(d+f+c)/18446744073709551616:=⟨_,rfl⟩;rw[zdq (hi:=o) (lo:=m) (n:=(a+b)%340282366920938463463374607431768211456) (by omega) (by omega)];have u:((e:Int)+g)%18446744073709551616=m:=by omega
 have v:((e:Int)+g)/18446744073709551616=c:=by omega
 have w:((d:Int)+f+c)%18446744073709551616=o:=by omega
 have y:((d:Int)+f+c)/18446744073709551616=l:=by omega
 have z:(c:Int)<=1:=by omega
 have A:c<=1:=by omega
 have C:decide (l=1)=decide (340282366920938463463374607431768211456<=a+b):=by congr 1;apply propext;omega
 have B:decide ((l:Int)=1)=decide (340282366920938463463374607431768211456<=a+b):=by congr 1;apply propext;omega
 refine pwP z0X ?_;simp[ztu,u,v,w,y,z,B]
 try omega
theorem z4k (a d:Nat)(ha:a<340282366920938463463374607431768211456)(hd:d<18446744073709551616):
  PT 345 [wA a,.int .u64 d] (λr=>r=if d=0 then .tup [wA 0,.int .u64 0,.int .i64 1]else .tup [wA (a/d),.int .u64 ((a%d:Nat):Int),.int .i64 0]):=by
 refine pwP z1z ?_;by_cases p:d=0;.subst p;simp[znW,wA]
 obtain⟨f,m⟩:∃x,x=a/18446744073709551616:=⟨_,rfl⟩;obtain⟨k,n⟩:∃x,x=a%18446744073709551616:=⟨_,rfl⟩;rw[zdq m n];have w:¬(d:Int)=0:=by omega
 obtain⟨q,i⟩:∃x,x=f/d:=⟨_,rfl⟩;obtain⟨j,b⟩:∃x,x=f%d:=⟨_,rfl⟩;have z:IntKind.u64.wrap ((f:Int)/d)=q:=by rw[zAB f d (by omega),i]
 have A:(f:Int).tmod d=j:=by rw[yda (by omega),zC8,b]
 have c:j<d:=by rw[b];exact yb3 _ (by omega)
 obtain⟨s,t⟩:=zsX (y:=d) (h:=f) (l:=k) (B:=18446744073709551616) (by omega);have e:f*18446744073709551616+k=a:=by omega
 rw[e,<-i,<-b]at s;rw[e,<-b]at t;obtain⟨u,g⟩:∃x,x=(j*18446744073709551616+k)/d:=⟨_,rfl⟩;have v:u<18446744073709551616:=by rw[g,ycv (by omega)];have:(j+1)*18446744073709551616<=d*18446744073709551616:=yat _ c;rw[ybw 18446744073709551616 d];omega
 rw[<-g]at s;have o:wA (a/d)=.agg [.int .u64 (q:Int),.int .u64 (u:Int)]:=zdq (by omega) (by omega);rw[if_neg p,o,t];simp[znW,p,z,A];refine zc1 (z8e j k d c hd (by omega)) ?_;rw[<-g];rintro r rfl;simp
theorem z4p (a d:Nat)(ha:a<340282366920938463463374607431768211456)(hd:d<18446744073709551616):
  PT 333 [wA a,.int .u64 d] (λr=>r=if d=0 then .tup [.int .u64 0,.int .i64 1]else if rnd a d<18446744073709551616 then .tup [.int .u64 ((rnd a d:Nat):Int),.int .i64 0]else .tup [.int .u64 0,.int .i64 3]):=by
 refine pwP zxb ?_;have g:wA a=.agg [.int .u64 ((a/18446744073709551616:Nat):Int),.int .u64 ((a%18446744073709551616:Nat):Int)]:=rfl;by_cases w:d=0;.subst w;rw[g];simp[zjA];refine zad (z4k a 0 ha (by decide)) ?_;simp[wA]
 rw[if_neg w];rw[g];simp[zjA];refine zc1 (z4k a d ha hd) ?_;rw[if_neg w];obtain⟨q,j⟩:∃x,x=a/d:=⟨_,rfl⟩;obtain⟨m,k⟩:∃x,x=a%d:=⟨_,rfl⟩;have B:m<d:=by rw[k];exact yb3 _ (by omega)
 rw[<-j,<-k];rintro r rfl;have i:rnd a d=q+(if d-m<=m then 1 else 0):=by rw[rnd,<-j,<-k]
 rw[i];have C:wA q=.agg [.int .u64 ((q/18446744073709551616:Nat):Int),.int .u64 ((q%18446744073709551616:Nat):Int)]:=rfl;have b:IntKind.u64.wrap ((d:Int)-m)=((d-m:Nat):Int):=by rw[zba];omega
 obtain⟨D,l⟩:∃x,x=d-m:=⟨_,rfl⟩;rw[<-l]at b;have s:q<340282366920938463463374607431768211456:=by rw[j];exact yc0 (yde _ _) ha
 obtain⟨E,c⟩:∃x,x=q/18446744073709551616:=⟨_,rfl⟩;obtain⟨z,f⟩:∃x,x=q%18446744073709551616:=⟨_,rfl⟩;rw[zdq c f];simp[b];refine zap (λh=> ?_) (λh=> ?_)
 .have t:d-m<=m:=by omega
  have u:q+1<340282366920938463463374607431768211456:=by have v:2<=d:=(by omega);have:a/d<=a/2:=Nat.div_le_div_left v (by decide);omega
  simp;have y:=zCa (G:=G) q 1 s (by decide);rw[zdq c f,show wA 1=.agg [.int .u64 0,.int .u64 1] from rfl]at y;refine zad y ?_;rw[ybo u,if_pos t];obtain⟨F,n⟩:∃x,x=(q+1)/18446744073709551616:=⟨_,rfl⟩;obtain⟨A,o⟩:∃x,x=(q+1)%18446744073709551616:=⟨_,rfl⟩;rw[zdq n o];simp;refine zap (λp=> ?_) (λp=> ?_);.have:¬q+1<18446744073709551616:=(by omega);rw[if_neg this];simp
  .have:q+1<18446744073709551616:=(by omega);have e:A=q+1:=(by omega);rw[if_pos this];simp[e]
 .have t:¬d-m<=m:=by omega
  rw[if_neg t,ycf];simp;refine zap (λp=> ?_) (λp=> ?_);.have:¬q<18446744073709551616:=(by omega);rw[if_neg this];simp
  .have:q<18446744073709551616:=(by omega);have e:z=q:=(by omega);rw[if_pos this];simp[e]
theorem zyd (x y d:Nat)(hx:x<18446744073709551616)(hy:y<18446744073709551616)(hd:d<18446744073709551616)(b:Bool):
  PT 316 [.int .u64 x,.int .u64 y,.int .u64 d,.bool b] (λr=>r=numA (if d=0 then zbK else tell (sgn b (rnd (x*y) d)))):=by
 refine pwP zpC ?_;simp[ziX];refine zad (zC3 x y hx hy) ?_;have e:x*y<340282366920938463463374607431768211456:=by have a:x*y<=x*18446744073709551615:=yc4 x (by omega);omega
 have f:wA (x*y)=.agg [.int .u64 ((x*y/18446744073709551616:Nat):Int),.int .u64 ((x*y%18446744073709551616:Nat):Int)]:=rfl;rw[f];simp;refine zad (z4p (x*y) d e hd) ?_;by_cases c:d=0;.rw[if_pos c,if_pos c];simp;refine zad zcx ?_;simp[numA]
 .rw[if_neg c,if_neg c];by_cases a:rnd (x*y) d<18446744073709551616;.rw[if_pos a];simp;refine zad (zC1 _ a b) ?_;simp[numA]
  .rw[if_neg a];have:tell (sgn b (rnd (x*y) d))=zbK:=by unfold tell sgn most;cases b<;>simp<;>omega
   simp;refine zad zcx ?_;simp[numA,this]
theorem zA9 (a b:N)(ha:okN a)(hb:okN b):PT 282 [numA a,numA b] (λr=>r=numA (divN a b)):=by
 refine pwP zxE ?_;obtain⟨j,h⟩:=ha;obtain⟨k,i⟩:=hb;simp[zr4,numA];refine zad (zpX a) ?_;cases c:good a with
 |false=>simp;refine zad zcx ?_;simp[divN,c,numA]
 |true=>
  simp;refine zad (zpX b) ?_;cases d:good b with
  |false=>simp;refine zad zcx ?_;simp[divN,c,d,numA]
  |true=>
   have f:=(zgh.1 c).2;have g:=(zgh.1 d).2;simp only[most]at f g;simp;refine zad (z5B a f h) ?_;simp;refine zad (z5B b g i) ?_;simp;refine zad (zyd a.2.natAbs 1000000 b.2.natAbs (by omega) (by omega) (by omega) (decide (a.2<0) !=decide (b.2<0))) ?_;by_cases e:b.2=0;.simp[divN,c,d,e,numA]
   .simp[divN,c,d,e,numA]
end Go.Proofs.YtdbhocoeolhjhaaGreatDoor
