/- Shelf: records in frames; the bytes of points and of slots. Shelf: the bytes of points; a whole segment. Shelf: a row of slots that slices.SortFunc ha -/
import Derived.Test.YtdbhocoeolhjhaaGreatDoorSlLay
import Derived.Test.YtdbhocoeolhjhaaGreatDoorShelf
import Derived.Shelf.SlSortCmp.InsertionK
import Derived.Shelf.SlSortCmp.NoneTotal
import Derived.Test.YtdbhocoeolhjhaaGreatDoorBn1
import Derived.Test.YtdbhocoeolhjhaaGreatDoorBn2
import Derived.Test.YtdbhocoeolhjhaaGreatDoorBn3
import Derived.Test.YtdbhocoeolhjhaaGreatDoorBn4
set_option linter.unusedSimpArgs false
set_option linter.unusedVariables false
set_option linter.constructorNameAsVariable false
section
set_option maxHeartbeats 4000000
namespace Go.Sf
open Go.Abs
structure PtM where
 t:Nat
 now:Nat
 v:Int
end Go.Sf
namespace Go.Proofs.YtdbhocoeolhjhaaGreatDoor
open Go.Abs Go.RowKit Go.Sf
abbrev zgo (G:Globs):Prop:=(@Globs.tab G).lookup 2=some stepsC
variable {G:Globs}
theorem z1v (hT:zgo G)(X:AV)(hX:zuu X)(t now:Nat)(v:Int)(ht:t≤1099511627776)(hn:now≤1099511627776)(hv:v≠ -9223372036854775808)(hv2:i64 v){σ:zab}:ACalls Tryz.prog zdS [.agg (zci X t now v)] σ (λr σ'=>r=.tup [.row (σ.length+1) (zaI ((zdw t now v))).length,.int .i64 0]/\σ'=σ++ [.var 74 (zci X t now v),.row 5 1 (byteEls (zaI ((zdw t now v)))) false]):=by
 refine zaf hmix zeh rfl ?_
 have d:=z5V (G:=G) X hX t now v ht hn hv hv2
 simp only[zci]at d
 have a:(zdw t now v)≠ []:=by simp[zdw]
 have b:((zdw t now v)).length≤512:=by rw[zjC];omega
 have f:=zaj ((zdw t now v))
 rcases hX with rfl|rfl
 all_goals
  simp[zcX,zci]
  refine zac d (by simp[AV.pure]) ?_
  rintro r rfl
  simp
  refine zam (zhH hT (zdw t now v) a b) ?_
  rintro r σ' ⟨rfl,rfl⟩
  simp
  exact zqs (ext:= [.var 74 (zci _ t now v),.row 5 1 (byteEls (zaI (zdw t now v))) false]) (.tup [.row (σ.length+1) (zaI (zdw t now v)).length,.int .i64 0]) (by simp[za5]) (by simp[AV.under]) (λe c=>by
   simp only[ybb,ydy,or_false]at c
   rcases c with rfl|rfl
   ·simp[Entry.under,AV.under,zci]
   ·exact za3 (za4 _).2.1) ⟨rfl,by simp[zci]⟩
theorem z2j (hT:zgo G)(X:AV)(hX:zuu X)(i t:Nat)(v:Int)(hi:i<4)(ht:t≤1099511627776)(hv:v≠ -9223372036854775808)(hv2:i64 v){σ:zab}:ACalls Tryz.prog zdS [.agg (zdN X i t v)] σ (λr σ'=>r=.tup [.row (σ.length+1) (zaI ((zgN i t v))).length,.int .i64 0]/\σ'=σ++ [.var 74 (zdN X i t v),.row 5 1 (byteEls (zaI ((zgN i t v)))) false]):=by
 refine zaf hmix zeh rfl ?_
 have d:=z6b (G:=G) X hX i t v hi ht hv hv2
 simp only[zdN]at d
 have a:(zgN i t v)≠ []:=by simp[zgN]
 have b:((zgN i t v)).length≤512:=by rw[zlX];omega
 have f:=zaj ((zgN i t v))
 rcases hX with rfl|rfl
 all_goals
  simp[zcX,zdN]
  refine zac d (by simp[AV.pure]) ?_
  rintro r rfl
  simp
  refine zam (zhH hT (zgN i t v) a b) ?_
  rintro r σ' ⟨rfl,rfl⟩
  simp
  exact zqs (ext:= [.var 74 (zdN _ i t v),.row 5 1 (byteEls (zaI (zgN i t v))) false]) (.tup [.row (σ.length+1) (zaI (zgN i t v)).length,.int .i64 0]) (by simp[za5]) (by simp[AV.under]) (λe c=>by
   simp only[ybb,ydy,or_false]at c
   rcases c with rfl|rfl
   ·simp[Entry.under,AV.under,zdN]
   ·exact za3 (za4 _).2.1) ⟨rfl,by simp[zdN]⟩
theorem z3g (hT:zgo G)(p:Txt)(h0:p≠ [])(hl:p.length≤100){σ:zab}:ACalls Tryz.prog zdS [.agg (zbS p)] σ (λr σ'=>r=.tup [.row (σ.length+1) (zaI ((zdf p))).length,.int .i64 0]/\σ'=σ++ [.var 74 (zbS p),.row 5 1 (byteEls (zaI ((zdf p)))) false]):=by
 refine zaf hmix zeh rfl ?_
 have d:=zyq (G:=G) p h0 hl
 simp only[zbS]at d
 have a:(zdf p)≠ []:=by simp[zdf]
 have b:((zdf p)).length≤512:=by rw[zcW];omega
 have f:=zaj ((zdf p))
 have g:True:=trivial
 all_goals
  simp[zcX,zbS]
  refine zac d (by simp[AV.pure,rungsC]) ?_
  rintro r rfl
  simp
  refine zam (zhH hT (zdf p) a b) ?_
  rintro r σ' ⟨rfl,rfl⟩
  simp
  exact zqs (ext:= [.var 74 (zbS p),.row 5 1 (byteEls (zaI (zdf p))) false]) (.tup [.row (σ.length+1) (zaI (zdf p)).length,.int .i64 0]) (by simp[za5]) (by simp[AV.under]) (λe c=>by
   simp only[ybb,ydy,or_false]at c
   rcases c with rfl|rfl
   ·simp[Entry.under,AV.under,zbS,rungsC]
   ·exact za3 (za4 _).2.1) ⟨rfl,by simp[zbS]⟩
end Go.Proofs.YtdbhocoeolhjhaaGreatDoor
end
section
set_option maxHeartbeats 4000000
namespace Go.Abs
theorem zAw {σ:zab}{a b c:Entry}{tl:zab}:(σ++a::b::c::tl)[σ.length+1+1]? =some c:=by
 rw[yak (by omega),show σ.length+1+1-σ.length=2 by omega];rfl
theorem z92 {A B C x y z:Entry}{tl:zab}:(A::B::C::(tl++ [x,y,z]))[tl.length+1+1+1+1+1]? =some z:=by
 simp only[ycz]
 rw[yak (by omega),show tl.length+1+1-tl.length=2 by omega];rfl
theorem z9e {K:AV->zab->Prop}{t:Tg K}{e size bytes:Nat}{σ τ:zab}{v y:AV}{l m:List (List AV)}(h:AccT e size σ.length τ v l)(hv:view (σ++τ) y=some m)(hm:m≠ [])(hs:0<size)(hl:∀c∈m,c.length=size)(hf:zlT (σ++τ) y m)(hb:(l.length+m.length)*bytes≤140737488355328)(h63:l.length+m.length≤9223372036854775807)
  (hK:∀v' τ',AccT e size σ.length τ' v' (l++m)->τ.length≤τ'.length->K v' (σ++τ')):ap K t (σ++τ) e size bytes v y:=by
 rcases h with ⟨rfl,rfl⟩|⟨d,p,rfl,a⟩
 ·refine zeX true m hv hs hl (λ_=>hf) (by simpa using hb) (by simpa using h63) ?_
  have:=hK (.row (σ++τ).length m.length) (τ++ [.row e size m true]) (.inr ⟨by simpa using hm,τ.length,by simp,by simp⟩) (by simp)
  simpa using this
 ·obtain⟨b,_⟩:=yaa.1 a
  refine zbm l m true (by rw[yak (by omega),ya2];exact a) hv hs hl (λ_=>hf) rfl hb h63 ?_
  have:=hK (.row (σ.length+p) (l.length+m.length)) (τ.set p (.row e size (l++m) true)) (.inr ⟨by simp[d],p,by simp,by simp[b]⟩) (by simp)
  rw[ybl _ _ (by omega),ya2]
  exact this
end Go.Abs
namespace Go.Sf
open Go.Abs
def zbT (bs:List ArrM):Txt:=bs.flatMap λa=>zaI (zdw a.time a.now a.value)
theorem zvK (bs:List ArrM)(a:ArrM):zbT (bs++ [a])=zbT bs++zaI (zdw a.time a.now a.value):=by simp[zbT]
theorem zk4 (bs:List ArrM):(zbT bs).length=31*bs.length:=by
 induction bs with
 |nil=>rfl
 |cons a bs b=>
  have:zbT (a::bs)=zaI (zdw a.time a.now a.value)++zbT bs:=rfl
  rw[this,yaj,b,zb1,zjC,ybc];omega
structure SlR where
 rung:Nat
 t:Nat
 v:Int
structure OkSl (s:SlR):Prop where
 r:s.rung<4
 t:s.t≤1099511627776
 v:i64 s.v
 n:s.v≠ -9223372036854775808
def slRC (s:SlR):List AV:=zdN (.lst []) s.rung s.t s.v
def zfq (l:List SlR):List (List AV):=l.map slRC
def zmV (l:List SlR):Txt:=l.flatMap λs=>zaI (zgN s.rung s.t s.v)
theorem zsa (l:List SlR)(s:SlR):zmV (l++ [s])=zmV l++zaI (zgN s.rung s.t s.v):=by simp[zmV]
theorem zvj (l:List SlR):(zmV l).length=24*l.length:=by
 induction l with
 |nil=>rfl
 |cons a b c=>
  have:zmV (a::b)=zaI (zgN a.rung a.t a.v)++zmV b:=rfl
  rw[this,yaj,c,zb1,zlX,ybc];omega
theorem zmn (l:List SlR):(zfq l).length=l.length:=by simp[zfq]
theorem ztZ {l:List SlR}{i:Nat}{s:SlR}(h:l[i]? =some s):(zfq l)[i]? =some (slRC s):=by simp[zfq,h]
def zmo (path:Txt)(l:List SlR):Txt:=zaI (zdf path)++zmV l
theorem z0c (p:Txt)(l:List SlR):(zmo p l).length=p.length+27+24*l.length:=by
 simp[zmo,zvj,zb1,zcW]
end Go.Sf
namespace Go.Proofs.YtdbhocoeolhjhaaGreatDoor
open Go.Abs Go.RowKit Go.Sf
variable {G:Globs}
theorem z05 (hT:zgo G)(bs:List ArrM)(hb:∀a∈bs,OkA a/\OkV a)(hl:bs.length≤1000):PCalls Tryz.prog zqD [.lst (zbl bs)] (λr=>r=.tup [.lst (byteEls (zbT bs)),.int .i64 0]):=by
 refine zaa hmix zq2 rfl ?_
 have B:=zcE bs
 simp[zjX,B]
 refine zag (λx f σ=>∃(i:Nat),x=bs.length-i/\i≤bs.length/\AccT 5 1 0 σ (f 4) (byteEls (zbT (bs.take i)))/\f 9=.lst (zbl bs)/\f 10=.int .i64 bs.length/\f 11=.int .i64 i) bs.length ?_ ?_
 ·exact⟨0,by simp,by simp,by simp[zbT,byteEls];exact zjD,by simp,by simp,by simp⟩
 rintro x f σ ⟨i,rfl,P,z,H,j,h⟩
 have k:=zk4 (bs.take i)
 have l:=zaj (zbT (bs.take i))
 have d:(bs.take i).length=i:=by simp;omega
 simp[j,h]
 refine zaq (λM=> ?_) (λO=> ?_)
 ·have o:i<bs.length:=by omega
  have C:IntKind.i64.wrap ((i:Int)+1)=((i+1:Nat):Int):=by rw[wrap_i64 (by omega) (by omega)];omega
  obtain⟨a,s⟩:∃a,bs[i]? =some a:=⟨_,yac o⟩
  have J:=zma s
  obtain⟨L,u⟩:=yaa.1 J
  obtain⟨w,y⟩:=hb a (yae s)
  have D:bs.take (i+1)=bs.take i++ [a]:=by rw[yau,s];rfl
  have R:=w.t
  have S:=w.n
  have K:=λ(σ:zab)=>z1v (G:=G) hT .nils (.inl rfl) a.time a.now a.value (by omega) (by omega) y w.v (σ:=σ)
  simp only[zci]at K
  simp[H,h,J,u,arrC,zai,zak,splice]
  refine zam (K _) ?_
  rintro r σ' ⟨rfl,rfl⟩
  obtain⟨b,g⟩:∃b,b=zaI (zdw a.time a.now a.value):=⟨_,rfl⟩
  have p:b.length=31:=by rw[g,zb1,zjC]
  have c:=zaj b
  have E:byteEls b≠ []:=λe=>by rw[e]at c;simp at c;omega
  rw[<-g]
  simp
  have q:=(((z.more [Entry.var 91 (arrC a)]).more [Entry.var 74 (zci .nils a.time a.now a.value)]).more [Entry.row 5 1 (byteEls b) false])
  simp only[ya3,ybq,yco,arrC,zci]at q
  refine z9e (σ:= []) q (m:=byteEls b) ?_ E (by decide) (za4 b).1 (.inr (za4 b).2.1) (by rw[l,k,d,c,p];omega) (by rw[l,k,d,c,p];omega) λQ τ' A I=> ?_
  ·show view (σ++ [_,_,.row 5 1 (byteEls b) false]) (.row (σ.length+1+1) b.length)=some (byteEls b)
   simp only[view,zAw,c,if_true]
  simp[h,C]
  refine zad (bs.length-(i+1)) (by omega) ⟨i+1,rfl,by omega, ?_,by simp[H],by simp[j],by simp⟩
  simp
  rw[D,zvK,zck,<-g]
  exact A
 ·have F:i=bs.length:=by omega
  subst F
  rw[ya0]at z
  simp[z.finT0]
theorem z2g (hT:zgo G)(p:Txt)(h0:p≠ [])(hp:p.length≤100)(l:List SlR)(hs:∀s∈l,OkSl s)(hl:l.length≤1000):PCalls Tryz.prog zpE [.agg (zbS p),.lst (zfq l)] (λr=>r=.tup [.lst (byteEls (zmo p l)),.int .i64 0]):=by
 refine zaa hmix zp4 rfl ?_
 have m:=zmn l
 have J:=λ(σ:zab)=>z3g (G:=G) hT p h0 hp (σ:=σ)
 simp only[zbS]at J
 simp[ziM,zbS,m,rungsC]
 simp only[rungsC]at J
 refine zam (J _) ?_
 rintro r σ' ⟨rfl,rfl⟩
 simp
 obtain⟨y,A⟩:∃y:Entry,y=.var 74 (zbS p):=⟨_,rfl⟩
 obtain⟨H,C⟩:∃H,H=zaI (zdf p):=⟨_,rfl⟩
 have K:H.length=p.length+27:=by rw[C,zb1,zcW]
 rw[<-C]
 refine zag (λx f σ=>∃(i:Nat) (F:zab),x=l.length-i/\i≤l.length/\f 6=.row 2 (H++zmV (l.take i)).length/\f 23=.lst (zfq l)/\f 24=.int .i64 l.length/\f 25=.int .i64 i/\σ=y::y:: .row 5 1 (byteEls (H++zmV (l.take i))) false::F) l.length ?_ ?_
 ·exact⟨0,[],by simp,by simp,by simp[zmV],by simp,by simp[m],by simp,by simp[zmV,A,zbS,rungsC]⟩
 rintro x f σ ⟨i,F,rfl,X,I,j,k,e,rfl⟩
 have o:(l.take i).length=i:=by simp;omega
 obtain⟨B,g⟩:∃B,B=H++zmV (l.take i):=⟨_,rfl⟩
 have U:B.length=p.length+27+24*i:=by rw[g,yaj,zvj,o,K]
 have q:=zaj B
 rw[<-g]at I⊢
 simp[k,e]
 refine zaq (λS=> ?_) (λT=> ?_)
 ·have u:i<l.length:=by omega
  have L:IntKind.i64.wrap ((i:Int)+1)=((i+1:Nat):Int):=by rw[wrap_i64 (by omega) (by omega)];omega
  obtain⟨a,D⟩:∃a,l[i]? =some a:=⟨_,yac u⟩
  have P:=ztZ D
  obtain⟨R,E⟩:=yaa.1 P
  have z:=hs a (yae D)
  have w:l.take (i+1)=l.take i++ [a]:=by rw[yau,D];rfl
  have Q:=λ(σ:zab)=>z2j (G:=G) hT (.lst []) (.inr rfl) a.rung a.t a.v z.r z.t z.n z.v (σ:=σ)
  simp only[zdN]at Q
  simp[j,e,P,E,slRC,zdN,zai,zak,splice]
  refine zam (Q _) ?_
  rintro r σ' ⟨rfl,rfl⟩
  obtain⟨b,c⟩:∃b,b=zaI (zgN a.rung a.t a.v):=⟨_,rfl⟩
  have W:b.length=24:=by rw[c,zb1,zlX]
  have d:=zaj b
  rw[<-c]
  simp[I]
  refine zbm (byteEls B) (byteEls b) false (by simp) ?_ (by decide) (za4 b).1 (λh=>by cases h) q (by rw[d];omega) (by rw[d];omega) ?_
  ·simp only[view,z92,d,if_true]
  simp[e,L,d]
  refine zad (l.length-(i+1)) (by omega) ⟨i+1,F++ [.var 74 (slRC a),.var 74 (slRC a),.row 5 1 (byteEls b) false],rfl,by omega, ?_,by simp[j],by simp[k],by simp, ?_⟩
  ·rw[w,zsa,<-c,<-ya3,<-g]
   simp
  ·rw[w,zsa,<-c,<-ya3,<-g,zck]
   rfl
 ·have M:i=l.length:=by omega
  subst M
  rw[ya0]at g
  have O:B=zmo p l:=by rw[g,C];rfl
  simp[I,q,zeI,O,zaj]
end Go.Proofs.YtdbhocoeolhjhaaGreatDoor
end
section
set_option maxHeartbeats 2000000
namespace Go.Abs
open Go.Sf Go.Proofs Go.Sort Go.Proofs.YtdbhocoeolhjhaaGreatDoor
def encS (n:Slot):List Value:= [.int .i64 n.1,.int .i64 n.2]
def zfa (l:List Slot):List Value:=l.flatMap encS
theorem zfd (l:List Slot):(zfa l).length=l.length*2:=by
 induction l with
 |nil=>rfl
 |cons n l a=>simp only[zfa,yes,yaj,ybc]at*;rw[a];simp[encS];omega
theorem zsd (l:List Slot):(flatK encS 2 l.toArray).toList=zfa l:=by
 apply yea
 intro t
 by_cases h:t<l.length*2
 ·have b:t<(flatK encS 2 l.toArray).toList.length:=by simp;omega
  have a:t<(zfa l).length:=by rw[zfd];exact h
  rw[yac b,yac a]
  congr 1
  have d:(flatK encS 2 l.toArray).toList[t]=(flatK encS 2 l.toArray)[t]! :=by
   rw[getElem!_pos _ t (by simpa using b)];simp
  rw[d,get_flatK _ _ _ _ (by simpa using h)]
  clear b d
  induction l generalizing t with
  |nil=>simp at h
  |cons n l m=>
   match t,h,a with
   |0,h,a=>simp[zfa,encS]
   |1,h,a=>simp[zfa,encS]
   |t+2,h,a=>
    have e:t<l.length*2:=by simp at h;omega
    have c:t<(zfa l).length:=by rw[zfd];exact e
    have:=m t e c
    have f:(t+2)/2=t/2+1:=by omega
    have g:(t+2)%2=t%2:=by omega
    rw[f,g]
    have i:(zfa (n::l))[t+2]=(zfa l)[t]:=by simp[zfa,encS]
    rw[i,<-this]
    have j:(n::l).toArray[t/2+1]! =l.toArray[t/2]! :=by
     have k:t/2<l.length:=by omega
     rw[getElem!_pos _ _ (by simp;omega),getElem!_pos _ _ (by simpa using k)]
     simp
    rw[j]
 ·rw[ybx (by simp;omega),ybx (by rw[zfd];omega)]
variable {G:Globs}{base:Nat}{κ:Key}{Im:Addr->Prop}{w:World}{σ:zab}
theorem zpA (n:Slot)(l:List Slot):zat (n::l)= [.int .i64 n.1,.int .i64 n.2]::zat l:=rfl
theorem z5R {l:List Slot}{xs:List Value}(h:VRL κ Im w (zat l).flatten xs):xs=zfa l:=by
 induction l generalizing xs with
 |nil=>
  have:=h.1
  simp[zat]at this
  rw[yal this.symm];rfl
 |cons n l j=>
  rw[zpA]at h
  simp only[ybf]at h
  have b:=h.1
  simp at b
  match xs,h,b with
  |x::y::xs,h,_=>
   obtain⟨u,d,e⟩:=h.get? (i:=0) (a:=.int .i64 n.1) (by simp)
   obtain⟨k,c,f⟩:=h.get? (i:=1) (a:=.int .i64 n.2) (by simp)
   simp at d c
   subst d;subst c
   have g:VRL κ Im w (zat l).flatten xs:=by
    have:=h.drop 2
    simpa using this
   rw[e.int_inv,f.int_inv,j g]
   rfl
  | [x],h,b=>simp at b
  | [],h,b=>simp at b
theorem z5G (l:List Slot):VRL κ Im w (zat l).flatten (zfa l):=by
 induction l with
 |nil=>exact VRL.nil
 |cons n l a=>
  rw[zpA]
  simp only[ybf,zfa,yes]
  exact VRL.append (.cons (.im _ _ (.int _ _)) (.cons (.im _ _ (.int _ _)) .nil)) a
theorem z0b (l:List Slot):∀c∈zat l,∀x∈c,x.one=true:=λc a x b=>by
 simp only[zat,yav]at a
 obtain⟨n,_,rfl⟩:=a
 simp[zcP]at b
 rcases b with rfl|rfl<;>rfl
theorem zzR (l:List Slot):∀c∈zat l,c.length=2:=λc a=>by
 simp only[zat,yav]at a
 obtain⟨n,_,rfl⟩:=a
 rfl
theorem zxf {i e:Nat}{l A R:List Slot}(hlA:l=A++R)(hs:SRel base κ Im σ w)(he:σ[i]? =some (.row e 2 (zat l) false))(hne:l≠ []):
  ∃g cap,κ i l.length=some (.slice (some ⟨g,0,none⟩) l.length cap)/\g<w.heap.size/\HoldsK encS 2 w g 0 A.toArray/\
   ∀(A':List Slot) n os,A'.length=A.length->SRel base κ Im (σ.set i (.row e 2 (zat (A'++R)) false)) (sortWorldK encS 2 w g 0 n A'.toArray os)/\Grow base κ Im w κ Im (sortWorldK encS 2 w g 0 n A'.toArray os):=by
 have hE:=hs.ent i _ he
 unfold EOK at hE
 obtain⟨v,xs,T,f,X,h0,h2,h1, -,o⟩:=hE
 rw[zau]at T f o
 have ab:=z5R X
 subst ab
 obtain⟨aj,f⟩:=f
 rcases f with ⟨_,h⟩|⟨g,cap,q,rfl,y,U,H,Z,aa,I⟩
 ·exact absurd (yal h) hne
 have M:g<w.heap.size:=(ya9.1 U).1
 have ak:A.length≤l.length:=by rw[hlA];simp
 have O:zfa l=zfa A++zfa R:=by rw[hlA];simp[zfa]
 have hH:HoldsK encS 2 w g 0 A.toArray:=by
  intro j E
  have ad:j<A.length*2:=by simpa using E
  have ae:j<l.length*2:=by omega
  refine⟨?_,by simp[World.frozen?,U]⟩
  have P:(q.toList.take (l.length*2))[j]? =(zfa l)[j]? :=by rw[I]
  rw[yct ae,O,yam (by rw[zfd];exact ad),<-zsd]at P
  simp only[World.cell?,U,ybh]
  simp only[Option.isSome_none,ydc,if_false]
  rw[<-yby,P,yby,getElem!_pos _ j E]
  simp[E]
 refine⟨g,cap,T,M,hH,λA' n os hl=> ?_⟩
 obtain⟨F,Y⟩:∃F,F=flatK encS 2 A'.toArray:=⟨_,rfl⟩
 have Q:F.size=A.length*2:=by rw[Y];simp[hl]
 have af:F.toList=zfa A':=by rw[Y,zsd]
 obtain⟨p,x⟩:∃p,p=A'++R:=⟨_,rfl⟩
 have d:p.length=l.length:=by rw[x,hlA];simp[hl]
 have ag:zfa p=F.toList++zfa R:=by rw[x,af];simp[zfa]
 rw[<-x]
 obtain⟨u,G⟩:∃u,u=sortWorldK encS 2 w g 0 n A'.toArray os:=⟨_,rfl⟩
 have m:u=grow (mapBlock (Sort.ahead w n) g (putCells id 0 F)) os:=by rw[G,Y];rfl
 have B:u.heap[g]? =some (.cells (putCells id 0 F q) e (0,0)):=by
  rw[m,heap_grow_old _ _ (by simpa[mapBlock,Sort.ahead]using M)]
  simp[mapBlock,Sort.ahead,yem,U,onCells]
 have c:∀k,k<w.heap.size->k≠g->u.heap[k]? =w.heap[k]? :=λk J hne=>by
  rw[m,heap_grow_old _ _ (by simpa[mapBlock,Sort.ahead]using J)]
  simp[mapBlock,Sort.ahead,yem,Ne.symm hne]
 have r:w.heap.size≤u.heap.size:=by rw[m];simp[grow,mapBlock,Sort.ahead]
 have C:(putCells id 0 F q).toList.take (l.length*2)=zfa p:=by
  rw[ag]
  apply yea
  intro j
  have hR:(zfa R).length=(l.length-A.length)*2:=by rw[zfd,hlA];simp
  by_cases E:j<l.length*2
  ·rw[yct E,yby]
   have S:j<q.size:=by
    have:l.length*2≤cap*2:=yat _ H
    omega
   by_cases t:j<F.size
   ·rw[yam (by simpa using t),yby]
    simp[putCells,t,S]
   ·rw[yak (by simpa using yed t)]
    have P:(q.toList.take (l.length*2))[j]? =(zfa l)[j]? :=by rw[I]
    rw[yct E,O,yak (by rw[zfd];omega),yby,zfd]at P
    rw[ya5,Q,<-P]
    simp[putCells,t,S]
  ·rw[List.getElem?_take_eq_none (by omega),ybx (by rw[yaj,ya5,hR,Q];omega)]
 have ah:∀a,Im a->a.block≠g:=λa W hb=>by
  have:=((o g rfl).1 a W hb).1
  cases this
 have s:∀a,Im a->u.cell? a=w.cell? a:=λa W=>ya6 (c _ (hs.imlt a W).1 (ah a W))
 rw[<-G]
 have ai:Go.RowKit.Below base w u:=⟨by rw[m];rfl,by rw[m];rfl,by rw[m];rfl,r,λk J=>c k (yca J hs.hb) (by omega)⟩
 have D:∀z:List Slot,z.length=l.length->(Entry.row e 2 (zat z) false).block κ i=some g:=λz K=>by
  simp[Entry.block,zau,K,T,Value.ownBlock]
 refine⟨hs.set he (.row e 2 (zat p) false) (λ_ _ _ h=>h) (λ_ _ _ h=> .inl h) (by simp[Entry.ver,zau,d]) (λ_ h=>h) s (λ_ h=> .inl h) r (λk J L=>c k J λh=>L (by rw[D l rfl,h])) ?_ (λb hb=> .inr (by rw[D l rfl,<-hb,D p d])),⟨λ_ _ _ h=>h,λ_ h=>h,s,λ_ h=> .inl h,ai⟩⟩
 unfold EOK
 refine⟨.slice (some ⟨g,0,none⟩) l.length cap,zfa p,by rw[zau,d];exact T,⟨by rw[zfd,zau],.inr ⟨g,cap,_,by rw[zau,d],y,B,by rw[zau,d];exact H,Z,by simp[putCells,aa],by rw[zau,d];exact C⟩⟩,z5G p,by decide,zzR p,z0b p,λh=>(by cases h), ?_⟩
 rw[zau,d]
 exact o
end Go.Abs
namespace Go.Proofs.YtdbhocoeolhjhaaGreatDoor
open Go.Shelf Go.RowKit Go.Lib Go.Sort Go.Proofs Go.Sf
theorem ltH (x y:Slot):ltOf (λx y:Slot=>Lib.compareInt x.1 y.1) x y=decide (x.1<y.1):=by
 unfold ltOf Lib.compareInt
 by_cases a:x.1<y.1
 ·simp[a]
 ·by_cases b:y.1<x.1
  ·simp[a,b]
  ·simp[a,b]
theorem swoH:SWO (ltOf λx y:Slot=>Lib.compareInt x.1 y.1) where
 irrefl x:=by rw[ltH];simp
 trans x y z h1 h2:=by rw[ltH]at*;simp only[decide_eq_true_eq]at*;omega
 ntrans x y z h1 h2:=by rw[ltH]at*;simp only[decide_eq_false_iff_not]at*;omega
set_option maxHeartbeats 1000000 in
theorem zxz (x y:Slot)(W:World):Calls Tryz.prog 166 #[.agg #[.int .i64 x.1,.int .i64 x.2],.agg #[.int .i64 y.1,.int .i64 y.2]] W λe w'=>e=.returned (.int .i64 (Lib.compareInt x.1 y.1))/\∃q os',w'=grow (W.drewN q) os':=by
 have a:=λb=>Tryz.cmp_Compare_int x.1 y.1 b
 generalize Lib.compareInt x.1 y.1=r at a⊢
 go_enter Tryz.func166,Tryz.ntmps166
 go_wp2_with (go_at_call 111;refine(a _).mono ?_;rintro e w' ⟨rfl,rfl⟩)
 go_ret
 exact⟨rfl,0,_,by rw[alloc_eq_grow,alloc_eq_grow,grow_grow];rfl⟩
theorem zzH (blk off size:Nat)(w:World):CmpLays Tryz.prog 166 #[] Go.Abs.encS 2 (λx y=>Lib.compareInt x.1 y.1) blk off size w:=
 λ_ _ _ _ x y=>zxz x y _
theorem z8K {l:List Slot}{d:Array Slot}(h:PermIn 0 l.toArray.size l.toArray d):d.toList.Perm l:=by
 obtain⟨b,_,a⟩:=h
 have c:(d.extract 0 l.toArray.size).toList=d.toList:=by
  rw[<-b];simp
 have e:(l.toArray.extract 0 l.toArray.size).toList=l:=by simp
 rw[c,e]at a
 exact a
theorem z1Q {l:List Slot}{d:Array Slot}(hs:d.size=l.length)(h:SortedIn (ltOf λx y:Slot=>Lib.compareInt x.1 y.1) 0 l.toArray.size d):d.toList.Pairwise λa b=>a.1≤b.1:=by
 rw[ybi]
 intro i j g k e
 have c:j<d.size:=by simpa using k
 have f:i<d.size:=by simpa using g
 have:=h i j (ydp _) e (by simpa[hs]using c)
 rw[ltH,getElem!_pos d j c,getElem!_pos d i f]at this
 simpa using this
open Go.Abs in
variable {G:Globs} in
theorem zuM {σ:zab}{id e:Nat}{A R:List Slot}{X:AV}(hX:(X=.row id (A++R).length/\R= [])∨X=.sub id (A++R).length 2 0 A.length)(he:σ[id]? =some (.row e 2 (zat (A++R)) false)) (hA:A≠ []) (hl:A.length<4611686018427387904):
  ACalls Tryz.prog 165 [X,.fn (.func 166) [] []] σ λr σ'=>r=.tup []/\∃A':List Slot,A'.Perm A/\(A'.Pairwise λa b=>a.1≤b.1)/\σ'=σ.set id (.row e 2 (zat (A'++R)) false):=by
 intro base κ Im w T hs f
 have J:A++R≠ []:=λh=>hA (List.append_eq_nil_iff.1 h).1
 have K:0<A.length:=ycu.2 hA
 obtain⟨g,D,M,U,W,k⟩:=zxf (A:=A) (R:=R) rfl hs he J
 obtain⟨Y,l,m⟩:=f.get? (i:=0) (a:=X) rfl
 obtain⟨u1,o,E⟩:=f.get? (i:=1) (a:=.fn (.func 166) [] []) rfl
 obtain⟨B,Z⟩:∃B,Y=.slice (some ⟨g,0,none⟩) A.length B:=by
  rcases hX with ⟨rfl,hR⟩|rfl
  ·obtain⟨_,_,_,C⟩:=m.row_inv
   rw[M]at C
   have:=Option.some.inj C
   subst hR
   exact⟨D,by rw[<-this];simp⟩
  ·obtain⟨b,O,ad,c,rfl,C,_,_,F,_,_,_⟩:=m.sub_inv
   have q:=M.symm.trans C
   simp only[yab,Value.slice.injEq,Addr.mk.injEq,true_and,and_true]at q
   rw[F K,<-q.1]
   exact⟨c,by simp⟩
 subst Z
 obtain⟨fs,us,rfl,G,H⟩:=E.fn_inv
 have s:fs= []:=yal G.1.symm
 have t:us= []:=yal H.1.symm
 subst s;subst t
 have L:T= [.slice (some ⟨g,0,none⟩) A.length B,.func (.func 166) #[] #[]]:=by
  have u:=f.1
  match T,u with
  | [a,b],_=>
   simp at l o
   rw[l,o]
 subst L
 have eg:∀d w,(callFunc 166 d).run Tryz.prog w=.ok (.enter 166 d) w:=enters_of Tryz.func166 (by kernel_rfl) rfl
 have hc:=AnyQ.slices_SortFunc Tryz.sortSlot 2 Tryz.isAgg186 Tryz.sizeOf186 encS (λ_=>rfl) (λx v f=>by simp[encS]at f;rcases f with rfl|rfl<;>rfl) (λx y=>Lib.compareInt x.1 y.1) swoH 166 #[] g 0 B A.toArray w eg (zzH g 0 _ w) W U (by simpa using hl)
 refine Calls.mono hc ?_
 rintro e' w' ⟨rfl,p,n,os,S,I,rfl⟩
 have z:p.size=A.length:=by simpa using S.1
 obtain⟨P,Q⟩:=k p.toList n os (by simpa using z)
 have hd:p.toList.toArray=p:=by simp
 rw[hd]at P Q
 exact⟨.tup [],_,.tuple #[],κ,Im,rfl,⟨rfl,p.toList,z8K S,z1Q z I,rfl⟩,P,Q,.im _ _ (by first|exact .tup _ _ rfl (λj h=>by simp at h)|constructor<;>simp)⟩
end Go.Proofs.YtdbhocoeolhjhaaGreatDoor
end
section
set_option maxHeartbeats 4000000
namespace Go.Sf
open Go.Abs
def zhf (l:List Slot):List Slot:=l.filter λs=> !decide (s.1= -1)
def zcb (l:List Slot):List Slot:=(zhf l).mergeSort λa b=>decide (a.1≤b.1)
theorem zgd (l:List Slot):(zcb l).Perm (zhf l):=List.mergeSort_perm _ _
theorem zoO (l:List Slot):(zcb l).length≤l.length:=by
 rw[(zgd l).length_eq];exact yen _ _
theorem zwY (l:List Slot):(zcb l).Pairwise λa b=>a.1≤b.1:=by
 have h:=List.pairwise_mergeSort (le:=λa b:Slot=>decide (a.1≤b.1)) (λa b c d e=>by simp only[decide_eq_true_eq]at*;omega) (λa b=>by simp only[yeo,decide_eq_true_eq];omega) (zhf l)
 exact h.imp λh=>by simpa using h
theorem ztp {l:List Slot}{s:Slot}(h:s∈zcb l):s∈l/\s.1≠ -1:=by
 have:=(zgd l).mem_iff.1 h
 simp[zhf]at this
 exact⟨this.1,this.2⟩
theorem z4h {step:Nat}{l:List Slot}(h:zdc step l)(hs:0<step){a b:Slot}(ha:a∈l)(hb:b∈l)(ha1:a.1≠ -1)(he:a.1=b.1):a=b:=by
 obtain⟨i,e⟩:=ybe ha
 obtain⟨j,c⟩:=ybe hb
 rcases h i a e with ⟨f,_⟩|⟨k,f,_,n,_,_⟩
 ·exact absurd f ha1
 rcases h j b c with ⟨g,_⟩|⟨m,g,_,o,_,_⟩
 ·exact absurd (he.trans g) ha1
 have:k*step=m*step:=by omega
 have p:k=m:=Nat.eq_of_mul_eq_mul_right hs this
 subst p
 have d:i=j:=n.symm.trans o
 subst d
 rw[e]at c
 exact Option.some.inj c
theorem zu0 {step:Nat}{l A:List Slot}(h:zdc step l)(hs:0<step)(hp:A.Perm (zhf l))(ho:A.Pairwise λa b=>a.1≤b.1):A=zcb l:=by
 refine List.Perm.eq_of_pairwise (le:=λa b:Slot=>a.1≤b.1) (λa b d e f g=> ?_) ho (zwY l) (hp.trans (zgd l).symm)
 have c:=hp.mem_iff.1 d
 simp[zhf]at c
 exact z4h h hs c.1 (ztp e).1 c.2 (by omega)
def zgD (l:LadM):List SlR:=(zcb l.fine).map (λs=>⟨0,s.1.toNat,s.2⟩)++(zcb l.wide).map λs=>⟨1,s.1.toNat,s.2⟩
end Go.Sf
namespace Go.Proofs.YtdbhocoeolhjhaaGreatDoor
open Go.Abs Go.RowKit Go.Sf
variable {G:Globs}
theorem zwQ {σ:zab}{id n:Nat}:ACalls Tryz.prog 165 [.sub id n 2 0 0,.fn (.func 166) [] []] σ λr σ'=>r=.tup []/\σ'=σ:=by
 intro base κ Im w q u k
 obtain⟨v,d,g⟩:=k.get? (i:=0) (a:=.sub id n 2 0 0) rfl
 obtain⟨m,e,s⟩:=k.get? (i:=1) (a:=.fn (.func 166) [] []) rfl
 obtain⟨b,o,p,c,rfl,x,_,_,t,_,_,_⟩:=g.sub_inv
 have l:q= [.slice (some p) (0-0) c,m]:=by
  have f:=k.1
  match q,f with
  | [a,b],_=>
   simp at d e
   rw[d,e]
 subst l
 refine Calls.mono (AnyF.slices_SortFunc_none Tryz.sortSlot (some p) c m w) ?_
 rintro y z ⟨rfl,rfl⟩
 exact⟨.tup [],σ,.tuple #[],κ,Im,rfl,⟨rfl,rfl⟩,u,Grow.refl _ _ _ _,.im _ _ (by first|exact .tup _ _ rfl (λj h=>by simp at h)|constructor<;>simp)⟩
theorem z41 (s:Slot):PCalls Tryz.prog zhO [.agg (zcP s)] (λr=>r=.bool (decide (s.1= -1))):=by
 refine zaa hmix zti rfl ?_
 simp[zlN,zcP]
def z7y (c:List AV):Bool:=match c with
 | .int _ t::_=>decide (t= -1)
 |_=>false
theorem z3B (pre:zab)(l:List Slot):Asks Tryz.prog pre zhO [] .agg z7y (zat l):=λc a X K b=>by
 obtain⟨s,_,rfl⟩:=yav.1 a
 exact .inl ⟨_,_,ziV (by simp[AV.pure,zcP]),z41 s,λr d=>by subst d;exact b⟩
theorem zxx (l:List Slot):((zat l).filter λn=> !z7y n)=zat (zhf l):=by
 unfold zat zhf
 rw[List.filter_map]
 rfl
theorem zxL (step:Nat)(l:List Slot)(hz:Sized step l)(h:zdc step l):PCalls Tryz.prog zxl [.agg (zah step l)] (λr=>r=.lst (zat (zcb l))):=by
 refine zaa hmix zx8 rfl ?_
 have b:=zau l
 have w:=hz.n1
 have E:=hz.n2
 have kR:=zlJ (G:=G) step l hz h
 simp only[zah]at kR
 simp[zpc,zah]
 refine zac kR (by simp[AV.pure]) ?_
 rintro r rfl
 simp
 refine zam (z3h (zat l) (zcI l) (by omega)) ?_
 rintro r σ (⟨y,rfl,rfl⟩|⟨rfl,rfl⟩)
 ·have:=congrArg List.length y
  rw[b]at this;simp at this;rw[this]at w;simp at w
 simp
 have x:=zA7 (G:=G) [.var 112 (zah step l)] (zat l) (zcI l) (by omega) z7y zhO [] zsZ (z3B _ l)
 rw[zxx]at x
 refine zam x ?_
 rintro r σ ⟨X,rfl,a,z,B⟩
 have f:=zau (zhf l)
 rcases B with ⟨rfl,rfl⟩|⟨rfl,n,D⟩
 ·have d:zhf l≠ []:=λe=>by rw[f,b,e]at a;simp at a;omega
  have t:=zuM (G:=G) (σ:= [.var 112 (zah step l),.row 186 2 (zat (zhf l)) false]) (id:=1) (e:=186) (A:=zhf l) (R:= []) (X:=.row 1 l.length) (.inl ⟨by rw[yb4,<-f,a,b],rfl⟩) (by simp) d (by rw[<-f,a];omega)
  simp[b]
  refine zam t ?_
  rintro r σ ⟨rfl,C,q,s,rfl⟩
  have k:=zu0 h (by have:=hz.s1;omega) q s
  subst k
  have u:(zat (zcb l)).length=l.length:=by rw[zau,(zgd l).length_eq,<-f,a,b]
  simp[u,zdW]
 ·have v:List.replicate n [AV.int .i64 0,AV.int .i64 0]=zat (List.replicate n (0,0)):=by simp[zat,zcP]
  have m:X=zat (zhf l++List.replicate n (0,0)):=by rw[D,v];simp[zat]
  have j:(zhf l++List.replicate n ((0,0):Slot)).length=l.length:=by rw[m,zau,b]at a;exact a
  subst m
  rw[f,b]
  by_cases d:zhf l= []
  ·have o:zcb l= []:=by simp[zcb,d]
   simp[d]
   refine zam zwQ ?_
   rintro r σ ⟨rfl,rfl⟩
   have g:(zat (List.replicate n ((0,0):Slot))).length=l.length:=by rw[zau,<-j,d];rfl
   have i:∀c∈zat (List.replicate n ((0,0):Slot)),c.length=2:=(zcI _).1
   simp[g,zdW,o]
   rw[if_pos i]
   simp[zat,o]
  ·have t:=zuM (G:=G) (σ:= [.var 112 (zah step l),.row 186 2 (zat (zhf l++List.replicate n (0,0))) false]) (id:=1) (e:=186) (A:=zhf l) (R:=List.replicate n (0,0)) (X:=.sub 1 l.length 2 0 (zhf l).length) (.inr (by rw[j])) (by simp) d (by have:=j;simp at this;omega)
   simp
   refine zam t ?_
   rintro r σ ⟨rfl,C,q,s,rfl⟩
   have k:=zu0 h (by have:=hz.s1;omega) q s
   subst k
   have p:=(zgd l).length_eq
   have g:(zat (zcb l++List.replicate n ((0,0):Slot))).length=l.length:=by rw[zau,<-j];simp[p]
   have i:∀c∈zat (zcb l++List.replicate n ((0,0):Slot)),c.length=2:=(zcI _).1
   simp[g,zdW]
   rw[if_pos i]
   simp[<-p,zat]
end Go.Proofs.YtdbhocoeolhjhaaGreatDoor
end
section
set_option maxHeartbeats 4000000
namespace Go.Proofs.YtdbhocoeolhjhaaGreatDoor
open Go.Abs Go.RowKit Go.Sf Go.Num
variable {G:Globs}
def zis (i:Nat)(s:Slot):SlR:=⟨i,s.1.toNat,s.2⟩
theorem zl6 {step:Nat}{l:List Slot}(h:zdc step l){s:Slot}(hs:s∈zcb l):∃k:Nat,s.1=(k:Int)/\k≤1099511627776/\i64 s.2/\s.2≠ -9223372036854775808:=by
 obtain⟨c,a⟩:=ztp hs
 obtain⟨i,d⟩:=ybe c
 rcases h i s d with ⟨b,_⟩|⟨k,b,e,_,f,g⟩
 ·exact absurd b a
 ·exact⟨_,b,e,f,g⟩
theorem z4P (l:LadM)(h:RightL l):PCalls Tryz.prog zrg [.agg (ladC l)] (λr=>r=.lst (zfq (zgD l))):=by
 refine zaa hmix zqQ rfl ?_
 simp[zkl,ladC]
 refine zac (zuZ l h) (by simp[AV.pure,ladC]) ?_
 rintro r rfl
 simp[zan]
 obtain⟨v,M⟩:∃v:Entry,v=.var 55 (ladC l):=⟨_,rfl⟩
 obtain⟨q,w⟩:∃q,q=(zcb l.fine).map (zis 0):=⟨_,rfl⟩
 obtain⟨F,y⟩:∃F,F=(zcb l.wide).map (zis 1):=⟨_,rfl⟩
 have J:zgD l=q++F:=by rw[w,y];rfl
 have U:=zoO l.fine
 have W:=zoO l.wide
 rw[h.n1]at U
 rw[h.n2]at W
 have aa:q.length≤6:=by rw[w];simpa using U
 have ab:F.length≤5:=by rw[y];simpa using W
 refine zag (λx f σ=>∃(i:Nat) (g:zab),x=2-i/\i≤2/\AccT 74 9 1 g (f 3) (zfq (if i=0 then []else if i=1 then q else q++F))/\f 12=.lst (zan l)/\f 13=.int .i64 2/\f 14=.int .i64 i/\σ=v::g) 2 ?_ ?_
 ·exact⟨0,[],by simp,by simp,by simp[zfq];exact zjD,by simp[zan],by simp,by simp,by simp[M,ladC,zan]⟩
 rintro x f σ ⟨i,g,rfl,hi,d,c,a,b,rfl⟩
 have T:i=0∨i=1∨i=2:=by omega
 rcases T with rfl|rfl|rfl
 ·simp at d
  simp[c,a,b,zan,zah]
  refine zac (by have:=zxL (G:=G) 10 l.fine (zq8 h) h.r1;exact this) (by simp[AV.pure]) ?_
  rintro r rfl
  have B:=zau (zcb l.fine)
  simp[B]
  have o:=d.more [Entry.var 112 (zah 10 l.fine)]
  refine zag (λx f σ=>∃(j:Nat) (g:zab),x=(zcb l.fine).length-j/\j≤(zcb l.fine).length/\AccT 74 9 1 g (f 3) (zfq ([]++((zcb l.fine).take j).map (zis 0)))/\f 4=.int .i64 0/\f 12=.lst (zan l)/\f 13=.int .i64 2/\f 14=.int .i64 0/\f 20=.lst (zat (zcb l.fine))/\f 21=.int .i64 (zcb l.fine).length/\f 22=.int .i64 j/\σ=v::g) (zcb l.fine).length ?_ ?_
  ·exact⟨0,_,by simp,by simp,by simpa using o,by simp,by simp[c,zan,zah],by simp[a],by simp[b],by simp,by simp,by simp,by simp[zah]⟩
  clear c a b d o
  rintro x f σ ⟨j,g,rfl,Y,d,H,c,a,b,m,n,e,rfl⟩
  simp[n,e]
  refine zaq (λR=> ?_) (λS=> ?_)
  ·have p:j<(zcb l.fine).length:=by omega
   have C:IntKind.i64.wrap ((j:Int)+1)=((j+1:Nat):Int):=by rw[wrap_i64 (by omega) (by omega)];omega
   obtain⟨s,z⟩:∃s,(zcb l.fine)[j]? =some s:=⟨_,yac p⟩
   have K:=zdi z
   obtain⟨O,A⟩:=yaa.1 K
   obtain⟨k,P,Q,_,_⟩:=zl6 h.r1 (yae z)
   have D: [.int .i64 3,.str [],.int .i64 0,.int .i64 0,.lst [],.int .i64 0,.int .i64 s.1,.int .i64 0,.int .i64 s.2]=slRC (zis 0 s):=by
    simp[slRC,zdN,zis,P]
   have L:(zfq ([]++((zcb l.fine).take j).map (zis 0))).length≤12:=by
    rw[zmn];simp;omega
   have u:zfq ([]++((zcb l.fine).take (j+1)).map (zis 0))=zfq ([]++((zcb l.fine).take j).map (zis 0))++ [slRC (zis 0 s)]:=by
    rw[yau,z]
    simp[zfq]
   simp[H,m,e,K,A,zcP,zai,zak,splice]
   rw[D]
   refine zpU (bytes:=96) (σ:= [v]) (d.more [Entry.var 186 [.int .i64 s.1,.int .i64 s.2]]) (slRC (zis 0 s)) (by decide) rfl (by omega) (by omega) λZ τ' t I _=> ?_
   simp[e,C]
   refine zad ((zcb l.fine).length-(j+1)) (by omega) ⟨j+1,τ',rfl,by omega, ?_,by simp[H],by simp[c],by simp[a],by simp[b],by simp[m],by simp[n],by simp,rfl⟩
   simp
   simp only[yco]at u t
   rw[<-List.map_take,u]
   exact t
  ·have E:j=(zcb l.fine).length:=by omega
   subst E
   rw[ya0]at d
   simp[b,wk1]
   exact zad 1 (by omega) ⟨1,g,rfl,by omega,by simpa[w]using d,by simp[c,zan,zah],by simp[a],by simp,rfl⟩
 ·simp at d
  simp[c,a,b,zan,zah]
  refine zac (by have:=zxL (G:=G) 60 l.wide (zor h) h.r2;exact this) (by simp[AV.pure]) ?_
  rintro r rfl
  have B:=zau (zcb l.wide)
  simp[B]
  have o:=d.more [Entry.var 112 (zah 60 l.wide)]
  refine zag (λx f σ=>∃(j:Nat) (g:zab),x=(zcb l.wide).length-j/\j≤(zcb l.wide).length/\AccT 74 9 1 g (f 3) (zfq (q++((zcb l.wide).take j).map (zis 1)))/\f 4=.int .i64 1/\f 12=.lst (zan l)/\f 13=.int .i64 2/\f 14=.int .i64 1/\f 20=.lst (zat (zcb l.wide))/\f 21=.int .i64 (zcb l.wide).length/\f 22=.int .i64 j/\σ=v::g) (zcb l.wide).length ?_ ?_
  ·exact⟨0,_,by simp,by simp,by simpa using o,by simp,by simp[c,zan,zah],by simp[a],by simp[b],by simp,by simp,by simp,by simp[zah]⟩
  clear c a b d o
  rintro x f σ ⟨j,g,rfl,Y,d,H,c,a,b,m,n,e,rfl⟩
  simp[n,e]
  refine zaq (λR=> ?_) (λS=> ?_)
  ·have p:j<(zcb l.wide).length:=by omega
   have C:IntKind.i64.wrap ((j:Int)+1)=((j+1:Nat):Int):=by rw[wrap_i64 (by omega) (by omega)];omega
   obtain⟨s,z⟩:∃s,(zcb l.wide)[j]? =some s:=⟨_,yac p⟩
   have K:=zdi z
   obtain⟨O,A⟩:=yaa.1 K
   obtain⟨k,P,Q,_,_⟩:=zl6 h.r2 (yae z)
   have D: [.int .i64 3,.str [],.int .i64 0,.int .i64 0,.lst [],.int .i64 1,.int .i64 s.1,.int .i64 0,.int .i64 s.2]=slRC (zis 1 s):=by
    simp[slRC,zdN,zis,P]
   have L:(zfq (q++((zcb l.wide).take j).map (zis 1))).length≤12:=by
    rw[zmn];simp;omega
   have u:zfq (q++((zcb l.wide).take (j+1)).map (zis 1))=zfq (q++((zcb l.wide).take j).map (zis 1))++ [slRC (zis 1 s)]:=by
    rw[yau,z]
    simp[zfq]
   simp[H,m,e,K,A,zcP,zai,zak,splice]
   rw[D]
   refine zpU (bytes:=96) (σ:= [v]) (d.more [Entry.var 186 [.int .i64 s.1,.int .i64 s.2]]) (slRC (zis 1 s)) (by decide) rfl (by omega) (by omega) λZ τ' t I _=> ?_
   simp[e,C]
   refine zad ((zcb l.wide).length-(j+1)) (by omega) ⟨j+1,τ',rfl,by omega, ?_,by simp[H],by simp[c],by simp[a],by simp[b],by simp[m],by simp[n],by simp,rfl⟩
   simp
   rw[<-List.map_take,u]
   exact t
  ·have E:j=(zcb l.wide).length:=by omega
   subst E
   rw[ya0]at d
   simp[b,wk2]
   exact zad 0 (by omega) ⟨2,g,rfl,by omega,by simpa[y]using d,by simp[c,zan,zah],by simp[a],by simp,rfl⟩
 ·simp at d
  have X:=AccT.finR (σ:= [v]) d 0
  simp only[ybq,yco]at X
  simp[a,b,X,J]
theorem z7Y (x y:Nat)(hx:x<18446744073709551616)(hy:y<18446744073709551616):PCalls Tryz.prog zqp [.int .u64 x,.int .u64 y] (λr=>r=.tup [.int .u64 ((x*y/18446744073709551616:Nat):Int),.int .u64 ((x*y%18446744073709551616:Nat):Int)]):=by
 refine zaa hmix zqf rfl ?_
 have a:IntKind.u64.wrap ((x*y/18446744073709551616:Nat):Int)=((x*y/18446744073709551616:Nat):Int):=by
  rw[zbd]
  have:x*y/18446744073709551616<18446744073709551616:=by
   have g:x*y≤x*18446744073709551615:=ycv x (by omega)
   omega
  omega
 have b:IntKind.u64.wrap ((x*y%18446744073709551616:Nat):Int)=((x*y%18446744073709551616:Nat):Int):=by rw[zbd];omega
 obtain⟨h,c⟩:∃h,h=x*y/18446744073709551616:=⟨_,rfl⟩
 obtain⟨l,d⟩:∃l,l=x*y%18446744073709551616:=⟨_,rfl⟩
 have kM:=zy5 (G:=G) x y hx hy
 rw[<-c,<-d]at kM⊢
 rw[<-c]at a
 rw[<-d]at b
 have e:IntKind.u64.wrap (x:Int)=(x:Int):=by rw[zbd];omega
 have f:IntKind.u64.wrap (y:Int)=(y:Int):=by rw[zbd];omega
 simp[ziB,e,f]
 refine zac kM (by simp) ?_
 rintro r rfl
 simp[a,b]
def zh0 (n:Nat):List Slot:=List.replicate n (-1,0)
def repS (n k:Nat):List (List AV):=List.replicate k [AV.int .i64 (-1),AV.int .i64 0]++List.replicate (n-k) [AV.int .i64 0,AV.int .i64 0]
theorem zyE {n k:Nat}(h:k≤n):(repS n k).length=n:=by simp[repS];omega
theorem zut (n k:Nat):(repS n k).take k=List.replicate k [AV.int .i64 (-1),AV.int .i64 0]:=by
 unfold repS
 exact ycb (by simp)
theorem z13 {n k:Nat}(h:k≤n):(repS n k).take k++(List.replicate k [AV.int .i64 (-1),AV.int .i64 0]).take (n-k)++(repS n k).drop (k+min k (n-k))=repS n (k+min k (n-k)):=by
 rw[zut,List.take_replicate]
 unfold repS
 rw[yee]
 simp only[List.length_replicate]
 rw[show k+min k (n-k)-k=min k (n-k) by omega,List.drop_replicate,List.drop_replicate,show k-(k+min k (n-k))=0 by omega,List.replicate_zero,yco,Nat.min_comm (n-k) k,List.replicate_append_replicate]
 congr 2
 omega
theorem z3J (n:Nat):List.replicate n [AV.int .i64 0,AV.int .i64 0]=repS n 0:=by simp[repS]
theorem z6z (n:Nat): [[AV.int .i64 (-1),AV.int .i64 0]].take n++(repS n 0).drop (min 1 n)=repS n (min 1 n):=by
 cases n with
 |zero=>simp[repS]
 |succ n=>simp[repS,ydj]
theorem z5B (n:Nat):repS n n=zat (zh0 n):=by simp[repS,zat,zcP,zh0]
theorem z3A (n:Nat)(hn:n≤100000):PCalls Tryz.prog zes [.lst [[.int .i64 (-1),.int .i64 0]],.int .i64 n] (λr=>r=.lst (zat (zh0 n))):=by
 refine zaa hmix zea rfl ?_
 have kM:=z7Y (G:=G) 1 n (by decide) (by omega)
 have t:1*n/18446744073709551616=0:=by omega
 have u:1*n%18446744073709551616=n:=by omega
 rw[t,u]at kM
 have v:IntKind.u64.wrap (n:Int)=(n:Int):=by rw[zbd];omega
 have w:IntKind.i64.wrap (n:Int)=(n:Int):=wrap_i64 (by omega) (by omega)
 have y:IntKind.u64.wrap 1=1:=by decide
 have z:¬(n:Int)<0:=by omega
 have A:¬(9223372036854775807:Int)<(n:Int):=by omega
 have e:¬9223372036854775807<n:=by omega
 simp[zce,z,v,y]
 refine zac kM (by simp) ?_
 rintro r rfl
 simp[A,e,w]
 refine zsL n rfl rfl (by omega) (by omega) (by decide) rfl ?_
 rw[z3J]
 have g:=zyE (n:=n) (ydp n)
 simp
 refine zxK [[.int .i64 (-1),.int .i64 0]] (min 1 n) (σ':= [.row 186 2 (repS n (min 1 n)) false]) rfl (by simp) (by decide) ?_ ?_
 ·simp[zvW,g]
  have:=z6z n
  simpa using this
 simp
 refine zag (λx f σ=>∃k:Nat,x=n-k/\k≤n/\(1≤k∨n=0)/\f 7=.row 0 n/\f 8=.int .i64 k/\σ= [.row 186 2 (repS n k) false]) (n-min 1 n) ?_ ?_
 ·exact⟨min 1 n,rfl,by omega,by omega,by simp,by simp,rfl⟩
 rintro x f σ ⟨k,rfl,o,p,b,l,rfl⟩
 have c:=zyE o
 simp[b,l,c]
 refine zaq (λq=> ?_) (λs=> ?_)
 ·have m:k<n:=by omega
  have h:0<n:=by omega
  have C:1≤min k (n-k):=by omega
  obtain⟨d,j⟩:∃d,d=min k (n-k):=⟨_,rfl⟩
  have B:IntKind.i64.wrap ((k:Int)+d)=((k+d:Nat):Int):=by rw[wrap_i64 (by omega) (by omega)];omega
  have a:k≤n:=by omega
  simp[b,l,c,h,a]
  refine zxK (List.replicate k [.int .i64 (-1),.int .i64 0]) d (σ':= [.row 186 2 (repS n (k+d)) false]) ?_ (by simp) (by decide) ?_ ?_
  ·simp[c,zut]
  ·have:=z13 a
   rw[<-j]at this
   simp only[zvW,ybr,c,List.length_replicate]
   rw[if_pos ⟨trivial,trivial,trivial,a,yap _⟩]
   simp only[<-j,List.set_cons_zero]
   rw[this]
  simp[B]
  refine zad (n-(k+d)) (by omega) ⟨k+d,rfl,by omega,by omega,by simp[b],by simp,rfl⟩
 ·have:k=n:=by omega
  subst this
  have i:(zat (zh0 k)).length=k:=by simp[zau,zh0]
  simp[b,z5B,zdW,i]
theorem zjA (s n:Nat)(h1:1≤s)(h2:s≤86400)(h3:1≤n)(h4:n≤400):PCalls Tryz.prog zzw [.int .i64 s,.int .i64 n] (λr=>r=.tup [.agg (zah s (zh0 n)),.int .i64 0]):=by
 refine zaa hmix zyM rfl ?_
 simp[zrm]
 refine zac (zv5 s n h1 h2 h3 h4) (by simp) ?_
 rintro r rfl
 simp
 refine zac (z3A n (by omega)) (by simp[AV.pure]) ?_
 rintro r rfl
 simp[splice,zah]
theorem zqt:PCalls Tryz.prog znQ [.agg schC] (λr=>r=.tup [.agg (ladC newL),.int .i64 0]):=by
 refine zaa hmix zok rfl ?_
 have p:=zjA (G:=G) 10 6 (by omega) (by omega) (by omega) (by omega)
 have q:=zjA (G:=G) 60 5 (by omega) (by omega) (by omega) (by omega)
 simp only[zah]at p q
 simp[zi2,schC]
 refine zac zx0 (by simp) ?_
 rintro r rfl
 simp
 refine zac zi0 (by simp[AV.pure]) ?_
 rintro r rfl
 simp[splice]
 obtain⟨k,o⟩:∃k:Entry,k=.var 52 schC:=⟨_,rfl⟩
 obtain⟨l,m⟩:∃l:Entry,l=.var 55 [.int .i64 0,.int .i64 0,.nils]:=⟨_,rfl⟩
 refine zag (λx f σ=>∃(i:Nat),x=2-i/\i≤2/\f 2=.ptr 1 0/\f 4=.ptr 2 0/\f 28=.lst rungsC/\f 29=.int .i64 2/\f 30=.int .i64 i/\
  ((i=0/\σ= [k,l,.var 55 [.int .i64 1,.int .i64 500000,.nils]])∨
   (i=1/\∃a b,σ= [k,l,.var 55 [.int .i64 1,.int .i64 500000,.row 5 1],a,b,.row 112 2 [zah 10 (zh0 6)] true])∨
   (i=2/\∃a b c d,σ= [k,l,.var 55 [.int .i64 1,.int .i64 500000,.row 5 2],a,b,.row 112 2 [zah 10 (zh0 6),zah 60 (zh0 5)] true,c,d]))) 2 ?_ ?_
 ·exact⟨0,by simp,by simp,by simp,by simp,by simp,by simp[rungsC],by simp,.inl ⟨rfl,by simp[o,m,schC]⟩⟩
 rintro x f σ ⟨i,rfl,s,n,h,j,e,g,⟨rfl,rfl⟩|⟨rfl,a,b,rfl⟩|⟨rfl,a,b,c,d,rfl⟩⟩
 ·simp[n,h,j,e,g,rungsC,splice]
  refine zac p (by simp) ?_
  rintro r rfl
  simp[h,splice]
  refine zeX true [zah 10 (zh0 6)] (by simp[view,zah]) (by decide) (by simp[zah]) (λ_=> .inl (by simp[zfK,zah])) (by simp) (by simp) ?_
  simp[h,g,splice,wk1]
  exact zad 1 (by omega) ⟨1,rfl,by omega,by simp[n],by simp[h],by simp[j,rungsC],by simp[e],by simp,.inr (.inl ⟨rfl,_,_,rfl⟩)⟩
 ·simp[n,h,j,e,g,rungsC,splice]
  refine zac q (by simp) ?_
  rintro r rfl
  simp[h,splice]
  refine zbm [zah 10 (zh0 6)] [zah 60 (zh0 5)] true (by simp) (by simp[view,zah]) (by decide) (by simp[zah]) (λ_=> .inl (by simp[zfK,zah])) rfl (by simp) (by simp) ?_
  simp[h,g,splice,wk2]
  exact zad 0 (by omega) ⟨2,rfl,by omega,by simp[n],by simp[h],by simp[j,rungsC],by simp[e],by simp,.inr (.inr ⟨rfl,a,b,_,_,rfl⟩)⟩
 ·simp[n,h,e,g,m,splice,ladC,zan,newL]
  exact⟨rfl,rfl⟩
theorem zxg (l:LadM)(t now:Nat)(ht:t≤1000000000)(hn:now≤1000000000):PCalls Tryz.prog ziU [.agg (ladC l),.agg [.int .i64 t,.int .i64 (-9223372036854775808)],.int .i64 now] (λr=>r=.tup [.agg (ladC l),.int .i64 1]):=by
 refine zaa hmix zjq rfl ?_
 simp[zfX,ladC]
 refine zac (zly t (by omega)) (by simp) ?_
 rintro r rfl
 simp
 refine zac (zly now (by omega)) (by simp) ?_
 rintro r rfl
 simp[splice]
def zyK (bs:List ArrM):List ArrM:=bs.takeWhile λa=>decide (a.value≠ -9223372036854775808)
theorem z4Y {bs:List ArrM}{i:Nat}{a:ArrM}(h:bs[i]? =some a)(hv:∀x∈bs.take i,OkV x)(ha:¬OkV a):zyK bs=bs.take i:=by
 induction bs generalizing i with
 |nil=>simp at h
 |cons b bs e=>
  cases i with
  |zero=>
   simp at h;subst h
   unfold OkV at ha
   simp[zyK,Classical.not_not.1 ha]
  |succ i=>
   have c:OkV b:=hv b (by simp)
   have:=e (i:=i) (by simpa using h) λx d=>hv x (by simp[d])
   unfold OkV at c
   simp only[zyK]at this⊢
   simp[c]
   simpa using this
theorem zt7 {bs:List ArrM}(hv:∀x∈bs,OkV x):zyK bs=bs:=by
 induction bs with
 |nil=>rfl
 |cons b bs d=>
  have a:OkV b:=hv b (by simp)
  have:=d λx c=>hv x (by simp[c])
  unfold OkV at a
  simp only[zyK]at this⊢
  simp[a]
  simpa using this
instance (a:ArrM):Decidable (OkV a):=by unfold OkV;exact inferInstance
theorem z3f (l:LadM)(h:RightL l)(bs:List ArrM)(hb:∀a∈bs,OkA a)(hl:bs.length≤1000):PCalls Tryz.prog zqy [.agg (ladC l),.lst (zbl bs)] (λr=>r=.tup [.agg (ladC (zba l (zyK bs))),.int .i64 (if∀a∈bs,OkV a then 0 else 1)]):=by
 refine zaa hmix zre rfl ?_
 have B:=zcE bs
 simp[zjY,B,ladC]
 obtain⟨w,c⟩:∃w:Entry,w=.var 55 [.int .i64 0,.int .i64 0,.nils]:=⟨_,rfl⟩
 refine zag (λx f σ=>∃(i:Nat) (z:zab),x=bs.length-i/\i≤bs.length/\(∀a∈bs.take i,OkV a)/\f 2=.ptr 0 0/\f 4=.ptr 1 0/\f 9=.lst (zbl bs)/\f 10=.int .i64 bs.length/\f 11=.int .i64 i/\σ=.var 55 (ladC (zba l (bs.take i)))::w::z) bs.length ?_ ?_
 ·exact⟨0,[],by simp,by simp,by simp,by simp,by simp,by simp,by simp,by simp,by simp[c,ladC,zba]⟩
 rintro x f σ ⟨i,z,rfl,Q,d,m,A,H,o,e,rfl⟩
 simp[o,e]
 refine zaq (λK=> ?_) (λL=> ?_)
 ·have q:i<bs.length:=by omega
  have C:IntKind.i64.wrap ((i:Int)+1)=((i+1:Nat):Int):=by rw[wrap_i64 (by omega) (by omega)];omega
  obtain⟨a,k⟩:∃a,bs[i]? =some a:=⟨_,yac q⟩
  have I:=zma k
  obtain⟨J,y⟩:=yaa.1 I
  have g:=hb a (yae k)
  have s:bs.take (i+1)=bs.take i++ [a]:=by rw[yau,k];rfl
  have O:RightL (zba l (bs.take i)):=zdm h λx p=>⟨hb x (yan p),d x p⟩
  simp[m,H,e,I,y,arrC,zai,zak,splice,ladC]
  by_cases b:OkV a
  ·have j:=zm4 (G:=G) _ O a.time a.now a.value g.t g.n g.le g.ge g.v b
   have D:zc3 (zba l (bs.take i)) a.time a.now a.value=zba l (bs.take (i+1)):=by rw[s,zgS];rfl
   rw[D]at j
   simp only[ladC]at j
   refine zac j (by simp[AV.pure]) ?_
   rintro r rfl
   simp[m,e,zai,zak,splice,ladC,C]
   refine zad (bs.length-(i+1)) (by omega) ⟨i+1,z++ [.var 91 (arrC a)],rfl,by omega,λx p=> ?_,by simp[m],by simp[A],by simp[H],by simp[o],by simp,by simp[ladC,arrC]⟩
   rw[s]at p
   rcases yag.1 p with u|u
   ·exact d x u
   ·simp at u;subst u;exact b
  ·have E:a.value= -9223372036854775808:=Classical.not_not.1 b
   have j:=zxg (G:=G) (zba l (bs.take i)) a.time a.now g.t g.n
   have P:¬∀a∈bs,OkV a:=λM=>b (M a (yae k))
   simp only[ladC]at j
   rw[E]
   refine zac j (by simp[AV.pure]) ?_
   rintro r rfl
   rw[z4Y k d b]
   simp[m,A,c,splice,P,zqj]
 ·have F:i=bs.length:=by omega
  subst F
  rw[ya0]at d⊢
  rw[zt7 d]
  simp[m,A,c,splice,ladC,d]
  exact d
end Go.Proofs.YtdbhocoeolhjhaaGreatDoor
end
section
namespace Go.Sf
section
variable {α:Type}{key:α->Txt}
theorem z4a (l:List α)(x:α):(insK key l x).Perm (x::l):=by
 have:=List.perm_middle (a:=x) (l₁:=l.take (posK key l (key x))) (l₂:=l.drop (posK key l (key x)))
 rwa[yba]at this
theorem zAq {l:List α}{s:Txt}(hs:Srt key l)(h:hasK key l s):∃x,l[posK key l s]? =some x/\key x=s/\l.Perm (x::delK key l s):=by
 obtain⟨x,a,c⟩:=(zdE hs).1 h
 have b:=(yaa.1 a).1
 refine⟨x,a,c, ?_⟩
 have e:l=l.take (posK key l s)++x::l.drop (posK key l s+1):=by
  conv=>lhs;rw[<-yba (posK key l s) l]
  rw[ybn b,(yaa.1 a).2]
 conv=>lhs;rw[e]
 exact List.perm_middle
end
theorem zgP {l:List NameM}(hs:Srt kN l){n:NameM}(h:n∈l):idOf l n.name=n.id:=by
 induction l with
 |nil=>simp at h
 |cons x l b=>
  unfold idOf
  split
  ·rename_i a
   rw[zsq hs (x:=x) (y:=n) (by simp) h a]
  ·rename_i a
   rcases ybb.1 h with rfl|h
   ·exact absurd rfl a
   ·exact b (List.Pairwise.of_cons hs) h
theorem z6t {l:List NameM}(hs:Srt kN l){s:Txt}(h:hasK kN l s):∃n∈l,n.name=s/\n.id=idOf l s:=by
 obtain⟨n,a,rfl⟩:=h
 exact⟨n,a,rfl,(zgP hs a).symm⟩
def modF (fs:List FileM)(id:Nat)(g:FileM->FileM):List FileM:=fs.map λf=>if f.id=id then g f else f
def zaz (d:DiskM)(s:Txt):DiskM:={d with files:=d.files++ [⟨d.next,[],0⟩],names:=insK kN d.names ⟨s,d.next⟩,moves:=d.moves++ [⟨1,s,[],d.next⟩],next:=d.next+1}
def zaJ (d:DiskM)(s b:Txt):DiskM:={d with files:=modF d.files (idOf d.names s) λf=>{f with bytes:=f.bytes++b}}
def zdk (d:DiskM)(s:Txt):DiskM:={d with files:=modF d.files (idOf d.names s) λf=>{f with sure:=f.bytes.length}}
def zb2 (d:DiskM):DiskM:={d with kept:=d.names,moves:= [],files:=d.files.filter λf=>decide (∃n∈d.names,n.id=f.id)}
def zcK (d:DiskM)(s t:Txt):DiskM:={d with names:=insK kN (zfM (delK kN d.names s) t) ⟨t,idOf d.names s⟩,moves:=d.moves++ [⟨3,s,t,0⟩]}
def zdo (d:DiskM)(s:Txt):DiskM:={d with names:=delK kN d.names s,moves:=d.moves++ [⟨2,s,[],0⟩]}
theorem zh8 {l:List NameM}{ms:List MoveM}{m:MoveM}:replay l (ms++ [m])=(replay l ms).bind λl'=>zf6 l' m:=by
 induction ms generalizing l with
 |nil=>simp[replay]
 |cons x ms a=>
  simp only[ybq,replay]
  cases zf6 l x with
  |none=>rfl
  |some l'=>simpa using a
theorem zrV {l:List NameM}{x:NameM}(h:Listed l)(hn:¬hasK kN l x.name)(ho:okS x.name)(hi:x.id∉l.map (·.id)):Listed (insK kN l x):=by
 refine⟨zhX h.srt hn,λn a=> ?_, ?_⟩
 ·rcases zc2.1 a with rfl|a
  ·exact ho
  ·exact h.ok n a
 ·have:=(z4a (key:=kN) l x).map (·.id)
  refine this.nodup_iff.2 ?_
  rw[yci,ydt]
  exact⟨hi,h.ids⟩
theorem zrY {l l':List NameM}(h:Listed l)(hs:l'.Sublist l):Listed l':=⟨h.srt.sublist hs,λn a=>h.ok n (hs.subset a),h.ids.sublist (hs.map _)⟩
theorem zrt {l:List NameM}(h:Listed l)(s:Txt):Listed (delK kN l s):=zrY h (zjs l s)
theorem zt2 (l:List NameM)(s:Txt):(zfM l s).Sublist l:=by
 unfold zfM;split
 ·exact zjs l s
 ·exact List.Sublist.refl _
theorem zyw {l:List NameM}(hs:Srt kN l)(s:Txt):¬hasK kN (zfM l s) s:=by
 unfold zfM;split
 ·rename_i c
  rintro⟨x,a,b⟩
  exact((zeM hs c).1 a).2 b
 ·assumption
theorem zoJ {l:List NameM}(hs:Srt kN l){s:Txt}{n:NameM}:n∈zfM l s↔n∈l/\n.name≠s:=by
 unfold zfM;split
 ·rename_i a;exact zeM hs a
 ·rename_i a
  exact⟨λh=>⟨h,λe=>a ⟨n,h,e⟩⟩,λh=>h.1⟩
theorem RightM.idlt {d:DiskM}(h:RightM d){i:Nat}(hi:i∈idsM d):1≤i/\i<d.next:=by
 obtain⟨f,a,rfl⟩:=(h.same i).1 hi
 have:=h.filed.2 f a
 exact⟨this.1,this.2.1⟩
theorem zkH (ms:List MoveM)(m:MoveM):zbK (ms++ [m])=zbK ms++(if m.kind=1 then [m.id]else []):=by
 unfold zbK
 by_cases h:m.kind=1<;>simp[h]
theorem zn9 {d:DiskM}{s:Txt}(h:RightM d)(ho:okS s)(hn:¬hasK kN d.names s)(hf:d.files.length<256)(hx:d.next<1099511627776):RightM (zaz d s):=by
 have g:idsM (zaz d s)=idsM d++ [d.next]:=by
  simp only[idsM,zaz,zkH,if_pos,ya3]
 have l:d.next∉idsM d:=λc=>by have:=(h.idlt c).2;omega
 refine⟨h.quota, ?_, ?_, ?_,h.kept, ?_,⟨?_,λf c=> ?_⟩, ?_, ?_,λi=> ?_,λn c=> ?_, ?_⟩
 ·show 1≤d.next+1;omega
 ·show d.next+1≤_;omega
 ·show(d.files++ [_]).length≤256;simp;omega
 ·exact zrV h.names hn ho (λc=>by
   obtain⟨n,m,e⟩:=yav.1 c
   have:=(h.idlt (h.nids n m)).2
   simp only at e;omega)
 ·show(d.files++ [_]).Pairwise _
  rw[ydq]
  refine⟨h.filed.1,by simp,λa o b k=> ?_⟩
  simp at k;subst k
  exact(h.filed.2 a o).2.1
 ·have p:f∈d.files++ [⟨d.next,[],0⟩]:=c
  show 1≤f.id/\f.id<d.next+1/\_
  rcases yag.1 p with c|c
  ·have:=h.filed.2 f c;exact⟨this.1,by omega,this.2.2⟩
  ·simp at c;subst c;exact⟨h.next1,by simp,by simp⟩
 ·show replay d.kept (d.moves++ [_])=_
  rw[zh8,h.replay]
  simp only[ydz,zf6,if_pos ho,if_pos]
  rw[if_neg (by
   rintro(j|j|j)
   ·exact hn j
   ·exact j rfl
   ·have:=h.next1;simp at j;omega)]
  rfl
 ·rw[g,ydb]
  exact⟨h.ids,by simp,λa o b k e=>by simp at k;subst k;subst e;exact l o⟩
 ·rw[g,yag,h.same i]
  show _↔∃f∈d.files++ [_],f.id=i
  simp only[yag,ybk]
  constructor
  ·rintro(⟨f,hf,e⟩|rfl)
   ·exact⟨f,.inl hf,e⟩
   ·exact⟨_,.inr rfl,rfl⟩
  ·rintro⟨f,hf|rfl,e⟩
   ·exact .inl ⟨f,hf,e⟩
   ·exact .inr e.symm
 ·rw[g]
  rcases zc2.1 c with rfl|c
  ·simp
  ·exact yag.2 (.inl (h.nids n c))
 ·have:=h.used
  show(((d.files++ [_]).map _).sum)≤d.quota
  simpa[zbf,zc1]using this
theorem z6A (fs:List FileM)(id:Nat)(g:FileM->FileM)(hg:∀f,(g f).id=f.id):(modF fs id g).map (·.id)=fs.map (·.id):=by
 simp only[modF,yeb]
 refine ydu λf _=> ?_
 show(if f.id=id then g f else f).id=f.id
 split
 ·exact hg f
 ·rfl
theorem z93 {fs gs:List FileM}(h:gs.map (·.id)=fs.map (·.id))(hp:fs.Pairwise λa b=>a.id<b.id):gs.Pairwise λa b=>a.id<b.id:=by
 have c:(fs.map (·.id)).Pairwise (· < ·):=ybv.2 hp
 rw[<-h]at c
 exact ybv.1 c
theorem zv2 {d:DiskM}{id:Nat}{g:FileM->FileM}(h:RightM d)(hg:∀f,(g f).id=f.id)(hsu:∀f∈d.files,(g f).sure≤(g f).bytes.length)(hu:zc1 (modF d.files id g)≤d.quota):RightM {d with files:=modF d.files id g}:=by
 have j:=z6A d.files id g hg
 have c:∀i,(∃f∈modF d.files id g,f.id=i)↔∃f∈d.files,f.id=i:=λi=>by
  have l:(∃f∈modF d.files id g,f.id=i)↔i∈(modF d.files id g).map (·.id):=by simp
  have m:(∃f∈d.files,f.id=i)↔i∈d.files.map (·.id):=by simp
  rw[l,m,j]
 refine⟨h.quota,h.next1,h.next2, ?_,h.kept,h.names,⟨z93 j h.filed.1,λf k=> ?_⟩,h.replay,h.ids,λi=> ?_,h.nids,hu⟩
 ·show(modF d.files id g).length≤256
  simpa[modF]using h.nfiles
 ·obtain⟨a,b,rfl⟩:=yav.1 k
  have e:=h.filed.2 a b
  show 1≤(if a.id=id then g a else a).id/\(if a.id=id then g a else a).id<d.next/\_
  split
  ·rw[hg];exact⟨e.1,e.2.1,hsu a b⟩
  ·exact e
 ·show i∈idsM d↔_
  rw[c,h.same]
theorem zyf:∀(fs:List FileM) (id:Nat) (b:Txt),(fs.map (·.id)).Nodup->zc1 (modF fs id λf=>{f with bytes:=f.bytes++b})≤zc1 fs+b.length/\((∃f∈fs,f.id=id)->zc1 (modF fs id λf=>{f with bytes:=f.bytes++b})=zc1 fs+b.length)/\((¬∃f∈fs,f.id=id)->zc1 (modF fs id λf=>{f with bytes:=f.bytes++b})=zc1 fs)
 | [],_,_,_=>by simp[zc1,modF]
 |f::fs,id,b,hn=>by
  rw[yci,ydt]at hn
  obtain⟨n,l,k⟩:=zyf fs id b hn.2
  have m:∀g,zc1 (modF (f::fs) id g)=((if f.id=id then g f else f).bytes.length)+zc1 (modF fs id g):=λg=>by simp[zc1,modF]
  have i:zc1 (f::fs)=f.bytes.length+zc1 fs:=by simp[zc1]
  rw[m,i]
  by_cases d:f.id=id
  ·have j:¬∃c∈fs,c.id=id:=λ⟨c,a,e⟩=>hn.1 (yav.2 ⟨c,a,by rw[e,d]⟩)
   rw[if_pos d,k j]
   refine⟨by simp;omega,λ_=>by simp;omega,λh=>absurd ⟨f,by simp,d⟩ h⟩
  ·rw[if_neg d]
   refine⟨by omega, ?_,λh=> ?_⟩
   ·rintro⟨c,a,e⟩
    rcases ybb.1 a with rfl|a
    ·exact absurd e d
    ·rw[l ⟨c,a,e⟩];omega
   ·rw[k λ⟨c,a,e⟩=>h ⟨c,ybw _ a,e⟩]
theorem ztC {d:DiskM}{s b:Txt}(h:RightM d)(hb:b.length≤d.quota-zbf d):RightM (zaJ d s b):=by
 have c:=(zyf d.files (idOf d.names s) b h.filed.ids).1
 have e:=h.used
 refine zv2 h (λ_=>rfl) (λf a=> ?_) ?_
 ·have:=(h.filed.2 f a).2.2
  show f.sure≤(f.bytes++b).length
  simp;omega
 ·have:zc1 d.files=zbf d:=rfl
  omega
theorem zpi (d:DiskM)(s:Txt):zbf (zdk d s)=zbf d:=by
 show zc1 (modF _ _ _)=zc1 _
 unfold zc1 modF
 rw[yeb]
 congr 1
 refine ydu λf _=> ?_
 show(if f.id=_ then _ else f).bytes.length=_
 split<;>rfl
theorem zyR {d:DiskM}{s:Txt}(h:RightM d):RightM (zdk d s):=
 zv2 h (λ_=>rfl) (λf a=>yap _) (by have:=zpi d s;have:=h.used;simp only[zbf,zdk]at*;omega)
theorem zqu (p:FileM->Bool):∀fs:List FileM,zc1 (fs.filter p)≤zc1 fs
 | []=>by simp[zc1]
 |f::fs=>by
  have:=zqu p fs
  have b:∀g a,zc1 (g::a)=g.bytes.length+zc1 a:=λg a=>by simp[zc1]
  rw[List.filter_cons]
  split
  ·rw[b,b];omega
  ·rw[b];omega
theorem zsz {d:DiskM}(h:RightM d):RightM (zb2 d):=by
 have a:idsM (zb2 d)=d.names.map (·.id):=by simp[idsM,zb2,zbK]
 refine⟨h.quota,h.next1,h.next2, ?_,h.names,h.names,⟨h.filed.1.filter _,λf c=>h.filed.2 f (ybs.1 c).1⟩,rfl,by rw[a];exact h.names.ids,λi=> ?_,λn b=> ?_, ?_⟩
 ·exact ycm (yen _ _) h.nfiles
 ·rw[a]
  show _↔∃f∈d.files.filter _,f.id=i
  constructor
  ·intro g
   obtain⟨n,b,rfl⟩:=yav.1 g
   obtain⟨f,c,e⟩:=(h.same _).1 (h.nids n b)
   exact⟨f,ybs.2 ⟨c,by simp;exact⟨n,b,e.symm⟩⟩,e⟩
  ·rintro⟨f,c,rfl⟩
   have:=(ybs.1 c).2
   simp only[decide_eq_true_eq]at this
   obtain⟨n,b,e⟩:=this
   exact yav.2 ⟨n,b,e⟩
 ·rw[a];exact yav.2 ⟨n,b,rfl⟩
 ·exact ycm (zqu _ _) h.used
theorem zyp {d:DiskM}{ns:List NameM}{m:MoveM}(hk:m.kind≠1):idsM {d with names:=ns,moves:=d.moves++ [m]}=idsM d:=by
 simp[idsM,zkH,hk]
theorem zuX {d:DiskM}{s:Txt}(h:RightM d)(ho:okS s)(hh:hasK kN d.names s):RightM (zdo d s):=by
 have a:idsM (zdo d s)=idsM d:=zyp (by simp)
 refine⟨h.quota,h.next1,h.next2,h.nfiles,h.kept,zrt h.names s,h.filed, ?_,by rw[a];exact h.ids,λi=>by rw[a];exact h.same i,λn b=>by rw[a];exact h.nids n ((zjs _ _).subset b),h.used⟩
 show replay d.kept (d.moves++ [_])=_
 rw[zh8,h.replay]
 simp[zf6,ho,hh,zdo]
theorem zvB {d:DiskM}{s t:Txt}(h:RightM d)(ho:okS s)(hh:hasK kN d.names s)(hot:okS t)(hne:t≠s):RightM (zcK d s t):=by
 have a:idsM (zcK d s t)=idsM d:=zyp (by simp)
 obtain⟨x,l,m,o⟩:=zAq h.names.srt hh
 have c:=yae l
 have e:idOf d.names s=x.id:=by rw[<-m];exact zgP h.names.srt c
 have f:=(o.map (·.id)).nodup_iff.1 h.names.ids
 rw[yci,ydt]at f
 have g:=zrt h.names s
 have b:(zfM (delK kN d.names s) t).Sublist (delK kN d.names s):=zt2 _ _
 refine⟨h.quota,h.next1,h.next2,h.nfiles,h.kept, ?_,h.filed, ?_,by rw[a];exact h.ids,λi=>by rw[a];exact h.same i,λn j=> ?_,h.used⟩
 ·refine zrV (zrY g b) (zyw g.srt t) hot (λk=> ?_)
  simp only at k
  rw[e]at k
  exact f.1 ((b.map _).subset k)
 ·show replay d.kept (d.moves++ [_])=_
  rw[zh8,h.replay]
  simp[zf6,ho,hh,hot,hne,zcK]
 ·rw[a]
  rcases zc2.1 j with rfl|j
  ·show idOf d.names s∈_
   rw[e];exact h.nids x c
  ·exact h.nids n ((zjs _ _).subset (b.subset j))
theorem z2q {q:Nat}(hq:q≤1073741824):RightM ⟨q,[],[],[],[],1⟩:=by
 refine⟨hq,by simp,by simp,by simp,⟨by simp[Srt],by simp,by simp⟩,⟨by simp[Srt],by simp,by simp⟩,⟨by simp,by simp⟩,rfl,by simp[idsM,zbK],λi=>by simp[idsM,zbK],by simp,by simp[zbf,zc1]⟩
end Go.Sf
end
section
set_option maxHeartbeats 2000000
namespace Go.Sf
open Go.Abs
def kvs (ids:List Nat):List (AV×AV):=ids.map λ(i:Nat)=>(AV.int .i64 (i:Int),AV.bool true)
theorem zwL (ids:List Nat):(kvs ids).length=ids.length:=by simp[kvs]
theorem z4F (ids:List Nat)(i:Nat):kvs (ids++ [i])=kvs ids++ [(AV.int .i64 (i:Int),AV.bool true)]:=by simp[kvs]
theorem zsA {ids:List Nat}{i:Nat}(h:i∉ids)(p:Nat):zaO 0 (.int .i64 i) (kvs ids) p=some none:=by
 induction ids generalizing p with
 |nil=>rfl
 |cons x ids f=>
  have c:¬x=i:=λe=>h (by simp[e])
  have:=f (λd=>h (by simp[d])) (p+1)
  simp only[kvs,yci,zaO]
  simp only[kvs]at this
  have a:¬(x:Int)=(i:Int):=by omega
  have b:¬(i:Int)=(x:Int):=by omega
  simp[eq1,c,Ne.symm c,a,b,this]
theorem zsb {ids:List Nat}{i:Nat}(h:i∉ids):zdt 0 (.int .i64 i) (.bool true) (kvs ids)=some (kvs (ids++ [i])):=by
 rw[zdt,zsA h,z4F];rfl
theorem z9Z {kv:List (AV×AV)}{tl:zab}{t:TypeId}{c:List AV}:zbP (.mp kv::(tl++ [.var t c]))=zbP tl:=by simp[zbP,Entry.isItr]
theorem zAB {tl:zab}{t:TypeId}{c:List AV}:zbP (tl++ [.var t c])=zbP tl:=by simp[zbP,Entry.isItr]
def NoI (tl:zab):Prop:=zbP tl=true
theorem NoI.nil:NoI []:=rfl
theorem NoI.var {tl:zab}(h:NoI tl)(t:TypeId)(c:List AV):NoI (tl++ [.var t c]):=by unfold NoI;rw[zAB];exact h
theorem NoI.eq {tl:zab}(h:NoI tl):zbP tl=true:=h
theorem w01:IntKind.i64.wrap 1=1:=by decide
theorem z3Y {ids:List Nat}{i:Nat}(h:i∈ids)(p:Nat):∃q,zaO 0 (.int .i64 i) (kvs ids) p=some (some (q,.bool true)):=by
 induction ids generalizing p with
 |nil=>simp at h
 |cons x ids e=>
  simp only[kvs,yci,zaO]
  by_cases a:x=i
  ·subst a;simp[eq1]
  ·obtain⟨q,d⟩:=e (by rcases ybb.1 h with h|h;exact absurd h.symm a;exact h) (p+1)
   simp only[kvs]at d
   have b:¬(x:Int)=(i:Int):=by omega
   have c:¬(i:Int)=(x:Int):=by omega
   simp[eq1,a,Ne.symm a,b,c,d]
end Go.Sf
namespace Go.Proofs.YtdbhocoeolhjhaaGreatDoor
open Go.Abs Go.RowKit Go.Sf
variable {G:Globs}
theorem znv (l:List NameM)(s:Txt)(hs:Srt kN l)(hl:l.length≤1000000):PCalls Tryz.prog zqT [.lst (zao l),.str s] (λr=>r=.lst (zao (zfM l s))):=by
 refine zaa hmix zrk rfl ?_
 simp[zko]
 refine zac (ziC l s hs (by omega)) (by simp) ?_
 rintro r rfl
 by_cases b:hasK kN l s
 ·obtain⟨x,c,g⟩:=(zdE hs).1 b
  have a:=(yaa.1 c).1
  have e:IntKind.i64.wrap ((posK kN l s:Int)+1)=(posK kN l s:Int)+1:=wrap_i64 (by omega) (by omega)
  simp[b]
  refine zam (z0C (zao l) (zde l) (by rw[za6];omega)) ?_
  rintro r σ (⟨d,rfl,rfl⟩|⟨rfl,rfl⟩)
  ·have:=congrArg List.length d
   rw[za6]at this
   simp at this;rw[this]at a;simp at a
  simp[e]
  refine zam (z5a (id:=0) (els:=zao l) (i:=posK kN l s) (by simp) (by rw[za6];exact a)) ?_
  rintro r σ ⟨rfl,rfl⟩
  rw[zzF]
  have f:(zao l).length-1=(zao (delK kN l s)).length:=by
   have:=zyF hs b
   rw[za6,za6];omega
  rw[f]
  simp[zpW,zfM,b]
 ·simp[b,zfM]
def z4y (m:MoveM):Prop:=m.name.length≤1000000/\m.dst.length≤1000000/\m.kind≤1000000/\m.id≤1000000000000000
theorem zy2 (l l':List NameM)(m:MoveM)(hs:Srt kN l)(hl:l.length≤1000000)(hd:zf6 l m=some l')(hm:z4y m):PCalls Tryz.prog zxy [.lst (zao l),.agg (zdh m)] (λr=>r=.tup [.lst (zao l'),.bool true]):=by
 refine zaa hmix zx2 rfl ?_
 obtain⟨k,b,a,id⟩:=m
 obtain⟨v,w,y,z⟩:=hm
 simp only at v w y z
 simp[zpH,zdh]
 refine zac (ziC l b hs (by omega)) (by simp) ?_
 rintro r rfl
 have f:okS b:=by
  unfold zf6 at hd
  split at hd
  ·assumption
  ·cases hd
 simp
 refine zac (zj5 b (by omega)) (by simp) ?_
 rintro r rfl
 simp[f]
 unfold zf6 at hd
 simp only at hd
 rw[if_pos f]at hd
 split at hd
 ·rename_i e
  subst e
  split at hd
  ·cases hd
  rename_i c
  simp only[yab]at hd
  subst hd
  have d:¬hasK kN l b:=λh=>c (.inl h)
  have g:a= []:=Classical.byContradiction λh=>c (.inr (.inl h))
  have i:¬((id:Int)<1):=λh=>c (.inr (.inr (by omega)))
  subst g
  simp[d,i]
  refine zac (zy3 l b id hs (by omega)) (by simp) ?_
  rintro r rfl
  simp
 split at hd
 ·rename_i s e
  subst e
  split at hd
  ·cases hd
  rename_i c
  simp only[yab]at hd
  subst hd
  have d:hasK kN l b:=Classical.byContradiction λh=>c (.inl h)
  have g:a= []:=Classical.byContradiction λh=>c (.inr (.inl h))
  have i:id=0:=Classical.byContradiction λh=>c (.inr (.inr h))
  subst g;subst i
  simp[d]
  refine zac (znv l b hs (by omega)) (by simp) ?_
  rintro r rfl
  simp[zfM,d]
 split at hd
 ·rename_i s B e
  subst e
  split at hd
  ·cases hd
  rename_i c
  simp only[yab]at hd
  subst hd
  have d:hasK kN l b:=Classical.byContradiction λh=>c (.inl h)
  have g:okS a:=Classical.byContradiction λh=>c (.inr (.inl h))
  have i:¬a=b:=λh=>c (.inr (.inr (.inl h)))
  have C:id=0:=Classical.byContradiction λh=>c (.inr (.inr (.inr h)))
  subst C
  obtain⟨x,p,e⟩:=(zdE hs).1 d
  have D:=(yaa.1 p).1
  have t:=yae p
  have u:idOf l b=x.id:=by rw[<-e];exact zgP hs t
  have j:=zcH p
  obtain⟨A,q⟩:=yaa.1 j
  have n:Srt kN (delK kN l b):=zf3 hs
  have E:=zyF hs d
  simp[d]
  refine zac (zj5 a (by omega)) (by simp) ?_
  rintro r rfl
  simp[g,i]
  refine zbu (r:=.lst (zao (delK kN l b))) ((znv l b hs (by omega)).mono λr h=>by rw[h];simp[zfM,d]) (by simp) ?_
  simp
  refine zbu (znv (delK kN l b) a n (by omega)) (by simp) ?_
  simp[j,q,zc5]
  have o:=zt2 (delK kN l b) a
  refine zbu (zy3 (zfM (delK kN l b) a) a x.id (n.sublist o) (by have:=o.length_le;omega)) (by simp) ?_
  simp[u]
 ·cases hd
theorem zhq {α:Type}{l:List α}{i:Nat}{n:α}(h:l[i]? =some n):l.take (i+1)=l.take i++ [n]:=by rw[yau,h];rfl
theorem zpa {l:List Nat}(h:l.Nodup){i x:Nat}(hx:l[i]? =some x):x∉l.take i:=λd=>by
 obtain⟨j,a,e⟩:=yay.1 d
 rw[yas]at a
 rw[ycj]at e
 obtain⟨b,c⟩:=yaa.1 hx
 have:=(ybg.1 h)
 exact ybi.1 this j i (by omega) b (by omega) (by rw[e,c])
theorem z0h (l:List NameM)(h:Listed l)(hl:l.length≤1000000):PCalls Tryz.prog zt4 [.lst (zao l)] (λr=>r=.bool true):=by
 refine zaa hmix zsF rfl ?_
 simp[zls]
 have F:=za6 l
 obtain⟨ids,c⟩:∃ids,ids=l.map (·.id):=⟨_,rfl⟩
 have q:ids.Nodup:=by rw[c];exact h.ids
 refine zag (λx f σ=>∃(i:Nat) (k:zab),x=l.length-i/\i≤l.length/\f 0=.lst (zao l)/\f 3=.map 0/\f 7=.lst (zao l)/\f 8=.int .i64 l.length/\f 9=.int .i64 i/\NoI k/\σ=.mp (kvs (ids.take i))::k) l.length ?_ ?_
 ·exact⟨0,[],by simp,by simp,by simp,by simp,by simp,by simp[F],by simp,NoI.nil,by simp[kvs]⟩
 rintro x f σ ⟨i,k,U,W,m,o,p,E,g,b,rfl⟩
 simp[E,g]
 refine zaq (λR=> ?_) (λS=> ?_)
 ·have s:i<l.length:=by omega
  have G:IntKind.i64.wrap ((i:Int)+1)=((i+1:Nat):Int):=by rw[wrap_i64 (by omega) (by omega)];omega
  obtain⟨n,A⟩:∃n,l[i]? =some n:=⟨_,yac s⟩
  have B:=zcH A
  obtain⟨M,d⟩:=yaa.1 B
  have H:=yae A
  have t:=h.ok n H
  have a:ids[i]? =some n.id:=by rw[c,yb8,A];rfl
  have I:=zsA (zpa q a) 0
  have u:=zhq a
  simp[m,o,p,g,B,d,zc5,zai,zak,splice]
  refine zap (r:=.bool true) ((zj5 n.name (by have:=t.2;omega)).mono λr T=>by rw[T];simp[t]) (by simp) (by simp) ?_
  by_cases L:i=0
  ·subst L
   have v:zaO 0 (.int .i64 n.id) (kvs []) 0=some none:=rfl
   have J:zdt 0 (.int .i64 n.id) (.bool true) (kvs [])=some (kvs [n.id]):=zsb (ids:= []) (by simp)
   simp[m,o,p,g,B,d,zc5,zai,zak,splice,v,J,z9Z,b.eq, -zaO, -zdt, -zbP, -Entry.isItr]
   refine zad (l.length-1) (by omega) ⟨1,k++ [.var 101 [.str n.name,.int .i64 n.id]],rfl,by omega,by simp[m],by simp[o],by simp[p],by simp[E],by simp[g,w01],b.var _ _, ?_⟩
   rw[u];simp
  ·have K:IntKind.i64.wrap ((i:Int)-1)=((i-1:Nat):Int):=by rw[wrap_i64 (by omega) (by omega)];omega
   obtain⟨C,j⟩:∃C,l[i-1]? =some C:=⟨l[i-1]'(by omega),yac (by omega)⟩
   have w:=zcH j
   obtain⟨O,D⟩:=yaa.1 w
   have y:C.name<n.name:=by
    obtain⟨P,rfl⟩:=yaa.1 A
    obtain⟨Q,rfl⟩:=yaa.1 j
    exact ybi.1 h.srt _ _ Q P (by omega)
   have z:(0:Int)<i:=by omega
   have e:0<i:=by omega
   simp[m,o,p,g,B,d,zc5,zai,zak,splice,I,z,e,K,w,D,zxY,y,zsb (zpa q a),z9Z,b.eq, -zaO, -zdt, -zbP, -Entry.isItr]
   refine zad (l.length-(i+1)) (by omega) ⟨i+1,k++ [.var 101 [.str n.name,.int .i64 n.id]],rfl,by omega,by simp[m],by simp[o],by simp[p],by simp[E],by simp[g,G],b.var _ _, ?_⟩
   rw[u]
 ·simp
structure Fits (d:DiskM):Prop where
 nfiles:d.files.length≤1000000
 nnames:d.names.length≤1000000
 nkept:d.kept.length≤1000000
 nmoves:d.moves.length≤500000
 bytes:∀f∈d.files,f.bytes.length≤1000000000
 moves:∀m∈d.moves,z4y m
theorem zkK (l:Txt):(byteEls l).length=l.length:=by simp[byteEls]
theorem z1l (d:DiskM)(h:Filed d.next d.files)(hq:d.quota≤1000000000000)(hx:d.next≤1000000000000000)(hl:Fits d):PCalls Tryz.prog zuK [.agg (zal d)] (λr=>r=.bool true):=by
 refine zaa hmix zu7 rfl ?_
 simp[znD,zal]
 have w:=zbJ d.files
 have S:=hl.nfiles
 refine zag (λx f σ=>∃(i:Nat) (o:zab),x=d.files.length-i/\i≤d.files.length/\f 1=.ptr 0 0/\f 6=.lst (za2 d.files)/\f 7=.int .i64 d.files.length/\f 8=.int .i64 i/\σ=.var 30 (zal d)::o) d.files.length ?_ ?_
 ·exact⟨0,[],by simp,by simp,by simp,by simp,by simp[w],by simp,by simp[zal]⟩
 rintro x f σ ⟨i,o,hx,Y,p,q,u,v,rfl⟩
 simp[u,v]
 refine zaq (λQ=> ?_) (λR=> ?_)
 ·have e:i<d.files.length:=by omega
  have y:IntKind.i64.wrap ((i:Int)+1)=((i+1:Nat):Int):=by rw[wrap_i64 (by omega) (by omega)];omega
  obtain⟨n,s⟩:∃n,d.files[i]? =some n:=⟨_,yac e⟩
  have z:=zcG s
  obtain⟨J,b⟩:=yaa.1 z
  have A:=yae s
  obtain⟨U,W,X⟩:=h.2 n A
  have E:¬((n.id:Int)<1):=by omega
  have F:¬((d.next:Int)≤n.id):=by omega
  have G:¬((n.sure:Int)<0):=by omega
  have H:¬((n.bytes.length:Int)<n.sure):=by omega
  have g:¬(d.next≤n.id):=by omega
  have j:¬(n.bytes.length<n.sure):=by omega
  have T:¬n.id<1:=by omega
  by_cases D:i=0
  ·subst D
   simp[p,q,v,z,b,zbR,zal,zai,zak,splice,E,F,G,H,g,j,zkK,w01]
   exact zad (d.files.length-1) (by omega) ⟨1,o++ [.var 97 (zbR n)],rfl,by omega,by simp[p],by simp[q],by simp[u],by simp,by simp[zal,zbR]⟩
  ·have B:IntKind.i64.wrap ((i:Int)-1)=((i-1:Nat):Int):=by rw[wrap_i64 (by omega) (by omega)];omega
   obtain⟨m,c⟩:∃m,d.files[i-1]? =some m:=⟨d.files[i-1]'(by omega),yac (by omega)⟩
   have k:=zcG c
   obtain⟨K,t⟩:=yaa.1 k
   have I:m.id<n.id:=by
    obtain⟨L,M⟩:=yaa.1 s
    obtain⟨O,P⟩:=yaa.1 c
    rw[<-M,<-P]
    exact ybi.1 h.1 _ _ O L (by omega)
   have l:(0:Int)<i:=by omega
   have a:0<i:=by omega
   have C:¬(n.id≤m.id):=by omega
   simp[p,q,v,z,b,zbR,zal,zai,zak,splice,E,F,G,H,g,j,zkK,l,a,B,k,t,C,y]
   exact zad (d.files.length-(i+1)) (by omega) ⟨i+1,o++ [.var 97 (zbR n)],rfl,by omega,by simp[p],by simp[q],by simp[u],by simp,by simp[zal,zbR]⟩
 ·simp
theorem z9D (l:List NameM)(hl:l.length≤1000000):PCalls Tryz.prog ze1 [.lst (zao l),.lst (zao l)] (λr=>r=.bool true):=by
 refine zaa hmix zeu rfl ?_
 simp[zcw]
 have c:=za6 l
 refine zag (λx f σ=>∃(i:Nat),x=l.length-i/\i≤l.length/\f 0=.lst (zao l)/\f 1=.lst (zao l)/\f 12=.int .i64 l.length/\f 13=.int .i64 i/\σ= []) l.length ?_ ?_
 ·exact⟨0,by simp,by simp,by simp,by simp,by simp[c],by simp,by simp⟩
 rintro x f σ ⟨i,s,t,e,g,h,j,rfl⟩
 simp[h,j]
 refine zaq (λp=> ?_) (λq=> ?_)
 ·have a:i<l.length:=by omega
  have d:IntKind.i64.wrap ((i:Int)+1)=((i+1:Nat):Int):=by rw[wrap_i64 (by omega) (by omega)];omega
  obtain⟨n,m⟩:∃n,l[i]? =some n:=⟨_,yac a⟩
  have k:=zcH m
  obtain⟨o,b⟩:=yaa.1 k
  simp[e,g,j,k,b,zc5,zi5,d]
  exact zad (l.length-(i+1)) (by omega) ⟨i+1,rfl,by omega,by simp[e],by simp[g],by simp[h],by simp,rfl⟩
 ·simp
theorem z24 (fs:List FileM):∀{i:Nat} {n:FileM},fs[i]? =some n->zc1 (fs.take (i+1))=zc1 (fs.take i)+n.bytes.length:=λ{i n} h=>by
 rw[zhq h];simp[zc1]
theorem z3s:∀(fs:List FileM),(∀f∈fs,f.bytes.length≤1000000000)->zc1 fs≤fs.length*1000000000
 | [],_=>by simp[zc1]
 |f::fs,h=>by
  have b:=z3s fs λg a=>h g (by simp[a])
  have c:=h f (by simp)
  have:zc1 (f::fs)=f.bytes.length+zc1 fs:=by simp[zc1]
  rw[this,ybc];omega
theorem zsY (d:DiskM)(hl:Fits d):PCalls Tryz.prog zwf [.agg (zal d)] (λr=>r=.int .i64 (zbf d)):=by
 refine zaa hmix zxa rfl ?_
 simp[zpe,zal]
 have g:=zbJ d.files
 have A:=hl.nfiles
 refine zag (λx f σ=>∃(i:Nat) (e:zab),x=d.files.length-i/\i≤d.files.length/\f 3=.int .i64 (zc1 (d.files.take i))/\f 7=.lst (za2 d.files)/\f 8=.int .i64 d.files.length/\f 9=.int .i64 i/\σ=.var 30 (zal d)::e) d.files.length ?_ ?_
 ·exact⟨0,[],by simp,by simp,by simp[zc1],by simp,by simp[g],by simp,by simp[zal]⟩
 rintro x f σ ⟨i,e,C,v,o,p,q,s,rfl⟩
 simp[q,s]
 refine zaq (λw=> ?_) (λy=> ?_)
 ·have a:i<d.files.length:=by omega
  have h:IntKind.i64.wrap ((i:Int)+1)=((i+1:Nat):Int):=by rw[wrap_i64 (by omega) (by omega)];omega
  obtain⟨n,b⟩:∃n,d.files[i]? =some n:=⟨_,yac a⟩
  have t:=zcG b
  obtain⟨u,c⟩:=yaa.1 t
  have j:=yae b
  have D:=hl.bytes n j
  have B:=z3s (d.files.take i) λf z=>hl.bytes f (yan z)
  rw[yas,yb0 v]at B
  have k:=z24 d.files b
  have l:IntKind.i64.wrap ((zc1 (d.files.take i):Int)+n.bytes.length)=(zc1 (d.files.take (i+1)):Int):=by rw[k,wrap_i64 (by omega) (by omega)];omega
  simp[o,p,s,t,c,zbR,zal,zai,zak,splice,zkK,h,l]
  exact zad (d.files.length-(i+1)) (by omega) ⟨i+1,e++ [.var 97 (zbR n)],rfl,by omega,by simp,by simp[p],by simp[q],by simp,by simp[zal,zbR]⟩
 ·have m:i=d.files.length:=by omega
  subst m
  simp[o,zbf]
end Go.Proofs.YtdbhocoeolhjhaaGreatDoor
end
section
set_option maxHeartbeats 4000000
namespace Go.Sf
open Go.Abs
theorem zwq {l r:List NameM}:∀{ms:List MoveM} {i:Nat} {m:MoveM},replay l ms=some r->ms[i]? =some m->∃li li',replay l (ms.take i)=some li/\zf6 li m=some li'/\replay l (ms.take (i+1))=some li':=λ{ms i m} h hm=>by
 have e:ms=ms.take i++(m::ms.drop (i+1)):=by
  conv=>lhs;rw[<-yba i ms]
  obtain⟨j,e⟩:=yaa.1 hm
  rw[ybn j,e]
 have c:∀(a b:List MoveM) (l:List NameM),replay l (a++b)=(replay l a).bind λd=>replay d b:=by
  intro a
  induction a with
  |nil=>intro b l;rfl
  |cons x a k=>
   intro b l
   simp only[ybq,replay]
   cases zf6 l x with
   |none=>rfl
   |some d=>simpa using k b d
 rw[e,c]at h
 cases f:replay l (ms.take i)with
 |none=>rw[f]at h;cases h
 |some li=>
  rw[f]at h
  simp only[ydz,replay]at h
  cases g:zf6 li m with
  |none=>rw[g]at h;cases h
  |some li'=>
   have:ms.take (i+1)=ms.take i++ [m]:=by rw[yau,hm];rfl
   refine⟨li,li',rfl,g, ?_⟩
   rw[this,zh8,f];exact g
theorem zyU {l r:List NameM}:∀{ms:List MoveM},Srt kN l->replay l ms=some r->Srt kN r/\r.length≤l.length+ms.length:=λ{ms}=>by
 induction ms generalizing l with
 |nil=>intro a h;simp[replay]at h;subst h;exact⟨a,by simp⟩
 |cons x ms d=>
  intro a h
  simp only[replay]at h
  cases b:zf6 l x with
  |none=>rw[b]at h;cases h
  |some f=>
   rw[b]at h
   simp only[ydz]at h
   have c:=d (z6n a b) h
   have e:=z4M a b
   exact⟨c.1,by simp only[ybc];omega⟩
theorem zp9 {ms:List MoveM}{i:Nat}{m:MoveM}(h:ms[i]? =some m):zbK (ms.take (i+1))=zbK (ms.take i)++(if m.kind=1 then [m.id]else []):=by
 have:ms.take (i+1)=ms.take i++ [m]:=by rw[yau,h];rfl
 rw[this,zkH]
theorem zt9 {ms:List MoveM}{i:Nat}{m:MoveM}(h:ms[i]? =some m):∃r,zbK ms=zbK (ms.take i)++((if m.kind=1 then [m.id]else [])++r):=by
 refine⟨zbK (ms.drop (i+1)), ?_⟩
 have e:ms=ms.take (i+1)++ms.drop (i+1):=(yba _ _).symm
 have c:∀a b,zbK (a++b)=zbK a++zbK b:=λa b=>by simp[zbK]
 conv=>lhs;rw[e]
 rw[c,zp9 h,ya3]
end Go.Sf
namespace Go.Proofs.YtdbhocoeolhjhaaGreatDoor
open Go.Abs Go.RowKit Go.Sf
variable {G:Globs}
theorem zjk (d:DiskM)(h:RightM d)(hl:Fits d):PCalls Tryz.prog zvF [.agg (zal d)] (λr=>r=.bool true):=by
 refine zaa hmix zvu rfl ?_
 have q1:=h.quota
 have q2:=h.next1
 have q3:=h.next2
 have q4:=h.nfiles
 have q5:=h.nkept
 have k1:¬((d.quota:Int)<0):=by omega
 have k2:¬((1073741824:Int)<d.quota):=by omega
 have k3:¬((d.next:Int)<1):=by omega
 have k4:¬((1099511627776:Int)<d.next):=by omega
 have k5:¬((256:Int)<d.files.length):=by omega
 have k6:¬((256:Int)<d.kept.length):=by omega
 have aq:¬(1073741824<d.quota):=by omega
 have ar:¬(1099511627776<d.next):=by omega
 have au:¬(256<d.files.length):=by omega
 have av:¬(256<d.kept.length):=by omega
 have aw:¬(d.next<1):=by omega
 have ai:d.next≠0:=by omega
 have J:=zbJ d.files
 have aj:=za6 d.kept
 have ax:=zrn d.moves
 simp[zoa,zal,k1,k2,k3,k4,k5,k6,aq,aw,ar,au,av,ai,J,aj]
 refine zac (z0h d.kept h.kept hl.nkept) (by simp[AV.pure]) ?_
 rintro r rfl
 simp
 refine zac (z1l d h.filed (by omega) (by omega) hl) (by simp[AV.pure,zal]) ?_
 rintro r rfl
 simp
 obtain⟨b,j⟩:∃b,b=d.kept.map (·.id):=⟨_,rfl⟩
 have z:=h.ids
 unfold idsM at z
 rw[<-j]at z
 have ay:b.Nodup:=(ydb.1 z).1
 have o:=h.count
 unfold idsM at o
 rw[<-j]at o
 refine zag (λx f σ=>∃(i:Nat) (g:zab),x=d.kept.length-i/\i≤d.kept.length/\f 1=.ptr 0 0/\f 3=.map 1/\f 55=.lst (zao d.kept)/\f 56=.int .i64 d.kept.length/\f 57=.int .i64 i/\NoI g/\σ=.var 30 (zal d):: .mp (kvs (b.take i))::g) d.kept.length ?_ ?_
 ·exact⟨0,[],by simp,by simp,by simp,by simp,by simp,by simp[aj],by simp,NoI.nil,by simp[zal,kvs]⟩
 rintro x f σ ⟨i,g,hx,hi,e,l,Y,Z,aa,s,rfl⟩
 simp[Z,aa]
 refine zaq (λah=> ?_) (λI=> ?_)
 ·have p:i<d.kept.length:=by omega
  have A:IntKind.i64.wrap ((i:Int)+1)=((i+1:Nat):Int):=by rw[wrap_i64 (by omega) (by omega)];omega
  obtain⟨n,hn⟩:∃n,d.kept[i]? =some n:=⟨_,yac p⟩
  have C:=zcH hn
  obtain⟨af,k⟩:=yaa.1 C
  have Q:b[i]? =some n.id:=by rw[j,yb8,hn];rfl
  have az:=zhq Q
  have K:∀(a:Entry) (kv:List (AV×AV)) (t:TypeId) (c:List AV),a.isItr=false->zbP (a:: .mp kv::(g++ [.var t c]))=true:=λa kv t c ha=>by
   have:=(s.var t c).eq
   simp only[zbP,List.all_cons,ha]at this⊢
   simp[Entry.isItr]at this⊢
   exact this
  have v:=K (.var 30 (zal d)) (kvs (b.take i)) 101 (zc5 n) rfl
  simp only[zal,zc5]at v
  simp[e,l,Y,aa,C,k,zc5,zal,zai,zak,splice,zsb (zpa ay Q),v,A, -zaO, -zdt, -zbP, -Entry.isItr]
  refine zad (d.kept.length-(i+1)) (by omega) ⟨i+1,g++ [.var 101 (zc5 n)],rfl,by omega,by simp[e],by simp[l],by simp[Y],by simp[Z],by simp,s.var _ _, ?_⟩
  rw[az];simp[zal,zc5]
 have B:i=d.kept.length:=by omega
 have ak:b.length=d.kept.length:=by rw[j];simp
 rw[B,<-ak,ya0]
 simp[e,zal,ax]
 have a4:=hl.nmoves
 refine zag (λx f σ=>∃(i:Nat) (g:zab) (li:List NameM),x=d.moves.length-i/\i≤d.moves.length/\f 1=.ptr 0 0/\f 3=.map 1/\f 6=.lst (zao li)/\f 68=.lst (zbv d.moves)/\f 69=.int .i64 d.moves.length/\f 70=.int .i64 i/\NoI g/\replay d.kept (d.moves.take i)=some li/\σ=.var 30 (zal d):: .mp (kvs (b++zbK (d.moves.take i)))::g) d.moves.length ?_ ?_
 ·exact⟨0,g,d.kept,by simp,by simp,by simp[e],by simp[l],by simp,by simp,by simp,by simp,s,by simp[replay],by simp[zal,zbK]⟩
 clear Y Z aa e l hx I hi B
 rintro x f σ ⟨i,g,li,hx,hi,e,l,h6,u,H,w,s,y,rfl⟩
 simp[H,w]
 refine zaq (λah=> ?_) (λI=> ?_)
 ·have p:i<d.moves.length:=by omega
  have A:IntKind.i64.wrap ((i:Int)+1)=((i+1:Nat):Int):=by rw[wrap_i64 (by omega) (by omega)];omega
  obtain⟨m,hm⟩:∃m,d.moves[i]? =some m:=⟨_,yac p⟩
  have C:=z0k hm
  obtain⟨af,k⟩:=yaa.1 C
  have a0:=yae hm
  obtain⟨a3,W,X,am,ag⟩:=zwq h.replay hm
  rw[y]at X
  simp only[yab]at X
  subst X
  obtain⟨an,ao⟩:=zyU h.kept.srt y
  rw[yas,yb0 hi]at ao
  have D:=zp9 hm
  obtain⟨rr,F⟩:=zt9 hm
  have K:∀(a:Entry) (kv:List (AV×AV)) (t:TypeId) (c:List AV),a.isItr=false->zbP (a:: .mp kv::(g++ [.var t c]))=true:=λa kv t c ha=>by
   have:=(s.var t c).eq
   simp only[zbP,List.all_cons,ha]at this⊢
   simp[Entry.isItr]at this⊢
   exact this
  have v:=K (.var 30 (zal d)) (kvs (b++zbK (d.moves.take i))) 103 (zdh m) rfl
  simp only[zal,zdh]at v
  have L:=zy2 (G:=G) li W m an (by omega) am (hl.moves m a0)
  by_cases hk:m.kind=1
  ·rw[if_pos hk]at D F
   have R:m.id∉b++zbK (d.moves.take i):=λab=>by
    rw[F]at z
    rw[<-ya3]at z
    exact(ydb.1 z).2.2 _ ab _ (by simp) rfl
   have S:(b++zbK (d.moves.take i)).length+1≤d.files.length:=by
    rw[<-o,F];simp;omega
   simp only[yaj]at S
   have E:(m.kind:Int)=1:=by omega
   have a1:=zsA R 0
   simp[e,l,h6,u,w,C,k,zdh,zal,zai,zak,splice,E,hk,a1, -zaO, -zdt, -zbP, -Entry.isItr]
   have al:zdh m= [.int .i64 1,.str m.name,.str m.dst,.int .i64 m.id]:=by simp[zdh,hk]
   rw[al]at L
   refine zac L (by simp) ?_
   rintro r rfl
   have T:=zsb R
   rw[ya3,<-D]at T
   have U:=K (.var 30 (zal d)) (kvs (b++zbK (d.moves.take i))) 103 [.int .i64 1,.str m.name,.str m.dst,.int .i64 m.id] rfl
   simp only[zal]at U
   have ad:¬((d.files.length:Int)<((b++zbK (d.moves.take (i+1))).length:Nat)):=by
    rw[D];simp only[yaj,List.length_singleton];omega
   have ae:¬(d.files.length<(b++zbK (d.moves.take (i+1))).length):=by omega
   simp[e,l,h6,u,w,C,k,zdh,zal,zai,zak,splice,E,hk,T,U,A,zwL,J, -List.length_append,ad,ae, -zaO, -zdt, -zbP, -Entry.isItr]
   refine zad (d.moves.length-(i+1)) (by omega) ⟨i+1,g++ [.var 103 (zdh m)],W,rfl,by omega,by simp[e],by simp[l],by simp,by simp[u],by simp[H],by simp,s.var _ _,ag, ?_⟩
   simp[zal,al]
  ·rw[if_neg hk,yb4]at D
   have E:¬((m.kind:Int)=1):=by omega
   simp[e,l,h6,u,w,C,k,zdh,zal,zai,zak,splice,E,hk, -zaO, -zdt, -zbP, -Entry.isItr]
   simp only[zdh]at L
   refine zac L (by simp) ?_
   rintro r rfl
   have S:(b++zbK (d.moves.take i)).length≤d.files.length:=by
    rw[<-o,F];simp
   have ad:¬((d.files.length:Int)<((b++zbK (d.moves.take i)).length:Nat)):=by omega
   have ae:¬(d.files.length<(b++zbK (d.moves.take i)).length):=by omega
   simp[e,l,h6,u,w,C,k,zdh,zal,zai,zak,splice,E,hk,A,zwL,J, -List.length_append,ad,ae, -zaO, -zdt, -zbP, -Entry.isItr]
   refine zad (d.moves.length-(i+1)) (by omega) ⟨i+1,g++ [.var 103 (zdh m)],W,rfl,by omega,by simp[e],by simp[l],by simp,by simp[u],by simp[H],by simp,s.var _ _,ag, ?_⟩
   rw[D];simp[zal,zdh]
 have B:i=d.moves.length:=by omega
 rw[B,ya0]at y
 rw[B,ya0]
 rw[h.replay]at y
 simp only[yab]at y
 subst y
 simp[e,h6,zal]
 have a5:=hl.nnames
 refine zac (z9D d.names (by omega)) (by simp[AV.pure]) ?_
 rintro r rfl
 have a2:(b++zbK d.moves).length=d.files.length:=o
 simp[e,l,J,zwL, -List.length_append,a2]
 clear u H w h6 I B hi hx
 refine zag (λx f σ=>∃(i:Nat) (g:zab),x=d.files.length-i/\i≤d.files.length/\f 1=.ptr 0 0/\f 3=.map 1/\f 118=.lst (za2 d.files)/\f 119=.int .i64 d.files.length/\f 120=.int .i64 i/\σ=.var 30 (zal d):: .mp (kvs (b++zbK d.moves))::g) d.files.length ?_ ?_
 ·exact⟨0,g,by simp,by simp,by simp[e],by simp[l],by simp,by simp,by simp,by simp[zal]⟩
 clear e l
 rintro x f σ ⟨i,g,hx,hi,e,l,M,O,P,rfl⟩
 simp[O,P]
 refine zaq (λah=> ?_) (λI=> ?_)
 ·have p:i<d.files.length:=by omega
  have A:IntKind.i64.wrap ((i:Int)+1)=((i+1:Nat):Int):=by rw[wrap_i64 (by omega) (by omega)];omega
  obtain⟨n,hn⟩:∃n,d.files[i]? =some n:=⟨_,yac p⟩
  have C:=zcG hn
  obtain⟨af,k⟩:=yaa.1 C
  have ab:n.id∈b++zbK d.moves:=by
   have:=(h.same n.id).2 ⟨n,yae hn,rfl⟩
   unfold idsM at this
   rw[j];exact this
  obtain⟨q,hq⟩:=z3Y ab 0
  simp[e,l,M,P,C,k,zbR,zal,zai,zak,splice,hq,A, -zaO, -zdt, -zbP, -Entry.isItr]
  refine zad (d.files.length-(i+1)) (by omega) ⟨i+1,g++ [.var 97 (zbR n)],rfl,by omega,by simp[e],by simp[l],by simp[M],by simp[O],by simp,by simp[zal,zbR]⟩
 ·have hu:=h.used
  simp[e,zal]
  refine zap (zsY d hl) (by simp[AV.pure,zal]) (by simp) ?_
  simp[e,hu]
end Go.Proofs.YtdbhocoeolhjhaaGreatDoor
end
section
set_option maxHeartbeats 4000000
namespace Go.Sf
open Go.Abs
def posF:List FileM->Nat->Nat
 | [],_=>0
 |f::fs,i=>if f.id<i then posF fs i+1 else 0
theorem z19:∀(l:List FileM) (s:Nat),posF l s≤l.length
 | [],_=>yap _
 |x::l,s=>by
  unfold posF
  have:=z19 l s
  split<;>simp<;>omega
theorem zwh:∀{l:List FileM} {s:Nat} {i:Nat} {x:FileM},i<posF l s->l[i]? =some x->x.id<s
 | [],_,_,_,h,_=>by simp[posF]at h
 |y::l,s,i,x,h,hx=>by
  unfold posF at h
  split at h
  ·rename_i a
   cases i with
   |zero=>simp at hx;subst hx;exact a
   |succ i=>exact zwh (l:=l) (i:=i) (by omega) (by simpa using hx)
  ·omega
theorem zwx:∀{l:List FileM} {s:Nat} {i:Nat} {x:FileM},(l.Pairwise λa b=>a.id<b.id)->posF l s≤i->l[i]? =some x->¬x.id<s
 | [],_,_,_,_,_,hx=>by simp at hx
 |y::l,s,i,x,hs,h,hx=>by
  rw[yel]at hs
  unfold posF at h
  split at h
  ·cases i with
   |zero=>omega
   |succ i=>exact zwx (l:=l) (i:=i) hs.2 (by omega) (by simpa using hx)
  ·rename_i c
   cases i with
   |zero=>simp at hx;subst hx;exact c
   |succ i=>
    have d:x∈l:=yae (by simpa using hx)
    have:=hs.1 x d
    omega
theorem z8R {l:List FileM}{f:FileM}(hs:l.Pairwise λa b=>a.id<b.id)(hf:f∈l):l[posF l f.id]? =some f:=by
 obtain⟨j,d,rfl⟩:=yay.1 hf
 have e:l[j]? =some l[j]:=yac d
 have g:posF l l[j].id≤j:=Classical.byContradiction λh=>by have:=zwh (l:=l) (i:=j) (s:=l[j].id) (by omega) e;omega
 rcases Nat.lt_or_eq_of_le g with c|c
 ·have k:l[posF l l[j].id]? =some (l[posF l l[j].id]'(by omega)):=yac (by omega)
  have m:=zwx hs (yap _) k
  have n:=ybi.1 hs _ _ (by omega) d c
  omega
 ·rw[c];exact e
theorem z3e {l:List FileM}(hs:l.Pairwise λa b=>a.id<b.id){i:Nat}{f:FileM}(hf:l[i]? =some f)(g:FileM->FileM):l.set i (g f)=modF l f.id g:=by
 obtain⟨k,rfl⟩:=yaa.1 hf
 refine List.ext_getElem (by simp[modF]) λj d m=> ?_
 simp only[modF,ycy]
 rw[List.getElem_set]
 split
 ·rename_i e;subst e;simp
 ·rename_i e
  rw[List.length_set]at d
  have:¬l[j].id=l[i].id:=λh=>by
   rcases Nat.lt_or_gt_of_ne e with c|c
   ·have:=ybi.1 hs _ _ k d c;omega
   ·have:=ybi.1 hs _ _ d k c;omega
  rw[if_neg this]
theorem RightM.file {d:DiskM}(h:RightM d){s:Txt}(hh:hasK kN d.names s):∃f,d.files[posF d.files (idOf d.names s)]? =some f/\f.id=idOf d.names s:=by
 obtain⟨n,b,g,a⟩:=z6t h.names.srt hh
 obtain⟨f,c,e⟩:=(h.same n.id).1 (h.nids n b)
 have:=z8R h.filed.1 c
 rw[e,a]at this
 exact⟨f,this,by rw[e,a]⟩
end Go.Sf
namespace Go.Proofs.YtdbhocoeolhjhaaGreatDoor
open Go.Abs Go.RowKit Go.Sf
variable {G:Globs}
theorem z27 (f:FileM)(i:Nat):PCalls Tryz.prog zlM [.agg (zbR f),.int .i64 i] (λr=>r=.int .i64 (Lib.compareInt f.id i)):=by
 refine zaa hmix ztc rfl ?_
 simp[zlx,zbR]
 refine zac (zs2 f.id i) (by simp) ?_
 rintro r rfl
 simp
theorem z5O (d:DiskM)(s:Txt)(h:RightM d)(hl:Fits d)(ho:okS s)(hh:¬hasK kN d.names s):PCalls Tryz.prog zpt [.agg (zal d),.str s] (λr=>r=.tup [.int .i64 0,.int .i64 4]):=by
 refine zaa hmix zqg rfl ?_
 simp[zkN,zal]
 refine zac (zjk d h hl) (by simp[AV.pure,zal]) ?_
 rintro r rfl
 simp
 refine zac (zj5 s (by have:=ho.2;omega)) (by simp) ?_
 rintro r rfl
 simp[ho]
 refine zac (ziC d.names s h.names.srt (by have:=hl.nnames;omega)) (by simp) ?_
 rintro r rfl
 simp[hh]
theorem zi4 (d:DiskM)(s:Txt)(h:RightM d)(hl:Fits d)(ho:okS s)(hh:hasK kN d.names s):PCalls Tryz.prog zpt [.agg (zal d),.str s] (λr=>r=.tup [.int .i64 (posF d.files (idOf d.names s)),.int .i64 0]):=by
 refine zaa hmix zqg rfl ?_
 simp[zkN,zal]
 refine zac (zjk d h hl) (by simp[AV.pure,zal]) ?_
 rintro r rfl
 simp
 refine zac (zj5 s (by have:=ho.2;omega)) (by simp) ?_
 rintro r rfl
 simp[ho]
 refine zac (ziC d.names s h.names.srt (by have:=hl.nnames;omega)) (by simp) ?_
 rintro r rfl
 obtain⟨x,k,l⟩:=(zdE h.names.srt).1 hh
 have g:=yae k
 have j:idOf d.names s=x.id:=by rw[<-l];exact zgP h.names.srt g
 have b:=zcH k
 obtain⟨m,e⟩:=yaa.1 b
 simp[hh,b,e,zc5]
 have t:=z19 d.files x.id
 have u:=bsFi (G:=G) (za2 d.files) (zdg d.files) (by rw[zbJ];have:=hl.nfiles;omega) (.int .i64 x.id) (by simp[AV.pure]) zlM zsB (posF d.files x.id) (by rw[zbJ];exact t)
  (λi=>match d.files[i]? with|some n=>Lib.compareInt n.id x.id|none=>0)
  (λi c o=>by
   obtain⟨n,a,rfl⟩:=z0q o
   simp only[a]
   exact z27 n x.id)
  (λi p=>by
   obtain⟨n,a⟩:∃n,d.files[i]? =some n:=⟨d.files[i]'(by omega),yac (by omega)⟩
   simp only[a]
   have:=zwh p a
   unfold Lib.compareInt
   split
   ·omega
   ·split<;>omega)
  (λi q f=>by
   rw[zbJ]at f
   obtain⟨n,a⟩:∃n,d.files[i]? =some n:=⟨d.files[i]'f,yac f⟩
   simp only[a]
   have:=zwx h.filed.1 q a
   unfold Lib.compareInt
   split
   ·omega
   ·split<;>omega)
 refine zap u (by simp[AV.pure]) (by simp) ?_
 simp[j]
theorem zpn (d:DiskM)(m:MoveM)(l':List NameM)(hs:Srt kN d.names)(hd:zf6 d.names m=some l')(hl:Fits d)(hm:z4y m):PCalls Tryz.prog ztP [.agg (zal d),.agg (zdh m)] (λr=>r=.agg (zal {d with names:=l',moves:=d.moves++ [m]})):=by
 refine zaa hmix zvL rfl ?_
 have i:=hl.nnames
 have j:=hl.nmoves
 simp[znK,zal,zdh]
 have a:=zy2 (G:=G) d.names l' m hs (by omega) hd hm
 simp only[zdh]at a
 refine zac a (by simp) ?_
 rintro r rfl
 simp
 have b:=zrn d.moves
 refine⟨?_, ?_, ?_⟩
 all_goals
  refine zam (z8l (zbv d.moves) (zsi d.moves) (by omega)) ?_
  rintro r σ (⟨e,rfl,rfl⟩|⟨rfl,rfl⟩)
  ·have c:d.moves= []:=by simpa[zbv]using e
   simp
   refine zeX true [zdh m] (by simp[zdh,view]) (by decide) (by simp[zdh]) (λ_=> .inl (by simp[zfK,zdh])) (by simp) (by simp) ?_
   simp[c,zbv]
  ·simp
   refine zbm (zbv d.moves) [zdh m] false (by simp) (by simp[zdh,view]) (by decide) (by simp[zdh]) (λh=>by cases h) rfl (by simp[b];omega) (by simp[b];omega) ?_
   have f:zbv d.moves++ [zdh m]=zbv (d.moves++ [m]):=by simp[zbv]
   have g:(zbv d.moves).length+1=(zbv (d.moves++ [m])).length:=by simp[zbv]
   simp only[f,g,ybc,yc6,ybh]
   simp[z2S]
theorem zzZ (d:DiskM)(s:Txt)(h:RightM d)(hl:Fits d)(ho:okS s)(hh:¬hasK kN d.names s)(hf:d.files.length<256)(hx:d.next<1099511627776):PCalls Tryz.prog zsO [.agg (zal d),.str s] (λr=>r=.tup [.agg (zal (zaz d s)),.int .i64 0]):=by
 refine zaa hmix zt3 rfl ?_
 have a:=zbJ d.files
 have i:¬((256:Int)≤d.files.length):=by omega
 have j:¬((1099511627776:Int)≤d.next):=by omega
 have b:¬(256≤d.files.length):=by omega
 have c:¬(1099511627776≤d.next):=by omega
 have f:IntKind.i64.wrap ((d.next:Int)+1)=((d.next+1:Nat):Int):=by rw[wrap_i64 (by omega) (by omega)];omega
 simp[zlR,zal]
 refine zac (z5O d s h hl ho hh) (by simp[AV.pure,zal]) ?_
 rintro r rfl
 simp[i,j,b,c,a]
 have n:=(zn9 h ho hh hf hx).replay
 have k:zf6 d.names ⟨1,s,[],d.next⟩=some (insK kN d.names ⟨s,d.next⟩):=by
  have:¬(d.next<1):=by have:=h.next1;omega
  simp[zf6,ho,hh,this]
 refine zac (zpn d ⟨1,s,[],d.next⟩ _ h.names.srt k hl ⟨by have:=ho.2;simp only;omega,by simp,by simp,by simp only;omega⟩) (by simp[AV.pure,zal,zdh]) ?_
 rintro r rfl
 simp[zal]
 refine zam (zsU (za2 d.files) (zdg d.files) (by omega)) ?_
 rintro r σ (⟨g,rfl,rfl⟩|⟨rfl,rfl⟩)
 ·have e:d.files= []:=by simpa[za2]using g
  simp
  refine zeX true [[.int .i64 d.next,.lst [],.int .i64 0]] (by simp[view]) (by decide) (by simp) (λ_=> .inl (by simp[zfK])) (by simp) (by simp) ?_
  simp[f]
  simp[zaz,e,za2,zbR,byteEls]
 ·simp
  refine zbm (za2 d.files) [[.int .i64 d.next,.lst [],.int .i64 0]] false (by simp) (by simp[view]) (by decide) (by simp) (λh=>by cases h) rfl (by simp[a];omega) (by simp[a];omega) ?_
  have l:za2 d.files++ [[.int .i64 d.next,.lst [],.int .i64 0]]=za2 (d.files++ [⟨d.next,[],0⟩]):=by simp[za2,zbR,byteEls]
  have m:(za2 d.files).length+1=(za2 (d.files++ [⟨d.next,[],0⟩])).length:=by simp[za2]
  simp only[l,m,ybc,yc6,ybh]
  simp[zoY,f,zaz]
theorem z0H (d:DiskM)(i:Nat)(f:FileM)(hi:i<d.files.length)(hl:Fits d):PCalls Tryz.prog zyO [.agg (zal d),.int .i64 i,.agg (zbR f)] (λr=>r=.agg (zal {d with files:=d.files.set i f})):=by
 refine zaa hmix zyX rfl ?_
 have l:=zbJ d.files
 have m:=hl.nfiles
 simp[zr9,zal,zbR]
 refine zam (zsU (za2 d.files) (zdg d.files) (by omega)) ?_
 rintro r σ (⟨k,rfl,rfl⟩|⟨rfl,rfl⟩)
 ·have b:d.files= []:=by simpa[za2]using k
  rw[b]at hi;simp at hi
 ·obtain⟨g,h⟩:∃g,d.files[i]? =some g:=⟨_,yac hi⟩
  have e:=zcG h
  obtain⟨j,a⟩:=yaa.1 e
  have n:(za2 d.files).set i [.int .i64 f.id,.lst (byteEls f.bytes),.int .i64 f.sure]=za2 (d.files.set i f):=by simp[za2,zbR,List.map_set]
  have o:(za2 d.files).length=(za2 (d.files.set i f)).length:=by simp[za2]
  have c:i<(za2 d.files).length:=by omega
  simp[c,hi,e,a,zbR,splice,n]
  rw[o]
  simp[zoY]
end Go.Proofs.YtdbhocoeolhjhaaGreatDoor
end
section
set_option maxHeartbeats 4000000
namespace Go.Proofs.YtdbhocoeolhjhaaGreatDoor
open Go.Abs Go.RowKit Go.Sf
variable {G:Globs}
theorem z8Y (q:Nat)(hq:q≤1073741824):PCalls Tryz.prog z0r [.int .i64 q] (λr=>r=.tup [.agg (zal ⟨q,[],[],[],[],1⟩),.int .i64 0]):=by
 refine zaa hmix zyS rfl ?_
 have b:¬((q:Int)<0):=by omega
 have c:¬((1073741824:Int)<q):=by omega
 have a:¬(1073741824<q):=by omega
 simp[zsl,b,c,a,zal,za2,zao,zbv]
theorem zzA (d:DiskM)(s b:Txt)(h:RightM d)(hl:Fits d)(ho:okS s)(hh:hasK kN d.names s)(hb:b.length≤d.quota-zbf d)(hbl:b.length≤1000000000):PCalls Tryz.prog ztr [.agg (zal d),.str s,.lst (byteEls b)] (λr=>r=.tup [.agg (zal (zaJ d s b)),.int .i64 0]):=by
 refine zaa hmix zsw rfl ?_
 have t:=h.used
 have u:=h.quota
 obtain⟨g,c,a⟩:=h.file hh
 have n:=(yaa.1 c).1
 have j:=zcG c
 obtain⟨m,e⟩:=yaa.1 j
 have o:=hl.bytes g (yae c)
 simp[zl4,zal]
 refine zac (zi4 d s h hl ho hh) (by simp[AV.pure,zal]) ?_
 rintro r rfl
 simp
 refine zap (zsY d hl) (by simp[AV.pure,zal]) (by simp) ?_
 have p:IntKind.i64.wrap ((d.quota:Int)-(zbf d:Nat))=((d.quota-zbf d:Nat):Int):=by rw[wrap_i64 (by omega) (by omega)];omega
 have q:¬(((d.quota-zbf d:Nat):Int)<b.length):=by omega
 have i:¬(d.quota-zbf d<b.length):=by omega
 simp[p,zaj,q,i,j,e,zbR,splice]
 refine zac (zmS g.bytes b (by omega) (by omega)) (by simp[AV.pure]) ?_
 rintro r rfl
 simp[splice]
 have k:=z3e h.filed.1 c (λf=>{f with bytes:=f.bytes++b})
 have l:=z0H (G:=G) d (posF d.files (idOf d.names s)) {g with bytes:=g.bytes++b} n hl
 simp only[zal,zbR]at l
 refine zac l (by simp[AV.pure,zal,zbR]) ?_
 rintro r rfl
 simp[zaJ,<-a,k]
 rw[<-k,a]
theorem z4f (d:DiskM)(s:Txt)(h:RightM d)(hl:Fits d)(ho:okS s)(hh:hasK kN d.names s):PCalls Tryz.prog zwX [.agg (zal d),.str s] (λr=>r=.tup [.agg (zal (zdk d s)),.int .i64 0]):=by
 refine zaa hmix zwb rfl ?_
 obtain⟨g,b,a⟩:=h.file hh
 have l:=(yaa.1 b).1
 have e:=zcG b
 obtain⟨k,c⟩:=yaa.1 e
 simp[zp8,zal]
 refine zac (zi4 d s h hl ho hh) (by simp[AV.pure,zal]) ?_
 rintro r rfl
 simp[e,c,zbR,splice,zaj]
 have i:=z3e h.filed.1 b (λf=>{f with sure:=f.bytes.length})
 have j:=z0H (G:=G) d (posF d.files (idOf d.names s)) {g with sure:=g.bytes.length} l hl
 simp only[zal,zbR]at j
 refine zac j (by simp[AV.pure,zal,zbR]) ?_
 rintro r rfl
 simp[zdk,<-a,i]
 rw[<-i,a]
theorem zyZ (d:DiskM)(s:Txt)(h:RightM d)(hl:Fits d)(ho:okS s)(hh:hasK kN d.names s):PCalls Tryz.prog zs7 [.agg (zal d),.str s] (λr=>r=.tup [.agg (zal (zdo d s)),.int .i64 0]):=by
 refine zaa hmix zsJ rfl ?_
 simp[zlf,zal]
 refine zac (zi4 d s h hl ho hh) (by simp[AV.pure,zal]) ?_
 rintro r rfl
 simp
 have a:zf6 d.names ⟨2,s,[],0⟩=some (delK kN d.names s):=by simp[zf6,ho,hh]
 have kM:=zpn (G:=G) d ⟨2,s,[],0⟩ _ h.names.srt a hl ⟨by have:=ho.2;simp only;omega,by simp,by simp,by simp⟩
 simp only[zal,zdh]at kM
 refine zac kM (by simp[AV.pure]) ?_
 rintro r rfl
 simp[zdo]
theorem zzO (d:DiskM)(s t:Txt)(h:RightM d)(hl:Fits d)(ho:okS s)(hh:hasK kN d.names s)(hot:okS t)(hne:t≠s):PCalls Tryz.prog ztt [.agg (zal d),.str s,.str t] (λr=>r=.tup [.agg (zal (zcK d s t)),.int .i64 0]):=by
 refine zaa hmix zs6 rfl ?_
 simp[zll,zal]
 refine zac (zi4 d s h hl ho hh) (by simp[AV.pure,zal]) ?_
 rintro r rfl
 simp
 refine zac (zj5 t (by have:=hot.2;omega)) (by simp) ?_
 rintro r rfl
 have a:¬s=t:=λe=>hne e.symm
 simp[hot,a]
 have b:zf6 d.names ⟨3,s,t,0⟩=some (insK kN (zfM (delK kN d.names s) t) ⟨t,idOf d.names s⟩):=by simp[zf6,ho,hh,hot,hne]
 have kM:=zpn (G:=G) d ⟨3,s,t,0⟩ _ h.names.srt b hl ⟨by have:=ho.2;simp only;omega,by have:=hot.2;simp only;omega,by simp,by simp⟩
 simp only[zal,zdh]at kM
 refine zac kM (by simp[AV.pure]) ?_
 rintro r rfl
 simp[zcK]
def zaX (l:List Txt):List (List AV):=l.map λs=> [AV.str s]
theorem zd3 (l:List Txt):(zaX l).length=l.length:=by simp[zaX]
theorem zt0 (σ:zab)(d:DiskM)(h:RightM d)(hl:Fits d):ACalls Tryz.prog zxk [.agg (zal d)] σ (λr σ'=>r=.tup [.row (σ.length+1) d.names.length,.int .i64 0]/\σ'=σ++ [.var 30 (zal d),.row 9 1 (zaX (d.names.map (·.name))) false]):=by
 refine zaf hmix zxi rfl ?_
 have l:=za6 d.names
 have P:=hl.nnames
 simp[zoU,zal]
 refine zac (zjk d h hl) (by simp[AV.pure,zal]) ?_
 rintro r rfl
 simp[l,zaQ]
 refine zsL d.names.length rfl rfl (by omega) (by omega) (by decide) rfl ?_
 simp[l,zaQ]
 obtain⟨b,k⟩:∃b,b=d.names.map (·.name):=⟨_,rfl⟩
 have D:b.length=d.names.length:=by rw[k];simp
 rw[<-k]
 refine zag (λx f σ'=>∃(i:Nat) (w:zab),x=d.names.length-i/\i≤d.names.length/\f 3=.int .i64 0/\f 4=.row (σ.length+1) d.names.length/\f 15=.lst (zao d.names)/\f 16=.int .i64 d.names.length/\f 17=.int .i64 i/\σ'=σ++ .var 30 (zal d):: .row 9 1 (zaX (b.take i)++List.replicate (d.names.length-i) [.str []]) false::w) d.names.length ?_ ?_
 ·exact⟨0,[],by simp,by simp,by simp,by simp,by simp,by simp[l],by simp,by simp[zaX,zal]⟩
 rintro x f σ' ⟨i,w,S,T,B,C,o,p,q,rfl⟩
 simp[p,q]
 refine zaq (λs=> ?_) (λO=> ?_)
 ·have g:i<d.names.length:=by omega
  have E:IntKind.i64.wrap ((i:Int)+1)=((i+1:Nat):Int):=by rw[wrap_i64 (by omega) (by omega)];omega
  obtain⟨n,J⟩:∃n,d.names[i]? =some n:=⟨_,yac g⟩
  have y:=zcH J
  obtain⟨K,z⟩:=yaa.1 y
  have F:b[i]? =some n.name:=by rw[k,yb8,J];rfl
  have m:(zaX (b.take i)).length=i:=by rw[zd3,yas];omega
  obtain⟨R,v⟩:∃R,R=zaX (b.take i)++List.replicate (d.names.length-i) [AV.str []]:=⟨_,rfl⟩
  have G:R.length=d.names.length:=by rw[v,yaj,m,List.length_replicate];omega
  have u:R[i]? =some [.str []]:=by
   rw[v,yak (by omega),m,yc3,List.getElem?_replicate,if_pos (by omega)]
  have H:R.set i [.str n.name]=zaX (b.take (i+1))++List.replicate (d.names.length-(i+1)) [.str []]:=by
   rw[v,ybl _ _ (by omega),m,yc3]
   have:d.names.length-i=(d.names.length-(i+1))+1:=by omega
   rw[this,ydj,List.set_cons_zero,zhq F]
   simp[zaX]
  obtain⟨L,A⟩:=yaa.1 u
  rw[<-v]
  simp[B,C,o,q,y,z,zc5,G,u,A,g,splice,zaQ,zay,zc7,z5E,z4n,H,E]
  refine zad (d.names.length-(i+1)) (by omega) ⟨i+1,w++ [.var 101 (zc5 n)],rfl,by omega,by simp[B],by simp[C],by simp[o],by simp[p],by simp, ?_⟩
  simp[zc5]
 ·have I:i=d.names.length:=by omega
  subst I
  have Q:zaX (b.take d.names.length)++List.replicate (d.names.length-d.names.length) [AV.str []]=zaX b:=by
   rw[<-D,ya0];simp
  rw[Q]
  simp[C]
  refine zav (σ++ [.var 30 (zal d),.row 9 1 (zaX b) false]) (.tup [.row (σ.length+1) d.names.length,.int .i64 0]) (by simp[za5,B]) w (by simp) (by simp) (by simp[AV.under]) (λi e a=> ?_) ⟨rfl,by simp[zal]⟩
  rcases yd2 i σ.length with s|t
  ·rw[yam s]at a
   exact .inl a
  ·rw[yak t]at a
   right
   obtain⟨j,M⟩:∃j,j=i-σ.length:=⟨_,rfl⟩
   rw[<-M]at a
   match j,a with
   |0,a=>
    simp at a;subst a
    simp[Entry.under,zal,AV.under]
   |1,a=>
    simp at a;subst a
    refine za3 λc y=> ?_
    obtain⟨n,_,rfl⟩:=yav.1 y
    simp[AV.pure]
   |j+2,a=>simp at a
theorem zwA {σ:zab}{k j:Nat}{ids:List Nat}(hk:σ[k]? =some (.var 99 [.map j]))(hj:σ[j]? =some (.mp (kvs ids)))(f:FileM):ACalls Tryz.prog zbU [.agg (zbR f),.ptr k 0] σ (λr σ'=>r=.bool (!decide (f.id∈ids))/\σ'=σ):=by
 refine zaf hmix zo0 rfl ?_
 have g:=(yaa.1 hk).1
 have h:=(yaa.1 hj).1
 have l:∀(e:Entry),(σ++ [e])[k]? =some (.var 99 [.map j]):=λe=>by rw[yam g];exact hk
 have m:∀(e:Entry),(σ++ [e])[j]? =some (.mp (kvs ids)):=λe=>by rw[yam h];exact hj
 have fin:∀(b:Bool) (d:Abs.Frame) (e:Entry),d 3=.bool b->b=(!decide (f.id∈ids))->er σ (λr σ'=>r=.bool (!decide (f.id∈ids))/\σ'=σ) (.mk _) [(3,none)] d (.mk _) (σ++ [e]):=λb d e n o=>by
  refine zav σ (.bool b) (by simp[za5,n]) [e] rfl (by simp) (by simp[AV.under]) (λi e p=> .inl p) ⟨by rw[o],rfl⟩
 by_cases a:f.id∈ids
 ·obtain⟨q,c⟩:=z3Y a 0
  simp[zfp,zbR,l,m,c, -zaO]
  exact fin false _ _ (by simp) (by simp[a])
 ·have c:=zsA a 0
  simp[zfp,zbR,l,m,c, -zaO]
  exact fin true _ _ (by simp) (by simp[a])
theorem zn6 {pre:zab}{k j:Nat}{ids:List Nat}(hk:pre[k]? =some (.var 99 [.map j]))(hj:pre[j]? =some (.mp (kvs ids)))(fs:List FileM)(p:List AV->Bool)(hp:∀f,p (zbR f)= !decide (f.id∈ids)):Asks Tryz.prog pre zbU [.ptr k 0] .agg p (za2 fs):=λc d X K e=>by
 obtain⟨f,_,rfl⟩:=yav.1 d
 have a:=(yaa.1 hk).1
 have b:=(yaa.1 hj).1
 refine .inr (.inr ((zwA (σ:=pre++X) (by rw[yam a];exact hk) (by rw[yam b];exact hj) f).mono ?_))
 rintro r σ' ⟨rfl,rfl⟩
 rw[<-hp];exact e
def zv0:AV->AV
 | .nils=> .lst []
 |v=>v
theorem z1H {σ:zab}{m k:Nat}:∀{els:List (List AV)},(∀c∈els,∀x∈c,x.pure=true)->(els.mapM λ(c:List AV)=>c.mapM (fz σ m k))=some (els.map λc=>c.map zv0)
 | [],_=>rfl
 |c::els,h=>by
  have f:∀(l:List AV),(∀x∈l,x.pure=true)->l.mapM (fz σ m k)=some (l.map zv0):=by
   intro l
   induction l with
   |nil=>intro _;rfl
   |cons x l g=>
    intro h
    rw[yce,g (λy b=>h y (ybw _ b))]
    have a:=h x (by simp)
    cases x<;>first|(simp[AV.pure]at a;done)|(cases k<;>simp[fz,a,zv0])
  rw[yce,f c (h c (by simp)),z1H (λd e=>h d (ybw _ e))]
  rfl
theorem zr2 (fs:List FileM):((za2 fs).map λc=>c.map zv0)=za2 fs:=by
 simp[za2,zbR,zv0]
def idC:List AV->Nat
 | .int _ n::_=>n.toNat
 |_=>0
theorem zoK (f:FileM):idC (zbR f)=f.id:=by simp[idC,zbR]
theorem ztk (fs:List FileM)(p:FileM->Bool)(q:List AV->Bool)(h:∀f,q (zbR f)=p f):(za2 fs).filter q=za2 (fs.filter p):=by
 simp only[za2,List.filter_map]
 congr 1
 exact List.filter_congr λf _=>h f
theorem zwP (d:DiskM)(h:RightM d)(hl:Fits d):PCalls Tryz.prog zkm [.agg (zal d),.lst (zao d.names)] (λr=>r=.agg (zal (zb2 d))):=by
 refine zaa hmix zjT rfl ?_
 have Q:=za6 d.names
 have ah:=hl.nnames
 have R:=zbJ d.files
 have ai:=hl.nfiles
 simp[zgE,zal]
 obtain⟨ids,e⟩:∃ids,ids=d.names.map (·.id):=⟨_,rfl⟩
 have S:ids.Nodup:=by rw[e];exact h.names.ids
 refine zag (λx f σ=>∃(i:Nat) (p:zab),x=d.names.length-i/\i≤d.names.length/\f 1=.lst (zao d.names)/\f 2=.ptr 0 0/\f 4=.ptr 1 0/\f 5=.ptr 3 0/\f 9=.lst (zao d.names)/\f 10=.int .i64 d.names.length/\f 11=.int .i64 i/\NoI p/\
  σ=.var 30 (zal d):: .var 30 [.int .i64 0,.nils,.nils,.nils,.nils,.int .i64 0]:: .mp (kvs (ids.take i)):: .var 99 [.map 2]::p) d.names.length ?_ ?_
 ·exact⟨0,[],by simp,by simp,by simp,by simp,by simp,by simp,by simp,by simp[Q],by simp,NoI.nil,by simp[zal,kvs]⟩
 rintro x f σ ⟨i,p,hx,hi,H,s,u,I,h9,v,w,y,rfl⟩
 simp[v,w]
 refine zaq (λaf=> ?_) (λag=> ?_)
 ·have A:i<d.names.length:=by omega
  have T:IntKind.i64.wrap ((i:Int)+1)=((i+1:Nat):Int):=by rw[wrap_i64 (by omega) (by omega)];omega
  obtain⟨n,hn⟩:∃n,d.names[i]? =some n:=⟨_,yac A⟩
  have J:=zcH hn
  obtain⟨ae,K⟩:=yaa.1 J
  have l:ids[i]? =some n.id:=by rw[e,yb8,hn];rfl
  have U:=zhq l
  have W:∀(a b c:Entry) (kv:List (AV×AV)) (t:TypeId) (O:List AV),a.isItr=false->b.isItr=false->c.isItr=false->zbP (a::b:: .mp kv::c::(p++ [.var t O]))=true:=λa b c kv t O ha hb P=>by
   have:=(y.var t O).eq
   simp only[zbP,List.all_cons,ha,hb,P]at this⊢
   simp[Entry.isItr]at this⊢
   exact this
  have o:=W (.var 30 (zal d)) (.var 30 [.int .i64 0,.nils,.nils,.nils,.nils,.int .i64 0]) (.var 99 [.map 2]) (kvs (ids.take i)) 101 (zc5 n) rfl rfl rfl
  simp only[zal,zc5]at o
  simp[H,s,u,I,h9,w,J,K,zc5,zal,zai,zak,splice,zsb (zpa S l),o,T, -zaO, -zdt, -zbP, -Entry.isItr]
  refine zad (d.names.length-(i+1)) (by omega) ⟨i+1,p++ [.var 101 (zc5 n)],rfl,by omega,by simp[H],by simp[s],by simp[u],by simp[I],by simp[h9],by simp[v],by simp,y.var _ _, ?_⟩
  rw[U];simp[zal,zc5]
 ·have Y:i=d.names.length:=by omega
  have B:ids.length=d.names.length:=by rw[e];simp
  rw[Y,<-B,ya0]
  have C:∀c∈zao d.names,∀x∈c,x≠ .nils:=λc J=>by obtain⟨n,_,rfl⟩:=yav.1 J;simp[zc5]
  simp[H]
  refine zac (zoI (zao d.names) (zde _) (by omega) C) (by simp[AV.pure]) ?_
  rintro r rfl
  simp[H]
  refine zac (zoI (zao d.names) (zde _) (by omega) C) (by simp[AV.pure]) ?_
  rintro r rfl
  simp[s,zal,splice]
  refine zam (zsU (za2 d.files) (zdg d.files) (by omega)) ?_
  rintro r σ (⟨h0,rfl,rfl⟩|⟨rfl,rfl⟩)
  ·simp[I]
   refine zam (zuO zbU [.ptr 3 0]) ?_
   rintro r σ ⟨rfl,rfl⟩
   have Z:d.files= []:=by simpa[za2]using h0
   simp[s,u,splice]
   simp[zb2,Z,za2,zbv]
  ·simp[I]
   obtain⟨pre,g⟩:∃pre:zab,pre=.var 30 [.int .i64 d.quota,.lst (za2 d.files),.lst (zao d.names),.lst (zao d.names),.nils,.int .i64 d.next]:: .var 30 [.int .i64 0,.nils,.nils,.nils,.nils,.int .i64 0]:: .mp (kvs ids):: .var 99 [.map 2]::p:=⟨_,rfl⟩
   have aa:pre.length=p.length+1+1+1+1:=by rw[g];rfl
   have kA:=zn6 (G:=G) (pre:=pre) (k:=3) (j:=2) (ids:=ids) (by rw[g];rfl) (by rw[g];rfl) d.files (λc=> !decide (idC c∈ids)) (λf=>by rw[zoK])
   have kD:=z9V (G:=G) pre (za2 d.files) (zdg d.files) (by omega) (λc=> !decide (idC c∈ids)) zbU [.ptr 3 0] zin kA
   have D:((za2 d.files).filter λn=> !!decide (idC n∈ids))=za2 (zb2 d).files:=by
    rw[ztk d.files (λf=>decide (∃n∈d.names,n.id=f.id)) _ (λf=>by rw[zoK,e];simp)]
    rfl
   rw[D,aa,g]at kD
   refine zam kD ?_
   rintro r σ ⟨X,rfl,q,z,L⟩
   have E:∀(σ:zab) (m k:Nat),(X.mapM λ(c:List AV)=>c.mapM (fz σ m k))=some (X.map λc=>c.map zv0):=λσ m k=>z1H z.2.1
   have ad:X.length=d.files.length:=by rw[q,R]
   rcases L with ⟨rfl,rfl⟩|⟨rfl,M⟩
   ·simp[s,u,splice,E,q]
    rw[zr2]
    simp[zb2,zbv]
   ·have F:∀a∈X,a.length=3:=z.1
    have ab:(X.map λc=>c.map zv0).take (za2 (zb2 d).files).length=za2 (zb2 d).files:=by
     rw[<-List.map_take,M,zr2]
    simp[s,u,splice,E,q]
    rw[if_pos F,ab]
    simp[zb2,zbv]
theorem zxv (d:DiskM)(h:RightM d)(hl:Fits d):PCalls Tryz.prog zkc [.agg (zal d)] (λr=>r=.tup [.agg (zal (zb2 d)),.int .i64 0]):=by
 refine zaa hmix zqL rfl ?_
 simp[zkb,zal]
 refine zac (zjk d h hl) (by simp[AV.pure,zal]) ?_
 rintro r rfl
 simp
 refine zac (zwP d h hl) (by simp[AV.pure,zal]) ?_
 rintro r rfl
 simp[zal]
end Go.Proofs.YtdbhocoeolhjhaaGreatDoor
end
