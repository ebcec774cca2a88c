import Derived.Lib.IndexAny
import Derived.Lib.Bytealg
import Derived.Test.YtdbhocoeolhjhaaGreatDoorBn5
set_option maxHeartbeats 8000000
set_option linter.unusedSimpArgs false
set_option linter.unusedVariables false
set_option linter.constructorNameAsVariable false
namespace Go.Proofs.YtdbhocoeolhjhaaGreatDoor
open Go.Sf Go.Num
def zcv (m:MetM):Txt:=zaj m.id m.last kindP
def za0 (m:MetM):Nat:=max m.base m.last+1
def newN (m:MetM):Txt:=zaj m.id (za0 m) kindP
def zaA (m:MetM):Txt:=zaj m.id (za0 m) zdv
def zaM (m:MetM):Txt:=zaj m.id (za0 m) kindC
def zlO (m:MetM):Bool:=decide (m.last=0)||decide (16<=m.count)
def za8 (m:MetM)(bs:List ArrM):Txt:=if zlO m then zay (zbU m.path)++zbk bs else zbk bs
def za6 (d:DiskM)(m:MetM):DiskM:=if 0<m.last then zcJ d (zcv m)else d
def zvf (d:DiskM)(m:MetM)(b:Txt):DiskM:=if zlO m then za3 (zar (za6 d m) (newN m)) (newN m) b else za3 d (zcv m) b
def metA (m:MetM)(bs:List ArrM):MetM:=if zlO m then{m with lad:=zaz m.lad bs,last:=za0 m,count:=bs.length}else{m with lad:=zaz m.lad bs,count:=m.count+bs.length}
def zdc (s:ShM)(m:MetM)(bs:List ArrM):ShM:=zby {s with disk:=zvf s.disk m (za8 m bs)} (metA m bs)
def zis (d:DiskM):DiskM:=if d.moves= []then d else zbx d
def zvJ (s:ShM)(m:MetM):ShM:=zby {s with disk:=zis (za6 s.disk m)} m
def zcQ (d:DiskM)(m:MetM)(b:Txt):DiskM:=zbx (zbR (zcJ (za3 (zar (za6 d m) (zaA m)) (zaA m) b) (zaA m)) (zaA m) (zaM m))
def zc3 (d:DiskM)(id:Nat)(but:Txt):List Txt:=(d.names.map NameM.name).filter λt=> !(decide (t=but)|| !Lib.hasPrefix t (Lib.decDigits id++ [46]))
def zpK (d:DiskM)(m:MetM)(b:Txt):DiskM:=zis (zax (zcQ d m b) (zc3 (zcQ d m b) m.id (zaM m)))
def zyR (m:MetM):MetM:={m with base:=za0 m,last:=0,count:=0}
def zsD (s:ShM)(m:MetM)(b:Txt):ShM:=zby {s with disk:=zpK s.disk m b} (zyR m)
theorem zcM {d:DiskM}{a k:Nat}(m:MetM)(h:SizeM d a k):SizeM (za6 d m) a k:=by
 unfold za6;split;.exact zrd h
 .exact h
theorem zcl (d:DiskM)(m:MetM):(za6 d m).names=d.names:=by unfold za6;split<;>rfl
theorem zoy (d:DiskM)(m:MetM):zaW (za6 d m)=zaW d:=by
 unfold za6;split;.exact zqT _ _
 .rfl
theorem zft (d:DiskM)(m:MetM):(za6 d m).quota=d.quota:=by unfold za6;split<;>rfl
theorem zhY {d:DiskM}{a k:Nat}(h:SizeM d a k):SizeM (zis d) a 0:=by
 unfold zis;split;.rename_i b;exact⟨h.right,h.quota,h.files,h.next,by rw[b];exact yaf _,h.okm⟩
 .exact zpa h
theorem ziH (d:DiskM):(zis d).names=d.names:=by unfold zis;split<;>rfl
theorem zlI (d:DiskM):(zis d).quota=d.quota:=by unfold zis;split<;>rfl
variable {s:ShM}{a k:Nat}{p:Txt}
theorem zsN (h:InvS s a k)(hp:p∈P4)(ha:a<69){bs:List ArrM}(hb:∀x∈bs,OkA x/\OkV x)(hl:bs.length<=300)(hf:(za8 (zal s p) bs).length<=s.disk.quota-zaW s.disk):InvS (zdc s (zal s p) bs) (a+1) (k+1):=by
 have g:=h.met hp;obtain⟨m,o⟩:∃m,m=zal s p:=⟨_,rfl⟩;rw[<-o]at g hf⊢;have i:RightL (zaz m.lad bs):=zc5 g.lad hb;have G:=g.seq;have j:=g.id5;unfold zdc zvf metA;by_cases l:zlO m=true
 .simp only[l,if_true];have v:¬hasK kN (za6 s.disk m).names (newN m):=by rw[zcl];exact g.fresh h ha (q:=za0 m) (by unfold za0;omega) (by unfold za0;omega) (by simp)
  have E:=zfm (zcM m h.size) (zcz m.id j (za0 m) (by unfold za0;omega) kindP (by simp)) v (by omega);have w:=size_append (n:=newN m) (b:=za8 m bs) E (by rw[zgC,zoy];show _<=(za6 s.disk m).quota-_;rw[zft];exact hf);have c:∀t,hasK kN (za3 (zar (za6 s.disk m) (newN m)) (newN m) (za8 m bs)).names t↔t=newN m∨hasK kN s.disk.names t:=λt=>by have:=zhJ (d:=za6 s.disk m) (n:=newN m) (s:=t);rw[zcl]at this;exact this
  refine zqn h hp _ w (by omega) (by omega) (.inr (yaf _)) g.path (by rw[<-o]) i (by show max m.base (za0 m)<=_;unfold za0;omega) (by show bs.length<=_;omega) (λ_=>(c _).2 (.inl rfl)) (λt e=> ?_) (λx r u f=>(c _).2 (.inr (h.last x r f)));rcases(c t).1 e with rfl|e
  .exact .inl ⟨za0 m,kindP,rfl,by unfold za0;omega,by show _<=max m.base (za0 m);omega,.inl rfl⟩
  .rcases g.dir t e with ⟨q,z,A,B,F,C⟩|D;.exact .inl ⟨q,z,A,B,by show _<=max m.base (za0 m);unfold za0;omega,C⟩
   .exact .inr D
 .simp only[l];have y:m.count<16/\0<m.last:=by unfold zlO at l;simp at l;omega
  have w:=size_append (n:=zcv m) (b:=za8 m bs) (h.size.more (ydg a) (ydg k)) hf;exact zqn h hp _ w (by omega) (by omega) (.inr (yaf _)) g.path (by rw[<-o];rfl) i (by show max m.base m.last<=_;omega) (by show m.count+bs.length<=_;omega) (λf=>g.last f) (λt e=>g.dir t e) (λx r u f=>h.last x r f)
theorem zzO (h:InvS s a k)(hp:p∈P4)(hh:hasK kM s.mets p):InvS (zvJ s (zal s p)) a k:=by
 have b:=h.met hp;obtain⟨m,e⟩:∃m,m=zal s p:=⟨_,rfl⟩;rw[<-e]at b⊢;have j:=zhY (zcM m h.size);have d:(zis (za6 s.disk m)).names=s.disk.names:=by rw[ziH,zcl]
 exact zqn h hp _ (j.more (yaf _) (ycm k)) (yaf _) h.a69 (.inl hh) b.path (by rw[<-e]) b.lad b.seq b.cnt (λc=>by rw[d];exact b.last c) (λt f=>by rw[d]at f;exact b.dir t f) (λx g i c=>by rw[d];exact h.last x g c)
structure Packed (s:ShM)(m:MetM)(b:Txt)(a k:Nat):Prop where
 s1:SizeM (za6 s.disk m) a k
 n1:¬hasK kN (za6 s.disk m).names (zaA m)
 o1:okS (zaA m)
 o2:okS (zaM m)
 ne:zaM m≠zaA m
 s2:SizeM (zar (za6 s.disk m) (zaA m)) (a+1) (k+1)
 h2:hasK kN (zar (za6 s.disk m) (zaA m)).names (zaA m)
 u2:b.length<=(zar (za6 s.disk m) (zaA m)).quota-zaW (zar (za6 s.disk m) (zaA m))
 s3:SizeM (za3 (zar (za6 s.disk m) (zaA m)) (zaA m) b) (a+1) (k+1)
 s4:SizeM (zcJ (za3 (zar (za6 s.disk m) (zaA m)) (zaA m) b) (zaA m)) (a+1) (k+1)
 s5:SizeM (zbR (zcJ (za3 (zar (za6 s.disk m) (zaA m)) (zaA m) b) (zaA m)) (zaA m) (zaM m)) (a+1) (k+2)
 s6:SizeM (zcQ s.disk m b) (a+1) 0
 nm:∀t,hasK kN (zcQ s.disk m b).names t↔t=zaM m∨(t≠zaA m/\hasK kN s.disk.names t)
theorem z4d (h:InvS s a k)(ha:a<69){m:MetM}(ho:OkMet s p a m){b:Txt}(hf:b.length<=s.disk.quota-zaW s.disk):Packed s m b a k:=by
 have C:=ho.seq;have f:=ho.id5;have c:za0 m<70:=by unfold za0;omega
 have g:¬hasK kN (za6 s.disk m).names (zaA m):=by rw[zcl];exact ho.fresh h ha (q:=za0 m) (by unfold za0;omega) c (by simp)
 have j:okS (zaA m):=zcz m.id f (za0 m) c zdv (by simp);have r:okS (zaM m):=zcz m.id f (za0 m) c kindC (by simp);have u:zaM m≠zaA m:=λe=>by have:=(zbI f f c c (by simp) (by simp) e).2.2;exact absurd this (by decide)
 have v:=zcM m h.size;have w:=zfm v j g (by omega);have l:hasK kN (zar (za6 s.disk m) (zaA m)).names (zaA m):=zhJ.2 (.inl rfl);have x:b.length<=(zar (za6 s.disk m) (zaA m)).quota-zaW (zar (za6 s.disk m) (zaA m)):=by rw[zgC,zoy];show _<=(za6 s.disk m).quota-_;rw[zft];exact hf
 have y:=size_append (n:=zaA m) w x;have o:=zrd (n:=zaA m) y;have z:=zyc (n:=zaA m) (t:=zaM m) o j l r u;refine⟨v,g,j,r,u,w,l,x,y,o,z,zpa z,λt=> ?_⟩;have A:=zt3 (d:=zcJ (za3 (zar (za6 s.disk m) (zaA m)) (zaA m) b) (zaA m)) (n:=zaA m) (t:=zaM m) (s:=t) o.right l;have B:hasK kN (zcJ (za3 (zar (za6 s.disk m) (zaA m)) (zaA m) b) (zaA m)).names t↔t=zaA m∨hasK kN s.disk.names t:=by have:=zhJ (d:=za6 s.disk m) (n:=zaA m) (s:=t);rw[zcl]at this;exact this
 rw[B]at A;refine A.trans ⟨?_, ?_⟩
 .rintro(h|⟨i,h|h⟩);.exact .inl h
  .exact absurd h i
  .exact .inr ⟨i,h⟩
 .rintro(h|⟨i,h⟩);.exact .inl h
  .exact .inr ⟨i,.inr h⟩
theorem zhB {d:DiskM}{id:Nat}{but t:Txt}:t∈zc3 d id but↔hasK kN d.names t/\t≠but/\Lib.hasPrefix t (Lib.decDigits id++ [46])=true:=by simp only[zc3,ybf,yar,hasK];simp
theorem zxY {d:DiskM}(h:RightM d)(id:Nat)(but:Txt):(zc3 d id but).Nodup:=by
 have c:(d.names.map NameM.name).Nodup:=by rw[ya9,yb0];exact h.names.srt.imp λb e=>by have a:NameM.name _<NameM.name _:=b;rw[e]at a;exact zcy _ a
 exact c.sublist yem
structure Comp (s:ShM)(m:MetM)(b:Txt)(a k:Nat):Prop where
 fok:∀n∈zc3 (zcQ s.disk m b) m.id (zaM m),okS n/\hasK kN (zcQ s.disk m b).names n
 fnd:(zc3 (zcQ s.disk m b) m.id (zaM m)).Nodup
 flen:(zc3 (zcQ s.disk m b) m.id (zaM m)).length<=a+1
 s7:SizeM (zax (zcQ s.disk m b) (zc3 (zcQ s.disk m b) m.id (zaM m))) (a+1) (a+1)
 s8:SizeM (zpK s.disk m b) (a+1) 0
 nm:∀t,hasK kN (zpK s.disk m b).names t↔t=zaM m∨(hasK kN s.disk.names t/\∃x∈s.mets,x.path≠m.path/\zvm x t)
theorem comp (h:InvS s a k)(ha:a<69){m:MetM}(ho:OkMet s p a m){b:Txt}(hP:Packed s m b a k):Comp s m b a k:=by
 have R:=ho.seq;have c:=ho.id5;have z:za0 m<70:=by unfold za0;omega
 have g:=ho.path;have d:∀t,hasK kN (zcQ s.disk m b).names t->t=zaM m∨(t≠zaA m/\(zvm m t∨∃x∈s.mets,x.path≠p/\zvm x t)/\hasK kN s.disk.names t):=λt O=>by
  rcases(hP.nm t).1 O with f|⟨f,i⟩
  .exact .inl f
  .exact .inr ⟨f,ho.dir t i,i⟩
 have A:∀{x:MetM} {q:Nat},x∈s.mets->q<=max x.base x.last->q<70:=λ{x q} j hq'=>by have:=h.seq x j;omega
 have B:∀n∈zc3 (zcQ s.disk m b) m.id (zaM m),okS n/\hasK kN (zcQ s.disk m b).names n:=λn P=>by
  obtain⟨f,i,_⟩:=zhB.1 P;refine⟨?_,f⟩;rcases d n f with v|⟨_,⟨q,w,l,G,y,o⟩|⟨x,j,u,q,w,l,G,y,o⟩,_⟩
  .exact absurd v i
  .rw[l];exact zcz _ c q (by omega) _ (kd3 o)
  .rw[l];exact zcz _ (h.id5 j) q (A j y) _ (kd3 o)
 have C:=zxY hP.s6.right m.id (zaM m);have D:(zc3 (zcQ s.disk m b) m.id (zaM m)).length<=a+1:=by have f:=zfN hP.s6.right;have i:=hP.s6.files;have v:(zc3 (zcQ s.disk m b) m.id (zaM m)).length<=((zcQ s.disk m b).names.map NameM.name).length:=ycs _ _;rw[ybn]at v;omega
 obtain⟨J,K⟩:=zce hP.s6 C B;have H:=J.more (a':=a+1) (k':=a+1) (yaf _) (by omega);refine⟨B,C,D,H,zhY H,λt=> ?_⟩;unfold zpK;rw[ziH,K t,zhB];constructor
 .rintro⟨f,i⟩;rcases d t i with v|⟨v,⟨q,w,l,G,y,o⟩|L,M⟩
  .exact .inl v
  .by_cases I:t=zaM m;.exact .inl I
   .refine absurd ⟨i,I, ?_⟩ f;rw[l,zkz _ c q (by omega) w (kd3 o) _ c];simp
  .rw[g];exact .inr ⟨M,L⟩
 .rintro(rfl|⟨f,x,j,u,q,w,l,G,y,o⟩);.exact⟨λh=>h.2.1 rfl,(hP.nm _).2 (.inl rfl)⟩
  .rw[g]at u;have E:=ho.others x j u;have F:=h.id5 j;have r:=A j y;refine⟨λQ=> ?_,(hP.nm t).2 (.inr ⟨λe=> ?_,f⟩)⟩;.have:=Q.2.2;rw[l,zkz _ F q r w (kd3 o) _ c]at this;exact E (by simpa using this)
   .rw[l]at e;exact E (zbI F c r z (kd3 o) (by simp) e).1
theorem z7N (h:InvS s a k)(hp:p∈P4)(ha:a<69){b:Txt}(hf:b.length<=s.disk.quota-zaW s.disk):InvS (zsD s (zal s p) b) (a+1) k:=by
 have d:=h.met hp;obtain⟨m,i⟩:∃m,m=zal s p:=⟨_,rfl⟩;rw[<-i]at d⊢;have o:=z4d h ha d hf;have g:=comp h ha d o;have q:=d.seq;have c:=d.path;refine zqn h hp _ (g.s8.more (yaf _) (ycm k)) (by omega) (by omega) (.inr (yaf _)) d.path (by rw[<-i];rfl) d.lad (by show max (za0 m) 0<=_;unfold za0;omega) (by show 0<=_;omega) (λe=>absurd e (by show¬0<0;omega)) (λt n=> ?_) (λx l f e=> ?_)
 .rcases(g.nm t).1 n with rfl|⟨_,j⟩
  .exact .inl ⟨za0 m,kindC,rfl,by unfold za0;omega,by show _<=max (za0 m) 0;omega,.inr rfl⟩
  .rw[c]at j;exact .inr j
 .refine(g.nm _).2 (.inr ⟨h.last x l e,x,l,by rw[c];exact f,x.last,kindP,rfl,e,by omega,.inl rfl⟩)
end Go.Proofs.YtdbhocoeolhjhaaGreatDoor
section
namespace Go.Glob
def nb (c:UInt8):Bool:=(97<=c&&c<=122)||(65<=c&&c<=90)||(48<=c&&c<=57)|| [95,45,58,37,35,64,43,61].contains c
def rng:List UInt8->Option (UInt8×List UInt8)
 |d::h::s=>if d=45/\nb h=true then some (h,s)else none
 |_=>none
def cls:Nat->Bool->List UInt8->Option (List (UInt8×UInt8)×List UInt8)
 |0,_,_=>none
 |_+1,_,[]=>none
 |n+1,ne,c::s=>
  if c=93/\ne=true then some ([],s)
  else if nb c=false then none
  else match rng s with
   |some (h,s')=>if h<c then none else(cls n true s').map λx=>((c,h)::x.1,x.2)
   |none=>(cls n true s).map λx=>((c,c)::x.1,x.2)
inductive Pc where
 |lit (c:UInt8)
 |q
 |star
 |cls (rs:List (UInt8×UInt8)) (text:List UInt8)
 |br (as_:List (List Pc))
def stop (c:UInt8):Bool:=c=44||c=125
mutual
def pcs:Nat->List UInt8->Option (List Pc×List UInt8×Nat)
 |0,_=>none
 |_+1,[]=>some ([],[],0)
 |n+1,c::s=>
  if c=44∨c=125 then some ([],c::s,0)
  else if c=63 then(pcs n s).map λx=>(.q::x.1,x.2)
  else if c=42 then(pcs n s).map λx=>(.star::x.1,x.2)
  else if c=91 then(cls n false s).bind λx=>(pcs n x.2).map λy=>(.cls x.1 ((c::s).take (s.length+1-x.2.length))::y.1,y.2)
  else if c=123 then(alts n s).bind λx=>(pcs n x.2.1).map λy=>(.br x.1::y.1,y.2.1,max (x.2.2+1) y.2.2)
  else if nb c=true then(pcs n s).map λx=>(.lit c::x.1,x.2)
  else none
def alts:Nat->List UInt8->Option (List (List Pc)×List UInt8×Nat)
 |0,_=>none
 |n+1,s=>(pcs n s).bind λx=>match x.2.1 with
  | []=>none
  |c::r=>if c=125 then some ([x.1],r,x.2.2)else(alts n r).map λy=>(x.1::y.1,y.2.1,max x.2.2 y.2.2)
end
mutual
def cnt:Nat->List Pc->Nat
 |n,[]=>n
 |n,.br as_::l=>cnt (min 65 (n*cntA 0 as_)) l
 |n,.lit _::l=>cnt n l
 |n,.q::l=>cnt n l
 |n,.star::l=>cnt n l
 |n,.cls _ _::l=>cnt n l
def cntA:Nat->List (List Pc)->Nat
 |n,[]=>n
 |n,a::as_=>cntA (min 65 (n+cnt 1 a)) as_
end
def Pc.text:Pc->List UInt8
 | .lit c=> [c]
 | .q=> [63]
 | .star=> [42]
 | .cls _ t=>t
 | .br _=> []
def z3Z (l:List Pc):List UInt8:=l.flatMap Pc.text
def Pc.one:Pc->UInt8->Bool
 | .q,_=>true
 | .lit l,c=>decide (l=c)
 | .cls rs _,c=>rs.any λr=>r.1<=c&&c<=r.2
 | .star,_=>false
 | .br _,_=>false
def tls {α:Type}:List α->List (List α)
 | []=> [[]]
 |a::s=>(a::s)::tls s
def mt:List Pc->List UInt8->Bool
 | [],s=>s.isEmpty
 | .star::l,s=>(tls s).any (mt l)
 | .lit _::_,[]=>false
 | .q::_,[]=>false
 | .cls _ _::_,[]=>false
 | .br _::_,[]=>false
 | .lit p::l,c::s=>(Pc.lit p).one c&&mt l s
 | .q::l,c::s=>Pc.q.one c&&mt l s
 | .cls r t::l,c::s=>(Pc.cls r t).one c&&mt l s
 | .br a::l,c::s=>(Pc.br a).one c&&mt l s
def zCR (s:List UInt8):Except Nat (List Pc):=if 128<s.length then .error 12
 else match pcs (2*s.length+2) s with
  |some (l,r,d)=>if s= []∨r≠ []then .error 10 else if 4<d then .error 19 else if 64<cnt 1 l then .error 11 else .ok l
  |none=> .error 10
end Go.Glob
end
section
namespace Go.Glob
mutual
def okL:List Pc->Prop
 | []=>True
 | .lit c::l=>nb c=true/\okL l
 | .q::l=>okL l
 | .star::l=>okL l
 | .cls rs t::l=>(∃b,t=91::b/\∀m x,b.length<m->cls m false (b++x)=some (rs,x))/\okL l
 | .br as_::l=>okA as_/\okL l
def okA:List (List Pc)->Prop
 | []=>True
 |a::as_=>okL a/\okA as_
end
def flat:List Pc->Prop
 | []=>True
 | .br _::_=>False
 | .lit _::l=>flat l
 | .q::l=>flat l
 | .star::l=>flat l
 | .cls _ _::l=>flat l
theorem zgz:∀{l m:List Pc},flat l->flat m->flat (l++m)
 | [],_,_,h=>h
 | .br _::_,_,h,_=>h.elim
 | .lit _::l,m,h,h'=>zgz (l:=l) (m:=m) h h'
 | .q::l,m,h,h'=>zgz (l:=l) (m:=m) h h'
 | .star::l,m,h,h'=>zgz (l:=l) (m:=m) h h'
 | .cls _ _::l,m,h,h'=>zgz (l:=l) (m:=m) h h'
theorem zgo:∀{l m:List Pc},okL l->okL m->okL (l++m)
 | [],_,_,h=>h
 | .br _::l,m,h,h'=>by simp only[ybp,okL]at h⊢;exact⟨h.1,zgo h.2 h'⟩
 | .lit _::l,m,h,h'=>by simp only[ybp,okL]at h⊢;exact⟨h.1,zgo h.2 h'⟩
 | .q::l,m,h,h'=>by simp only[ybp,okL]at h⊢;exact zgo h h'
 | .star::l,m,h,h'=>by simp only[ybp,okL]at h⊢;exact zgo h h'
 | .cls _ _::l,m,h,h'=>by simp only[ybp,okL]at h⊢;exact⟨h.1,zgo h.2 h'⟩
theorem zx0 (l m:List Pc):z3Z (l++m)=z3Z l++z3Z m:=by simp[z3Z]
def Good (n:Nat)(l:List Pc):Prop:=flat l/\okL l/\(z3Z l).length<=n
theorem Good.app {a b:Nat}{l m:List Pc}(h:Good a l)(h':Good b m):Good (a+b) (l++m):=⟨zgz h.1 h'.1,zgo h.2.1 h'.2.1,by rw[zx0,yag];exact Nat.add_le_add h.2.2 h'.2.2⟩
theorem Good.le {a b:Nat}{l:List Pc}(h:Good a l)(hab:a<=b):Good b l:=⟨h.1,h.2.1,ybu h.2.2 hab⟩
theorem zpV {s:List UInt8}{l:List Pc}(h:zCR s=.ok l):s.length<=128/\s≠ []/\∃d,pcs (2*s.length+2) s=some (l,[],d)/\d<=4/\cnt 1 l<=64:=by
 unfold zCR at h;split at h;.cases h
 rename_i c;split at h
 .rename_i e r d b;split at h;.cases h
  rename_i a;split at h;.cases h
  rename_i f;split at h;.cases h
  rename_i g;simp only[Except.ok.injEq]at h;subst h;simp only[not_or,ne_eq,Decidable.not_not]at a;obtain⟨a,rfl⟩:=a;exact⟨by omega,a,d,b,by omega,by omega⟩
 .cases h
theorem zAV (l:List Pc)(s:List UInt8):mt (.star::l) s=(mt l s||match s with| []=>false|_::s'=>mt (.star::l) s'):=by cases s<;>simp[mt,tls]
theorem zuq {p:Pc}(hp:p≠ .star)(l:List Pc)(c:UInt8)(s:List UInt8):mt (p::l) (c::s)=(p.one c&&mt l s):=by cases p<;>first|exact absurd rfl hp|rfl
theorem zvI {p:Pc}(hp:p≠ .star)(l:List Pc):mt (p::l) []=false:=by cases p<;>first|exact absurd rfl hp|rfl
def zzC (l:List Pc):Prop:=∀p∈l,p≠ .star
theorem z3l:∀(M R:List Pc) (s:List UInt8),zzC M->mt (M++R) s=true->M.length<=s.length/\mt R (s.drop M.length)=true
 | [],R,s,_,h=>by simpa using h
 |p::M,R,[],hM,h=>by rw[ybp,zvI (hM p (by simp))]at h;cases h
 |p::M,R,c::s,hM,h=>by rw[ybp,zuq (hM p (by simp)),yb5]at h;have:=z3l M R s (λx a=>hM x (by simp[a])) h.2;exact⟨by simp;omega,by simpa using this.2⟩
structure Fit (l:List Pc)(name:List UInt8)(at_ k:Nat)(back:Option Nat)(from_:Nat):Prop where
 hat:at_<=l.length
 hk:k<=name.length
 hfk:from_<=k
 f0:back=none->mt l name=mt (l.drop at_) (name.drop k)
 f1:∀b,back=some b->b<at_/\l[b]? =some .star/\k-from_=at_-b-1/\zzC ((l.take at_).drop (b+1))/\mt l name=(mt (l.drop at_) (name.drop k)||(decide (from_<name.length)&&mt (l.drop b) (name.drop (from_+1))))
theorem zhM {α:Type}{l:List α}{i:Nat}{a:α}(h:l[i]? =some a):l.drop i=a::l.drop (i+1):=by obtain⟨b,rfl⟩:=yaa.1 h;exact ybd b
theorem Fit.step {l:List Pc}{name:List UInt8}{at_ k:Nat}{back:Option Nat}{from_:Nat}{p:Pc}{c:UInt8}(h:Fit l name at_ k back from_)(hp:l[at_]? =some p)(hs:p≠ .star)(hc:name[k]? =some c)(ho:p.one c=true):
  Fit l name (at_+1) (k+1) back from_:=by
 have o:=(yaa.1 hp).1;have q:=(yaa.1 hc).1;have e:mt (l.drop at_) (name.drop k)=mt (l.drop (at_+1)) (name.drop (k+1)):=by rw[zhM hp,zhM hc,zuq hs,ho,Bool.true_and]
 refine⟨by omega,by omega,by have:=h.hfk;omega,λi=>by rw[<-e];exact h.f0 i,λb j=> ?_⟩;obtain⟨m,d,n,f,g⟩:=h.f1 b j;refine⟨by omega,d,by have:=h.hfk;omega,λx a=> ?_,by rw[<-e];exact g⟩;have:l.take (at_+1)=l.take at_++ [p]:=by rw[ybh,hp];rfl
 rw[this,ycy (by simp;omega)]at a;rcases yai.1 a with a|a
 .exact f x a
 .simp only[ybr]at a;subst a;exact hs
def Stuck (l:List Pc)(name:List UInt8)(at_ k:Nat):Prop:=∃c,name[k]? =some c/\(l[at_]? =none∨∃p,l[at_]? =some p/\p≠ .star/\p.one c=false)
theorem Stuck.mt {l:List Pc}{name:List UInt8}{at_ k:Nat}(h:Stuck l name at_ k):Glob.mt (l.drop at_) (name.drop k)=false:=by
 obtain⟨c,a,h⟩:=h;rw[zhM a];rcases h with h|⟨p,b,d,e⟩
 .rw[ydp (List.getElem?_eq_none_iff.1 h)];rfl
 .rw[zhM b,zuq d,e,Bool.false_and]
theorem Fit.back {l:List Pc}{name:List UInt8}{at_ k:Nat}{b from_:Nat}(h:Fit l name at_ k (some b) from_)(hs:Stuck l name at_ k):Fit l name (b+1) (from_+1) (some b) (from_+1):=by
 obtain⟨o,f,q,r,i⟩:=h.f1 b rfl;have t:k<name.length:=by obtain⟨c,j,_⟩:=hs;exact(yaa.1 j).1
 have m:=h.hfk;have n:=h.hat;refine⟨by omega,by omega,yaf _,nofun,λs a=> ?_⟩;cases a;refine⟨by omega,f,by omega,λp g=> ?_, ?_⟩;.rw[ydp (by rw[yan];exact Nat.min_le_left _ _)]at g;cases g
 .rw[i,hs.mt,Bool.false_or];have d:decide (from_<name.length)=true:=by simp;omega
  rw[d,Bool.true_and,zhM f,zAV];congr 1;by_cases e:from_+1<name.length;.rw[ybd e];simp[e]
  .rw[ydp (by omega)];simp[e]
theorem Fit.done {l:List Pc}{name:List UInt8}{at_ from_:Nat}{back:Option Nat}(h:Fit l name at_ name.length back from_):mt l name=mt (l.drop at_) []:=by
 have f:name.drop name.length= []:=ydp (yaf _);cases g:back with
 |none=>rw[h.f0 g,f]
 |some b=>
  obtain⟨r,i,u,j,k⟩:=h.f1 b g;rw[k,f];cases a:(decide (from_<name.length)&&mt (l.drop b) (name.drop (from_+1)))with
  |false=>rw[Bool.or_false]
  |true=>
   exfalso;simp only[yb5,decide_eq_true_eq]at a;obtain⟨m,a⟩:=a;rw[zhM i]at a;simp only[mt,List.any_eq_true]at a;obtain⟨t,d,a⟩:=a;have e:t.length<=(name.drop (from_+1)).length:=by
    clear a;generalize name.drop (from_+1)=s at d
    induction s with
    |nil=>simp[tls]at d;simp[d]
    |cons c s q=>
     simp only[tls,ybe]at d;rcases d with rfl|d
     .simp
     .have:=q d;simp;omega
   have o:l.drop (b+1)=(l.take at_).drop (b+1)++l.drop at_:=(by have:l.drop (b+1)=((l.take at_)++l.drop at_).drop (b+1):=(by rw[ya2]);rw[this,ycy (by have:=h.hat;simp;omega)]);rw[o]at a;obtain⟨n,v⟩:=z3l _ _ _ j a;have p:=h.hat;simp at n e;omega
end Go.Glob
end
namespace Go.Proofs.YtdbhocoeolhjhaaGreatDoor
open Go.Abs Go.Glob
variable {G:Globs}
theorem zwV (s:List UInt8)(c:UInt8):PT 319 [.str s,.int .u8 c.toNat] (λr=>r=.int .i64 (Lib.indexByte s c)):=by
 intro h κ Im w i m d;obtain⟨f,g,rfl⟩:∃f g,i= [f,g]:=by
  match i,d.1 with
  | [a,b],_=>exact⟨a,b,rfl⟩
 have j:=(d.2 0 (by simp) (by simp)).str_inv;have k:=(d.2 1 (by simp) (by simp)).int_inv;simp only[yb8,ydo]at j k;subst j;subst k;refine(Tryz.strings_IndexByte ⟨s.toArray⟩ c.toNat w).mono ?_;rintro e l ⟨rfl,rfl⟩;exact⟨_,[],_,κ,Im,rfl,⟨rfl,rfl⟩,m,Grow.refl _ _ _ _,.im _ _ (by simpa using IR.int (Im:=Im) (w:=l) .i64 (Lib.indexByte s c))⟩
theorem z8I (c:UInt8):nb c=((97<=c&&c<=122)||(65<=c&&c<=90)||(48<=c&&c<=57)||decide (0<=Lib.indexByte [95,45,58,37,35,64,43,61] c)):=by unfold nb;rw[Lib.contains_iff_indexByte]
theorem zAJ (c:UInt8):PT 290 [.int .u8 c.toNat] (λr=>r=.bool (nb c)):=by
 refine pwP zx9 ?_;simp[zrx]
 repeat' (first
  |(refine zDR (λ_=> ?_) (λ_=> ?_))
  |(refine zap (λ_=> ?_) (λ_=> ?_))
  |(refine zc1 (zwV _ _) ?_;rintro r rfl)
  |simp[*])
 all_goals (simp[z8I,UInt8.le_iff_toNat_le];omega)
def zaT (l:List (List UInt8)):List (List AV):=l.map λs=> [.str s]
end Go.Proofs.YtdbhocoeolhjhaaGreatDoor
namespace Go.Trail
open Go.Glob
def sp:List UInt8->List (List UInt8)
 | []=> [[]]
 |c::s=>if c=46 then []::sp s else match sp s with
  |p::ps=>(c::p)::ps
  | []=> [[c]]
def cutN:Nat->List UInt8->List (List UInt8)
 |0,s=> [s]
 |n+1,s=>if Lib.indexByte s 46= -1 then [s]else s.take (Lib.indexByte s 46).toNat::cutN n (s.drop ((Lib.indexByte s 46).toNat+1))
theorem zCL (s:List UInt8):sp s≠ []:=by
 cases s with
 |nil=>simp[sp]
 |cons c s=>
  simp only[sp];split;.simp
  .split<;>simp
theorem z4q {c:UInt8}(h:c≠46)(s:List UInt8):∃p ps,sp s=p::ps/\sp (c::s)=(c::p)::ps:=by
 cases a:sp s with
 |nil=>exact absurd a (zCL s)
 |cons p ps=>exact⟨p,ps,rfl,by simp[sp,h,a]⟩
theorem zmt:∀(s:List UInt8),(Lib.indexByte s 46= -1/\sp s= [s])∨(∃m:Nat,Lib.indexByte s 46=m/\m<s.length/\sp s=s.take m::sp (s.drop (m+1)))
 | []=> .inl ⟨rfl,rfl⟩
 |c::s=>by
  by_cases e:c=46;.subst e;exact .inr ⟨0,by simp[Lib.indexByte],by simp,by simp[sp]⟩
  .obtain⟨p,i,f,g⟩:=z4q e s;have h:(c==46)=false:=(by simpa using e);rcases zmt s with ⟨d,a⟩|⟨m,d,a,b⟩
   .refine .inl ⟨by simp[Lib.indexByte,h,d], ?_⟩;rw[f]at a;simp only[yc5]at a;rw[g,a.1,a.2]
   .refine .inr ⟨m+1, ?_,by simp;omega, ?_⟩
    .simp only[Lib.indexByte,h,d];have:¬((m:Int)== -1)=true:=by simp
     rw[if_neg this];simp
    .rw[f]at b;simp only[yc5]at b;rw[g,b.1,b.2];simp
theorem zy8:∀(n:Nat) (s:List UInt8),(sp s).length<=n+1->cutN n s=sp s
 |0,s,h=>by
  rcases zmt s with ⟨_,g⟩|⟨m,_,_,g⟩;.simp[cutN,g]
  .rw[g]at h;have:=ycw.2 (zCL (s.drop (m+1)));rw[ybg]at h;omega
 |n+1,s,h=>by
  rcases zmt s with ⟨a,g⟩|⟨m,a,_,g⟩;.simp[cutN,g,a]
  .rw[g]at h;have b:¬((m:Int)= -1):=by omega
   simp only[cutN,a,if_neg b,g];rw[show((m:Int)).toNat=m from rfl,zy8 n _ (by simpa using h)]
theorem zwJ:∀(n:Nat) (s:List UInt8),n+1<=(sp s).length->(cutN n s).length=n+1
 |0,s,h=>rfl
 |n+1,s,h=>by
  rcases zmt s with ⟨b,g⟩|⟨m,b,_,g⟩;.rw[g]at h;simp at h
  .rw[g]at h;have a:¬((m:Int)= -1):=by omega
   simp only[cutN,b,if_neg a];rw[ybg,show((m:Int)).toNat=m from rfl,zwJ n _ (by simpa using h)]
def zxM (s:List UInt8):Bool:=decide (s.length<=32)&&(s.all nb&& !s.isEmpty)
def path (s:List UInt8):Option (List (List UInt8)):=if(sp s).length<=8/\(sp s).all zxM=true then some (sp s)else none
end Go.Trail
namespace Go.Proofs.YtdbhocoeolhjhaaGreatDoor
open Go.Abs Go.Glob Go.Trail
variable {G:Globs}
theorem z9b (s:List UInt8)(hs:s.length<=9223372036854775807):PT 248 [.str s] (λr=>r=.bool (s.all nb&& !s.isEmpty)):=by
 refine pwP zxm ?_;simp[zpe];refine z0j (λn f σ=>∃i:Nat,n=s.length-i/\i<=s.length/\f 0=.str s/\f 5=.int .i64 s.length/\f 6=.int .i64 i/\(s.take i).all nb=true/\σ= []) s.length ⟨0,by simp⟩ ?_;rintro n f σ ⟨i,rfl,o,g,k,j,a,rfl⟩;simp[k,j];refine zap (λl=> ?_) (λm=> ?_)
 .have b:i<s.length:=by omega
  simp[g,j,yah b];refine zad (zAJ _) ?_;simp;refine zz5 (λd=> ?_) (λd=> ?_);.simp;intro h;have:=h _ (yaw b);simp[this]at d
  .simp[g,k,j];refine⟨_, ?_,i+1,rfl,by omega,by rw[wI (by omega)];simp, ?_⟩;.omega
   .simp only[Bool.not_eq_eq_eq_not,Bool.not_false]at d;intro x c;rw[ybh,yah b]at c;simp only[yeu,yai,ybr]at c;rcases c with c|rfl
    .simpa using ya1.1 a x c
    .exact d
 .have e:s.take i=s:=yal (by omega);rw[e]at a;simp[g,a];cases s<;>simp
theorem zBq (s:List UInt8)(hs:s.length<=9223372036854775807):PT 201 [.str s] (λr=>r=.bool (zxM s)):=by
 refine pwP zyP ?_;simp[zqW];by_cases h:s.length<=32
 .have a:(s.length:Int)<=32:=by omega
  simp[a];refine zad (z9b s hs) ?_;simp[zxM,h,a]
 .have a:¬(s.length:Int)<=32:=by omega
  simp[h,a,zxM]
theorem z6J (s:List UInt8):PT 304 [.str s,.str [46]] (λr=>r=.int .i64 (Lib.indexByte s 46)):=by
 intro g κ k w h l c;obtain⟨d,f,rfl⟩:∃d f,h= [d,f]:=by
  match h,c.1 with
  | [a,b],_=>exact⟨a,b,rfl⟩
 have i:=(c.2 0 (by simp) (by simp)).str_inv;have j:=(c.2 1 (by simp) (by simp)).str_inv;simp only[yb8,ydo]at i j;subst i;subst j;refine(Tryz.strings_Index_one ⟨s.toArray⟩ 46 w).mono ?_;rintro e m ⟨rfl,rfl⟩;exact⟨_,[],_,κ,k,rfl,⟨rfl,rfl⟩,l,Grow.refl _ _ _ _,.im _ _ (.int .i64 (Lib.indexByte s 46))⟩
theorem zu0 (a b:List (List UInt8)):zaT (a++b)=zaT a++zaT b:=by simp[zaT]
theorem zpo (σ:zaa)(l:List (List UInt8)):((zaT l).mapM λ(c:List AV)=>c.mapM (zfJ σ))=some (zaT l):=by
 induction l with
 |nil=>rfl
 |cons a l b=>simp only[zaT,yce]at b⊢;rw[ych,b];simp[zfJ]
theorem zym (s:List UInt8)(hs:s.length<=1000000000000000000):PT 270 [.str s,.str [46],.int .i64 0,.int .i64 9] (λr=>r=.lst (zaT (cutN 8 s))):=by
 refine pwP zmy ?_;have G:IntKind.i64.wrap ((s.length:Int)+1)=(s.length:Int)+1:=wI (by omega);simp[zgU,G];obtain⟨N,hN,U,W⟩:∃N:Nat,N+1=min 9 (s.length+1)/\N<=8/\N<=s.length:=⟨min 8 s.length,by omega,by omega,by omega⟩;have y:(if(s.length:Int)+1<9 then(s.length:Int)+1 else 9)=((N+1:Nat):Int):=by split<;>omega
 simp only[y];refine zuW (N+1) rfl rfl (by omega) (by omega) (by omega) rfl ?_;have ad:IntKind.i64.wrap (((N+1:Nat):Int)-1)=N:=wE (by omega);have H:IntKind.i64.wrap (N:Int)=N:=wI (by omega);simp;have p:∀k,cutN k []= [[]]:=λk=>by cases k<;>simp[cutN,Lib.indexByte]
 refine zac (λx f σ=>∃(i:Nat) (done:List (List UInt8)) (a:List UInt8),x=N-i/\i<=N/\done.length=i/\f 0=.str a/\f 1=.str [46]/\f 2=.int .i64 0/\f 3=.int .i64 N/\f 9=.row 0 (N+1)/\f 10=.int .i64 i/\i+a.length<=s.length/\cutN 8 s=done++cutN (8-i) a/\σ= [.row 9 1 (zaT (done++List.replicate (N+1-i) [])) false]) N ?_ ?_;.exact⟨0,[],s,rfl,by omega,rfl,by simp,by simp,by simp,by simp[y,H],by simp,by simp,by omega,by simp,by simp[zaT]⟩
 rintro x f σ ⟨i,done,a,rfl,hi,o,v,F,Q,R,u,b,Y,h,rfl⟩;have q:IntKind.i64.wrap ((i:Int)+1)=(i:Int)+1:=wI (by omega);have d:(zaT (done++List.replicate (N+1-i) [])).length=N+1:=by simp[zaT];omega
 have g:(zaT (done++a::List.replicate (N-i) [])).length=N+1:=by simp[zaT];omega
 have t:i<N+1:=by omega
 have I:∀x:List UInt8,(zaT (done++List.replicate (N+1-i) [])).set i [.str x]=zaT (done++x::List.replicate (N-i) []):=λx=>by
  have e:N+1-i=(N-i)+1:=by omega
  rw[e,ydq];simp only[zaT,ycn,yce];rw[yct _ _ (by simp;omega)];simp[o]
 have z:(zaT (done++List.replicate (N+1-i) []))[i]? =some [.str []]:=by
  have e:N+1-i=(N-i)+1:=by omega
  rw[e,ydq];simp only[zaT,ycn,yce];rw[yam (by simp;omega)];simp[o]
 obtain⟨X,n⟩:=yaa.1 z;have A:(0:Int)<=(i:Int)+1:=by omega
 have B:i+1<=N+1:=by omega
 have J:∀c∈zaT (done++a::List.replicate (N-i) []),c.length=1:=λc S=>by simp only[zaT,yar]at S;obtain⟨x,_,rfl⟩:=S;rfl
 have j:List.take (i+1) (zaT (done++a::List.replicate (N-i) []))=zaT (done++ [a]):=by
  have e:zaT (done++a::List.replicate (N-i) [])=zaT (done++ [a])++zaT (List.replicate (N-i) []):=by rw[<-zu0];simp
  rw[e,ya7 (by simp[zaT];omega),yal (by simp[zaT];omega)]
 simp[R,b];refine zap (λaa=> ?_) (λab=> ?_)
 .have T:i<N:=by omega
  simp[v,F];refine zad (z6J a) ?_;simp;rcases zmt a with ⟨w,Z⟩|⟨m,w,Z,g3⟩
  .have l:cutN 8 s=done++ [a]:=(by rw[h];obtain⟨k,E⟩:∃k,8-i=k+1:=⟨7-i,by omega⟩;rw[E];simp[cutN,w]);simp[w];simp[v,u,b,d,t,n,I];refine z9M (σ':= [.row 9 1 (zaT (done++a::List.replicate (N-i) [])) true]) ⟨0,9,1,zaT (done++a::List.replicate (N-i) []),_,rfl,zpo _ _,rfl⟩ ?_;simp[u,b,g,q,A,B];rw[l,j]
  .have K:¬((m:Int)<0):=(by omega);have L:IntKind.i64.wrap (m:Int)=m:=wI (by omega);have C:IntKind.i64.wrap ((m:Int)+1)=(m:Int)+1:=wI (by omega);have M:m<=a.length:=(by omega);have D:m+1<=a.length:=(by omega);have O:(0:Int)<=(m:Int)+1:=(by omega);simp[w,K];refine z4Y ?_;simp[v,Q,u,b,d,t,n,I,L,M];refine z4Y ?_;simp[v,F,b,C,O,D,q];refine nx_i ⟨i+1,done++ [a.take m],a.drop (m+1),rfl,by omega,by simp[o],by simp,by simp[F],by simp[Q],by simp[R],by simp[u],by simp,by simp;omega, ?_, ?_⟩
   .rw[h];obtain⟨k,E⟩:∃k,8-i=k+1:=⟨7-i,by omega⟩;have P:¬((m:Int)= -1):=by omega
    rw[E,show 8-(i+1)=k by omega];simp[cutN,w,P]
   .have e:N+1-(i+1)=N-i:=(by omega);simp[e]
 .have l:cutN 8 s=done++ [a]:=by
   have ei:i=N:=(by omega);subst ei;rw[h];by_cases h8:i=8;.rw[h8];rfl
   .have:a= []:=yaq (by omega);rw[this,p]
  simp[v,u,b,d,t,n,I];refine z9M (σ':= [.row 9 1 (zaT (done++a::List.replicate (N-i) [])) true]) ⟨0,9,1,zaT (done++a::List.replicate (N-i) []),_,rfl,zpo _ _,rfl⟩ ?_;simp[u,b,g,q,A,B];rw[l,j]
theorem z3D (s:List UInt8)(hs:s.length<=1000000000000000000):PT 247 [.str s,.str [46],.int .i64 9] (λr=>r=.lst (zaT (cutN 8 s))):=by refine pwP zpL ?_;simp[ziT];refine zad (zym s hs) ?_;simp
theorem z9J (s:List UInt8):(cutN 8 s).length<=8↔(sp s).length<=8:=by
 constructor;.intro h;refine yep λa=> ?_;have:=zwJ 8 s (by omega);omega
 .intro h;rw[zy8 8 s (by omega)];exact h
theorem zCK (s:List UInt8)(hs:s.length<=1000000000000000000):PT 200 [.str s] (λr=>r=.tup [.lst (zaT (cutN 8 s)),.bool (decide ((cutN 8 s).length<=8))]):=by
 refine pwP zxC ?_;simp[zqB];refine zad (z3D s hs) ?_;have e:(zaT (cutN 8 s)).length=(cutN 8 s).length:=by simp[zaT]
 simp[e]
 all_goals try exact⟨λh=>by omega,λh=>by omega⟩
def zwg (x:Option (List (List UInt8)))(e:Nat):AV:=match x with
 |some l=> .tup [.lst (zaT l),.int .i64 0]
 |none=> .tup [.lst [],.int .i64 e]
theorem ztt:∀(s:List UInt8),∀p∈sp s,p.length<=s.length
 | [],p,h=>by simp[sp]at h;simp[h]
 |c::s,p,h=>by
  have a:=ztt s;by_cases b:c=46
  .subst b;simp only[sp,if_true,ybe]at h;rcases h with rfl|h
   .simp
   .have:=a p h;simp;omega
  .obtain⟨q,f,d,e⟩:=z4q b s;rw[e]at h;rw[d]at a;rcases ybe.1 h with rfl|h
   .have:=a q (by simp);simp;omega
   .have:=a p (by simp[h]);simp;omega
theorem z9E (s:List UInt8)(hs:s.length<=1000000000000000000):PT 130 [.str s] (λr=>r=zwg (path s) 13):=by
 refine pwP zuk ?_;simp[zmo];refine zad (zCK s hs) ?_;by_cases n:(sp s).length<=8
 .have d:=(z9J s).2 n;have C:=zy8 8 s (by omega);rw[C]at d⊢;have e:(zaT (sp s)).length=(sp s).length:=by simp[zaT]
  simp[n,e];have t:=ztt s;have q:path s=if(sp s).all zxM=true then some (sp s)else none:=by unfold path;simp[n]
  generalize E:sp s=L at*;refine z0j (λx f σ=>∃i:Nat,x=L.length-i/\i<=L.length/\f 4=.lst (zaT L)/\f 15=.lst (zaT L)/\f 16=.int .i64 L.length/\f 17=.int .i64 i/\(L.take i).all zxM=true/\σ= []) L.length ⟨0,by simp⟩ ?_;rintro x f σ ⟨i,rfl,D,v,g,j,c,a,rfl⟩;simp[j,c];refine zap (λA=> ?_) (λB=> ?_)
  .have l:i<L.length:=(by omega);obtain⟨p,b⟩:=gE l;have w:p∈L:=yad b;have m:(zaT L)[i]? =some [.str p]:=(by simp[zaT,b]);obtain⟨y,z⟩:=yaa.1 m;simp[g,c,m];refine zad (zBq p (by have:=t p w;omega)) ?_;simp;refine zz5 (λo=> ?_) (λo=> ?_)
   .have u:¬L.all zxM=true:=λh=>by have:=ya1.1 h p w;simp[this]at o
    simp[q,u,zwg]
   .simp[v,g,j,c];refine⟨_, ?_,i+1,rfl,by omega,by rw[wI (by omega)];simp, ?_⟩;.omega
    .simp only[Bool.not_eq_eq_eq_not,Bool.not_false]at o;intro x k;rw[ybh,b]at k;simp only[yeu,yai,ybr]at k;rcases k with k|rfl
     .exact ya1.1 a x k
     .exact o
  .have e:L.take i=L:=yal (by omega);rw[e]at a;simp[v,q,a,zwg]
 .have d:¬(cutN 8 s).length<=8:=λh=>n ((z9J s).1 h);have q:path s=none:=by unfold path;simp[n]
  simp[d,q,zwg]
theorem z88 (s:List UInt8)(hs:s.length<=1000000000000000000):PT 65 [.str s] (λr=>r=.bool (path s).isSome):=by refine pwP zu5 ?_;simp[zm2];refine zad (z9E s hs) ?_;cases path s<;>simp[zwg]
end Go.Proofs.YtdbhocoeolhjhaaGreatDoor
namespace Go.Abs
def zAU [Globs](P:Program)(Q:zaa->Prop)(g:FuncId)(capt:List AV)(V:List AV->AV)(p:List AV->Bool)(els:List (List AV)):Prop:=∀c∈els,∀(σ:zaa) (K:AV->zaa->Prop),Q σ->K (.bool (p c)) σ->zuX P σ K g (V c::capt)
theorem zz9 [Globs]{P:Program}{Q:zaa->Prop}{σ:zaa}{g:FuncId}{capt:List AV}{V:List AV->AV}{p:List AV->Bool}{els:List (List AV)}(hb:zaL P g=true)(h:zAU P Q g capt V p els)(hq:Q σ){c:List AV}(hc:c∈els){K:AV->zaa->Prop}{t:Tg K}(hK:K (.bool (p c)) σ):
  cv P K t σ (.fn (.func g) [] capt) [V c]:=⟨hb,by simpa using h c hc σ K hq hK⟩
end Go.Abs
namespace Go.Proofs.YtdbhocoeolhjhaaGreatDoor
open Go.Abs Go.RowKit Go.Sf
variable {G:Globs}
theorem z8u (pre:zaa)(els:List (List AV))(he:Els 1 els)(hl:els.length<=1000000000)(p:List AV->Bool)(g:Nat)(capt:List AV)(hb:zaL Tryz.prog g=true)(post:zaa)(Q:zaa->Prop)(hQ:∀Y tl,Q (pre++ .row 9 1 Y false::(post++tl)))(hg:zAU Tryz.prog Q g capt (λc=>c.headD .junk) p els):
  AT 171 [.row pre.length els.length,.fn (.func g) [] capt] (pre++ .row 9 1 els false::post) (λr σ'=>r=.int .i64 (idxE p els)/\σ'=pre++ .row 9 1 els false::post):=by
 refine pwA zfd ?_;simp[zct];refine zac (λx f σ=>∃(i:Nat),x=els.length-i/\i<=els.length/\f 0=.row pre.length els.length/\f 1=.fn (.func g) [] capt/\f 7=.int .i64 els.length/\f 8=.int .i64 i/\(∀m∈els.take i,p m=false)/\σ=pre++ .row 9 1 els false::post) els.length ?_ ?_;.exact⟨0,by simp⟩
 rintro x f σ ⟨i,B,C,t,u,v,o,a,rfl⟩;simp[v,o];refine zap (λz=> ?_) (λA=> ?_)
 .have b:i<els.length:=by omega
  have q:=wS i (by omega);obtain⟨c,k,y,l⟩:=gF b;have h:=yad k;have j:=he.1 c h;obtain⟨n,rfl⟩:∃n,c= [n]:=List.length_eq_one_iff.1 j;simp[t,u,o,l,j,b,yal];refine zz9 hb hg (by simpa using hQ els []) h ?_;cases w:p [n]with
  |true=>have:=zmO k w a;simp;refine zbi (pre++ .row 9 1 els false::post) (.int .i64 (idxE p els)) (by simp[zaK,this]) [] (by simp) (by simp) (by simp[AV.under]) (λi e he=> .inl he) ⟨rfl,rfl⟩
  |false=>
   simp[o,q];refine nx_i ⟨i+1,rfl,by omega,by simp[t],by simp[u],by simp[v],by simp,λm d=> ?_,rfl⟩;rw[ybh,k]at d;simp only[yeu,yai,ybr]at d;rcases d with d|rfl
   .exact a m d
   .exact w
 .have s:i=els.length:=by omega
  rw[s,yav]at a;have:=zmK a;simp;refine zbi (pre++ .row 9 1 els false::post) (.int .i64 (idxE p els)) (by simp[zaK,this]) [] (by simp) (by simp) (by simp[AV.under]) (λi e he=> .inl he) ⟨rfl,rfl⟩
theorem zAM (pre:zaa)(els:List (List AV))(he:Els 1 els)(hl:els.length<=1000000000)(p:List AV->Bool)(g:Nat)(capt:List AV)(hb:zaL Tryz.prog g=true)(post:zaa)(Q:zaa->Prop)(hQ:∀Y tl,Q (pre++ .row 9 1 Y false::(post++tl)))(hg:zAU Tryz.prog Q g capt (λc=>c.headD .junk) p els):
  AT 104 [.row pre.length els.length,.fn (.func g) [] capt] (pre++ .row 9 1 els false::post) (λr σ'=>∃X:List (List AV),σ'=pre++ .row 9 1 X false::post/\X.length=els.length/\Els 1 X/\((r=.row pre.length els.length/\X=els.filter λn=> !p n)∨(r=.sub pre.length els.length 1 0 (els.filter λn=> !p n).length/\X.take (els.filter λn=> !p n).length=els.filter λn=> !p n))):=by
 refine pwA zen ?_;simp[zcd];refine zai (z8u pre els he hl p g capt hb post Q hQ hg) ?_;rintro r σ ⟨rfl,rfl⟩;rcases zoh p els with ⟨ai,R⟩|⟨k,n,hk,aj,y,S⟩
 .have hf:(els.filter λn=> !p n)=els:=List.filter_eq_self.2 λn hn=>by simp[R n hn]
  rw[hf];simp[ai];refine er_k (pre++ .row 9 1 els false::post) (.row pre.length els.length) (λi e he=> .inl he) ⟨els,rfl,rfl,he,.inl ⟨rfl,rfl⟩⟩
 .have T:k<els.length:=(yaa.1 hk).1;have U:0<els.length:=by omega
  have ak:¬((k:Int)= -1):=by omega
  have al:=wS k (by omega);simp[S,ak,al];have am:((els.take k).filter λn=> !p n)=els.take k:=List.filter_eq_self.2 λn hn=>by simp[y n hn]
  refine zac (λx f σ=>∃(j:Nat) (a:List (List AV)) (tl:zaa),x=els.length-j/\j<=els.length/\f 0=.row pre.length els.length/\f 1=.fn (.func g) [] capt/\f 5=.int .i64 ((els.take j).filter λn=> !p n).length/\f 6=.int .i64 j/\((els.take j).filter λn=> !p n).length+a.length=j/\Els 1 a/\σ=pre++ .row 9 1 (((els.take j).filter λn=> !p n)++(a++els.drop j)) false::(post++tl)) (els.length-(k+1)) ?_ ?_
  .have W:=tS hk;have b:((els.take (k+1)).filter λn=> !p n)=els.take k:=(by rw[W,ydw,am];simp[aj]);have I:=yad hk;refine⟨k+1,[n],[],by omega,by omega,by simp,by simp, ?_,by simp, ?_,⟨(λc q=>by simp at q;subst q;exact he.1 _ I),(λc q=>by simp at q;subst q;exact he.2.1 _ I),(λc q=>by simp at q;subst q;exact he.2.2 _ I)⟩, ?_⟩;.rw[b];simp[S,ybt (yey T)]
   .rw[b];simp[ybt (yey T)]
   .rw[b];have:els.take k++([n]++els.drop (k+1))=els:=by rw[<-yax,<-W,ya2]
    rw[this];simp
  rintro x f σ ⟨j,a,tl,hx,hj,L,M,h5,h6,P,t,rfl⟩;obtain⟨A,B⟩:∃A,A=(els.take j).filter λn=> !p n:=⟨_,rfl⟩;rw[<-B]at h5 P;rw[<-B];have C:Els 1 A:=⟨λc q=>he.1 c (by rw[B]at q;exact yao (ybf.1 q).1),λc q=>he.2.1 c (by rw[B]at q;exact yao (ybf.1 q).1),λc q=>he.2.2 c (by rw[B]at q;exact yao (ybf.1 q).1)⟩;have l:(A++(a++els.drop j)).length=els.length:=by simp;omega
  simp only[yag,ya3]at l;simp[L,h6,l];refine zap (λa1=> ?_) (λa2=> ?_)
  .have E:j<els.length:=(by omega);have Z:=wS j (by omega);obtain⟨c,hv⟩:=gE E;have v:els.drop j=c::els.drop (j+1):=(by obtain⟨M,h2⟩:=yaa.1 hv;rw[ybd M,h2]);have aa:(A++(a++els.drop j))[j]? =some c:=by
    rw[<-yax,yam (by simp;omega)];have:j-(A++a).length=0:=by simp;omega
    rw[this,v];rfl
   obtain⟨ay,af⟩:=yaa.1 aa;have o:=yad hv;have D:=he.1 c o;have z:=tS hv;obtain⟨s,rfl⟩:∃s,c= [s]:=List.length_eq_one_iff.1 D;have F:=he.2.2 _ o;simp[L,M,h6,l,E,af,D,yal];refine zz9 hb hg (hQ _ tl) o ?_;cases ae:p [s]with
   |true=>
    have b:((els.take (j+1)).filter λn=> !p n)=A:=(by rw[z,ydw,<-B];simp[ae]);simp[h6,Z];refine nx_i ⟨j+1,a++ [[s]],tl,rfl,by omega,by simp[L],by simp[M],by rw[b];simp[h5],by simp,by rw[b];simp;omega,⟨λd m=> ?_,λd m=> ?_,λd m=> ?_⟩, ?_⟩
    .rcases yai.1 m with h|h;.exact t.1 d h
     .simp at h;subst h;exact he.1 _ o
    .rcases yai.1 m with h|h;.exact t.2.1 d h
     .simp at h;subst h;exact he.2.1 _ o
    .rcases yai.1 m with h|h;.exact t.2.2 d h
     .simp at h;subst h;exact he.2.2 _ o
    .rw[b,v];simp
   |false=>
    have b:((els.take (j+1)).filter λn=> !p n)=A++ [[s]]:=(by rw[z,ydw,<-B];simp[ae]);obtain⟨w,ag,az,H⟩:=zzV A a (els.drop (j+1)) [s];have an:A.length<els.length:=(by omega);obtain⟨K,O⟩:∃K,(A++(a++els.drop j))[A.length]? =some K:=⟨_,yah (by simp;omega)⟩;obtain⟨a0,ah⟩:=yaa.1 O;have ax:K.length=1:=by
     have:=yad O;rcases yai.1 this with h|h
     .exact C.1 _ h
     .rcases yai.1 h with h|h;.exact t.1 _ h
      .exact he.1 _ (yay h)
    have ao:=wS A.length (by omega);have a3:splice K 0 [s]= [s]:=(by have m:K.drop 1= []:=yb4 (by omega);simp[splice,D,m]);have G:(A++(a++els.drop j)).set A.length [s]=A++ [[s]]++(w++els.drop (j+1)):=(by rw[v,ag];simp);have J:(a++els.drop j).set 0 [s]= [s]::(w++els.drop (j+1)):=(by rw[yct _ _ (yaf _),yc2]at G;simpa using G);have aq:K.drop 1= []:=yb4 (by omega);have ar:s.cells= [s]:=z2L (by have:=F s (by simp);exact this);simp[L,h5,h6,l,an,ah,D,Z,ao,splice,aq,J,ar,F s];refine nx_i ⟨j+1,w,tl,rfl,by omega,by simp[L],by simp[M],by rw[b];simp,by simp,by rw[b];simp;omega,⟨λd m=> ?_,λd m=> ?_,λd m=> ?_⟩, ?_⟩
    .rcases H d m with h|rfl;.exact t.1 d h
     .exact he.1 _ o
    .rcases H d m with h|rfl;.exact t.2.1 d h
     .exact he.2.1 _ o
    .rcases H d m with h|rfl;.exact t.2.2 d h
     .exact he.2.2 _ o
    .rw[b];simp
  .have au:j=els.length:=(by omega);subst au;rw[yav]at B;rw[ydx,ybi];rw[yc2,ycf]at l;have ab:A.length<=els.length:=(by omega);have av:(A++a).drop els.length= []:=yb4 (by simp;omega);simp[L,h5,l,U,ab,av];rw[<-B];obtain⟨Y,hY⟩:∃Y,Y=A++List.replicate (els.length-A.length) [.str []]:=⟨_,rfl⟩;have ad:Els 1 Y:=by
    rw[hY];refine⟨λd m=> ?_,λd m=> ?_,λd m=> ?_⟩
    .rcases yai.1 m with h|h;.exact C.1 d h
     .rw[(ycd.1 h).2];rfl
    .rcases yai.1 m with h|h;.exact C.2.1 d h
     .rw[(ycd.1 h).2];simp[AV.pure]
    .rcases yai.1 m with h|h;.exact C.2.2 d h
     .rw[(ycd.1 h).2];simp[AV.one]
   have aw:Y.take A.length=A:=(by rw[hY,yci];rfl);rw[<-hY];refine zbi (pre++ .row 9 1 Y false::post) (.sub pre.length els.length 1 0 A.length) (by simp[zaK]) tl (by simp) (by simp) (by simp[AV.under]) (λi e u=> ?_) ⟨Y,rfl,by rw[hY];simp;omega,ad,.inr ⟨rfl,aw⟩⟩;rcases ycl i pre.length with h|h|h
   .rw[yap h]at u⊢;exact .inl u
   .subst h;simp at u;subst u;exact .inr (zaD ad.2.1)
   .rw[yam (by omega)]at u⊢;obtain⟨j,hj⟩:∃j,i-pre.length=j+1:=⟨i-pre.length-1,by omega⟩;rw[hj]at u⊢;exact .inl u
end Go.Proofs.YtdbhocoeolhjhaaGreatDoor
namespace Go.Proofs.YtdbhocoeolhjhaaGreatDoor
open Go.Abs Go.RowKit Go.Sf Go.Num
variable {G:Globs}
theorem zvV (l:List Txt):Els 1 (zaV l):=by refine⟨λc a=> ?_,λc a=> ?_,λc a=> ?_⟩<;>obtain⟨n,_,rfl⟩:=yar.1 a<;>simp[AV.pure,AV.one]
theorem z7C (σ:zaa)(m k:Nat)(l:List Txt):((zaV l).mapM λ(c:List AV)=>c.mapM (fz σ m k))=some (zaV l):=zfV (zvV l).2.1 (λc a=>by obtain⟨n,_,rfl⟩:=yar.1 a;simp)
theorem z5F {σ:zaa}{i j:Nat}{but own:Txt}(hi:σ[i]? =some (.var 9 [.str but]))(hj:σ[j]? =some (.var 9 [.str own]))(t:Txt):AT 105 [.str t,.ptr i 0,.ptr j 0] σ (λr σ'=>r=.bool (decide (t=but)|| !Lib.hasPrefix t own)/\σ'=σ):=by
 refine pwA zrU ?_;by_cases h:t=but;.simp[zg3,hi,h];exact zbi σ (.bool true) (by simp[zaK]) [] (by simp) (yaf _) (by simp[AV.under]) (λ_ _ h=> .inl h) ⟨by simp[h],rfl⟩
 .simp[zg3,hi,hj,h];refine zad (z3W t own) ?_;simp;exact zbi σ (.bool (!Lib.hasPrefix t own)) (by simp[zaK]) [] (by simp) (yaf _) (by simp[AV.under]) (λ_ _ h=> .inl h) ⟨by simp[h],rfl⟩
def zCP (but own:Txt)(c:List AV):Bool:=match c with
 | [.str t]=>decide (t=but)|| !Lib.hasPrefix t own
 |_=>false
theorem zyu (l:List Txt)(but own:Txt):((zaV l).filter λn=> !zCP but own n)=zaV (l.filter λt=> !(decide (t=but)|| !Lib.hasPrefix t own)):=by unfold zaV;rw[List.filter_map];rfl
theorem z7Y (d:DiskM)(h:RightM d)(hl:Fits d)(id:Nat)(hid:id<100)(but:Txt):PT 52 [.agg (zag d),.int .i64 id,.str but] (λr=>r=.lst (zaV (zc3 d id but))):=by
 refine pwP zuG ?_;have u:=zuJ (G:=G) [.var 30 (zag d),.var 9 [.str but]] d h hl;have D:=zu2 id hid;have z:(Lib.decDigits id).length<=9223372036854775806:=by omega
 have A:=hl.nnames;simp only[zag]at u;simp[znc,zag];refine zai u ?_;rintro r σ' ⟨rfl,rfl⟩;simp;refine zad (zxH id hid) ?_;simp[z,splice];obtain⟨m,n⟩:∃m:Entry,m=.var 30 (zag d):=⟨_,rfl⟩;obtain⟨a,b⟩:∃a,a=Lib.decDigits id++ [46]:=⟨_,rfl⟩;obtain⟨e,f⟩:∃e,e=d.names.map NameM.name:=⟨_,rfl⟩;have p:=zdz e;have k:e.length=d.names.length:=by rw[f];simp
 have l:zc3 d id but=e.filter λt=> !(decide (t=but)|| !Lib.hasPrefix t a):=by rw[f,b];rfl
 have q:=zAM (G:=G) [m,.var 9 [.str but],m] (zaV e) (zvV e) (by omega) (zCP but a) 105 [.ptr 1 0,.ptr 4 0] zr6 [.var 9 [.str a]] (λσ=>σ[1]? =some (.var 9 [.str but])/\σ[4]? =some (.var 9 [.str a])) (λY C=>⟨rfl,rfl⟩) (λc o σ K s w=>by obtain⟨t,_,rfl⟩:=yar.1 o;exact .inr (.inr ((z5F s.1 s.2 t).mono λr σ' ⟨x,y⟩=>by subst x;subst y;exact w)));rw[zyu,<-l]at q;have i:=zdz (zc3 d id but);rw[p,k,i]at q;subst f b n;refine zai q ?_;rintro r σ' ⟨X,rfl,g,j,⟨rfl,rfl⟩|⟨rfl,v⟩⟩;.rw[i]at g;simp[g,z7C,i]
 .simp[g];have B:(zaV (zc3 d id but)).map (λc=>c.map zrj)=zaV (zc3 d id but):=by unfold zaV;rw[yd0];rfl
  rw[z05 j.2.1];simp;rw[if_pos (by intro c o;have:=j.1 c o;simpa using this)];rw[<-ydh,v,B];simp
theorem zzw:∀p∈P4,(Go.Trail.path p).isSome=true:=by decide+kernel
theorem z0u {p:Txt}(h:p∈P4):PT 65 [.str p] (λr=>r=.bool true):=by
 have a:∀q∈P4,q.length<=1000000000000000000:=by decide
 have:=z88 (G:=G) p (a p h);rw[zzw p h]at this;exact this
theorem z12 (hT:zhx G)(p:Txt)(h0:p≠ [])(hl:p.length<=100):PT 69 [.agg (zbS p)] (λr=>r=.tup [.lst (byteEls (zay (zbU p))),.int .i64 0]):=by
 refine pwP zeh ?_;have c:=z0t (G:=G) p h0 hl;simp only[zbS]at c;have a:zbU p≠ []:=by simp[zbU]
 have b:(zbU p).length<=512:=by rw[zcI];omega
 simp[zda,zbS];refine zfR c (by simp[AV.pure,rungsC]) ?_;rintro r rfl;simp;refine zai (zi5 hT (zbU p) a b) ?_;rintro r σ' ⟨rfl,rfl⟩;simp[zfq,zae]
theorem zdD {D:DiskM}{s:ShM}(h:(opS D s).down=false):s.down=false/\(opS D s).disk=D:=by
 unfold opS at h⊢;split at h;.rename_i a;rw[a]at h;cases h
 .rename_i a;split at h;.cases h
  .rename_i b;rw[if_neg a,if_neg b];exact⟨by simpa using a,rfl⟩
theorem zaE (D:DiskM)(s:ShM):(opS D s).mets=s.mets/\(opS D s).next=s.next:=by
 unfold opS;split;.exact⟨rfl,rfl⟩
 .split<;>exact⟨rfl,rfl⟩
theorem zmH {σ:zaa}{k:Nat}(s was:ShM)(m:MetM)(hk:σ[k]? =some (.var 127 (wkC s)))(hs:Srt kM s.mets)(hl:s.mets.length<=1000)(hx:s.next<=1000000)(hi:m.id<=1000000):
  AT 54 [.ptr k 0,.agg (shC was),.agg (metC m)] σ (λr σ'=>r=.tup [.agg (shC (zma s m)),.int .i64 (zgg s)]/\σ'=σ):=by
 refine pwA zmj ?_;have b:=zaN hk;unfold zma zgg;cases a:s.down with
 |false=>have c:=z0f (G:=G) s m hs hl hx hi;simp only[shC,metC,a]at c;simp[zdT,shC,metC,b,wkC,a];refine zaX c (by simp[AV.pure]) ?_;simp[splice];exact zez (.tup [.agg (shC (zby s m)),.int .i64 0]) (by simp[zaK,shC]) (by simp[AV.under,shC]) ⟨by simp[shC],rfl⟩
 |true=>simp[zdT,shC,metC,b,wkC,a,splice];exact zez (.tup [.agg (shC s),.int .i64 22]) (by simp[zaK,shC,a]) (by simp[AV.under,shC]) ⟨by simp[shC,a],rfl⟩
def zuP (s:ShM)(m:MetM):ShM:=let y:=if 0<m.last then opS (zcJ s.disk (zcv m)) s else s
 opS (zar y.disk (newN m)) y
def appF (s:ShM)(m:MetM)(b:Txt):ShM:=if zlO m then opS (za3 (zuP s m).disk (newN m) b) (zuP s m)else opS (za3 s.disk (zcv m) b) s
def zi2 (s:ShM)(p:Txt)(bs:List ArrM):AV:=if∀a∈bs,OkV a then
  if bs= []then .tup [.agg (shC s),.int .i64 0]
  else if(za8 (zal s p) bs).length<=s.disk.quota-zaW s.disk then .tup [.agg (shC (zma (appF s (zal s p) (za8 (zal s p) bs)) (metA (zal s p) bs))),.int .i64 (zgg (appF s (zal s p) (za8 (zal s p) bs)))]
  else .tup [.agg (shC s),.int .i64 6]
 else .tup [.agg (shC s),.int .i64 1]
theorem zr7 {s:ShM}{a k:Nat}(h:InvS s a k)(hd:s.down=false){p:Txt}:PT 13 [.agg (shC s),.str p] (λr=>∃(x0:Int) (x1:Txt) (x2:List (List AV)) (x3 x4 x5 x6:Int) (x7:List (List AV)) (x8 x9 x10 e:Int),r=.tup [.agg [.int .i64 x0,.str x1,.lst x2,.int .i64 x3,.int .i64 x4,.int .i64 x5,.int .i64 x6,.lst x7,.int .i64 x8,.int .i64 x9,.int .i64 x10],.int .i64 e]/\((¬hasK kM s.mets p/\e=15)∨(hasK kM s.mets p/\e=0/\ [.int .i64 x0,.str x1,.lst x2,.int .i64 x3,.int .i64 x4,.int .i64 x5,.int .i64 x6,.lst x7,.int .i64 x8,.int .i64 x9,.int .i64 x10]=metC (zal s p)))):=by
 have d:=h.len;by_cases b:hasK kM s.mets p;.obtain⟨f,g⟩:=zcY h.srt b;exact(zq7 s p hd h.srt (by omega) f g).mono λr c=>⟨_,_,_,_,_,_,_,_,_,_,_,_,c,.inr ⟨b,rfl,rfl⟩⟩
 .exact(z03 s p hd h.srt (by omega) b).mono λr c=>⟨_,_,_,_,_,_,_,_,_,_,_,_,c,.inl ⟨b,rfl⟩⟩
theorem zsS (hT:zhx G){s:ShM}{a k:Nat}(h:InvS s a k)(hd:s.down=false)(hL:za7 s)(ha:a<69)(hk:k<=100000){p:Txt}(hp:p∈P4)(bs:List ArrM)(hb:∀x∈bs,OkA x)(hl:bs.length<=300):
  PT 28 [.agg (shC s),.str p,.agg schC,.lst (zaO bs)] (λr=>r=zi2 s p bs):=by
 refine pwP zsC ?_;have ho:=h.met hp;have a2:=h.len;have i:=h.size.fits (by omega) (by omega);have M:=zcg bs;obtain⟨m,hm⟩:∃m,m=zal s p:=⟨_,rfl⟩;have B:OkMet s p a m:=by rw[hm];exact ho
 obtain⟨V0,t⟩:∃V0:Entry,V0=.var 33 (shC s):=⟨_,rfl⟩;obtain⟨V1,ag⟩:∃V1:Entry,V1=.var 52 schC:=⟨_,rfl⟩;obtain⟨V2,g⟩:∃V2:Entry,V2=.var 33 [.int .i64 0,.nils,.nils,.nils,.nils,.int .i64 0,.nils,.int .i64 0,.int .i64 0,.bool false]:=⟨_,rfl⟩;have ai:=z0u (G:=G) hp;have aj:=zr7 (G:=G) h hd (p:=p);simp only[shC]at aj;simp[zld,shC,schC];refine zc1 aj ?_;rintro r ⟨x0,x1,x2,x3,x4,x5,x6,x7,x8,x9,a7,e,rfl,hx⟩;simp[splice, -zmP];refine z0s (λf σ=>f 1=.str p/\f 3=.lst (zaO bs)/\f 4=.ptr 0 0/\f 6=.ptr 1 0/\f 8=.ptr 2 0/\f 9=.int .i64 0/\f 10=.ptr 3 0/\σ= [V0,V1,V2,.var 57 (metC m)]) ?_ ?_
 .rintro f σ ⟨f1,f3,u,f6,S,f9,b,rfl⟩;have C:=z4O (G:=G) m.lad (by rw[hm];exact ho.lad) bs hb (by omega);simp only[ladC]at C;simp[f3,b,metC];by_cases hv:∀a∈bs,OkV a
  .rw[if_pos hv,zv8 hv]at C;have hR:zi2 s p bs=if bs= []then .tup [.agg (shC s),.int .i64 0]else if(za8 m bs).length<=s.disk.quota-zaW s.disk then .tup [.agg (shC (zma (appF s m (za8 m bs)) (metA m bs))),.int .i64 (zgg (appF s m (za8 m bs)))]else .tup [.agg (shC s),.int .i64 6]:=by unfold zi2;rw[if_pos hv,hm]
   rw[hR];refine zad C ?_;by_cases h0:bs= [];.simp[splice,f3,u,S,b,h0,zaO,t,g,shC]
   .have ay:bs.length≠0:=λe=>h0 (ydj.1 e);have kF:=z6r (G:=G) hT bs (λx hx=>⟨hb x hx,hv x hx⟩) (by omega);rw[if_neg h0];simp[splice,f3,b,M,ay];refine zad kF ?_;have T:=B.id5;have a3:=B.seq;have Y:=B.path;have ak:m.path≠ []/\m.path.length<=100:=by
     rw[Y];have:∀q∈P4,q≠ []/\q.length<=100:=by decide
     exact this p hp
    have O:=z0D (G:=G) {m with lad:=zaz m.lad bs};have al:=z12 (G:=G) hT m.path ak.1 ak.2;have am:=znO (G:=G) (zay (zbU m.path)) (zbk bs) (by rw[zbd,zcI];omega) (by rw[zlP];omega);have Z:=zae (za8 m bs);have a4:(za8 m bs).length<=20000:=by
     have h1:=zlP bs;unfold za8;split;.rw[yag,zbd,zcI,h1];omega
     .omega
    have P:=λah=>zzP (G:=G) s.disk h.size.right i (za8 m bs).length (by omega) ah (by have:=h.size.files;omega);simp only[zag]at P;have a8:IntKind.i64.wrap ((if(m.base:Int)<m.last then(m.last:Int)else(m.base:Int))+1)=((za0 m:Nat):Int):=(by unfold za0;rw[wrap_i64 (by split<;>omega) (by split<;>omega)];split<;>omega);have an:IntKind.i64.wrap ((if m.base<m.last then(m.last:Int)else(m.base:Int))+1)=((za0 m:Nat):Int):=(by unfold za0;rw[wrap_i64 (by split<;>omega) (by split<;>omega)];split<;>omega);have D:(metA m bs).id=m.id:=(by unfold metA;split<;>rfl);have ao:IntKind.i64.wrap (bs.length:Int)=bs.length:=wI (by omega);have U:za0 m<70:=(by unfold za0;omega);have Q:PT 47 [.int .i64 m.id,.int .i64 (za0 m:Nat),.str [46,112]] (λr=>r=.str (newN m)):=zk0 m.id (za0 m) kindP (by omega) (by omega) (by decide);have okN:okS (newN m):=zcz m.id T (za0 m) U kindP (by simp);have v:¬hasK kN s.disk.names (newN m):=B.fresh h ha (q:=za0 m) (by unfold za0;omega) U (by simp);have R:s.disk.files.length<256:=(by have:=h.size.files;omega);have az:s.disk.next<1099511627776:=(by have:=h.size.next;omega);simp only[metC]at O;by_cases A:m.last=0
    .have E:zlO m=true:=(by unfold zlO;simp[A]);have F:za8 m bs=zay (zbU m.path)++zbk bs:=(by unfold za8;rw[if_pos E]);simp only[A]at O;have a0:IntKind.i64.wrap ((if(m.base:Int)<0 then 0 else(m.base:Int))+1)=((za0 m:Nat):Int):=(by unfold za0;rw[if_neg (by omega),wI (by omega)];omega);simp[b,A];refine zad O ?_;simp;refine zfR al (by simp[AV.pure,zbS,rungsC]) ?_;rintro r rfl;simp;refine zad am ?_;rw[<-F];simp[u,t,shC,Z];refine zad (P true) ?_;by_cases o:(za8 m bs).length<=s.disk.quota-zaW s.disk
     .rw[if_pos o];have H:=zfm h.size okN v (by omega);have aa:hasK kN (zar s.disk (newN m)).names (newN m):=zhJ.2 (.inl rfl);have ab:(za8 m bs).length<=(zar s.disk (newN m)).quota-zaW (zar s.disk (newN m)):=by rw[zgC];exact o
      have I:metC (metA m bs)= [.int .i64 m.id,.str m.path,.lst rungsC,.int .i64 1,.int .i64 500000,.int .i64 1,.int .i64 500000,.lst (zak (zaz m.lad bs)),.int .i64 m.base,.int .i64 (za0 m:Nat),.int .i64 bs.length]:=(by unfold metA;rw[if_pos E];rfl);simp[o,u,b,a0];refine zad Q ?_;simp;obtain⟨w,d⟩:∃y,y=opS (zar s.disk (newN m)) s:=⟨_,rfl⟩;have ad:za7 w:=(by rw[d];exact zdd hL _);have ae:w.down=false->w.disk=zar s.disk (newN m):=λhd=>by rw[d]at hd⊢;exact(zdD hd).2
      refine zai (zoK (k:=4) s hL (by simp[wkC,hd]) λ_=>⟨h.size.right,i,okN,v,R,az⟩) ?_;rintro r σ' ⟨rfl,rfl⟩;rw[<-d];simp[b];refine zad Q ?_;simp;obtain⟨j,c⟩:∃y,y=opS (za3 w.disk (newN m) (za8 m bs)) w:=⟨_,rfl⟩;have W:j.mets=s.mets:=by rw[c,(zaE _ _).1,d,(zaE _ _).1]
      have e3:j.next=s.next:=(by rw[c,(zaE _ _).2,d,(zaE _ _).2]);refine zai (ztS (k:=4) w ad (by simp) (by omega) λX=>by rw[ae X];exact⟨H.right,H.fits (by omega) (by omega),okN,aa,ab⟩) ?_;rintro r σ' ⟨rfl,rfl⟩;rw[<-c];simp[f3,b,M,ao];have J:=λ(σ:zaa) (hk4:σ[4]? =some (.var 127 (wkC j)))=>zmH (G:=G) (k:=4) j s (metA m bs) hk4 (by rw[W];exact h.srt) (by rw[W];omega) (by rw[e3];have:=h.next;omega) (by rw[D];omega);rw[I]at J;simp only[shC]at J;simp[u,b];refine zai (J _ (by simp)) ?_;rintro r σ' ⟨rfl,rfl⟩;have l:appF s m (za8 m bs)=j:=(by unfold appF zuP;simp only[E,if_true,if_neg (show¬0<m.last by omega),<-d,<-c]);rw[l];simp[S,g,splice]
     .rw[if_neg o];simp[o,u,S,g,splice]
    .have K:0<m.last:=(by omega);have a5:(0:Int)<m.last:=(by omega);have a6:¬(m.last:Int)=0:=(by omega);have aq:hasK kN s.disk.names (zcv m):=B.last K;have okL:okS (zcv m):=zcz m.id T m.last (by omega) kindP (by simp);have ar:PT 47 [.int .i64 m.id,.int .i64 m.last,.str [46,112]] (λr=>r=.str (zcv m)):=zk0 m.id m.last kindP (by omega) (by omega) (by decide);by_cases hc:16<=m.count
     .have E:zlO m=true:=(by unfold zlO;simp[hc]);have F:za8 m bs=zay (zbU m.path)++zbk bs:=(by unfold za8;rw[if_pos E]);have af:(16:Int)<=m.count:=(by omega);simp[b,A,af];refine zad O ?_;simp;refine zfR al (by simp[AV.pure,zbS,rungsC]) ?_;rintro r rfl;simp;refine zad am ?_;rw[<-F];simp[u,t,shC,Z];refine zad (P true) ?_;by_cases o:(za8 m bs).length<=s.disk.quota-zaW s.disk
      .rw[if_pos o];have L:=zrd (n:=zcv m) h.size;have H:=zfm L okN (by exact v) (by omega);have aa:hasK kN (zar (zcJ s.disk (zcv m)) (newN m)).names (newN m):=zhJ.2 (.inl rfl);have ab:(za8 m bs).length<=(zar (zcJ s.disk (zcv m)) (newN m)).quota-zaW (zar (zcJ s.disk (zcv m)) (newN m)):=by rw[zgC,zqT];exact o
       have I:metC (metA m bs)= [.int .i64 m.id,.str m.path,.lst rungsC,.int .i64 1,.int .i64 500000,.int .i64 1,.int .i64 500000,.lst (zak (zaz m.lad bs)),.int .i64 m.base,.int .i64 (za0 m:Nat),.int .i64 bs.length]:=(by unfold metA;rw[if_pos E];rfl);simp[o,u,b,K];refine zad ar ?_;simp;obtain⟨y0,z⟩:∃y,y=opS (zcJ s.disk (zcv m)) s:=⟨_,rfl⟩;have au:za7 y0:=(by rw[z];exact zdd hL _);have av:y0.down=false->y0.disk=zcJ s.disk (zcv m):=λhd=>by rw[z]at hd⊢;exact(zdD hd).2
       refine zai (zpU (k:=4) s hL (by simp[wkC,hd]) λ_=>⟨h.size.right,i,okL,aq⟩) ?_;rintro r σ' ⟨rfl,rfl⟩;rw[<-z];simp[b,an];refine zad Q ?_;simp;obtain⟨w,d⟩:∃y,y=opS (zar y0.disk (newN m)) y0:=⟨_,rfl⟩;have ad:za7 w:=by rw[d];exact zdd au _
       have ae:w.down=false->w.disk=zar (zcJ s.disk (zcv m)) (newN m):=λhd=>by rw[d]at hd⊢;obtain⟨h1,h2⟩:=zdD hd;rw[h2,av h1]
       refine zai (zoK (k:=4) y0 au (by simp) λax=>by rw[av ax];exact⟨L.right,L.fits (by omega) (by omega),okN,v,by have:=L.files;omega,by have:=L.next;omega⟩) ?_;rintro r σ' ⟨rfl,rfl⟩;rw[<-d];simp[b];refine zad Q ?_;simp;obtain⟨j,c⟩:∃y,y=opS (za3 w.disk (newN m) (za8 m bs)) w:=⟨_,rfl⟩;have W:j.mets=s.mets:=by rw[c,(zaE _ _).1,d,(zaE _ _).1,z,(zaE _ _).1]
       have e3:j.next=s.next:=(by rw[c,(zaE _ _).2,d,(zaE _ _).2,z,(zaE _ _).2]);refine zai (ztS (k:=4) w ad (by simp) (by omega) λX=>by rw[ae X];exact⟨H.right,H.fits (by omega) (by omega),okN,aa,ab⟩) ?_;rintro r σ' ⟨rfl,rfl⟩;rw[<-c];simp[f3,b,M,ao];have J:=λ(σ:zaa) (hk4:σ[4]? =some (.var 127 (wkC j)))=>zmH (G:=G) (k:=4) j s (metA m bs) hk4 (by rw[W];exact h.srt) (by rw[W];omega) (by rw[e3];have:=h.next;omega) (by rw[D];omega);rw[I]at J;simp only[shC]at J;simp[u,b];refine zai (J _ (by simp)) ?_;rintro r σ' ⟨rfl,rfl⟩;have l:appF s m (za8 m bs)=j:=(by unfold appF zuP;simp only[E,if_true,if_pos K,<-z,<-d,<-c]);rw[l];simp[S,g,splice]
      .rw[if_neg o];simp[o,u,S,g,splice]
     .have E:¬zlO m=true:=(by unfold zlO;simp[hc,A]);have F:za8 m bs=zbk bs:=(by unfold za8;rw[if_neg E]);have af:¬(16:Int)<=m.count:=(by omega);simp[u,b,A,af,t,shC];rw[<-F];simp[Z];refine zad (P false) ?_;by_cases o:(za8 m bs).length<=s.disk.quota-zaW s.disk
      .rw[if_pos o];have a1:IntKind.i64.wrap ((m.count:Int)+bs.length)=((m.count+bs.length:Nat):Int):=wE (by omega);have I:metC (metA m bs)= [.int .i64 m.id,.str m.path,.lst rungsC,.int .i64 1,.int .i64 500000,.int .i64 1,.int .i64 500000,.lst (zak (zaz m.lad bs)),.int .i64 m.base,.int .i64 m.last,.int .i64 (m.count+bs.length:Nat)]:=by unfold metA;rw[if_neg E];rfl
       simp[o,u,b];refine zad ar ?_;simp;obtain⟨j,c⟩:∃y,y=opS (za3 s.disk (zcv m) (za8 m bs)) s:=⟨_,rfl⟩;have W:j.mets=s.mets:=by rw[c,(zaE _ _).1]
       have e3:j.next=s.next:=(by rw[c,(zaE _ _).2]);refine zai (ztS (k:=4) s hL (by simp[wkC,hd]) (by omega) λ_=>⟨h.size.right,i,okL,aq,o⟩) ?_;rintro r σ' ⟨rfl,rfl⟩;rw[<-c];simp[f3,b,M,a1, -Int.natCast_add];have J:=λ(σ:zaa) (hk4:σ[4]? =some (.var 127 (wkC j)))=>zmH (G:=G) (k:=4) j s (metA m bs) hk4 (by rw[W];exact h.srt) (by rw[W];omega) (by rw[e3];have:=h.next;omega) (by rw[D];omega);rw[I]at J;simp only[shC]at J;simp[u,b, -Int.natCast_add];refine zai (J _ (by simp)) ?_;rintro r σ' ⟨rfl,rfl⟩;have l:appF s m (za8 m bs)=j:=(by unfold appF zuP;simp only[if_neg E,<-c]);rw[l];simp[S,g,splice]
      .rw[if_neg o];simp[o,u,S,g,splice]
  .rw[if_neg hv]at C;have hR:zi2 s p bs=.tup [.agg (shC s),.int .i64 1]:=by unfold zi2;rw[if_neg hv]
   rw[hR];refine zad C ?_;simp[splice,u,S,b,t,g,shC]
 .rcases hx with ⟨hh,rfl⟩|⟨hh,rfl,aw⟩;.have kf:=z5m (G:=G) s p (by omega);simp only[shC,schC]at kf;simp;refine zad ai ?_;simp;refine zad kf ?_;simp[metC,splice];refine zfx ?_;refine⟨by simp,by simp,by simp,by simp,by simp,by simp,by simp, ?_⟩;rw[hm,zdN hh];simp[t,ag,g,shC,schC,znd]
  .simp;refine zad ai ?_;simp;refine zfx ?_;refine⟨by simp,by simp,by simp,by simp,by simp,by simp,by simp, ?_⟩;rw[hm,<-aw];simp[t,ag,g,shC,schC]
theorem zn1 {s:ShM}(h:(zdm s).down=false):s.down=false/\(zdm s).disk=if s.disk.moves= []then s.disk else zbx s.disk:=by
 unfold zdm at h⊢;split at h;.rename_i a;rw[if_pos a,if_pos a];exact⟨h,rfl⟩
 .rename_i a;rw[if_neg a,if_neg a];exact zdD h
theorem zbu (s:ShM):(zdm s).mets=s.mets/\(zdm s).next=s.next:=by
 unfold zdm;split;.exact⟨rfl,rfl⟩
 .exact zaE _ _
theorem znE {s:ShM}(h:za7 s):za7 (zdm s):=by
 unfold zdm;split;.exact h
 .exact zdd h _
def zbw (s:ShM)(m:MetM):ShM:=if 0<m.last then opS (zcJ s.disk (zcv m)) s else s
def zjp (s:ShM)(m:MetM):ShM:=zdm (zbw s m)
def zrq (s:ShM)(p:Txt):AV:=if hasK kM s.mets p then .tup [.agg (shC (zma (zjp s (zal s p)) (zal s p))),.int .i64 (zgg (zjp s (zal s p)))]else .tup [.agg (shC s),.int .i64 15]
theorem zfG {s:ShM}{m:MetM}(h:(zbw s m).down=false):s.down=false/\(zbw s m).disk=za6 s.disk m:=by
 unfold zbw at h⊢;unfold za6;split at h;.rename_i a;rw[if_pos a,if_pos a];exact zdD h
 .rename_i a;rw[if_neg a,if_neg a];exact⟨h,rfl⟩
theorem zfn (s:ShM)(m:MetM):(zbw s m).mets=s.mets/\(zbw s m).next=s.next:=by
 unfold zbw;split;.exact zaE _ _
 .exact⟨rfl,rfl⟩
theorem zhS {s:ShM}(h:za7 s)(m:MetM):za7 (zbw s m):=by
 unfold zbw;split;.exact zdd h _
 .exact h
theorem z8l {s:ShM}{a k:Nat}(h:InvS s a k)(hd:s.down=false)(hL:za7 s)(ha:a<=69)(hk:k<=100000){p:Txt}(hp:p∈P4):PT 27 [.agg (shC s),.str p] (λr=>r=zrq s p):=by
 refine pwP zwd ?_;have o:=h.met hp;have B:=h.len;have d:=h.size.fits (by omega) (by omega);have i:=zr7 (G:=G) h hd (p:=p);simp only[shC]at i;simp[zoY,shC];refine zc1 i ?_;rintro r ⟨I,J,K,L,M,O,P,Q,R,S,E,e,rfl,F⟩;rcases F with ⟨q,rfl⟩|⟨q,rfl,c⟩
 .have t:zrq s p=.tup [.agg (shC s),.int .i64 15]:=by unfold zrq;rw[if_neg q]
  rw[t];simp[splice,shC]
 .obtain⟨m,A⟩:∃m,m=zal s p:=⟨_,rfl⟩;have t:zrq s p=.tup [.agg (shC (zma (zjp s m) m)),.int .i64 (zgg (zjp s m))]:=by unfold zrq;rw[if_pos q,A]
  rw[t];rw[<-A]at o c;have j:=o.id5;have C:=o.seq;simp only[metC,yc5,AV.int.injEq,AV.str.injEq,AV.lst.injEq,true_and,and_true]at c;obtain⟨rfl,rfl,rfl,rfl,rfl,rfl,rfl,rfl,rfl,rfl,rfl⟩:=c;have l:=zcM m h.size;obtain⟨y,b⟩:∃y,y=zbw s m:=⟨_,rfl⟩;have u:za7 y:=by rw[b];exact zhS hL m
  have H:zjp s m=zdm y:=by rw[b];rfl
  rw[H];have D:=λ(σ:zaa) (h3:σ[3]? =some (.var 127 (wkC y)))=>znb (G:=G) (k:=3) y u h3 (λg=>by rw[b]at g⊢;rw[(zfG g).2];exact⟨l.right,l.fits (by omega) (by omega)⟩);have v:=λ(σ:zaa) (h3:σ[3]? =some (.var 127 (wkC (zdm y))))=>zmH (G:=G) (k:=3) (zdm y) s m h3 (by rw[(zbu _).1,b,(zfn _ _).1];exact h.srt) (by rw[(zbu _).1,b,(zfn _ _).1];omega) (by rw[(zbu _).2,b,(zfn _ _).2];have:=h.next;omega) (by omega);simp only[shC,metC]at v;by_cases n:0<m.last;.have w:(0:Int)<m.last:=(by omega);have x:PT 47 [.int .i64 m.id,.int .i64 m.last,.str [46,112]] (λr=>r=.str (zcv m)):=zk0 m.id m.last kindP (by omega) (by omega) (by decide);have okL:okS (zcv m):=zcz m.id j m.last (by omega) kindP (by simp);have z:hasK kN s.disk.names (zcv m):=o.last n;have f:y=opS (zcJ s.disk (zcv m)) s:=(by rw[b];unfold zbw;rw[if_pos n]);simp[splice,n];refine zad x ?_;simp;refine zai (zpU (k:=3) s hL (by simp[wkC,hd]) λ_=>⟨h.size.right,d,okL,z⟩) ?_;rintro r σ' ⟨rfl,rfl⟩;rw[<-f];simp;refine zai (D _ (by simp)) ?_;rintro r σ' ⟨rfl,rfl⟩;simp;refine zai (v _ (by simp)) ?_;rintro r σ' ⟨rfl,rfl⟩;simp[shC,splice]
  .have w:¬(0:Int)<m.last:=(by omega);have f:y=s:=(by rw[b];unfold zbw;rw[if_neg n]);simp[splice,n];refine zai (D _ (by simp[f,wkC,hd])) ?_;rintro r σ' ⟨rfl,rfl⟩;simp;refine zai (v _ (by simp)) ?_;rintro r σ' ⟨rfl,rfl⟩;simp[shC,splice]
def zaG (m:MetM):Txt:=zfW m.path (zeJ m.lad)
def zdr (y:ShM)(l:List Txt):ShM:=l.foldl (λy n=>opS (zcF y.disk n) y) y
theorem zgA (y:ShM)(l:List Txt)(n:Txt):zdr y (l++ [n])=opS (zcF (zdr y l).disk n) (zdr y l):=by simp[zdr]
theorem zfp {α:Type}{P:List α->Prop}(h0:P [])(h:∀l x,P l->P (l++ [x]))(l:List α):P l:=by
 rw[<-List.reverse_reverse l]
 induction l.reverse with
 |nil=>exact h0
 |cons x l a=>rw[List.reverse_cons];exact h _ x a
theorem zhD (y:ShM)(l:List Txt):(zdr y l).mets=y.mets/\(zdr y l).next=y.next:=by refine zfp (P:=λl=>(zdr y l).mets=y.mets/\(zdr y l).next=y.next) ⟨rfl,rfl⟩ (λl x a=> ?_) l;rw[zgA,(zaE _ _).1,(zaE _ _).2];exact a
theorem zmM {y:ShM}(h:za7 y)(l:List Txt):za7 (zdr y l):=by refine zfp (P:=λl=>za7 (zdr y l)) h (λl x a=> ?_) l;rw[zgA];exact zdd a _
theorem zkt {y:ShM}(l:List Txt):(zdr y l).down=false->y.down=false/\(zdr y l).disk=zax y.disk l:=by refine zfp (P:=λl=>(zdr y l).down=false->y.down=false/\(zdr y l).disk=zax y.disk l) (λh=>⟨h,rfl⟩) (λl x e h=> ?_) l;rw[zgA]at h⊢;obtain⟨a,b⟩:=zdD h;obtain⟨c,d⟩:=e a;exact⟨c,by rw[b,d,zhf]⟩
def zfa (s:ShM)(m:MetM)(b:Txt):ShM:=let y0:=zbw s m
 let y1:=opS (zar y0.disk (zaA m)) y0;let y2:=opS (za3 y1.disk (zaA m) b) y1;let y3:=opS (zcJ y2.disk (zaA m)) y2;let y4:=opS (zbR y3.disk (zaA m) (zaM m)) y3
 zdm y4
def zgP (s:ShM)(m:MetM)(b:Txt):ShM:=let y5:=zfa s m b
 zdm (if y5.down then y5 else zdr y5 (zc3 y5.disk m.id (zaM m)))
def zmd (s:ShM)(p:Txt):AV:=if hasK kM s.mets p then(if(zaG (zal s p)).length<=s.disk.quota-zaW s.disk then .tup [.agg (shC (zma (zgP s (zal s p) (zaG (zal s p))) (zyR (zal s p)))),.int .i64 (zgg (zgP s (zal s p) (zaG (zal s p))))]else .tup [.agg (shC s),.int .i64 6])else .tup [.agg (shC s),.int .i64 15]
theorem z4o {l:LadM}(h:RightL l):∀x∈zeJ l,OkSl x:=λx e=>by
 simp only[zeJ,yai,yar]at e;rcases e with ⟨s,d,rfl⟩|⟨s,d,rfl⟩
 .obtain⟨k,a,f,b,c⟩:=znt h.r1 d;exact⟨by simp,by simp[a];omega,b,c⟩
 .obtain⟨k,a,f,b,c⟩:=znt h.r2 d;exact⟨by simp,by simp[a];omega,b,c⟩
theorem zqo {l:LadM}(h:RightL l):(zeJ l).length<=11:=by have a:=zqd l.fine;have b:=zqd l.wide;rw[h.n1]at a;rw[h.n2]at b;simp[zeJ];omega
theorem zzU (hT:zhx G){s:ShM}{a k:Nat}(h:InvS s a k)(hd:s.down=false)(hL:za7 s)(ha:a<69)(hk:k<=100000){p:Txt}(hp:p∈P4):PT 19 [.agg (shC s),.str p] (λr=>r=zmd s p):=by
 refine pwP zqE ?_;have C:=h.met hp;have a5:=h.len;have D:=h.size.fits (by omega) (by omega);have ae:=zr7 (G:=G) h hd (p:=p);simp only[shC]at ae;simp[zjl,shC];refine zc1 ae ?_;rintro r ⟨x0,x1,x2,x3,x4,x5,x6,x7,x8,x9,bc,e,rfl,hx⟩;rcases hx with ⟨hh,rfl⟩|⟨hh,rfl,Q⟩
 .have hR:zmd s p=.tup [.agg (shC s),.int .i64 15]:=by unfold zmd;rw[if_neg hh]
  rw[hR];simp[splice,shC]
 .obtain⟨m,hm⟩:∃m,m=zal s p:=⟨_,rfl⟩;have hR:zmd s p=if(zaG m).length<=s.disk.quota-zaW s.disk then .tup [.agg (shC (zma (zgP s m (zaG m)) (zyR m))),.int .i64 (zgg (zgP s m (zaG m)))]else .tup [.agg (shC s),.int .i64 6]:=by unfold zmd;rw[if_pos hh,hm]
  rw[hR];rw[<-hm]at C Q;have af:=C.id5;have a6:=C.seq;have R:=C.path;have ag:m.path≠ []/\m.path.length<=100:=by
   rw[R];have:∀q∈P4,q≠ []/\q.length<=100:=by decide
   exact this p hp
  have ah:=z0D (G:=G) m;have ai:=z7n (G:=G) m.lad C.lad;have aj:=z4Z (G:=G) hT m.path ag.1 ag.2 (zeJ m.lad) (z4o C.lad) (by have:=zqo C.lad;omega);have aq:=zae (zaG m);have a7:(zaG m).length<=1000:=by have:=zqo C.lad;unfold zaG;rw[z2C];omega
  have ak:=zzP (G:=G) s.disk h.size.right D (zaG m).length (by omega) true (by have:=h.size.files;omega);simp only[metC]at ah;simp only[ladC]at ai;simp only[zag]at ak;rw[show zfW m.path (zeJ m.lad)=zaG m from rfl]at aj;simp only[metC,yc5,AV.int.injEq,AV.str.injEq,AV.lst.injEq,true_and,and_true]at Q;obtain⟨rfl,rfl,rfl,rfl,rfl,rfl,rfl,rfl,rfl,rfl,rfl⟩:=Q;simp[splice];refine zaX ah (by simp[AV.pure]) ?_;simp;refine zaX ai (by simp[AV.pure]) ?_;simp;refine zaX aj (by simp[AV.pure,zbS,rungsC]) ?_;simp[aq];refine zad ak ?_;by_cases Y:(zaG m).length<=s.disk.quota-zaW s.disk
  .rw[if_pos Y];have b:=z4d h ha C Y;have hC:=comp h ha C b;have a8:za0 m<70:=by unfold za0;omega
   have ar:PT 47 [.int .i64 m.id,.int .i64 (za0 m:Nat),.str [46,116]] (λr=>r=.str (zaA m)):=zk0 m.id (za0 m) zdv (by omega) (by omega) (by decide);have au:PT 47 [.int .i64 m.id,.int .i64 (za0 m:Nat),.str [46,99]] (λr=>r=.str (zaM m)):=zk0 m.id (za0 m) kindC (by omega) (by omega) (by decide);have L:IntKind.i64.wrap ((if m.base<m.last then(m.last:Int)else(m.base:Int))+1)=((za0 m:Nat):Int):=(by unfold za0;rw[wrap_i64 (by split<;>omega) (by split<;>omega)];split<;>omega);have a9:IntKind.i64.wrap ((if m.base<m.last then(m.last:Int)else(m.base:Int))+1)=((za0 m:Nat):Int):=(by unfold za0;rw[wrap_i64 (by split<;>omega) (by split<;>omega)];split<;>omega);obtain⟨V0,Z⟩:∃V0:Entry,V0=.var 33 (shC s):=⟨_,rfl⟩;obtain⟨V1,aa⟩:∃V1:Entry,V1=.var 33 [.int .i64 0,.nils,.nils,.nils,.nils,.int .i64 0,.nils,.int .i64 0,.int .i64 0,.bool false]:=⟨_,rfl⟩;have c:∀{d:DiskM} {k':Nat},SizeM d (a+1) k'->k'<=200000->Fits d:=λhd bd=>hd.fits (by omega) (by omega);obtain⟨J,l⟩:∃y,y=zbw s m:=⟨_,rfl⟩;have l0:za7 J:=(by rw[l];exact zhS hL m);have r0:J.down=false->J.disk=za6 s.disk m:=λh=>by rw[l]at h⊢;exact(zfG h).2
   obtain⟨U,o⟩:∃y,y=opS (zar J.disk (zaA m)) J:=⟨_,rfl⟩;have l1:za7 U:=(by rw[o];exact zdd l0 _);have r1:U.down=false->U.disk=zar (za6 s.disk m) (zaA m):=λh=>by rw[o]at h⊢;obtain⟨t,u⟩:=zdD h;rw[u,r0 t]
   obtain⟨W,v⟩:∃y,y=opS (za3 U.disk (zaA m) (zaG m)) U:=⟨_,rfl⟩;have l2:za7 W:=(by rw[v];exact zdd l1 _);have r2:W.down=false->W.disk=za3 (zar (za6 s.disk m) (zaA m)) (zaA m) (zaG m):=λh=>by rw[v]at h⊢;obtain⟨t,u⟩:=zdD h;rw[u,r1 t]
   obtain⟨X,w⟩:∃y,y=opS (zcJ W.disk (zaA m)) W:=⟨_,rfl⟩;have l3:za7 X:=(by rw[w];exact zdd l2 _);have r3:X.down=false->X.disk=zcJ (za3 (zar (za6 s.disk m) (zaA m)) (zaA m) (zaG m)) (zaA m):=λh=>by rw[w]at h⊢;obtain⟨t,u⟩:=zdD h;rw[u,r2 t]
   obtain⟨y4,z⟩:∃y,y=opS (zbR X.disk (zaA m) (zaM m)) X:=⟨_,rfl⟩;have l4:za7 y4:=(by rw[z];exact zdd l3 _);have r4:y4.down=false->y4.disk=zbR (zcJ (za3 (zar (za6 s.disk m) (zaA m)) (zaA m) (zaG m)) (zaA m)) (zaA m) (zaM m):=λh=>by rw[z]at h⊢;obtain⟨t,u⟩:=zdD h;rw[u,r3 t]
   obtain⟨j,A⟩:∃y,y=zdm y4:=⟨_,rfl⟩;have l5:za7 j:=(by rw[A];exact znE l4);have r5:j.down=false->j.disk=zcQ s.disk m (zaG m):=λh=>by rw[A]at h⊢;obtain⟨t,u⟩:=zn1 h;rw[u,r4 t,if_neg (by simp[zbR])];rfl
   have al:zfa s m (zaG m)=j:=(by unfold zfa;simp only[<-l,<-o,<-v,<-w,<-z,<-A]);have m5:j.mets=s.mets/\j.next=s.next:=(by rw[A,(zbu _).1,(zbu _).2,z,(zaE _ _).1,(zaE _ _).2,w,(zaE _ _).1,(zaE _ _).2,v,(zaE _ _).1,(zaE _ _).2,o,(zaE _ _).1,(zaE _ _).2,l];exact zfn s m);by_cases hl:0<m.last
   focus
    have av:(0:Int)<m.last:=(by omega);have aw:PT 47 [.int .i64 m.id,.int .i64 m.last,.str [46,112]] (λr=>r=.str (zcv m)):=zk0 m.id m.last kindP (by omega) (by omega) (by decide);have okL:okS (zcv m):=zcz m.id af m.last (by omega) kindP (by simp);have ax:hasK kN s.disk.names (zcv m):=C.last hl;have E:J=opS (zcJ s.disk (zcv m)) s:=(by rw[l];unfold zbw;rw[if_pos hl]);simp[Y,hl];refine zad aw ?_;simp;refine zai (zpU (k:=3) s hL (by simp[wkC,hd]) λ_=>⟨h.size.right,D,okL,ax⟩) ?_;rintro r σ' ⟨rfl,rfl⟩;rw[<-E]
   rotate_left
   focus
    have av:¬(0:Int)<m.last:=(by omega);have E:J=s:=(by rw[l];unfold zbw;rw[if_neg hl]);have ay:(Entry.var 127 [.int .i64 s.disk.quota,.lst (zau s.disk.files),.lst (zam s.disk.names),.lst (zam s.disk.kept),.lst (zaI s.disk.moves),.int .i64 s.disk.next,.lst (zcw s.mets),.int .i64 s.next,.int .i64 s.left,.bool s.down,.int .i64 0])=.var 127 (wkC J):=(by rw[E];simp[wkC,hd]);simp[Y,hl];rw[ay]
   all_goals
    simp[L];refine zaX ar (by simp) ?_;simp[L];refine zaX au (by simp) ?_;simp;refine zai (zoK (k:=3) J l0 (by simp) λh0=>by rw[r0 h0];exact⟨b.s1.right,b.s1.fits (by omega) (by omega),b.o1,b.n1,by have:=b.s1.files;omega,by have:=b.s1.next;omega⟩) ?_;rintro r σ' ⟨rfl,rfl⟩;rw[<-o];simp;refine zai (ztS (k:=3) U l1 (by simp) (by omega) λt=>by rw[r1 t];exact⟨b.s2.right,c b.s2 (by omega),b.o1,b.h2,b.u2⟩) ?_;rintro r σ' ⟨rfl,rfl⟩;rw[<-v];simp;refine zai (zpU (k:=3) W l2 (by simp) λu=>by rw[r2 u];exact⟨b.s3.right,c b.s3 (by omega),b.o1,b.h2⟩) ?_;rintro r σ' ⟨rfl,rfl⟩;rw[<-w];simp;refine zai (z1C (k:=3) X l3 (by simp) λh3=>by rw[r3 h3];exact⟨b.s4.right,c b.s4 (by omega),b.o1,b.h2,b.o2,b.ne⟩) ?_;rintro r σ' ⟨rfl,rfl⟩;rw[<-z];simp;refine zai (znb (k:=3) y4 l4 (by simp) λh4=>by rw[r4 h4];exact⟨b.s5.right,c b.s5 (by omega)⟩) ?_;rintro r σ' ⟨rfl,rfl⟩;rw[<-A];have kD:=λ(σ:zaa) (y:ShM) (hym:y.mets=s.mets/\y.next=s.next) (h3:σ[3]? =some (.var 127 (wkC y)))=>zmH (G:=G) (k:=3) y s (zyR m) h3 (by rw[hym.1];exact h.srt) (by rw[hym.1];omega) (by rw[hym.2];have:=h.next;omega) (by show m.id<=_;omega);have az:metC (zyR m)= [.int .i64 m.id,.str m.path,.lst rungsC,.int .i64 1,.int .i64 500000,.int .i64 1,.int .i64 500000,.lst (zak m.lad),.int .i64 (za0 m:Nat),.int .i64 0,.int .i64 0]:=rfl;rw[az]at kD;simp only[shC]at kD;by_cases h5:j.down=true;.have S:zgP s m (zaG m)=zdm j:=(by unfold zgP;simp only[al,h5,if_true]);rw[S];simp[wkC,h5];refine zai (znb (k:=3) j l5 (by simp[wkC,h5]) λhr=>absurd hr (by simp[h5])) ?_;rintro r σ' ⟨rfl,rfl⟩;simp[L,shC,splice];refine zai (kD _ (zdm j) (by rw[(zbu _).1,(zbu _).2];exact m5) (by simp)) ?_;rintro r σ' ⟨rfl,rfl⟩;simp[splice]
    have F:j.down=false:=(by simpa using h5);have S:zgP s m (zaG m)=zdm (zdr j (zc3 j.disk m.id (zaM m))):=(by unfold zgP;simp only[al,F,ycr,if_false]);rw[S,r5 F];have T:=z7Y (G:=G) (zcQ s.disk m (zaG m)) b.s6.right (c b.s6 (by omega)) m.id (by omega) (zaM m);simp only[zag]at T;obtain⟨g,P⟩:∃g,g=zc3 (zcQ s.disk m (zaG m)) m.id (zaM m):=⟨_,rfl⟩;obtain⟨D6,ab⟩:∃D6,D6=zcQ s.disk m (zaG m):=⟨_,rfl⟩;have c1:=hC.fok;have c2:=hC.fnd;have c3:=hC.flen;have c4:=hC.s7;have c5:=b.s6;have H:=r5 F;rw[<-P,<-ab]at c1 c4 T;rw[<-P]at c2 c3;rw[<-ab]at c5 H;rw[<-P];have am:=zdz g;simp[wkC,F,H];refine zaX T (by simp[AV.pure]) ?_;simp[am];refine zac (λx f σ=>∃i:Nat,x=g.length-i/\i<=g.length/\f 4=.ptr 1 0/\f 2=.ptr 0 0/\f 6=.ptr 2 0/\f 10=.ptr 3 0/\f 11=.int .i64 (za0 m:Nat)/\f 104=.lst (zaV g)/\f 105=.int .i64 g.length/\f 106=.int .i64 i/\σ= [V0,V1,.var 57 (metC m),.var 127 (wkC (zdr j (g.take i)))]) g.length ?_ ?_;.exact⟨0,by simp,by simp,by simp,by simp,by simp,by simp,by simp[L],by simp,by simp,by simp,by simp[Z,aa,shC,metC,wkC,zdr,F,H]⟩
    rintro x f σ ⟨i,rfl,hi,f4,f2,f6,K,ad,M,O,B,rfl⟩;simp[O,B];refine zap (λbe=> ?_) (λbf=> ?_);.have an:i<g.length:=(by omega);have a0:=wS i (by omega);obtain⟨n,hn⟩:=gE an;have hc:(zaV g)[i]? =some [.str n]:=(by simp[zaV,hn]);obtain⟨ba,bb⟩:=yaa.1 hc;have a1:=tS hn;have I:=c2;rw[<-ya2 i g,yb7]at I;obtain⟨R1,R2⟩:=zce c5 I.1 λy hy=>c1 y (yao hy);have a2:n∉g.take i:=λhm=>I.2.2 n hm n (by rw[List.mem_iff_getElem?];exact⟨0,by rw[yby];simpa using hn⟩) rfl;have ao:=c1 n (yad hn);have a3:=(R2 n).2 ⟨a2,ao.2⟩;have bg:(g.take i).length<=g.length:=(by simp;omega);simp[K,M,B,hc];refine zai (ztD (k:=3) (zdr j (g.take i)) (zmM l5 _) (by simp) λhr=>by rw[(zkt _ hr).2,H];exact⟨R1.right,c R1 (by omega),ao.1,a3⟩) ?_;rintro r σ' ⟨rfl,rfl⟩;simp[B,a0];refine nx_i ⟨i+1,rfl,by omega,by simp[f4],by simp[f2],by simp[f6],by simp[K],by simp[ad],by simp[M],by simp[O],by simp, ?_⟩;rw[a1,zgA]
    .have a4:i=g.length:=(by omega);subst a4;rw[yav];simp[K];refine zai (znb (k:=3) (zdr j g) (zmM l5 _) (by simp) λhr=>by rw[(zkt _ hr).2,H];exact⟨c4.right,c c4 (by omega)⟩) ?_;rintro r σ' ⟨rfl,rfl⟩;simp[f2,f6,K,ad,Z,shC,metC,splice];refine zai (kD _ (zdm (zdr j g)) (by rw[(zbu _).1,(zbu _).2,(zhD _ _).1,(zhD _ _).2];exact m5) (by simp)) ?_;rintro r σ' ⟨rfl,rfl⟩;simp[f4,aa,splice]
  .rw[if_neg Y];simp[Y,shC,splice]
end Go.Proofs.YtdbhocoeolhjhaaGreatDoor
