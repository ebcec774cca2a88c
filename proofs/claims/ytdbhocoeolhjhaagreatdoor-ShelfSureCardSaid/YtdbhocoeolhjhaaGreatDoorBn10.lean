/- Shelf, plain: what the files of a metric hold, told whole. Shelf, plain: the segments of a shelf's disk, by rising numbers. Shelf: the sort of segment -/
import Derived.Test.YtdbhocoeolhjhaaGreatDoorShelf
import Derived.Shelf.SlSortCmp.InsertionK
import Derived.Shelf.SlSortCmp.QuietGrown
import Derived.StillTailTactics
import Derived.Handy
import Derived.Test.YtdbhocoeolhjhaaGreatDoorAbs2
import Derived.Lib.Split
import Derived.Shelf.Strconv.ParseIntPublic10
import Derived.Test.YtdbhocoeolhjhaaGreatDoorProg
import Derived.Lib.AtoiErrMem
import Derived.Test.YtdbhocoeolhjhaaGreatDoorBn1
import Derived.Test.YtdbhocoeolhjhaaGreatDoorBn2
import Derived.Test.YtdbhocoeolhjhaaGreatDoorBn3
import Derived.Test.YtdbhocoeolhjhaaGreatDoorBn4
import Derived.Test.YtdbhocoeolhjhaaGreatDoorBn5
import Derived.Test.YtdbhocoeolhjhaaGreatDoorBn6
import Derived.Test.YtdbhocoeolhjhaaGreatDoorBn7
import Derived.Test.YtdbhocoeolhjhaaGreatDoorBn8
import Derived.Test.YtdbhocoeolhjhaaGreatDoorBn9
set_option linter.unusedSimpArgs false
set_option linter.unusedVariables false
set_option linter.constructorNameAsVariable false
section
set_option maxHeartbeats 1000000
namespace Go.Proofs.YtdbhocoeolhjhaaGreatDoor
open Go.Sf Go.Num
structure Hist (d:DiskM)(m:MetM)(l0:LadM)(gs:List (List ArrM)):Prop where
 r0:RightL l0
 b0:m.base=0->l0=newL
 lad:m.lad=zba l0 gs.flatten
 ok:∀g∈gs,∀x∈g,OkA x/\OkV x
 last:m.last=if gs= []then 0 else m.base+gs.length
 hC:0<m.base->hasK kN d.names (zaD m.id m.base kindC)
 hP:∀i,i<gs.length->hasK kN d.names (zaD m.id (m.base+1+i) kindP)
 cC:∀f,0<m.base->At d (zaD m.id m.base kindC) f->f.bytes=zmo m.path (zgD l0)/\f.sure=f.bytes.length
 cP:∀i g f,gs[i]? =some g->At d (zaD m.id (m.base+1+i) kindP) f->f.bytes=zf5 m.path (g.map ptR)/\(i+1<gs.length->f.sure=f.bytes.length)
 only:∀q kd,q<70->kd∈zjj->hasK kN d.names (zaD m.id q kd)->(kd=kindC/\q=m.base/\0<m.base)∨(kd=kindP/\∃i,i<gs.length/\q=m.base+1+i)
theorem Hist.top {d:DiskM}{m:MetM}{l0:LadM}{gs:List (List ArrM)}(h:Hist d m l0 gs):max m.base m.last=m.base+gs.length:=by
 have:=h.last
 split at this
 ·rename_i e;subst e;simp;omega
 ·omega
def ziO (s:ShM):Prop:=∀x∈s.mets,∃l0 gs,Hist s.disk x l0 gs/\(gs≠ []∨0<x.base)
theorem z0l {d D:DiskM}{m:MetM}{l0:LadM}{gs:List (List ArrM)}(h:Hist d m l0 gs)(hm:max m.base m.last<70)(hn:∀q kd,q<70->kd∈zjj->(hasK kN D.names (zaD m.id q kd)↔hasK kN d.names (zaD m.id q kd)))
  (ha:∀q kd f,q<70->kd∈zjj->At D (zaD m.id q kd) f->At d (zaD m.id q kd) f):Hist D m l0 gs:=by
 have n:=h.top
 refine⟨h.r0,h.b0,h.lad,h.ok,h.last,λa=>(hn _ _ (by omega) (by simp)).2 (h.hC a),λi k=>(hn _ _ (by omega) (by simp)).2 (h.hP i k),λf a b=>h.cC f a (ha _ _ f (by omega) (by simp) b),λi g f c b=> ?_,λq kd e j l=>h.only q kd e j ((hn q kd e j).1 l)⟩
 have:=(yaa.1 c).1
 exact h.cP i g f c (ha _ _ f (by omega) (by simp) b)
variable {s:ShM}{a k:Nat}{p:Txt}
theorem zAa (h:InvS s a k)(ha:a≤69)(hp:p∈P4)(hH:ziO s):∃l0 gs,Hist s.disk (za7 s p) l0 gs:=by
 by_cases u:hasK kM s.mets p
 ·obtain⟨y,z⟩:=zcT h.srt u
  obtain⟨l0,gs,d,_⟩:=hH _ (yae y)
  exact⟨l0,gs,d⟩
 ·have t:=h.met hp
  have c:∀q b,q<70->b∈zjj->¬hasK kN s.disk.names (zaD (za7 s p).id q b):=λq b m n o=>by
   rcases t.dir _ o with ⟨r,A,v,d,e,w⟩|⟨x,j,l,r,A,v,d,e,w⟩
   ·rw[zf7 u]at e
    simp[zix]at e
    omega
   ·have D:=h.seq x j
    have:=zbo t.id5 (h.id5 j) m (by omega) n (kd3 w) v
    exact t.others x j l this.1.symm
  rw[zf7 u]at c⊢
  exact⟨newL,[],zeG,λ_=>rfl,rfl,by simp,rfl,λh=>absurd h (by simp[zix]),λi B=>absurd B (by simp),λf h=>absurd h (by simp[zix]),λi g f C=>absurd C (by simp),λq b m n o=>absurd o (c q b m n)⟩
theorem zpb (h:InvS s a k)(ha:a≤69)(hp:p∈P4)(hH:ziO s){D:DiskM}{m':MetM}(hp':m'.path=p)
  (hn:∀x∈s.mets,x.path≠p->∀q kd,q<70->kd∈zjj->(hasK kN D.names (zaD x.id q kd)↔hasK kN s.disk.names (zaD x.id q kd))/\∀f,At D (zaD x.id q kd) f->At s.disk (zaD x.id q kd) f)
  (hnew:∃l0 gs,Hist D m' l0 gs/\(gs≠ []∨0<m'.base)):ziO (zbB {s with disk:=D} m'):=by
 intro x g
 rw[zf8]
 rcases(zeP (s:={s with disk:=D}) h.srt).1 g with rfl|⟨hx',hne⟩
 ·exact hnew
 ·rw[hp']at hne
  obtain⟨l0,gs,d,e⟩:=hH x hx'
  have:=h.seq x hx'
  exact⟨l0,gs,z0l d (by omega) (λq kd b c=>(hn x hx' hne q kd b c).1) (λq kd f b c=>(hn x hx' hne q kd b c).2 f),e⟩
theorem zo3 {d:DiskM}{m:MetM}{t:Txt}{f:FileM}(h:RightM d)(hl:0<m.last->hasK kN d.names (zbW m))(hA:At (zaK d m) t f):∃x,At d t x/\f=if 0<m.last/\t=zbW m then{x with sure:=x.bytes.length}else x:=by
 unfold zaK at hA
 split at hA
 ·rename_i a
  obtain⟨x,b,c⟩:=zwo h (hl a) hA
  exact⟨x,b,by rw[c];simp[a]⟩
 ·rename_i a
  exact⟨f,hA,by simp[a]⟩
theorem zj4 (h:InvS s a k)(ha:a≤69)(hp:p∈P4){x:MetM}(hx:x∈s.mets)(hne:x.path≠p){q r:Nat}{kd l:Txt}(hq:q<70)(hr:r<70)(hk:kd∈zjj)(hl:l∈zjj):zaD x.id q kd≠zaD (za7 s p).id r l:=λe=>by
 have b:=h.met hp
 exact b.others x hx hne (zbo (h.id5 hx) b.id5 hq hr hk hl e).1
theorem zwR:kindP≠kindC:=by decide
theorem zxj (h:InvS s a k)(hp:p∈P4)(ha:a<69)(hH:ziO s){bs:List ArrM}(hb:∀x∈bs,OkA x/\OkV x):ziO (zcC s (za7 s p) bs):=by
 have P:=h.met hp
 have J:=λx G c q r kd l=>zj4 (x:=x) (q:=q) (r:=r) (kd:=kd) (l:=l) h (by omega) hp G c
 obtain⟨l0,B,o⟩:=zAa h (by omega) hp hH
 obtain⟨m,hm⟩:∃m,m=za7 s p:=⟨_,rfl⟩
 have K:=λ(D:DiskM) (m':MetM)=>zpb (D:=D) (m':=m') h (by omega) hp hH
 rw[<-hm]at P J o⊢
 have hq:=P.seq
 have b:=P.id5
 have ag:=o.top
 have v:zaG m<70:=by unfold zaG;omega
 have S:zaG m=m.base+1+B.length:=by unfold zaG;omega
 unfold zcC zqY metA
 by_cases Z:zm9 m=true
 ·simp only[Z,if_true]
  have U:¬hasK kN (zaK s.disk m).names (newN m):=by
   rw[zcZ]
   exact P.fresh h ha (q:=zaG m) (by unfold zaG;omega) v (by simp)
  have hS:=zfF (zfC m h.size) (zcY m.id b (zaG m) v kindP (by simp)) U (by omega)
  have W:zaW m bs=zf5 p (bs.map ptR):=by
   unfold zaW;rw[if_pos Z,ziw,P.path];rfl
  have T:∀t,hasK kN (zaJ (zaz (zaK s.disk m) (newN m)) (newN m) (zaW m bs)).names t↔t=newN m∨hasK kN s.disk.names t:=λt=>by
   have:=zdK (d:=zaK s.disk m) (n:=newN m) (s:=t)
   rw[zcZ]at this
   exact this
  have A:∀t f,At (zaJ (zaz (zaK s.disk m) (newN m)) (newN m) (zaW m bs)) t f->(t=newN m/\f.bytes=zf5 p (bs.map ptR))∨(t≠newN m/\∃y,At s.disk t y/\f=if 0<m.last/\t=zbW m then{y with sure:=y.bytes.length}else y):=λt f u=>by
   obtain⟨g,j,he⟩:=zlz (s:=newN m) hS.right (zdK.2 (.inl rfl)) u
   rcases zoT (n:=newN m) (zfC m h.size).right U j with ⟨rfl,rfl⟩|⟨c,j⟩
   ·rw[if_pos rfl]at he
    exact .inl ⟨rfl,by rw[he,<-W];simp⟩
   ·rw[if_neg c]at he
    obtain⟨y,E,ad⟩:=zo3 h.size.right P.last j
    exact .inr ⟨c,y,E,by rw[he,ad]⟩
  refine K _ _ P.path (λx G c q kd w O=>⟨?_,λf u=> ?_⟩) ⟨l0,B++ [bs],⟨o.r0,o.b0, ?_, ?_, ?_,λI=>(T _).2 (.inr (o.hC I)),λi C=>(T _).2 ?_,λf I u=> ?_,λi g f j u=> ?_,λq kd w O hh=> ?_⟩,.inl (by simp)⟩
  ·rw[T]
   exact⟨λR=>R.resolve_left (J x G c q (zaG m) kd kindP w v O (by simp)),.inr⟩
  ·rcases A _ f u with ⟨e,_⟩|⟨_,y,E,e⟩
   ·exact absurd e (J x G c q (zaG m) kd kindP w v O (by simp))
   ·rw[if_neg (λR=>J x G c q m.last kd kindP w (by omega) O (by simp) R.2)]at e
    rw[e];exact E
  ·show zba m.lad bs=zba l0 (B++ [bs]).flatten
   rw[o.lad];simp[zba]
  ·intro g j
   rcases yag.1 j with j|j
   ·exact o.ok g j
   ·simp at j;subst j;exact hb
  ·show zaG m=if B++ [bs]= []then 0 else m.base+(B++ [bs]).length
   rw[S];simp;omega
  ·by_cases z:i<B.length
   ·exact .inr (o.hP i z)
   ·have:i=B.length:=by simp at C;omega
    subst this
    exact .inl (by rw[<-S];rfl)
  ·replace u:At _ (zaD m.id m.base kindC) f:=u
   have c:zaD m.id m.base kindC≠newN m:=λe=>zwR (zbo b b (by omega) v (by simp) (by simp) e).2.2.symm
   have L:zaD m.id m.base kindC≠zbW m:=λe=>zwR (zbo b b (by omega) (by omega) (by simp) (by simp) e).2.2.symm
   rcases A _ f u with ⟨e,_⟩|⟨_,y,E,e⟩
   ·exact absurd e c
   ·rw[if_neg (λR=>L R.2)]at e
    rw[e];exact o.cC y I E
  ·replace u:At _ (zaD m.id (m.base+1+i) kindP) f:=u
   by_cases z:i<B.length
   ·rw[yam z]at j
    have c:zaD m.id (m.base+1+i) kindP≠newN m:=λe=>by
     have:=(zbo b b (by omega) v (by simp) (by simp) e).2.1
     omega
    rcases A _ f u with ⟨e,_⟩|⟨_,y,E,e⟩
    ·exact absurd e c
    ·obtain⟨F,Y⟩:=o.cP i g y j E
     refine⟨by rw[e];split<;>exact F,λ_=> ?_⟩
     rw[e]
     split
     ·rfl
     ·rename_i hc
      by_cases af:i+1<B.length
      ·exact Y af
      ·refine absurd ⟨?_, ?_⟩ hc
       ·have:=o.last
        rw[if_neg (by intro e;rw[e]at z;simp at z)]at this
        omega
       ·have:=o.last
        rw[if_neg (by intro e;rw[e]at z;simp at z)]at this
        unfold zbW
        rw[this]
        congr 1
        omega
   ·have C:=(yaa.1 j).1
    have:i=B.length:=by simp at C;omega
    subst this
    simp at j
    subst j
    rw[<-S]at u
    rcases A _ f u with ⟨_,e⟩|⟨e,_⟩
    ·exact⟨by rw[e];exact congrArg (zf5 · _) P.path.symm,λR=>by simp at R⟩
    ·exact absurd rfl e
  ·rcases(T _).1 hh with e|hh
   ·have:=zbo b b w v O (by simp) e
    exact .inr ⟨this.2.2,B.length,by simp,by rw[this.2.1,S]⟩
   ·rcases o.only q kd w O hh with F|⟨F,i,Y,h3⟩
    ·exact .inl F
    ·exact .inr ⟨F,i,by simp;omega,h3⟩
 ·simp only[Z,ydc,if_false]
  have aa:m.count<16/\0<m.last:=by
   unfold zm9 at Z
   simp at Z
   omega
  have W:zaW m bs=zbT bs:=by unfold zaW;rw[if_neg Z]
  have X:B≠ []:=λe=>by
   have:=o.last
   rw[if_pos e]at this;omega
  have M:m.last=m.base+B.length:=by have:=o.last;rwa[if_neg X]at this
  obtain⟨H,Q,rfl⟩:∃H Q,B=H++ [Q]:=⟨B.dropLast,B.getLast X,(List.dropLast_concat_getLast X).symm⟩
  have ab:(H++ [Q]).length=H.length+1:=by simp
  have A:∀t f,At (zaJ s.disk (zbW m) (zaW m bs)) t f->∃y,At s.disk t y/\f=if t=zbW m then{y with bytes:=y.bytes++zbT bs}else y:=λt f u=>by
   rw[W]at u
   exact zlz (s:=zbW m) h.size.right (P.last aa.2) u
  refine K _ _ P.path (λx G c q kd w O=>⟨Iff.rfl,λf u=> ?_⟩) ⟨l0,H++ [Q++bs],⟨o.r0,o.b0, ?_, ?_, ?_,o.hC,λi C=>o.hP i (by simpa using C),λf I u=> ?_,λi g f j u=> ?_,λq kd w O hh=> ?_⟩,.inl (by simp)⟩
  ·obtain⟨y,E,e⟩:=A _ f u
   rw[if_neg (show zaD x.id q kd≠zbW m from J x G c q m.last kd kindP w (by omega) O (by simp))]at e
   rw[e];exact E
  ·show zba m.lad bs=zba l0 (H++ [Q++bs]).flatten
   rw[o.lad];simp[zba]
  ·intro g j
   rcases yag.1 j with j|j
   ·exact o.ok g (by simp[j])
   ·simp at j;subst j
    intro x G
    rcases yag.1 G with G|G
    ·exact o.ok Q (by simp) x G
    ·exact hb x G
  ·show m.last=if H++ [Q++bs]= []then 0 else m.base+(H++ [Q++bs]).length
   rw[M];simp
  ·replace u:At _ (zaD m.id m.base kindC) f:=u
   have L:zaD m.id m.base kindC≠zbW m:=λe=>zwR (zbo b b (by omega) (by omega) (by simp) (by simp) e).2.2.symm
   obtain⟨y,E,e⟩:=A _ f u
   rw[if_neg L]at e
   rw[e];exact o.cC y I E
  ·replace u:At _ (zaD m.id (m.base+1+i) kindP) f:=u
   obtain⟨y,E,e⟩:=A _ f u
   have C:=(yaa.1 j).1
   by_cases z:i<H.length
   ·rw[yam z]at j
    have c:zaD m.id (m.base+1+i) kindP≠zbW m:=λe=>by
     have:=(zbo b b (by omega) (by omega) (by simp) (by simp) e).2.1
     omega
    rw[if_neg c]at e
    obtain⟨F,Y⟩:=o.cP i g y (by rw[yam z];exact j) E
    rw[e]
    exact⟨F,λ_=>Y (by omega)⟩
   ·have:i=H.length:=by simp at C;omega
    subst this
    simp at j
    subst j
    have ae:zaD m.id (m.base+1+H.length) kindP=zbW m:=by
     unfold zbW;rw[M,ab];congr 1;omega
    rw[if_pos ae]at e
    obtain⟨F,_⟩:=o.cP H.length Q y (by simp) E
    refine⟨?_,λR=>by simp at R⟩
    rw[e]
    show y.bytes++zbT bs=zf5 m.path _
    rw[F,ziw];simp[zf5,zcJ,ya3]
  ·rcases o.only q kd w O hh with F|⟨F,i,Y,h3⟩
   ·exact .inl F
   ·exact .inr ⟨F,i,by simpa using Y,h3⟩
theorem zu2 (h:InvS s a k)(hp:p∈P4)(ha:a≤69)(hH:ziO s)(hh:hasK kM s.mets p):ziO (zhC s (za7 s p)):=by
 have B:=h.met hp
 have C:=λx F j q r kd l=>zj4 (x:=x) (q:=q) (r:=r) (kd:=kd) (l:=l) h ha hp F j
 obtain⟨K,L,b,d⟩:=hH _ (yae (zcT h.srt hh).1)
 have v:=λ(D:DiskM) (m':MetM)=>zpb (D:=D) (m':=m') h (by omega) hp hH
 obtain⟨m,M⟩:∃m,m=za7 s p:=⟨_,rfl⟩
 rw[<-M]at B C b d⊢
 have Q:=B.seq
 have I:=B.id5
 have J:=b.top
 have c:(zgn (zaK s.disk m)).names=s.disk.names:=by rw[zkC,zcZ]
 have w:=λt f n=>zo3 (t:=t) (f:=f) h.size.right B.last (zxm n)
 refine v _ _ B.path (λx F j q kd o G=>⟨by rw[c],λf n=> ?_⟩) ⟨K,L,⟨b.r0,b.b0,b.lad,b.ok,b.last,λu=>by rw[c];exact b.hC u,λi H=>by rw[c];exact b.hP i H,λf u n=> ?_,λi g f O n=> ?_,λq kd o G hh=>by rw[c]at hh;exact b.only q kd o G hh⟩,d⟩
 ·obtain⟨y,z,e⟩:=w _ f n
  rw[if_neg (λP=>C x F j q m.last kd kindP o (by omega) G (by simp) P.2)]at e
  rw[e];exact z
 ·obtain⟨y,z,e⟩:=w _ f n
  obtain⟨A,E⟩:=b.cC y u z
  rw[e];split
  ·exact⟨A,rfl⟩
  ·exact⟨A,E⟩
 ·obtain⟨y,z,e⟩:=w _ f n
  obtain⟨A,E⟩:=b.cP i g y O z
  rw[e];split
  ·exact⟨A,λ_=>rfl⟩
  ·exact⟨A,E⟩
theorem z5j (h:InvS s a k)(hp:p∈P4)(ha:a<69){b:Txt}(hf:b.length≤s.disk.quota-zbf s.disk){t:Txt}{f:FileM}(hA:At (zos s.disk (za7 s p) b) t f):(t=zcd (za7 s p)/\f.bytes=b/\f.sure=f.bytes.length)∨(t≠zcd (za7 s p)/\∃y,At s.disk t y/\f=if 0<(za7 s p).last/\t=zbW (za7 s p)then{y with sure:=y.bytes.length}else y):=by
 have r:=h.met hp
 have c:=zyl h ha r hf
 have u:=comp h ha r c
 have w:=zr3 (zzb c.s6 u.fnd u.fok (zxm hA))
 rcases z3S c.s4.right c.h2 w with ⟨rfl,q⟩|⟨i,j,q⟩
 ·obtain⟨x,n,l⟩:=zwo c.s3.right c.h2 q
  rw[if_pos rfl]at l
  obtain⟨g,m,d⟩:=zlz c.s2.right c.h2 n
  rw[if_pos rfl]at d
  rcases zoT c.s1.right c.n1 m with ⟨_,rfl⟩|⟨i,_⟩
  ·exact .inl ⟨rfl,by rw[l,d];simp,by rw[l]⟩
  ·exact absurd rfl i
 ·obtain⟨x,n,l⟩:=zwo c.s3.right c.h2 q
  rw[if_neg j]at l
  obtain⟨g,m,d⟩:=zlz c.s2.right c.h2 n
  rw[if_neg j]at d
  rcases zoT c.s1.right c.n1 m with ⟨e,_⟩|⟨_,m⟩
  ·exact absurd e j
  ·obtain⟨y,v,o⟩:=zo3 h.size.right r.last m
   exact .inr ⟨i,y,v,by rw[l,d,o]⟩
theorem z0B (h:InvS s a k)(hp:p∈P4)(ha:a<69)(hH:ziO s)(hf:(zdB (za7 s p)).length≤s.disk.quota-zbf s.disk):ziO (zqR s (za7 s p) (zdB (za7 s p))):=by
 have o:=h.met hp
 have j:=λx d c q r kd l=>zj4 (x:=x) (q:=q) (r:=r) (kd:=kd) (l:=l) h (by omega) hp d c
 have w:=λt f C=>z5j (t:=t) (f:=f) h hp ha hf C
 have L:=comp h ha o (zyl h ha o hf)
 have z:=λ(D:DiskM) (m':MetM)=>zpb (D:=D) (m':=m') h (by omega) hp hH
 obtain⟨m,O⟩:∃m,m=za7 s p:=⟨_,rfl⟩
 rw[<-O]at o j w L⊢
 have W:=o.seq
 have u:=o.id5
 have n:zaG m<70:=by unfold zaG;omega
 have E:0<zaG m:=by unfold zaG;omega
 have F:=o.path
 refine z _ _ o.path (λx d c q kd b v=>⟨?_,λf C=> ?_⟩) ⟨m.lad,[],⟨o.lad,λQ=> ?_,rfl,by simp,rfl,λ_=>(L.nm _).2 (.inl rfl),λi R=>absurd R (by simp),λf _ C=> ?_,λi g f S=>absurd S (by simp),λq kd b v T=> ?_⟩,.inr E⟩
 ·rw[L.nm]
  constructor
  ·rintro(e|⟨K,_⟩)
   ·exact absurd e (j x d c q (zaG m) kd kindC b n v (by simp))
   ·exact K
  ·intro K
   refine .inr ⟨K,x,d,by rw[F];exact c, ?_⟩
   obtain⟨y,A,P,G,e,H,I,J⟩:=h.dir _ K
   have:=h.seq y A
   have M:=zbo (h.id5 d) (h.id5 A) b (by omega) v (kd3 J) e
   have:x=y:=z3r h.idn d A M.1
   subst this
   exact⟨P,G,e,H,I,J⟩
 ·rcases w _ f C with ⟨e,_⟩|⟨_,y,A,e⟩
  ·exact absurd e (j x d c q (zaG m) kd kindC b n v (by simp))
  ·rw[if_neg (λU=>j x d c q m.last kd kindP b (by omega) v (by simp) U.2)]at e
   rw[e];exact A
 ·exact absurd Q (by show¬zaG m=0;omega)
 ·rcases w _ f C with ⟨_,H,I⟩|⟨e,_⟩
  ·exact⟨H,I⟩
  ·exact absurd rfl e
 ·rcases(L.nm _).1 T with e|⟨_,x,d,B,r,G,e,H,I,J⟩
  ·have:=zbo u u b n v (by simp) e
   exact .inl ⟨this.2.2,this.2.1,E⟩
  ·rw[F]at B
   have:=h.seq x d
   exact absurd (show zaD x.id r G=zaD m.id q kd from e.symm) (j x d B r q G kd (by omega) b (kd3 J) v)
theorem zsg {s s':ShM}{a k n:Nat}(h:InvS s a k)(ha:a<69)(hH:ziO s)(hS:StepS s n s'):ziO s':=by
 cases hS with
 |same=>exact hH
 |app j b f d g c=>exact zxj h (zbi j) ha hH d
 |sync j b e=>exact zu2 h (zbi j) (by omega) hH e
 |comp j b c=>exact z0B h (zbi j) ha hH c
theorem z1F (q:Nat):ziO (newS q):=λx a=>by simp[newS]at a
def zBh (d:DiskM)(m:MetM):Prop:=∀q kd f,q<70->kd∈zjj->At d (zaD m.id q kd) f->f.sure=f.bytes.length
structure SuredM (s:ShM)(n:Nat):Prop where
 files:∀j<n,hasK kM s.mets (zar j)->zBh s.disk (za7 s (zar j))
 moves:s.disk.moves= []∨∀j<n,¬hasK kM s.mets (zar j)
theorem z0i {s:ShM}{a k n:Nat}(h:InvS s a k)(ha:a≤69)(hn:n<4)(hH:ziO s)(hU:SuredM s n)(hh:hasK kM s.mets (zar n)):SuredM (zhC s (za7 s (zar n))) (n+1):=by
 have J:=zbi n
 have K:=h.met J
 obtain⟨B,g⟩:=zcT h.srt hh
 have u:=yae B
 obtain⟨Z,gs,m,_⟩:=hH _ u
 have L:=λx S c q r kd l=>zj4 (x:=x) (q:=q) (r:=r) (kd:=kd) (l:=l) h ha J S c
 have M:=λt f F=>zo3 (t:=t) (f:=f) h.size.right K.last (zxm F)
 have X:=zs5 h J
 have v:(zhC s (za7 s (zar n))).disk=zgn (zaK s.disk (za7 s (zar n))):=by unfold zhC;rw[zf8]
 have w:∀j,hasK kM (zhC s (za7 s (zar n))).mets (zar j)↔hasK kM s.mets (zar j):=λj=>by
  unfold zhC
  rw[zo9 (s:={s with disk:=zgn (zaK s.disk (za7 s (zar n)))}) h.srt,g]
  exact⟨λG=>G.elim (λe=>by rw[e];exact hh) id,.inr⟩
 have O:∀j,hasK kM s.mets (zar j)->za7 (zhC s (za7 s (zar n))) (zar j)=za7 s (zar j):=λj P=>by
  obtain⟨C,A⟩:=zcT h.srt P
  refine zlU X.srt ?_ A
  unfold zhC
  rw[zeP (s:={s with disk:=zgn (zaK s.disk (za7 s (zar n)))}) h.srt]
  by_cases e:zar j=zar n
  ·exact .inl (by rw[e])
  ·exact .inr ⟨yae C,by rw[A,g];exact e⟩
 refine⟨λj P b=> ?_,.inl ?_⟩
 ·rw[w]at b
  rw[O j b,v]
  intro q kd f H I F
  obtain⟨y,o,e⟩:=M _ f F
  obtain⟨C,A⟩:=zcT h.srt b
  by_cases d:zar j=zar n
  ·rw[d]at o e
   rw[e]
   split
   ·rfl
   ·rename_i U
    have Q:=m.top
    have Y:=K.seq
    rcases m.only q kd H I o.1 with ⟨D,p,E⟩|⟨D,i,p,E⟩
    ·subst D;subst p;exact(m.cC y E o).2
    ·subst D;subst E
     refine(m.cP i _ y (yac p) o).2 ?_
     refine Nat.lt_of_not_le λT=>U ?_
     have R:=m.last
     rw[if_neg (by intro e;rw[e]at p;simp at p)]at R
     refine⟨by omega, ?_⟩
     unfold zbW
     rw[R]
     congr 1
     omega
  ·have c:(za7 s (zar j)).path≠zar n:=by rw[A];exact d
   have Y:=K.seq
   rw[if_neg (λG=>L _ (yae C) c q (za7 s (zar n)).last kd kindP H (by omega) I (by simp) G.2)]at e
   rw[e]
   have z:j<n:=by
    have:j≠n:=λe=>d (by rw[e])
    omega
   exact hU.files j z b q kd y H I o
 ·rw[v]
  unfold zgn
  split
  ·rename_i W;exact W
  ·rfl
theorem z0p {s:ShM}{n:Nat}(hU:SuredM s n)(hh:¬hasK kM s.mets (zar n)):SuredM s (n+1):=by
 refine⟨λj c a=> ?_,hU.moves.imp id λh j c=> ?_⟩
 ·rcases yd2 j n with h|h
  ·exact hU.files j h a
  ·have:j=n:=by omega
   subst this;exact absurd a hh
 ·rcases yd2 j n with b|b
  ·exact h j b
  ·have:j=n:=by omega
   subst this;exact hh
def Idle (s:ShM):Prop:=s.mets= []->s.disk.moves= []
theorem zsM {s:ShM}{m:MetM}:(zbB s m).mets≠ []:=λe=>by
 have a:=zte (s:=s) (m:=m)
 rw[e]at a
 split at a
 ·rename_i c
  obtain⟨x,b,_⟩:=c
  have:=List.length_pos_of_mem b
  simp at a;omega
 ·simp at a
theorem zve {s s':ShM}{n:Nat}(h:Idle s)(hS:StepS s n s'):Idle s':=by
 cases hS with
 |same=>exact h
 |app j a c d f b=>exact λe=>absurd e zsM
 |sync j a g=>exact λe=>absurd e zsM
 |comp j a b=>exact λe=>absurd e zsM
theorem zsh {p:Txt}(hp:p∈P4):∃j<4,zar j=p:=by
 have:∀p∈P4,∃j<4,P4.getD (j%4) []=p:=by decide
 exact this p hp
theorem z3k {s:ShM}{a k:Nat}(h:InvS s a k)(ha:a≤69)(hd:Idle s)(hU:SuredM s 4):s.disk.moves= []/\s.disk.kept=s.disk.names/\∀f∈s.disk.files,f.sure=f.bytes.length/\∃t,At s.disk t f:=by
 have p:s.disk.moves= []:=by
  rcases hU.moves with g|g
  ·exact g
  ·refine hd ?_
   cases A:s.mets with
   |nil=>rfl
   |cons m l=>
    have b:m∈s.mets:=by rw[A];simp
    obtain⟨j,i,d⟩:=zsh (h.paths m b)
    exact absurd ⟨m,b,d.symm⟩ (g j i)
 have x:s.disk.kept=s.disk.names:=by
  have:=h.size.right.replay
  rw[p]at this
  simpa[replay]using this
 refine⟨p,x,λf w=> ?_⟩
 have c:f.id∈idsM s.disk:=(h.size.right.same f.id).2 ⟨f,w,rfl⟩
 unfold idsM at c
 rw[p,x]at c
 simp[zbK]at c
 obtain⟨n,v,o⟩:=c
 have r:At s.disk n.name f:=⟨⟨n,v,rfl⟩,w,by rw[zgP h.size.right.names.srt v];exact o.symm⟩
 refine⟨?_,_,r⟩
 obtain⟨m,b,q,y,e,g,B,z⟩:=h.dir _ r.1
 obtain⟨j,i,d⟩:=zsh (h.paths m b)
 have u:=zlU h.srt b d.symm
 have:=h.seq m b
 refine hU.files j i ⟨m,b,d.symm⟩ q y f (by omega) (kd3 z) ?_
 rw[u,<-e];exact r
end Go.Proofs.YtdbhocoeolhjhaaGreatDoor
end
section
set_option maxHeartbeats 1000000
namespace Go.Proofs.YtdbhocoeolhjhaaGreatDoor
open Go.Sf Go.Num
structure RdM where
 id:Nat
 seq:Nat
 path:Txt
 body:LadM ⊕ List ArrM
def RdM.kind (r:RdM):Txt:=match r.body with
 | .inl _=>kindC
 | .inr _=>kindP
def RdM.recs (r:RdM):List RecM:=match r.body with
 | .inl l=>(zgD l).map slM
 | .inr g=>g.map ptR
def RdM.name (r:RdM):Txt:=zaD r.id r.seq r.kind
def kR (r:RdM):Nat:=r.id*100+r.seq
theorem RdM.kd (r:RdM):r.kind=kindP∨r.kind=kindC:=by
 unfold RdM.kind;split
 ·exact .inr rfl
 ·exact .inl rfl
structure OkRd (r:RdM):Prop where
 id1:1≤r.id
 id5:r.id<5
 q1:1≤r.seq
 q70:r.seq<70
 path:r.path∈P4
 lad:∀l,r.body=.inl l->RightL l
 pts:∀g,r.body=.inr g->∀x∈g,OkA x/\OkV x
def rdP (m:MetM)(i:Nat):List (List ArrM)->List RdM
 | []=> []
 |g::gs=>⟨m.id,m.base+1+i,m.path,.inr g⟩::rdP m (i+1) gs
def rdsM (m:MetM)(l0:LadM)(gs:List (List ArrM)):List RdM:=(if 0<m.base then [⟨m.id,m.base,m.path,.inl l0⟩]else [])++rdP m 0 gs
theorem zmR {m:MetM}{r:RdM}:∀{i:Nat} {gs:List (List ArrM)},r∈rdP m i gs↔∃j g,gs[j]? =some g/\r=⟨m.id,m.base+1+i+j,m.path,.inr g⟩
 |i,[]=>by simp[rdP]
 |i,g::gs=>by
  simp only[rdP,ybb,zmR (i:=i+1) (gs:=gs)]
  constructor
  ·rintro(h|⟨j,c,a,b⟩)
   ·exact⟨0,g,rfl,h⟩
   ·exact⟨j+1,c,by simpa using a,by rw[b];congr 1;omega⟩
  ·rintro⟨j,c,a,b⟩
   cases j with
   |zero=>simp at a;subst a;exact .inl b
   |succ j=>exact .inr ⟨j,c,by simpa using a,by rw[b];congr 1;omega⟩
theorem zw2 (m:MetM):∀(i:Nat) (gs:List (List ArrM)),(rdP m i gs).length=gs.length
 |i,[]=>rfl
 |i,g::gs=>by simp[rdP,zw2 m (i+1) gs]
theorem zsc (m:MetM):∀(i:Nat) (gs:List (List ArrM)),(rdP m i gs).Pairwise λa b=>kR a<kR b
 |i,[]=>List.Pairwise.nil
 |i,g::gs=>List.Pairwise.cons (λr c=>by
   obtain⟨j,d,_,rfl⟩:=zmR.1 c
   simp only[kR];omega) (zsc m (i+1) gs)
theorem zjg {m:MetM}{l0:LadM}{gs:List (List ArrM)}{r:RdM}:r∈rdsM m l0 gs↔(0<m.base/\r=⟨m.id,m.base,m.path,.inl l0⟩)∨∃j g,gs[j]? =some g/\r=⟨m.id,m.base+1+j,m.path,.inr g⟩:=by
 simp only[rdsM,yag,zmR,ycd]
 constructor
 ·rintro(h|h)
  ·split at h
   ·rename_i c;exact .inl ⟨c,by simpa using h⟩
   ·cases h
  ·exact .inr h
 ·rintro(⟨a,b⟩|h)
  ·exact .inl (by simp[a,b])
  ·exact .inr h
theorem z1R {m:MetM}{l0:LadM}{gs:List (List ArrM)}{r:RdM}(h:r∈rdsM m l0 gs):r.id=m.id:=by
 rcases zjg.1 h with ⟨_,rfl⟩|⟨_,_,_,rfl⟩<;>rfl
theorem zrC (m:MetM)(l0:LadM)(gs:List (List ArrM)):(rdsM m l0 gs).Pairwise λa b=>kR a<kR b:=by
 unfold rdsM
 rw[ydq]
 refine⟨by split<;>simp,zsc m 0 gs,λa c b d=> ?_⟩
 obtain⟨j,g,_,rfl⟩:=zmR.1 d
 split at c
 ·simp at c;subst c;simp only[kR];omega
 ·cases c
def byId (l:List MetM):List MetM:=l.mergeSort λa b=>decide (a.id≤b.id)
theorem zfi (l:List MetM):(byId l).Perm l:=List.mergeSort_perm _ _
theorem zqm {l:List MetM}(h:(l.map MetM.id).Nodup):(byId l).Pairwise λa b=>a.id<b.id:=by
 have d:(byId l).Pairwise λa b=>a.id≤b.id:=by
  have:=List.pairwise_mergeSort (le:=λa b:MetM=>decide (a.id≤b.id)) (λa b c d e=>by simp only[decide_eq_true_eq]at*;omega) (λa b=>by simp only[yeo,decide_eq_true_eq];omega) l
  exact this.imp λh=>by simpa using h
 have e:(byId l).Pairwise λa b=>a.id≠b.id:=by
  have:=((zfi l).map MetM.id).nodup_iff.2 h
  rw[ybg,ybv]at this
  exact this
 exact List.Pairwise.imp₂ (λ_ _ d e=>by omega) d e
variable {s:ShM}{a k:Nat}
def zm2 (s:ShM)(L:MetM->LadM)(Gs:MetM->List (List ArrM)):Prop:=∀x∈s.mets,Hist s.disk x (L x) (Gs x)/\(Gs x≠ []∨0<x.base)
theorem zBl (h:ziO s):∃L Gs,zm2 s L Gs:=by
 have g:∀x:MetM,∃q:LadM×List (List ArrM),x∈s.mets->Hist s.disk x q.1 q.2/\(q.2≠ []∨0<x.base):=λx=>by
  by_cases a:x∈s.mets
  ·obtain⟨b,c,d⟩:=h x a
   exact⟨(b,c),λ_=>d⟩
  ·exact⟨(newL,[]),λh=>absurd h a⟩
 obtain⟨f,e⟩:=Classical.axiomOfChoice g
 exact⟨λx=>(f x).1,λx=>(f x).2,λx a=>e x a⟩
variable {L:MetM->LadM}{Gs:MetM->List (List ArrM)}
def allR (l:List MetM)(L:MetM->LadM)(Gs:MetM->List (List ArrM)):List RdM:=(byId l).flatMap λm=>rdsM m (L m) (Gs m)
theorem zph {r:RdM}:r∈allR s.mets L Gs↔∃m∈s.mets,r∈rdsM m (L m) (Gs m):=by
 simp only[allR,yd0,(zfi s.mets).mem_iff]
theorem z08 (h:InvS s a k)(ha:a≤69)(hB:zm2 s L Gs){m:MetM}(hm:m∈s.mets){r:RdM}(hr:r∈rdsM m (L m) (Gs m)):OkRd r:=by
 have e:=(hB m hm).1
 have n:=e.top
 have o:=h.seq m hm
 rcases zjg.1 hr with ⟨f,rfl⟩|⟨j,g,b,rfl⟩
 ·exact⟨(h.ids m hm).1,h.id5 hm,f,by show m.base<70;omega,h.paths m hm,λl c=>by cases c;exact e.r0,λg b=>by cases b⟩
 ·have:=(yaa.1 b).1
  exact⟨(h.ids m hm).1,h.id5 hm,by show 1≤m.base+1+j;omega,by show m.base+1+j<70;omega,h.paths m hm,(λl c=>by cases c),λi d=>by cases d;exact e.ok _ (yae b)⟩
theorem z3l (h:InvS s a k)(ha:a≤69)(hB:zm2 s L Gs):∀r∈allR s.mets L Gs,OkRd r:=λr b=>by
 obtain⟨m,c,b⟩:=zph.1 b
 exact z08 h ha hB c b
theorem zns (h:InvS s a k)(ha:a≤69)(hB:zm2 s L Gs):(allR s.mets L Gs).Pairwise λx y=>kR x<kR y:=by
 unfold allR
 rw[List.pairwise_flatMap]
 refine⟨λm c=>zrC _ _ _, ?_⟩
 have f:=λm=>(zfi s.mets).mem_iff (a:=m)
 refine(List.Pairwise.imp_of_mem (R:=λa b=>a.id<b.id) ?_ (zqm h.idn))
 intro m n c g i x d y e
 have j:=z08 h ha hB ((f m).1 c) d
 have l:=z08 h ha hB ((f n).1 g) e
 have:=j.q70
 have:=l.q70
 have o:=z1R d
 have p:=z1R e
 simp only[kR];omega
theorem zsE {r t:RdM}(hr:OkRd r)(ht:OkRd t)(h:r.name=t.name):kR r=kR t:=by
 have:=zbo hr.id5 ht.id5 hr.q70 ht.q70 (kd3 r.kd) (kd3 t.kd) h
 simp only[kR,this.1,this.2.1]
theorem z6X {l:List RdM}(h:l.Pairwise λx y=>kR x<kR y){x y:RdM}(hx:x∈l)(hy:y∈l)(he:kR x=kR y):x=y:=by
 obtain⟨i,c⟩:=ybe hx
 obtain⟨j,b⟩:=ybe hy
 rcases ycr i j with a|rfl|a
 ·have:=zg5 h a c b;omega
 ·rw[c]at b;exact Option.some.inj b
 ·have:=zg5 h a b c;omega
theorem zp3 (h:InvS s a k)(ha:a≤69)(hB:zm2 s L Gs){t:Txt}:hasK kN s.disk.names t↔∃r∈allR s.mets L Gs,r.name=t:=by
 constructor
 ·intro o
  obtain⟨m,b,q,p,e,x,y,u⟩:=h.dir t o
  have c:=(hB m b).1
  have z:=h.seq m b
  subst e
  rcases c.only q p (by omega) (kd3 u) o with ⟨f,l,n⟩|⟨f,i,l,n⟩
  ·subst f;subst l
   exact⟨_,zph.2 ⟨m,b,zjg.2 (.inl ⟨n,rfl⟩)⟩,rfl⟩
  ·subst f;subst n
   exact⟨_,zph.2 ⟨m,b,zjg.2 (.inr ⟨i,_,yac l,rfl⟩)⟩,rfl⟩
 ·rintro⟨r,d,rfl⟩
  obtain⟨m,b,d⟩:=zph.1 d
  have c:=(hB m b).1
  rcases zjg.1 d with ⟨v,rfl⟩|⟨j,g,w,rfl⟩
  ·exact c.hC v
  ·exact c.hP j (yaa.1 w).1
theorem zui (hB:zm2 s L Gs){r:RdM}(hr:r∈allR s.mets L Gs){f:FileM}(hA:At s.disk r.name f):f.bytes=zf5 r.path r.recs:=by
 obtain⟨m,b,hr⟩:=zph.1 hr
 have a:=(hB m b).1
 rcases zjg.1 hr with ⟨c,rfl⟩|⟨j,g,d,rfl⟩
 ·rw[(a.cC f c hA).1,zvS];rfl
 ·exact(a.cP j g f d hA).1
def rdOf (l:List RdM)(t:Txt):RdM:=(l.find? λr=>decide (r.name=t)).getD ⟨0,0,[],.inr []⟩
theorem z1Y {l:List RdM}{t:Txt}(h:∃r∈l,r.name=t):rdOf l t∈l/\(rdOf l t).name=t:=by
 unfold rdOf
 cases a:l.find? λr=>decide (r.name=t)with
 |none=>
  obtain⟨r,b,c⟩:=h
  have:=List.find?_eq_none.1 a r b
  simp[c]at this
 |some x=>exact⟨List.mem_of_find?_eq_some a,by simpa using List.find?_some a⟩
def zfV (d:DiskM):List Txt:=d.names.map NameM.name
theorem zmY {d:DiskM}{t:Txt}:t∈zfV d↔hasK kN d.names t:=by simp[zfV,hasK]
theorem zwi {d:DiskM}(h:RightM d):(zfV d).Nodup:=by
 rw[zfV,ybg,ybv]
 exact h.names.srt.imp λb e=>by
  have a:NameM.name _<NameM.name _:=b
  rw[e]at a;exact zbX _ a
theorem zzp (h:InvS s a k)(ha:a≤69)(hB:zm2 s L Gs):((zfV s.disk).map (rdOf (allR s.mets L Gs))).Perm (allR s.mets L Gs):=by
 have d:=zns h ha hB
 have b:=z3l h ha hB
 obtain⟨R,i⟩:∃R,R=allR s.mets L Gs:=⟨_,rfl⟩
 have g:=λt=>zp3 h ha hB (t:=t)
 rw[<-i]at d b g⊢
 have e:(R.map RdM.name).Nodup:=by
  rw[ybg,ybv]
  refine List.Pairwise.imp_of_mem (R:=λx y=>kR x<kR y) (λ{x y} hx hy hlt he=> ?_) d
  have:=zsE (b x hx) (b y hy) he
  omega
 have m:(zfV s.disk).Perm (R.map RdM.name):=(List.perm_ext_iff_of_nodup (zwi h.size.right) e).2 λt=>by
  rw[zmY,g];simp
 have n:(R.map RdM.name).map (rdOf R)=R:=by
  rw[yeb]
  conv=>rhs;rw[<-List.map_id R]
  refine ydu λr c=> ?_
  obtain⟨f,j⟩:=z1Y (l:=R) ⟨r,c,rfl⟩
  exact z6X d f c (zsE (b _ f) (b r c) j)
 have:=m.map (rdOf R)
 rwa[n]at this
theorem zze (h:InvS s a k)(ha:a≤69)(hB:zm2 s L Gs){l:List RdM}(hp:l.Perm ((zfV s.disk).map (rdOf (allR s.mets L Gs)))) (hs:l.Pairwise λx y=>kR x≤kR y):l=allR s.mets L Gs:=by
 have c:=zns h ha hB
 have b:=hp.trans (zzp h ha hB)
 refine List.Perm.eq_of_pairwise (le:=λx y=>kR x≤kR y) (λx y d e f g=> ?_) hs (c.imp λh=>yd4 h) b
 exact z6X c (b.mem_iff.1 d) e (by omega)
def c16 (m:MetM):MetM:={m with count:=16}
def zed (d:DiskM)(l:List MetM):ShM:=l.foldl (λs m=>zbB s (c16 m)) ⟨d,[],1⟩
theorem zpj (d:DiskM){l:List MetM}(hp:(l.map MetM.path).Nodup):Srt kM (zed d l).mets/\(∀x,x∈(zed d l).mets↔∃m∈l,x=c16 m)/\(zed d l).disk=d/\(zed d l).mets.length=l.length:=by
 refine zjf (P:=λl=>(l.map MetM.path).Nodup->Srt kM (zed d l).mets/\(∀x,x∈(zed d l).mets↔∃m∈l,x=c16 m)/\(zed d l).disk=d/\(zed d l).mets.length=l.length) ?_ ?_ l hp
 ·intro _;simp[zed,Srt]
 ·intro l m o b
  rw[ycw,ydb]at b
  obtain⟨g,f,h,i⟩:=o b.1
  have e:zed d (l++ [m])=zbB (zed d l) (c16 m):=by simp[zed]
  have c:¬hasK kM (zed d l).mets (c16 m).path:=by
   rintro⟨x,j,k⟩
   obtain⟨y,a,rfl⟩:=(f x).1 j
   exact b.2.2 y.path (yav.2 ⟨y,a,rfl⟩) m.path (by simp) k
  rw[e]
  refine⟨zoE g,λx=> ?_,by rw[zf8];exact h,by rw[zte,if_neg c,i];simp⟩
  rw[zeP g,f]
  constructor
  ·rintro(rfl|⟨⟨y,a,rfl⟩,_⟩)
   ·exact⟨m,by simp,rfl⟩
   ·exact⟨y,by simp[a],rfl⟩
  ·rintro⟨y,a,rfl⟩
   rcases yag.1 a with a|a
   ·exact .inr ⟨⟨y,a,rfl⟩,λn=>c ⟨c16 y,(f _).2 ⟨y,a,rfl⟩,n⟩⟩
   ·simp at a;subst a;exact .inl rfl
theorem z3W (h:InvS s a k)(d:DiskM):(zed d (byId s.mets)).mets=s.mets.map c16:=by
 have i:((byId s.mets).map MetM.path).Nodup:=((zfi s.mets).map MetM.path).nodup_iff.2 (zlL h.srt)
 obtain⟨c,f,_,n⟩:=zpj d i
 have b:Srt kM (s.mets.map c16):=ybv.2 h.srt
 have j:∀{l:List MetM},Srt kM l->l.Nodup:=λ{l} hl=>by
  rw[ybg]
  exact List.Pairwise.imp (λg e=>by subst e;exact zbX _ g) hl
 have m:(zed d (byId s.mets)).mets.Perm (s.mets.map c16):=(List.perm_ext_iff_of_nodup (j c) (j b)).2 λx=>by
  rw[f]
  simp only[yav,(zfi s.mets).mem_iff,eq_comm]
 exact List.Perm.eq_of_pairwise (le:=λx y:MetM=>kM x<kM y) (λx y _ _ c f=>absurd (zsV c f) (zbX _)) c b m
end Go.Proofs.YtdbhocoeolhjhaaGreatDoor
end
section
set_option maxHeartbeats 4000000
namespace Go.Abs
open Go.Sf Go.Proofs Go.Sort Go.Proofs.YtdbhocoeolhjhaaGreatDoor
def rdC (r:RdM):List AV:= [.str r.name,.int .i64 r.id,.int .i64 r.seq,.str r.kind,.int .i64 1,.str r.path,.int .i64 1,.int .i64 500000,.lst rungsC,.int .i64 0,.int .i64 0,.int .i64 0,.int .i64 0,.lst (r.recs.map recC)]
def rdsC (l:List RdM):List (List AV):=l.map rdC
theorem zcc (l:List RdM):(rdsC l).length=l.length:=by simp[rdsC]
theorem zml {l:List RdM}{i:Nat}{r:RdM}(h:l[i]? =some r):(rdsC l)[i]? =some (rdC r):=by simp[rdsC,h]
theorem zoH (l:List RdM):Els 14 (rdsC l):=by
 refine⟨λc a=> ?_,λc a=> ?_,λc a=> ?_⟩<;>obtain⟨n,_,rfl⟩:=yav.1 a<;>simp[rdC,AV.pure,AV.one]
theorem z3w (r:RdM):∀c∈rdC r,c.one=true:=by simp[rdC,AV.one]
section
variable {κ:Key}{Im:Addr->Prop}{w:World}
abbrev SRd (κ:Key)(Im:Addr->Prop)(w:World):={x:RdM×List Value//VRL κ Im w (rdC x.1) x.2}
def zdz (x:SRd κ Im w):List Value:=x.1.2
def rdR (x:SRd κ Im w):RdM:=x.1.1
theorem zmH (x:SRd κ Im w):(zdz x).length=14:=x.2.1.symm
theorem zzY (x:SRd κ Im w):∀v∈zdz x,v.oneCell'=true:=zdR x.2 (z3w _)
def zjO (l:List (SRd κ Im w)):List Value:=l.flatMap zdz
theorem zi6 (l:List (SRd κ Im w)):(zjO l).length=l.length*14:=by
 induction l with
 |nil=>rfl
 |cons n l a=>simp only[zjO,yes,yaj,ybc]at*;rw[a,zmH];omega
theorem z6o {κ':Key}{Im':Addr->Prop}{w':World}(hg:∀(x:SRd κ Im w),VRL κ' Im' w' (rdC (rdR x)) (zdz x))(l:List (SRd κ Im w)):VRL κ' Im' w' (rdsC (l.map rdR)).flatten (zjO l):=by
 induction l with
 |nil=>exact VRL.nil
 |cons n l a=>exact VRL.append (hg n) a
theorem z4m {l:List RdM}{xs:List Value}(h:VRL κ Im w (rdsC l).flatten xs):∃L:List (SRd κ Im w),L.map rdR=l/\zjO L=xs:=by
 induction l generalizing xs with
 |nil=>
  have:=h.1
  simp[rdsC]at this
  rw[yal this.symm];exact⟨[],rfl,rfl⟩
 |cons n l f=>
  have e:(rdsC (n::l)).flatten=rdC n++(rdsC l).flatten:=rfl
  rw[e]at h
  have c:VRL κ Im w (rdC n) (xs.take 14):=by
   have:=h.take 14
   rwa[ycb (show(rdC n).length=14 from rfl)]at this
  have d:VRL κ Im w (rdsC l).flatten (xs.drop 14):=by
   have:=h.drop 14
   rwa[List.drop_left' (show(rdC n).length=14 from rfl)]at this
  obtain⟨L,a,b⟩:=f d
  refine⟨⟨(n,xs.take 14),c⟩::L,by simp[rdR,a], ?_⟩
  show xs.take 14++zjO L=xs
  rw[b,yba]
theorem zsm [Inhabited (SRd κ Im w)](l:List (SRd κ Im w)):(flatK zdz 14 l.toArray).toList=zjO l:=by
 apply yea
 intro t
 by_cases h:t<l.length*14
 ·have c:t<(flatK zdz 14 l.toArray).toList.length:=by simp;omega
  have d:t<(zjO l).length:=by rw[zi6];exact h
  rw[yac c,yac d]
  congr 1
  have j:(flatK zdz 14 l.toArray).toList[t]=(flatK zdz 14 l.toArray)[t]! :=by
   rw[getElem!_pos _ t (by simpa using c)];simp
  rw[j,get_flatK _ _ _ _ (by simpa using h)]
  clear c j
  induction l generalizing t with
  |nil=>simp at h
  |cons n l q=>
   have o:=zmH n
   by_cases m:t<14
   ·have e:t/14=0:=yeg m
    have f:t%14=t:=ybj m
    have g:(n::l).toArray[0]! =n:=by rw[getElem!_pos _ _ (by simp)];rfl
    have a:t<(zdz n).length:=by omega
    have i:(zjO (n::l))[t]=(zdz n)[t]:=Option.some.inj (by
     rw[<-yac d,<-yac a]
     exact yam a)
    rw[e,f,g,i,getElem!_pos _ _ (by omega)]
   ·obtain⟨t,rfl⟩:∃u,t=u+14:=⟨t-14,by omega⟩
    have k:t<l.length*14:=by simp at h;omega
    have b:t<(zjO l).length:=by rw[zi6];exact k
    have:=q t k b
    have e:(t+14)/14=t/14+1:=by omega
    have f:(t+14)%14=t%14:=by omega
    rw[e,f]
    have g:(zjO (n::l))[t+14]=(zjO l)[t]:=Option.some.inj (by
     rw[<-yac d,<-yac b]
     show(zdz n++zjO l)[t+14]? =_
     rw[yak (by omega),o,Nat.add_sub_cancel])
    rw[g,<-this]
    have i:(n::l).toArray[t/14+1]! =l.toArray[t/14]! :=by
     have p:t/14<l.length:=by omega
     rw[getElem!_pos _ _ (by simp;omega),getElem!_pos _ _ (by simpa using p)]
     simp
    rw[i]
 ·rw[ybx (by simp;omega),ybx (by rw[zi6];omega)]
end
variable {G:Globs}{base:Nat}{κ:Key}{Im:Addr->Prop}{w:World}{σ:zab}
theorem zva {i e:Nat}{l:List RdM}(hs:SRel base κ Im σ w)(he:σ[i]? =some (.row e 14 (rdsC l) false))(hne:l≠ []):
  ∃(A:List (SRd κ Im w)) (g cap:Nat),A.map rdR=l/\κ i l.length=some (.slice (some ⟨g,0,none⟩) l.length cap)/\g<w.heap.size/\∀ [Inhabited (SRd κ Im w)],HoldsK zdz 14 w g 0 A.toArray/\
   ∀(A':List (SRd κ Im w)) n os,A'.length=l.length->SRel base κ Im (σ.set i (.row e 14 (rdsC (A'.map rdR)) false)) (sortWorldK zdz 14 w g 0 n A'.toArray os)/\Grow base κ Im w κ Im (sortWorldK zdz 14 w g 0 n A'.toArray os):=by
 have hE:=hs.ent i _ he
 unfold EOK at hE
 obtain⟨v,xs,P,m,S,h0,h2,h1, -,p⟩:=hE
 rw[zcc]at P m p
 obtain⟨A,hA,rfl⟩:=z4m S
 have Z:A.length=l.length:=by rw[<-hA];simp
 obtain⟨ai,m⟩:=m
 rcases m with ⟨_,h⟩|⟨g,cap,u,rfl,y,Q,H,U,W,X⟩
 ·exact absurd (yal h) hne
 have M:g<w.heap.size:=(ya9.1 Q).1
 refine⟨A,g,cap,hA,P,M, ?_⟩
 intro ah
 have hH:HoldsK zdz 14 w g 0 A.toArray:=by
  intro j E
  have aa:j<l.length*14:=by rw[<-Z];simpa using E
  refine⟨?_,by simp[World.frozen?,Q]⟩
  have h3:(u.toList.take (l.length*14))[j]? =(zjO A)[j]? :=by rw[X]
  rw[yct aa,<-zsm]at h3
  simp only[World.cell?,Q,ybh]
  simp only[Option.isSome_none,ydc,if_false]
  rw[<-yby,h3,yby,getElem!_pos _ j E]
  simp[E]
 refine⟨hH,λA' n os I=> ?_⟩
 obtain⟨F,T⟩:∃F,F=flatK zdz 14 A'.toArray:=⟨_,rfl⟩
 have ab:F.size=l.length*14:=by rw[T];simp[I]
 have ad:F.toList=zjO A':=by rw[T,zsm]
 have f:(A'.map rdR).length=l.length:=by simp[I]
 obtain⟨t,G⟩:∃t,t=sortWorldK zdz 14 w g 0 n A'.toArray os:=⟨_,rfl⟩
 have o:t=grow (mapBlock (Sort.ahead w n) g (putCells id 0 F)) os:=by rw[G,T];rfl
 have B:t.heap[g]? =some (.cells (putCells id 0 F u) e (0,0)):=by
  rw[o,heap_grow_old _ _ (by simpa[mapBlock,Sort.ahead]using M)]
  simp[mapBlock,Sort.ahead,yem,Q,onCells]
 have d:∀k,k<w.heap.size->k≠g->t.heap[k]? =w.heap[k]? :=λk J hne=>by
  rw[o,heap_grow_old _ _ (by simpa[mapBlock,Sort.ahead]using J)]
  simp[mapBlock,Sort.ahead,yem,Ne.symm hne]
 have q:w.heap.size≤t.heap.size:=by rw[o];simp[grow,mapBlock,Sort.ahead]
 have C:(putCells id 0 F u).toList.take (l.length*14)=zjO A':=by
  apply yea
  intro j
  by_cases E:j<l.length*14
  ·rw[yct E,yby,<-ad,yby]
   have ae:j<u.size:=by
    have:l.length*14≤cap*14:=yat _ H
    omega
   simp[putCells,ab,E,ae]
  ·rw[List.getElem?_take_eq_none (by omega),ybx (by rw[zi6,I];omega)]
 have af:∀a,Im a->a.block≠g:=λa R Y=>by
  have:=((p g rfl).1 a R Y).1
  cases this
 have s:∀a,Im a->t.cell? a=w.cell? a:=λa R=>ya6 (d _ (hs.imlt a R).1 (af a R))
 rw[<-G]
 have ag:Go.RowKit.Below base w t:=⟨by rw[o];rfl,by rw[o];rfl,by rw[o];rfl,q,λk J=>d k (yca J hs.hb) (by omega)⟩
 have O:Grow base κ Im w κ Im t:=⟨λ_ _ _ h=>h,λ_ h=>h,s,λ_ h=> .inl h,ag⟩
 have D:∀z:List RdM,z.length=l.length->(Entry.row e 14 (rdsC z) false).block κ i=some g:=λz K=>by
  simp[Entry.block,zcc,K,P,Value.ownBlock]
 refine⟨hs.set he (.row e 14 (rdsC (A'.map rdR)) false) (λ_ _ _ h=>h) (λ_ _ _ h=> .inl h) (by simp[Entry.ver,zcc,I]) (λ_ h=>h) s (λ_ h=> .inl h) q (λk J L=>d k J λh=>L (by rw[D l rfl,h])) ?_ (λb Y=> .inr (by rw[D l rfl,<-Y,D _ f])),O⟩
 unfold EOK
 refine⟨.slice (some ⟨g,0,none⟩) l.length cap,zjO A',by rw[zcc,f];exact P,⟨by rw[zi6,zcc,f,I],.inr ⟨g,cap,_,by rw[zcc,f],y,B,by rw[zcc,f];exact H,U,by simp[putCells,W],by rw[zcc,f];exact C⟩⟩,z6o (λx=>VRL.grow O x.2) A',by decide,(zoH _).1,λc hc=> ?_,λh=>(by cases h), ?_⟩
 ·obtain⟨r,_,rfl⟩:=yav.1 hc
  exact z3w r
 rw[zcc,f]
 exact p
end Go.Abs
end
section
namespace Go.Proofs.YtdbhocoeolhjhaaGreatDoor
open Go.Shelf Go.RowKit Go.Lib Go.Sort Go.Proofs Go.Sf
set_option maxHeartbeats 1000000 in
theorem z63 (x:ByteArray)(W:World):Calls Tryz.prog 186 #[.string x] W λe w'=>e=.returned (.bool false)/\w'=W:=by
 go_enter Tryz.func186,Tryz.ntmps186
 go_wp2
 go_ret
 exact⟨rfl,rfl⟩
def cmpB (x y:ByteArray):Int:=if Op.bytesLess x.toList y.toList=true then -1 else if(!x.toList==y.toList)=true then 1 else 0
set_option maxHeartbeats 1000000 in
theorem z4G (x y:ByteArray)(W:World):Calls Tryz.prog 122 #[.string x,.string y] W λe w'=>e=.returned (.int .i64 (cmpB x y))/\w'=W:=by
 have a:=z63
 go_enter Tryz.func122,Tryz.ntmps122
 unfold cmpB
 go_wp2_with (go_at_call 186;refine(a _ _).mono ?_;rintro e w' ⟨rfl,rfl⟩)
 all_goals go_ret
 all_goals exact⟨rfl,rfl⟩
def or3 (a b c:Int):Int:=if a≠0 then a else if b≠0 then b else c
set_option maxHeartbeats 1000000 in
theorem z0Y (blk cap:Nat)(a b c:Int)(W:World)(h0:W.cell? ⟨blk,0,none⟩=some (.int .i64 a))(h1:W.cell? ⟨blk,1,none⟩=some (.int .i64 b))(h2:W.cell? ⟨blk,2,none⟩=some (.int .i64 c)):
 Calls Tryz.prog 121 #[.slice (some ⟨blk,0,none⟩) 3 cap] W λe w'=>e=.returned (.int .i64 (or3 a b c))/\w'=W:=by
 go_enter Tryz.func121,Tryz.ntmps121
 go_wp2
 go_rounds 4
 all_goals go_ret
 all_goals exact⟨by simp_all[or3],rfl⟩
theorem z2E (a b c:Int)(W:World):Calls Tryz.prog 121 #[.slice (some ⟨W.heap.size,0,none⟩) 3 3] (W.alloc (.cells #[.int .i64 a,.int .i64 b,.int .i64 c] 3)) λe w'=>e=.returned (.int .i64 (or3 a b c))/\w'=W.alloc (.cells #[.int .i64 a,.int .i64 b,.int .i64 c] 3):=
 z0Y _ _ a b c _ (by rw[ydf _ _ _ _ rfl];rfl) (by rw[ydf _ _ _ _ rfl];rfl) (by rw[ydf _ _ _ _ rfl];rfl)
theorem z5v (W:World)(c d:Array Value)(t:TypeId):(∀j,((W.alloc (.cells c t)).alloc (.cells d t)).cell? ⟨W.heap.size,j,none⟩=c[j]?)/\∀j,((W.alloc (.cells c t)).alloc (.cells d t)).cell? ⟨W.heap.size+1,j,none⟩=d[j]? :=by
 constructor
 ·intro j
  rw[World.cell?_alloc_lt _ _ _ (by show W.heap.size<(W.heap.push _).size;rw[Array.size_push];omega),ydf _ _ _ _ rfl]
 ·intro j
  rw[ydf _ _ _ _ (by show W.heap.size+1=(W.heap.push _).size;rw[Array.size_push])]
set_option maxRecDepth 100000 in
set_option maxHeartbeats 4000000 in
theorem zzq (n1 n2 k1 k2:ByteArray)(a1 b1 a2 b2:Int)(x0 x1 x2 x3 x4 x5 x6 x7 x8 x9 y0 y1 y2 y3 y4 y5 y6 y7 y8 y9:Value)(W:World):Calls Tryz.prog 120 #[.agg #[.string n1,.int .i64 a1,.int .i64 b1,.string k1,x0,x1,x2,x3,x4,x5,x6,x7,x8,x9],.agg #[.string n2,.int .i64 a2,.int .i64 b2,.string k2,y0,y1,y2,y3,y4,y5,y6,y7,y8,y9]] W λe w'=>e=.returned (.int .i64 (or3 (Lib.compareInt a1 a2) (Lib.compareInt b1 b2) (cmpB k1 k2)))/\∃q os',w'=grow (W.drewN q) os':=by
 have l:=λx y j=>Tryz.cmp_Compare_int x y j
 have o:=λx y j=>z4G x y j
 go_enter Tryz.func120,Tryz.ntmps120
 go_wp2
 obtain⟨d,h,n,r,s,t,u,v,w,f,k⟩:∃d h,(∃q os',d=grow (W.drewN q) os')/\d.cell? ⟨h,1,none⟩=some (.int .i64 a1)/\d.cell? ⟨h,2,none⟩=some (.int .i64 b1)/\d.cell? ⟨h,3,none⟩=some (.string k1)/\d.cell? ⟨h+1,1,none⟩=some (.int .i64 a2)/\d.cell? ⟨h+1,2,none⟩=some (.int .i64 b2)/\d.cell? ⟨h+1,3,none⟩=some (.string k2)/\d={(W.alloc (.cells #[.string n1,.int .i64 a1,.int .i64 b1,.string k1,x0,x1,x2,x3,x4,x5,x6,x7,x8,x9] 149)).alloc (.cells #[.string n2,.int .i64 a2,.int .i64 b2,.string k2,y0,y1,y2,y3,y4,y5,y6,y7,y8,y9] 149)with drawn:=W.drawn+1}/\h=W.heap.size:=by
  obtain⟨g,i⟩:=z5v W #[.string n1,.int .i64 a1,.int .i64 b1,.string k1,x0,x1,x2,x3,x4,x5,x6,x7,x8,x9] #[.string n2,.int .i64 a2,.int .i64 b2,.string k2,y0,y1,y2,y3,y4,y5,y6,y7,y8,y9] 149
  refine⟨{(W.alloc (.cells #[.string n1,.int .i64 a1,.int .i64 b1,.string k1,x0,x1,x2,x3,x4,x5,x6,x7,x8,x9] 149)).alloc (.cells #[.string n2,.int .i64 a2,.int .i64 b2,.string k2,y0,y1,y2,y3,y4,y5,y6,y7,y8,y9] 149)with drawn:=W.drawn+1},W.heap.size,⟨1, #[.cells #[.string n1,.int .i64 a1,.int .i64 b1,.string k1,x0,x1,x2,x3,x4,x5,x6,x7,x8,x9] 149]++ #[.cells #[.string n2,.int .i64 a2,.int .i64 b2,.string k2,y0,y1,y2,y3,y4,y5,y6,y7,y8,y9] 149], ?_⟩,(g 1).trans rfl,(g 2).trans rfl,(g 3).trans rfl,(i 1).trans rfl,(i 2).trans rfl,(i 3).trans rfl,rfl,rfl⟩
  rw[alloc_eq_grow,alloc_eq_grow,grow_grow];rfl
 refine wp_region_still_tail 21 (by kernel_rfl) (by kernel_rfl) ?_
 simp only[List.take_succ_cons,List.take_zero,List.drop_succ_cons,List.drop_zero]
 have m:((W.alloc (.cells #[.string n1,.int .i64 a1,.int .i64 b1,.string k1,x0,x1,x2,x3,x4,x5,x6,x7,x8,x9] 149)).alloc (.cells #[.string n2,.int .i64 a2,.int .i64 b2,.string k2,y0,y1,y2,y3,y4,y5,y6,y7,y8,y9] 149)).drawn=W.drawn:=rfl
 rw[m,<-f,<-k]
 clear f k m
 iterate 6 still_step
 still_call (l _ _ _)
 iterate 6 still_step
 still_call (l _ _ _)
 iterate 6 still_step
 still_call (o _ _ _)
 refine wpStill_nil ?_
 have p:=λa b c=>z2E a b c d
 go_wp2_with (go_at_call 121;refine(p _ _ _).mono ?_;rintro e w' ⟨rfl,rfl⟩)
 go_ret
 obtain⟨q,os',rfl⟩:=n
 exact⟨rfl,q,_,by rw[alloc_eq_grow,grow_grow]⟩
end Go.Proofs.YtdbhocoeolhjhaaGreatDoor
end
section
namespace Go.Ble
def dots:List UInt8->List (List UInt8)
 | []=> [[]]
 |c::s=>if c=46 then []::dots s else match dots s with
  | []=> [[c]]
  |p::ps=>(c::p)::ps
theorem zvr:∀{s:List UInt8},46∉s->dots s= [s]
 | [],_=>rfl
 |c::s,h=>by
  have a:c≠46:=λe=>h (by simp[e])
  have b:46∉s:=λe=>h (by simp[e])
  unfold dots
  rw[if_neg a,zvr b]
theorem zyn:∀{a t:List UInt8},46∉a->dots (a++46::t)=a::dots t
 | [],t,_=>by rw[yco,dots,if_pos rfl]
 |c::a,t,h=>by
  have b:c≠46:=λe=>h (by simp[e])
  have d:46∉a:=λe=>h (by simp[e])
  rw[ybq,dots,if_neg b,zyn d]
theorem z7w (s:List UInt8)(i:Nat):Lib.occAt s [46] i=true↔s[i]? =some 46:=by
 unfold Lib.occAt
 constructor
 ·intro h
  obtain⟨t,a⟩:=List.isPrefixOf_iff_prefix.1 h
  have:(s.drop i)[0]? =some 46:=by rw[<-a];rfl
  simpa using this
 ·intro h
  obtain⟨b,c⟩:=yaa.1 h
  rw[ybn b,c]
  simp
theorem zo8 {s:List UInt8}(h:46∉s):Lib.index s [46]= -1:=by
 refine Lib.index_none λj _=> ?_
 cases a:Lib.occAt s [46] j with
 |false=>rfl
 |true=>exact absurd (yae ((z7w s j).1 a)) h
theorem z1U {a t:List UInt8}(h:46∉a):Lib.index (a++46::t) [46]=a.length:=by
 refine Lib.index_first (by simp) ((z7w _ _).2 (by simp)) λj c=> ?_
 cases d:Lib.occAt (a++46::t) [46] j with
 |false=>rfl
 |true=>
  have b:=(z7w _ j).1 d
  rw[yam c]at b
  exact absurd (yae b) h
theorem z8S:∀s:List UInt8,46∉s∨∃a t,s=a++46::t/\46∉a
 | []=> .inl (by simp)
 |c::s=>by
  by_cases b:c=46
  ·subst b;exact .inr ⟨[],s,rfl,by simp⟩
  rcases z8S s with h|⟨a,t,rfl,h⟩
  ·exact .inl (by simp[h];exact λe=>b e.symm)
  ·exact .inr ⟨c::a,t,rfl,by simp[h];exact λe=>b e.symm⟩
theorem zv3:∀(n:Nat) (s:List UInt8),s.length≤n->Lib.splitK [46] 0 (Lib.count s [46]) s=dots s:=by
 intro n
 induction n with
 |zero=>
  intro s c
  have:s= []:=yal (by omega)
  subst this
  rw[Lib.count_miss (zo8 (by simp))]
  rfl
 |succ n f=>
  intro s c
  rcases z8S s with h|⟨a,t,rfl,h⟩
  ·rw[Lib.count_miss (zo8 h),zvr h];rfl
  ·have e:=z1U (t:=t) h
   have d:(a++46::t).drop (a.length+1)=t:=by
    rw[<-yeh,List.drop_left];rfl
   have b:(a++46::t).drop (a.length+ [(46:UInt8)].length)=t:=d
   rw[Lib.count_hit (by simp) e,b,yey,Lib.splitK,if_neg (by rw[e];simp),e,zyn h]
   simp only[ydk,ycd,List.take_left,b]
   rw[f t (by simp at c;omega)]
theorem zrS (s:List UInt8):Lib.splitK [46] 0 (Lib.count s [46]) s=dots s:=zv3 _ s (yap _)
theorem zpF:∀s:List UInt8,(dots s).length≤s.length+1
 | []=>yap _
 |c::s=>by
  have:=zpF s
  unfold dots
  split
  ·simp;exact this
  ·split
   ·simp
   ·rename_i p a h
    rw[h]at this
    simp at this⊢;omega
theorem zzy (s:List UInt8):(dots s).length=Lib.count s [46]+1:=by
 rw[<-zrS]
 have:∀(n:Nat) (s:List UInt8),s.length≤n->(Lib.splitK [46] 0 (Lib.count s [46]) s).length=Lib.count s [46]+1:=by
  intro n
  induction n with
  |zero=>
   intro s b
   have:s= []:=yal (by omega)
   subst this
   rw[Lib.count_miss (zo8 (by simp))]
   rfl
  |succ n d=>
   intro s b
   rcases z8S s with h|⟨a,t,rfl,h⟩
   ·rw[Lib.count_miss (zo8 h)];rfl
   ·have e:=z1U (t:=t) h
    have c:(a++46::t).drop (a.length+ [(46:UInt8)].length)=t:=by
     show(a++46::t).drop (a.length+1)=t
     rw[<-yeh,List.drop_left];rfl
    rw[Lib.count_hit (by simp) e,c,yey 1,Lib.splitK,if_neg (by rw[e];simp),e]
    simp only[ydk]
    rw[c,ybc,d t (by simp at b;omega)]
 exact this _ s (yap _)
end Go.Ble
end
section
namespace Go.Proofs
open Go.Shelf
def Tryz.laysC174_ren:Go.Shelf.Ren:=⟨fun|174=>271|247=>305|245=>306|287=>327|279=>328|280=>329|281=>330|282=>331|321=>341|322=>342|316=>343|171=>96|205=>344|243=>168|246=>221|283=>266|284=>267|285=>268|286=>269|129=>241|317=>298|318=>299|319=>300|320=>301|337=>321|338=>322|n=>n,fun|9=>9|3=>3|2=>2|75=>321|85=>322|4=>4|167=>369|5=>5|53=>199|175=>370|46=>228|168=>372|37=>70|0=>0|210=>381|21=>21|127=>388|145=>391|143=>389|171=>315|173=>317|212=>344|51=>286|20=>20|213=>345|232=>376|233=>377|80=>393|n=>n,fun|15=>5|16=>6|17=>1|18=>3|19=>4|n=>n⟩
theorem Tryz.laysC174:Go.Proofs.LaysC.n174 Tryz.prog Tryz.laysC174_ren:={
 mixed:=by kernel_rfl
 f129:=Tryz.func241.trans (congrArg some (by kernel_rfl))
 f171:=Tryz.func96.trans (congrArg some (by kernel_rfl))
 f174:=Tryz.func271.trans (congrArg some (by kernel_rfl))
 f205:=Tryz.func344.trans (congrArg some (by kernel_rfl))
 f243:=Tryz.func168.trans (congrArg some (by kernel_rfl))
 f245:=Tryz.func306.trans (congrArg some (by kernel_rfl))
 f246:=Tryz.func221.trans (congrArg some (by kernel_rfl))
 f247:=Tryz.func305.trans (congrArg some (by kernel_rfl))
 f279:=Tryz.func328.trans (congrArg some (by kernel_rfl))
 f280:=Tryz.func329.trans (congrArg some (by kernel_rfl))
 f281:=Tryz.func330.trans (congrArg some (by kernel_rfl))
 f282:=Tryz.func331.trans (congrArg some (by kernel_rfl))
 f283:=Tryz.func266.trans (congrArg some (by kernel_rfl))
 f284:=Tryz.func267.trans (congrArg some (by kernel_rfl))
 f285:=Tryz.func268.trans (congrArg some (by kernel_rfl))
 f286:=Tryz.func269.trans (congrArg some (by kernel_rfl))
 f287:=Tryz.func327.trans (congrArg some (by kernel_rfl))
 f316:=Tryz.func343.trans (congrArg some (by kernel_rfl))
 f317:=Tryz.func298.trans (congrArg some (by kernel_rfl))
 f318:=Tryz.func299.trans (congrArg some (by kernel_rfl))
 f319:=Tryz.func300.trans (congrArg some (by kernel_rfl))
 f320:=Tryz.func301.trans (congrArg some (by kernel_rfl))
 f321:=Tryz.func341.trans (congrArg some (by kernel_rfl))
 f322:=Tryz.func342.trans (congrArg some (by kernel_rfl))
 f337:=Tryz.func321.trans (congrArg some (by kernel_rfl))
 f338:=Tryz.func322.trans (congrArg some (by kernel_rfl))
 t0:=Tryz.underlying0
 a0:=Tryz.isAgg0
 z0:=Tryz.sizeOf0
 v0:=Tryz.zeroValue0
 t2:=Tryz.underlying2
 a2:=Tryz.isAgg2
 z2:=Tryz.sizeOf2
 v2:=Tryz.zeroValue2
 t3:=Tryz.underlying3
 a3:=Tryz.isAgg3
 z3:=Tryz.sizeOf3
 v3:=Tryz.zeroValue3
 t4:=Tryz.underlying4
 a4:=Tryz.isAgg4
 z4:=Tryz.sizeOf4
 v4:=Tryz.zeroValue4
 t5:=Tryz.underlying5
 a5:=Tryz.isAgg5
 z5:=Tryz.sizeOf5
 v5:=Tryz.zeroValue5
 t9:=Tryz.underlying9
 a9:=Tryz.isAgg9
 z9:=Tryz.sizeOf9
 v9:=Tryz.zeroValue9
 t20:=Tryz.underlying20
 a20:=Tryz.isAgg20
 z20:=Tryz.sizeOf20
 v20:=Tryz.zeroValue20
 t21:=Tryz.underlying21
 a21:=Tryz.isAgg21
 z21:=Tryz.sizeOf21
 v21:=Tryz.zeroValue21
 t37:=Tryz.underlying70
 a37:=Tryz.isAgg70
 z37:=Tryz.sizeOf70
 v37:=Tryz.zeroValue70
 t46:=Tryz.underlying228
 a46:=Tryz.isAgg228
 z46:=Tryz.sizeOf228
 v46:=Tryz.zeroValue228
 t51:=Tryz.underlying286
 a51:=Tryz.isAgg286
 z51:=Tryz.sizeOf286
 v51:=Tryz.zeroValue286
 t53:=Tryz.underlying199
 a53:=Tryz.isAgg199
 z53:=Tryz.sizeOf199
 v53:=Tryz.zeroValue199
 t75:=Tryz.underlying321
 a75:=Tryz.isAgg321
 z75:=Tryz.sizeOf321
 v75:=Tryz.zeroValue321
 t85:=Tryz.underlying322
 a85:=Tryz.isAgg322
 z85:=Tryz.sizeOf322
 v85:=Tryz.zeroValue322
 t127:=Tryz.underlying388
 a127:=Tryz.isAgg388
 z127:=Tryz.sizeOf388
 v127:=Tryz.zeroValue388
 t143:=Tryz.underlying389
 a143:=Tryz.isAgg389
 z143:=Tryz.sizeOf389
 v143:=Tryz.zeroValue389
 t145:=Tryz.underlying391
 a145:=Tryz.isAgg391
 z145:=Tryz.sizeOf391
 v145:=Tryz.zeroValue391
 t167:=Tryz.underlying369
 a167:=Tryz.isAgg369
 z167:=Tryz.sizeOf369
 v167:=Tryz.zeroValue369
 t168:=Tryz.underlying372
 a168:=Tryz.isAgg372
 z168:=Tryz.sizeOf372
 v168:=Tryz.zeroValue372
 t171:=Tryz.underlying315
 a171:=Tryz.isAgg315
 z171:=Tryz.sizeOf315
 v171:=Tryz.zeroValue315
 t173:=Tryz.underlying317
 a173:=Tryz.isAgg317
 z173:=Tryz.sizeOf317
 v173:=Tryz.zeroValue317
 t175:=Tryz.underlying370
 a175:=Tryz.isAgg370
 z175:=Tryz.sizeOf370
 v175:=Tryz.zeroValue370
 t210:=Tryz.underlying381
 a210:=Tryz.isAgg381
 z210:=Tryz.sizeOf381
 v210:=Tryz.zeroValue381
 t212:=Tryz.underlying344
 a212:=Tryz.isAgg344
 z212:=Tryz.sizeOf344
 v212:=Tryz.zeroValue344
 t213:=Tryz.underlying345
 a213:=Tryz.isAgg345
 z213:=Tryz.sizeOf345
 t232:=Tryz.underlying376
 a232:=Tryz.isAgg376
 z232:=Tryz.sizeOf376
 v232:=Tryz.zeroValue376
 t233:=Tryz.underlying377
 a233:=Tryz.isAgg377
 z233:=Tryz.sizeOf377
 v233:=Tryz.zeroValue377
 g15:=by kernel_rfl
 g16:=by kernel_rfl
 g17:=by kernel_rfl
 g18:=by kernel_rfl
 g19:=by kernel_rfl
 t80:=Tryz.underlying393
 a80:=Tryz.isAgg393
 z80:=Tryz.sizeOf393
 v80:=Tryz.zeroValue393
 i0:=by kernel_rfl
 i2:=by kernel_rfl
 i3:=by kernel_rfl
 i4:=by kernel_rfl
 i5:=by kernel_rfl
 i9:=by kernel_rfl
 i20:=by kernel_rfl
 i21:=by kernel_rfl
 i37:=by kernel_rfl
 i46:=by kernel_rfl
 i51:=by kernel_rfl
 i53:=by kernel_rfl
 i75:=by kernel_rfl
 i80:=by kernel_rfl
 i85:=by kernel_rfl
 i127:=by kernel_rfl
 i143:=by kernel_rfl
 i145:=by kernel_rfl
 i167:=by kernel_rfl
 i168:=by kernel_rfl
 i171:=by kernel_rfl
 i173:=by kernel_rfl
 i175:=by kernel_rfl
 i210:=by kernel_rfl
 i212:=by kernel_rfl
 i232:=by kernel_rfl
 i233:=by kernel_rfl
 m15:=by kernel_rfl
 m16:=by kernel_rfl
 m17:=by kernel_rfl
 m18:=by kernel_rfl
 m19:=by kernel_rfl
 c0:=by kernel_rfl
 c2:=by kernel_rfl
 c3:=by kernel_rfl
 c4:=by kernel_rfl
 c5:=by kernel_rfl
 c9:=by kernel_rfl
 c20:=by kernel_rfl
 c21:=by kernel_rfl
 c37:=by kernel_rfl
 c46:=by kernel_rfl
 c51:=by kernel_rfl
 c53:=by kernel_rfl
 c75:=by kernel_rfl
 c80:=by kernel_rfl
 c85:=by kernel_rfl
 c127:=by kernel_rfl
 c143:=by kernel_rfl
 c145:=by kernel_rfl
 c167:=by kernel_rfl
 c168:=by kernel_rfl
 c171:=by kernel_rfl
 c173:=by kernel_rfl
 c175:=by kernel_rfl
 c210:=by kernel_rfl
 c212:=by kernel_rfl
 c213:=by kernel_rfl
 c232:=by kernel_rfl
 c233:=by kernel_rfl}
open Go.RowKit in
theorem Tryz.strconv_ParseInt_10_at64_ok (s:ByteArray)(hmax:s.size≤9223372036854775806)(v:Int)(h:Lib.parseIntB 64 s.data.toList=.ok v)(w:World):
  Calls Tryz.prog 271 #[.string s,.int .i64 10,.int .i64 64] w λe w'=>e=.returned (.tuple #[.int .i64 v,.nilIface])/\(w'=w∨∃t,w'=Lib.bytesWorld w 5 t):=Any.strconv_ParseInt_10_at64_ok Tryz.laysC174 s hmax v h w
end Go.Proofs
end
section
set_option maxHeartbeats 4000000
namespace Go.Abs
open Go.RowKit
theorem z4B {G:Globs}{base:Nat}{κ:Key}{Im:Addr->Prop}{w w':World}{t:TypeId}{fz:Nat×Nat}{A:Nat}{cur:Array Value}{l:List (List UInt8)}(hs:SRel base κ Im [] w)(hb:Below w.heap.size w w')(hl:l.length≤9223372036854775807)
  (hA:w.heap.size≤A) (hg:w'.heap[A]? =some (.cells cur t fz)) (hcur:cur.toList=l.map λs=>Value.string ⟨s.toArray⟩):
  ∃Im',SRel base κ Im' [] w'/\Grow base κ Im w κ Im' w'/\IR Im' w' (.lst (l.map λs=> [.str s])) (.slice (some ⟨A,0,none⟩) l.length l.length):=by
 have m:A<w'.heap.size:=by
  rcases yd2 A w'.heap.size with h|h
  ·exact h
  ·rw[Array.getElem?_eq_none h]at hg;cases hg
 have f:∀k (d:k<l.length),w'.cell? ⟨A,0+(k*1+0),none⟩=some (.string ⟨(l[k]).toArray⟩):=λk d=>by
  have e:cur[0+(k*1+0)]? =some (.string ⟨(l[k]).toArray⟩):=by
   rw[<-yby,hcur];simp[d]
  simp[World.cell?,hg]
  simpa using e
 refine⟨λa=>Im a∨(a.block=A/\a.spot=none),hs.world (λ_ h=> .inl h) (λa h=>h.imp id λh=>⟨by rw[h.1];exact hA,by rw[h.1];exact m,h.2⟩) hb.size hb.block,
  ⟨λ_ _ _ h=>h,λ_ h=> .inl h,λa p=>ya6 (hb.block _ (hs.imlt a p).1),λa h=>h.imp id λh=>by rw[h.1];exact ycm hs.hb hA,hb.mono hs.hb⟩, ?_⟩
 have b:(l.map λs=> [AV.str s]).length=l.length:=by simp
 have:=IR.lst (Im:=λa=>Im a∨(a.block=A/\a.spot=none)) (w:=w') (l.map λs=> [AV.str s]) 1 A 0 l.length (λk _=> .string ⟨(l.getD k []).toArray⟩) (by simp) hl
  (λc i=>by simp only[yav]at i;obtain⟨x,_,rfl⟩:=i;rfl)
  (λc i x n=>by simp only[yav]at i;obtain⟨y,_,rfl⟩:=i;simp at n;subst n;rfl)
  (λk j d o=>by
   rw[b]at d
   have g:j=0:=by omega
   subst g
   exact⟨.inr ⟨rfl,rfl⟩,by rw[f k d];simp[List.getD,d]⟩)
  (λk j d o=>by
   rw[b]at d
   have g:j=0:=by simpa using o
   subst g
   simp only[ycy,yb5]
   have e:l.getD k []=l[k]:=by simp[List.getD,d]
   rw[e]
   exact .str _)
 rw[b]at this
 exact this
end Go.Abs
namespace Go.Proofs.YtdbhocoeolhjhaaGreatDoor
open Go.Abs Go.RowKit Go.Sf Go.Ble
variable {G:Globs}
class GMaxL [Globs]:Prop where
 mx:∃m:Int,(0,[AV.int .i64 m])∈Globs.tab
def txts (l:List Txt):List (List AV):=l.map λs=> [.str s]
theorem z3y [GMaxL](s:List UInt8)(hs:s.length≤1000000):PCalls Tryz.prog 228 [.str s,.str [46]] (λr=>r=.lst (txts (dots s))):=by
 intro base κ Im w u g o
 obtain⟨p,q,rfl⟩:∃p q,u= [p,q]:=by
  match u,o.1 with
  | [a,b],_=>exact⟨a,b,rfl⟩
 have v:=(o.2 0 (by simp) (by simp)).str_inv
 have z:=(o.2 1 (by simp) (by simp)).str_inv
 simp only[yb5,ydi]at v z
 subst v z
 obtain⟨m,B⟩:=GMaxL.mx
 obtain⟨d,j,k⟩:=z35 g B
 have c:w.cell? ⟨0,0,none⟩=some (.int .i64 m):=by
  have i:=j 0 (by simp)
  have f:=k 0 (by simp)
  simp only[yb5]at f
  generalize d 0=y at i f
  cases f
  exact i
 have G:=zpF s
 have D:Lib.countB ⟨s.toArray⟩ ⟨#[46]⟩+1=(dots s).length:=by rw[zzy]
 have E:(Lib.splitB ⟨#[46]⟩ 0 (Lib.countB ⟨s.toArray⟩ ⟨#[46]⟩) ⟨s.toArray⟩).map Value.string=(dots s).map λx=>Value.string ⟨x.toArray⟩:=by
  have h:=Lib.splitB_data ⟨#[46]⟩ 0 (Lib.countB ⟨s.toArray⟩ ⟨#[46]⟩) ⟨s.toArray⟩
  have F:(Lib.splitB ⟨#[46]⟩ 0 (Lib.countB ⟨s.toArray⟩ ⟨#[46]⟩) ⟨s.toArray⟩).map (·.data.toList)=dots s:=by
   rw[h];exact zrS s
  rw[<-F,yeb]
  rfl
 refine(Tryz.strings_Split ⟨s.toArray⟩ ⟨#[46]⟩ m w (by show s.toArray.size<_;simp;omega) c (by decide)).mono ?_
 rintro e w' ⟨rfl,rfl⟩
 rw[D,E]
 obtain⟨n,i,f,C⟩:=z4B (A:=w.heap.size) (l:=dots s) (t:=9) (fz:=(0,0)) (cur:=((dots s).map λl=>Value.string ⟨l.toArray⟩).toArray) g (w':=w.alloc (.cells ((dots s).map λl=>Value.string ⟨l.toArray⟩).toArray 9)) (Go.RowKit.Below.alloc (Go.RowKit.Below.refl _ _) (yap _) _) (by omega) (yap _) (Go.MapKept.heap_alloc w _).1 (by simp)
 exact⟨_,[],_,κ,n,rfl,⟨rfl,rfl⟩,i,f,.im _ _ C⟩
theorem z1E:∀i<100,Lib.parseIntB 64 (Lib.decDigits i)=.ok (i:Int):=by decide+kernel
theorem z0F (i:Nat)(hi:i<100):PCalls Tryz.prog 271 [.str (Lib.decDigits i),.int .i64 10,.int .i64 64] (λr=>r=.tup [.int .i64 i,.nili]):=
 z8j λbase κ Im w v u x l b c d=>by
  cases b.str_inv;cases c.int_inv;cases d.int_inv
  have m:=zt5 i hi
  refine(Tryz.strconv_ParseInt_10_at64_ok ⟨(Lib.decDigits i).toArray⟩ (by simp[ByteArray.size];omega) (i:Int) (by simpa using z1E i hi) w).mono ?_
  rintro e k ⟨rfl,a⟩
  refine⟨.tup [.int .i64 i,.nili],_,rfl,rfl, ?_,λf=> .tup _ [_,_] rfl λj g h=>by
   match j,g with
   |0,_=>exact .int _ _
   |1,_=>exact .nili⟩
  rcases a with rfl|⟨t,rfl⟩
  ·exact Go.RowKit.Below.refl _ _
  ·exact Lib.bytesWorld_below _ _ _
theorem zyW (i:Nat)(hi:i<100):PCalls Tryz.prog 272 [.int .i64 i,.int .i64 10] (λr=>r=.str (Lib.decDigits i)):=by
 refine zpN λbase κ Im w v u h a b=> ?_
 have d:=a.int_inv
 have f:=b.int_inv
 subst d;subst f
 refine(Tryz.strconv_FormatInt_10_small i hi w).mono ?_
 rintro e g ⟨rfl,rfl⟩
 exact⟨_,_,rfl,rfl,Go.RowKit.Below.refl _ _,λc=> .str _⟩
theorem ztT (i:Nat)(h1:1≤i)(hi:i<100):PCalls Tryz.prog zqZ [.str (Lib.decDigits i)] (λr=>r=.tup [.int .i64 i,.bool true]):=by
 refine zaa hmix zqx rfl ?_
 have b:(1:Int)≤i:=by omega
 have c:(i:Int)≤1099511627776:=by omega
 have a:i≤1099511627776:=by omega
 simp[zkn]
 refine zac (z0F i hi) (by simp[AV.pure]) ?_
 rintro r rfl
 simp[b,h1,c,a]
 refine zac (zyW i hi) (by simp[AV.pure]) ?_
 rintro r rfl
 simp
theorem z1I:∀id<5,∀q<70,∀k∈ [kindP,kindC],dots (zaD id q k)= [Lib.decDigits id,Lib.decDigits q,k.drop 1]:=by decide+kernel
theorem z4R:∀id<5,∀q<70,∀k∈ [kindP,kindC],(zaD id q k).length≤96:=by decide+kernel
theorem zxE [GMaxL](id q:Nat)(kd:Txt)(h1:1≤id)(h5:id<5)(q1:1≤q)(q70:q<70)(hk:kd=kindP∨kd=kindC):PCalls Tryz.prog zsN [.str (zaD id q kd)] (λr=>r=.tup [.agg [.str (zaD id q kd),.int .i64 id,.int .i64 q,.str kd],.bool true]):=by
 refine zaa hmix zso rfl ?_
 have a:kd∈ [kindP,kindC]:=by rcases hk with rfl|rfl<;>simp
 have c:=z1I id h5 q q70 kd a
 have f:=z4R id h5 q q70 kd a
 have b:=z3y (G:=G) (zaD id q kd) (by omega)
 rw[c]at b
 simp only[txts,yci,List.map_nil]at b
 have d:=ztT (G:=G) id h1 (by omega)
 have e:=ztT (G:=G) q q1 (by omega)
 rcases hk with rfl|rfl
 all_goals
  simp[zl0]
  refine zac b (by simp[AV.pure]) ?_
  rintro r rfl
  simp
  refine zac d (by simp[AV.pure]) ?_
  rintro r rfl
  simp
  refine zac e (by simp[AV.pure]) ?_
  rintro r rfl
  simp[kindP,kindC,splice]
end Go.Proofs.YtdbhocoeolhjhaaGreatDoor
end
section
set_option maxHeartbeats 8000000
namespace Go.Sf
open Go.Abs
theorem zoP (i:Nat):(2:Nat)^(8*i)=256^i:=by rw[Nat.pow_mul]
theorem zmu {i:Nat}{k y:Nat}(hi:i<k)(hy:y<256):y*256^i<256^k:=by
 have a:256^i*256≤256^k:=by rw[<-yc4];exact yd8 (by decide) hi
 have b:y*256^i≤255*256^i:=yat _ (by omega)
 have c:0<256^i:=Nat.pow_pos (by decide)
 omega
theorem zl1 {n y i:Nat}(h:n<256^i):n|||y*256^i=n+y*256^i:=by
 have:=Nat.shiftLeft_add_eq_or_of_lt (i:=8*i) (b:=n) (by rw[zoP];exact h) y
 rw[Nat.shiftLeft_eq,zoP]at this
 rw[Nat.or_comm,<-this,yey]
end Go.Sf
namespace Go.Proofs.YtdbhocoeolhjhaaGreatDoor
open Go.Abs Go.RowKit Go.Sf
variable {G:Globs}
attribute [-simp] zaZ zc9 zbQ zax
theorem zyz {n:Nat}(h:n<4294967296):IntKind.u32.wrap (n:Int)=n:=by
 simp[IntKind.wrap,IntKind.signed,IntKind.bits];omega
theorem z7q {y i:Nat}(hy:y<256)(hi:i<8):zaZ .shl (.int .u64 (y:Int)) (.int .i64 (8*(i:Int)))=some (.int .u64 ((y*256^i:Nat):Int)):=by
 have a:(8*(i:Int)).toNat=8*i:=by omega
 have b:(0:Int)≤8*i:=by omega
 have c:min (8*i) 64=8*i:=by omega
 have d:(y:Int)*2^(8*i)=((y*256^i:Nat):Int):=by rw[<-zoP];simp
 have e:=zib (yca (zmu hi hy) (by decide:256^8≤18446744073709551616))
 simp only[zaZ,zax,a,b,IntKind.bits,c,d,e];rfl
theorem z8v {y i:Nat}(hy:y<256)(hi:i<4):zaZ .shl (.int .u32 (y:Int)) (.int .i64 (8*(i:Int)))=some (.int .u32 ((y*256^i:Nat):Int)):=by
 have a:(8*(i:Int)).toNat=8*i:=by omega
 have b:(0:Int)≤8*i:=by omega
 have c:min (8*i) 32=8*i:=by omega
 have d:(y:Int)*2^(8*i)=((y*256^i:Nat):Int):=by rw[<-zoP];simp
 have e:=zyz (zmu hi hy)
 simp only[zaZ,zax,a,b,IntKind.bits,c,d,e];rfl
theorem zAl {n y i:Nat}(hn:n<256^i)(hy:y<256)(hi:i<8):zaZ .or (.int .u64 (n:Int)) (.int .u64 ((y*256^i:Nat):Int))=some (.int .u64 ((n+y*256^i:Nat):Int)):=by
 have a:=zmu hi hy
 have b:256^i≤256^7:=yd8 (by decide) (by omega)
 have c:(256:Nat)^8=18446744073709551616:=rfl
 have d:(256:Nat)^7=72057594037927936:=rfl
 have e:IntKind.u64.wrap (BitVec.ofInt 64 (n:Int)|||BitVec.ofInt 64 ((y*256^i:Nat):Int)).toNat=((n+y*256^i:Nat):Int):=by
  rw[ydr,ydr,z5D,BitVec.toNat_or,yd6,yd6,ybj (by omega),ybj (by omega),zl1 hn]
 show some (AV.int .u64 (IntKind.u64.wrap (BitVec.ofInt 64 (n:Int)|||BitVec.ofInt 64 ((y*256^i:Nat):Int)).toNat))=_
 rw[e]
theorem zAi {n y i:Nat}(hn:n<256^i)(hy:y<256)(hi:i<4):zaZ .or (.int .u32 (n:Int)) (.int .u32 ((y*256^i:Nat):Int))=some (.int .u32 ((n+y*256^i:Nat):Int)):=by
 have a:=zmu hi hy
 have b:256^i≤256^3:=yd8 (by decide) (by omega)
 have c:(256:Nat)^4=4294967296:=rfl
 have d:(256:Nat)^3=16777216:=rfl
 have e:IntKind.u32.wrap (BitVec.ofInt 32 (n:Int)|||BitVec.ofInt 32 ((y*256^i:Nat):Int)).toNat=((n+y*256^i:Nat):Int):=by
  rw[ydr,ydr,z6W,BitVec.toNat_or,yd6,yd6,ybj (by omega),ybj (by omega),zl1 hn]
 show some (AV.int .u32 (IntKind.u32.wrap (BitVec.ofInt 32 (n:Int)|||BitVec.ofInt 32 ((y*256^i:Nat):Int)).toNat))=_
 rw[e]
theorem z9x {y:Nat}(hy:y<256):zaZ .shl (.int .i64 (y:Int)) (.int .u64 8)=some (.int .i64 ((y*256^1:Nat):Int)):=by
 have h:IntKind.i64.wrap ((y:Int)*256)=((y*256^1:Nat):Int):=by rw[wrap_i64 (by omega) (by omega)];simp
 show some (AV.int .i64 (IntKind.i64.wrap ((y:Int)*256)))=_
 rw[h]
theorem z91 {n y:Nat}(hn:n<256)(hy:y<256):zaZ .or (.int .i64 (n:Int)) (.int .i64 ((y*256^1:Nat):Int))=some (.int .i64 ((n+y*256:Nat):Int)):=by
 have e:((BitVec.ofInt 64 (n:Int)|||BitVec.ofInt 64 ((y*256^1:Nat):Int)).toNat:Int)=((n+y*256:Nat):Int):=by
  rw[ydr,ydr,BitVec.toNat_or,yd6,yd6,ybj (by omega),ybj (by omega),zl1 (by omega)]
 show some (AV.int .i64 (IntKind.i64.wrap (BitVec.ofInt 64 (n:Int)|||BitVec.ofInt 64 ((y*256^1:Nat):Int)).toNat))=_
 rw[e,wrap_i64 (by omega) (by omega)]
theorem zxQ {b:Txt}{i:Nat}{y:UInt8}(h:b[i]? =some y):leN (b.take (i+1))=leN (b.take i)+y.toNat*256^i/\leN (b.take i)<256^i:=by
 have e:=(yaa.1 h).1
 have a:(b.take i).length=i:=by simp;omega
 have d:b.take (i+1)=b.take i++ [y]:=by rw[yau,h];rfl
 have c:=zA0 (b.take i)
 rw[a]at c
 refine⟨?_,c⟩
 rw[d,zxO,a,ybp]
theorem zwV (hT:zgo G)(a:Txt)(ha:a≠ [])(hl:a.length≤100000000):PCalls Tryz.prog zwB [.lst (byteEls (putB a))] (λr=>r=.tup [.lst (byteEls a),.int .i64 0]):=by
 refine zaa hmix zwF rfl ?_
 have q:=zaj a
 have h:(byteEls (putB a)).length=a.length+4:=by rw[zaj,zyg]
 have K:IntKind.i64.wrap (((a.length+4:Nat):Int)-4)=a.length:=by rw[wrap_i64 (by omega) (by omega)];omega
 have L:¬(a.length:Int)<0:=by omega
 have k:(byteEls (putB a)).take a.length=byteEls a:=by
  unfold putB
  rw[zck,ycb q]
 have b:=(za4 (putB a)).1
 simp[zqr,h,K,L, -Int.natCast_add]
 obtain⟨c,g⟩:∃c,c=leB (crcU 0 a) 4:=⟨_,rfl⟩
 have M:c.length=4:=by rw[g,zaC]
 refine zag (λx f σ=>∃i:Nat,x=4-i/\i≤4/\f 0=.lst (byteEls (putB a))/\f 4=.int .i64 a.length/\f 5=.int .u32 (leN (c.take i))/\f 12=.int .i64 i/\σ= []) 4 ?_ ?_
 ·exact⟨0,by simp,by simp,by simp,by simp,by simp[leN],by simp,by simp⟩
 rintro x f σ ⟨i,rfl,R,m,n,p,j,rfl⟩
 simp[j]
 refine zaq (λI=> ?_) (λJ=> ?_)
 ·have d:i<4:=by omega
  have s:IntKind.i64.wrap ((i:Int)+1)=((i+1:Nat):Int):=by rw[wrap_i64 (by omega) (by omega)];omega
  have t:IntKind.i64.wrap (8*(i:Int))=8*(i:Int):=wrap_i64 (by omega) (by omega)
  have u:IntKind.i64.wrap ((a.length:Int)+i)=((a.length+i:Nat):Int):=by rw[wrap_i64 (by omega) (by omega)];omega
  obtain⟨y,A⟩:∃y,c[i]? =some y:=⟨_,yac (by omega)⟩
  have v:(putB a)[a.length+i]? =some y:=by
   unfold putB
   rw[yak (by omega),<-g,show a.length+i-a.length=i by omega];exact A
  have B:=zeH v
  obtain⟨E,o⟩:=yaa.1 B
  have l:=y.toNat_lt
  have w:IntKind.u32.wrap (y.toNat:Int)=y.toNat:=zyz (by omega)
  obtain⟨F,H⟩:=zxQ A
  have O:=z8v l d
  have C:=zAi H l d
  rw[<-F]at C
  simp[m,n,p,j,t,u,B,o,zbz,w,O,C,s, -Int.natCast_add, -Int.natCast_mul]
  exact zad (4-(i+1)) (by omega) ⟨i+1,rfl,by omega,by simp[m],by simp[n],by simp,by simp,rfl⟩
 ·have z:i=4:=by omega
  subst z
  have D:U32 (crcU 0 a):=zBf _ _
  have P:(leN (c.take 4):Int)=crcU 0 a:=by
   have Q:=ztx (crcU 0 a) 4
   rw[yao (by omega),g,Q]
   have:=D.1
   have:=D.2
   have e:((256^4:Nat):Int)=4294967296:=rfl
   rw[e];omega
  rw[P]at p
  simp[m,n,p,h]
  rw[if_pos b,k]
  simp
  refine zac (ztK hT a (by omega)) (by simp[AV.pure]) ?_
  rintro r rfl
  simp[m,n,h]
  rw[if_pos b,k]
  simp
  refine zam (zpV a ha (by omega)) ?_
  rintro r σ' ⟨rfl,rfl⟩
  simp[zeI,zaj]
theorem zn2 (hT:zgo G)(p rest:Txt)(h1:1≤p.length)(h2:p.length≤512)(hr:rest.length≤100000000):PCalls Tryz.prog znH [.lst (byteEls (zaI p++rest))] (λr=>r=.tup [.lst (byteEls p),.int .i64 (p.length+6:Nat),.int .i64 0]):=by
 refine zaa hmix zoi rfl ?_
 obtain⟨B,c⟩:∃B,B=zaI p++rest:=⟨_,rfl⟩
 have j:B.length=p.length+6+rest.length:=by rw[c,yaj,zb1]
 have k:(byteEls B).length=p.length+6+rest.length:=by rw[zaj,j]
 rw[<-c]
 have H:B[0]? =some (lo8 p.length):=by rw[c];rfl
 have I:B[1]? =some (lo8 ((p.length:Int).fdiv 256)):=by rw[c];rfl
 have l:=zeH H
 have h:=zeH I
 obtain⟨T,y⟩:=yaa.1 l
 obtain⟨U,i⟩:=yaa.1 h
 have J:=zxe p.length
 have z:=zxe ((p.length:Int).fdiv 256)
 rw[ydg _ (by decide)]at z h i
 have A:=(lo8 p.length).toNat_lt
 have m:=(lo8 ((p.length:Int)/256)).toNat_lt
 obtain⟨a,E⟩:∃a,a=(lo8 p.length).toNat:=⟨_,rfl⟩
 obtain⟨b,F⟩:∃b,b=(lo8 ((p.length:Int)/256)).toNat:=⟨_,rfl⟩
 rw[<-E]at J l y A
 rw[<-F]at z h i m
 have K:IntKind.i64.wrap (a:Int)=a:=wrap_i64 (by omega) (by omega)
 have L:IntKind.i64.wrap (b:Int)=b:=wrap_i64 (by omega) (by omega)
 have M:=z9x m
 have C:=z91 A m
 have n:a+b*256=p.length:=by omega
 rw[n]at C
 have D:IntKind.i64.wrap ((p.length:Int)+6)=((p.length+6:Nat):Int):=by rw[wrap_i64 (by omega) (by omega)];omega
 have O:¬((p.length+6+rest.length:Nat):Int)<2:=by omega
 have P:¬(p.length:Int)=0:=by omega
 have o:¬p.length=0:=by omega
 have Q:¬(512:Int)<p.length:=by omega
 have R:¬((p.length+6+rest.length:Nat):Int)<((p.length+6:Nat):Int):=by omega
 have d:=(za4 B).1
 have s:(byteEls B).take (p.length+6)=byteEls (zaI p):=by
  rw[c,zck,ycb (by rw[zaj,zb1])]
 obtain⟨q,g⟩:∃q,q= [lo8 p.length,lo8 ((p.length:Int).fdiv 256)]++p:=⟨_,rfl⟩
 have t:zaI p=putB q:=by rw[g];rfl
 have e:q.length=p.length+2:=by rw[g];simp
 have S:=zwV (G:=G) hT q (by rw[g];simp) (by omega)
 have u:(byteEls q).drop 2=byteEls p:=by rw[g];rfl
 have v:=(za4 q).1
 have f:=zaj q
 simp[ziv,k,l,h,y,i,K,L,M,C,D,O,P,o,Q,R,zbz, -Int.natCast_add, -Int.natCast_mul]
 rw[if_pos d,s,t]
 simp
 refine zac S (by simp[AV.pure]) ?_
 rintro r rfl
 simp[f,e,D]
 have w:(byteEls q).take (p.length+2)=byteEls q:=yao (by rw[f,e];exact yap _)
 have x:IntKind.i64.wrap ((p.length:Int)+6)=(p.length:Int)+6:=wrap_i64 (by omega) (by omega)
 rw[if_pos v,w,u]
 simp[x]
theorem zsC:PCalls Tryz.prog znH [.lst []] (λr=>r=.tup [.lst [],.int .i64 0,.int .i64 9]):=by
 refine zaa hmix zoi rfl ?_
 simp[ziv]
end Go.Proofs.YtdbhocoeolhjhaaGreatDoor
end
section
set_option maxHeartbeats 8000000
namespace Go.Proofs.YtdbhocoeolhjhaaGreatDoor
open Go.Abs Go.RowKit Go.Sf
variable {G:Globs}
attribute [-simp] zaZ zc9 zbQ zax
abbrev rdV (b:Txt):Entry:=.var 350 [.lst (byteEls b),.bool false]
theorem zuo {σ:zab}{k:Nat}(a b:Txt)(hk:σ[k]? =some (rdV (a++b)))(hl:(a++b).length≤1000000000):ACalls Tryz.prog zi9 [.ptr k 0,.int .i64 a.length] σ (λr σ'=>r=.lst (byteEls a)/\σ'=σ.set k (rdV b)):=by
 refine zaf hmix ziY rfl ?_
 obtain⟨B,f⟩:∃B,B=a++b:=⟨_,rfl⟩
 rw[<-f]at hk hl
 have d:=zaj B
 have e:a.length≤B.length:=by rw[f];simp
 have i:¬(B.length:Int)<a.length:=by omega
 have g:¬B.length<a.length:=by omega
 have c:=(za4 B).1
 have j:(byteEls B).take a.length=byteEls a:=by rw[f,zck,ycb (zaj a)]
 have l:(byteEls B).drop a.length=byteEls b:=by rw[f,zck,List.drop_left' (zaj a)]
 have h:(byteEls B).take B.length=byteEls B:=yao (by omega)
 simp[zfb,hk,rdV,d,i,g,e,splice]
 rw[if_pos c,j]
 simp[hk,d,e,splice]
 rw[if_pos c,h,l]
 simp[hk,splice]
 exact zuI hk (.lst (byteEls a)) (by simp[za5]) (by simp[AV.under]) (by simp[Entry.under,AV.under]) ⟨rfl,rfl⟩
theorem zcg {σ:zab}{k:Nat}(x:Int)(w:Nat)(b:Txt)(v:Int)(hv:IntKind.i64.wrap (leN (leB x w):Int)=v)(hk:σ[k]? =some (rdV (leB x w++b)))(h8:w≤8)(hl:b.length≤900000000):ACalls Tryz.prog zhK [.ptr k 0,.int .i64 w] σ (λr σ'=>r=.int .i64 v/\σ'=σ.set k (rdV b)):=by
 refine zaf hmix zhS rfl ?_
 have a:=zaC x w
 have m:=zuo (G:=G) (leB x w) b hk (by rw[yaj,a];omega)
 rw[a]at m
 obtain⟨c,B⟩:∃c,c=leB x w:=⟨_,rfl⟩
 rw[<-B]at m a hv
 have n:=zaj c
 simp[zep]
 refine zam m ?_
 rintro r σ' ⟨rfl,rfl⟩
 simp[n,a]
 refine zag (λx f σ'=>∃i:Nat,x=w-i/\i≤w/\f 5=.int .u64 (leN (c.take i))/\f 10=.lst (byteEls c)/\f 11=.int .i64 w/\f 12=.int .i64 i/\σ'=σ.set k (rdV b)) w ?_ ?_
 ·exact⟨0,by simp,by simp,by simp[leN],by simp,by simp,by simp,rfl⟩
 rintro x f σ' ⟨i,rfl,J,l,d,e,g,rfl⟩
 simp[e,g]
 refine zaq (λF=> ?_) (λH=> ?_)
 ·have u:i<w:=by omega
  have o:IntKind.i64.wrap ((i:Int)+1)=((i+1:Nat):Int):=by rw[wrap_i64 (by omega) (by omega)];omega
  have p:IntKind.i64.wrap (8*(i:Int))=8*(i:Int):=wrap_i64 (by omega) (by omega)
  obtain⟨y,t⟩:∃y,c[i]? =some y:=⟨_,yac (by omega)⟩
  have z:=zeH t
  obtain⟨C,j⟩:=yaa.1 z
  have h:=y.toNat_lt
  have q:IntKind.u64.wrap (y.toNat:Int)=y.toNat:=zib (by omega)
  obtain⟨D,E⟩:=zxQ t
  have I:=z7q h (show i<8 by omega)
  have A:=zAl E h (by omega)
  rw[<-D]at A
  simp[l,d,g,z,j,zbz,q,p,I,A,o, -Int.natCast_add, -Int.natCast_mul]
  exact zad (w-(i+1)) (by omega) ⟨i+1,rfl,by omega,by simp,by simp[d],by simp[e],by simp,rfl⟩
 ·have s:i=w:=by omega
  subst s
  rw[yao (by omega)]at l
  simp[l,hv]
  exact zuI hk (.int .i64 v) (by simp[za5]) (by simp[AV.under]) (by simp[Entry.under,AV.under,rdV]) ⟨rfl,rfl⟩
theorem zdA {t k:Nat}(h:t<256^k)(h2:t≤1099511627776):IntKind.i64.wrap (leN (leB (t:Int) k):Int)=t:=by rw[z7h h];exact wrap_i64 (by omega) (by omega)
theorem zw0 (n:Int):leB n 1= [lo8 n]:=rfl
theorem z2B (t now:Nat)(v:Int)(ht:t≤1099511627776)(hn:now≤1099511627776)(hv:v≠ -9223372036854775808)(hv2:i64 v):PCalls Tryz.prog zeL [.lst (byteEls (zdw t now v))] (λr=>r=.tup [.agg (zci (.lst []) t now v),.int .i64 0]):=by
 refine zaa hmix zgJ rfl ?_
 have e:zdw t now v=leB (2:Nat) 1++(leB t 8++(leB now 8++(leB v 8++ []))):=by simp[zdw,zw0]
 have kR:=zrZ (G:=G) .nils (.inl rfl) t now v ht hn hv
 simp only[zci]at kR
 rw[e]
 simp[zeN]
 refine zam (zcg (k:=1) (2:Nat) 1 (leB t 8++(leB now 8++(leB v 8++ []))) (2:Nat) (zdA (by decide) (by decide)) (by simp[rdV]) (by decide) (by simp[zaC])) ?_
 rintro r σ' ⟨rfl,rfl⟩
 simp[splice,rdV]
 refine zam (zcg (k:=1) t 8 (leB now 8++(leB v 8++ [])) t (zdA (by omega) ht) (by simp[rdV]) (by decide) (by simp[zaC])) ?_
 rintro r σ' ⟨rfl,rfl⟩
 simp[splice,rdV]
 refine zam (zcg (k:=1) now 8 (leB v 8++ []) now (zdA (by omega) hn) (by simp[rdV]) (by decide) (by simp[zaC])) ?_
 rintro r σ' ⟨rfl,rfl⟩
 simp[splice,rdV]
 refine zam (zcg (k:=1) v 8 [] v (z2R hv2) (by simp[rdV]) (by decide) (by simp)) ?_
 rintro r σ' ⟨rfl,rfl⟩
 simp[splice,rdV,byteEls]
 refine zac kR (by simp[AV.pure]) ?_
 rintro r rfl
 simp[splice,zci]
theorem z16 (i t:Nat)(v:Int)(hi:i<4)(ht:t≤1099511627776)(hv:v≠ -9223372036854775808)(hv2:i64 v):PCalls Tryz.prog zeL [.lst (byteEls (zgN i t v))] (λr=>r=.tup [.agg (zdN (.lst []) i t v),.int .i64 0]):=by
 refine zaa hmix zgJ rfl ?_
 have e:zgN i t v=leB (3:Nat) 1++(leB i 1++(leB t 8++(leB v 8++ []))):=by simp[zgN,zw0]
 have kR:=zrP (G:=G) .nils (.inl rfl) i t v hi ht hv
 simp only[zdN]at kR
 rw[e]
 simp[zeN]
 refine zam (zcg (k:=1) (3:Nat) 1 (leB i 1++(leB t 8++(leB v 8++ []))) (3:Nat) (zdA (by decide) (by decide)) (by simp[rdV]) (by decide) (by simp[zaC])) ?_
 rintro r σ' ⟨rfl,rfl⟩
 simp[splice,rdV]
 refine zam (zcg (k:=1) i 1 (leB t 8++(leB v 8++ [])) i (zdA (by omega) (by omega)) (by simp[rdV]) (by decide) (by simp[zaC])) ?_
 rintro r σ' ⟨rfl,rfl⟩
 simp[splice,rdV]
 refine zam (zcg (k:=1) t 8 (leB v 8++ []) t (zdA (by omega) ht) (by simp[rdV]) (by decide) (by simp[zaC])) ?_
 rintro r σ' ⟨rfl,rfl⟩
 simp[splice,rdV]
 refine zam (zcg (k:=1) v 8 [] v (z2R hv2) (by simp[rdV]) (by decide) (by simp)) ?_
 rintro r σ' ⟨rfl,rfl⟩
 simp[splice,rdV,byteEls]
 refine zac kR (by simp[AV.pure]) ?_
 rintro r rfl
 simp[splice,zdN]
abbrev hdV (p:Txt)(m f:Int)(X:AV):Entry:=.var 74 [.int .i64 1,.str p,.int .i64 m,.int .i64 f,X,.int .i64 0,.int .i64 0,.int .i64 0,.int .i64 0]
theorem z1b (R0:Entry)(P:Txt)(hl:P.length≤100):ACalls Tryz.prog ziA [.ptr 1 0,.ptr 2 0] [R0,rdV (leB P.length 2++(P++(leB (1:Nat) 1++(leB (500000:Nat) 4++(leB (2:Nat) 1++(leB (10:Nat) 4++(leB (6:Nat) 2++(leB (60:Nat) 4++(leB (5:Nat) 2++ []))))))))),hdV [] 0 0 .nils]
  (λr σ'=>r=.tup []/\σ'= [R0,rdV [],hdV P 1 500000 (.row 3 2),.row 119 2 rungsC true]):=by
 refine zaf hmix ziW rfl ?_
 simp[zfc]
 refine zam (zcg (k:=1) P.length 2 (P++(leB (1:Nat) 1++(leB (500000:Nat) 4++(leB (2:Nat) 1++(leB (10:Nat) 4++(leB (6:Nat) 2++(leB (60:Nat) 4++(leB (5:Nat) 2++ [])))))))) P.length (zdA (by omega) (by omega)) (by simp) (by decide) (by simp[zaC];omega)) ?_
 rintro r σ' ⟨rfl,rfl⟩
 simp
 refine zam (zuo (k:=1) P (leB (1:Nat) 1++(leB (500000:Nat) 4++(leB (2:Nat) 1++(leB (10:Nat) 4++(leB (6:Nat) 2++(leB (60:Nat) 4++(leB (5:Nat) 2++ []))))))) (by simp) (by simp[zaC];omega)) ?_
 rintro r σ' ⟨rfl,rfl⟩
 simp[zi8,splice,hdV]
 refine zam (zcg (k:=1) (1:Nat) 1 (leB (500000:Nat) 4++(leB (2:Nat) 1++(leB (10:Nat) 4++(leB (6:Nat) 2++(leB (60:Nat) 4++(leB (5:Nat) 2++ [])))))) (1:Nat) (zdA (by decide) (by decide)) (by simp) (by decide) (by simp[zaC])) ?_
 rintro r σ' ⟨rfl,rfl⟩
 simp[splice,hdV]
 refine zam (zcg (k:=1) (500000:Nat) 4 (leB (2:Nat) 1++(leB (10:Nat) 4++(leB (6:Nat) 2++(leB (60:Nat) 4++(leB (5:Nat) 2++ []))))) (500000:Nat) (zdA (by decide) (by decide)) (by simp) (by decide) (by simp[zaC])) ?_
 rintro r σ' ⟨rfl,rfl⟩
 simp[splice,hdV]
 refine zam (zcg (k:=1) (2:Nat) 1 (leB (10:Nat) 4++(leB (6:Nat) 2++(leB (60:Nat) 4++(leB (5:Nat) 2++ [])))) (2:Nat) (zdA (by decide) (by decide)) (by simp) (by decide) (by simp[zaC])) ?_
 rintro r σ' ⟨rfl,rfl⟩
 simp
 refine zag (λx f σ=>∃(i:Nat) (b:Txt) (X:AV) (g:zab),x=2-i/\((i=0/\b=leB (10:Nat) 4++(leB (6:Nat) 2++(leB (60:Nat) 4++(leB (5:Nat) 2++ [])))/\X=.nils/\g= [])∨(i=1/\b=leB (60:Nat) 4++(leB (5:Nat) 2++ [])/\X=.row 3 1/\g= [.row 119 2 (rungsC.take 1) true])∨(i=2/\b= []/\X=.row 3 2/\g= [.row 119 2 rungsC true]))/\f 0=.ptr 1 0/\f 1=.ptr 2 0/\f 4=.int .i64 (2-i:Int)/\σ=R0::rdV b::hdV P 1 500000 X::g) 2 ?_ ?_
 ·exact⟨0,_,_,_,by simp,.inl ⟨rfl,rfl,rfl,rfl⟩,by simp,by simp,by simp,by simp[hdV]⟩
 rintro x f σ ⟨i,b,X,g,rfl,j,d,c,h,rfl⟩
 have l:IntKind.i64.wrap (2-1)=1:=by decide
 have m:IntKind.i64.wrap (1-1)=0:=by decide
 rcases j with ⟨rfl,rfl,rfl,rfl⟩|⟨rfl,rfl,rfl,rfl⟩|⟨rfl,rfl,rfl,rfl⟩
 ·simp[d,c,h,rdV,hdV]
  refine zam (zcg (k:=1) (10:Nat) 4 (leB (6:Nat) 2++(leB (60:Nat) 4++(leB (5:Nat) 2++ []))) (10:Nat) (zdA (by decide) (by decide)) (by simp[rdV]) (by decide) (by simp[zaC])) ?_
  rintro r σ' ⟨rfl,rfl⟩
  simp
  refine⟨?_, ?_⟩
  all_goals
   simp[d,c,hdV]
   refine zam (zcg (k:=1) (6:Nat) 2 (leB (60:Nat) 4++(leB (5:Nat) 2++ [])) (6:Nat) (zdA (by decide) (by decide)) (by simp[rdV]) (by decide) (by simp[zaC])) ?_
   rintro r σ' ⟨rfl,rfl⟩
   simp[c,hdV,splice]
   refine zeX true [[.int .i64 10,.int .i64 6]] rfl (by decide) (by simp) (λ_=> .inl rfl) (by simp) (by simp) ?_
   simp[c,h,hdV,splice,l]
   exact zad 1 (by omega) ⟨1,_,_,_,rfl,.inr (.inl ⟨rfl,rfl,rfl,rfl⟩),by simp[d],by simp[c],by simp[wk0,wk1],by simp[hdV,rungsC]⟩
 ·simp[d,c,h,rdV,hdV]
  refine zam (zcg (k:=1) (60:Nat) 4 (leB (5:Nat) 2++ []) (60:Nat) (zdA (by decide) (by decide)) (by simp[rdV]) (by decide) (by simp[zaC])) ?_
  rintro r σ' ⟨rfl,rfl⟩
  simp
  refine⟨?_, ?_⟩
  all_goals
   simp[d,c,hdV]
   refine zam (zcg (k:=1) (5:Nat) 2 [] (5:Nat) (zdA (by decide) (by decide)) (by simp[rdV]) (by decide) (by simp)) ?_
   rintro r σ' ⟨rfl,rfl⟩
   simp[c,hdV,splice]
   refine zbm (rungsC.take 1) [[.int .i64 60,.int .i64 5]] true (by simp) rfl (by decide) (by simp) (λ_=> .inl rfl) (by simp[rungsC]) (by simp[rungsC]) (by simp[rungsC]) ?_
   simp[c,h,hdV,splice,m,rungsC]
   exact zad 0 (by omega) ⟨2,_,_,_,rfl,.inr (.inr ⟨rfl,rfl,rfl,rfl⟩),by simp[d],by simp[c],by simp[wk0,wk1],by simp[hdV,rungsC]⟩
 ·simp[d,c,h]
  refine zav [R0,rdV [],hdV P 1 500000 (.row 3 2),.row 119 2 rungsC true] (.tup []) (by simp[za5]) [] (by simp) (by simp) (by simp[AV.under]) (λi e a=> ?_) ⟨rfl,rfl⟩
  match i,a with
  |0,a=>exact .inl a
  |1,a=>
   simp at a;subst a
   exact .inr (by simp[Entry.under,AV.under])
  |2,a=>
   simp at a;subst a
   exact .inr (by simp[Entry.under,AV.under])
  |3,a=>
   simp at a;subst a
   exact .inr (za3 (by simp[rungsC,AV.pure]))
  |i+4,a=>simp at a
theorem z0T (P:Txt)(h0:P≠ [])(hl:P.length≤100):PCalls Tryz.prog zeL [.lst (byteEls (zdf P))] (λr=>r=.tup [.agg (zbS P),.int .i64 0]):=by
 refine zaa hmix zgJ rfl ?_
 have e:zdf P=leB (1:Nat) 1++(leB P.length 2++(P++(leB (1:Nat) 1++(leB (500000:Nat) 4++(leB (2:Nat) 1++(leB (10:Nat) 4++(leB (6:Nat) 2++(leB (60:Nat) 4++(leB (5:Nat) 2++ []))))))))):=by simp[zdf,zw0]
 have kR:=zru (G:=G) P h0 hl
 simp only[zbS]at kR
 rw[e]
 simp[zeN]
 refine zam (zcg (k:=1) (1:Nat) 1 (leB P.length 2++(P++(leB (1:Nat) 1++(leB (500000:Nat) 4++(leB (2:Nat) 1++(leB (10:Nat) 4++(leB (6:Nat) 2++(leB (60:Nat) 4++(leB (5:Nat) 2++ []))))))))) (1:Nat) (zdA (by decide) (by decide)) (by simp[rdV]) (by decide) (by simp[zaC];omega)) ?_
 rintro r σ' ⟨rfl,rfl⟩
 simp[splice,rdV]
 refine zam (z1b (G:=G) _ P hl) ?_
 rintro r σ' ⟨rfl,rfl⟩
 simp[splice,rdV,hdV,byteEls]
 refine z90 kR (.cons (.agg _ _ rfl (by simp[AV.one]) (λj h b=> ?_)) .nil) ?_
 ·have a:j<9:=h
  match j,a with
  |0,_=>exact .pure _ (by simp[AV.pure])
  |1,_=>exact .pure _ (by simp[AV.pure])
  |2,_=>exact .pure _ (by simp[AV.pure])
  |3,_=>exact .pure _ (by simp[AV.pure])
  |4,_=>exact .row 3 _ 119 2 rungsC true rfl rfl (.inl rfl)
  |5,_=>exact .pure _ (by simp[AV.pure])
  |6,_=>exact .pure _ (by simp[AV.pure])
  |7,_=>exact .pure _ (by simp[AV.pure])
  |8,_=>exact .pure _ (by simp[AV.pure])
 rintro r rfl
 simp[splice,zbS,Abs.fin,Abs.finT,Abs.fin1,fz,rungsC]
theorem z3m (r:RecM)(h:OkR r):PCalls Tryz.prog zeL [.lst (byteEls (payB r))] (λx=>x=.tup [.agg (recC r),.int .i64 0]):=by
 cases r with
 |pt t a v=>exact z2B t a v h.1 h.2.1 h.2.2.1 h.2.2.2
 |sl i t v=>exact z16 i t v h.1 h.2.1 h.2.2.1 h.2.2.2
def z8h:List AV:= [.int .i64 0,.str [],.int .i64 0,.int .i64 0,.lst [],.int .i64 0,.int .i64 0,.int .i64 0,.int .i64 0]
theorem z68 (hT:zgo G)(P rest:Txt)(h0:P≠ [])(hl:P.length≤100)(hr:rest.length≤100000000):PCalls Tryz.prog zgR [.lst (byteEls (zaI (zdf P)++rest))] (λr=>r=.tup [.agg (zbS P),.int .i64 (P.length+27:Nat),.bool true]):=by
 refine zaa hmix zgQ rfl ?_
 have a:=zn2 (G:=G) hT (zdf P) rest (by rw[zcW];omega) (by rw[zcW];omega) hr
 rw[zcW]at a
 have b:=z0T (G:=G) P h0 hl
 simp[zeO]
 refine zac a (by simp[AV.pure]) ?_
 rintro r rfl
 simp
 refine zac b (by simp[AV.pure]) ?_
 rintro r rfl
 simp[splice,zbS]
 omega
theorem z61 (hT:zgo G)(r:RecM)(h:OkR r)(rest:Txt)(hr:rest.length≤100000000):PCalls Tryz.prog zgR [.lst (byteEls (zaI (payB r)++rest))] (λx=>x=.tup [.agg (recC r),.int .i64 ((payB r).length+6:Nat),.bool true]):=by
 refine zaa hmix zgQ rfl ?_
 have a:=zn2 (G:=G) hT (payB r) rest (z2Z r).1 (z2Z r).2 hr
 have b:=z3m (G:=G) r h
 simp[zeO]
 refine zac a (by simp[AV.pure]) ?_
 rintro x rfl
 simp
 refine zac b (by simp[AV.pure]) ?_
 rintro x rfl
 cases r<;>simp[splice,recC,zci,zdN]
theorem z52:PCalls Tryz.prog zgR [.lst []] (λx=>x=.tup [.agg z8h,.int .i64 0,.bool false]):=by
 refine zaa hmix zgQ rfl ?_
 simp[zeO]
 refine zac zsC (by simp[AV.pure]) ?_
 rintro x rfl
 simp[splice,z8h]
theorem z4b (hT:zgo G)(P:Txt)(h0:P≠ [])(hl:P.length≤100)(l:List RecM)(hr:∀r∈l,OkR r)(hb:(zf5 P l).length≤1000000):PCalls Tryz.prog zrh [.lst (byteEls (zf5 P l))] (λr=>r=.tup [.agg (zbS P),.lst (l.map recC),.int .i64 ((zf5 P l).length:Nat),.int .i64 0]):=by
 refine zaa hmix zqC rfl ?_
 have k:(zaI (zdf P)).length=P.length+27:=by rw[zb1,zcW]
 have c:(zf5 P l).length=P.length+27+(zcJ l).length:=by rw[zf5,yaj,k]
 have K:=z68 (G:=G) hT P (zcJ l) h0 hl (by omega)
 have X:zaI (zdf P)++zcJ l=zf5 P l:=rfl
 rw[X]at K
 obtain⟨B,W⟩:∃B,B=zf5 P l:=⟨_,rfl⟩
 have L:(byteEls B).length=B.length:=zaj B
 rw[<-W]at K hb c⊢
 simp[zjV]
 refine zac K (by simp[AV.pure]) ?_
 rintro r rfl
 simp[splice,zbS]
 have o:∀i,P.length+27+(zcJ (l.take i)).length≤B.length:=λi=>by
  rw[c]
  have:zcJ l=zcJ (l.take i)++zcJ (l.drop i):=by simp only[zcJ];rw[<-List.flatMap_append,yba]
  rw[this,yaj];omega
 have p:∀i,B.drop (P.length+27+(zcJ (l.take i)).length)=zcJ (l.drop i):=λi=>by
  have e:B=(zaI (zdf P)++zcJ (l.take i))++zcJ (l.drop i):=by
   rw[W,zf5,ya3]
   congr 1
   simp only[zcJ];rw[<-List.flatMap_append,yba]
  have Y:(zaI (zdf P)++zcJ (l.take i)).length=P.length+27+(zcJ (l.take i)).length:=by rw[yaj,k]
  rw[e,<-Y,List.drop_left]
 have M:∀n,(byteEls B).drop n=byteEls (B.drop n):=λn=>by unfold byteEls;rw[List.map_drop]
 refine zag (λx f σ=>∃(i:Nat) (D:zab),x=l.length-i/\i≤l.length/\f 0=.lst (byteEls B)/\f 2=.ptr 0 0/\f 4=.int .i64 (P.length+27+(zcJ (l.take i)).length:Nat)/\AccT 74 9 1 D (f 3) ((l.take i).map recC)/\σ=.var 74 (zbS P)::D) l.length ?_ ?_
 ·exact⟨0,[],by simp,by simp,by simp,by simp,by simp[zcJ],by simp;exact zjD,by simp[zbS]⟩
 rintro x f σ ⟨i,D,rfl,hi,E,H,g,h,rfl⟩
 obtain⟨s,C⟩:∃s,s=P.length+27+(zcJ (l.take i)).length:=⟨_,rfl⟩
 have q:=o i
 have u:=p i
 rw[<-C]at g q u
 have oX:=h.pos
 simp[E,g,L,q]
 rw[if_pos (za4 B).1,yao (by omega),M,u]
 simp
 by_cases A:i<l.length
 ·obtain⟨r,F⟩:∃r,l[i]? =some r:=⟨_,yac A⟩
  have O:=hr r (yae F)
  have w:l.take (i+1)=l.take i++ [r]:=by rw[yau,F];rfl
  have Q:l.drop i=r::l.drop (i+1):=by
   rw[ybn A,(yaa.1 F).2]
  have R:zcJ (l.drop i)=zaI (payB r)++zcJ (l.drop (i+1)):=by rw[Q];rfl
  have Z:=o (i+1)
  have S:P.length+27+(zcJ (l.take (i+1))).length=s+((payB r).length+6):=by
   rw[w,zzc,yaj,zb1,C];omega
  have aa:(zcJ (l.drop (i+1))).length≤B.length:=by rw[<-p (i+1),ya4];omega
  have kN:=z61 (G:=G) hT r O (zcJ (l.drop (i+1))) (by omega)
  have y:IntKind.i64.wrap ((s:Int)+(((payB r).length:Int)+6))=((P.length+27+(zcJ (l.take (i+1))).length:Nat):Int):=by rw[S,wrap_i64 (by omega) (by omega)];omega
  rw[R]
  refine zac kN (by simp[AV.pure]) ?_
  rintro x rfl
  have z:(l.take (i+1)).map recC=(l.take i).map recC++ [recC r]:=by rw[w];simp
  have ab:((l.take i).map recC).length≤1000000:=by
   simp only[ycc,yas]
   have:=zpZ l
   have:=Nat.min_le_right i l.length
   omega
  cases r with
  |pt t ad v=>
   simp[recC,zci,splice,zai,zak]
   refine z2k (σ:= []) (bytes:=96) (h.more [_]) _ (by decide) rfl (by omega) (by omega) λI τ' b J=> ?_
   have d:AccT 74 9 1 τ' I ((l.take (i+1)).map recC):=by rw[z];exact b
   simp[g,y]
   exact zad (l.length-(i+1)) (by omega) ⟨i+1,τ',rfl,by omega,by simp[E],by simp[H],by simp,by simpa using d,by simp⟩
  |sl j t v=>
   simp[recC,zdN,splice,zai,zak]
   refine z2k (σ:= []) (bytes:=96) (h.more [_]) _ (by decide) rfl (by omega) (by omega) λI τ' b J=> ?_
   have d:AccT 74 9 1 τ' I ((l.take (i+1)).map recC):=by rw[z];exact b
   simp[g,y]
   exact zad (l.length-(i+1)) (by omega) ⟨i+1,τ',rfl,by omega,by simp[E],by simp[H],by simp,by simpa using d,by simp⟩
 ·have T:i=l.length:=by omega
  subst T
  rw[yd1]
  refine zac z52 (by simp[AV.pure,zcJ]) ?_
  rintro x rfl
  rw[ya0]at h C
  have U:s=B.length:=by rw[C,c]
  have h1:∀(a e:Entry) (m:Nat),Abs.finT (a::(D++ [e])) m (f 3)=some (.lst (l.map recC)):=λa e m=>AccT.finT (σ:= [a]) (h.more [e]) m
  simp[E,H,g,splice,zbS,z8h,h1,U]
end Go.Proofs.YtdbhocoeolhjhaaGreatDoor
end
section
set_option maxHeartbeats 8000000
namespace Go.Proofs.YtdbhocoeolhjhaaGreatDoor
open Go.Abs Go.RowKit Go.Sf Go.Num
variable {G:Globs}
theorem z4e (d:DiskM)(s:Txt){f:FileM}(h:RightM d)(hl:Fits d)(ho:okS s)(hA:At d s f)(hne:f.bytes≠ []):PCalls Tryz.prog zwe [.agg (zal d),.str s] (λr=>r=.tup [.lst (byteEls f.bytes),.int .i64 0]):=by
 refine zaa hmix zx1 rfl ?_
 obtain⟨g,a,e⟩:=h.file hA.1
 obtain rfl:g=f:=z8G h ⟨hA.1,yae a,e⟩ hA
 have q:=(yaa.1 a).1
 have b:=zcG a
 obtain⟨o,i⟩:=yaa.1 b
 have p:=hl.bytes g (yae a)
 have j:=zaj g.bytes
 have l:∀σ m k,((byteEls g.bytes).mapM λ(c:List AV)=>c.mapM (fz σ m k))=some (byteEls g.bytes):=λσ m k=>zeb (za4 _).2.1 (λc b=>by obtain⟨n,_,rfl⟩:=yav.1 b;simp)
 simp[zp6,zal]
 refine zac (zi4 d s h hl ho hA.1) (by simp[AV.pure,zal]) ?_
 rintro r rfl
 simp[b,i,zbR,splice]
 refine zam (zpV g.bytes hne (by omega)) ?_
 rintro r σ' ⟨rfl,rfl⟩
 simp[Abs.fin,Abs.finT,Abs.fin1,fz,j,l]
end Go.Proofs.YtdbhocoeolhjhaaGreatDoor
end
