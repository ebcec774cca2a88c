/- Shelf: the document's heads, as bytes: the middle. Shelf: the document's heads, as bytes: a rung. Shelf: the document's heads, as bytes: a rung. Shelf -/
import Derived.Test.YtdbhocoeolhjhaaGreatDoorBn1
import Derived.Test.YtdbhocoeolhjhaaGreatDoorBn2
import Derived.Test.YtdbhocoeolhjhaaGreatDoorBn3
import Derived.Test.YtdbhocoeolhjhaaGreatDoorBn4
import Derived.Test.YtdbhocoeolhjhaaGreatDoorBn5
import Derived.Test.YtdbhocoeolhjhaaGreatDoorBn6
import Derived.Test.YtdbhocoeolhjhaaGreatDoorBn7
import Derived.Test.YtdbhocoeolhjhaaGreatDoorBn8
import Derived.Test.YtdbhocoeolhjhaaGreatDoorBn9xc
set_option linter.unusedSimpArgs false
set_option linter.unusedVariables false
set_option linter.constructorNameAsVariable false
section
set_option maxHeartbeats 8000000
namespace Go.Proofs.YtdbhocoeolhjhaaGreatDoor
open Go.Abs Go.RowKit Go.Sf
variable {G:Globs}
attribute [-simp] zbn zcK zca za4
theorem zy5 (p:Txt) (h0:p≠ []) (hl:p.length≤100):PCalls Tryz.prog ze5 [.agg (zaM p)] (fun r=>r=.tup [.lst (byteEls (zba p)),.int .i64 0]):=by
 refine zaa hmix zeH rfl ?_
 have kR:=zt1 (G:=G) p h0 hl
 have hrl:rungsC.length=2:=rfl
 simp only [zaM] at kR
 simp [a_isobarref08_Put,zaM, -zbG, -zbY]
 refine zad kR (by simp [AV.pure,rungsC]) ?_
 rintro r rfl
 simp [-zbG, -zbY]
 refine zjW (z6L p) ?_ (z7W p h0 hl (by simp) (by simp))
 rintro f σ hJ
 have hJ':=hJ
 obtain ⟨f1,f4,rfl⟩:=hJ
 simp [f1,f4,zaM, -zbG, -zbY]
 refine zjW (z6p p) ?_ (z7D p h0 hl hJ')
 clear f1 f4 hJ' f
 rintro f σ ⟨tl,f1,f4,rfl⟩
 simp [f1,f4,zaM, -zbG, -zbY]
 refine zah (fun x f σ=>∃i:Nat,x=2-i∧i≤2∧z6x p i f σ) 2 ?_ ?_
 ·exact ⟨0,by simp,by simp,tl,by simp [f1],by simp,by simp [f4],by simp [zaM]⟩
 clear f1 f4
 rintro x f σ ⟨i,rfl,hi,tl,f1,f5,f4,rfl⟩
 have hi3:i=0∨i=1∨i=2:=by omega
 rcases hi3 with rfl|rfl|rfl
 ·simp [f1,f4,f5,zaM,hrl, -zbG, -zbY]
  refine zjW _ ?_ (z57 p h0 hl ⟨tl,by simp [f1],by simp [f5],by simp [f4],rfl⟩)
  rintro g σ ⟨tl,g1,g5,g4,rfl⟩
  simp [g5,wk1]
  refine zae 1 (by omega) ⟨1,rfl,by omega,tl,by simp [g1],by simp,by simp [g4],by simp⟩
 ·simp [f1,f4,f5,zaM,hrl, -zbG, -zbY]
  refine zjW _ ?_ (z7a p h0 hl ⟨tl,by simp [f1],by simp [f5],by simp [f4],rfl⟩)
  rintro g σ ⟨tl,g1,g5,g4,rfl⟩
  simp [g5,wk2]
  refine zae 0 (by omega) ⟨2,rfl,by omega,tl,by simp [g1],by simp,by simp [g4],by simp⟩
 ·have hfz:∀σ m k,((byteEls (zba p)).mapM fun (c:List AV)=>c.mapM (fz σ m k))=some (byteEls (zba p)):=fun σ m k=>zdg (zao _).2.1 (fun c hc=>by obtain ⟨n,_,rfl⟩:=yav.1 hc;simp)
  simp [f1,f4,f5,zaM,hrl,Abs.fin,Abs.finT,Abs.fin1,fz]
  rw [if_pos (by rw [zab,zcx];omega),hfz]
  simp
end Go.Proofs.YtdbhocoeolhjhaaGreatDoor
end
section
set_option maxHeartbeats 8000000
namespace Go.Sf
theorem zhQ {a b c:Txt} {i n:Nat} (hi:a.length=i) (hn:b.length=n):((a++(b++c)).drop i).take n=b:=by
 subst hi hn
 rw [List.drop_left,List.take_left]
theorem zrs {t k:Nat} (h:t<256^k):leN (leB t k)=t:=by
 have h1:=zor t k
 have h2:((t:Int)%((256^k:Nat):Int))=t:=by rw [←Int.natCast_emod,ybr h]
 omega
theorem z1u {v:Int} (h:i64 v):IntKind.i64.wrap (leN (leB v 8):Int)=v:=by
 have h1:=zor v 8
 have h2:((256^8:Nat):Int)=18446744073709551616:=rfl
 rw [h2] at h1
 rw [h1]
 have:=h.1
 have:=h.2
 simp [IntKind.wrap,IntKind.signed,IntKind.bits]
 omega
theorem zct:∀b:Txt,Abs.bytesOf (Abs.byteEls b)=some b
 | []=>rfl
 |x::b=>by
  have h:=zct b
  simp only [Abs.byteEls,yc6] at h⊢
  simp [Abs.bytesOf,h]
end Go.Sf
namespace Go.Proofs.YtdbhocoeolhjhaaGreatDoor
open Go.Abs Go.RowKit Go.Sf
variable {G:Globs}
attribute [-simp] zbn zcK zca za4
theorem zvJ (t now:Nat) (v:Int) (ht:t≤1099511627776) (hn:now≤1099511627776) (hv:v≠ -9223372036854775808) (hv2:i64 v):PCalls Tryz.prog zcC [.lst (byteEls (zbC t now v))] (fun r=>r=.tup [.agg (zbf (.lst []) t now v),.int .i64 0]):=by
 refine zaa hmix zdT rfl ?_
 obtain ⟨p,hp⟩:∃p,p=zbC t now v:=⟨_,rfl⟩
 have hpl:p.length=25:=by rw [hp,zfy]
 have hbl:(byteEls p).length=25:=by rw [zab,hpl]
 have g0:p[0]? =some (lo8 2):=by rw [hp];rfl
 have c0:=zbz g0
 obtain ⟨x0,y0⟩:=yaa.1 c0
 have l2:(lo8 2).toNat=2:=by decide
 rw [l2] at c0 y0
 have e1:leN ((p.drop 1).take 8)=t:=by
  rw [hp]
  have:zbC t now v= [lo8 2]++(leB t 8++(leB now 8++leB v 8)):=by simp [zbC]
  rw [this,zhQ (by rfl) (zaj _ _),zrs (by omega)]
 have e2:leN ((p.drop 9).take 8)=now:=by
  rw [hp]
  have:zbC t now v=([lo8 2]++leB t 8)++(leB now 8++leB v 8):=by simp [zbC]
  rw [this,zhQ (by simp [zaj]) (zaj _ _),zrs (by omega)]
 have e3:leN ((p.drop 17).take 8)=leN (leB v 8):=by
  rw [hp]
  have:zbC t now v=([lo8 2]++leB t 8++leB now 8)++(leB v 8++ []):=by simp [zbC]
  rw [this,zhQ (by simp [zaj]) (zaj _ _)]
 have k1:=zcq (G:=G) p 1 8 (by omega) (by decide) (by decide) (by omega)
 have k2:=zcq (G:=G) p 9 8 (by omega) (by decide) (by decide) (by omega)
 have k3:=zcq (G:=G) p 17 8 (by omega) (by decide) (by decide) (by omega)
 rw [e1] at k1
 rw [e2] at k2
 rw [e3] at k3
 have kP:=zxM (G:=G) .nils (.inl rfl) t now v ht hn hv
 rw [←hp] at kP⊢
 simp only [zbf] at kP
 have w1:IntKind.i64.wrap (t:Int)=t:=wrap_i64 (by omega) (by omega)
 have w2:IntKind.i64.wrap (now:Int)=now:=wrap_i64 (by omega) (by omega)
 have w3:=z1u hv2
 simp [zcE,hbl,c0,y0,zaP,wk2]
 refine zad k1 (by simp [AV.pure]) ?_
 rintro r rfl
 simp
 refine zad k2 (by simp [AV.pure]) ?_
 rintro r rfl
 simp
 refine zad k3 (by simp [AV.pure]) ?_
 rintro r rfl
 simp [w1,w2,w3,splice]
 refine zad kP (by simp [AV.pure]) ?_
 rintro r rfl
 simp [splice,zct,zbf]
theorem zuK (i t:Nat) (v:Int) (hi:i<4) (ht:t≤1099511627776) (hv:v≠ -9223372036854775808) (hv2:i64 v):PCalls Tryz.prog zcC [.lst (byteEls (zdG i t v))] (fun r=>r=.tup [.agg (zcy (.lst []) i t v),.int .i64 0]):=by
 refine zaa hmix zdT rfl ?_
 obtain ⟨p,hp⟩:∃p,p=zdG i t v:=⟨_,rfl⟩
 have hpl:p.length=18:=by rw [hp,zhj]
 have hbl:(byteEls p).length=18:=by rw [zab,hpl]
 have g0:p[0]? =some (lo8 3):=by rw [hp];rfl
 have c0:=zbz g0
 obtain ⟨x0,y0⟩:=yaa.1 c0
 have l2:(lo8 3).toNat=3:=by decide
 rw [l2] at c0 y0
 have g1:p[1]? =some (lo8 i):=by rw [hp];rfl
 have c1:=zbz g1
 obtain ⟨x1,y1⟩:=yaa.1 c1
 have l3:(lo8 i).toNat=i:=by have:=zrV i;omega
 rw [l3] at c1 y1
 have e1:leN ((p.drop 2).take 8)=t:=by
  rw [hp]
  have:zdG i t v=([lo8 3]++leB i 1)++(leB t 8++leB v 8):=by simp [zdG]
  rw [this,zhQ (by simp [zaj]) (zaj _ _),zrs (by omega)]
 have e2:leN ((p.drop 10).take 8)=leN (leB v 8):=by
  rw [hp]
  have:zdG i t v=([lo8 3]++leB i 1++leB t 8)++(leB v 8++ []):=by simp [zdG]
  rw [this,zhQ (by simp [zaj]) (zaj _ _)]
 have k1:=zcq (G:=G) p 2 8 (by omega) (by decide) (by decide) (by omega)
 have k2:=zcq (G:=G) p 10 8 (by omega) (by decide) (by decide) (by omega)
 rw [e1] at k1
 rw [e2] at k2
 have kP:=zx9 (G:=G) .nils (.inl rfl) i t v hi ht hv
 rw [←hp] at kP⊢
 simp only [zcy] at kP
 have w1:IntKind.i64.wrap (t:Int)=t:=wrap_i64 (by omega) (by omega)
 have w2:IntKind.i64.wrap (i:Int)=i:=wrap_i64 (by omega) (by omega)
 have wk3:IntKind.i64.wrap 3=3:=by decide
 have w3:=z1u hv2
 simp [zcE,hbl,c0,y0,c1,y1,zaP,wk3]
 refine zad k1 (by simp [AV.pure]) ?_
 rintro r rfl
 simp
 refine zad k2 (by simp [AV.pure]) ?_
 rintro r rfl
 simp [w1,w2,w3,splice,c1,y1]
 refine zad kP (by simp [AV.pure]) ?_
 rintro r rfl
 simp [splice,zct,zcy]
theorem zwp (P:Txt) (h0:P≠ []) (hl:P.length≤100):PCalls Tryz.prog zcC [.lst (byteEls (zba P))] (fun r=>r=.tup [.agg (zaM P),.int .i64 0]):=by
 refine zaa hmix zdT rfl ?_
 obtain ⟨p,hp⟩:∃p,p=zba P:=⟨_,rfl⟩
 obtain ⟨n,hn⟩:∃n,n=P.length:=⟨_,rfl⟩
 have hpl:p.length=n+21:=by rw [hp,zcx,hn]
 have hbl:(byteEls p).length=n+21:=by rw [zab,hpl]
 have g0:p[0]? =some (lo8 1):=by rw [hp];rfl
 have c0:=zbz g0
 obtain ⟨x0,y0⟩:=yaa.1 c0
 have l2:(lo8 1).toNat=1:=by decide
 rw [l2] at c0 y0
 have e1:leN ((p.drop 1).take 2)=n:=by
  rw [hp]
  have:zba P= [lo8 1]++(leB P.length 2++(P++leB 1 1++leB 500000 4++leB 2 1++leB 10 4++leB 6 2++leB 60 4++leB 5 2)):=by simp [zba]
  rw [this,zhQ (by rfl) (zaj _ _),zrs (by omega),hn]
 have e2:(p.drop 3).take n=P:=by
  rw [hp]
  have:zba P=([lo8 1]++leB P.length 2)++(P++(leB 1 1++leB 500000 4++leB 2 1++leB 10 4++leB 6 2++leB 60 4++leB 5 2)):=by simp [zba]
  rw [this,zhQ (by simp [zaj]) hn.symm]
 have e3:leN ((p.drop (n+4)).take 4)=500000:=by
  rw [hp]
  have:zba P=([lo8 1]++leB P.length 2++P++leB 1 1)++(leB 500000 4++(leB 2 1++leB 10 4++leB 6 2++leB 60 4++leB 5 2)):=by simp [zba]
  rw [this,zhQ (by simp [zaj];omega) (zaj _ _)];decide
 have e4:leN ((p.drop (n+9)).take 4)=10:=by
  rw [hp]
  have:zba P=([lo8 1]++leB P.length 2++P++leB 1 1++leB 500000 4++leB 2 1)++(leB 10 4++(leB 6 2++leB 60 4++leB 5 2)):=by simp [zba]
  rw [this,zhQ (by simp [zaj];omega) (zaj _ _)];decide
 have e5:leN ((p.drop (n+13)).take 2)=6:=by
  rw [hp]
  have:zba P=([lo8 1]++leB P.length 2++P++leB 1 1++leB 500000 4++leB 2 1++leB 10 4)++(leB 6 2++(leB 60 4++leB 5 2)):=by simp [zba]
  rw [this,zhQ (by simp [zaj];omega) (zaj _ _)];decide
 have e6:leN ((p.drop (n+15)).take 4)=60:=by
  rw [hp]
  have:zba P=([lo8 1]++leB P.length 2++P++leB 1 1++leB 500000 4++leB 2 1++leB 10 4++leB 6 2)++(leB 60 4++leB 5 2):=by simp [zba]
  rw [this,zhQ (by simp [zaj];omega) (zaj _ _)];decide
 have e7:leN ((p.drop (n+19)).take 2)=5:=by
  rw [hp]
  have:zba P=([lo8 1]++leB P.length 2++P++leB 1 1++leB 500000 4++leB 2 1++leB 10 4++leB 6 2++leB 60 4)++(leB 5 2++ []):=by simp [zba]
  rw [this,zhQ (by simp [zaj];omega) (zaj _ _)];decide
 have gm:p[n+3]? =some (lo8 1):=by
  rw [hp]
  have:zba P=([lo8 1]++leB P.length 2++P)++(leB 1 1++(leB 500000 4++leB 2 1++leB 10 4++leB 6 2++leB 60 4++leB 5 2)):=by simp [zba]
  rw [this,yaj (by simp [zaj];omega)]
  have:n+3-([lo8 1]++leB P.length 2++P).length=0:=by simp [zaj];omega
  rw [this];rfl
 have gr:p[n+8]? =some (lo8 2):=by
  rw [hp]
  have:zba P=([lo8 1]++leB P.length 2++P++leB 1 1++leB 500000 4)++(leB 2 1++(leB 10 4++leB 6 2++leB 60 4++leB 5 2)):=by simp [zba]
  rw [this,yaj (by simp [zaj];omega)]
  have:n+8-([lo8 1]++leB P.length 2++P++leB 1 1++leB 500000 4).length=0:=by simp [zaj];omega
  rw [this];rfl
 have cm:=zbz gm
 obtain ⟨xm,ym⟩:=yaa.1 cm
 have cr:=zbz gr
 obtain ⟨xr,yr⟩:=yaa.1 cr
 have l3:(lo8 2).toNat=2:=by decide
 rw [l2] at cm ym
 rw [l3] at cr yr
 have k1:=zcq (G:=G) p 1 2 (by omega) (by decide) (by decide) (by omega)
 have k3:=zcq (G:=G) p (n+4) 4 (by omega) (by decide) (by decide) (by omega)
 have k4:=zcq (G:=G) p (n+9) 4 (by omega) (by decide) (by decide) (by omega)
 have k5:=zcq (G:=G) p (n+13) 2 (by omega) (by decide) (by decide) (by omega)
 have k6:=zcq (G:=G) p (n+15) 4 (by omega) (by decide) (by decide) (by omega)
 have k7:=zcq (G:=G) p (n+19) 2 (by omega) (by decide) (by decide) (by omega)
 rw [e1] at k1
 rw [e3] at k3
 rw [e4] at k4
 rw [e5] at k5
 rw [e6] at k6
 rw [e7] at k7
 have kP:=zy5 (G:=G) P h0 hl
 rw [←hp] at kP⊢
 simp only [zaM] at kP
 have w1:IntKind.i64.wrap (n:Int)=n:=wrap_i64 (by omega) (by omega)
 have w2:IntKind.i64.wrap (3+(n:Int))=((n+3:Nat):Int):=by rw [wrap_i64 (by omega) (by omega)];omega
 have w3:IntKind.i64.wrap (((n+3:Nat):Int)+6)=((n+9:Nat):Int):=by rw [wrap_i64 (by omega) (by omega)];omega
 have w4:IntKind.i64.wrap (((n+3:Nat):Int)+1)=((n+4:Nat):Int):=by rw [wrap_i64 (by omega) (by omega)];omega
 have w5:IntKind.i64.wrap (((n+3:Nat):Int)+5)=((n+8:Nat):Int):=by rw [wrap_i64 (by omega) (by omega)];omega
 have d1:¬((n+21:Nat):Int)<((n+9:Nat):Int):=by omega
 have d2:¬((n+21:Nat):Int)=0:=by omega
 have d2':¬n+21=0:=by omega
 simp [zcE,hbl,c0,y0,zaP,wk1, -Int.natCast_add]
 refine zad k1 (by simp [AV.pure]) ?_
 rintro r rfl
 simp [hbl,w1,w2,w3,w4,w5,d1, -Int.natCast_add]
 have hpt:((byteEls p).take (n+3)).drop 3=byteEls P:=by
  unfold byteEls
  rw [←yem,←List.map_drop,List.drop_take,show n+3-3=n by omega,e2]
 have v1:IntKind.i64.wrap (((n+9:Nat):Int)+0)=((n+9:Nat):Int):=by rw [wrap_i64 (by omega) (by omega)];omega
 have v2:IntKind.i64.wrap (((n+3:Nat):Int)+10)=((n+13:Nat):Int):=by rw [wrap_i64 (by omega) (by omega)];omega
 have v3:IntKind.i64.wrap (((n+9:Nat):Int)+6)=((n+15:Nat):Int):=by rw [wrap_i64 (by omega) (by omega)];omega
 have v4:IntKind.i64.wrap (((n+13:Nat):Int)+6)=((n+19:Nat):Int):=by rw [wrap_i64 (by omega) (by omega)];omega
 have v5:IntKind.i64.wrap (((n+9:Nat):Int))=((n+9:Nat):Int):=by rw [wrap_i64 (by omega) (by omega)]
 have v6:IntKind.i64.wrap (((n+13:Nat):Int))=((n+13:Nat):Int):=by rw [wrap_i64 (by omega) (by omega)]
 have u1:IntKind.i64.wrap 500000=500000:=by decide
 have u2:IntKind.i64.wrap 10=10:=by decide
 have u3:IntKind.i64.wrap 6=6:=by decide
 have u4:IntKind.i64.wrap 60=60:=by decide
 have u5:IntKind.i64.wrap 5=5:=by decide
 have u6:IntKind.i64.wrap 0=0:=by decide
 rw [if_pos (zao p).1,hpt]
 simp [zct,splice,w4, -Int.natCast_add]
 refine zad k3 (by simp [AV.pure]) ?_
 rintro r rfl
 simp [zct,splice,w4,cm,ym,zaP,wk1,u1, -Int.natCast_add]
 refine zah (fun x f σ=>∃(i:Nat) (X:AV) (tl:zac),x=2-i∧i≤2∧f 0=.lst (byteEls p)∧f 7=.int .i64 (n+3:Nat)∧f 10=.int .i64 i∧f 4=.ptr 1 0∧f 2=.ptr 0 0∧AccT 119 2 2 tl X (rungsC.take i)∧σ=.var 74 [.int .i64 0,.str [],.int .i64 0,.int .i64 0,.nils,.int .i64 0,.int .i64 0,.int .i64 0,.int .i64 0]:: .var 74 [.int .i64 1,.str P,.int .i64 1,.int .i64 500000,X,.int .i64 0,.int .i64 0,.int .i64 0,.int .i64 0]::tl) 2 ?_ ?_
 ·exact ⟨0,.nils,[],by simp,by simp,by simp,by simp,by simp,by simp,by simp,zgt,by simp⟩
 rintro x f σ ⟨i,X,tl,rfl,hi,f0,f7,f10,f4,f2,hX,rfl⟩
 have oX:=hX.pos
 have hi3:i=0∨i=1∨i=2:=by omega
 rcases hi3 with rfl|rfl|rfl
 ·simp [f0,f7,f10,f4,f2,w5,cr,yr,zaP,wk2,w3,v1,v2,v5,v6,u6, -Int.natCast_add]
  refine zad k4 (by simp [AV.pure]) ?_
  rintro r rfl
  simp [f0,f7,f10,v2,v6,u6, -Int.natCast_add]
  refine zad k5 (by simp [AV.pure]) ?_
  rintro r rfl
  simp [f4,oX,u2,u3,splice]
  refine zrP (σ:= []) (bytes:=16) hX [.int .i64 10,.int .i64 6] (by decide) rfl (by simp) (by simp) fun v' τ' hA1 hA2=> ?_
  have oV:=hA1.pos
  simp [f10,f4,oV,splice,wk1]
  refine zae 1 (by omega) ⟨1,v',τ',rfl,by omega,by simp [f0],by simp [f7],by simp,by simp [f4],by simp [f2],by simpa [rungsC] using hA1,by simp⟩
 ·simp [f0,f7,f10,f4,f2,w5,cr,yr,zaP,wk2,w3,v2,v3,v4,u3, -Int.natCast_add]
  refine zad k6 (by simp [AV.pure]) ?_
  rintro r rfl
  simp [f0,f7,f10,v2,v4,u3, -Int.natCast_add]
  refine zad k7 (by simp [AV.pure]) ?_
  rintro r rfl
  simp [f4,oX,u4,u5,splice]
  refine zrP (σ:= []) (bytes:=16) hX [.int .i64 60,.int .i64 5] (by decide) rfl (by simp [rungsC]) (by simp [rungsC]) fun v' τ' hA1 hA2=> ?_
  have oV:=hA1.pos
  simp [f10,f4,oV,splice,wk2]
  refine zae 0 (by omega) ⟨2,v',τ',rfl,by omega,by simp [f0],by simp [f7],by simp,by simp [f4],by simp [f2],by simpa [rungsC] using hA1,by simp⟩
 ·simp [f0,f7,f10,f4,f2,w5,cr,yr,zaP,wk2,w3,v2,v3,v4,u3, -Int.natCast_add]
  refine z1s kP (.cons (.agg _ _ rfl (by simp [AV.one]) (fun j h h'=> ?_)) .nil) ?_
  ·have h9:j<9:=h
   match j,h9 with
   |0,_=>exact .pure _ (by simp [AV.pure])
   |1,_=>exact .pure _ (by simp [AV.pure])
   |2,_=>exact .pure _ (by simp [AV.pure])
   |3,_=>exact .pure _ (by simp [AV.pure])
   |4,_=>exact AccT.coe (σ:= [_,_]) hX false
   |5,_=>exact .pure _ (by simp [AV.pure])
   |6,_=>exact .pure _ (by simp [AV.pure])
   |7,_=>exact .pure _ (by simp [AV.pure])
   |8,_=>exact .pure _ (by simp [AV.pure])
  rintro r rfl
  have h1:∀(a b:Entry) (m:Nat),Abs.fin1 (a::b::tl) m X=some (.lst rungsC):=fun a b m=>AccT.fin1 (σ:= [a,b]) hX m
  simp [f0,f2,f4,splice,zct,oX.1,h1,zaM]
end Go.Proofs.YtdbhocoeolhjhaaGreatDoor
end
section
set_option maxHeartbeats 8000000
namespace Go.Sf
open Go.Abs
inductive RecM where
 |pt (t now:Nat) (v:Int)
 |sl (i t:Nat) (v:Int)
def payB:RecM→Txt
 | .pt t now v=>zbC t now v
 | .sl i t v=>zdG i t v
def recC:RecM→List AV
 | .pt t now v=>zbf (.lst []) t now v
 | .sl i t v=>zcy (.lst []) i t v
def OkR:RecM→Prop
 | .pt t now v=>t≤1099511627776∧now≤1099511627776∧v≠ -9223372036854775808∧i64 v
 | .sl i t v=>i<4∧t≤1099511627776∧v≠ -9223372036854775808∧i64 v
def zcG (l:List RecM):Txt:=l.flatMap fun r=>zaL (payB r)
def zjv (path:Txt) (l:List RecM):Txt:=zaL (zba path)++zcG l
theorem zxY (l:List RecM) (r:RecM):zcG (l++ [r])=zcG l++zaL (payB r):=by simp [zcG]
theorem zzu (r:RecM):1≤(payB r).length∧(payB r).length≤512:=by
 cases r
 ·simp [payB,zfy]
 ·simp [payB,zhj]
theorem zzA (l:List RecM):l.length≤(zcG l).length:=by
 induction l with
 |nil=>simp
 |cons a l ih=>
  have:zcG (a::l)=zaL (payB a)++zcG l:=rfl
  rw [this,yag,zbq,ybf]
  omega
end Go.Sf
namespace Go.Proofs.YtdbhocoeolhjhaaGreatDoor
open Go.Abs Go.RowKit Go.Sf
variable {G:Globs}
attribute [-simp] zbn zcK zca za4
theorem zvC:PCalls Tryz.prog zgz [.lst []] (fun r=>r=.tup [.lst [],.int .i64 0,.int .i64 9]):=by
 refine zaa hmix zg4 rfl ?_
 simp [zem]
theorem zuW (r:RecM) (h:OkR r):PCalls Tryz.prog zcC [.lst (byteEls (payB r))] (fun x=>x=.tup [.agg (recC r),.int .i64 0]):=by
 cases r with
 |pt t now v=>exact zvJ t now v h.1 h.2.1 h.2.2.1 h.2.2.2
 |sl i t v=>exact zuK i t v h.1 h.2.1 h.2.2.1 h.2.2.2
theorem zqQ (P:Txt) (h0:P≠ []) (hl:P.length≤100) (l:List RecM) (hr:∀r∈l,OkR r) (hb:(zjv P l).length≤1000000):PCalls Tryz.prog zl4 [.lst (byteEls (zjv P l))] (fun r=>r=.tup [.agg (zaM P),.lst (l.map recC),.int .i64 ((zjv P l).length:Nat),.int .i64 0]):=by
 refine zaa hmix zkB rfl ?_
 have hhl:(zaL (zba P)).length=P.length+27:=by rw [zbq,zcx]
 have hfl:(zjv P l).length=P.length+27+(zcG l).length:=by rw [zjv,yag,hhl]
 have kT:=zq5 (G:=G) (zba P) (zcG l) (by rw [zcx];omega) (by rw [zcx];omega) (by omega)
 have hF:zaL (zba P)++zcG l=zjv P l:=rfl
 rw [hF,zcx] at kT
 have kH:=zwp (G:=G) P h0 hl
 obtain ⟨B,hB⟩:∃B,B=zjv P l:=⟨_,rfl⟩
 have hBl:(byteEls B).length=B.length:=zab B
 rw [←hB] at kT hb hfl⊢
 simp [zgp]
 refine zad kT (by simp [AV.pure]) ?_
 rintro r rfl
 simp
 refine zad kH (by simp [AV.pure]) ?_
 rintro r rfl
 simp [splice,zaM]
 have hsz:∀i,P.length+27+(zcG (l.take i)).length≤B.length:=fun i=>by
  rw [hfl]
  have:zcG l=zcG (l.take i)++zcG (l.drop i):=by simp only [zcG];rw [←List.flatMap_append,ya9]
  rw [this,yag];omega
 have hdr:∀i,B.drop (P.length+27+(zcG (l.take i)).length)=zcG (l.drop i):=fun i=>by
  have e:B=(zaL (zba P)++zcG (l.take i))++zcG (l.drop i):=by
   rw [hB,zjv,ya3]
   congr 1
   simp only [zcG];rw [←List.flatMap_append,ya9]
  have e2:(zaL (zba P)++zcG (l.take i)).length=P.length+27+(zcG (l.take i)).length:=by rw [yag,hhl]
  rw [e,←e2,List.drop_left]
 have hbd:∀n,(byteEls B).drop n=byteEls (B.drop n):=fun n=>by unfold byteEls;rw [List.map_drop]
 refine zah (fun x f σ=>∃(i:Nat) (tl:zac),x=l.length-i∧i≤l.length∧f 0=.lst (byteEls B)∧f 2=.ptr 0 0∧f 9=.ptr 1 0∧f 7=.int .i64 (P.length+27+(zcG (l.take i)).length:Nat)∧AccT 74 9 2 tl (f 10) ((l.take i).map recC)∧σ=.var 74 [.int .i64 0,.str [],.int .i64 0,.int .i64 0,.nils,.int .i64 0,.int .i64 0,.int .i64 0,.int .i64 0]:: .var 74 (zaM P)::tl) l.length ?_ ?_
 ·exact ⟨0,[],by simp,by simp,by simp,by simp,by simp,by simp [zcG];omega,by simp;exact zgt,by simp [zaM]⟩
 rintro x f σ ⟨i,tl,rfl,hi,f0,f2,f9,f7,hX,rfl⟩
 obtain ⟨s,hs⟩:∃s,s=P.length+27+(zcG (l.take i)).length:=⟨_,rfl⟩
 have hsi:=hsz i
 have hdi:=hdr i
 rw [←hs] at f7 hsi hdi
 have oX:=hX.pos
 simp [f0,f7,hBl,hsi]
 rw [if_pos (zao B).1,yao (by omega),hbd,hdi]
 simp
 by_cases hlt:i<l.length
 ·obtain ⟨r,hg⟩:∃r,l[i]? =some r:=⟨_,yad hlt⟩
  have hok:=hr r (yaf hg)
  have hsn:l.take (i+1)=l.take i++ [r]:=by rw [yax,hg];rfl
  have hd1:l.drop i=r::l.drop (i+1):=by
   rw [ybw hlt,(yaa.1 hg).2]
  have hbo:zcG (l.drop i)=zaL (payB r)++zcG (l.drop (i+1)):=by rw [hd1];rfl
  have hs1:=hsz (i+1)
  have hs2:P.length+27+(zcG (l.take (i+1))).length=s+((payB r).length+6):=by
   rw [hsn,zxY,yag,zbq,hs];omega
  have hdl:(zcG (l.drop (i+1))).length≤B.length:=by rw [←hdr (i+1),ya2];omega
  have kT2:=zq5 (G:=G) (payB r) (zcG (l.drop (i+1))) (zzu r).1 (zzu r).2 (by omega)
  have kR2:=zuW (G:=G) r hok
  have hws:IntKind.i64.wrap ((s:Int)+(((payB r).length:Int)+6))=((P.length+27+(zcG (l.take (i+1))).length:Nat):Int):=by rw [hs2,wrap_i64 (by omega) (by omega)];omega
  rw [hbo]
  refine zad kT2 (by simp [AV.pure]) ?_
  rintro x rfl
  simp
  refine zad kR2 (by simp [AV.pure]) ?_
  rintro x rfl
  have hmp:(l.take (i+1)).map recC=(l.take i).map recC++ [recC r]:=by rw [hsn];simp
  have hln:((l.take i).map recC).length≤1000000:=by
   simp only [yc0,yan]
   have:=zzA l
   have:=Nat.min_le_right i l.length
   omega
  cases r with
  |pt t now v=>
   simp [recC,zbf,splice,zam,zal]
   refine zrP (σ:= []) (bytes:=96) (hX.more [_]) _ (by decide) rfl (by omega) (by omega) fun v' τ' hA1 hA2=> ?_
   have hA3:AccT 74 9 2 τ' v' ((l.take (i+1)).map recC):=by rw [hmp];exact hA1
   simp [f7,hws]
   exact zae (l.length-(i+1)) (by omega) ⟨i+1,τ',rfl,by omega,by simp [f0],by simp [f2],by simp [f9],by simp,by simpa using hA3,by simp⟩
  |sl j t v=>
   simp [recC,zcy,splice,zam,zal]
   refine zrP (σ:= []) (bytes:=96) (hX.more [_]) _ (by decide) rfl (by omega) (by omega) fun v' τ' hA1 hA2=> ?_
   have hA3:AccT 74 9 2 τ' v' ((l.take (i+1)).map recC):=by rw [hmp];exact hA1
   simp [f7,hws]
   exact zae (l.length-(i+1)) (by omega) ⟨i+1,τ',rfl,by omega,by simp [f0],by simp [f2],by simp [f9],by simp,by simpa using hA3,by simp⟩
 ·have hil:i=l.length:=by omega
  subst hil
  rw [yd2]
  refine zad zvC (by simp [AV.pure,zcG]) ?_
  rintro x rfl
  rw [ya1] at hX hs
  have hsB:s=B.length:=by rw [hs,hfl]
  have h1:∀(a b:Entry) (m:Nat),Abs.finT (a::b::tl) m (f 10)=some (.lst (l.map recC)):=fun a b m=>AccT.finT (σ:= [a,b]) hX m
  simp [f0,f2,f9,f7,splice,zaM,h1,hsB]
end Go.Proofs.YtdbhocoeolhjhaaGreatDoor
end
section
set_option maxHeartbeats 1000000
namespace Go.Proofs.YtdbhocoeolhjhaaGreatDoor
open Go.Sf Go.Num
def ptR (a:ArrM):RecM:=.pt a.time a.now a.value
def slM (s:SlR):RecM:=.sl s.rung s.t s.v
theorem zn1 (bs:List ArrM):zcw bs=zcG (bs.map ptR):=by simp [zcw,zcG,ptR,payB,List.flatMap_map]
theorem zpy (p:Txt) (l:List SlR):znC p l=zjv p (l.map slM):=by simp [znC,zjv,zmz,zcG,slM,payB,List.flatMap_map]
def Body (path b:Txt):Prop:=∃l,(∀r∈l,OkR r)∧b=zjv path l
theorem z4S {bs:List ArrM} (h:∀x∈bs,OkA x∧OkV x):∀r∈bs.map ptR,OkR r:=fun r hr=>by
 obtain ⟨x,hx,rfl⟩:=yav.1 hr
 obtain ⟨h1,h2⟩:=h x hx
 have:=h1.t
 have:=h1.n
 exact ⟨by omega,by omega,h2,h1.v⟩
theorem z4R {l:List SlR} (h:∀x∈l,OkSl x):∀r∈l.map slM,OkR r:=fun r hr=>by
 obtain ⟨x,hx,rfl⟩:=yav.1 hr
 have:=h x hx
 exact ⟨this.r,this.t,this.n,this.v⟩
theorem Body.more {p b:Txt} (h:Body p b) {bs:List ArrM} (hb:∀x∈bs,OkA x∧OkV x):Body p (b++zcw bs):=by
 obtain ⟨l,h1,rfl⟩:=h
 refine ⟨l++bs.map ptR,fun r hr=> ?_, ?_⟩
 ·rcases yai.1 hr with hr|hr
  ·exact h1 r hr
  ·exact z4S hb r hr
 ·rw [zn1];simp [zjv,zcG,ya3]
def zmu (s:ShM):Prop:=∀x∈s.mets,∀q kd f,q<70→kd∈zqs→At s.disk (zdo x.id q kd) f→Body x.path f.bytes
variable {s:ShM} {a k:Nat} {p:Txt}
theorem z4M (h:InvS s a k) (ha:a≤69) (hp:p∈P4) (hC:zmu s) {q:Nat} {kd:Txt} {f:FileM} (hq:q<70) (hk:kd∈zqs) (hA:At s.disk (zdo (zaz s p).id q kd) f):Body p f.bytes:=by
 by_cases hh:hasK kM s.mets p
 ·obtain ⟨hm,hpt⟩:=zdn h.srt hh
  have:=hC _ (yaf hm) q kd f hq hk hA
  rwa [hpt] at this
 ·have ho:=h.met hp
  exfalso
  rcases ho.dir _ hA.1 with ⟨r,k2,he,h1,h2,h3⟩|⟨x,hx,hxp,r,k2,he,h1,h2,h3⟩
  ·rw [zgo hh] at h2
   simp [zkS] at h2
   omega
  ·have hs:=h.seq x hx
   have:=zfx ho.id5 (h.id5 hx) hq (by omega) hk (kd3 h3) he
   exact ho.others x hx hxp this.1.symm
theorem zp6 (h:InvS s a k) (ha:a≤69) (hp:p∈P4) (hC:zmu s) {D:DiskM} {m':MetM} (hp':m'.path=p) (hi':m'.id=(zaz s p).id)
  (hstep:∀t f,At D t f→(∃q kd,q<70∧kd∈zqs∧t=zdo (zaz s p).id q kd∧Body p f.bytes)∨∃y,At s.disk t y∧f.bytes=y.bytes):zmu (zco {s with disk:=D} m'):=by
 have ho:=h.met hp
 intro x hx q kd f hq hk hA
 rw [zeA] at hA
 rcases (zfq (s:={s with disk:=D}) h.srt).1 hx with rfl|⟨hx',hne⟩
 ·rw [hp']
  rcases hstep _ f hA with ⟨_,_,_,_,_,hB⟩|⟨y,hy,he⟩
  ·exact hB
  ·rw [he]
   rw [hi'] at hy
   exact z4M h ha hp hC hq hk hy
 ·rcases hstep _ f hA with ⟨r,k2,hr,hk2,he,hB⟩|⟨y,hy,he⟩
  ·have:=zfx (h.id5 hx') ho.id5 hq hr hk hk2 he
   exact absurd this.1 (ho.others x hx' (by rw [←hp'];exact hne))
  ·rw [he]
   exact hC x hx' q kd y hq hk hy
theorem zvM (h:InvS s a k) (hp:p∈P4) (ha:a<69) (hC:zmu s) {bs:List ArrM} (hb:∀x∈bs,OkA x∧OkV x):zmu (zcb s (zaz s p) bs):=by
 have ho:=h.met hp
 obtain ⟨m,hm⟩:∃m,m=zaz s p:=⟨_,rfl⟩
 have hcm:=fun q kd f (hq:q<70) (hk:kd∈zqs)=>z4M h (by omega) hp hC (q:=q) (kd:=kd) (f:=f) hq hk
 have hstep:=fun (D:DiskM) (m':MetM) h1 h2=>zp6 h (by omega) hp hC (D:=D) (m':=m') h1 h2
 rw [←hm] at ho hcm hstep⊢
 have hq:=ho.seq
 have hid5:=ho.id5
 have hn70:zaH m<70:=by unfold zaH;omega
 unfold zcb znV metA
 by_cases ht:zmw m=true
 ·simp only [ht,if_true]
  have hno:¬hasK kN (zaR s.disk m).names (newN m):=by
   rw [zdz]
   exact ho.fresh h ha (q:=zaH m) (by unfold zaH;omega) hn70 (by simp)
  have hS:=ze6 (ze4 m h.size) (zcL m.id hid5 (zaH m) hn70 zd8 (by simp)) hno (by omega)
  have hby:zaO m bs=zjv p (bs.map ptR):=by
   unfold zaO;rw [if_pos ht,zn1,ho.path];rfl
  refine hstep _ _ ho.path rfl fun t f hA=> ?_
  obtain ⟨g,hg,he⟩:=zlq (s:=newN m) hS.right (ze3.2 (.inl rfl)) hA
  rcases zoD (n:=newN m) (ze4 m h.size).right hno hg with ⟨rfl,rfl⟩|⟨hne,hg⟩
  ·rw [if_pos rfl] at he
   refine .inl ⟨zaH m,zd8,hn70,by simp,rfl,bs.map ptR,z4S hb, ?_⟩
   rw [he,←hby];simp
  ·rw [if_neg hne] at he
   obtain ⟨y,hy,he2⟩:=zsl h.size.right ho.last hg
   exact .inr ⟨y,hy,by rw [he,he2]⟩
 ·simp only [ht]
  have hcnt:m.count<16∧0<m.last:=by
   unfold zmw at ht
   simp at ht
   omega
  have hby:zaO m bs=zcw bs:=by unfold zaO;rw [if_neg ht]
  refine hstep _ _ ho.path rfl fun t f hA=> ?_
  obtain ⟨g,hg,he⟩:=zlq (s:=zdc m) h.size.right (ho.last hcnt.2) hA
  by_cases htl:t=zdc m
  ·rw [if_pos htl] at he
   subst htl
   refine .inl ⟨m.last,zd8,by omega,by simp,rfl, ?_⟩
   rw [he]
   show Body p (g.bytes++zaO m bs)
   rw [hby]
   exact (hcm m.last zd8 g (by omega) (by simp) hg).more hb
  ·rw [if_neg htl] at he
   exact .inr ⟨g,hg,by rw [he]⟩
theorem z0B (h:InvS s a k) (hp:p∈P4) (ha:a≤69) (hC:zmu s):zmu (zoG s (zaz s p)):=by
 have ho:=h.met hp
 refine zp6 h ha hp hC ho.path rfl fun t f hA=> ?_
 obtain ⟨y,hy,he⟩:=zsl h.size.right ho.last (z0e hA)
 exact .inr ⟨y,hy,he⟩
theorem z0s (h:InvS s a k) (hp:p∈P4) (ha:a<69) {b:Txt} (hf:b.length≤s.disk.quota-zaC s.disk) {t:Txt} {f:FileM} (hA:At (zhX s.disk (zaz s p) b) t f):(t=zby (zaz s p)∧f.bytes=b)∨(t≠zby (zaz s p)∧∃y,At s.disk t y∧f.bytes=y.bytes):=by
 have ho:=h.met hp
 have hP:=zs2 h ha ho hf
 have hK:=comp h ha ho hP
 have h1:=zqX (zxS hP.s6 hK.fnd hK.fok (z0e hA))
 rcases z1N hP.s4.right hP.h2 h1 with ⟨rfl,h2⟩|⟨hne,hnp,h2⟩
 ·obtain ⟨x,hx,he⟩:=zwu hP.s3.right hP.h2 h2
  rw [if_pos rfl] at he
  obtain ⟨g,hg,he2⟩:=zlq hP.s2.right hP.h2 hx
  rw [if_pos rfl] at he2
  rcases zoD hP.s1.right hP.n1 hg with ⟨_,rfl⟩|⟨hne,_⟩
  ·exact .inl ⟨rfl,by rw [he,he2];simp⟩
  ·exact absurd rfl hne
 ·obtain ⟨x,hx,he⟩:=zwu hP.s3.right hP.h2 h2
  rw [if_neg hnp] at he
  obtain ⟨g,hg,he2⟩:=zlq hP.s2.right hP.h2 hx
  rw [if_neg hnp] at he2
  rcases zoD hP.s1.right hP.n1 hg with ⟨e,_⟩|⟨_,hg⟩
  ·exact absurd e hnp
  ·obtain ⟨y,hy,he3⟩:=zsl h.size.right ho.last hg
   exact .inr ⟨hne,y,hy,by rw [he,he2,he3]⟩
theorem ztN (h:InvS s a k) (hp:p∈P4) (ha:a<69) (hC:zmu s) (hf:(zbZ (zaz s p)).length≤s.disk.quota-zaC s.disk):zmu (zjw s (zaz s p) (zbZ (zaz s p))):=by
 have ho:=h.met hp
 have hq:=ho.seq
 refine zp6 h (by omega) hp hC ho.path rfl fun t f hA=> ?_
 rcases z0s h hp ha hf hA with ⟨rfl,he⟩|⟨_,hy⟩
 ·refine .inl ⟨zaH (zaz s p),zmV,by unfold zaH;omega,by simp,rfl,(zkW (zaz s p).lad).map slM,z4R (zvY ho.lad), ?_⟩
  rw [he,zbZ,zpy,ho.path]
 ·exact .inr hy
theorem z2M (q:Nat):zmu (newS q):=fun x hx=>by simp [newS] at hx
end Go.Proofs.YtdbhocoeolhjhaaGreatDoor
end
section
set_option maxHeartbeats 1000000
namespace Go.Proofs.YtdbhocoeolhjhaaGreatDoor
open Go.Sf Go.Num
theorem zr5 {d:DiskM} (h:RightM d) (n b:Txt):zaC (zaQ d n b)≤zaC d+b.length:=(zsj d.files (idOf d.names n) b h.filed.ids).1
theorem zu6 (d:DiskM):zaC (zhZ d)≤zaC d:=by
 unfold zhZ
 split
 ·exact yaq _
 ·exact zh6 _ d.files
theorem z42 (l:List Txt):∀d:DiskM,zaC (zbt d l)=zaC d:=by
 induction l with
 |nil=>intro d;rfl
 |cons n l ih=>intro d;exact (ih (zcO d n)).trans rfl
theorem z29 (d:DiskM):zaC (zbs d)≤zaC d:=zh6 _ d.files
theorem z3k (d:DiskM) (n t:Txt):zaC (zc2 d n t)=zaC d:=rfl
theorem ztw (s:ShM) (m:MetM) (b:Txt):(zjw s m b).disk=zhX s.disk m b:=by unfold zjw;rw [zeA]
theorem z4L {p:Txt} (h:p∈P4):p.length≤5:=by
 have:∀p∈P4,p.length≤5:=by decide
 exact this p h
theorem zuw {s:ShM} {a k:Nat} {p:Txt} (h:InvS s a k) (hp:p∈P4) (ha:a<69) (bs:List ArrM) (hf:(zaO (zaz s p) bs).length≤s.disk.quota-zaC s.disk):zaC (zcb s (zaz s p) bs).disk≤zaC s.disk+31*bs.length+32:=by
 have ho:=h.met hp
 have hlp:=z4L hp
 have hbl:(zaO (zaz s p) bs).length≤31*bs.length+32:=by
  unfold zaO
  split
  ·rw [yag,zbq,zcx,zfP,ho.path];omega
  ·rw [zfP];omega
 unfold zcb
 rw [zeA]
 show zaC (znV s.disk (zaz s p) _)≤_
 unfold znV
 split
 ·rename_i ht
  have hno:¬hasK kN (zaR s.disk (zaz s p)).names (newN (zaz s p)):=by
   rw [zdz]
   exact ho.fresh h ha (q:=zaH (zaz s p)) (by unfold zaH;omega) (by have:=ho.seq;unfold zaH;omega) (by simp)
  have hS:=ze6 (ze4 (zaz s p) h.size) (zcL _ ho.id5 (zaH (zaz s p)) (by have:=ho.seq;unfold zaH;omega) zd8 (by simp)) hno (by omega)
  have:=zr5 hS.right (newN (zaz s p)) (zaO (zaz s p) bs)
  have e:=ze8 (zaR s.disk (zaz s p)) (newN (zaz s p))
  rw [zgK] at e
  have e':zaC (za1 (zaR s.disk (zaz s p)) (zdo (zaz s p).id (zaH (zaz s p)) zd8))=zaC s.disk:=e
  unfold newN at this⊢
  omega
 ·have:=zr5 h.size.right (zdc (zaz s p)) (zaO (zaz s p) bs)
  omega
theorem zyD {s:ShM} {p:Txt}:zaC (zoG s (zaz s p)).disk≤zaC s.disk:=by
 unfold zoG
 rw [zeA]
 exact yca (zu6 _) (Nat.le_of_eq (zgK _ _))
theorem zxs {s:ShM} {a k:Nat} {p:Txt} (h:InvS s a k) (hp:p∈P4):(zbZ (zaz s p)).length≤300:=by
 have ho:=h.met hp
 have:=zoj ho.lad
 have:=z4L hp
 unfold zbZ
 rw [zqL,ho.path];omega
theorem zqr {s:ShM} {a k:Nat} {p:Txt} (h:InvS s a k) (hp:p∈P4) (ha:a<69) (hf:(zbZ (zaz s p)).length≤s.disk.quota-zaC s.disk):zaC (zjw s (zaz s p) (zbZ (zaz s p))).disk≤zaC s.disk+300:=by
 have ho:=h.met hp
 have hP:=zs2 h ha ho hf
 have hl:=zxs h hp
 obtain ⟨m,hm⟩:∃m,m=zaz s p:=⟨_,rfl⟩
 rw [←hm] at hP hl hf⊢
 obtain ⟨b,hb⟩:∃b,b=zbZ m:=⟨_,rfl⟩
 rw [←hb] at hP hl hf⊢
 rw [ztw]
 unfold zhX
 refine yca (zu6 _) ?_
 rw [z42]
 unfold zg9
 refine yca (z29 _) ?_
 rw [z3k,zlR]
 have h1:=zr5 hP.s2.right (zbb m) b
 rw [ze8,zgK] at h1
 omega
structure MoreInv (s:ShM) (u:Nat):Prop where
 cont:zmu s
 used:zaC s.disk≤u
theorem ztW {s s':ShM} {a k n u:Nat} (h:InvS s a k) (ha:a<69) (hM:MoreInv s u) (hS:StepS s n s'):MoreInv s' (u+31*n+300):=by
 have hu:=hM.used
 cases hS with
 |same=>exact ⟨hM.cont,by omega⟩
 |app j hj bs hb hl hf=>
  have:=zuw h (za9 j) ha bs hf
  exact ⟨zvM h (za9 j) ha hM.cont hb,by omega⟩
 |sync j hj hh=>
  have:=zyD (s:=s) (p:=zau j)
  exact ⟨z0B h (za9 j) (by omega) hM.cont,by omega⟩
 |comp j hj hf=>
  have:=zqr h (za9 j) ha hf
  exact ⟨ztN h (za9 j) ha hM.cont hf,by omega⟩
end Go.Proofs.YtdbhocoeolhjhaaGreatDoor
end
section
set_option maxHeartbeats 8000000
namespace Go.Proofs.YtdbhocoeolhjhaaGreatDoor
open Go.Abs Go.RowKit Go.Sf Go.Num
variable {G:Globs}
theorem z2P (d:DiskM) (s:Txt) {f:FileM} (h:RightM d) (hl:Fits d) (ho:okS s) (hA:At d s f) (hne:f.bytes≠ []):PCalls Tryz.prog zuL [.agg (zak d),.str s] (fun r=>r=.tup [.lst (byteEls f.bytes),.int .i64 0]):=by
 refine zaa hmix zuM rfl ?_
 obtain ⟨g,hg,hid⟩:=h.file hA.1
 obtain rfl:g=f:=z5B h ⟨hA.1,yaf hg,hid⟩ hA
 have hi:=(yaa.1 hg).1
 have hc:=zcV hg
 obtain ⟨hx1,hx2⟩:=yaa.1 hc
 have hgb:=hl.bytes g (yaf hg)
 have hbl:=zab g.bytes
 have hfz:∀σ m k,((byteEls g.bytes).mapM fun (c:List AV)=>c.mapM (fz σ m k))=some (byteEls g.bytes):=fun σ m k=>zdg (zao _).2.1 (fun c hc=>by obtain ⟨n,_,rfl⟩:=yav.1 hc;simp)
 simp [zox,zak]
 refine zad (ziz d s h hl ho hA.1) (by simp [AV.pure,zak]) ?_
 rintro r rfl
 simp [hc,hx2,zcv,splice]
 refine zar (zs8 g.bytes hne (by omega)) ?_
 rintro r σ' ⟨rfl,rfl⟩
 simp [Abs.fin,Abs.finT,Abs.fin1,fz,hbl,hfz]
end Go.Proofs.YtdbhocoeolhjhaaGreatDoor
end
section
set_option maxHeartbeats 16000000
namespace Go.Proofs.YtdbhocoeolhjhaaGreatDoor
open Go.Abs Go.RowKit Go.Sf Go.Num
variable {G:Globs}
set_option maxRecDepth 100000 in
theorem zuP (hT:zlX G) (l:List ActM) (hl:l.length≤1000000000000000) (hd:∀a∈l,a.dots.length≤1000000000000000) (ho:∀a∈l,OkAct a):PCalls Tryz.prog zfG [.lst (zrD l)] (fun r=>r=.bool true):=by
 refine zaa hmix zfB rfl ?_
 have hle:=zu7 l
 simp [zcP]
 refine zad (z3p hT) (by simp) ?_
 rintro r rfl
 simp
 refine zad (z0C l hl hd) (by simp [AV.pure]) ?_
 rintro r rfl
 by_cases hg:znv l=true
 ·simp [hg]
 have hg':znv l=false:=by simpa using hg
 have hn:l.length≤60:=by
  unfold znv at hg'
  simp at hg';omega
 have ht:zqv l≤300:=by
  unfold znv at hg'
  simp at hg';omega
 simp [hg']
 refine zad (z12 60000 (by omega)) (by simp) ?_
 rintro r rfl
 simp [splice,shC]
 refine zah (fun x f σ=>∃(i:Nat) (s:ShM) (p:PlayM) (C0 C1 C2 C3:AV) (tl:zac),x=l.length-i∧i≤l.length∧f 0=.lst (zrD l)∧f 3=.ptr 0 0∧f 4=.int .i64 0∧f 5=.ptr 1 0∧f 6=.int .i64 i∧PlayInv s p 60000 i i∧MoreInv s (31*((l.take i).map fun a=>a.dots.length).sum+300*i)∧1000≤p.now∧p.now≤1000+30*((l.take i).map fun a=>a.dots.length).sum∧PlayAt (shV s::tl) 1 p C0 C1 C2 C3∧σ=shV s::tl) l.length ?_ ?_
 ·exact ⟨0,newS 60000,⟨fun _=> [],fun _=>0,1000⟩,.nils,.nils,.nils,.nils,[.var 42 (plC .nils .nils .nils .nils 0 0 0 0 1000)],by simp,by simp,by simp,by simp,by simp,by simp,by simp,zro (by decide),⟨z2M _,by simp [newS,zaC,zbX]⟩,by simp,by simp,⟨rfl,.inl ⟨rfl,rfl⟩,.inl ⟨rfl,rfl⟩,.inl ⟨rfl,rfl⟩,.inl ⟨rfl,rfl⟩⟩,by simp [shV,shC,plC]⟩
 rintro x f σ ⟨i,s,p,C0,C1,C2,C3,tl,rfl,hi,f0,f3,f4,f5,f6,hP,hM,hn1,hn2,hA,rfl⟩
 have hsum:=zzn (l:=l) i
 unfold zqv at ht
 simp [f0,f6,hle]
 refine zax (fun hlt=> ?_) (fun hge=> ?_)
 ·have hlt':i<l.length:=by omega
  have hwi:IntKind.i64.wrap ((i:Int)+1)=((i+1:Nat):Int):=by rw [wrap_i64 (by omega) (by omega)];omega
  obtain ⟨a,ha⟩:∃a,l[i]? =some a:=⟨_,yad hlt'⟩
  have hc:=ztS ha
  obtain ⟨hx1,hx2⟩:=yaa.1 hc
  have hact:=ho a (yaf ha)
  have hsn:l.take (i+1)=l.take i++ [a]:=by rw [yax,ha];rfl
  have hsum1:=zzn (l:=l) (i+1)
  have hsm:((l.take (i+1)).map fun a=>a.dots.length).sum=((l.take i).map fun a=>a.dots.length).sum+a.dots.length:=by
   rw [hsn,ydm,List.sum_append]
   simp only [yc6,List.map_nil,List.sum_cons,List.sum_nil,ycb]
  have hdl:a.dots.length≤300:=by omega
  have kDo:=z8o (G:=G) hT hP (by omega) (by omega) hA a hact hdl hn1 (by omega)
  have hSV:shV s=.var 33 (shC s):=rfl
  simp
  refine ⟨?_, ?_⟩
  ·simp [f0,f3,f5,f6,hc,hx2,hSV,shC,actC]
   refine zar kDo ?_
   rintro r σ' ⟨s',p',e,D0,D1,D2,D3,rfl,he,hP',hA',hK',hm1,hm2,hSt⟩
   obtain ⟨t',rfl⟩:∃t',σ'=shV s::t':=by
    have h0:=hK'.get 0 (by simp) (by decide)
    match σ',h0 with
    |x::t',h0=>exact ⟨t',by simpa using h0⟩
   have hk0:(shV s::t')[0]? =some (.var 33 (shC s)):=rfl
   have hM':=ztW hP.inv (by omega) hM hSt
   simp [zam,zal,splice,hSV,shC,f3,f6,hwi]
   refine zae (l.length-(i+1)) (by omega) ⟨i+1,s',p',D0,D1,D2,D3,t'++ [shV s'],rfl,by omega,by simp [f0],by simp [f3],by simp [f4],by simp [f5],by simp,hP',⟨hM'.cont,by have:=hM'.used;omega⟩,hm1,by omega,hA'.kept hk0 (by decide) (zfw (k:=0) (shV s') [shV s']),by simp [shV,shC]⟩
  ·simp [f0,f3,f5,f6,hc,hx2,hSV,shC,actC]
   refine zar (z8o (G:=G) hT hP (by omega) (by omega) (hA.more [_]) a hact hdl hn1 (by omega)) ?_
   rintro r σ' ⟨s',p',e,D0,D1,D2,D3,rfl,he,hP',hA',hK',hm1,hm2,hSt⟩
   have hM':=ztW hP.inv (by omega) hM hSt
   obtain ⟨t',rfl⟩:∃t',σ'=shV s::t':=by
    have h0:=hK'.get 0 (by simp) (by decide)
    match σ',h0 with
    |x::t',h0=>exact ⟨t',by simpa using h0⟩
   have htl:1≤tl.length:=by
    have:=(yaa.1 hA.at').1
    simp at this;omega
   have hzt:t'[tl.length]? =some (.var 33 [.int .i64 0,.nils,.nils,.nils,.nils,.int .i64 0,.nils,.int .i64 0,.int .i64 0,.bool false]):=by
    have h0:=hK'.get (tl.length+1) (by simp) (by omega)
    simpa using h0
   have hzs:∀x:Entry,(t'.set tl.length x)[tl.length]? =some x:=fun x=>zdV hzt x
   have hk0:(shV s::t')[0]? =some (.var 33 (shC s)):=rfl
   have hk1:(shV s'::t')[tl.length+1]? =some (.var 33 [.int .i64 0,.nils,.nils,.nils,.nils,.int .i64 0,.nils,.int .i64 0,.int .i64 0,.bool false]):=by simpa using hzt
   simp [hzt,hzs,splice,hSV,shC,f3,f6,hwi]
   have hA1:PlayAt (shV s'::t') 1 p' D0 D1 D2 D3:=by
    have:=hA'.kept hk0 (by decide) (zfw (k:=0) (shV s') [])
    simpa using this
   have hA2:PlayAt (shV s'::t'.set tl.length (shV s')) 1 p' D0 D1 D2 D3:=by
    have:=hA1.kept hk1 (by omega) (zfw (k:=tl.length+1) (shV s') [])
    simpa using this
   exact zae (l.length-(i+1)) (by omega) ⟨i+1,s',p',D0,D1,D2,D3,t'.set tl.length (shV s'),rfl,by omega,by simp [f0],by simp [f3],by simp [f4],by simp [f5],by simp,hP',⟨hM'.cont,by have:=hM'.used;omega⟩,hm1,by omega,hA2,by simp [shV,shC]⟩
 ·have hil:i=l.length:=by omega
  subst hil
  rw [ya1] at hM
  clear hn2 hn1 hi hsum hge
  have hUs:zaC s.disk≤28000:=by have:=hM.used;omega
  have hCn:=hM.cont
  have hI0:=hP.inv
  have hq0:=hP.quota
  simp
  refine zah (fun x g σ=>∃(n:Nat) (s:ShM) (k:Nat) (tl:zac),x=4-n∧n≤4∧g 3=.ptr 0 0∧g 4=.int .i64 0∧g 10=.int .i64 n∧InvS s (l.length+n) k∧k≤60∧zmu s∧zaC s.disk≤28000+300*n∧s.disk.quota=60000∧σ=shV s::tl) 4 ?_ ?_
  ·exact ⟨0,s,l.length,tl,by simp,by simp,by simp [f3],by simp [f4],by simp,by simpa using hI0,hn,hCn,by omega,hq0,rfl⟩
  clear hA f3 f4 f5 f6 f0 hP hM hUs hCn hI0 hq0 tl s p C0 C1 C2 C3 f
  rintro x g σ ⟨n,s,k,tl,rfl,hn4,g3,g4,g10,hI,hk,hC,hU,hQ,rfl⟩
  have hSV:shV s=.var 33 (shC s):=rfl
  simp [g10]
  refine zax (fun hlt=> ?_) (fun hge=> ?_)
  ·have hj4:n<4:=by omega
   have hwj:IntKind.u8.wrap (n:Int)=n:=by
    match n,hj4 with
    |0,_=>rfl
    |1,_=>rfl
    |2,_=>rfl
    |3,_=>rfl
   have hw8:IntKind.i64.wrap ((n:Int)+1)=((n+1:Nat):Int):=by rw [wrap_i64 (by omega) (by omega)];omega
   have kNm:=zoe (G:=G) n (by omega)
   have hlen:=hI.len
   simp [g10,g3,hwj,hSV,shC]
   refine zad kNm (by simp) ?_
   rintro r rfl
   simp [g3]
   by_cases hh:hasK kM s.mets (zau n)
   ·obtain ⟨hg,hpt⟩:=zdn hI.srt hh
    have kF:=zlQ (G:=G) s (zau n) hI.srt (by omega) hg hpt
    have kC:=zsw (G:=G) hT hI (by omega) (by omega) (za9 n)
    have hcl:=zxs hI (za9 n)
    have hf:(zbZ (zaz s (zau n))).length≤s.disk.quota-zaC s.disk:=by omega
    obtain ⟨s',hs'⟩:∃s',s'=zjw s (zaz s (zau n)) (zbZ (zaz s (zau n))):=⟨_,rfl⟩
    have hR:zjX s (zau n)=.tup [.agg (shC s'),.int .i64 0]:=by unfold zjX;rw [if_pos hh,if_pos hf,hs']
    rw [hR] at kC
    have hI':InvS s' (l.length+n+1) k:=by rw [hs'];exact zw4 hI (za9 n) (by omega) hf
    simp only [shC] at kF kC
    refine zad kF (by simp [AV.pure]) ?_
    rintro r rfl
    simp [splice,metC,g3]
    have hm':zsN (zaz s (zau n))∈s'.mets:=by
     rw [hs']
     exact (zfq (s:={s with disk:=zhX s.disk (zaz s (zau n)) (zbZ (zaz s (zau n)))}) hI.srt).2 (.inl rfl)
    have hp':(zsN (zaz s (zau n))).path=zau n:=hpt
    have hmo:zaz s' (zau n)=zsN (zaz s (zau n)):=zoR hI'.srt hm' hp'
    have hh':hasK kM s'.mets (zau n):=⟨_,hm',hp'⟩
    have kF':=zlQ (G:=G) s' (zau n) hI'.srt (by have:=hI'.len;omega) (zdn hI'.srt hh').1 (zdn hI'.srt hh').2
    rw [hmo] at kF'
    have kSm:=zms (G:=G) (zaz s (zau n)).lad (hI.met (za9 n)).lad
    have kL:=fun σ=>zrS (G:=G) σ s'.disk hI'.size.right (hI'.size.fits (by omega) (by omega))
    obtain ⟨m,hm⟩:∃m,m=zaz s (zau n):=⟨_,rfl⟩
    rw [←hm] at kF' kSm hm' hp' hmo hpt hs' hf hcl⊢
    have hb1:¬((zaH m:Nat):Int)≤m.base:=by unfold zaH;omega
    have hb2:¬zaH m≤m.base:=by unfold zaH;omega
    simp only [shC,metC,zsN,zak] at kF' kL
    simp only [ladC] at kSm
    refine zad kC (by simp [AV.pure]) ?_
    rintro r rfl
    simp [splice]
    refine zad kF' (by simp [AV.pure]) ?_
    rintro r rfl
    simp [splice]
    refine zad kSm (by simp [AV.pure]) ?_
    rintro r rfl
    simp [splice,hb1,hb2]
    refine zar (kL _) ?_
    rintro r σ' ⟨rfl,rfl⟩
    simp [splice]
    obtain ⟨L,hL⟩:∃L,L=s'.disk.names.map (·.name):=⟨_,rfl⟩
    have hLl:L.length=s'.disk.names.length:=by rw [hL];simp
    obtain ⟨k14,hk14⟩:∃k14,k14=tl.length+2:=⟨_,rfl⟩
    obtain ⟨kR,hkR⟩:∃kR,kR=tl.length+3+1+1:=⟨_,rfl⟩
    have hfit:=hI'.size.fits (by omega) (by omega)
    have hnn:=hfit.nnames
    have hOm:=hI.met (za9 n)
    rw [←hm] at hOm
    have hPk:=zs2 hI (by omega) hOm hf
    have hKc:=comp hI (by omega) hOm hPk
    have hdk:s'.disk=zhX s.disk m (zbZ m):=by rw [hs',ztw]
    have hQ':s'.disk.quota=60000:=by rw [hs',zyi];exact hQ
    have hC':zmu s':=by rw [hs',hm];exact ztN hI (za9 n) (by omega) hC (by rw [←hm];exact hf)
    have hU':zaC s'.disk≤28000+300*(n+1):=by
     have:=zqr hI (za9 n) (by omega) (by rw [←hm];exact hf)
     rw [←hm,←hs'] at this
     omega
    refine zah (fun x g σ=>∃(i:Nat),x=L.length-i∧i≤L.length∧g 3=.ptr 0 0∧g 4=.int .i64 0∧g 10=.int .i64 n∧g 11=.str (zau n)∧g 14=.ptr k14 0∧g 18=.int .i64 (if zby m∈L.take i then 1 else 0)∧g 19=.row kR L.length∧g 21=.int .i64 i∧σ[0]? =some (shV s)∧σ[k14]? =some (.var 33 (shC s'))∧σ[kR]? =some (.row 9 1 (zd2 L) false)) L.length ?_ ?_
    ·refine ⟨0,by simp,by simp,by simp [g3],by simp [g4],by simp [g10],by simp,by simp [hk14],by simp,by simp [hkR,hLl],by simp,by simp [shV,shC], ?_, ?_⟩
     ·rw [hk14];simp [shC]
     ·rw [hkR,hL];simp
    clear g3 g4 g10
    rintro x g σ ⟨i,rfl,hi,g3,g4,g10,g11,g14,g18,g19,g21,z0,z14,zR⟩
    have hsl:(zd2 L).length=L.length:=zin L
    simp [g21,g19,zR,hsl]
    refine zax (fun hlt=> ?_) (fun hge=> ?_)
    ·have hlt':i<L.length:=by omega
     have hwi:IntKind.i64.wrap ((i:Int)+1)=((i+1:Nat):Int):=by rw [wrap_i64 (by omega) (by omega)];omega
     obtain ⟨t,ht⟩:∃t,L[i]? =some t:=⟨_,yad hlt'⟩
     have hct:(zd2 L)[i]? =some [.str t]:=by simp [zd2,ht]
     obtain ⟨hx1,hx2⟩:=yaa.1 hct
     obtain ⟨nm,hnm,hnt⟩:∃nm∈s'.disk.names,nm.name=t:=by
      have:=yaf ht
      rw [hL] at this
      obtain ⟨nm,h1,h2⟩:=yav.1 this
      exact ⟨nm,h1,h2⟩
     have hht:hasK kN s'.disk.names t:=⟨nm,hnm,hnt⟩
     have hokt:okS t:=by rw [←hnt];exact hI'.size.right.names.ok nm hnm
     obtain ⟨f,hfm,hfi⟩:=hI'.size.right.file hht
     have hAt:At s'.disk t f:=⟨hht,yaf hfm,hfi⟩
     have hAt2:=hAt
     rw [hdk] at hAt2
     have hfb:=hI'.size.right.used
     have hfl:f.bytes.length≤60000:=by
      have:f.bytes.length≤zbX s'.disk.files:=zq7 (yav.2 ⟨f,yaf hfm,rfl⟩)
      rw [hQ'] at hfb
      unfold zaC at hfb
      omega
     have hsn:L.take (i+1)=L.take i++ [t]:=by rw [yax,ht];rfl
     have hnd:¬t∈L.take i:=by
      intro hmem
      have hnd:L.Nodup:=by
       rw [hL,yb1,ycm]
       exact hI'.size.right.names.srt.imp fun hab e=>by
        have hab':NameM.name _<NameM.name _:=hab
        rw [e] at hab';exact zc8 _ hab'
      obtain ⟨j,hj1,hj2⟩:=yaw.1 hmem
      simp only [yan] at hj1
      rw [yb7] at hj2
      have h1:L[j]? =some t:=by rw [yad (by omega),hj2]
      exact zkM (yb1.1 hnd) (by omega:j<i) h1 ht rfl
     have hcase:(t=zby m∧f.bytes=zjv (zau n) ((zkW m.lad).map slM))∨(t≠zby m∧∃(P:Txt) (rl:List RecM),P∈P4∧P≠zau n∧(∀r∈rl,OkR r)∧f.bytes=zjv P rl):=by
      have hac:=z0s (b:=zbZ m) (t:=t) (f:=f) hI (za9 n) (by omega) hf (by rw [←hm];exact hAt2)
      rw [←hm] at hac
      rcases hac with ⟨e1,e2⟩|⟨e1,y,hy,e2⟩
      ·exact .inl ⟨e1,by rw [e2,zbZ,zpy,hpt]⟩
      ·refine .inr ⟨e1, ?_⟩
       have hht2:=hht
       rw [hdk] at hht2
       obtain ⟨_,z,hz,hzp,q,kd,hq1,hq2,hq3,hq4⟩:=((hKc.nm t).1 hht2).resolve_left e1
       have hzs:=hI.seq z hz
       rw [hq1] at hy
       obtain ⟨rl,hrl1,hrl2⟩:=hC z hz q kd y (by omega) (kd3 hq4) hy
       exact ⟨z.path,rl,hI.paths z hz,by rw [←hpt];exact hzp,hrl1,by rw [e2,hrl2]⟩
     have hP4l:∀P∈P4,P≠ []∧P.length≤100:=by decide
     have hne:f.bytes≠ []:=by
      intro e
      rcases hcase with ⟨_,h2⟩|⟨_,P,rl,_,_,_,h2⟩<;>
      ·rw [e] at h2
       have:=congrArg List.length h2
       simp [zjv,zbq] at this
       omega
     have kRd:=z2P (G:=G) s'.disk t hI'.size.right hfit hokt hAt hne
     simp only [zak] at kRd
     simp [g21,g19,g14,zR,z14,hct,hx2,shC,hsl,hlt']
     refine zaZ kRd (by simp [AV.pure]) ?_
     simp
     have hbl:=zab f.bytes
     have happ:∀(j:Nat) (e x:Entry),σ[j]? =some x→(σ++ [e])[j]? =some x:=fun j e x h=>by
      rw [yar (yaa.1 h).1];exact h
     rcases hcase with ⟨e1,e2⟩|⟨e1,P,rl,hP4,hPn,hrl,e2⟩
     ·have hrc:=zoj hOm.lad
      have hsl2:((zkW m.lad).map slM).length≤11:=by rw [yc0];omega
      have kS:=zqQ (G:=G) (zau n) (hP4l _ (za9 n)).1 (hP4l _ (za9 n)).2 ((zkW m.lad).map slM) (z4R (zvY hOm.lad)) (by rw [←e2];omega)
      rw [←e2] at kS
      refine zad kS (by simp) ?_
      rintro r rfl
      rw [e1] at hnd
      rw [if_neg hnd] at g18
      have h11:¬(11:Int)<((zkW m.lad).length:Int):=by omega
      have hw1:IntKind.i64.wrap 1=1:=by decide
      simp [zaM,hbl,g11,g18,g21,hwi,h11,hw1]
      exact zae (L.length-(i+1)) (by omega) ⟨i+1,rfl,by omega,by simp [g3],by simp [g4],by simp [g10],by simp [g11],by simp [g14],by rw [hsn];simp [e1],by simp [g19],by simp,happ _ _ _ z0,happ _ _ _ z14,happ _ _ _ zR⟩
     ·have kS:=zqQ (G:=G) P (hP4l _ hP4).1 (hP4l _ hP4).2 rl hrl (by rw [←e2];omega)
      rw [←e2] at kS
      refine zad kS (by simp) ?_
      rintro r rfl
      simp [zaM,hbl,g11,g21,hwi,hPn]
      exact zae (L.length-(i+1)) (by omega) ⟨i+1,rfl,by omega,by simp [g3],by simp [g4],by simp [g10],by simp [g11],by simp [g14],by rw [hsn];simp [g18,Ne.symm e1],by simp [g19],by simp,happ _ _ _ z0,happ _ _ _ z14,happ _ _ _ zR⟩
    ·have hil:i=L.length:=by omega
     subst hil
     rw [ya1] at g18
     have hwm:zby m∈L:=by
      have:hasK kN s'.disk.names (zby m):=by rw [hdk];exact (hKc.nm _).2 (.inl rfl)
      obtain ⟨nm,h1,h2⟩:=this
      rw [hL]
      exact yav.2 ⟨nm,h1,h2⟩
     rw [if_pos hwm] at g18
     obtain ⟨Z,rfl⟩:∃Z,σ=shV s::Z:=by
      match σ,z0 with
      |y::Z,h=>exact ⟨Z,by simpa using h⟩
     simp only [hSV,shC] at z14
     simp [g18,g14,z14,g3,g10,hw8,hSV,shC,splice]
     exact zae (4-(n+1)) (by omega) ⟨n+1,s',k,_,rfl,by omega,by simp [g3],by simp [g4],by simp,hI',hk,hC',hU',hQ',by simp [shV,shC];rfl⟩
   ·have kF:=zwP (G:=G) s (zau n) hI.srt (by omega) hh
    simp only [shC] at kF
    refine zad kF (by simp [AV.pure]) ?_
    rintro r rfl
    simp [splice,z5E,g10,hw8]
    exact zae (4-(n+1)) (by omega) ⟨n+1,s,k,_,rfl,by omega,by simp [g3],by simp [g4],by simp,zwJ hI (by omega) (yaq _),hk,hC,by omega,hQ,by simp [shV,shC];rfl⟩
  ·simp [g4]
end Go.Proofs.YtdbhocoeolhjhaaGreatDoor
end
