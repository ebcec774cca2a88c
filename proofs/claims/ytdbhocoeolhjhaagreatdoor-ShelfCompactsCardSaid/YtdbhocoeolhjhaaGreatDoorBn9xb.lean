/- Shelf: the document's heads, as bytes: the middle. Shelf: the document's heads, as bytes: a rung. Shelf: the document's heads, as bytes: a rung. Shelf -/
import Derived.Test.YtdbhocoeolhjhaaGreatDoorBn1
import Derived.Test.YtdbhocoeolhjhaaGreatDoorBn2
import Derived.Test.YtdbhocoeolhjhaaGreatDoorBn3
import Derived.Test.YtdbhocoeolhjhaaGreatDoorBn4
import Derived.Test.YtdbhocoeolhjhaaGreatDoorBn5
import Derived.Test.YtdbhocoeolhjhaaGreatDoorBn6
import Derived.Test.YtdbhocoeolhjhaaGreatDoorBn7
import Derived.Test.YtdbhocoeolhjhaaGreatDoorBn8
import Derived.Test.YtdbhocoeolhjhaaGreatDoorBn9xa
set_option linter.unusedSimpArgs false
set_option linter.unusedVariables false
set_option linter.constructorNameAsVariable false
section
set_option maxHeartbeats 8000000
namespace Go.Proofs.YtdbhocoeolhjhaaGreatDoor
open Go.Abs Go.RowKit Go.Sf
variable {G:Globs}
attribute [-simp] zbn zcK zca za4
theorem z57 (p:Txt) (h0:p≠ []) (hl:p.length≤100) {f:Abs.Frame} {σ:zac} (hJ:z6x p 0 f σ):awp Tryz.prog (znm 2) (zxI (fun f' σ'=>∃tl,f' 1=.ptr 0 0∧f' 5=.int .i64 (0:Nat)∧f' 4=.row 1 (9+p.length+6*1)∧σ'=.var 74 (zaM p):: .row 5 1 (byteEls (hb7 p)) false::tl) (.mk _)) f σ:=by
 obtain ⟨tl,f1,f5,f4,rfl⟩:=hJ
 have k1:=zat (G:=G) (IntKind.u64.wrap (p.length:Int)) 2 (by decide)
 have k2:=zat (G:=G) (IntKind.u64.wrap 500000) 4 (by decide)
 have k3:=zat (G:=G) (IntKind.u64.wrap 10) 4 (by decide)
 have k4:=zat (G:=G) (IntKind.u64.wrap 6) 2 (by decide)
 have k5:=zat (G:=G) (IntKind.u64.wrap 60) 4 (by decide)
 have k6:=zat (G:=G) (IntKind.u64.wrap 5) 2 (by decide)
 have w1:IntKind.u64.wrap (p.length:Int)=p.length:=zdU (by omega)
 have w2:IntKind.u64.wrap 500000=500000:=by decide
 have w3:IntKind.u64.wrap 10=10:=by decide
 have w4:IntKind.u64.wrap 6=6:=by decide
 have w5:IntKind.u64.wrap 60=60:=by decide
 have w6:IntKind.u64.wrap 5=5:=by decide
 rw [w1] at k1
 rw [w2] at k2
 rw [w3] at k3
 rw [w4] at k4
 rw [w5] at k5
 rw [w6] at k6
 obtain ⟨b2,hb2⟩:∃b,b=hb2 p:=⟨_,rfl⟩
 have hb2':b2= [lo8 1]++leB p.length 2:=hb2
 obtain ⟨b5,hb5⟩:∃b,b=hb5 p:=⟨_,rfl⟩
 have hb5':b5=b2++p++leB 1 1++leB 500000 4++leB 2 1:=by rw [hb5,hb2];rfl
 obtain ⟨b7,hb7⟩:∃b,b=hb7 p:=⟨_,rfl⟩
 have hb7':b7=b5++leB 10 4++leB 6 2:=by rw [hb7,hb5];rfl
 have hb9:zba p=b7++leB 60 4++leB 5 2:=by rw [hb7',hb5',hb2'];rfl
 obtain ⟨b0,hb0⟩:∃b,b= [lo8 1]:=⟨_,rfl⟩
 obtain ⟨b3,hb3⟩:∃b,b=b2++p++leB 1 1:=⟨_,rfl⟩
 obtain ⟨b4,hb4⟩:∃b,b=b3++leB 500000 4:=⟨_,rfl⟩
 have n0:(byteEls b0).length=1:=by rw [hb0];rfl
 have n2:(byteEls b2).length=3:=by rw [zab,hb2',yag,zaj];rfl
 have np:(byteEls (b2++p)).length=3+p.length:=by rw [zab,yag,←zab,n2]
 have np':(b2++p).length=3+p.length:=by rw [←zab,np]
 have n3:(byteEls b3).length=4+p.length:=by rw [zab,hb3,yag,zaj,np'];omega
 have n4:(byteEls b4).length=8+p.length:=by rw [zab,hb4,yag,zaj,←zab,n3];omega
 have n5:(byteEls b5).length=9+p.length:=by rw [zab,hb5',←hb3,←hb4,yag,zaj,←zab,n4];omega
 have n5':b5.length=9+p.length:=by rw [←zab,n5]
 have m1:(byteEls (leB p.length 2)).length=2:=by rw [zab,zaj]
 have m2:(byteEls (leB 500000 4)).length=4:=by rw [zab,zaj]
 have A1:byteEls b0++byteEls (leB p.length 2)=byteEls b2:=by rw [hb2',hb0,zan]
 have A2:byteEls b2++byteEls p=byteEls (b2++p):=by rw [zan]
 have A3:byteEls (b2++p)++ [[AV.int .u8 (IntKind.u8.wrap 1)]]=byteEls b3:=by rw [hb3,zaS];simp [leB,shrI]
 have A4:byteEls b3++byteEls (leB 500000 4)=byteEls b4:=by rw [hb4,zan]
 have A5:byteEls b4++ [[AV.int .u8 (IntKind.u8.wrap 2)]]=byteEls b5:=by rw [hb5',←hb3,←hb4,zaS];simp [leB,shrI]
 have hrl:rungsC.length=2:=rfl
 obtain ⟨b6,hb6⟩:∃b,b=b5++leB 10 4:=⟨_,rfl⟩
 obtain ⟨b8,hb8⟩:∃b,b=b7++leB 60 4:=⟨_,rfl⟩
 have n6:(byteEls b6).length=13+p.length:=by rw [zab,hb6,yag,zaj,n5'];omega
 have n7:(byteEls b7).length=15+p.length:=by rw [zab,hb7',←hb6,yag,zaj,←zab,n6];omega
 have n8:(byteEls b8).length=19+p.length:=by rw [zab,hb8,yag,zaj,←zab,n7];omega
 have m3:(byteEls (leB 10 4)).length=4:=by rw [zab,zaj]
 have m4:(byteEls (leB 6 2)).length=2:=by rw [zab,zaj]
 have m5:(byteEls (leB 60 4)).length=4:=by rw [zab,zaj]
 have m6:(byteEls (leB 5 2)).length=2:=by rw [zab,zaj]
 have A6:byteEls b5++byteEls (leB 10 4)=byteEls b6:=by rw [hb6,zan]
 have A7:byteEls b6++byteEls (leB 6 2)=byteEls b7:=by rw [hb7',←hb6,zan]
 have A8:byteEls b7++byteEls (leB 60 4)=byteEls b8:=by rw [hb8,zan]
 have A9:byteEls b8++byteEls (leB 5 2)=byteEls (zba p):=by rw [hb9,←hb8,zan]
 have hE0: [[AV.int .u8 (IntKind.u8.wrap 1)]]=byteEls b0:=by rw [hb0];rfl
 rw [if_pos rfl,←hb5]
 simp [znm,zoB,a_isobarref08_Put,f1,f4,f5,zaM,rungsC,w3,w4]
 repeat' apply And.intro
 all_goals
  repeat first
   |(refine zaZ k3 (by simp) ?_;simp [f1,f4,f5,w3,w4,w5,w6,wk1,wk2])
   |(refine zaZ k4 (by simp) ?_;simp [f1,f4,f5,w3,w4,w5,w6,wk1,wk2])
   |(refine zaK (byteEls b5) (byteEls (leB 10 4)) false (by simp) rfl (by decide) (zao _).1 (fun h=>by cases h) (by first|omega|(simp;omega)) (by first|omega|(simp;omega)) (by first|omega|(simp;omega)) ?_;simp [f1,f4,f5,w3,w4,w5,w6,wk1,wk2,A6])
   |(refine zaK (byteEls b6) (byteEls (leB 6 2)) false (by simp) rfl (by decide) (zao _).1 (fun h=>by cases h) (by first|omega|(simp;omega)) (by first|omega|(simp;omega)) (by first|omega|(simp;omega)) ?_;simp [f1,f4,f5,w3,w4,w5,w6,wk1,wk2,A7])
  refine zc5 ?_
  rw [←hb7]
  exact ⟨_,by simp [f1],by simp [f5],by simp;omega,rfl⟩
end Go.Proofs.YtdbhocoeolhjhaaGreatDoor
end
