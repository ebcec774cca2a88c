/- From a contract over the abstract machine to a call of the model, for a law that touches no entry and answers true. Acts of a play as an argument of a -/
import Derived.Test.YtdbhocoeolhjhaaGreatDoorAbs2
import Derived.ProofKit
import Derived.LaidLaws
import Derived.Handed
import Derived.Carry
import Derived.Lib.LaidTab
import Derived.OpenShut
import Derived.SizedLaws
import Derived.Test.YtdbhocoeolhjhaaGreatDoorRows
import Derived.Lib.LaidIn
import Derived.Lib.LaidU8
import Derived.Stop.LaidErr
import Derived.SevenTiedAt
import Derived.Test.YtdbhocoeolhjhaaGreatDoorSfK2Jz
import Derived.Test.YtdbhocoeolhjhaaGreatDoorBn1
import Derived.Test.YtdbhocoeolhjhaaGreatDoorBn2
import Derived.Test.YtdbhocoeolhjhaaGreatDoorBn3
import Derived.Test.YtdbhocoeolhjhaaGreatDoorBn4
import Derived.Test.YtdbhocoeolhjhaaGreatDoorBn5
import Derived.Test.YtdbhocoeolhjhaaGreatDoorBn6
import Derived.Test.YtdbhocoeolhjhaaGreatDoorBn7
import Derived.Test.YtdbhocoeolhjhaaGreatDoorBn8
import Derived.Test.YtdbhocoeolhjhaaGreatDoorBn9
set_option linter.unusedSimpArgs false
set_option linter.unusedVariables false
set_option linter.constructorNameAsVariable false
section
namespace Go.Abs
open Go.RowKit
def z5Z:Key:=fun _ _=>none
def gIm [Globs]:Addr→Prop:=fun a=>a.spot=none∧∃p∈Globs.tab,a.block=p.1
def z1Y [Globs] (w:World):Prop:=GOK w.heap.size gIm w
end Go.Abs
end
section
namespace Go.Abs
open Go.RowKit
def zmT (w:World):Addr→Prop:=fun a=>a.spot=none∧a.block<w.heap.size
theorem zso {G:Globs} {P:Program} {f:FuncId} {args:List AV} {vs:List Value} {w:World} (h:PCalls P f args (fun r=>r=.bool true)) (hg:z1Y w) (hv:IRL (zmT w) w args vs):Calls P f vs.toArray w fun e w'=>e=.returned (.bool true)∧Below w.heap.size w w':=by
 have hG:GOK w.heap.size (zmT w) w:=fun p hp=>by
  obtain ⟨h1,h2,h3⟩:=hg p hp
  refine ⟨h1,h2,h3.mono (fun a ha=> ?_) (fun _ _=>rfl)⟩
  obtain ⟨ha1,q,hq,ha2⟩:=ha
  exact ⟨ha1,by rw [ha2];exact (hg q hq).1⟩
 have hS:SRel w.heap.size z5Z (zmT w) [] w:=⟨yaq _,fun id n v h=>by simp [z5Z] at h,fun id e h=>by simp at h,fun i j e e' b _ h=>by simp at h,fun a h=>⟨h.2,h.1⟩,hG⟩
 refine (h w.heap.size z5Z (zmT w) w vs hS ⟨hv.1,fun j h h'=> .im _ _ (hv.2 j h h')⟩).mono ?_
 rintro e w' ⟨r,σ',v,κ',Im',rfl,⟨_,rfl⟩,_,hg,hr⟩
 exact ⟨by rw [hr.bool_inv],hg.below⟩
theorem z5F {Im:Addr→Prop} (w:World):IRL Im w [] []:=⟨rfl,fun j h=>by simp at h⟩
theorem z3R {Im:Addr→Prop} {w:World} {a:AV} {v:Value} {l:List AV} {vs:List Value} (h:IR Im w a v) (hl:IRL Im w l vs):IRL Im w (a::l) (v::vs):=by
 refine ⟨by simp [hl.1],fun j hj hj'=> ?_⟩
 cases j with
 |zero=>exact h
 |succ j=>exact hl.2 j (by simpa using hj) (by simpa using hj')
end Go.Abs
namespace Go.Proofs.YtdbhocoeolhjhaaGreatDoor
open Go.ChangeShapes Go.WideShapes Go.ChangeAt Go.RowKit Go.ChangeMaps Go.Abs Go.Sf
section
variable {H:Type} {enc:TypeId×Value→H} {w:World} {base:Nat} {spare:Nat→Bool} {held:Bool} {P:Program}
theorem z5u {a:Addr} {n:Nat} {cs:List Value} (h:w.cells? base a (n+1)=some cs):a.spot=none:=by
 unfold World.cells? at h
 split at h
 ·obtain ⟨y,_,hy⟩:∃y,cs[0]? =some y∧w.cell? (a.add 0)=some y:=by
   have hl:=Lib.mapM_at h 0 0 (by simp)
   simpa using hl
  have e:a.add 0=a:=by simp [Addr.add]
  rw [e] at hy
  unfold World.cell? at hy
  split at hy
  ·split at hy
   ·cases hy
   ·rename_i hs;simpa using hs
  ·cases hy
 ·cases h
theorem z3G {a:Addr} {len cap size:Nat} {elems rest:List (DataW H×List MemPlace)} {n:Nat} {e:TypeId} (hc:cap≠0) (hlen:elems.length=len)
  (hel:∀i,i<len→(w.cells? base (a.add (i*(size+1))) (size+1)).bind (DataW.trod enc P w base spare held n e)=elems[i]?)
  (hrl:rest.length=cap-len) (hre:∀j,j<cap-len→(w.cells? base (a.add ((len+j)*(size+1))) (size+1)).bind (DataW.trod enc P w base spare held n e)=rest[j]?):a.spot=none:=by
 have key:∃cs,w.cells? base (a.add (0*(size+1))) (size+1)=some cs:=by
  rcases Nat.eq_zero_or_pos len with h0|h0
  ·have h1:=hre 0 (by omega)
   obtain ⟨y,hy⟩:∃y,rest[0]? =some y:=⟨_,yad (by omega)⟩
   rw [hy,yac,h0,ybe] at h1
   obtain ⟨cs,hcs,_⟩:=h1
   exact ⟨cs,hcs⟩
  ·have h1:=hel 0 h0
   obtain ⟨y,hy⟩:∃y,elems[0]? =some y:=⟨_,yad (by omega)⟩
   rw [hy,yac] at h1
   obtain ⟨cs,hcs,_⟩:=h1
   exact ⟨cs,hcs⟩
 obtain ⟨cs,hcs⟩:=key
 have e:a.add (0*(size+1))=a:=by simp [Addr.add]
 rw [e] at hcs
 exact z5u hcs
theorem zj2 {e:TypeId} {d:DataW H} {q:Nat}:∀{ds:List (DataW H)},d∈ds→q∈d.weights P e→q∈DataW.weightsAll P e ds
 |d0::ds,h,hq=>by
  simp only [DataW.weightsAll,yai]
  rcases ybb.1 h with rfl|h
  ·exact .inl hq
  ·exact .inr (zj2 h hq)
theorem zqy {α:Type} {tS te:TypeId} {size bytes:Nat} (hu:P.underlying tS=some (.slice te)) (hce:P.cellsOf te=size+1) (hbe:P.bytesOf te=bytes) (C:α→List AV) (dflt:α) (good:α→DataW H→Prop)
  (hone:∀a,∀x∈C a,x.one=true) (hClen:∀a,(C a).length=size+1)
  (hel0:∀{n:Nat} {cs:List Value} {y:DataW H×List MemPlace},DataW.trod enc P w base spare held n te cs=some y→∃a,good a y.1∧∀j (h:j<(C a).length),∃c,cs[j]? =some c∧IR (zmT w) w (C a)[j] c)
  (hsp:∀b,spare b=true) {n:Nat} {c:Value} {x:DataW H×List MemPlace} (hf:DataW.trod enc P w base spare held n tS [c]=some x):
  ∃l:List α,(∀a∈l,∃d,good a d∧∀q∈d.weights P te,q∈x.1.weights P tS)∧(l= []∨∃q∈x.1.weights P tS,l.length*bytes≤q)∧IR (zmT w) w (.lst (l.map C)) c:=by
 rcases DataW.trod_slice hu hf with ⟨hcs,hx⟩|⟨a,len,cap,elems,rest,n,_,hcs,hx,hb,hl,hm,hlen,hel,hre,_⟩
 ·simp only [yc8,and_true] at hcs
  subst hcs
  exact ⟨[],by simp,.inl rfl,.lnil none⟩
 ·simp only [yc8,and_true] at hcs
  subst hcs
  obtain ⟨hrl,hre⟩:=hre (hsp _)
  rw [hce] at hel hre
  by_cases hcap:cap=0
  ·have:len=0:=by omega
   subst this;subst hcap
   exact ⟨[],by simp,.inl rfl,.lnil _⟩
  have hspot:a.spot=none:=z3G (size:=size) hcap hlen hel hrl hre
  obtain ⟨b,o,sp⟩:=a
  simp only at hspot
  subst hspot
  have aa:∀x y:Nat,Addr.add ⟨b,x,none⟩ y=⟨b,x+y,none⟩:=fun x y=>by unfold Addr.add;split<;>simp_all
  have each:∀i,∃s:α,i<len→(∃y,elems[i]? =some y∧good s y.1)∧∀j (h:j<(C s).length),∃c,w.cell? ⟨b,o+(i*(size+1)+j),none⟩=some c∧IR (zmT w) w (C s)[j] c:=by
   intro i
   by_cases hi:i<len
   ·have h1:=hel i hi
    obtain ⟨y,hy⟩:∃y,elems[i]? =some y:=⟨_,yad (by omega)⟩
    rw [hy,yac] at h1
    obtain ⟨cs,hc1,hc2⟩:=h1
    obtain ⟨s,hs,hir⟩:=hel0 hc2
    refine ⟨s,fun _=>⟨⟨y,hy,hs⟩,fun j hj=> ?_⟩⟩
    obtain ⟨c,e1,e2⟩:=hir j hj
    refine ⟨c, ?_,e2⟩
    unfold World.cells? at hc1
    split at hc1
    ·obtain ⟨c',e3,e4⟩:=Lib.mapM_at hc1 j j (by rw [hClen] at hj;simp [hj])
     rw [aa,aa,ydt] at e4
     rw [e1] at e3
     cases e3
     exact e4
    ·cases hc1
   ·exact ⟨dflt,fun h=>absurd h hi⟩
  obtain ⟨f,hfs⟩:=Classical.axiomOfChoice each
  have hdd:x.1=.slice (elems.map (·.1)) (rest.map (·.1)):=congrArg Prod.fst hx
  refine ⟨(List.range len).map f, ?_,.inr ?_, ?_⟩
  ·intro s hs
   simp only [yav,yee] at hs
   obtain ⟨i,hi,rfl⟩:=hs
   obtain ⟨y,hy,hg⟩:=(hfs i hi).1
   refine ⟨y.1,hg,fun q hq=> ?_⟩
   rw [hdd]
   simp only [DataW.weights,hu]
   exact ybq _ (yai.2 (.inl (zj2 (d:=y.1) (yav.2 ⟨y,yaf hy,rfl⟩) hq)))
  ·rw [hdd]
   refine ⟨((elems.map (·.1)).length+(rest.map (·.1)).length)*P.bytesOf te, ?_, ?_⟩
   ·simp only [DataW.weights,hu]
    exact List.Mem.head _
   ·rw [hbe]
    refine yas _ ?_
    simp;omega
  ·have hnl:(((List.range len).map f).map C).length=len:=by simp
   have hold:∀i j v,w.cell? ⟨b,o+(i*(size+1)+j),none⟩=some v→zmT w ⟨b,o+(i*(size+1)+j),none⟩:=fun i j v h=>by
    refine ⟨rfl, ?_⟩
    rcases yel b w.heap.size with h'|h'
    ·exact h'
    ·simp [World.cell?,Array.getElem?_eq_none h'] at h
   have:=IR.lst (Im:=zmT w) (w:=w) (((List.range len).map f).map C) (size+1) b o cap
    (fun i j=>(w.cell? ⟨b,o+(i*(size+1)+j),none⟩).getD undef) (by rw [hnl];exact hl) hm
    (fun c hc=>by
     obtain ⟨s,_,rfl⟩:=yav.1 hc
     exact hClen s)
    (fun c hc x hx=>by
     obtain ⟨s,_,rfl⟩:=yav.1 hc
     exact hone s x hx)
    (fun k j hk hj=>by
     rw [hnl] at hk
     obtain ⟨c,hc,_⟩:=(hfs k hk).2 j (by rw [hClen];exact hj)
     exact ⟨hold k j _ hc,by rw [hc];rfl⟩)
    (fun k j hk hj=>by
     rw [hnl] at hk
     have e:(((List.range len).map f).map C)[k]=C (f k):=by simp
     have hj':j<(C (f k)).length:=by rw [←e];exact hj
     obtain ⟨c,hc,hir⟩:=(hfs k hk).2 j hj'
     simp only [hc,Option.getD_some,e]
     exact hir)
   rw [hnl] at this
   exact this
end
section
variable {H:Type} {enc:TypeId×Value→H} {w:World} {base:Nat} {spare:Nat→Bool} {held:Bool}
theorem zog:Tryz.prog.cellsOf 5=1:=by kernel_rfl
theorem z0l:Tryz.prog.cellsOf 2=1:=by kernel_rfl
theorem zwE:Tryz.prog.cellsOf 163=2+1:=by kernel_rfl
theorem zzO:Tryz.prog.bytesOf 163=16:=by kernel_rfl
theorem z01:Tryz.prog.cellsOf 45=1:=by kernel_rfl
theorem zwW:Tryz.prog.cellsOf 47=2+1:=by kernel_rfl
theorem z2c:Tryz.prog.bytesOf 47=32:=by kernel_rfl
theorem zw6 {n:Int} (h:(Lit.int .u8 n).wf=true):∃k:Nat,n=k∧k<256:=by
 have h1:IntKind.u8.min=0:=rfl
 have h2:IntKind.u8.max=255:=rfl
 simp only [Lit.wf,yb3,decide_eq_true_eq] at h
 exact ⟨n.toNat,by omega,by omega⟩
theorem z5K {n:Int} (h:(Lit.int .i64 n).wf=true):i64 n:=by
 have h1:IntKind.i64.min= -9223372036854775808:=rfl
 have h2:IntKind.i64.max=9223372036854775807:=rfl
 simp only [Lit.wf,yb3,decide_eq_true_eq] at h
 exact ⟨by omega,by omega⟩
set_option maxRecDepth 100000 in
theorem zz6 {n:Nat} {cs:List Value} {y:DataW H×List MemPlace} (hf:DataW.trod enc Tryz.prog w base spare held n 163 cs=some y):
  ∃a:DotM,OkDot a∧∀j (h:j<(dotC a).length),∃c,cs[j]? =some c∧IR (zmT w) w (dotC a)[j] c:=by
 obtain ⟨xs,n,rfl,hx,hl,hxl,hall⟩:=DataW.trod_struct Tryz.underlying163 hf
 have hx2:xs.length=3:=hxl
 obtain ⟨x0,x1,x2,rfl⟩:∃x0 x1 x2,xs= [x0,x1,x2]:=by
  match xs,hx2 with
  | [a,b,c],_=>exact ⟨a,b,c,rfl⟩
 have hl2:cs.length=3:=by rw [hl,zwE]
 obtain ⟨c0,c1,c2,rfl⟩:∃c0 c1 c2,cs= [c0,c1,c2]:=by
  match cs,hl2 with
  | [a,b,c],_=>exact ⟨a,b,c,rfl⟩
 have h0:DataW.trod enc Tryz.prog w base spare held n 5 [c0]=some x0:=by simpa [zog,Value.cells] using hall 0 _ rfl
 have h1:DataW.trod enc Tryz.prog w base spare held n 5 [c1]=some x1:=by simpa [zog,Value.cells] using hall 1 _ rfl
 have h2:DataW.trod enc Tryz.prog w base spare held n 2 [c2]=some x2:=by simpa [z0l,Value.cells] using hall 2 _ rfl
 obtain ⟨m0,e0,_,w0⟩:=DataW.trod_int Tryz.underlying5 h0
 obtain ⟨m1,e1,_,w1⟩:=DataW.trod_int Tryz.underlying5 h1
 obtain ⟨m2,e2,_,w2⟩:=DataW.trod_int Tryz.underlying2 h2
 simp only [yc8,and_true] at e0 e1 e2
 subst e0 e1 e2
 obtain ⟨k0,rfl,b0⟩:=zw6 w0
 obtain ⟨k1,rfl,b1⟩:=zw6 w1
 refine ⟨⟨k0,k1,m2⟩,⟨b0,b1,z5K w2⟩,fun j hj=> ?_⟩
 have hj':j<3:=hj
 match j,hj' with
 |0,_=>exact ⟨_,rfl,.int _ _⟩
 |1,_=>exact ⟨_,rfl,.int _ _⟩
 |2,_=>exact ⟨_,rfl,.int _ _⟩
set_option maxRecDepth 100000 in
theorem zyC (hsp:∀b,spare b=true) {n:Nat} {c:Value} {x:DataW H×List MemPlace} (hf:DataW.trod enc Tryz.prog w base spare held n 45 [c]=some x):
  ∃l:List DotM,(∀a∈l,OkDot a)∧(l= []∨∃q∈x.1.weights Tryz.prog 45,l.length*16≤q)∧IR (zmT w) w (.lst (zte l)) c:=by
 obtain ⟨l,h1,h2,h3⟩:=zqy (good:=fun a _=>OkDot a) Tryz.underlying45 zwE zzO dotC ⟨0,0,0⟩ (fun a x hx=>by simp [dotC] at hx;rcases hx with rfl|rfl|rfl<;>rfl) (fun a=>rfl) (fun h=>zz6 h) hsp hf
 exact ⟨l,fun a ha=>(h1 a ha).elim fun d h=>h.1,h2,h3⟩
def z7E (a:ActM) (d:DataW H):Prop:=OkAct a∧(a.dots= []∨∃q∈d.weights Tryz.prog 47,a.dots.length*16≤q)
set_option maxRecDepth 100000 in
theorem z1H (hsp:∀b,spare b=true) {n:Nat} {cs:List Value} {y:DataW H×List MemPlace} (hf:DataW.trod enc Tryz.prog w base spare held n 47 cs=some y):
  ∃a:ActM,z7E a y.1∧∀j (h:j<(actC a).length),∃c,cs[j]? =some c∧IR (zmT w) w (actC a)[j] c:=by
 obtain ⟨xs,n,rfl,hx,hl,hxl,hall⟩:=DataW.trod_struct Tryz.underlying47 hf
 have hx2:xs.length=3:=hxl
 obtain ⟨x0,x1,x2,rfl⟩:∃x0 x1 x2,xs= [x0,x1,x2]:=by
  match xs,hx2 with
  | [a,b,c],_=>exact ⟨a,b,c,rfl⟩
 have hl2:cs.length=3:=by rw [hl,zwW]
 obtain ⟨c0,c1,c2,rfl⟩:∃c0 c1 c2,cs= [c0,c1,c2]:=by
  match cs,hl2 with
  | [a,b,c],_=>exact ⟨a,b,c,rfl⟩
 have h0:DataW.trod enc Tryz.prog w base spare held n 5 [c0]=some x0:=by simpa [zog,Value.cells] using hall 0 _ rfl
 have h1:DataW.trod enc Tryz.prog w base spare held n 5 [c1]=some x1:=by simpa [zog,Value.cells] using hall 1 _ rfl
 have h2:DataW.trod enc Tryz.prog w base spare held n 45 [c2]=some x2:=by simpa [z01,Value.cells] using hall 2 _ rfl
 obtain ⟨m0,e0,_,w0⟩:=DataW.trod_int Tryz.underlying5 h0
 obtain ⟨m1,e1,_,w1⟩:=DataW.trod_int Tryz.underlying5 h1
 simp only [yc8,and_true] at e0 e1
 subst e0 e1
 obtain ⟨k0,rfl,b0⟩:=zw6 w0
 obtain ⟨k1,rfl,b1⟩:=zw6 w1
 obtain ⟨l,hl1,hl2,hl3⟩:=zyC hsp h2
 have hww:∀q∈x2.1.weights Tryz.prog 45,q∈y.1.weights Tryz.prog 47:=fun q hq=>by
  have hdd:y.1=.agg ([x0,x1,x2].map (·.1)):=congrArg Prod.fst hx
  rw [hdd]
  simp only [DataW.weights,Tryz.underlying47]
  exact DataW.weights_mem_each (j:=2) rfl rfl q hq
 refine ⟨⟨k0,k1,l⟩,⟨⟨b0,b1,hl1⟩,hl2.imp id fun ⟨q,hq,hq2⟩=>⟨q,hww q hq,hq2⟩⟩,fun j hj=> ?_⟩
 have hj':j<3:=hj
 match j,hj' with
 |0,_=>exact ⟨_,rfl,.int _ _⟩
 |1,_=>exact ⟨_,rfl,.int _ _⟩
 |2,_=>exact ⟨_,rfl,hl3⟩
set_option maxRecDepth 100000 in
theorem zz0 (hsp:∀b,spare b=true) {r:Reach} {b0:Nat} {v:Value} {d:DataW H} {ps:List MemPlace} (hval:Value.okWide Tryz.prog w r b0 22 v) (hd:DataW.Trod enc Tryz.prog w base spare held 22 v d ps):
  ∃l:List ActM,(∀a∈l,OkAct a)∧(l= []∨∃q∈d.weights Tryz.prog 22,l.length*32≤q)∧(∀a∈l,a.dots= []∨∃q∈d.weights Tryz.prog 22,a.dots.length*16≤q)∧IR (zmT w) w (.lst (zrD l)) v:=by
 obtain ⟨fuel,hf⟩:=hd
 obtain ⟨a0,len,cap,rfl⟩:=okWide_slice Tryz.underlying22 hval
 have hf':DataW.trod enc Tryz.prog w base spare held fuel 22 [.slice a0 len cap]=some (d,ps):=by simpa [Value.cells] using hf
 obtain ⟨l,h1,h2,h3⟩:=zqy (good:=z7E) Tryz.underlying22 zwW z2c actC ⟨0,0,[]⟩ (fun a x hx=>by simp [actC] at hx;rcases hx with rfl|rfl|rfl<;>rfl) (fun a=>rfl) (fun h=>z1H hsp h) hsp hf'
 exact ⟨l,fun a ha=>(h1 a ha).elim fun d h=>h.1.1,h2,fun a ha=>(h1 a ha).elim fun d h=>h.1.2.imp id fun ⟨q,hq,hq2⟩=>⟨q,h.2 q hq,hq2⟩,h3⟩
theorem z2j {l:List ActM} {W:List Nat} (h:l= []∨∃q∈W,l.length*32≤q) (hW:∀q∈W,q≤reachBytes):l.length≤1000000000000000:=by
 rcases h with rfl|⟨q,hq,h⟩
 ·simp
 ·have:=hW q hq
  have h2:reachBytes=140737488351232:=rfl
  omega
theorem z36 {l:List ActM} {W:List Nat} (h:∀a∈l,a.dots= []∨∃q∈W,a.dots.length*16≤q) (hW:∀q∈W,q≤reachBytes):∀a∈l,a.dots.length≤1000000000000000:=fun a ha=>by
 rcases h a ha with h|⟨q,hq,h⟩
 ·rw [h];simp
 ·have:=hW q hq
  have h2:reachBytes=140737488351232:=rfl
  omega
end
end Go.Proofs.YtdbhocoeolhjhaaGreatDoor
end
section
namespace Go.Proofs.YtdbhocoeolhjhaaGreatDoor
open Go.ChangeShapes Go.WideShapes Go.ChangeAt Go.RowKit Go.ChangeMaps Go.Abs Go.Sf
theorem z4N {P:Program} {w:World} {n:String} {d:DataW Unit}:∀{l:List (String×DataW Unit)},laidMet P l w→(n,d)∈l→∃r,laidMet P ((n,d)::r) w
 | [],_,hm=>by cases hm
 |x::l,h,hm=>by
  rcases ybb.1 hm with e|e
  ·subst e;exact ⟨l,h⟩
  ·exact z4N h.tail e
theorem z58 {P:Program} {w:World} {n:String} {g:Nat} {cs:Array Value} {avs:List AV} {Im:Addr→Prop} (hg:P.globalNamed n=some g) (hv:w.var? P n=some cs) (hlen:cs.size=avs.length)
  (hone:∀c∈avs,c.one=true) (hr:∀j (h:j<avs.length),IR Im w (avs[j]) ((cs[j]?).getD (.bool false))) (hIm:∀j,Im ⟨g,j,none⟩):
  g<w.heap.size∧(∃cs t fz,w.heap[g]? =some (.cells cs t fz)∧cs.size=avs.length)∧IR Im w (.rptr avs) (.pointer (some ⟨g,0,none⟩)):=by
 have h0:∃t fz,w.heap[g]? =some (.cells cs t fz):=by
  unfold World.var? at hv
  simp only [hg,ydr] at hv
  split at hv
  ·rename_i c t fz hh
   cases hv
   exact ⟨t,fz,hh⟩
  ·cases hv
 obtain ⟨t,fz,hh⟩:=h0
 refine ⟨?_,⟨cs,t,fz,hh,hlen⟩, ?_⟩
 ·rcases yel g w.heap.size with h|h
  ·exact h
  ·rw [Array.getElem?_eq_none h] at hh;cases hh
 ·refine .rptr avs g 0 (fun j=>(cs[j]?).getD (.bool false)) hone (fun j hj=>⟨?_, ?_⟩) hr
  ·simpa using hIm j
  ·have:j<cs.size:=by omega
   simp [World.cell?,hh,this]
abbrev gStp:Nat:=2
instance sfGlobs:Globs:=⟨[(gStp,stepsC)]⟩
theorem z3K:zlX sfGlobs:=rfl
theorem z7O {l : List (String × DataW Unit)} {w : World} (h : laidMet Tryz.prog l w) (h1 : ("isobar/crc.steps", Rows.laid_isobar_crc_steps) ∈ l) : z1Y w := by
 intro p hp
 have hI:∀g,(∃p∈Globs.tab,g=p.1)→∀j,gIm ⟨g,j,none⟩:=fun g hg j=>⟨rfl,hg⟩
 rcases hp with _|⟨_,hp⟩
 ·obtain ⟨r,h⟩:=z4N h h1
  have e:(Rows.laid_isobar_crc_steps:DataW Unit)=Lib.tabData .u32 stepsT:=by kernel_rfl
  rw [e] at h
  have:=Lib.tabIs_of_head (g:=gStp) (by kernel_rfl) (by kernel_rfl) Tryz.underlying364 Tryz.underlying286 (by kernel_rfl) (by kernel_rfl) h
  refine z58 (n := "isobar/crc.steps") (by kernel_rfl) this (by simp [stepsC]) (by simp [AV.one, stepsC]) ?_ (hI _ ⟨_, List.Mem.head _, rfl⟩)
  intro j hj
  have hj':j<stepsT.length:=by simpa [stepsC] using hj
  simp [hj',stepsC]
  exact .int _ _
 ·cases hp
end Go.Proofs.YtdbhocoeolhjhaaGreatDoor
end
section
namespace Go.Proofs.YtdbhocoeolhjhaaGreatDoor
open Go.ChangeShapes Go.WideShapes Go.ChangeAt Go.RowKit Go.ChangeMaps Go.Abs
theorem Tryz.own:ownKnob Tryz.prog.godebug=none:=by kernel_rfl
theorem Tryz.laidOut:laidOutB Tryz.prog=true:=by kernel_rfl
set_option maxRecDepth 1000000 in
theorem zxA (os:Os) (args:Array Value):laidMet Tryz.prog Rows.shelfCompactsRow.laid ((World.laidAll Tryz.prog os Rows.shelfCompactsRow.laid).forCall (fun _ _=>0) ⟨#[],args,[]⟩).memory:=
 laidMet_laidAll args (by kernel_rfl) (by kernel_rfl)
set_option maxRecDepth 100000 in
theorem zrm (os:Os) (started:os.Started) (H:Type) (enc:TypeId×Value→H):
  ReturnsInHanded {} Tryz.checked os 4 .any (fun w args=>(Rows.shelfCompactsSpec.pre enc Tryz.prog Tryz.f4 Rows.shelfCompactsRow.domain false w args∧laidMet Tryz.prog Rows.shelfCompactsRow.laid w)∧sizedMet enc Tryz.prog Tryz.f4 (OpenSpec.ofChange Rows.shelfCompactsSpec) false w args)
   (Rows.shelfCompactsSpec.post enc Tryz.prog Tryz.f4 false true false false):=by
 refine zmo (C:=Tryz.checked) (X:=fun w _=>laidMet Tryz.prog Rows.shelfCompactsRow.laid w) (fun _ _ _ hh h=>h.of_heap hh) Tryz.own started (by kernel_rfl) Tryz.func4
  (zvS (enc:=enc) (C:=Tryz.checked) (os:=os) (X:=fun w _=>laidMet Tryz.prog Rows.shelfCompactsRow.laid w) (World.laidAll Tryz.prog os Rows.shelfCompactsRow.laid) #[.slice none 0 0] 8 (World.laidAll_os _ _ _) (by kernel_rfl) (by kernel_rfl) (by kernel_rfl) (by kernel_rfl) (by kernel_rfl) (zxA os _)) ?_
 intro W base args ds gs before hshp hval0 hW hX hsz
 have hval:∀(j:Nat) t v,Tryz.f4.params[j]? =some t→args[j]? =some v→Value.okWide Tryz.prog W .any base t v:=hval0
 have hW':=hW
 obtain ⟨p,q,hA0,hV,rfl,hfz,hnd⟩:=hW
 have hA:DataW.TrodAll enc Tryz.prog W 0 (fun _=>true) true Tryz.f4.params.toList args.toList ds p:=hA0
 rw [Tryz.params4] at hA hval
 obtain ⟨v0,d0,rfl,rfl,h0⟩:=trodAll_one hA
 obtain ⟨rfl,rfl⟩:=trodVars_none hV
 simp only [yby] at hW'
 have hlt0:∀x∈p,x.block<W.heap.size:=fun x hx=>by simpa using hW'.lt x hx
 have h0k:=h0
 obtain ⟨l0,ho0,hq0,hr0,hir0⟩:=zz0 (fun _=>rfl) (hval 0 _ v0 rfl rfl) h0
 have hW0:∀q∈d0.weights Tryz.prog 22,q≤reachBytes:=fun q hq=>of_decide_eq_true (yaz.1 hsz q (DataW.weights_mem_each (j:=0) (by rw [Tryz.params4];rfl) rfl q hq))
 have hl0:=z2j hq0 hW0
 have hd0:=z36 hr0 hW0
 clear hA0 hval0
 have hgin:=(z7O hX (.tail _ (.tail _ (.tail _ (.tail _ (List.Mem.head _))))))
 refine (zso (zuP (G:=sfGlobs) z3K l0 hl0 hd0 ho0) hgin (z3R hir0 (z5F W))).mono fun e W' ⟨he,hb⟩=> ?_
 subst he
 refine ⟨_,rfl,_,_,_,[],p,[],hW', ?_, ?_,rfl,hb.frame _,fun h=>by cases h⟩
 ·exact trodAll_mk1 (shut_bool Tryz.underlying4 true)
 ·exact trodAll_mk1 (Below.trod Tryz.laidOut (by kernel_rfl) (of_decide_eq_true (by kernel_rfl)) h0k hb hlt0)
end Go.Proofs.YtdbhocoeolhjhaaGreatDoor
end
section
namespace Go.Proofs.YtdbhocoeolhjhaaGreatDoor
open Go.ChangeShapes Go.WideShapes Go.ChangeAt Go.RowKit Go.ChangeMaps Go.Abs
theorem zxN:Rows.ShelfCompactsSaid:=
 OpenClaim.holds_of_wide 4 Tryz.f4 rfl rfl rfl rfl rfl rfl rfl ⟨rfl,rfl,rfl,rfl,rfl⟩ rfl rfl rfl rfl rfl (by kernel_rfl) Tryz.func4 ztf
  (of_decide_eq_true (by kernel_rfl)) (by unfold Func.isWrapper;first|(rw [if_pos (by decide+kernel)];kernel_rfl)|(rw [if_neg (by decide+kernel)];exact ⟨rfl,rfl⟩))
  (fun os started H enc _=>zrm os started H enc)
end Go.Proofs.YtdbhocoeolhjhaaGreatDoor
end
