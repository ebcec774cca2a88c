/- The abstract machine: its soundness, contracts, loops, and the rules by which walks step: first part. -/
import Derived.Test.YtdbhocoeolhjhaaGreatDoorAbs1
import Derived.MapKept
import Derived.Laws.BytesString
import Derived.Lib.ConvBytes
import Derived.Lib.AtoiErrMem
import Derived.Scope
import Derived.Deep.LoopGhost
import Derived.Defers
set_option linter.unusedSimpArgs false
set_option linter.unusedVariables false
set_option linter.constructorNameAsVariable false
section
namespace Go.Abs
open Go.RowKit
variable {G:Globs}
section
variable {P:Program} {base:Nat} {κ:Key} {Im:Addr→Prop} {w:World} {σ:zac}
theorem zwm (n size:Nat):List.range (n*size+size)=List.range size++(List.range (n*size)).map (· +size):=by
 rw [Nat.add_comm,List.range_add]
 congr 1
 apply ydy
 intro a _;omega
theorem zgH (z:Array Value) (hz:0<z.size):∀n,(madeCells z (n*z.size)).toList=(List.replicate n z.toList).flatten
 |0=>by simp [madeCells]
 |n+1=>by
  have ih:=zgH z hz n
  simp only [madeCells,yc4,Array.toList_range] at ih⊢
  rw [ya6,yej,zwm,ydm,List.map_map,ydb,ybd]
  congr 1
  ·apply List.ext_getElem
   ·simp
   ·intro i h1 h2
    simp at h1
    simp [ybr h1,h1]
  ·rw [←ih]
   apply ydy
   intro a _
   simp
theorem VRL.replicate {l:List AV} {vs:List Value} (h:VRL κ Im w l vs):∀n,VRL κ Im w (List.replicate n l).flatten (List.replicate n vs).flatten
 |0=>by simpa using VRL.nil
 |n+1=>by
  rw [ydb,ydb,ybd,ybd]
  exact h.append (VRL.replicate h n)
theorem zvg {o:Oper} {t e:TypeId} {l c:Operand} {l' c':Opd} {i:TypeInfo} {z:List AV} {f:Frame} {a:Act} {K:AV→zac→Prop} (ho:o.op=.makeSlice t l c) (ht:P.underlying t=some (.slice e)) (hi:P.info? e=some i) (hz:zfl P e=some z)
  (hzl:z.length=i.size) (hpos:0<i.size) (hl:opd l=some l') (hc:opd c=some c') (hs:SRel base κ Im σ w) (hf:FRel κ Im w f a) (h:za0 P K f σ (.mkslice e i.size i.bytes z l' c')):zeB P base κ Im w o a K:=by
 simp only [za0] at h
 obtain ⟨n,cc,hn,hcc,hle,hb,h63,_,_,hK⟩:=h
 obtain ⟨kl,hkl⟩:=zcZ (za2 (κ:=κ) (Im:=Im) (w:=w) hl hf) hn
 obtain ⟨kc,hkc⟩:=zcZ (za2 (κ:=κ) (Im:=Im) (w:=w) hc hf) hcc
 obtain ⟨i',zv,hi',hzv,hm⟩:=zeW hz
 rw [hi] at hi';cases hi'
 obtain ⟨hzr,hzo,_⟩:=zbW (Im:=Im) (w:=w) hm
 have hzs:zv.cells.size=i.size:=by rw [←hzl,hzr.1];simp
 have hbb:(i.bytes:Int)*(cc:Int)≤281474976710656:=by
  have h1:((cc*i.bytes:Nat):Int)≤140737488355328:=by omega
  rw [yc7,Int.mul_comm] at h1;omega
 have hr:=run_make (P:=P) w t e i zv ht hi hzv kl kc n cc (by omega) (by omega) hbb (by omega)
 simp only [Int.toNat_natCast] at hr
 have hsize:(madeCells zv.cells (cc*i.size)).size=cc*i.size:=size_madeCells _ _
 have hflat:(madeCells zv.cells (cc*i.size)).toList=(List.replicate cc zv.cells.toList).flatten:=by
  have:=zgH zv.cells (by omega) cc
  rwa [hzs] at this
 have htake:(madeCells zv.cells (cc*i.size)).toList.take (n*i.size)=(List.replicate n zv.cells.toList).flatten:=by
  rw [hflat]
  have:cc=n+(cc-n):=by omega
  rw [this,←List.replicate_append_replicate,ycd,ycl (by simp [hzs])]
  exact yao (by simp [hzs])
 have hown:(w.alloc (.cells (madeCells zv.cells (cc*i.size)) e)).ownsRow w.heap.size e i.size (.slice (some ⟨w.heap.size,0,none⟩) n cc) n (List.replicate n zv.cells.toList).flatten:=
  ⟨by simp [hzs],.inr ⟨w.heap.size,cc,_,rfl,yaq _,heap_alloc_new w _,hle,by simp only [maxLen];omega,hsize,htake⟩⟩
 obtain ⟨κ',Im',q1,q2,q3⟩:=zmP (e:=e) (size:=i.size) (n:=n) (m:=List.replicate n z) (im:=false) hs (by simp) hpos (fun c hc=>by rw [(ybp.1 hc).2,hzl]) (fun c hc x hx=>by rw [(ybp.1 hc).2] at hx;exact hzo x hx) hown
  (fun k hk=>Below.heap_alloc w _ k hk) (by simp) rfl rfl rfl ((VRL.ofIR hzr).replicate n) (fun h=>by simp at h)
 exact ⟨_,_,κ',Im',_,_,.inl (by simp only [execOp,ho,hkl,hkc,yay,hr,yal,ya5]),hK,q1,q2,q3⟩
theorem VR.empty {a:AV} {v:Value} (h:VR (fun _ _=>none) Im w a v):IR Im w a v:=by
 induction h with
 |im a v h=>exact h
 |ptr id off b h=>simp at h
 |row id n g cap h=>simp at h
 |rowp id n size k off b cap h=>simp at h
 |map id b h=>simp at h
 |sub id n size lo hi b cap ad c h=>simp at h
 |asl id off n size b ad c h=>simp at h
 |fn f first captured vs us h1 h2 hv hu ih1 ih2=>exact .fn f first captured vs us h1 h2 ih1 ih2
 |iface t a v h ih=>exact .iface t a v ih
 |agg cells vs hone h1 hv ih=>exact .agg cells vs hone h1 ih
 |tup cells vs h1 hv ih=>exact .tup cells vs h1 ih
theorem zlk {X r:AV} {x:Value} (hs:SRel base κ Im σ w) (hx:VR κ Im w X x) (h:zeS σ X=some r):IR Im w r x∧(X.one=true→r.one=true):=by
 unfold zeS at h
 split at h
 ·rename_i id n
  obtain ⟨g,cap,rfl,hk⟩:=hx.row_inv
  split at h
  case h_2=>cases h
  rename_i e size els he
  split at h
  case isFalse=>cases h
  rename_i hn
  simp only [yab] at h;subst h;subst hn
  exact ⟨zmn hs he hk,fun _=>rfl⟩
 ·simp only [yab] at h;subst h
  cases hx.nils_inv
  exact ⟨.lnil _,fun _=>rfl⟩
 ·split at h
  case isFalse=>cases h
  rename_i hp
  simp only [yab] at h;subst h
  exact ⟨hx.pure hp,id⟩
theorem zoN (hs:SRel base κ Im σ w) {l m:List AV} {vs:List Value} (hl:VRL κ Im w l vs) (h:zxu σ l=some m):IRL Im w m vs∧((∀c∈l,c.one=true)→∀c∈m,c.one=true):=by
 obtain ⟨h1,h2⟩:=mapM_some h
 refine ⟨⟨by rw [←h1,hl.1],fun j hj hj'=>(zlk hs (hl.2 j (by omega) hj') (h2 j (by omega) hj)).1⟩,fun ho c hc=> ?_⟩
 obtain ⟨j,hj,rfl⟩:=yaw.1 hc
 have hjl:j<l.length:=by omega
 have hjv:j<vs.length:=by rw [←hl.1];exact hjl
 exact (zlk hs (hl.2 j hjl hjv) (h2 j hjl hj)).2 (ho _ (yat hjl))
theorem z43 {X r:AV} {x:Value} (hs:SRel base κ Im σ w) (hx:VR κ Im w X x) (h:share σ X=some r):IR Im w r x∧((∀c∈X.cells,c.one=true)→∀c∈r.cells,c.one=true):=by
 unfold share at h
 split at h
 ·rename_i l
  simp only [yae] at h
  obtain ⟨m,hm,rfl⟩:=h
  obtain ⟨vs,rfl,hl,hone⟩:=hx.agg_inv
  obtain ⟨h1,h2⟩:=zoN hs hl hm
  exact ⟨.agg _ _ (h2 hone) h1.1 h1.2,fun _=>h2 hone⟩
 ·rename_i l
  simp only [yae] at h
  obtain ⟨m,hm,rfl⟩:=h
  obtain ⟨vs,rfl,hl⟩:=hx.tup_inv
  obtain ⟨h1,h2⟩:=mapM_some hm
  refine ⟨.tup _ _ (by rw [←h1,hl.1]) (fun j hj hj'=> ?_),fun ho=> ?_⟩
  ·have:=h2 j (by omega) hj
   split at this
   ·rename_i l' hq
    simp only [yae] at this
    obtain ⟨m',hm',hr⟩:=this
    have hv:=hl.2 j (by omega) hj'
    rw [hq] at hv
    obtain ⟨us,hu,hul,hone⟩:=hv.agg_inv
    obtain ⟨g1,g2⟩:=zoN hs hul hm'
    rw [←hr,hu]
    exact .agg _ _ (g2 hone) g1.1 g1.2
   ·exact (zlk hs (hl.2 j (by omega) hj') this).1
  ·exact absurd (ho _ (ybh.2 rfl)) (by simp [AV.one])
 ·obtain ⟨h1,h2⟩:=zlk hs hx h
  refine ⟨h1,fun ho=> ?_⟩
  rename_i hna hnt
  have hX:X.cells= [X]:=by cases X<;>first|rfl|exact absurd rfl (hna _)
  have hone:=h2 (ho X (by rw [hX];simp))
  have hr:r.cells= [r]:=by cases r<;>first|rfl|simp [AV.one] at hone
  rw [hr];simpa using hone
theorem z1I {o:Oper} {t e:TypeId} {n size:Nat} {parts:Array (Nat×Operand)} {z:List AV} {ps:List (Nat×Opd)} {f:Frame} {a:Act} {K:AV→zac→Prop} (ho:o.op=.buildSlice t n parts) (ht:P.underlying t=some (.slice e)) (hsz:sizeOf? P e=some size)
  (hz:zfl P e=some z) (hle:n*size≤16777216) (hzl:z.length=size) (hpos:0<size) (hps:parts.toList.mapM (zkJ n)=some ps) (hs:SRel base κ Im σ w) (hf:FRel κ Im w f a) (h:za0 P K f σ (.mklst e size z n ps)):zeB P base κ Im w o a K:=by
 simp only [za0] at h
 obtain ⟨qs,hqs,hK⟩:=h
 obtain ⟨i,zv,hi,hzv,hm⟩:=zeW hz
 obtain ⟨hzr,hzo,_⟩:=zbW (Im:=Im) (w:=w) hm
 have hzs:zv.cells.size=size:=by rw [←hzl,hzr.1];simp
 obtain ⟨h1,h2⟩:=mapM_some hps
 obtain ⟨h3,h4⟩:=mapM_some hqs
 have hflat:(madeCells zv.cells (n*size)).toList=(List.replicate n zv.cells.toList).flatten:=by
  have:=zgH zv.cells (by omega) n
  rwa [hzs] at this
 have hzflat:VRL (fun _ _=>none) Im w (List.replicate n z).flatten (madeCells zv.cells (n*size)).toList:=by
  rw [hflat];exact (VRL.ofIR hzr).replicate n
 have hflen:(List.replicate n z).flatten.length=n*size:=by simp [hzl]
 have hfill:=zv2 (κ:=fun _ _=>none) (Im:=Im) (w:=w) (fun i=>some (i*size,size)) (parts.toList.map fun p=>(p.1,a.eval p.2)) qs (List.replicate n z).flatten (madeCells zv.cells (n*size)) hzflat (by simp [h1,h3]) (fun j hj hj'=>by
  have hj1:j<parts.toList.length:=by simpa using hj
  have hj2:j<ps.length:=by omega
  have e1:=h2 j hj1 hj2
  have e2:=h4 j hj2 hj'
  simp only [yc2]
  unfold zkJ at e1
  split at e1
  case h_2=>cases e1
  rename_i x hx
  split at e1
  case isFalse=>cases e1
  rename_i hlt
  simp only [yab] at e1
  rw [←e1] at e2
  simp only [yac] at e2
  obtain ⟨v,hv,e2⟩:=e2
  split at e2
  case isFalse=>cases e2
  rename_i hcl
  simp only [yab] at e2
  rw [←e2]
  have hvr:=za2 (κ:=κ) (Im:=Im) (w:=w) hx hf
  obtain ⟨g1,g2⟩:=z43 hs hvr hv
  have hmul:(parts.toList[j].1+1)*size≤n*size:=yas _ hlt
  rw [ya6] at hmul
  refine ⟨size,rfl,hcl.1.symm, ?_,by rw [hflen];omega⟩
  exact (VR.im (κ:=fun _ _=>none) _ _ g1).oneCells (by simpa using hcl.2))
 obtain ⟨cs',hfl,hvr,hcs⟩:=hfill
 have hones:∀c∈lay (List.replicate n z).flatten qs,c.one=true:=zsk qs _ (fun c hc=>by
   obtain ⟨l,hl,hcl⟩:=ybk.1 hc
   rw [(ybp.1 hl).2] at hcl
   exact hzo c hcl) (fun p hp c hc=>by
  obtain ⟨j,hj,rfl⟩:=yaw.1 hp
  have e2:=h4 j (by omega) hj
  simp only [yac] at e2
  obtain ⟨v,hv,e2⟩:=e2
  split at e2
  case isFalse=>cases e2
  rename_i hcl
  simp only [yab] at e2
  rw [←e2] at hc
  have:=hcl.2
  simp only [yaz] at this
  exact this c hc)
 have hlaylen:(lay (List.replicate n z).flatten qs).length=n*size:=by
  rw [hvr.1];simp [hcs,size_madeCells]
 obtain ⟨c1,c2,c3⟩:=zit n size _ hlaylen
 generalize hL:lay (List.replicate n z).flatten qs=L at*
 have hrun:(execOp a.eval o).run P w=.ok (.value (.slice (some ⟨w.heap.size,0,none⟩) n n)) (w.alloc (.cells cs' e)):=by
  have hparts:(parts.map fun (i,x)=>(i,a.eval x)).toList=parts.toList.map fun p=>(p.1,a.eval p.2):=by simp
  have hn:¬(n*size>2^24):=by omega
  by_cases h0:n*size=0
  ·have hm0:madeCells zv.cells (n*size)=(Array.range (n*size)).map ((#[]:Array Value)[· %(#[]:Array Value).size]!):=by simp [h0,madeCells,Array.range_zero']
   rw [hm0] at hfl
   simp only [execOp,ho,Instr.buildSlice,yay,run_underlying ht,yal,run_sizeOf? hsz,Sem.run_ite,hn,if_false,h0,if_true,ya5,hparts]
   rw [h0] at hfl
   simp only [hfl,newRow,yay,run_newObj,yal,ya5]
   rfl
  ·have hm0:madeCells zv.cells (n*size)=(Array.range (n*size)).map (zv.cells[· %zv.cells.size]!):=rfl
   rw [hm0] at hfl
   simp only [execOp,ho,Instr.buildSlice,yay,run_underlying ht,yal,run_sizeOf? hsz,Sem.run_ite,hn,if_false,h0,zeroValue,typeInfo,run_program,hi,hzv,ya5,hparts,hfl,newRow,run_newObj]
   rfl
 have hcells:∀j,j<n*size→(w.alloc (.cells cs' e)).cell? ⟨w.heap.size,j,none⟩=some (cs'.getD j undef):=by
  intro j hj
  rw [cell_of_row _ _ j cs' e (0,0) (heap_alloc_new w _)]
  have:j<cs'.size:=by rw [hcs,size_madeCells];exact hj
  simp [this]
 let Im':Addr→Prop:=fun ad=>Im ad∨(ad.block=w.heap.size∧ad.spot=none∧ad.off<n*size)
 have hc:∀ad,Im ad→(w.alloc (.cells cs' e)).cell? ad=w.cell? ad:=fun ad ha=>ya8 (Below.heap_alloc w _ _ (hs.imlt ad ha).1)
 have hir:IR Im' (w.alloc (.cells cs' e)) (.lst (zbc n size L)) (.slice (some ⟨w.heap.size,0,none⟩) n n):=by
  have:=IR.lst (Im:=Im') (w:=w.alloc (.cells cs' e)) (zbc n size L) size w.heap.size 0 n (fun k j=>cs'.getD (k*size+j) undef) (by omega) (by simp only [maxLen];have:=Nat.le_mul_of_pos_right n hpos;omega) c2
   (fun c hcc x hx=>hones x (by rw [←c3];exact ybk.2 ⟨c,hcc,hx⟩))
   (fun k j hk hj=>by
    have hmul:(k+1)*size≤n*size:=yas _ (by omega)
    rw [ya6] at hmul
    rw [ybe]
    exact ⟨.inr ⟨rfl,rfl,by show k*size+j<n*size;omega⟩,hcells _ (by omega)⟩)
   (fun k j hk hj=>by
    have hjs:j<size:=by rw [c2 _ (yat hk)] at hj;exact hj
    obtain ⟨_,_,g3,g4⟩:=zf8 (zbc n size L) k j c2 hk hjs
    have hlt:k*size+j<L.length:=by rw [c3] at g3;exact g3
    have hlt':k*size+j<cs'.toList.length:=by rw [←hvr.1];exact hlt
    have e1:(zbc n size L)[k][j]=L[k*size+j]:=by rw [←g4];simp only [c3]
    have e2:cs'.getD (k*size+j) undef=cs'.toList[k*size+j]:=by simp at hlt';simp [hlt']
    rw [e1,e2]
    exact (hvr.2 _ hlt hlt').empty.mono (fun _ h=> .inl h) hc)
  rwa [c1] at this
 refine ⟨_,_,κ,Im',_,σ,.inl hrun,hK,.im _ _ hir, ?_,⟨fun _ _ _ h=>h,fun _ h=> .inl h,hc,fun ad h=> ?_,(Below.refl _ _).alloc hs.hb _⟩⟩
 ·refine hs.world (fun _ h=> .inl h) (fun ad h=> ?_) (by simp) (fun k hk=>Below.heap_alloc w _ k hk)
  rcases h with h|⟨h1,h2,_⟩
  ·exact .inl h
  ·exact .inr ⟨by omega,by simp;omega,h2⟩
 ·rcases h with h|⟨h1,_⟩
  ·exact .inl h
  ·exact .inr (by rw [h1];exact hs.hb)
theorem z1F {o:Oper} {t e:TypeId} {n size:Nat} {parts:Array (Nat×Operand)} {z:List AV} {ps:List (Nat×Opd)} {f:Frame} {a:Act} {K:AV→zac→Prop} (ho:o.op=.buildSlice t n parts) (ht:P.underlying t=some (.slice e)) (hsz:sizeOf? P e=some size)
  (hz:zfl P e=some z) (hle:n*size≤16777216) (hzl:z.length=size) (hpos:0<size) (hps:parts.toList.mapM (zkJ n)=some ps) (hs:SRel base κ Im σ w) (hf:FRel κ Im w f a) (h:za0 P K f σ (.mkrow e size z n ps)):zeB P base κ Im w o a K:=by
 simp only [za0] at h
 obtain ⟨qs,hqs,_,hK⟩:=h
 obtain ⟨i,zv,hi,hzv,hm⟩:=zeW hz
 obtain ⟨hzr,hzo,_⟩:=zbW (Im:=Im) (w:=w) hm
 have hzs:zv.cells.size=size:=by rw [←hzl,hzr.1];simp
 obtain ⟨h1,h2⟩:=mapM_some hps
 obtain ⟨h3,h4⟩:=mapM_some hqs
 have hflat:(madeCells zv.cells (n*size)).toList=(List.replicate n zv.cells.toList).flatten:=by
  have:=zgH zv.cells (by omega) n
  rwa [hzs] at this
 have hzflat:VRL κ Im w (List.replicate n z).flatten (madeCells zv.cells (n*size)).toList:=by
  rw [hflat];exact (VRL.ofIR hzr).replicate n
 have hflen:(List.replicate n z).flatten.length=n*size:=by simp [hzl]
 have hfill:=zv2 (κ:=κ) (Im:=Im) (w:=w) (fun i=>some (i*size,size)) (parts.toList.map fun p=>(p.1,a.eval p.2)) qs (List.replicate n z).flatten (madeCells zv.cells (n*size)) hzflat (by simp [h1,h3]) (fun j hj hj'=>by
  have hj1:j<parts.toList.length:=by simpa using hj
  have hj2:j<ps.length:=by omega
  have e1:=h2 j hj1 hj2
  have e2:=h4 j hj2 hj'
  simp only [yc2]
  unfold zkJ at e1
  split at e1
  case h_2=>cases e1
  rename_i x hx
  split at e1
  case isFalse=>cases e1
  rename_i hlt
  simp only [yab] at e1
  rw [←e1] at e2
  split at e2
  case isFalse=>cases e2
  rename_i hcl
  simp only [yab] at e2
  rw [←e2]
  have hvr:=za2 (κ:=κ) (Im:=Im) (w:=w) hx hf
  have hmul:(parts.toList[j].1+1)*size≤n*size:=yas _ hlt
  rw [ya6] at hmul
  refine ⟨size,rfl,hcl.1.symm, ?_,by rw [hflen];omega⟩
  exact hvr.oneCells (by simpa using hcl.2))
 obtain ⟨cs',hfl,hvr,hcs⟩:=hfill
 have hones:∀c∈lay (List.replicate n z).flatten qs,c.one=true:=zsk qs _ (fun c hc=>by
   obtain ⟨l,hl,hcl⟩:=ybk.1 hc
   rw [(ybp.1 hl).2] at hcl
   exact hzo c hcl) (fun p hp c hc=>by
  obtain ⟨j,hj,rfl⟩:=yaw.1 hp
  have e2:=h4 j (by omega) hj
  split at e2
  case isFalse=>cases e2
  rename_i hcl
  simp only [yab] at e2
  rw [←e2] at hc
  have:=hcl.2
  simp only [yaz] at this
  exact this c hc)
 have hlaylen:(lay (List.replicate n z).flatten qs).length=n*size:=by
  rw [hvr.1];simp [hcs,size_madeCells]
 obtain ⟨c1,c2,c3⟩:=zit n size _ hlaylen
 generalize hL:lay (List.replicate n z).flatten qs=L at*
 have hrun:(execOp a.eval o).run P w=.ok (.value (.slice (some ⟨w.heap.size,0,none⟩) n n)) (w.alloc (.cells cs' e)):=by
  have hparts:(parts.map fun (i,x)=>(i,a.eval x)).toList=parts.toList.map fun p=>(p.1,a.eval p.2):=by simp
  have hn:¬(n*size>2^24):=by omega
  by_cases h0:n*size=0
  ·have hm0:madeCells zv.cells (n*size)=(Array.range (n*size)).map ((#[]:Array Value)[· %(#[]:Array Value).size]!):=by simp [h0,madeCells,Array.range_zero']
   rw [hm0] at hfl
   simp only [execOp,ho,Instr.buildSlice,yay,run_underlying ht,yal,run_sizeOf? hsz,Sem.run_ite,hn,if_false,h0,if_true,ya5,hparts]
   rw [h0] at hfl
   simp only [hfl,newRow,yay,run_newObj,yal,ya5]
   rfl
  ·have hm0:madeCells zv.cells (n*size)=(Array.range (n*size)).map (zv.cells[· %zv.cells.size]!):=rfl
   rw [hm0] at hfl
   simp only [execOp,ho,Instr.buildSlice,yay,run_underlying ht,yal,run_sizeOf? hsz,Sem.run_ite,hn,if_false,h0,zeroValue,typeInfo,run_program,hi,hzv,ya5,hparts,hfl,newRow,run_newObj]
   rfl
 have hown:(w.alloc (.cells cs' e)).ownsRow w.heap.size e size (.slice (some ⟨w.heap.size,0,none⟩) n n) n cs'.toList:=by
  have hsz':cs'.size=n*size:=by rw [hcs,size_madeCells]
  refine ⟨by simpa using hsz',.inr ⟨w.heap.size,n,_,rfl,yaq _,heap_alloc_new w _,yaq _, ?_,hsz',yao (by simp [hsz'])⟩⟩
  simp only [maxLen];have:=Nat.le_mul_of_pos_right n hpos;omega
 obtain ⟨κ',Im',q1,q2,q3⟩:=zmP (e:=e) (size:=size) (n:=n) (m:=zbc n size L) (im:=false) hs c1.symm hpos c2 (fun c hcc x hx=>hones x (by rw [←c3];exact ybk.2 ⟨c,hcc,hx⟩)) hown
  (fun k hk=>Below.heap_alloc w _ k hk) (by simp) rfl rfl rfl (by rw [c3];exact hvr) (fun h=>by simp at h)
 exact ⟨_,_,κ',Im',_,_,.inl hrun,hK,q1,q2,q3⟩
end
end Go.Abs
end
section
namespace Go.Abs
open Go.RowKit
variable {G:Globs}
section
variable {P:Program} {base:Nat} {κ:Key} {Im:Addr→Prop} {w:World} {σ:zac}
theorem zc1 {t:TypeId} {x y:Value} {b:Bool} (h:∀d,(Op.equalIn (d+1) t x y).run P w=.ok b w):(Op.equal t x y).run P w=.ok b w:=h 9999
theorem z8T {ms:Array (String×TypeId)} {t:TypeId} {x:Operand} {X:AV} {v:Value} {b:Bool} (hu:P.underlying t=some (.interface ms)) (hv:VR κ Im w X v) (hb:zhJ 0 X=some b):
  (∀op,(eqGuard op t x (.const (.nilIface)) v (.nilIface)).run P w=.ok () w)∧(binOp .eql t v (.nilIface)).run P w=.ok (.bool b) w∧(binOp .neq t v (.nilIface)).run P w=.ok (.bool !b) w:=by
 unfold zhJ at hb
 split at hb<;>first|(cases hb;done)|skip
 all_goals try (exfalso;omega)
 ·simp only [yab] at hb;subst hb
  obtain rfl:v=.nilIface:=by cases hv with|im _ _ hv=>cases hv;rfl
  have he:=zc1 (P:=P) (w:=w) (t:=t) (x:=.nilIface) (y:=.nilIface) (b:=true) (fun d=>by simp [Op.equalIn,run_underlying hu])
  exact ⟨fun op=>by unfold eqGuard;cases op<;>simp,by simp [binOp,he],by simp [binOp,he]⟩
 ·simp only [yab] at hb;subst hb
  obtain ⟨u,x',rfl⟩:∃u x',v=.iface u x':=by
   cases hv with
   |im _ _ hv=>cases hv;exact ⟨_,_,rfl⟩
   |iface=>exact ⟨_,_,rfl⟩
  have he:=zc1 (P:=P) (w:=w) (t:=t) (x:=.iface u x') (y:=.nilIface) (b:=false) (fun d=>by simp [Op.equalIn,run_underlying hu])
  exact ⟨fun op=>by unfold eqGuard;cases op<;>simp,by simp [binOp,he],by simp [binOp,he]⟩
theorem z9i {ps rs:Array TypeId} {vd:Bool} {t:TypeId} {x:Operand} {X:AV} {v:Value} {b:Bool} (hu:P.underlying t=some (.func ps rs vd)) (hv:VR κ Im w X v) (hb:zhJ 1 X=some b):
  (∀op,(eqGuard op t x (.const (.nilFunc)) v (.nilFunc)).run P w=.ok () w)∧(binOp .eql t v (.nilFunc)).run P w=.ok (.bool b) w∧(binOp .neq t v (.nilFunc)).run P w=.ok (.bool !b) w:=by
 unfold zhJ at hb
 split at hb<;>first|(cases hb;done)|skip
 all_goals try (exfalso;omega)
 ·simp only [yab] at hb;subst hb
  obtain rfl:v=.nilFunc:=by cases hv with|im _ _ hv=>cases hv;rfl
  have he:=zc1 (P:=P) (w:=w) (t:=t) (x:=.nilFunc) (y:=.nilFunc) (b:=true) (fun d=>by simp [Op.equalIn,run_underlying hu])
  exact ⟨fun op=>by unfold eqGuard;cases op<;>simp,by simp [binOp,he],by simp [binOp,he]⟩
 ·simp only [yab] at hb;subst hb
  obtain ⟨f1,a1,b1,rfl⟩:∃f1 a1 b1,v=.func f1 a1 b1:=by obtain ⟨vs,us,rfl,_⟩:=hv.fn_inv;exact ⟨_,_,_,rfl⟩
  have he:=zc1 (P:=P) (w:=w) (t:=t) (x:=.func f1 a1 b1) (y:=.nilFunc) (b:=false) (fun d=>by simp [Op.equalIn,run_underlying hu])
  exact ⟨fun op=>by unfold eqGuard;cases op<;>simp,by simp [binOp,he],by simp [binOp,he]⟩
theorem z8C {e:TypeId} {t:TypeId} {x:Operand} {X:AV} {v:Value} {b:Bool} (hu:P.underlying t=some (.pointer e)) (hv:VR κ Im w X v) (hb:zhJ 2 X=some b):
  (∀op,(eqGuard op t x (.const (.pointer none)) v (.pointer none)).run P w=.ok () w)∧(binOp .eql t v (.pointer none)).run P w=.ok (.bool b) w∧(binOp .neq t v (.pointer none)).run P w=.ok (.bool !b) w:=by
 unfold zhJ at hb
 split at hb<;>first|(cases hb;done)|skip
 all_goals try (exfalso;omega)
 ·simp only [yab] at hb;subst hb
  obtain rfl:v=.pointer none:=by cases hv with|im _ _ hv=>cases hv;rfl
  have he:=zc1 (P:=P) (w:=w) (t:=t) (x:=.pointer none) (y:=.pointer none) (b:=true) (fun d=>by simp [Op.equalIn,run_underlying hu])
  exact ⟨fun op=>by unfold eqGuard;cases op<;>simp,by simp [binOp,he],by simp [binOp,he]⟩
 ·simp only [yab] at hb;subst hb
  obtain ⟨ad,rfl⟩:∃ad,v=.pointer (some ad):=by obtain ⟨b,rfl,_⟩:=hv.ptr_inv;exact ⟨_,rfl⟩
  have he:=zc1 (P:=P) (w:=w) (t:=t) (x:=.pointer (some ad)) (y:=.pointer none) (b:=false) (fun d=>by simp [Op.equalIn,run_underlying hu])
  exact ⟨fun op=>by unfold eqGuard;cases op<;>simp,by simp [binOp,he],by simp [binOp,he]⟩
 ·simp only [yab] at hb;subst hb
  obtain ⟨ad,rfl⟩:∃ad,v=.pointer (some ad):=by obtain ⟨b,o,vals,rfl,_⟩:=hv.rptr_inv;exact ⟨_,rfl⟩
  have he:=zc1 (P:=P) (w:=w) (t:=t) (x:=.pointer (some ad)) (y:=.pointer none) (b:=false) (fun d=>by simp [Op.equalIn,run_underlying hu])
  exact ⟨fun op=>by unfold eqGuard;cases op<;>simp,by simp [binOp,he],by simp [binOp,he]⟩
 ·simp only [yab] at hb;subst hb
  obtain ⟨ad,rfl⟩:∃ad,v=.pointer (some ad):=by obtain ⟨b,cap,rfl,_⟩:=hv.rowp_inv;exact ⟨_,rfl⟩
  have he:=zc1 (P:=P) (w:=w) (t:=t) (x:=.pointer (some ad)) (y:=.pointer none) (b:=false) (fun d=>by simp [Op.equalIn,run_underlying hu])
  exact ⟨fun op=>by unfold eqGuard;cases op<;>simp,by simp [binOp,he],by simp [binOp,he]⟩
 ·simp only [yab] at hb;subst hb
  obtain ⟨ad,rfl⟩:∃ad,v=.pointer (some ad):=by have:=hv.gp_inv;subst this;exact ⟨_,rfl⟩
  have he:=zc1 (P:=P) (w:=w) (t:=t) (x:=.pointer (some ad)) (y:=.pointer none) (b:=false) (fun d=>by simp [Op.equalIn,run_underlying hu])
  exact ⟨fun op=>by unfold eqGuard;cases op<;>simp,by simp [binOp,he],by simp [binOp,he]⟩
theorem z9l {e:TypeId} {t:TypeId} {x:Operand} {X:AV} {v:Value} {b:Bool} (hu:P.underlying t=some (.slice e)) (hv:VR κ Im w X v) (hb:zhJ 3 X=some b):
  (∀op,(eqGuard op t x (.const (.slice none 0 0)) v (.slice none 0 0)).run P w=.ok () w)∧(binOp .eql t v (.slice none 0 0)).run P w=.ok (.bool b) w∧(binOp .neq t v (.slice none 0 0)).run P w=.ok (.bool !b) w:=by
 unfold zhJ at hb
 split at hb<;>first|(cases hb;done)|skip
 all_goals try (exfalso;omega)
 ·simp only [yab] at hb;subst hb
  cases hv.nils_inv
  have he:=zc1 (P:=P) (w:=w) (t:=t) (x:=.slice none 0 0) (y:=.slice none 0 0) (b:=true) (fun d=>by simp [Op.equalIn,run_underlying hu])
  exact ⟨fun op=>by unfold eqGuard;cases op<;>simp,by simp [binOp,he],by simp [binOp,he]⟩
 ·simp only [yab] at hb;subst hb
  obtain ⟨ad,n1,c1,rfl⟩:∃ad n1 c1,v=.slice (some ad) n1 c1:=by
   rcases hv.lst_inv with ⟨_,h0⟩|⟨size,b,o,cap,vals,rfl,_⟩
   ·cases h0
   ·exact ⟨_,_,_,rfl⟩
  have he:=zc1 (P:=P) (w:=w) (t:=t) (x:=.slice (some ad) n1 c1) (y:=.slice none 0 0) (b:=false) (fun d=>by simp [Op.equalIn,run_underlying hu])
  exact ⟨fun op=>by unfold eqGuard;cases op<;>simp,by simp [binOp,he],by simp [binOp,he]⟩
theorem z8G {k e:TypeId} {t:TypeId} {x:Operand} {X:AV} {v:Value} {b:Bool} (hu:P.underlying t=some (.map k e)) (hv:VR κ Im w X v) (hb:zhJ 4 X=some b):
  (∀op,(eqGuard op t x (.const (.map none)) v (.map none)).run P w=.ok () w)∧(binOp .eql t v (.map none)).run P w=.ok (.bool b) w∧(binOp .neq t v (.map none)).run P w=.ok (.bool !b) w:=by
 unfold zhJ at hb
 split at hb<;>first|(cases hb;done)|skip
 all_goals try (exfalso;omega)
 ·simp only [yab] at hb;subst hb
  cases hv.nilm_inv
  have he:=zc1 (P:=P) (w:=w) (t:=t) (x:=.map none) (y:=.map none) (b:=true) (fun d=>by simp [Op.equalIn,run_underlying hu])
  exact ⟨fun op=>by unfold eqGuard;cases op<;>simp,by simp [binOp,he],by simp [binOp,he]⟩
 ·simp only [yab] at hb;subst hb
  obtain ⟨b,rfl,_⟩:=hv.map_inv
  have he:=zc1 (P:=P) (w:=w) (t:=t) (x:=.map (some b)) (y:=.map none) (b:=false) (fun d=>by simp [Op.equalIn,run_underlying hu])
  exact ⟨fun op=>by unfold eqGuard;cases op<;>simp,by simp [binOp,he],by simp [binOp,he]⟩
theorem z3m {op:BinOp} {t:TypeId} {x y z:Operand} {k:Nat} {n b:Bool} {X:AV} {a:Act} (hn:zpx P op t x y=some (k,n,z)) (hx:VR κ Im w X (a.eval z)) (h:zhJ k X=some b):
  (do eqGuard op t x y (a.eval x) (a.eval y);binOp op t (a.eval x) (a.eval y):Sem Value).run P w=.ok (.bool (if n then !b else b)) w:=by
 unfold zpx at hn
 have key:∀(nv:Value),y=.const nv→z=x→n=(op==.neq)→(op=.eql∨op=.neq)→((∀op,(eqGuard op t x (.const nv) (a.eval z) nv).run P w=.ok () w)∧(binOp .eql t (a.eval z) nv).run P w=.ok (.bool b) w∧(binOp .neq t (a.eval z) nv).run P w=.ok (.bool !b) w)→
   (do eqGuard op t x y (a.eval x) (a.eval y);binOp op t (a.eval x) (a.eval y):Sem Value).run P w=.ok (.bool (if n then !b else b)) w:=by
  rintro nv rfl rfl rfl hop ⟨h1,h2,h3⟩
  have e:a.eval (.const nv)=nv:=rfl
  rw [e,yay,h1,yal]
  rcases hop with rfl|rfl
  ·exact h2
  ·exact h3
 split at hn
 case h_3=>cases hn
 all_goals
  split at hn
  case h_6=>cases hn
  all_goals
   rename_i hu
   simp only [yab,Prod.mk.injEq] at hn
   obtain ⟨rfl,rfl,rfl⟩:=hn
  ·exact key _ rfl rfl rfl (by simp) (z8T hu hx h)
  ·exact key _ rfl rfl rfl (by simp) (z9i hu hx h)
  ·exact key _ rfl rfl rfl (by simp) (z8C hu hx h)
  ·exact key _ rfl rfl rfl (by simp) (z9l hu hx h)
  ·exact key _ rfl rfl rfl (by simp) (z8G hu hx h)
theorem zzX {op:BinOp} {t:TypeId} {x y z:Operand} {n b:Bool} {a:Act} (hn:zpx P op t x y=some (3,n,z)) (hv:(a.eval z=.slice none 0 0∧b=true)∨((∃ad m c,a.eval z=.slice (some ad) m c)∧b=false)):
  (do eqGuard op t x y (a.eval x) (a.eval y);binOp op t (a.eval x) (a.eval y):Sem Value).run P w=.ok (.bool (if n then !b else b)) w:=by
 unfold zpx at hn
 split at hn
 case h_3=>cases hn
 all_goals
  split at hn
  case h_6=>cases hn
  all_goals
   rename_i hu
   simp only [yab,Prod.mk.injEq] at hn
   obtain ⟨h3,rfl,rfl⟩:=hn
   first|(exact absurd h3 (by decide))|skip
  ·have e:a.eval (.const (.slice none 0 0))=.slice none 0 0:=rfl
   rw [e,yay]
   rcases hv with ⟨hv,rfl⟩|⟨⟨ad,m,c,hv⟩,rfl⟩
   ·rw [hv]
    have he:=zc1 (P:=P) (w:=w) (t:=t) (x:=.slice none 0 0) (y:=.slice none 0 0) (b:=true) (fun d=>by simp [Op.equalIn,run_underlying hu])
    simp [eqGuard,binOp,he]
   ·rw [hv]
    have he:=zc1 (P:=P) (w:=w) (t:=t) (x:=.slice (some ad) m c) (y:=.slice none 0 0) (b:=false) (fun d=>by simp [Op.equalIn,run_underlying hu])
    simp [eqGuard,binOp,he]
theorem z5D {X:AV} {v:Value} {K:AV→zac→Prop} {neg:Bool} (h:match X with
  | .lst []=>∀b:Bool,K (.bool b) σ
  |v=>∃b,zhJ 3 v=some b∧K (.bool (if neg then !b else b)) σ) (hx:VR κ Im w X v):∃b:Bool,((v=.slice none 0 0∧b=true)∨((∃ad m c,v=.slice (some ad) m c)∧b=false))∧K (.bool (if neg then !b else b)) σ:=by
 split at h
 ·rcases hx.lst_inv with ⟨⟨g,rfl⟩,_⟩|⟨size,b,o,cap,vals,rfl,_⟩
  ·cases g with
   |none=>exact ⟨true,.inl ⟨rfl,rfl⟩,h _⟩
   |some ad=>exact ⟨false,.inr ⟨⟨ad,0,0,rfl⟩,rfl⟩,h _⟩
  ·exact ⟨false,.inr ⟨⟨_,_,_,rfl⟩,rfl⟩,h _⟩
 ·obtain ⟨b,hb,hK⟩:=h
  refine ⟨b, ?_,hK⟩
  unfold zhJ at hb
  split at hb<;>first|(cases hb;done)|skip
  all_goals try (exfalso;omega)
  ·simp only [yab] at hb;subst hb
   exact .inl ⟨hx.nils_inv,rfl⟩
  ·simp only [yab] at hb;subst hb
   rcases hx.lst_inv with ⟨_,h0⟩|⟨size,b,o,cap,vals,rfl,_⟩
   ·cases h0
   ·exact .inr ⟨⟨_,_,_,rfl⟩,rfl⟩
theorem zy4 {op:BinOp} {X Y r:AV} {x y:Value} {t:TypeId} {xo yo:Operand} (hx:VR κ Im w X x) (hy:VR κ Im w Y y) (h:zbn op X Y=some r):
  ∃v,(do eqGuard op t xo yo x y;binOp op t x y:Sem Value).run P w=.ok v w∧VR κ Im w r v:=by
 unfold zbn at h
 split at h
 case h_2=>cases h
 rename_i k a k' b
 cases hx.int_inv;cases hy.int_inv
 have hg:(eqGuard op t xo yo (.int k a) (.int k' b)).run P w=.ok () w:=by
  unfold eqGuard;cases op<;>simp<;>rfl
 simp only [yay,hg,yal]
 split at h
 ·rename_i hop
  split at h
  case isFalse=>cases h
  rename_i hb
  have hb':¬b<0:=by omega
  simp only [yae] at h
  obtain ⟨z,hz,rfl⟩:=h
  rcases hop with rfl|rfl
  ·simp only [za4,yab] at hz;subst hz
   exact ⟨_,by simp [binOp,Op.shift,hb'],.im _ _ (.int _ _)⟩
  ·simp only [za4,yab] at hz;subst hz
   exact ⟨_,by simp [binOp,Op.shift,hb'],.im _ _ (.int _ _)⟩
 ·rename_i hop
  split at h
  case isFalse=>cases h
  rename_i hk;subst hk
  simp only [yae] at h
  obtain ⟨z,hz,rfl⟩:=h
  cases op<;>simp only [zca,yab,reduceCtorEq] at hz
  all_goals (subst hz;exact ⟨_,by simp [binOp,Op.intBits],.im _ _ (.int _ _)⟩)
theorem zyw {X r:AV} {x:Value} (hx:VR κ Im w X x) (h:zcK X=some r):∃v,(Op.unary .xor x).run P w=.ok v w∧VR κ Im w r v:=by
 unfold zcK at h
 split at h
 case h_2=>cases h
 rename_i k a
 cases hx.int_inv
 simp only [yae,zca,yab] at h
 obtain ⟨z,rfl,rfl⟩:=h
 exact ⟨_,by simp [Op.unary,Op.intBits],.im _ _ (.int _ _)⟩
theorem zyP {X Y Z r:AV} {x y z:Value} (hx:VR κ Im w X x) (hy:VR κ Im w Y y) (hz:VR κ Im w Z z) (h:zrh X Y Z=some r):∃v,(add64Entry #[x,y,z]).run P w=.ok v w∧VR κ Im w r v:=by
 unfold zrh at h
 split at h
 case h_2=>cases h
 split at h
 case isFalse=>cases h
 rename_i hc
 simp only [yab] at h
 subst h
 cases hx.int_inv;cases hy.int_inv;cases hz.int_inv
 refine ⟨_,run_add64 _ _ _ hc.1 hc.2.1 hc.2.2.1 hc.2.2.2 w,.im _ _ (.tup _ [_,_] rfl fun j hj hj'=> ?_)⟩
 match j,hj with
 |0,_=>exact .int _ _
 |1,_=>exact .int _ _
theorem ztE {fn : Func} (h1 : fn.name = "math/bits.Add64") (h2 : fn.origin = "") : Extern.findNext fn = none ∧ Extern.find fn = some add64Entry := by
 obtain ⟨n,o⟩:=fn
 simp only at h1 h2
 subst h1 h2
 exact ⟨rfl,rfl⟩
theorem zqI {kind:Nat} {d:TypeDesc} {X Y:AV} {x y:Value} {b:Bool} {t:TypeId} (hk:zdX P t=some kind) (hd:P.underlying t=some d) (hx:VR κ Im w X x) (hy:VR κ Im w Y y) (h:eq1 kind X Y=some b):Instr.sameNow d x y=some b∧(b=true→x=y):=by
 unfold zdX at hk
 rw [hd] at hk
 unfold eq1 at h
 split at h
 ·rename_i k p k' q
  split at h
  case isFalse=>cases h
  rename_i hkk;subst hkk
  simp only [yab] at h;subst h
  cases hx.int_inv;cases hy.int_inv
  have e:(p==q)=decide (p=q):=rfl
  split at hk<;>simp_all [Instr.sameNow]
 ·rename_i p q
  simp only [yab] at h;subst h
  cases hx.str_inv;cases hy.str_inv
  have e:(ByteArray.mk p.toArray==ByteArray.mk q.toArray)=decide (p=q):=by
   rw [Bool.eq_iff_iff,MapKept.bytes_beq];simp
  split at hk<;>simp_all [Instr.sameNow]
 ·rename_i p q
  simp only [yab] at h;subst h
  cases hx.bool_inv;cases hy.bool_inv
  split at hk<;>simp_all [Instr.sameNow]
 ·cases h
theorem zeD {kind:Nat} {t:TypeId} (hk:zdX P t=some kind) (e:Bool) (n:Nat) (v:Value):(Instr.checkKey e (n+1) t v).run P w=.ok () w:=by
 unfold zdX at hk
 unfold Instr.checkKey
 split at hk<;>rename_i hu<;>first|(cases hk;done)|(simp only [yay,run_underlying hu,yal];cases v<;>rfl)
def MEnt (κ:Key) (Im:Addr→Prop) (w:World) (kv:List (AV×AV)) (es:List MapEntry):Prop:=es.length=kv.length∧∀j (h:j<kv.length) (h':j<es.length),IR Im w (kv[j]).1 (es[j]).key∧VR κ Im w (kv[j]).2 (es[j]).val
theorem ziQ {kind:Nat} {t:TypeId} {d:TypeDesc} {X:AV} {x:Value} (hk:zdX P t=some kind) (hd:P.underlying t=some d) (hx:VR κ Im w X x):∀{kv:List (AV×AV)} {es:List MapEntry} {i:Nat} {r:Option (Nat×AV)},MEnt κ Im w kv es→zbr kind X kv i=some r→
  (match r with
   |none=>Instr.findNow d x es i=some none
   |some (j,a)=>∃v,Instr.findNow d x es i=some (some (j,v))∧VR κ Im w a v∧i≤j∧j<i+es.length∧∃h:j-i<es.length,(es[j-i]).key=x)
 | [],es,i,r,hm,h=>by
  obtain rfl:es= []:=yap (by simpa using hm.1)
  simp only [zbr,yab] at h;subst h
  rfl
 |(k',v')::kv,[],i,r,hm,h=>by simp [MEnt] at hm
 |(k',v')::kv,e::es,i,r,hm,h=>by
  have h0:=hm.2 0 (by simp) (by simp)
  simp only [ycn] at h0
  have htl:MEnt κ Im w kv es:=⟨by simpa using hm.1,fun j hj hj'=>hm.2 (j+1) (by simpa using hj) (by simpa using hj')⟩
  simp only [zbr] at h
  split at h
  ·rename_i he
   obtain ⟨h1,h2⟩:=zqI hk hd hx (.im _ _ h0.1) he
   simp only [yab] at h;subst h
   exact ⟨_,by simp [Instr.findNow,h1],h0.2,yaq _,by simp,by simp,by simpa using (h2 rfl).symm⟩
  ·rename_i he
   obtain ⟨h1,_⟩:=zqI hk hd hx (.im _ _ h0.1) he
   have ih:=ziQ hk hd hx htl h
   split at ih
   ·simp [Instr.findNow,h1,ih]
   ·obtain ⟨v,g1,g2,g3,g4,g5,g6⟩:=ih
    refine ⟨v,by simp [Instr.findNow,h1,g1],g2,by omega,by simp;omega,by simp;omega, ?_⟩
    rename_i j a
    have e1:j-i=(j-(i+1))+1:=by omega
    simp only [e1,ydo]
    exact g6
  ·cases h
theorem zqP {X:AV} {x:Value} {kv:List (AV×AV)} (hs:SRel base κ Im σ w) (hx:VR κ Im w X x) (h:zh2 σ X=some kv):
  (x=.map none∧kv= [])∨∃b es clock,x=.map (some b)∧w.heap[b]? =some (.map es clock)∧MEnt κ Im w kv es.toList:=by
 unfold zh2 at h
 split at h
 ·simp only [yab] at h;subst h
  exact .inl ⟨hx.nilm_inv,rfl⟩
 ·rename_i id
  split at h
  case h_2=>cases h
  rename_i kv' he
  simp only [yab] at h;subst h
  obtain ⟨b,rfl,hk⟩:=hx.map_inv
  obtain ⟨b',es,clock,hk',_,hheap,hsz,hv,_,_⟩:=hs.ent _ _ he
  rw [hk] at hk';cases hk'
  exact .inr ⟨b,es,clock,rfl,hheap,by simpa using hsz,fun j hj hj'=>hv j hj (by simpa using hj')⟩
 ·cases h
theorem zss {kind:Nat} {t kt e:TypeId} {i:TypeInfo} {zv:Value} {ZV X K r:AV} {x k:Value} {ok:Bool} {kv:List (AV×AV)} (ht:P.underlying t=some (.map kt e)) (hk:zdX P kt=some kind) (hi:P.info? e=some i) (hz:i.zero=some zv) (hZ:constAV zv=some ZV)
  (hs:SRel base κ Im σ w) (hx:VR κ Im w X x) (hkk:VR κ Im w K k) (hm:zh2 σ X=some kv) (h:zod kind ZV ok K kv=some r):∃v,(Instr.lookup t x k ok).run P w=.ok v w∧VR κ Im w r v:=by
 obtain ⟨d,hd⟩:∃d,P.underlying kt=some d:=by
  unfold zdX at hk;split at hk<;>first|(cases hk;done)|exact ⟨_,by assumption⟩
 have hzero:(zeroValue e).run P w=.ok zv w:=by simp [zeroValue,typeInfo,hi,hz]
 have hZV:VR κ Im w ZV zv:=.im _ _ (IR.constAV hZ)
 have hpair:∀(a:AV) (v:Value) (b:Bool),VR κ Im w a v→VR κ Im w (if ok then .tup [a,.bool b] else a) (if ok then .tuple #[v,.bool b] else v):=by
  intro a v b ha
  cases ok
  ·exact ha
  ·have hl:VRL κ Im w [a,.bool b] [v,.bool b]:=VRL.cons ha (VRL.cons (.im _ _ (.bool b)) VRL.nil)
   exact .tup _ _ hl.1 hl.2
 obtain ⟨es,hes,hrun⟩:∃es:List MapEntry,MEnt κ Im w kv es∧∀(r:Option (Nat×Value)) (v:Value),Instr.findNow d k es 0=some r→(match r with|some (_,u)=>v=(if ok then .tuple #[u,.bool true] else u)|none=>v=(if ok then .tuple #[zv,.bool false] else zv))→(Instr.lookup t x k ok).run P w=.ok v w:=by
  rcases zqP hs hx hm with ⟨rfl,rfl⟩|⟨b,es,clock,rfl,hb,hme⟩
  ·refine ⟨[],⟨rfl,fun j h=>by simp at h⟩,fun r v hf hv=> ?_⟩
   simp only [Instr.lookup,yay,run_underlying ht,yal,ya5,zeD hk,Instr.findKey,run_underlying hd,hf]
   rcases r with _|⟨j,u⟩
   ·simp only at hv;subst hv;simp [hzero]
   ·simp only at hv;subst hv;simp
  ·refine ⟨es.toList,hme,fun r v hf hv=> ?_⟩
   simp only [Instr.lookup,yay,run_underlying ht,yal,ya5,MapKept.run_getObj_map hb,zeD hk,Instr.findKey,run_underlying hd,hf]
   rcases r with _|⟨j,u⟩
   ·simp only at hv;subst hv;simp [hzero]
   ·simp only at hv;subst hv;simp
 unfold zod at h
 simp only [yac] at h
 obtain ⟨q,hq,h⟩:=h
 have hf:=ziQ hk hd hkk hes hq
 rcases q with _|⟨j,a⟩
 ·simp only [yab] at h;subst h
  exact ⟨_,hrun _ _ hf rfl,hpair _ _ _ hZV⟩
 ·simp only [yab] at h;subst h
  obtain ⟨v,h1,h2,_⟩:=hf
  exact ⟨_,hrun _ _ h1 rfl,hpair _ _ _ h2⟩
end
end Go.Abs
end
section
namespace Go.Abs
open Go.RowKit
variable {G:Globs}
section
variable {P:Program} {base:Nat} {κ:Key} {Im:Addr→Prop} {w:World} {σ:zac}
theorem zqB:∀{l:List (List AV)} {s:List UInt8} {vs:List Value},bytesOf l=some s→VRL κ Im w l.flatten vs→∃ns:List Int,vs=ns.map (Value.int .u8)∧∀r:ByteArray,ns.foldl (fun r n=>r.push (UInt8.ofNat n.toNat)) r=⟨(r.data.toList++s).toArray⟩
 | [],s,vs,h,hv=>by
  simp only [bytesOf,yab] at h;subst h
  obtain rfl:vs= []:=yap (by simpa using hv.1.symm)
  exact ⟨[],rfl,fun r=>by cases r;simp⟩
 |c::l,s,vs,h,hv=>by
  unfold bytesOf at h
  split at h
  ·rename_i heq;cases heq
  ·rename_i n l' heq
   simp only [yc8] at heq
   obtain ⟨rfl,rfl⟩:=heq
   simp only [yae] at h
   obtain ⟨s',hs',rfl⟩:=h
   match vs,hv with
   | [],hv=>simp [VRL] at hv
   |v::vs,hv=>
    have h0:=hv.2 0 (by simp) (by simp)
    simp only [ybd,ybv,yci,ycn] at h0
    cases h0.int_inv
    obtain ⟨ns,rfl,h2⟩:=zqB hs' (vs:=vs) ⟨by simpa using hv.1,fun j hj hj'=>by
     have:=hv.2 (j+1) (by simpa using hj) (by simpa using hj')
     simpa using this⟩
    refine ⟨n::ns,rfl,fun r=> ?_⟩
    simp only [List.foldl_cons,h2]
    cases r;simp
  ·cases h
theorem zli (size:Nat):∀(n:Nat) (l:List AV),(zbc n size l).length=n
 |0,l=>rfl
 |n+1,l=>by simp [zbc,zli size n]
theorem zrf (size:Nat):∀(n:Nat) (l:List AV) (k:Nat) (h:k<(zbc n size l).length),(zbc n size l)[k]=(l.drop (k*size)).take size
 |0,l,k,h=>by simp [zbc] at h
 |n+1,l,0,h=>by simp [zbc]
 |n+1,l,k+1,h=>by
  simp only [zbc,ydo]
  rw [zrf size n (l.drop size) k (by simpa [zbc] using h),List.drop_drop,ya6,yej,Nat.add_comm]
theorem zwC {cells:List AV} {b o len size ll hh c:Nat} {vals:Nat→Value} (hpos:0<size) (hone:∀c∈cells,c.one=true) (hc:∀j,j<cells.length→Im ⟨b,o+j,none⟩∧w.cell? ⟨b,o+j,none⟩=some (vals j)) (hv:∀j (h:j<cells.length),IR Im w (cells[j]) (vals j))
  (hle:len*size≤cells.length) (h1:ll≤hh) (h2:hh≤len) (hcap:hh-ll≤c) (hmax:c≤maxLen) (ad:Addr) (had:ll<hh→ad=⟨b,o+ll*size,none⟩) (hsp:ad.spot=none):
  IR Im w (.lst (((zbc len size (cells.take (len*size))).take hh).drop ll)) (.slice (some ad) (hh-ll) c):=by
 have hl:(((zbc len size (cells.take (len*size))).take hh).drop ll).length=hh-ll:=by simp [zli];omega
 have hcl:(cells.take (len*size)).length=len*size:=by simp;omega
 obtain ⟨c1,c2,c3⟩:=zit len size _ hcl
 by_cases hlt:ll<hh
 ·have hm1:=yas size h2
  rw [had hlt,←hl]
  refine .lst _ size b (o+ll*size) c (fun k j=>vals ((ll+k)*size+j)) (by omega) hmax (fun c hc=>c2 c (yak (yau hc))) (fun c hc x hx=> ?_) (fun k j hk hj=> ?_) (fun k j hk hj=> ?_)
  ·refine hone x (yak (?_:x∈cells.take (len*size)))
   rw [←c3];exact ybk.2 ⟨c,yak (yau hc),hx⟩
  ·have hmul:(ll+k+1)*size≤len*size:=yas _ (by omega)
   rw [ya6,yej] at hmul
   have:=hc ((ll+k)*size+j) (by omega)
   rw [ya6] at this
   rw [show o+ll*size+(k*size+j)=o+(ll*size+k*size+j) by omega,ya6]
   exact this
  ·have hmul:(ll+k+1)*size≤len*size:=yas _ (by omega)
   rw [ya6,yej] at hmul
   have hjs:j<size:=by
    have:=c2 _ (yak (yau (yat hk)))
    omega
   have:=hv ((ll+k)*size+j) (by omega)
   have e:(((zbc len size (cells.take (len*size))).take hh).drop ll)[k][j]=cells[(ll+k)*size+j]'(by omega):=by
    simp only [ydj,yb7,zrf]
   rw [e];exact this
 ·have he:((zbc len size (cells.take (len*size))).take hh).drop ll= []:=yap (by omega)
  have had:ad=⟨ad.block,ad.off,none⟩:=by cases ad;simp only at hsp;subst hsp;rfl
  rw [he,had,show hh-ll=0 by omega]
  exact IR.lst (Im:=Im) (w:=w) [] 0 ad.block ad.off c (fun _ _=>undef) (by simp) hmax (by simp) (by simp) (fun k j hk=>by simp at hk) (fun k j hk=>by simp at hk)
theorem z4A {o:Oper} {ao:AOp} {f:Frame} {a:Act} {r:AV} (hc:zwl P o=some ao) (hs:SRel base κ Im σ w) (hf:FRel κ Im w f a) (h:za3 σ f ao=some r):zig P κ Im w o a r:=by
 unfold zwl at hc
 split at hc
 case h_1 op t x y yt ho=>
  split at hc
  ·rename_i k n z hn
   simp only [yae] at hc
   obtain ⟨z',hz,hc⟩:=hc
   split at hc
   ·subst hc;simp [za3] at h
   subst hc
   simp only [za3,zhW,yae] at h
   obtain ⟨b,hb,rfl⟩:=h
   have:=z3m (a:=a) hn (za2 hz hf) hb
   refine ⟨_, ?_,.im _ _ (.bool _)⟩
   simp only [execOp,ho]
   rw [yay]
   simp only [this,yal,ya5]
  ·split at hc
   case h_2=>cases hc
   have hbit:∀op' x' y',opd x=some x'→opd y=some y'→za3 σ f (.px (.bit op' x' y'))=some r→op'=op→zig P κ Im w o a r:=by
    intro op' x' y' hx hy hp he
    subst he
    simp only [za3,zhW] at hp
    obtain ⟨v,hv,hr⟩:=zy4 (P:=P) (t:=t) (xo:=x) (yo:=y) (za2 hx hf) (za2 hy hf) hp
    refine ⟨v, ?_,hr⟩
    simp only [execOp,ho]
    rw [yay]
    simp only [hv,yal,ya5]
   split at hc<;>first
    |(cases hc;done)
    |(simp only [yah,yac,yam,yab] at hc
      obtain ⟨x',hx,y',hy,rfl⟩:=hc
      exact hbit _ x' y' hx hy h rfl)
 case h_2 t x ho=>
  simp only [yae] at hc
  obtain ⟨x',hx,rfl⟩:=hc
  simp only [za3,zhW] at h
  obtain ⟨v,hv,hr⟩:=zyw (P:=P) (za2 hx hf) h
  exact ⟨v,by simp [execOp,ho,hv],hr⟩
 case h_3 s t x ho=>
  split at hc
  ·split at hc
   ·simp only [yae] at hc
    obtain ⟨x',hx,rfl⟩:=hc
    simp [za3] at h
   ·cases hc
  ·rename_i e hu1 hu2
   split at hc
   case h_2=>cases hc
   rename_i i he hi
   split at hc
   case isFalse=>cases hc
   rename_i hsz
   simp only [yae] at hc
   obtain ⟨x',hx,rfl⟩:=hc
   simp only [za3,zhW,yae,yac] at h
   obtain ⟨s',⟨l,hl,hb⟩,rfl⟩:=h
   have hv:=za2 (κ:=κ) (Im:=Im) (w:=w) hx hf
   have hlen:∀(l:List (List AV)) (s:List UInt8),bytesOf l=some s→∀c∈l,c.length=1:=by
    intro l
    induction l with
    |nil=>intro s _ c hc;simp at hc
    |cons c0 l ih=>
     intro s h c hc
     unfold bytesOf at h
     split at h
     ·rename_i heq;cases heq
     ·rename_i heq
      simp only [yc8] at heq
      obtain ⟨rfl,rfl⟩:=heq
      simp only [yae] at h
      obtain ⟨s1,h1,_⟩:=h
      rcases ybb.1 hc with rfl|hc
      ·rfl
      ·exact ih _ h1 _ hc
     ·cases h
   rcases zh4 hs hv hl (hlen _ _ hb) (by omega) with ⟨hx0,rfl⟩|⟨ad,c,news,hx0,g1,g2,g3,_⟩
   ·simp only [bytesOf,yab] at hb;subst hb
    refine ⟨.string ⟨#[]⟩, ?_,.im _ _ (.str [])⟩
    simp only [execOp,ho,hx0,yay,run_convert_bytes_string w s t e _ _ _ hu1 he hu2,Conv.bytesToString,ya5,yal]
    rfl
   ·obtain ⟨ns,rfl,h2⟩:=zqB hb g3
    have hld:=run_loadCells_list (P:=P) w ad _ g2
    rw [g1,Nat.mul_one] at hld
    have hrun:=run_bytesToString (P:=P) w ad l.length c ns (by rw [hld])
    refine ⟨_, ?_,.im _ _ (.str s')⟩
    simp only [execOp,ho,hx0,yay,run_convert_bytes_string w s t e _ _ _ hu1 he hu2,hrun,ya5,yal,h2]
    rfl
  ·cases hc
 case h_4 t x lo hi ho=>
  split at hc
  case h_2=>cases hc
  rename_i n e hu
  simp only [yah,yac,yam] at hc
  obtain ⟨sz,hsz,hc⟩:=hc
  split at hc
  case isFalse=>cases hc
  rename_i hcond
  simp only [yac,yab] at hc
  obtain ⟨x',hx,lo',hlo,hi',hhi,rfl⟩:=hc
  have hv:=za2 (κ:=κ) (Im:=Im) (w:=w) hx hf
  have hlo':=zgQ (κ:=κ) (Im:=Im) (w:=w) hf hlo
  have hhi':=zgQ (κ:=κ) (Im:=Im) (w:=w) hf hhi
  have hrun:∀(b off ll hh:Nat),a.eval x=.pointer (some ⟨b,off,none⟩)→zdI (hi'.map (·.ev f)) n n=some hh→zdI (lo'.map (·.ev f)) 0 hh=some ll→ll≤hh∧hh≤n∧∃ad,(execOp a.eval o).run P w=.ok (.value (.slice (some ad) (hh-ll) (n-ll))) w∧(ll<hh→ad=⟨b,off+ll*sz,none⟩)∧ad.spot=none:=by
   intro b off ll hh he h1 h2
   obtain ⟨hb,hle1,hle2⟩:=za8 (P:=P) (isSlice:=false) hlo' hhi' (yaq n) h1 h2
   refine ⟨hle1,hle2,if n=ll then ⟨b,off,none⟩ else ⟨b,off+ll*sz,none⟩, ?_,fun hlt=>by rw [if_neg (by omega)],by split<;>rfl⟩
   simp only [execOp,ho,he,yck,Instr.sliceAt,yay,run_underlying hu,yal,Instr.sureAddr,ya5,hb,run_sizeOf? hsz,VR.add]
  simp only [za3,zhW,zr2] at h
  split at h
  ·rename_i id off he
   rw [he] at hv
   simp only [yac,yae] at h
   obtain ⟨hh,hhb,ll,hlb,rfl⟩:=h
   obtain ⟨b,hb,hk⟩:=hv.ptr_inv
   obtain ⟨q1,q2,ad,q3,q4,q5⟩:=hrun b off ll hh hb hhb hlb
   exact ⟨_,q3,.asl id (off+ll*sz) (hh-ll) sz b ad (n-ll) hk (fun h=>q4 (by omega)) (by omega) (by simp only [maxLen];omega) q5⟩
  ·rename_i cells he
   rw [he] at hv
   split at h
   case isFalse=>cases h
   rename_i hle
   simp only [yac,yae] at h
   obtain ⟨hh,hhb,ll,hlb,rfl⟩:=h
   obtain ⟨b,o',vals,hb,h1,h2,h3⟩:=hv.rptr_inv
   obtain ⟨q1,q2,ad,q3,q4,q5⟩:=hrun b o' ll hh hb hhb hlb
   exact ⟨_,q3,.im _ _ (zwC hcond.1 h1 h2 h3 hle q1 q2 (by omega) (by simp only [maxLen];omega) ad q4 q5)⟩
  ·rename_i g off he
   rw [he] at hv
   split at h
   case h_2=>cases h
   rename_i cells hl
   split at h
   case isFalse=>cases h
   rename_i hle
   simp only [yac,yae] at h
   obtain ⟨hh,hhb,ll,hlb,rfl⟩:=h
   obtain ⟨b,o',vals,hb,h1,h2,h3⟩:=(VR.im (κ:=κ) _ _ (hs.glob _ (zmb hl)).2.2).rptr_inv
   simp only [Value.pointer.injEq,yab,Addr.mk.injEq,and_true] at hb
   obtain ⟨rfl,rfl⟩:=hb
   obtain ⟨q1,q2,ad,q3,q4,q5⟩:=hrun g off ll hh hv.gp_inv hhb hlb
   obtain ⟨b',o'',vals',hb',g1,g2,g3⟩:=(VR.im (κ:=κ) _ _ (zlh h1 h2 h3 off)).rptr_inv
   simp only [Value.pointer.injEq,yab,Addr.mk.injEq,and_true,ybe] at hb'
   obtain ⟨rfl,rfl⟩:=hb'
   exact ⟨_,q3,.im _ _ (zwC hcond.1 g1 g2 g3 (by simp;omega) q1 q2 (by omega) (by simp only [maxLen];omega) ad q4 q5)⟩
  ·cases h
 case h_5=>simp only [yab] at hc;subst hc;simp [za3] at h
 case h_6|h_7=>
  split at hc
  ·simp only [yah,yac,yam,yab] at hc
   obtain ⟨_,_,_,_,_,_,_,_,rfl⟩:=hc
   simp [za3] at h
  ·cases hc
 case h_8 t x k ok ho=>
  split at hc
  case h_2=>cases hc
  rename_i kt e ht
  simp only [yah,yac,yam,yab] at hc
  obtain ⟨kind,hk,i,hi,zv,hz,ZV,hZ,x',hx,k',hkk,rfl⟩:=hc
  simp only [za3,zhW,yac] at h
  obtain ⟨kv,hkv,h⟩:=h
  obtain ⟨v,hrun,hr⟩:=zss ht hk hi hz hZ hs (za2 hx hf) (za2 hkk hf) hkv h
  exact ⟨v,by simp [execOp,ho,hrun],hr⟩
 case h_9 c ho=>
  split at hc
  ·rename_i hcal
   split at hc
   case h_2=>cases hc
   rename_i t x hts hargs
   split at hc
   case h_2=>cases hc
   rename_i kt e ht
   simp only [yae] at hc
   obtain ⟨x',hx,rfl⟩:=hc
   simp only [za3,zhW,yae] at h
   obtain ⟨kv,hkv,rfl⟩:=h
   have e1:c.argTypes= #[t]:=zbm hts
   have e2:c.args.map a.eval= #[a.eval x]:=by apply zbm;rw [yc4,hargs];rfl
   refine ⟨.int .i64 kv.length,zdA ho hcal ?_,.im _ _ (.int _ _)⟩
   rcases zqP hs (za2 hx hf) hkv with ⟨hx0,rfl⟩|⟨b,es,clock,hx0,hb,hme⟩
   ·simp [builtin,Builtin.len_,e1,e2,hx0,run_underlying ht,goInt]
   ·have:es.size=kv.length:=by simpa using hme.1
    simp [builtin,Builtin.len_,e1,e2,hx0,run_underlying ht,MapKept.run_getObj_map hb,goInt,this]
  ·split at hc
   case h_2=>cases hc
   split at hc
   case h_2=>cases hc
   simp only [yah,yac,yam] at hc
   obtain ⟨i,_,hc⟩:=hc
   split at hc
   case isFalse=>cases hc
   simp only [yac,yab] at hc
   obtain ⟨_,_,_,_,rfl⟩:=hc
   simp [za3] at h
  ·split at hc
   case h_2=>cases hc
   split at hc
   case h_2=>cases hc
   simp only [yah,yac,yam] at hc
   obtain ⟨i,_,z,_,hc⟩:=hc
   split at hc
   case isFalse=>cases hc
   simp only [yac,yab] at hc
   obtain ⟨_,_,rfl⟩:=hc
   simp [za3] at h
  ·split at hc
   case h_2=>cases hc
   split at hc
   case h_2=>cases hc
   simp only [yah,yac,yam,yab] at hc
   obtain ⟨_,_,_,_,_,_,rfl⟩:=hc
   simp [za3] at h
  ·rename_i g hcal
   split at hc
   case h_2=>cases hc
   rename_i fn hfn
   split at hc
   case isFalse=>cases hc
   rename_i hcond
   split at hc
   case h_2=>cases hc
   rename_i x y z hargs
   simp only [yah,yac,yam,yab] at hc
   obtain ⟨x',hx,y',hy,z',hz,rfl⟩:=hc
   simp only [za3,zhW] at h
   obtain ⟨v,hv,hr⟩:=zyP (P:=P) (za2 hx hf) (za2 hy hf) (za2 hz hf) h
   obtain ⟨n1,n2⟩:=ztE hcond.2.1 hcond.2.2
   have e2:c.args.map a.eval= #[a.eval x,a.eval y,a.eval z]:=by apply zbm;rw [yc4,hargs];rfl
   refine ⟨v, ?_,hr⟩
   simp only [execOp,ho,resolve,hcal,Act.eval,Deferred.ofValue,yay,ya5,yal,invoke,Array.empty_append,Array.append_empty]
   rw [run_callFunc_extern hfn (by rw [hcond.2.1];decide) hcond.1 n1 n2]
   change ((add64Entry (c.args.map a.eval)).run P w).andThen _=_
   rw [e2,hv]
   rfl
  ·cases hc
 case h_10 t x hi mx ho=>
  split at hc
  case h_2=>cases hc
  rename_i e hu
  simp only [yah,yac,yam,yab] at hc
  obtain ⟨size,hsz,x',hx,hi',hhi,mx',hmx,rfl⟩:=hc
  have hv:=za2 (κ:=κ) (Im:=Im) (w:=w) hx hf
  have hvh:=za2 (κ:=κ) (Im:=Im) (w:=w) hhi hf
  have hvm:=za2 (κ:=κ) (Im:=Im) (w:=w) hmx hf
  simp only [za3,zhW,zuI] at h
  split at h
  case h_2=>cases h
  rename_i hh mm hnh hnm
  split at h
  case isFalse=>cases h
  rename_i heq
  subst heq
  obtain ⟨k1,e1⟩:∃k,a.eval hi=.int k (hh:Int):=by
   unfold zhl at hnh
   split at hnh
   case h_2=>cases hnh
   rename_i k n he
   split at hnh
   case isFalse=>cases hnh
   simp only [yab] at hnh
   rw [he] at hvh
   exact ⟨k,by rw [hvh.int_inv,←hnh];congr 1;omega⟩
  obtain ⟨k2,e2⟩:∃k,a.eval mx=.int k (hh:Int):=by
   unfold zhl at hnm
   split at hnm
   case h_2=>cases hnm
   rename_i k n he
   split at hnm
   case isFalse=>cases hnm
   simp only [yab] at hnm
   rw [he] at hvm
   exact ⟨k,by rw [hvm.int_inv,←hnm];congr 1;omega⟩
  have hrun:∀(g:Option Addr) (len cap:Nat),a.eval x=.slice g len cap→hh≤cap→∃g',(g=none→g'=none)∧(∀ad,g=some ad→ad.spot=none→g'=some ad)∧(execOp a.eval o).run P w=.ok (.value (.slice g' hh hh)) w:=by
   intro g len cap he hle
   have hb:(Instr.sliceBounds true len cap none (some (a.eval hi)) (some (a.eval mx))).run P w=.ok (0,hh,hh) w:=by
    rw [e1,e2]
    unfold Instr.sliceBounds
    simp [zc9 _ _ _ _ hle,zc9 _ _ _ _ (yaq hh)]
   refine ⟨if hh=0 then g else g.map (·.add (0*size)),fun h=>by subst h;simp,fun ad h h2=> ?_, ?_⟩
   ·subst h
    cases ad
    simp only at h2
    subst h2
    simp [VR.add]
   ·simp only [execOp,ho,he,yck,Option.map_some,Instr.sliceAt,yay,run_underlying hu,yal,Instr.slice,hb,run_sizeOf? hsz,ya5]
    rfl
  -- a list's head
  have hlst:∀(l:List (List AV)) (xv:Value),a.eval x=xv→IR Im w (.lst l) xv→(∀c∈l,c.length=size)→hh≤l.length→zig P κ Im w o a (.tight (l.take hh)):=by
   intro l xv he hir hall hle
   have hlt:(l.take hh).length=hh:=by simp;omega
   rcases (VR.im (κ:=κ) _ _ hir).lst_inv with ⟨⟨g,ev⟩,rfl⟩|⟨size',b,o',cap,vals,ev,h1,h2,h3,h4,h5,h6⟩
   ·have h0:hh=0:=by simpa using hle
    subst h0
    obtain ⟨g',_,_,hr⟩:=hrun g 0 0 (he.trans ev) (yaq _)
    exact ⟨_,hr,.im _ _ (.tight [] g' (.lnil g'))⟩
   ·obtain ⟨g',_,hg2,hr⟩:=hrun _ _ _ (he.trans ev) (yca hle h1)
    obtain rfl:=hg2 _ rfl rfl
    refine ⟨_,hr,.im _ _ ?_⟩
    have h7:IR Im w (.lst (l.take hh)) (.slice (some ⟨b,o',none⟩) hh hh):=by
     have:=IR.lst (Im:=Im) (w:=w) (l.take hh) size' b o' hh vals (by simp;omega) (by omega) (fun c hc=>h3 c (yak hc)) (fun c hc=>h4 c (yak hc)) (fun k j hk hj=>h5 k j (by simp at hk;omega) hj) (fun k j hk hj=>by
      have e:(l.take hh)[k]=l[k]'(by simp at hk;omega):=by simp
      simp only [e] at hj⊢
      exact h6 k j _ hj)
     rwa [hlt] at this
    have:=IR.tight (Im:=Im) (w:=w) (l.take hh) (some ⟨b,o',none⟩) (by rw [hlt];exact h7)
    rwa [hlt] at this
  split at h
  ·rename_i he
   split at h
   case isFalse=>cases h
   rename_i h0
   subst h0
   simp only [yab] at h;subst h
   rw [he] at hv
   obtain ⟨g',_,_,hr⟩:=hrun none 0 0 hv.nils_inv (yaq _)
   exact ⟨_,hr,.im _ _ (.tight [] g' (.lnil g'))⟩
  ·rename_i l he
   split at h
   case isFalse=>cases h
   rename_i hcond
   simp only [yab] at h;subst h
   rw [he] at hv
   exact hlst l _ rfl (hv.pure (by simp [AV.pure])) hcond.1 hcond.2
  ·rename_i id n he
   rw [he] at hv
   split at h
   case h_2=>cases h
   rename_i e' size' els hent
   split at h
   case isFalse=>cases h
   rename_i hcond
   obtain ⟨rfl,rfl,hle⟩:=hcond
   simp only [yab] at h;subst h
   obtain ⟨g,cap,ev,hk⟩:=hv.row_inv
   have hir:=zmn hs hent hk
   obtain ⟨_,_,_,_,_,_,hlen,_⟩:=hs.ent _ _ hent
   exact hlst els _ rfl hir hlen hle
  ·cases h
 case h_11 t x ho=>
  split at hc
  case h_2=>cases hc
  simp only [yae] at hc
  obtain ⟨x',hx,rfl⟩:=hc
  simp [za3] at h
 case h_12 x ho=>
  simp only [yae] at hc
  obtain ⟨x',hx,rfl⟩:=hc
  simp [za3] at h
 case h_13 x ho=>
  simp only [yae] at hc
  obtain ⟨x',hx,rfl⟩:=hc
  have hv:=za2 (κ:=κ) (Im:=Im) (w:=w) hx hf
  simp only [za3,zhW,zvI] at h
  split at h
  case h_2=>cases h
  rename_i id he
  rw [he] at hv
  split at h
  case h_2=>cases h
  rename_i m n left last hent
  split at h
  case h_2=>cases h
  rename_i kv hmp
  split at h
  case isFalse=>cases h
  rename_i hkn
  simp only [yae] at h
  obtain ⟨p,hp,rfl⟩:=h
  obtain ⟨hlt,hpe⟩:=yaa.1 hp
  obtain ⟨b,hbx,hκ⟩:=hv.ptr_inv
  obtain ⟨b',hκ',_,_,c,es,clock,since,seen,c0,hm,hcell,hheap,hsz,hnd,_,_,_,_,_,_,hlast⟩:=hs.ent _ _ hent
  rw [hκ] at hκ';cases hκ'
  obtain ⟨b2,es2,clock2,hk2,_,hheap2,hsz2,hes2,_⟩:=hs.ent _ _ hmp
  rw [hm] at hk2;cases hk2
  rw [hcell] at hheap2;cases hheap2
  have hle:last<es.size:=by omega
  obtain ⟨rfl,hback⟩:=hlast hle
  obtain ⟨q1,q2⟩:=hes2 last hlt hle
  rw [hpe] at q1 q2
  have hf:es.find? (·.born==(es[last]).born)=some es[last]:=by rw [←Array.find?_toList];exact find_born _ es.toList hnd (by simp)
  refine ⟨.tuple #[(es[last]).key,(es[last]).val], ?_, ?_⟩
  ·simp [execOp,ho,hbx,Instr.entry,getObj,Sem.run,hheap,hcell,hback,hf]
  ·have hl:VRL κ Im w [p.1,p.2] [(es[last]).key,(es[last]).val]:=VRL.cons (.im _ _ q1) (VRL.cons q2 VRL.nil)
   exact .tup _ _ hl.1 hl.2
 case h_14=>cases hc
end
end Go.Abs
end
section
namespace Go.Abs
open Go.RowKit
variable {G:Globs}
section
variable {P:Program} {base:Nat} {κ:Key} {Im:Addr→Prop} {w:World} {σ:zac}
theorem zz9 {o:Oper} {t:TypeId} {a:Act} {K:AV→zac→Prop} (ho:o.op=.makeMap t none) (hs:SRel base κ Im σ w) (h:K (.map σ.length) (σ++ [.mp []])):zeB P base κ Im w o a K:=by
 have hfree:∀m v,κ σ.length m=some v→False:=fun m v h=>by obtain ⟨e,h1,_⟩:=hs.dom _ _ _ h;simp at h1
 have hκ:=Key.with_new hfree 0 (.map (some w.heap.size))
 have hh:∀k,k<w.heap.size→(w.alloc (.map #[] 0)).heap[k]? =w.heap[k]? :=fun k hk=>Below.heap_alloc w _ k hk
 have hc:∀a,Im a→(w.alloc (.map #[] 0)).cell? a=w.cell? a:=fun a ha=>ya8 (hh _ (hs.imlt a ha).1)
 refine ⟨_,w.alloc (.map #[] 0),κ.with σ.length 0 (.map (some w.heap.size)),Im,.map σ.length,_,.inl (by simp [execOp,ho,Instr.makeMap]),h,.map _ _ (Key.with_same _ _ _ _), ?_,⟨hκ,fun _ h=>h,hc,fun _ h=> .inl h,(Below.refl _ _).alloc hs.hb _⟩⟩
 refine hs.push (.mp []) hκ (fun i n v h=> ?_) (fun _ h=>h) (fun _ h=> .inl h) (by simp) hh ?_ (fun b hb=> ?_)
 ·unfold Key.with at h
  split at h
  ·rename_i hc;exact .inr ⟨hc.1,by rw [hc.2];exact ydk _⟩
  ·exact .inl h
 ·exact ⟨w.heap.size, #[],0,Key.with_same _ _ _ _,hs.hb,heap_alloc_new w _,rfl,fun j h=>by simp at h,fun a ha he=>by have:=(hs.imlt a ha).1;omega,⟨by simp,by simp⟩⟩
 ·simp [Entry.block,Key.with] at hb;omega
theorem zsc {kind:Nat} {X Y:AV} {x:Value} (hx:VR κ Im w X x) (h:eq1 kind X Y=some true) (n:Nat):Instr.sameBits (n+1) x x=true:=by
 unfold eq1 at h
 split at h
 ·cases hx.int_inv;simp [Instr.sameBits]
 ·cases hx.str_inv;simp [Instr.sameBits,MapKept.bytes_beq]
 ·cases hx.bool_inv;simp [Instr.sameBits]
 ·cases h
theorem znz {kind:Nat} {X:AV}:∀{kv:List (AV×AV)} {i j:Nat} {a:AV},zbr kind X kv i=some (some (j,a))→∃Y,eq1 kind X Y=some true
 | [],i,j,a,h=>by simp [zbr] at h
 |(k',v')::kv,i,j,a,h=>by
  simp only [zbr] at h
  split at h
  ·rename_i he;exact ⟨_,he⟩
  ·exact znz h
  ·cases h
theorem zwI {o:Oper} {t kt e:TypeId} {kind:Nat} {m k v:Operand} {m' k' v':Opd} {f:Frame} {a:Act} {K:AV→zac→Prop} {id:Nat} {kv kv':List (AV×AV)} (ho:o.op=.mapUpdate t m k v∨o.op=.insert t m k v) (ht:P.underlying t=some (.map kt e)) (hk:zdX P kt=some kind)
  (hm:opd m=some m') (hkk:opd k=some k') (hv:opd v=some v') (hs:SRel base κ Im σ w) (hf:FRel κ Im w f a) (hX:m'.ev f=.map id) (hent:σ[id]? =some (.mp kv)) (hpure:(k'.ev f).pure=true) (hput:zeO kind (k'.ev f) (v'.ev f) kv=some kv') (hno:zdF σ=true)
  (h:K .junk (σ.set id (.mp kv'))):zeB P base κ Im w o a K:=by
 obtain ⟨d,hd⟩:∃d,P.underlying kt=some d:=by
  unfold zdX at hk;split at hk<;>first|(cases hk;done)|exact ⟨_,by assumption⟩
 have hmv:=za2 (κ:=κ) (Im:=Im) (w:=w) hm hf
 have hkv:=za2 (κ:=κ) (Im:=Im) (w:=w) hkk hf
 have hvv:=za2 (κ:=κ) (Im:=Im) (w:=w) hv hf
 rw [hX] at hmv
 obtain ⟨b,hb,hκ⟩:=hmv.map_inv
 obtain ⟨b',es,clock,hκ',hbase,hheap,hsz,hes,him,hborn⟩:=hs.ent _ _ hent
 rw [hb,hκ'] at hκ;cases hκ
 have hme:MEnt κ Im w kv es.toList:=⟨by simpa using hsz,fun j hj hj'=>hes j hj (by simpa using hj')⟩
 have hexec:∀w',(Instr.mapUpdate t (.map (some b)) (a.eval k) (a.eval v)).run P w=.ok () w'→(execOp a.eval o).run P w=.ok .skip w':=by
  intro w' hr
  rcases ho with ho|ho<;>simp [execOp,ho,hb,hr]
 -- the step, once the new entries are z7R
 have key:∀(es':Array MapEntry) (clock':Nat),(Instr.mapUpdate t (.map (some b)) (a.eval k) (a.eval v)).run P w=.ok () {w with heap:=w.heap.setIfInBounds b (.map es' clock')}→es'.size=kv'.length→
   (∀j (h:j<kv'.length) (h':j<es'.size),IR Im w (kv'[j]).1 (es'[j]).key∧VR κ Im w (kv'[j]).2 (es'[j]).val)→Born es' clock'→zeB P base κ Im w o a K:=by
  intro es' clock' hr hsz' hes' hborn'
  obtain ⟨g1,g2⟩:=MapKept.heap_set (o':=.map es' clock') hheap
  have hcell:∀ad,Im ad→({w with heap:=w.heap.setIfInBounds b (.map es' clock')}:World).cell? ad=w.cell? ad:=fun ad ha=>ya8 (g2 _ (him ad ha))
  refine ⟨undef,_,κ,Im,.junk,_,.inr ⟨hexec _ hr,rfl⟩,h,.im _ _ (.junk _), ?_,⟨fun _ _ _ h=>h,fun _ h=>h,hcell,fun _ h=> .inl h,⟨rfl,rfl,rfl,by simp,fun k hk=>g2 k (by omega)⟩⟩⟩
  refine hs.set hent _ (fun _ _ _ h=>h) (fun _ _ _ h=> .inl h) (yaq _) (fun _ h=>h) hcell (fun _ h=> .inl h) (by simp) (fun k _ hk=>g2 k (fun he=>hk (by simp [Entry.block,hκ',he]))) ?_ (fun b' hb'=> .inr (by simpa [Entry.block,hκ'] using hb')) (fun _=>hno)
  exact ⟨b,es',clock',hκ',hbase,g1,hsz',fun j hj hj'=>⟨(hes' j hj hj').1.mono (fun _ h=>h) hcell,(hes' j hj hj').2.mono (fun _ _ _ h=>h) (fun _ h=>h) hcell⟩,him,hborn'⟩
 unfold zeO at hput
 simp only [yae] at hput
 obtain ⟨q,hq,hput⟩:=hput
 have hfind:=ziQ hk hd hkv hme hq
 rcases q with _|⟨j,x⟩
 ·simp only at hput;subst hput
  refine key (es.push {key:=a.eval k,val:=a.eval v,born:=clock}) (clock+1) ?_ (by simp [hsz]) (fun j hj hj'=> ?_) ⟨?_, ?_⟩
  ·simp only [Instr.mapUpdate,yay,run_underlying ht,yal,MapKept.run_getObj_map hheap,zeD hk,Instr.findKey,run_underlying hd,hfind,ya5,MapKept.run_setObj_map _ hheap]
  ·by_cases hjl:j<kv.length
   ·have:=hes j hjl (by omega)
    rw [yce hjl,Array.getElem_push_lt (by omega)]
    exact this
   ·have hje:j=kv.length:=by simp at hj;omega
    subst hje
    have hje2:kv.length=es.size:=hsz.symm
    rw [ycc (by omega)]
    simp only [ycx,ycn]
    have e2:(es.push {key:=a.eval k,val:=a.eval v,born:=clock})[kv.length]={key:=a.eval k,val:=a.eval v,born:=clock}:=by
     simp only [hje2,Array.getElem_push_eq]
    rw [e2]
    exact ⟨hkv.pure hpure,hvv⟩
  ·simp only [Array.toList_push,ydm,yc6,List.map_nil]
   rw [ydi]
   refine ⟨hborn.1,by simp,fun x hx y hy he=> ?_⟩
   obtain ⟨z,hz,rfl⟩:=yav.1 hx
   have:=hborn.2 z hz
   simp at hy;omega
  ·intro x hx
   simp only [Array.toList_push,yai,ybh] at hx
   rcases hx with hx|rfl
   ·exact Nat.lt_succ_of_lt (hborn.2 x hx)
   ·exact Nat.lt_succ_self _
 ·simp only at hput;subst hput
  obtain ⟨u,h1,h2,h3,h4,h5,h6⟩:=hfind
  obtain ⟨Y,hY⟩:=znz hq
  have hbits:=zsc hkv hY 9999
  have hje:j<es.size:=by simpa using h4
  have hkey:(((es[j]?).map (·.key)).getD (a.eval k))=a.eval k:=by
   rw [ybx hje]
   simpa using h6
  have hbe:(es.modify j fun e=>{e with key:=a.eval k,val:=a.eval v}).toList.map (·.born)=es.toList.map (·.born):=by
   apply List.ext_getElem
   ·simp
   ·intro i h1 h2
    simp only [yc2,Array.getElem_toList,Array.getElem_modify]
    split<;>rfl
  refine key (es.modify j fun e=>{e with key:=a.eval k,val:=a.eval v}) clock ?_ (by simp [hsz]) (fun i hi hi'=> ?_) ⟨by rw [hbe];exact hborn.1,fun x hx=> ?_⟩
  ·simp only [Instr.mapUpdate,yay,run_underlying ht,yal,MapKept.run_getObj_map hheap,zeD hk,Instr.findKey,run_underlying hd,h1,ya5,hkey,Instr.keyThatStays,hbits,if_true,MapKept.run_setObj_map _ hheap]
  ·simp only [List.length_set] at hi
   have hii:i<es.size:=by omega
   rw [Array.getElem_modify]
   by_cases hij:j=i
   ·subst hij
    simp only [if_true,List.getElem_set_self]
    exact ⟨hkv.pure hpure,hvv⟩
   ·rw [if_neg hij,List.getElem_set_ne hij]
    exact hes i hi hii
  ·have hx':x.born∈(es.modify j fun e=>{e with key:=a.eval k,val:=a.eval v}).toList.map (·.born):=List.mem_map_of_mem hx
   rw [hbe] at hx'
   obtain ⟨z,hz,he⟩:=yav.1 hx'
   rw [←he];exact hborn.2 z hz
theorem z3U {o:Oper} {c:Call} {t t2 kt e:TypeId} {kind:Nat} {x k:Operand} {x' k':Opd} {f:Frame} {a:Act} {K:AV→zac→Prop} {σ':zac} (ho:o.op=.call c) (hb:c.callee=.builtin .delete) (hts:c.argTypes.toList= [t,t2]) (hargs:c.args.toList= [x,k]) (ht:P.underlying t=some (.map kt e)) (hk:zdX P kt=some kind)
  (hx:opd x=some x') (hkk:opd k=some k') (hs:SRel base κ Im σ w) (hf:FRel κ Im w f a) (hdel:zzM σ kind (k'.ev f) (x'.ev f)=some σ') (h:K (.tup []) σ'):zeB P base κ Im w o a K:=by
 obtain ⟨d,hd⟩:∃d,P.underlying kt=some d:=by
  unfold zdX at hk;split at hk<;>first|(cases hk;done)|exact ⟨_,by assumption⟩
 have hmv:=za2 (κ:=κ) (Im:=Im) (w:=w) hx hf
 have hkv:=za2 (κ:=κ) (Im:=Im) (w:=w) hkk hf
 have e1:c.argTypes= #[t,t2]:=zbm hts
 have e2:c.args.map a.eval= #[a.eval x,a.eval k]:=by apply zbm;rw [yc4,hargs];rfl
 have hexec:∀w',(Builtin.delete_ #[t,t2] o.type #[a.eval x,a.eval k]).run P w=.ok (.tuple #[]) w'→(execOp a.eval o).run P w=.ok (.value (.tuple #[])) w':=by
  intro w' hr
  simp only [execOp,ho,resolve,hb,yay,ya5,yal,invoke,builtin,e1,e2,hr]
 have htup:∀κ' Im' w',VR κ' Im' w' (.tup []) (.tuple #[]):=fun κ' Im' w'=> .tup [] [] rfl (fun j h=>by simp at h)
 unfold zzM at hdel
 split at hdel
 ·rename_i he
  simp only [yab] at hdel;subst hdel
  rw [he] at hmv
  have hx0:=hmv.nilm_inv
  refine ⟨.tuple #[],w,κ,Im,_,_,.inl (hexec _ ?_),h,htup _ _ _,hs,Grow.refl _ _ _ _⟩
  have hck:=fun b=>zeD (P:=P) (w:=w) hk b 9999 (a.eval k)
  simp [Builtin.delete_,run_underlying ht,hx0,hck]
 ·rename_i id he
  rw [he] at hmv
  split at hdel
  case h_2=>cases hdel
  rename_i kv hent
  split at hdel
  case isFalse=>cases hdel
  rename_i hno
  simp only [yae] at hdel
  obtain ⟨kv',hmd,rfl⟩:=hdel
  obtain ⟨b,hbx,hκ⟩:=hmv.map_inv
  obtain ⟨b',es,clock,hκ',hbase,hheap,hsz,hes,him,hborn⟩:=hs.ent _ _ hent
  rw [hbx,hκ'] at hκ;cases hκ
  have hme:MEnt κ Im w kv es.toList:=⟨by simpa using hsz,fun j hj hj'=>hes j hj (by simpa using hj')⟩
  have key:∀(es':Array MapEntry),(Builtin.delete_ #[t,t2] o.type #[a.eval x,a.eval k]).run P w=.ok (.tuple #[]) {w with heap:=w.heap.setIfInBounds b (.map es' clock)}→es'.size=kv'.length→
    (∀j (h:j<kv'.length) (h':j<es'.size),IR Im w (kv'[j]).1 (es'[j]).key∧VR κ Im w (kv'[j]).2 (es'[j]).val)→Born es' clock→zeB P base κ Im w o a K:=by
   intro es' hr hsz' hes' hborn'
   obtain ⟨g1,g2⟩:=MapKept.heap_set (o':=.map es' clock) hheap
   have hcell:∀ad,Im ad→({w with heap:=w.heap.setIfInBounds b (.map es' clock)}:World).cell? ad=w.cell? ad:=fun ad ha=>ya8 (g2 _ (him ad ha))
   refine ⟨.tuple #[],_,κ,Im,_,_,.inl (hexec _ hr),h,htup _ _ _, ?_,⟨fun _ _ _ h=>h,fun _ h=>h,hcell,fun _ h=> .inl h,⟨rfl,rfl,rfl,by simp,fun k hk=>g2 k (by omega)⟩⟩⟩
   refine hs.set hent _ (fun _ _ _ h=>h) (fun _ _ _ h=> .inl h) (yaq _) (fun _ h=>h) hcell (fun _ h=> .inl h) (by simp) (fun k _ hk=>g2 k (fun he=>hk (by simp [Entry.block,hκ',he]))) ?_ (fun b' hb'=> .inr (by simpa [Entry.block,hκ'] using hb')) (fun _=>hno)
   exact ⟨b,es',clock,hκ',hbase,g1,hsz',fun j hj hj'=>⟨(hes' j hj hj').1.mono (fun _ h=>h) hcell,(hes' j hj hj').2.mono (fun _ _ _ h=>h) (fun _ h=>h) hcell⟩,him,hborn'⟩
  have hck:=fun b=>zeD (P:=P) (w:=w) hk b 9999 (a.eval k)
  unfold z0W at hmd
  simp only [yae] at hmd
  obtain ⟨q,hq,hmd⟩:=hmd
  have hfind:=ziQ hk hd hkv hme hq
  rcases q with _|⟨j,y⟩
  ·simp only at hmd;subst hmd
   refine key es ?_ hsz hes hborn
   simp [Builtin.delete_,run_underlying ht,hbx,MapKept.run_getObj_map hheap,hck,Instr.findKey,run_underlying hd,hfind,MapKept.run_setObj_map _ hheap]
  ·simp only at hmd;subst hmd
   obtain ⟨u,h1,h2,h3,h4,h5,h6⟩:=hfind
   have hje:j<es.size:=by simpa using h4
   have htl:(es.eraseIdxIfInBounds j).toList=es.toList.eraseIdx j:=by simp
   refine key (es.eraseIdxIfInBounds j) ?_ ?_ (fun i hi hi'=> ?_) ⟨?_,fun x hx=> ?_⟩
   ·simp [Builtin.delete_,run_underlying ht,hbx,MapKept.run_getObj_map hheap,hck,Instr.findKey,run_underlying hd,h1,MapKept.run_setObj_map _ hheap]
   ·rw [←ya4,htl,List.length_eraseIdx,List.length_eraseIdx]
    simp [hsz]
   ·have ee:(es.eraseIdxIfInBounds j)[i]=(es.toList.eraseIdx j)[i]'(by rw [←htl,ya4];exact hi'):=by
     simp only [←htl,Array.getElem_toList]
    rw [ee]
    rw [List.getElem_eraseIdx,List.getElem_eraseIdx]
    have hl1:(kv.eraseIdx j).length=kv.length-1:=by rw [List.length_eraseIdx,if_pos (by omega)]
    split
    ·exact hes i (by omega) (by omega)
    ·exact hes (i+1) (by omega) (by omega)
   ·rw [htl]
    exact hborn.1.sublist ((List.eraseIdx_sublist _ _).map _)
   ·rw [htl] at hx
    exact hborn.2 x ((List.eraseIdx_sublist _ _).mem hx)
 ·cases hdel
theorem z6O {o:Oper} {t kt e:TypeId} {x:Operand} {x':Opd} {f:Frame} {a:Act} {K:AV→zac→Prop} {σ':zac} (ho:o.op=.range t x) (ht:P.underlying t=some (.map kt e)) (hx:opd x=some x') (hs:SRel base κ Im σ w) (hf:FRel κ Im w f a) (hr:zzB σ (x'.ev f)=some σ') (h:K (.ptr σ.length 0) σ'):zeB P base κ Im w o a K:=by
 have hmv:=za2 (κ:=κ) (Im:=Im) (w:=w) hx hf
 have hfree:∀m v,κ σ.length m=some v→False:=fun m v h=>by obtain ⟨e,h1,_⟩:=hs.dom _ _ _ h;simp at h1
 have hκ:=Key.with_new hfree 0 (.pointer (some ⟨w.heap.size,0,none⟩))
 have key:∀(ob:Obj) (en:Entry),(Instr.range t (a.eval x)).run P w=.ok (.pointer (some ⟨w.heap.size,0,none⟩)) (w.alloc ob)→en.block (κ.with σ.length 0 (.pointer (some ⟨w.heap.size,0,none⟩))) σ.length=some w.heap.size→σ'=σ++ [en]→
   (∀w':World,w'=w.alloc ob→(∀k,k<w.heap.size→w'.heap[k]? =w.heap[k]?)→w'.heap[w.heap.size]? =some ob→EOK (κ.with σ.length 0 (.pointer (some ⟨w.heap.size,0,none⟩))) Im base w' σ.length en)→zeB P base κ Im w o a K:=by
  intro ob en hrun hblk hσ hE
  have hh:∀k,k<w.heap.size→(w.alloc ob).heap[k]? =w.heap[k]? :=fun k hk=>Below.heap_alloc w _ k hk
  have hc:∀a,Im a→(w.alloc ob).cell? a=w.cell? a:=fun a ha=>ya8 (hh _ (hs.imlt a ha).1)
  refine ⟨_,w.alloc ob,κ.with σ.length 0 (.pointer (some ⟨w.heap.size,0,none⟩)),Im,.ptr σ.length 0,σ',.inl (by simp only [execOp,ho];rw [yay,hrun];rfl),h,.ptr _ _ _ (Key.with_same _ _ _ _), ?_,⟨hκ,fun _ h=>h,hc,fun _ h=> .inl h,(Below.refl _ _).alloc hs.hb _⟩⟩
  rw [hσ]
  refine hs.push en hκ (fun i n v h=> ?_) (fun _ h=>h) (fun _ h=> .inl h) (by simp) hh (hE _ rfl hh (heap_alloc_new w _)) (fun b hb=> ?_)
  ·unfold Key.with at h
   split at h
   ·rename_i hc;exact .inr ⟨hc.1,by rw [hc.2];exact ydk _⟩
   ·exact .inl h
  ·rw [hblk] at hb;simp only [yab] at hb;omega
 unfold zzB at hr
 split at hr
 ·rename_i he
  simp only [yab] at hr;subst hr
  rw [he] at hmv
  have hx0:=hmv.nilm_inv
  refine key (.mapIter none 0 #[] 0) _ ?_ (by simp [Entry.block,Key.with_same]) rfl (fun w' hw hh hn=>⟨w.heap.size,Key.with_same _ _ _ _,hs.hb,fun a ha he=>by have:=(hs.imlt a ha).1;omega,hn,rfl⟩)
  simp [Instr.range,run_underlying ht,hx0,newObj]
  rfl
 ·rename_i id he
  rw [he] at hmv
  split at hr
  case h_2=>cases hr
  rename_i kv hent
  simp only [yab] at hr;subst hr
  obtain ⟨b,hbx,hκ0⟩:=hmv.map_inv
  obtain ⟨b',es,clock,hκ',hbase,hheap,hsz,hes,him,hborn⟩:=hs.ent _ _ hent
  rw [hbx,hκ'] at hκ0;cases hκ0
  refine key (.mapIter (some b) clock #[] clock) _ ?_ (by simp [Entry.block,Key.with_same]) rfl (fun w' hw hh hn=>⟨w.heap.size,Key.with_same _ _ _ _,hs.hb,fun a ha he=>by have:=(hs.imlt a ha).1;omega,b,es,clock,clock, #[],clock,hκ _ _ _ hκ', ?_,hn,hsz,hborn.1,hborn.2,yaq _,yaq _,List.nodup_range,fun j hj=>yee.1 hj,fun j hj=>by simp;omega,fun h=>by omega⟩)
  ·simp [Instr.range,run_underlying ht,hbx,MapKept.run_getObj_map hheap,newObj]
   rfl
  ·rw [hh b (ya7.1 hheap).1];exact hheap
 ·cases hr
theorem zyW {es:Array MapEntry} (hn:(es.toList.map (·.born)).Nodup) {i j:Nat} (hi:i<es.size) (hj:j<es.size) (he:(es[i]).born=(es[j]).born):i=j:=by
 have h1:i<(es.toList.map (·.born)).length:=by simpa using hi
 have h2:j<(es.toList.map (·.born)).length:=by simpa using hj
 exact (List.getElem_inj hn (h₀:=h1) (h₁:=h2)).1 (by simpa using he)
theorem z7n {o:Oper} {x:Operand} {x':Opd} {f:Frame} {a:Act} {K:AV→zac→Prop} (ho:o.op=.next x false) (hx:opd x=some x') (hs:SRel base κ Im σ w) (hf:FRel κ Im w f a) (h:za0 P K f σ (.nxt x')):zeB P base κ Im w o a K:=by
 have hv:=za2 (κ:=κ) (Im:=Im) (w:=w) hx hf
 simp only [za0] at h
 split at h
 case h_2=>exact h.elim
 rename_i id he
 split at h
 case h_2=>exact h.elim
 rename_i mid n left last hent
 rw [he] at hv
 obtain ⟨b,hbx,hκ⟩:=hv.ptr_inv
 obtain ⟨b',hκ',hbase,him,hit⟩:=hs.ent _ _ hent
 rw [hκ] at hκ';cases hκ'
 have hover:VR κ Im w (.tup [.bool false]) (.tuple #[.bool false]):=.im _ _ (.tup _ [.bool false] rfl (fun j h h'=>by
  have:j=0:=by simp at h;omega
  subst this;exact .bool _))
 cases mid with
 |none=>
  obtain ⟨hheap,rfl⟩:=hit
  refine ⟨.tuple #[.bool false],w,κ,Im,_,_,.inl ?_,h.1 rfl,hover,hs,Grow.refl _ _ _ _⟩
  simp [execOp,ho,hbx,Instr.next,getObj,Sem.run,hheap]
 |some m=>
  obtain ⟨c,es,clock,since,seen,c0,hm,hc,hheap,hsz,hnd,hlt,hsc,hclk,hln,hlj,hleft,hlast⟩:=hit
  have hmem:∀j (hj:j<es.size),es[j]∈(leftOf es seen).toList↔j∈left:=by
   intro j hj
   rw [hleft j hj]
   simp [leftOf]
  rcases run_next_at (P:=P) w o.type b c since c0 seen es clock hheap hc hlt hsc with ⟨h0,hr⟩|⟨e,hem,w1,hw1,hr⟩
  ·have hl0:left= []:=by
    rcases left with _|⟨j,left⟩
    ·rfl
    ·exfalso
     have hj:=hlj j (by simp)
     have:=(hmem j (by omega)).2 (by simp)
     have h1:(leftOf es seen).toList= []:=yap (by simpa using h0)
     rw [h1] at this;simp at this
   refine ⟨.tuple #[.bool false],w,κ,Im,_,_,.inl ?_,h.1 hl0,hover,hs,Grow.refl _ _ _ _⟩
   simp only [execOp,ho,hbx]
   rw [yay,hr];rfl
  ·have hee:e∈es.toList:=by
    simp only [leftOf,Array.toList_filter,ybn] at hem
    exact hem.1
   obtain ⟨i,hi,hie⟩:=yaw.1 hee
   have hi':i<es.size:=by simpa using hi
   simp only [Array.getElem_toList] at hie
   have hil:i∈left:=(hmem i hi').1 (by rw [hie];exact hem)
   have hK:=h.2 i hil
   have hheap1:w1.heap=w.heap:=by rcases hw1 with rfl|rfl<;>rfl
   have hb1:b<w1.heap.size:=by rw [hheap1];exact (ya7.1 hheap).1
   obtain ⟨w2,hw2⟩:∃w2,w2=ChangeMaps.setBlock w1 b (.mapIter (some c) since (seen.push e.born) clock):=⟨_,rfl⟩
   rw [←hw2] at hr
   have g1:w2.heap[b]? =some (.mapIter (some c) since (seen.push e.born) clock):=by
    rw [hw2];simp [ChangeMaps.setBlock,hb1]
   have g2:∀k,k≠b→w2.heap[k]? =w.heap[k]? :=fun k hk=>by
    rw [hw2];simp only [ChangeMaps.setBlock]
    rw [yb2 (Ne.symm hk),hheap1]
   have g3:w2.heap.size=w.heap.size:=by rw [hw2];simp [ChangeMaps.setBlock,hheap1]
   have hcell:∀ad,Im ad→w2.cell? ad=w.cell? ad:=fun ad ha=>ya8 (g2 _ (him ad ha))
   have hos:w2.os=w.os∧w2.tape=w.tape∧w2.output=w.output:=by rw [hw2];rcases hw1 with rfl|rfl<;>exact ⟨rfl,rfl,rfl⟩
   have hcb:c≠b:=fun hcb=>by rw [hcb,hheap] at hc;cases hc
   refine ⟨.tuple #[.bool true,e.key,e.val],w2,κ,Im,_,_,.inl ?_,hK, ?_, ?_,⟨fun _ _ _ h=>h,fun _ h=>h,hcell,fun _ h=> .inl h,⟨hos.1,hos.2.1,hos.2.2,by omega,fun k hk=>g2 k (by omega)⟩⟩⟩
   ·simp only [execOp,ho,hbx]
    rw [yay,hr];rfl
   ·exact .im _ _ (.tup _ [.bool true,e.key,e.val] rfl (fun j h h'=>by
     match j,h with
     |0,_=>exact .bool _
     |1,_=>exact .junk _
     |2,_=>exact .junk _))
   ·refine hs.set hent _ (fun _ _ _ h=>h) (fun _ _ _ h=> .inl h) (yaq _) (fun _ h=>h) hcell (fun _ h=> .inl h) (by omega) (fun k _ hk=>g2 k (fun he=>hk (by simp [Entry.block,hκ,he]))) ?_ (fun b' hb'=> .inr (by simpa [Entry.block,hκ] using hb'))
    refine ⟨b,hκ,hbase,him,c,es,clock,since,seen.push e.born,clock,hm,by rw [g2 c hcb];exact hc,g1,hsz,hnd,hlt,hclk,hclk,hln.erase _,fun j hj=>hlj j (List.mem_of_mem_erase hj),fun j hj=> ?_,fun hl=>⟨rfl,by simp [hie]⟩⟩
    ·rw [hln.mem_erase_iff,hleft j hj]
     simp only [Array.contains_push,Bool.or_eq_false_iff,beq_eq_false_iff_ne,ne_eq]
     constructor
     ·rintro ⟨h1,h2⟩
      exact ⟨h2,fun h3=>h1 (zyW hnd hj hi' (by rw [h3,hie]))⟩
     ·rintro ⟨h1,h2⟩
      exact ⟨fun h3=>h2 (by subst h3;rw [hie]),h1⟩
theorem zvR {o:Oper} {s t e:TypeId} {x:Operand} {x':Opd} {f:Frame} {a:Act} {K:AV→zac→Prop} {r:AV} (ho:o.op=.convert s t x) (hu1:P.underlying s=some .string) (hu2:P.underlying t=some (.slice e)) (he:P.underlying e=some (.int .u8)) (hx:opd x=some x') (hs:SRel base κ Im σ w) (hf:FRel κ Im w f a)
  (hr:zhn (x'.ev f)=some r) (h:K r σ):zeB P base κ Im w o a K:=by
 have hv:=za2 (κ:=κ) (Im:=Im) (w:=w) hx hf
 unfold zhn at hr
 split at hr
 case h_2=>cases hr
 rename_i l hl
 split at hr
 case isFalse=>cases hr
 rename_i hle
 simp only [yab] at hr;subst hr
 rw [hl] at hv
 have hval:=hv.str_inv
 have hrun:=Lib.run_convert_string_bytes (P:=P) w s t e ⟨l.toArray⟩ hu1 hu2 he
 have hsize:(ByteArray.mk l.toArray).size=l.length:=by simp [ByteArray.size]
 rw [hsize] at hrun
 let Im':Addr→Prop:=fun ad=>Im ad∨(ad.block=w.heap.size∧ad.spot=none∧ad.off<l.length)
 have hold:∀k,k<w.heap.size→(Lib.bytesWorld w e ⟨l.toArray⟩).heap[k]? =w.heap[k]? :=Lib.bytesWorld_at_old w e _
 have hc:∀ad,Im ad→(Lib.bytesWorld w e ⟨l.toArray⟩).cell? ad=w.cell? ad:=fun ad ha=>ya8 (hold _ (hs.imlt ad ha).1)
 have hir:IR Im' (Lib.bytesWorld w e ⟨l.toArray⟩) (.lst (l.map fun b=> [.int .u8 b.toNat])) (.slice (some ⟨w.heap.size,0,none⟩) (l.map fun b=> [AV.int .u8 (b.toNat:Int)]).length (grownCap w l.length 0 e)):=by
  refine .lst _ 1 w.heap.size 0 _ (fun k j=> .int .u8 (l.getD k 0).toNat) (by simpa using grownCap_ge w l.length 0 e) (grownCap_le_maxLen _ _ _ _ (by simp only [maxLen];omega)) (fun c hc=> ?_) (fun c hc y hy=> ?_) (fun k j hk hj=> ?_) (fun k j hk hj=> ?_)
  ·simp only [yav] at hc;obtain ⟨b,_,rfl⟩:=hc;rfl
  ·simp only [yav] at hc;obtain ⟨b,_,rfl⟩:=hc
   simp only [ybh] at hy;subst hy;rfl
  ·obtain rfl:j=0:=by omega
   simp only [yc0] at hk
   refine ⟨.inr ⟨rfl,rfl,by show 0+(k*1+0)<l.length;omega⟩, ?_⟩
   have:=Lib.bytesWorld_cell w e ⟨l.toArray⟩ k (by simpa [ByteArray.size] using hk)
   simpa using this
  ·simp only [yc0] at hk
   simp only [yc2,ybf,ycz] at hj⊢
   obtain rfl:j=0:=by omega
   simp only [ycn]
   have e1:l.getD k 0=l[k]:=by simp [hk]
   rw [e1]
   exact .int _ _
 rw [yc0] at hir
 refine ⟨_,_,κ,Im',_,σ,.inl (by simp only [execOp,ho,hval,yay,hrun,yal,ya5]),h,.im _ _ hir, ?_,⟨fun _ _ _ h=>h,fun _ h=> .inl h,hc,fun ad h=> ?_, ?_⟩⟩
 ·refine hs.world (fun _ h=> .inl h) (fun ad h=> ?_) (by rw [Lib.bytesWorld_size];omega) hold
  rcases h with h|⟨h1,h2,_⟩
  ·exact .inl h
  ·exact .inr ⟨by omega,by rw [Lib.bytesWorld_size];omega,h2⟩
 ·rcases h with h|⟨h1,_⟩
  ·exact .inl h
  ·exact .inr (by rw [h1];exact hs.hb)
 ·exact (Lib.bytesWorld_below w e _).mono hs.hb
theorem z5w {o:Oper} {c:Call} {t e:TypeId} {x:Operand} {x':Opd} {i:TypeInfo} {z:List AV} {f:Frame} {a:Act} {K:AV→zac→Prop} {σ':zac} (ho:o.op=.call c) (hb:c.callee=.builtin .clear) (hts:c.argTypes.toList= [t]) (hargs:c.args.toList= [x]) (ht:P.underlying t=some (.slice e)) (hi:P.info? e=some i) (hz:zfl P e=some z)
  (hzl:z.length=i.size) (hpos:0<i.size) (hx:opd x=some x') (hs:SRel base κ Im σ w) (hf:FRel κ Im w f a) (hclr:zzT σ i.size z (x'.ev f)=some σ') (h:K (.tup []) σ'):zeB P base κ Im w o a K:=by
 obtain ⟨i',zv,hi',hzv,hm⟩:=zeW hz
 rw [hi] at hi';cases hi'
 obtain ⟨hzr,hzo,_⟩:=zbW (Im:=Im) (w:=w) hm
 have hzs:zv.cells.size=i.size:=by rw [←hzl,hzr.1];simp
 have hvx:=za2 (κ:=κ) (Im:=Im) (w:=w) hx hf
 have e1:c.argTypes= #[t]:=zbm hts
 have e2:c.args.map a.eval= #[a.eval x]:=by apply zbm;rw [yc4,hargs];rfl
 have hzero:(zeroValue e).run P w=.ok zv w:=by simp [zeroValue,typeInfo,hi,hzv]
 have hexec:∀w',(Builtin.clear_ #[t] o.type #[a.eval x]).run P w=.ok (.tuple #[]) w'→(execOp a.eval o).run P w=.ok (.value (.tuple #[])) w':=by
  intro w' hr
  simp only [execOp,ho,resolve,hb,yay,ya5,yal,invoke,builtin,e1,e2,hr]
 have htup:∀κ' Im' w',VR κ' Im' w' (.tup []) (.tuple #[]):=fun κ' Im' w'=> .tup [] [] rfl (fun j h=>by simp at h)
 have hnone:∀g c,a.eval x=.slice g 0 c→(Builtin.clear_ #[t] o.type #[a.eval x]).run P w=.ok (.tuple #[]) w:=by
  intro g c he
  cases g<;>simp [Builtin.clear_,he,run_underlying ht]
 have stay:∀g c,a.eval x=.slice g 0 c→σ'=σ→zeB P base κ Im w o a K:=by
  rintro g c he rfl
  exact ⟨_,w,κ,Im,_,_,.inl (hexec _ (hnone g c he)),h,htup _ _ _,hs,Grow.refl _ _ _ _⟩
 have core:∀(id ty lo hi' b cap c:Nat) (els:List (List AV)),σ[id]? =some (.row ty i.size els false)→κ id els.length=some (.slice (some ⟨b,0,none⟩) els.length cap)→lo≤hi'→hi'≤els.length→a.eval x=.slice (some ⟨b,lo*i.size,none⟩) (hi'-lo) c→lo<hi'→
   σ'=σ.set id (.row ty i.size (els.take lo++List.replicate (hi'-lo) z++els.drop hi') false)→zeB P base κ Im w o a K:=by
  intro id ty lo hh b cap c els hent hk h1 h2 hval hlt hσ
  obtain ⟨v,xs,hv,hown,hvr,_,hlens,hones,hir,him⟩:=hs.ent _ _ hent
  rw [hk] at hv;cases hv
  rcases hown.2 with ⟨h1',_⟩|⟨g,cap',cur,hvv,hbase,hheap,hlecap,hmax,hcur,htake⟩
  ·cases h1'
  simp only [Value.slice.injEq,yab,Addr.mk.injEq] at hvv
  obtain ⟨⟨rfl,_⟩,_,rfl⟩:=hvv
  obtain ⟨him1,him2⟩:=him b rfl
  have hzc:(Builtin.zeroCells zv.cells (hh-lo)).toList=(List.replicate (hh-lo) zv.cells.toList).flatten:=zgH zv.cells (by omega) (hh-lo)
  generalize hvs:(Builtin.zeroCells zv.cells (hh-lo)).toList=vs at*
  have hvl:VRL κ Im w (List.replicate (hh-lo) z).flatten vs:=by rw [hzc];exact (VRL.ofIR hzr).replicate _
  have hz1:∀c∈(List.replicate (hh-lo) z).flatten,c.one=true:=fun c hc=>by
   obtain ⟨l,hl,hcl⟩:=ybk.1 hc
   rw [(ybp.1 hl).2] at hcl
   exact hzo c hcl
  have hlenvs:vs.length=(hh-lo)*i.size:=by rw [←hvl.1];simp [hzl]
  have hm1:=yas i.size h1
  have hm2:=yas i.size h2
  have hm3:=yas i.size hlecap
  have hsub:(hh-lo)*i.size=hh*i.size-lo*i.size:=Nat.sub_mul _ _ _
  have hend:lo*i.size+vs.length=hh*i.size:=by omega
  have hthere:=zeM (off:=lo*i.size) (n:=vs.length) hheap (by omega)
  have hst:=run_storeCells_cells (P:=P) b (lo*i.size) vs 0 w (fun j hj=>by simpa using (hthere j hj).1) (fun j hj=>by simpa using (hthere j hj).2) (zeT hvl hz1)
  rw [ycb] at hst
  have hrun:(Builtin.clear_ #[t] o.type #[a.eval x]).run P w=.ok (.tuple #[]) (w.setCells b (lo*i.size) vs):=by
   obtain ⟨n1,hn1⟩:∃n1,hh-lo=n1+1:=⟨hh-lo-1,by omega⟩
   have hvs':(Builtin.zeroCells zv.cells (n1+1)).toList=vs:=by rw [←hvs,hn1]
   rw [hval,hn1]
   simp [Builtin.clear_,run_underlying ht,hzero,hvs',hst]
  obtain ⟨cs',g1,g2,g3,g4,g5,g6,g7⟩:=zb8 b vs (lo*i.size) w cur ty hheap (by omega)
  have hcell:∀ad,Im ad→(w.setCells b (lo*i.size) vs).cell? ad=w.cell? ad:=by
   intro ad hIm
   by_cases hab:ad.block=b
   ·exact absurd (him1 ad hIm hab).1 (by simp)
   ·exact ya8 (g3 _ hab)
  have hlen':(els.take lo++List.replicate (hh-lo) z++els.drop hh).length=els.length:=by simp;omega
  have hblk:(Entry.row ty i.size els false).block κ id=some b:=by simp [Entry.block,hk,Value.ownBlock]
  have hblk':(Entry.row ty i.size (els.take lo++List.replicate (hh-lo) z++els.drop hh) false).block κ id=some b:=by simp only [Entry.block,hlen',hk,ydr,Value.ownBlock]
  refine ⟨_,_,κ,Im,_,σ',.inl (hexec _ hrun),h,htup _ _ _, ?_,⟨fun _ _ _ h=>h,fun _ h=>h,hcell,fun _ h=> .inl h,⟨g5,g6,g7,by omega,fun k hk'=>g3 k (by omega)⟩⟩⟩
  rw [hσ]
  have hxs:xs=cur.toList.take (els.length*i.size):=htake.symm
  have hnew:cs'.toList.take (els.length*i.size)=xs.take (lo*i.size)++vs++xs.drop (lo*i.size+vs.length):=by
   rw [g2,hxs]
   have hA:(cur.toList.take (lo*i.size)).length=lo*i.size:=by rw [yan];simp;omega
   rw [ya3,yc3,yao (by omega),yc3,yao (l:=vs) (by omega),hA]
   rw [yd4,List.drop_take]
   rw [ybt (by omega)]
   rw [ya3]
   congr 3
   omega
  have hflat:(els.take lo++List.replicate (hh-lo) z++els.drop hh).flatten=splice els.flatten (lo*i.size) (List.replicate (hh-lo) z).flatten:=by
   have hq:(List.replicate (hh-lo) z).flatten.length=vs.length:=hvl.1
   simp only [splice,ycd,zcz _ _ hlens,zdE _ _ hlens,hq,hend]
  refine hs.set hent _ (fun _ _ _ h=>h) (fun _ _ _ h=> .inl h) (by simp only [Entry.ver,hlen',yaq]) (fun _ h=>h) hcell (fun _ h=> .inl h) (by omega) (fun k _ hk'=>g3 k (fun he=>hk' (by rw [he];exact hblk))) ?_ (fun b' hb'=> .inr (by rw [hblk'] at hb';rw [hblk];exact hb'))
  refine ⟨_,cs'.toList.take (els.length*i.size),by rw [hlen'];exact hk,⟨?_,.inr ⟨b,cap,cs',by rw [hlen'],hbase,g1,by rw [hlen'];exact hlecap,hmax, ?_,by rw [hlen']⟩⟩, ?_,hpos, ?_, ?_,fun h=>by simp at h,fun g hg=> ?_⟩
  ·rw [hlen',yan]
   have:=congrArg List.length g2
   simp only [yag,yan,ya2,ya4] at this
   simp only [ya4];omega
  ·have:=congrArg List.length g2
   simp only [yag,yan,ya2,ya4] at this
   omega
  ·rw [hflat,hnew]
   have:=VRL.splice (lo*i.size) hvr hvl
   exact ⟨this.1,fun j h h'=>(this.2 j h h').mono (fun _ _ _ h=>h) (fun _ h=>h) hcell⟩
  ·intro c' hc'
   simp only [yai] at hc'
   rcases hc' with (hc'|hc')|hc'
   ·exact hlens _ (yak hc')
   ·rw [(ybp.1 hc').2,hzl]
   ·exact hlens _ (yau hc')
  ·intro c' hc' y hy
   simp only [yai] at hc'
   rcases hc' with (hc'|hc')|hc'
   ·exact hones _ (yak hc') y hy
   ·rw [(ybp.1 hc').2] at hy;exact hzo y hy
   ·exact hones _ (yau hc') y hy
  ·rw [hlen'];exact him g hg
 unfold zzT at hclr
 split at hclr
 ·rename_i he
  rw [he] at hvx
  simp only [yab] at hclr
  exact stay _ _ hvx.nils_inv hclr.symm
 ·rename_i he
  rw [he] at hvx
  simp only [yab] at hclr
  rcases hvx.lst_inv with ⟨⟨g,hv⟩,_⟩|⟨size,b,o,cap,vals,hv,_⟩
  ·exact stay _ _ hv hclr.symm
  ·exact stay _ _ hv hclr.symm
 ·rename_i id n he
  rw [he] at hvx
  split at hclr
  case h_2=>cases hclr
  rename_i ty size' els hent
  split at hclr
  case isFalse=>cases hclr
  rename_i hcond
  obtain ⟨hn,hsz⟩:=hcond
  simp only [yab] at hclr
  subst hn;subst hsz
  obtain ⟨g,cap,hv,hk⟩:=hvx.row_inv
  by_cases h0:els.length=0
  ·have:els= []:=yap h0
   subst this
   refine stay g cap (by simpa using hv) ?_
   rw [←hclr]
   obtain ⟨hlt,hee⟩:=yaa.1 hent
   simp only [ycz,List.replicate_zero]
   rw [←hee,ycr]
  ·obtain ⟨v,xs,hv',hown,_⟩:=hs.ent _ _ hent
   rw [hk] at hv';cases hv'
   rw [hv] at hk hown
   rcases hown.2 with ⟨_,q2⟩|⟨g',cap',cur,q1,_⟩
   ·omega
   ·simp only [Value.slice.injEq] at q1
    obtain ⟨rfl,_,rfl⟩:=q1
    refine core id ty 0 els.length g' cap cap els hent hk (ydk _) (yaq _) (by simpa using hv) (by omega) ?_
    rw [←hclr];simp
 ·rename_i id n sz lo hh he
  rw [he] at hvx
  split at hclr
  case h_2=>cases hclr
  rename_i ty size' els hent
  split at hclr
  case isFalse=>cases hclr
  rename_i hcond
  obtain ⟨hn,hsz,hsz2,k1,k2⟩:=hcond
  simp only [yab] at hclr
  subst hn;subst hsz;subst hsz2
  obtain ⟨b,cap,ad,c',hv,hk,_,_,k3,k4,_⟩:=hvx.sub_inv
  by_cases h0:lo=hh
  ·subst h0
   refine stay _ c' (by simpa using hv) ?_
   rw [←hclr]
   obtain ⟨hlt,hee⟩:=yaa.1 hent
   simp only [ycx,List.replicate_zero,yby,ya9]
   rw [←hee,ycr]
  ·have hlt:lo<hh:=by omega
   rw [k3 hlt] at hv
   exact core id ty lo hh b cap c' els hent hk k1 k2 hv hlt hclr.symm
 ·cases hclr
theorem z6D {o:Oper} {c:Call} {t s e:TypeId} {x y:Operand} {x' y':Opd} {i:TypeInfo} {f:Frame} {a:Act} {K:AV→zac→Prop} {σ':zac} {m:List (List AV)} {k:Nat} (ho:o.op=.call c) (hb:c.callee=.builtin .copy) (hts:c.argTypes.toList= [t,s]) (hargs:c.args.toList= [x,y]) (ht:P.underlying t=some (.slice e)) (hi:P.info? e=some i)
  (hpos:0<i.size) (hx:opd x=some x') (hy:opd y=some y') (hs:SRel base κ Im σ w) (hf:FRel κ Im w f a) (hm:view σ (y'.ev f)=some m) (hml:∀c∈m,c.length=i.size) (hcpy:zvh σ i.size m (x'.ev f)=some (σ',k)) (h:K (.int .i64 (k:Nat)) σ'):zeB P base κ Im w o a K:=by
 have hvx:=za2 (κ:=κ) (Im:=Im) (w:=w) hx hf
 have hvy:=za2 (κ:=κ) (Im:=Im) (w:=w) hy hf
 have e1:c.argTypes= #[t,s]:=zbm hts
 have e2:c.args.map a.eval= #[a.eval x,a.eval y]:=by apply zbm;rw [yc4,hargs];rfl
 have hexec:∀v' w',(Builtin.copy_ #[t,s] o.type #[a.eval x,a.eval y]).run P w=.ok v' w'→(execOp a.eval o).run P w=.ok (.value v') w':=by
  intro v' w' hr
  simp only [execOp,ho,resolve,hb,yay,ya5,yal,invoke,builtin,e1,e2,hr]
 have hsz:(sizeOf e).run P w=.ok i.size w:=by simp [sizeOf,typeInfo,hi]
 -- what is read
 obtain ⟨g,c',news,hvy',hnl,hcells,hnv,hones⟩:∃g c' news,a.eval y=.slice g m.length c'∧news.length=m.length*i.size∧(∀ad,g=some ad→∀j u,news[j]? =some u→w.cell? (ad.add j)=some u)∧(VRL κ Im w m.flatten news∧(g=none→m= []))∧(∀c∈m,∀v∈c,v.one=true):=by
  rcases zh4 hs hvy hm hml hpos with ⟨h1,rfl⟩|⟨ad,c',news,h1,h2,h3,h4,h5,_⟩
  ·exact ⟨none,0,[],h1,by simp,fun ad h=>by simp at h,⟨⟨rfl,fun j h=>by simp at h⟩,fun _=>rfl⟩,by simp⟩
  ·exact ⟨some ad,c',news,h1,h2,fun ad' h=>by simp only [yab] at h;subst h;exact h3,⟨h4,fun h=>by simp at h⟩,h5⟩
 obtain ⟨hnv,hgn⟩:=hnv
 have hread:∀n,n≤m.length→∃arr:Array Value,(Builtin.firstCells i.size n (a.eval y)).run P w=.ok arr w∧arr.toList=news.take (n*i.size):=by
  intro n hn
  have hle:=yas i.size hn
  cases g with
  |none=>
   have hm0:=hgn rfl
   subst hm0
   have:n=0:=by simpa using hn
   subst this
   exact ⟨#[],by rw [hvy'];exact run_firstCells_none _ _ _ _ _,by simp⟩
  |some ad=>
   have hr:=run_firstCells_some (P:=P) (w:=w) i.size n ad m.length c' (news.take (n*i.size)) (by rw [yan];omega) (fun j v hj=>by
    rw [ybo] at hj
    split at hj
    ·exact hcells ad rfl j v hj
    ·cases hj)
   exact ⟨_,by rw [hvy'];exact hr,by simp⟩
 have stay:∀g c,a.eval x=.slice g 0 c→σ'=σ→k=0→zeB P base κ Im w o a K:=by
  rintro g0 c0 he rfl rfl
  obtain ⟨arr,hr,ha⟩:=hread 0 (ydk _)
  have ha0:arr= #[]:=by apply Array.toList_inj.1;simpa using ha
  subst ha0
  refine ⟨_,w,κ,Im,_,_,.inl (hexec (goInt 0) _ ?_),h,.im _ _ (.int _ _),hs,Grow.refl _ _ _ _⟩
  rw [hvy'] at hr⊢
  rw [he]
  cases g0<;>simp [Builtin.copy_,run_underlying ht,Builtin.lenOf,hsz,hr,storeCells]
 have core:∀(id ty lo d b cap c:Nat) (els:List (List AV)),σ[id]? =some (.row ty i.size els false)→κ id els.length=some (.slice (some ⟨b,0,none⟩) els.length cap)→lo+d≤els.length→a.eval x=.slice (some ⟨b,lo*i.size,none⟩) d c→
   σ'=σ.set id (.row ty i.size (els.take lo++m.take d++els.drop (lo+min m.length d)) false)→k=min m.length d→zeB P base κ Im w o a K:=by
  intro id ty lo d b cap c els hent hk h1 hval hσ hkk
  obtain ⟨v,xs,hv,hown,hvr,_,hlens,hones1,hir,him⟩:=hs.ent _ _ hent
  rw [hk] at hv;cases hv
  rcases hown.2 with ⟨h1',_⟩|⟨g',cap',cur,hvv,hbase,hheap,hlecap,hmax,hcur,htake⟩
  ·cases h1'
  simp only [Value.slice.injEq,yab,Addr.mk.injEq] at hvv
  obtain ⟨⟨rfl,_⟩,_,rfl⟩:=hvv
  obtain ⟨him1,him2⟩:=him b rfl
  have hkd:k≤d:=by omega
  have hkm:k≤m.length:=by omega
  obtain ⟨arr,hr,harr⟩:=hread k hkm
  have htk:m.take d=m.take k:=by
   rw [hkk]
   rcases Nat.le_total m.length d with hh|hh
   ·rw [ybt hh,yao hh,yao (yaq _)]
   ·rw [Nat.min_eq_right hh]
  obtain ⟨L,hL⟩:∃L,L=m.take k:=⟨_,rfl⟩
  have hLl:L.length=k:=by rw [hL,yan];omega
  have hLm:∀c∈L,c∈m:=fun c hc=>yak (by rw [hL] at hc;exact hc)
  obtain ⟨vs,hvs⟩:∃vs,vs=news.take (k*i.size):=⟨_,rfl⟩
  have hflk:m.flatten.take (k*i.size)=L.flatten:=by rw [hL,zcz _ _ hml]
  have hvl:VRL κ Im w L.flatten vs:=by
   rw [←hflk,hvs]
   refine ⟨by rw [yan,yan,hnv.1],fun j hj hj'=> ?_⟩
   rw [yb7,yb7]
   exact hnv.2 j _ _
  have hz1:∀c∈L.flatten,c.one=true:=fun c hc=>by
   obtain ⟨l,hl,hcl⟩:=ybk.1 hc
   exact hones l (hLm l hl) c hcl
  have hlenvs:vs.length=k*i.size:=by
   rw [hvs,yan,hnl]
   have:=yas i.size hkm
   omega
  have hm1:=yas i.size (show lo+k≤els.length by omega)
  rw [ya6] at hm1
  have hm3:=yas i.size hlecap
  have hthere:=zeM (off:=lo*i.size) (n:=vs.length) hheap (by omega)
  have hst:=run_storeCells_cells (P:=P) b (lo*i.size) vs 0 w (fun j hj=>by simpa using (hthere j hj).1) (fun j hj=>by simpa using (hthere j hj).2) (zeT hvl hz1)
  rw [ycb] at hst
  have hrun:(Builtin.copy_ #[t,s] o.type #[a.eval x,a.eval y]).run P w=.ok (goInt k) (w.setCells b (lo*i.size) vs):=by
   have hmin:Nat.min m.length d=k:=hkk.symm
   rw [hvy'] at hr⊢
   rw [hval]
   simp [Builtin.copy_,run_underlying ht,Builtin.lenOf,hmin,hsz,hr,harr,←hvs,hst]
  obtain ⟨cs',g1,g2,g3,g4,g5,g6,g7⟩:=zb8 b vs (lo*i.size) w cur ty hheap (by omega)
  have hcell:∀ad,Im ad→(w.setCells b (lo*i.size) vs).cell? ad=w.cell? ad:=by
   intro ad hIm
   by_cases hab:ad.block=b
   ·exact absurd (him1 ad hIm hab).1 (by simp)
   ·exact ya8 (g3 _ hab)
  obtain ⟨E,hE⟩:∃E,E=els.take lo++L++els.drop (lo+k):=⟨_,rfl⟩
  have hσ2:σ'=σ.set id (.row ty i.size E false):=by rw [hσ,hE,hL,htk,←hkk]
  have hlen':E.length=els.length:=by rw [hE];simp [hLl];omega
  have hblk:(Entry.row ty i.size els false).block κ id=some b:=by simp [Entry.block,hk,Value.ownBlock]
  have hblk':(Entry.row ty i.size E false).block κ id=some b:=by simp only [Entry.block,hlen',hk,ydr,Value.ownBlock]
  refine ⟨_,_,κ,Im,_,σ',.inl (hexec _ _ hrun),h,.im _ _ (.int _ _), ?_,⟨fun _ _ _ h=>h,fun _ h=>h,hcell,fun _ h=> .inl h,⟨g5,g6,g7,by omega,fun k hk'=>g3 k (by omega)⟩⟩⟩
  rw [hσ2]
  have hxs:xs=cur.toList.take (els.length*i.size):=htake.symm
  have hnew:cs'.toList.take (els.length*i.size)=xs.take (lo*i.size)++vs++xs.drop (lo*i.size+vs.length):=by
   rw [g2,hxs]
   have hA:(cur.toList.take (lo*i.size)).length=lo*i.size:=by rw [yan];simp;omega
   rw [ya3,yc3,yao (by omega),yc3,yao (l:=vs) (by omega),hA]
   rw [yd4,List.drop_take]
   rw [ybt (by omega)]
   rw [ya3]
   congr 3
   omega
  have hflat:E.flatten=splice els.flatten (lo*i.size) L.flatten:=by
   have hq:L.flatten.length=vs.length:=hvl.1
   have hend:lo*i.size+vs.length=(lo+k)*i.size:=by rw [hlenvs,ya6]
   rw [hE]
   simp only [splice,ycd,zcz _ _ hlens,zdE _ _ hlens,hq,hend]
  refine hs.set hent _ (fun _ _ _ h=>h) (fun _ _ _ h=> .inl h) (by simp only [Entry.ver,hlen',yaq]) (fun _ h=>h) hcell (fun _ h=> .inl h) (by omega) (fun k _ hk'=>g3 k (fun he=>hk' (by rw [he];exact hblk))) ?_ (fun b' hb'=> .inr (by rw [hblk'] at hb';rw [hblk];exact hb'))
  refine ⟨_,cs'.toList.take (els.length*i.size),by rw [hlen'];exact hk,⟨?_,.inr ⟨b,cap,cs',by rw [hlen'],hbase,g1,by rw [hlen'];exact hlecap,hmax, ?_,by rw [hlen']⟩⟩, ?_,hpos, ?_, ?_,fun h=>by simp at h,fun g hg=> ?_⟩
  ·rw [hlen',yan]
   have:=congrArg List.length g2
   simp only [yag,yan,ya2,ya4] at this
   simp only [ya4];omega
  ·have:=congrArg List.length g2
   simp only [yag,yan,ya2,ya4] at this
   omega
  ·rw [hflat,hnew]
   have:=VRL.splice (lo*i.size) hvr hvl
   exact ⟨this.1,fun j h h'=>(this.2 j h h').mono (fun _ _ _ h=>h) (fun _ h=>h) hcell⟩
  ·intro c' hc'
   rw [hE] at hc'
   simp only [yai] at hc'
   rcases hc' with (hc'|hc')|hc'
   ·exact hlens _ (yak hc')
   ·exact hml _ (hLm _ hc')
   ·exact hlens _ (yau hc')
  ·intro c' hc' y hy
   rw [hE] at hc'
   simp only [yai] at hc'
   rcases hc' with (hc'|hc')|hc'
   ·exact hones1 _ (yak hc') y hy
   ·exact hones _ (hLm _ hc') y hy
   ·exact hones1 _ (yau hc') y hy
  ·rw [hlen'];exact him g hg
 unfold zvh at hcpy
 split at hcpy
 ·rename_i he
  rw [he] at hvx
  simp only [yab,Prod.mk.injEq] at hcpy
  exact stay _ _ hvx.nils_inv hcpy.1.symm hcpy.2.symm
 ·rename_i he
  rw [he] at hvx
  simp only [yab,Prod.mk.injEq] at hcpy
  rcases hvx.lst_inv with ⟨⟨g,hv⟩,_⟩|⟨size,b,o,cap,vals,hv,_⟩
  ·exact stay _ _ hv hcpy.1.symm hcpy.2.symm
  ·exact stay _ _ hv hcpy.1.symm hcpy.2.symm
 ·rename_i id n he
  rw [he] at hvx
  split at hcpy
  case h_2=>cases hcpy
  rename_i ty size' els hent
  split at hcpy
  case isFalse=>cases hcpy
  rename_i hcond
  obtain ⟨hn,hsz'⟩:=hcond
  simp only [yab,Prod.mk.injEq] at hcpy
  subst hn;subst hsz'
  obtain ⟨g,cap,hv,hk⟩:=hvx.row_inv
  by_cases h0:els.length=0
  ·have:els= []:=yap h0
   subst this
   refine stay g cap (by simpa using hv) ?_ (by rw [←hcpy.2];simp)
   rw [←hcpy.1]
   obtain ⟨hlt,hee⟩:=yaa.1 hent
   simp only [ycz,List.take_zero,List.drop_nil,yby]
   rw [←hee,ycr]
  ·obtain ⟨v,xs,hv',hown,_⟩:=hs.ent _ _ hent
   rw [hk] at hv';cases hv'
   rw [hv] at hk hown
   rcases hown.2 with ⟨_,q2⟩|⟨g',cap',cur,q1,_⟩
   ·omega
   ·simp only [Value.slice.injEq] at q1
    obtain ⟨rfl,_,rfl⟩:=q1
    refine core id ty 0 els.length g' cap cap els hent hk (by omega) (by simpa using hv) ?_ hcpy.2.symm
    rw [←hcpy.1];simp
 ·rename_i id n sz lo hh he
  rw [he] at hvx
  split at hcpy
  case h_2=>cases hcpy
  rename_i ty size' els hent
  split at hcpy
  case isFalse=>cases hcpy
  rename_i hcond
  obtain ⟨hn,hsz',hsz2,k1,k2⟩:=hcond
  simp only [yab,Prod.mk.injEq] at hcpy
  subst hn;subst hsz';subst hsz2
  obtain ⟨b,cap,ad,c',hv,hk,_,_,k3,k4,_⟩:=hvx.sub_inv
  by_cases h0:lo=hh
  ·subst h0
   refine stay _ c' (by simpa using hv) ?_ (by rw [←hcpy.2];simp)
   rw [←hcpy.1]
   obtain ⟨hlt,hee⟩:=yaa.1 hent
   simp only [ycx,List.take_zero,yby,Nat.min_zero,ycb,ya9]
   rw [←hee,ycr]
  ·have hlt:lo<hh:=by omega
   rw [k3 hlt] at hv
   exact core id ty lo (hh-lo) b cap c' els hent hk (by omega) hv hcpy.1.symm hcpy.2.symm
 ·cases hcpy
end
end Go.Abs
end
section
namespace Go.Abs
open Go.RowKit
variable {G:Globs}
section
variable {P:Program} {base:Nat} {κ:Key} {Im:Addr→Prop} {w:World} {σ:zac}
def Lent (w:World) (Im:Addr→Prop) (lend:Bool):Addr→Prop:=fun a=>if lend then a.block<w.heap.size∧a.spot=none else Im a
theorem Lent.of (hs:SRel base κ Im σ w) (lend:Bool) (a:Addr) (h:Im a):Lent w Im lend a:=by
 unfold Lent;split
 ·exact hs.imlt a h
 ·exact h
theorem z8m (hs:SRel base κ Im σ w) {lend:Bool} {X Y:AV} (h:Coe σ lend X Y):∀{x:Value},VR κ Im w X x→IR (Lent w Im lend) w Y x:=by
 induction h with
 |pure a hp=>intro x hx;exact (hx.pure hp).mono (Lent.of hs lend) (fun _ _=>rfl)
 |nils=>intro x hx;cases hx.nils_inv;exact .lnil _
 |row id n e size els im hent hn hp=>
  intro x hx
  obtain ⟨g,cap,rfl,hk⟩:=hx.row_inv
  subst hn
  cases im with
  |true=>exact (zmn hs hent hk).mono (Lent.of hs lend) (fun _ _=>rfl)
  |false=>
   rcases hp with hp|⟨hl,hp⟩
   ·cases hp
   subst hl
   obtain ⟨v',xs,hv',hown,hvr,hsz,hlen,hone,_,_⟩:=hs.ent _ _ hent
   rw [hk] at hv';cases hv'
   rcases hown.2 with ⟨h1,h2⟩|⟨b,cap',cur,h1,hg,hh,hle,hmax,hcs,htake⟩
   ·have:els= []:=yap h2
    subst this
    simp only [Value.slice.injEq] at h1
    obtain ⟨rfl,_,rfl⟩:=h1
    exact .lnil _
   ·simp only [Value.slice.injEq] at h1
    obtain ⟨rfl,_,rfl⟩:=h1
    have hcell:=hown.cells (g:=b) rfl
    have hfl:els.flatten.length=els.length*size:=by rw [hvr.1,hown.1]
    have hblt:b<w.heap.size:=(ya7.1 hh).1
    refine .lst els size b 0 cap (fun k j=>xs.getD (k*size+j) undef) hle hmax hlen hone (fun k j hk hj=> ?_) (fun k j hk hj=> ?_)
    ·have hlt:k*size+j<els.length*size:=by
      have:(k+1)*size≤els.length*size:=yas _ hk
      rw [ya6] at this;omega
     rw [ybe]
     have hlt':k*size+j<xs.length:=by rw [hown.1];exact hlt
     refine ⟨by unfold Lent;rw [if_pos rfl];exact ⟨hblt,rfl⟩, ?_⟩
     have:=hcell (k*size+j) _ (yad hlt')
     rw [Addr.add_mid,ybe] at this
     rw [this];simp [hlt']
    ·have hcl:=hlen _ (yat hk)
     obtain ⟨_,_,h3,h5⟩:=zf8 els k j hlen hk (by omega)
     have hlt':k*size+j<xs.length:=by rw [hvr.1] at h3;exact h3
     have hv:=hvr.2 (k*size+j) h3 hlt'
     rw [h5] at hv
     have e:xs.getD (k*size+j) undef=xs[k*size+j]:=by simp [hlt']
     simp only [e]
     exact (hv.pure (hp _ (yat hk) _ (yat hj))).mono (Lent.of hs true) (fun _ _=>rfl)
 |ptr id off t cells cells' hent hl hoff hlen hp hone ih=>
  intro x hx
  subst hl
  obtain ⟨b,rfl,hk⟩:=hx.ptr_inv
  obtain ⟨b',cs,hk',hb,hheap,hvr,_,_⟩:=hs.ent _ _ hent
  rw [hk] at hk';cases hk'
  have hblt:b<w.heap.size:=(ya7.1 hheap).1
  have hcl:cells.length=cs.toList.length:=hvr.1
  have:=zlh (Im:=Lent w Im true) (w:=w) (l:=cells') (b:=b) (o:=0) (vals:=fun j=>cs.toList.getD j undef) hone (fun j hj=>by
   rw [ybe]
   refine ⟨by unfold Lent;rw [if_pos rfl];exact ⟨hblt,rfl⟩, ?_⟩
   rw [cell_of_row w b j cs t (0,0) hheap]
   have:j<cs.size:=by rw [hlen] at hj;simp at hcl;omega
   simp [this]) (fun j hj=>by
   have h1:j<cells.length:=by omega
   have h2:j<cs.toList.length:=by omega
   have e:cs.toList.getD j undef=cs.toList[j]:=by simp at h2;simp [h2]
   rw [e]
   exact ih j h1 hj (hvr.2 j h1 h2)) off
  rwa [ybe] at this
 |fn f l l' m m' h1 h2 hl hm ihl ihm=>
  intro x hx
  obtain ⟨vs,us,rfl,hvs,hus⟩:=hx.fn_inv
  exact .fn _ _ _ _ _ (by rw [←h1,hvs.1]) (by rw [←h2,hus.1]) (fun j hj hj'=>ihl j (by omega) hj (hvs.2 j (by omega) hj')) (fun j hj hj'=>ihm j (by omega) hj (hus.2 j (by omega) hj'))
 |agg l l' h1 hone hl ih=>
  intro x hx
  obtain ⟨vs,rfl,hvs,_⟩:=hx.agg_inv
  exact .agg _ _ hone (by rw [←h1,hvs.1]) (fun j hj hj'=>ih j (by omega) hj (hvs.2 j (by omega) hj'))
theorem z6E (hs:SRel base κ Im σ w) {lend:Bool} {l m:List AV} (h:CoeL σ lend l m):∀{vs:List Value},VRL κ Im w l vs→IRL (Lent w Im lend) w m vs:=by
 induction h with
 |nil=>intro vs hv;exact ⟨hv.1,fun j h=>by simp at h⟩
 | @cons a b l m h hl ih=>
  intro vs hv
  match vs,hv.1 with
  |v::vs,_=>
   have h1:=z8m hs h (hv.2 0 (by simp) (by simp))
   have h2:=ih (vs:=vs) ⟨by simpa using hv.1,fun j hj hj'=>hv.2 (j+1) (by simpa using hj) (by simpa using hj')⟩
   refine ⟨by simp [h2.1],fun j hj hj'=> ?_⟩
   cases j with
   |zero=>exact h1
   |succ j=>exact h2.2 j (by simpa using hj) (by simpa using hj')
theorem VR.none_key {κ':Key} (hk:∀i n v,κ' i n=some v→False) {a:AV} {v:Value} (h:VR κ' Im w a v):IR Im w a v:=by
 have e:κ'=fun _ _=>none:=by
  funext i n
  cases hh:κ' i n with
  |none=>rfl
  |some v=>exact (hk _ _ _ hh).elim
 subst e
 exact h.empty
theorem z8i {Im':Addr→Prop} {w':World} {r:AV} {v:Value} (h:IR Im w r v) (hr:rig r=true):IR Im' w' r v:=by
 induction h with
 |junk v=>simp [rig] at hr
 |int k n=>exact .int k n
 |bool b=>exact .bool b
 |str s=>exact .str s
 |flt k b=>exact .flt k b
 |nilp=>exact .nilp
 |rptr=>simp [rig] at hr
 |nils=>simp [rig] at hr
 |lnil _=>simp [rig] at hr
 |lst=>simp [rig] at hr
 |nilm=>exact .nilm
 |fn=>simp [rig] at hr
 |nilf=>exact .nilf
 |iface t a v h ih=>exact .iface t a v (ih (by simpa [rig] using hr))
 |nili=>exact .nili
 |agg cells vs hone h1 hv ih=>
  simp [rig] at hr
  exact .agg cells vs hone h1 fun j h h'=>ih j h h' (hr _ (yat h))
 |tup cells vs h1 hv ih=>
  simp [rig] at hr
  exact .tup cells vs h1 fun j h h'=>ih j h h' (hr _ (yat h))
 |any v=>exact .any v
 |gp g off=>exact .gp g off
 |tight l g h ih=>simp [rig] at hr
theorem zxp {f:FuncId} {args args':List AV} {R:AV→Prop} {vs:List Value} {lend:Bool} (hs:SRel base κ Im σ w) (hc:CoeL σ lend args args') (hp:PCalls P f args' R) (hv:VRL κ Im w args vs):
  Calls P f vs.toArray w fun e w'=>∃r v Im',e=.returned v∧R r∧IR Im' w' r v∧(∀a,Lent w Im lend a→Im' a)∧(∀a,Im' a→Lent w Im lend a∨(w.heap.size≤a.block∧a.block<w'.heap.size∧a.spot=none))∧Below w.heap.size w w':=by
 have hir:=z6E hs hc hv
 have hs0:SRel w.heap.size (fun _ _=>none) (Lent w Im lend) [] w:=⟨yaq _,fun _ _ _ h=>by simp at h,fun _ _ h=>by simp at h,fun _ _ _ _ _ _ h=>by simp at h,fun a h=>by
  unfold Lent at h;split at h
  ·exact h
  ·exact hs.imlt a h,hs.glob.mono hs.hb (Lent.of hs lend) (fun _ _=>rfl) (fun _ _=>rfl)⟩
 refine (hp w.heap.size (fun _ _=>none) (Lent w Im lend) w vs hs0 ⟨hir.1,fun j h h'=> .im _ _ (hir.2 j h h')⟩).mono ?_
 rintro e w' ⟨r,σ',v,κ',Im',rfl,⟨rfl,hR⟩,hs',hg,hvr⟩
 refine ⟨r,v,Im',rfl,hR,hvr.none_key (fun i n u h=>by obtain ⟨e,h1,_⟩:=hs'.dom _ _ _ h;simp at h1),hg.im,fun a h=> ?_,hg.below⟩
 rcases hg.new a h with h'|h'
 ·exact .inl h'
 ·exact .inr ⟨h',(hs'.imlt a h).1,(hs'.imlt a h).2⟩
theorem zrq {f:FuncId} {args:List AV} {K:AV→zac→Prop} {vs:List Value} (hs:SRel base κ Im σ w) (hv:VRL κ Im w args vs) (h:zsp P σ K f args):
  Calls P f vs.toArray w fun e w'=>∃r σ' v κ' Im',e=.returned v∧K r σ'∧SRel base κ' Im' σ' w'∧Grow base κ Im w κ' Im' w'∧VR κ' Im' w' r v:=by
 rcases h with ⟨args',R,hc,hp,hR⟩|⟨args',R,hc,hp,hR⟩|h
 ·refine (zxp hs hc hp hv).mono ?_
  rintro e w' ⟨r,v,Im',rfl,hr,hir,h1,h2,h3⟩
  have h1':∀a,Im a→Im' a:=fun a ha=>h1 a (by unfold Lent;simpa using ha)
  have h2':∀a,Im' a→Im a∨(w.heap.size≤a.block∧a.block<w'.heap.size∧a.spot=none):=fun a ha=>(h2 a ha).imp (fun h=>by unfold Lent at h;simpa using h) id
  refine ⟨r,σ,v,κ,Im',rfl,hR r hr,hs.world h1' h2' h3.size h3.block,⟨fun _ _ _ h=>h,h1',fun a ha=>ya8 (h3.block _ (hs.imlt a ha).1),fun a ha=>(h2' a ha).imp id (fun h=>yca hs.hb h.1),h3.mono hs.hb⟩,.im _ _ hir⟩
 ·refine (zxp hs hc hp hv).mono ?_
  rintro e w' ⟨r,v,Im',rfl,hr,hir,h1,h2,h3⟩
  obtain ⟨hrig,hK⟩:=hR r hr
  refine ⟨r,σ,v,κ,Im,rfl,hK,hs.world (fun _ h=>h) (fun _ h=> .inl h) h3.size h3.block,⟨fun _ _ _ h=>h,fun _ h=>h,fun a ha=>ya8 (h3.block _ (hs.imlt a ha).1),fun _ h=> .inl h,h3.mono hs.hb⟩,.im _ _ (z8i hir hrig)⟩
 ·exact h base κ Im w vs hs hv
theorem zo6 {f:FuncId} (h:zaJ P f=true) (args:Array Value) (w:World):(callFunc f args).run P w=.ok (.enter f args) w:=by
 unfold zaJ at h
 split at h
 ·rename_i fn hf
  simp only [yb3,bne_iff_ne,ne_eq] at h
  obtain ⟨c,hb⟩:=Option.isSome_iff_exists.1 h.1
  simp [callFunc,hf,h.2,hb]
 ·cases h
theorem zou {f:FuncId} {args:List AV} {K:AV→zac→Prop} (h:ztD P σ K f args):zsp P σ K f args:=by
 obtain ⟨lend,args',r,hc,hp,hr,hK⟩:=h
 cases lend with
 |true=>exact .inr (.inl ⟨args',fun r'=>r'=r,hc,hp,fun r' h=>by subst h;exact ⟨hr rfl,hK⟩⟩)
 |false=>exact .inl ⟨args',fun r'=>r'=r,hc,hp,fun r' h=>by subst h;exact hK⟩
theorem zqV {loud:List FuncId} {K:AV→zac→Prop} {f:Frame} {ao:AOp} (h:za0 P K f σ (zrr loud ao)):za0 P K f σ ao:=by
 cases ao<;>try exact h
 case call g args=>
  simp only [zrr] at h
  split at h
  ·exact h
  ·exact zou h
 case callv x args=>
  simp only [zrr,za0] at h⊢
  split
  ·rename_i g first captured he
   rw [he] at h
   exact ⟨h.1,zou h.2⟩
  ·rename_i hne
   split at h
   ·rename_i g first captured he
    exact absurd he (hne _ _ _)
   ·exact h
theorem zmp {o:Oper} {ao:AOp} {f:Frame} {a:Act} {K:AV→zac→Prop} {next:Act→World→Prop} {Q:Exit→Act→World→Prop} (hok:∀r,za3 σ f ao=some r→zig P κ Im w o a r) (hs:SRel base κ Im σ w) (hf:FRel κ Im w f a)
  (h:∃r,za3 σ f ao=some r∧K r σ)
  (hnext:∀r σ' κ' Im' v w',K r σ'→VR κ' Im' w' r v→SRel base κ' Im' σ' w'→Grow base κ Im w κ' Im' w'→next (a.put o.dst v) w'):o.wp P a w next Q:=by
 obtain ⟨r,hr,hK⟩:=h
 obtain ⟨v,hrun,hv⟩:=hok _ hr
 unfold Oper.wp
 rw [hrun]
 exact hnext r σ κ Im v w hK hv hs (Grow.refl _ _ _ _)
theorem zbw {o:Oper} {a:Act} {K:AV→zac→Prop} {next:Act→World→Prop} {Q:Exit→Act→World→Prop} (h:zeB P base κ Im w o a K)
  (hnext:∀r σ' κ' Im' v w',K r σ'→VR κ' Im' w' r v→SRel base κ' Im' σ' w'→Grow base κ Im w κ' Im' w'→next (a.put o.dst v) w'):o.wp P a w next Q:=by
 obtain ⟨v,w',κ',Im',r,σ',hrun,hK,hv,hs',hg⟩:=h
 unfold Oper.wp
 rcases hrun with hrun|⟨hrun,rfl⟩<;>rw [hrun]
 ·exact hnext r σ' κ' Im' v w' hK hv hs' hg
 ·exact hnext r σ' κ' Im' undef w' hK hv hs' hg
theorem zqh {o:Oper} {a:Act} {g:FuncId} {args:List AV} {vs:List Value} {K:AV→zac→Prop} {next:Act→World→Prop} {Q:Exit→Act→World→Prop} (hrun:(execOp a.eval o).run P w=.ok (.enter g vs.toArray) w) (hs:SRel base κ Im σ w) (hv:VRL κ Im w args vs) (h:zsp P σ K g args)
  (hnext:∀r σ' κ' Im' v w',K r σ'→VR κ' Im' w' r v→SRel base κ' Im' σ' w'→Grow base κ Im w κ' Im' w'→next (a.put o.dst v) w'):o.wp P a w next Q:=by
 unfold Oper.wp
 rw [hrun]
 refine (zrq hs hv h).mono ?_
 rintro e w' ⟨r,σ',v,κ',Im',rfl,hK,hs',hg,hvr⟩
 exact hnext r σ' κ' Im' v w' hK hvr hs' hg
theorem z8b {o:Oper} {ao:AOp} {f:Frame} {a:Act} {K:AV→zac→Prop} {next:Act→World→Prop} {Q:Exit→Act→World→Prop} (hc:zmx P o=some ao) (hs:SRel base κ Im σ w) (hf:FRel κ Im w f a)
  (h:za0 P K f σ ao)
  (hnext:∀r σ' κ' Im' v w',K r σ'→VR κ' Im' w' r v→SRel base κ' Im' σ' w'→Grow base κ Im w κ' Im' w'→next (a.put o.dst v) w'):o.wp P a w next Q:=by
 have hc0:=hc
 unfold zmx at hc
 split at hc
 case h_4 t ho=>
  simp only [yae] at hc
  obtain ⟨z,hz,rfl⟩:=hc
  exact zbw (zzl ho hz hs h) hnext
 case h_5 t x ho=>
  simp only [yae] at hc
  obtain ⟨x',hx,rfl⟩:=hc
  exact zbw (z7o ho hx hs hf h.1 h.2) hnext
 case h_7 t n parts ho=>
  split at hc
  case h_2=>cases hc
  rename_i e ht
  simp only [yah,yac,yam] at hc
  obtain ⟨size,hsz,z,hz,hc⟩:=hc
  split at hc
  case isFalse=>cases hc
  rename_i hcond
  simp only [yac,yab] at hc
  obtain ⟨ps,hps,rfl⟩:=hc
  exact zbw (z1I ho ht hsz hz hcond.1 hcond.2.1 hcond.2.2 hps hs hf h) hnext
 case h_9 t x v ho=>
  simp only [yah,yac,yam,yab] at hc
  obtain ⟨size,hsz,x',hx,v',hv,rfl⟩:=hc
  obtain ⟨σ',h1,h2,h3,h4⟩:=h
  exact zbw (z0v ho hsz hx hv hs hf h1 h2 h3 h4) hnext
 case h_17 t l c ho=>
  split at hc
  case h_2=>cases hc
  rename_i e ht
  simp only [yah,yac,yam] at hc
  obtain ⟨i,hi,z,hz,hc⟩:=hc
  split at hc
  case isFalse=>cases hc
  rename_i hcond
  simp only [yac,yab] at hc
  obtain ⟨l',hl,c',hcc,rfl⟩:=hc
  exact zbw (zvg ho ht hi hz hcond.1 hcond.2 hl hcc hs hf h) hnext
 case h_24 c ho=>
  split at hc
  ·rename_i g hcal
   split at hc
   case h_2=>cases hc
   split at hc
   case isFalse=>cases hc
   rename_i hb
   simp only [yah,yac,yam,yab] at hc
   obtain ⟨args,hargs,rfl⟩:=hc
   refine zqh (g:=g) ?_ hs (zir (κ:=κ) (Im:=Im) (w:=w) hf hargs) h hnext
   have hargs':c.args.map a.eval=(c.args.toList.map a.eval).toArray:=zeG (by rw [yc4])
   simp only [execOp,ho,resolve,hcal,Act.eval,Deferred.ofValue,yay,ya5,yal,invoke,Array.empty_append,Array.append_empty]
   rw [zo6 hb,←hargs']
  ·rename_i t hcal
   simp only [yah,yac,yam,yab] at hc
   obtain ⟨args,hargs,rfl⟩:=hc
   simp only [za0,ev_s] at h
   split at h
   case h_2=>exact h.elim
   rename_i g first captured he
   obtain ⟨hb,h⟩:=h
   have ht:=hf t
   rw [he] at ht
   obtain ⟨vs,us,hval,h1,h2⟩:=ht.fn_inv
   refine zqh (g:=g) (vs:=vs++c.args.toList.map a.eval++us) ?_ hs ((h1.append (zir (κ:=κ) (Im:=Im) (w:=w) hf hargs)).append h2) h hnext
   have hargs':c.args.map a.eval=(c.args.toList.map a.eval).toArray:=zeG (by rw [yc4])
   have hev:a.eval (.tmp t)=.func (.func g) vs.toArray us.toArray:=hval
   simp only [execOp,ho,resolve,hcal,hev,Deferred.ofValue,yay,ya5,yal,invoke]
   rw [zo6 hb]
   congr 2
   rw [hargs'];simp
  ·rename_i b hcal
   simp only [yah,yac] at hc
   obtain ⟨args,hargs,hc⟩:=hc
   by_cases happ:∃e size bytes x y,ao=.app e size bytes x y
   ·obtain ⟨e,size,bytes,x,y,rfl⟩:=happ
    unfold zd7 at hc
    split at hc
    ·(repeat' (split at hc))<;>simp at hc
    ·simp at hc
    ·simp at hc
    ·rename_i s t' x' y' hts
     split at hc
     case isFalse=>(repeat' (split at hc))<;>simp at hc
     rename_i hst;subst hst
     split at hc
     case h_2=>cases hc
     rename_i e' ht
     split at hc
     case h_2=>cases hc
     rename_i i hi
     split at hc
     case h_2=>cases hc
     rename_i z hz
     split at hc
     case isFalse=>cases hc
     rename_i hcond
     simp only [yab,AOp.app.injEq] at hc
     obtain ⟨rfl,hsz,hby,rfl,rfl⟩:=hc
     exact zbw (z5j ho hcal hts hargs ht hi hz hcond.1 hcond.2 hsz hby hs hf h) hnext
    ·cases hc
   ·by_cases happs:∃e x y,ao=.apps e x y
    ·obtain ⟨e,x,y,rfl⟩:=happs
     unfold zd7 at hc
     split at hc
     ·(repeat' (split at hc))<;>simp at hc
     ·simp at hc
     ·simp at hc
     ·rename_i s t' x' y' hts
      split at hc
      case isTrue=>(repeat' (split at hc))<;>simp at hc
      split at hc
      case h_2=>cases hc
      rename_i e' ht hu
      split at hc
      case h_2=>cases hc
      rename_i i hi
      split at hc
      case h_2=>cases hc
      rename_i hz
      split at hc
      case isFalse=>cases hc
      rename_i hcond
      simp only [yab,AOp.apps.injEq] at hc
      obtain ⟨rfl,rfl,rfl⟩:=hc
      exact zbw (z4s ho hcal hts hargs ht hu hi hz hcond.1 hcond.2 hs hf h) hnext
     ·cases hc
    refine zmp (fun _=>zsB hc0 hs hf) hs hf ?_ hnext
    unfold zd7 at hc
    split at hc
    ·(repeat' (split at hc))<;>first
      |(cases hc;done)
      |(simp only [yab] at hc;subst hc;exact h)
    ·simp only [yab] at hc;subst hc;exact h
    ·simp only [yab] at hc;subst hc;exact h
    ·(repeat' (split at hc))<;>first
      |(cases hc;done)
      |(simp only [yab] at hc;exact (happs ⟨_,_,_,hc.symm⟩).elim)
      |(simp only [yab] at hc;exact (happ ⟨_,_,_,_,_,hc.symm⟩).elim)
    ·cases hc
  ·cases hc
 case h_25=>cases hc
 all_goals
  refine zmp (fun _=>zsB hc0 hs hf) hs hf ?_ hnext
  (repeat' (split at hc))<;>first
   |(cases hc;done)
   |(simp only [yah,yac,yae,yam,yab] at hc
     first
      |(obtain ⟨_,_,rfl⟩:=hc;exact h)
      |(obtain ⟨_,_,_,_,rfl⟩:=hc;exact h)
      |(obtain ⟨_,_,_,_,_,_,rfl⟩:=hc;exact h)
      |(obtain ⟨_,_,_,_,_,_,_,_,rfl⟩:=hc;exact h)
      |(obtain ⟨_,_,_,_,hc⟩:=hc;split at hc<;>first
        |(cases hc;done)
        |(simp only [yac,yab] at hc;obtain ⟨_,_,rfl⟩:=hc;exact h)))
theorem z8z {o:Oper} {ao:AOp} {f:Frame} {a:Act} {K:AV→zac→Prop} {next:Act→World→Prop} {Q:Exit→Act→World→Prop} (hc:zwl P o=some ao) (hs:SRel base κ Im σ w) (hf:FRel κ Im w f a)
  (h:za0 P K f σ ao)
  (hnext:∀r σ' κ' Im' v w',K r σ'→VR κ' Im' w' r v→SRel base κ' Im' σ' w'→Grow base κ Im w κ' Im' w'→next (a.put o.dst v) w'):o.wp P a w next Q:=by
 have hc0:=hc
 have hpure:(∃r,za3 σ f ao=some r∧K r σ)→o.wp P a w next Q:=fun h=>zmp (fun _=>z4A hc0 hs hf) hs hf h hnext
 unfold zwl at hc
 split at hc
 case h_1 op t x y yt ho=>
  split at hc
  ·rename_i k n z hn
   simp only [yae] at hc
   obtain ⟨z',hz,hc⟩:=hc
   split at hc
   ·rename_i hk3
    subst hk3 hc
    obtain ⟨b,hb,hK⟩:=z5D (K:=K) (neg:=n) h (za2 hz hf)
    have hrun:=zzX (P:=P) (w:=w) hn hb
    unfold Oper.wp
    have he:(execOp a.eval o).run P w=.ok (.value (.bool (if n then !b else b))) w:=by
     simp only [execOp,ho]
     rw [yay]
     simp only [hrun,yal,ya5]
    rw [he]
    exact hnext _ σ κ Im _ w hK (.im _ _ (.bool _)) hs (Grow.refl _ _ _ _)
   ·subst hc
    exact hpure h
  ·split at hc
   case h_2=>cases hc
   split at hc<;>first
    |(cases hc;done)
    |(simp only [yah,yac,yam,yab] at hc
      obtain ⟨_,_,_,_,rfl⟩:=hc
      exact hpure h)
 case h_2=>
  simp only [yae] at hc
  obtain ⟨_,_,rfl⟩:=hc
  exact hpure h
 case h_3 s t x ho=>
  split at hc
  ·rename_i e hu1 hu2
   split at hc
   case h_2=>cases hc
   rename_i he
   simp only [yae] at hc
   obtain ⟨x',hx,rfl⟩:=hc
   obtain ⟨r,hr,hK⟩:=h
   exact zbw (zvR ho hu1 hu2 he hx hs hf hr hK) hnext
  ·split at hc
   case h_2=>cases hc
   split at hc
   case isFalse=>cases hc
   simp only [yae] at hc
   obtain ⟨_,_,rfl⟩:=hc
   exact hpure h
  ·cases hc
 case h_4=>
  split at hc
  case h_2=>cases hc
  simp only [yah,yac,yam] at hc
  obtain ⟨_,_,hc⟩:=hc
  split at hc
  case isFalse=>cases hc
  simp only [yac,yab] at hc
  obtain ⟨_,_,_,_,_,_,rfl⟩:=hc
  exact hpure h
 case h_5 ho=>
  simp only [yab] at hc;subst hc
  obtain ⟨r,σ',⟨rfl,rfl⟩,hK⟩:=h
  exact zbw (zz9 ho hs hK) hnext
 case h_6 t m k v ho=>
  split at hc
  case h_2=>cases hc
  rename_i kt e ht
  simp only [yah,yac,yam,yab] at hc
  obtain ⟨kind,hk,m',hm,k',hkk,v',hv,rfl⟩:=hc
  obtain ⟨r,σ',⟨rfl,id,kv,kv',h1,h2,h3,h4,h5,rfl⟩,hK⟩:=h
  exact zbw (zwI (.inl ho) ht hk hm hkk hv hs hf h1 h2 h3 h4 h5 hK) hnext
 case h_7 t m k v ho=>
  split at hc
  case h_2=>cases hc
  rename_i kt e ht
  simp only [yah,yac,yam,yab] at hc
  obtain ⟨kind,hk,m',hm,k',hkk,v',hv,rfl⟩:=hc
  obtain ⟨r,σ',⟨rfl,id,kv,kv',h1,h2,h3,h4,h5,rfl⟩,hK⟩:=h
  exact zbw (zwI (.inr ho) ht hk hm hkk hv hs hf h1 h2 h3 h4 h5 hK) hnext
 case h_8=>
  split at hc
  case h_2=>cases hc
  simp only [yah,yac,yam,yab] at hc
  obtain ⟨_,_,_,_,_,_,_,_,_,_,_,_,rfl⟩:=hc
  exact hpure h
 case h_9 c ho=>
  split at hc
  ·split at hc
   case h_2=>cases hc
   split at hc
   case h_2=>cases hc
   simp only [yae] at hc
   obtain ⟨_,_,rfl⟩:=hc
   exact hpure h
  ·rename_i hcal
   split at hc
   case h_2=>cases hc
   rename_i t s x y hts hargs
   split at hc
   case h_2=>cases hc
   rename_i e ht
   simp only [yah,yac,yam] at hc
   obtain ⟨i,hi,hc⟩:=hc
   split at hc
   case isFalse=>cases hc
   rename_i hpos
   simp only [yac,yab] at hc
   obtain ⟨x',hx,y',hy,rfl⟩:=hc
   obtain ⟨r,σ',⟨m,k,h1,h2,_,h3,rfl⟩,hK⟩:=h
   exact zbw (z6D ho hcal hts hargs ht hi hpos hx hy hs hf h1 h2 h3 hK) hnext
  ·rename_i hcal
   split at hc
   case h_2=>cases hc
   rename_i t x hts hargs
   split at hc
   case h_2=>cases hc
   rename_i e ht
   simp only [yah,yac,yam] at hc
   obtain ⟨i,hi,z,hz,hc⟩:=hc
   split at hc
   case isFalse=>cases hc
   rename_i hcond
   simp only [yac,yab] at hc
   obtain ⟨x',hx,rfl⟩:=hc
   obtain ⟨r,σ',⟨rfl,h1⟩,hK⟩:=h
   exact zbw (z5w ho hcal hts hargs ht hi hz hcond.1 hcond.2 hx hs hf h1 hK) hnext
  ·rename_i hcal
   split at hc
   case h_2=>cases hc
   rename_i t t2 x k hts hargs
   split at hc
   case h_2=>cases hc
   rename_i kt e ht
   simp only [yah,yac,yam,yab] at hc
   obtain ⟨kind,hk,x',hx,k',hkk,rfl⟩:=hc
   obtain ⟨r,σ',⟨rfl,h1⟩,hK⟩:=h
   exact zbw (z3U ho hcal hts hargs ht hk hx hkk hs hf h1 hK) hnext
  ·split at hc
   case h_2=>cases hc
   split at hc
   case isFalse=>cases hc
   split at hc
   case h_2=>cases hc
   simp only [yah,yac,yam,yab] at hc
   obtain ⟨_,_,_,_,_,_,rfl⟩:=hc
   exact hpure h
  ·cases hc
 case h_10 t x hi mx ho=>
  split at hc
  case h_2=>cases hc
  simp only [yah,yac,yam,yab] at hc
  obtain ⟨_,_,_,_,_,_,_,_,rfl⟩:=hc
  exact hpure h
 case h_11 t x ho=>
  split at hc
  case h_2=>cases hc
  rename_i kt e ht
  simp only [yae] at hc
  obtain ⟨x',hx,rfl⟩:=hc
  obtain ⟨r,σ',⟨rfl,h1⟩,hK⟩:=h
  exact zbw (z6O ho ht hx hs hf h1 hK) hnext
 case h_12 x ho=>
  simp only [yae] at hc
  obtain ⟨x',hx,rfl⟩:=hc
  exact zbw (z7n ho hx hs hf h) hnext
 case h_13 x ho=>
  simp only [yae] at hc
  obtain ⟨x',hx,rfl⟩:=hc
  exact hpure h
 case h_14=>cases hc
theorem z7I {o:Oper} {ao:AOp} {f:Frame} {a:Act} {K:AV→zac→Prop} {next:Act→World→Prop} {Q:Exit→Act→World→Prop} (hc:zuy P o=some ao) (hs:SRel base κ Im σ w) (hf:FRel κ Im w f a)
  (h:za0 P K f σ ao)
  (hnext:∀r σ' κ' Im' v w',K r σ'→VR κ' Im' w' r v→SRel base κ' Im' σ' w'→Grow base κ Im w κ' Im' w'→next (a.put o.dst v) w'):o.wp P a w next Q:=by
 unfold zuy at hc
 split at hc
 ·rename_i a0 h0
  simp only [yab] at hc;subst hc
  exact z8b h0 hs hf h hnext
 ·exact z8z hc hs hf h hnext
theorem zww {o:Oper} {e s n:Nat} {z:List AV} {ps:List (Nat×Opd)} (hc:zwl P o=some (.mklst e s z n ps)):False:=by
 unfold zwl at hc
 revert hc
 repeat' split
 all_goals simp [yac]
theorem z0N {loud:List FuncId} {o:Oper} {ao:AOp} {f:Frame} {a:Act} {K:AV→zac→Prop} {next:Act→World→Prop} {Q:Exit→Act→World→Prop} (hc:zuy P o=some ao) (hs:SRel base κ Im σ w) (hf:FRel κ Im w f a)
  (h:za0 P K f σ (z3j loud ao))
  (hnext:∀r σ' κ' Im' v w',K r σ'→VR κ' Im' w' r v→SRel base κ' Im' σ' w'→Grow base κ Im w κ' Im' w'→next (a.put o.dst v) w'):o.wp P a w next Q:=by
 unfold z3j at h
 split at h
 case h_2=>exact z7I hc hs hf h hnext
 rename_i e size z n ps
 split at h
 case isFalse=>exact z7I hc hs hf h hnext
 have hc0:=hc
 unfold zuy at hc
 split at hc
 case h_2=>exact (zww hc).elim
 rename_i a0 h00
 simp only [yab] at hc;subst hc
 have hc:=h00
 unfold zmx at hc
 split at hc
 case h_7 t n' parts ho=>
  split at hc
  case h_2=>cases hc
  rename_i e' ht
  simp only [yah,yac,yam] at hc
  obtain ⟨size,hsz,z,hz,hc⟩:=hc
  split at hc
  case isFalse=>cases hc
  rename_i hcond
  simp only [yac,yab] at hc
  obtain ⟨ps',hps,hc⟩:=hc
  simp only [AOp.mklst.injEq] at hc
  obtain ⟨rfl,rfl,rfl,rfl,rfl⟩:=hc
  exact zbw (z1F ho ht hsz hz hcond.1 hcond.2.1 hcond.2.2 hps hs hf h) hnext
 case h_24=>
  exfalso
  split at hc<;>try (simp at hc;done)
  ·split at hc<;>try (simp at hc;done)
   split at hc<;>simp [yac] at hc
  ·simp [yac] at hc
  ·simp only [yah,yac] at hc
   obtain ⟨as,_,hc⟩:=hc
   unfold zd7 at hc
   split at hc<;>(repeat' split at hc)<;>simp at hc
 all_goals
  exfalso
  revert hc
  repeat' split
  all_goals simp [yac]
end
end Go.Abs
end
section
namespace Go.Abs
open Go.RowKit
variable {G:Globs}
section
variable {P:Program}
def NEv [Globs] (P:Program) (f:Frame) (σ:zac) (r:AV):AOp→Prop
 | .qcall fn args=>∃(lend:Bool) (args':List AV),CoeL σ lend (args.map (·.ev f)) args'∧PCalls P fn args' (fun r'=>r'=r)∧(lend=true→rig r=true)
 | .qcallv x args=>match x.ev f with
  | .fn (.func g) first captured=>zaJ P g=true∧∃(lend:Bool) (args':List AV),CoeL σ lend (first++args.map (·.ev f)++captured) args'∧PCalls P g args' (fun r'=>r'=r)∧(lend=true→rig r=true)
  |_=>False
 | .mklst _ size zero n parts=>∃ps,(parts.mapM fun (p:Nat×Opd)=>(share σ (p.2.ev f)).bind fun v=>if v.cells.length=size∧v.cells.all AV.one then some (p.1*size,v.cells) else none)=some ps∧r=.lst (zbc n size (lay (List.replicate n zero).flatten ps))
 | .tobytes x=>zhn (x.ev f)=some r
 |o=>za3 σ f o=some r
theorem zwS {o:AOp} {K:AV→zac→Prop} {f:Frame} {σ:zac} (hn:o.neutral=true) (h:za0 P K f σ o):∃r,NEv P f σ r o∧K r σ:=by
 cases o<;>first|(simp [AOp.neutral] at hn;done)|skip
 case qcall fn args=>
  obtain ⟨lend,args',r,h1,h2,h3,h4⟩:=h
  exact ⟨r,⟨lend,args',h1,h2,h3⟩,h4⟩
 case qcallv x args=>
  simp only [za0] at h
  split at h
  ·rename_i g first captured he
   obtain ⟨hb,lend,args',r,h1,h2,h3,h4⟩:=h
   exact ⟨r,by simp only [NEv,he];exact ⟨hb,lend,args',h1,h2,h3⟩,h4⟩
  ·exact h.elim
 case mklst e size zero n parts=>
  obtain ⟨ps,h1,h2⟩:=h
  exact ⟨_,⟨ps,h1,rfl⟩,h2⟩
 all_goals exact h
theorem zwU {o:AOp} {K:AV→zac→Prop} {f:Frame} {σ:zac} {r:AV} (hn:o.neutral=true) (h:NEv P f σ r o) (hK:K r σ):za0 P K f σ o:=by
 cases o<;>first|(simp [AOp.neutral] at hn;done)|skip
 case qcall fn args=>
  obtain ⟨lend,args',h1,h2,h3⟩:=h
  exact ⟨lend,args',r,h1,h2,h3,hK⟩
 case qcallv x args=>
  simp only [NEv] at h
  simp only [za0]
  split at h
  ·rename_i g first captured he
   simp only [he]
   obtain ⟨hb,lend,args',h1,h2,h3⟩:=h
   exact ⟨hb,lend,args',r,h1,h2,h3,hK⟩
  ·exact h.elim
 case mklst e size zero n parts=>
  obtain ⟨ps,h1,rfl⟩:=h
  exact ⟨ps,h1,hK⟩
 all_goals exact ⟨r,h,hK⟩
theorem zas {x:Opd} {f f':Frame} (h:∀t∈x.slots,f t=f' t):x.ev f=x.ev f':=by
 cases x with
 |s t=>exact h t (by simp [Opd.slots])
 |c v=>rfl
theorem zhh {l:List Opd} {f f':Frame} (h:∀t∈l.flatMap Opd.slots,f t=f' t):l.map (·.ev f)=l.map (·.ev f'):=by
 apply ydy
 intro x hx
 exact zas fun t ht=>h t (yeh.2 ⟨x,hx,ht⟩)
theorem zgP {l:Option Opd} {f f':Frame} (h:∀t∈l.toList.flatMap Opd.slots,f t=f' t):l.map (·.ev f)=l.map (·.ev f'):=by
 cases l with
 |none=>rfl
 |some x=>simp only [Option.map_some];rw [zas fun t ht=>h t (by simpa using ht)]
theorem zje {α β:Type} {g g':α→Option β}:∀{l:List α},(∀a∈l,g a=g' a)→l.mapM g=l.mapM g'
 | [],_=>rfl
 |a::l,h=>by
  rw [yb5,yb5,h a (by simp),zje fun b hb=>h b (by simp [hb])]
theorem zvH {o:XOp} {σ:zac} {f f':Frame} (h:∀t∈o.reads,f t=f' t):zhW σ f o=zhW σ f' o:=by
 cases o<;>simp only [XOp.reads,yai] at h<;>simp only [zhW]
 case look kind zero ok x y=>rw [zas (x:=x) fun t ht=>h t (.inl ht),zas (x:=y) fun t ht=>h t (.inr ht)]
 case bit op x y=>rw [zas (x:=x) fun t ht=>h t (.inl ht),zas (x:=y) fun t ht=>h t (.inr ht)]
 case cry x y z=>rw [zas (x:=x) fun t ht=>h t (.inl (.inl ht)),zas (x:=y) fun t ht=>h t (.inl (.inr ht)),zas (x:=z) fun t ht=>h t (.inr ht)]
 case aslc len size x lo hi=>rw [zas (x:=x) fun t ht=>h t (.inl (.inl ht)),zgP (l:=lo) fun t ht=>h t (.inl (.inr ht)),zgP (l:=hi) fun t ht=>h t (.inr ht)]
 case iload ag size x=>rw [zas (x:=x) fun t ht=>h t ht]
 case sl3 size x hi mx=>rw [zas (x:=x) fun t ht=>h t (.inl (.inl ht)),zas (x:=hi) fun t ht=>h t (.inl (.inr ht)),zas (x:=mx) fun t ht=>h t (.inr ht)]
 case iidx size x i=>rw [zas (x:=x) fun t ht=>h t (.inl ht),zas (x:=i) fun t ht=>h t (.inr ht)]
 all_goals (rename_i x;rw [zas (x:=x) fun t ht=>h t ht])
theorem zvZ {o:AOp} {σ:zac} {f f':Frame} (h:∀t∈o.reads,f t=f' t):za3 σ f o=za3 σ f' o:=by
 cases o<;>simp only [AOp.reads,yai] at h<;>simp only [za3]
 case px o=>exact zvH h
 case build zero ps=>
  congr 1
  exact zje fun p hp=>by rw [zas (x:=p.2.2) fun t ht=>h t (yeh.2 ⟨p,hp,ht⟩)]
 case mkfn fn l m=>
  rw [zhh fun t ht=>h t (.inl ht),zhh fun t ht=>h t (.inr ht)]
 case sslc x lo hi=>
  rw [zas (x:=x) fun t ht=>h t (.inl (.inl ht)),zgP (l:=lo) fun t ht=>h t (.inl (.inr ht)),zgP (l:=hi) fun t ht=>h t (.inr ht)]
 case slc size x lo hi=>
  rw [zas (x:=x) fun t ht=>h t (.inl (.inl ht)),zgP (l:=lo) fun t ht=>h t (.inl (.inr ht)),zgP (l:=hi) fun t ht=>h t (.inr ht)]
 case pick c a b=>
  rw [zas (x:=c) fun t ht=>h t (.inl (.inl ht)),zas (x:=a) fun t ht=>h t (.inl (.inr ht)),zas (x:=b) fun t ht=>h t (.inr ht)]
 all_goals first
  |rfl
  |(rename_i x y;rw [zas (x:=x) fun t ht=>h t (.inl ht),zas (x:=y) fun t ht=>h t (.inr ht)])
  |(rename_i x;rw [zas (x:=x) fun t ht=>h t ht])
  |(rename_i x _;rw [zas (x:=x) fun t ht=>h t ht])
theorem zjN {o:AOp} {K:AV→zac→Prop} {σ:zac} {f f':Frame} (h:∀t∈o.reads,f t=f' t) (h0:za0 P K f σ o):za0 P K f' σ o:=by
 have hp:=zvZ (G:=G) (σ:=σ) h
 cases o<;>simp only [AOp.reads,yai] at h
 case alloc=>exact h0
 case box t x=>simp only [za0] at h0⊢;rwa [←zas (x:=x) h]
 case store n x y=>simp only [za0] at h0⊢;rwa [←zas (x:=x) fun t ht=>h t (.inl ht),←zas (x:=y) fun t ht=>h t (.inr ht)]
 case mkslice e s b z x y=>simp only [za0] at h0⊢;rwa [←zas (x:=x) fun t ht=>h t (.inl ht),←zas (x:=y) fun t ht=>h t (.inr ht)]
 case mklst e size zero n ps=>
  simp only [za0] at h0⊢
  obtain ⟨qs,h1,h2⟩:=h0
  refine ⟨qs, ?_,h2⟩
  rw [←h1]
  exact zje fun p hp=>by rw [zas (x:=p.2) fun t ht=>h t (yeh.2 ⟨p,hp,ht⟩)]
 case mkrow e size zero n ps=>
  simp only [za0] at h0⊢
  obtain ⟨qs,h1,h2⟩:=h0
  refine ⟨qs, ?_,h2⟩
  rw [←h1]
  exact zje fun p hp=>by rw [zas (x:=p.2) fun t ht=>h t (yeh.2 ⟨p,hp,ht⟩)]
 case app e s b x y=>simp only [za0] at h0⊢;rwa [←zas (x:=x) fun t ht=>h t (.inl ht),←zas (x:=y) fun t ht=>h t (.inr ht)]
 case apps e x y=>simp only [za0] at h0⊢;rwa [←zas (x:=x) fun t ht=>h t (.inl ht),←zas (x:=y) fun t ht=>h t (.inr ht)]
 case call fn l=>simp only [za0] at h0⊢;rwa [←zhh h]
 case qcall fn l=>simp only [za0] at h0⊢;rwa [←zhh h]
 case callv x l=>simp only [za0] at h0⊢;rwa [←zas (x:=x) fun t ht=>h t (.inl ht),←zhh (l:=l) fun t ht=>h t (.inr ht)]
 case qcallv x l=>simp only [za0] at h0⊢;rwa [←zas (x:=x) fun t ht=>h t (.inl ht),←zhh (l:=l) fun t ht=>h t (.inr ht)]
 case tobytes x=>simp only [za0] at h0⊢;rwa [←zas (x:=x) h]
 case ex o=>
  obtain ⟨r,σ',h1,h2⟩:=h0
  refine ⟨r,σ', ?_,h2⟩
  cases o<;>simp only [EOp.reads,yai] at h<;>simp only [z8d] at h1⊢
  case mkmap=>exact h1
  case mset kind x k v=>rwa [←zas (x:=x) fun t ht=>h t (.inl (.inl ht)),←zas (x:=k) fun t ht=>h t (.inl (.inr ht)),←zas (x:=v) fun t ht=>h t (.inr ht)]
  case clr size z x=>rwa [←zas (x:=x) h]
  case cpy size x y=>rwa [←zas (x:=x) fun t ht=>h t (.inl ht),←zas (x:=y) fun t ht=>h t (.inr ht)]
  case mdel kind x k=>rwa [←zas (x:=x) fun t ht=>h t (.inl ht),←zas (x:=k) fun t ht=>h t (.inr ht)]
  case rng x=>rwa [←zas (x:=x) h]
 case nlc neg x=>simp only [za0] at h0⊢;rwa [←zas (x:=x) h]
 case nxt x=>simp only [za0] at h0⊢;rwa [←zas (x:=x) h]
 case apt e s b x y=>simp only [za0] at h0⊢;rwa [←zas (x:=x) fun t ht=>h t (.inl ht),←zas (x:=y) fun t ht=>h t (.inr ht)]
 case bad=>exact h0.elim
 all_goals
  obtain ⟨r,h1,h2⟩:=h0
  exact ⟨r,by rw [←hp];exact h1,h2⟩
theorem z0p {o:AOp} {σ:zac} {f f':Frame} {r:AV} (hn:o.neutral=true) (h:∀t∈o.reads,f t=f' t) (h0:NEv P f σ r o):NEv P f' σ r o:=by
 have h1:=zjN (P:=P) h (zwU (K:=fun r' _=>r'=r) hn h0 rfl)
 obtain ⟨r',h2,rfl⟩:=zwS hn h1
 exact h2
theorem z0I {o:AOp} {σ σ':zac} {f:Frame} {r:AV} (hb:o.blind=true) (h:NEv P f σ r o):NEv P f σ' r o:=by
 cases o<;>first|(simp [AOp.blind] at hb;done)|exact h|skip
 rename_i o
 cases o<;>first|(simp [AOp.blind] at hb;done)|exact h
theorem zdw {α:Type} {l:List α} {e a:α} {i:Nat} (h:l[i]? =some a):(l++ [e])[i]? =some a:=by
 rw [yar (yaa.1 h).1];exact h
theorem zht {σ:zac} {e:Entry} {X r:AV} (h:zeS σ X=some r):zeS (σ++ [e]) X=some r:=by
 unfold zeS at h⊢
 split at h
 ·split at h
  case h_2=>cases h
  rename_i he
  simp only [zdw he];exact h
 ·exact h
 ·exact h
theorem zip {α β:Type} {g g':α→Option β} (hg:∀a b,g a=some b→g' a=some b):∀{l:List α} {m:List β},l.mapM g=some m→l.mapM g'=some m
 | [],m,h=>by simpa using h
 |a::l,m,h=>by
  rw [yb5] at h⊢
  simp only [yah,yac,yam,yab] at h⊢
  obtain ⟨b,hb,m',hm',rfl⟩:=h
  exact ⟨b,hg _ _ hb,m',zip hg hm',rfl⟩
theorem zyb {σ:zac} {e:Entry} {X r:AV} (h:share σ X=some r):share (σ++ [e]) X=some r:=by
 unfold share at h⊢
 split at h
 ·simp only [yae] at h⊢
  obtain ⟨m,hm,rfl⟩:=h
  exact ⟨m,zip (fun _ _=>zht) hm,rfl⟩
 ·simp only [yae] at h⊢
  obtain ⟨m,hm,rfl⟩:=h
  refine ⟨m,zip (fun a b hab=> ?_) hm,rfl⟩
  split at hab
  ·simp only [yae] at hab⊢
   obtain ⟨m',hm',rfl⟩:=hab
   exact ⟨m',zip (fun _ _=>zht) hm',rfl⟩
  ·exact zht hab
 ·exact zht h
theorem z3o {σ:zac} {e:Entry} {lend:Bool} {X Y:AV} (h:Coe σ lend X Y):Coe (σ++ [e]) lend X Y:=by
 induction h with
 |pure a hp=>exact .pure a hp
 |nils=>exact .nils
 |row id n ty size els im he hn hp=>exact .row id n ty size els im (zdw he) hn hp
 |ptr id off t cells cells' he hl hoff hlen hp hone ih=>exact .ptr id off t cells cells' (zdw he) hl hoff hlen ih hone
 |fn f l l' m m' h1 h2 hl hm ihl ihm=>exact .fn f l l' m m' h1 h2 ihl ihm
 |agg l l' h1 hone hl ih=>exact .agg l l' h1 hone ih
theorem ztX {σ:zac} {e:Entry} {lend:Bool} {l m:List AV} (h:CoeL σ lend l m):CoeL (σ++ [e]) lend l m:=by
 induction h with
 |nil=>exact .nil
 |cons h hl ih=>exact .cons (z3o h) ih
theorem zsL {σ:zac} {e:Entry} {X:AV} {n:Nat} {l:List AV} (h:zaP σ X n=some l):zaP (σ++ [e]) X n=some l:=by
 cases X<;>simp only [zaP] at h⊢<;>first
  |exact h
  |(split at h
    ·rename_i he;simp only [zdw he];exact h
    ·cases h)
theorem ztt {σ:zac} {e:Entry} {X:AV} {l:List (List AV)} (h:view σ X=some l):view (σ++ [e]) X=some l:=by
 cases X<;>simp only [view] at h⊢<;>first
  |exact h
  |(split at h
    ·rename_i he;simp only [zdw he];exact h
    ·cases h)
theorem znb {σ:zac} {e:Entry} {X:AV} {kv:List (AV×AV)} (h:zh2 σ X=some kv):zh2 (σ++ [e]) X=some kv:=by
 unfold zh2 at h⊢
 split at h
 ·exact h
 ·split at h
  ·rename_i he;simp only [zdw he];exact h
  ·cases h
 ·cases h
theorem zxK {o:XOp} {σ:zac} {e:Entry} {f:Frame} {r:AV} (h:zhW σ f o=some r):zhW (σ++ [e]) f o=some r:=by
 cases o<;>simp only [zhW] at h⊢<;>try exact h
 case tostr x=>
  simp only [yae,yac] at h⊢
  obtain ⟨s,⟨l,hl,hs⟩,hr⟩:=h
  exact ⟨s,⟨l,ztt hl,hs⟩,hr⟩
 case look kind zero ok x k=>
  simp only [yac] at h⊢
  obtain ⟨l,hl,hr⟩:=h
  exact ⟨l,znb hl,hr⟩
 case mlen x=>
  simp only [yae] at h⊢
  obtain ⟨l,hl,hr⟩:=h
  exact ⟨l,znb hl,hr⟩
 case sl3 size x hi mx=>
  unfold zuI at h⊢
  split at h
  case h_2=>cases h
  split at h
  case isFalse=>cases h
  rename_i heq
  rw [if_pos heq]
  split at h
  ·exact h
  ·exact h
  ·split at h
   case h_2=>cases h
   rename_i he
   simp only [zdw he];exact h
  ·cases h
 case ient x=>
  unfold zvI at h⊢
  split at h
  case h_2=>cases h
  split at h
  case h_2=>cases h
  rename_i he
  split at h
  case h_2=>cases h
  rename_i hm
  simp only [zdw he,zdw hm];exact h
theorem zy0 {o:AOp} {σ:zac} {e:Entry} {f:Frame} {r:AV} (h:za3 σ f o=some r):za3 (σ++ [e]) f o=some r:=by
 cases o<;>simp only [za3] at h⊢<;>try exact h
 case load ag size x=>
  simp only [yac] at h⊢
  obtain ⟨l,hl,hr⟩:=h
  exact ⟨l,zsL hl,hr⟩
 case len x=>
  simp only [yae] at h⊢
  obtain ⟨l,hl,hr⟩:=h
  exact ⟨l,ztt hl,hr⟩
 case px o=>exact zxK h
 case iaddr size x i=>
  split at h
  ·exact h
  ·split at h
   ·rename_i he;simp only [zdw he];exact h
   ·cases h
  ·exact h
  ·exact h
  ·cases h
 case slc size x lo hi=>
  split at h
  ·exact h
  ·exact h
  ·split at h
   ·rename_i he;simp only [zdw he];exact h
   ·rename_i he;simp only [zdw he];exact h
   ·cases h
  ·exact h
  ·exact h
  ·cases h
theorem z3i {o:AOp} {σ:zac} {e:Entry} {f:Frame} {r:AV} (hn:o.neutral=true) (h:NEv P f σ r o):NEv P f (σ++ [e]) r o:=by
 cases o<;>first|(simp [AOp.neutral] at hn;done)|skip
 case qcall fn args=>
  obtain ⟨lend,args',h1,h2,h3⟩:=h
  exact ⟨lend,args',ztX h1,h2,h3⟩
 case qcallv x args=>
  simp only [NEv] at h⊢
  split at h
  ·obtain ⟨hb,lend,args',h1,h2,h3⟩:=h
   exact ⟨hb,lend,args',ztX h1,h2,h3⟩
  ·exact h
 case mklst ty size zero n parts=>
  obtain ⟨ps,h1,h2⟩:=h
  refine ⟨ps,zip (fun a b hab=> ?_) h1,h2⟩
  simp only [yac] at hab⊢
  obtain ⟨v,hv,hb⟩:=hab
  exact ⟨v,zyb hv,hb⟩
 case tobytes x=>exact h
 all_goals exact zy0 h
end
end Go.Abs
end
section
namespace Go.Abs
open Go.RowKit
variable {G:Globs}
section
variable {P:Program} {base:Nat} {κ:Key} {Im:Addr→Prop} {w:World} {σ:zac}
theorem zja {o:AOp} {K K':AV→zac→Prop} {f:Frame} {σ:zac} (h:za0 P K f σ o) (hK:∀r σ',K r σ'→(o.neutral=true→σ'=σ)→(o.makes=true→∃e,σ'=σ++ [e])→K' r σ'):za0 P K' f σ o:=by
 by_cases hn:o.neutral=true
 ·obtain ⟨r,h1,h2⟩:=zwS hn h
  exact zwU hn h1 (hK r σ h2 (fun _=>rfl) (fun hm=>by cases o<;>simp [AOp.neutral,AOp.makes] at hn hm))
 ·cases o<;>first|(exact absurd rfl hn)|skip
  case alloc t cells=>exact hK _ _ h (fun hh=>absurd hh hn) (fun _=>⟨_,rfl⟩)
  case box t x=>exact ⟨h.1,hK _ _ h.2 (fun hh=>absurd hh hn) (fun _=>⟨_,rfl⟩)⟩
  case store n x y=>
   obtain ⟨σ',h1,h2,h3,h4⟩:=h
   exact ⟨σ',h1,h2,h3,hK _ _ h4 (fun hh=>absurd hh hn) (fun hh=>by simp [AOp.makes] at hh)⟩
  case mkslice e s b z x y=>
   obtain ⟨n,c,h1,h2,h3,h4,h5,h6,h7,h8⟩:=h
   exact ⟨n,c,h1,h2,h3,h4,h5,h6,h7,hK _ _ h8 (fun hh=>absurd hh hn) (fun _=>⟨_,rfl⟩)⟩
  case mkrow e s z n ps=>
   obtain ⟨qs,h1,h2,h3⟩:=h
   exact ⟨qs,h1,h2,hK _ _ h3 (fun hh=>absurd hh hn) (fun _=>⟨_,rfl⟩)⟩
  case app e s b x y=>
   simp only [za0] at h⊢
   obtain ⟨m,h1,h2,h3,h4⟩:=h
   refine ⟨m,h1,h2,h3, ?_⟩
   split at h4
   ·rcases h4 with ⟨g0,g3⟩|⟨im,g0,g1,g2,g3⟩
    ·exact .inl ⟨g0,hK _ _ g3 (fun hh=>absurd hh hn) (fun hh=>by simp [AOp.makes] at hh)⟩
    exact .inr ⟨im,g0,g1,g2,hK _ _ g3 (fun hh=>absurd hh hn) (fun hh=>by simp [AOp.makes] at hh)⟩
   ·obtain ⟨els,im,g1,g0,g2,g3,g4,g5⟩:=h4
    exact ⟨els,im,g1,g0,g2,g3,g4,hK _ _ g5 (fun hh=>absurd hh hn) (fun hh=>by simp [AOp.makes] at hh)⟩
   ·obtain ⟨els,g1,g0,g2,g3,g4,g5,g6,g7⟩:=h4
    exact ⟨els,g1,g0,g2,g3,g4,g5,g6,hK _ _ g7 (fun hh=>absurd hh hn) (fun hh=>by simp [AOp.makes] at hh)⟩
   ·obtain ⟨im,g0,g1,g2,g3,g4,g5⟩:=h4
    exact ⟨im,g0,g1,g2,g3,g4,hK _ _ g5 (fun hh=>absurd hh hn) (fun hh=>by simp [AOp.makes] at hh)⟩
   ·exact h4.elim
  case apps e x y=>
   simp only [za0] at h⊢
   obtain ⟨l,h1,h4⟩:=h
   refine ⟨l,h1, ?_⟩
   split at h4
   ·rcases h4 with ⟨g0,g3⟩|⟨im,g0,g3⟩
    ·exact .inl ⟨g0,hK _ _ g3 (fun hh=>absurd hh hn) (fun hh=>by simp [AOp.makes] at hh)⟩
    exact .inr ⟨im,g0,hK _ _ g3 (fun hh=>absurd hh hn) (fun hh=>by simp [AOp.makes] at hh)⟩
   ·obtain ⟨els,im,g1,g2,g3,g5⟩:=h4
    exact ⟨els,im,g1,g2,g3,hK _ _ g5 (fun hh=>absurd hh hn) (fun hh=>by simp [AOp.makes] at hh)⟩
   ·exact h4.elim
  case call fn l=>
   rcases h with ⟨args',R,h1,h2,h3⟩|⟨args',R,h1,h2,h3⟩|h
   ·exact .inl ⟨args',R,h1,h2,fun r hr=>hK _ _ (h3 r hr) (fun hh=>absurd hh hn) (fun hh=>by simp [AOp.makes] at hh)⟩
   ·exact .inr (.inl ⟨args',R,h1,h2,fun r hr=>⟨(h3 r hr).1,hK _ _ (h3 r hr).2 (fun hh=>absurd hh hn) (fun hh=>by simp [AOp.makes] at hh)⟩⟩)
   ·exact .inr (.inr (h.mono fun r σ' hr=>hK _ _ hr (fun hh=>absurd hh hn) (fun hh=>by simp [AOp.makes] at hh)))
  case callv x l=>
   simp only [za0] at h⊢
   split at h
   ·rename_i g first captured he
    refine ⟨h.1, ?_⟩
    rcases h.2 with ⟨args',R,h1,h2,h3⟩|⟨args',R,h1,h2,h3⟩|h
    ·exact .inl ⟨args',R,h1,h2,fun r hr=>hK _ _ (h3 r hr) (fun hh=>absurd hh hn) (fun hh=>by simp [AOp.makes] at hh)⟩
    ·exact .inr (.inl ⟨args',R,h1,h2,fun r hr=>⟨(h3 r hr).1,hK _ _ (h3 r hr).2 (fun hh=>absurd hh hn) (fun hh=>by simp [AOp.makes] at hh)⟩⟩)
    ·exact .inr (.inr (h.mono fun r σ' hr=>hK _ _ hr (fun hh=>absurd hh hn) (fun hh=>by simp [AOp.makes] at hh)))
   ·exact h.elim
  case ex o=>
   obtain ⟨r,σ',h1,h2⟩:=h
   refine ⟨r,σ',h1,hK _ _ h2 (fun hh=>absurd hh hn) (fun hm=> ?_)⟩
   cases o
   ·exact ⟨_,h1.2⟩
   all_goals simp [AOp.makes] at hm
  case nlc neg x=>
   simp only [za0] at h⊢
   split at h
   ·exact fun b=>hK _ _ (h b) (fun hh=>absurd hh hn) (fun hh=>by simp [AOp.makes] at hh)
   ·obtain ⟨b,h1,h2⟩:=h
    exact ⟨b,h1,hK _ _ h2 (fun hh=>absurd hh hn) (fun hh=>by simp [AOp.makes] at hh)⟩
  case apt e s b x y=>
   obtain ⟨l,m,im,h1,h2,h3,h4,h5,h6,h7,h8,h9,h10⟩:=h
   exact ⟨l,m,im,h1,h2,h3,h4,h5,h6,h7,h8,h9,hK _ _ h10 (fun hh=>absurd hh hn) (fun _=>⟨_,rfl⟩)⟩
  case nxt x=>
   simp only [za0] at h⊢
   split at h
   case h_2=>exact h.elim
   split at h
   case h_2=>exact h.elim
   exact ⟨fun hl=>hK _ _ (h.1 hl) (fun hh=>absurd hh hn) (fun hh=>by simp [AOp.makes] at hh),fun i hi=>hK _ _ (h.2 i hi) (fun hh=>absurd hh hn) (fun hh=>by simp [AOp.makes] at hh)⟩
  case bad=>exact h.elim
def JEv [Globs] (P:Program) (j:AIns) (f:Frame) (σ:zac) (r:AV):Prop:=match j.g with
 |none=>NEv P f σ r j.o
 |some (t,b)=>∃w,zwv (f t) b w∧(w=true→NEv P f σ r j.o)∧(w=false→r=.any undef)
theorem zzD {j:AIns} {K:Frame→zac→Prop} {f:Frame} {σ:zac} (hn:j.o.neutral=true) (h:zbk P K j f σ):∃r,JEv P j f σ r∧K (f.put j.d r) σ:=by
 obtain ⟨g,d,o⟩:=j
 cases g with
 |none=>
  obtain ⟨r,h1,h2⟩:=zwS (K:=fun r σ'=>K (f.put d r) σ') hn h
  exact ⟨r,h1,h2⟩
 |some p=>
  obtain ⟨t,b⟩:=p
  obtain ⟨c,h1,h2,h3⟩:=h
  cases c with
  |true=>
   obtain ⟨r,h4,h5⟩:=zwS hn (h2 rfl)
   exact ⟨r,⟨true,h1,fun _=>h4,nofun⟩,h5⟩
  |false=>exact ⟨.any undef,⟨false,h1,nofun,fun _=>rfl⟩,h3 rfl⟩
theorem z3e {j:AIns} {K:Frame→zac→Prop} {f:Frame} {σ:zac} {r:AV} (hn:j.o.neutral=true) (h:JEv P j f σ r) (hK:K (f.put j.d r) σ):zbk P K j f σ:=by
 obtain ⟨g,d,o⟩:=j
 cases g with
 |none=>exact zwU (K:=fun r σ'=>K (f.put d r) σ') hn h hK
 |some p=>
  obtain ⟨t,b⟩:=p
  obtain ⟨c,h1,h2,h3⟩:=h
  refine ⟨c,h1,fun hc=>zwU (K:=fun r σ'=>K (f.put d r) σ') hn (h2 hc) hK,fun hc=> ?_⟩
  rw [←h3 hc];exact hK
theorem z3y {j:AIns} {f f':Frame} {σ σ':zac} {r:AV} (hn:j.o.neutral=true) (hf:∀t∈j.reads,f t=f' t) (hσ:σ'=σ∨(∃e,σ'=σ++ [e])∨j.o.blind=true) (h:JEv P j f σ r):JEv P j f' σ' r:=by
 have hop:∀t∈j.o.reads,f t=f' t:=fun t ht=>hf t (by unfold AIns.reads;simp [ht])
 have key:NEv P f σ r j.o→NEv P f' σ' r j.o:=fun h0=>by
  have h1:=z0p hn hop h0
  rcases hσ with rfl|⟨e,rfl⟩|hb
  ·exact h1
  ·exact z3i hn h1
  ·exact z0I hb h1
 unfold JEv at h⊢
 split at h
 ·exact key h
 ·rename_i t b hg
  obtain ⟨c,h1,h2,h3⟩:=h
  exact ⟨c,by rw [←hf t (by unfold AIns.reads;simp [hg])];exact h1,fun hc=>key (h2 hc),h3⟩
theorem z2G (f:Frame) (d d':Option Nat) (r r':AV) (h:∀x,d=some x→d'≠some x):(f.put d r).put d' r'=(f.put d' r').put d r:=by
 cases d with
 |none=>rfl
 |some x=>
  cases d' with
  |none=>rfl
  |some y=>
   have hxy:x≠y:=fun e=>h x rfl (by rw [e])
   funext t
   simp only [Frame.put_some]
   by_cases h1:t=y<;>by_cases h2:t=x<;>simp [h1,h2]<;>omega
theorem ztr {f:Frame} {d:Option Nat} {r:AV} {t:Nat} (h:d≠some t):f.put d r t=f t:=by
 cases d with
 |none=>rfl
 |some x=>simp only [Frame.put_some];rw [if_neg];intro e;exact h (by rw [e])
theorem z40 {j i:AIns} {K:Frame→zac→Prop} {f:Frame} {σ:zac} (hc:zoX j i=true) (h:zbk P (zbk P K i) j f σ):zbk P (zbk P K j) i f σ:=by
 unfold zoX at hc
 simp only [yb3,Bool.or_eq_true] at hc
 obtain ⟨⟨⟨hn,hj⟩,hi⟩,hσ⟩:=hc
 have hjd:∀d,j.d=some d→d∉i.reads∧i.d≠some d:=fun d hd=>by
  rw [hd] at hj;simpa using hj
 have hid:∀d,i.d=some d→d∉j.reads:=fun d hd=>by
  rw [hd] at hi;simpa using hi
 obtain ⟨r,hr,h⟩:=zzD hn h
 have hread:∀t∈i.reads,(f.put j.d r) t=f t:=fun t ht=>ztr fun e=>(hjd t e).1 ht
 have hcomm:∀r2,(f.put j.d r).put i.d r2=(f.put i.d r2).put j.d r:=fun r2=>z2G f _ _ _ _ fun x hx=>(hjd x hx).2
 have hfin:∀r2 σ2,K ((f.put j.d r).put i.d r2) σ2→(σ2=σ∨(∃e,σ2=σ++ [e])∨j.o.blind=true)→zbk P K j (f.put i.d r2) σ2:=fun r2 σ2 hK hs=>
  z3e hn (z3y hn (fun t ht=>(ztr fun e=>hid t e ht).symm) hs hr) (by rw [←hcomm];exact hK)
 have hcls:∀σ2,(i.o.neutral=true→σ2=σ)→(i.o.makes=true→∃e,σ2=σ++ [e])→(σ2=σ∨(∃e,σ2=σ++ [e])∨j.o.blind=true):=fun σ2 h1 h2=>by
  rcases hσ with (hb|hb)|hb
  ·exact .inr (.inr hb)
  ·exact .inl (h1 hb)
  ·exact .inr (.inl (h2 hb))
 have hop:∀t∈i.o.reads,(f.put j.d r) t=f t:=fun t ht=>hread t (by unfold AIns.reads;simp [ht])
 unfold zbk at h
 show zbk P (zbk P K j) i f σ
 unfold zbk
 split at h
 ·exact zja (zjN hop h) fun r2 σ2 hK h1 h2=>hfin r2 σ2 hK (hcls σ2 h1 h2)
 ·rename_i t b hg
  obtain ⟨c,h1,h2,h3⟩:=h
  refine ⟨c,by rw [←hread t (by unfold AIns.reads;simp [hg])];exact h1,fun hcb=> ?_,fun hcb=> ?_⟩
  ·exact zja (zjN hop (h2 hcb)) fun r2 σ2 hK h1 h2=>hfin r2 σ2 hK (hcls σ2 h1 h2)
  ·exact hfin (.any undef) σ (h3 hcb) (.inl rfl)
theorem zo7 {i:AIns} {K K':Frame→zac→Prop} {f:Frame} {σ:zac} (hK:∀f σ,K f σ→K' f σ) (h:zbk P K i f σ):zbk P K' i f σ:=by
 unfold zbk at h⊢
 split at h
 ·exact zja h fun r σ' h0 _ _=>hK _ _ h0
 ·obtain ⟨c,h1,h2,h3⟩:=h
  exact ⟨c,h1,fun hc=>zja (h2 hc) fun r σ' h0 _ _=>hK _ _ h0,fun hc=>hK _ _ (h3 hc)⟩
theorem zwN {Q:Frame→zac→Prop} {i:AIns} {post:List AIns}:∀(pre:List AIns) (f:Frame) (σ:zac),(∀j∈pre,zoX j i=true)→zcM P Q (pre++i::post) f σ→zbk P (zcM P Q (pre++post)) i f σ
 | [],f,σ,_,h=>h
 |j::pre,f,σ,hc,h=>by
  have h1:zbk P (zbk P (zcM P Q (pre++post)) i) j f σ:=zo7 (fun f' σ' h'=>zwN pre f' σ' (fun k hk=>hc k (by simp [hk])) h') h
  exact z40 (hc j (by simp)) h1
theorem z4O {N:Nat} {ops:Array Oper} {loud:List FuncId} {o:Oper} {f:Frame} {a:Act} {K:Frame→zac→Prop} {next:Act→World→Prop} {Q:Exit→Act→World→Prop} (hs:SRel base κ Im σ w) (hf:FRel κ Im w f a) (hN:a.tmps.size=N)
  (h:zbk P K (zfH loud (zjj loud (zcS P N ops o))) f σ∨zbk P K (zjj loud (zcS P N ops o)) f σ)
  (hnext:∀f' σ' κ' Im' a' w',K f' σ'→FRel κ' Im' w' f' a'→a'.tmps.size=N→a'.defers=a.defers→SRel base κ' Im' σ' w'→Grow base κ Im w κ' Im' w'→next a' w'):
  if Region.wanted o (yielded ops a.tmps) then o.wp P a w next Q else next (a.put o.dst undef) w:=by
 have h':zbk P K (zjj loud (zcS P N ops o)) f σ:=by
  rcases h with h|h
  ·generalize zjj loud (zcS P N ops o)=i at h
   obtain ⟨g,d,o'⟩:=i
   cases g with
   |none=>exact zqV (loud:=loud) (K:=fun r σ'=>K (f.put d r) σ') h
   |some p=>
    obtain ⟨t,b⟩:=p
    obtain ⟨c,h1,h2,h3⟩:=h
    exact ⟨c,h1,fun hc=>zqV (loud:=loud) (K:=fun r σ'=>K (f.put d r) σ') (h2 hc),h3⟩
  ·exact h
 clear h
 unfold zcS at h'
 split at h'
 case isFalse=>exact h'.elim
 rename_i hd
 split at h'
 ·exact h'.elim
 rename_i ao hc
 -- a slot that is written
 have hput:∀{κ' Im' w'} {r:AV} {v:Value},FRel κ' Im' w' f a→VR κ' Im' w' r v→FRel κ' Im' w' (f.put o.dst r) (a.put o.dst v)∧(a.put o.dst v).tmps.size=N∧(a.put o.dst v).defers=a.defers:=by
  intro κ' Im' w' r v hf' hv
  cases hdst:o.dst with
  |none=>exact ⟨hf',hN,rfl⟩
  |some d=>
   rw [hdst] at hd
   have hdN:d<N:=by simpa [z8j] using hd
   refine ⟨fun t=> ?_,by simp [Act.put,hN],rfl⟩
   simp only [Frame.put_some,Act.put]
   by_cases ht:t=d
   ·subst ht
    rw [if_pos rfl]
    have:(a.tmps.setIfInBounds t v).getD t undef=v:=by
     simp [hN,hdN]
    rw [this];exact hv
   ·rw [if_neg ht]
    have:(a.tmps.setIfInBounds d v).getD t undef=a.tmps.getD t undef:=by
     simp only [ybc]
     rw [yb2 (Ne.symm ht)]
    rw [this];exact hf' t
 have hop:za0 P (fun r σ'=>K (f.put o.dst r) σ') f σ (z3j loud ao)→o.wp P a w next Q:=fun h0=>
  z0N hc hs hf h0 fun r σ' κ' Im' v w' hK hv hs' hg=>by
   obtain ⟨h1,h2,h3⟩:=hput (hf.grow hg) hv
   exact hnext _ _ _ _ _ _ hK h1 h2 h3 hs' hg
 split at h'
 ·rename_i hgd
  rw [if_pos (by simp [Region.wanted,hgd])]
  exact hop h'
 ·rename_i j b hgd
  split at h'
  case h_2=>exact h'.elim
  rename_i t ht
  obtain ⟨c,h1,h2,h3⟩:=h'
  have hft:=hf t
  have hw:Region.wanted o (yielded ops a.tmps)=c:=by
   rcases h1 with ⟨h1,rfl⟩|⟨c',h1,rfl⟩
   ·rw [h1] at hft
    have hv:a.tmps.getD t undef=undef:=by
     generalize a.tmps.getD t undef=u at hft
     cases hft with|im _ _ h=>cases h;rfl
    have hy:yielded ops a.tmps j=none:=by
     unfold yielded
     rw [ht]
     rw [ybc] at hv
     cases hq:a.tmps[t]? with
     |none=>simp [hq]
     |some u=>rw [hq] at hv;simp at hv;subst hv;simp [hq,undef]
    simp [Region.wanted,hgd,hy]
   ·rw [h1] at hft
    have hv:=hft.bool_inv
    have hget:a.tmps[t]? =some (.bool c'):=by
     rw [ybc] at hv
     cases hq:a.tmps[t]? with
     |none=>rw [hq] at hv;simp [undef] at hv
     |some u=>rw [hq] at hv;simpa using hv
    have hy:yielded ops a.tmps j=some c':=by
     unfold yielded
     rw [ht]
     simp [hget]
    simp [Region.wanted,hgd,hy]
  rw [hw]
  cases c with
  |true=>exact hop (h2 rfl)
  |false=>
   obtain ⟨g1,g2,g3⟩:=hput hf (.im _ _ (.any undef))
   exact hnext _ _ _ _ _ _ (h3 rfl) g1 g2 g3 hs (Grow.refl _ _ _ _)
structure St [Globs] (base:Nat) (κ:Key) (Im:Addr→Prop) (w:World) (N:Nat) (D:List Deferred) (f:Frame) (σ:zac) (κ':Key) (Im':Addr→Prop) (a':Act) (w':World):Prop where
 fr:FRel κ' Im' w' f a'
 sz:a'.tmps.size=N
 df:a'.defers=D
 st:SRel base κ' Im' σ w'
 gr:Grow base κ Im w κ' Im' w'
theorem z4Z {N:Nat} {ops:Array Oper} {loud:List FuncId} {D:List Deferred} {κ₀:Key} {Im₀:Addr→Prop} {w₀:World} {QA:Frame→zac→Prop} {Q:Exit→Act→World→Prop}
  (hQ:∀f σ κ Im a w,QA f σ→St base κ₀ Im₀ w₀ N D f σ κ Im a w→Q .normal a w):∀(l:List Oper) (f:Frame) (σ:zac) (κ:Key) (Im:Addr→Prop) (a:Act) (w:World),zcM P QA (l.map fun o=>zjj loud (zcS P N ops o)) f σ→St base κ₀ Im₀ w₀ N D f σ κ Im a w→wpList P ops Q l a w
 | [],f,σ,κ,Im,a,w,h,hst=>hQ f σ κ Im a w h hst
 |o::l,f,σ,κ,Im,a,w,h,hst=>by
  have:=z4O (loud:=loud) (Q:=Q) (next:=wpList P ops Q l) hst.st hst.fr hst.sz (.inr h) (fun f' σ' κ' Im' a' w' hK h1 h2 h3 h4 h5=>z4Z hQ l f' σ' κ' Im' a' w' hK ⟨h1,h2,h3.trans hst.df,h4,hst.gr.trans h5⟩)
  unfold wpList
  split
  ·rename_i hw;rw [if_pos hw] at this;exact .inl this
  ·rename_i hw;rw [if_neg hw] at this;exact this
end
end Go.Abs
end
