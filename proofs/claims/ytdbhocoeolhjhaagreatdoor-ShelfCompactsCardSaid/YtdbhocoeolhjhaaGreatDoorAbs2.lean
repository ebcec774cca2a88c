/- The abstract machine: its soundness, contracts, loops, and the rules by which walks step. -/
import Derived.Test.YtdbhocoeolhjhaaGreatDoorAbs1b
import Derived.MapKept
import Derived.Laws.BytesString
import Derived.Lib.ConvBytes
import Derived.Lib.AtoiErrMem
import Derived.Scope
import Derived.Deep.LoopGhost
import Derived.Defers
set_option linter.unusedSimpArgs false
set_option linter.unusedVariables false
set_option linter.constructorNameAsVariable false
section
namespace Go.Abs
open Go.RowKit
variable {G:Globs}
section
variable {P:Program} {base:Nat}
theorem zn4 {E:List (Nat×Nat)} {L:List AIns} {ops:Array Oper}:∀{l:List Nat},zlK E L ops l=true↔l.Pairwise fun j i=>zpw E L ops j i=true
 | []=>by simp [zlK]
 |j::l=>by simp [zlK,zn4]
theorem ziT {ops:Array Oper} {i k:Nat} {o:Oper} (ho:ops[i]? =some o):k∈zeP ops i↔∃e∈o.after,Region.binds .any e=true∧e.on=k:=by
 unfold zeP
 rw [ho]
 simp only [yav,ybn,Array.mem_toList_iff]
 constructor
 ·rintro ⟨e,⟨h1,h2⟩,h3⟩;exact ⟨e,h1,h2,h3⟩
 ·rintro ⟨e,h1,h2,h3⟩;exact ⟨e,⟨h1,h2⟩,h3⟩
theorem znA {E:List (Nat×Nat)} {ops:Array Oper} {listed:Array Bool} (hcl:∀i,listed.getD i false=true→∀k∈zuc E ops i,listed.getD k false=true) {j:Nat}:∀(n i:Nat),(∀k∈zuc E ops i,listed.getD k false=true)→zj6 E ops j n i=true→listed.getD j false=true
 |0,i,_,h=>by simp [zj6] at h
 |n+1,i,hi,h=>by
  simp only [zj6,List.any_eq_true,Bool.or_eq_true,ydw,decide_eq_true_eq] at h
  rcases h with h|⟨k,hk,h⟩
  ·exact hi _ h
  ·exact znA hcl n k (hcl k (hi k hk)) h
inductive Sched (ops:Array Oper):Nat→Array Bool→List Nat→Prop
 |zero (listed:Array Bool):Sched ops 0 listed []
 |stop (n:Nat) (listed:Array Bool) (h:Region.ready .any ops listed= []):Sched ops (n+1) listed []
 |step (n:Nat) (listed:Array Bool) (i:Nat) (l:List Nat) (h:i∈Region.ready .any ops listed) (hl:Sched ops n (listed.setIfInBounds i true) l):Sched ops (n+1) listed (i::l)
theorem zw5 (ops:Array Oper):∀(fuel t:Nat) (listed:Array Bool),Sched ops fuel listed (Region.linearise.go .any ops fuel t listed [])
 |0,t,listed=>by simp only [Region.linearise.go,List.reverse_nil];exact .zero _
 |fuel+1,t,listed=>by
  simp only [Region.linearise.go]
  change Sched ops (fuel+1) listed (match (Region.ready .any ops listed)[t%(Region.ready .any ops listed).length]? with
   |some i=>Region.linearise.go .any ops fuel (t/(Region.ready .any ops listed).length) (listed.setIfInBounds i true) [i]
   |none=> [].reverse)
  cases hi:(Region.ready .any ops listed)[t%(Region.ready .any ops listed).length]? with
  |none=>
   have hnil:Region.ready .any ops listed= []:=by
    cases hr:Region.ready .any ops listed with
    |nil=>rfl
    |cons x xs=>
     rw [hr] at hi
     have hlt:t%(x::xs).length<(x::xs).length:=ybs _ (by simp)
     simp at hi
     simp at hlt
     omega
   exact .stop _ _ hnil
  |some i=>
   simp only []
   rw [linearise_go_acc,List.reverse_singleton,List.singleton_append]
   exact .step _ _ _ _ (yaf hi) (zw5 ops fuel _ _)
theorem zic {f:Nat×Nat→Bool} {x y:Nat}:∀{C:List (Nat×Nat)},(x,y)∈zge C (C.map f)→∃p∈C,(p=(x,y)∧f p=true)∨(p=(y,x)∧f p=false)
 | [],h=>by simp [zge] at h
 |p::C,h=>by
  simp only [yc6,zge,ybb] at h
  rcases h with h|h
  ·cases hf:f p with
   |true=>rw [hf] at h;exact ⟨p,by simp,.inl ⟨by simpa using h.symm,hf⟩⟩
   |false=>
    rw [hf] at h
    simp only [yds,if_false,Prod.mk.injEq] at h
    exact ⟨p,by simp,.inr ⟨by rw [h.1,h.2],hf⟩⟩
  ·obtain ⟨q,hq,h⟩:=zic h
   exact ⟨q,by simp [hq],h⟩
theorem ziO {l:List Nat} {j x:Nat} (h:j≠x):(x::l).idxOf j=l.idxOf j+1:=by
 rw [List.idxOf_cons]
 have:(x==j)=false:=by simp [Ne.symm h]
 rw [this];rfl
theorem ziX {l:List Nat} {j:Nat}:∀{d:List Nat},j∉d→(d++l).idxOf j=d.length+l.idxOf j
 | [],_=>by simp
 |x::d,h=>by
  simp only [ybb,not_or] at h
  rw [ybv,ziO h.1,ziX h.2];simp;omega
theorem zwg {C:List (Nat×Nat)} {l₀:List Nat} {x y:Nat} (hC:∀p∈C,p.1≠p.2) (h:(x,y)∈zge C (C.map fun p=>decide (l₀.idxOf p.1<l₀.idxOf p.2))):x≠y∧l₀.idxOf x≤l₀.idxOf y:=by
 obtain ⟨p,hp,(⟨rfl,hb⟩|⟨rfl,hb⟩)⟩:=zic h
 ·simp only [decide_eq_true_eq] at hb
  exact ⟨hC _ hp,ydx hb⟩
 ·simp only [decide_eq_false_iff_not] at hb
  exact ⟨fun h=>hC _ hp h.symm,yd0 hb⟩
theorem zx2 {done rest:List Nat} {y:Nat} (h:y∈done):(done++rest).idxOf y<done.length:=by
 induction done with
 |nil=>cases h
 |cons a done ih=>
  by_cases ha:y=a
  ·subst ha;simp [List.idxOf_cons]
  ·rw [ybv,ziO ha,ybf]
   have:=ih ((ybb.1 h).resolve_left ha)
   omega
theorem z0x {C:List (Nat×Nat)} {l₀ done l':List Nat} {i x y:Nat} (hC:∀p∈C,p.1≠p.2) (hl0:l₀=done++i::l') (hidx:l₀.idxOf i=done.length) (h:(x,y)∈zge C (C.map fun p=>decide (l₀.idxOf p.1<l₀.idxOf p.2))) (hy:y∈done∨y=i):x∈done:=by
 obtain ⟨hne,hle⟩:=zwg hC h
 have hy':y∈done→l₀.idxOf y<done.length:=fun h=>by rw [hl0];exact zx2 h
 by_cases hx:x∈done
 ·exact hx
 exfalso
 by_cases hxi:x=i
 ·subst hxi
  rw [hidx] at hle
  rcases hy with hy|hy
  ·have:=hy' hy;omega
  ·exact hne hy.symm
 ·have hxx:l₀.idxOf x=done.length+(l'.idxOf x+1):=by rw [hl0,ziX hx,ziO hxi]
  rcases hy with hy|hy
  ·have:=hy' hy;omega
  ·subst hy;omega
theorem zgk:∀(l:List Bool),l∈zeI l.length
 | []=>by simp [zeI]
 |b::l=>by
  simp only [ybf,zeI,yeh]
  exact ⟨l,zgk l,by cases b<;>simp⟩
theorem z6g {N:Nat} {ops:Array Oper} {loud:List FuncId} {D:List Deferred} {κ₀:Key} {Im₀:Addr→Prop} {w₀:World} {QA:Frame→zac→Prop} {Q:Exit→Act→World→Prop} {C:List (Nat×Nat)} {l₀:List Nat} {L:List AIns} (hL:∀(i:Nat) (o:Oper),ops[i]? =some o→∃x,L[i]? =some x∧∀K f σ,zbk P K x f σ→zbk P K (zfH loud (zjj loud (zcS P N ops o))) f σ)
  (hC:∀p∈C,p.1≠p.2) (hQ:∀f σ κ Im a w,QA f σ→St base κ₀ Im₀ w₀ N D f σ κ Im a w→Q .normal a w):∀(n:Nat) (l done rem:List Nat) (listed:Array Bool) (f:Frame) (σ:zac) (κ:Key) (Im:Addr→Prop) (a:Act) (w:World),Sched ops n listed l→l₀=done++l→(∀j∈done,listed.getD j true=true)→(∀j,j∈done↔listed.getD j false=true)→rem.length=n→rem.Nodup→
  (∀i,i∈rem↔i<ops.size∧listed.getD i true=false)→listed.size=ops.size→(∀i,listed.getD i false=true→∀k∈zeP ops i,listed.getD k false=true)→
  rem.Pairwise (fun j i=>zpw (zge C (C.map fun p=>decide (l₀.idxOf p.1<l₀.idxOf p.2))) L ops j i=true)→(∀i∈rem,z0u ops i=true)→
  zcM P QA (rem.filterMap fun i=>L[i]?) f σ→St base κ₀ Im₀ w₀ N D f σ κ Im a w→wpOps P ops Q l a w:=by
 intro n
 induction n with
 |zero=>
  intro l done rem listed f σ κ Im a w hsch hl0 hdone hdf hlen hnd hmem hsz hcl hp hd h hst
  have:rem= []:=yap hlen
  subst this
  cases hsch
  exact hQ f σ κ Im a w (by simpa [zcM] using h) hst
 |succ n ih=>
  intro l done rem listed f σ κ Im a w hsch hl0 hdone hdf hlen hnd hmem hsz hcl hp hd h hst
  cases hsch with
  |stop _ _ hr=>
   -- some operation is ready
   exfalso
   match rem,hlen with
   |j::rest,_=>
    have hj:=(hmem j).1 (by simp)
    have hready:j∈Region.ready .any ops listed:=by
     refine mem_ready.2 ⟨hj.2,ops[j],ybx hj.1,fun e he hb=> ?_⟩
     have hk:e.on∈zeP ops j:=(ziT (ybx hj.1)).2 ⟨e,he,hb,rfl⟩
     have hdj:=hd j (by simp)
     unfold z0u at hdj
     have:=yaz.1 hdj _ hk
     simp only [yb3,bne_iff_ne,ne_eq,decide_eq_true_eq] at this
     have hnot:e.on∉j::rest:=by
      intro hm
      rcases ybb.1 hm with hm|hm
      ·exact this.1 hm
      ·have hpo:=(yd7.1 hp).1 _ hm
       unfold zpw at hpo
       simp only [yb3,Bool.not_eq_true',ydw,decide_eq_false_iff_not] at hpo
       exact hpo.1.1 hk
     have h0:¬(listed.getD e.on true=false):=fun h0=>hnot ((hmem _).2 ⟨this.2,h0⟩)
     have hlt:e.on<listed.size:=by rw [hsz];exact this.2
     simp only [ybc,ybx hlt,Option.getD_some] at h0⊢
     simpa using h0
    rw [hr] at hready;cases hready
  |step _ _ i l' hi hsch'=>
   obtain ⟨hun,o,ho,hdeps⟩:=mem_ready.1 hi
   have hio:i<ops.size:=(ya7.1 ho).1
   have him:i∈rem:=(hmem i).2 ⟨hio,hun⟩
   have hidx:l₀.idxOf i=done.length:=by
    have:i∉done:=fun hm=>by have:=hdone i hm;rw [hun] at this;cases this
    rw [hl0,ziX this];simp
   have hjx:∀j,j≠i→listed.getD j true=false→¬(l₀.idxOf j≤done.length):=by
    intro j hji hju hle
    have:j∉done:=fun hm=>by have:=hdone j hm;rw [hju] at this;cases this
    rw [hl0,ziX this,ziO hji] at hle
    omega
   obtain ⟨pre,post,rfl⟩:=List.append_of_mem him
   have hdl:∀k∈zeP ops i,listed.getD k false=true:=fun k hk=>by
    obtain ⟨e,he,hb,rfl⟩:=(ziT ho).1 hk
    exact hdeps e he hb
   obtain ⟨X,hLi,hXr⟩:=hL i o ho
   have hne:∀j∈pre,j≠i:=fun j hj he=>by
    subst he
    exact (ydi.1 hnd).2.2 j hj j (by simp) rfl
   have hcomm:∀x∈pre.filterMap (fun i=>L[i]?),zoX x X=true:=by
    intro x hx
    obtain ⟨j,hj,hxj⟩:=List.mem_filterMap.1 hx
    have hju:=((hmem j).1 (by simp [hj])).2
    have hpo:=(ydv.1 hp).2.2 j hj i (by simp)
    unfold zpw at hpo
    simp only [yb3,Bool.or_eq_true,ydw,decide_eq_true_eq] at hpo
    rcases hpo.2 with (h1|h1)|h1
    ·rw [hxj,hLi] at h1;exact h1
    ·exfalso
     obtain ⟨p,hp,(⟨rfl,hb⟩|⟨rfl,hb⟩)⟩:=zic h1
     ·simp only [decide_eq_true_eq] at hb
      exact hjx j (hne j hj) hju (by omega)
     ·simp only [decide_eq_false_iff_not] at hb
      exact hjx j (hne j hj) hju (by omega)
    ·have hcle:∀q,(listed.getD q false=true∨q=i)→∀k∈zuc (zge C (C.map fun p=>decide (l₀.idxOf p.1<l₀.idxOf p.2))) ops q,listed.getD k false=true:=by
      intro q hq k hk
      simp only [zuc,yai,yav,ybn,beq_iff_eq] at hk
      rcases hk with hk|⟨⟨k',q'⟩,⟨he,rfl⟩,rfl⟩
      ·rcases hq with hq|rfl
       ·exact hcl q hq k hk
       ·exact hdl k hk
      ·refine (hdf _).1 (z0x hC hl0 hidx he ?_)
       rcases hq with hq|hq
       ·exact .inl ((hdf _).2 hq)
       ·exact .inr hq
     have hjl:=znA (fun q hq=>hcle q (.inl hq)) _ i (hcle i (.inr rfl)) h1
     have hjs:j<listed.size:=by rw [hsz];exact ((hmem j).1 (by simp [hj])).1
     simp only [ybc,ybx hjs,Option.getD_some] at hjl hju
     rw [hjl] at hju;cases hju
   have hfm:(pre++i::post).filterMap (fun i=>L[i]?)=pre.filterMap (fun i=>L[i]?)++X::post.filterMap (fun i=>L[i]?):=by
    rw [List.filterMap_append,List.filterMap_cons,hLi]
   rw [hfm] at h
   have hins:=zwN _ f σ hcomm h
   rw [←List.filterMap_append] at hins
   have hmi:i∉pre++post:=by
    have:=(ydi.1 hnd)
    intro hm
    rcases yai.1 hm with hm|hm
    ·exact this.2.2 i hm i (by simp) rfl
    ·exact (ydl.1 this.2.1).1 hm
   have hsub:(pre++post).Sublist (pre++i::post):=List.Sublist.append_left (List.sublist_cons_self i post) pre
   have hstep:=z4O (Q:=Q) (next:=wpOps P ops Q l') hst.st hst.fr hst.sz (.inl (hXr _ _ _ hins)) (fun f' σ' κ' Im' a' w' hK h1 h2 h3 h4 h5=>by
    refine ih l' (done++ [i]) (pre++post) _ f' σ' κ' Im' a' w' hsch' (by rw [hl0];simp) (fun j hj=> ?_) (fun j=> ?_) (by simp at hlen⊢;omega) (hnd.sublist hsub) (fun k=> ?_) (by simp [hsz]) (fun k hk q hq=> ?_) (hp.sublist hsub) (fun k hk=>hd k (hsub.subset hk)) hK ⟨h1,h2,h3.trans hst.df,h4,hst.gr.trans h5⟩
    ·rcases yai.1 hj with hj|hj
     ·by_cases hji:j=i
      ·subst hji;simp [hsz,hio]
      ·have e:(listed.setIfInBounds i true).getD j true=listed.getD j true:=by
        simp only [ybc];rw [yb2 (Ne.symm hji)]
       rw [e];exact hdone j hj
     ·have:j=i:=by simpa using hj
      subst this;simp [hsz,hio]
    ·by_cases hji:j=i
     ·subst hji;simp [hsz,hio]
     ·have e:(listed.setIfInBounds i true).getD j false=listed.getD j false:=by
       simp only [ybc];rw [yb2 (Ne.symm hji)]
      rw [e,←hdf j]
      simp [hji]
    ·by_cases hki:k=i
     ·subst hki
      constructor
      ·intro hm;exact absurd hm hmi
      ·rintro ⟨h1,h2⟩
       simp [hsz,h1] at h2
     ·have e:(listed.setIfInBounds i true).getD k true=listed.getD k true:=by
       simp only [ybc];rw [yb2 (Ne.symm hki)]
      rw [e,←hmem k]
      simp [hki]
    ·by_cases hqi:q=i
     ·subst hqi;simp [hsz,hio]
     ·have e:(listed.setIfInBounds i true).getD q false=listed.getD q false:=by
       simp only [ybc];rw [yb2 (Ne.symm hqi)]
      rw [e]
      by_cases hki:k=i
      ·subst hki;exact hdl q hq
      ·have e2:(listed.setIfInBounds i true).getD k false=listed.getD k false:=by
        simp only [ybc];rw [yb2 (Ne.symm hki)]
       rw [e2] at hk
       exact hcl k hk q hq)
   simp only [wpOps,ho]
   split
   ·rename_i hw;rw [if_pos hw] at hstep;exact .inl hstep
   ·rename_i hw;rw [if_neg hw] at hstep;exact hstep
theorem St.drawn {κ₀:Key} {Im₀:Addr→Prop} {w₀:World} {N:Nat} {D:List Deferred} {f:Frame} {σ:zac} {κ:Key} {Im:Addr→Prop} {a:Act} {w:World} (h:St base κ₀ Im₀ w₀ N D f σ κ Im a w):St base κ₀ Im₀ w₀ N D f σ κ Im a {w with drawn:=w.drawn+1}:=by
 have hg:Grow base κ Im w κ Im {w with drawn:=w.drawn+1}:=⟨fun _ _ _ h=>h,fun _ h=>h,fun _ _=>rfl,fun _ h=> .inl h,⟨rfl,rfl,rfl,yaq _,fun _ _=>rfl⟩⟩
 exact ⟨h.fr.grow hg,h.sz,h.df,h.st.world (fun _ h=>h) (fun _ h=> .inl h) (yaq _) (fun _ _=>rfl),h.gr.trans hg⟩
def RegPre (P:Program) (ops:Array Oper) (draw:Bool) (Q:Exit→Act→World→Prop) (a:Act) (w:World):Prop:=match draw with
 |false=>wpOps P ops Q (List.range ops.size) a w
 |true=>∀t,wpOps P ops Q (Region.schedule (P.follows .mixedOrders) ops t) a {w with drawn:=w.drawn+1}
theorem RegPre.wp {id:Nat} {ops:Array Oper} {draw:Bool} {Q:Exit→Act→World→Prop} {a:Act} {w:World} (h:RegPre P ops draw Q a w):(Code.region id ops draw).wp P Q a w:=by
 cases draw with
 |false=>exact wp_region h
 |true=>exact wp_region_draw h
theorem RegPre.of_list {ops:Array Oper} {Q:Exit→Act→World→Prop} {a:Act} {w:World} (h:wpList P ops Q ops.toList a w):RegPre P ops false Q a w:=by
 show wpOps P ops Q (List.range ops.size) a w
 rw [List.range_eq_range',←ya4,wpOps_eq_wpList ops.toList 0 (by simp)];exact h
theorem zvK (hm:P.follows .mixedOrders=true) {N:Nat} {loud:List FuncId} {ops:Array Oper} {D:List Deferred} {κ₀:Key} {Im₀:Addr→Prop} {w₀:World} {QA:AExit→Frame→zac→Prop} {Q:Exit→Act→World→Prop} {f:Frame} {σ:zac} {κ:Key} {Im:Addr→Prop} {a:Act} {w:World}
  (hQ:∀f σ κ Im a w,QA .normal f σ→St base κ₀ Im₀ w₀ N D f σ κ Im a w→Q .normal a w) {L:List AIns} (hL:∀(i:Nat) (o:Oper),ops[i]? =some o→∃x,L[i]? =some x∧∀K f σ,zbk P K x f σ→zbk P K (zfH loud (zjj loud (zcS P N ops o))) f σ)
  {C:List (Nat×Nat)} (hC:∀p∈C,p.1≠p.2) {orders:List (List Nat)} (hcov:∀l:List Nat,Sched ops ops.size (Array.replicate ops.size false) l→∃order∈orders,zoY L ops (zge C (C.map fun p=>decide (l.idxOf p.1<l.idxOf p.2)))=some order)
  (hall:∀order∈orders,zcM P (QA .normal) (order.filterMap fun i=>L[i]?) f σ) (hst:St base κ₀ Im₀ w₀ N D f σ κ Im a w):RegPre P ops true Q a w:=by
 intro t
 simp only [Region.schedule,hm,Bool.true_or,if_true]
 have hsch:=zw5 ops ops.size t (Array.replicate ops.size false)
 change wpOps P ops Q (Region.linearise.go .any ops ops.size t (Array.replicate ops.size false) []) a _
 generalize Region.linearise.go .any ops ops.size t (Array.replicate ops.size false) []=l at hsch⊢
 obtain ⟨order,hq,hchk⟩:=hcov l hsch
 unfold zoY at hchk
 rw [zhf,zhf] at hchk
 have hdem:=hall _ hq
 unfold zqi at hchk
 split at hchk
 case isFalse=>cases hchk
 rename_i hc
 simp only [yab] at hchk
 rw [hchk] at hc
 obtain ⟨h1,h2,h3,h4,h5⟩:=hc
 have hsz:(Array.replicate ops.size false).size=ops.size:=by simp
 refine z6g (loud:=loud) (C:=C) hL hC hQ ops.size l [] order (Array.replicate ops.size false) f σ κ Im a _ hsch rfl (fun j hj=>by cases hj) (fun j=>by by_cases hlt:j<ops.size<;>simp [hlt]) h1 h3 (fun i=> ?_) hsz (fun i hi=> ?_) (zn4.1 h5) (fun i hi=> ?_) hdem hst.drawn
 ·constructor
  ·intro hi
   have:=yaz.1 h4 i hi
   simp only [yb3,decide_eq_true_eq] at this
   exact ⟨this.1,by simp [this.1]⟩
  ·rintro ⟨hi,_⟩
   have:=yaz.1 h2 i (yee.2 hi)
   simpa using this
 ·by_cases hlt:i<ops.size<;>simp [hlt] at hi
 ·have:=yaz.1 h4 i hi
  simp only [yb3,decide_eq_true_eq] at this
  exact this.2
theorem zis {L:List AIns} {k:ACode} {orders:Option (List (List Nat))} {QA:AExit→Frame→zac→Prop} {f:Frame} {σ:zac} (h:awp P (zos L k orders) QA f σ):
  (∃os,orders=some os∧∀order∈os,zcM P (QA .normal) (order.filterMap fun i=>L[i]?) f σ)∨(orders=none∧awp P k QA f σ):=by
 unfold zos at h
 split at h
 ·refine .inl ⟨_,rfl,fun order' hm=> ?_⟩
  rw [ybh.1 hm];exact h
 ·exact .inl ⟨_,rfl,fun order' hm=>h _ (List.mem_map_of_mem hm)⟩
 ·exact .inr ⟨rfl,h⟩
theorem ztc {x:AIns} {K:Frame→zac→Prop} {f:Frame} {σ:zac} (h:zbk P K (zzV x) f σ):zbk P K x f σ:=by
 have key:∀{K:AV→zac→Prop} {o:AOp},za0 P K f σ (z7N o)→za0 P K f σ o:=by
  intro K o h
  cases o<;>try exact h
  case load ag n x=>
   obtain ⟨r,h1,h2⟩:=h
   refine ⟨r, ?_,h2⟩
   change zl7 ag n (x.ev f)=some r at h1
   show (zaP σ (x.ev f) n).bind (zfE ag)=some r
   unfold zl7 at h1
   split at h1
   case h_2=>cases h1
   rename_i cells he
   split at h1
   case isFalse=>cases h1
   rename_i hl
   simp only [he,zaP,if_pos hl,ydr]
   exact h1
  case iaddr n x i=>
   obtain ⟨r,h1,h2⟩:=h
   refine ⟨r, ?_,h2⟩
   change zoo n (zhl (i.ev f)) (x.ev f)=some r at h1
   unfold zoo at h1
   split at h1
   case h_2=>cases h1
   rename_i k l hi he
   simp only [za3,hi,he]
   exact h1
 obtain ⟨g,d,o⟩:=x
 cases g with
 |none=>exact key (K:=fun r σ'=>K (f.put d r) σ') h
 |some p=>
  obtain ⟨t,b⟩:=p
  obtain ⟨c,h1,h2,h3⟩:=h
  exact ⟨c,h1,fun hc=>key (K:=fun r σ'=>K (f.put d r) σ') (h2 hc),h3⟩
theorem zvn {L:List AIns} {x:AIns} {K:Frame→zac→Prop} {f:Frame} {σ:zac} (h:zbk P K (zlW L x) f σ):zbk P K x f σ:=by
 have key:∀{K:AV→zac→Prop} {e n b:Nat} {x y:Opd},za0 P K f σ (.apt e n b x y)→za0 P K f σ (.app e n b x y):=by
  intro K e n b x y h
  obtain ⟨l,m,im,h1,h2,h3,h4,h5,h6,h7,h8,h9,h10⟩:=h
  refine ⟨m,h2,h3,h4, ?_⟩
  rw [h1]
  exact ⟨im,h5,h6,h7,h8,h9,h10⟩
 obtain ⟨g,d,o⟩:=x
 unfold zlW at h
 split at h
 case h_2=>exact h
 rename_i e n b t y he
 simp only at he
 subst he
 split at h
 case isFalse=>exact h
 cases g with
 |none=>exact key (K:=fun r σ'=>K (f.put d r) σ') h
 |some p=>
  obtain ⟨t,b⟩:=p
  obtain ⟨c,h1,h2,h3⟩:=h
  exact ⟨c,h1,fun hc=>key (K:=fun r σ'=>K (f.put d r) σ') (h2 hc),h3⟩
theorem zjO (C:List (Nat×Nat)):∀(L:List AIns) (n i:Nat) (x:AIns),L[i]? =some x→∃y,(zgC C n L)[i]? =some y∧(y=x∨y=zzV x)
 | [],n,i,x,h=>by simp at h
 |z::L,n,0,x,h=>by
  simp only [ybm,yab] at h
  subst h
  simp only [zgC,ybm,yab]
  split
  ·exact ⟨_,rfl,.inr rfl⟩
  ·exact ⟨_,rfl,.inl rfl⟩
 |z::L,n,i+1,x,h=>by
  simp only [ydg] at h
  simp only [zgC,ydg]
  exact zjO C L (n+1) i x h
theorem z8x {C:List (Nat×Nat)} (hC:∀p∈C,p.1<p.2) (l:List Nat):tri (zge C (C.map fun p=>decide (l.idxOf p.1<l.idxOf p.2)))=false:=by
 have key:∀x y,(x,y)∈zge C (C.map fun p=>decide (l.idxOf p.1<l.idxOf p.2))→l.idxOf x<l.idxOf y∨(l.idxOf x=l.idxOf y∧y<x):=by
  intro x y h
  obtain ⟨p,hp,(⟨rfl,hb⟩|⟨rfl,hb⟩)⟩:=zic h
  ·simp only [decide_eq_true_eq] at hb;exact .inl hb
  ·simp only [decide_eq_false_iff_not] at hb
   have:=hC _ hp
   simp only at this
   omega
 cases ht:tri (zge C (C.map fun p=>decide (l.idxOf p.1<l.idxOf p.2))) with
 |false=>rfl
 |true=>
  exfalso
  unfold tri at ht
  simp only [List.any_eq_true,yb3,beq_iff_eq,ydw,decide_eq_true_eq] at ht
  obtain ⟨⟨a,b⟩,h1,⟨c,d⟩,h2,h3,h4⟩:=ht
  simp only at h3 h4
  subst h3
  have k1:=key _ _ h1
  have k2:=key _ _ h2
  have k3:=key _ _ h4
  omega
theorem z0g {b x:Nat} {l:List Nat} (h:b≠x):(b::l).idxOf x=l.idxOf x+1:=by
 have:(b==x)=false:=by simpa using h
 simp [List.idxOf_cons,this]
theorem z0a {ops:Array Oper} (hlt:zwM ops=true):∀(n:Nat) (listed:Array Bool) (l rem:List Nat),Sched ops n listed l→listed.size=ops.size→rem.Nodup→(∀i,i∈rem↔i<ops.size∧listed.getD i true=false)→rem.length≤n→
  (∀i,i<ops.size→listed.getD i true=false→i∈l)∧∀i∈l,i<ops.size∧∀j∈zeP ops i,listed.getD j false=true∨l.idxOf j<l.idxOf i:=by
 intro n
 induction n with
 |zero=>
  intro listed l rem h hsz hnd hmem hlen
  have:rem= []:=yap (by omega)
  subst this
  cases h
  exact ⟨fun i h1 h2=>absurd ((hmem i).2 ⟨h1,h2⟩) (by simp),fun i hi=>by cases hi⟩
 |succ n ih=>
  intro listed l rem h hsz hnd hmem hlen
  cases h with
  |stop _ _ hr=>
   refine ⟨fun i=> ?_,fun i hi=>by cases hi⟩
   induction i using Nat.strongRecOn with
   |_ i hi=>
    intro h1 h2
    exfalso
    have hready:i∈Region.ready .any ops listed:=by
     refine mem_ready.2 ⟨h2,ops[i],ybx h1,fun e he hb=> ?_⟩
     have hk:e.on∈zeP ops i:=(ziT (ybx h1)).2 ⟨e,he,hb,rfl⟩
     have hki:e.on<i:=by
      have:=yaz.1 (yaz.1 hlt i (yee.2 h1)) _ hk
      simpa using this
     have hl:e.on<listed.size:=by omega
     have h0:¬(listed.getD e.on true=false):=fun h0=>absurd (hi _ hki (by omega) h0) (by simp)
     simp only [ybc,ybx hl,Option.getD_some] at h0⊢
     simpa using h0
    rw [hr] at hready;cases hready
  |step _ _ x l' hx hsch'=>
   obtain ⟨hun,o,ho,hdeps⟩:=mem_ready.1 hx
   have hxs:x<ops.size:=(ya7.1 ho).1
   have hxm:x∈rem:=(hmem x).2 ⟨hxs,hun⟩
   have hset:∀j (d:Bool),j≠x→(listed.setIfInBounds x true).getD j d=listed.getD j d:=fun j d hj=>by
    simp only [ybc,Array.getElem?_setIfInBounds]
    rw [if_neg (Ne.symm hj)]
   have hself:(listed.setIfInBounds x true).getD x true=true:=by
    simp only [ybc,Array.getElem?_setIfInBounds]
    rw [if_pos trivial,if_pos (by omega)]
    rfl
   obtain ⟨k1,k2⟩:=ih (listed.setIfInBounds x true) l' (rem.erase x) hsch' (by simpa using hsz) (hnd.erase x) (fun i=>by
    rw [hnd.mem_erase_iff,hmem i]
    constructor
    ·rintro ⟨h1,h2,h3⟩;exact ⟨h2,by rw [hset i true h1];exact h3⟩
    ·rintro ⟨h1,h2⟩
     have hne:i≠x:=fun he=>by rw [he,hself] at h2;cases h2
     exact ⟨hne,h1,by rw [←hset i true hne];exact h2⟩) (by rw [List.length_erase_of_mem hxm];omega)
   have hdl:∀j∈zeP ops x,listed.getD j false=true:=fun j hj=>by
    obtain ⟨e,he,hb,rfl⟩:=(ziT ho).1 hj
    exact hdeps e he hb
   refine ⟨fun i h1 h2=> ?_,fun i hi=> ?_⟩
   ·by_cases hix:i=x
    ·subst hix;exact List.mem_cons_self
    ·exact ybq _ (k1 i h1 (by rw [hset i true hix];exact h2))
   ·by_cases hix:i=x
    ·subst hix
     exact ⟨hxs,fun j hj=> .inl (hdl j hj)⟩
    ·have hil:i∈l':=by
      rcases ybb.1 hi with h|h
      ·exact absurd h hix
      ·exact h
     obtain ⟨k3,k4⟩:=k2 i hil
     refine ⟨k3,fun j hj=> ?_⟩
     by_cases hjx:j=x
     ·subst hjx
      right
      rw [List.idxOf_cons_self,z0g (Ne.symm hix)]
      omega
     ·rcases k4 j hj with h|h
      ·rw [hset j false hjx] at h;exact .inl h
      ·right
       rw [z0g (Ne.symm hjx),z0g (Ne.symm hix)]
       omega
theorem zyL {ops:Array Oper} (hlt:zwM ops=true) {l:List Nat} (h:Sched ops ops.size (Array.replicate ops.size false) l):(∀i,i<ops.size→i∈l)∧∀i,i<ops.size→∀j∈zeP ops i,j<ops.size∧l.idxOf j<l.idxOf i:=by
 have hz:∀i,i<ops.size→(Array.replicate ops.size false).getD i true=false:=fun i hi=>by simp [hi]
 obtain ⟨k1,k2⟩:=z0a hlt ops.size _ l (List.range ops.size) h (by simp) List.nodup_range (fun i=>by
  rw [yee]
  exact ⟨fun hi=>⟨hi,hz i hi⟩,fun hi=>hi.1⟩) (by simp)
 refine ⟨fun i hi=>k1 i hi (hz i hi),fun i hi j hj=> ?_⟩
 have hji:j<i:=by
  have:=yaz.1 (yaz.1 hlt i (yee.2 hi)) _ hj
  simpa using this
 refine ⟨by omega, ?_⟩
 rcases (k2 i (k1 i hi (hz i hi))).2 j hj with h|h
 ·have:j<ops.size:=by omega
  simp [this] at h
 ·exact h
theorem zxJ {ops:Array Oper} {l:List Nat} {E:List (Nat×Nat)} (h1:∀i,i<ops.size→∀j∈zeP ops i,j<ops.size∧l.idxOf j<l.idxOf i) (h2:∀p∈E,p.1<ops.size∧l.idxOf p.1<l.idxOf p.2):∀(n i j:Nat),i<ops.size→zj6 E ops j n i=true→l.idxOf j<l.idxOf i:=by
 have hd:∀i,i<ops.size→∀k∈zuc E ops i,k<ops.size∧l.idxOf k<l.idxOf i:=by
  intro i hi k hk
  unfold zuc at hk
  rcases yai.1 hk with hk|hk
  ·exact h1 i hi k hk
  ·obtain ⟨p,hp,rfl⟩:=yav.1 hk
   obtain ⟨hp1,hp2⟩:=ybn.1 hp
   obtain ⟨a,b⟩:=h2 p hp1
   simp only [beq_iff_eq] at hp2
   rw [←hp2]
   exact ⟨a,b⟩
 intro n
 induction n with
 |zero=>intro i j _ h;simp [zj6] at h
 |succ n ih=>
  intro i j hi h
  unfold zj6 at h
  simp only [Bool.or_eq_true,ydw,decide_eq_true_eq,List.any_eq_true] at h
  rcases h with h|⟨k,hk,h⟩
  ·exact (hd i hi j h).2
  ·obtain ⟨k1,k2⟩:=hd i hi k hk
   have:=ih k j k1 h
   omega
theorem z3C {ops:Array Oper} {C:List (Nat×Nat)} (hlt:zwM ops=true) (hC:∀p∈C,p.1<p.2∧p.2<ops.size) {l:List Nat} (h:Sched ops ops.size (Array.replicate ops.size false) l):acyc (zge C (C.map fun p=>decide (l.idxOf p.1<l.idxOf p.2))) ops=true:=by
 obtain ⟨k1,k2⟩:=zyL hlt h
 have key:∀p∈zge C (C.map fun p=>decide (l.idxOf p.1<l.idxOf p.2)),(p.1<ops.size∧p.2<ops.size)∧l.idxOf p.1<l.idxOf p.2:=by
  rintro ⟨x,y⟩ hp
  obtain ⟨p,hp,(⟨rfl,hb⟩|⟨rfl,hb⟩)⟩:=zic hp
  ·simp only [decide_eq_true_eq] at hb
   obtain ⟨a,b⟩:=hC _ hp
   simp only at a b⊢
   exact ⟨⟨by omega,b⟩,hb⟩
  ·simp only [decide_eq_false_iff_not] at hb
   obtain ⟨a,b⟩:=hC _ hp
   simp only at a b hb⊢
   refine ⟨⟨b,by omega⟩, ?_⟩
   rcases yel (l.idxOf x) (l.idxOf y) with h0|h0
   ·exact h0
   ·exfalso
    have he:l.idxOf x=l.idxOf y:=by omega
    have m1:l.idxOf x<l.length:=List.idxOf_lt_length_of_mem (k1 x b)
    have m2:l.idxOf y<l.length:=List.idxOf_lt_length_of_mem (k1 y (by omega))
    have g1:=List.getElem_idxOf m1
    have g2:=List.getElem_idxOf m2
    have:x=y:=by rw [←g1,←g2];congr 1
    omega
 unfold acyc
 refine yaz.2 fun p hp=> ?_
 obtain ⟨⟨a,b⟩,c⟩:=key p hp
 cases hr:zj6 (zge C (C.map fun p=>decide (l.idxOf p.1<l.idxOf p.2))) ops p.2 ops.size p.1 with
 |false=>rfl
 |true=>
  have:=zxJ k2 (fun q hq=>⟨(key q hq).1.1,(key q hq).2⟩) ops.size p.1 p.2 a hr
  omega
theorem zx1 (hm:P.follows .mixedOrders=true) {N:Nat} {loud:List FuncId} {ops:Array Oper} {draw:Bool} {D:List Deferred} {κ₀:Key} {Im₀:Addr→Prop} {w₀:World} {QA:AExit→Frame→zac→Prop} {Q:Exit→Act→World→Prop} {f:Frame} {σ:zac} {κ:Key} {Im:Addr→Prop} {a:Act} {w:World}
  (hQ:∀f σ κ Im a w,QA .normal f σ→St base κ₀ Im₀ w₀ N D f σ κ Im a w→Q .normal a w) (h:awp P (zjg P N loud ops draw) QA f σ) (hst:St base κ₀ Im₀ w₀ N D f σ κ Im a w):RegPre P ops draw Q a w:=by
 unfold zjg at h
 cases draw with
 |false=>exact RegPre.of_list (z4Z hQ ops.toList f σ κ Im a w h hst)
 |true=>
  simp only [Bool.not_true,yds,if_false] at h
  rw [List.map_map] at h
  rw [zhf] at h
  have hL0:∀(i:Nat) (o:Oper),ops[i]? =some o→(List.map (zfH loud∘fun o=>zjj loud (zcS P N ops o)) ops.toList)[i]? =some (zfH loud (zjj loud (zcS P N ops o))):=fun i o ho=>by simp [ho]
  generalize List.map (zfH loud∘fun o=>zjj loud (zcS P N ops o)) ops.toList=L at h hL0
  generalize zjZ L ops=C at h
  split at h
  ·have three:∀(L2:List AIns) (C2:List (Nat×Nat)) (orders:List (List Nat)),(∀(i:Nat) (o:Oper),ops[i]? =some o→∃x,L2[i]? =some x∧∀K f σ,zbk P K x f σ→zbk P K (zfH loud (zjj loud (zcS P N ops o))) f σ)→zhE L2 ops C2=some orders→(∀order∈orders,zcM P (QA .normal) (order.filterMap fun i=>L2[i]?) f σ)→RegPre P ops true Q a w:=by
    intro L2 C2 orders hL2 hord hall
    unfold zhE at hord
    split at hord
    case isFalse=>cases hord
    rename_i hcond
    obtain ⟨hc1,hc2,_⟩:=hcond
    have hC:∀p∈C2,p.1<p.2∧p.2<ops.size:=fun p hp=>by
     have:=yaz.1 hc1 p hp
     simpa using this
    refine zvK hm hQ hL2 (fun p hp=>Nat.ne_of_lt (hC p hp).1) (orders:=orders) (fun l hsch=> ?_) hall hst
    obtain ⟨ho1,ho2⟩:=mapM_some hord
    have hbm:(C2.map fun p=>decide (l.idxOf p.1<l.idxOf p.2))∈(zeI C2.length).filter fun b=>acyc (zge C2 b) ops:=by
     refine ybn.2 ⟨?_,z3C hc2 hC hsch⟩
     have:=zgk (C2.map fun p=>decide (l.idxOf p.1<l.idxOf p.2))
     rwa [yc0] at this
    obtain ⟨q,hq,hqe⟩:=yaw.1 hbm
    have hq':q<orders.length:=by omega
    have hchk:=ho2 q hq hq'
    rw [hqe] at hchk
    exact ⟨_,yat hq',hchk⟩
   rcases zis h with ⟨orders,hord,hall⟩|⟨_,h⟩
   ·exact three L C orders (fun i o ho=>⟨_,hL0 i o ho,fun _ _ _ h=>h⟩) hord hall
   rw [zhf] at h
   have hL2:∀(i:Nat) (o:Oper),ops[i]? =some o→∃x,(zgC C 0 L)[i]? =some x∧∀K f σ,zbk P K x f σ→zbk P K (zfH loud (zjj loud (zcS P N ops o))) f σ:=fun i o ho=>by
    obtain ⟨y,hy,hy2⟩:=zjO C L 0 i _ (hL0 i o ho)
    refine ⟨y,hy,fun K f σ h=> ?_⟩
    rcases hy2 with rfl|rfl
    ·exact h
    ·exact ztc h
   generalize zgC C 0 L=L2 at h hL2
   generalize zjZ L2 ops=C2 at h
   rcases zis h with ⟨orders,hord,hall⟩|⟨_,h⟩
   ·exact three L2 C2 orders hL2 hord hall
   ·exact h.elim
  rcases zis h with ⟨orders,hord,hall⟩|⟨_,h⟩
  ·unfold zrb at hord
   split at hord
   case isFalse=>cases hord
   rename_i hcond
   have hC:∀p∈C,p.1≠p.2:=fun p hp=>by
    have:=yaz.1 hcond.1 p hp
    simpa using this
   refine zvK hm hQ (fun i o ho=>⟨_,hL0 i o ho,fun _ _ _ h=>h⟩) hC (orders:=orders) (fun l _=> ?_) hall hst
   obtain ⟨ho1,ho2⟩:=mapM_some hord
   have hbm:(C.map fun p=>decide (l.idxOf p.1<l.idxOf p.2))∈zeI C.length:=by
    have:=zgk (C.map fun p=>decide (l.idxOf p.1<l.idxOf p.2))
    rwa [yc0] at this
   obtain ⟨q,hq,hqe⟩:=yaw.1 hbm
   have hq':q<orders.length:=by omega
   have hchk:=ho2 q hq hq'
   rw [hqe] at hchk
   exact ⟨_,yat hq',hchk⟩
  ·have two:∀(L2:List AIns) (C2:List (Nat×Nat)) (orders:List (List Nat)),(∀(i:Nat) (o:Oper),ops[i]? =some o→∃x,L2[i]? =some x∧∀K f σ,zbk P K x f σ→zbk P K (zfH loud (zjj loud (zcS P N ops o))) f σ)→zhC L2 ops C2=some orders→(∀order∈orders,zcM P (QA .normal) (order.filterMap fun i=>L2[i]?) f σ)→RegPre P ops true Q a w:=by
    intro L2 C2 orders hL2 hord hall
    unfold zhC at hord
    split at hord
    case isFalse=>cases hord
    rename_i hcond
    have hC:∀p∈C2,p.1<p.2:=fun p hp=>by
     have:=yaz.1 hcond.1 p hp
     simpa using this
    refine zvK hm hQ hL2 (fun p hp=>Nat.ne_of_lt (hC p hp)) (orders:=orders) (fun l _=> ?_) hall hst
    obtain ⟨ho1,ho2⟩:=mapM_some hord
    have hbm:(C2.map fun p=>decide (l.idxOf p.1<l.idxOf p.2))∈(zeI C2.length).filter fun b=> !tri (zge C2 b):=by
     refine ybn.2 ⟨?_,by rw [z8x hC];rfl⟩
     have:=zgk (C2.map fun p=>decide (l.idxOf p.1<l.idxOf p.2))
     rwa [yc0] at this
    obtain ⟨q,hq,hqe⟩:=yaw.1 hbm
    have hq':q<orders.length:=by omega
    have hchk:=ho2 q hq hq'
    rw [hqe] at hchk
    exact ⟨_,yat hq',hchk⟩
   rcases zis h with ⟨orders,hord,hall⟩|⟨_,h⟩
   ·split at hord
    case isFalse=>cases hord
    refine two (L.map (zlW L)) _ orders (fun i o ho=> ?_) hord hall
    refine ⟨zlW L _,by rw [yb8,hL0 i o ho];rfl,fun K f σ h=>zvn h⟩
   rw [zhf] at h
   have hL2:∀(i:Nat) (o:Oper),ops[i]? =some o→∃x,(zgC C 0 L)[i]? =some x∧∀K f σ,zbk P K x f σ→zbk P K (zfH loud (zjj loud (zcS P N ops o))) f σ:=fun i o ho=>by
    obtain ⟨y,hy,hy2⟩:=zjO C L 0 i _ (hL0 i o ho)
    refine ⟨y,hy,fun K f σ h=> ?_⟩
    rcases hy2 with rfl|rfl
    ·exact h
    ·exact ztc h
   generalize zgC C 0 L=L2 at h hL2
   generalize zjZ L2 ops=C2 at h
   rcases zis h with ⟨orders,hord,hall⟩|⟨_,h⟩
   ·exact two L2 C2 orders hL2 hord hall
   ·exact h.elim
def AExit.conv:AExit→Exit
 | .normal=> .normal
 | .exit id=> .exit id
 | .ret=> .ret
theorem z1f (hm:P.follows .mixedOrders=true) {N:Nat} {loud:List FuncId} {id:Nat} {ops:Array Oper} {draw:Bool} {D:List Deferred} {κ₀:Key} {Im₀:Addr→Prop} {w₀:World} {QA:AExit→Frame→zac→Prop} {Q:Exit→Act→World→Prop} {f:Frame} {σ:zac} {κ:Key} {Im:Addr→Prop} {a:Act} {w:World}
  (hQ:∀f σ κ Im a w,QA .normal f σ→St base κ₀ Im₀ w₀ N D f σ κ Im a w→Q .normal a w) (h:awp P (zjg P N loud ops draw) QA f σ) (hst:St base κ₀ Im₀ w₀ N D f σ κ Im a w):(Code.region id ops draw).wp P Q a w:=(zx1 hm hQ h hst).wp
theorem znE {g:AV→Option AV}:∀{els els':List (List AV)},(els.mapM fun (c:List AV)=>c.mapM g)=some els'→els.flatten.mapM g=some els'.flatten
 | [],els',h=>by simp at h;subst h;simp
 |c::els,els',h=>by
  rw [yb5] at h
  simp only [yah,yac,yam,yab] at h
  obtain ⟨c',h1,l',h2,rfl⟩:=h
  have:=znE h2
  rw [ybd,List.mapM_append,h1,ybd]
  simp [this]
theorem zzf {κ:Key} {Im:Addr→Prop} {σ σ':zac} {w:World} (hs:SRel base κ Im σ w) (hz:Frz σ σ'):∃Im',SRel base κ Im' σ' w∧Grow base κ Im w κ Im' w:=by
 obtain ⟨id,e,size,els,els',he,hm,rfl⟩:=hz
 obtain ⟨v,xs,hk,hown,hvr,hpos,hlens,hones,_,him⟩:=hs.ent _ _ he
 obtain ⟨m1,m2⟩:=mapM_some hm
 have hflat:=znE hm
 obtain ⟨hir,hone'⟩:=zoN hs hvr hflat
 let Im':Addr→Prop:=fun a=>Im a∨(v.ownBlock=some a.block∧a.spot=none∧a.off<els.length*size)
 have hlt:∀b,v.ownBlock=some b→base≤b∧b<w.heap.size:=fun b hb=>hown.lt b hb
 have hlen':∀c∈els',c.length=size:=fun c hc=>by
  obtain ⟨k,hk',rfl⟩:=yaw.1 hc
  have h1:=(mapM_some (m2 k (by omega) hk')).1
  rw [←h1];exact hlens _ (yat _)
 have hones':∀c∈els',∀x∈c,x.one=true:=fun c hc x hx=>hone' (fun y hy=>by
  obtain ⟨d,hd,hyd⟩:=ybk.1 hy
  exact hones d hd y hyd) x (ybk.2 ⟨c,hc,hx⟩)
 have hg:Grow base κ Im w κ Im' w:=⟨fun _ _ _ h=>h,fun _ h=> .inl h,fun _ _=>rfl,fun a h=>h.imp (fun x=>x) fun h=>(hlt _ h.1).1,Below.refl _ _⟩
 have hblk:∀els im,els.length=els'.length→(Entry.row e size els im).block κ id=v.ownBlock:=fun els im h=>by
  simp only [Entry.block,h,←m1,hk];rfl
 refine ⟨Im', ?_,hg⟩
 refine hs.set he (.row e size els' true) (fun _ _ _ h=>h) (fun _ _ _ h=> .inl h) (by simp [Entry.ver,m1]) (fun _ h=> .inl h) (fun _ _=>rfl) (fun a h=> ?_) (yaq _) (fun _ _ _=>rfl) ?_ (fun b hb=> .inr ?_)
 ·rcases h with h|⟨h1,h2,h3⟩
  ·exact .inl h
  ·exact .inr ⟨by rw [hblk _ _ rfl];exact h1,(hlt _ h1).2,h2⟩
 ·refine ⟨v,xs,by rw [←m1];exact hk,by rw [←m1];exact hown,⟨hir.1,fun j h h'=> .im _ _ ((hir.2 j h h').mono (fun _ h=> .inl h) (fun _ _=>rfl))⟩,hpos,hlen',hones',fun _=>⟨hir.1,fun j h h'=>(hir.2 j h h').mono (fun _ h=> .inl h) (fun _ _=>rfl)⟩,fun g hg'=>⟨fun a ha hab=>⟨rfl, ?_⟩,fun _ o ho=> .inr ⟨hg',rfl,by rw [m1];exact ho⟩⟩⟩
  rcases ha with ha|⟨_,_,h3⟩
  ·have:=((him g hg').1 a ha hab).2;rw [←m1];exact this
  ·rw [←m1];exact h3
 ·rw [hblk _ _ rfl] at hb
  rw [hblk _ _ m1];exact hb
theorem z5U (hm:P.follows .mixedOrders=true) {N:Nat} {loud:List FuncId} {D:List Deferred} {κ₀:Key} {Im₀:Addr→Prop} {w₀:World}:∀(c:Code) (QA:AExit→Frame→zac→Prop) (Q:Exit→Act→World→Prop) (f:Frame) (σ:zac) (κ:Key) (Im:Addr→Prop) (a:Act) (w:World),
  (∀e f σ κ Im a w,QA e f σ→St base κ₀ Im₀ w₀ N D f σ κ Im a w→Q e.conv a w)→awp P (comp P N loud c) QA f σ→St base κ₀ Im₀ w₀ N D f σ κ Im a w→c.wp P Q a w:=by
 intro c
 induction c with
 |skip=>intro QA Q f σ κ Im a w hQ h hst;exact wp_skip (hQ .normal _ _ _ _ _ _ h hst)
 |region id ops draw=>intro QA Q f σ κ Im a w hQ h hst;exact z1f hm (hQ .normal) h hst
 |seq x y ihx ihy=>
  intro QA Q f σ κ Im a w hQ h hst
  simp only [comp] at h
  split at h
  ·refine wp_seq (ihx _ _ f σ κ Im a w (fun e f σ κ Im a w h1 h2=> ?_) h hst)
   cases e with
   |normal=>
    rcases h1 with h1|⟨σ',hz,h1⟩
    ·exact ihy QA Q f σ κ Im a w hQ h1 h2
    ·obtain ⟨Im',g1,g2⟩:=zzf h2.st hz
     exact ihy QA Q f σ' κ Im' a w hQ h1 ⟨h2.fr.grow g2,h2.sz,h2.df,g1,h2.gr.trans g2⟩
   |exit id=>exact hQ (.exit id) _ _ _ _ _ _ h1 h2
   |ret=>exact hQ .ret _ _ _ _ _ _ h1 h2
  ·refine wp_seq (ihx _ _ f σ κ Im a w (fun e f σ κ Im a w h1 h2=> ?_) h hst)
   cases e with
   |normal=>exact ihy QA Q f σ κ Im a w hQ h1 h2
   |exit id=>exact hQ (.exit id) _ _ _ _ _ _ h1 h2
   |ret=>exact hQ .ret _ _ _ _ _ _ h1 h2
 |cond c x y ihx ihy=>
  intro QA Q f σ κ Im a w hQ h hst
  simp only [comp] at h
  split at h
  ·rename_i c' hc
   obtain ⟨b,hb,h1,h2⟩:=h
   have hv:=za2 hc hst.fr
   rw [hb] at hv
   refine wp_cond hv.bool_inv ?_
   cases b
   ·exact ihy QA Q f σ κ Im a w hQ (h2 rfl) hst
   ·exact ihx QA Q f σ κ Im a w hQ (h1 rfl) hst
  ·exact h.elim
 |block id c ih=>
  intro QA Q f σ κ Im a w hQ h hst
  refine wp_block (ih _ _ f σ κ Im a w (fun e f σ κ Im a w h1 h2=> ?_) h hst)
  cases e with
  |normal=>exact hQ .normal _ _ _ _ _ _ h1 h2
  |exit id'=>
   simp only [AExit.inBlock] at h1
   simp only [AExit.conv,Exit.inBlock]
   split
   ·rename_i he;rw [if_pos he] at h1;exact hQ .normal _ _ _ _ _ _ h1 h2
   ·rename_i he;rw [if_neg he] at h1;exact hQ (.exit id') _ _ _ _ _ _ h1 h2
  |ret=>exact hQ .ret _ _ _ _ _ _ h1 h2
 |loop c ih=>
  intro QA Q f σ κ Im a w hQ h hst
  obtain ⟨I,n,h0,hround⟩:=h
  refine wp_loop_ghost (fun n a w=>∃f σ κ Im,I n f σ∧St base κ₀ Im₀ w₀ N D f σ κ Im a w) n ⟨f,σ,κ,Im,h0,hst⟩ ?_
  rintro n a w ⟨f,σ,κ,Im,hI,hst⟩
  refine ih _ _ f σ κ Im a w (fun e f σ κ Im a w h1 h2=> ?_) (hround n f σ hI) hst
  cases e with
  |normal=>
   obtain ⟨n',hlt,hI'⟩:=h1
   exact ⟨n',hlt,f,σ,κ,Im,hI',h2⟩
  |exit id=>exact hQ (.exit id) _ _ _ _ _ _ h1 h2
  |ret=>exact hQ .ret _ _ _ _ _ _ h1 h2
 |exit id=>intro QA Q f σ κ Im a w hQ h hst;exact wp_exit (hQ (.exit id) _ _ _ _ _ _ h hst)
 |ret=>intro QA Q f σ κ Im a w hQ h hst;exact wp_ret (hQ .ret _ _ _ _ _ _ h hst)
 |rangeFunc=>intro QA Q f σ κ Im a w hQ h hst;exact h.elim
 |scope c ih=>
  intro QA Q f σ κ Im a w hQ h hst
  refine wp_scope_straight (ih QA _ f σ κ Im a w (fun e f σ κ Im a w h1 h2=> ?_) h hst)
  cases e with
  |normal=>exact hQ .normal _ _ _ _ _ _ h1 h2
  |exit id=>exact hQ (.exit id) _ _ _ _ _ _ h1 h2
  |ret=>exact hQ .ret _ _ _ _ _ _ h1 h2
 |label l=>intro QA Q f σ κ Im a w hQ h hst;exact wp_label (hQ .normal _ _ _ _ _ _ h hst)
 |goto=>intro QA Q f σ κ Im a w hQ h hst;exact h.elim
 |refuse=>intro QA Q f σ κ Im a w hQ h hst;exact h.elim
end
end Go.Abs
end
section
namespace Go.Abs
open Go.RowKit
variable {G:Globs}
def AV.under (m:Nat):AV→Bool
 | .ptr id _| .row id _| .rowp id _ _ _ _| .map id| .sub id _ _ _ _| .asl id _ _ _=>decide (id<m)
 | .fn _ a b=>(a.attach.all fun ⟨x,_⟩=>x.under m)&&(b.attach.all fun ⟨x,_⟩=>x.under m)
 | .iface _ v=>v.under m
 | .agg l| .tup l=>l.attach.all fun ⟨x,_⟩=>x.under m
 |_=>true
def Entry.under (m:Nat):Entry→Bool
 | .dead _=>true
 | .var _ cells=>cells.all (AV.under m)
 | .row _ _ els _=>els.all fun c=>c.all (AV.under m)
 | .mp kv=>kv.all fun p=>p.2.under m
 | .itr mid _ _ _=>mid.all fun i=>decide (i<m)
 | .obj _=>true
def fz (σ:zac) (m:Nat):Nat→AV→Option AV
 |_,.nils=>some (.lst [])
 |0,v=>if v.pure then some v else none
 |k+1,.row id n=>match σ[id]? with
  |some (.row _ _ els im)=>if els.length=n then (if im=true then some (.lst els) else if m≤id then (els.mapM fun (c:List AV)=>c.mapM (fz σ m k)).map .lst else none) else none
  |_=>none
 |_,v=>if v.pure then some v else none
def fin1 (σ:zac) (m:Nat):AV→Option AV
 | .row id n=>fz σ m 3 (.row id n)
 | .nils=>some (.lst [])
 | .sub id n size lo hi=>(fz σ m 3 (.row id n)).bind fun
  | .lst l=>if∀c∈l,c.length=size then some (.lst ((l.take hi).drop lo)) else none
  |_=>none
 |v=>if v.under m then some v else none
def finL (σ:zac) (m:Nat) (l:List AV):Option (List AV):=l.mapM (fin1 σ m)
def finT (σ:zac) (m:Nat):AV→Option AV
 | .agg l=>(finL σ m l).map .agg
 |v=>fin1 σ m v
def fin (σ:zac) (m:Nat):AV→Option AV
 | .tup l=>(l.mapM (finT σ m)).map .tup
 |v=>finT σ m v
def zff [Globs] (σ:zac) (f:Frame):Nat×Option (Bool×Nat)→Option AV
 |(t,none)=>some (f t)
 |(t,some (ag,size))=>(zaP σ (f t) size).bind (zfE ag)
def zaE:List AV→AV
 | [v]=>v
 |l=> .tup l
def zuH [Globs] (σ₀:zac) (R:AV→zac→Prop) (res:List (Nat×Option (Bool×Nat))) (f:Frame) (σ:zac):Prop:=
 ∃rs r m,res.mapM (zff σ f)=some rs∧(fin σ m (zaE rs)=some r∨(r=zaE rs∧r.under m=true))∧σ₀.length≤m∧(∀(id:Nat) (e:Entry),id<m→σ[id]? =some e→σ₀[id]? =some e∨e.under m=true)∧R r (σ.take m)
def zwL [Globs] (σ₀:zac) (R:AV→zac→Prop) (res:List (Nat×Option (Bool×Nat))):AExit→Frame→zac→Prop
 | .exit _,_,_=>False
 |_,f,σ=>zuH σ₀ R res f σ
def zvG (args:List AV):Frame:=fun t=>args.getD t .junk
section
variable {P:Program} {base:Nat} {κ:Key} {Im:Addr→Prop} {w:World} {σ:zac}
def cut (κ:Key) (m:Nat):Key:=fun id n=>if id<m then κ id n else none
theorem zcD {m id n:Nat} {v:Value} (h:κ id n=some v) (hm:id<m):cut κ m id n=some v:=by simp [cut,hm,h]
theorem VR.under {m:Nat} {Im':Addr→Prop} (hIm:∀a,Im a→Im' a) {a:AV} {v:Value} (h:VR κ Im w a v) (hb:a.under m=true):VR (cut κ m) Im' w a v:=by
 induction h with
 |im a v h=>exact .im _ _ (h.mono hIm fun _ _=>rfl)
 |ptr id off b h=>exact .ptr id off b (zcD h (by simpa [AV.under] using hb))
 |row id n g cap h=>exact .row id n g cap (zcD h (by simpa [AV.under] using hb))
 |rowp id n size k off b cap h=>exact .rowp id n size k off b cap (zcD h (by simpa [AV.under] using hb))
 |map id b h=>exact .map id b (zcD h (by simpa [AV.under] using hb))
 |asl id off n size b ad c h h3 h4 h5 h6=>exact .asl id off n size b ad c (zcD h (by simpa [AV.under] using hb)) h3 h4 h5 h6
 |sub id n size lo hi b cap ad c h h1 h2 h3 h4 h5 h6=>exact .sub id n size lo hi b cap ad c (zcD h (by simpa [AV.under] using hb)) h1 h2 h3 h4 h5 h6
 |fn f first captured vs us h1 h2 hv hu ih1 ih2=>
  simp [AV.under] at hb
  exact .fn f first captured vs us h1 h2 (fun j h h'=>ih1 j h h' (hb.1 _ (yat h))) (fun j h h'=>ih2 j h h' (hb.2 _ (yat h)))
 |iface t a v h ih=>exact .iface t a v (ih (by simpa [AV.under] using hb))
 |agg cells vs hone h1 hv ih=>
  simp [AV.under] at hb
  exact .agg cells vs hone h1 fun j h h'=>ih j h h' (hb _ (yat h))
 |tup cells vs h1 hv ih=>
  simp [AV.under] at hb
  exact .tup cells vs h1 fun j h h'=>ih j h h' (hb _ (yat h))
theorem VR.old {m:Nat} {κ':Key} {Im':Addr→Prop} {w':World} (hκ:∀i n v,κ i n=some v→κ' i n=some v∧i<m) (hIm:∀a,Im a→Im' a) (hc:∀a,Im a→w'.cell? a=w.cell? a) {a:AV} {v:Value} (h:VR κ Im w a v):VR (cut κ' m) Im' w' a v:=
 h.mono (fun i n v h=>zcD (hκ i n v h).1 (hκ i n v h).2) hIm hc
theorem VRL.under {m:Nat} {Im':Addr→Prop} (hIm:∀a,Im a→Im' a) {l:List AV} {vs:List Value} (h:VRL κ Im w l vs) (hb:l.all (AV.under m)=true):VRL (cut κ m) Im' w l vs:=
 ⟨h.1,fun j hj hj'=>(h.2 j hj hj').under hIm (yaz.1 hb _ (yat hj))⟩
theorem VR.isBelow {m:Nat} (hκ:∀i n v,κ i n=some v→i<m) {a:AV} {v:Value} (h:VR κ Im w a v):a.under m=true:=by
 induction h with
 |im a v h=>
  induction h with
  |fn f first captured vs us h1 h2 hv hu ih1 ih2=>
   simp [AV.under]
   exact ⟨fun x hx=>by obtain ⟨j,hj,rfl⟩:=yaw.1 hx;exact ih1 j hj (by omega),fun x hx=>by obtain ⟨j,hj,rfl⟩:=yaw.1 hx;exact ih2 j hj (by omega)⟩
  |iface t a v h ih=>simpa [AV.under] using ih
  |agg cells vs hone h1 hv ih=>
   simp [AV.under]
   exact fun x hx=>by obtain ⟨j,hj,rfl⟩:=yaw.1 hx;exact ih j hj (by omega)
  |tup cells vs h1 hv ih=>
   simp [AV.under]
   exact fun x hx=>by obtain ⟨j,hj,rfl⟩:=yaw.1 hx;exact ih j hj (by omega)
  |_=>simp [AV.under]
 |ptr id off b h=>simpa [AV.under] using hκ _ _ _ h
 |row id n g cap h=>simpa [AV.under] using hκ _ _ _ h
 |rowp id n size k off b cap h=>simpa [AV.under] using hκ _ _ _ h
 |map id b h=>simpa [AV.under] using hκ _ _ _ h
 |sub id n size lo hi b cap ad c h=>simpa [AV.under] using hκ _ _ _ h
 |asl id off n size b ad c h=>simpa [AV.under] using hκ _ _ _ h
 |fn f first captured vs us h1 h2 hv hu ih1 ih2=>
  simp [AV.under]
  exact ⟨fun x hx=>by obtain ⟨j,hj,rfl⟩:=yaw.1 hx;exact ih1 j hj (by omega),fun x hx=>by obtain ⟨j,hj,rfl⟩:=yaw.1 hx;exact ih2 j hj (by omega)⟩
 |iface t a v h ih=>simpa [AV.under] using ih
 |agg cells vs hone h1 hv ih=>
  simp [AV.under]
  exact fun x hx=>by obtain ⟨j,hj,rfl⟩:=yaw.1 hx;exact ih j hj (by omega)
 |tup cells vs h1 hv ih=>
  simp [AV.under]
  exact fun x hx=>by obtain ⟨j,hj,rfl⟩:=yaw.1 hx;exact ih j hj (by omega)
theorem VRL.isBelow {m:Nat} (hκ:∀i n v,κ i n=some v→i<m) {l:List AV} {vs:List Value} (h:VRL κ Im w l vs):l.all (AV.under m)=true:=
 yaz.2 fun x hx=>by obtain ⟨j,hj,rfl⟩:=yaw.1 hx;exact (h.2 j hj (by rw [←h.1];exact hj)).isBelow hκ
theorem Entry.isBelow {m id:Nat} (hκ:∀i n v,κ i n=some v→i<m) {e:Entry} (h:EOK κ Im base w id e):e.under m=true:=by
 cases e with
 |dead _=>rfl
 |var t cells=>
  obtain ⟨b,cs,_,_,_,hv,_⟩:=h
  exact hv.isBelow hκ
 |row ty size els im=>
  obtain ⟨v,xs,_,_,hv,_⟩:=h
  have:=hv.isBelow hκ
  simp only [Entry.under,yaz] at this⊢
  exact fun c hc x hx=>this x (ybk.2 ⟨c,hc,hx⟩)
 |mp kv=>
  obtain ⟨b,es,clock,_,_,_,hsz,hv,_⟩:=h
  simp only [Entry.under,yaz]
  intro p hp
  obtain ⟨j,hj,rfl⟩:=yaw.1 hp
  exact (hv j hj (by omega)).2.isBelow hκ
 |itr mid n left last=>
  obtain ⟨b,_,_,_,h⟩:=h
  cases mid with
  |none=>rfl
  |some i=>
   obtain ⟨c,es,clock,since,seen,c0,h1,_⟩:=h
   simp only [Entry.under,Option.all_some,decide_eq_true_eq]
   exact hκ _ _ _ h1
 |obj _=>rfl
def zm2 (κ:Key) (Im:Addr→Prop) (σ:zac) (m:Nat):Addr→Prop:=fun a=>
 Im a∨∃id e size els v,m≤id∧σ[id]? =some (.row e size els false)∧κ id els.length=some v∧v.ownBlock=some a.block∧a.spot=none∧a.off<els.length*size
theorem z80 {m:Nat} (hs:SRel base κ Im σ w):∀(k:Nat) {X r:AV} {x:Value},VR κ Im w X x→fz σ m k X=some r→IR (zm2 κ Im σ m) w r x∧(X.one=true→r.one=true):=by
 have hpure:∀{X r:AV} {x:Value},VR κ Im w X x→(if X.pure=true then some X else none)=some r→IR (zm2 κ Im σ m) w r x∧(X.one=true→r.one=true):=by
  intro X r x hx h
  split at h
  case isFalse=>cases h
  rename_i hp
  simp only [yab] at h;subst h
  exact ⟨(hx.pure hp).mono (fun _ h=> .inl h) (fun _ _=>rfl),id⟩
 intro k
 induction k with
 |zero=>
  intro X r x hx h
  cases X<;>simp only [fz] at h<;>first|(exact hpure hx h)|skip
  simp only [yab] at h;subst h
  cases hx.nils_inv
  exact ⟨.lnil _,fun _=>rfl⟩
 |succ k ih=>
  intro X r x hx h
  cases X<;>simp only [fz] at h<;>first|(exact hpure hx h)|skip
  case nils=>
   simp only [yab] at h;subst h
   cases hx.nils_inv
   exact ⟨.lnil _,fun _=>rfl⟩
  case row id n=>
   obtain ⟨g,cap,rfl,hk⟩:=hx.row_inv
   split at h
   case h_2=>cases h
   rename_i e size els im hent
   split at h
   case isFalse=>cases h
   rename_i hn
   subst hn
   split at h
   ·rename_i him
    subst him
    simp only [yab] at h;subst h
    exact ⟨(zmn hs hent hk).mono (fun _ h=> .inl h) (fun _ _=>rfl),fun _=>rfl⟩
   ·rename_i him
    have him:im=false:=by simpa using him
    subst him
    split at h
    case isFalse=>cases h
    rename_i hm
    simp only [yae] at h
    obtain ⟨els',hels,rfl⟩:=h
    refine ⟨?_,fun _=>rfl⟩
    obtain ⟨hl1,hl2⟩:=mapM_some hels
    obtain ⟨v',xs,hv',hown,hvr,hsz,hlen,hone,_,_⟩:=hs.ent _ _ hent
    rw [hk] at hv';cases hv'
    rcases hown.2 with ⟨h1,h2⟩|⟨b,cap',cur,h1,hg,hh,hle,hmax,hcs,htake⟩
    ·have h3:els'= []:=yap (by omega)
     subst h3
     simp only [Value.slice.injEq] at h1
     obtain ⟨rfl,h5,rfl⟩:=h1
     rw [h5]
     exact .lnil _
    ·simp only [Value.slice.injEq] at h1
     obtain ⟨rfl,_,rfl⟩:=h1
     have hcell:=hown.cells (g:=b) rfl
     have hrow:∀k' (h:k'<els'.length),els'[k'].length=size∧∀j (hj:j<els'[k'].length),∃(hj':k'<els.length) (hj2:j<els[k'].length),fz σ m k els[k'][j]=some els'[k'][j]:=by
      intro k' h
      have hk2:k'<els.length:=by omega
      obtain ⟨g1,g2⟩:=mapM_some (hl2 k' hk2 h)
      have g3:=hlen _ (yat hk2)
      exact ⟨by omega,fun j hj=>⟨hk2,by omega,g2 j (by omega) hj⟩⟩
     have hnum:∀k' j,k'<els'.length→j<size→k'*size+j<els.length*size:=fun k' j hk' hj=>by
      have:(k'+1)*size≤els.length*size:=yas _ (by omega)
      rw [ya6] at this;omega
     have helem:∀k' j (h:k'<els'.length) (h':j<els'[k'].length),IR (zm2 κ Im σ m) w els'[k'][j] (xs.getD (k'*size+j) undef)∧els'[k'][j].one=true:=by
      intro k' j h h'
      obtain ⟨q1,q2⟩:=hrow k' h
      obtain ⟨q3,q4,q5⟩:=q2 j h'
      obtain ⟨_,_,h3,h5⟩:=zf8 els k' j hlen q3 (by omega)
      have hlt':k'*size+j<xs.length:=by rw [hvr.1] at h3;exact h3
      have hv:=hvr.2 (k'*size+j) h3 hlt'
      rw [h5] at hv
      have e:xs.getD (k'*size+j) undef=xs[k'*size+j]:=by simp [hlt']
      rw [e]
      obtain ⟨i1,i2⟩:=ih hv q5
      exact ⟨i1,i2 (hone _ (yat q3) _ (yat q4))⟩
     rw [hl1]
     refine .lst els' size b 0 cap (fun k j=>xs.getD (k*size+j) undef) (by omega) hmax (fun c hc=> ?_) (fun c hc x hx=> ?_) (fun k' j hk' hj=> ?_) (fun k' j hk' hj=>(helem k' j hk' hj).1)
     ·obtain ⟨k',hk',rfl⟩:=yaw.1 hc
      exact (hrow k' hk').1
     ·obtain ⟨k',hk',rfl⟩:=yaw.1 hc
      obtain ⟨j,hj,rfl⟩:=yaw.1 hx
      exact (helem k' j hk' hj).2
     ·have hlt:=hnum k' j hk' hj
      rw [ybe]
      have hlt':k'*size+j<xs.length:=by rw [hown.1];exact hlt
      refine ⟨.inr ⟨id,e,size,els,_,hm,hent,hk,rfl,rfl,hlt⟩, ?_⟩
      have:=hcell (k'*size+j) _ (yad hlt')
      rw [Addr.add_mid,ybe] at this
      rw [this];simp [hlt']
theorem zvs {m:Nat} (hs:SRel base κ Im σ w) {X r:AV} {x:Value} (hx:VR κ Im w X x) (h:fin1 σ m X=some r):VR (cut κ m) (zm2 κ Im σ m) w r x∧(X.one=true→r.one=true):=by
 unfold fin1 at h
 split at h
 ·obtain ⟨h1,h2⟩:=z80 hs 3 hx h
  exact ⟨.im _ _ h1,h2⟩
 ·simp only [yab] at h;subst h
  cases hx.nils_inv
  exact ⟨.im _ _ (.lnil _),fun _=>rfl⟩
 ·rename_i id n size lo hi
  simp only [yac] at h
  obtain ⟨q,hq,h⟩:=h
  split at h
  case h_2=>cases h
  rename_i l
  split at h
  case isFalse=>cases h
  rename_i hall
  simp only [yab] at h;subst h
  obtain ⟨b,cap,ad,c,rfl,hk,k1,k2,k3,k4,k5,k6⟩:=hx.sub_inv
  obtain ⟨h1,_⟩:=z80 hs 3 (VR.row (κ:=κ) (Im:=Im) (w:=w) id n _ cap hk) hq
  refine ⟨.im _ _ ?_,fun _=>rfl⟩
  have had:ad=⟨ad.block,ad.off,none⟩:=by cases ad;simp only at k6;subst k6;rfl
  rcases (VR.im (κ:=κ) _ _ h1).lst_inv with ⟨⟨g,h0⟩,hl0⟩|⟨size',b',o',cap',vals,hv,g1,g2,g3,g4,g5,g6⟩
  ·simp only [Value.slice.injEq] at h0
   obtain ⟨_,hn0,_⟩:=h0
   subst hl0
   have:=IR.lst (Im:=zm2 κ Im σ m) (w:=w) [] 0 ad.block ad.off c (fun _ _=>undef) (by simp) k5 (by simp) (by simp) (fun k j hk=>by simp at hk) (fun k j hk=>by simp at hk)
   rw [had,show hi-lo=0 by omega]
   simpa using this
  ·simp only [Value.slice.injEq,yab,Addr.mk.injEq,and_true] at hv
   obtain ⟨⟨rfl,rfl⟩,hn,rfl⟩:=hv
   have hl:((l.take hi).drop lo).length=hi-lo:=by simp;omega
   by_cases hlt:lo<hi
   ·have hsz:size'=size:=by
     have h0:0<l.length:=by omega
     rw [←g3 _ (yat h0),hall _ (yat h0)]
    subst hsz
    rw [k3 hlt]
    have:=IR.lst (Im:=zm2 κ Im σ m) (w:=w) ((l.take hi).drop lo) size' b (lo*size') c (fun k j=>vals (lo+k) j) (by omega) k5 (fun c hc=>g3 c (yak (yau hc))) (fun c hc=>g4 c (yak (yau hc)))
     (fun k j hk hj=>by
      have:=g5 (lo+k) j (by omega) hj
      rw [ya6] at this
      rw [show lo*size'+(k*size'+j)=0+(lo*size'+k*size'+j) by omega]
      exact this)
     (fun k j hk hj=>by
      simp only [ydj,yb7] at hj⊢
      exact g6 (lo+k) j (by omega) hj)
    rw [hl] at this
    exact this
   ·have he:(l.take hi).drop lo= []:=yap (by omega)
    rw [he,had]
    have:=IR.lst (Im:=zm2 κ Im σ m) (w:=w) [] 0 ad.block ad.off c (fun _ _=>undef) (by simp) k5 (by simp) (by simp) (fun k j hk=>by simp at hk) (fun k j hk=>by simp at hk)
    rw [show hi-lo=0 by omega]
    exact this
 ·split at h
  case isFalse=>cases h
  rename_i hb
  simp only [yab] at h;subst h
  exact ⟨hx.under (fun _ h=> .inl h) hb,id⟩
theorem z0h {m:Nat} (hs:SRel base κ Im σ w) {X r:AV} {x:Value} (hx:VR κ Im w X x) (h:finT σ m X=some r):VR (cut κ m) (zm2 κ Im σ m) w r x:=by
 unfold finT at h
 split at h
 ·simp only [yae] at h
  obtain ⟨l',hl',rfl⟩:=h
  obtain ⟨vs,rfl,hl,hone⟩:=hx.agg_inv
  obtain ⟨h1,h2⟩:=mapM_some hl'
  refine .agg _ _ (fun c hc=> ?_) (by rw [←h1,hl.1]) (fun j hj hj'=>(zvs hs (hl.2 j (by omega) hj') (h2 j (by omega) hj)).1)
  obtain ⟨j,hj,rfl⟩:=yaw.1 hc
  have hjl:=hl.1
  exact (zvs hs (hl.2 j (by omega) (by omega)) (h2 j (by omega) hj)).2 (hone _ (yat _))
 ·exact (zvs hs hx h).1
theorem z7t {m:Nat} (hs:SRel base κ Im σ w) {X r:AV} {x:Value} (hx:VR κ Im w X x) (h:fin σ m X=some r):VR (cut κ m) (zm2 κ Im σ m) w r x:=by
 unfold fin at h
 split at h
 ·simp only [yae] at h
  obtain ⟨l',hl',rfl⟩:=h
  obtain ⟨vs,rfl,hl⟩:=hx.tup_inv
  obtain ⟨h1,h2⟩:=mapM_some hl'
  exact .tup _ _ (by rw [←h1,hl.1]) (fun j hj hj'=>z0h hs (hl.2 j (by omega) hj') (h2 j (by omega) hj))
 ·exact z0h hs hx h
theorem zw1 {rs:List AV} {vs:List Value} (h:VRL κ Im w rs vs):VR κ Im w (zaE rs) (if h:vs.toArray.size=1 then vs.toArray[0] else .tuple vs.toArray):=by
 unfold zaE
 split
 ·rename_i v
  match vs,h.1 with
  | [u],_=>exact h.2 0 (by simp) (by simp)
 ·rename_i hne
  have:¬vs.toArray.size=1:=by
   intro h1
   have hl:=h.1
   simp at h1
   rw [h1] at hl
   match rs,hl with
   | [a],_=>exact hne a rfl
  rw [dif_neg this]
  exact .tup _ _ h.1 h.2
theorem zyk {rvs:List ResultVar} {res:List (Nat×Option (Bool×Nat))} {rs:List AV} {f:Frame} {a:Act} (hs:SRel base κ Im σ w) (hf:FRel κ Im w f a):rvs.mapM (zmC P)=some res→res.mapM (zff σ f)=some rs→
  ∃vs,(rvs.mapM (fun| .tmp t=>pure (a.tmps.getD t undef)| .cell x t=>do loadVar t (←asAddr (a.tmps.getD x undef)):ResultVar→Sem Value)).run P w=.ok vs w∧VRL κ Im w rs vs:=by
 induction rvs generalizing res rs with
 |nil=>
  intro h h'
  simp at h;subst h
  simp at h';subst h'
  exact ⟨[],by simp,.nil⟩
 |cons rv rvs ih=>
  intro h h'
  rw [yb5] at h
  simp only [yah,yac,yam,yab] at h
  obtain ⟨q,hq,qs,hqs,rfl⟩:=h
  rw [yb5] at h'
  simp only [yah,yac,yam,yab] at h'
  obtain ⟨r,hr,rs',hrs',rfl⟩:=h'
  obtain ⟨vs,h1,h2⟩:=ih hqs hrs'
  have hex:∃v,((match rv with| .tmp t=>pure (a.tmps.getD t undef)| .cell x t=>do loadVar t (←asAddr (a.tmps.getD x undef))):Sem Value).run P w=.ok v w∧VR κ Im w r v:=by
   cases rv with
   |tmp t=>
    simp only [zmC,yab] at hq;subst hq
    simp only [zff,yab] at hr;subst hr
    exact ⟨_,rfl,hf t⟩
   |cell x t=>
    simp only [zmC,yah,yac,yam,yab] at hq
    obtain ⟨ag,hag,size,hsz,rfl⟩:=hq
    simp only [zff,yac] at hr
    obtain ⟨l,hl,hr⟩:=hr
    obtain ⟨b,off,cs,hp,hrange,hvr,hlen,hone⟩:=zqp hs (hf x) hl
    obtain ⟨g1,g2⟩:=zrB hvr hone hr
    have hcl:cs.length=size:=by rw [←hvr.1,hlen]
    obtain ⟨i,hi,hin⟩:=sizeOf?_ok hsz
    cases ag
    ·obtain ⟨v,rfl,hv⟩:=g2 rfl
     refine ⟨v, ?_,hv⟩
     have hc:=hrange 0 v rfl
     simp only [ycb] at hc
     simp [hp,asAddr,loadVar,run_isAgg? hag,hc]
    ·obtain ⟨d,hd,hrow⟩:=zqk hag
     refine ⟨_, ?_,g1 rfl⟩
     simp only [hp,asAddr,yay,ya5,yal,run_loadVar_mid w b off t cs d hrange hd hrow (by rw [hi];simp [hin,hcl])]
  obtain ⟨v,h3,h4⟩:=hex
  refine ⟨v::vs, ?_,.cons h4 h2⟩
  rw [yb5]
  simp only [yay,h3,h1,yal,ya5]
theorem SRel.take {m:Nat} {κ₀:Key} {Im₀:Addr→Prop} {w₀:World} {σ₀:zac} (hs:SRel base κ Im σ w) (hs₀:SRel base κ₀ Im₀ σ₀ w₀) (hm:σ₀.length≤m) (hg:Grow base κ₀ Im₀ w₀ κ Im w) (hb:∀(id:Nat) (e:Entry),id<m→σ[id]? =some e→σ₀[id]? =some e∨e.under m=true):
  SRel base (cut κ m) (zm2 κ Im σ m) (σ.take m) w:=by
 have hdom0:∀i n v,κ₀ i n=some v→i<m:=fun i n v h=>by
  obtain ⟨e,h1,_⟩:=hs₀.dom _ _ _ h
  have:=(yaa.1 h1).1
  omega
 have hcutdom:∀i n v,cut κ m i n=some v→i<m∧κ i n=some v:=fun i n v h=>by
  unfold cut at h;split at h
  ·exact ⟨by assumption,h⟩
  ·cases h
 have hbelow:∀(id:Nat) (e:Entry),id<m→σ[id]? =some e→e.under m=true:=fun id e hid he=>by
  rcases hb id e hid he with h|h
  ·exact Entry.isBelow hdom0 (hs₀.ent _ _ h)
  ·exact h
 have hget:∀(id:Nat) (e:Entry),(σ.take m)[id]? =some e→id<m∧σ[id]? =some e:=fun id e h=>by
  rw [ybo] at h
  split at h
  ·exact ⟨by assumption,h⟩
  ·cases h
 have hblk:∀(id:Nat) (e:Entry),id<m→e.block (cut κ m) id=e.block κ id:=fun id e hid=>by
  cases e<;>simp [Entry.block,cut,hid]
 -- the freed cells lie in other blocks
 have hfree:∀(id:Nat) (e:Entry) (b:Nat),id<m→σ[id]? =some e→e.block κ id=some b→∀a,a.block=b→zm2 κ Im σ m a→Im a:=fun id e b hid he hbl a hab ha=>by
  rcases ha with h|⟨id',e',size,els,v,hm',he',hk,hvb,_,_⟩
  ·exact h
  ·exfalso
   have:(Entry.row e' size els false).block κ id'=some b:=by simp [Entry.block,hk,hvb,hab]
   exact hs.sep id id' _ _ b (by omega) he he' hbl this
 refine ⟨hs.hb,fun id n v h=> ?_,fun id e h=> ?_,fun i j e e' b hij h1 h2 hb1 hb2=> ?_,fun a ha=> ?_,hs.glob.mono (yaq _) (fun _ h=> .inl h) (fun _ _=>rfl) (fun _ _=>rfl)⟩
 ·obtain ⟨hid,hk⟩:=hcutdom _ _ _ h
  obtain ⟨e,h1,h2⟩:=hs.dom _ _ _ hk
  exact ⟨e,by rw [ybo,if_pos hid];exact h1,h2⟩
 ·obtain ⟨hid,he⟩:=hget _ _ h
  have hok:=hs.ent _ _ he
  have hbl:=hbelow id e hid he
  cases e with
  |dead _=>trivial
  |var t cells=>
   obtain ⟨b,cs,hk,hbb,hheap,hv,hone,him⟩:=hok
   exact ⟨b,cs,zcD hk hid,hbb,hheap,hv.under (fun _ h=> .inl h) hbl,hone,fun a ha hab=>him a (hfree id _ b hid he (by simp [Entry.block,hk]) a hab ha) hab⟩
  |row ty size els im=>
   obtain ⟨v,xs,hk,hown,hv,hsz,hlen,hone,hir,him⟩:=hok
   have hbf:els.flatten.all (AV.under m)=true:=by
    simp only [Entry.under,yaz] at hbl⊢
    intro x hx
    obtain ⟨c,hc,hxc⟩:=ybk.1 hx
    exact hbl c hc x hxc
   refine ⟨v,xs,zcD hk hid,hown,hv.under (fun _ h=> .inl h) hbf,hsz,hlen,hone,fun hi=>⟨(hir hi).1,fun j h h'=>((hir hi).2 j h h').mono (fun _ h=> .inl h) (fun _ _=>rfl)⟩,fun g hg=> ?_⟩
   obtain ⟨k1,k2⟩:=him g hg
   exact ⟨fun a ha hab=>k1 a (hfree id _ g hid he (by simp [Entry.block,hk,hg]) a hab ha) hab,fun hi o ho=> .inl (k2 hi o ho)⟩
  |mp kv=>
   obtain ⟨b,es,clock,hk,hbb,hheap,hsz,hv,him⟩:=hok
   simp only [Entry.under,yaz] at hbl
   exact ⟨b,es,clock,zcD hk hid,hbb,hheap,hsz,fun j hj hj'=>⟨(hv j hj hj').1.mono (fun _ h=> .inl h) (fun _ _=>rfl),(hv j hj hj').2.under (fun _ h=> .inl h) (hbl _ (yat hj))⟩,fun a ha hab=>him.1 a (hfree id _ b hid he (by simp [Entry.block,hk]) a hab ha) hab,him.2⟩
  |itr mid n left last=>
   obtain ⟨b,hk,hbb,him,h⟩:=hok
   refine ⟨b,zcD hk hid,hbb,fun a ha hab=>him a (hfree id _ b hid he (by simp [Entry.block,hk]) a hab ha) hab, ?_⟩
   cases mid with
   |none=>exact h
   |some i=>
    simp only [Entry.under,Option.all_some,decide_eq_true_eq] at hbl
    obtain ⟨c,es,clock,since,seen,c0,h1,h2⟩:=h
    exact ⟨c,es,clock,since,seen,c0,zcD h1 hbl,h2⟩
  |obj o=>
   obtain ⟨b,hk,hbb,him,h⟩:=hok
   exact ⟨b,zcD hk hid,hbb,fun a ha hab=>him a (hfree id _ b hid he (by simp [Entry.block,hk]) a hab ha) hab,h⟩
 ·obtain ⟨hi,he1⟩:=hget _ _ h1
  obtain ⟨hj,he2⟩:=hget _ _ h2
  rw [hblk _ _ hi] at hb1
  rw [hblk _ _ hj] at hb2
  exact hs.sep i j e e' b hij he1 he2 hb1 hb2
 ·rcases ha with h|⟨id',e',size,els,v,hm',he',hk,hvb,hsp,_⟩
  ·exact hs.imlt a h
  ·have:(Entry.row e' size els false).block κ id'=some a.block:=by simp [Entry.block,hk,hvb]
   exact ⟨((hs.ent _ _ he').block_ge this).2,hsp⟩
theorem z5c {fn:Func} {rs:List (Nat×Option (Bool×Nat))} {σ₀ σ':zac} {R:AV→zac→Prop} {κ κ':Key} {Im Im':Addr→Prop} {w w':World} {f':Frame} {a':Act} (hrs:fn.results.toList.mapM (zmC P)=some rs) (hs:SRel base κ Im σ₀ w)
  (hfr:FRel κ' Im' w' f' a') (hst:SRel base κ' Im' σ' w') (hgr:Grow base κ Im w κ' Im' w'):zuH σ₀ R rs f' σ'→∃v,(results fn a'.tmps).run P w'=.ok v w'∧(∃r σ'' v' κ'' Im'',Ending.returned v=.returned v'∧R r σ''∧SRel base κ'' Im'' σ'' w'∧Grow base κ Im w κ'' Im'' w'∧VR κ'' Im'' w' r v'):=by
 rintro ⟨rs',r,m,h1,h2,h3,h4,h5⟩
 obtain ⟨us,h6,h7⟩:=zyk (P:=P) hst hfr hrs h1
 have hfin:VR (cut κ' m) (zm2 κ' Im' σ' m) w' r (if h:us.toArray.size=1 then us.toArray[0] else .tuple us.toArray):=by
  rcases h2 with h2|⟨rfl,h2⟩
  ·exact z7t hst (zw1 h7) h2
  ·exact (zw1 h7).under (fun _ h=> .inl h) h2
 refine ⟨_, ?_,r,σ'.take m,_,cut κ' m,zm2 κ' Im' σ' m,rfl,h5,hst.take hs h3 hgr h4, ?_,hfin⟩
 ·unfold results
  rw [Array.mapM_eq_mapM_toList]
  simp only [yay,Sem.run_map,yal]
  exact congrArg (fun (r:Result (List Value))=>(r.andThen fun a w'=>Result.ok a.toArray w').andThen fun a w'=>Sem.run P (pure (if h:a.size=1 then a[0] else Value.tuple a)) w') h6
 ·refine ⟨fun i n v hk=>zcD (hgr.kap _ _ _ hk) ?_,fun a ha=> .inl (hgr.im a ha),hgr.cell,fun a ha=> ?_,hgr.below⟩
  ·obtain ⟨e,g1,_⟩:=hs.dom _ _ _ hk
   have:=(yaa.1 g1).1
   omega
  ·rcases ha with ha|⟨id',e',size,els,v,hm',he',hk,hvb,hsp,_⟩
   ·exact hgr.new a ha
   ·have:(Entry.row e' size els false).block κ' id'=some a.block:=by simp [Entry.block,hk,hvb]
    exact .inr ((hst.ent _ _ he').block_ge this).1
theorem z6H {fn:Func} {args:List AV} {vs:List Value} (hargs:args.length≤fn.ntmps) (hv:VRL κ Im w args vs):(vs.toArray++Array.replicate (fn.ntmps-vs.toArray.size) undef).size=fn.ntmps∧FRel κ Im w (zvG args) {tmps:=vs.toArray++Array.replicate (fn.ntmps-vs.toArray.size) undef,defers:= []}:=by
 have hlen:=hv.1
 refine ⟨by simp;omega,fun t=> ?_⟩
 show VR κ Im w (args.getD t .junk) ((vs.toArray++Array.replicate (fn.ntmps-vs.toArray.size) undef).getD t undef)
 by_cases ht:t<args.length
 ·have htv:t<vs.length:=by rw [←hlen];exact ht
  have e1:args.getD t .junk=args[t]:=by simp [ht]
  have e2:(vs.toArray++Array.replicate (fn.ntmps-vs.toArray.size) undef).getD t undef=vs[t]:=by
   simp [ybc,Array.getElem?_append,htv]
  rw [e1,e2]
  exact hv.2 t ht htv
 ·have e1:args.getD t .junk=.junk:=by
   rw [List.getD_eq_getElem?_getD,yco (yd0 ht)];rfl
  rw [e1]
  exact .im _ _ (.junk _)
theorem z5P (hm:P.follows .mixedOrders=true) {loud:List FuncId} {fn:Func} {c:Code} {rs:List (Nat×Option (Bool×Nat))} {args:List AV} {σ₀:zac} {R:AV→zac→Prop} (hrs:fn.results.toList.mapM (zmC P)=some rs) (hargs:args.length≤fn.ntmps)
  (h:awp P (comp P fn.ntmps loud c) (zwL σ₀ R rs) (zvG args) σ₀) {base:Nat} {κ:Key} {Im:Addr→Prop} {w:World} {vs:List Value} (hs:SRel base κ Im σ₀ w) (hv:VRL κ Im w args vs):
  c.wp P (bodyPost P fn fun e w'=>∃r σ' v κ' Im',e=.returned v∧R r σ'∧SRel base κ' Im' σ' w'∧Grow base κ Im w κ' Im' w'∧VR κ' Im' w' r v) {tmps:=vs.toArray++Array.replicate (fn.ntmps-vs.toArray.size) undef,defers:= []} w:=by
 obtain ⟨i1,i2⟩:=z6H (fn:=fn) hargs hv
 refine z5U hm (N:=fn.ntmps) (loud:=loud) (D:= []) c _ _ (zvG args) σ₀ κ Im _ w ?_ h ⟨i2,i1,rfl,hs,Grow.refl _ _ _ _⟩
 intro e f' σ' κ' Im' a' w' hQ hst
 cases e with
 |normal=>exact ⟨hst.df,z5c hrs hs hst.fr hst.st hst.gr hQ⟩
 |ret=>exact ⟨hst.df,z5c hrs hs hst.fr hst.st hst.gr hQ⟩
 |exit id=>exact hQ.elim
theorem zkL (hm:P.follows .mixedOrders=true) {loud:List FuncId} {f:FuncId} {af:AFunc} {args:List AV} {σ₀:zac} {R:AV→zac→Prop} (hf:zaf P loud f=some af) (hargs:args.length≤af.n)
  (h:awp P af.code (zwL σ₀ R af.res) (zvG args) σ₀):ACalls P f args σ₀ R:=by
 unfold zaf at hf
 simp only [yah,yac,yam,yab] at hf
 obtain ⟨fn,hfn,c,hbody,rs,hrs,rfl⟩:=hf
 intro base κ Im w vs hs hv
 exact calls_of_wp hfn hbody (z5P hm hrs hargs h hs hv)
end
end Go.Abs
end
section
namespace Go.Abs
open Go.RowKit
variable {G:Globs}
universe u
inductive Tg {α:Sort u}:α→Type u
 |mk (a:α):Tg a
def ob (K:AV→Prop) (_:Tg K) (o:Option AV):Prop:=∃r,o=some r∧K r
theorem z5f (a:AV) (K:AV→Prop) (t:Tg K):ob K t (some a)=K a:=by simp [ob]
def cb (A B:Prop) (_:Tg A) (_:Tg B) (v:AV):Prop:=∃b,v=.bool b∧(b=true→A)∧(b=false→B)
theorem z5V (A B:Prop) (s:Tg A) (t:Tg B):cb A B s t (.bool true)=A:=by simp [cb]
theorem z2V (A B:Prop) (s:Tg A) (t:Tg B):cb A B s t (.bool false)=B:=by simp [cb]
theorem zxc {b:Bool} {A B:Prop} {s:Tg A} {t:Tg B} (h1:b=true→A) (h2:b=false→B):cb A B s t (.bool b):=⟨b,rfl,h1,h2⟩
theorem zax {p:Prop} [Decidable p] {A B:Prop} {s:Tg A} {t:Tg B} (h1:p→A) (h2:¬p→B):cb A B s t (.bool (decide p)):=⟨_,rfl,fun h=>h1 (by simpa using h),fun h=>h2 (by simpa using h)⟩
def gd (b:Bool) (A B:Prop) (_:Tg A) (_:Tg B) (v:AV):Prop:=∃w,zwv v b w∧(w=true→A)∧(w=false→B)
theorem z1l (b w:Bool) (A B:Prop) (s:Tg A) (t:Tg B) (v:AV) (h:zwv v b w) (hu:∀w',zwv v b w'→w'=w):gd b A B s t v=if w=true then A else B:=by
 unfold gd
 apply propext
 constructor
 ·rintro ⟨w',h1,h2,h3⟩
  have:=hu w' h1
  subst this
  cases w' with
  |true=>exact h2 rfl
  |false=>exact h3 rfl
 ·intro h1
  refine ⟨w,h,fun e=> ?_,fun e=> ?_⟩<;>(subst e;exact h1)
theorem zhd (c b:Bool):zwv (.bool c) b (c==b):=.inr ⟨c,rfl,rfl⟩
theorem zfv (c b w:Bool) (h:zwv (.bool c) b w):w=(c==b):=by
 rcases h with ⟨h,_⟩|⟨c',h,rfl⟩
 ·cases h
 ·cases h;rfl
theorem z8N (A B:Prop) (s:Tg A) (t:Tg B):gd true A B s t (.bool true)=A:=z1l _ _ _ _ _ _ _ (zhd _ _) (zfv _ _)
theorem z8I (A B:Prop) (s:Tg A) (t:Tg B):gd false A B s t (.bool true)=B:=z1l _ _ _ _ _ _ _ (zhd _ _) (zfv _ _)
theorem z8F (A B:Prop) (s:Tg A) (t:Tg B):gd true A B s t (.bool false)=B:=z1l _ _ _ _ _ _ _ (zhd _ _) (zfv _ _)
theorem z8D (A B:Prop) (s:Tg A) (t:Tg B):gd false A B s t (.bool false)=A:=z1l _ _ _ _ _ _ _ (zhd _ _) (zfv _ _)
theorem gd_u (b:Bool) (A B:Prop) (s:Tg A) (t:Tg B):gd b A B s t (.any undef)=B:=z1l _ false _ _ _ _ _ (.inl ⟨rfl,rfl⟩) fun w' h=>by
 rcases h with ⟨_,h⟩|⟨c,h,_⟩
 ·exact h
 ·cases h
theorem gd_t {b:Bool} {A B:Prop} {s:Tg A} {t:Tg B} (h1:b=true→A) (h2:b=false→B):gd true A B s t (.bool b):=⟨b,by simpa using zhd b true,h1,h2⟩
theorem z8Y {p:Prop} [Decidable p] {A B:Prop} {s:Tg A} {t:Tg B} (h1:p→A) (h2:¬p→B):gd true A B s t (.bool (decide p)):=gd_t (fun h=>h1 (by simpa using h)) (fun h=>h2 (by simpa using h))
def ac [Globs] (P:Program) (K:AV→zac→Prop) (_:Tg K) (σ:zac) (g:FuncId) (args:List AV):Prop:=zsp P σ K g args
def qc [Globs] (P:Program) (K:AV→zac→Prop) (_:Tg K) (σ:zac) (g:FuncId) (args:List AV):Prop:=ztD P σ K g args
def lp [Globs] (P:Program) (c:ACode) (_:Tg c) (Q:AExit→Frame→zac→Prop) (_:Tg Q) (f:Frame) (_:Tg f) (σ:zac) (_:Tg σ):Prop:=awp P (.loop c) Q f σ
section
variable {P:Program} {K:AV→zac→Prop} {f:Frame} {σ:zac}
theorem zy9 {Q:Frame→zac→Prop}:zcM P Q [] f σ=Q f σ:=propext Iff.rfl
theorem zuZ {Q:Frame→zac→Prop} {d:Option Nat} {o:AOp} {rest:List AIns}:zcM P Q (⟨none,d,o⟩::rest) f σ=za0 P (fun r σ'=>zcM P Q rest (f.put d r) σ') f σ o:=propext Iff.rfl
theorem zue {Q:Frame→zac→Prop} {t:Nat} {b:Bool} {d:Option Nat} {o:AOp} {rest:List AIns}:
  zcM P Q (⟨some (t,b),d,o⟩::rest) f σ=gd b (za0 P (fun r σ'=>zcM P Q rest (f.put d r) σ') f σ o) (zcM P Q rest (f.put d (.any undef)) σ) (.mk _) (.mk _) (f t):=propext Iff.rfl
theorem z85 (x:Opd):za0 P K f σ (.mv x)=ob (fun r=>K r σ) (.mk _) (za3 σ f (.mv x)):=propext Iff.rfl
theorem z5M (c a b:Opd):za0 P K f σ (.pick c a b)=ob (fun r=>K r σ) (.mk _) (za3 σ f (.pick c a b)):=propext Iff.rfl
theorem z8l (op:BinOp) (x y:Opd):za0 P K f σ (.bin op x y)=ob (fun r=>K r σ) (.mk _) (za3 σ f (.bin op x y)):=propext Iff.rfl
theorem z7u (n:Bool) (x y:Opd):za0 P K f σ (.beq n x y)=ob (fun r=>K r σ) (.mk _) (za3 σ f (.beq n x y)):=propext Iff.rfl
theorem z7H (n:Bool) (k:List Nat) (x y:Opd):za0 P K f σ (.eqs n k x y)=ob (fun r=>K r σ) (.mk _) (za3 σ f (.eqs n k x y)):=propext Iff.rfl
theorem z8p (x:Opd):za0 P K f σ (.not x)=ob (fun r=>K r σ) (.mk _) (za3 σ f (.not x)):=propext Iff.rfl
theorem z71 (x:Opd):za0 P K f σ (.neg x)=ob (fun r=>K r σ) (.mk _) (za3 σ f (.neg x)):=propext Iff.rfl
theorem z6X (k:IntKind) (x:Opd):za0 P K f σ (.conv k x)=ob (fun r=>K r σ) (.mk _) (za3 σ f (.conv k x)):=propext Iff.rfl
theorem z75 (x:Opd) (i:Nat):za0 P K f σ (.ext x i)=ob (fun r=>K r σ) (.mk _) (za3 σ f (.ext x i)):=propext Iff.rfl
theorem z4e (z:List AV) (p:List (Nat×Nat×Opd)):za0 P K f σ (.build z p)=ob (fun r=>K r σ) (.mk _) (za3 σ f (.build z p)):=propext Iff.rfl
theorem z2Y (o s:Nat) (a:Bool) (x:Opd):za0 P K f σ (.field o s a x)=ob (fun r=>K r σ) (.mk _) (za3 σ f (.field o s a x)):=propext Iff.rfl
theorem z5G (a:Bool) (s:Nat) (x:Opd):za0 P K f σ (.load a s x)=ob (fun r=>K r σ) (.mk _) (za3 σ f (.load a s x)):=propext Iff.rfl
theorem z3T (x:Opd):za0 P K f σ (.nilck x)=ob (fun r=>K r σ) (.mk _) (za3 σ f (.nilck x)):=propext Iff.rfl
theorem z3J (o:Nat) (x:Opd):za0 P K f σ (.faddr o x)=ob (fun r=>K r σ) (.mk _) (za3 σ f (.faddr o x)):=propext Iff.rfl
theorem z3N (s:Nat) (x i:Opd):za0 P K f σ (.iaddr s x i)=ob (fun r=>K r σ) (.mk _) (za3 σ f (.iaddr s x i)):=propext Iff.rfl
theorem z2f (l s:Nat) (x i:Opd):za0 P K f σ (.aaddr l s x i)=ob (fun r=>K r σ) (.mk _) (za3 σ f (.aaddr l s x i)):=propext Iff.rfl
theorem z67 (x i:Opd):za0 P K f σ (.sidx x i)=ob (fun r=>K r σ) (.mk _) (za3 σ f (.sidx x i)):=propext Iff.rfl
theorem z68 (l s:Nat) (a:Bool) (x i:Opd):za0 P K f σ (.aidx l s a x i)=ob (fun r=>K r σ) (.mk _) (za3 σ f (.aidx l s a x i)):=propext Iff.rfl
theorem z6e (x:Opd):za0 P K f σ (.slen x)=ob (fun r=>K r σ) (.mk _) (za3 σ f (.slen x)):=propext Iff.rfl
theorem z74 (x:Opd):za0 P K f σ (.len x)=ob (fun r=>K r σ) (.mk _) (za3 σ f (.len x)):=propext Iff.rfl
theorem z6G (x:Opd) (l h:Option Opd):za0 P K f σ (.sslc x l h)=ob (fun r=>K r σ) (.mk _) (za3 σ f (.sslc x l h)):=propext Iff.rfl
theorem z7A (s:Nat) (x:Opd) (l h:Option Opd):za0 P K f σ (.slc s x l h)=ob (fun r=>K r σ) (.mk _) (za3 σ f (.slc s x l h)):=propext Iff.rfl
theorem z8V (m:Bool) (x y:Opd):za0 P K f σ (.mm m x y)=ob (fun r=>K r σ) (.mk _) (za3 σ f (.mm m x y)):=propext Iff.rfl
theorem z6n (g:Fn) (a b:List Opd):za0 P K f σ (.mkfn g a b)=ob (fun r=>K r σ) (.mk _) (za3 σ f (.mkfn g a b)):=propext Iff.rfl
theorem z5J (t:TypeId) (x:Opd):za0 P K f σ (.mkif t x)=ob (fun r=>K r σ) (.mk _) (za3 σ f (.mkif t x)):=propext Iff.rfl
theorem z2t (ty:Nat) (cells:List AV):za0 P K f σ (.alloc ty cells)=K (.ptr σ.length 0) (σ++ [.var ty cells]):=propext Iff.rfl
theorem z54 (g:FuncId) (args:List Opd):za0 P K f σ (.call g args)=ac P K (.mk _) σ g (args.map (·.ev f)):=propext Iff.rfl
theorem z35 (g:FuncId) (args:List Opd):za0 P K f σ (.qcall g args)=qc P K (.mk _) σ g (args.map (·.ev f)):=propext Iff.rfl
def sb (K:zac→Prop) (_:Tg K) (o:Option zac):Prop:=∃r,o=some r∧K r
theorem z6o (a:zac) (K:zac→Prop) (t:Tg K):sb K t (some a)=K a:=by simp [sb]
def z5n (σ:zac) (size:Nat) (x v:AV):Option zac:=if v.cells.length=size∧v.cells.all AV.one=true then zvb σ x v.cells else none
theorem z2J (n:Nat) (x v:Opd):za0 P K f σ (.store n x v)=sb (fun σ'=>K .junk σ') (.mk _) (z5n σ n (x.ev f) (v.ev f)):=by
 unfold z5n sb
 simp only [za0]
 apply propext
 constructor
 ·rintro ⟨σ',h1,h2,h3,h4⟩
  exact ⟨σ',by rw [if_pos ⟨h1,yaz.2 h2⟩];exact h3,h4⟩
 ·rintro ⟨σ',h1,h2⟩
  split at h1
  ·rename_i hc;exact ⟨σ',hc.1,yaz.1 hc.2,h1,h2⟩
  ·cases h1
theorem z7Q (ty:Nat) (x:Opd) (h:(x.ev f).cells.all AV.one=true):za0 P K f σ (.box ty x)=K (.ptr σ.length 0) (σ++ [.var ty (x.ev f).cells]):=by
 simp only [za0];exact propext ⟨fun h'=>h'.2,fun h'=>⟨yaz.1 h,h'⟩⟩
def z5d (σ:zac) (f:Frame) (size:Nat) (zero:List AV) (n:Nat) (parts:List (Nat×Opd)):Option AV:=
 (parts.mapM fun (p:Nat×Opd)=>(share σ (p.2.ev f)).bind fun v=>if v.cells.length=size∧v.cells.all AV.one then some (p.1*size,v.cells) else none).map fun ps=> .lst (zbc n size (lay (List.replicate n zero).flatten ps))
theorem z2I (e size:Nat) (zero:List AV) (n:Nat) (parts:List (Nat×Opd)):za0 P K f σ (.mklst e size zero n parts)=ob (fun r=>K r σ) (.mk _) (z5d σ f size zero n parts):=by
 unfold ob z5d
 simp only [za0]
 apply propext
 constructor
 ·rintro ⟨ps,h1,h2⟩;exact ⟨_,by rw [h1];rfl,h2⟩
 ·rintro ⟨r,h1,h2⟩
  simp only [yae] at h1
  obtain ⟨ps,h3,rfl⟩:=h1
  exact ⟨ps,h3,h2⟩
def AV.els:AV→List (List AV)
 | .lst l=>l
 |_=> []
def z6c (f:Frame) (size:Nat) (zero:List AV) (n:Nat) (parts:List (Nat×Opd)):Option AV:=
 if 0<size then (parts.mapM fun (p:Nat×Opd)=>if (p.2.ev f).cells.length=size∧(p.2.ev f).cells.all AV.one then some (p.1*size,(p.2.ev f).cells) else none).map fun ps=> .lst (zbc n size (lay (List.replicate n zero).flatten ps)) else none
theorem z49 (e size:Nat) (zero:List AV) (n:Nat) (parts:List (Nat×Opd)):za0 P K f σ (.mkrow e size zero n parts)=ob (fun r=>K (.row σ.length n) (σ++ [.row e size r.els false])) (.mk _) (z6c f size zero n parts):=by
 unfold ob z6c
 simp only [za0]
 apply propext
 constructor
 ·rintro ⟨ps,h1,h2,h3⟩;exact ⟨.lst (zbc n size (lay (List.replicate n zero).flatten ps)),by rw [if_pos h2,h1];rfl,h3⟩
 ·rintro ⟨r,h1,h2⟩
  split at h1
  case isFalse=>cases h1
  rename_i hs
  simp only [yae] at h1
  obtain ⟨ps,h3,rfl⟩:=h1
  exact ⟨ps,h3,hs,h2⟩
theorem z8L (o:XOp):za0 P K f σ (.px o)=ob (fun r=>K r σ) (.mk _) (za3 σ f (.px o)):=propext Iff.rfl
theorem zyg (x:Opd):za0 P K f σ (.tobytes x)=ob (fun r=>K r σ) (.mk _) (zhn (x.ev f)):=propext Iff.rfl
theorem z44:za0 P K f σ (.ex .mkmap)=K (.map σ.length) (σ++ [.mp []]):=propext ⟨fun ⟨_,_,⟨h1,h2⟩,h⟩=>by subst h1;subst h2;exact h,fun h=>⟨_,_,⟨rfl,rfl⟩,h⟩⟩
def zw0 (σ:zac) (kind:Nat) (X k v:AV):Option zac:=match X with
 | .map id=>match σ[id]? with
  |some (.mp kv)=>if k.pure=true∧zdF σ=true then (zeO kind k v kv).map fun kv'=>σ.set id (.mp kv') else none
  |_=>none
 |_=>none
theorem z5X (kind:Nat) (x k v:Opd):za0 P K f σ (.ex (.mset kind x k v))=sb (fun σ'=>K .junk σ') (.mk _) (zw0 σ kind (x.ev f) (k.ev f) (v.ev f)):=by
 apply propext
 constructor
 ·rintro ⟨r,σ',⟨rfl,id,kv,kv',h1,h2,h3,h4,h5,rfl⟩,hK⟩
  exact ⟨_,by simp only [zw0,h1,h2,h3,h4,h5,and_self,if_true,Option.map_some],hK⟩
 ·rintro ⟨σ',h,hK⟩
  unfold zw0 at h
  split at h
  case h_2=>cases h
  rename_i id he
  split at h
  case h_2=>cases h
  rename_i kv hkv
  split at h
  case isFalse=>cases h
  rename_i hp
  simp only [yae] at h
  obtain ⟨kv',h1,rfl⟩:=h
  exact ⟨_,_,⟨rfl,id,kv,kv',he,hkv,hp.1,h1,hp.2,rfl⟩,hK⟩
theorem z7K (size:Nat) (z:List AV) (x:Opd):za0 P K f σ (.ex (.clr size z x))=sb (fun σ'=>K (.tup []) σ') (.mk _) (zzT σ size z (x.ev f)):=
 propext ⟨fun ⟨_,_,⟨h1,h2⟩,h⟩=>⟨_,h2,by subst h1;exact h⟩,fun ⟨_,h2,h⟩=>⟨_,_,⟨rfl,h2⟩,h⟩⟩
theorem z65 (kind:Nat) (x k:Opd):za0 P K f σ (.ex (.mdel kind x k))=sb (fun σ'=>K (.tup []) σ') (.mk _) (zzM σ kind (k.ev f) (x.ev f)):=
 propext ⟨fun ⟨_,_,⟨h1,h2⟩,h⟩=>⟨_,h2,by subst h1;exact h⟩,fun ⟨_,h2,h⟩=>⟨_,_,⟨rfl,h2⟩,h⟩⟩
theorem z8y (x:Opd):za0 P K f σ (.ex (.rng x))=sb (fun σ'=>K (.ptr σ.length 0) σ') (.mk _) (zzB σ (x.ev f)):=
 propext ⟨fun ⟨_,_,⟨h1,h2⟩,h⟩=>⟨_,h2,by subst h1;exact h⟩,fun ⟨_,h2,h⟩=>⟨_,_,⟨rfl,h2⟩,h⟩⟩
def apT (K:AV→zac→Prop) (_:Tg K) (σ:zac) (e size bytes:Nat) (x y:AV):Prop:=∃(l m:List (List AV)) (im:Bool),x=.tight l∧view σ y=some m∧0<size∧(∀c∈m,c.length=size)∧(∀c∈l,c.length=size)∧m≠ []∧(im=true→zlE σ y m)∧(l.length+m.length)*bytes≤140737488355328∧l.length+m.length≤9223372036854775807∧K (.row σ.length (l.length+m.length)) (σ++ [.row e size (l++m) im])
theorem z7s (e size bytes:Nat) (x y:Opd):za0 P K f σ (.apt e size bytes x y)=apT K (.mk _) σ e size bytes (x.ev f) (y.ev f):=propext Iff.rfl
def nt (K:AV→zac→Prop) (_:Tg K) (σ:zac) (x:AV):Prop:=match x with
 | .ptr id 0=>match σ[id]? with
  |some (.itr mid n left last)=>(left= []→K (.tup [.bool false]) σ)∧∀i∈left,K (.tup [.bool true,.junk,.junk]) (σ.set id (.itr mid n (left.erase i) i))
  |_=>False
 |_=>False
theorem z7M (x:Opd):za0 P K f σ (.nxt x)=nt K (.mk _) σ (x.ev f):=propext Iff.rfl
def ap (K:AV→zac→Prop) (_:Tg K) (σ:zac) (e size bytes:Nat) (x y:AV):Prop:=∃m,view σ y=some m∧0<size∧(∀c∈m,c.length=size)∧
 match x with
 | .nils=>(m= []∧K .nils σ)∨∃im,(im=true→zlE σ y m)∧m.length*bytes≤140737488355328∧m.length≤9223372036854775807∧K (.row σ.length m.length) (σ++ [.row e size m im])
 | .row id n=>∃els im,σ[id]? =some (.row e size els im)∧(im=true→zlE σ y m)∧els.length=n∧(n+m.length)*bytes≤140737488355328∧n+m.length≤9223372036854775807∧K (.row id (n+m.length)) (σ.set id (.row e size (els++m) im))
 | .sub id n sz lo hi=>∃els,σ[id]? =some (.row e size els false)∧els.length=n∧0<n∧sz=size∧lo=0∧(hi+m.length)*bytes≤140737488355328∧hi+m.length≤9223372036854775807∧K (.row σ.length (hi+m.length)) (σ.set id (.dead n)++ [.row e size (els.take hi++m) false])
 | .tight l=>∃im,(∀c∈l,c.length=size)∧m≠ []∧(im=true→zlE σ y m)∧(l.length+m.length)*bytes≤140737488355328∧l.length+m.length≤9223372036854775807∧K (.row σ.length (l.length+m.length)) (σ++ [.row e size (l++m) im])
 |_=>False
theorem z8a (e size bytes:Nat) (x y:Opd):za0 P K f σ (.app e size bytes x y)=ap K (.mk _) σ e size bytes (x.ev f) (y.ev f):=propext Iff.rfl
theorem zhS (im:Bool) {t:Tg K} {e size bytes:Nat} {y:AV} (m:List (List AV)) (hv:view σ y=some m) (hs:0<size) (hl:∀c∈m,c.length=size) (hf:im=true→zlE σ y m) (hb:m.length*bytes≤140737488355328) (h63:m.length≤9223372036854775807)
  (hK:K (.row σ.length m.length) (σ++ [.row e size m im])):ap K t σ e size bytes .nils y:=⟨m,hv,hs,hl,.inr ⟨im,hf,hb,h63,hK⟩⟩
theorem zaK {t:Tg K} {e size bytes id n:Nat} {y:AV} (els m:List (List AV)) (im:Bool) (he:σ[id]? =some (.row e size els im)) (hv:view σ y=some m) (hs:0<size) (hl:∀c∈m,c.length=size) (hf:im=true→zlE σ y m) (hn:els.length=n) (hb:(n+m.length)*bytes≤140737488355328) (h63:n+m.length≤9223372036854775807)
  (hK:K (.row id (n+m.length)) (σ.set id (.row e size (els++m) im))):ap K t σ e size bytes (.row id n) y:=⟨m,hv,hs,hl,els,im,he,hf,hn,hb,h63,hK⟩
def aps (K:AV→zac→Prop) (_:Tg K) (σ:zac) (e:Nat) (x y:AV):Prop:=∃l,y=.str l∧
 match x with
 | .nils=>(l= []∧K .nils σ)∨∃im,l.length≤140737488355328∧K (.row σ.length l.length) (σ++ [.row e 1 (byteEls l) im])
 | .row id n=>∃els im,σ[id]? =some (.row e 1 els im)∧els.length=n∧n+l.length≤140737488355328∧K (.row id (n+l.length)) (σ.set id (.row e 1 (els++byteEls l) im))
 |_=>False
theorem z59 (e:Nat) (x y:Opd):za0 P K f σ (.apps e x y)=aps K (.mk _) σ e (x.ev f) (y.ev f):=propext Iff.rfl
theorem z0P {t:Tg K} {e id n:Nat} {l:List UInt8} (els:List (List AV)) (im:Bool) (he:σ[id]? =some (.row e 1 els im)) (hn:els.length=n) (hb:n+l.length≤140737488355328)
  (hK:K (.row id (n+l.length)) (σ.set id (.row e 1 (els++byteEls l) im))):aps K t σ e (.row id n) (.str l):=⟨l,rfl,els,im,he,hn,hb,hK⟩
theorem zbY {Q:AExit→Frame→zac→Prop}:awp P (.all []) Q f σ=True:=propext ⟨fun _=>trivial,fun _ _ h=>by cases h⟩
theorem zbG {Q:AExit→Frame→zac→Prop} (l:List AIns) (ls:List (List AIns)):awp P (.all (l::ls)) Q f σ=(zcM P (Q .normal) l f σ∧awp P (.all ls) Q f σ):=
 propext ⟨fun h=>⟨h l (by simp),fun l' h'=>h l' (by simp [h'])⟩,fun h l' h'=>by
  rcases ybb.1 h' with rfl|h'
  ·exact h.1
  ·exact h.2 l' h'⟩
theorem z2X {Q:AExit→Frame→zac→Prop}:awp P .skip Q f σ=Q .normal f σ:=propext Iff.rfl
theorem z5Y {Q:AExit→Frame→zac→Prop} (l:List AIns):awp P (.ops l) Q f σ=zcM P (Q .normal) l f σ:=propext Iff.rfl
theorem z7g {Q:AExit→Frame→zac→Prop} (a b:ACode):awp P (.seq a b) Q f σ=awp P a (AExit.then (awp P b Q) Q) f σ:=propext Iff.rfl
theorem z21 {Q:AExit→Frame→zac→Prop} (c:Opd) (x y:ACode):awp P (.cond c x y) Q f σ=cb (awp P x Q f σ) (awp P y Q f σ) (.mk _) (.mk _) (c.ev f):=propext Iff.rfl
theorem z31 {Q:AExit→Frame→zac→Prop} (c:ACode):awp P (.loop c) Q f σ=lp P c (.mk _) Q (.mk _) f (.mk _) σ (.mk _):=propext Iff.rfl
theorem zsC {Q:AExit→Frame→zac→Prop} (id:Nat) (c:ACode):awp P (.block id c) Q f σ=awp P c (AExit.inBlock id Q) f σ:=propext Iff.rfl
theorem z2k {Q:AExit→Frame→zac→Prop} (id:Nat):awp P (.exit id) Q f σ=Q (.exit id) f σ:=propext Iff.rfl
theorem z5z {Q:AExit→Frame→zac→Prop}:awp P .ret Q f σ=Q .ret f σ:=propext Iff.rfl
theorem zwo {N:Frame→zac→Prop} {Q:AExit→Frame→zac→Prop}:AExit.then N Q .normal f σ=N f σ:=propext Iff.rfl
theorem ztL {N:Frame→zac→Prop} {Q:AExit→Frame→zac→Prop}:AExit.then N Q .normal=N:=funext fun _=>funext fun _=>propext Iff.rfl
theorem z1E {N:Frame→zac→Prop} {Q:AExit→Frame→zac→Prop} (id:Nat):AExit.then N Q (.exit id) f σ=Q (.exit id) f σ:=propext Iff.rfl
theorem z3g {N:Frame→zac→Prop} {Q:AExit→Frame→zac→Prop}:AExit.then N Q .ret f σ=Q .ret f σ:=propext Iff.rfl
theorem zqa {id:Nat} {Q:AExit→Frame→zac→Prop}:AExit.inBlock id Q .normal f σ=Q .normal f σ:=propext Iff.rfl
theorem zpm {id:Nat} {Q:AExit→Frame→zac→Prop}:AExit.inBlock id Q .normal=Q .normal:=funext fun _=>funext fun _=>propext Iff.rfl
theorem zwa {id:Nat} {Q:AExit→Frame→zac→Prop}:AExit.inBlock id Q .ret f σ=Q .ret f σ:=propext Iff.rfl
theorem ztu {id id':Nat} {Q:AExit→Frame→zac→Prop}:AExit.inBlock id Q (.exit id') f σ=if id'=id then Q .normal f σ else Q (.exit id') f σ:=propext Iff.rfl
theorem zcY:∀{c:ACode} {Q Q':AExit→Frame→zac→Prop} {f:Frame} {σ:zac},(∀e f σ,Q e f σ→Q' e f σ)→awp P c Q f σ→awp P c Q' f σ
 | .skip,_,_,_,_,h,h'=>h _ _ _ h'
 | .ops [],_,_,_,_,h,h'=>h _ _ _ h'
 | .ops (i::l),Q,Q',_,_,h,h'=>zo7 (fun f σ h0=>zcY (c:=.ops l) (Q:=Q) (Q':=Q') h h0) h'
 | .all ls,Q,Q',_,_,h,h'=>fun l hl=>zcY (c:=.ops l) (Q:=Q) (Q':=Q') h (h' l hl)
 | .seq a b,_,_,_,_,h,h'=>zcY (c:=a) (fun e f σ h0=>by cases e<;>first|exact zcY (c:=b) h h0|exact h _ _ _ h0) h'
 | .cond c x y,_,_,_,_,h,⟨b,h1,h2,h3⟩=>⟨b,h1,fun hb=>zcY (c:=x) h (h2 hb),fun hb=>zcY (c:=y) h (h3 hb)⟩
 | .block id c,_,_,_,_,h,h'=>zcY (c:=c) (fun e f σ h0=>by
   cases e with
   |normal=>exact h _ _ _ h0
   |exit id'=>simp only [AExit.inBlock] at h0⊢;split<;>rename_i hh<;>simp only [hh,if_true,if_false] at h0<;>exact h _ _ _ h0
   |ret=>exact h _ _ _ h0) h'
 | .loop c,_,_,_,_,h,⟨I,n,h0,hr⟩=>⟨I,n,h0,fun n f σ hI=>zcY (c:=c) (fun e f σ h1=>by cases e<;>first|exact h1|exact h _ _ _ h1) (hr n f σ hI)⟩
 | .exit id,_,_,_,_,h,h'=>h _ _ _ h'
 | .ret,_,_,_,_,h,h'=>h _ _ _ h'
 | .gh,_,_,_,_,h,h'=>h'.imp (h _ _ _) fun ⟨σ',h1,h2⟩=>⟨σ',h1,h _ _ _ h2⟩
 | .bad,_,_,_,_,_,h'=>h'
def zqG [Globs] (σ:zac) (f:Frame) (res:List (Nat×Option (Bool×Nat))):Option AV:=(res.mapM (zff σ f)).bind fun rs=>fin σ 0 (zaE rs)
def z5o [Globs] (R:AV→Prop) (_:Tg R) (res:List (Nat×Option (Bool×Nat))):AExit→Frame→zac→Prop
 | .exit _,_,_=>False
 |_,f,σ=>ob R (.mk _) (zqG σ f res)
theorem z1A {R:AV→Prop} {t:Tg R} {res:List (Nat×Option (Bool×Nat))}:z5o R t res .ret f σ=ob R (.mk _) (zqG σ f res):=propext Iff.rfl
theorem zuo {R:AV→Prop} {t:Tg R} {res:List (Nat×Option (Bool×Nat))}:z5o R t res .normal f σ=ob R (.mk _) (zqG σ f res):=propext Iff.rfl
theorem zaa (hm:P.follows .mixedOrders=true) {loud:List FuncId} {g:FuncId} {af:AFunc} {args:List AV} {R:AV→Prop} (hf:zaf P loud g=some af) (hargs:decide (args.length≤af.n)=true)
  (h:awp P af.code (z5o R (.mk _) af.res) (zvG args) []):PCalls P g args R:=by
 refine zkL hm hf (of_decide_eq_true hargs) (zcY (fun e f σ h0=> ?_) h)
 have key:ob R (.mk _) (zqG σ f af.res)→zuH [] (fun r σ'=>σ'= []∧R r) af.res f σ:=by
  rintro ⟨r,h1,h2⟩
  unfold zqG at h1
  simp only [yac] at h1
  obtain ⟨rs,h3,h4⟩:=h1
  exact ⟨rs,r,0,h3,.inl h4,yaq _,fun id e h=>absurd h (Nat.not_lt_zero _),by simp,h2⟩
 cases e with
 |normal=>exact key h0
 |ret=>exact key h0
 |exit id=>exact h0.elim
theorem ziC {lend:Bool} {args:List AV} (ha:args.all AV.pure=true):CoeL σ lend args args:=by
 induction args with
 |nil=>exact .nil
 |cons a l ih=>
  simp only [List.all_cons,yb3] at ha
  exact .cons (.pure a ha.1) (ih ha.2)
theorem zad {g:FuncId} {args:List AV} {R:AV→Prop} {t:Tg K} (hc:PCalls P g args R) (ha:args.all AV.pure=true) (hK:∀r,R r→K r σ):ac P K t σ g args:=.inl ⟨args,R,ziC ha,hc,hK⟩
theorem zv9 {g:FuncId} {args args':List AV} {R:AV→Prop} {t:Tg K} (hc:PCalls P g args' R) (ha:CoeL σ false args args') (hK:∀r,R r→K r σ):ac P K t σ g args:=.inl ⟨args',R,ha,hc,hK⟩
theorem z0U {g:FuncId} {args args':List AV} {R:AV→Prop} {t:Tg K} (hc:PCalls P g args' R) (ha:CoeL σ true args args') (hK:∀r,R r→rig r=true∧K r σ):ac P K t σ g args:=.inr (.inl ⟨args',R,ha,hc,hK⟩)
theorem zar {g:FuncId} {args:List AV} {R:AV→zac→Prop} {t:Tg K} (hc:ACalls P g args σ R) (hK:∀r σ',R r σ'→K r σ'):ac P K t σ g args:=.inr (.inr (hc.mono hK))
theorem zaq {g:FuncId} {args:List AV} {r:AV} {t:Tg K} (hc:PCalls P g args (fun r'=>r'=r)) (ha:args.all AV.pure=true) (hr:rig r=true) (hK:K r σ):qc P K t σ g args:=⟨true,args,r,ziC ha,hc,fun _=>hr,hK⟩
theorem zaZ {g:FuncId} {args:List AV} {r:AV} {t:Tg K} (hc:PCalls P g args (fun r'=>r'=r)) (ha:args.all AV.pure=true) (hK:K r σ):qc P K t σ g args:=⟨false,args,r,ziC ha,hc,nofun,hK⟩
theorem z5Q {g:FuncId} {args args':List AV} {r:AV} {t:Tg K} (hc:PCalls P g args' (fun r'=>r'=r)) (ha:CoeL σ true args args') (hr:rig r=true) (hK:K r σ):qc P K t σ g args:=⟨true,args',r,ha,hc,fun _=>hr,hK⟩
end
theorem z4d:AV.one (.junk)=false:=rfl
theorem zy7:AV.cells (.junk)= [.junk]:=rfl
theorem z6V (k:IntKind) (n:Int):AV.one (.int k n)=true:=rfl
theorem zzP (k:IntKind) (n:Int):AV.cells (.int k n)= [.int k n]:=rfl
theorem z4z (b:Bool):AV.one (.bool b)=true:=rfl
theorem zxU (b:Bool):AV.cells (.bool b)= [.bool b]:=rfl
theorem z7j (s:List UInt8):AV.one (.str s)=true:=rfl
theorem z1S (s:List UInt8):AV.cells (.str s)= [.str s]:=rfl
theorem z6Q (k:FloatKind) (b:Nat):AV.one (.flt k b)=true:=rfl
theorem zz5 (k:FloatKind) (b:Nat):AV.cells (.flt k b)= [.flt k b]:=rfl
theorem z2F:AV.one (.nilp)=true:=rfl
theorem zyJ:AV.cells (.nilp)= [.nilp]:=rfl
theorem z6C (i o:Nat):AV.one (.ptr i o)=true:=rfl
theorem z1d (i o:Nat):AV.cells (.ptr i o)= [.ptr i o]:=rfl
theorem z4f (c:List AV):AV.one (.rptr c)=true:=rfl
theorem zxL (c:List AV):AV.cells (.rptr c)= [.rptr c]:=rfl
theorem z3a:AV.one (.nils)=true:=rfl
theorem zyd:AV.cells (.nils)= [.nils]:=rfl
theorem z6I (l:List (List AV)):AV.one (.lst l)=true:=rfl
theorem z1K (l:List (List AV)):AV.cells (.lst l)= [.lst l]:=rfl
theorem z7h (i n:Nat):AV.one (.row i n)=true:=rfl
theorem z1q (i n:Nat):AV.cells (.row i n)= [.row i n]:=rfl
theorem z2B (i n s k o:Nat):AV.one (.rowp i n s k o)=true:=rfl
theorem zyh (i n s k o:Nat):AV.cells (.rowp i n s k o)= [.rowp i n s k o]:=rfl
theorem z5S (i:Nat):AV.one (.map i)=true:=rfl
theorem z1C (i:Nat):AV.cells (.map i)= [.map i]:=rfl
theorem z3d:AV.one (.nilm)=true:=rfl
theorem zxx:AV.cells (.nilm)= [.nilm]:=rfl
theorem z8f (f:Fn) (a b:List AV):AV.one (.fn f a b)=true:=rfl
theorem z4j (f:Fn) (a b:List AV):AV.cells (.fn f a b)= [.fn f a b]:=rfl
theorem z2C:AV.one (.nilf)=true:=rfl
theorem zyO:AV.cells (.nilf)= [.nilf]:=rfl
theorem z0z (t:TypeId) (v:AV):AV.one (.iface t v)=true:=rfl
theorem zuG (t:TypeId) (v:AV):AV.cells (.iface t v)= [.iface t v]:=rfl
theorem z3B:AV.one (.nili)=true:=rfl
theorem zyx:AV.cells (.nili)= [.nili]:=rfl
theorem z5i (l:List AV):AV.one (.agg l)=false:=rfl
theorem z16 (l:List AV):AV.cells (.agg l)=l:=rfl
theorem z5H (l:List AV):AV.one (.tup l)=false:=rfl
theorem z0T (l:List AV):AV.cells (.tup l)= [.tup l]:=rfl
theorem z7z (g o:Nat):AV.one (.gp g o)=true:=rfl
theorem z2y (g o:Nat):AV.cells (.gp g o)= [.gp g o]:=rfl
theorem z6P (i o n s:Nat):AV.one (.asl i o n s)=true:=rfl
theorem z0K (i o n s:Nat):AV.cells (.asl i o n s)= [.asl i o n s]:=rfl
attribute [simp] z6P z0K
theorem z7b (i n s l h:Nat):AV.one (.sub i n s l h)=true:=rfl
theorem z0o (i n s l h:Nat):AV.cells (.sub i n s l h)= [.sub i n s l h]:=rfl
attribute [simp] z7z z2y z7b z0o
theorem z6z (v:Value):AV.one (.any v)=false:=rfl
theorem zzx (v:Value):AV.cells (.any v)= [.any v]:=rfl
attribute [simp] z4d zy7 z6V zzP z4z zxU z7j z1S z6Q zz5 z2F zyJ z6C z1d z4f zxL z3a zyd z6I z1K z7h z1q z2B zyh z5S z1C z3d zxx z8f z4j z2C zyO z0z zuG z3B zyx z5i z16 z5H z0T z6z zzx
theorem z2O (σ:zac) (m:Nat) (k:IntKind) (n:Int):fin1 σ m (.int k n)=some (.int k n):=by simp [fin1,AV.under]
theorem zz8 (σ:zac) (m:Nat) (b:Bool):fin1 σ m (.bool b)=some (.bool b):=by simp [fin1,AV.under]
theorem z27 (σ:zac) (m:Nat) (s:List UInt8):fin1 σ m (.str s)=some (.str s):=by simp [fin1,AV.under]
theorem z38 (σ:zac) (m:Nat) (k:FloatKind) (b:Nat):fin1 σ m (.flt k b)=some (.flt k b):=by simp [fin1,AV.under]
theorem zzZ (σ:zac) (m:Nat):fin1 σ m (.nilp)=some (.nilp):=by simp [fin1,AV.under]
theorem zzL (σ:zac) (m:Nat) (c:List AV):fin1 σ m (.rptr c)=some (.rptr c):=by simp [fin1,AV.under]
theorem z2A (σ:zac) (m:Nat) (l:List (List AV)):fin1 σ m (.lst l)=some (.lst l):=by simp [fin1,AV.under]
theorem z0E (σ:zac) (m:Nat):fin1 σ m (.nilm)=some (.nilm):=by simp [fin1,AV.under]
theorem z0Z (σ:zac) (m:Nat):fin1 σ m (.nilf)=some (.nilf):=by simp [fin1,AV.under]
theorem zza (σ:zac) (m:Nat):fin1 σ m (.nili)=some (.nili):=by simp [fin1,AV.under]
theorem z5m (σ:zac) (m:Nat) (g o:Nat):fin1 σ m (.gp g o)=some (.gp g o):=by simp [fin1,AV.under]
theorem z2K (σ:zac) (m i:Nat):fin1 σ m (.map i)=if i<m then some (.map i) else none:=by simp [fin1,AV.under]
theorem z3V (σ:zac) (m i n size lo hi:Nat):fin1 σ m (.sub i n size lo hi)=(fz σ m 3 (.row i n)).bind fun
  | .lst l=>if∀c∈l,c.length=size then some (.lst ((l.take hi).drop lo)) else none
  |_=>none:=rfl
attribute [simp] z5m z2K z3V
theorem zzF (σ:zac) (m:Nat):fin1 σ m .nils=some (.lst []):=rfl
theorem z3t (σ:zac) (m i n:Nat):fin1 σ m (.row i n)=fz σ m 3 (.row i n):=rfl
theorem z3v (σ:zac) (m i o:Nat):fin1 σ m (.ptr i o)=if i<m then some (.ptr i o) else none:=by simp [fin1,AV.under]
theorem zxy (σ:zac) (m:Nat) (t:TypeId) (v:AV):fin1 σ m (.iface t v)=if v.under m then some (.iface t v) else none:=by simp [fin1,AV.under]
theorem z6J (σ:zac) (m:Nat) (g:Fn) (a b:List AV):fin1 σ m (.fn g a b)=if (AV.fn g a b).under m then some (.fn g a b) else none:=rfl
attribute [simp] z2O zz8 z27 z38 zzZ zzL z2A z0E z0Z zza zzF z3t z3v zxy z6J
theorem z18 (σ:zac):view σ .nils=some []:=rfl
theorem z4v (σ:zac) (l:List (List AV)):view σ (.lst l)=some l:=rfl
theorem z2v (σ:zac) (id n:Nat):view σ (.row id n)=match σ[id]? with
  |some (.row _ _ els _)=>if els.length=n then some els else none
  |_=>none:=rfl
theorem z3Y (σ:zac) (id n size lo hi:Nat):view σ (.sub id n size lo hi)=match σ[id]? with
  |some (.row _ size' els _)=>if els.length=n∧size'=size then some ((els.take hi).drop lo) else none
  |_=>none:=rfl
attribute [simp] z3Y
theorem z2R (σ:zac) (id off n size:Nat):view σ (.asl id off n size)=match σ[id]? with
  |some (.var _ cells)=>if off+n*size≤cells.length then some (zbc n size ((cells.drop off).take (n*size))) else none
  |_=>none:=rfl
attribute [simp] z2R
theorem zx6 (σ:zac):zf4 σ .nils=some []:=rfl
theorem zzd (σ:zac) (l:List (List AV)):zf4 σ (.lst l)=some l:=rfl
theorem z05 (σ:zac) (id n:Nat):zf4 σ (.row id n)=match σ[id]? with
  |some (.row _ _ els true)=>if els.length=n then some els else none
  |_=>none:=rfl
attribute [simp] z18 z4v z2v zx6 zzd z05
theorem z5p (σ:zac) (m:Nat) (k:IntKind) (n:Int):fin σ m (.int k n)=fin1 σ m (.int k n):=rfl
theorem z2x (σ:zac) (m:Nat) (k:IntKind) (n:Int):finT σ m (.int k n)=fin1 σ m (.int k n):=rfl
theorem z4u (σ:zac) (m:Nat) (b:Bool):fin σ m (.bool b)=fin1 σ m (.bool b):=rfl
theorem zz3 (σ:zac) (m:Nat) (b:Bool):finT σ m (.bool b)=fin1 σ m (.bool b):=rfl
theorem z6B (σ:zac) (m:Nat) (s:List UInt8):fin σ m (.str s)=fin1 σ m (.str s):=rfl
theorem z4C (σ:zac) (m:Nat) (s:List UInt8):finT σ m (.str s)=fin1 σ m (.str s):=rfl
theorem z63 (σ:zac) (m:Nat) (k:FloatKind) (b:Nat):fin σ m (.flt k b)=fin1 σ m (.flt k b):=rfl
theorem z3z (σ:zac) (m:Nat) (k:FloatKind) (b:Nat):finT σ m (.flt k b)=fin1 σ m (.flt k b):=rfl
theorem z3l (σ:zac) (m:Nat):fin σ m (.nilp)=fin1 σ m (.nilp):=rfl
theorem z1z (σ:zac) (m:Nat):finT σ m (.nilp)=fin1 σ m (.nilp):=rfl
theorem z2S (σ:zac) (m:Nat) (c:List AV):fin σ m (.rptr c)=fin1 σ m (.rptr c):=rfl
theorem z0L (σ:zac) (m:Nat) (c:List AV):finT σ m (.rptr c)=fin1 σ m (.rptr c):=rfl
theorem z5q (σ:zac) (m:Nat) (l:List (List AV)):fin σ m (.lst l)=fin1 σ m (.lst l):=rfl
theorem z3O (σ:zac) (m:Nat) (l:List (List AV)):finT σ m (.lst l)=fin1 σ m (.lst l):=rfl
theorem z2D (σ:zac) (m:Nat):fin σ m (.nilm)=fin1 σ m (.nilm):=rfl
theorem zz1 (σ:zac) (m:Nat):finT σ m (.nilm)=fin1 σ m (.nilm):=rfl
theorem z2u (σ:zac) (m:Nat):fin σ m (.nilf)=fin1 σ m (.nilf):=rfl
theorem z1W (σ:zac) (m:Nat):finT σ m (.nilf)=fin1 σ m (.nilf):=rfl
theorem z2d (σ:zac) (m:Nat):fin σ m (.nili)=fin1 σ m (.nili):=rfl
theorem zzR (σ:zac) (m:Nat):finT σ m (.nili)=fin1 σ m (.nili):=rfl
theorem z3P (σ:zac) (m:Nat):fin σ m (.nils)=fin1 σ m (.nils):=rfl
theorem z08 (σ:zac) (m:Nat):finT σ m (.nils)=fin1 σ m (.nils):=rfl
theorem z5W (σ:zac) (m:Nat) (i n:Nat):fin σ m (.row i n)=fin1 σ m (.row i n):=rfl
theorem z3W (σ:zac) (m:Nat) (i n:Nat):finT σ m (.row i n)=fin1 σ m (.row i n):=rfl
theorem z7e (σ:zac) (m:Nat) (i o:Nat):fin σ m (.ptr i o)=fin1 σ m (.ptr i o):=rfl
theorem z24 (σ:zac) (m:Nat) (i o:Nat):finT σ m (.ptr i o)=fin1 σ m (.ptr i o):=rfl
theorem z1Q (σ:zac) (m:Nat) (t:TypeId) (v:AV):fin σ m (.iface t v)=fin1 σ m (.iface t v):=rfl
theorem zyv (σ:zac) (m:Nat) (t:TypeId) (v:AV):finT σ m (.iface t v)=fin1 σ m (.iface t v):=rfl
theorem z8q (σ:zac) (m:Nat) (g:Fn) (a b:List AV):fin σ m (.fn g a b)=fin1 σ m (.fn g a b):=rfl
theorem z6q (σ:zac) (m:Nat) (g:Fn) (a b:List AV):finT σ m (.fn g a b)=fin1 σ m (.fn g a b):=rfl
theorem z8s (σ:zac) (m:Nat) (i o:Nat):fin σ m (.gp i o)=fin1 σ m (.gp i o):=rfl
theorem z56 (σ:zac) (m:Nat) (i o:Nat):finT σ m (.gp i o)=fin1 σ m (.gp i o):=rfl
theorem z5l (σ:zac) (m:Nat) (i:Nat):fin σ m (.map i)=fin1 σ m (.map i):=rfl
theorem z3Z (σ:zac) (m:Nat) (i:Nat):finT σ m (.map i)=fin1 σ m (.map i):=rfl
theorem z7i (σ:zac) (m:Nat) (i n s l h:Nat):fin σ m (.sub i n s l h)=fin1 σ m (.sub i n s l h):=rfl
theorem z4c (σ:zac) (m:Nat) (i n s l h:Nat):finT σ m (.sub i n s l h)=fin1 σ m (.sub i n s l h):=rfl
attribute [simp] z8s z56 z5l z3Z z7i z4c
theorem z5r (σ:zac) (m:Nat) (l:List AV):fin σ m (.agg l)=(finL σ m l).map .agg:=rfl
theorem z4k (σ:zac) (m:Nat) (l:List AV):finT σ m (.agg l)=(finL σ m l).map .agg:=rfl
theorem z5s (σ:zac) (m:Nat) (l:List AV):fin σ m (.tup l)=(l.mapM (finT σ m)).map .tup:=rfl
attribute [simp] z5p z2x z4u zz3 z6B z4C z63 z3z z3l z1z z2S z0L z5q z3O z2D zz1 z2u z1W z2d zzR z3P z08 z5W z3W z7e z24 z1Q zyv z8q z6q z5r z4k z5s
attribute [simp ↓] zy9 zuZ zue z85 z5M z8l z7u z7H z8p z71 z6X z75 z4e z2Y z5G z3T z3J z3N z2f z67 z68 z6e z74 z6G z7A z8V z6n z5J z2t z54 z35 z2J z7Q z2I z49 z8a z59 z8L zyg z44 z5X z7K z65 z8y z7M z7s zbY zbG
 z2X z5Y z7g z21 zsC z2k z5z z31 zwo ztL z1E z3g zqa zpm zwa ztu z1A zuo
attribute [simp] zr2 zhW zhJ zh2 zod zbr zbn zca za4 zcK zrh zl7 zoo zhn zw0 zeO zzT zzM z0W zzB zdF Entry.isItr
attribute [simp] z5f z6o z5V z2V z8N z8I z8F z8D gd_u za3 abin zvf zaP zfE zvG zhl zff zqG zaE finL fz AV.under AV.els z6c zlE AV.pure eq1 zjJ zdI z5n zvb splice share zeS zxu z5d zbc lay rig
end Go.Abs
end
section
namespace Go.Abs
open Go.RowKit
variable {G:Globs}
section
variable {P:Program}
def z5a [Globs] (P:Program) (g:FuncId) (args:List AV) (σ:zac) (K:zac→Prop):Prop:=
 ∀base κ Im w vs,SRel base κ Im σ w→VRL κ Im w args vs→CallsD P g vs.toArray .returning w fun e u' w'=>
  u'=.returning∧∃v σ' κ' Im',e=.returned v∧K σ'∧SRel base κ' Im' σ' w'∧Grow base κ Im w κ' Im' w'
def z6r (P:Program) (N:Nat) (loud:List FuncId):Code→Option (List AIns×Nat)
 | .region _ ops false=>match ops.toList.reverse with
  |o::rest=>match o.op,o.guard,o.dst with
   | .defer c,none,none=>match c.callee with
    | .value (.tmp t)=>if c.args.size=0 then some (rest.reverse.map (fun o=>zjj loud (zcS P N ops o)),t) else none
    |_=>none
   |_,_,_=>none
  | []=>none
 |_=>none
structure ADef where
 pre:ACode
 ins:List AIns
 t:Nat
 post:ACode
def zhX (P:Program) (N:Nat) (loud:List FuncId):Code→Option ADef
 | .seq a b=>match z6r P N loud a with
  |some (l,t)=>some ⟨.skip,l,t,comp P N loud b⟩
  |none=>(zhX P N loud b).map fun d=>{d with pre:=.seq (comp P N loud a) d.pre}
 |_=>none
structure AFuncD where
 n:Nat
 res:List (Nat×Option (Bool×Nat))
 code:ADef
def z8K [Globs] (P:Program) (g:FuncId) (cap:List AV) (σ₀:zac) (R:AV→zac→Prop) (res:List (Nat×Option (Bool×Nat))):AExit→Frame→zac→Prop
 | .exit _,_,_=>False
 |_,f,σ=>z5a P g cap σ (zuH σ₀ R res f)
def DMid [Globs] (P:Program) (d:ADef) (σ₀:zac) (R:AV→zac→Prop) (res:List (Nat×Option (Bool×Nat))) (f:Frame) (σ:zac):Prop:=
 ∃g cap,f d.t=.fn (.func g) [] cap∧zaJ P g=true∧awp P d.post (z8K P g cap σ₀ R res) f σ
end
end Go.Abs
end
section
namespace Go.Abs
open Go.RowKit
variable {G:Globs}
theorem wrap_i64 {x:Int} (h1: -9223372036854775808≤x) (h2:x≤9223372036854775807):IntKind.wrap .i64 x=x:=by
 simp [IntKind.wrap,IntKind.signed,IntKind.bits];omega
def nl (K:AV→zac→Prop) (_:Tg K) (σ:zac) (neg:Bool) (v:AV):Prop:=match v with
 | .lst []=>∀b:Bool,K (.bool b) σ
 |v=>∃b,zhJ 3 v=some b∧K (.bool (if neg then !b else b)) σ
theorem z7U {P:Program} {K:AV→zac→Prop} {f:Frame} {σ:zac} (neg:Bool) (x:Opd):za0 P K f σ (.nlc neg x)=nl K (.mk _) σ neg (x.ev f):=rfl
attribute [simp ↓] z7U
theorem z6W {K:AV→zac→Prop} {t:Tg K} {σ:zac} {neg:Bool}:nl K t σ neg .nils=K (.bool (if neg then false else true)) σ:=by
 simp [nl,zhJ]
theorem zzp {K:AV→zac→Prop} {t:Tg K} {σ:zac} {neg:Bool} {c:List AV} {l:List (List AV)}:nl K t σ neg (.lst (c::l))=K (.bool (if neg then true else false)) σ:=by
 simp [nl,zhJ]
theorem zr0 {K:AV→zac→Prop} {t:Tg K} {σ:zac} {neg:Bool} {l:List (List AV)} (h:∀b:Bool,(l≠ []→b=neg)→K (.bool b) σ):nl K t σ neg (.lst l):=by
 cases l with
 |nil=>exact fun b=>h b (by simp)
 |cons c l=>rw [zzp];exact h _ (fun _=>by cases neg<;>rfl)
attribute [simp] z6W zzp
def cv [Globs] (P:Program) (K:AV→zac→Prop) (_:Tg K) (σ:zac) (x:AV) (args:List AV):Prop:=match x with
 | .fn (.func g) first captured=>zaJ P g=true∧zsp P σ K g (first++args++captured)
 |_=>False
def qv [Globs] (P:Program) (K:AV→zac→Prop) (_:Tg K) (σ:zac) (x:AV) (args:List AV):Prop:=match x with
 | .fn (.func g) first captured=>zaJ P g=true∧ztD P σ K g (first++args++captured)
 |_=>False
theorem z2l {P:Program} {K:AV→zac→Prop} {f:Frame} {σ:zac} (x:Opd) (args:List Opd):za0 P K f σ (.callv x args)=cv P K (.mk _) σ (x.ev f) (args.map (·.ev f)):=rfl
theorem zzz {P:Program} {K:AV→zac→Prop} {f:Frame} {σ:zac} (x:Opd) (args:List Opd):za0 P K f σ (.qcallv x args)=qv P K (.mk _) σ (x.ev f) (args.map (·.ev f)):=rfl
theorem zuB {P:Program} {K:AV→zac→Prop} {t:Tg K} {σ:zac} {g:FuncId} {first captured args:List AV} (hb:zaJ P g=true) (h:ac P K t σ g (first++args++captured)):cv P K t σ (.fn (.func g) first captured) args:=⟨hb,h⟩
attribute [simp ↓] z2l zzz
def lb [Globs] (P:Program) (I:Nat→Frame→zac→Prop) (_:Tg I) (c:ACode) (_:Tg c) (Q:AExit→Frame→zac→Prop) (_:Tg Q):Prop:=
 ∀n f σ,I n f σ→awp P c (AExit.then (fun f' σ'=>∃n',n'<n∧I n' f' σ') Q) f σ
theorem zxj {P:Program} {c:ACode} {tc:Tg c} {Q:AExit→Frame→zac→Prop} {tq:Tg Q} {f:Frame} {tf:Tg f} {σ:zac} {ts:Tg σ} (I:Nat→Frame→zac→Prop) (n:Nat) (h0:I n f σ) (hr:lb P I (.mk _) c tc Q tq):lp P c tc Q tq f tf σ ts:=⟨I,n,h0,hr⟩
def nx (n:Nat) (I:Nat→Frame→zac→Prop) (_:Tg I) (f:Frame) (_:Tg f) (σ:zac):Prop:=∃n',n'<n∧I n' f σ
def lbx [Globs] (P:Program) (I:Nat→Frame→zac→Prop) (tI:Tg I) (c:ACode) (_:Tg c) (Q:AExit→Frame→zac→Prop) (_:Tg Q):Prop:=
 ∀n f σ,I n f σ→awp P c (AExit.then (fun f' σ'=>nx n I tI f' (.mk f') σ') Q) f σ
theorem zah {P:Program} {c:ACode} {tc:Tg c} {Q:AExit→Frame→zac→Prop} {tq:Tg Q} {f:Frame} {tf:Tg f} {σ:zac} {ts:Tg σ} (I:Nat→Frame→zac→Prop) (n:Nat) (h0:I n f σ) (hr:lbx P I (.mk _) c tc Q tq):lp P c tc Q tq f tf σ ts:=⟨I,n,h0,hr⟩
theorem zae {n:Nat} {I:Nat→Frame→zac→Prop} {tI:Tg I} {f:Frame} {tf:Tg f} {σ:zac} (m:Nat) (hm:m<n) (h:I m f σ):nx n I tI f tf σ:=⟨m,hm,h⟩
def jn (J:Frame→zac→Prop) (_:Tg J) (f:Frame) (_:Tg f) (σ:zac):Prop:=J f σ
def z0d (id:Nat) (J:Frame→zac→Prop) (tJ:Tg J) (Q:AExit→Frame→zac→Prop):AExit→Frame→zac→Prop
 | .exit id',f,σ=>if id'=id then jn J tJ f (.mk f) σ else Q (.exit id') f σ
 | .normal,f,σ=>Q .normal f σ
 | .ret,f,σ=>Q .ret f σ
theorem zxO {id id':Nat} {J:Frame→zac→Prop} {tJ:Tg J} {Q:AExit→Frame→zac→Prop} {f:Frame} {σ:zac}:z0d id J tJ Q (.exit id') f σ=if id'=id then jn J tJ f (.mk f) σ else Q (.exit id') f σ:=rfl
theorem z1O {id:Nat} {J:Frame→zac→Prop} {tJ:Tg J} {Q:AExit→Frame→zac→Prop} {f:Frame} {σ:zac}:z0d id J tJ Q .ret f σ=Q .ret f σ:=rfl
theorem zt4 {id:Nat} {J:Frame→zac→Prop} {tJ:Tg J} {Q:AExit→Frame→zac→Prop} {f:Frame} {σ:zac}:z0d id J tJ Q .normal f σ=Q .normal f σ:=rfl
attribute [simp ↓] zxO z1O zt4
theorem zc5 {J:Frame→zac→Prop} {tJ:Tg J} {f:Frame} {tf:Tg f} {σ:zac} (h:J f σ):jn J tJ f tf σ:=h
theorem z1c {P:Program} {c:ACode} {tc:Tg c} {Q:AExit→Frame→zac→Prop} {tq:Tg Q} {f:Frame} {tf:Tg f} {σ:zac} {ts:Tg σ} (id:Nat) (J:Frame→zac→Prop) (hJ:∀f σ,J f σ→Q (.exit id) f σ) (h:lp P c tc (z0d id J (.mk _) Q) (.mk _) f tf σ ts):lp P c tc Q tq f tf σ ts:=by
 refine zcY (c:=.loop c) (fun e f σ h0=> ?_) h
 cases e with
 |exit id'=>
  simp only [z0d] at h0
  split at h0
  ·rename_i he;subst he;exact hJ _ _ h0
  ·exact h0
 |normal=>exact h0
 |ret=>exact h0
@[simp] theorem z8O (x y:Int):(x==y)=decide (x=y):=rfl
@[simp] theorem z83 (x y:Int):(x !=y)= !decide (x=y):=rfl
def er [Globs] (σ₀:zac) (R:AV→zac→Prop) (_:Tg R) (res:List (Nat×Option (Bool×Nat))) (f:Frame) (_:Tg f) (σ:zac):Prop:=zuH σ₀ R res f σ
def z5k [Globs] (σ₀:zac) (R:AV→zac→Prop) (_:Tg R) (res:List (Nat×Option (Bool×Nat))):AExit→Frame→zac→Prop
 | .exit _,_,_=>False
 |_,f,σ=>zuH σ₀ R res f σ
theorem zzY {σ₀:zac} {R:AV→zac→Prop} {t:Tg R} {res:List (Nat×Option (Bool×Nat))} {f:Frame} {σ:zac}:z5k σ₀ R t res .ret f σ=er σ₀ R t res f (.mk _) σ:=rfl
theorem zun {σ₀:zac} {R:AV→zac→Prop} {t:Tg R} {res:List (Nat×Option (Bool×Nat))} {f:Frame} {σ:zac}:z5k σ₀ R t res .normal f σ=er σ₀ R t res f (.mk _) σ:=rfl
attribute [simp ↓] zzY zun
theorem zag {P:Program} (hm:P.follows .mixedOrders=true) {loud:List FuncId} {g:FuncId} {af:AFunc} {args:List AV} {σ₀:zac} {R:AV→zac→Prop} (hf:zaf P loud g=some af) (hargs:decide (args.length≤af.n)=true)
  (h:awp P af.code (z5k σ₀ R (.mk _) af.res) (zvG args) σ₀):ACalls P g args σ₀ R:=
 zkL hm hf (of_decide_eq_true hargs) (zcY (fun e f σ h0=>by cases e<;>exact h0) h)
def z5y [Globs] (m:Nat) (σ:zac) (f:Frame) (res:List (Nat×Option (Bool×Nat))):Option AV:=(res.mapM (zff σ f)).bind fun rs=>fin σ m (zaE rs)
theorem z4g {σ₀:zac} {R:AV→zac→Prop} {t:Tg R} {res:List (Nat×Option (Bool×Nat))} {f:Frame} {tf:Tg f} {σ:zac} (s1:zac) (r:AV) (hr:z5y σ₀.length σ f res=some r) (extra:zac) (hσ:σ=s1++extra) (hlen:s1.length=σ₀.length)
  (hu:∀(id:Nat) (e:Entry),s1[id]? =some e→σ₀[id]? =some e∨e.under σ₀.length=true) (hR:R r s1):er σ₀ R t res f tf σ:=by
 unfold z5y at hr
 simp only [yac] at hr
 obtain ⟨rs,h1,h2⟩:=hr
 refine ⟨rs,r,σ₀.length,h1,.inl h2,yaq _,fun id e hid he=> ?_, ?_⟩
 ·subst hσ
  rw [yar (by omega)] at he
  exact hu id e he
 ·subst hσ
  rw [ycl (by omega),yao (by omega)]
  exact hR
theorem za5 {σ₀:zac} {R:AV→zac→Prop} {t:Tg R} {res:List (Nat×Option (Bool×Nat))} {f:Frame} {tf:Tg f} {σ:zac} (s1:zac) (r:AV) (hr:(res.mapM (zff σ f)).map zaE=some r) (extra:zac) (hσ:σ=s1++extra) (hlen:σ₀.length≤s1.length) (hru:r.under s1.length=true)
  (hu:∀(id:Nat) (e:Entry),s1[id]? =some e→σ₀[id]? =some e∨e.under s1.length=true) (hR:R r s1):er σ₀ R t res f tf σ:=by
 simp only [yae] at hr
 obtain ⟨rs,h1,rfl⟩:=hr
 refine ⟨rs,_,s1.length,h1,.inr ⟨rfl,hru⟩,hlen,fun id e hid he=> ?_, ?_⟩
 ·subst hσ
  rw [yar (by omega)] at he
  exact hu id e he
 ·subst hσ
  rw [ycl (by omega),yao (by omega)]
  exact hR
theorem zzh {σ:zac} {e0:Entry} {R:AV→zac→Prop} {t:Tg R} {res:List (Nat×Option (Bool×Nat))} {f:Frame} {tf:Tg f} {σ':zac} (id:Nat) (e:Entry) (r:AV) (extra:zac) (hr:z5y σ.length σ' f res=some r) (hσ:σ'=σ.set id e++extra)
  (hu:e.under σ.length=true) (hR:R r (σ.set id e)):er (σ.set id e0) R t res f tf σ':=by
 refine z4g (σ.set id e) r (by simpa using hr) extra hσ (by simp) (fun i x hx=> ?_) hR
 by_cases hi:i=id
 ·subst hi
  by_cases hlt:i<σ.length
  ·rw [ybj hlt] at hx
   simp only [yab] at hx
   subst hx
   exact .inr (by simpa using hu)
  ·rw [yco (by simp;omega)] at hx;cases hx
 ·rw [yba (fun h=>hi h.symm)] at hx⊢
  exact .inl hx
def edp [Globs] (P:Program) (g:FuncId) (cap:List AV) (σ₀:zac) (R:AV→zac→Prop) (_:Tg R) (res:List (Nat×Option (Bool×Nat))) (f:Frame) (_:Tg f) (σ:zac):Prop:=z5a P g cap σ (zuH σ₀ R res f)
def z4X [Globs] (P:Program) (g:FuncId) (cap:List AV) (σ₀:zac) (R:AV→zac→Prop) (t:Tg R) (res:List (Nat×Option (Bool×Nat))):AExit→Frame→zac→Prop
 | .exit _,_,_=>False
 |_,f,σ=>edp P g cap σ₀ R t res f (.mk f) σ
theorem zxQ {P:Program} {g:FuncId} {cap:List AV} {σ₀:zac} {R:AV→zac→Prop} {t:Tg R} {res:List (Nat×Option (Bool×Nat))} {f:Frame} {σ:zac}:z4X P g cap σ₀ R t res .ret f σ=edp P g cap σ₀ R t res f (.mk _) σ:=rfl
theorem zsz {P:Program} {g:FuncId} {cap:List AV} {σ₀:zac} {R:AV→zac→Prop} {t:Tg R} {res:List (Nat×Option (Bool×Nat))} {f:Frame} {σ:zac}:z4X P g cap σ₀ R t res .normal f σ=edp P g cap σ₀ R t res f (.mk _) σ:=rfl
def edm [Globs] (P:Program) (d:ADef) (_:Tg d) (σ₀:zac) (R:AV→zac→Prop) (_:Tg R) (res:List (Nat×Option (Bool×Nat))) (f:Frame) (_:Tg f) (σ:zac):Prop:=DMid P d σ₀ R res f σ
def z8R [Globs] (P:Program) (d:ADef) (td:Tg d) (σ₀:zac) (R:AV→zac→Prop) (t:Tg R) (res:List (Nat×Option (Bool×Nat))):AExit→Frame→zac→Prop
 | .exit _,_,_=>False
 | .ret,f,σ=>er σ₀ R t res f (.mk f) σ
 | .normal,f,σ=>zcM P (fun f σ=>edm P d td σ₀ R t res f (.mk f) σ) d.ins f σ
theorem ztH {P:Program} {d:ADef} {td:Tg d} {σ₀:zac} {R:AV→zac→Prop} {t:Tg R} {res:List (Nat×Option (Bool×Nat))} {f:Frame} {σ:zac}:
  z8R P d td σ₀ R t res .normal f σ=zcM P (fun f σ=>edm P d td σ₀ R t res f (.mk f) σ) d.ins f σ:=rfl
attribute [simp ↓] zxQ zsz ztH
def rowV (id:Nat) (l:List (List AV)):AV:=if l= [] then .nils else .row id l.length
theorem z3A (σ:zac) (m id:Nat) (l:List (List AV)):fin σ m (rowV id l)=fin1 σ m (rowV id l):=by
 unfold rowV;split<;>rfl
theorem z0m (σ:zac) (m id:Nat) (l:List (List AV)):finT σ m (rowV id l)=fin1 σ m (rowV id l):=by
 unfold rowV;split<;>rfl
theorem z4x (id:Nat) (l:List (List AV)):(rowV id l).one=true:=by
 unfold rowV;split<;>rfl
theorem zyF (id:Nat) (l:List (List AV)):(rowV id l).cells= [rowV id l]:=by
 unfold rowV;split<;>rfl
attribute [simp high] z4x zyF z3A z0m
def ms (K:AV→zac→Prop) (_:Tg K) (σ:zac) (e size bytes:Nat) (zero:List AV) (len cap:AV):Prop:=∃n c,zhl len=some n∧zhl cap=some c∧n≤c∧c*bytes≤140737488355328∧c≤9223372036854775807∧0<size∧zero.length=size∧
 K (.row σ.length n) (σ++ [.row e size (List.replicate n zero) false])
def cp (K:AV→zac→Prop) (_:Tg K) (σ:zac) (size:Nat) (x y:AV):Prop:=∃m k σ',view σ y=some m∧(∀c∈m,c.length=size)∧0<size∧zvh σ size m x=some (σ',k)∧K (.int .i64 (k:Nat)) σ'
theorem z8g {P:Program} {K:AV→zac→Prop} {f:Frame} {σ:zac} (size:Nat) (x y:Opd):za0 P K f σ (.ex (.cpy size x y))=cp K (.mk _) σ size (x.ev f) (y.ev f):=by
 apply propext
 constructor
 ·rintro ⟨r,σ',⟨m,k,h1,h2,h3,h4,rfl⟩,h5⟩
  exact ⟨m,k,σ',h1,h2,h3,h4,h5⟩
 ·rintro ⟨m,k,σ',h1,h2,h3,h4,h5⟩
  exact ⟨_,σ',⟨m,k,h1,h2,h3,h4,rfl⟩,h5⟩
attribute [simp ↓] z8g
theorem zxo {K:AV→zac→Prop} {t:Tg K} {σ σ':zac} {size:Nat} {x y:AV} (m:List (List AV)) (k:Nat) (h1:view σ y=some m) (h2:∀c∈m,c.length=size) (h3:0<size) (h4:zvh σ size m x=some (σ',k)) (h5:K (.int .i64 (k:Nat)) σ'):cp K t σ size x y:=⟨m,k,σ',h1,h2,h3,h4,h5⟩
theorem zyo {P:Program} {K:AV→zac→Prop} {f:Frame} {σ:zac} (e size bytes:Nat) (zero:List AV) (len cap:Opd):za0 P K f σ (.mkslice e size bytes zero len cap)=ms K (.mk _) σ e size bytes zero (len.ev f) (cap.ev f):=rfl
attribute [simp ↓] zyo
theorem zrX {K:AV→zac→Prop} {t:Tg K} {σ:zac} {e size bytes:Nat} {zero:List AV} {k k':IntKind} {x y:Int} (n:Nat) (hx:x=n) (hy:y=n) (hb:n*bytes≤140737488355328) (h63:n≤9223372036854775807) (hs:0<size) (hz:zero.length=size)
  (hK:K (.row σ.length n) (σ++ [.row e size (List.replicate n zero) false])):ms K t σ e size bytes zero (.int k x) (.int k' y):=by
 subst hx;subst hy
 exact ⟨n,n,by simp [zhl],by simp [zhl],yaq _,hb,h63,hs,hz,hK⟩
theorem z19 {P:Program} {Q:AExit→Frame→zac→Prop} {f:Frame} {σ:zac} (h:Q .normal f σ):awp P .gh Q f σ:=.inl h
theorem z4H {P:Program} {Q:AExit→Frame→zac→Prop} {f:Frame} {σ σ':zac} (hz:Frz σ σ') (h:Q .normal f σ'):awp P .gh Q f σ:=.inr ⟨σ',hz,h⟩
theorem zf2 (m:Nat):∀{v:AV},v.pure=true→v.under m=true
 | .ptr ..,h| .row ..,h| .rowp ..,h| .map ..,h| .sub ..,h| .asl ..,h=>by simp [AV.pure] at h
 | .fn _ a b,h=>by
  simp only [AV.pure,yb3,yaz,yea,forall_const,Subtype.forall] at h
  simp only [AV.under,yb3,yaz,yea,forall_const,Subtype.forall]
  exact ⟨fun x hx=>zf2 m (h.1 x hx),fun x hx=>zf2 m (h.2 x hx)⟩
 | .iface _ v,h=>by
  simp only [AV.pure] at h
  simp only [AV.under]
  exact zf2 m h
 | .agg l,h=>by
  simp only [AV.pure,yaz,yea,forall_const,Subtype.forall] at h
  simp only [AV.under,yaz,yea,forall_const,Subtype.forall]
  exact fun x hx=>zf2 m (h x hx)
 | .tup l,h=>by
  simp only [AV.pure,yaz,yea,forall_const,Subtype.forall] at h
  simp only [AV.under,yaz,yea,forall_const,Subtype.forall]
  exact fun x hx=>zf2 m (h x hx)
 | .junk,_| .int ..,_| .bool _,_| .str _,_| .flt ..,_| .nilp,_| .rptr _,_| .nils,_| .lst _,_| .nilm,_| .nilf,_| .nili,_| .any _,_| .gp ..,_| .tight _,_=>by simp [AV.under]
end Go.Abs
end
section
namespace Go.Abs
open Go.RowKit
variable {G:Globs}
theorem zs9 {base:Nat} {κ:Key} {Im:Addr→Prop} {w w':World} (hs:SRel base κ Im [] w) (hb:Below w.heap.size w w'):SRel base κ Im [] w'∧Grow base κ Im w κ Im w':=by
 have hcl:∀a,Im a→w'.cell? a=w.cell? a:=fun a ha=>ya8 (hb.block _ (hs.imlt a ha).1)
 exact ⟨hs.world (fun _ h=>h) (fun _ h=> .inl h) hb.size hb.block,⟨fun _ _ _ h=>h,fun _ h=>h,hcl,fun _ h=> .inl h,hb.mono hs.hb⟩⟩
theorem z1x {P:Program} {f:FuncId} {a:AV} {R:AV→Prop} (h:∀base κ Im w v,SRel base κ Im [] w→VR κ Im w a v→Calls P f #[v] w fun e w'=>∃r u,e=.returned u∧R r∧Below w.heap.size w w'∧∀Im',IR Im' w' r u):PCalls P f [a] R:=by
 intro base κ Im w vs hs hv
 obtain ⟨v0,rfl⟩:∃v0,vs= [v0]:=by
  match vs,hv.1 with
  | [a],_=>exact ⟨a,rfl⟩
 refine (h base κ Im w v0 hs (hv.2 0 (by simp) (by simp))).mono ?_
 rintro e w' ⟨r,u,rfl,hR,hb,hr⟩
 obtain ⟨h1,h2⟩:=zs9 hs hb
 exact ⟨r,[],u,κ,Im,rfl,⟨rfl,hR⟩,h1,h2,.im _ _ (hr _)⟩
theorem zsd {P:Program} {f:FuncId} {a b:AV} {R:AV→Prop} (h:∀base κ Im w v u,SRel base κ Im [] w→VR κ Im w a v→VR κ Im w b u→Calls P f #[v,u] w fun e w'=>∃r u,e=.returned u∧R r∧Below w.heap.size w w'∧∀Im',IR Im' w' r u):PCalls P f [a,b] R:=by
 intro base κ Im w vs hs hv
 obtain ⟨v0,v1,rfl⟩:∃v0 v1,vs= [v0,v1]:=by
  match vs,hv.1 with
  | [a,b],_=>exact ⟨a,b,rfl⟩
 refine (h base κ Im w v0 v1 hs (hv.2 0 (by simp) (by simp)) (hv.2 1 (by simp) (by simp))).mono ?_
 rintro e w' ⟨r,u,rfl,hR,hb,hr⟩
 obtain ⟨h1,h2⟩:=zs9 hs hb
 exact ⟨r,[],u,κ,Im,rfl,⟨rfl,hR⟩,h1,h2,.im _ _ (hr _)⟩
end Go.Abs
end
