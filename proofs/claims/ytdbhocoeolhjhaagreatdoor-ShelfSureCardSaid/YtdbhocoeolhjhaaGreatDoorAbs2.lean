/- The abstract machine: its soundness, contracts, loops, and the rules by which walks step. -/
import Derived.Test.YtdbhocoeolhjhaaGreatDoorAbs1b
import Derived.MapKept
import Derived.Laws.BytesString
import Derived.Lib.ConvBytes
import Derived.Lib.AtoiErrMem
import Derived.Scope
import Derived.Deep.LoopGhost
import Derived.Defers
set_option linter.unusedSimpArgs false
set_option linter.unusedVariables false
set_option linter.constructorNameAsVariable false
section
namespace Go.Abs
open Go.RowKit
variable {G:Globs}
section
variable {P:Program}{base:Nat}
theorem zoc {E:List (Nat×Nat)}{L:List AIns}{ops:Array Oper}:∀{l:List Nat},zlV E L ops l=true↔l.Pairwise λj i=>zpq E L ops j i=true
 | []=>by simp[zlV]
 |j::l=>by simp[zlV,zoc]
theorem zjz {ops:Array Oper}{i k:Nat}{o:Oper}(ho:ops[i]? =some o):k∈zeW ops i↔∃e∈o.after,Region.binds .any e=true/\e.on=k:=by
 unfold zeW
 rw[ho]
 simp only[yav,ybs,Array.mem_toList_iff]
 constructor
 ·rintro⟨e,⟨a,b⟩,c⟩;exact⟨e,a,b,c⟩
 ·rintro⟨e,a,b,c⟩;exact⟨e,⟨a,b⟩,c⟩
theorem zob {E:List (Nat×Nat)}{ops:Array Oper}{listed:Array Bool}(hcl:∀i,listed.getD i false=true->∀k∈zvD E ops i,listed.getD k false=true){j:Nat}:∀(n i:Nat),(∀k∈zvD E ops i,listed.getD k false=true)->zkd E ops j n i=true->listed.getD j false=true
 |0,i,_,h=>by simp[zkd]at h
 |n+1,i,hi,h=>by
  simp only[zkd,List.any_eq_true,yeo,yd9,decide_eq_true_eq]at h
  rcases h with h|⟨k,a,h⟩
  ·exact hi _ h
  ·exact zob hcl n k (hcl k (hi k a)) h
inductive Sched (ops:Array Oper):Nat->Array Bool->List Nat->Prop
 |zero (listed:Array Bool):Sched ops 0 listed []
 |stop (n:Nat) (listed:Array Bool) (h:Region.ready .any ops listed= []):Sched ops (n+1) listed []
 |step (n:Nat) (listed:Array Bool) (i:Nat) (l:List Nat) (h:i∈Region.ready .any ops listed) (hl:Sched ops n (listed.setIfInBounds i true) l):Sched ops (n+1) listed (i::l)
theorem zxJ (ops:Array Oper):∀(fuel t:Nat) (listed:Array Bool),Sched ops fuel listed (Region.linearise.go .any ops fuel t listed [])
 |0,t,listed=>by simp only[Region.linearise.go,List.reverse_nil];exact .zero _
 |fuel+1,t,listed=>by
  simp only[Region.linearise.go]
  change Sched ops (fuel+1) listed (match (Region.ready .any ops listed)[t%(Region.ready .any ops listed).length]? with
   |some i=>Region.linearise.go .any ops fuel (t/(Region.ready .any ops listed).length) (listed.setIfInBounds i true) [i]
   |none=> [].reverse)
  cases c:(Region.ready .any ops listed)[t%(Region.ready .any ops listed).length]? with
  |none=>
   have a:Region.ready .any ops listed= []:=by
    cases e:Region.ready .any ops listed with
    |nil=>rfl
    |cons x d=>
     rw[e]at c
     have b:t%(x::d).length<(x::d).length:=ybz _ (by simp)
     simp at c
     simp at b
     omega
   exact .stop _ _ a
  |some i=>
   simp only[]
   rw[linearise_go_acc,List.reverse_singleton,List.singleton_append]
   exact .step _ _ _ _ (yae c) (zxJ ops fuel _ _)
theorem ziy {f:Nat×Nat->Bool}{x y:Nat}:∀{C:List (Nat×Nat)},(x,y)∈zgm C (C.map f)->∃p∈C,(p=(x,y)/\f p=true)∨(p=(y,x)/\f p=false)
 | [],h=>by simp[zgm]at h
 |p::C,h=>by
  simp only[yci,zgm,ybb]at h
  rcases h with h|h
  ·cases a:f p with
   |true=>rw[a]at h;exact⟨p,by simp,.inl ⟨by simpa using h.symm,a⟩⟩
   |false=>
    rw[a]at h
    simp only[ydc,if_false,Prod.mk.injEq]at h
    exact⟨p,by simp,.inr ⟨by rw[h.1,h.2],a⟩⟩
  ·obtain⟨q,b,h⟩:=ziy h
   exact⟨q,by simp[b],h⟩
theorem zjw {l:List Nat}{j x:Nat}(h:j≠x):(x::l).idxOf j=l.idxOf j+1:=by
 rw[List.idxOf_cons]
 have:(x==j)=false:=by simp[Ne.symm h]
 rw[this];rfl
theorem zj9 {l:List Nat}{j:Nat}:∀{d:List Nat},j∉d->(d++l).idxOf j=d.length+l.idxOf j
 | [],_=>by simp
 |x::d,h=>by
  simp only[ybb,not_or]at h
  rw[ybq,zjw h.1,zj9 h.2];simp;omega
theorem zwj {C:List (Nat×Nat)}{l₀:List Nat}{x y:Nat}(hC:∀p∈C,p.1≠p.2)(h:(x,y)∈zgm C (C.map λp=>decide (l₀.idxOf p.1<l₀.idxOf p.2))):x≠y/\l₀.idxOf x≤l₀.idxOf y:=by
 obtain⟨p,b,(⟨rfl,a⟩|⟨rfl,a⟩)⟩:=ziy h
 ·simp only[decide_eq_true_eq]at a
  exact⟨hC _ b,yd4 a⟩
 ·simp only[decide_eq_false_iff_not]at a
  exact⟨λh=>hC _ b h.symm,yed a⟩
theorem zzI {done rest:List Nat}{y:Nat}(h:y∈done):(done++rest).idxOf y<done.length:=by
 induction done with
 |nil=>cases h
 |cons a done c=>
  by_cases b:y=a
  ·subst b;simp[List.idxOf_cons]
  ·rw[ybq,zjw b,ybc]
   have:=c ((ybb.1 h).resolve_left b)
   omega
theorem z1P {C:List (Nat×Nat)}{l₀ done l':List Nat}{i x y:Nat}(hC:∀p∈C,p.1≠p.2)(hl0:l₀=done++i::l')(hidx:l₀.idxOf i=done.length)(h:(x,y)∈zgm C (C.map λp=>decide (l₀.idxOf p.1<l₀.idxOf p.2)))(hy:y∈done∨y=i):x∈done:=by
 obtain⟨c,d⟩:=zwj hC h
 have a:y∈done->l₀.idxOf y<done.length:=λh=>by rw[hl0];exact zzI h
 by_cases e:x∈done
 ·exact e
 exfalso
 by_cases b:x=i
 ·subst b
  rw[hidx]at d
  rcases hy with hy|hy
  ·have:=a hy;omega
  ·exact c hy.symm
 ·have f:l₀.idxOf x=done.length+(l'.idxOf x+1):=by rw[hl0,zj9 e,zjw b]
  rcases hy with hy|hy
  ·have:=a hy;omega
  ·subst hy;omega
theorem zgr:∀(l:List Bool),l∈zeQ l.length
 | []=>by simp[zeQ]
 |b::l=>by
  simp only[ybc,zeQ,yd0]
  exact⟨l,zgr l,by cases b<;>simp⟩
theorem z8t {N:Nat}{ops:Array Oper}{loud:List FuncId}{D:List Deferred}{κ₀:Key}{Im₀:Addr->Prop}{w₀:World}{QA:Frame->zab->Prop}{Q:Exit->Act->World->Prop}{C:List (Nat×Nat)}{l₀:List Nat}{L:List AIns}(hL:∀(i:Nat) (o:Oper),ops[i]? =some o->∃x,L[i]? =some x/\∀K f σ,zbn P K x f σ->zbn P K (zfI loud (zjG loud (zcV P N ops o))) f σ)
  (hC:∀p∈C,p.1≠p.2) (hQ:∀f σ κ Im a w,QA f σ->St base κ₀ Im₀ w₀ N D f σ κ Im a w->Q .normal a w):∀(n:Nat) (l done rem:List Nat) (listed:Array Bool) (f:Frame) (σ:zab) (κ:Key) (Im:Addr->Prop) (a:Act) (w:World),Sched ops n listed l->l₀=done++l->(∀j∈done,listed.getD j true=true)->(∀j,j∈done↔listed.getD j false=true)->rem.length=n->rem.Nodup->
  (∀i,i∈rem↔i<ops.size/\listed.getD i true=false)->listed.size=ops.size->(∀i,listed.getD i false=true->∀k∈zeW ops i,listed.getD k false=true)->
  rem.Pairwise (λj i=>zpq (zgm C (C.map λp=>decide (l₀.idxOf p.1<l₀.idxOf p.2))) L ops j i=true)->(∀i∈rem,z1B ops i=true)->
  zdb P QA (rem.filterMap λi=>L[i]?) f σ->St base κ₀ Im₀ w₀ N D f σ κ Im a w->wpOps P ops Q l a w:=by
 intro n
 induction n with
 |zero=>
  intro l done rem listed f σ κ Im a w H I g R B S c m aa hp hd h y
  have:rem= []:=yal B
  subst this
  cases H
  exact hQ f σ κ Im a w (by simpa[zdb]using h) y
 |succ n ih=>
  intro l done rem listed f σ κ Im a w H I g R B S c m aa hp hd h y
  cases H with
  |stop _ _ hr=>
   -- some operation is ready
   exfalso
   match rem,B with
   |j::rest,_=>
    have s:=(c j).1 (by simp)
    have E:j∈Region.ready .any ops listed:=by
     refine mem_ready.2 ⟨s.2,ops[j],yb3 s.1,λe Y Z=> ?_⟩
     have v:e.on∈zeW ops j:=(zjz (yb3 s.1)).2 ⟨e,Y,Z,rfl⟩
     have ag:=hd j (by simp)
     unfold z1B at ag
     have:=ya1.1 ag _ v
     simp only[yb6,bne_iff_ne,ne_eq,decide_eq_true_eq]at this
     have ah:e.on∉j::rest:=by
      intro t
      rcases ybb.1 t with t|t
      ·exact this.1 t
      ·have A:=(yel.1 hp).1 _ t
       unfold zpq at A
       simp only[yb6,Bool.not_eq_true',yd9,decide_eq_false_iff_not]at A
       exact A.1.1 v
     have h0:¬(listed.getD e.on true=false):=λh0=>ah ((c _).2 ⟨this.2,h0⟩)
     have av:e.on<listed.size:=by rw[m];exact this.2
     simp only[ybd,yb3 av,Option.getD_some]at h0⊢
     simpa using h0
    rw[hr]at E;cases E
  |step _ _ i l' hi ad=>
   obtain⟨ae,o,ho,W⟩:=mem_ready.1 hi
   have J:i<ops.size:=(ya9.1 ho).1
   have aw:i∈rem:=(c i).2 ⟨J,ae⟩
   have ai:l₀.idxOf i=done.length:=by
    have:i∉done:=λt=>by have:=g i t;rw[ae]at this;cases this
    rw[I,zj9 this];simp
   have aj:∀j,j≠i->listed.getD j true=false->¬(l₀.idxOf j≤done.length):=by
    intro j u z au
    have:j∉done:=λt=>by have:=g j t;rw[z]at this;cases this
    rw[I,zj9 this,zjw u]at au
    omega
   obtain⟨d,b,rfl⟩:=List.append_of_mem aw
   have ak:∀k∈zeW ops i,listed.getD k false=true:=λk v=>by
    obtain⟨e,Y,Z,rfl⟩:=(zjz ho).1 v
    exact W e Y Z
   obtain⟨X,af,ao⟩:=hL i o ho
   have al:∀j∈d,j≠i:=λj s Y=>by
    subst Y
    exact(ydb.1 S).2.2 j s j (by simp) rfl
   have ab:∀x∈d.filterMap (λi=>L[i]?),zpz x X=true:=by
    intro x hx
    obtain⟨j,s,aq⟩:=List.mem_filterMap.1 hx
    have z:=((c j).1 (by simp[s])).2
    have A:=(ydq.1 hp).2.2 j s i (by simp)
    unfold zpq at A
    simp only[yb6,yeo,yd9,decide_eq_true_eq]at A
    rcases A.2 with (O|O)|O
    ·rw[aq,af]at O;exact O
    ·exfalso
     obtain⟨p,hp,(⟨rfl,Z⟩|⟨rfl,Z⟩)⟩:=ziy O
     ·simp only[decide_eq_true_eq]at Z
      exact aj j (al j s) z (by omega)
     ·simp only[decide_eq_false_iff_not]at Z
      exact aj j (al j s) z (by omega)
    ·have T:∀q,(listed.getD q false=true∨q=i)->∀k∈zvD (zgm C (C.map λp=>decide (l₀.idxOf p.1<l₀.idxOf p.2))) ops q,listed.getD k false=true:=by
      intro q F k v
      simp only[zvD,yag,yav,ybs,beq_iff_eq]at v
      rcases v with v|⟨⟨k',q'⟩,⟨Y,rfl⟩,rfl⟩
      ·rcases F with F|rfl
       ·exact aa q F k v
       ·exact ak k v
      ·refine(R _).1 (z1P hC I ai Y ?_)
       rcases F with F|F
       ·exact .inl ((R _).2 F)
       ·exact .inr F
     have am:=zob (λq F=>T q (.inl F)) _ i (T i (.inr rfl)) O
     have ax:j<listed.size:=by rw[m];exact((c j).1 (by simp[s])).1
     simp only[ybd,yb3 ax,Option.getD_some]at am z
     rw[am]at z;cases z
   have ay:(d++i::b).filterMap (λi=>L[i]?)=d.filterMap (λi=>L[i]?)++X::b.filterMap (λi=>L[i]?):=by
    rw[List.filterMap_append,List.filterMap_cons,af]
   rw[ay]at h
   have U:=zxR _ f σ ab h
   rw[<-List.filterMap_append]at U
   have az:i∉d++b:=by
    have:=(ydb.1 S)
    intro t
    rcases yag.1 t with t|t
    ·exact this.2.2 i t i (by simp) rfl
    ·exact(ydt.1 this.2.1).1 t
   have M:(d++b).Sublist (d++i::b):=List.Sublist.append_left (List.sublist_cons_self i b) d
   have r:=z6Y (Q:=Q) (next:=wpOps P ops Q l') y.st y.fr y.sz (.inl (ao _ _ _ U)) (λf' σ' κ' ar a' w' hK O h2 h3 h4 h5=>by
    refine ih l' (done++ [i]) (d++b) _ f' σ' κ' ar a' w' ad (by rw[I];simp) (λj s=> ?_) (λj=> ?_) (by simp at B⊢;omega) (S.sublist M) (λk=> ?_) (by simp[m]) (λk v q F=> ?_) (hp.sublist M) (λk v=>hd k (M.subset v)) hK ⟨O,h2,h3.trans y.df,h4,y.gr.trans h5⟩
    ·rcases yag.1 s with s|s
     ·by_cases u:j=i
      ·subst u;simp[m,J]
      ·have e:(listed.setIfInBounds i true).getD j true=listed.getD j true:=by
        simp only[ybd];rw[yb9 (Ne.symm u)]
       rw[e];exact g j s
     ·have:j=i:=by simpa using s
      subst this;simp[m,J]
    ·by_cases u:j=i
     ·subst u;simp[m,J]
     ·have e:(listed.setIfInBounds i true).getD j false=listed.getD j false:=by
       simp only[ybd];rw[yb9 (Ne.symm u)]
      rw[e,<-R j]
      simp[u]
    ·by_cases G:k=i
     ·subst G
      constructor
      ·intro t;exact absurd t az
      ·rintro⟨O,h2⟩
       simp[m,O]at h2
     ·have e:(listed.setIfInBounds i true).getD k true=listed.getD k true:=by
       simp only[ybd];rw[yb9 (Ne.symm G)]
      rw[e,<-c k]
      simp[G]
    ·by_cases an:q=i
     ·subst an;simp[m,J]
     ·have e:(listed.setIfInBounds i true).getD q false=listed.getD q false:=by
       simp only[ybd];rw[yb9 (Ne.symm an)]
      rw[e]
      by_cases G:k=i
      ·subst G;exact ak q F
      ·have e2:(listed.setIfInBounds i true).getD k false=listed.getD k false:=by
        simp only[ybd];rw[yb9 (Ne.symm G)]
       rw[e2]at v
       exact aa k v q F)
   simp only[wpOps,ho]
   split
   ·rename_i hw;rw[if_pos hw]at r;exact .inl r
   ·rename_i hw;rw[if_neg hw]at r;exact r
theorem St.drawn {κ₀:Key}{Im₀:Addr->Prop}{w₀:World}{N:Nat}{D:List Deferred}{f:Frame}{σ:zab}{κ:Key}{Im:Addr->Prop}{a:Act}{w:World}(h:St base κ₀ Im₀ w₀ N D f σ κ Im a w):St base κ₀ Im₀ w₀ N D f σ κ Im a {w with drawn:=w.drawn+1}:=by
 have b:Grow base κ Im w κ Im {w with drawn:=w.drawn+1}:=⟨λ_ _ _ h=>h,λ_ h=>h,λ_ _=>rfl,λ_ h=> .inl h,⟨rfl,rfl,rfl,yap _,λ_ _=>rfl⟩⟩
 exact⟨h.fr.grow b,h.sz,h.df,h.st.world (λ_ h=>h) (λ_ h=> .inl h) (yap _) (λ_ _=>rfl),h.gr.trans b⟩
def RegPre (P:Program)(ops:Array Oper)(draw:Bool)(Q:Exit->Act->World->Prop)(a:Act)(w:World):Prop:=match draw with
 |false=>wpOps P ops Q (List.range ops.size) a w
 |true=>∀t,wpOps P ops Q (Region.schedule (P.follows .mixedOrders) ops t) a {w with drawn:=w.drawn+1}
theorem RegPre.wp {id:Nat}{ops:Array Oper}{draw:Bool}{Q:Exit->Act->World->Prop}{a:Act}{w:World}(h:RegPre P ops draw Q a w):(Code.region id ops draw).wp P Q a w:=by
 cases draw with
 |false=>exact wp_region h
 |true=>exact wp_region_draw h
theorem RegPre.of_list {ops:Array Oper}{Q:Exit->Act->World->Prop}{a:Act}{w:World}(h:wpList P ops Q ops.toList a w):RegPre P ops false Q a w:=by
 show wpOps P ops Q (List.range ops.size) a w
 rw[List.range_eq_range',<-ya5,wpOps_eq_wpList ops.toList 0 (by simp)];exact h
theorem zvX (hm:P.follows .mixedOrders=true){N:Nat}{loud:List FuncId}{ops:Array Oper}{D:List Deferred}{κ₀:Key}{Im₀:Addr->Prop}{w₀:World}{QA:AExit->Frame->zab->Prop}{Q:Exit->Act->World->Prop}{f:Frame}{σ:zab}{κ:Key}{Im:Addr->Prop}{a:Act}{w:World}
  (hQ:∀f σ κ Im a w,QA .normal f σ->St base κ₀ Im₀ w₀ N D f σ κ Im a w->Q .normal a w) {L:List AIns} (hL:∀(i:Nat) (o:Oper),ops[i]? =some o->∃x,L[i]? =some x/\∀K f σ,zbn P K x f σ->zbn P K (zfI loud (zjG loud (zcV P N ops o))) f σ)
  {C:List (Nat×Nat)} (hC:∀p∈C,p.1≠p.2) {orders:List (List Nat)} (hcov:∀l:List Nat,Sched ops ops.size (Array.replicate ops.size false) l->∃order∈orders,zqb L ops (zgm C (C.map λp=>decide (l.idxOf p.1<l.idxOf p.2)))=some order)
  (hall:∀order∈orders,zdb P (QA .normal) (order.filterMap λi=>L[i]?) f σ) (hst:St base κ₀ Im₀ w₀ N D f σ κ Im a w):RegPre P ops true Q a w:=by
 intro t
 simp only[Region.schedule,hm,Bool.true_or,if_true]
 have c:=zxJ ops ops.size t (Array.replicate ops.size false)
 change wpOps P ops Q (Region.linearise.go .any ops ops.size t (Array.replicate ops.size false) []) a _
 generalize Region.linearise.go .any ops ops.size t (Array.replicate ops.size false) []=l at c⊢
 obtain⟨order,n,b⟩:=hcov l c
 unfold zqb at b
 rw[zhk,zhk]at b
 have g:=hall _ n
 unfold zrs at b
 split at b
 case isFalse=>cases b
 rename_i m
 simp only[yab]at b
 rw[b]at m
 obtain⟨q,r,s,k,u⟩:=m
 have h:(Array.replicate ops.size false).size=ops.size:=by simp
 refine z8t (loud:=loud) (C:=C) hL hC hQ ops.size l [] order (Array.replicate ops.size false) f σ κ Im a _ c rfl (λj v=>by cases v) (λj=>by by_cases e:j<ops.size<;>simp[e]) q s (λi=> ?_) h (λi d=> ?_) (zoc.1 u) (λi d=> ?_) g hst.drawn
 ·constructor
  ·intro d
   have:=ya1.1 k i d
   simp only[yb6,decide_eq_true_eq]at this
   exact⟨this.1,by simp[this.1]⟩
  ·rintro⟨d,_⟩
   have:=ya1.1 r i (yev.2 d)
   simpa using this
 ·by_cases e:i<ops.size<;>simp[e]at d
 ·have:=ya1.1 k i d
  simp only[yb6,decide_eq_true_eq]at this
  exact this.2
theorem zi3 {L:List AIns}{k:ACode}{orders:Option (List (List Nat))}{QA:AExit->Frame->zab->Prop}{f:Frame}{σ:zab}(h:awp P (zps L k orders) QA f σ):
  (∃os,orders=some os/\∀order∈os,zdb P (QA .normal) (order.filterMap λi=>L[i]?) f σ)∨(orders=none/\awp P k QA f σ):=by
 unfold zps at h
 split at h
 ·refine .inl ⟨_,rfl,λa b=> ?_⟩
  rw[ybk.1 b];exact h
 ·exact .inl ⟨_,rfl,λa b=>h _ (List.mem_map_of_mem b)⟩
 ·exact .inr ⟨rfl,h⟩
theorem zuS {x:AIns}{K:Frame->zab->Prop}{f:Frame}{σ:zab}(h:zbn P K (z38 x) f σ):zbn P K x f σ:=by
 have j:∀{K:AV->zab->Prop} {o:AOp},zaw P K f σ (zAA o)->zaw P K f σ o:=by
  intro K o h
  cases o<;>try exact h
  case load s n x=>
   obtain⟨r,a,e⟩:=h
   refine⟨r, ?_,e⟩
   change zlh s n (x.ev f)=some r at a
   show(zbz σ (x.ev f) n).bind (zgg s)=some r
   unfold zlh at a
   split at a
   case h_2=>cases a
   rename_i m q
   split at a
   case isFalse=>cases a
   rename_i w
   simp only[q,zbz,if_pos w,ydz]
   exact a
  case iaddr n x i=>
   obtain⟨r,a,e⟩:=h
   refine⟨r, ?_,e⟩
   change zoD n (zh2 (i.ev f)) (x.ev f)=some r at a
   unfold zoD at a
   split at a
   case h_2=>cases a
   rename_i k l y q
   simp only[za1,y,q]
   exact a
 obtain⟨g,d,o⟩:=x
 cases g with
 |none=>exact j (K:=λr σ'=>K (f.put d r) σ') h
 |some p=>
  obtain⟨t,b⟩:=p
  obtain⟨c,a,e,u⟩:=h
  exact⟨c,a,λv=>j (K:=λr σ'=>K (f.put d r) σ') (e v),u⟩
theorem zvR {L:List AIns}{x:AIns}{K:Frame->zab->Prop}{f:Frame}{σ:zab}(h:zbn P K (zmm L x) f σ):zbn P K x f σ:=by
 have a:∀{K:AV->zab->Prop} {e n b:Nat} {x y:Opd},zaw P K f σ (.apt e n b x y)->zaw P K f σ (.app e n b x y):=by
  intro K e n b x y h
  obtain⟨l,m,u,i,j,k,v,w,z,A,B,C,q⟩:=h
  refine⟨m,j,k,v, ?_⟩
  rw[i]
  exact⟨u,w,z,A,B,C,q⟩
 obtain⟨g,d,o⟩:=x
 unfold zmm at h
 split at h
 case h_2=>exact h
 rename_i e n b t y s
 simp only at s
 subst s
 split at h
 case isFalse=>exact h
 cases g with
 |none=>exact a (K:=λr σ'=>K (f.put d r) σ') h
 |some p=>
  obtain⟨t,b⟩:=p
  obtain⟨c,i,j,k⟩:=h
  exact⟨c,i,λD=>a (K:=λr σ'=>K (f.put d r) σ') (j D),k⟩
theorem zkF (C:List (Nat×Nat)):∀(L:List AIns) (n i:Nat) (x:AIns),L[i]? =some x->∃y,(zgO C n L)[i]? =some y/\(y=x∨y=z38 x)
 | [],n,i,x,h=>by simp at h
 |z::L,n,0,x,h=>by
  simp only[ybr,yab]at h
  subst h
  simp only[zgO,ybr,yab]
  split
  ·exact⟨_,rfl,.inr rfl⟩
  ·exact⟨_,rfl,.inl rfl⟩
 |z::L,n,i+1,x,h=>by
  simp only[ycz]at h
  simp only[zgO,ycz]
  exact zkF C L (n+1) i x h
theorem zAe {C:List (Nat×Nat)}(hC:∀p∈C,p.1<p.2)(l:List Nat):tri (zgm C (C.map λp=>decide (l.idxOf p.1<l.idxOf p.2)))=false:=by
 have e:∀x y,(x,y)∈zgm C (C.map λp=>decide (l.idxOf p.1<l.idxOf p.2))->l.idxOf x<l.idxOf y∨(l.idxOf x=l.idxOf y/\y<x):=by
  intro x y h
  obtain⟨p,k,(⟨rfl,f⟩|⟨rfl,f⟩)⟩:=ziy h
  ·simp only[decide_eq_true_eq]at f;exact .inl f
  ·simp only[decide_eq_false_iff_not]at f
   have:=hC _ k
   simp only at this
   omega
 cases g:tri (zgm C (C.map λp=>decide (l.idxOf p.1<l.idxOf p.2)))with
 |false=>rfl
 |true=>
  exfalso
  unfold tri at g
  simp only[List.any_eq_true,yb6,beq_iff_eq,yd9,decide_eq_true_eq]at g
  obtain⟨⟨a,b⟩,m,⟨c,d⟩,n,i,j⟩:=g
  simp only at i j
  subst i
  have o:=e _ _ m
  have q:=e _ _ n
  have r:=e _ _ j
  omega
theorem z1C {b x:Nat}{l:List Nat}(h:b≠x):(b::l).idxOf x=l.idxOf x+1:=by
 have:(b==x)=false:=by simpa using h
 simp[List.idxOf_cons,this]
theorem z2h {ops:Array Oper}(hlt:zxG ops=true):∀(n:Nat) (listed:Array Bool) (l rem:List Nat),Sched ops n listed l->listed.size=ops.size->rem.Nodup->(∀i,i∈rem↔i<ops.size/\listed.getD i true=false)->rem.length≤n->
  (∀i,i<ops.size->listed.getD i true=false->i∈l)/\∀i∈l,i<ops.size/\∀j∈zeW ops i,listed.getD j false=true∨l.idxOf j<l.idxOf i:=by
 intro n
 induction n with
 |zero=>
  intro listed l rem h w r b y
  have:rem= []:=yal (by omega)
  subst this
  cases h
  exact⟨λi g k=>absurd ((b i).2 ⟨g,k⟩) (by simp),λi p=>by cases p⟩
 |succ n S=>
  intro listed l rem h w r b y
  cases h with
  |stop _ _ T=>
   refine⟨λi=> ?_,λi p=>by cases p⟩
   induction i using Nat.strongRecOn with
   |_ i p=>
    intro g k
    exfalso
    have c:i∈Region.ready .any ops listed:=by
     refine mem_ready.2 ⟨k,ops[i],yb3 g,λe v D=> ?_⟩
     have Q:e.on∈zeW ops i:=(zjz (yb3 g)).2 ⟨e,v,D,rfl⟩
     have E:e.on<i:=by
      have:=ya1.1 (ya1.1 hlt i (yev.2 g)) _ Q
      simpa using this
     have R:e.on<listed.size:=by omega
     have B:¬(listed.getD e.on true=false):=λB=>absurd (p _ E (by omega) B) (by simp)
     simp only[ybd,yb3 R,Option.getD_some]at B⊢
     simpa using B
    rw[T]at c;cases c
  |step _ _ x J U u=>
   obtain⟨C,o,I,m⟩:=mem_ready.1 U
   have z:x<ops.size:=(ya9.1 I).1
   have F:x∈rem:=(b x).2 ⟨z,C⟩
   have f:∀j (d:Bool),j≠x->(listed.setIfInBounds x true).getD j d=listed.getD j d:=λj d q=>by
    simp only[ybd,Array.getElem?_setIfInBounds]
    rw[if_neg (Ne.symm q)]
   have s:(listed.setIfInBounds x true).getD x true=true:=by
    simp only[ybd,Array.getElem?_setIfInBounds]
    rw[if_pos trivial,if_pos (by omega)]
    rfl
   obtain⟨K,L⟩:=S (listed.setIfInBounds x true) J (rem.erase x) u (by simpa using w) (r.erase x) (λi=>by
    rw[r.mem_erase_iff,b i]
    constructor
    ·rintro⟨g,k,P⟩;exact⟨k,by rw[f i true g];exact P⟩
    ·rintro⟨g,k⟩
     have A:i≠x:=λv=>by rw[v,s]at k;cases k
     exact⟨A,g,by rw[<-f i true A];exact k⟩) (by rw[List.length_erase_of_mem F];omega)
   have G:∀j∈zeW ops x,listed.getD j false=true:=λj q=>by
    obtain⟨e,v,D,rfl⟩:=(zjz I).1 q
    exact m e v D
   refine⟨λi g k=> ?_,λi p=> ?_⟩
   ·by_cases a:i=x
    ·subst a;exact List.mem_cons_self
    ·exact ybw _ (K i g (by rw[f i true a];exact k))
   ·by_cases a:i=x
    ·subst a
     exact⟨z,λj q=> .inl (G j q)⟩
    ·have H:i∈J:=by
      rcases ybb.1 p with h|h
      ·exact absurd h a
      ·exact h
     obtain⟨M,O⟩:=L i H
     refine⟨M,λj q=> ?_⟩
     by_cases t:j=x
     ·subst t
      right
      rw[List.idxOf_cons_self,z1C (Ne.symm a)]
      omega
     ·rcases O j q with h|h
      ·rw[f j false t]at h;exact .inl h
      ·right
       rw[z1C (Ne.symm t),z1C (Ne.symm a)]
       omega
theorem zyV {ops:Array Oper}(hlt:zxG ops=true){l:List Nat}(h:Sched ops ops.size (Array.replicate ops.size false) l):(∀i,i<ops.size->i∈l)/\∀i,i<ops.size->∀j∈zeW ops i,j<ops.size/\l.idxOf j<l.idxOf i:=by
 have b:∀i,i<ops.size->(Array.replicate ops.size false).getD i true=false:=λi a=>by simp[a]
 obtain⟨c,e⟩:=z2h hlt ops.size _ l (List.range ops.size) h (by simp) List.nodup_range (λi=>by
  rw[yev]
  exact⟨λa=>⟨a,b i a⟩,λa=>a.1⟩) (by simp)
 refine⟨λi a=>c i a (b i a),λi a j d=> ?_⟩
 have f:j<i:=by
  have:=ya1.1 (ya1.1 hlt i (yev.2 a)) _ d
  simpa using this
 refine⟨by omega, ?_⟩
 rcases(e i (c i a (b i a))).2 j d with h|h
 ·have:j<ops.size:=by omega
  simp[this]at h
 ·exact h
theorem z0u {ops:Array Oper}{l:List Nat}{E:List (Nat×Nat)}(h1:∀i,i<ops.size->∀j∈zeW ops i,j<ops.size/\l.idxOf j<l.idxOf i)(h2:∀p∈E,p.1<ops.size/\l.idxOf p.1<l.idxOf p.2):∀(n i j:Nat),i<ops.size->zkd E ops j n i=true->l.idxOf j<l.idxOf i:=by
 have g:∀i,i<ops.size->∀k∈zvD E ops i,k<ops.size/\l.idxOf k<l.idxOf i:=by
  intro i e k c
  unfold zvD at c
  rcases yag.1 c with c|c
  ·exact h1 i e k c
  ·obtain⟨p,m,rfl⟩:=yav.1 c
   obtain⟨f,d⟩:=ybs.1 m
   obtain⟨a,b⟩:=h2 p f
   simp only[beq_iff_eq]at d
   rw[<-d]
   exact⟨a,b⟩
 intro n
 induction n with
 |zero=>intro i j _ h;simp[zkd]at h
 |succ n q=>
  intro i j e h
  unfold zkd at h
  simp only[yeo,yd9,decide_eq_true_eq,List.any_eq_true]at h
  rcases h with h|⟨k,c,h⟩
  ·exact(g i e j h).2
  ·obtain⟨o,r⟩:=g i e k c
   have:=q k j o h
   omega
theorem z4z {ops:Array Oper}{C:List (Nat×Nat)}(hlt:zxG ops=true)(hC:∀p∈C,p.1<p.2/\p.2<ops.size){l:List Nat}(h:Sched ops ops.size (Array.replicate ops.size false) l):acyc (zgm C (C.map λp=>decide (l.idxOf p.1<l.idxOf p.2))) ops=true:=by
 obtain⟨g,k⟩:=zyV hlt h
 have d:∀p∈zgm C (C.map λp=>decide (l.idxOf p.1<l.idxOf p.2)),(p.1<ops.size/\p.2<ops.size)/\l.idxOf p.1<l.idxOf p.2:=by
  rintro⟨x,y⟩ e
  obtain⟨p,e,(⟨rfl,f⟩|⟨rfl,f⟩)⟩:=ziy e
  ·simp only[decide_eq_true_eq]at f
   obtain⟨a,b⟩:=hC _ e
   simp only at a b⊢
   exact⟨⟨by omega,b⟩,f⟩
  ·simp only[decide_eq_false_iff_not]at f
   obtain⟨a,b⟩:=hC _ e
   simp only at a b f⊢
   refine⟨⟨b,by omega⟩, ?_⟩
   rcases yd2 (l.idxOf x) (l.idxOf y)with i|i
   ·exact i
   ·exfalso
    have t:l.idxOf x=l.idxOf y:=by omega
    have m:l.idxOf x<l.length:=List.idxOf_lt_length_of_mem (g x b)
    have n:l.idxOf y<l.length:=List.idxOf_lt_length_of_mem (g y (by omega))
    have o:=List.getElem_idxOf m
    have r:=List.getElem_idxOf n
    have:x=y:=by rw[<-o,<-r];congr 1
    omega
 unfold acyc
 refine ya1.2 λp e=> ?_
 obtain⟨⟨a,b⟩,c⟩:=d p e
 cases s:zkd (zgm C (C.map λp=>decide (l.idxOf p.1<l.idxOf p.2))) ops p.2 ops.size p.1 with
 |false=>rfl
 |true=>
  have:=z0u k (λq j=>⟨(d q j).1.1,(d q j).2⟩) ops.size p.1 p.2 a s
  omega
theorem zzT (hm:P.follows .mixedOrders=true){N:Nat}{loud:List FuncId}{ops:Array Oper}{draw:Bool}{D:List Deferred}{κ₀:Key}{Im₀:Addr->Prop}{w₀:World}{QA:AExit->Frame->zab->Prop}{Q:Exit->Act->World->Prop}{f:Frame}{σ:zab}{κ:Key}{Im:Addr->Prop}{a:Act}{w:World}
  (hQ:∀f σ κ Im a w,QA .normal f σ->St base κ₀ Im₀ w₀ N D f σ κ Im a w->Q .normal a w) (h:awp P (zjy P N loud ops draw) QA f σ) (hst:St base κ₀ Im₀ w₀ N D f σ κ Im a w):RegPre P ops draw Q a w:=by
 unfold zjy at h
 cases draw with
 |false=>exact RegPre.of_list (z7b hQ ops.toList f σ κ Im a w h hst)
 |true=>
  simp only[Bool.not_true,ydc,if_false]at h
  rw[yeb]at h
  rw[zhk]at h
  have s:∀(i:Nat) (o:Oper),ops[i]? =some o->(List.map (zfI loud∘λo=>zjG loud (zcV P N ops o)) ops.toList)[i]? =some (zfI loud (zjG loud (zcV P N ops o))):=λi o v=>by simp[v]
  generalize List.map (zfI loud∘λo=>zjG loud (zcV P N ops o)) ops.toList=L at h s
  generalize zk5 L ops=C at h
  split at h
  ·have z:∀(n:List AIns) (j:List (Nat×Nat)) (orders:List (List Nat)),(∀(i:Nat) (o:Oper),ops[i]? =some o->∃x,n[i]? =some x/\∀K f σ,zbn P K x f σ->zbn P K (zfI loud (zjG loud (zcV P N ops o))) f σ)->zie n ops j=some orders->(∀r∈orders,zdb P (QA .normal) (r.filterMap λi=>n[i]?) f σ)->RegPre P ops true Q a w:=by
    intro n j orders k c d
    unfold zie at c
    split at c
    case isFalse=>cases c
    rename_i g
    obtain⟨M,O,_⟩:=g
    have F:∀p∈j,p.1<p.2/\p.2<ops.size:=λp B=>by
     have:=ya1.1 M p B
     simpa using this
    refine zvX hm hQ k (λp B=>Nat.ne_of_lt (F p B).1) (orders:=orders) (λl I=> ?_) d hst
    obtain⟨G,t⟩:=mapM_some c
    have A:(j.map λp=>decide (l.idxOf p.1<l.idxOf p.2))∈(zeQ j.length).filter λb=>acyc (zgm j b) ops:=by
     refine ybs.2 ⟨?_,z4z O F I⟩
     have:=zgr (j.map λp=>decide (l.idxOf p.1<l.idxOf p.2))
     rwa[ycc]at this
    obtain⟨q,H,u⟩:=yay.1 A
    have m:q<orders.length:=by omega
    have e:=t q H m
    rw[u]at e
    exact⟨_,yaw m,e⟩
   rcases zi3 h with ⟨orders,c,d⟩|⟨_,h⟩
   ·exact z L C orders (λi o v=>⟨_,s i o v,λ_ _ _ h=>h⟩) c d
   rw[zhk]at h
   have k:∀(i:Nat) (o:Oper),ops[i]? =some o->∃x,(zgO C 0 L)[i]? =some x/\∀K f σ,zbn P K x f σ->zbn P K (zfI loud (zjG loud (zcV P N ops o))) f σ:=λi o v=>by
    obtain⟨y,R,E⟩:=zkF C L 0 i _ (s i o v)
    refine⟨y,R,λK f σ h=> ?_⟩
    rcases E with rfl|rfl
    ·exact h
    ·exact zuS h
   generalize zgO C 0 L=n at h k
   generalize zk5 n ops=j at h
   rcases zi3 h with ⟨orders,c,d⟩|⟨_,h⟩
   ·exact z n j orders k c d
   ·exact h.elim
  rcases zi3 h with ⟨orders,c,d⟩|⟨_,h⟩
  ·unfold zrT at c
   split at c
   case isFalse=>cases c
   rename_i g
   have F:∀p∈C,p.1≠p.2:=λp B=>by
    have:=ya1.1 g.1 p B
    simpa using this
   refine zvX hm hQ (λi o v=>⟨_,s i o v,λ_ _ _ h=>h⟩) F (orders:=orders) (λl _=> ?_) d hst
   obtain⟨G,t⟩:=mapM_some c
   have A:(C.map λp=>decide (l.idxOf p.1<l.idxOf p.2))∈zeQ C.length:=by
    have:=zgr (C.map λp=>decide (l.idxOf p.1<l.idxOf p.2))
    rwa[ycc]at this
   obtain⟨q,H,u⟩:=yay.1 A
   have m:q<orders.length:=by omega
   have e:=t q H m
   rw[u]at e
   exact⟨_,yaw m,e⟩
  ·have J:∀(n:List AIns) (j:List (Nat×Nat)) (orders:List (List Nat)),(∀(i:Nat) (o:Oper),ops[i]? =some o->∃x,n[i]? =some x/\∀K f σ,zbn P K x f σ->zbn P K (zfI loud (zjG loud (zcV P N ops o))) f σ)->zhB n ops j=some orders->(∀r∈orders,zdb P (QA .normal) (r.filterMap λi=>n[i]?) f σ)->RegPre P ops true Q a w:=by
    intro n j orders k c d
    unfold zhB at c
    split at c
    case isFalse=>cases c
    rename_i g
    have F:∀p∈j,p.1<p.2:=λp B=>by
     have:=ya1.1 g.1 p B
     simpa using this
    refine zvX hm hQ k (λp B=>Nat.ne_of_lt (F p B)) (orders:=orders) (λl _=> ?_) d hst
    obtain⟨G,t⟩:=mapM_some c
    have A:(j.map λp=>decide (l.idxOf p.1<l.idxOf p.2))∈(zeQ j.length).filter λb=> !tri (zgm j b):=by
     refine ybs.2 ⟨?_,by rw[zAe F];rfl⟩
     have:=zgr (j.map λp=>decide (l.idxOf p.1<l.idxOf p.2))
     rwa[ycc]at this
    obtain⟨q,H,u⟩:=yay.1 A
    have m:q<orders.length:=by omega
    have e:=t q H m
    rw[u]at e
    exact⟨_,yaw m,e⟩
   rcases zi3 h with ⟨orders,c,d⟩|⟨_,h⟩
   ·split at c
    case isFalse=>cases c
    refine J (L.map (zmm L)) _ orders (λi o v=> ?_) c d
    refine⟨zmm L _,by rw[yb8,s i o v];rfl,λK f σ h=>zvR h⟩
   rw[zhk]at h
   have k:∀(i:Nat) (o:Oper),ops[i]? =some o->∃x,(zgO C 0 L)[i]? =some x/\∀K f σ,zbn P K x f σ->zbn P K (zfI loud (zjG loud (zcV P N ops o))) f σ:=λi o v=>by
    obtain⟨y,R,E⟩:=zkF C L 0 i _ (s i o v)
    refine⟨y,R,λK f σ h=> ?_⟩
    rcases E with rfl|rfl
    ·exact h
    ·exact zuS h
   generalize zgO C 0 L=n at h k
   generalize zk5 n ops=j at h
   rcases zi3 h with ⟨orders,c,d⟩|⟨_,h⟩
   ·exact J n j orders k c d
   ·exact h.elim
def AExit.conv:AExit->Exit
 | .normal=> .normal
 | .exit id=> .exit id
 | .ret=> .ret
theorem z1r (hm:P.follows .mixedOrders=true){N:Nat}{loud:List FuncId}{id:Nat}{ops:Array Oper}{draw:Bool}{D:List Deferred}{κ₀:Key}{Im₀:Addr->Prop}{w₀:World}{QA:AExit->Frame->zab->Prop}{Q:Exit->Act->World->Prop}{f:Frame}{σ:zab}{κ:Key}{Im:Addr->Prop}{a:Act}{w:World}
  (hQ:∀f σ κ Im a w,QA .normal f σ->St base κ₀ Im₀ w₀ N D f σ κ Im a w->Q .normal a w) (h:awp P (zjy P N loud ops draw) QA f σ) (hst:St base κ₀ Im₀ w₀ N D f σ κ Im a w):(Code.region id ops draw).wp P Q a w:=(zzT hm hQ h hst).wp
theorem znJ {g:AV->Option AV}:∀{els els':List (List AV)},(els.mapM λ(c:List AV)=>c.mapM g)=some els'->els.flatten.mapM g=some els'.flatten
 | [],els',h=>by simp at h;subst h;simp
 |c::els,els',h=>by
  rw[yce]at h
  simp only[yah,yad,yar,yab]at h
  obtain⟨d,a,e,b,rfl⟩:=h
  have:=znJ b
  rw[ybf,List.mapM_append,a,ybf]
  simp[this]
theorem z1w {κ:Key}{Im:Addr->Prop}{σ σ':zab}{w:World}(hs:SRel base κ Im σ w)(hz:Frz σ σ'):∃Im',SRel base κ Im' σ' w/\Grow base κ Im w κ Im' w:=by
 obtain⟨id,e,f,l,i,P,Q,rfl⟩:=hz
 obtain⟨v,U,R,q,G,B,s,t,_,H⟩:=hs.ent _ _ P
 obtain⟨r,W⟩:=mapM_some Q
 have z:=znJ Q
 obtain⟨n,u⟩:=zpp hs G z
 let Im':Addr->Prop:=λa=>Im a∨(v.ownBlock=some a.block/\a.spot=none/\a.off<l.length*f)
 have D:∀b,v.ownBlock=some b->base≤b/\b<w.heap.size:=λb F=>q.lt b F
 have A:∀c∈i,c.length=f:=λc L=>by
  obtain⟨k,I,rfl⟩:=yay.1 L
  have E:=(mapM_some (W k (by omega) I)).1
  rw[<-E];exact s _ (yaw _)
 have p:∀c∈i,∀x∈c,x.one=true:=λc L x Z=>u (λy hy=>by
  obtain⟨d,X,J⟩:=ybo.1 hy
  exact t d X y J) x (ybo.2 ⟨c,L,Z⟩)
 have hg:Grow base κ Im w κ Im' w:=⟨λ_ _ _ h=>h,λ_ h=> .inl h,λ_ _=>rfl,λa h=>h.imp (λx=>x) λh=>(D _ h.1).1,Below.refl _ _⟩
 have m:∀l T,l.length=i.length->(Entry.row e f l T).block κ id=v.ownBlock:=λl T h=>by
  simp only[Entry.block,h,<-r,R];rfl
 refine⟨Im', ?_,hg⟩
 refine hs.set P (.row e f i true) (λ_ _ _ h=>h) (λ_ _ _ h=> .inl h) (by simp[Entry.ver,r]) (λ_ h=> .inl h) (λ_ _=>rfl) (λa h=> ?_) (yap _) (λ_ _ _=>rfl) ?_ (λb F=> .inr ?_)
 ·rcases h with h|⟨E,Y,S⟩
  ·exact .inl h
  ·exact .inr ⟨by rw[m _ _ rfl];exact E,(D _ E).2,Y⟩
 ·refine⟨v,U,by rw[<-r];exact R,by rw[<-r];exact q,⟨n.1,λj h M=> .im _ _ ((n.2 j h M).mono (λ_ h=> .inl h) (λ_ _=>rfl))⟩,B,A,p,λ_=>⟨n.1,λj h M=>(n.2 j h M).mono (λ_ h=> .inl h) (λ_ _=>rfl)⟩,λg C=>⟨λa K O=>⟨rfl, ?_⟩,λ_ o ho=> .inr ⟨C,rfl,by rw[r];exact ho⟩⟩⟩
  rcases K with K|⟨_,_,S⟩
  ·have:=((H g C).1 a K O).2;rw[<-r];exact this
  ·rw[<-r];exact S
 ·rw[m _ _ rfl]at F
  rw[m _ _ r];exact F
theorem z8X (hm:P.follows .mixedOrders=true){N:Nat}{loud:List FuncId}{D:List Deferred}{κ₀:Key}{Im₀:Addr->Prop}{w₀:World}:∀(c:Code) (QA:AExit->Frame->zab->Prop) (Q:Exit->Act->World->Prop) (f:Frame) (σ:zab) (κ:Key) (Im:Addr->Prop) (a:Act) (w:World),
  (∀e f σ κ Im a w,QA e f σ->St base κ₀ Im₀ w₀ N D f σ κ Im a w->Q e.conv a w)->awp P (comp P N loud c) QA f σ->St base κ₀ Im₀ w₀ N D f σ κ Im a w->c.wp P Q a w:=by
 intro c
 induction c with
 |skip=>intro QA Q f σ κ Im a w g h d;exact wp_skip (g .normal _ _ _ _ _ _ h d)
 |region id K A=>intro QA Q f σ κ Im a w g h d;exact z1r hm (g .normal) h d
 |seq x y o k=>
  intro QA Q f σ κ Im a w g h d
  simp only[comp]at h
  split at h
  ·refine wp_seq (o _ _ f σ κ Im a w (λe f σ κ Im a w i j=> ?_) h d)
   cases e with
   |normal=>
    rcases i with i|⟨σ',H,i⟩
    ·exact k QA Q f σ κ Im a w g i j
    ·obtain⟨q,B,v⟩:=z1w j.st H
     exact k QA Q f σ' κ q a w g i ⟨j.fr.grow v,j.sz,j.df,B,j.gr.trans v⟩
   |exit id=>exact g (.exit id) _ _ _ _ _ _ i j
   |ret=>exact g .ret _ _ _ _ _ _ i j
  ·refine wp_seq (o _ _ f σ κ Im a w (λe f σ κ Im a w i j=> ?_) h d)
   cases e with
   |normal=>exact k QA Q f σ κ Im a w g i j
   |exit id=>exact g (.exit id) _ _ _ _ _ _ i j
   |ret=>exact g .ret _ _ _ _ _ _ i j
 |cond c x y o k=>
  intro QA Q f σ κ Im a w g h d
  simp only[comp]at h
  split at h
  ·rename_i L J
   obtain⟨b,C,i,j⟩:=h
   have z:=za0 J d.fr
   rw[C]at z
   refine wp_cond z.bool_inv ?_
   cases b
   ·exact k QA Q f σ κ Im a w g (j rfl) d
   ·exact o QA Q f σ κ Im a w g (i rfl) d
  ·exact h.elim
 |block id c p=>
  intro QA Q f σ κ Im a w g h d
  refine wp_block (p _ _ f σ κ Im a w (λe f σ κ Im a w i j=> ?_) h d)
  cases e with
  |normal=>exact g .normal _ _ _ _ _ _ i j
  |exit u=>
   simp only[AExit.inBlock]at i
   simp only[AExit.conv,Exit.inBlock]
   split
   ·rename_i t;rw[if_pos t]at i;exact g .normal _ _ _ _ _ _ i j
   ·rename_i t;rw[if_neg t]at i;exact g (.exit u) _ _ _ _ _ _ i j
  |ret=>exact g .ret _ _ _ _ _ _ i j
 |loop c p=>
  intro QA Q f σ κ Im a w g h d
  obtain⟨I,n,E,m⟩:=h
  refine wp_loop_ghost (λn a w=>∃f σ κ Im,I n f σ/\St base κ₀ Im₀ w₀ N D f σ κ Im a w) n ⟨f,σ,κ,Im,E,d⟩ ?_
  rintro n a w ⟨f,σ,κ,Im,G,d⟩
  refine p _ _ f σ κ Im a w (λe f σ κ Im a w i j=> ?_) (m n f σ G) d
  cases e with
  |normal=>
   obtain⟨F,r,s⟩:=i
   exact⟨F,r,f,σ,κ,Im,s,j⟩
  |exit id=>exact g (.exit id) _ _ _ _ _ _ i j
  |ret=>exact g .ret _ _ _ _ _ _ i j
 |exit id=>intro QA Q f σ κ Im a w g h d;exact wp_exit (g (.exit id) _ _ _ _ _ _ h d)
 |ret=>intro QA Q f σ κ Im a w g h d;exact wp_ret (g .ret _ _ _ _ _ _ h d)
 |rangeFunc=>intro QA Q f σ κ Im a w g h d;exact h.elim
 |scope c p=>
  intro QA Q f σ κ Im a w g h d
  refine wp_scope_straight (p QA _ f σ κ Im a w (λe f σ κ Im a w i j=> ?_) h d)
  cases e with
  |normal=>exact g .normal _ _ _ _ _ _ i j
  |exit id=>exact g (.exit id) _ _ _ _ _ _ i j
  |ret=>exact g .ret _ _ _ _ _ _ i j
 |label l=>intro QA Q f σ κ Im a w g h d;exact wp_label (g .normal _ _ _ _ _ _ h d)
 |goto=>intro QA Q f σ κ Im a w g h d;exact h.elim
 |refuse=>intro QA Q f σ κ Im a w g h d;exact h.elim
end
end Go.Abs
end
section
namespace Go.Abs
open Go.RowKit
variable {G:Globs}
def AV.under (m:Nat):AV->Bool
 | .ptr id _| .row id _| .rowp id _ _ _ _| .map id| .sub id _ _ _ _| .asl id _ _ _=>decide (id<m)
 | .fn _ a b=>(a.attach.all λ⟨x,_⟩=>x.under m)&&(b.attach.all λ⟨x,_⟩=>x.under m)
 | .iface _ v=>v.under m
 | .agg l| .tup l=>l.attach.all λ⟨x,_⟩=>x.under m
 |_=>true
def Entry.under (m:Nat):Entry->Bool
 | .dead _=>true
 | .var _ cells=>cells.all (AV.under m)
 | .row _ _ els _=>els.all λc=>c.all (AV.under m)
 | .mp kv=>kv.all λp=>p.2.under m
 | .itr mid _ _ _=>mid.all λi=>decide (i<m)
 | .obj _=>true
def fz (σ:zab)(m:Nat):Nat->AV->Option AV
 |_,.nils=>some (.lst [])
 |0,v=>if v.pure then some v else none
 |k+1,.row id n=>match σ[id]? with
  |some (.row _ _ els im)=>if els.length=n then(if im=true then some (.lst els)else if m≤id then(els.mapM λ(c:List AV)=>c.mapM (fz σ m k)).map .lst else none)else none
  |_=>none
 |_,v=>if v.pure then some v else none
def fin1 (σ:zab)(m:Nat):AV->Option AV
 | .row id n=>fz σ m 3 (.row id n)
 | .nils=>some (.lst [])
 | .sub id n size lo hi=>(fz σ m 3 (.row id n)).bind fun
  | .lst l=>if∀c∈l,c.length=size then some (.lst ((l.take hi).drop lo))else none
  |_=>none
 |v=>if v.under m then some v else none
def finL (σ:zab)(m:Nat)(l:List AV):Option (List AV):=l.mapM (fin1 σ m)
def finT (σ:zab)(m:Nat):AV->Option AV
 | .agg l=>(finL σ m l).map .agg
 |v=>fin1 σ m v
def fin (σ:zab)(m:Nat):AV->Option AV
 | .tup l=>(l.mapM (finT σ m)).map .tup
 |v=>finT σ m v
def zfo [Globs](σ:zab)(f:Frame):Nat×Option (Bool×Nat)->Option AV
 |(t,none)=>some (f t)
 |(t,some (ag,size))=>(zbz σ (f t) size).bind (zgg ag)
def za5:List AV->AV
 | [v]=>v
 |l=> .tup l
def zxC [Globs](σ₀:zab)(R:AV->zab->Prop)(res:List (Nat×Option (Bool×Nat)))(f:Frame)(σ:zab):Prop:=
 ∃rs r m,res.mapM (zfo σ f)=some rs/\(fin σ m (za5 rs)=some r∨(r=za5 rs/\r.under m=true))/\σ₀.length≤m/\(∀(id:Nat) (e:Entry),id<m->σ[id]? =some e->σ₀[id]? =some e∨e.under m=true)/\R r (σ.take m)
def zyh [Globs](σ₀:zab)(R:AV->zab->Prop)(res:List (Nat×Option (Bool×Nat))):AExit->Frame->zab->Prop
 | .exit _,_,_=>False
 |_,f,σ=>zxC σ₀ R res f σ
def zwZ (args:List AV):Frame:=λt=>args.getD t .junk
section
variable {P:Program}{base:Nat}{κ:Key}{Im:Addr->Prop}{w:World}{σ:zab}
def cut (κ:Key)(m:Nat):Key:=λid n=>if id<m then κ id n else none
theorem zcL {m id n:Nat}{v:Value}(h:κ id n=some v)(hm:id<m):cut κ m id n=some v:=by simp[cut,hm,h]
theorem VR.under {m:Nat}{Im':Addr->Prop}(hIm:∀a,Im a->Im' a){a:AV}{v:Value}(h:VR κ Im w a v)(hb:a.under m=true):VR (cut κ m) Im' w a v:=by
 induction h with
 |im a v h=>exact .im _ _ (h.mono hIm λ_ _=>rfl)
 |ptr id l b h=>exact .ptr id l b (zcL h (by simpa[AV.under]using hb))
 |row id n g o h=>exact .row id n g o (zcL h (by simpa[AV.under]using hb))
 |rowp id n d k l b o h=>exact .rowp id n d k l b o (zcL h (by simpa[AV.under]using hb))
 |map id b h=>exact .map id b (zcL h (by simpa[AV.under]using hb))
 |asl id l n d b x c h y z A B=>exact .asl id l n d b x c (zcL h (by simpa[AV.under]using hb)) y z A B
 |sub id n d G H b o x c h q C y z A B=>exact .sub id n d G H b o x c (zcL h (by simpa[AV.under]using hb)) q C y z A B
 |fn f first i r I q C F J D E=>
  simp[AV.under]at hb
  exact .fn f first i r I q C (λj h p=>D j h p (hb.1 _ (yaw h))) (λj h p=>E j h p (hb.2 _ (yaw h)))
 |iface t a v h s=>exact .iface t a v (s (by simpa[AV.under]using hb))
 |agg e r u q F s=>
  simp[AV.under]at hb
  exact .agg e r u q λj h p=>s j h p (hb _ (yaw h))
 |tup e r q F s=>
  simp[AV.under]at hb
  exact .tup e r q λj h p=>s j h p (hb _ (yaw h))
theorem VR.old {m:Nat}{κ':Key}{Im':Addr->Prop}{w':World}(hκ:∀i n v,κ i n=some v->κ' i n=some v/\i<m)(hIm:∀a,Im a->Im' a)(hc:∀a,Im a->w'.cell? a=w.cell? a){a:AV}{v:Value}(h:VR κ Im w a v):VR (cut κ' m) Im' w' a v:=
 h.mono (λi n v h=>zcL (hκ i n v h).1 (hκ i n v h).2) hIm hc
theorem VRL.under {m:Nat}{Im':Addr->Prop}(hIm:∀a,Im a->Im' a){l:List AV}{vs:List Value}(h:VRL κ Im w l vs)(hb:l.all (AV.under m)=true):VRL (cut κ m) Im' w l vs:=
 ⟨h.1,λj c b=>(h.2 j c b).under hIm (ya1.1 hb _ (yaw c))⟩
theorem VR.isBelow {m:Nat}(hκ:∀i n v,κ i n=some v->i<m){a:AV}{v:Value}(h:VR κ Im w a v):a.under m=true:=by
 induction h with
 |im a v h=>
  induction h with
  |fn f first o u D y E z F r s=>
   simp[AV.under]
   exact⟨λx e=>by obtain⟨j,d,rfl⟩:=yay.1 e;exact r j d (by omega),λx e=>by obtain⟨j,d,rfl⟩:=yay.1 e;exact s j d (by omega)⟩
  |iface t a v h p=>simpa[AV.under]using p
  |agg l u A y z p=>
   simp[AV.under]
   exact λx e=>by obtain⟨j,d,rfl⟩:=yay.1 e;exact p j d (by omega)
  |tup l u y z p=>
   simp[AV.under]
   exact λx e=>by obtain⟨j,d,rfl⟩:=yay.1 e;exact p j d (by omega)
  |_=>simp[AV.under]
 |ptr id B b h=>simpa[AV.under]using hκ _ _ _ h
 |row id n g C h=>simpa[AV.under]using hκ _ _ _ h
 |rowp id n q k B b C h=>simpa[AV.under]using hκ _ _ _ h
 |map id b h=>simpa[AV.under]using hκ _ _ _ h
 |sub id n q H I b C G c h=>simpa[AV.under]using hκ _ _ _ h
 |asl id B n q b G c h=>simpa[AV.under]using hκ _ _ _ h
 |fn f first o u D y E z F r s=>
  simp[AV.under]
  exact⟨λx e=>by obtain⟨j,d,rfl⟩:=yay.1 e;exact r j d (by omega),λx e=>by obtain⟨j,d,rfl⟩:=yay.1 e;exact s j d (by omega)⟩
 |iface t a v h p=>simpa[AV.under]using p
 |agg l u A y z p=>
  simp[AV.under]
  exact λx e=>by obtain⟨j,d,rfl⟩:=yay.1 e;exact p j d (by omega)
 |tup l u y z p=>
  simp[AV.under]
  exact λx e=>by obtain⟨j,d,rfl⟩:=yay.1 e;exact p j d (by omega)
theorem VRL.isBelow {m:Nat}(hκ:∀i n v,κ i n=some v->i<m){l:List AV}{vs:List Value}(h:VRL κ Im w l vs):l.all (AV.under m)=true:=
 ya1.2 λx b=>by obtain⟨j,a,rfl⟩:=yay.1 b;exact(h.2 j a (by rw[<-h.1];exact a)).isBelow hκ
theorem Entry.isBelow {m id:Nat}(hκ:∀i n v,κ i n=some v->i<m){e:Entry}(h:EOK κ Im base w id e):e.under m=true:=by
 cases e with
 |dead _=>rfl
 |var t g=>
  obtain⟨b,D,_,_,_,d,_⟩:=h
  exact d.isBelow hκ
 |row G o C H=>
  obtain⟨v,E,_,_,d,_⟩:=h
  have:=d.isBelow hκ
  simp only[Entry.under,ya1]at this⊢
  exact λc z x A=>this x (ybo.2 ⟨c,z,A⟩)
 |mp I=>
  obtain⟨b,r,a,_,_,_,s,d,_⟩:=h
  simp only[Entry.under,ya1]
  intro p B
  obtain⟨j,u,rfl⟩:=yay.1 B
  exact(d j u (by omega)).2.isBelow hκ
 |itr k n left q=>
  obtain⟨b,_,_,_,h⟩:=h
  cases k with
  |none=>rfl
  |some i=>
   obtain⟨c,r,a,f,l,F,y,_⟩:=h
   simp only[Entry.under,Option.all_some,decide_eq_true_eq]
   exact hκ _ _ _ y
 |obj _=>rfl
def zmI (κ:Key)(Im:Addr->Prop)(σ:zab)(m:Nat):Addr->Prop:=λa=>
 Im a∨∃id e size els v,m≤id/\σ[id]? =some (.row e size els false)/\κ id els.length=some v/\v.ownBlock=some a.block/\a.spot=none/\a.off<els.length*size
theorem z9H {m:Nat}(hs:SRel base κ Im σ w):∀(k:Nat) {X r:AV} {x:Value},VR κ Im w X x->fz σ m k X=some r->IR (zmI κ Im σ m) w r x/\(X.one=true->r.one=true):=by
 have t:∀{X r:AV} {x:Value},VR κ Im w X x->(if X.pure=true then some X else none)=some r->IR (zmI κ Im σ m) w r x/\(X.one=true->r.one=true):=by
  intro X r x v h
  split at h
  case isFalse=>cases h
  rename_i hp
  simp only[yab]at h;subst h
  exact⟨(v.pure hp).mono (λ_ h=> .inl h) (λ_ _=>rfl),id⟩
 intro k
 induction k with
 |zero=>
  intro X r x v h
  cases X<;>simp only[fz]at h<;>first|(exact t v h)|skip
  simp only[yab]at h;subst h
  cases v.nils_inv
  exact⟨.lnil _,λ_=>rfl⟩
 |succ k ih=>
  intro X r x v h
  cases X<;>simp only[fz]at h<;>first|(exact t v h)|skip
  case nils=>
   simp only[yab]at h;subst h
   cases v.nils_inv
   exact⟨.lnil _,λ_=>rfl⟩
  case row id n=>
   obtain⟨g,O,rfl,P⟩:=v.row_inv
   split at h
   case h_2=>cases h
   rename_i e a l im q
   split at h
   case isFalse=>cases h
   rename_i hn
   subst hn
   split at h
   ·rename_i s
    subst s
    simp only[yab]at h;subst h
    exact⟨(znb hs q P).mono (λ_ h=> .inl h) (λ_ _=>rfl),λ_=>rfl⟩
   ·rename_i s
    have s:im=false:=by simpa using s
    subst s
    split at h
    case isFalse=>cases h
    rename_i hm
    simp only[yaf]at h
    obtain⟨f,E,rfl⟩:=h
    refine⟨?_,λ_=>rfl⟩
    obtain⟨Q,R⟩:=mapM_some E
    obtain⟨v',D,F,p,G,aa,z,H,_,_⟩:=hs.ent _ _ q
    rw[P]at F;cases F
    rcases p.2 with ⟨J,h2⟩|⟨b,Y,ab,J,hg,hh,ad,K,ae,T⟩
    ·have I:f= []:=yal (by omega)
     subst I
     simp only[Value.slice.injEq]at J
     obtain⟨rfl,S,rfl⟩:=J
     rw[S]
     exact .lnil _
    ·simp only[Value.slice.injEq]at J
     obtain⟨rfl,_,rfl⟩:=J
     have B:=p.cells (g:=b) rfl
     have A:∀d (h:d<f.length),f[d].length=a/\∀j (y:j<f[d].length),∃(af:d<l.length) (ag:j<l[d].length),fz σ m k l[d][j]=some f[d][j]:=by
      intro d h
      have C:d<l.length:=by omega
      obtain⟨g1,g2⟩:=mapM_some (R d C h)
      have g3:=z _ (yaw C)
      exact⟨by omega,λj y=>⟨C,by omega,g2 j (by omega) y⟩⟩
     have L:∀d j,d<f.length->j<a->d*a+j<l.length*a:=λd j i y=>by
      have:(d+1)*a≤l.length*a:=yat _ (by omega)
      rw[ya8]at this;omega
     have u:∀d j (h:d<f.length) (Z:j<f[d].length),IR (zmI κ Im σ m) w f[d][j] (D.getD (d*a+j) undef)/\f[d][j].one=true:=by
      intro d j h Z
      obtain⟨q1,q2⟩:=A d h
      obtain⟨W,q4,q5⟩:=q2 j Z
      obtain⟨_,_,I,S⟩:=zfE l d j z W (by omega)
      have o:d*a+j<D.length:=by rw[G.1]at I;exact I
      have hv:=G.2 (d*a+j) I o
      rw[S]at hv
      have e:D.getD (d*a+j) undef=D[d*a+j]:=by simp[o]
      rw[e]
      obtain⟨i1,i2⟩:=ih hv q5
      exact⟨i1,i2 (H _ (yaw W) _ (yaw q4))⟩
     rw[Q]
     refine .lst f a b 0 O (λk j=>D.getD (k*a+j) undef) (by omega) K (λc U=> ?_) (λc U x v=> ?_) (λd j i y=> ?_) (λd j i y=>(u d j i y).1)
     ·obtain⟨d,i,rfl⟩:=yay.1 U
      exact(A d i).1
     ·obtain⟨d,i,rfl⟩:=yay.1 U
      obtain⟨j,y,rfl⟩:=yay.1 v
      exact(u d j i y).2
     ·have M:=L d j i y
      rw[ybh]
      have o:d*a+j<D.length:=by rw[p.1];exact M
      refine⟨.inr ⟨id,e,a,l,_,hm,q,P,rfl,rfl,M⟩, ?_⟩
      have:=B (d*a+j) _ (yac o)
      rw[Addr.add_mid,ybh]at this
      rw[this];simp[o]
theorem zxh {m:Nat}(hs:SRel base κ Im σ w){X r:AV}{x:Value}(hx:VR κ Im w X x)(h:fin1 σ m X=some r):VR (cut κ m) (zmI κ Im σ m) w r x/\(X.one=true->r.one=true):=by
 unfold fin1 at h
 split at h
 ·obtain⟨y,J⟩:=z9H hs 3 hx h
  exact⟨.im _ _ y,J⟩
 ·simp only[yab]at h;subst h
  cases hx.nils_inv
  exact⟨.im _ _ (.lnil _),λ_=>rfl⟩
 ·rename_i id n s d i
  simp only[yad]at h
  obtain⟨q,K,h⟩:=h
  split at h
  case h_2=>cases h
  rename_i l
  split at h
  case isFalse=>cases h
  rename_i t
  simp only[yab]at h;subst h
  obtain⟨b,z,f,c,rfl,e,U,W,L,Y,A,F⟩:=hx.sub_inv
  obtain⟨y,_⟩:=z9H hs 3 (VR.row (κ:=κ) (Im:=Im) (w:=w) id n _ z e) K
  refine⟨.im _ _ ?_,λ_=>rfl⟩
  have u:f=⟨f.block,f.off,none⟩:=by cases f;simp only at F;subst F;rfl
  rcases(VR.im (κ:=κ) _ _ y).lst_inv with ⟨⟨g,o⟩,B⟩|⟨a,b',o',G,p,H,g1,g2,I,O,P,Q⟩
  ·simp only[Value.slice.injEq]at o
   obtain⟨_,M,_⟩:=o
   subst B
   have:=IR.lst (Im:=zmI κ Im σ m) (w:=w) [] 0 f.block f.off c (λ_ _=>undef) (by simp) A (by simp) (by simp) (λk j e=>by simp at e) (λk j e=>by simp at e)
   rw[u,show i-d=0 by omega]
   simpa using this
  ·simp only[Value.slice.injEq,yab,Addr.mk.injEq,and_true]at H
   obtain⟨⟨rfl,rfl⟩,Z,rfl⟩:=H
   have S:((l.take i).drop d).length=i-d:=by simp;omega
   by_cases E:d<i
   ·have D:a=s:=by
     have o:0<l.length:=by omega
     rw[<-I _ (yaw o),t _ (yaw o)]
    subst D
    rw[L E]
    have:=IR.lst (Im:=zmI κ Im σ m) (w:=w) ((l.take i).drop d) a b (d*a) c (λk j=>p (d+k) j) (by omega) A (λc C=>I c (yan (yax C))) (λc C=>O c (yan (yax C)))
     (λk j e v=>by
      have:=P (d+k) j (by omega) v
      rw[ya8]at this
      rw[show d*a+(k*a+j)=0+(d*a+k*a+j) by omega]
      exact this)
     (λk j e v=>by
      simp only[yds,ycj]at v⊢
      exact Q (d+k) j (by omega) v)
    rw[S]at this
    exact this
   ·have T:(l.take i).drop d= []:=yal (by omega)
    rw[T,u]
    have:=IR.lst (Im:=zmI κ Im σ m) (w:=w) [] 0 f.block f.off c (λ_ _=>undef) (by simp) A (by simp) (by simp) (λk j e=>by simp at e) (λk j e=>by simp at e)
    rw[show i-d=0 by omega]
    exact this
 ·split at h
  case isFalse=>cases h
  rename_i R
  simp only[yab]at h;subst h
  exact⟨hx.under (λ_ h=> .inl h) R,id⟩
theorem z2n {m:Nat}(hs:SRel base κ Im σ w){X r:AV}{x:Value}(hx:VR κ Im w X x)(h:finT σ m X=some r):VR (cut κ m) (zmI κ Im σ m) w r x:=by
 unfold finT at h
 split at h
 ·simp only[yaf]at h
  obtain⟨n,d,rfl⟩:=h
  obtain⟨o,rfl,b,a⟩:=hx.agg_inv
  obtain⟨i,g⟩:=mapM_some d
  refine .agg _ _ (λc k=> ?_) (by rw[<-i,b.1]) (λj e f=>(zxh hs (b.2 j (by omega) f) (g j (by omega) e)).1)
  obtain⟨j,e,rfl⟩:=yay.1 k
  have l:=b.1
  exact(zxh hs (b.2 j (by omega) (by omega)) (g j (by omega) e)).2 (a _ (yaw _))
 ·exact(zxh hs hx h).1
theorem zAs {m:Nat}(hs:SRel base κ Im σ w){X r:AV}{x:Value}(hx:VR κ Im w X x)(h:fin σ m X=some r):VR (cut κ m) (zmI κ Im σ m) w r x:=by
 unfold fin at h
 split at h
 ·simp only[yaf]at h
  obtain⟨g,a,rfl⟩:=h
  obtain⟨i,rfl,c⟩:=hx.tup_inv
  obtain⟨d,e⟩:=mapM_some a
  exact .tup _ _ (by rw[<-d,c.1]) (λj f b=>z2n hs (c.2 j (by omega) b) (e j (by omega) f))
 ·exact z2n hs hx h
theorem zyA {rs:List AV}{vs:List Value}(h:VRL κ Im w rs vs):VR κ Im w (za5 rs) (if h:vs.toArray.size=1 then vs.toArray[0]else .tuple vs.toArray):=by
 unfold za5
 split
 ·rename_i v
  match vs,h.1 with
  | [u],_=>exact h.2 0 (by simp) (by simp)
 ·rename_i b
  have:¬vs.toArray.size=1:=by
   intro c
   have d:=h.1
   simp at c
   rw[c]at d
   match rs,d with
   | [a],_=>exact b a rfl
  rw[dif_neg this]
  exact .tup _ _ h.1 h.2
theorem zzv {rvs:List ResultVar}{res:List (Nat×Option (Bool×Nat))}{rs:List AV}{f:Frame}{a:Act}(hs:SRel base κ Im σ w)(hf:FRel κ Im w f a):rvs.mapM (zmC P)=some res->res.mapM (zfo σ f)=some rs->
  ∃vs,(rvs.mapM (fun| .tmp t=>pure (a.tmps.getD t undef)| .cell x t=>do loadVar t (<-asAddr (a.tmps.getD x undef)):ResultVar->Sem Value)).run P w=.ok vs w/\VRL κ Im w rs vs:=by
 induction rvs generalizing res rs with
 |nil=>
  intro h g
  simp at h;subst h
  simp at g;subst g
  exact⟨[],by simp,.nil⟩
 |cons H rvs X=>
  intro h g
  rw[yce]at h
  simp only[yah,yad,yar,yab]at h
  obtain⟨q,u,Y,y,rfl⟩:=h
  rw[yce]at g
  simp only[yah,yad,yar,yab]at g
  obtain⟨r,e,I,j,rfl⟩:=g
  obtain⟨vs,J,K⟩:=X y j
  have C:∃v,((match H with| .tmp t=>pure (a.tmps.getD t undef)| .cell x t=>do loadVar t (<-asAddr (a.tmps.getD x undef))):Sem Value).run P w=.ok v w/\VR κ Im w r v:=by
   cases H with
   |tmp t=>
    simp only[zmC,yab]at u;subst u
    simp only[zfo,yab]at e;subst e
    exact⟨_,rfl,hf t⟩
   |cell x t=>
    simp only[zmC,yah,yad,yar,yab]at u
    obtain⟨L,k,m,z,rfl⟩:=u
    simp only[zfo,yad]at e
    obtain⟨l,M,e⟩:=e
    obtain⟨b,A,E,F,c,n,o,p⟩:=zrR hs (hf x) M
    obtain⟨O,Q⟩:=zss n p e
    have D:E.length=m:=by rw[<-n.1,o]
    obtain⟨i,R,B⟩:=sizeOf?_ok z
    cases L
    ·obtain⟨v,rfl,S⟩:=Q rfl
     refine⟨v, ?_,S⟩
     have G:=c 0 v rfl
     simp only[ycd]at G
     simp[F,asAddr,loadVar,run_isAgg? k,G]
    ·obtain⟨d,T,s⟩:=zrU k
     refine⟨_, ?_,O rfl⟩
     simp only[F,asAddr,yaz,ya7,yaq,run_loadVar_mid w b A t E d c T s (by rw[R];simp[B,D])]
  obtain⟨v,U,W⟩:=C
  refine⟨v::vs, ?_,.cons W K⟩
  rw[yce]
  simp only[yaz,U,J,yaq,ya7]
theorem SRel.take {m:Nat}{κ₀:Key}{Im₀:Addr->Prop}{w₀:World}{σ₀:zab}(hs:SRel base κ Im σ w)(hs₀:SRel base κ₀ Im₀ σ₀ w₀)(hm:σ₀.length≤m)(hg:Grow base κ₀ Im₀ w₀ κ Im w)(hb:∀(id:Nat) (e:Entry),id<m->σ[id]? =some e->σ₀[id]? =some e∨e.under m=true):
  SRel base (cut κ m) (zmI κ Im σ m) (σ.take m) w:=by
 have P:∀i n v,κ₀ i n=some v->i<m:=λi n v h=>by
  obtain⟨e,J,_⟩:=hs₀.dom _ _ _ h
  have:=(yaa.1 J).1
  omega
 have D:∀i n v,cut κ m i n=some v->i<m/\κ i n=some v:=λi n v h=>by
  unfold cut at h;split at h
  ·exact⟨by assumption,h⟩
  ·cases h
 have H:∀(id:Nat) (e:Entry),id<m->σ[id]? =some e->e.under m=true:=λid e d A=>by
  rcases hb id e d A with h|h
  ·exact Entry.isBelow P (hs₀.ent _ _ h)
  ·exact h
 have E:∀(id:Nat) (e:Entry),(σ.take m)[id]? =some e->id<m/\σ[id]? =some e:=λid e h=>by
  rw[ybt]at h
  split at h
  ·exact⟨by assumption,h⟩
  ·cases h
 have I:∀(id:Nat) (e:Entry),id<m->e.block (cut κ m) id=e.block κ id:=λid e d=>by
  cases e<;>simp[Entry.block,cut,d]
 -- the freed Q lie in other blocks
 have k:∀(id:Nat) (e:Entry) (b:Nat),id<m->σ[id]? =some e->e.block κ id=some b->∀a,a.block=b->zmI κ Im σ m a->Im a:=λid e b d A q a f z=>by
  rcases z with h|⟨G,e',y,C,v,ag,M,p,O,_,_⟩
  ·exact h
  ·exfalso
   have:(Entry.row e' y C false).block κ G=some b:=by simp[Entry.block,p,O,f]
   exact hs.sep id G _ _ b (by omega) A M q this
 refine⟨hs.hb,λid n v h=> ?_,λid e h=> ?_,λi j e e' b ai J T aa hb2=> ?_,λa z=> ?_,hs.glob.mono (yap _) (λ_ h=> .inl h) (λ_ _=>rfl) (λ_ _=>rfl)⟩
 ·obtain⟨d,p⟩:=D _ _ _ h
  obtain⟨e,J,T⟩:=hs.dom _ _ _ p
  exact⟨e,by rw[ybt,if_pos d];exact J,T⟩
 ·obtain⟨d,A⟩:=E _ _ h
  have F:=hs.ent _ _ A
  have q:=H id e d A
  cases e with
  |dead _=>trivial
  |var t Q=>
   obtain⟨b,cs,p,r,s,R,B,l⟩:=F
   exact⟨b,cs,zcL p d,r,s,R.under (λ_ h=> .inl h) q,B,λa z f=>l a (k id _ b d A (by simp[Entry.block,p]) a f z) f⟩
  |row ty y C im=>
   obtain⟨v,xs,p,U,R,K,W,B,X,l⟩:=F
   have aj:C.flatten.all (AV.under m)=true:=by
    simp only[Entry.under,ya1]at q⊢
    intro x hx
    obtain⟨c,hc,ad⟩:=ybo.1 hx
    exact q c hc x ad
   refine⟨v,xs,zcL p d,U,R.under (λ_ h=> .inl h) aj,K,W,B,λS=>⟨(X S).1,λj h h'=>((X S).2 j h h').mono (λ_ h=> .inl h) (λ_ _=>rfl)⟩,λg hg=> ?_⟩
   obtain⟨k1,k2⟩:=l g hg
   exact⟨λa z f=>k1 a (k id _ g d A (by simp[Entry.block,p,hg]) a f z) f,λS o ho=> .inl (k2 S o ho)⟩
  |mp kv=>
   obtain⟨b,es,u,p,r,s,K,R,l⟩:=F
   simp only[Entry.under,ya1]at q
   exact⟨b,es,u,zcL p d,r,s,K,λj Z ab=>⟨(R j Z ab).1.mono (λ_ h=> .inl h) (λ_ _=>rfl),(R j Z ab).2.under (λ_ h=> .inl h) (q _ (yaw Z))⟩,λa z f=>l.1 a (k id _ b d A (by simp[Entry.block,p]) a f z) f,l.2⟩
  |itr ak n left al=>
   obtain⟨b,p,r,l,h⟩:=F
   refine⟨b,zcL p d,r,λa z f=>l a (k id _ b d A (by simp[Entry.block,p]) a f z) f, ?_⟩
   cases ak with
   |none=>exact h
   |some i=>
    simp only[Entry.under,Option.all_some,decide_eq_true_eq]at q
    obtain⟨c,es,u,L,Y,c0,J,T⟩:=h
    exact⟨c,es,u,L,Y,c0,zcL J q,T⟩
  |obj o=>
   obtain⟨b,p,r,l,h⟩:=F
   exact⟨b,zcL p d,r,λa z f=>l a (k id _ b d A (by simp[Entry.block,p]) a f z) f,h⟩
 ·obtain⟨S,ae⟩:=E _ _ J
  obtain⟨Z,af⟩:=E _ _ T
  rw[I _ _ S]at aa
  rw[I _ _ Z]at hb2
  exact hs.sep i j e e' b ai ae af aa hb2
 ·rcases z with h|⟨G,e',y,C,v,ag,M,p,O,ah,_⟩
  ·exact hs.imlt a h
  ·have:(Entry.row e' y C false).block κ G=some a.block:=by simp[Entry.block,p,O]
   exact⟨((hs.ent _ _ M).block_ge this).2,ah⟩
theorem z6Q {fn:Func}{rs:List (Nat×Option (Bool×Nat))}{σ₀ σ':zab}{R:AV->zab->Prop}{κ κ':Key}{Im Im':Addr->Prop}{w w':World}{f':Frame}{a':Act}(hrs:fn.results.toList.mapM (zmC P)=some rs)(hs:SRel base κ Im σ₀ w)
  (hfr:FRel κ' Im' w' f' a') (hst:SRel base κ' Im' σ' w') (hgr:Grow base κ Im w κ' Im' w'):zxC σ₀ R rs f' σ'->∃v,(results fn a'.tmps).run P w'=.ok v w'/\(∃r σ'' v' κ'' Im'',Ending.returned v=.returned v'/\R r σ''/\SRel base κ'' Im'' σ'' w'/\Grow base κ Im w κ'' Im'' w'/\VR κ'' Im'' w' r v'):=by
 rintro⟨u,r,m,x,b,y,z,A⟩
 obtain⟨j,s,q⟩:=zzv (P:=P) hst hfr hrs x
 have f:VR (cut κ' m) (zmI κ' Im' σ' m) w' r (if h:j.toArray.size=1 then j.toArray[0]else .tuple j.toArray):=by
  rcases b with b|⟨rfl,b⟩
  ·exact zAs hst (zyA q) b
  ·exact(zyA q).under (λ_ h=> .inl h) b
 refine⟨_, ?_,r,σ'.take m,_,cut κ' m,zmI κ' Im' σ' m,rfl,A,hst.take hs y hgr z, ?_,f⟩
 ·unfold results
  rw[Array.mapM_eq_mapM_toList]
  simp only[yaz,Sem.run_map,yaq]
  exact congrArg (λ(r:Result (List Value))=>(r.andThen λa w'=>Result.ok a.toArray w').andThen λa w'=>Sem.run P (pure (if h:a.size=1 then a[0]else Value.tuple a)) w') s
 ·refine⟨λi n v g=>zcL (hgr.kap _ _ _ g) ?_,λa c=> .inl (hgr.im a c),hgr.cell,λa c=> ?_,hgr.below⟩
  ·obtain⟨e,t,_⟩:=hs.dom _ _ _ g
   have:=(yaa.1 t).1
   omega
  ·rcases c with c|⟨k,B,d,l,v,C,o,g,p,D,_⟩
   ·exact hgr.new a c
   ·have:(Entry.row B d l false).block κ' k=some a.block:=by simp[Entry.block,g,p]
    exact .inr ((hst.ent _ _ o).block_ge this).1
theorem z7H {fn:Func}{args:List AV}{vs:List Value}(hargs:args.length≤fn.ntmps)(hv:VRL κ Im w args vs):(vs.toArray++Array.replicate (fn.ntmps-vs.toArray.size) undef).size=fn.ntmps/\FRel κ Im w (zwZ args) {tmps:=vs.toArray++Array.replicate (fn.ntmps-vs.toArray.size) undef,defers:= []}:=by
 have a:=hv.1
 refine⟨by simp;omega,λt=> ?_⟩
 show VR κ Im w (args.getD t .junk) ((vs.toArray++Array.replicate (fn.ntmps-vs.toArray.size) undef).getD t undef)
 by_cases c:t<args.length
 ·have b:t<vs.length:=by rw[<-a];exact c
  have d:args.getD t .junk=args[t]:=by simp[c]
  have e:(vs.toArray++Array.replicate (fn.ntmps-vs.toArray.size) undef).getD t undef=vs[t]:=by
   simp[ybd,Array.getElem?_append,b]
  rw[d,e]
  exact hv.2 t c b
 ·have d:args.getD t .junk=.junk:=by
   rw[List.getD_eq_getElem?_getD,ybx (yed c)];rfl
  rw[d]
  exact .im _ _ (.junk _)
theorem z7o (hm:P.follows .mixedOrders=true){loud:List FuncId}{fn:Func}{c:Code}{rs:List (Nat×Option (Bool×Nat))}{args:List AV}{σ₀:zab}{R:AV->zab->Prop}(hrs:fn.results.toList.mapM (zmC P)=some rs)(hargs:args.length≤fn.ntmps)
  (h:awp P (comp P fn.ntmps loud c) (zyh σ₀ R rs) (zwZ args) σ₀) {base:Nat} {κ:Key} {Im:Addr->Prop} {w:World} {vs:List Value} (hs:SRel base κ Im σ₀ w) (hv:VRL κ Im w args vs):
  c.wp P (bodyPost P fn λe w'=>∃r σ' v κ' Im',e=.returned v/\R r σ'/\SRel base κ' Im' σ' w'/\Grow base κ Im w κ' Im' w'/\VR κ' Im' w' r v) {tmps:=vs.toArray++Array.replicate (fn.ntmps-vs.toArray.size) undef,defers:= []} w:=by
 obtain⟨d,f⟩:=z7H (fn:=fn) hargs hv
 refine z8X hm (N:=fn.ntmps) (loud:=loud) (D:= []) c _ _ (zwZ args) σ₀ κ Im _ w ?_ h ⟨f,d,rfl,hs,Grow.refl _ _ _ _⟩
 intro e g σ' κ' Im' i w' b a
 cases e with
 |normal=>exact⟨a.df,z6Q hrs hs a.fr a.st a.gr b⟩
 |ret=>exact⟨a.df,z6Q hrs hs a.fr a.st a.gr b⟩
 |exit id=>exact b.elim
theorem zlE (hm:P.follows .mixedOrders=true){loud:List FuncId}{f:FuncId}{af:AFunc}{args:List AV}{σ₀:zab}{R:AV->zab->Prop}(hf:zae P loud f=some af)(hargs:args.length≤af.n)
  (h:awp P af.code (zyh σ₀ R af.res) (zwZ args) σ₀):ACalls P f args σ₀ R:=by
 unfold zae at hf
 simp only[yah,yad,yar,yab]at hf
 obtain⟨i,b,c,a,j,d,rfl⟩:=hf
 intro base κ Im w k e g
 exact calls_of_wp b a (z7o hm d hargs h e g)
end
end Go.Abs
end
section
namespace Go.Abs
open Go.RowKit
variable {G:Globs}
universe u
inductive Tg {α:Sort u}:α->Type u
 |mk (a:α):Tg a
def ob (K:AV->Prop)(_:Tg K)(o:Option AV):Prop:=∃r,o=some r/\K r
theorem z8i (a:AV)(K:AV->Prop)(t:Tg K):ob K t (some a)=K a:=by simp[ob]
def cb (A B:Prop)(_:Tg A)(_:Tg B)(v:AV):Prop:=∃b,v=.bool b/\(b=true->A)/\(b=false->B)
theorem z72 (A B:Prop)(s:Tg A)(t:Tg B):cb A B s t (.bool true)=A:=by simp[cb]
theorem z4A (A B:Prop)(s:Tg A)(t:Tg B):cb A B s t (.bool false)=B:=by simp[cb]
theorem zxH {b:Bool}{A B:Prop}{s:Tg A}{t:Tg B}(h1:b=true->A)(h2:b=false->B):cb A B s t (.bool b):=⟨b,rfl,h1,h2⟩
theorem zaq {p:Prop} [Decidable p]{A B:Prop}{s:Tg A}{t:Tg B}(h1:p->A)(h2:¬p->B):cb A B s t (.bool (decide p)):=⟨_,rfl,λh=>h1 (by simpa using h),λh=>h2 (by simpa using h)⟩
def gd (b:Bool)(A B:Prop)(_:Tg A)(_:Tg B)(v:AV):Prop:=∃w,zxu v b w/\(w=true->A)/\(w=false->B)
theorem z3z (b w:Bool)(A B:Prop)(s:Tg A)(t:Tg B)(v:AV)(h:zxu v b w)(hu:∀w',zxu v b w'->w'=w):gd b A B s t v=if w=true then A else B:=by
 unfold gd
 apply propext
 constructor
 ·rintro⟨w',a,c,d⟩
  have:=hu w' a
  subst this
  cases w' with
  |true=>exact c rfl
  |false=>exact d rfl
 ·intro a
  refine⟨w,h,λe=> ?_,λe=> ?_⟩<;>(subst e;exact a)
theorem zgW (c b:Bool):zxu (.bool c) b (c==b):=.inr ⟨c,rfl,rfl⟩
theorem zf0 (c b w:Bool)(h:zxu (.bool c) b w):w=(c==b):=by
 rcases h with ⟨h,_⟩|⟨a,h,rfl⟩
 ·cases h
 ·cases h;rfl
theorem zBa (A B:Prop)(s:Tg A)(t:Tg B):gd true A B s t (.bool true)=A:=z3z _ _ _ _ _ _ _ (zgW _ _) (zf0 _ _)
theorem zAO (A B:Prop)(s:Tg A)(t:Tg B):gd false A B s t (.bool true)=B:=z3z _ _ _ _ _ _ _ (zgW _ _) (zf0 _ _)
theorem zAJ (A B:Prop)(s:Tg A)(t:Tg B):gd true A B s t (.bool false)=B:=z3z _ _ _ _ _ _ _ (zgW _ _) (zf0 _ _)
theorem zAD (A B:Prop)(s:Tg A)(t:Tg B):gd false A B s t (.bool false)=A:=z3z _ _ _ _ _ _ _ (zgW _ _) (zf0 _ _)
theorem gd_u (b:Bool)(A B:Prop)(s:Tg A)(t:Tg B):gd b A B s t (.any undef)=B:=z3z _ false _ _ _ _ _ (.inl ⟨rfl,rfl⟩) λa h=>by
 rcases h with ⟨_,h⟩|⟨c,h,_⟩
 ·exact h
 ·cases h
theorem gd_t {b:Bool}{A B:Prop}{s:Tg A}{t:Tg B}(h1:b=true->A)(h2:b=false->B):gd true A B s t (.bool b):=⟨b,by simpa using zgW b true,h1,h2⟩
theorem zBo {p:Prop} [Decidable p]{A B:Prop}{s:Tg A}{t:Tg B}(h1:p->A)(h2:¬p->B):gd true A B s t (.bool (decide p)):=gd_t (λh=>h1 (by simpa using h)) (λh=>h2 (by simpa using h))
def ac [Globs](P:Program)(K:AV->zab->Prop)(_:Tg K)(σ:zab)(g:FuncId)(args:List AV):Prop:=zsR P σ K g args
def qc [Globs](P:Program)(K:AV->zab->Prop)(_:Tg K)(σ:zab)(g:FuncId)(args:List AV):Prop:=zuR P σ K g args
def lp [Globs](P:Program)(c:ACode)(_:Tg c)(Q:AExit->Frame->zab->Prop)(_:Tg Q)(f:Frame)(_:Tg f)(σ:zab)(_:Tg σ):Prop:=awp P (.loop c) Q f σ
section
variable {P:Program}{K:AV->zab->Prop}{f:Frame}{σ:zab}
theorem zz8 {Q:Frame->zab->Prop}:zdb P Q [] f σ=Q f σ:=propext Iff.rfl
theorem zw8 {Q:Frame->zab->Prop}{d:Option Nat}{o:AOp}{rest:List AIns}:zdb P Q (⟨none,d,o⟩::rest) f σ=zaw P (λr σ'=>zdb P Q rest (f.put d r) σ') f σ o:=propext Iff.rfl
theorem ztU {Q:Frame->zab->Prop}{t:Nat}{b:Bool}{d:Option Nat}{o:AOp}{rest:List AIns}:
  zdb P Q (⟨some (t,b),d,o⟩::rest) f σ=gd b (zaw P (λr σ'=>zdb P Q rest (f.put d r) σ') f σ o) (zdb P Q rest (f.put d (.any undef)) σ) (.mk _) (.mk _) (f t):=propext Iff.rfl
theorem zBg (x:Opd):zaw P K f σ (.mv x)=ob (λr=>K r σ) (.mk _) (za1 σ f (.mv x)):=propext Iff.rfl
theorem z8U (c a b:Opd):zaw P K f σ (.pick c a b)=ob (λr=>K r σ) (.mk _) (za1 σ f (.pick c a b)):=propext Iff.rfl
theorem zAg (op:BinOp)(x y:Opd):zaw P K f σ (.bin op x y)=ob (λr=>K r σ) (.mk _) (za1 σ f (.bin op x y)):=propext Iff.rfl
theorem zAt (n:Bool)(x y:Opd):zaw P K f σ (.beq n x y)=ob (λr=>K r σ) (.mk _) (za1 σ f (.beq n x y)):=propext Iff.rfl
theorem z9O (n:Bool)(k:List Nat)(x y:Opd):zaw P K f σ (.eqs n k x y)=ob (λr=>K r σ) (.mk _) (za1 σ f (.eqs n k x y)):=propext Iff.rfl
theorem zAh (x:Opd):zaw P K f σ (.not x)=ob (λr=>K r σ) (.mk _) (za1 σ f (.not x)):=propext Iff.rfl
theorem zAx (x:Opd):zaw P K f σ (.neg x)=ob (λr=>K r σ) (.mk _) (za1 σ f (.neg x)):=propext Iff.rfl
theorem z7u (k:IntKind)(x:Opd):zaw P K f σ (.conv k x)=ob (λr=>K r σ) (.mk _) (za1 σ f (.conv k x)):=propext Iff.rfl
theorem z9I (x:Opd)(i:Nat):zaw P K f σ (.ext x i)=ob (λr=>K r σ) (.mk _) (za1 σ f (.ext x i)):=propext Iff.rfl
theorem z6r (z:List AV)(p:List (Nat×Nat×Opd)):zaw P K f σ (.build z p)=ob (λr=>K r σ) (.mk _) (za1 σ f (.build z p)):=propext Iff.rfl
theorem z6i (o s:Nat)(a:Bool)(x:Opd):zaw P K f σ (.field o s a x)=ob (λr=>K r σ) (.mk _) (za1 σ f (.field o s a x)):=propext Iff.rfl
theorem z7Z (a:Bool)(s:Nat)(x:Opd):zaw P K f σ (.load a s x)=ob (λr=>K r σ) (.mk _) (za1 σ f (.load a s x)):=propext Iff.rfl
theorem z5c (x:Opd):zaw P K f σ (.nilck x)=ob (λr=>K r σ) (.mk _) (za1 σ f (.nilck x)):=propext Iff.rfl
theorem z5q (o:Nat)(x:Opd):zaw P K f σ (.faddr o x)=ob (λr=>K r σ) (.mk _) (za1 σ f (.faddr o x)):=propext Iff.rfl
theorem z6m (s:Nat)(x i:Opd):zaw P K f σ (.iaddr s x i)=ob (λr=>K r σ) (.mk _) (za1 σ f (.iaddr s x i)):=propext Iff.rfl
theorem z4W (l s:Nat)(x i:Opd):zaw P K f σ (.aaddr l s x i)=ob (λr=>K r σ) (.mk _) (za1 σ f (.aaddr l s x i)):=propext Iff.rfl
theorem z8q (x i:Opd):zaw P K f σ (.sidx x i)=ob (λr=>K r σ) (.mk _) (za1 σ f (.sidx x i)):=propext Iff.rfl
theorem z9t (l s:Nat)(a:Bool)(x i:Opd):zaw P K f σ (.aidx l s a x i)=ob (λr=>K r σ) (.mk _) (za1 σ f (.aidx l s a x i)):=propext Iff.rfl
theorem z8V (x:Opd):zaw P K f σ (.slen x)=ob (λr=>K r σ) (.mk _) (za1 σ f (.slen x)):=propext Iff.rfl
theorem z9W (x:Opd):zaw P K f σ (.len x)=ob (λr=>K r σ) (.mk _) (za1 σ f (.len x)):=propext Iff.rfl
theorem z8x (x:Opd)(l h:Option Opd):zaw P K f σ (.sslc x l h)=ob (λr=>K r σ) (.mk _) (za1 σ f (.sslc x l h)):=propext Iff.rfl
theorem z9S (s:Nat)(x:Opd)(l h:Option Opd):zaw P K f σ (.slc s x l h)=ob (λr=>K r σ) (.mk _) (za1 σ f (.slc s x l h)):=propext Iff.rfl
theorem zAG (m:Bool)(x y:Opd):zaw P K f σ (.mm m x y)=ob (λr=>K r σ) (.mk _) (za1 σ f (.mm m x y)):=propext Iff.rfl
theorem z8a (g:Fn)(a b:List Opd):zaw P K f σ (.mkfn g a b)=ob (λr=>K r σ) (.mk _) (za1 σ f (.mkfn g a b)):=propext Iff.rfl
theorem z8F (t:TypeId)(x:Opd):zaw P K f σ (.mkif t x)=ob (λr=>K r σ) (.mk _) (za1 σ f (.mkif t x)):=propext Iff.rfl
theorem z4X (ty:Nat)(cells:List AV):zaw P K f σ (.alloc ty cells)=K (.ptr σ.length 0) (σ++ [.var ty cells]):=propext Iff.rfl
theorem z9y (g:FuncId)(args:List Opd):zaw P K f σ (.call g args)=ac P K (.mk _) σ g (args.map (·.ev f)):=propext Iff.rfl
theorem z4g (g:FuncId)(args:List Opd):zaw P K f σ (.qcall g args)=qc P K (.mk _) σ g (args.map (·.ev f)):=propext Iff.rfl
def sb (K:zab->Prop)(_:Tg K)(o:Option zab):Prop:=∃r,o=some r/\K r
theorem z9n (a:zab)(K:zab->Prop)(t:Tg K):sb K t (some a)=K a:=by simp[sb]
def z8E (σ:zab)(size:Nat)(x v:AV):Option zab:=if v.cells.length=size/\v.cells.all AV.one=true then zw9 σ x v.cells else none
theorem z6d (n:Nat)(x v:Opd):zaw P K f σ (.store n x v)=sb (λσ'=>K .junk σ') (.mk _) (z8E σ n (x.ev f) (v.ev f)):=by
 unfold z8E sb
 simp only[zaw]
 apply propext
 constructor
 ·rintro⟨σ',a,b,d,e⟩
  exact⟨σ',by rw[if_pos ⟨a,ya1.2 b⟩];exact d,e⟩
 ·rintro⟨σ',a,b⟩
  split at a
  ·rename_i c;exact⟨σ',c.1,ya1.1 c.2,a,b⟩
  ·cases a
theorem z9B (ty:Nat)(x:Opd)(h:(x.ev f).cells.all AV.one=true):zaw P K f σ (.box ty x)=K (.ptr σ.length 0) (σ++ [.var ty (x.ev f).cells]):=by
 simp only[zaw];exact propext ⟨λa=>a.2,λa=>⟨ya1.1 h,a⟩⟩
def z8I (σ:zab)(f:Frame)(size:Nat)(zero:List AV)(n:Nat)(parts:List (Nat×Opd)):Option AV:=
 (parts.mapM λ(p:Nat×Opd)=>(share σ (p.2.ev f)).bind λv=>if v.cells.length=size/\v.cells.all AV.one then some (p.1*size,v.cells)else none).map λps=> .lst (zbc n size (lay (List.replicate n zero).flatten ps))
theorem z6x (e size:Nat)(zero:List AV)(n:Nat)(parts:List (Nat×Opd)):zaw P K f σ (.mklst e size zero n parts)=ob (λr=>K r σ) (.mk _) (z8I σ f size zero n parts):=by
 unfold ob z8I
 simp only[zaw]
 apply propext
 constructor
 ·rintro⟨c,a,b⟩;exact⟨_,by rw[a];rfl,b⟩
 ·rintro⟨r,a,b⟩
  simp only[yaf]at a
  obtain⟨c,d,rfl⟩:=a
  exact⟨c,d,b⟩
def AV.els:AV->List (List AV)
 | .lst l=>l
 |_=> []
def z82 (f:Frame)(size:Nat)(zero:List AV)(n:Nat)(parts:List (Nat×Opd)):Option AV:=
 if 0<size then(parts.mapM λ(p:Nat×Opd)=>if(p.2.ev f).cells.length=size/\(p.2.ev f).cells.all AV.one then some (p.1*size,(p.2.ev f).cells)else none).map λps=> .lst (zbc n size (lay (List.replicate n zero).flatten ps))else none
theorem z5l (e size:Nat)(zero:List AV)(n:Nat)(parts:List (Nat×Opd)):zaw P K f σ (.mkrow e size zero n parts)=ob (λr=>K (.row σ.length n) (σ++ [.row e size r.els false])) (.mk _) (z82 f size zero n parts):=by
 unfold ob z82
 simp only[zaw]
 apply propext
 constructor
 ·rintro⟨b,a,d,c⟩;exact⟨.lst (zbc n size (lay (List.replicate n zero).flatten b)),by rw[if_pos d,a];rfl,c⟩
 ·rintro⟨r,a,d⟩
  split at a
  case isFalse=>cases a
  rename_i g
  simp only[yaf]at a
  obtain⟨b,c,rfl⟩:=a
  exact⟨b,c,g,d⟩
theorem zBu (o:XOp):zaw P K f σ (.px o)=ob (λr=>K r σ) (.mk _) (za1 σ f (.px o)):=propext Iff.rfl
theorem z0o (x:Opd):zaw P K f σ (.tobytes x)=ob (λr=>K r σ) (.mk _) (zhl (x.ev f)):=propext Iff.rfl
theorem z6k:zaw P K f σ (.ex .mkmap)=K (.map σ.length) (σ++ [.mp []]):=propext ⟨λ⟨_,_,⟨h1,h2⟩,h⟩=>by subst h1;subst h2;exact h,λh=>⟨_,_,⟨rfl,rfl⟩,h⟩⟩
def zya (σ:zab)(kind:Nat)(X k v:AV):Option zab:=match X with
 | .map id=>match σ[id]? with
  |some (.mp kv)=>if k.pure=true/\zbP σ=true then(zdt kind k v kv).map λkv'=>σ.set id (.mp kv')else none
  |_=>none
 |_=>none
theorem z7M (kind:Nat)(x k v:Opd):zaw P K f σ (.ex (.mset kind x k v))=sb (λσ'=>K .junk σ') (.mk _) (zya σ kind (x.ev f) (k.ev f) (v.ev f)):=by
 apply propext
 constructor
 ·rintro⟨r,σ',⟨rfl,id,e,a,b,i,j,l,m,rfl⟩,c⟩
  exact⟨_,by simp only[zya,b,i,j,l,m,and_self,if_true,Option.map_some],c⟩
 ·rintro⟨σ',h,c⟩
  unfold zya at h
  split at h
  case h_2=>cases h
  rename_i id n
  split at h
  case h_2=>cases h
  rename_i e d
  split at h
  case isFalse=>cases h
  rename_i g
  simp only[yaf]at h
  obtain⟨a,b,rfl⟩:=h
  exact⟨_,_,⟨rfl,id,e,a,n,d,g.1,b,g.2,rfl⟩,c⟩
theorem z9G (size:Nat)(z:List AV)(x:Opd):zaw P K f σ (.ex (.clr size z x))=sb (λσ'=>K (.tup []) σ') (.mk _) (z07 σ size z (x.ev f)):=
 propext ⟨λ⟨_,_,⟨h1,a⟩,h⟩=>⟨_,a,by subst h1;exact h⟩,λ⟨_,a,h⟩=>⟨_,_,⟨rfl,a⟩,h⟩⟩
theorem z7L (kind:Nat)(x k:Opd):zaw P K f σ (.ex (.mdel kind x k))=sb (λσ'=>K (.tup []) σ') (.mk _) (z2L σ kind (k.ev f) (x.ev f)):=
 propext ⟨λ⟨_,_,⟨h1,a⟩,h⟩=>⟨_,a,by subst h1;exact h⟩,λ⟨_,a,h⟩=>⟨_,_,⟨rfl,a⟩,h⟩⟩
theorem z95 (x:Opd):zaw P K f σ (.ex (.rng x))=sb (λσ'=>K (.ptr σ.length 0) σ') (.mk _) (z1m σ (x.ev f)):=
 propext ⟨λ⟨_,_,⟨h1,a⟩,h⟩=>⟨_,a,by subst h1;exact h⟩,λ⟨_,a,h⟩=>⟨_,_,⟨rfl,a⟩,h⟩⟩
def apT (K:AV->zab->Prop)(_:Tg K)(σ:zab)(e size bytes:Nat)(x y:AV):Prop:=∃(l m:List (List AV)) (im:Bool),x=.tight l/\view σ y=some m/\0<size/\(∀c∈m,c.length=size)/\(∀c∈l,c.length=size)/\m≠ []/\(im=true->zlT σ y m)/\(l.length+m.length)*bytes≤140737488355328/\l.length+m.length≤9223372036854775807/\K (.row σ.length (l.length+m.length)) (σ++ [.row e size (l++m) im])
theorem zA9 (e size bytes:Nat)(x y:Opd):zaw P K f σ (.apt e size bytes x y)=apT K (.mk _) σ e size bytes (x.ev f) (y.ev f):=propext Iff.rfl
def nt (K:AV->zab->Prop)(_:Tg K)(σ:zab)(x:AV):Prop:=match x with
 | .ptr id 0=>match σ[id]? with
  |some (.itr mid n left last)=>(left= []->K (.tup [.bool false]) σ)/\∀i∈left,K (.tup [.bool true,.junk,.junk]) (σ.set id (.itr mid n (left.erase i) i))
  |_=>False
 |_=>False
theorem z9A (x:Opd):zaw P K f σ (.nxt x)=nt K (.mk _) σ (x.ev f):=propext Iff.rfl
def ap (K:AV->zab->Prop)(_:Tg K)(σ:zab)(e size bytes:Nat)(x y:AV):Prop:=∃m,view σ y=some m/\0<size/\(∀c∈m,c.length=size)/\
 match x with
 | .nils=>(m= []/\K .nils σ)∨∃im,(im=true->zlT σ y m)/\m.length*bytes≤140737488355328/\m.length≤9223372036854775807/\K (.row σ.length m.length) (σ++ [.row e size m im])
 | .row id n=>∃els im,σ[id]? =some (.row e size els im)/\(im=true->zlT σ y m)/\els.length=n/\(n+m.length)*bytes≤140737488355328/\n+m.length≤9223372036854775807/\K (.row id (n+m.length)) (σ.set id (.row e size (els++m) im))
 | .sub id n sz lo hi=>∃els,σ[id]? =some (.row e size els false)/\els.length=n/\0<n/\sz=size/\lo=0/\(hi+m.length)*bytes≤140737488355328/\hi+m.length≤9223372036854775807/\K (.row σ.length (hi+m.length)) (σ.set id (.dead n)++ [.row e size (els.take hi++m) false])
 | .tight l=>∃im,(∀c∈l,c.length=size)/\m≠ []/\(im=true->zlT σ y m)/\(l.length+m.length)*bytes≤140737488355328/\l.length+m.length≤9223372036854775807/\K (.row σ.length (l.length+m.length)) (σ++ [.row e size (l++m) im])
 |_=>False
theorem z97 (e size bytes:Nat)(x y:Opd):zaw P K f σ (.app e size bytes x y)=ap K (.mk _) σ e size bytes (x.ev f) (y.ev f):=propext Iff.rfl
theorem zeX (im:Bool){t:Tg K}{e size bytes:Nat}{y:AV}(m:List (List AV))(hv:view σ y=some m)(hs:0<size)(hl:∀c∈m,c.length=size)(hf:im=true->zlT σ y m)(hb:m.length*bytes≤140737488355328)(h63:m.length≤9223372036854775807)
  (hK:K (.row σ.length m.length) (σ++ [.row e size m im])):ap K t σ e size bytes .nils y:=⟨m,hv,hs,hl,.inr ⟨im,hf,hb,h63,hK⟩⟩
theorem zbm {t:Tg K}{e size bytes id n:Nat}{y:AV}(els m:List (List AV))(im:Bool)(he:σ[id]? =some (.row e size els im))(hv:view σ y=some m)(hs:0<size)(hl:∀c∈m,c.length=size)(hf:im=true->zlT σ y m)(hn:els.length=n)(hb:(n+m.length)*bytes≤140737488355328)(h63:n+m.length≤9223372036854775807)
  (hK:K (.row id (n+m.length)) (σ.set id (.row e size (els++m) im))):ap K t σ e size bytes (.row id n) y:=⟨m,hv,hs,hl,els,im,he,hf,hn,hb,h63,hK⟩
def aps (K:AV->zab->Prop)(_:Tg K)(σ:zab)(e:Nat)(x y:AV):Prop:=∃l,y=.str l/\
 match x with
 | .nils=>(l= []/\K .nils σ)∨∃im,l.length≤140737488355328/\K (.row σ.length l.length) (σ++ [.row e 1 (byteEls l) im])
 | .row id n=>∃els im,σ[id]? =some (.row e 1 els im)/\els.length=n/\n+l.length≤140737488355328/\K (.row id (n+l.length)) (σ.set id (.row e 1 (els++byteEls l) im))
 |_=>False
theorem z7m (e:Nat)(x y:Opd):zaw P K f σ (.apps e x y)=aps K (.mk _) σ e (x.ev f) (y.ev f):=propext Iff.rfl
theorem z8O {t:Tg K}{e id n:Nat}{l:List UInt8}(els:List (List AV))(im:Bool)(he:σ[id]? =some (.row e 1 els im))(hn:els.length=n)(hb:n+l.length≤140737488355328)
  (hK:K (.row id (n+l.length)) (σ.set id (.row e 1 (els++byteEls l) im))):aps K t σ e (.row id n) (.str l):=⟨l,rfl,els,im,he,hn,hb,hK⟩
theorem zwT {Q:AExit->Frame->zab->Prop}:awp P (.all []) Q f σ=True:=propext ⟨λ_=>trivial,λ_ _ h=>by cases h⟩
theorem zt8 {Q:AExit->Frame->zab->Prop}(l:List AIns)(ls:List (List AIns)):awp P (.all (l::ls)) Q f σ=(zdb P (Q .normal) l f σ/\awp P (.all ls) Q f σ):=
 propext ⟨λh=>⟨h l (by simp),λb a=>h b (by simp[a])⟩,λh b a=>by
  rcases ybb.1 a with rfl|a
  ·exact h.1
  ·exact h.2 b a⟩
theorem z62 {Q:AExit->Frame->zab->Prop}:awp P .skip Q f σ=Q .normal f σ:=propext Iff.rfl
theorem z7T {Q:AExit->Frame->zab->Prop}(l:List AIns):awp P (.ops l) Q f σ=zdb P (Q .normal) l f σ:=propext Iff.rfl
theorem z8u {Q:AExit->Frame->zab->Prop}(a b:ACode):awp P (.seq a b) Q f σ=awp P a (AExit.then (awp P b Q) Q) f σ:=propext Iff.rfl
theorem z4L {Q:AExit->Frame->zab->Prop}(c:Opd)(x y:ACode):awp P (.cond c x y) Q f σ=cb (awp P x Q f σ) (awp P y Q f σ) (.mk _) (.mk _) (c.ev f):=propext Iff.rfl
theorem z6s {Q:AExit->Frame->zab->Prop}(c:ACode):awp P (.loop c) Q f σ=lp P c (.mk _) Q (.mk _) f (.mk _) σ (.mk _):=propext Iff.rfl
theorem zuq {Q:AExit->Frame->zab->Prop}(id:Nat)(c:ACode):awp P (.block id c) Q f σ=awp P c (AExit.inBlock id Q) f σ:=propext Iff.rfl
theorem z67 {Q:AExit->Frame->zab->Prop}(id:Nat):awp P (.exit id) Q f σ=Q (.exit id) f σ:=propext Iff.rfl
theorem z8f {Q:AExit->Frame->zab->Prop}:awp P .ret Q f σ=Q .ret f σ:=propext Iff.rfl
theorem zwI {N:Frame->zab->Prop}{Q:AExit->Frame->zab->Prop}:AExit.then N Q .normal f σ=N f σ:=propext Iff.rfl
theorem zvv {N:Frame->zab->Prop}{Q:AExit->Frame->zab->Prop}:AExit.then N Q .normal=N:=funext λ_=>funext λ_=>propext Iff.rfl
theorem z2Q {N:Frame->zab->Prop}{Q:AExit->Frame->zab->Prop}(id:Nat):AExit.then N Q (.exit id) f σ=Q (.exit id) f σ:=propext Iff.rfl
theorem z4c {N:Frame->zab->Prop}{Q:AExit->Frame->zab->Prop}:AExit.then N Q .ret f σ=Q .ret f σ:=propext Iff.rfl
theorem zq9 {id:Nat}{Q:AExit->Frame->zab->Prop}:AExit.inBlock id Q .normal f σ=Q .normal f σ:=propext Iff.rfl
theorem zpl {id:Nat}{Q:AExit->Frame->zab->Prop}:AExit.inBlock id Q .normal=Q .normal:=funext λ_=>funext λ_=>propext Iff.rfl
theorem zwc {id:Nat}{Q:AExit->Frame->zab->Prop}:AExit.inBlock id Q .ret f σ=Q .ret f σ:=propext Iff.rfl
theorem zvb {id id':Nat}{Q:AExit->Frame->zab->Prop}:AExit.inBlock id Q (.exit id') f σ=if id'=id then Q .normal f σ else Q (.exit id') f σ:=propext Iff.rfl
theorem zd6:∀{c:ACode} {Q Q':AExit->Frame->zab->Prop} {f:Frame} {σ:zab},(∀e f σ,Q e f σ->Q' e f σ)->awp P c Q f σ->awp P c Q' f σ
 | .skip,_,_,_,_,h,h'=>h _ _ _ h'
 | .ops [],_,_,_,_,h,h'=>h _ _ _ h'
 | .ops (i::l),Q,Q',_,_,h,h'=>zpO (λf σ d=>zd6 (c:=.ops l) (Q:=Q) (Q':=Q') h d) h'
 | .all ls,Q,Q',_,_,h,h'=>λl m=>zd6 (c:=.ops l) (Q:=Q) (Q':=Q') h (h' l m)
 | .seq a b,_,_,_,_,h,h'=>zd6 (c:=a) (λe f σ d=>by cases e<;>first|exact zd6 (c:=b) h d|exact h _ _ _ d) h'
 | .cond c x y,_,_,_,_,h,⟨b,g,k,h3⟩=>⟨b,g,λj=>zd6 (c:=x) h (k j),λj=>zd6 (c:=y) h (h3 j)⟩
 | .block id c,_,_,_,_,h,h'=>zd6 (c:=c) (λe f σ d=>by
   cases e with
   |normal=>exact h _ _ _ d
   |exit q=>simp only[AExit.inBlock]at d⊢;split<;>rename_i p<;>simp only[p,if_true,if_false]at d<;>exact h _ _ _ d
   |ret=>exact h _ _ _ d) h'
 | .loop c,_,_,_,_,h,⟨I,n,d,hr⟩=>⟨I,n,d,λn f σ o=>zd6 (c:=c) (λe f σ g=>by cases e<;>first|exact g|exact h _ _ _ g) (hr n f σ o)⟩
 | .exit id,_,_,_,_,h,h'=>h _ _ _ h'
 | .ret,_,_,_,_,h,h'=>h _ _ _ h'
 | .gh,_,_,_,_,h,h'=>h'.imp (h _ _ _) λ⟨σ',g,k⟩=>⟨σ',g,h _ _ _ k⟩
 | .bad,_,_,_,_,_,h'=>h'
def zrx [Globs](σ:zab)(f:Frame)(res:List (Nat×Option (Bool×Nat))):Option AV:=(res.mapM (zfo σ f)).bind λrs=>fin σ 0 (za5 rs)
def z7p [Globs](R:AV->Prop)(_:Tg R)(res:List (Nat×Option (Bool×Nat))):AExit->Frame->zab->Prop
 | .exit _,_,_=>False
 |_,f,σ=>ob R (.mk _) (zrx σ f res)
theorem z3D {R:AV->Prop}{t:Tg R}{res:List (Nat×Option (Bool×Nat))}:z7p R t res .ret f σ=ob R (.mk _) (zrx σ f res):=propext Iff.rfl
theorem zvG {R:AV->Prop}{t:Tg R}{res:List (Nat×Option (Bool×Nat))}:z7p R t res .normal f σ=ob R (.mk _) (zrx σ f res):=propext Iff.rfl
theorem zaa (hm:P.follows .mixedOrders=true){loud:List FuncId}{g:FuncId}{af:AFunc}{args:List AV}{R:AV->Prop}(hf:zae P loud g=some af)(hargs:decide (args.length≤af.n)=true)
  (h:awp P af.code (z7p R (.mk _) af.res) (zwZ args) []):PCalls P g args R:=by
 refine zlE hm hf (of_decide_eq_true hargs) (zd6 (λe f σ c=> ?_) h)
 have a:ob R (.mk _) (zrx σ f af.res)->zxC [] (λr σ'=>σ'= []/\R r) af.res f σ:=by
  rintro⟨r,b,k⟩
  unfold zrx at b
  simp only[yad]at b
  obtain⟨d,i,j⟩:=b
  exact⟨d,r,0,i,.inl j,yap _,λid e h=>absurd h (Nat.not_lt_zero _),by simp,k⟩
 cases e with
 |normal=>exact a c
 |ret=>exact a c
 |exit id=>exact c.elim
theorem ziV {lend:Bool}{args:List AV}(ha:args.all AV.pure=true):CoeL σ lend args args:=by
 induction args with
 |nil=>exact .nil
 |cons a l b=>
  simp only[List.all_cons,yb6]at ha
  exact .cons (.pure a ha.1) (b ha.2)
theorem zac {g:FuncId}{args:List AV}{R:AV->Prop}{t:Tg K}(hc:PCalls P g args R)(ha:args.all AV.pure=true)(hK:∀r,R r->K r σ):ac P K t σ g args:=.inl ⟨args,R,ziV ha,hc,hK⟩
theorem zx5 {g:FuncId}{args args':List AV}{R:AV->Prop}{t:Tg K}(hc:PCalls P g args' R)(ha:CoeL σ false args args')(hK:∀r,R r->K r σ):ac P K t σ g args:=.inl ⟨args',R,ha,hc,hK⟩
theorem z34 {g:FuncId}{args args':List AV}{R:AV->Prop}{t:Tg K}(hc:PCalls P g args' R)(ha:CoeL σ true args args')(hK:∀r,R r->rig r=true/\K r σ):ac P K t σ g args:=.inr (.inl ⟨args',R,ha,hc,hK⟩)
theorem zam {g:FuncId}{args:List AV}{R:AV->zab->Prop}{t:Tg K}(hc:ACalls P g args σ R)(hK:∀r σ',R r σ'->K r σ'):ac P K t σ g args:=.inr (.inr (hc.mono hK))
theorem zap {g:FuncId}{args:List AV}{r:AV}{t:Tg K}(hc:PCalls P g args (λr'=>r'=r))(ha:args.all AV.pure=true)(hr:rig r=true)(hK:K r σ):qc P K t σ g args:=⟨true,args,r,ziV ha,hc,λ_=>hr,hK⟩
theorem zbu {g:FuncId}{args:List AV}{r:AV}{t:Tg K}(hc:PCalls P g args (λr'=>r'=r))(ha:args.all AV.pure=true)(hK:K r σ):qc P K t σ g args:=⟨false,args,r,ziV ha,hc,nofun,hK⟩
theorem z9q {g:FuncId}{args args':List AV}{r:AV}{t:Tg K}(hc:PCalls P g args' (λr'=>r'=r))(ha:CoeL σ true args args')(hr:rig r=true)(hK:K r σ):qc P K t σ g args:=⟨true,args',r,ha,hc,λ_=>hr,hK⟩
end
theorem z4s:AV.one (.junk)=false:=rfl
theorem zzS:AV.cells (.junk)= [.junk]:=rfl
theorem z8c (k:IntKind)(n:Int):AV.one (.int k n)=true:=rfl
theorem z29 (k:IntKind)(n:Int):AV.cells (.int k n)= [.int k n]:=rfl
theorem z4O (b:Bool):AV.one (.bool b)=true:=rfl
theorem zyL (b:Bool):AV.cells (.bool b)= [.bool b]:=rfl
theorem z8y (s:List UInt8):AV.one (.str s)=true:=rfl
theorem z3G (s:List UInt8):AV.cells (.str s)= [.str s]:=rfl
theorem z7j (k:FloatKind)(b:Nat):AV.one (.flt k b)=true:=rfl
theorem z06 (k:FloatKind)(b:Nat):AV.cells (.flt k b)= [.flt k b]:=rfl
theorem z5i:AV.one (.nilp)=true:=rfl
theorem z02:AV.cells (.nilp)= [.nilp]:=rfl
theorem z7i (i o:Nat):AV.one (.ptr i o)=true:=rfl
theorem z0R (i o:Nat):AV.cells (.ptr i o)= [.ptr i o]:=rfl
theorem z6a (c:List AV):AV.one (.rptr c)=true:=rfl
theorem zzi (c:List AV):AV.cells (.rptr c)= [.rptr c]:=rfl
theorem z5y:AV.one (.nils)=true:=rfl
theorem zzM:AV.cells (.nils)= [.nils]:=rfl
theorem z8B (l:List (List AV)):AV.one (.lst l)=true:=rfl
theorem z2H (l:List (List AV)):AV.cells (.lst l)= [.lst l]:=rfl
theorem z74 (i n:Nat):AV.one (.row i n)=true:=rfl
theorem z2N (i n:Nat):AV.cells (.row i n)= [.row i n]:=rfl
theorem z4N (i n s k o:Nat):AV.one (.rowp i n s k o)=true:=rfl
theorem z03 (i n s k o:Nat):AV.cells (.rowp i n s k o)= [.rowp i n s k o]:=rfl
theorem z9a (i:Nat):AV.one (.map i)=true:=rfl
theorem z1N (i:Nat):AV.cells (.map i)= [.map i]:=rfl
theorem z6E:AV.one (.nilm)=true:=rfl
theorem z0z:AV.cells (.nilm)= [.nilm]:=rfl
theorem zA2 (f:Fn)(a b:List AV):AV.one (.fn f a b)=true:=rfl
theorem z6j (f:Fn)(a b:List AV):AV.cells (.fn f a b)= [.fn f a b]:=rfl
theorem z4U:AV.one (.nilf)=true:=rfl
theorem z0y:AV.cells (.nilf)= [.nilf]:=rfl
theorem z1k (t:TypeId)(v:AV):AV.one (.iface t v)=true:=rfl
theorem zxt (t:TypeId)(v:AV):AV.cells (.iface t v)= [.iface t v]:=rfl
theorem z64:AV.one (.nili)=true:=rfl
theorem zzt:AV.cells (.nili)= [.nili]:=rfl
theorem z9f (l:List AV):AV.one (.agg l)=false:=rfl
theorem z0O (l:List AV):AV.cells (.agg l)=l:=rfl
theorem z7I (l:List AV):AV.one (.tup l)=false:=rfl
theorem z1u (l:List AV):AV.cells (.tup l)= [.tup l]:=rfl
theorem zA6 (g o:Nat):AV.one (.gp g o)=true:=rfl
theorem z4p (g o:Nat):AV.cells (.gp g o)= [.gp g o]:=rfl
theorem z9w (i o n s:Nat):AV.one (.asl i o n s)=true:=rfl
theorem z1z (i o n s:Nat):AV.cells (.asl i o n s)= [.asl i o n s]:=rfl
attribute [simp] z9w z1z
theorem z8d (i n s l h:Nat):AV.one (.sub i n s l h)=true:=rfl
theorem z1A (i n s l h:Nat):AV.cells (.sub i n s l h)= [.sub i n s l h]:=rfl
attribute [simp] zA6 z4p z8d z1A
theorem z9j (v:Value):AV.one (.any v)=false:=rfl
theorem z2O (v:Value):AV.cells (.any v)= [.any v]:=rfl
attribute [simp] z4s zzS z8c z29 z4O zyL z8y z3G z7j z06 z5i z02 z7i z0R z6a zzi z5y zzM z8B z2H z74 z2N z4N z03 z9a z1N z6E z0z zA2 z6j z4U z0y z1k zxt z64 zzt z9f z0O z7I z1u z9j z2O
theorem z4k (σ:zab)(m:Nat)(k:IntKind)(n:Int):fin1 σ m (.int k n)=some (.int k n):=by simp[fin1,AV.under]
theorem z1a (σ:zab)(m:Nat)(b:Bool):fin1 σ m (.bool b)=some (.bool b):=by simp[fin1,AV.under]
theorem z6D (σ:zab)(m:Nat)(s:List UInt8):fin1 σ m (.str s)=some (.str s):=by simp[fin1,AV.under]
theorem z5N (σ:zab)(m:Nat)(k:FloatKind)(b:Nat):fin1 σ m (.flt k b)=some (.flt k b):=by simp[fin1,AV.under]
theorem z36 (σ:zab)(m:Nat):fin1 σ m (.nilp)=some (.nilp):=by simp[fin1,AV.under]
theorem z0E (σ:zab)(m:Nat)(c:List AV):fin1 σ m (.rptr c)=some (.rptr c):=by simp[fin1,AV.under]
theorem z5P (σ:zab)(m:Nat)(l:List (List AV)):fin1 σ m (.lst l)=some (.lst l):=by simp[fin1,AV.under]
theorem z3u (σ:zab)(m:Nat):fin1 σ m (.nilm)=some (.nilm):=by simp[fin1,AV.under]
theorem z3x (σ:zab)(m:Nat):fin1 σ m (.nilf)=some (.nilf):=by simp[fin1,AV.under]
theorem z2w (σ:zab)(m:Nat):fin1 σ m (.nili)=some (.nili):=by simp[fin1,AV.under]
theorem z7U (σ:zab)(m:Nat)(g o:Nat):fin1 σ m (.gp g o)=some (.gp g o):=by simp[fin1,AV.under]
theorem z6C (σ:zab)(m i:Nat):fin1 σ m (.map i)=if i<m then some (.map i)else none:=by simp[fin1,AV.under]
theorem z57 (σ:zab)(m i n size lo hi:Nat):fin1 σ m (.sub i n size lo hi)=(fz σ m 3 (.row i n)).bind fun
  | .lst l=>if∀c∈l,c.length=size then some (.lst ((l.take hi).drop lo))else none
  |_=>none:=rfl
attribute [simp] z7U z6C z57
theorem z2J (σ:zab)(m:Nat):fin1 σ m .nils=some (.lst []):=rfl
theorem z6w (σ:zab)(m i n:Nat):fin1 σ m (.row i n)=fz σ m 3 (.row i n):=rfl
theorem z5T (σ:zab)(m i o:Nat):fin1 σ m (.ptr i o)=if i<m then some (.ptr i o)else none:=by simp[fin1,AV.under]
theorem zyQ (σ:zab)(m:Nat)(t:TypeId)(v:AV):fin1 σ m (.iface t v)=if v.under m then some (.iface t v)else none:=by simp[fin1,AV.under]
theorem z8D (σ:zab)(m:Nat)(g:Fn)(a b:List AV):fin1 σ m (.fn g a b)=if(AV.fn g a b).under m then some (.fn g a b)else none:=rfl
attribute [simp] z4k z1a z6D z5N z36 z0E z5P z3u z3x z2w z2J z6w z5T zyQ z8D
theorem z3V (σ:zab):view σ .nils=some []:=rfl
theorem z54 (σ:zab)(l:List (List AV)):view σ (.lst l)=some l:=rfl
theorem z5W (σ:zab)(id n:Nat):view σ (.row id n)=match σ[id]? with
  |some (.row _ _ els _)=>if els.length=n then some els else none
  |_=>none:=rfl
theorem z4r (σ:zab)(id n size lo hi:Nat):view σ (.sub id n size lo hi)=match σ[id]? with
  |some (.row _ size' els _)=>if els.length=n/\size'=size then some ((els.take hi).drop lo)else none
  |_=>none:=rfl
attribute [simp] z4r
theorem z65 (σ:zab)(id off n size:Nat):view σ (.asl id off n size)=match σ[id]? with
  |some (.var _ cells)=>if off+n*size≤cells.length then some (zbc n size ((cells.drop off).take (n*size)))else none
  |_=>none:=rfl
attribute [simp] z65
theorem z01 (σ:zab):zfK σ .nils=some []:=rfl
theorem z2F (σ:zab)(l:List (List AV)):zfK σ (.lst l)=some l:=rfl
theorem z2m (σ:zab)(id n:Nat):zfK σ (.row id n)=match σ[id]? with
  |some (.row _ _ els true)=>if els.length=n then some els else none
  |_=>none:=rfl
attribute [simp] z3V z54 z5W z01 z2F z2m
theorem z88 (σ:zab)(m:Nat)(k:IntKind)(n:Int):fin σ m (.int k n)=fin1 σ m (.int k n):=rfl
theorem z6c (σ:zab)(m:Nat)(k:IntKind)(n:Int):finT σ m (.int k n)=fin1 σ m (.int k n):=rfl
theorem z5Y (σ:zab)(m:Nat)(b:Bool):fin σ m (.bool b)=fin1 σ m (.bool b):=rfl
theorem z1T (σ:zab)(m:Nat)(b:Bool):finT σ m (.bool b)=fin1 σ m (.bool b):=rfl
theorem z7f (σ:zab)(m:Nat)(s:List UInt8):fin σ m (.str s)=fin1 σ m (.str s):=rfl
theorem z4D (σ:zab)(m:Nat)(s:List UInt8):finT σ m (.str s)=fin1 σ m (.str s):=rfl
theorem z8e (σ:zab)(m:Nat)(k:FloatKind)(b:Nat):fin σ m (.flt k b)=fin1 σ m (.flt k b):=rfl
theorem z4H (σ:zab)(m:Nat)(k:FloatKind)(b:Nat):finT σ m (.flt k b)=fin1 σ m (.flt k b):=rfl
theorem z5F (σ:zab)(m:Nat):fin σ m (.nilp)=fin1 σ m (.nilp):=rfl
theorem z3p (σ:zab)(m:Nat):finT σ m (.nilp)=fin1 σ m (.nilp):=rfl
theorem z40 (σ:zab)(m:Nat)(c:List AV):fin σ m (.rptr c)=fin1 σ m (.rptr c):=rfl
theorem z0G (σ:zab)(m:Nat)(c:List AV):finT σ m (.rptr c)=fin1 σ m (.rptr c):=rfl
theorem z7S (σ:zab)(m:Nat)(l:List (List AV)):fin σ m (.lst l)=fin1 σ m (.lst l):=rfl
theorem z5w (σ:zab)(m:Nat)(l:List (List AV)):finT σ m (.lst l)=fin1 σ m (.lst l):=rfl
theorem z4t (σ:zab)(m:Nat):fin σ m (.nilm)=fin1 σ m (.nilm):=rfl
theorem z1d (σ:zab)(m:Nat):finT σ m (.nilm)=fin1 σ m (.nilm):=rfl
theorem z5Z (σ:zab)(m:Nat):fin σ m (.nilf)=fin1 σ m (.nilf):=rfl
theorem z3v (σ:zab)(m:Nat):finT σ m (.nilf)=fin1 σ m (.nilf):=rfl
theorem z5x (σ:zab)(m:Nat):fin σ m (.nili)=fin1 σ m (.nili):=rfl
theorem z3n (σ:zab)(m:Nat):finT σ m (.nili)=fin1 σ m (.nili):=rfl
theorem z4x (σ:zab)(m:Nat):fin σ m (.nils)=fin1 σ m (.nils):=rfl
theorem z1X (σ:zab)(m:Nat):finT σ m (.nils)=fin1 σ m (.nils):=rfl
theorem z8N (σ:zab)(m:Nat)(i n:Nat):fin σ m (.row i n)=fin1 σ m (.row i n):=rfl
theorem z5u (σ:zab)(m:Nat)(i n:Nat):finT σ m (.row i n)=fin1 σ m (.row i n):=rfl
theorem z9r (σ:zab)(m:Nat)(i o:Nat):fin σ m (.ptr i o)=fin1 σ m (.ptr i o):=rfl
theorem z43 (σ:zab)(m:Nat)(i o:Nat):finT σ m (.ptr i o)=fin1 σ m (.ptr i o):=rfl
theorem z2o (σ:zab)(m:Nat)(t:TypeId)(v:AV):fin σ m (.iface t v)=fin1 σ m (.iface t v):=rfl
theorem zyP (σ:zab)(m:Nat)(t:TypeId)(v:AV):finT σ m (.iface t v)=fin1 σ m (.iface t v):=rfl
theorem zAf (σ:zab)(m:Nat)(g:Fn)(a b:List AV):fin σ m (.fn g a b)=fin1 σ m (.fn g a b):=rfl
theorem z8M (σ:zab)(m:Nat)(g:Fn)(a b:List AV):finT σ m (.fn g a b)=fin1 σ m (.fn g a b):=rfl
theorem z94 (σ:zab)(m:Nat)(i o:Nat):fin σ m (.gp i o)=fin1 σ m (.gp i o):=rfl
theorem z89 (σ:zab)(m:Nat)(i o:Nat):finT σ m (.gp i o)=fin1 σ m (.gp i o):=rfl
theorem z8P (σ:zab)(m:Nat)(i:Nat):fin σ m (.map i)=fin1 σ m (.map i):=rfl
theorem z4K (σ:zab)(m:Nat)(i:Nat):finT σ m (.map i)=fin1 σ m (.map i):=rfl
theorem z8b (σ:zab)(m:Nat)(i n s l h:Nat):fin σ m (.sub i n s l h)=fin1 σ m (.sub i n s l h):=rfl
theorem z5f (σ:zab)(m:Nat)(i n s l h:Nat):finT σ m (.sub i n s l h)=fin1 σ m (.sub i n s l h):=rfl
attribute [simp] z94 z89 z8P z4K z8b z5f
theorem z7R (σ:zab)(m:Nat)(l:List AV):fin σ m (.agg l)=(finL σ m l).map .agg:=rfl
theorem z5H (σ:zab)(m:Nat)(l:List AV):finT σ m (.agg l)=(finL σ m l).map .agg:=rfl
theorem z9v (σ:zab)(m:Nat)(l:List AV):fin σ m (.tup l)=(l.mapM (finT σ m)).map .tup:=rfl
attribute [simp] z88 z6c z5Y z1T z7f z4D z8e z4H z5F z3p z40 z0G z7S z5w z4t z1d z5Z z3v z5x z3n z4x z1X z8N z5u z9r z43 z2o zyP zAf z8M z7R z5H z9v
attribute [simp ↓] zz8 zw8 ztU zBg z8U zAg zAt z9O zAh zAx z7u z9I z6r z6i z7Z z5c z5q z6m z4W z8q z9t z8V z9W z8x z9S zAG z8a z8F z4X z9y z4g z6d z9B z6x z5l z97 z7m zBu z0o z6k z7M z9G z7L z95 z9A zA9 zwT zt8
 z62 z7T z8u z4L zuq z67 z8f z6s zwI zvv z2Q z4c zq9 zpl zwc zvb z3D zvG
attribute [simp] zta ziq zhE zhN zoL zaO zaZ zbQ zax zc9 zsS zlh zoD zhl zya zdt z07 z2L z2T z1m zbP Entry.isItr
attribute [simp] z8i z9n z72 z4A zBa zAO zAJ zAD gd_u za1 abin zxA zbz zgg zwZ zh2 zfo zrx za5 finL fz AV.under AV.els z82 zlT AV.pure eq1 zi5 zeo z8E zw9 splice share zeZ zyd z8I zbc lay rig
end Go.Abs
end
section
namespace Go.Abs
open Go.RowKit
variable {G:Globs}
section
variable {P:Program}
def z6I [Globs](P:Program)(g:FuncId)(args:List AV)(σ:zab)(K:zab->Prop):Prop:=
 ∀base κ Im w vs,SRel base κ Im σ w->VRL κ Im w args vs->CallsD P g vs.toArray .returning w λe u' w'=>
  u'=.returning/\∃v σ' κ' Im',e=.returned v/\K σ'/\SRel base κ' Im' σ' w'/\Grow base κ Im w κ' Im' w'
def z9u (P:Program)(N:Nat)(loud:List FuncId):Code->Option (List AIns×Nat)
 | .region _ ops false=>match ops.toList.reverse with
  |o::rest=>match o.op,o.guard,o.dst with
   | .defer c,none,none=>match c.callee with
    | .value (.tmp t)=>if c.args.size=0 then some (rest.reverse.map (λo=>zjG loud (zcV P N ops o)),t)else none
    |_=>none
   |_,_,_=>none
  | []=>none
 |_=>none
structure ADef where
 pre:ACode
 ins:List AIns
 t:Nat
 post:ACode
def zos (P:Program)(N:Nat)(loud:List FuncId):Code->Option ADef
 | .seq a b=>match z9u P N loud a with
  |some (l,t)=>some ⟨.skip,l,t,comp P N loud b⟩
  |none=>(zos P N loud b).map λd=>{d with pre:=.seq (comp P N loud a) d.pre}
 |_=>none
structure AFuncD where
 n:Nat
 res:List (Nat×Option (Bool×Nat))
 code:ADef
def zBy [Globs](P:Program)(g:FuncId)(cap:List AV)(σ₀:zab)(R:AV->zab->Prop)(res:List (Nat×Option (Bool×Nat))):AExit->Frame->zab->Prop
 | .exit _,_,_=>False
 |_,f,σ=>z6I P g cap σ (zxC σ₀ R res f)
def DMid [Globs](P:Program)(d:ADef)(σ₀:zab)(R:AV->zab->Prop)(res:List (Nat×Option (Bool×Nat)))(f:Frame)(σ:zab):Prop:=
 ∃g cap,f d.t=.fn (.func g) [] cap/\zaE P g=true/\awp P d.post (zBy P g cap σ₀ R res) f σ
end
end Go.Abs
end
section
namespace Go.Abs
open Go.RowKit
variable {G:Globs}
theorem wrap_i64 {x:Int}(h1: -9223372036854775808≤x)(h2:x≤9223372036854775807):IntKind.wrap .i64 x=x:=by
 simp[IntKind.wrap,IntKind.signed,IntKind.bits];omega
def nl (K:AV->zab->Prop)(_:Tg K)(σ:zab)(neg:Bool)(v:AV):Prop:=match v with
 | .lst []=>∀b:Bool,K (.bool b) σ
 |v=>∃b,zhE 3 v=some b/\K (.bool (if neg then !b else b)) σ
theorem z99 {P:Program}{K:AV->zab->Prop}{f:Frame}{σ:zab}(neg:Bool)(x:Opd):zaw P K f σ (.nlc neg x)=nl K (.mk _) σ neg (x.ev f):=rfl
attribute [simp ↓] z99
theorem z9k {K:AV->zab->Prop}{t:Tg K}{σ:zab}{neg:Bool}:nl K t σ neg .nils=K (.bool (if neg then false else true)) σ:=by
 simp[nl,zhE]
theorem z0P {K:AV->zab->Prop}{t:Tg K}{σ:zab}{neg:Bool}{c:List AV}{l:List (List AV)}:nl K t σ neg (.lst (c::l))=K (.bool (if neg then true else false)) σ:=by
 simp[nl,zhE]
theorem zqK {K:AV->zab->Prop}{t:Tg K}{σ:zab}{neg:Bool}{l:List (List AV)}(h:∀b:Bool,(l≠ []->b=neg)->K (.bool b) σ):nl K t σ neg (.lst l):=by
 cases l with
 |nil=>exact λb=>h b (by simp)
 |cons c l=>rw[z0P];exact h _ (λ_=>by cases neg<;>rfl)
attribute [simp] z9k z0P
def cv [Globs](P:Program)(K:AV->zab->Prop)(_:Tg K)(σ:zab)(x:AV)(args:List AV):Prop:=match x with
 | .fn (.func g) first captured=>zaE P g=true/\zsR P σ K g (first++args++captured)
 |_=>False
def qv [Globs](P:Program)(K:AV->zab->Prop)(_:Tg K)(σ:zab)(x:AV)(args:List AV):Prop:=match x with
 | .fn (.func g) first captured=>zaE P g=true/\zuR P σ K g (first++args++captured)
 |_=>False
theorem z4v {P:Program}{K:AV->zab->Prop}{f:Frame}{σ:zab}(x:Opd)(args:List Opd):zaw P K f σ (.callv x args)=cv P K (.mk _) σ (x.ev f) (args.map (·.ev f)):=rfl
theorem z3F {P:Program}{K:AV->zab->Prop}{f:Frame}{σ:zab}(x:Opd)(args:List Opd):zaw P K f σ (.qcallv x args)=qv P K (.mk _) σ (x.ev f) (args.map (·.ev f)):=rfl
theorem zqV {P:Program}{K:AV->zab->Prop}{t:Tg K}{σ:zab}{g:FuncId}{first captured args:List AV}(hb:zaE P g=true)(h:ac P K t σ g (first++args++captured)):cv P K t σ (.fn (.func g) first captured) args:=⟨hb,h⟩
attribute [simp ↓] z4v z3F
def lb [Globs](P:Program)(I:Nat->Frame->zab->Prop)(_:Tg I)(c:ACode)(_:Tg c)(Q:AExit->Frame->zab->Prop)(_:Tg Q):Prop:=
 ∀n f σ,I n f σ->awp P c (AExit.then (λf' σ'=>∃n',n'<n/\I n' f' σ') Q) f σ
theorem zyH {P:Program}{c:ACode}{tc:Tg c}{Q:AExit->Frame->zab->Prop}{tq:Tg Q}{f:Frame}{tf:Tg f}{σ:zab}{ts:Tg σ}(I:Nat->Frame->zab->Prop)(n:Nat)(h0:I n f σ)(hr:lb P I (.mk _) c tc Q tq):lp P c tc Q tq f tf σ ts:=⟨I,n,h0,hr⟩
def nx (n:Nat)(I:Nat->Frame->zab->Prop)(_:Tg I)(f:Frame)(_:Tg f)(σ:zab):Prop:=∃n',n'<n/\I n' f σ
def lbx [Globs](P:Program)(I:Nat->Frame->zab->Prop)(tI:Tg I)(c:ACode)(_:Tg c)(Q:AExit->Frame->zab->Prop)(_:Tg Q):Prop:=
 ∀n f σ,I n f σ->awp P c (AExit.then (λf' σ'=>nx n I tI f' (.mk f') σ') Q) f σ
theorem zag {P:Program}{c:ACode}{tc:Tg c}{Q:AExit->Frame->zab->Prop}{tq:Tg Q}{f:Frame}{tf:Tg f}{σ:zab}{ts:Tg σ}(I:Nat->Frame->zab->Prop)(n:Nat)(h0:I n f σ)(hr:lbx P I (.mk _) c tc Q tq):lp P c tc Q tq f tf σ ts:=⟨I,n,h0,hr⟩
theorem zad {n:Nat}{I:Nat->Frame->zab->Prop}{tI:Tg I}{f:Frame}{tf:Tg f}{σ:zab}(m:Nat)(hm:m<n)(h:I m f σ):nx n I tI f tf σ:=⟨m,hm,h⟩
def jn (J:Frame->zab->Prop)(_:Tg J)(f:Frame)(_:Tg f)(σ:zab):Prop:=J f σ
def z2z (id:Nat)(J:Frame->zab->Prop)(tJ:Tg J)(Q:AExit->Frame->zab->Prop):AExit->Frame->zab->Prop
 | .exit id',f,σ=>if id'=id then jn J tJ f (.mk f) σ else Q (.exit id') f σ
 | .normal,f,σ=>Q .normal f σ
 | .ret,f,σ=>Q .ret f σ
theorem zzB {id id':Nat}{J:Frame->zab->Prop}{tJ:Tg J}{Q:AExit->Frame->zab->Prop}{f:Frame}{σ:zab}:z2z id J tJ Q (.exit id') f σ=if id'=id then jn J tJ f (.mk f) σ else Q (.exit id') f σ:=rfl
theorem z3I {id:Nat}{J:Frame->zab->Prop}{tJ:Tg J}{Q:AExit->Frame->zab->Prop}{f:Frame}{σ:zab}:z2z id J tJ Q .ret f σ=Q .ret f σ:=rfl
theorem zvg {id:Nat}{J:Frame->zab->Prop}{tJ:Tg J}{Q:AExit->Frame->zab->Prop}{f:Frame}{σ:zab}:z2z id J tJ Q .normal f σ=Q .normal f σ:=rfl
attribute [simp ↓] zzB z3I zvg
theorem zg3 {J:Frame->zab->Prop}{tJ:Tg J}{f:Frame}{tf:Tg f}{σ:zab}(h:J f σ):jn J tJ f tf σ:=h
theorem z04 {P:Program}{c:ACode}{tc:Tg c}{Q:AExit->Frame->zab->Prop}{tq:Tg Q}{f:Frame}{tf:Tg f}{σ:zab}{ts:Tg σ}(id:Nat)(J:Frame->zab->Prop)(hJ:∀f σ,J f σ->Q (.exit id) f σ)(h:lp P c tc (z2z id J (.mk _) Q) (.mk _) f tf σ ts):lp P c tc Q tq f tf σ ts:=by
 refine zd6 (c:=.loop c) (λe f σ a=> ?_) h
 cases e with
 |exit d=>
  simp only[z2z]at a
  split at a
  ·rename_i b;subst b;exact hJ _ _ a
  ·exact a
 |normal=>exact a
 |ret=>exact a
@[simp] theorem zBs (x y:Int):(x==y)=decide (x=y):=rfl
@[simp] theorem zBn (x y:Int):(x !=y)= !decide (x=y):=rfl
def er [Globs](σ₀:zab)(R:AV->zab->Prop)(_:Tg R)(res:List (Nat×Option (Bool×Nat)))(f:Frame)(_:Tg f)(σ:zab):Prop:=zxC σ₀ R res f σ
def z8m [Globs](σ₀:zab)(R:AV->zab->Prop)(_:Tg R)(res:List (Nat×Option (Bool×Nat))):AExit->Frame->zab->Prop
 | .exit _,_,_=>False
 |_,f,σ=>zxC σ₀ R res f σ
theorem z3L {σ₀:zab}{R:AV->zab->Prop}{t:Tg R}{res:List (Nat×Option (Bool×Nat))}{f:Frame}{σ:zab}:z8m σ₀ R t res .ret f σ=er σ₀ R t res f (.mk _) σ:=rfl
theorem zv7 {σ₀:zab}{R:AV->zab->Prop}{t:Tg R}{res:List (Nat×Option (Bool×Nat))}{f:Frame}{σ:zab}:z8m σ₀ R t res .normal f σ=er σ₀ R t res f (.mk _) σ:=rfl
attribute [simp ↓] z3L zv7
theorem zaf {P:Program}(hm:P.follows .mixedOrders=true){loud:List FuncId}{g:FuncId}{af:AFunc}{args:List AV}{σ₀:zab}{R:AV->zab->Prop}(hf:zae P loud g=some af)(hargs:decide (args.length≤af.n)=true)
  (h:awp P af.code (z8m σ₀ R (.mk _) af.res) (zwZ args) σ₀):ACalls P g args σ₀ R:=
 zlE hm hf (of_decide_eq_true hargs) (zd6 (λe f σ a=>by cases e<;>exact a) h)
def z9h [Globs](m:Nat)(σ:zab)(f:Frame)(res:List (Nat×Option (Bool×Nat))):Option AV:=(res.mapM (zfo σ f)).bind λrs=>fin σ m (za5 rs)
theorem z6v {σ₀:zab}{R:AV->zab->Prop}{t:Tg R}{res:List (Nat×Option (Bool×Nat))}{f:Frame}{tf:Tg f}{σ:zab}(s1:zab)(r:AV)(hr:z9h σ₀.length σ f res=some r)(extra:zab)(hσ:σ=s1++extra)(hlen:s1.length=σ₀.length)
  (hu:∀(id:Nat) (e:Entry),s1[id]? =some e->σ₀[id]? =some e∨e.under σ₀.length=true) (hR:R r s1):er σ₀ R t res f tf σ:=by
 unfold z9h at hr
 simp only[yad]at hr
 obtain⟨b,c,d⟩:=hr
 refine⟨b,r,σ₀.length,c,.inl d,yap _,λid e g a=> ?_, ?_⟩
 ·subst hσ
  rw[yam (by omega)]at a
  exact hu id e a
 ·subst hσ
  rw[ycq (by omega),yao (by omega)]
  exact hR
theorem zav {σ₀:zab}{R:AV->zab->Prop}{t:Tg R}{res:List (Nat×Option (Bool×Nat))}{f:Frame}{tf:Tg f}{σ:zab}(s1:zab)(r:AV)(hr:(res.mapM (zfo σ f)).map za5=some r)(extra:zab)(hσ:σ=s1++extra)(hlen:σ₀.length≤s1.length)(hru:r.under s1.length=true)
  (hu:∀(id:Nat) (e:Entry),s1[id]? =some e->σ₀[id]? =some e∨e.under s1.length=true) (hR:R r s1):er σ₀ R t res f tf σ:=by
 simp only[yaf]at hr
 obtain⟨b,c,rfl⟩:=hr
 refine⟨b,_,s1.length,c,.inr ⟨rfl,hru⟩,hlen,λid e d a=> ?_, ?_⟩
 ·subst hσ
  rw[yam (by omega)]at a
  exact hu id e a
 ·subst hσ
  rw[ycq (by omega),yao (by omega)]
  exact hR
theorem zuI {σ:zab}{e0:Entry}{R:AV->zab->Prop}{t:Tg R}{res:List (Nat×Option (Bool×Nat))}{f:Frame}{tf:Tg f}{σ':zab}(id:Nat)(e:Entry)(r:AV)(extra:zab)(hr:z9h σ.length σ' f res=some r)(hσ:σ'=σ.set id e++extra)
  (hu:e.under σ.length=true) (hR:R r (σ.set id e)):er (σ.set id e0) R t res f tf σ':=by
 refine z6v (σ.set id e) r (by simpa using hr) extra hσ (by simp) (λi x a=> ?_) hR
 by_cases c:i=id
 ·subst c
  by_cases b:i<σ.length
  ·rw[ybm b]at a
   simp only[yab]at a
   subst a
   exact .inr (by simpa using hu)
  ·rw[ybx (by simp;omega)]at a;cases a
 ·rw[yai (λh=>c h.symm)]at a⊢
  exact .inl a
def edp [Globs](P:Program)(g:FuncId)(cap:List AV)(σ₀:zab)(R:AV->zab->Prop)(_:Tg R)(res:List (Nat×Option (Bool×Nat)))(f:Frame)(_:Tg f)(σ:zab):Prop:=z6I P g cap σ (zxC σ₀ R res f)
def z6L [Globs](P:Program)(g:FuncId)(cap:List AV)(σ₀:zab)(R:AV->zab->Prop)(t:Tg R)(res:List (Nat×Option (Bool×Nat))):AExit->Frame->zab->Prop
 | .exit _,_,_=>False
 |_,f,σ=>edp P g cap σ₀ R t res f (.mk f) σ
theorem zzW {P:Program}{g:FuncId}{cap:List AV}{σ₀:zab}{R:AV->zab->Prop}{t:Tg R}{res:List (Nat×Option (Bool×Nat))}{f:Frame}{σ:zab}:z6L P g cap σ₀ R t res .ret f σ=edp P g cap σ₀ R t res f (.mk _) σ:=rfl
theorem zsx {P:Program}{g:FuncId}{cap:List AV}{σ₀:zab}{R:AV->zab->Prop}{t:Tg R}{res:List (Nat×Option (Bool×Nat))}{f:Frame}{σ:zab}:z6L P g cap σ₀ R t res .normal f σ=edp P g cap σ₀ R t res f (.mk _) σ:=rfl
def edm [Globs](P:Program)(d:ADef)(_:Tg d)(σ₀:zab)(R:AV->zab->Prop)(_:Tg R)(res:List (Nat×Option (Bool×Nat)))(f:Frame)(_:Tg f)(σ:zab):Prop:=DMid P d σ₀ R res f σ
def zAI [Globs](P:Program)(d:ADef)(td:Tg d)(σ₀:zab)(R:AV->zab->Prop)(t:Tg R)(res:List (Nat×Option (Bool×Nat))):AExit->Frame->zab->Prop
 | .exit _,_,_=>False
 | .ret,f,σ=>er σ₀ R t res f (.mk f) σ
 | .normal,f,σ=>zdb P (λf σ=>edm P d td σ₀ R t res f (.mk f) σ) d.ins f σ
theorem zuB {P:Program}{d:ADef}{td:Tg d}{σ₀:zab}{R:AV->zab->Prop}{t:Tg R}{res:List (Nat×Option (Bool×Nat))}{f:Frame}{σ:zab}:
  zAI P d td σ₀ R t res .normal f σ=zdb P (λf σ=>edm P d td σ₀ R t res f (.mk f) σ) d.ins f σ:=rfl
attribute [simp ↓] zzW zsx zuB
def rowV (id:Nat)(l:List (List AV)):AV:=if l= []then .nils else .row id l.length
theorem z69 (σ:zab)(m id:Nat)(l:List (List AV)):fin σ m (rowV id l)=fin1 σ m (rowV id l):=by
 unfold rowV;split<;>rfl
theorem z3j (σ:zab)(m id:Nat)(l:List (List AV)):finT σ m (rowV id l)=fin1 σ m (rowV id l):=by
 unfold rowV;split<;>rfl
theorem z4q (id:Nat)(l:List (List AV)):(rowV id l).one=true:=by
 unfold rowV;split<;>rfl
theorem z0a (id:Nat)(l:List (List AV)):(rowV id l).cells= [rowV id l]:=by
 unfold rowV;split<;>rfl
attribute [simp high] z4q z0a z69 z3j
def ms (K:AV->zab->Prop)(_:Tg K)(σ:zab)(e size bytes:Nat)(zero:List AV)(len cap:AV):Prop:=∃n c,zh2 len=some n/\zh2 cap=some c/\n≤c/\c*bytes≤140737488355328/\c≤9223372036854775807/\0<size/\zero.length=size/\
 K (.row σ.length n) (σ++ [.row e size (List.replicate n zero) false])
def cp (K:AV->zab->Prop)(_:Tg K)(σ:zab)(size:Nat)(x y:AV):Prop:=∃m k σ',view σ y=some m/\(∀c∈m,c.length=size)/\0<size/\zvW σ size m x=some (σ',k)/\K (.int .i64 (k:Nat)) σ'
theorem zA5 {P:Program}{K:AV->zab->Prop}{f:Frame}{σ:zab}(size:Nat)(x y:Opd):zaw P K f σ (.ex (.cpy size x y))=cp K (.mk _) σ size (x.ev f) (y.ev f):=by
 apply propext
 constructor
 ·rintro⟨r,σ',⟨m,k,a,b,c,d,rfl⟩,e⟩
  exact⟨m,k,σ',a,b,c,d,e⟩
 ·rintro⟨m,k,σ',a,b,c,d,e⟩
  exact⟨_,σ',⟨m,k,a,b,c,d,rfl⟩,e⟩
attribute [simp ↓] zA5
theorem zxK {K:AV->zab->Prop}{t:Tg K}{σ σ':zab}{size:Nat}{x y:AV}(m:List (List AV))(k:Nat)(h1:view σ y=some m)(h2:∀c∈m,c.length=size)(h3:0<size)(h4:zvW σ size m x=some (σ',k))(h5:K (.int .i64 (k:Nat)) σ'):cp K t σ size x y:=⟨m,k,σ',h1,h2,h3,h4,h5⟩
theorem zzU {P:Program}{K:AV->zab->Prop}{f:Frame}{σ:zab}(e size bytes:Nat)(zero:List AV)(len cap:Opd):zaw P K f σ (.mkslice e size bytes zero len cap)=ms K (.mk _) σ e size bytes zero (len.ev f) (cap.ev f):=rfl
attribute [simp ↓] zzU
theorem zsL {K:AV->zab->Prop}{t:Tg K}{σ:zab}{e size bytes:Nat}{zero:List AV}{k k':IntKind}{x y:Int}(n:Nat)(hx:x=n)(hy:y=n)(hb:n*bytes≤140737488355328)(h63:n≤9223372036854775807)(hs:0<size)(hz:zero.length=size)
  (hK:K (.row σ.length n) (σ++ [.row e size (List.replicate n zero) false])):ms K t σ e size bytes zero (.int k x) (.int k' y):=by
 subst hx;subst hy
 exact⟨n,n,by simp[zh2],by simp[zh2],yap _,hb,h63,hs,hz,hK⟩
theorem z3d {P:Program}{Q:AExit->Frame->zab->Prop}{f:Frame}{σ:zab}(h:Q .normal f σ):awp P .gh Q f σ:=.inl h
theorem z6T {P:Program}{Q:AExit->Frame->zab->Prop}{f:Frame}{σ σ':zab}(hz:Frz σ σ')(h:Q .normal f σ'):awp P .gh Q f σ:=.inr ⟨σ',hz,h⟩
theorem zf9 (m:Nat):∀{v:AV},v.pure=true->v.under m=true
 | .ptr ..,h| .row ..,h| .rowp ..,h| .map ..,h| .sub ..,h| .asl ..,h=>by simp[AV.pure]at h
 | .fn _ a b,h=>by
  simp only[AV.pure,yb6,ya1,yer,forall_const,Subtype.forall]at h
  simp only[AV.under,yb6,ya1,yer,forall_const,Subtype.forall]
  exact⟨λx c=>zf9 m (h.1 x c),λx c=>zf9 m (h.2 x c)⟩
 | .iface _ v,h=>by
  simp only[AV.pure]at h
  simp only[AV.under]
  exact zf9 m h
 | .agg l,h=>by
  simp only[AV.pure,ya1,yer,forall_const,Subtype.forall]at h
  simp only[AV.under,ya1,yer,forall_const,Subtype.forall]
  exact λx c=>zf9 m (h x c)
 | .tup l,h=>by
  simp only[AV.pure,ya1,yer,forall_const,Subtype.forall]at h
  simp only[AV.under,ya1,yer,forall_const,Subtype.forall]
  exact λx c=>zf9 m (h x c)
 | .junk,_| .int ..,_| .bool _,_| .str _,_| .flt ..,_| .nilp,_| .rptr _,_| .nils,_| .lst _,_| .nilm,_| .nilf,_| .nili,_| .any _,_| .gp ..,_| .tight _,_=>by simp[AV.under]
end Go.Abs
end
section
namespace Go.Abs
open Go.RowKit
variable {G:Globs}
theorem zpg {base:Nat}{κ:Key}{Im:Addr->Prop}{w w':World}(hs:SRel base κ Im [] w)(hb:Below w.heap.size w w'):SRel base κ Im [] w'/\Grow base κ Im w κ Im w':=by
 have b:∀a,Im a->w'.cell? a=w.cell? a:=λa c=>ya6 (hb.block _ (hs.imlt a c).1)
 exact⟨hs.world (λ_ h=>h) (λ_ h=> .inl h) hb.size hb.block,⟨λ_ _ _ h=>h,λ_ h=>h,b,λ_ h=> .inl h,hb.mono hs.hb⟩⟩
theorem z1q {P:Program}{f:FuncId}{a:AV}{R:AV->Prop}(h:∀base κ Im w v,SRel base κ Im [] w->VR κ Im w a v->Calls P f #[v] w λe w'=>∃r u,e=.returned u/\R r/\Below w.heap.size w w'/\∀Im',IR Im' w' r u):PCalls P f [a] R:=by
 intro base κ Im w c d g
 obtain⟨b,rfl⟩:∃b,c= [b]:=by
  match c,g.1 with
  | [a],_=>exact⟨a,rfl⟩
 refine(h base κ Im w b d (g.2 0 (by simp) (by simp))).mono ?_
 rintro e w' ⟨r,u,rfl,k,l,m⟩
 obtain⟨i,j⟩:=zpg d l
 exact⟨r,[],u,κ,Im,rfl,⟨rfl,k⟩,i,j,.im _ _ (m _)⟩
theorem zpN {P:Program}{f:FuncId}{a b:AV}{R:AV->Prop}(h:∀base κ Im w v u,SRel base κ Im [] w->VR κ Im w a v->VR κ Im w b u->Calls P f #[v,u] w λe w'=>∃r u,e=.returned u/\R r/\Below w.heap.size w w'/\∀Im',IR Im' w' r u):PCalls P f [a,b] R:=by
 intro base κ Im w i j g
 obtain⟨c,d,rfl⟩:∃c d,i= [c,d]:=by
  match i,g.1 with
  | [a,b],_=>exact⟨a,b,rfl⟩
 refine(h base κ Im w c d j (g.2 0 (by simp) (by simp)) (g.2 1 (by simp) (by simp))).mono ?_
 rintro e w' ⟨r,u,rfl,m,n,o⟩
 obtain⟨k,l⟩:=zpg j n
 exact⟨r,[],u,κ,Im,rfl,⟨rfl,m⟩,k,l,.im _ _ (o _)⟩
theorem z8j {P:Program}{f:FuncId}{a b c:AV}{R:AV->Prop}(h:∀base κ Im w v u x,SRel base κ Im [] w->VR κ Im w a v->VR κ Im w b u->VR κ Im w c x->Calls P f #[v,u,x] w λe w'=>∃r u,e=.returned u/\R r/\Below w.heap.size w w'/\∀Im',IR Im' w' r u):PCalls P f [a,b,c] R:=by
 intro base κ Im w k l d
 obtain⟨g,i,j,rfl⟩:∃g i j,k= [g,i,j]:=by
  match k,d.1 with
  | [a,b,c],_=>exact⟨a,b,c,rfl⟩
 refine(h base κ Im w g i j l (d.2 0 (by simp) (by simp)) (d.2 1 (by simp) (by simp)) (d.2 2 (by simp) (by simp))).mono ?_
 rintro e w' ⟨r,u,rfl,o,p,q⟩
 obtain⟨m,n⟩:=zpg l p
 exact⟨r,[],u,κ,Im,rfl,⟨rfl,o⟩,m,n,.im _ _ (q _)⟩
theorem z35 {base:Nat}{κ:Key}{Im:Addr->Prop}{σ:zab}{w:World}(hs:SRel base κ Im σ w){g:Nat}{cells:List AV}(hm:(g,cells)∈Globs.tab):∃vals:Nat->Value,(∀j,j<cells.length->w.cell? ⟨g,j,none⟩=some (vals j))/\∀j (h:j<cells.length),IR Im w (cells[j]) (vals j):=by
 obtain⟨_,_,h⟩:=hs.glob _ hm
 obtain⟨b,o,vals,a,_,c,d⟩:=(VR.im (κ:=κ) _ _ h).rptr_inv
 simp only[Value.pointer.injEq,yab,Addr.mk.injEq,and_true]at a
 obtain⟨rfl,rfl⟩:=a
 exact⟨vals,λj e=>by have:=(c j e).2;simpa using this,d⟩
end Go.Abs
end
