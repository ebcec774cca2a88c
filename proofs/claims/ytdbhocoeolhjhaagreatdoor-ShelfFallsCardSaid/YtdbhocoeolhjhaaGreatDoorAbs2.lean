import Derived.Test.YtdbhocoeolhjhaaGreatDoorAbs1b
set_option linter.unusedSimpArgs false
set_option linter.unusedVariables false
set_option linter.constructorNameAsVariable false
namespace Go.Abs
open Go.RowKit
variable {G:Globs}
section
variable {P:Program}{base:Nat}
theorem zpd {E:List (Nat×Nat)}{L:List AIns}{ops:Array Oper}:∀{l:List Nat},zm4 E L ops l=true↔l.Pairwise λj i=>zqL E L ops j i=true
 | []=>by simp[zm4]
 |j::l=>by simp[zm4,zpd]
theorem zkk {ops:Array Oper}{i k:Nat}{o:Oper}(ho:ops[i]? =some o):k∈zf7 ops i↔∃e∈o.after,Region.binds .any e=true/\e.on=k:=by
 unfold zf7;rw[ho];simp only[yar,ybf,Array.mem_toList_iff];constructor;.rintro⟨e,⟨a,b⟩,c⟩;exact⟨e,a,b,c⟩
 .rintro⟨e,a,b,c⟩;exact⟨e,⟨a,b⟩,c⟩
theorem zoS {E:List (Nat×Nat)}{ops:Array Oper}{listed:Array Bool}(hcl:∀i,listed.getD i false=true->∀k∈zv6 E ops i,listed.getD k false=true){j:Nat}:∀(n i:Nat),(∀k∈zv6 E ops i,listed.getD k false=true)->zkT E ops j n i=true->listed.getD j false=true
 |0,i,_,h=>by simp[zkT]at h
 |n+1,i,hi,h=>by
  simp only[zkT,List.any_eq_true,ydu,yee,decide_eq_true_eq]at h;rcases h with h|⟨k,a,h⟩
  .exact hi _ h
  .exact zoS hcl n k (hcl k (hi k a)) h
inductive Sched (ops:Array Oper):Nat->Array Bool->List Nat->Prop
 |zero (listed:Array Bool):Sched ops 0 listed []
 |stop (n:Nat) (listed:Array Bool) (h:Region.ready .any ops listed= []):Sched ops (n+1) listed []
 |step (n:Nat) (listed:Array Bool) (i:Nat) (l:List Nat) (h:i∈Region.ready .any ops listed) (hl:Sched ops n (listed.setIfInBounds i true) l):Sched ops (n+1) listed (i::l)
theorem z04 (ops:Array Oper):∀(fuel t:Nat) (listed:Array Bool),Sched ops fuel listed (Region.linearise.go .any ops fuel t listed [])
 |0,t,listed=>by simp only[Region.linearise.go,List.reverse_nil];exact .zero _
 |fuel+1,t,listed=>by
  simp only[Region.linearise.go];change Sched ops (fuel+1) listed (match (Region.ready .any ops listed)[t%(Region.ready .any ops listed).length]? with
   |some i=>Region.linearise.go .any ops fuel (t/(Region.ready .any ops listed).length) (listed.setIfInBounds i true) [i]
   |none=> [].reverse)
  cases c:(Region.ready .any ops listed)[t%(Region.ready .any ops listed).length]? with
  |none=>
   have a:Region.ready .any ops listed= []:=by
    cases e:Region.ready .any ops listed with
    |nil=>rfl
    |cons x d=>rw[e]at c;have b:t%(x::d).length<(x::d).length:=yb3 _ (by simp);simp at c;simp at b;omega
   exact .stop _ _ a
  |some i=>simp only[];rw[linearise_go_acc,List.reverse_singleton,List.singleton_append];exact .step _ _ _ _ (yad c) (z04 ops fuel _ _)
theorem zj5 {f:Nat×Nat->Bool}{x y:Nat}:∀{C:List (Nat×Nat)},(x,y)∈zgQ C (C.map f)->∃p∈C,(p=(x,y)/\f p=true)∨(p=(y,x)/\f p=false)
 | [],h=>by simp[zgQ]at h
 |p::C,h=>by
  simp only[yce,zgQ,ybe]at h;rcases h with h|h
  .cases a:f p with
   |true=>rw[a]at h;exact⟨p,by simp,.inl ⟨by simpa using h.symm,a⟩⟩
   |false=>rw[a]at h;simp only[ycr,if_false,Prod.mk.injEq]at h;exact⟨p,by simp,.inr ⟨by rw[h.1,h.2],a⟩⟩
  .obtain⟨q,b,h⟩:=zj5 h;exact⟨q,by simp[b],h⟩
theorem zk8 {l:List Nat}{j x:Nat}(h:j≠x):(x::l).idxOf j=l.idxOf j+1:=by
 rw[List.idxOf_cons];have:(x==j)=false:=by simp[Ne.symm h]
 rw[this];rfl
theorem zkr {l:List Nat}{j:Nat}:∀{d:List Nat},j∉d->(d++l).idxOf j=d.length+l.idxOf j
 | [],_=>by simp
 |x::d,h=>by simp only[ybe,not_or]at h;rw[ybp,zk8 h.1,zkr h.2];simp;omega
theorem zzg {C:List (Nat×Nat)}{l₀:List Nat}{x y:Nat}(hC:∀p∈C,p.1≠p.2)(h:(x,y)∈zgQ C (C.map λp=>decide (l₀.idxOf p.1<l₀.idxOf p.2))):x≠y/\l₀.idxOf x<=l₀.idxOf y:=by
 obtain⟨p,b,(⟨rfl,a⟩|⟨rfl,a⟩)⟩:=zj5 h;.simp only[decide_eq_true_eq]at a;exact⟨hC _ b,yey a⟩
 .simp only[decide_eq_false_iff_not]at a;exact⟨λh=>hC _ b h.symm,yep a⟩
theorem z1O {done rest:List Nat}{y:Nat}(h:y∈done):(done++rest).idxOf y<done.length:=by
 induction done with
 |nil=>cases h
 |cons a done c=>
  by_cases b:y=a;.subst b;simp[List.idxOf_cons]
  .rw[ybp,zk8 b,ybg];have:=c ((ybe.1 h).resolve_left b);omega
theorem z3y {C:List (Nat×Nat)}{l₀ done l':List Nat}{i x y:Nat}(hC:∀p∈C,p.1≠p.2)(hl0:l₀=done++i::l')(hidx:l₀.idxOf i=done.length)(h:(x,y)∈zgQ C (C.map λp=>decide (l₀.idxOf p.1<l₀.idxOf p.2)))(hy:y∈done∨y=i):x∈done:=by
 obtain⟨c,d⟩:=zzg hC h;have a:y∈done->l₀.idxOf y<done.length:=λh=>by rw[hl0];exact z1O h
 by_cases e:x∈done;.exact e
 exfalso;by_cases b:x=i
 .subst b;rw[hidx]at d;rcases hy with hy|hy
  .have:=a hy;omega
  .exact c hy.symm
 .have f:l₀.idxOf x=done.length+(l'.idxOf x+1):=by rw[hl0,zkr e,zk8 b]
  rcases hy with hy|hy;.have:=a hy;omega
  .subst hy;omega
theorem zhd:∀(l:List Bool),l∈zfv l.length
 | []=>by simp[zfv]
 |b::l=>by simp only[ybg,zfv,ydn];exact⟨l,zhd l,by cases b<;>simp⟩
theorem zAE {N:Nat}{ops:Array Oper}{loud:List FuncId}{D:List Deferred}{κ₀:Key}{Im₀:Addr->Prop}{w₀:World}{QA:Frame->zaa->Prop}{Q:Exit->Act->World->Prop}{C:List (Nat×Nat)}{l₀:List Nat}{L:List AIns}(hL:∀(i:Nat) (o:Oper),ops[i]? =some o->∃x,L[i]? =some x/\∀K f σ,zbf P K x f σ->zbf P K (zg0 loud (zkN loud (zdi P N ops o))) f σ)
  (hC:∀p∈C,p.1≠p.2) (hQ:∀f σ κ Im a w,QA f σ->St base κ₀ Im₀ w₀ N D f σ κ Im a w->Q .normal a w):∀(n:Nat) (l done rem:List Nat) (listed:Array Bool) (f:Frame) (σ:zaa) (κ:Key) (Im:Addr->Prop) (a:Act) (w:World),Sched ops n listed l->l₀=done++l->(∀j∈done,listed.getD j true=true)->(∀j,j∈done↔listed.getD j false=true)->rem.length=n->rem.Nodup->
  (∀i,i∈rem↔i<ops.size/\listed.getD i true=false)->listed.size=ops.size->(∀i,listed.getD i false=true->∀k∈zf7 ops i,listed.getD k false=true)->
  rem.Pairwise (λj i=>zqL (zgQ C (C.map λp=>decide (l₀.idxOf p.1<l₀.idxOf p.2))) L ops j i=true)->(∀i∈rem,z6j ops i=true)->
  zcZ P QA (rem.filterMap λi=>L[i]?) f σ->St base κ₀ Im₀ w₀ N D f σ κ Im a w->wpOps P ops Q l a w:=by
 intro n
 induction n with
 |zero=>intro l done rem listed f σ κ Im a w H I g R B S c m aa hp hd h y;have:rem= []:=yaq B;subst this;cases H;exact hQ f σ κ Im a w (by simpa[zcZ]using h) y
 |succ n ih=>
  intro l done rem listed f σ κ Im a w H I g R B S c m aa hp hd h y;cases H with
  |stop _ _ hr=>
   -- some operation is ready
   exfalso
   match rem,B with
   |j::rest,_=>
    have s:=(c j).1 (by simp);have E:j∈Region.ready .any ops listed:=by
     refine mem_ready.2 ⟨s.2,ops[j],yb6 s.1,λe Y Z=> ?_⟩;have v:e.on∈zf7 ops j:=(zkk (yb6 s.1)).2 ⟨e,Y,Z,rfl⟩;have ag:=hd j (by simp);unfold z6j at ag;have:=ya1.1 ag _ v;simp only[yb5,bne_iff_ne,ne_eq,decide_eq_true_eq]at this;have ah:e.on∉j::rest:=by
      intro t;rcases ybe.1 t with t|t
      .exact this.1 t
      .have A:=(yet.1 hp).1 _ t;unfold zqL at A;simp only[yb5,Bool.not_eq_true',yee,decide_eq_false_iff_not]at A;exact A.1.1 v
     have h0:¬(listed.getD e.on true=false):=λh0=>ah ((c _).2 ⟨this.2,h0⟩);have av:e.on<listed.size:=(by rw[m];exact this.2);simp only[ybj,yb6 av,Option.getD_some]at h0⊢;simpa using h0
    rw[hr]at E;cases E
  |step _ _ i l' hi ad=>
   obtain⟨ae,o,ho,W⟩:=mem_ready.1 hi;have J:i<ops.size:=(yba.1 ho).1;have aw:i∈rem:=(c i).2 ⟨J,ae⟩;have ai:l₀.idxOf i=done.length:=by
    have:i∉done:=λt=>by have:=g i t;rw[ae]at this;cases this
    rw[I,zkr this];simp
   have aj:∀j,j≠i->listed.getD j true=false->¬(l₀.idxOf j<=done.length):=by
    intro j u z au;have:j∉done:=λt=>by have:=g j t;rw[z]at this;cases this
    rw[I,zkr this,zk8 u]at au;omega
   obtain⟨d,b,rfl⟩:=List.append_of_mem aw;have ak:∀k∈zf7 ops i,listed.getD k false=true:=λk v=>by obtain⟨e,Y,Z,rfl⟩:=(zkk ho).1 v;exact W e Y Z
   obtain⟨X,af,ao⟩:=hL i o ho;have al:∀j∈d,j≠i:=λj s Y=>by subst Y;exact(yb7.1 S).2.2 j s j (by simp) rfl
   have ab:∀x∈d.filterMap (λi=>L[i]?),zqx x X=true:=by
    intro x hx;obtain⟨j,s,aq⟩:=List.mem_filterMap.1 hx;have z:=((c j).1 (by simp[s])).2;have A:=(ydk.1 hp).2.2 j s i (by simp);unfold zqL at A;simp only[yb5,ydu,yee,decide_eq_true_eq]at A;rcases A.2 with (O|O)|O
    .rw[aq,af]at O;exact O
    .exfalso;obtain⟨p,hp,(⟨rfl,Z⟩|⟨rfl,Z⟩)⟩:=zj5 O;.simp only[decide_eq_true_eq]at Z;exact aj j (al j s) z (by omega)
     .simp only[decide_eq_false_iff_not]at Z;exact aj j (al j s) z (by omega)
    .have T:∀q,(listed.getD q false=true∨q=i)->∀k∈zv6 (zgQ C (C.map λp=>decide (l₀.idxOf p.1<l₀.idxOf p.2))) ops q,listed.getD k false=true:=by
      intro q F k v;simp only[zv6,yai,yar,ybf,beq_iff_eq]at v;rcases v with v|⟨⟨k',q'⟩,⟨Y,rfl⟩,rfl⟩
      .rcases F with F|rfl;.exact aa q F k v
       .exact ak k v
      .refine(R _).1 (z3y hC I ai Y ?_);rcases F with F|F
       .exact .inl ((R _).2 F)
       .exact .inr F
     have am:=zoS (λq F=>T q (.inl F)) _ i (T i (.inr rfl)) O;have ax:j<listed.size:=(by rw[m];exact((c j).1 (by simp[s])).1);simp only[ybj,yb6 ax,Option.getD_some]at am z;rw[am]at z;cases z
   have ay:(d++i::b).filterMap (λi=>L[i]?)=d.filterMap (λi=>L[i]?)++X::b.filterMap (λi=>L[i]?):=(by rw[List.filterMap_append,List.filterMap_cons,af]);rw[ay]at h;have U:=zz3 _ f σ ab h;rw[<-List.filterMap_append]at U;have az:i∉d++b:=by
    have:=(yb7.1 S);intro t;rcases yai.1 t with t|t
    .exact this.2.2 i t i (by simp) rfl
    .exact(yef.1 this.2.1).1 t
   have M:(d++b).Sublist (d++i::b):=List.Sublist.append_left (List.sublist_cons_self i b) d;have r:=z9H (Q:=Q) (next:=wpOps P ops Q l') y.st y.fr y.sz (.inl (ao _ _ _ U)) (λf' σ' κ' ar a' w' hK O h2 h3 h4 h5=>by
    refine ih l' (done++ [i]) (d++b) _ f' σ' κ' ar a' w' ad (by rw[I];simp) (λj s=> ?_) (λj=> ?_) (by simp at B⊢;omega) (S.sublist M) (λk=> ?_) (by simp[m]) (λk v q F=> ?_) (hp.sublist M) (λk v=>hd k (M.subset v)) hK ⟨O,h2,h3.trans y.df,h4,y.gr.trans h5⟩
    .rcases yai.1 s with s|s
     .by_cases u:j=i;.subst u;simp[m,J]
      .have e:(listed.setIfInBounds i true).getD j true=listed.getD j true:=(by simp only[ybj];rw[ycb (Ne.symm u)]);rw[e];exact g j s
     .have:j=i:=(by simpa using s);subst this;simp[m,J]
    .by_cases u:j=i;.subst u;simp[m,J]
     .have e:(listed.setIfInBounds i true).getD j false=listed.getD j false:=(by simp only[ybj];rw[ycb (Ne.symm u)]);rw[e,<-R j];simp[u]
    .by_cases G:k=i
     .subst G;constructor;.intro t;exact absurd t az
      .rintro⟨O,h2⟩;simp[m,O]at h2
     .have e:(listed.setIfInBounds i true).getD k true=listed.getD k true:=(by simp only[ybj];rw[ycb (Ne.symm G)]);rw[e,<-c k];simp[G]
    .by_cases an:q=i;.subst an;simp[m,J]
     .have e:(listed.setIfInBounds i true).getD q false=listed.getD q false:=(by simp only[ybj];rw[ycb (Ne.symm an)]);rw[e];by_cases G:k=i;.subst G;exact ak q F
      .have e2:(listed.setIfInBounds i true).getD k false=listed.getD k false:=(by simp only[ybj];rw[ycb (Ne.symm G)]);rw[e2]at v;exact aa k v q F)
   simp only[wpOps,ho];split;.rename_i hw;rw[if_pos hw]at r;exact .inl r
   .rename_i hw;rw[if_neg hw]at r;exact r
theorem St.drawn {κ₀:Key}{Im₀:Addr->Prop}{w₀:World}{N:Nat}{D:List Deferred}{f:Frame}{σ:zaa}{κ:Key}{Im:Addr->Prop}{a:Act}{w:World}(h:St base κ₀ Im₀ w₀ N D f σ κ Im a w):St base κ₀ Im₀ w₀ N D f σ κ Im a {w with drawn:=w.drawn+1}:=by have b:Grow base κ Im w κ Im {w with drawn:=w.drawn+1}:=⟨λ_ _ _ h=>h,λ_ h=>h,λ_ _=>rfl,λ_ h=> .inl h,⟨rfl,rfl,rfl,yaf _,λ_ _=>rfl⟩⟩;exact⟨h.fr.grow b,h.sz,h.df,h.st.world (λ_ h=>h) (λ_ h=> .inl h) (yaf _) (λ_ _=>rfl),h.gr.trans b⟩
def RegPre (P:Program)(ops:Array Oper)(draw:Bool)(Q:Exit->Act->World->Prop)(a:Act)(w:World):Prop:=match draw with
 |false=>wpOps P ops Q (List.range ops.size) a w
 |true=>∀t,wpOps P ops Q (Region.schedule (P.follows .mixedOrders) ops t) a {w with drawn:=w.drawn+1}
theorem RegPre.wp {id:Nat}{ops:Array Oper}{draw:Bool}{Q:Exit->Act->World->Prop}{a:Act}{w:World}(h:RegPre P ops draw Q a w):(Code.region id ops draw).wp P Q a w:=by
 cases draw with
 |false=>exact wp_region h
 |true=>exact wp_region_draw h
theorem RegPre.of_list {ops:Array Oper}{Q:Exit->Act->World->Prop}{a:Act}{w:World}(h:wpList P ops Q ops.toList a w):RegPre P ops false Q a w:=by show wpOps P ops Q (List.range ops.size) a w;rw[List.range_eq_range',<-ya4,wpOps_eq_wpList ops.toList 0 (by simp)];exact h
theorem zyU (hm:P.follows .mixedOrders=true){N:Nat}{loud:List FuncId}{ops:Array Oper}{D:List Deferred}{κ₀:Key}{Im₀:Addr->Prop}{w₀:World}{QA:AExit->Frame->zaa->Prop}{Q:Exit->Act->World->Prop}{f:Frame}{σ:zaa}{κ:Key}{Im:Addr->Prop}{a:Act}{w:World}
  (hQ:∀f σ κ Im a w,QA .normal f σ->St base κ₀ Im₀ w₀ N D f σ κ Im a w->Q .normal a w) {L:List AIns} (hL:∀(i:Nat) (o:Oper),ops[i]? =some o->∃x,L[i]? =some x/\∀K f σ,zbf P K x f σ->zbf P K (zg0 loud (zkN loud (zdi P N ops o))) f σ)
  {C:List (Nat×Nat)} (hC:∀p∈C,p.1≠p.2) {orders:List (List Nat)} (hcov:∀l:List Nat,Sched ops ops.size (Array.replicate ops.size false) l->∃order∈orders,zqR L ops (zgQ C (C.map λp=>decide (l.idxOf p.1<l.idxOf p.2)))=some order)
  (hall:∀order∈orders,zcZ P (QA .normal) (order.filterMap λi=>L[i]?) f σ) (hst:St base κ₀ Im₀ w₀ N D f σ κ Im a w):RegPre P ops true Q a w:=by
 intro t;simp only[Region.schedule,hm,Bool.true_or,if_true];have c:=z04 ops ops.size t (Array.replicate ops.size false);change wpOps P ops Q (Region.linearise.go .any ops ops.size t (Array.replicate ops.size false) []) a _;generalize Region.linearise.go .any ops ops.size t (Array.replicate ops.size false) []=l at c⊢;obtain⟨order,n,b⟩:=hcov l c;unfold zqR at b;rw[zhF,zhF]at b;have g:=hall _ n;unfold ztj at b;split at b
 case isFalse=>cases b
 rename_i m;simp only[yab]at b;rw[b]at m;obtain⟨q,r,s,k,u⟩:=m;have h:(Array.replicate ops.size false).size=ops.size:=by simp
 refine zAE (loud:=loud) (C:=C) hL hC hQ ops.size l [] order (Array.replicate ops.size false) f σ κ Im a _ c rfl (λj v=>by cases v) (λj=>by by_cases e:j<ops.size<;>simp[e]) q s (λi=> ?_) h (λi d=> ?_) (zpd.1 u) (λi d=> ?_) g hst.drawn
 .constructor;.intro d;have:=ya1.1 k i d;simp only[yb5,decide_eq_true_eq]at this;exact⟨this.1,by simp[this.1]⟩
  .rintro⟨d,_⟩;have:=ya1.1 r i (ye2.2 d);simpa using this
 .by_cases e:i<ops.size<;>simp[e]at d
 .have:=ya1.1 k i d;simp only[yb5,decide_eq_true_eq]at this;exact this.2
theorem zjo {L:List AIns}{k:ACode}{orders:Option (List (List Nat))}{QA:AExit->Frame->zaa->Prop}{f:Frame}{σ:zaa}(h:awp P (zqS L k orders) QA f σ):
  (∃os,orders=some os/\∀order∈os,zcZ P (QA .normal) (order.filterMap λi=>L[i]?) f σ)∨(orders=none/\awp P k QA f σ):=by
 unfold zqS at h;split at h;.refine .inl ⟨_,rfl,λa b=> ?_⟩;rw[ybr.1 b];exact h
 .exact .inl ⟨_,rfl,λa b=>h _ (List.mem_map_of_mem b)⟩
 .exact .inr ⟨rfl,h⟩
theorem zxx {x:AIns}{K:Frame->zaa->Prop}{f:Frame}{σ:zaa}(h:zbf P K (z4T x) f σ):zbf P K x f σ:=by
 have j:∀{K:AV->zaa->Prop} {o:AOp},zat P K f σ (zCZ o)->zat P K f σ o:=by
  intro K o h;cases o<;>try exact h
  case load s n x=>
   obtain⟨r,a,e⟩:=h;refine⟨r, ?_,e⟩;change znm s n (x.ev f)=some r at a;show(zbz σ (x.ev f) n).bind (zg5 s)=some r;unfold znm at a;split at a
   case h_2=>cases a
   rename_i m q;split at a
   case isFalse=>cases a
   rename_i w;simp only[q,zbz,if_pos w,yd8];exact a
  case iaddr n x i=>
   obtain⟨r,a,e⟩:=h;refine⟨r, ?_,e⟩;change zpW n (zid (i.ev f)) (x.ev f)=some r at a;unfold zpW at a;split at a
   case h_2=>cases a
   rename_i k l y q;simp only[zaw,y,q];exact a
 obtain⟨g,d,o⟩:=x;cases g with
 |none=>exact j (K:=λr σ'=>K (f.put d r) σ') h
 |some p=>obtain⟨t,b⟩:=p;obtain⟨c,a,e,u⟩:=h;exact⟨c,a,λv=>j (K:=λr σ'=>K (f.put d r) σ') (e v),u⟩
theorem zxB {L:List AIns}{x:AIns}{K:Frame->zaa->Prop}{f:Frame}{σ:zaa}(h:zbf P K (znB L x) f σ):zbf P K x f σ:=by
 have a:∀{K:AV->zaa->Prop} {e n b:Nat} {x y:Opd},zat P K f σ (.apt e n b x y)->zat P K f σ (.app e n b x y):=by intro K e n b x y h;obtain⟨l,m,u,i,j,k,v,w,z,A,B,C,q⟩:=h;refine⟨m,j,k,v, ?_⟩;rw[i];exact⟨u,w,z,A,B,C,q⟩
 obtain⟨g,d,o⟩:=x;unfold znB at h;split at h
 case h_2=>exact h
 rename_i e n b t y s;simp only at s;subst s;split at h
 case isFalse=>exact h
 cases g with
 |none=>exact a (K:=λr σ'=>K (f.put d r) σ') h
 |some p=>obtain⟨t,b⟩:=p;obtain⟨c,i,j,k⟩:=h;exact⟨c,i,λD=>a (K:=λr σ'=>K (f.put d r) σ') (j D),k⟩
theorem zlx (C:List (Nat×Nat)):∀(L:List AIns) (n i:Nat) (x:AIns),L[i]? =some x->∃y,(zh1 C n L)[i]? =some y/\(y=x∨y=z4T x)
 | [],n,i,x,h=>by simp at h
 |z::L,n,0,x,h=>by
  simp only[yc8,yab]at h;subst h;simp only[zh1,yc8,yab];split;.exact⟨_,rfl,.inr rfl⟩
  .exact⟨_,rfl,.inl rfl⟩
 |z::L,n,i+1,x,h=>by simp only[yc9]at h;simp only[zh1,yc9];exact zlx C L (n+1) i x h
theorem zCS {C:List (Nat×Nat)}(hC:∀p∈C,p.1<p.2)(l:List Nat):tri (zgQ C (C.map λp=>decide (l.idxOf p.1<l.idxOf p.2)))=false:=by
 have e:∀x y,(x,y)∈zgQ C (C.map λp=>decide (l.idxOf p.1<l.idxOf p.2))->l.idxOf x<l.idxOf y∨(l.idxOf x=l.idxOf y/\y<x):=by
  intro x y h;obtain⟨p,k,(⟨rfl,f⟩|⟨rfl,f⟩)⟩:=zj5 h;.simp only[decide_eq_true_eq]at f;exact .inl f
  .simp only[decide_eq_false_iff_not]at f;have:=hC _ k;simp only at this;omega
 cases g:tri (zgQ C (C.map λp=>decide (l.idxOf p.1<l.idxOf p.2)))with
 |false=>rfl
 |true=>exfalso;unfold tri at g;simp only[List.any_eq_true,yb5,beq_iff_eq,yee,decide_eq_true_eq]at g;obtain⟨⟨a,b⟩,m,⟨c,d⟩,n,i,j⟩:=g;simp only at i j;subst i;have o:=e _ _ m;have q:=e _ _ n;have r:=e _ _ j;omega
theorem z38 {b x:Nat}{l:List Nat}(h:b≠x):(b::l).idxOf x=l.idxOf x+1:=by
 have:(b==x)=false:=by simpa using h
 simp[List.idxOf_cons,this]
theorem z5a {ops:Array Oper}(hlt:zzF ops=true):∀(n:Nat) (listed:Array Bool) (l rem:List Nat),Sched ops n listed l->listed.size=ops.size->rem.Nodup->(∀i,i∈rem↔i<ops.size/\listed.getD i true=false)->rem.length<=n->(∀i,i<ops.size->listed.getD i true=false->i∈l)/\∀i∈l,i<ops.size/\∀j∈zf7 ops i,listed.getD j false=true∨l.idxOf j<l.idxOf i:=by
 intro n
 induction n with
 |zero=>intro listed l rem h w r b y;have:rem= []:=yaq (by omega);subst this;cases h;exact⟨λi g k=>absurd ((b i).2 ⟨g,k⟩) (by simp),λi p=>by cases p⟩
 |succ n S=>
  intro listed l rem h w r b y;cases h with
  |stop _ _ T=>
   refine⟨λi=> ?_,λi p=>by cases p⟩
   induction i using Nat.strongRecOn with
   |_ i p=>
    intro g k;exfalso;have c:i∈Region.ready .any ops listed:=by
     refine mem_ready.2 ⟨k,ops[i],yb6 g,λe v D=> ?_⟩;have Q:e.on∈zf7 ops i:=(zkk (yb6 g)).2 ⟨e,v,D,rfl⟩;have E:e.on<i:=by have:=ya1.1 (ya1.1 hlt i (ye2.2 g)) _ Q;simpa using this
     have R:e.on<listed.size:=(by omega);have B:¬(listed.getD e.on true=false):=λB=>absurd (p _ E (by omega) B) (by simp);simp only[ybj,yb6 R,Option.getD_some]at B⊢;simpa using B
    rw[T]at c;cases c
  |step _ _ x J U u=>
   obtain⟨C,o,I,m⟩:=mem_ready.1 U;have z:x<ops.size:=(yba.1 I).1;have F:x∈rem:=(b x).2 ⟨z,C⟩;have f:∀j (d:Bool),j≠x->(listed.setIfInBounds x true).getD j d=listed.getD j d:=λj d q=>by simp only[ybj,Array.getElem?_setIfInBounds];rw[if_neg (Ne.symm q)]
   have s:(listed.setIfInBounds x true).getD x true=true:=(by simp only[ybj,Array.getElem?_setIfInBounds];rw[if_pos trivial,if_pos (by omega)];rfl);obtain⟨K,L⟩:=S (listed.setIfInBounds x true) J (rem.erase x) u (by simpa using w) (r.erase x) (λi=>by
    rw[r.mem_erase_iff,b i];constructor;.rintro⟨g,k,P⟩;exact⟨k,by rw[f i true g];exact P⟩
    .rintro⟨g,k⟩;have A:i≠x:=λv=>by rw[v,s]at k;cases k
     exact⟨A,g,by rw[<-f i true A];exact k⟩) (by rw[List.length_erase_of_mem F];omega)
   have G:∀j∈zf7 ops x,listed.getD j false=true:=λj q=>by obtain⟨e,v,D,rfl⟩:=(zkk I).1 q;exact m e v D
   refine⟨λi g k=> ?_,λi p=> ?_⟩
   .by_cases a:i=x;.subst a;exact List.mem_cons_self
    .exact yb1 _ (K i g (by rw[f i true a];exact k))
   .by_cases a:i=x;.subst a;exact⟨z,λj q=> .inl (G j q)⟩
    .have H:i∈J:=by
      rcases ybe.1 p with h|h;.exact absurd h a
      .exact h
     obtain⟨M,O⟩:=L i H;refine⟨M,λj q=> ?_⟩;by_cases t:j=x;.subst t;right;rw[List.idxOf_cons_self,z38 (Ne.symm a)];omega
     .rcases O j q with h|h;.rw[f j false t]at h;exact .inl h
      .right;rw[z38 (Ne.symm t),z38 (Ne.symm a)];omega
theorem z2j {ops:Array Oper}(hlt:zzF ops=true){l:List Nat}(h:Sched ops ops.size (Array.replicate ops.size false) l):(∀i,i<ops.size->i∈l)/\∀i,i<ops.size->∀j∈zf7 ops i,j<ops.size/\l.idxOf j<l.idxOf i:=by
 have b:∀i,i<ops.size->(Array.replicate ops.size false).getD i true=false:=λi a=>by simp[a]
 obtain⟨c,e⟩:=z5a hlt ops.size _ l (List.range ops.size) h (by simp) List.nodup_range (λi=>by rw[ye2];exact⟨λa=>⟨a,b i a⟩,λa=>a.1⟩) (by simp);refine⟨λi a=>c i a (b i a),λi a j d=> ?_⟩;have f:j<i:=by have:=ya1.1 (ya1.1 hlt i (ye2.2 a)) _ d;simpa using this
 refine⟨by omega, ?_⟩;rcases(e i (c i a (b i a))).2 j d with h|h
 .have:j<ops.size:=by omega
  simp[this]at h
 .exact h
theorem z2k {ops:Array Oper}{l:List Nat}{E:List (Nat×Nat)}(h1:∀i,i<ops.size->∀j∈zf7 ops i,j<ops.size/\l.idxOf j<l.idxOf i)(h2:∀p∈E,p.1<ops.size/\l.idxOf p.1<l.idxOf p.2):∀(n i j:Nat),i<ops.size->zkT E ops j n i=true->l.idxOf j<l.idxOf i:=by
 have g:∀i,i<ops.size->∀k∈zv6 E ops i,k<ops.size/\l.idxOf k<l.idxOf i:=by
  intro i e k c;unfold zv6 at c;rcases yai.1 c with c|c
  .exact h1 i e k c
  .obtain⟨p,m,rfl⟩:=yar.1 c;obtain⟨f,d⟩:=ybf.1 m;obtain⟨a,b⟩:=h2 p f;simp only[beq_iff_eq]at d;rw[<-d];exact⟨a,b⟩
 intro n
 induction n with
 |zero=>intro i j _ h;simp[zkT]at h
 |succ n q=>
  intro i j e h;unfold zkT at h;simp only[ydu,yee,decide_eq_true_eq,List.any_eq_true]at h;rcases h with h|⟨k,c,h⟩
  .exact(g i e j h).2
  .obtain⟨o,r⟩:=g i e k c;have:=q k j o h;omega
theorem z8L {ops:Array Oper}{C:List (Nat×Nat)}(hlt:zzF ops=true)(hC:∀p∈C,p.1<p.2/\p.2<ops.size){l:List Nat}(h:Sched ops ops.size (Array.replicate ops.size false) l):acyc (zgQ C (C.map λp=>decide (l.idxOf p.1<l.idxOf p.2))) ops=true:=by
 obtain⟨g,k⟩:=z2j hlt h;have d:∀p∈zgQ C (C.map λp=>decide (l.idxOf p.1<l.idxOf p.2)),(p.1<ops.size/\p.2<ops.size)/\l.idxOf p.1<l.idxOf p.2:=by
  rintro⟨x,y⟩ e;obtain⟨p,e,(⟨rfl,f⟩|⟨rfl,f⟩)⟩:=zj5 e;.simp only[decide_eq_true_eq]at f;obtain⟨a,b⟩:=hC _ e;simp only at a b⊢;exact⟨⟨by omega,b⟩,f⟩
  .simp only[decide_eq_false_iff_not]at f;obtain⟨a,b⟩:=hC _ e;simp only at a b f⊢;refine⟨⟨b,by omega⟩, ?_⟩;rcases ydm (l.idxOf x) (l.idxOf y)with i|i
   .exact i
   .exfalso;have t:l.idxOf x=l.idxOf y:=by omega
    have m:l.idxOf x<l.length:=List.idxOf_lt_length_of_mem (g x b);have n:l.idxOf y<l.length:=List.idxOf_lt_length_of_mem (g y (by omega));have o:=List.getElem_idxOf m;have r:=List.getElem_idxOf n;have:x=y:=(by rw[<-o,<-r];congr 1);omega
 unfold acyc;refine ya1.2 λp e=> ?_;obtain⟨⟨a,b⟩,c⟩:=d p e;cases s:zkT (zgQ C (C.map λp=>decide (l.idxOf p.1<l.idxOf p.2))) ops p.2 ops.size p.1 with
 |false=>rfl
 |true=>have:=z2k k (λq j=>⟨(d q j).1.1,(d q j).2⟩) ops.size p.1 p.2 a s;omega
theorem z2d (hm:P.follows .mixedOrders=true){N:Nat}{loud:List FuncId}{ops:Array Oper}{draw:Bool}{D:List Deferred}{κ₀:Key}{Im₀:Addr->Prop}{w₀:World}{QA:AExit->Frame->zaa->Prop}{Q:Exit->Act->World->Prop}{f:Frame}{σ:zaa}{κ:Key}{Im:Addr->Prop}{a:Act}{w:World}
  (hQ:∀f σ κ Im a w,QA .normal f σ->St base κ₀ Im₀ w₀ N D f σ κ Im a w->Q .normal a w) (h:awp P (zko P N loud ops draw) QA f σ) (hst:St base κ₀ Im₀ w₀ N D f σ κ Im a w):RegPre P ops draw Q a w:=by
 unfold zko at h;cases draw with
 |false=>exact RegPre.of_list (zAk hQ ops.toList f σ κ Im a w h hst)
 |true=>
  simp only[Bool.not_true,ycr,if_false]at h;rw[yd0]at h;rw[zhF]at h;have s:∀(i:Nat) (o:Oper),ops[i]? =some o->(List.map (zg0 loud∘λo=>zkN loud (zdi P N ops o)) ops.toList)[i]? =some (zg0 loud (zkN loud (zdi P N ops o))):=λi o v=>by simp[v]
  generalize List.map (zg0 loud∘λo=>zkN loud (zdi P N ops o)) ops.toList=L at h s;generalize zlV L ops=C at h;split at h
  .have z:∀(n:List AIns) (j:List (Nat×Nat)) (orders:List (List Nat)),(∀(i:Nat) (o:Oper),ops[i]? =some o->∃x,n[i]? =some x/\∀K f σ,zbf P K x f σ->zbf P K (zg0 loud (zkN loud (zdi P N ops o))) f σ)->zi7 n ops j=some orders->(∀r∈orders,zcZ P (QA .normal) (r.filterMap λi=>n[i]?) f σ)->RegPre P ops true Q a w:=by
    intro n j orders k c d;unfold zi7 at c;split at c
    case isFalse=>cases c
    rename_i g;obtain⟨M,O,_⟩:=g;have F:∀p∈j,p.1<p.2/\p.2<ops.size:=λp B=>by have:=ya1.1 M p B;simpa using this
    refine zyU hm hQ k (λp B=>Nat.ne_of_lt (F p B).1) (orders:=orders) (λl I=> ?_) d hst;obtain⟨G,t⟩:=mapM_some c;have A:(j.map λp=>decide (l.idxOf p.1<l.idxOf p.2))∈(zfv j.length).filter λb=>acyc (zgQ j b) ops:=by refine ybf.2 ⟨?_,z8L O F I⟩;have:=zhd (j.map λp=>decide (l.idxOf p.1<l.idxOf p.2));rwa[ybn]at this
    obtain⟨q,H,u⟩:=yaz.1 A;have m:q<orders.length:=(by omega);have e:=t q H m;rw[u]at e;exact⟨_,yaw m,e⟩
   rcases zjo h with ⟨orders,c,d⟩|⟨_,h⟩;.exact z L C orders (λi o v=>⟨_,s i o v,λ_ _ _ h=>h⟩) c d
   rw[zhF]at h;have k:∀(i:Nat) (o:Oper),ops[i]? =some o->∃x,(zh1 C 0 L)[i]? =some x/\∀K f σ,zbf P K x f σ->zbf P K (zg0 loud (zkN loud (zdi P N ops o))) f σ:=λi o v=>by
    obtain⟨y,R,E⟩:=zlx C L 0 i _ (s i o v);refine⟨y,R,λK f σ h=> ?_⟩;rcases E with rfl|rfl
    .exact h
    .exact zxx h
   generalize zh1 C 0 L=n at h k;generalize zlV n ops=j at h;rcases zjo h with ⟨orders,c,d⟩|⟨_,h⟩
   .exact z n j orders k c d
   .exact h.elim
  rcases zjo h with ⟨orders,c,d⟩|⟨_,h⟩
  .unfold zsY at c;split at c
   case isFalse=>cases c
   rename_i g;have F:∀p∈C,p.1≠p.2:=λp B=>by have:=ya1.1 g.1 p B;simpa using this
   refine zyU hm hQ (λi o v=>⟨_,s i o v,λ_ _ _ h=>h⟩) F (orders:=orders) (λl _=> ?_) d hst;obtain⟨G,t⟩:=mapM_some c;have A:(C.map λp=>decide (l.idxOf p.1<l.idxOf p.2))∈zfv C.length:=by have:=zhd (C.map λp=>decide (l.idxOf p.1<l.idxOf p.2));rwa[ybn]at this
   obtain⟨q,H,u⟩:=yaz.1 A;have m:q<orders.length:=(by omega);have e:=t q H m;rw[u]at e;exact⟨_,yaw m,e⟩
  .have J:∀(n:List AIns) (j:List (Nat×Nat)) (orders:List (List Nat)),(∀(i:Nat) (o:Oper),ops[i]? =some o->∃x,n[i]? =some x/\∀K f σ,zbf P K x f σ->zbf P K (zg0 loud (zkN loud (zdi P N ops o))) f σ)->zir n ops j=some orders->(∀r∈orders,zcZ P (QA .normal) (r.filterMap λi=>n[i]?) f σ)->RegPre P ops true Q a w:=by
    intro n j orders k c d;unfold zir at c;split at c
    case isFalse=>cases c
    rename_i g;have F:∀p∈j,p.1<p.2:=λp B=>by have:=ya1.1 g.1 p B;simpa using this
    refine zyU hm hQ k (λp B=>Nat.ne_of_lt (F p B)) (orders:=orders) (λl _=> ?_) d hst;obtain⟨G,t⟩:=mapM_some c;have A:(j.map λp=>decide (l.idxOf p.1<l.idxOf p.2))∈(zfv j.length).filter λb=> !tri (zgQ j b):=by refine ybf.2 ⟨?_,by rw[zCS F];rfl⟩;have:=zhd (j.map λp=>decide (l.idxOf p.1<l.idxOf p.2));rwa[ybn]at this
    obtain⟨q,H,u⟩:=yaz.1 A;have m:q<orders.length:=(by omega);have e:=t q H m;rw[u]at e;exact⟨_,yaw m,e⟩
   rcases zjo h with ⟨orders,c,d⟩|⟨_,h⟩
   .split at c
    case isFalse=>cases c
    refine J (L.map (znB L)) _ orders (λi o v=> ?_) c d;refine⟨znB L _,by rw[yca,s i o v];rfl,λK f σ h=>zxB h⟩
   rw[zhF]at h;have k:∀(i:Nat) (o:Oper),ops[i]? =some o->∃x,(zh1 C 0 L)[i]? =some x/\∀K f σ,zbf P K x f σ->zbf P K (zg0 loud (zkN loud (zdi P N ops o))) f σ:=λi o v=>by
    obtain⟨y,R,E⟩:=zlx C L 0 i _ (s i o v);refine⟨y,R,λK f σ h=> ?_⟩;rcases E with rfl|rfl
    .exact h
    .exact zxx h
   generalize zh1 C 0 L=n at h k;generalize zlV n ops=j at h;rcases zjo h with ⟨orders,c,d⟩|⟨_,h⟩
   .exact J n j orders k c d
   .exact h.elim
def AExit.conv:AExit->Exit
 | .normal=> .normal
 | .exit id=> .exit id
 | .ret=> .ret
theorem z65 (hm:P.follows .mixedOrders=true){N:Nat}{loud:List FuncId}{id:Nat}{ops:Array Oper}{draw:Bool}{D:List Deferred}{κ₀:Key}{Im₀:Addr->Prop}{w₀:World}{QA:AExit->Frame->zaa->Prop}{Q:Exit->Act->World->Prop}{f:Frame}{σ:zaa}{κ:Key}{Im:Addr->Prop}{a:Act}{w:World}
  (hQ:∀f σ κ Im a w,QA .normal f σ->St base κ₀ Im₀ w₀ N D f σ κ Im a w->Q .normal a w) (h:awp P (zko P N loud ops draw) QA f σ) (hst:St base κ₀ Im₀ w₀ N D f σ κ Im a w):(Code.region id ops draw).wp P Q a w:=(z2d hm hQ h hst).wp
theorem zpl {g:AV->Option AV}:∀{els els':List (List AV)},(els.mapM λ(c:List AV)=>c.mapM g)=some els'->els.flatten.mapM g=some els'.flatten
 | [],els',h=>by simp at h;subst h;simp
 |c::els,els',h=>by rw[ych]at h;simp only[yak,yac,yau,yab]at h;obtain⟨d,a,e,b,rfl⟩:=h;have:=zpl b;rw[ybk,List.mapM_append,a,ybk];simp[this]
theorem z4H {κ:Key}{Im:Addr->Prop}{σ σ':zaa}{w:World}(hs:SRel base κ Im σ w)(hz:Frz σ σ'):∃Im',SRel base κ Im' σ' w/\Grow base κ Im w κ Im' w:=by
 obtain⟨id,e,f,l,i,P,Q,rfl⟩:=hz;obtain⟨v,U,R,q,G,B,s,t,_,H⟩:=hs.ent _ _ P;obtain⟨r,W⟩:=mapM_some Q;have z:=zpl Q;obtain⟨n,u⟩:=zqO hs G z;let Im':Addr->Prop:=λa=>Im a∨(v.ownBlock=some a.block/\a.spot=none/\a.off<l.length*f);have D:∀b,v.ownBlock=some b->base<=b/\b<w.heap.size:=λb F=>q.lt b F;have A:∀c∈i,c.length=f:=λc L=>by obtain⟨k,I,rfl⟩:=yaz.1 L;have E:=(mapM_some (W k (by omega) I)).1;rw[<-E];exact s _ (yaw _)
 have p:∀c∈i,∀x∈c,x.one=true:=λc L x Z=>u (λy hy=>by obtain⟨d,X,J⟩:=ybq.1 hy;exact t d X y J) x (ybq.2 ⟨c,L,Z⟩);have hg:Grow base κ Im w κ Im' w:=⟨λ_ _ _ h=>h,λ_ h=> .inl h,λ_ _=>rfl,λa h=>h.imp (λx=>x) λh=>(D _ h.1).1,Below.refl _ _⟩;have m:∀l T,l.length=i.length->(Entry.row e f l T).block κ id=v.ownBlock:=λl T h=>by simp only[Entry.block,h,<-r,R];rfl
 refine⟨Im', ?_,hg⟩;refine hs.set P (.row e f i true) (λ_ _ _ h=>h) (λ_ _ _ h=> .inl h) (by simp[Entry.ver,r]) (λ_ h=> .inl h) (λ_ _=>rfl) (λa h=> ?_) (yaf _) (λ_ _ _=>rfl) ?_ (λb F=> .inr ?_)
 .rcases h with h|⟨E,Y,S⟩;.exact .inl h
  .exact .inr ⟨by rw[m _ _ rfl];exact E,(D _ E).2,Y⟩
 .refine⟨v,U,by rw[<-r];exact R,by rw[<-r];exact q,⟨n.1,λj h M=> .im _ _ ((n.2 j h M).mono (λ_ h=> .inl h) (λ_ _=>rfl))⟩,B,A,p,λ_=>⟨n.1,λj h M=>(n.2 j h M).mono (λ_ h=> .inl h) (λ_ _=>rfl)⟩,λg C=>⟨λa K O=>⟨rfl, ?_⟩,λ_ o ho=> .inr ⟨C,rfl,by rw[r];exact ho⟩⟩⟩;rcases K with K|⟨_,_,S⟩
  .have:=((H g C).1 a K O).2;rw[<-r];exact this
  .rw[<-r];exact S
 .rw[m _ _ rfl]at F;rw[m _ _ r];exact F
theorem zCu (hm:P.follows .mixedOrders=true){N:Nat}{loud:List FuncId}{D:List Deferred}{κ₀:Key}{Im₀:Addr->Prop}{w₀:World}:∀(c:Code) (QA:AExit->Frame->zaa->Prop) (Q:Exit->Act->World->Prop) (f:Frame) (σ:zaa) (κ:Key) (Im:Addr->Prop) (a:Act) (w:World),(∀e f σ κ Im a w,QA e f σ->St base κ₀ Im₀ w₀ N D f σ κ Im a w->Q e.conv a w)->awp P (comp P N loud c) QA f σ->St base κ₀ Im₀ w₀ N D f σ κ Im a w->c.wp P Q a w:=by
 intro c
 induction c with
 |skip=>intro QA Q f σ κ Im a w g h d;exact wp_skip (g .normal _ _ _ _ _ _ h d)
 |region id K A=>intro QA Q f σ κ Im a w g h d;exact z65 hm (g .normal) h d
 |seq x y o k=>
  intro QA Q f σ κ Im a w g h d;simp only[comp]at h;split at h
  .refine wp_seq (o _ _ f σ κ Im a w (λe f σ κ Im a w i j=> ?_) h d);cases e with
   |normal=>
    rcases i with i|⟨σ',H,i⟩;.exact k QA Q f σ κ Im a w g i j
    .obtain⟨q,B,v⟩:=z4H j.st H;exact k QA Q f σ' κ q a w g i ⟨j.fr.grow v,j.sz,j.df,B,j.gr.trans v⟩
   |exit id=>exact g (.exit id) _ _ _ _ _ _ i j
   |ret=>exact g .ret _ _ _ _ _ _ i j
  .refine wp_seq (o _ _ f σ κ Im a w (λe f σ κ Im a w i j=> ?_) h d);cases e with
   |normal=>exact k QA Q f σ κ Im a w g i j
   |exit id=>exact g (.exit id) _ _ _ _ _ _ i j
   |ret=>exact g .ret _ _ _ _ _ _ i j
 |cond c x y o k=>
  intro QA Q f σ κ Im a w g h d;simp only[comp]at h;split at h
  .rename_i L J;obtain⟨b,C,i,j⟩:=h;have z:=zav J d.fr;rw[C]at z;refine wp_cond z.bool_inv ?_;cases b;.exact k QA Q f σ κ Im a w g (j rfl) d
   .exact o QA Q f σ κ Im a w g (i rfl) d
  .exact h.elim
 |block id c p=>
  intro QA Q f σ κ Im a w g h d;refine wp_block (p _ _ f σ κ Im a w (λe f σ κ Im a w i j=> ?_) h d);cases e with
  |normal=>exact g .normal _ _ _ _ _ _ i j
  |exit u=>
   simp only[AExit.inBlock]at i;simp only[AExit.conv,Exit.inBlock];split;.rename_i t;rw[if_pos t]at i;exact g .normal _ _ _ _ _ _ i j
   .rename_i t;rw[if_neg t]at i;exact g (.exit u) _ _ _ _ _ _ i j
  |ret=>exact g .ret _ _ _ _ _ _ i j
 |loop c p=>
  intro QA Q f σ κ Im a w g h d;obtain⟨I,n,E,m⟩:=h;refine wp_loop_ghost (λn a w=>∃f σ κ Im,I n f σ/\St base κ₀ Im₀ w₀ N D f σ κ Im a w) n ⟨f,σ,κ,Im,E,d⟩ ?_;rintro n a w ⟨f,σ,κ,Im,G,d⟩;refine p _ _ f σ κ Im a w (λe f σ κ Im a w i j=> ?_) (m n f σ G) d;cases e with
  |normal=>obtain⟨F,r,s⟩:=i;exact⟨F,r,f,σ,κ,Im,s,j⟩
  |exit id=>exact g (.exit id) _ _ _ _ _ _ i j
  |ret=>exact g .ret _ _ _ _ _ _ i j
 |exit id=>intro QA Q f σ κ Im a w g h d;exact wp_exit (g (.exit id) _ _ _ _ _ _ h d)
 |ret=>intro QA Q f σ κ Im a w g h d;exact wp_ret (g .ret _ _ _ _ _ _ h d)
 |rangeFunc=>intro QA Q f σ κ Im a w g h d;exact h.elim
 |scope c p=>
  intro QA Q f σ κ Im a w g h d;refine wp_scope_straight (p QA _ f σ κ Im a w (λe f σ κ Im a w i j=> ?_) h d);cases e with
  |normal=>exact g .normal _ _ _ _ _ _ i j
  |exit id=>exact g (.exit id) _ _ _ _ _ _ i j
  |ret=>exact g .ret _ _ _ _ _ _ i j
 |label l=>intro QA Q f σ κ Im a w g h d;exact wp_label (g .normal _ _ _ _ _ _ h d)
 |goto=>intro QA Q f σ κ Im a w g h d;exact h.elim
 |refuse=>intro QA Q f σ κ Im a w g h d;exact h.elim
end
def AV.under (m:Nat):AV->Bool
 | .ptr id _| .row id _| .rowp id _ _ _ _| .map id| .sub id _ _ _ _| .asl id _ _ _=>decide (id<m)
 | .fn _ a b=>(a.attach.all λ⟨x,_⟩=>x.under m)&&(b.attach.all λ⟨x,_⟩=>x.under m)
 | .iface _ v=>v.under m
 | .agg l| .tup l=>l.attach.all λ⟨x,_⟩=>x.under m
 |_=>true
def Entry.under (m:Nat):Entry->Bool
 | .dead _=>true
 | .var _ cells=>cells.all (AV.under m)
 | .row _ _ els _=>els.all λc=>c.all (AV.under m)
 | .mp kv=>kv.all λp=>p.2.under m
 | .itr mid _ _ _=>mid.all λi=>decide (i<m)
 | .obj _=>true
def fz (σ:zaa)(m:Nat):Nat->AV->Option AV
 |_,.nils=>some (.lst [])
 |0,v=>if v.pure then some v else none
 |k+1,.row id n=>match σ[id]? with
  |some (.row _ _ els im)=>if els.length=n then(if im=true then some (.lst els)else if m<=id then(els.mapM λ(c:List AV)=>c.mapM (fz σ m k)).map .lst else none)else none
  |_=>none
 |_,v=>if v.pure then some v else none
def fin1 (σ:zaa)(m:Nat):AV->Option AV
 | .row id n=>fz σ m 3 (.row id n)
 | .nils=>some (.lst [])
 | .sub id n size lo hi=>(fz σ m 3 (.row id n)).bind fun
  | .lst l=>if∀c∈l,c.length=size then some (.lst ((l.take hi).drop lo))else none
  |_=>none
 |v=>if v.under m then some v else none
def finL (σ:zaa)(m:Nat)(l:List AV):Option (List AV):=l.mapM (fin1 σ m)
def finT (σ:zaa)(m:Nat):AV->Option AV
 | .agg l=>(finL σ m l).map .agg
 |v=>fin1 σ m v
def fin (σ:zaa)(m:Nat):AV->Option AV
 | .tup l=>(l.mapM (finT σ m)).map .tup
 |v=>finT σ m v
def zee [Globs](σ:zaa)(f:Frame):Nat×Option (Bool×Nat)->Option AV
 |(t,none)=>some (f t)
 |(t,some (ag,size))=>(zbz σ (f t) size).bind (zg5 ag)
def zaK:List AV->AV
 | [v]=>v
 |l=> .tup l
def zxQ [Globs](σ₀:zaa)(R:AV->zaa->Prop)(res:List (Nat×Option (Bool×Nat)))(f:Frame)(σ:zaa):Prop:=∃rs r m,res.mapM (zee σ f)=some rs/\(fin σ m (zaK rs)=some r∨(r=zaK rs/\r.under m=true))/\σ₀.length<=m/\(∀(id:Nat) (e:Entry),id<m->σ[id]? =some e->σ₀[id]? =some e∨e.under m=true)/\R r (σ.take m)
def zzW [Globs](σ₀:zaa)(R:AV->zaa->Prop)(res:List (Nat×Option (Bool×Nat))):AExit->Frame->zaa->Prop
 | .exit _,_,_=>False
 |_,f,σ=>zxQ σ₀ R res f σ
def zuV (args:List AV):Frame:=λt=>args.getD t .junk
section
variable {P:Program}{base:Nat}{κ:Key}{Im:Addr->Prop}{w:World}{σ:zaa}
def cut (κ:Key)(m:Nat):Key:=λid n=>if id<m then κ id n else none
theorem zcS {m id n:Nat}{v:Value}(h:κ id n=some v)(hm:id<m):cut κ m id n=some v:=by simp[cut,hm,h]
theorem VR.under {m:Nat}{Im':Addr->Prop}(hIm:∀a,Im a->Im' a){a:AV}{v:Value}(h:VR κ Im w a v)(hb:a.under m=true):VR (cut κ m) Im' w a v:=by
 induction h with
 |im a v h=>exact .im _ _ (h.mono hIm λ_ _=>rfl)
 |ptr id l b h=>exact .ptr id l b (zcS h (by simpa[AV.under]using hb))
 |row id n g o h=>exact .row id n g o (zcS h (by simpa[AV.under]using hb))
 |rowp id n d k l b o h=>exact .rowp id n d k l b o (zcS h (by simpa[AV.under]using hb))
 |map id b h=>exact .map id b (zcS h (by simpa[AV.under]using hb))
 |asl id l n d b x c h y z A B=>exact .asl id l n d b x c (zcS h (by simpa[AV.under]using hb)) y z A B
 |sub id n d G H b o x c h q C y z A B=>exact .sub id n d G H b o x c (zcS h (by simpa[AV.under]using hb)) q C y z A B
 |fn f first i r I q C F J D E=>simp[AV.under]at hb;exact .fn f first i r I q C (λj h p=>D j h p (hb.1 _ (yaw h))) (λj h p=>E j h p (hb.2 _ (yaw h)))
 |iface t a v h s=>exact .iface t a v (s (by simpa[AV.under]using hb))
 |agg e r u q F s=>simp[AV.under]at hb;exact .agg e r u q λj h p=>s j h p (hb _ (yaw h))
 |tup e r q F s=>simp[AV.under]at hb;exact .tup e r q λj h p=>s j h p (hb _ (yaw h))
theorem VR.old {m:Nat}{κ':Key}{Im':Addr->Prop}{w':World}(hκ:∀i n v,κ i n=some v->κ' i n=some v/\i<m)(hIm:∀a,Im a->Im' a)(hc:∀a,Im a->w'.cell? a=w.cell? a){a:AV}{v:Value}(h:VR κ Im w a v):VR (cut κ' m) Im' w' a v:=h.mono (λi n v h=>zcS (hκ i n v h).1 (hκ i n v h).2) hIm hc
theorem VRL.under {m:Nat}{Im':Addr->Prop}(hIm:∀a,Im a->Im' a){l:List AV}{vs:List Value}(h:VRL κ Im w l vs)(hb:l.all (AV.under m)=true):VRL (cut κ m) Im' w l vs:=⟨h.1,λj c b=>(h.2 j c b).under hIm (ya1.1 hb _ (yaw c))⟩
theorem VR.isBelow {m:Nat}(hκ:∀i n v,κ i n=some v->i<m){a:AV}{v:Value}(h:VR κ Im w a v):a.under m=true:=by
 induction h with
 |im a v h=>
  induction h with
  |fn f first o u D y E z F r s=>simp[AV.under];exact⟨λx e=>by obtain⟨j,d,rfl⟩:=yaz.1 e;exact r j d (by omega),λx e=>by obtain⟨j,d,rfl⟩:=yaz.1 e;exact s j d (by omega)⟩
  |iface t a v h p=>simpa[AV.under]using p
  |agg l u A y z p=>simp[AV.under];exact λx e=>by obtain⟨j,d,rfl⟩:=yaz.1 e;exact p j d (by omega)
  |tup l u y z p=>simp[AV.under];exact λx e=>by obtain⟨j,d,rfl⟩:=yaz.1 e;exact p j d (by omega)
  |_=>simp[AV.under]
 |ptr id B b h=>simpa[AV.under]using hκ _ _ _ h
 |row id n g C h=>simpa[AV.under]using hκ _ _ _ h
 |rowp id n q k B b C h=>simpa[AV.under]using hκ _ _ _ h
 |map id b h=>simpa[AV.under]using hκ _ _ _ h
 |sub id n q H I b C G c h=>simpa[AV.under]using hκ _ _ _ h
 |asl id B n q b G c h=>simpa[AV.under]using hκ _ _ _ h
 |fn f first o u D y E z F r s=>simp[AV.under];exact⟨λx e=>by obtain⟨j,d,rfl⟩:=yaz.1 e;exact r j d (by omega),λx e=>by obtain⟨j,d,rfl⟩:=yaz.1 e;exact s j d (by omega)⟩
 |iface t a v h p=>simpa[AV.under]using p
 |agg l u A y z p=>simp[AV.under];exact λx e=>by obtain⟨j,d,rfl⟩:=yaz.1 e;exact p j d (by omega)
 |tup l u y z p=>simp[AV.under];exact λx e=>by obtain⟨j,d,rfl⟩:=yaz.1 e;exact p j d (by omega)
theorem VRL.isBelow {m:Nat}(hκ:∀i n v,κ i n=some v->i<m){l:List AV}{vs:List Value}(h:VRL κ Im w l vs):l.all (AV.under m)=true:=ya1.2 λx b=>by obtain⟨j,a,rfl⟩:=yaz.1 b;exact(h.2 j a (by rw[<-h.1];exact a)).isBelow hκ
theorem Entry.isBelow {m id:Nat}(hκ:∀i n v,κ i n=some v->i<m){e:Entry}(h:EOK κ Im base w id e):e.under m=true:=by
 cases e with
 |dead _=>rfl
 |var t g=>obtain⟨b,D,_,_,_,d,_⟩:=h;exact d.isBelow hκ
 |row G o C H=>obtain⟨v,E,_,_,d,_⟩:=h;have:=d.isBelow hκ;simp only[Entry.under,ya1]at this⊢;exact λc z x A=>this x (ybq.2 ⟨c,z,A⟩)
 |mp I=>obtain⟨b,r,a,_,_,_,s,d,_⟩:=h;simp only[Entry.under,ya1];intro p B;obtain⟨j,u,rfl⟩:=yaz.1 B;exact(d j u (by omega)).2.isBelow hκ
 |itr k n left q=>
  obtain⟨b,_,_,_,h⟩:=h;cases k with
  |none=>rfl
  |some i=>obtain⟨c,r,a,f,l,F,y,_⟩:=h;simp only[Entry.under,Option.all_some,decide_eq_true_eq];exact hκ _ _ _ y
 |obj _=>rfl
def zoE (κ:Key)(Im:Addr->Prop)(σ:zaa)(m:Nat):Addr->Prop:=λa=>Im a∨∃id e size els v,m<=id/\σ[id]? =some (.row e size els false)/\κ id els.length=some v/\v.ownBlock=some a.block/\a.spot=none/\a.off<els.length*size
theorem zCX {m:Nat}(hs:SRel base κ Im σ w):∀(k:Nat) {X r:AV} {x:Value},VR κ Im w X x->fz σ m k X=some r->IR (zoE κ Im σ m) w r x/\(X.one=true->r.one=true):=by
 have t:∀{X r:AV} {x:Value},VR κ Im w X x->(if X.pure=true then some X else none)=some r->IR (zoE κ Im σ m) w r x/\(X.one=true->r.one=true):=by
  intro X r x v h;split at h
  case isFalse=>cases h
  rename_i hp;simp only[yab]at h;subst h;exact⟨(v.pure hp).mono (λ_ h=> .inl h) (λ_ _=>rfl),id⟩
 intro k
 induction k with
 |zero=>
  intro X r x v h;cases X<;>simp only[fz]at h<;>first|(exact t v h)|skip
  simp only[yab]at h;subst h;cases v.nils_inv;exact⟨.lnil _,λ_=>rfl⟩
 |succ k ih=>
  intro X r x v h;cases X<;>simp only[fz]at h<;>first|(exact t v h)|skip
  case nils=>simp only[yab]at h;subst h;cases v.nils_inv;exact⟨.lnil _,λ_=>rfl⟩
  case row id n=>
   obtain⟨g,O,rfl,P⟩:=v.row_inv;split at h
   case h_2=>cases h
   rename_i e a l im q;split at h
   case isFalse=>cases h
   rename_i hn;subst hn;split at h;.rename_i s;subst s;simp only[yab]at h;subst h;exact⟨(znV hs q P).mono (λ_ h=> .inl h) (λ_ _=>rfl),λ_=>rfl⟩
   .rename_i s;have s:im=false:=by simpa using s
    subst s;split at h
    case isFalse=>cases h
    rename_i hm;simp only[yae]at h;obtain⟨f,E,rfl⟩:=h;refine⟨?_,λ_=>rfl⟩;obtain⟨Q,R⟩:=mapM_some E;obtain⟨v',D,F,p,G,aa,z,H,_,_⟩:=hs.ent _ _ q;rw[P]at F;cases F;rcases p.2 with ⟨J,h2⟩|⟨b,Y,ab,J,hg,hh,ad,K,ae,T⟩
    .have I:f= []:=yaq (by omega);subst I;simp only[Value.slice.injEq]at J;obtain⟨rfl,S,rfl⟩:=J;rw[S];exact .lnil _
    .simp only[Value.slice.injEq]at J;obtain⟨rfl,_,rfl⟩:=J;have B:=p.cells (g:=b) rfl;have A:∀d (h:d<f.length),f[d].length=a/\∀j (y:j<f[d].length),∃(af:d<l.length) (ag:j<l[d].length),fz σ m k l[d][j]=some f[d][j]:=by
      intro d h;have C:d<l.length:=by omega
      obtain⟨g1,g2⟩:=mapM_some (R d C h);have g3:=z _ (yaw C);exact⟨by omega,λj y=>⟨C,by omega,g2 j (by omega) y⟩⟩
     have L:∀d j,d<f.length->j<a->d*a+j<l.length*a:=λd j i y=>by have:(d+1)*a<=l.length*a:=yat _ (by omega);rw[ya8]at this;omega
     have u:∀d j (h:d<f.length) (Z:j<f[d].length),IR (zoE κ Im σ m) w f[d][j] (D.getD (d*a+j) undef)/\f[d][j].one=true:=by
      intro d j h Z;obtain⟨q1,q2⟩:=A d h;obtain⟨W,q4,q5⟩:=q2 j Z;obtain⟨_,_,I,S⟩:=zgt l d j z W (by omega);have o:d*a+j<D.length:=by rw[G.1]at I;exact I
      have hv:=G.2 (d*a+j) I o;rw[S]at hv;have e:D.getD (d*a+j) undef=D[d*a+j]:=(by simp[o]);rw[e];obtain⟨i1,i2⟩:=ih hv q5;exact⟨i1,i2 (H _ (yaw W) _ (yaw q4))⟩
     rw[Q];refine .lst f a b 0 O (λk j=>D.getD (k*a+j) undef) (by omega) K (λc U=> ?_) (λc U x v=> ?_) (λd j i y=> ?_) (λd j i y=>(u d j i y).1);.obtain⟨d,i,rfl⟩:=yaz.1 U;exact(A d i).1
     .obtain⟨d,i,rfl⟩:=yaz.1 U;obtain⟨j,y,rfl⟩:=yaz.1 v;exact(u d j i y).2
     .have M:=L d j i y;rw[ybl];have o:d*a+j<D.length:=(by rw[p.1];exact M);refine⟨.inr ⟨id,e,a,l,_,hm,q,P,rfl,rfl,M⟩, ?_⟩;have:=B (d*a+j) _ (yah o);rw[Addr.add_mid,ybl]at this;rw[this];simp[o]
theorem zy5 {m:Nat}(hs:SRel base κ Im σ w){X r:AV}{x:Value}(hx:VR κ Im w X x)(h:fin1 σ m X=some r):VR (cut κ m) (zoE κ Im σ m) w r x/\(X.one=true->r.one=true):=by
 unfold fin1 at h;split at h;.obtain⟨y,J⟩:=zCX hs 3 hx h;exact⟨.im _ _ y,J⟩
 .simp only[yab]at h;subst h;cases hx.nils_inv;exact⟨.im _ _ (.lnil _),λ_=>rfl⟩
 .rename_i id n s d i;simp only[yac]at h;obtain⟨q,K,h⟩:=h;split at h
  case h_2=>cases h
  rename_i l;split at h
  case isFalse=>cases h
  rename_i t;simp only[yab]at h;subst h;obtain⟨b,z,f,c,rfl,e,U,W,L,Y,A,F⟩:=hx.sub_inv;obtain⟨y,_⟩:=zCX hs 3 (VR.row (κ:=κ) (Im:=Im) (w:=w) id n _ z e) K;refine⟨.im _ _ ?_,λ_=>rfl⟩;have u:f=⟨f.block,f.off,none⟩:=by cases f;simp only at F;subst F;rfl
  rcases(VR.im (κ:=κ) _ _ y).lst_inv with ⟨⟨g,o⟩,B⟩|⟨a,b',o',G,p,H,g1,g2,I,O,P,Q⟩
  .simp only[Value.slice.injEq]at o;obtain⟨_,M,_⟩:=o;subst B;have:=IR.lst (Im:=zoE κ Im σ m) (w:=w) [] 0 f.block f.off c (λ_ _=>undef) (by simp) A (by simp) (by simp) (λk j e=>by simp at e) (λk j e=>by simp at e);rw[u,show i-d=0 by omega];simpa using this
  .simp only[Value.slice.injEq,yab,Addr.mk.injEq,and_true]at H;obtain⟨⟨rfl,rfl⟩,Z,rfl⟩:=H;have S:((l.take i).drop d).length=i-d:=by simp;omega
   by_cases E:d<i;.have D:a=s:=(by have o:0<l.length:=(by omega);rw[<-I _ (yaw o),t _ (yaw o)]);subst D;rw[L E];have:=IR.lst (Im:=zoE κ Im σ m) (w:=w) ((l.take i).drop d) a b (d*a) c (λk j=>p (d+k) j) (by omega) A (λc C=>I c (yao (yay C))) (λc C=>O c (yao (yay C))) (λk j e v=>by have:=P (d+k) j (by omega) v;rw[ya8]at this;rw[show d*a+(k*a+j)=0+(d*a+k*a+j) by omega];exact this) (λk j e v=>by simp only[yd2,yck]at v⊢;exact Q (d+k) j (by omega) v);rw[S]at this;exact this
   .have T:(l.take i).drop d= []:=yaq (by omega);rw[T,u];have:=IR.lst (Im:=zoE κ Im σ m) (w:=w) [] 0 f.block f.off c (λ_ _=>undef) (by simp) A (by simp) (by simp) (λk j e=>by simp at e) (λk j e=>by simp at e);rw[show i-d=0 by omega];exact this
 .split at h
  case isFalse=>cases h
  rename_i R;simp only[yab]at h;subst h;exact⟨hx.under (λ_ h=> .inl h) R,id⟩
theorem z4S {m:Nat}(hs:SRel base κ Im σ w){X r:AV}{x:Value}(hx:VR κ Im w X x)(h:finT σ m X=some r):VR (cut κ m) (zoE κ Im σ m) w r x:=by
 unfold finT at h;split at h;.simp only[yae]at h;obtain⟨n,d,rfl⟩:=h;obtain⟨o,rfl,b,a⟩:=hx.agg_inv;obtain⟨i,g⟩:=mapM_some d;refine .agg _ _ (λc k=> ?_) (by rw[<-i,b.1]) (λj e f=>(zy5 hs (b.2 j (by omega) f) (g j (by omega) e)).1);obtain⟨j,e,rfl⟩:=yaz.1 k;have l:=b.1;exact(zy5 hs (b.2 j (by omega) (by omega)) (g j (by omega) e)).2 (a _ (yaw _))
 .exact(zy5 hs hx h).1
theorem zCO {m:Nat}(hs:SRel base κ Im σ w){X r:AV}{x:Value}(hx:VR κ Im w X x)(h:fin σ m X=some r):VR (cut κ m) (zoE κ Im σ m) w r x:=by
 unfold fin at h;split at h;.simp only[yae]at h;obtain⟨g,a,rfl⟩:=h;obtain⟨i,rfl,c⟩:=hx.tup_inv;obtain⟨d,e⟩:=mapM_some a;exact .tup _ _ (by rw[<-d,c.1]) (λj f b=>z4S hs (c.2 j (by omega) b) (e j (by omega) f))
 .exact z4S hs hx h
theorem z0b {rs:List AV}{vs:List Value}(h:VRL κ Im w rs vs):VR κ Im w (zaK rs) (if h:vs.toArray.size=1 then vs.toArray[0]else .tuple vs.toArray):=by
 unfold zaK;split
 .rename_i v
  match vs,h.1 with
  | [u],_=>exact h.2 0 (by simp) (by simp)
 .rename_i b;have:¬vs.toArray.size=1:=by
   intro c;have d:=h.1;simp at c;rw[c]at d
   match rs,d with
   | [a],_=>exact b a rfl
  rw[dif_neg this];exact .tup _ _ h.1 h.2
theorem z2f {rvs:List ResultVar}{res:List (Nat×Option (Bool×Nat))}{rs:List AV}{f:Frame}{a:Act}(hs:SRel base κ Im σ w)(hf:FRel κ Im w f a):rvs.mapM (zoj P)=some res->res.mapM (zee σ f)=some rs->∃vs,(rvs.mapM (fun| .tmp t=>pure (a.tmps.getD t undef)| .cell x t=>do loadVar t (<-asAddr (a.tmps.getD x undef)):ResultVar->Sem Value)).run P w=.ok vs w/\VRL κ Im w rs vs:=by
 induction rvs generalizing res rs with
 |nil=>intro h g;simp at h;subst h;simp at g;subst g;exact⟨[],by simp,.nil⟩
 |cons H rvs X=>
  intro h g;rw[ych]at h;simp only[yak,yac,yau,yab]at h;obtain⟨q,u,Y,y,rfl⟩:=h;rw[ych]at g;simp only[yak,yac,yau,yab]at g;obtain⟨r,e,I,j,rfl⟩:=g;obtain⟨vs,J,K⟩:=X y j;have C:∃v,((match H with| .tmp t=>pure (a.tmps.getD t undef)| .cell x t=>do loadVar t (<-asAddr (a.tmps.getD x undef))):Sem Value).run P w=.ok v w/\VR κ Im w r v:=by
   cases H with
   |tmp t=>simp only[zoj,yab]at u;subst u;simp only[zee,yab]at e;subst e;exact⟨_,rfl,hf t⟩
   |cell x t=>
    simp only[zoj,yak,yac,yau,yab]at u;obtain⟨L,k,m,z,rfl⟩:=u;simp only[zee,yac]at e;obtain⟨l,M,e⟩:=e;obtain⟨b,A,E,F,c,n,o,p⟩:=ztC hs (hf x) M;obtain⟨O,Q⟩:=zuS n p e;have D:E.length=m:=by rw[<-n.1,o]
    obtain⟨i,R,B⟩:=sizeOf?_ok z;cases L;.obtain⟨v,rfl,S⟩:=Q rfl;refine⟨v, ?_,S⟩;have G:=c 0 v rfl;simp only[ycf]at G;simp[F,asAddr,loadVar,run_isAgg? k,G]
    .obtain⟨d,T,s⟩:=zsR k;refine⟨_, ?_,O rfl⟩;simp only[F,asAddr,ya0,ya6,yas,run_loadVar_mid w b A t E d c T s (by rw[R];simp[B,D])]
  obtain⟨v,U,W⟩:=C;refine⟨v::vs, ?_,.cons W K⟩;rw[ych];simp only[ya0,U,J,yas,ya6]
theorem SRel.take {m:Nat}{κ₀:Key}{Im₀:Addr->Prop}{w₀:World}{σ₀:zaa}(hs:SRel base κ Im σ w)(hs₀:SRel base κ₀ Im₀ σ₀ w₀)(hm:σ₀.length<=m)(hg:Grow base κ₀ Im₀ w₀ κ Im w)(hb:∀(id:Nat) (e:Entry),id<m->σ[id]? =some e->σ₀[id]? =some e∨e.under m=true):
  SRel base (cut κ m) (zoE κ Im σ m) (σ.take m) w:=by
 have P:∀i n v,κ₀ i n=some v->i<m:=λi n v h=>by obtain⟨e,J,_⟩:=hs₀.dom _ _ _ h;have:=(yaa.1 J).1;omega
 have D:∀i n v,cut κ m i n=some v->i<m/\κ i n=some v:=λi n v h=>by
  unfold cut at h;split at h;.exact⟨by assumption,h⟩
  .cases h
 have H:∀(id:Nat) (e:Entry),id<m->σ[id]? =some e->e.under m=true:=λid e d A=>by
  rcases hb id e d A with h|h;.exact Entry.isBelow P (hs₀.ent _ _ h)
  .exact h
 have E:∀(id:Nat) (e:Entry),(σ.take m)[id]? =some e->id<m/\σ[id]? =some e:=λid e h=>by
  rw[ybz]at h;split at h;.exact⟨by assumption,h⟩
  .cases h
 have I:∀(id:Nat) (e:Entry),id<m->e.block (cut κ m) id=e.block κ id:=λid e d=>by cases e<;>simp[Entry.block,cut,d]
 -- the freed Q lie in other blocks
 have k:∀(id:Nat) (e:Entry) (b:Nat),id<m->σ[id]? =some e->e.block κ id=some b->∀a,a.block=b->zoE κ Im σ m a->Im a:=λid e b d A q a f z=>by
  rcases z with h|⟨G,e',y,C,v,ag,M,p,O,_,_⟩;.exact h
  .exfalso;have:(Entry.row e' y C false).block κ G=some b:=by simp[Entry.block,p,O,f]
   exact hs.sep id G _ _ b (by omega) A M q this
 refine⟨hs.hb,λid n v h=> ?_,λid e h=> ?_,λi j e e' b ai J T aa hb2=> ?_,λa z=> ?_,hs.glob.mono (yaf _) (λ_ h=> .inl h) (λ_ _=>rfl) (λ_ _=>rfl)⟩;.obtain⟨d,p⟩:=D _ _ _ h;obtain⟨e,J,T⟩:=hs.dom _ _ _ p;exact⟨e,by rw[ybz,if_pos d];exact J,T⟩
 .obtain⟨d,A⟩:=E _ _ h;have F:=hs.ent _ _ A;have q:=H id e d A;cases e with
  |dead _=>trivial
  |var t Q=>obtain⟨b,cs,p,r,s,R,B,l⟩:=F;exact⟨b,cs,zcS p d,r,s,R.under (λ_ h=> .inl h) q,B,λa z f=>l a (k id _ b d A (by simp[Entry.block,p]) a f z) f⟩
  |row ty y C im=>obtain⟨v,xs,p,U,R,K,W,B,X,l⟩:=F;have aj:C.flatten.all (AV.under m)=true:=(by simp only[Entry.under,ya1]at q⊢;intro x hx;obtain⟨c,hc,ad⟩:=ybq.1 hx;exact q c hc x ad);refine⟨v,xs,zcS p d,U,R.under (λ_ h=> .inl h) aj,K,W,B,λS=>⟨(X S).1,λj h h'=>((X S).2 j h h').mono (λ_ h=> .inl h) (λ_ _=>rfl)⟩,λg hg=> ?_⟩;obtain⟨k1,k2⟩:=l g hg;exact⟨λa z f=>k1 a (k id _ g d A (by simp[Entry.block,p,hg]) a f z) f,λS o ho=> .inl (k2 S o ho)⟩
  |mp kv=>obtain⟨b,es,u,p,r,s,K,R,l⟩:=F;simp only[Entry.under,ya1]at q;exact⟨b,es,u,zcS p d,r,s,K,λj Z ab=>⟨(R j Z ab).1.mono (λ_ h=> .inl h) (λ_ _=>rfl),(R j Z ab).2.under (λ_ h=> .inl h) (q _ (yaw Z))⟩,λa z f=>l.1 a (k id _ b d A (by simp[Entry.block,p]) a f z) f,l.2⟩
  |itr ak n left al=>
   obtain⟨b,p,r,l,h⟩:=F;refine⟨b,zcS p d,r,λa z f=>l a (k id _ b d A (by simp[Entry.block,p]) a f z) f, ?_⟩;cases ak with
   |none=>exact h
   |some i=>simp only[Entry.under,Option.all_some,decide_eq_true_eq]at q;obtain⟨c,es,u,L,Y,c0,J,T⟩:=h;exact⟨c,es,u,L,Y,c0,zcS J q,T⟩
  |obj o=>obtain⟨b,p,r,l,h⟩:=F;exact⟨b,zcS p d,r,λa z f=>l a (k id _ b d A (by simp[Entry.block,p]) a f z) f,h⟩
 .obtain⟨S,ae⟩:=E _ _ J;obtain⟨Z,af⟩:=E _ _ T;rw[I _ _ S]at aa;rw[I _ _ Z]at hb2;exact hs.sep i j e e' b ai ae af aa hb2
 .rcases z with h|⟨G,e',y,C,v,ag,M,p,O,ah,_⟩;.exact hs.imlt a h
  .have:(Entry.row e' y C false).block κ G=some a.block:=(by simp[Entry.block,p,O]);exact⟨((hs.ent _ _ M).block_ge this).2,ah⟩
theorem zAg {fn:Func}{rs:List (Nat×Option (Bool×Nat))}{σ₀ σ':zaa}{R:AV->zaa->Prop}{κ κ':Key}{Im Im':Addr->Prop}{w w':World}{f':Frame}{a':Act}(hrs:fn.results.toList.mapM (zoj P)=some rs)(hs:SRel base κ Im σ₀ w)
  (hfr:FRel κ' Im' w' f' a') (hst:SRel base κ' Im' σ' w') (hgr:Grow base κ Im w κ' Im' w'):zxQ σ₀ R rs f' σ'->∃v,(results fn a'.tmps).run P w'=.ok v w'/\(∃r σ'' v' κ'' Im'',Ending.returned v=.returned v'/\R r σ''/\SRel base κ'' Im'' σ'' w'/\Grow base κ Im w κ'' Im'' w'/\VR κ'' Im'' w' r v'):=by
 rintro⟨u,r,m,x,b,y,z,A⟩;obtain⟨j,s,q⟩:=z2f (P:=P) hst hfr hrs x;have f:VR (cut κ' m) (zoE κ' Im' σ' m) w' r (if h:j.toArray.size=1 then j.toArray[0]else .tuple j.toArray):=by
  rcases b with b|⟨rfl,b⟩;.exact zCO hst (z0b q) b
  .exact(z0b q).under (λ_ h=> .inl h) b
 refine⟨_, ?_,r,σ'.take m,_,cut κ' m,zoE κ' Im' σ' m,rfl,A,hst.take hs y hgr z, ?_,f⟩;.unfold results;rw[Array.mapM_eq_mapM_toList];simp only[ya0,Sem.run_map,yas];exact congrArg (λ(r:Result (List Value))=>(r.andThen λa w'=>Result.ok a.toArray w').andThen λa w'=>Sem.run P (pure (if h:a.size=1 then a[0]else Value.tuple a)) w') s
 .refine⟨λi n v g=>zcS (hgr.kap _ _ _ g) ?_,λa c=> .inl (hgr.im a c),hgr.cell,λa c=> ?_,hgr.below⟩;.obtain⟨e,t,_⟩:=hs.dom _ _ _ g;have:=(yaa.1 t).1;omega
  .rcases c with c|⟨k,B,d,l,v,C,o,g,p,D,_⟩;.exact hgr.new a c
   .have:(Entry.row B d l false).block κ' k=some a.block:=(by simp[Entry.block,g,p]);exact .inr ((hst.ent _ _ o).block_ge this).1
theorem zBy {fn:Func}{args:List AV}{vs:List Value}(hargs:args.length<=fn.ntmps)(hv:VRL κ Im w args vs):(vs.toArray++Array.replicate (fn.ntmps-vs.toArray.size) undef).size=fn.ntmps/\FRel κ Im w (zuV args) {tmps:=vs.toArray++Array.replicate (fn.ntmps-vs.toArray.size) undef,defers:= []}:=by
 have a:=hv.1;refine⟨by simp;omega,λt=> ?_⟩;show VR κ Im w (args.getD t .junk) ((vs.toArray++Array.replicate (fn.ntmps-vs.toArray.size) undef).getD t undef);by_cases c:t<args.length
 .have b:t<vs.length:=by rw[<-a];exact c
  have d:args.getD t .junk=args[t]:=by simp[c]
  have e:(vs.toArray++Array.replicate (fn.ntmps-vs.toArray.size) undef).getD t undef=vs[t]:=by simp[ybj,Array.getElem?_append,b]
  rw[d,e];exact hv.2 t c b
 .have d:args.getD t .junk=.junk:=by rw[List.getD_eq_getElem?_getD,ybv (yep c)];rfl
  rw[d];exact .im _ _ (.junk _)
theorem zC2 (hm:P.follows .mixedOrders=true){loud:List FuncId}{fn:Func}{c:Code}{rs:List (Nat×Option (Bool×Nat))}{args:List AV}{σ₀:zaa}{R:AV->zaa->Prop}(hrs:fn.results.toList.mapM (zoj P)=some rs)(hargs:args.length<=fn.ntmps)
  (h:awp P (comp P fn.ntmps loud c) (zzW σ₀ R rs) (zuV args) σ₀) {base:Nat} {κ:Key} {Im:Addr->Prop} {w:World} {vs:List Value} (hs:SRel base κ Im σ₀ w) (hv:VRL κ Im w args vs):
  c.wp P (bodyPost P fn λe w'=>∃r σ' v κ' Im',e=.returned v/\R r σ'/\SRel base κ' Im' σ' w'/\Grow base κ Im w κ' Im' w'/\VR κ' Im' w' r v) {tmps:=vs.toArray++Array.replicate (fn.ntmps-vs.toArray.size) undef,defers:= []} w:=by
 obtain⟨d,f⟩:=zBy (fn:=fn) hargs hv;refine zCu hm (N:=fn.ntmps) (loud:=loud) (D:= []) c _ _ (zuV args) σ₀ κ Im _ w ?_ h ⟨f,d,rfl,hs,Grow.refl _ _ _ _⟩;intro e g σ' κ' Im' i w' b a;cases e with
 |normal=>exact⟨a.df,zAg hrs hs a.fr a.st a.gr b⟩
 |ret=>exact⟨a.df,zAg hrs hs a.fr a.st a.gr b⟩
 |exit id=>exact b.elim
theorem zmQ (hm:P.follows .mixedOrders=true){loud:List FuncId}{f:FuncId}{af:AFunc}{args:List AV}{σ₀:zaa}{R:AV->zaa->Prop}(hf:zab P loud f=some af)(hargs:args.length<=af.n)
  (h:awp P af.code (zzW σ₀ R af.res) (zuV args) σ₀):ACalls P f args σ₀ R:=by
 unfold zab at hf;simp only[yak,yac,yau,yab]at hf;obtain⟨i,b,c,a,j,d,rfl⟩:=hf;intro base κ Im w k e g;exact calls_of_wp b a (zC2 hm d hargs h e g)
end
universe u
inductive Tg {α:Sort u}:α->Type u
 |mk (a:α):Tg a
def ob (K:AV->Prop)(_:Tg K)(o:Option AV):Prop:=∃r,o=some r/\K r
theorem zAY (a:AV)(K:AV->Prop)(t:Tg K):ob K t (some a)=K a:=by simp[ob]
def cb (A B:Prop)(_:Tg A)(_:Tg B)(v:AV):Prop:=∃b,v=.bool b/\(b=true->A)/\(b=false->B)
theorem zBm (A B:Prop)(s:Tg A)(t:Tg B):cb A B s t (.bool true)=A:=by simp[cb]
theorem z7B (A B:Prop)(s:Tg A)(t:Tg B):cb A B s t (.bool false)=B:=by simp[cb]
theorem zz5 {b:Bool}{A B:Prop}{s:Tg A}{t:Tg B}(h1:b=true->A)(h2:b=false->B):cb A B s t (.bool b):=⟨b,rfl,h1,h2⟩
theorem zap {p:Prop} [Decidable p]{A B:Prop}{s:Tg A}{t:Tg B}(h1:p->A)(h2:¬p->B):cb A B s t (.bool (decide p)):=⟨_,rfl,λh=>h1 (by simpa using h),λh=>h2 (by simpa using h)⟩
def gd (b:Bool)(A B:Prop)(_:Tg A)(_:Tg B)(v:AV):Prop:=∃w,zyJ v b w/\(w=true->A)/\(w=false->B)
theorem z2Q (b w:Bool)(A B:Prop)(s:Tg A)(t:Tg B)(v:AV)(h:zyJ v b w)(hu:∀w',zyJ v b w'->w'=w):gd b A B s t v=if w=true then A else B:=by
 unfold gd;apply propext;constructor
 .rintro⟨w',a,c,d⟩;have:=hu w' a;subst this;cases w' with
  |true=>exact c rfl
  |false=>exact d rfl
 .intro a;refine⟨w,h,λe=> ?_,λe=> ?_⟩<;>(subst e;exact a)
theorem zhC (c b:Bool):zyJ (.bool c) b (c==b):=.inr ⟨c,rfl,rfl⟩
theorem zgk (c b w:Bool)(h:zyJ (.bool c) b w):w=(c==b):=by
 rcases h with ⟨h,_⟩|⟨a,h,rfl⟩;.cases h
 .cases h;rfl
theorem zE0 (A B:Prop)(s:Tg A)(t:Tg B):gd true A B s t (.bool true)=A:=z2Q _ _ _ _ _ _ _ (zhC _ _) (zgk _ _)
theorem zDT (A B:Prop)(s:Tg A)(t:Tg B):gd false A B s t (.bool true)=B:=z2Q _ _ _ _ _ _ _ (zhC _ _) (zgk _ _)
theorem zDN (A B:Prop)(s:Tg A)(t:Tg B):gd true A B s t (.bool false)=B:=z2Q _ _ _ _ _ _ _ (zhC _ _) (zgk _ _)
theorem zEd (A B:Prop)(s:Tg A)(t:Tg B):gd false A B s t (.bool false)=A:=z2Q _ _ _ _ _ _ _ (zhC _ _) (zgk _ _)
theorem gd_u (b:Bool)(A B:Prop)(s:Tg A)(t:Tg B):gd b A B s t (.any undef)=B:=z2Q _ false _ _ _ _ _ (.inl ⟨rfl,rfl⟩) λa h=>by
 rcases h with ⟨_,h⟩|⟨c,h,_⟩;.exact h
 .cases h
theorem gd_t {b:Bool}{A B:Prop}{s:Tg A}{t:Tg B}(h1:b=true->A)(h2:b=false->B):gd true A B s t (.bool b):=⟨b,by simpa using zhC b true,h1,h2⟩
theorem zDR {p:Prop} [Decidable p]{A B:Prop}{s:Tg A}{t:Tg B}(h1:p->A)(h2:¬p->B):gd true A B s t (.bool (decide p)):=gd_t (λh=>h1 (by simpa using h)) (λh=>h2 (by simpa using h))
def ac [Globs](P:Program)(K:AV->zaa->Prop)(_:Tg K)(σ:zaa)(g:FuncId)(args:List AV):Prop:=zuX P σ K g args
def qc [Globs](P:Program)(K:AV->zaa->Prop)(_:Tg K)(σ:zaa)(g:FuncId)(args:List AV):Prop:=zvA P σ K g args
def lp [Globs](P:Program)(c:ACode)(_:Tg c)(Q:AExit->Frame->zaa->Prop)(_:Tg Q)(f:Frame)(_:Tg f)(σ:zaa)(_:Tg σ):Prop:=awp P (.loop c) Q f σ
section
variable {P:Program}{K:AV->zaa->Prop}{f:Frame}{σ:zaa}
theorem z0V {Q:Frame->zaa->Prop}:zcZ P Q [] f σ=Q f σ:=propext Iff.rfl
theorem zyX {Q:Frame->zaa->Prop}{d:Option Nat}{o:AOp}{rest:List AIns}:zcZ P Q (⟨none,d,o⟩::rest) f σ=zat P (λr σ'=>zcZ P Q rest (f.put d r) σ') f σ o:=propext Iff.rfl
theorem zwY {Q:Frame->zaa->Prop}{t:Nat}{b:Bool}{d:Option Nat}{o:AOp}{rest:List AIns}:
  zcZ P Q (⟨some (t,b),d,o⟩::rest) f σ=gd b (zat P (λr σ'=>zcZ P Q rest (f.put d r) σ') f σ o) (zcZ P Q rest (f.put d (.any undef)) σ) (.mk _) (.mk _) (f t):=propext Iff.rfl
theorem zDO (x:Opd):zat P K f σ (.mv x)=ob (λr=>K r σ) (.mk _) (zaw σ f (.mv x)):=propext Iff.rfl
theorem zB7 (c a b:Opd):zat P K f σ (.pick c a b)=ob (λr=>K r σ) (.mk _) (zaw σ f (.pick c a b)):=propext Iff.rfl
theorem zD3 (op:BinOp)(x y:Opd):zat P K f σ (.bin op x y)=ob (λr=>K r σ) (.mk _) (zaw σ f (.bin op x y)):=propext Iff.rfl
theorem zDs (n:Bool)(x y:Opd):zat P K f σ (.beq n x y)=ob (λr=>K r σ) (.mk _) (zaw σ f (.beq n x y)):=propext Iff.rfl
theorem zCM (n:Bool)(k:List Nat)(x y:Opd):zat P K f σ (.eqs n k x y)=ob (λr=>K r σ) (.mk _) (zaw σ f (.eqs n k x y)):=propext Iff.rfl
theorem zDB (x:Opd):zat P K f σ (.not x)=ob (λr=>K r σ) (.mk _) (zaw σ f (.not x)):=propext Iff.rfl
theorem zDx (x:Opd):zat P K f σ (.neg x)=ob (λr=>K r σ) (.mk _) (zaw σ f (.neg x)):=propext Iff.rfl
theorem zB4 (k:IntKind)(x:Opd):zat P K f σ (.conv k x)=ob (λr=>K r σ) (.mk _) (zaw σ f (.conv k x)):=propext Iff.rfl
theorem zDa (x:Opd)(i:Nat):zat P K f σ (.ext x i)=ob (λr=>K r σ) (.mk _) (zaw σ f (.ext x i)):=propext Iff.rfl
theorem z7D (z:List AV)(p:List (Nat×Nat×Opd)):zat P K f σ (.build z p)=ob (λr=>K r σ) (.mk _) (zaw σ f (.build z p)):=propext Iff.rfl
theorem z7x (o s:Nat)(a:Bool)(x:Opd):zat P K f σ (.field o s a x)=ob (λr=>K r σ) (.mk _) (zaw σ f (.field o s a x)):=propext Iff.rfl
theorem zCo (a:Bool)(s:Nat)(x:Opd):zat P K f σ (.load a s x)=ob (λr=>K r σ) (.mk _) (zaw σ f (.load a s x)):=propext Iff.rfl
theorem z6L (x:Opd):zat P K f σ (.nilck x)=ob (λr=>K r σ) (.mk _) (zaw σ f (.nilck x)):=propext Iff.rfl
theorem z7V (o:Nat)(x:Opd):zat P K f σ (.faddr o x)=ob (λr=>K r σ) (.mk _) (zaw σ f (.faddr o x)):=propext Iff.rfl
theorem z7I (s:Nat)(x i:Opd):zat P K f σ (.iaddr s x i)=ob (λr=>K r σ) (.mk _) (zaw σ f (.iaddr s x i)):=propext Iff.rfl
theorem z6Z (l s:Nat)(x i:Opd):zat P K f σ (.aaddr l s x i)=ob (λr=>K r σ) (.mk _) (zaw σ f (.aaddr l s x i)):=propext Iff.rfl
theorem zAR (x i:Opd):zat P K f σ (.sidx x i)=ob (λr=>K r σ) (.mk _) (zaw σ f (.sidx x i)):=propext Iff.rfl
theorem zBA (l s:Nat)(a:Bool)(x i:Opd):zat P K f σ (.aidx l s a x i)=ob (λr=>K r σ) (.mk _) (zaw σ f (.aidx l s a x i)):=propext Iff.rfl
theorem zBL (x:Opd):zat P K f σ (.slen x)=ob (λr=>K r σ) (.mk _) (zaw σ f (.slen x)):=propext Iff.rfl
theorem zCQ (x:Opd):zat P K f σ (.len x)=ob (λr=>K r σ) (.mk _) (zaw σ f (.len x)):=propext Iff.rfl
theorem zCe (x:Opd)(l h:Option Opd):zat P K f σ (.sslc x l h)=ob (λr=>K r σ) (.mk _) (zaw σ f (.sslc x l h)):=propext Iff.rfl
theorem zCD (s:Nat)(x:Opd)(l h:Option Opd):zat P K f σ (.slc s x l h)=ob (λr=>K r σ) (.mk _) (zaw σ f (.slc s x l h)):=propext Iff.rfl
theorem zEy (m:Bool)(x y:Opd):zat P K f σ (.mm m x y)=ob (λr=>K r σ) (.mk _) (zaw σ f (.mm m x y)):=propext Iff.rfl
theorem zBl (g:Fn)(a b:List Opd):zat P K f σ (.mkfn g a b)=ob (λr=>K r σ) (.mk _) (zaw σ f (.mkfn g a b)):=propext Iff.rfl
theorem zBB (t:TypeId)(x:Opd):zat P K f σ (.mkif t x)=ob (λr=>K r σ) (.mk _) (zaw σ f (.mkif t x)):=propext Iff.rfl
theorem z8g (ty:Nat)(cells:List AV):zat P K f σ (.alloc ty cells)=K (.ptr σ.length 0) (σ++ [.var ty cells]):=propext Iff.rfl
theorem zB8 (g:FuncId)(args:List Opd):zat P K f σ (.call g args)=ac P K (.mk _) σ g (args.map (·.ev f)):=propext Iff.rfl
theorem z7r (g:FuncId)(args:List Opd):zat P K f σ (.qcall g args)=qc P K (.mk _) σ g (args.map (·.ev f)):=propext Iff.rfl
def sb (K:zaa->Prop)(_:Tg K)(o:Option zaa):Prop:=∃r,o=some r/\K r
theorem zBe (a:zaa)(K:zaa->Prop)(t:Tg K):sb K t (some a)=K a:=by simp[sb]
def zBa (σ:zaa)(size:Nat)(x v:AV):Option zaa:=if v.cells.length=size/\v.cells.all AV.one=true then zzn σ x v.cells else none
theorem z6I (n:Nat)(x v:Opd):zat P K f σ (.store n x v)=sb (λσ'=>K .junk σ') (.mk _) (zBa σ n (x.ev f) (v.ev f)):=by
 unfold zBa sb;simp only[zat];apply propext;constructor;.rintro⟨σ',a,b,d,e⟩;exact⟨σ',by rw[if_pos ⟨a,ya1.2 b⟩];exact d,e⟩
 .rintro⟨σ',a,b⟩;split at a;.rename_i c;exact⟨σ',c.1,ya1.1 c.2,a,b⟩
  .cases a
theorem zCU (ty:Nat)(x:Opd)(h:(x.ev f).cells.all AV.one=true):zat P K f σ (.box ty x)=K (.ptr σ.length 0) (σ++ [.var ty (x.ev f).cells]):=by simp only[zat];exact propext ⟨λa=>a.2,λa=>⟨ya1.1 h,a⟩⟩
def zAy (σ:zaa)(f:Frame)(size:Nat)(zero:List AV)(n:Nat)(parts:List (Nat×Opd)):Option AV:=(parts.mapM λ(p:Nat×Opd)=>(share σ (p.2.ev f)).bind λv=>if v.cells.length=size/\v.cells.all AV.one then some (p.1*size,v.cells)else none).map λps=> .lst (zaY n size (lay (List.replicate n zero).flatten ps))
theorem z8N (e size:Nat)(zero:List AV)(n:Nat)(parts:List (Nat×Opd)):zat P K f σ (.mklst e size zero n parts)=ob (λr=>K r σ) (.mk _) (zAy σ f size zero n parts):=by
 unfold ob zAy;simp only[zat];apply propext;constructor;.rintro⟨c,a,b⟩;exact⟨_,by rw[a];rfl,b⟩
 .rintro⟨r,a,b⟩;simp only[yae]at a;obtain⟨c,d,rfl⟩:=a;exact⟨c,d,b⟩
def AV.els:AV->List (List AV)
 | .lst l=>l
 |_=> []
def zAu (f:Frame)(size:Nat)(zero:List AV)(n:Nat)(parts:List (Nat×Opd)):Option AV:=if 0<size then(parts.mapM λ(p:Nat×Opd)=>if(p.2.ev f).cells.length=size/\(p.2.ev f).cells.all AV.one then some (p.1*size,(p.2.ev f).cells)else none).map λps=> .lst (zaY n size (lay (List.replicate n zero).flatten ps))else none
theorem z9f (e size:Nat)(zero:List AV)(n:Nat)(parts:List (Nat×Opd)):zat P K f σ (.mkrow e size zero n parts)=ob (λr=>K (.row σ.length n) (σ++ [.row e size r.els false])) (.mk _) (zAu f size zero n parts):=by
 unfold ob zAu;simp only[zat];apply propext;constructor;.rintro⟨b,a,d,c⟩;exact⟨.lst (zaY n size (lay (List.replicate n zero).flatten b)),by rw[if_pos d,a];rfl,c⟩
 .rintro⟨r,a,d⟩;split at a
  case isFalse=>cases a
  rename_i g;simp only[yae]at a;obtain⟨b,c,rfl⟩:=a;exact⟨b,c,g,d⟩
theorem zDQ (o:XOp):zat P K f σ (.px o)=ob (λr=>K r σ) (.mk _) (zaw σ f (.px o)):=propext Iff.rfl
theorem z1P (x:Opd):zat P K f σ (.tobytes x)=ob (λr=>K r σ) (.mk _) (zia (x.ev f)):=propext Iff.rfl
theorem z82:zat P K f σ (.ex .mkmap)=K (.map σ.length) (σ++ [.mp []]):=propext ⟨λ⟨_,_,⟨h1,h2⟩,h⟩=>by subst h1;subst h2;exact h,λh=>⟨_,_,⟨rfl,rfl⟩,h⟩⟩
def z0p (σ:zaa)(kind:Nat)(X k v:AV):Option zaa:=match X with
 | .map id=>match σ[id]? with
  |some (.mp kv)=>if k.pure=true/\zbr σ=true then(zd2 kind k v kv).map λkv'=>σ.set id (.mp kv')else none
  |_=>none
 |_=>none
theorem zBX (kind:Nat)(x k v:Opd):zat P K f σ (.ex (.mset kind x k v))=sb (λσ'=>K .junk σ') (.mk _) (z0p σ kind (x.ev f) (k.ev f) (v.ev f)):=by
 apply propext;constructor;.rintro⟨r,σ',⟨rfl,id,e,a,b,i,j,l,m,rfl⟩,c⟩;exact⟨_,by simp only[z0p,b,i,j,l,m,and_self,if_true,Option.map_some],c⟩
 .rintro⟨σ',h,c⟩;unfold z0p at h;split at h
  case h_2=>cases h
  rename_i id n;split at h
  case h_2=>cases h
  rename_i e d;split at h
  case isFalse=>cases h
  rename_i g;simp only[yae]at h;obtain⟨a,b,rfl⟩:=h;exact⟨_,_,⟨rfl,id,e,a,n,d,g.1,b,g.2,rfl⟩,c⟩
theorem zC9 (size:Nat)(z:List AV)(x:Opd):zat P K f σ (.ex (.clr size z x))=sb (λσ'=>K (.tup []) σ') (.mk _) (z5G σ size z (x.ev f)):=propext ⟨λ⟨_,_,⟨h1,a⟩,h⟩=>⟨_,a,by subst h1;exact h⟩,λ⟨_,a,h⟩=>⟨_,_,⟨rfl,a⟩,h⟩⟩
theorem zAA (kind:Nat)(x k:Opd):zat P K f σ (.ex (.mdel kind x k))=sb (λσ'=>K (.tup []) σ') (.mk _) (z3U σ kind (k.ev f) (x.ev f)):=propext ⟨λ⟨_,_,⟨h1,a⟩,h⟩=>⟨_,a,by subst h1;exact h⟩,λ⟨_,a,h⟩=>⟨_,_,⟨rfl,a⟩,h⟩⟩
theorem zDA (x:Opd):zat P K f σ (.ex (.rng x))=sb (λσ'=>K (.ptr σ.length 0) σ') (.mk _) (z4c σ (x.ev f)):=propext ⟨λ⟨_,_,⟨h1,a⟩,h⟩=>⟨_,a,by subst h1;exact h⟩,λ⟨_,a,h⟩=>⟨_,_,⟨rfl,a⟩,h⟩⟩
def apT (K:AV->zaa->Prop)(_:Tg K)(σ:zaa)(e size bytes:Nat)(x y:AV):Prop:=∃(l m:List (List AV)) (im:Bool),x=.tight l/\view σ y=some m/\0<size/\(∀c∈m,c.length=size)/\(∀c∈l,c.length=size)/\m≠ []/\(im=true->znD σ y m)/\(l.length+m.length)*bytes<=140737488355328/\l.length+m.length<=9223372036854775807/\K (.row σ.length (l.length+m.length)) (σ++ [.row e size (l++m) im])
theorem zDj (e size bytes:Nat)(x y:Opd):zat P K f σ (.apt e size bytes x y)=apT K (.mk _) σ e size bytes (x.ev f) (y.ev f):=propext Iff.rfl
def nt (K:AV->zaa->Prop)(_:Tg K)(σ:zaa)(x:AV):Prop:=match x with
 | .ptr id 0=>match σ[id]? with
  |some (.itr mid n left last)=>(left= []->K (.tup [.bool false]) σ)/\∀i∈left,K (.tup [.bool true,.junk,.junk]) (σ.set id (.itr mid n (left.erase i) i))
  |_=>False
 |_=>False
theorem zD6 (x:Opd):zat P K f σ (.nxt x)=nt K (.mk _) σ (x.ev f):=propext Iff.rfl
def ap (K:AV->zaa->Prop)(_:Tg K)(σ:zaa)(e size bytes:Nat)(x y:AV):Prop:=∃m,view σ y=some m/\0<size/\(∀c∈m,c.length=size)/\match x with
 | .nils=>(m= []/\K .nils σ)∨∃im,(im=true->znD σ y m)/\m.length*bytes<=140737488355328/\m.length<=9223372036854775807/\K (.row σ.length m.length) (σ++ [.row e size m im])
 | .row id n=>∃els im,σ[id]? =some (.row e size els im)/\(im=true->znD σ y m)/\els.length=n/\(n+m.length)*bytes<=140737488355328/\n+m.length<=9223372036854775807/\K (.row id (n+m.length)) (σ.set id (.row e size (els++m) im))
 | .sub id n sz lo hi=>∃els,σ[id]? =some (.row e size els false)/\els.length=n/\0<n/\sz=size/\lo=0/\(hi+m.length)*bytes<=140737488355328/\hi+m.length<=9223372036854775807/\K (.row σ.length (hi+m.length)) (σ.set id (.dead n)++ [.row e size (els.take hi++m) false])
 | .tight l=>∃im,(∀c∈l,c.length=size)/\m≠ []/\(im=true->znD σ y m)/\(l.length+m.length)*bytes<=140737488355328/\l.length+m.length<=9223372036854775807/\K (.row σ.length (l.length+m.length)) (σ++ [.row e size (l++m) im])
 |_=>False
theorem zDl (e size bytes:Nat)(x y:Opd):zat P K f σ (.app e size bytes x y)=ap K (.mk _) σ e size bytes (x.ev f) (y.ev f):=propext Iff.rfl
theorem zf6 (im:Bool){t:Tg K}{e size bytes:Nat}{y:AV}(m:List (List AV))(hv:view σ y=some m)(hs:0<size)(hl:∀c∈m,c.length=size)(hf:im=true->znD σ y m)(hb:m.length*bytes<=140737488355328)(h63:m.length<=9223372036854775807)
  (hK:K (.row σ.length m.length) (σ++ [.row e size m im])):ap K t σ e size bytes .nils y:=⟨m,hv,hs,hl,.inr ⟨im,hf,hb,h63,hK⟩⟩
theorem zbJ {t:Tg K}{e size bytes id n:Nat}{y:AV}(els m:List (List AV))(im:Bool)(he:σ[id]? =some (.row e size els im))(hv:view σ y=some m)(hs:0<size)(hl:∀c∈m,c.length=size)(hf:im=true->znD σ y m)(hn:els.length=n)(hb:(n+m.length)*bytes<=140737488355328)(h63:n+m.length<=9223372036854775807)
  (hK:K (.row id (n+m.length)) (σ.set id (.row e size (els++m) im))):ap K t σ e size bytes (.row id n) y:=⟨m,hv,hs,hl,els,im,he,hf,hn,hb,h63,hK⟩
def aps (K:AV->zaa->Prop)(_:Tg K)(σ:zaa)(e:Nat)(x y:AV):Prop:=∃l,y=.str l/\match x with
 | .nils=>(l= []/\K .nils σ)∨∃im,l.length<=140737488355328/\K (.row σ.length l.length) (σ++ [.row e 1 (byteEls l) im])
 | .row id n=>∃els im,σ[id]? =some (.row e 1 els im)/\els.length=n/\n+l.length<=140737488355328/\K (.row id (n+l.length)) (σ.set id (.row e 1 (els++byteEls l) im))
 |_=>False
theorem zAO (e:Nat)(x y:Opd):zat P K f σ (.apps e x y)=aps K (.mk _) σ e (x.ev f) (y.ev f):=propext Iff.rfl
theorem zBr {t:Tg K}{e id n:Nat}{l:List UInt8}(els:List (List AV))(im:Bool)(he:σ[id]? =some (.row e 1 els im))(hn:els.length=n)(hb:n+l.length<=140737488355328)
  (hK:K (.row id (n+l.length)) (σ.set id (.row e 1 (els++byteEls l) im))):aps K t σ e (.row id n) (.str l):=⟨l,rfl,els,im,he,hn,hb,hK⟩
theorem zzc {Q:AExit->Frame->zaa->Prop}:awp P (.all []) Q f σ=True:=propext ⟨λ_=>trivial,λ_ _ h=>by cases h⟩
theorem zxz {Q:AExit->Frame->zaa->Prop}(l:List AIns)(ls:List (List AIns)):awp P (.all (l::ls)) Q f σ=(zcZ P (Q .normal) l f σ/\awp P (.all ls) Q f σ):=propext ⟨λh=>⟨h l (by simp),λb a=>h b (by simp[a])⟩,λh b a=>by
  rcases ybe.1 a with rfl|a;.exact h.1
  .exact h.2 b a⟩
theorem z8n {Q:AExit->Frame->zaa->Prop}:awp P .skip Q f σ=Q .normal f σ:=propext Iff.rfl
theorem zBJ {Q:AExit->Frame->zaa->Prop}(l:List AIns):awp P (.ops l) Q f σ=zcZ P (Q .normal) l f σ:=propext Iff.rfl
theorem zCg {Q:AExit->Frame->zaa->Prop}(a b:ACode):awp P (.seq a b) Q f σ=awp P a (AExit.then (awp P b Q) Q) f σ:=propext Iff.rfl
theorem z6R {Q:AExit->Frame->zaa->Prop}(c:Opd)(x y:ACode):awp P (.cond c x y) Q f σ=cb (awp P x Q f σ) (awp P y Q f σ) (.mk _) (.mk _) (c.ev f):=propext Iff.rfl
theorem z8D {Q:AExit->Frame->zaa->Prop}(c:ACode):awp P (.loop c) Q f σ=lp P c (.mk _) Q (.mk _) f (.mk _) σ (.mk _):=propext Iff.rfl
theorem zmP {Q:AExit->Frame->zaa->Prop}(id:Nat)(c:ACode):awp P (.block id c) Q f σ=awp P c (AExit.inBlock id Q) f σ:=propext Iff.rfl
theorem z7q {Q:AExit->Frame->zaa->Prop}(id:Nat):awp P (.exit id) Q f σ=Q (.exit id) f σ:=propext Iff.rfl
theorem zBK {Q:AExit->Frame->zaa->Prop}:awp P .ret Q f σ=Q .ret f σ:=propext Iff.rfl
theorem zya {N:Frame->zaa->Prop}{Q:AExit->Frame->zaa->Prop}:AExit.then N Q .normal f σ=N f σ:=propext Iff.rfl
theorem zwZ {N:Frame->zaa->Prop}{Q:AExit->Frame->zaa->Prop}:AExit.then N Q .normal=N:=funext λ_=>funext λ_=>propext Iff.rfl
theorem z4i {N:Frame->zaa->Prop}{Q:AExit->Frame->zaa->Prop}(id:Nat):AExit.then N Q (.exit id) f σ=Q (.exit id) f σ:=propext Iff.rfl
theorem z7H {N:Frame->zaa->Prop}{Q:AExit->Frame->zaa->Prop}:AExit.then N Q .ret f σ=Q .ret f σ:=propext Iff.rfl
theorem zsc {id:Nat}{Q:AExit->Frame->zaa->Prop}:AExit.inBlock id Q .normal f σ=Q .normal f σ:=propext Iff.rfl
theorem zrt {id:Nat}{Q:AExit->Frame->zaa->Prop}:AExit.inBlock id Q .normal=Q .normal:=funext λ_=>funext λ_=>propext Iff.rfl
theorem zyq {id:Nat}{Q:AExit->Frame->zaa->Prop}:AExit.inBlock id Q .ret f σ=Q .ret f σ:=propext Iff.rfl
theorem zw9 {id id':Nat}{Q:AExit->Frame->zaa->Prop}:AExit.inBlock id Q (.exit id') f σ=if id'=id then Q .normal f σ else Q (.exit id') f σ:=propext Iff.rfl
theorem zdJ:∀{c:ACode} {Q Q':AExit->Frame->zaa->Prop} {f:Frame} {σ:zaa},(∀e f σ,Q e f σ->Q' e f σ)->awp P c Q f σ->awp P c Q' f σ
 | .skip,_,_,_,_,h,h'=>h _ _ _ h'
 | .ops [],_,_,_,_,h,h'=>h _ _ _ h'
 | .ops (i::l),Q,Q',_,_,h,h'=>zrM (λf σ d=>zdJ (c:=.ops l) (Q:=Q) (Q':=Q') h d) h'
 | .all ls,Q,Q',_,_,h,h'=>λl m=>zdJ (c:=.ops l) (Q:=Q) (Q':=Q') h (h' l m)
 | .seq a b,_,_,_,_,h,h'=>zdJ (c:=a) (λe f σ d=>by cases e<;>first|exact zdJ (c:=b) h d|exact h _ _ _ d) h'
 | .cond c x y,_,_,_,_,h,⟨b,g,k,h3⟩=>⟨b,g,λj=>zdJ (c:=x) h (k j),λj=>zdJ (c:=y) h (h3 j)⟩
 | .block id c,_,_,_,_,h,h'=>zdJ (c:=c) (λe f σ d=>by
   cases e with
   |normal=>exact h _ _ _ d
   |exit q=>simp only[AExit.inBlock]at d⊢;split<;>rename_i p<;>simp only[p,if_true,if_false]at d<;>exact h _ _ _ d
   |ret=>exact h _ _ _ d) h'
 | .loop c,_,_,_,_,h,⟨I,n,d,hr⟩=>⟨I,n,d,λn f σ o=>zdJ (c:=c) (λe f σ g=>by cases e<;>first|exact g|exact h _ _ _ g) (hr n f σ o)⟩
 | .exit id,_,_,_,_,h,h'=>h _ _ _ h'
 | .ret,_,_,_,_,h,h'=>h _ _ _ h'
 | .gh,_,_,_,_,h,h'=>h'.imp (h _ _ _) λ⟨σ',g,k⟩=>⟨σ',g,h _ _ _ k⟩
 | .bad,_,_,_,_,_,h'=>h'
def ztE [Globs](σ:zaa)(f:Frame)(res:List (Nat×Option (Bool×Nat))):Option AV:=(res.mapM (zee σ f)).bind λrs=>fin σ 0 (zaK rs)
def z8M [Globs](R:AV->Prop)(_:Tg R)(res:List (Nat×Option (Bool×Nat))):AExit->Frame->zaa->Prop
 | .exit _,_,_=>False
 |_,f,σ=>ob R (.mk _) (ztE σ f res)
theorem z4r {R:AV->Prop}{t:Tg R}{res:List (Nat×Option (Bool×Nat))}:z8M R t res .ret f σ=ob R (.mk _) (ztE σ f res):=propext Iff.rfl
theorem zxe {R:AV->Prop}{t:Tg R}{res:List (Nat×Option (Bool×Nat))}:z8M R t res .normal f σ=ob R (.mk _) (ztE σ f res):=propext Iff.rfl
theorem zup (hm:P.follows .mixedOrders=true){loud:List FuncId}{g:FuncId}{af:AFunc}{args:List AV}{R:AV->Prop}(hf:zab P loud g=some af)(hargs:decide (args.length<=af.n)=true)
  (h:awp P af.code (z8M R (.mk _) af.res) (zuV args) []):PCalls P g args R:=by
 refine zmQ hm hf (of_decide_eq_true hargs) (zdJ (λe f σ c=> ?_) h);have a:ob R (.mk _) (ztE σ f af.res)->zxQ [] (λr σ'=>σ'= []/\R r) af.res f σ:=by rintro⟨r,b,k⟩;unfold ztE at b;simp only[yac]at b;obtain⟨d,i,j⟩:=b;exact⟨d,r,0,i,.inl j,yaf _,λid e h=>absurd h (Nat.not_lt_zero _),by simp,k⟩
 cases e with
 |normal=>exact a c
 |ret=>exact a c
 |exit id=>exact c.elim
theorem zju {lend:Bool}{args:List AV}(ha:args.all AV.pure=true):CoeL σ lend args args:=by
 induction args with
 |nil=>exact .nil
 |cons a l b=>simp only[List.all_cons,yb5]at ha;exact .cons (.pure a ha.1) (b ha.2)
theorem zfR {g:FuncId}{args:List AV}{R:AV->Prop}{t:Tg K}(hc:PCalls P g args R)(ha:args.all AV.pure=true)(hK:∀r,R r->K r σ):ac P K t σ g args:=.inl ⟨args,R,zju ha,hc,hK⟩
theorem zzo {g:FuncId}{args args':List AV}{R:AV->Prop}{t:Tg K}(hc:PCalls P g args' R)(ha:CoeL σ false args args')(hK:∀r,R r->K r σ):ac P K t σ g args:=.inl ⟨args',R,ha,hc,hK⟩
theorem z6c {g:FuncId}{args args':List AV}{R:AV->Prop}{t:Tg K}(hc:PCalls P g args' R)(ha:CoeL σ true args args')(hK:∀r,R r->rig r=true/\K r σ):ac P K t σ g args:=.inr (.inl ⟨args',R,ha,hc,hK⟩)
theorem zai {g:FuncId}{args:List AV}{R:AV->zaa->Prop}{t:Tg K}(hc:ACalls P g args σ R)(hK:∀r σ',R r σ'->K r σ'):ac P K t σ g args:=.inr (.inr (hc.mono hK))
theorem zbt {g:FuncId}{args:List AV}{r:AV}{t:Tg K}(hc:PCalls P g args (λr'=>r'=r))(ha:args.all AV.pure=true)(hr:rig r=true)(hK:K r σ):qc P K t σ g args:=⟨true,args,r,zju ha,hc,λ_=>hr,hK⟩
theorem zaX {g:FuncId}{args:List AV}{r:AV}{t:Tg K}(hc:PCalls P g args (λr'=>r'=r))(ha:args.all AV.pure=true)(hK:K r σ):qc P K t σ g args:=⟨false,args,r,zju ha,hc,nofun,hK⟩
theorem zBQ {g:FuncId}{args args':List AV}{r:AV}{t:Tg K}(hc:PCalls P g args' (λr'=>r'=r))(ha:CoeL σ true args args')(hr:rig r=true)(hK:K r σ):qc P K t σ g args:=⟨true,args',r,ha,hc,λ_=>hr,hK⟩
end
theorem z9n:AV.one (.junk)=false:=rfl
theorem z2p:AV.cells (.junk)= [.junk]:=rfl
theorem zBH (k:IntKind)(n:Int):AV.one (.int k n)=true:=rfl
theorem z47 (k:IntKind)(n:Int):AV.cells (.int k n)= [.int k n]:=rfl
theorem z7z (b:Bool):AV.one (.bool b)=true:=rfl
theorem z27 (b:Bool):AV.cells (.bool b)= [.bool b]:=rfl
theorem zBf (s:List UInt8):AV.one (.str s)=true:=rfl
theorem z5E (s:List UInt8):AV.cells (.str s)= [.str s]:=rfl
theorem zBx (k:FloatKind)(b:Nat):AV.one (.flt k b)=true:=rfl
theorem z33 (k:FloatKind)(b:Nat):AV.cells (.flt k b)= [.flt k b]:=rfl
theorem z74:AV.one (.nilp)=true:=rfl
theorem z1v:AV.cells (.nilp)= [.nilp]:=rfl
theorem zAL (i o:Nat):AV.one (.ptr i o)=true:=rfl
theorem z5Y (i o:Nat):AV.cells (.ptr i o)= [.ptr i o]:=rfl
theorem z9r (c:List AV):AV.one (.rptr c)=true:=rfl
theorem z2a (c:List AV):AV.cells (.rptr c)= [.rptr c]:=rfl
theorem z94:AV.one (.nils)=true:=rfl
theorem z2r:AV.cells (.nils)= [.nils]:=rfl
theorem zAr (l:List (List AV)):AV.one (.lst l)=true:=rfl
theorem z2H (l:List (List AV)):AV.cells (.lst l)= [.lst l]:=rfl
theorem zA7 (i n:Nat):AV.one (.row i n)=true:=rfl
theorem z5P (i n:Nat):AV.cells (.row i n)= [.row i n]:=rfl
theorem z9o (i n s k o:Nat):AV.one (.rowp i n s k o)=true:=rfl
theorem z24 (i n s k o:Nat):AV.cells (.rowp i n s k o)= [.rowp i n s k o]:=rfl
theorem zBn (i:Nat):AV.one (.map i)=true:=rfl
theorem z5X (i:Nat):AV.cells (.map i)= [.map i]:=rfl
theorem z83:AV.one (.nilm)=true:=rfl
theorem z1d:AV.cells (.nilm)= [.nilm]:=rfl
theorem zCB (f:Fn)(a b:List AV):AV.one (.fn f a b)=true:=rfl
theorem z6M (f:Fn)(a b:List AV):AV.cells (.fn f a b)= [.fn f a b]:=rfl
theorem z8b:AV.one (.nilf)=true:=rfl
theorem z0W:AV.cells (.nilf)= [.nilf]:=rfl
theorem z3m (t:TypeId)(v:AV):AV.one (.iface t v)=true:=rfl
theorem zxG (t:TypeId)(v:AV):AV.cells (.iface t v)= [.iface t v]:=rfl
theorem z8B:AV.one (.nili)=true:=rfl
theorem z1n:AV.cells (.nili)= [.nili]:=rfl
theorem zCq (l:List AV):AV.one (.agg l)=false:=rfl
theorem z5T (l:List AV):AV.cells (.agg l)=l:=rfl
theorem zBE (l:List AV):AV.one (.tup l)=false:=rfl
theorem z4w (l:List AV):AV.cells (.tup l)= [.tup l]:=rfl
theorem zCV (g o:Nat):AV.one (.gp g o)=true:=rfl
theorem z8f (g o:Nat):AV.cells (.gp g o)= [.gp g o]:=rfl
theorem zA5 (i o n s:Nat):AV.one (.asl i o n s)=true:=rfl
theorem z6n (i o n s:Nat):AV.cells (.asl i o n s)= [.asl i o n s]:=rfl
attribute [simp] zA5 z6n
theorem zAN (i n s l h:Nat):AV.one (.sub i n s l h)=true:=rfl
theorem z4Q (i n s l h:Nat):AV.cells (.sub i n s l h)= [.sub i n s l h]:=rfl
attribute [simp] zCV z8f zAN z4Q
theorem zBY (v:Value):AV.one (.any v)=false:=rfl
theorem z2P (v:Value):AV.cells (.any v)= [.any v]:=rfl
attribute [simp] z9n z2p zBH z47 z7z z27 zBf z5E zBx z33 z74 z1v zAL z5Y z9r z2a z94 z2r zAr z2H zA7 z5P z9o z24 zBn z5X z83 z1d zCB z6M z8b z0W z3m zxG z8B z1n zCq z5T zBE z4w zBY z2P
theorem z8q (σ:zaa)(m:Nat)(k:IntKind)(n:Int):fin1 σ m (.int k n)=some (.int k n):=by simp[fin1,AV.under]
theorem z4J (σ:zaa)(m:Nat)(b:Bool):fin1 σ m (.bool b)=some (.bool b):=by simp[fin1,AV.under]
theorem z7t (σ:zaa)(m:Nat)(s:List UInt8):fin1 σ m (.str s)=some (.str s):=by simp[fin1,AV.under]
theorem z8R (σ:zaa)(m:Nat)(k:FloatKind)(b:Nat):fin1 σ m (.flt k b)=some (.flt k b):=by simp[fin1,AV.under]
theorem z3i (σ:zaa)(m:Nat):fin1 σ m (.nilp)=some (.nilp):=by simp[fin1,AV.under]
theorem z4n (σ:zaa)(m:Nat)(c:List AV):fin1 σ m (.rptr c)=some (.rptr c):=by simp[fin1,AV.under]
theorem z8x (σ:zaa)(m:Nat)(l:List (List AV)):fin1 σ m (.lst l)=some (.lst l):=by simp[fin1,AV.under]
theorem z5g (σ:zaa)(m:Nat):fin1 σ m (.nilm)=some (.nilm):=by simp[fin1,AV.under]
theorem z4e (σ:zaa)(m:Nat):fin1 σ m (.nilf)=some (.nilf):=by simp[fin1,AV.under]
theorem z4F (σ:zaa)(m:Nat):fin1 σ m (.nili)=some (.nili):=by simp[fin1,AV.under]
theorem zA6 (σ:zaa)(m:Nat)(g o:Nat):fin1 σ m (.gp g o)=some (.gp g o):=by simp[fin1,AV.under]
theorem z6P (σ:zaa)(m i:Nat):fin1 σ m (.map i)=if i<m then some (.map i)else none:=by simp[fin1,AV.under]
theorem z9c (σ:zaa)(m i n size lo hi:Nat):fin1 σ m (.sub i n size lo hi)=(fz σ m 3 (.row i n)).bind fun
  | .lst l=>if∀c∈l,c.length=size then some (.lst ((l.take hi).drop lo))else none
  |_=>none:=rfl
attribute [simp] zA6 z6P z9c
theorem z5c (σ:zaa)(m:Nat):fin1 σ m .nils=some (.lst []):=rfl
theorem z8E (σ:zaa)(m i n:Nat):fin1 σ m (.row i n)=fz σ m 3 (.row i n):=rfl
theorem z7c (σ:zaa)(m i o:Nat):fin1 σ m (.ptr i o)=if i<m then some (.ptr i o)else none:=by simp[fin1,AV.under]
theorem z1K (σ:zaa)(m:Nat)(t:TypeId)(v:AV):fin1 σ m (.iface t v)=if v.under m then some (.iface t v)else none:=by simp[fin1,AV.under]
theorem zB6 (σ:zaa)(m:Nat)(g:Fn)(a b:List AV):fin1 σ m (.fn g a b)=if(AV.fn g a b).under m then some (.fn g a b)else none:=rfl
attribute [simp] z8q z4J z7t z8R z3i z4n z8x z5g z4e z4F z5c z8E z7c z1K zB6
theorem z3C (σ:zaa):view σ .nils=some []:=rfl
theorem z7w (σ:zaa)(l:List (List AV)):view σ (.lst l)=some l:=rfl
theorem z8W (σ:zaa)(id n:Nat):view σ (.row id n)=match σ[id]? with
  |some (.row _ _ els _)=>if els.length=n then some els else none
  |_=>none:=rfl
theorem z93 (σ:zaa)(id n size lo hi:Nat):view σ (.sub id n size lo hi)=match σ[id]? with
  |some (.row _ size' els _)=>if els.length=n/\size'=size then some ((els.take hi).drop lo)else none
  |_=>none:=rfl
attribute [simp] z93
theorem z98 (σ:zaa)(id off n size:Nat):view σ (.asl id off n size)=match σ[id]? with
  |some (.var _ cells)=>if off+n*size<=cells.length then some (zaY n size ((cells.drop off).take (n*size)))else none
  |_=>none:=rfl
attribute [simp] z98
theorem z2w (σ:zaa):zgp σ .nils=some []:=rfl
theorem z3G (σ:zaa)(l:List (List AV)):zgp σ (.lst l)=some l:=rfl
theorem z3B (σ:zaa)(id n:Nat):zgp σ (.row id n)=match σ[id]? with
  |some (.row _ _ els true)=>if els.length=n then some els else none
  |_=>none:=rfl
attribute [simp] z3C z7w z8W z2w z3G z3B
theorem zBV (σ:zaa)(m:Nat)(k:IntKind)(n:Int):fin σ m (.int k n)=fin1 σ m (.int k n):=rfl
theorem z7e (σ:zaa)(m:Nat)(k:IntKind)(n:Int):finT σ m (.int k n)=fin1 σ m (.int k n):=rfl
theorem z9q (σ:zaa)(m:Nat)(b:Bool):fin σ m (.bool b)=fin1 σ m (.bool b):=rfl
theorem z3X (σ:zaa)(m:Nat)(b:Bool):finT σ m (.bool b)=fin1 σ m (.bool b):=rfl
theorem zBg (σ:zaa)(m:Nat)(s:List UInt8):fin σ m (.str s)=fin1 σ m (.str s):=rfl
theorem z9j (σ:zaa)(m:Nat)(s:List UInt8):finT σ m (.str s)=fin1 σ m (.str s):=rfl
theorem zAx (σ:zaa)(m:Nat)(k:FloatKind)(b:Nat):fin σ m (.flt k b)=fin1 σ m (.flt k b):=rfl
theorem z89 (σ:zaa)(m:Nat)(k:FloatKind)(b:Nat):finT σ m (.flt k b)=fin1 σ m (.flt k b):=rfl
theorem z7h (σ:zaa)(m:Nat):fin σ m (.nilp)=fin1 σ m (.nilp):=rfl
theorem z3b (σ:zaa)(m:Nat):finT σ m (.nilp)=fin1 σ m (.nilp):=rfl
theorem z8Y (σ:zaa)(m:Nat)(c:List AV):fin σ m (.rptr c)=fin1 σ m (.rptr c):=rfl
theorem z4u (σ:zaa)(m:Nat)(c:List AV):finT σ m (.rptr c)=fin1 σ m (.rptr c):=rfl
theorem zBh (σ:zaa)(m:Nat)(l:List (List AV)):fin σ m (.lst l)=fin1 σ m (.lst l):=rfl
theorem z7f (σ:zaa)(m:Nat)(l:List (List AV)):finT σ m (.lst l)=fin1 σ m (.lst l):=rfl
theorem z8v (σ:zaa)(m:Nat):fin σ m (.nilm)=fin1 σ m (.nilm):=rfl
theorem z5h (σ:zaa)(m:Nat):finT σ m (.nilm)=fin1 σ m (.nilm):=rfl
theorem z9g (σ:zaa)(m:Nat):fin σ m (.nilf)=fin1 σ m (.nilf):=rfl
theorem z5K (σ:zaa)(m:Nat):finT σ m (.nilf)=fin1 σ m (.nilf):=rfl
theorem z9d (σ:zaa)(m:Nat):fin σ m (.nili)=fin1 σ m (.nili):=rfl
theorem z3S (σ:zaa)(m:Nat):finT σ m (.nili)=fin1 σ m (.nili):=rfl
theorem z7P (σ:zaa)(m:Nat):fin σ m (.nils)=fin1 σ m (.nils):=rfl
theorem z6G (σ:zaa)(m:Nat):finT σ m (.nils)=fin1 σ m (.nils):=rfl
theorem zBt (σ:zaa)(m:Nat)(i n:Nat):fin σ m (.row i n)=fin1 σ m (.row i n):=rfl
theorem z81 (σ:zaa)(m:Nat)(i n:Nat):finT σ m (.row i n)=fin1 σ m (.row i n):=rfl
theorem zBo (σ:zaa)(m:Nat)(i o:Nat):fin σ m (.ptr i o)=fin1 σ m (.ptr i o):=rfl
theorem z9i (σ:zaa)(m:Nat)(i o:Nat):finT σ m (.ptr i o)=fin1 σ m (.ptr i o):=rfl
theorem z4N (σ:zaa)(m:Nat)(t:TypeId)(v:AV):fin σ m (.iface t v)=fin1 σ m (.iface t v):=rfl
theorem z2l (σ:zaa)(m:Nat)(t:TypeId)(v:AV):finT σ m (.iface t v)=fin1 σ m (.iface t v):=rfl
theorem zDk (σ:zaa)(m:Nat)(g:Fn)(a b:List AV):fin σ m (.fn g a b)=fin1 σ m (.fn g a b):=rfl
theorem zBv (σ:zaa)(m:Nat)(g:Fn)(a b:List AV):finT σ m (.fn g a b)=fin1 σ m (.fn g a b):=rfl
theorem zDy (σ:zaa)(m:Nat)(i o:Nat):fin σ m (.gp i o)=fin1 σ m (.gp i o):=rfl
theorem zCw (σ:zaa)(m:Nat)(i o:Nat):finT σ m (.gp i o)=fin1 σ m (.gp i o):=rfl
theorem zCm (σ:zaa)(m:Nat)(i:Nat):fin σ m (.map i)=fin1 σ m (.map i):=rfl
theorem z9u (σ:zaa)(m:Nat)(i:Nat):finT σ m (.map i)=fin1 σ m (.map i):=rfl
theorem zAQ (σ:zaa)(m:Nat)(i n s l h:Nat):fin σ m (.sub i n s l h)=fin1 σ m (.sub i n s l h):=rfl
theorem z6O (σ:zaa)(m:Nat)(i n s l h:Nat):finT σ m (.sub i n s l h)=fin1 σ m (.sub i n s l h):=rfl
attribute [simp] zDy zCw zCm z9u zAQ z6O
theorem zAs (σ:zaa)(m:Nat)(l:List AV):fin σ m (.agg l)=(finL σ m l).map .agg:=rfl
theorem z9k (σ:zaa)(m:Nat)(l:List AV):finT σ m (.agg l)=(finL σ m l).map .agg:=rfl
theorem zAZ (σ:zaa)(m:Nat)(l:List AV):fin σ m (.tup l)=(l.mapM (finT σ m)).map .tup:=rfl
attribute [simp] zBV z7e z9q z3X zBg z9j zAx z89 z7h z3b z8Y z4u zBh z7f z8v z5h z9g z5K z9d z3S z7P z6G zBt z81 zBo z9i z4N z2l zDk zBv zAs z9k zAZ
attribute [simp ↓] z0V zyX zwY zDO zB7 zD3 zDs zCM zDB zDx zB4 zDa z7D z7x zCo z6L z7V z7I z6Z zAR zBA zBL zCQ zCe zCD zEy zBl zBB z8g zB8 z7r z6I zCU z8N z9f zDl zAO zDQ z1P z82 zBX zC9 zAA zDA zD6 zDj zzc zxz
 z8n zBJ zCg z6R zmP z7q zBK z8D zya zwZ z4i z7H zsc zrt zyq zw9 z4r zxe
attribute [simp] zu1 ziY zix ziy zqa zaQ zaS zbM zas zc2 zuQ znm zpW zia z0p zd2 z5G z3U z3Q z4c zbr Entry.isItr
attribute [simp] zAY zBe zBm z7B zE0 zDT zDN zEd gd_u zaw abin zzs zbz zg5 zuV zid zee ztE zaK finL fz AV.under AV.els zAu znD AV.pure eq1 zil ze3 zBa zzn splice share zfJ z0i zAy zaY lay rig
section
variable {P:Program}
def zAo [Globs](P:Program)(g:FuncId)(args:List AV)(σ:zaa)(K:zaa->Prop):Prop:=∀base κ Im w vs,SRel base κ Im σ w->VRL κ Im w args vs->CallsD P g vs.toArray .returning w λe u' w'=>u'=.returning/\∃v σ' κ' Im',e=.returned v/\K σ'/\SRel base κ' Im' σ' w'/\Grow base κ Im w κ' Im' w'
def zC5 (P:Program)(N:Nat)(loud:List FuncId):Code->Option (List AIns×Nat)
 | .region _ ops false=>match ops.toList.reverse with
  |o::rest=>match o.op,o.guard,o.dst with
   | .defer c,none,none=>match c.callee with
    | .value (.tmp t)=>if c.args.size=0 then some (rest.reverse.map (λo=>zkN loud (zdi P N ops o)),t)else none
    |_=>none
   |_,_,_=>none
  | []=>none
 |_=>none
structure ADef where
 pre:ACode
 ins:List AIns
 t:Nat
 post:ACode
def zpK (P:Program)(N:Nat)(loud:List FuncId):Code->Option ADef
 | .seq a b=>match zC5 P N loud a with
  |some (l,t)=>some ⟨.skip,l,t,comp P N loud b⟩
  |none=>(zpK P N loud b).map λd=>{d with pre:=.seq (comp P N loud a) d.pre}
 |_=>none
structure AFuncD where
 n:Nat
 res:List (Nat×Option (Bool×Nat))
 code:ADef
def zEx [Globs](P:Program)(g:FuncId)(cap:List AV)(σ₀:zaa)(R:AV->zaa->Prop)(res:List (Nat×Option (Bool×Nat))):AExit->Frame->zaa->Prop
 | .exit _,_,_=>False
 |_,f,σ=>zAo P g cap σ (zxQ σ₀ R res f)
def DMid [Globs](P:Program)(d:ADef)(σ₀:zaa)(R:AV->zaa->Prop)(res:List (Nat×Option (Bool×Nat)))(f:Frame)(σ:zaa):Prop:=∃g cap,f d.t=.fn (.func g) [] cap/\zaL P g=true/\awp P d.post (zEx P g cap σ₀ R res) f σ
end
theorem wrap_i64 {x:Int}(h1: -9223372036854775808<=x)(h2:x<=9223372036854775807):IntKind.wrap .i64 x=x:=by simp[IntKind.wrap,IntKind.signed,IntKind.bits];omega
def nl (K:AV->zaa->Prop)(_:Tg K)(σ:zaa)(neg:Bool)(v:AV):Prop:=match v with
 | .lst []=>∀b:Bool,K (.bool b) σ
 |v=>∃b,zix 3 v=some b/\K (.bool (if neg then !b else b)) σ
theorem zCI {P:Program}{K:AV->zaa->Prop}{f:Frame}{σ:zaa}(neg:Bool)(x:Opd):zat P K f σ (.nlc neg x)=nl K (.mk _) σ neg (x.ev f):=rfl
attribute [simp ↓] zCI
theorem zBj {K:AV->zaa->Prop}{t:Tg K}{σ:zaa}{neg:Bool}:nl K t σ neg .nils=K (.bool (if neg then false else true)) σ:=by simp[nl,zix]
theorem z4s {K:AV->zaa->Prop}{t:Tg K}{σ:zaa}{neg:Bool}{c:List AV}{l:List (List AV)}:nl K t σ neg (.lst (c::l))=K (.bool (if neg then true else false)) σ:=by simp[nl,zix]
theorem z8C {K:AV->zaa->Prop}{t:Tg K}{σ:zaa}{neg:Bool}{l:List (List AV)}(h:∀b:Bool,(l≠ []->b=neg)->K (.bool b) σ):nl K t σ neg (.lst l):=by
 cases l with
 |nil=>exact λb=>h b (by simp)
 |cons c l=>rw[z4s];exact h _ (λ_=>by cases neg<;>rfl)
attribute [simp] zBj z4s
def cv [Globs](P:Program)(K:AV->zaa->Prop)(_:Tg K)(σ:zaa)(x:AV)(args:List AV):Prop:=match x with
 | .fn (.func g) first captured=>zaL P g=true/\zuX P σ K g (first++args++captured)
 |_=>False
def qv [Globs](P:Program)(K:AV->zaa->Prop)(_:Tg K)(σ:zaa)(x:AV)(args:List AV):Prop:=match x with
 | .fn (.func g) first captured=>zaL P g=true/\zvA P σ K g (first++args++captured)
 |_=>False
theorem z7M {P:Program}{K:AV->zaa->Prop}{f:Frame}{σ:zaa}(x:Opd)(args:List Opd):zat P K f σ (.callv x args)=cv P K (.mk _) σ (x.ev f) (args.map (·.ev f)):=rfl
theorem z2J {P:Program}{K:AV->zaa->Prop}{f:Frame}{σ:zaa}(x:Opd)(args:List Opd):zat P K f σ (.qcallv x args)=qv P K (.mk _) σ (x.ev f) (args.map (·.ev f)):=rfl
theorem zvX {P:Program}{K:AV->zaa->Prop}{t:Tg K}{σ:zaa}{g:FuncId}{first captured args:List AV}(hb:zaL P g=true)(h:ac P K t σ g (first++args++captured)):cv P K t σ (.fn (.func g) first captured) args:=⟨hb,h⟩
attribute [simp ↓] z7M z2J
def lb [Globs](P:Program)(I:Nat->Frame->zaa->Prop)(_:Tg I)(c:ACode)(_:Tg c)(Q:AExit->Frame->zaa->Prop)(_:Tg Q):Prop:=∀n f σ,I n f σ->awp P c (AExit.then (λf' σ'=>∃n',n'<n/\I n' f' σ') Q) f σ
theorem z0j {P:Program}{c:ACode}{tc:Tg c}{Q:AExit->Frame->zaa->Prop}{tq:Tg Q}{f:Frame}{tf:Tg f}{σ:zaa}{ts:Tg σ}(I:Nat->Frame->zaa->Prop)(n:Nat)(h0:I n f σ)(hr:lb P I (.mk _) c tc Q tq):lp P c tc Q tq f tf σ ts:=⟨I,n,h0,hr⟩
def nx (n:Nat)(I:Nat->Frame->zaa->Prop)(_:Tg I)(f:Frame)(_:Tg f)(σ:zaa):Prop:=∃n',n'<n/\I n' f σ
def lbx [Globs](P:Program)(I:Nat->Frame->zaa->Prop)(tI:Tg I)(c:ACode)(_:Tg c)(Q:AExit->Frame->zaa->Prop)(_:Tg Q):Prop:=∀n f σ,I n f σ->awp P c (AExit.then (λf' σ'=>nx n I tI f' (.mk f') σ') Q) f σ
theorem zac {P:Program}{c:ACode}{tc:Tg c}{Q:AExit->Frame->zaa->Prop}{tq:Tg Q}{f:Frame}{tf:Tg f}{σ:zaa}{ts:Tg σ}(I:Nat->Frame->zaa->Prop)(n:Nat)(h0:I n f σ)(hr:lbx P I (.mk _) c tc Q tq):lp P c tc Q tq f tf σ ts:=⟨I,n,h0,hr⟩
def jn (J:Frame->zaa->Prop)(_:Tg J)(f:Frame)(_:Tg f)(σ:zaa):Prop:=J f σ
def z6i (id:Nat)(J:Frame->zaa->Prop)(tJ:Tg J)(Q:AExit->Frame->zaa->Prop):AExit->Frame->zaa->Prop
 | .exit id',f,σ=>if id'=id then jn J tJ f (.mk f) σ else Q (.exit id') f σ
 | .normal,f,σ=>Q .normal f σ
 | .ret,f,σ=>Q .ret f σ
theorem z1m {id id':Nat}{J:Frame->zaa->Prop}{tJ:Tg J}{Q:AExit->Frame->zaa->Prop}{f:Frame}{σ:zaa}:z6i id J tJ Q (.exit id') f σ=if id'=id then jn J tJ f (.mk f) σ else Q (.exit id') f σ:=rfl
theorem z5Q {id:Nat}{J:Frame->zaa->Prop}{tJ:Tg J}{Q:AExit->Frame->zaa->Prop}{f:Frame}{σ:zaa}:z6i id J tJ Q .ret f σ=Q .ret f σ:=rfl
theorem zxs {id:Nat}{J:Frame->zaa->Prop}{tJ:Tg J}{Q:AExit->Frame->zaa->Prop}{f:Frame}{σ:zaa}:z6i id J tJ Q .normal f σ=Q .normal f σ:=rfl
attribute [simp ↓] z1m z5Q zxs
theorem zfx {J:Frame->zaa->Prop}{tJ:Tg J}{f:Frame}{tf:Tg f}{σ:zaa}(h:J f σ):jn J tJ f tf σ:=h
theorem z5k {P:Program}{c:ACode}{tc:Tg c}{Q:AExit->Frame->zaa->Prop}{tq:Tg Q}{f:Frame}{tf:Tg f}{σ:zaa}{ts:Tg σ}(id:Nat)(J:Frame->zaa->Prop)(hJ:∀f σ,J f σ->Q (.exit id) f σ)(h:lp P c tc (z6i id J (.mk _) Q) (.mk _) f tf σ ts):lp P c tc Q tq f tf σ ts:=by
 refine zdJ (c:=.loop c) (λe f σ a=> ?_) h;cases e with
 |exit d=>
  simp only[z6i]at a;split at a;.rename_i b;subst b;exact hJ _ _ a
  .exact a
 |normal=>exact a
 |ret=>exact a
@[simp] theorem zDV (x y:Int):(x==y)=decide (x=y):=rfl
@[simp] theorem zE7 (x y:Int):(x !=y)= !decide (x=y):=rfl
def er [Globs](σ₀:zaa)(R:AV->zaa->Prop)(_:Tg R)(res:List (Nat×Option (Bool×Nat)))(f:Frame)(_:Tg f)(σ:zaa):Prop:=zxQ σ₀ R res f σ
def z9B [Globs](σ₀:zaa)(R:AV->zaa->Prop)(_:Tg R)(res:List (Nat×Option (Bool×Nat))):AExit->Frame->zaa->Prop
 | .exit _,_,_=>False
 |_,f,σ=>zxQ σ₀ R res f σ
theorem z34 {σ₀:zaa}{R:AV->zaa->Prop}{t:Tg R}{res:List (Nat×Option (Bool×Nat))}{f:Frame}{σ:zaa}:z9B σ₀ R t res .ret f σ=er σ₀ R t res f (.mk _) σ:=rfl
theorem zvL {σ₀:zaa}{R:AV->zaa->Prop}{t:Tg R}{res:List (Nat×Option (Bool×Nat))}{f:Frame}{σ:zaa}:z9B σ₀ R t res .normal f σ=er σ₀ R t res f (.mk _) σ:=rfl
attribute [simp ↓] z34 zvL
theorem zqI {P:Program}(hm:P.follows .mixedOrders=true){loud:List FuncId}{g:FuncId}{af:AFunc}{args:List AV}{σ₀:zaa}{R:AV->zaa->Prop}(hf:zab P loud g=some af)(hargs:decide (args.length<=af.n)=true)
  (h:awp P af.code (z9B σ₀ R (.mk _) af.res) (zuV args) σ₀):ACalls P g args σ₀ R:=
 zmQ hm hf (of_decide_eq_true hargs) (zdJ (λe f σ a=>by cases e<;>exact a) h)
def zAH [Globs](m:Nat)(σ:zaa)(f:Frame)(res:List (Nat×Option (Bool×Nat))):Option AV:=(res.mapM (zee σ f)).bind λrs=>fin σ m (zaK rs)
theorem z71 {σ₀:zaa}{R:AV->zaa->Prop}{t:Tg R}{res:List (Nat×Option (Bool×Nat))}{f:Frame}{tf:Tg f}{σ:zaa}(s1:zaa)(r:AV)(hr:zAH σ₀.length σ f res=some r)(extra:zaa)(hσ:σ=s1++extra)(hlen:s1.length=σ₀.length)
  (hu:∀(id:Nat) (e:Entry),s1[id]? =some e->σ₀[id]? =some e∨e.under σ₀.length=true) (hR:R r s1):er σ₀ R t res f tf σ:=by
 unfold zAH at hr;simp only[yac]at hr;obtain⟨b,c,d⟩:=hr;refine⟨b,r,σ₀.length,c,.inl d,yaf _,λid e g a=> ?_, ?_⟩;.subst hσ;rw[yap (by omega)]at a;exact hu id e a
 .subst hσ;rw[ya7 (by omega),yal (by omega)];exact hR
theorem zbi {σ₀:zaa}{R:AV->zaa->Prop}{t:Tg R}{res:List (Nat×Option (Bool×Nat))}{f:Frame}{tf:Tg f}{σ:zaa}(s1:zaa)(r:AV)(hr:(res.mapM (zee σ f)).map zaK=some r)(extra:zaa)(hσ:σ=s1++extra)(hlen:σ₀.length<=s1.length)(hru:r.under s1.length=true)
  (hu:∀(id:Nat) (e:Entry),s1[id]? =some e->σ₀[id]? =some e∨e.under s1.length=true) (hR:R r s1):er σ₀ R t res f tf σ:=by
 simp only[yae]at hr;obtain⟨b,c,rfl⟩:=hr;refine⟨b,_,s1.length,c,.inr ⟨rfl,hru⟩,hlen,λid e d a=> ?_, ?_⟩;.subst hσ;rw[yap (by omega)]at a;exact hu id e a
 .subst hσ;rw[ya7 (by omega),yal (by omega)];exact hR
theorem zqw {σ:zaa}{e0:Entry}{R:AV->zaa->Prop}{t:Tg R}{res:List (Nat×Option (Bool×Nat))}{f:Frame}{tf:Tg f}{σ':zaa}(id:Nat)(e:Entry)(r:AV)(extra:zaa)(hr:zAH σ.length σ' f res=some r)(hσ:σ'=σ.set id e++extra)
  (hu:e.under σ.length=true) (hR:R r (σ.set id e)):er (σ.set id e0) R t res f tf σ':=by
 refine z71 (σ.set id e) r (by simpa using hr) extra hσ (by simp) (λi x a=> ?_) hR;by_cases c:i=id
 .subst c;by_cases b:i<σ.length;.rw[ybs b]at a;simp only[yab]at a;subst a;exact .inr (by simpa using hu)
  .rw[ybv (by simp;omega)]at a;cases a
 .rw[yaj (λh=>c h.symm)]at a⊢;exact .inl a
def edp [Globs](P:Program)(g:FuncId)(cap:List AV)(σ₀:zaa)(R:AV->zaa->Prop)(_:Tg R)(res:List (Nat×Option (Bool×Nat)))(f:Frame)(_:Tg f)(σ:zaa):Prop:=zAo P g cap σ (zxQ σ₀ R res f)
def z9L [Globs](P:Program)(g:FuncId)(cap:List AV)(σ₀:zaa)(R:AV->zaa->Prop)(t:Tg R)(res:List (Nat×Option (Bool×Nat))):AExit->Frame->zaa->Prop
 | .exit _,_,_=>False
 |_,f,σ=>edp P g cap σ₀ R t res f (.mk f) σ
theorem z1p {P:Program}{g:FuncId}{cap:List AV}{σ₀:zaa}{R:AV->zaa->Prop}{t:Tg R}{res:List (Nat×Option (Bool×Nat))}{f:Frame}{σ:zaa}:z9L P g cap σ₀ R t res .ret f σ=edp P g cap σ₀ R t res f (.mk _) σ:=rfl
theorem zun {P:Program}{g:FuncId}{cap:List AV}{σ₀:zaa}{R:AV->zaa->Prop}{t:Tg R}{res:List (Nat×Option (Bool×Nat))}{f:Frame}{σ:zaa}:z9L P g cap σ₀ R t res .normal f σ=edp P g cap σ₀ R t res f (.mk _) σ:=rfl
def edm [Globs](P:Program)(d:ADef)(_:Tg d)(σ₀:zaa)(R:AV->zaa->Prop)(_:Tg R)(res:List (Nat×Option (Bool×Nat)))(f:Frame)(_:Tg f)(σ:zaa):Prop:=DMid P d σ₀ R res f σ
def zE5 [Globs](P:Program)(d:ADef)(td:Tg d)(σ₀:zaa)(R:AV->zaa->Prop)(t:Tg R)(res:List (Nat×Option (Bool×Nat))):AExit->Frame->zaa->Prop
 | .exit _,_,_=>False
 | .ret,f,σ=>er σ₀ R t res f (.mk f) σ
 | .normal,f,σ=>zcZ P (λf σ=>edm P d td σ₀ R t res f (.mk f) σ) d.ins f σ
theorem zvp {P:Program}{d:ADef}{td:Tg d}{σ₀:zaa}{R:AV->zaa->Prop}{t:Tg R}{res:List (Nat×Option (Bool×Nat))}{f:Frame}{σ:zaa}:
  zE5 P d td σ₀ R t res .normal f σ=zcZ P (λf σ=>edm P d td σ₀ R t res f (.mk f) σ) d.ins f σ:=rfl
attribute [simp ↓] z1p zun zvp
def rowV (id:Nat)(l:List (List AV)):AV:=if l= []then .nils else .row id l.length
theorem z8z (σ:zaa)(m id:Nat)(l:List (List AV)):fin σ m (rowV id l)=fin1 σ m (rowV id l):=by unfold rowV;split<;>rfl
theorem z5j (σ:zaa)(m id:Nat)(l:List (List AV)):finT σ m (rowV id l)=fin1 σ m (rowV id l):=by unfold rowV;split<;>rfl
theorem z8s (id:Nat)(l:List (List AV)):(rowV id l).one=true:=by unfold rowV;split<;>rfl
theorem z1Y (id:Nat)(l:List (List AV)):(rowV id l).cells= [rowV id l]:=by unfold rowV;split<;>rfl
attribute [simp high] z8s z1Y z8z z5j
def ms (K:AV->zaa->Prop)(_:Tg K)(σ:zaa)(e size bytes:Nat)(zero:List AV)(len cap:AV):Prop:=∃n c,zid len=some n/\zid cap=some c/\n<=c/\c*bytes<=140737488355328/\c<=9223372036854775807/\0<size/\zero.length=size/\K (.row σ.length n) (σ++ [.row e size (List.replicate n zero) false])
def cp (K:AV->zaa->Prop)(_:Tg K)(σ:zaa)(size:Nat)(x y:AV):Prop:=∃m k σ',view σ y=some m/\(∀c∈m,c.length=size)/\0<size/\zyZ σ size m x=some (σ',k)/\K (.int .i64 (k:Nat)) σ'
theorem zDo {P:Program}{K:AV->zaa->Prop}{f:Frame}{σ:zaa}(size:Nat)(x y:Opd):zat P K f σ (.ex (.cpy size x y))=cp K (.mk _) σ size (x.ev f) (y.ev f):=by
 apply propext;constructor;.rintro⟨r,σ',⟨m,k,a,b,c,d,rfl⟩,e⟩;exact⟨m,k,σ',a,b,c,d,e⟩
 .rintro⟨m,k,σ',a,b,c,d,e⟩;exact⟨_,σ',⟨m,k,a,b,c,d,rfl⟩,e⟩
attribute [simp ↓] zDo
theorem zzz {K:AV->zaa->Prop}{t:Tg K}{σ σ':zaa}{size:Nat}{x y:AV}(m:List (List AV))(k:Nat)(h1:view σ y=some m)(h2:∀c∈m,c.length=size)(h3:0<size)(h4:zyZ σ size m x=some (σ',k))(h5:K (.int .i64 (k:Nat)) σ'):cp K t σ size x y:=⟨m,k,σ',h1,h2,h3,h4,h5⟩
theorem z1r {P:Program}{K:AV->zaa->Prop}{f:Frame}{σ:zaa}(e size bytes:Nat)(zero:List AV)(len cap:Opd):zat P K f σ (.mkslice e size bytes zero len cap)=ms K (.mk _) σ e size bytes zero (len.ev f) (cap.ev f):=rfl
attribute [simp ↓] z1r
theorem zuW {K:AV->zaa->Prop}{t:Tg K}{σ:zaa}{e size bytes:Nat}{zero:List AV}{k k':IntKind}{x y:Int}(n:Nat)(hx:x=n)(hy:y=n)(hb:n*bytes<=140737488355328)(h63:n<=9223372036854775807)(hs:0<size)(hz:zero.length=size)
  (hK:K (.row σ.length n) (σ++ [.row e size (List.replicate n zero) false])):ms K t σ e size bytes zero (.int k x) (.int k' y):=by
 subst hx;subst hy;exact⟨n,n,by simp[zid],by simp[zid],yaf _,hb,h63,hs,hz,hK⟩
theorem z4Y {P:Program}{Q:AExit->Frame->zaa->Prop}{f:Frame}{σ:zaa}(h:Q .normal f σ):awp P .gh Q f σ:=.inl h
theorem z9M {P:Program}{Q:AExit->Frame->zaa->Prop}{f:Frame}{σ σ':zaa}(hz:Frz σ σ')(h:Q .normal f σ'):awp P .gh Q f σ:=.inr ⟨σ',hz,h⟩
theorem zfo (m:Nat):∀{v:AV},v.pure=true->v.under m=true
 | .ptr ..,h| .row ..,h| .rowp ..,h| .map ..,h| .sub ..,h| .asl ..,h=>by simp[AV.pure]at h
 | .fn _ a b,h=>by simp only[AV.pure,yb5,ya1,yez,forall_const,Subtype.forall]at h;simp only[AV.under,yb5,ya1,yez,forall_const,Subtype.forall];exact⟨λx c=>zfo m (h.1 x c),λx c=>zfo m (h.2 x c)⟩
 | .iface _ v,h=>by simp only[AV.pure]at h;simp only[AV.under];exact zfo m h
 | .agg l,h=>by simp only[AV.pure,ya1,yez,forall_const,Subtype.forall]at h;simp only[AV.under,ya1,yez,forall_const,Subtype.forall];exact λx c=>zfo m (h x c)
 | .tup l,h=>by simp only[AV.pure,ya1,yez,forall_const,Subtype.forall]at h;simp only[AV.under,ya1,yez,forall_const,Subtype.forall];exact λx c=>zfo m (h x c)
 | .junk,_| .int ..,_| .bool _,_| .str _,_| .flt ..,_| .nilp,_| .rptr _,_| .nils,_| .lst _,_| .nilm,_| .nilf,_| .nili,_| .any _,_| .gp ..,_| .tight _,_=>by simp[AV.under]
theorem zrI {base:Nat}{κ:Key}{Im:Addr->Prop}{w w':World}(hs:SRel base κ Im [] w)(hb:Below w.heap.size w w'):SRel base κ Im [] w'/\Grow base κ Im w κ Im w':=by have b:∀a,Im a->w'.cell? a=w.cell? a:=λa c=>ya5 (hb.block _ (hs.imlt a c).1);exact⟨hs.world (λ_ h=>h) (λ_ h=> .inl h) hb.size hb.block,⟨λ_ _ _ h=>h,λ_ h=>h,b,λ_ h=> .inl h,hb.mono hs.hb⟩⟩
theorem z3n {P:Program}{f:FuncId}{a:AV}{R:AV->Prop}(h:∀base κ Im w v,SRel base κ Im [] w->VR κ Im w a v->Calls P f #[v] w λe w'=>∃r u,e=.returned u/\R r/\Below w.heap.size w w'/\∀Im',IR Im' w' r u):PCalls P f [a] R:=by
 intro base κ Im w c d g;obtain⟨b,rfl⟩:∃b,c= [b]:=by
  match c,g.1 with
  | [a],_=>exact⟨a,rfl⟩
 refine(h base κ Im w b d (g.2 0 (by simp) (by simp))).mono ?_;rintro e w' ⟨r,u,rfl,k,l,m⟩;obtain⟨i,j⟩:=zrI d l;exact⟨r,[],u,κ,Im,rfl,⟨rfl,k⟩,i,j,.im _ _ (m _)⟩
theorem zrr {P:Program}{f:FuncId}{a b:AV}{R:AV->Prop}(h:∀base κ Im w v u,SRel base κ Im [] w->VR κ Im w a v->VR κ Im w b u->Calls P f #[v,u] w λe w'=>∃r u,e=.returned u/\R r/\Below w.heap.size w w'/\∀Im',IR Im' w' r u):PCalls P f [a,b] R:=by
 intro base κ Im w i j g;obtain⟨c,d,rfl⟩:∃c d,i= [c,d]:=by
  match i,g.1 with
  | [a,b],_=>exact⟨a,b,rfl⟩
 refine(h base κ Im w c d j (g.2 0 (by simp) (by simp)) (g.2 1 (by simp) (by simp))).mono ?_;rintro e w' ⟨r,u,rfl,m,n,o⟩;obtain⟨k,l⟩:=zrI j n;exact⟨r,[],u,κ,Im,rfl,⟨rfl,m⟩,k,l,.im _ _ (o _)⟩
theorem zBi {P:Program}{f:FuncId}{a b c:AV}{R:AV->Prop}(h:∀base κ Im w v u x,SRel base κ Im [] w->VR κ Im w a v->VR κ Im w b u->VR κ Im w c x->Calls P f #[v,u,x] w λe w'=>∃r u,e=.returned u/\R r/\Below w.heap.size w w'/\∀Im',IR Im' w' r u):PCalls P f [a,b,c] R:=by
 intro base κ Im w k l d;obtain⟨g,i,j,rfl⟩:∃g i j,k= [g,i,j]:=by
  match k,d.1 with
  | [a,b,c],_=>exact⟨a,b,c,rfl⟩
 refine(h base κ Im w g i j l (d.2 0 (by simp) (by simp)) (d.2 1 (by simp) (by simp)) (d.2 2 (by simp) (by simp))).mono ?_;rintro e w' ⟨r,u,rfl,o,p,q⟩;obtain⟨m,n⟩:=zrI l p;exact⟨r,[],u,κ,Im,rfl,⟨rfl,o⟩,m,n,.im _ _ (q _)⟩
theorem z3o {base:Nat}{κ:Key}{Im:Addr->Prop}{σ:zaa}{w:World}(hs:SRel base κ Im σ w){g:Nat}{cells:List AV}(hm:(g,cells)∈Globs.tab):∃vals:Nat->Value,(∀j,j<cells.length->w.cell? ⟨g,j,none⟩=some (vals j))/\∀j (h:j<cells.length),IR Im w (cells[j]) (vals j):=by obtain⟨_,_,h⟩:=hs.glob _ hm;obtain⟨b,o,vals,a,_,c,d⟩:=(VR.im (κ:=κ) _ _ h).rptr_inv;simp only[Value.pointer.injEq,yab,Addr.mk.injEq,and_true]at a;obtain⟨rfl,rfl⟩:=a;exact⟨vals,λj e=>by have:=(c j e).2;simpa using this,d⟩
end Go.Abs
namespace Go.Abs
theorem wE {x y:Int}(h: -9223372036854775808<=x/\x<=9223372036854775807/\x=y):IntKind.i64.wrap x=y:=by rw[wrap_i64 h.1 h.2.1];exact h.2.2
theorem wI {x:Int}(h: -9223372036854775808<=x/\x<=9223372036854775807):IntKind.i64.wrap x=x:=wrap_i64 h.1 h.2
theorem wS (i:Nat)(h:i<9223372036854775807):IntKind.i64.wrap ((i:Int)+1)=((i+1:Nat):Int):=wE (by omega)
end Go.Abs
namespace Go
theorem gE {α:Type}{l:List α}{i:Nat}(h:i<l.length):∃c,l[i]? =some c:=⟨_,yah h⟩
theorem gL {α:Type}(l:List α)(i:Nat)(h:i<l.length):∃c,l[i]? =some c:=⟨_,yah h⟩
theorem gF {α:Type}{l:List α}{i:Nat}(h:i<l.length):∃c,l[i]? =some c/\∃h:i<l.length,l[i]=c:=⟨_,yah h,h,rfl⟩
theorem tS {α:Type}{l:List α}{i:Nat}{c:α}(h:l[i]? =some c):l.take (i+1)=l.take i++ [c]:=by rw[ybh,h];rfl
end Go
namespace Go.Abs
section
variable [Globs]{P:Program}{σ:zaa}{K:AV->zaa->Prop}
theorem zad {g:FuncId}{args:List AV}{v:AV}{t:Tg K}(hc:PCalls P g args (λr=>r=v))(hK:K v σ)(ha:args.all AV.pure=true:=by simp[AV.pure]):ac P K t σ g args:=zfR hc ha (by rintro r rfl;exact hK)
theorem zc1 {g:FuncId}{args:List AV}{R:AV->Prop}{t:Tg K}(hc:PCalls P g args R)(hK:∀r,R r->K r σ)(ha:args.all AV.pure=true:=by simp[AV.pure]):ac P K t σ g args:=zfR hc ha hK
theorem zb3 {g:FuncId}{args:List AV}{r:AV}{t:Tg K}(hc:PCalls P g args (λr'=>r'=r))(hK:K r σ)(ha:args.all AV.pure=true:=by simp[AV.pure])(hr:rig r=true:=by simp):qc P K t σ g args:=zbt hc ha hr hK
end
theorem nx_i {n:Nat}{I:Nat->Frame->zaa->Prop}{tI:Tg I}{f:Frame}{tf:Tg f}{σ:zaa}{m:Nat}(h:I m f σ)(hm:m<n:=by omega):nx n I tI f tf σ:=⟨m,hm,h⟩
theorem nx_j {n:Nat}{I:Nat->Frame->zaa->Prop}{tI:Tg I}{f:Frame}{tf:Tg f}{σ:zaa}(m:Nat)(h:I m f σ)(hm:m<n:=by omega):nx n I tI f tf σ:=⟨m,hm,h⟩
theorem er_k [Globs]{σ₀:zaa}{R:AV->zaa->Prop}{t:Tg R}{res:List (Nat×Option (Bool×Nat))}{f:Frame}{tf:Tg f}{σ:zaa}(s1:zaa)(r:AV)(hu:∀(id:Nat) (e:Entry),s1[id]? =some e->σ₀[id]? =some e∨e.under s1.length=true)(hR:R r s1)(hr:(res.mapM (zee σ f)).map zaK=some r:=by simp[zaK])(hσ:σ=s1++ []:=by simp)(hlen:σ₀.length<=s1.length:=by simp)(hru:r.under s1.length=true:=by simp[AV.under]):er σ₀ R t res f tf σ:=zbi s1 r hr [] hσ hlen hru hu hR
end Go.Abs
