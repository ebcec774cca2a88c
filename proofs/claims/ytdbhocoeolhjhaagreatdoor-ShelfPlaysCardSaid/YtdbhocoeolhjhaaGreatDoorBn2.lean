/- slices.Clone, BinarySearchFunc, IndexFunc, DeleteFunc at the shelf's element types: printed by gensl.py. slices.Insert at the end: printed by gensl.py -/
import Derived.Test.YtdbhocoeolhjhaaGreatDoorCode
import Derived.Test.YtdbhocoeolhjhaaGreatDoorAbs2
import Derived.Test.YtdbhocoeolhjhaaGreatDoorShelf
import Derived.WalkKit
import Derived.Test.YtdbhocoeolhjhaaGreatDoorBn1
set_option linter.unusedSimpArgs false
set_option linter.unusedVariables false
set_option linter.constructorNameAsVariable false
section
set_option maxHeartbeats 2000000
namespace Go.Abs
open Go.RowKit Go.Proofs
variable {G:Globs}
def Els (k:Nat) (els:List (List AV)):Prop:=(∀c∈els,c.length=k)∧(∀c∈els,∀x∈c,x.pure=true)∧∀c∈els,∀x∈c,x.one=true
def Cloned (e k:Nat) (els:List (List AV)) (σ:Store) (r:AV) (σ':Store):Prop:=(els= []∧r=.nils∧σ'=σ)∨(r=.row σ.length els.length∧σ'=σ++ [.row e k els false])
theorem acalls_cloned {P:Program} {f:FuncId} {args:List AV} {e size:Nat} {els:List (List AV)} {σ:Store} (h:ACalls P f args [] (Cloned e size els [])) (ha:args.all AV.pure=true) (hp:∀c∈els,∀x∈c,x.pure=true):ACalls P f args σ (Cloned e size els σ):=by
 intro base κ Im w vs hs hv
 have h0:SRel w.heap.size (fun _ _=>none) Im [] w:=⟨Nat.le_refl _,(fun _ _ _ h=>by cases h),(fun id e h=>by simp at h),(fun i j e e' b _ h=>by simp at h),hs.imlt,hs.glob.mono hs.hb (fun _ h=>h) (fun _ _=>rfl) (fun _ _=>rfl)⟩
 have hv0:VRL (fun _ _=>none) Im w args vs:=⟨hv.1,fun j hj hj'=> .im _ _ ((hv.2 j hj hj').pure (by
  simp only [List.all_eq_true] at ha
  exact ha _ (List.getElem_mem _)))⟩
 refine (h w.heap.size _ Im w vs h0 hv0).mono ?_
 rintro en w' ⟨r,σ',v,κ',Im',rfl,hR,hs',hg,hvr⟩
 have hlow:∀k,k<w.heap.size→w'.heap[k]? =w.heap[k]? :=hg.below.block
 have hIn:∀a,Im' a→Im a∨(w.heap.size≤a.block∧a.block<w'.heap.size∧a.spot=none):=fun a ha=>(hg.new a ha).imp (fun h=>h) fun h=>⟨h,(hs'.imlt a ha).1,(hs'.imlt a ha).2⟩
 rcases hR with ⟨rfl,rfl,rfl⟩|⟨rfl,rfl⟩
 ·exact ⟨_,_,_,κ,Im',rfl,.inl ⟨rfl,rfl,rfl⟩,hs.world hg.im hIn hg.below.size hlow,⟨fun _ _ _ h=>h,hg.im,hg.cell,fun a ha=>(hg.new a ha).imp (fun h=>h) fun h=>Nat.le_trans hs.hb h,hg.below.mono hs.hb⟩,.im _ _ (hvr.pure (by simp [AV.pure]))⟩
 obtain ⟨g,cap,rfl,hk⟩:=hvr.row_inv
 simp only [List.length_nil] at hk
 obtain ⟨v',xs,hk',hown,hcv,hpos,hlens,hones,hir,him⟩:=hs'.ent 0 _ rfl
 rw [hk] at hk';cases hk'
 have hfree:∀k u,κ σ.length k=some u→False:=fun k u h=>by obtain ⟨e,h1,_⟩:=hs.dom _ _ _ h;simp at h1
 have hκ:=Key.with_new hfree els.length (.slice g els.length cap)
 refine ⟨_,_,_,κ.with σ.length els.length (.slice g els.length cap),Im',rfl,.inr ⟨rfl,rfl⟩, ?_,⟨hκ,hg.im,hg.cell,fun a ha=>(hg.new a ha).imp (fun h=>h) fun h=>Nat.le_trans hs.hb h,hg.below.mono hs.hb⟩,.row _ _ _ _ (Key.with_same _ _ _ _)⟩
 have hirl:IRL Im' w' els.flatten xs:=⟨hcv.1,fun j hj hj'=>(hcv.2 j hj hj').pure (by
  obtain ⟨c,hc,hcm⟩:=List.mem_flatten.1 (List.getElem_mem hj)
  exact hp c hc _ hcm)⟩
 refine hs.push _ hκ (fun i k u h=> ?_) hg.im hIn hg.below.size hlow ?_ (fun b hb=> ?_)
 ·unfold Key.with at h
  split at h
  ·rename_i hcc;exact .inr ⟨hcc.1,by rw [hcc.2];exact Nat.le_refl _⟩
  ·exact .inl h
 ·refine ⟨_,xs,Key.with_same _ _ _ _,⟨hown.1, ?_⟩,VRL.ofIR hirl,hpos,hlens,hones,fun h=>(by cases h),him⟩
  rcases hown.2 with h|⟨g,cap,cur,h1,h2,rest⟩
  ·exact .inl h
  ·exact .inr ⟨g,cap,cur,h1,Nat.le_trans hs.hb h2,rest⟩
 ·have:(Entry.row e size els false).block (κ.with σ.length els.length (.slice g els.length cap)) σ.length=(Value.slice g els.length cap).ownBlock:=by simp [Entry.block,Key.with_same]
  rw [this] at hb
  exact (hown.lt b hb).1
theorem fz_pure {σ:Store} {m k:Nat}:∀{els:List (List AV)},(∀c∈els,∀x∈c,x.pure=true)→(∀c∈els,∀x∈c,x≠ .nils)→(els.mapM fun (c:List AV)=>c.mapM (fz σ m k))=some els
 | [],_,_=>rfl
 |c::els,h,h'=>by
  have h1:∀(l:List AV),(∀x∈l,x.pure=true)→(∀x∈l,x≠ .nils)→l.mapM (fz σ m k)=some l:=by
   intro l
   induction l with
   |nil=>intro _ _;rfl
   |cons x l ih=>
    intro h h'
    rw [List.mapM_cons,ih (fun y hy=>h y (List.mem_cons_of_mem _ hy)) (fun y hy=>h' y (List.mem_cons_of_mem _ hy))]
    have hx:=h x (by simp)
    have hn:=h' x (by simp)
    cases x<;>first|(exact absurd rfl hn)|(simp [AV.pure] at hx;done)|(cases k<;>simp [fz,hx])
  rw [List.mapM_cons,h1 c (h c (by simp)) (h' c (by simp)),fz_pure (fun d hd=>h d (List.mem_cons_of_mem _ hd)) (fun d hd=>h' d (List.mem_cons_of_mem _ hd))]
  rfl
theorem share_pure {σ:Store}:∀{els:List (List AV)},(∀c∈els,∀x∈c,x.pure=true)→(∀c∈els,∀x∈c,x≠ .nils)→(els.mapM fun (c:List AV)=>c.mapM (share1 σ))=some els
 | [],_,_=>rfl
 |c::els,h,h'=>by
  have h1:∀(l:List AV),(∀x∈l,x.pure=true)→(∀x∈l,x≠ .nils)→l.mapM (share1 σ)=some l:=by
   intro l
   induction l with
   |nil=>intro _ _;rfl
   |cons x l ih=>
    intro h h'
    rw [List.mapM_cons,ih (fun y hy=>h y (List.mem_cons_of_mem _ hy)) (fun y hy=>h' y (List.mem_cons_of_mem _ hy))]
    have hx:=h x (by simp)
    have hn:=h' x (by simp)
    cases x<;>first|(exact absurd rfl hn)|(simp [AV.pure] at hx;done)|(simp [share1,hx])
  rw [List.mapM_cons,h1 c (h c (by simp)) (h' c (by simp)),share_pure (fun d hd=>h d (List.mem_cons_of_mem _ hd)) (fun d hd=>h' d (List.mem_cons_of_mem _ hd))]
  rfl
def idxE (p:List AV→Bool):List (List AV)→Int
 | []=> -1
 |n::l=>if p n then 0 else if idxE p l<0 then -1 else idxE p l+1
theorem idxE_none {p:List AV→Bool}:∀{l:List (List AV)},(∀n∈l,p n=false)→idxE p l= -1
 | [],_=>rfl
 |n::l,h=>by
  have h1:=h n (by simp)
  have h2:=idxE_none (p:=p) (l:=l) fun m hm=>h m (by simp [hm])
  simp [idxE,h1,h2]
theorem idxE_some {p:List AV→Bool}:∀{l:List (List AV)} {i:Nat} {n:List AV},l[i]? =some n→p n=true→(∀m∈l.take i,p m=false)→idxE p l=i
 | [],i,n,h,_,_=>by simp at h
 |m::l,0,n,h,hp,_=>by simp at h;subst h;simp [idxE,hp]
 |m::l,i+1,n,h,hp,ha=>by
  have h1:=ha m (by simp)
  have h2:=idxE_some (p:=p) (l:=l) (i:=i) (by simpa using h) hp fun x hx=>ha x (by simp [hx])
  simp [idxE,h1,h2]
  omega
theorem idxE_cases (p:List AV→Bool):∀l:List (List AV),(idxE p l= -1∧∀n∈l,p n=false)∨∃i n,l[i]? =some n∧p n=true∧(∀m∈l.take i,p m=false)∧idxE p l=i
 | []=> .inl ⟨rfl,by simp⟩
 |m::l=>by
  by_cases hm:p m=true
  ·exact .inr ⟨0,m,by simp,hm,by simp,by simp [idxE,hm]⟩
  ·have hm':p m=false:=by simpa using hm
   rcases idxE_cases p l with ⟨h1,h2⟩|⟨i,n,h1,h2,h3,h4⟩
   ·refine .inl ⟨by simp [idxE,hm',h1],fun n hn=> ?_⟩
    rcases List.mem_cons.1 hn with rfl|hn
    ·exact hm'
    ·exact h2 n hn
   ·refine .inr ⟨i+1,n,by simpa using h1,h2,fun x hx=> ?_, ?_⟩
    ·rw [List.take_succ_cons] at hx
     rcases List.mem_cons.1 hx with rfl|hx
     ·exact hm'
     ·exact h3 x hx
    ·simp [idxE,hm',h4];omega
theorem set_midE {α:Type} (A mid rest:List α) (v:α):∃mid',(A++(mid++v::rest)).set A.length v=A++v::(mid'++rest)∧mid'.length=mid.length∧∀x∈mid',x∈mid∨x=v:=by
 cases mid with
 |nil=>exact ⟨[],by simp,rfl,by simp⟩
 |cons m ms=>exact ⟨ms++ [v],by simp,by simp,fun x hx=>by
   rcases List.mem_append.1 hx with h|h
   ·exact .inl (by simp [h])
   ·exact .inr (by simpa using h)⟩
theorem cells_one {v:AV} (h:v.one=true):v.cells= [v]:=by cases v<;>first|rfl|(simp [AV.one] at h)
def Asks [Globs] (P:Program) (pre:Store) (g:FuncId) (capt:List AV) (V:List AV→AV) (p:List AV→Bool) (els:List (List AV)):Prop:=∀c∈els,∀(X:Store) (K:AV→Store→Prop),K (.bool (p c)) (pre++X)→acall P (pre++X) K g (V c::capt)
theorem cv_asks {P:Program} {pre X:Store} {g:FuncId} {capt:List AV} {V:List AV→AV} {p:List AV→Bool} {els:List (List AV)} (hb:hasBody P g=true) (h:Asks P pre g capt V p els) {c:List AV} (hc:c∈els) {K:AV→Store→Prop} {t:Tg K} (hK:K (.bool (p c)) (pre++X)):
  cv P K t (pre++X) (.fn (.func g) [] capt) [V c]:=⟨hb,by simpa using h c hc X K hK⟩
end Go.Abs
namespace Go.Proofs.YtdbhocoeolhjhaaGreatDoor
open Go.Abs Go.RowKit
variable {G:Globs}
theorem row_under {e size m:Nat} {els:List (List AV)} {im:Bool} (h:∀c∈els,∀x∈c,x.pure=true):(Entry.row e size els im).under m=true:=by
 simp only [Entry.under,List.all_eq_true]
 exact fun c hc x hx=>pure_under m (h c hc x hx)
theorem wrap_u64n {x:Int} (h1:0≤x) (h2:x≤18446744073709551615):IntKind.u64.wrap x=x:=by
 simp [IntKind.wrap,IntKind.signed,IntKind.bits];omega
theorem cloneNm_0 (els:List (List AV)) (he:Els 2 els) (hl:els.length≤1000000000):ACalls Tryz.prog n_slices_Clone_api_Name_api_Name [.lst els] [] (Cloned 101 2 els []):=by
 refine acalls_of_awp_e hmix c_slices_Clone_api_Name_api_Name rfl ?_
 simp [a_slices_Clone_api_Name_api_Name]
 refine nl_of fun b hb=> ?_
 cases b
 ·simp
  refine ap_row [] els false (by simp) rfl (by decide) he.1 (fun h=>by cases h) rfl (by omega) (by omega) ?_
  simp
  refine er_keep [.row 101 2 els false] (.row 0 els.length) (by simp [tupOf]) [] (by simp) (by simp) (by simp [AV.under]) (fun i e he'=> ?_) (.inr ⟨rfl,rfl⟩)
  refine .inr ?_
  match i,he' with
  |0,he'=>
   simp only [List.getElem?_cons_zero,Option.some.injEq] at he'
   subst he'
   exact row_under he.2.1
  |i+1,he'=>simp at he'
 ·have h0:els= []:=by
   refine Classical.byContradiction fun h=> ?_
   cases hb h
  subst h0
  simp
  exact er_keep [] .nils (by simp [tupOf]) [] (by simp) (by simp) (by simp [AV.under]) (fun i e he'=>by simp at he') (.inl ⟨rfl,rfl,rfl⟩)
theorem cloneNm (els:List (List AV)) (he:Els 2 els) (hl:els.length≤1000000000) {σ:Store}:ACalls Tryz.prog n_slices_Clone_api_Name_api_Name [.lst els] σ (Cloned 101 2 els σ):=acalls_cloned (cloneNm_0 els he hl) (by simp [AV.pure]) he.2.1
theorem cloneMv_0 (els:List (List AV)) (he:Els 4 els) (hl:els.length≤1000000000):ACalls Tryz.prog n_slices_Clone_api_Move_api_Move [.lst els] [] (Cloned 103 4 els []):=by
 refine acalls_of_awp_e hmix c_slices_Clone_api_Move_api_Move rfl ?_
 simp [a_slices_Clone_api_Move_api_Move]
 refine nl_of fun b hb=> ?_
 cases b
 ·simp
  refine ap_row [] els false (by simp) rfl (by decide) he.1 (fun h=>by cases h) rfl (by omega) (by omega) ?_
  simp
  refine er_keep [.row 103 4 els false] (.row 0 els.length) (by simp [tupOf]) [] (by simp) (by simp) (by simp [AV.under]) (fun i e he'=> ?_) (.inr ⟨rfl,rfl⟩)
  refine .inr ?_
  match i,he' with
  |0,he'=>
   simp only [List.getElem?_cons_zero,Option.some.injEq] at he'
   subst he'
   exact row_under he.2.1
  |i+1,he'=>simp at he'
 ·have h0:els= []:=by
   refine Classical.byContradiction fun h=> ?_
   cases hb h
  subst h0
  simp
  exact er_keep [] .nils (by simp [tupOf]) [] (by simp) (by simp) (by simp [AV.under]) (fun i e he'=>by simp at he') (.inl ⟨rfl,rfl,rfl⟩)
theorem cloneMv (els:List (List AV)) (he:Els 4 els) (hl:els.length≤1000000000) {σ:Store}:ACalls Tryz.prog n_slices_Clone_api_Move_api_Move [.lst els] σ (Cloned 103 4 els σ):=acalls_cloned (cloneMv_0 els he hl) (by simp [AV.pure]) he.2.1
theorem cloneFi_0 (els:List (List AV)) (he:Els 3 els) (hl:els.length≤1000000000):ACalls Tryz.prog n_slices_Clone_api_File_api_File [.lst els] [] (Cloned 97 3 els []):=by
 refine acalls_of_awp_e hmix c_slices_Clone_api_File_api_File rfl ?_
 simp [a_slices_Clone_api_File_api_File]
 refine nl_of fun b hb=> ?_
 cases b
 ·simp
  refine ap_row [] els false (by simp) rfl (by decide) he.1 (fun h=>by cases h) rfl (by omega) (by omega) ?_
  simp
  refine er_keep [.row 97 3 els false] (.row 0 els.length) (by simp [tupOf]) [] (by simp) (by simp) (by simp [AV.under]) (fun i e he'=> ?_) (.inr ⟨rfl,rfl⟩)
  refine .inr ?_
  match i,he' with
  |0,he'=>
   simp only [List.getElem?_cons_zero,Option.some.injEq] at he'
   subst he'
   exact row_under he.2.1
  |i+1,he'=>simp at he'
 ·have h0:els= []:=by
   refine Classical.byContradiction fun h=> ?_
   cases hb h
  subst h0
  simp
  exact er_keep [] .nils (by simp [tupOf]) [] (by simp) (by simp) (by simp [AV.under]) (fun i e he'=>by simp at he') (.inl ⟨rfl,rfl,rfl⟩)
theorem cloneFi (els:List (List AV)) (he:Els 3 els) (hl:els.length≤1000000000) {σ:Store}:ACalls Tryz.prog n_slices_Clone_api_File_api_File [.lst els] σ (Cloned 97 3 els σ):=acalls_cloned (cloneFi_0 els he hl) (by simp [AV.pure]) he.2.1
theorem cloneMt_0 (els:List (List AV)) (he:Els 11 els) (hl:els.length≤1000000000):ACalls Tryz.prog n_slices_Clone_api_Metric_api_Metric [.lst els] [] (Cloned 57 11 els []):=by
 refine acalls_of_awp_e hmix c_slices_Clone_api_Metric_api_Metric rfl ?_
 simp [a_slices_Clone_api_Metric_api_Metric]
 refine nl_of fun b hb=> ?_
 cases b
 ·simp
  refine ap_row [] els false (by simp) rfl (by decide) he.1 (fun h=>by cases h) rfl (by omega) (by omega) ?_
  simp
  refine er_keep [.row 57 11 els false] (.row 0 els.length) (by simp [tupOf]) [] (by simp) (by simp) (by simp [AV.under]) (fun i e he'=> ?_) (.inr ⟨rfl,rfl⟩)
  refine .inr ?_
  match i,he' with
  |0,he'=>
   simp only [List.getElem?_cons_zero,Option.some.injEq] at he'
   subst he'
   exact row_under he.2.1
  |i+1,he'=>simp at he'
 ·have h0:els= []:=by
   refine Classical.byContradiction fun h=> ?_
   cases hb h
  subst h0
  simp
  exact er_keep [] .nils (by simp [tupOf]) [] (by simp) (by simp) (by simp [AV.under]) (fun i e he'=>by simp at he') (.inl ⟨rfl,rfl,rfl⟩)
theorem cloneMt (els:List (List AV)) (he:Els 11 els) (hl:els.length≤1000000000) {σ:Store}:ACalls Tryz.prog n_slices_Clone_api_Metric_api_Metric [.lst els] σ (Cloned 57 11 els σ):=acalls_cloned (cloneMt_0 els he hl) (by simp [AV.pure]) he.2.1
theorem cloneSl_0 (els:List (List AV)) (he:Els 2 els) (hl:els.length≤1000000000):ACalls Tryz.prog n_slices_Clone_api_Slot_api_Slot [.lst els] [] (Cloned 186 2 els []):=by
 refine acalls_of_awp_e hmix c_slices_Clone_api_Slot_api_Slot rfl ?_
 simp [a_slices_Clone_api_Slot_api_Slot]
 refine nl_of fun b hb=> ?_
 cases b
 ·simp
  refine ap_row [] els false (by simp) rfl (by decide) he.1 (fun h=>by cases h) rfl (by omega) (by omega) ?_
  simp
  refine er_keep [.row 186 2 els false] (.row 0 els.length) (by simp [tupOf]) [] (by simp) (by simp) (by simp [AV.under]) (fun i e he'=> ?_) (.inr ⟨rfl,rfl⟩)
  refine .inr ?_
  match i,he' with
  |0,he'=>
   simp only [List.getElem?_cons_zero,Option.some.injEq] at he'
   subst he'
   exact row_under he.2.1
  |i+1,he'=>simp at he'
 ·have h0:els= []:=by
   refine Classical.byContradiction fun h=> ?_
   cases hb h
  subst h0
  simp
  exact er_keep [] .nils (by simp [tupOf]) [] (by simp) (by simp) (by simp [AV.under]) (fun i e he'=>by simp at he') (.inl ⟨rfl,rfl,rfl⟩)
theorem cloneSl (els:List (List AV)) (he:Els 2 els) (hl:els.length≤1000000000) {σ:Store}:ACalls Tryz.prog n_slices_Clone_api_Slot_api_Slot [.lst els] σ (Cloned 186 2 els σ):=acalls_cloned (cloneSl_0 els he hl) (by simp [AV.pure]) he.2.1
theorem cloneRi_0 (els:List (List AV)) (he:Els 2 els) (hl:els.length≤1000000000):ACalls Tryz.prog n_slices_Clone_api_Ring_api_Ring [.lst els] [] (Cloned 112 2 els []):=by
 refine acalls_of_awp_e hmix c_slices_Clone_api_Ring_api_Ring rfl ?_
 simp [a_slices_Clone_api_Ring_api_Ring]
 refine nl_of fun b hb=> ?_
 cases b
 ·simp
  refine ap_row [] els false (by simp) rfl (by decide) he.1 (fun h=>by cases h) rfl (by omega) (by omega) ?_
  simp
  refine er_keep [.row 112 2 els false] (.row 0 els.length) (by simp [tupOf]) [] (by simp) (by simp) (by simp [AV.under]) (fun i e he'=> ?_) (.inr ⟨rfl,rfl⟩)
  refine .inr ?_
  match i,he' with
  |0,he'=>
   simp only [List.getElem?_cons_zero,Option.some.injEq] at he'
   subst he'
   exact row_under he.2.1
  |i+1,he'=>simp at he'
 ·have h0:els= []:=by
   refine Classical.byContradiction fun h=> ?_
   cases hb h
  subst h0
  simp
  exact er_keep [] .nils (by simp [tupOf]) [] (by simp) (by simp) (by simp [AV.under]) (fun i e he'=>by simp at he') (.inl ⟨rfl,rfl,rfl⟩)
theorem cloneRi (els:List (List AV)) (he:Els 2 els) (hl:els.length≤1000000000) {σ:Store}:ACalls Tryz.prog n_slices_Clone_api_Ring_api_Ring [.lst els] σ (Cloned 112 2 els σ):=acalls_cloned (cloneRi_0 els he hl) (by simp [AV.pure]) he.2.1
theorem bsNm (els:List (List AV)) (he:Els 2 els) (hl:els.length≤1000000000) (tgt:AV) (ht:tgt.pure=true) (g:Nat) (hb:hasBody Tryz.prog g=true) (k:Nat) (hk:k≤els.length) (cmp:Nat→Int)
  (hg:∀i c,els[i]? =some c→PCalls Tryz.prog g [.agg c,tgt] (fun r=>r=.int .i64 (cmp i))) (hlt:∀i,i<k→cmp i<0) (hge:∀i,k≤i→i<els.length→0≤cmp i):
  PCalls Tryz.prog n_slices_BinarySearchFunc_api_Name_api_Name_string [.lst els,tgt,.fn (.func g) [] []] (fun r=>r=.tup [.int .i64 k,.bool (decide (k<els.length)&&decide (cmp k=0))]):=by
 refine pcalls_of_awp hmix c_slices_BinarySearchFunc_api_Name_api_Name_string rfl ?_
 simp [a_slices_BinarySearchFunc_api_Name_api_Name_string]
 refine lp_startx (fun x f σ=>∃(i j:Nat),x=j-i∧i≤k∧k≤j∧j≤els.length∧f 0=.lst els∧f 1=tgt∧f 2=.fn (.func g) [] []∧f 8=.int .i64 els.length∧f 9=.int .i64 i∧f 10=.int .i64 j∧σ= []) els.length ?_ ?_
 ·exact ⟨0,els.length,by simp,by simp,hk,by simp,by simp,by simp,by simp,by simp,by simp,by simp,by simp⟩
 rintro x f σ ⟨i,j,hx,hik,hkj,hjl,h0,h1,h2,h8,h9,h10,rfl⟩
 simp [h9,h10]
 refine cb_dec (fun hij=> ?_) (fun hij=> ?_)
 ·have hij':i<j:=by omega
  obtain ⟨m,hm⟩:∃m,m=(i+j)/2:=⟨_,rfl⟩
  have hmj:m<j:=by omega
  have him:i≤m:=by omega
  have w1:IntKind.i64.wrap ((i:Int)+j)=((i+j:Nat):Int):=by rw [wrap_i64 (by omega) (by omega)];omega
  have w2:IntKind.u64.wrap ((i:Int)+j)=((i+j:Nat):Int):=by rw [wrap_u64n (by omega) (by omega)];omega
  have w3:((i:Int)+j).fdiv (2^min 1 IntKind.u64.bits)=(m:Int):=by
   have:(2^min 1 IntKind.u64.bits:Int)=2:=by decide
   rw [this,hm,Int.fdiv_eq_ediv_of_nonneg _ (by omega)];omega
  have w4:IntKind.i64.wrap (m:Int)=m:=wrap_i64 (by omega) (by omega)
  have w5:IntKind.i64.wrap ((m:Int)+1)=((m+1:Nat):Int):=by rw [wrap_i64 (by omega) (by omega)];omega
  obtain ⟨c,hc⟩:∃c,els[m]? =some c:=⟨_,List.getElem?_eq_getElem (by omega)⟩
  have hcl:=he.1 c (List.mem_of_getElem? hc)
  have hcp:=he.2.1 c (List.mem_of_getElem? hc)
  have e1:=h0;have e2:=h1;have e3:=h2
  simp [h0,h1,h2,h9,h10,w1,w2,w3,w4,w5,hc,hcl,List.take_of_length_le,cellsAt,oneOf]
  refine cv_fn hb ?_
  refine ac_same (hg m c hc) (by simp [AV.pure,ht];exact hcp) ?_
  rintro r rfl
  simp
  refine cb_dec (fun hneg=> ?_) (fun hneg=> ?_)
  ·have hmk:m<k:=Classical.byContradiction fun h=>by have:=hge m (by omega) (by omega);omega
   simp [w5]
   refine nx_intro (j-(m+1)) (by omega) ⟨m+1,j,rfl,by omega,by omega,by omega,by simp [h0],by simp [h1],by simp [h2],by simp [h8],by simp,by simp [h10],rfl⟩
  ·have hmk:k≤m:=Classical.byContradiction fun h=>by have:=hlt m (by omega);omega
   simp
   refine nx_intro (m-i) (by omega) ⟨i,m,rfl,by omega,by omega,by omega,by simp [h0],by simp [h1],by simp [h2],by simp [h8],by simp [h9],by simp,rfl⟩
 ·have hik2:i=k:=by omega
  subst hik2
  by_cases hl2:i<els.length
  ·obtain ⟨c,hc⟩:∃c,els[i]? =some c:=⟨_,List.getElem?_eq_getElem hl2⟩
   have hcl:=he.1 c (List.mem_of_getElem? hc)
   have hcp:=he.2.1 c (List.mem_of_getElem? hc)
   obtain ⟨hx1,hx2⟩:=List.getElem?_eq_some_iff.1 hc
   simp [h0,h1,h2,h8,h9,hl2,hc,hx2,hcl,List.take_of_length_le]
   refine cv_fn hb ?_
   refine ac_same (hg i c hc) (by simp [AV.pure,ht];exact hcp) ?_
   rintro r rfl
   simp [h9,hl2]
  ·simp [h0,h1,h2,h8,h9,hl2]
theorem bsMt (els:List (List AV)) (he:Els 11 els) (hl:els.length≤1000000000) (tgt:AV) (ht:tgt.pure=true) (g:Nat) (hb:hasBody Tryz.prog g=true) (k:Nat) (hk:k≤els.length) (cmp:Nat→Int)
  (hg:∀i c,els[i]? =some c→PCalls Tryz.prog g [.agg c,tgt] (fun r=>r=.int .i64 (cmp i))) (hlt:∀i,i<k→cmp i<0) (hge:∀i,k≤i→i<els.length→0≤cmp i):
  PCalls Tryz.prog n_slices_BinarySearchFunc_api_Metric_api_Metric_string [.lst els,tgt,.fn (.func g) [] []] (fun r=>r=.tup [.int .i64 k,.bool (decide (k<els.length)&&decide (cmp k=0))]):=by
 refine pcalls_of_awp hmix c_slices_BinarySearchFunc_api_Metric_api_Metric_string rfl ?_
 simp [a_slices_BinarySearchFunc_api_Metric_api_Metric_string]
 refine lp_startx (fun x f σ=>∃(i j:Nat),x=j-i∧i≤k∧k≤j∧j≤els.length∧f 0=.lst els∧f 1=tgt∧f 2=.fn (.func g) [] []∧f 8=.int .i64 els.length∧f 9=.int .i64 i∧f 10=.int .i64 j∧σ= []) els.length ?_ ?_
 ·exact ⟨0,els.length,by simp,by simp,hk,by simp,by simp,by simp,by simp,by simp,by simp,by simp,by simp⟩
 rintro x f σ ⟨i,j,hx,hik,hkj,hjl,h0,h1,h2,h8,h9,h10,rfl⟩
 simp [h9,h10]
 refine cb_dec (fun hij=> ?_) (fun hij=> ?_)
 ·have hij':i<j:=by omega
  obtain ⟨m,hm⟩:∃m,m=(i+j)/2:=⟨_,rfl⟩
  have hmj:m<j:=by omega
  have him:i≤m:=by omega
  have w1:IntKind.i64.wrap ((i:Int)+j)=((i+j:Nat):Int):=by rw [wrap_i64 (by omega) (by omega)];omega
  have w2:IntKind.u64.wrap ((i:Int)+j)=((i+j:Nat):Int):=by rw [wrap_u64n (by omega) (by omega)];omega
  have w3:((i:Int)+j).fdiv (2^min 1 IntKind.u64.bits)=(m:Int):=by
   have:(2^min 1 IntKind.u64.bits:Int)=2:=by decide
   rw [this,hm,Int.fdiv_eq_ediv_of_nonneg _ (by omega)];omega
  have w4:IntKind.i64.wrap (m:Int)=m:=wrap_i64 (by omega) (by omega)
  have w5:IntKind.i64.wrap ((m:Int)+1)=((m+1:Nat):Int):=by rw [wrap_i64 (by omega) (by omega)];omega
  obtain ⟨c,hc⟩:∃c,els[m]? =some c:=⟨_,List.getElem?_eq_getElem (by omega)⟩
  have hcl:=he.1 c (List.mem_of_getElem? hc)
  have hcp:=he.2.1 c (List.mem_of_getElem? hc)
  have e1:=h0;have e2:=h1;have e3:=h2
  simp [h0,h1,h2,h9,h10,w1,w2,w3,w4,w5,hc,hcl,List.take_of_length_le,cellsAt,oneOf]
  refine cv_fn hb ?_
  refine ac_same (hg m c hc) (by simp [AV.pure,ht];exact hcp) ?_
  rintro r rfl
  simp
  refine cb_dec (fun hneg=> ?_) (fun hneg=> ?_)
  ·have hmk:m<k:=Classical.byContradiction fun h=>by have:=hge m (by omega) (by omega);omega
   simp [w5]
   refine nx_intro (j-(m+1)) (by omega) ⟨m+1,j,rfl,by omega,by omega,by omega,by simp [h0],by simp [h1],by simp [h2],by simp [h8],by simp,by simp [h10],rfl⟩
  ·have hmk:k≤m:=Classical.byContradiction fun h=>by have:=hlt m (by omega);omega
   simp
   refine nx_intro (m-i) (by omega) ⟨i,m,rfl,by omega,by omega,by omega,by simp [h0],by simp [h1],by simp [h2],by simp [h8],by simp [h9],by simp,rfl⟩
 ·have hik2:i=k:=by omega
  subst hik2
  by_cases hl2:i<els.length
  ·obtain ⟨c,hc⟩:∃c,els[i]? =some c:=⟨_,List.getElem?_eq_getElem hl2⟩
   have hcl:=he.1 c (List.mem_of_getElem? hc)
   have hcp:=he.2.1 c (List.mem_of_getElem? hc)
   obtain ⟨hx1,hx2⟩:=List.getElem?_eq_some_iff.1 hc
   simp [h0,h1,h2,h8,h9,hl2,hc,hx2,hcl,List.take_of_length_le]
   refine cv_fn hb ?_
   refine ac_same (hg i c hc) (by simp [AV.pure,ht];exact hcp) ?_
   rintro r rfl
   simp [h9,hl2]
  ·simp [h0,h1,h2,h8,h9,hl2]
theorem bsFi (els:List (List AV)) (he:Els 3 els) (hl:els.length≤1000000000) (tgt:AV) (ht:tgt.pure=true) (g:Nat) (hb:hasBody Tryz.prog g=true) (k:Nat) (hk:k≤els.length) (cmp:Nat→Int)
  (hg:∀i c,els[i]? =some c→PCalls Tryz.prog g [.agg c,tgt] (fun r=>r=.int .i64 (cmp i))) (hlt:∀i,i<k→cmp i<0) (hge:∀i,k≤i→i<els.length→0≤cmp i):
  PCalls Tryz.prog n_slices_BinarySearchFunc_api_File_api_File_int [.lst els,tgt,.fn (.func g) [] []] (fun r=>r=.tup [.int .i64 k,.bool (decide (k<els.length)&&decide (cmp k=0))]):=by
 refine pcalls_of_awp hmix c_slices_BinarySearchFunc_api_File_api_File_int rfl ?_
 simp [a_slices_BinarySearchFunc_api_File_api_File_int]
 refine lp_startx (fun x f σ=>∃(i j:Nat),x=j-i∧i≤k∧k≤j∧j≤els.length∧f 0=.lst els∧f 1=tgt∧f 2=.fn (.func g) [] []∧f 8=.int .i64 els.length∧f 9=.int .i64 i∧f 10=.int .i64 j∧σ= []) els.length ?_ ?_
 ·exact ⟨0,els.length,by simp,by simp,hk,by simp,by simp,by simp,by simp,by simp,by simp,by simp,by simp⟩
 rintro x f σ ⟨i,j,hx,hik,hkj,hjl,h0,h1,h2,h8,h9,h10,rfl⟩
 simp [h9,h10]
 refine cb_dec (fun hij=> ?_) (fun hij=> ?_)
 ·have hij':i<j:=by omega
  obtain ⟨m,hm⟩:∃m,m=(i+j)/2:=⟨_,rfl⟩
  have hmj:m<j:=by omega
  have him:i≤m:=by omega
  have w1:IntKind.i64.wrap ((i:Int)+j)=((i+j:Nat):Int):=by rw [wrap_i64 (by omega) (by omega)];omega
  have w2:IntKind.u64.wrap ((i:Int)+j)=((i+j:Nat):Int):=by rw [wrap_u64n (by omega) (by omega)];omega
  have w3:((i:Int)+j).fdiv (2^min 1 IntKind.u64.bits)=(m:Int):=by
   have:(2^min 1 IntKind.u64.bits:Int)=2:=by decide
   rw [this,hm,Int.fdiv_eq_ediv_of_nonneg _ (by omega)];omega
  have w4:IntKind.i64.wrap (m:Int)=m:=wrap_i64 (by omega) (by omega)
  have w5:IntKind.i64.wrap ((m:Int)+1)=((m+1:Nat):Int):=by rw [wrap_i64 (by omega) (by omega)];omega
  obtain ⟨c,hc⟩:∃c,els[m]? =some c:=⟨_,List.getElem?_eq_getElem (by omega)⟩
  have hcl:=he.1 c (List.mem_of_getElem? hc)
  have hcp:=he.2.1 c (List.mem_of_getElem? hc)
  have e1:=h0;have e2:=h1;have e3:=h2
  simp [h0,h1,h2,h9,h10,w1,w2,w3,w4,w5,hc,hcl,List.take_of_length_le,cellsAt,oneOf]
  refine cv_fn hb ?_
  refine ac_same (hg m c hc) (by simp [AV.pure,ht];exact hcp) ?_
  rintro r rfl
  simp
  refine cb_dec (fun hneg=> ?_) (fun hneg=> ?_)
  ·have hmk:m<k:=Classical.byContradiction fun h=>by have:=hge m (by omega) (by omega);omega
   simp [w5]
   refine nx_intro (j-(m+1)) (by omega) ⟨m+1,j,rfl,by omega,by omega,by omega,by simp [h0],by simp [h1],by simp [h2],by simp [h8],by simp,by simp [h10],rfl⟩
  ·have hmk:k≤m:=Classical.byContradiction fun h=>by have:=hlt m (by omega);omega
   simp
   refine nx_intro (m-i) (by omega) ⟨i,m,rfl,by omega,by omega,by omega,by simp [h0],by simp [h1],by simp [h2],by simp [h8],by simp [h9],by simp,rfl⟩
 ·have hik2:i=k:=by omega
  subst hik2
  by_cases hl2:i<els.length
  ·obtain ⟨c,hc⟩:∃c,els[i]? =some c:=⟨_,List.getElem?_eq_getElem hl2⟩
   have hcl:=he.1 c (List.mem_of_getElem? hc)
   have hcp:=he.2.1 c (List.mem_of_getElem? hc)
   obtain ⟨hx1,hx2⟩:=List.getElem?_eq_some_iff.1 hc
   simp [h0,h1,h2,h8,h9,hl2,hc,hx2,hcl,List.take_of_length_le]
   refine cv_fn hb ?_
   refine ac_same (hg i c hc) (by simp [AV.pure,ht];exact hcp) ?_
   rintro r rfl
   simp [h9,hl2]
  ·simp [h0,h1,h2,h8,h9,hl2]
theorem indexFi (pre:Store) (els:List (List AV)) (he:Els 3 els) (hl:els.length≤1000000000) (p:List AV→Bool) (g:Nat) (capt:List AV) (hb:hasBody Tryz.prog g=true) (hg:Asks Tryz.prog pre g capt .agg p els):
  ACalls Tryz.prog n_slices_IndexFunc_api_File_api_File [.row pre.length els.length,.fn (.func g) [] capt] (pre++ [.row 97 3 els false]) (fun r σ'=>r=.int .i64 (idxE p els)∧σ'=pre++ [.row 97 3 els false]):=by
 refine acalls_of_awp_e hmix c_slices_IndexFunc_api_File_api_File rfl ?_
 simp [a_slices_IndexFunc_api_File_api_File]
 refine lp_startx (fun x f σ=>∃(i:Nat),x=els.length-i∧i≤els.length∧f 0=.row pre.length els.length∧f 1=.fn (.func g) [] capt∧f 7=.int .i64 els.length∧f 8=.int .i64 i∧(∀m∈els.take i,p m=false)∧σ=pre++ [.row 97 3 els false]) els.length ?_ ?_
 ·exact ⟨0,by simp,by simp,by simp,by simp,by simp,by simp,by simp,by simp⟩
 rintro x f σ ⟨i,hx,hi,h0,h1,h7,h8,hall,rfl⟩
 simp [h7,h8]
 refine cb_dec (fun hlt=> ?_) (fun hge=> ?_)
 ·have hlt':i<els.length:=by omega
  have hwi:IntKind.i64.wrap ((i:Int)+1)=((i+1:Nat):Int):=by rw [wrap_i64 (by omega) (by omega)];omega
  obtain ⟨c,hc⟩:∃c,els[i]? =some c:=⟨_,List.getElem?_eq_getElem hlt'⟩
  obtain ⟨hx1,hx2⟩:=List.getElem?_eq_some_iff.1 hc
  have hcm:=List.mem_of_getElem? hc
  have hcl:=he.1 c hcm
  skip
  simp [h0,h1,h8,hc,hx2,hcl,hlt',List.take_of_length_le]
  refine cv_asks hb hg hcm ?_
  cases hp:p c with
  |true=>
   have:=idxE_some hc hp hall
   simp
   refine er_keep (pre++ [.row 97 3 els false]) (.int .i64 (idxE p els)) (by simp [tupOf,this]) [] (by simp) (by simp) (by simp [AV.under]) (fun i e he=> .inl he) ⟨rfl,rfl⟩
  |false=>
   simp [h8,hwi]
   refine nx_intro (els.length-(i+1)) (by omega) ⟨i+1,rfl,by omega,by simp [h0],by simp [h1],by simp [h7],by simp,fun m hm=> ?_,rfl⟩
   rw [List.take_add_one,hc] at hm
   simp only [Option.toList_some,List.mem_append,List.mem_singleton] at hm
   rcases hm with hm|rfl
   ·exact hall m hm
   ·exact hp
 ·have hil:i=els.length:=by omega
  rw [hil,List.take_length] at hall
  have:=idxE_none hall
  simp
  refine er_keep (pre++ [.row 97 3 els false]) (.int .i64 (idxE p els)) (by simp [tupOf,this]) [] (by simp) (by simp) (by simp [AV.under]) (fun i e he=> .inl he) ⟨rfl,rfl⟩
theorem indexSl (pre:Store) (els:List (List AV)) (he:Els 2 els) (hl:els.length≤1000000000) (p:List AV→Bool) (g:Nat) (capt:List AV) (hb:hasBody Tryz.prog g=true) (hg:Asks Tryz.prog pre g capt .agg p els):
  ACalls Tryz.prog n_slices_IndexFunc_api_Slot_api_Slot [.row pre.length els.length,.fn (.func g) [] capt] (pre++ [.row 186 2 els false]) (fun r σ'=>r=.int .i64 (idxE p els)∧σ'=pre++ [.row 186 2 els false]):=by
 refine acalls_of_awp_e hmix c_slices_IndexFunc_api_Slot_api_Slot rfl ?_
 simp [a_slices_IndexFunc_api_Slot_api_Slot]
 refine lp_startx (fun x f σ=>∃(i:Nat),x=els.length-i∧i≤els.length∧f 0=.row pre.length els.length∧f 1=.fn (.func g) [] capt∧f 7=.int .i64 els.length∧f 8=.int .i64 i∧(∀m∈els.take i,p m=false)∧σ=pre++ [.row 186 2 els false]) els.length ?_ ?_
 ·exact ⟨0,by simp,by simp,by simp,by simp,by simp,by simp,by simp,by simp⟩
 rintro x f σ ⟨i,hx,hi,h0,h1,h7,h8,hall,rfl⟩
 simp [h7,h8]
 refine cb_dec (fun hlt=> ?_) (fun hge=> ?_)
 ·have hlt':i<els.length:=by omega
  have hwi:IntKind.i64.wrap ((i:Int)+1)=((i+1:Nat):Int):=by rw [wrap_i64 (by omega) (by omega)];omega
  obtain ⟨c,hc⟩:∃c,els[i]? =some c:=⟨_,List.getElem?_eq_getElem hlt'⟩
  obtain ⟨hx1,hx2⟩:=List.getElem?_eq_some_iff.1 hc
  have hcm:=List.mem_of_getElem? hc
  have hcl:=he.1 c hcm
  skip
  simp [h0,h1,h8,hc,hx2,hcl,hlt',List.take_of_length_le]
  refine cv_asks hb hg hcm ?_
  cases hp:p c with
  |true=>
   have:=idxE_some hc hp hall
   simp
   refine er_keep (pre++ [.row 186 2 els false]) (.int .i64 (idxE p els)) (by simp [tupOf,this]) [] (by simp) (by simp) (by simp [AV.under]) (fun i e he=> .inl he) ⟨rfl,rfl⟩
  |false=>
   simp [h8,hwi]
   refine nx_intro (els.length-(i+1)) (by omega) ⟨i+1,rfl,by omega,by simp [h0],by simp [h1],by simp [h7],by simp,fun m hm=> ?_,rfl⟩
   rw [List.take_add_one,hc] at hm
   simp only [Option.toList_some,List.mem_append,List.mem_singleton] at hm
   rcases hm with hm|rfl
   ·exact hall m hm
   ·exact hp
 ·have hil:i=els.length:=by omega
  rw [hil,List.take_length] at hall
  have:=idxE_none hall
  simp
  refine er_keep (pre++ [.row 186 2 els false]) (.int .i64 (idxE p els)) (by simp [tupOf,this]) [] (by simp) (by simp) (by simp [AV.under]) (fun i e he=> .inl he) ⟨rfl,rfl⟩
theorem indexlRi (els:List (List AV)) (he:Els 2 els) (hl:els.length≤1000000000) (p:List AV→Bool) (g:Nat) (capt:List AV) (hcp:∀x∈capt,x.pure=true) (hb:hasBody Tryz.prog g=true) (hg:∀c∈els,PCalls Tryz.prog g (.agg c::capt) (fun r=>r=.bool (p c))):
  PCalls Tryz.prog n_slices_IndexFunc_api_Ring_api_Ring [.lst els,.fn (.func g) [] capt] (fun r=>r=.int .i64 (idxE p els)):=by
 refine pcalls_of_awp hmix c_slices_IndexFunc_api_Ring_api_Ring rfl ?_
 simp [a_slices_IndexFunc_api_Ring_api_Ring]
 refine lp_startx (fun x f σ=>∃(i:Nat),x=els.length-i∧i≤els.length∧f 0=.lst els∧f 1=.fn (.func g) [] capt∧f 7=.int .i64 els.length∧f 8=.int .i64 i∧(∀m∈els.take i,p m=false)∧σ= []) els.length ?_ ?_
 ·exact ⟨0,by simp,by simp,by simp,by simp,by simp,by simp,by simp,by simp⟩
 rintro x f σ ⟨i,hx,hi,h0,h1,h7,h8,hall,rfl⟩
 simp [h7,h8]
 refine cb_dec (fun hlt=> ?_) (fun hge=> ?_)
 ·have hlt':i<els.length:=by omega
  have hwi:IntKind.i64.wrap ((i:Int)+1)=((i+1:Nat):Int):=by rw [wrap_i64 (by omega) (by omega)];omega
  obtain ⟨c,hc⟩:∃c,els[i]? =some c:=⟨_,List.getElem?_eq_getElem hlt'⟩
  obtain ⟨hx1,hx2⟩:=List.getElem?_eq_some_iff.1 hc
  have hcm:=List.mem_of_getElem? hc
  have hcl:=he.1 c hcm
  have hcpp:=he.2.1 c hcm
  simp [h0,h1,h8,hc,hx2,hcl,hlt',List.take_of_length_le]
  refine cv_fn hb ?_
  refine ac_same (hg c hcm) (by simp [AV.pure];exact ⟨hcpp,hcp⟩) ?_
  rintro r rfl
  cases hp:p c with
  |true=>
   have:=idxE_some hc hp hall
   simp [this]
  |false=>
   simp [h8,hwi]
   refine nx_intro (els.length-(i+1)) (by omega) ⟨i+1,rfl,by omega,by simp [h0],by simp [h1],by simp [h7],by simp,fun m hm=> ?_,rfl⟩
   rw [List.take_add_one,hc] at hm
   simp only [Option.toList_some,List.mem_append,List.mem_singleton] at hm
   rcases hm with hm|rfl
   ·exact hall m hm
   ·exact hp
 ·have hil:i=els.length:=by omega
  rw [hil,List.take_length] at hall
  simp [idxE_none hall]
theorem indexNilFi {σ:Store} (g:Nat) (capt:List AV):ACalls Tryz.prog n_slices_IndexFunc_api_File_api_File [.nils,.fn (.func g) [] capt] σ (fun r σ'=>r=.int .i64 (-1)∧σ'=σ):=by
 refine acalls_of_awp_e hmix c_slices_IndexFunc_api_File_api_File rfl ?_
 simp [a_slices_IndexFunc_api_File_api_File]
 refine lp_startx (fun x f σ'=>f 7=.int .i64 0∧f 8=.int .i64 0∧σ'=σ) 0 ?_ ?_
 ·exact ⟨by simp,by simp,rfl⟩
 rintro x f σ' ⟨h7,h8,rfl⟩
 simp [h7,h8]
 exact er_keep σ' (.int .i64 (-1)) (by simp [tupOf]) [] (by simp) (by simp) (by simp [AV.under]) (fun i e he=> .inl he) ⟨rfl,rfl⟩
theorem delfNilFi {σ:Store} (g:Nat) (capt:List AV):ACalls Tryz.prog n_slices_DeleteFunc_api_File_api_File [.nils,.fn (.func g) [] capt] σ (fun r σ'=>r=.nils∧σ'=σ):=by
 refine acalls_of_awp_e hmix c_slices_DeleteFunc_api_File_api_File rfl ?_
 simp [a_slices_DeleteFunc_api_File_api_File]
 refine ac_eff (indexNilFi g capt) ?_
 rintro r σ' ⟨rfl,rfl⟩
 simp
 exact er_keep σ' .nils (by simp [tupOf]) [] (by simp) (by simp) (by simp [AV.under]) (fun i e he=> .inl he) ⟨rfl,rfl⟩
theorem pcloneNm (els:List (List AV)) (he:Els 2 els) (hl:els.length≤1000000000) (hz:∀c∈els,∀x∈c,x≠ .nils):PCalls Tryz.prog n_slices_Clone_api_Name_api_Name [.lst els] (fun r=>r=.lst els):=by
 refine pcalls_of_awp hmix c_slices_Clone_api_Name_api_Name rfl ?_
 simp [a_slices_Clone_api_Name_api_Name]
 refine nl_of fun b hb=> ?_
 cases b
 ·simp
  refine ap_row [] els false (by simp) rfl (by decide) he.1 (fun h=>by cases h) rfl (by omega) (by omega) ?_
  simp [fz_pure he.2.1 hz]
 ·have h0:els= []:=by
   refine Classical.byContradiction fun h=> ?_
   cases hb h
  subst h0
  simp
theorem pcloneRu (els:List (List AV)) (he:Els 2 els) (hl:els.length≤1000000000) (hz:∀c∈els,∀x∈c,x≠ .nils):PCalls Tryz.prog n_slices_Clone_api_Rung_api_Rung [.lst els] (fun r=>r=.lst els):=by
 refine pcalls_of_awp hmix c_slices_Clone_api_Rung_api_Rung rfl ?_
 simp [a_slices_Clone_api_Rung_api_Rung]
 refine nl_of fun b hb=> ?_
 cases b
 ·simp
  refine ap_row [] els false (by simp) rfl (by decide) he.1 (fun h=>by cases h) rfl (by omega) (by omega) ?_
  simp [fz_pure he.2.1 hz]
 ·have h0:els= []:=by
   refine Classical.byContradiction fun h=> ?_
   cases hb h
  subst h0
  simp
theorem delfFi (pre:Store) (els:List (List AV)) (he:Els 3 els) (hl:els.length≤1000000000) (p:List AV→Bool) (g:Nat) (capt:List AV) (hb:hasBody Tryz.prog g=true) (hg:Asks Tryz.prog pre g capt .agg p els):
  ACalls Tryz.prog n_slices_DeleteFunc_api_File_api_File [.row pre.length els.length,.fn (.func g) [] capt] (pre++ [.row 97 3 els false])
   (fun r σ'=>∃X:List (List AV),σ'=pre++ [.row 97 3 X false]∧X.length=els.length∧Els 3 X∧((r=.row pre.length els.length∧X=els.filter fun n=> !p n)∨(r=.sub pre.length els.length 3 0 (els.filter fun n=> !p n).length∧X.take (els.filter fun n=> !p n).length=els.filter fun n=> !p n))):=by
 refine acalls_of_awp_e hmix c_slices_DeleteFunc_api_File_api_File rfl ?_
 simp [a_slices_DeleteFunc_api_File_api_File]
 refine ac_eff (indexFi pre els he hl p g capt hb hg) ?_
 rintro r σ ⟨rfl,rfl⟩
 rcases idxE_cases p els with ⟨hi1,hall⟩|⟨k,n,hk,hpn,hbefore,hi2⟩
 ·have hf:(els.filter fun n=> !p n)=els:=List.filter_eq_self.2 fun n hn=>by simp [hall n hn]
  rw [hf]
  simp [hi1]
  refine er_keep (pre++ [.row 97 3 els false]) (.row pre.length els.length) (by simp [tupOf]) [] (by simp) (by simp) (by simp [AV.under]) (fun i e he=> .inl he) ⟨els,rfl,rfl,he,.inl ⟨rfl,rfl⟩⟩
 ·have hkl:k<els.length:=(List.getElem?_eq_some_iff.1 hk).1
  have hpos:0<els.length:=by omega
  have hkn:¬((k:Int)= -1):=by omega
  have hwk:IntKind.i64.wrap ((k:Int)+1)=((k+1:Nat):Int):=by rw [wrap_i64 (by omega) (by omega)];omega
  simp [hi2,hkn,hwk]
  have hfk:((els.take k).filter fun n=> !p n)=els.take k:=List.filter_eq_self.2 fun n hn=>by simp [hbefore n hn]
  refine lp_startx (fun x f σ=>∃(j:Nat) (mid:List (List AV)) (tl:Store),x=els.length-j∧j≤els.length∧f 0=.row pre.length els.length∧f 1=.fn (.func g) [] capt∧f 5=.int .i64 ((els.take j).filter fun n=> !p n).length∧f 6=.int .i64 j∧((els.take j).filter fun n=> !p n).length+mid.length=j∧Els 3 mid∧
   σ=pre++ .row 97 3 (((els.take j).filter fun n=> !p n)++(mid++els.drop j)) false::tl) (els.length-(k+1)) ?_ ?_
  ·have ht1:els.take (k+1)=els.take k++ [n]:=by rw [List.take_add_one,hk];rfl
   have hf1:((els.take (k+1)).filter fun n=> !p n)=els.take k:=by
    rw [ht1,List.filter_append,hfk];simp [hpn]
   have hnm:=List.mem_of_getElem? hk
   refine ⟨k+1,[n],[],by omega,by omega,by simp,by simp, ?_,by simp, ?_,⟨(fun c hc=>by simp at hc;subst hc;exact he.1 _ hnm),(fun c hc=>by simp at hc;subst hc;exact he.2.1 _ hnm),(fun c hc=>by simp at hc;subst hc;exact he.2.2 _ hnm)⟩, ?_⟩
   ·rw [hf1];simp [hi2,Nat.min_eq_left (Nat.le_of_lt hkl)]
   ·rw [hf1];simp [Nat.min_eq_left (Nat.le_of_lt hkl)]
   ·rw [hf1]
    have:els.take k++([n]++els.drop (k+1))=els:=by
     rw [←List.append_assoc,←ht1,List.take_append_drop]
    rw [this]
  rintro x f σ ⟨j,mid,tl,hx,hj,h0,h1,h5,h6,hmid,hem,rfl⟩
  obtain ⟨A,hA⟩:∃A,A=(els.take j).filter fun n=> !p n:=⟨_,rfl⟩
  rw [←hA] at h5 hmid
  rw [←hA]
  have heA:Els 3 A:=⟨fun c hc=>he.1 c (by rw [hA] at hc;exact List.mem_of_mem_take (List.mem_filter.1 hc).1),fun c hc=>he.2.1 c (by rw [hA] at hc;exact List.mem_of_mem_take (List.mem_filter.1 hc).1),fun c hc=>he.2.2 c (by rw [hA] at hc;exact List.mem_of_mem_take (List.mem_filter.1 hc).1)⟩
  have hlen:(A++(mid++els.drop j)).length=els.length:=by simp;omega
  simp only [List.length_append,List.length_drop] at hlen
  simp [h0,h6,hlen]
  refine cb_dec (fun hlt=> ?_) (fun hge=> ?_)
  ·have hlt':j<els.length:=by omega
   have hwj:IntKind.i64.wrap ((j:Int)+1)=((j+1:Nat):Int):=by rw [wrap_i64 (by omega) (by omega)];omega
   obtain ⟨c,hv⟩:∃c,els[j]? =some c:=⟨_,List.getElem?_eq_getElem hlt'⟩
   have hdrop:els.drop j=c::els.drop (j+1):=by
    obtain ⟨h1,h2⟩:=List.getElem?_eq_some_iff.1 hv
    rw [List.drop_eq_getElem_cons h1,h2]
   have hget:(A++(mid++els.drop j))[j]? =some c:=by
    rw [←List.append_assoc,List.getElem?_append_right (by simp;omega)]
    have:j-(A++mid).length=0:=by simp;omega
    rw [this,hdrop];rfl
   obtain ⟨hx1,hx2⟩:=List.getElem?_eq_some_iff.1 hget
   have hcm:=List.mem_of_getElem? hv
   have hcl:=he.1 c hcm
   have htake:els.take (j+1)=els.take j++ [c]:=by rw [List.take_add_one,hv];rfl
   skip
   have hone:=he.2.2 _ hcm
   simp [h0,h1,h6,hlen,hlt',hget,hx2,hcl,List.take_of_length_le,pre1_get,pre1_set]
   rw [if_pos (fun x hx=>hone x hx)];simp [h0,h1,h6,hlen,hlt',hget,hx2,hcl,List.take_of_length_le,pre1_get,pre1_set]
   refine cv_asks hb hg hcm ?_
   cases hpv:p c with
   |true=>
    have hf1:((els.take (j+1)).filter fun n=> !p n)=A:=by rw [htake,List.filter_append,←hA];simp [hpv]
    simp [h6,hwj]
    refine nx_intro (els.length-(j+1)) (by omega) ⟨j+1,mid++ [c],tl++ [.var 97 c],rfl,by omega,by simp [h0],by simp [h1],by rw [hf1];simp [h5],by simp,by rw [hf1];simp;omega,⟨fun d hd=> ?_,fun d hd=> ?_,fun d hd=> ?_⟩, ?_⟩
    ·rcases List.mem_append.1 hd with h|h
     ·exact hem.1 d h
     ·simp at h;subst h;exact he.1 _ hcm
    ·rcases List.mem_append.1 hd with h|h
     ·exact hem.2.1 d h
     ·simp at h;subst h;exact he.2.1 _ hcm
    ·rcases List.mem_append.1 hd with h|h
     ·exact hem.2.2 d h
     ·simp at h;subst h;exact he.2.2 _ hcm
    ·rw [hf1,hdrop];simp
   |false=>
    have hf1:((els.take (j+1)).filter fun n=> !p n)=A++ [c]:=by rw [htake,List.filter_append,←hA];simp [hpv]
    obtain ⟨mid',hs1,hs2,hs3⟩:=set_midE A mid (els.drop (j+1)) c
    have hAl:A.length<els.length:=by omega
    obtain ⟨d0,hd0⟩:∃d0,(A++(mid++els.drop j))[A.length]? =some d0:=⟨_,List.getElem?_eq_getElem (by simp;omega)⟩
    obtain ⟨hy1,hy2⟩:=List.getElem?_eq_some_iff.1 hd0
    have hd0l:d0.length=3:=by
     have:=List.mem_of_getElem? hd0
     rcases List.mem_append.1 this with h|h
     ·exact heA.1 _ h
     ·rcases List.mem_append.1 h with h|h
      ·exact hem.1 _ h
      ·exact he.1 _ (List.mem_of_mem_drop h)
    have hwA:IntKind.i64.wrap ((A.length:Int)+1)=((A.length+1:Nat):Int):=by rw [wrap_i64 (by omega) (by omega)];omega
    have hsp:splice d0 0 c=c:=by
     have hd:d0.drop 3= []:=List.drop_of_length_le (by omega)
     simp [splice,hcl,hd]
    have hset:(A++(mid++els.drop j)).set A.length c=A++ [c]++(mid'++els.drop (j+1)):=by
     rw [hdrop,hs1];simp
    have hset2:(mid++els.drop j).set 0 c=c::(mid'++els.drop (j+1)):=by
     rw [List.set_append_right _ _ (Nat.le_refl _),Nat.sub_self] at hset
     simpa using hset
    have hdd:d0.drop 3= []:=List.drop_of_length_le (by omega)
    skip
    simp [h0,h1,h5,h6,hlen,hAl,hd0,hy2,hd0l,hcl,hwj,hwA,List.take_of_length_le,pre1_get,pre1_set,splice,hdd,hset2]
    rw [if_pos (fun x hx=>hone x hx)];simp [h5,h6,hwj,hwA]
    refine nx_intro (els.length-(j+1)) (by omega) ⟨j+1,mid',tl++ [.var 97 c],rfl,by omega,by simp [h0],by simp [h1],by rw [hf1];simp,by simp,by rw [hf1];simp;omega,⟨fun d hd=> ?_,fun d hd=> ?_,fun d hd=> ?_⟩, ?_⟩
    ·rcases hs3 d hd with h|rfl
     ·exact hem.1 d h
     ·exact he.1 _ hcm
    ·rcases hs3 d hd with h|rfl
     ·exact hem.2.1 d h
     ·exact he.2.1 _ hcm
    ·rcases hs3 d hd with h|rfl
     ·exact hem.2.2 d h
     ·exact he.2.2 _ hcm
    ·rw [hf1];simp
  ·have hjl:j=els.length:=by omega
   subst hjl
   rw [List.take_length] at hA
   rw [List.drop_length,List.append_nil]
   rw [Nat.sub_self,Nat.add_zero] at hlen
   have hAle:A.length≤els.length:=by omega
   have hdz:(A++mid).drop els.length= []:=List.drop_of_length_le (by simp;omega)
   simp [h0,h5,hlen,hpos,hAle,hdz]
   rw [←hA]
   obtain ⟨Y,hY⟩:∃Y,Y=A++List.replicate (els.length-A.length) [.int .i64 0,.nils,.int .i64 0]:=⟨_,rfl⟩
   have hYe:Els 3 Y:=by
    rw [hY]
    refine ⟨fun d hd=> ?_,fun d hd=> ?_,fun d hd=> ?_⟩
    ·rcases List.mem_append.1 hd with h|h
     ·exact heA.1 d h
     ·rw [(List.mem_replicate.1 h).2];rfl
    ·rcases List.mem_append.1 hd with h|h
     ·exact heA.2.1 d h
     ·rw [(List.mem_replicate.1 h).2];simp [AV.pure]
    ·rcases List.mem_append.1 hd with h|h
     ·exact heA.2.2 d h
     ·rw [(List.mem_replicate.1 h).2];simp [AV.one]
   have hYt:Y.take A.length=A:=by rw [hY,List.take_left'];rfl
   rw [←hY]
   refine er_keep (pre++ [.row 97 3 Y false]) (.sub pre.length els.length 3 0 A.length) (by simp [tupOf]) tl (by simp) (by simp) (by simp [AV.under]) (fun i e he'=> ?_) ⟨Y,rfl,by rw [hY];simp;omega,hYe,.inr ⟨rfl,hYt⟩⟩
   rcases Nat.lt_trichotomy i pre.length with h|h|h
   ·rw [List.getElem?_append_left h] at he'⊢
    exact .inl he'
   ·subst h
    simp at he'
    subst he'
    exact .inr (row_under hYe.2.1)
   ·rw [List.getElem?_append_right (by omega)] at he'
    have:=(List.getElem?_eq_some_iff.1 he').1
    simp at this
    omega
theorem delfSl (pre:Store) (els:List (List AV)) (he:Els 2 els) (hl:els.length≤1000000000) (p:List AV→Bool) (g:Nat) (capt:List AV) (hb:hasBody Tryz.prog g=true) (hg:Asks Tryz.prog pre g capt .agg p els):
  ACalls Tryz.prog n_slices_DeleteFunc_api_Slot_api_Slot [.row pre.length els.length,.fn (.func g) [] capt] (pre++ [.row 186 2 els false])
   (fun r σ'=>∃X:List (List AV),σ'=pre++ [.row 186 2 X false]∧X.length=els.length∧Els 2 X∧((r=.row pre.length els.length∧X=els.filter fun n=> !p n)∨(r=.sub pre.length els.length 2 0 (els.filter fun n=> !p n).length∧∃n,X=(els.filter fun n=> !p n)++List.replicate n [.int .i64 0,.int .i64 0]))):=by
 refine acalls_of_awp_e hmix c_slices_DeleteFunc_api_Slot_api_Slot rfl ?_
 simp [a_slices_DeleteFunc_api_Slot_api_Slot]
 refine ac_eff (indexSl pre els he hl p g capt hb hg) ?_
 rintro r σ ⟨rfl,rfl⟩
 rcases idxE_cases p els with ⟨hi1,hall⟩|⟨k,n,hk,hpn,hbefore,hi2⟩
 ·have hf:(els.filter fun n=> !p n)=els:=List.filter_eq_self.2 fun n hn=>by simp [hall n hn]
  rw [hf]
  simp [hi1]
  refine er_keep (pre++ [.row 186 2 els false]) (.row pre.length els.length) (by simp [tupOf]) [] (by simp) (by simp) (by simp [AV.under]) (fun i e he=> .inl he) ⟨els,rfl,rfl,he,.inl ⟨rfl,rfl⟩⟩
 ·have hkl:k<els.length:=(List.getElem?_eq_some_iff.1 hk).1
  have hpos:0<els.length:=by omega
  have hkn:¬((k:Int)= -1):=by omega
  have hwk:IntKind.i64.wrap ((k:Int)+1)=((k+1:Nat):Int):=by rw [wrap_i64 (by omega) (by omega)];omega
  simp [hi2,hkn,hwk]
  have hfk:((els.take k).filter fun n=> !p n)=els.take k:=List.filter_eq_self.2 fun n hn=>by simp [hbefore n hn]
  refine lp_startx (fun x f σ=>∃(j:Nat) (mid:List (List AV)) (tl:Store),x=els.length-j∧j≤els.length∧f 0=.row pre.length els.length∧f 1=.fn (.func g) [] capt∧f 5=.int .i64 ((els.take j).filter fun n=> !p n).length∧f 6=.int .i64 j∧((els.take j).filter fun n=> !p n).length+mid.length=j∧Els 2 mid∧
   σ=pre++ .row 186 2 (((els.take j).filter fun n=> !p n)++(mid++els.drop j)) false::tl) (els.length-(k+1)) ?_ ?_
  ·have ht1:els.take (k+1)=els.take k++ [n]:=by rw [List.take_add_one,hk];rfl
   have hf1:((els.take (k+1)).filter fun n=> !p n)=els.take k:=by
    rw [ht1,List.filter_append,hfk];simp [hpn]
   have hnm:=List.mem_of_getElem? hk
   refine ⟨k+1,[n],[],by omega,by omega,by simp,by simp, ?_,by simp, ?_,⟨(fun c hc=>by simp at hc;subst hc;exact he.1 _ hnm),(fun c hc=>by simp at hc;subst hc;exact he.2.1 _ hnm),(fun c hc=>by simp at hc;subst hc;exact he.2.2 _ hnm)⟩, ?_⟩
   ·rw [hf1];simp [hi2,Nat.min_eq_left (Nat.le_of_lt hkl)]
   ·rw [hf1];simp [Nat.min_eq_left (Nat.le_of_lt hkl)]
   ·rw [hf1]
    have:els.take k++([n]++els.drop (k+1))=els:=by
     rw [←List.append_assoc,←ht1,List.take_append_drop]
    rw [this]
  rintro x f σ ⟨j,mid,tl,hx,hj,h0,h1,h5,h6,hmid,hem,rfl⟩
  obtain ⟨A,hA⟩:∃A,A=(els.take j).filter fun n=> !p n:=⟨_,rfl⟩
  rw [←hA] at h5 hmid
  rw [←hA]
  have heA:Els 2 A:=⟨fun c hc=>he.1 c (by rw [hA] at hc;exact List.mem_of_mem_take (List.mem_filter.1 hc).1),fun c hc=>he.2.1 c (by rw [hA] at hc;exact List.mem_of_mem_take (List.mem_filter.1 hc).1),fun c hc=>he.2.2 c (by rw [hA] at hc;exact List.mem_of_mem_take (List.mem_filter.1 hc).1)⟩
  have hlen:(A++(mid++els.drop j)).length=els.length:=by simp;omega
  simp only [List.length_append,List.length_drop] at hlen
  simp [h0,h6,hlen]
  refine cb_dec (fun hlt=> ?_) (fun hge=> ?_)
  ·have hlt':j<els.length:=by omega
   have hwj:IntKind.i64.wrap ((j:Int)+1)=((j+1:Nat):Int):=by rw [wrap_i64 (by omega) (by omega)];omega
   obtain ⟨c,hv⟩:∃c,els[j]? =some c:=⟨_,List.getElem?_eq_getElem hlt'⟩
   have hdrop:els.drop j=c::els.drop (j+1):=by
    obtain ⟨h1,h2⟩:=List.getElem?_eq_some_iff.1 hv
    rw [List.drop_eq_getElem_cons h1,h2]
   have hget:(A++(mid++els.drop j))[j]? =some c:=by
    rw [←List.append_assoc,List.getElem?_append_right (by simp;omega)]
    have:j-(A++mid).length=0:=by simp;omega
    rw [this,hdrop];rfl
   obtain ⟨hx1,hx2⟩:=List.getElem?_eq_some_iff.1 hget
   have hcm:=List.mem_of_getElem? hv
   have hcl:=he.1 c hcm
   have htake:els.take (j+1)=els.take j++ [c]:=by rw [List.take_add_one,hv];rfl
   skip
   have hone:=he.2.2 _ hcm
   simp [h0,h1,h6,hlen,hlt',hget,hx2,hcl,List.take_of_length_le,pre1_get,pre1_set]
   rw [if_pos (fun x hx=>hone x hx)];simp [h0,h1,h6,hlen,hlt',hget,hx2,hcl,List.take_of_length_le,pre1_get,pre1_set]
   refine cv_asks hb hg hcm ?_
   cases hpv:p c with
   |true=>
    have hf1:((els.take (j+1)).filter fun n=> !p n)=A:=by rw [htake,List.filter_append,←hA];simp [hpv]
    simp [h6,hwj]
    refine nx_intro (els.length-(j+1)) (by omega) ⟨j+1,mid++ [c],tl++ [.var 186 c],rfl,by omega,by simp [h0],by simp [h1],by rw [hf1];simp [h5],by simp,by rw [hf1];simp;omega,⟨fun d hd=> ?_,fun d hd=> ?_,fun d hd=> ?_⟩, ?_⟩
    ·rcases List.mem_append.1 hd with h|h
     ·exact hem.1 d h
     ·simp at h;subst h;exact he.1 _ hcm
    ·rcases List.mem_append.1 hd with h|h
     ·exact hem.2.1 d h
     ·simp at h;subst h;exact he.2.1 _ hcm
    ·rcases List.mem_append.1 hd with h|h
     ·exact hem.2.2 d h
     ·simp at h;subst h;exact he.2.2 _ hcm
    ·rw [hf1,hdrop];simp
   |false=>
    have hf1:((els.take (j+1)).filter fun n=> !p n)=A++ [c]:=by rw [htake,List.filter_append,←hA];simp [hpv]
    obtain ⟨mid',hs1,hs2,hs3⟩:=set_midE A mid (els.drop (j+1)) c
    have hAl:A.length<els.length:=by omega
    obtain ⟨d0,hd0⟩:∃d0,(A++(mid++els.drop j))[A.length]? =some d0:=⟨_,List.getElem?_eq_getElem (by simp;omega)⟩
    obtain ⟨hy1,hy2⟩:=List.getElem?_eq_some_iff.1 hd0
    have hd0l:d0.length=2:=by
     have:=List.mem_of_getElem? hd0
     rcases List.mem_append.1 this with h|h
     ·exact heA.1 _ h
     ·rcases List.mem_append.1 h with h|h
      ·exact hem.1 _ h
      ·exact he.1 _ (List.mem_of_mem_drop h)
    have hwA:IntKind.i64.wrap ((A.length:Int)+1)=((A.length+1:Nat):Int):=by rw [wrap_i64 (by omega) (by omega)];omega
    have hsp:splice d0 0 c=c:=by
     have hd:d0.drop 2= []:=List.drop_of_length_le (by omega)
     simp [splice,hcl,hd]
    have hset:(A++(mid++els.drop j)).set A.length c=A++ [c]++(mid'++els.drop (j+1)):=by
     rw [hdrop,hs1];simp
    have hset2:(mid++els.drop j).set 0 c=c::(mid'++els.drop (j+1)):=by
     rw [List.set_append_right _ _ (Nat.le_refl _),Nat.sub_self] at hset
     simpa using hset
    have hdd:d0.drop 2= []:=List.drop_of_length_le (by omega)
    skip
    simp [h0,h1,h5,h6,hlen,hAl,hd0,hy2,hd0l,hcl,hwj,hwA,List.take_of_length_le,pre1_get,pre1_set,splice,hdd,hset2]
    rw [if_pos (fun x hx=>hone x hx)];simp [h5,h6,hwj,hwA]
    refine nx_intro (els.length-(j+1)) (by omega) ⟨j+1,mid',tl++ [.var 186 c],rfl,by omega,by simp [h0],by simp [h1],by rw [hf1];simp,by simp,by rw [hf1];simp;omega,⟨fun d hd=> ?_,fun d hd=> ?_,fun d hd=> ?_⟩, ?_⟩
    ·rcases hs3 d hd with h|rfl
     ·exact hem.1 d h
     ·exact he.1 _ hcm
    ·rcases hs3 d hd with h|rfl
     ·exact hem.2.1 d h
     ·exact he.2.1 _ hcm
    ·rcases hs3 d hd with h|rfl
     ·exact hem.2.2 d h
     ·exact he.2.2 _ hcm
    ·rw [hf1];simp
  ·have hjl:j=els.length:=by omega
   subst hjl
   rw [List.take_length] at hA
   rw [List.drop_length,List.append_nil]
   rw [Nat.sub_self,Nat.add_zero] at hlen
   have hAle:A.length≤els.length:=by omega
   have hdz:(A++mid).drop els.length= []:=List.drop_of_length_le (by simp;omega)
   simp [h0,h5,hlen,hpos,hAle,hdz]
   rw [←hA]
   obtain ⟨Y,hY⟩:∃Y,Y=A++List.replicate (els.length-A.length) [.int .i64 0,.int .i64 0]:=⟨_,rfl⟩
   have hYe:Els 2 Y:=by
    rw [hY]
    refine ⟨fun d hd=> ?_,fun d hd=> ?_,fun d hd=> ?_⟩
    ·rcases List.mem_append.1 hd with h|h
     ·exact heA.1 d h
     ·rw [(List.mem_replicate.1 h).2];rfl
    ·rcases List.mem_append.1 hd with h|h
     ·exact heA.2.1 d h
     ·rw [(List.mem_replicate.1 h).2];simp [AV.pure]
    ·rcases List.mem_append.1 hd with h|h
     ·exact heA.2.2 d h
     ·rw [(List.mem_replicate.1 h).2];simp [AV.one]
   have hYt:Y.take A.length=A:=by rw [hY,List.take_left'];rfl
   rw [←hY]
   refine er_keep (pre++ [.row 186 2 Y false]) (.sub pre.length els.length 2 0 A.length) (by simp [tupOf]) tl (by simp) (by simp) (by simp [AV.under]) (fun i e he'=> ?_) ⟨Y,rfl,by rw [hY];simp;omega,hYe,.inr ⟨rfl,_,hY⟩⟩
   rcases Nat.lt_trichotomy i pre.length with h|h|h
   ·rw [List.getElem?_append_left h] at he'⊢
    exact .inl he'
   ·subst h
    simp at he'
    subst he'
    exact .inr (row_under hYe.2.1)
   ·rw [List.getElem?_append_right (by omega)] at he'
    have:=(List.getElem?_eq_some_iff.1 he').1
    simp at this
    omega
end Go.Proofs.YtdbhocoeolhjhaaGreatDoor
end
section
set_option maxHeartbeats 2000000
namespace Go.Proofs.YtdbhocoeolhjhaaGreatDoor
open Go.Abs Go.RowKit
variable {G:Globs}
theorem insNilNm {σ:Store} {jd T2:Nat} {c:List AV} (hj:σ[jd]? =some (.row T2 2 [c] false)) (hc:c.length=2) (hp:∀x∈c,x.pure=true):
  ACalls Tryz.prog n_slices_Insert_api_Name_api_Name [.nils,.int .i64 0,.row jd 1] σ (fun r σ'=>r=.row σ.length 1∧σ'=σ++ [.row 101 2 [c] false]):=by
 refine acalls_of_awp_e hmix c_slices_Insert_api_Name_api_Name rfl ?_
 simp [a_slices_Insert_api_Name_api_Name,hj,view]
 refine ap_new false [c] (by simp [view,hj]) (by decide) (by simp [hc]) (fun h=>by cases h) (by simp) (by simp) ?_
 simp
 refine er_keep (σ++ [.row 101 2 [c] false]) (.row σ.length 1) (by simp [tupOf]) [] (by simp) (by simp) (by simp [AV.under]) (fun i e he'=> ?_) ⟨rfl,rfl⟩
 rcases Nat.lt_trichotomy i σ.length with h|h|h
 ·rw [List.getElem?_append_left h] at he'
  exact .inl he'
 ·subst h
  simp at he'
  subst he'
  exact .inr (row_under (by simpa using hp))
 ·rw [List.getElem?_append_right (by omega)] at he'
  have:=(List.getElem?_eq_some_iff.1 he').1
  simp at this
  omega
theorem insEndNm {σ:Store} {id jd T2:Nat} {els:List (List AV)} {c:List AV} (he:σ[id]? =some (.row 101 2 els false)) (hj:σ[jd]? =some (.row T2 2 [c] false)) (hel:Els 2 els) (hc:c.length=2) (hp:∀x∈c,x.pure=true) (hbig:els.length≤100000000):
  ACalls Tryz.prog n_slices_Insert_api_Name_api_Name [.row id els.length,.int .i64 els.length,.row jd 1] σ (fun r σ'=>r=.row id (els.length+1)∧σ'=σ.set id (.row 101 2 (els++ [c]) false)):=by
 refine acalls_of_awp_e hmix c_slices_Insert_api_Name_api_Name rfl ?_
 have hid:=(List.getElem?_eq_some_iff.1 he).1
 obtain ⟨ha,hb⟩:=List.getElem?_eq_some_iff.1 he
 by_cases hpos:0<els.length
 ·simp [a_slices_Insert_api_Name_api_Name,hj,he,hb,hid,view,hpos]
  refine ap_row els [c] false he (by simp [view,hj]) (by decide) (by simp [hc]) (fun h=>by cases h) rfl (by simp;omega) (by simp;omega) ?_
  simp
  refine er_keep (σ.set id (.row 101 2 (els++ [c]) false)) (.row id (els.length+1)) (by simp [tupOf]) [] (by simp) (by simp) (by simp [AV.under,hid]) (fun i e he'=> ?_) (by simp)
  by_cases hi:i=id
  ·subst hi
   rw [List.getElem?_set_self hid] at he'
   simp only [Option.some.injEq] at he'
   subst he'
   refine .inr (row_under fun d hd=> ?_)
   rcases List.mem_append.1 hd with h|h
   ·exact hel.2.1 d h
   ·simp at h;subst h;exact hp
  ·rw [List.getElem?_set_ne (Ne.symm hi)] at he'
   exact .inl he'
 ·have h0:els= []:=List.eq_nil_of_length_eq_zero (by omega)
  subst h0
  simp [a_slices_Insert_api_Name_api_Name,hj,he,hb,hid,view]
  refine ap_row [] [c] false he (by simp [view,hj]) (by decide) (by simp [hc]) (fun h=>by cases h) rfl (by simp) (by simp) ?_
  simp
  refine er_keep (σ.set id (.row 101 2 (([]:List (List AV))++ [c]) false)) (.row id (([]:List (List AV)).length+1)) (by simp [tupOf]) [] (by simp) (by simp) (by simp [AV.under,hid]) (fun i e he'=> ?_) (by simp)
  by_cases hi:i=id
  ·subst hi
   rw [List.getElem?_set_self hid] at he'
   simp only [Option.some.injEq] at he'
   subst he'
   refine .inr (row_under fun d hd=> ?_)
   rcases List.mem_append.1 hd with h|h
   ·exact hel.2.1 d h
   ·simp at h;subst h;exact hp
  ·rw [List.getElem?_set_ne (Ne.symm hi)] at he'
   exact .inl he'
theorem insNilMt {σ:Store} {jd T2:Nat} {c:List AV} (hj:σ[jd]? =some (.row T2 11 [c] false)) (hc:c.length=11) (hp:∀x∈c,x.pure=true):
  ACalls Tryz.prog n_slices_Insert_api_Metric_api_Metric [.nils,.int .i64 0,.row jd 1] σ (fun r σ'=>r=.row σ.length 1∧σ'=σ++ [.row 57 11 [c] false]):=by
 refine acalls_of_awp_e hmix c_slices_Insert_api_Metric_api_Metric rfl ?_
 simp [a_slices_Insert_api_Metric_api_Metric,hj,view]
 refine ap_new false [c] (by simp [view,hj]) (by decide) (by simp [hc]) (fun h=>by cases h) (by simp) (by simp) ?_
 simp
 refine er_keep (σ++ [.row 57 11 [c] false]) (.row σ.length 1) (by simp [tupOf]) [] (by simp) (by simp) (by simp [AV.under]) (fun i e he'=> ?_) ⟨rfl,rfl⟩
 rcases Nat.lt_trichotomy i σ.length with h|h|h
 ·rw [List.getElem?_append_left h] at he'
  exact .inl he'
 ·subst h
  simp at he'
  subst he'
  exact .inr (row_under (by simpa using hp))
 ·rw [List.getElem?_append_right (by omega)] at he'
  have:=(List.getElem?_eq_some_iff.1 he').1
  simp at this
  omega
theorem insEndMt {σ:Store} {id jd T2:Nat} {els:List (List AV)} {c:List AV} (he:σ[id]? =some (.row 57 11 els false)) (hj:σ[jd]? =some (.row T2 11 [c] false)) (hel:Els 11 els) (hc:c.length=11) (hp:∀x∈c,x.pure=true) (hbig:els.length≤100000000):
  ACalls Tryz.prog n_slices_Insert_api_Metric_api_Metric [.row id els.length,.int .i64 els.length,.row jd 1] σ (fun r σ'=>r=.row id (els.length+1)∧σ'=σ.set id (.row 57 11 (els++ [c]) false)):=by
 refine acalls_of_awp_e hmix c_slices_Insert_api_Metric_api_Metric rfl ?_
 have hid:=(List.getElem?_eq_some_iff.1 he).1
 obtain ⟨ha,hb⟩:=List.getElem?_eq_some_iff.1 he
 by_cases hpos:0<els.length
 ·simp [a_slices_Insert_api_Metric_api_Metric,hj,he,hb,hid,view,hpos]
  refine ap_row els [c] false he (by simp [view,hj]) (by decide) (by simp [hc]) (fun h=>by cases h) rfl (by simp;omega) (by simp;omega) ?_
  simp
  refine er_keep (σ.set id (.row 57 11 (els++ [c]) false)) (.row id (els.length+1)) (by simp [tupOf]) [] (by simp) (by simp) (by simp [AV.under,hid]) (fun i e he'=> ?_) (by simp)
  by_cases hi:i=id
  ·subst hi
   rw [List.getElem?_set_self hid] at he'
   simp only [Option.some.injEq] at he'
   subst he'
   refine .inr (row_under fun d hd=> ?_)
   rcases List.mem_append.1 hd with h|h
   ·exact hel.2.1 d h
   ·simp at h;subst h;exact hp
  ·rw [List.getElem?_set_ne (Ne.symm hi)] at he'
   exact .inl he'
 ·have h0:els= []:=List.eq_nil_of_length_eq_zero (by omega)
  subst h0
  simp [a_slices_Insert_api_Metric_api_Metric,hj,he,hb,hid,view]
  refine ap_row [] [c] false he (by simp [view,hj]) (by decide) (by simp [hc]) (fun h=>by cases h) rfl (by simp) (by simp) ?_
  simp
  refine er_keep (σ.set id (.row 57 11 (([]:List (List AV))++ [c]) false)) (.row id (([]:List (List AV)).length+1)) (by simp [tupOf]) [] (by simp) (by simp) (by simp [AV.under,hid]) (fun i e he'=> ?_) (by simp)
  by_cases hi:i=id
  ·subst hi
   rw [List.getElem?_set_self hid] at he'
   simp only [Option.some.injEq] at he'
   subst he'
   refine .inr (row_under fun d hd=> ?_)
   rcases List.mem_append.1 hd with h|h
   ·exact hel.2.1 d h
   ·simp at h;subst h;exact hp
  ·rw [List.getElem?_set_ne (Ne.symm hi)] at he'
   exact .inl he'
end Go.Proofs.YtdbhocoeolhjhaaGreatDoor
end
section
namespace Go.Sf
abbrev Txt:=List UInt8
theorem tl_irrefl (a:Txt):¬a<a:=List.lt_irrefl a
theorem u_tri (x y:UInt8) (h1:¬x<y) (h2:¬y<x):x=y:=by
 apply UInt8.toNat_inj.1
 have h3:¬x.toNat<y.toNat:=fun h=>h1 (UInt8.lt_iff_toNat_lt.2 h)
 have h4:¬y.toNat<x.toNat:=fun h=>h2 (UInt8.lt_iff_toNat_lt.2 h)
 omega
theorem u_trans {x y z:UInt8} (h1:x<y) (h2:y<z):x<z:=UInt8.lt_iff_toNat_lt.2 (by
 have:=UInt8.lt_iff_toNat_lt.1 h1
 have:=UInt8.lt_iff_toNat_lt.1 h2
 omega)
theorem u_irr (x:UInt8):¬x<x:=fun h=>by have:=UInt8.lt_iff_toNat_lt.1 h;omega
theorem tl_trans:∀{a b c:Txt},a<b→b<c→a<c
 |_,[],_,h,_=>by simp at h
 |_,_,[],_,h=>by simp at h
 | [],_,z::c,_,_=>by simp
 |x::a,y::b,z::c,h1,h2=>by
  rw [List.cons_lt_cons_iff] at h1 h2⊢
  rcases h1 with h1|⟨rfl,h1⟩<;>rcases h2 with h2|⟨rfl,h2⟩
  ·exact .inl (u_trans h1 h2)
  ·exact .inl h1
  ·exact .inl h2
  ·exact .inr ⟨rfl,tl_trans h1 h2⟩
theorem tl_tri:∀(a b:Txt),¬a<b→¬b<a→a=b
 | [],[],_,_=>rfl
 | [],_::_,h,_=>absurd (by simp) h
 |_::_,[],_,h=>absurd (by simp) h
 |x::a,y::b,h1,h2=>by
  rw [List.cons_lt_cons_iff] at h1 h2
  have hxy:x=y:=u_tri x y (fun h=>h1 (.inl h)) (fun h=>h2 (.inl h))
  subst hxy
  rw [tl_tri a b (fun h=>h1 (.inr ⟨rfl,h⟩)) (fun h=>h2 (.inr ⟨rfl,h⟩))]
section
variable {α:Type} (key:α→Txt)
def Srt (l:List α):Prop:=l.Pairwise fun a b=>key a<key b
def posK:List α→Txt→Nat
 | [],_=>0
 |x::l,s=>if key x<s then posK l s+1 else 0
def hasK (l:List α) (s:Txt):Prop:=∃x∈l,key x=s
instance (l:List α) (s:Txt):Decidable (hasK key l s):=by unfold hasK;exact inferInstance
def insK (l:List α) (x:α):List α:=l.take (posK key l (key x))++x::l.drop (posK key l (key x))
def delK (l:List α) (s:Txt):List α:=l.take (posK key l s)++l.drop (posK key l s+1)
variable {key}
theorem posK_le:∀(l:List α) (s:Txt),posK key l s≤l.length
 | [],_=>Nat.le_refl _
 |x::l,s=>by
  unfold posK
  have:=posK_le l s
  split<;>simp<;>omega
theorem posK_lt:∀{l:List α} {s:Txt} {i:Nat} {x:α},i<posK key l s→l[i]? =some x→key x<s
 | [],_,_,_,h,_=>by simp [posK] at h
 |y::l,s,i,x,h,hx=>by
  unfold posK at h
  split at h
  ·rename_i hy
   cases i with
   |zero=>simp at hx;subst hx;exact hy
   |succ i=>exact posK_lt (l:=l) (i:=i) (by omega) (by simpa using hx)
  ·omega
theorem posK_ge:∀{l:List α} {s:Txt} {i:Nat} {x:α},Srt key l→posK key l s≤i→l[i]? =some x→¬key x<s
 | [],_,_,_,_,_,hx=>by simp at hx
 |y::l,s,i,x,hs,h,hx=>by
  rw [Srt,List.pairwise_cons] at hs
  unfold posK at h
  split at h
  ·cases i with
   |zero=>omega
   |succ i=>exact posK_ge (l:=l) (i:=i) hs.2 (by omega) (by simpa using hx)
  ·rename_i hy
   cases i with
   |zero=>simp at hx;subst hx;exact hy
   |succ i=>
    have hm:x∈l:=List.mem_of_getElem? (by simpa using hx)
    exact fun h'=>hy (tl_trans (hs.1 x hm) h')
theorem has_pos {l:List α} {s:Txt} (hs:Srt key l):hasK key l s↔∃x,l[posK key l s]? =some x∧key x=s:=by
 constructor
 ·rintro ⟨x,hx,rfl⟩
  obtain ⟨i,hi,rfl⟩:=List.mem_iff_getElem.1 hx
  have hg:l[i]? =some l[i]:=List.getElem?_eq_getElem hi
  have h1:posK key l (key l[i])≤i:=Classical.byContradiction fun h=>tl_irrefl (key l[i]) (posK_lt (key:=key) (l:=l) (s:=key l[i]) (i:=i) (by omega) hg)
  rcases Nat.lt_or_eq_of_le h1 with h2|h2
  ·obtain ⟨y,hy⟩:∃y,l[posK key l (key l[i])]? =some y:=⟨l[posK key l (key l[i])]'(by omega),List.getElem?_eq_getElem (by omega)⟩
   have h3:=posK_ge hs (Nat.le_refl _) hy
   have h4:key y<key l[i]:=by
    obtain ⟨hj,rfl⟩:=List.getElem?_eq_some_iff.1 hy
    exact List.pairwise_iff_getElem.1 hs _ _ hj hi h2
   exact absurd h4 h3
  ·exact ⟨l[i],by rw [h2];exact hg,rfl⟩
 ·rintro ⟨x,hx,rfl⟩
  exact ⟨x,List.mem_of_getElem? hx,rfl⟩
theorem mem_insK {l:List α} {x y:α}:y∈insK key l x↔y=x∨y∈l:=by
 unfold insK
 rw [List.mem_append,List.mem_cons]
 constructor
 ·rintro (h|rfl|h)
  ·exact .inr (List.mem_of_mem_take h)
  ·exact .inl rfl
  ·exact .inr (List.mem_of_mem_drop h)
 ·rintro (rfl|h)
  ·exact .inr (.inl rfl)
  ·rw [←List.take_append_drop (posK key l (key x)) l,List.mem_append] at h
   rcases h with h|h
   ·exact .inl h
   ·exact .inr (.inr h)
theorem len_insK (l:List α) (x:α):(insK key l x).length=l.length+1:=by
 have:=posK_le (key:=key) l (key x)
 simp [insK];omega
theorem srt_insK {l:List α} {x:α} (hs:Srt key l) (hn:¬hasK key l (key x)):Srt key (insK key l x):=by
 unfold Srt insK
 have hs':Srt key (l.take (posK key l (key x))++l.drop (posK key l (key x))):=by rw [List.take_append_drop];exact hs
 rw [Srt,List.pairwise_append] at hs'
 rw [List.pairwise_append,List.pairwise_cons]
 refine ⟨hs'.1,⟨fun y hy=> ?_,hs'.2.1⟩,fun y hy z hz=> ?_⟩
 ·obtain ⟨i,hi,rfl⟩:=List.mem_iff_getElem.1 hy
  rw [List.getElem_drop]
  rw [List.length_drop] at hi
  have hg:l[posK key l (key x)+i]? =some l[posK key l (key x)+i]:=List.getElem?_eq_getElem (by omega)
  have h1:=posK_ge hs (Nat.le_add_right _ i) hg
  refine Classical.byContradiction fun h2=> ?_
  have:=tl_tri _ _ h1 h2
  exact hn ⟨_,List.mem_of_getElem? hg,this⟩
 ·have hyx:key y<key x:=by
   obtain ⟨i,hi,rfl⟩:=List.mem_iff_getElem.1 hy
   rw [List.getElem_take]
   rw [List.length_take] at hi
   exact posK_lt (l:=l) (i:=i) (by omega) (List.getElem?_eq_getElem (by omega))
  rcases List.mem_cons.1 hz with rfl|hz
  ·exact hyx
  ·exact hs'.2.2 y hy z hz
theorem delK_sub (l:List α) (s:Txt):(delK key l s).Sublist l:=by
 have:=List.take_append_drop (posK key l s) l
 unfold delK
 conv=>rhs;rw [←this]
 refine List.Sublist.append (List.Sublist.refl _) ?_
 rw [←List.drop_drop]
 exact List.drop_sublist _ _
theorem srt_delK {l:List α} {s:Txt} (hs:Srt key l):Srt key (delK key l s):=hs.sublist (delK_sub l s)
theorem len_delK {l:List α} {s:Txt} (hs:Srt key l) (h:hasK key l s):(delK key l s).length+1=l.length:=by
 obtain ⟨x,hx,_⟩:=(has_pos hs).1 h
 have:=(List.getElem?_eq_some_iff.1 hx).1
 simp [delK];omega
theorem key_inj {l:List α} (hs:Srt key l) {x y:α} (hx:x∈l) (hy:y∈l) (h:key x=key y):x=y:=by
 obtain ⟨i,hi,rfl⟩:=List.mem_iff_getElem.1 hx
 obtain ⟨j,hj,rfl⟩:=List.mem_iff_getElem.1 hy
 rcases Nat.lt_trichotomy i j with h1|h1|h1
 ·have:=List.pairwise_iff_getElem.1 hs _ _ hi hj h1
  rw [h] at this;exact absurd this (tl_irrefl _)
 ·subst h1;rfl
 ·have:=List.pairwise_iff_getElem.1 hs _ _ hj hi h1
  rw [h] at this;exact absurd this (tl_irrefl _)
theorem mem_delK {l:List α} {s:Txt} {y:α} (hs:Srt key l) (h:hasK key l s):y∈delK key l s↔y∈l∧key y≠s:=by
 obtain ⟨x,hx,hk⟩:=(has_pos hs).1 h
 have hlt:=(List.getElem?_eq_some_iff.1 hx).1
 have e:l=l.take (posK key l s)++x::l.drop (posK key l s+1):=by
  conv=>lhs;rw [←List.take_append_drop (posK key l s) l]
  rw [List.drop_eq_getElem_cons hlt,(List.getElem?_eq_some_iff.1 hx).2]
 have hs2:Srt key (l.take (posK key l s)++x::l.drop (posK key l s+1)):=by rw [←e];exact hs
 rw [Srt,List.pairwise_append,List.pairwise_cons] at hs2
 have hl:y∈l↔y∈l.take (posK key l s)∨y=x∨y∈l.drop (posK key l s+1):=by
  conv=>lhs;rw [e]
  rw [List.mem_append,List.mem_cons]
 unfold delK
 rw [List.mem_append,hl]
 constructor
 ·rintro (h1|h1)
  ·refine ⟨.inl h1,fun h2=> ?_⟩
   have:=hs2.2.2 y h1 x (by simp)
   rw [h2,hk] at this;exact tl_irrefl _ this
  ·refine ⟨.inr (.inr h1),fun h2=> ?_⟩
   have:=hs2.2.1.1 y h1
   rw [h2,hk] at this;exact tl_irrefl _ this
 ·rintro ⟨h1|rfl|h1,h2⟩
  ·exact .inl h1
  ·exact absurd hk h2
  ·exact .inr h1
end
structure NameM where
 name:Txt
 id:Nat
 deriving DecidableEq
structure MoveM where
 kind:Nat
 name:Txt
 dst:Txt
 id:Nat
 deriving DecidableEq
structure FileM where
 id:Nat
 bytes:Txt
 sure:Nat
 deriving DecidableEq
structure DiskM where
 quota:Nat
 files:List FileM
 names:List NameM
 kept:List NameM
 moves:List MoveM
 next:Nat
 deriving DecidableEq
abbrev kN:NameM→Txt:=NameM.name
def okS (s:Txt):Prop:=s≠ []∧s.length≤96
instance (s:Txt):Decidable (okS s):=by unfold okS;exact inferInstance
def dropK (l:List NameM) (s:Txt):List NameM:=if hasK kN l s then delK kN l s else l
def idOf:List NameM→Txt→Nat
 | [],_=>0
 |n::l,s=>if n.name=s then n.id else idOf l s
def doneM (l:List NameM) (m:MoveM):Option (List NameM):=
 if okS m.name then
  if m.kind=1 then (if hasK kN l m.name∨m.dst≠ []∨m.id<1 then none else some (insK kN l ⟨m.name,m.id⟩))
  else if m.kind=2 then (if¬hasK kN l m.name∨m.dst≠ []∨m.id≠0 then none else some (delK kN l m.name))
  else if m.kind=3 then (if¬hasK kN l m.name∨¬okS m.dst∨m.dst=m.name∨m.id≠0 then none else some (insK kN (dropK (delK kN l m.name) m.dst) ⟨m.dst,idOf l m.name⟩))
  else none
 else none
def replay:List NameM→List MoveM→Option (List NameM)
 |l,[]=>some l
 |l,m::ms=>(doneM l m).bind fun l'=>replay l' ms
def addIds (ms:List MoveM):List Nat:=(ms.filter fun m=>m.kind=1).map (·.id)
def idsM (d:DiskM):List Nat:=d.kept.map (·.id)++addIds d.moves
def usedL (fs:List FileM):Nat:=(fs.map fun f=>f.bytes.length).sum
def usedM (d:DiskM):Nat:=usedL d.files
structure Listed (l:List NameM):Prop where
 srt:Srt kN l
 ok:∀n∈l,okS n.name
 ids:(l.map (·.id)).Nodup
def Filed (next:Nat) (fs:List FileM):Prop:=(fs.Pairwise fun a b=>a.id<b.id)∧∀f∈fs,1≤f.id∧f.id<next∧f.sure≤f.bytes.length
structure RightM (d:DiskM):Prop where
 quota:d.quota≤1073741824
 next1:1≤d.next
 next2:d.next≤1099511627776
 nfiles:d.files.length≤256
 kept:Listed d.kept
 names:Listed d.names
 filed:Filed d.next d.files
 replay:replay d.kept d.moves=some d.names
 ids:(idsM d).Nodup
 same:∀i,i∈idsM d↔∃f∈d.files,f.id=i
 nids:∀n∈d.names,n.id∈idsM d
 used:usedM d≤d.quota
theorem Filed.ids {next:Nat} {fs:List FileM} (h:Filed next fs):(fs.map (·.id)).Nodup:=by
 rw [List.nodup_iff_pairwise_ne,List.pairwise_map]
 exact h.1.imp fun hab=>by omega
theorem RightM.count {d:DiskM} (h:RightM d):(idsM d).length=d.files.length:=by
 have:=((List.perm_ext_iff_of_nodup h.ids h.filed.ids).2 fun i=>by rw [h.same i];simp).length_eq
 simpa using this
theorem RightM.nkept {d:DiskM} (h:RightM d):d.kept.length≤256:=by
 have h1:=h.count
 have h2:=h.nfiles
 simp only [idsM,List.length_append,List.length_map] at h1
 omega
theorem srt_done {l l':List NameM} {m:MoveM} (hs:Srt kN l) (h:doneM l m=some l'):Srt kN l':=by
 unfold doneM at h
 split at h
 case isFalse=>cases h
 split at h
 ·split at h
  ·cases h
  ·rename_i hc
   simp only [Option.some.injEq] at h;subst h
   exact srt_insK hs (fun hh=>hc (.inl hh))
 split at h
 ·split at h
  ·cases h
  ·simp only [Option.some.injEq] at h;subst h
   exact srt_delK hs
 split at h
 ·split at h
  ·cases h
  ·simp only [Option.some.injEq] at h;subst h
   refine srt_insK ?_ ?_
   ·unfold dropK;split
    ·exact srt_delK (srt_delK hs)
    ·exact srt_delK hs
   ·unfold dropK;split
    ·rename_i hh
     rintro ⟨x,hx,hk⟩
     exact ((mem_delK (srt_delK hs) hh).1 hx).2 hk
    ·assumption
 ·cases h
theorem len_done {l l':List NameM} {m:MoveM} (hs:Srt kN l) (h:doneM l m=some l'):l'.length≤l.length+1:=by
 have hd:∀(l:List NameM) s,(delK kN l s).length≤l.length:=fun l s=>(delK_sub l s).length_le
 unfold doneM at h
 split at h
 case isFalse=>cases h
 split at h
 ·split at h
  ·cases h
  ·simp only [Option.some.injEq] at h;subst h;rw [len_insK];exact Nat.le_refl _
 split at h
 ·split at h
  ·cases h
  ·simp only [Option.some.injEq] at h;subst h;have:=hd l m.name;omega
 split at h
 ·split at h
  ·cases h
  ·simp only [Option.some.injEq] at h;subst h;rw [len_insK]
   have h1:=hd l m.name
   have h2:=hd (delK kN l m.name) m.dst
   unfold dropK;split<;>omega
 ·cases h
end Go.Sf
end
section
set_option maxHeartbeats 2000000
namespace Go.Sf
open Go.Abs
def nameC (n:NameM):List AV:= [.str n.name,.int .i64 n.id]
def namesC (l:List NameM):List (List AV):=l.map nameC
def moveC (m:MoveM):List AV:= [.int .i64 m.kind,.str m.name,.str m.dst,.int .i64 m.id]
def movesC (l:List MoveM):List (List AV):=l.map moveC
def fileC (f:FileM):List AV:= [.int .i64 f.id,.lst (byteEls f.bytes),.int .i64 f.sure]
def filesC (l:List FileM):List (List AV):=l.map fileC
def diskC (d:DiskM):List AV:= [.int .i64 d.quota,.lst (filesC d.files),.lst (namesC d.names),.lst (namesC d.kept),.lst (movesC d.moves),.int .i64 d.next]
theorem namesC_len (l:List NameM):(namesC l).length=l.length:=by simp [namesC]
theorem movesC_len (l:List MoveM):(movesC l).length=l.length:=by simp [movesC]
theorem filesC_len (l:List FileM):(filesC l).length=l.length:=by simp [filesC]
theorem namesC_els (l:List NameM):Els 2 (namesC l):=by
 refine ⟨fun c hc=> ?_,fun c hc=> ?_,fun c hc=> ?_⟩<;>obtain ⟨n,_,rfl⟩:=List.mem_map.1 hc<;>simp [nameC,AV.pure,AV.one]
theorem movesC_els (l:List MoveM):Els 4 (movesC l):=by
 refine ⟨fun c hc=> ?_,fun c hc=> ?_,fun c hc=> ?_⟩<;>obtain ⟨n,_,rfl⟩:=List.mem_map.1 hc<;>simp [moveC,AV.pure,AV.one]
theorem filesC_els (l:List FileM):Els 3 (filesC l):=by
 refine ⟨fun c hc=> ?_,fun c hc=> ?_,fun c hc=> ?_⟩<;>obtain ⟨n,_,rfl⟩:=List.mem_map.1 hc<;>simp [fileC,AV.pure,AV.one]
theorem namesC_get {l:List NameM} {i:Nat} {n:NameM} (h:l[i]? =some n):(namesC l)[i]? =some (nameC n):=by simp [namesC,h]
theorem movesC_get {l:List MoveM} {i:Nat} {n:MoveM} (h:l[i]? =some n):(movesC l)[i]? =some (moveC n):=by simp [movesC,h]
theorem filesC_get {l:List FileM} {i:Nat} {n:FileM} (h:l[i]? =some n):(filesC l)[i]? =some (fileC n):=by simp [filesC,h]
theorem namesC_inv {l:List NameM} {i:Nat} {c:List AV} (h:(namesC l)[i]? =some c):∃n,l[i]? =some n∧c=nameC n:=by
 simp only [namesC,List.getElem?_map,Option.map_eq_some_iff] at h
 obtain ⟨n,h1,rfl⟩:=h;exact ⟨n,h1,rfl⟩
theorem filesC_inv {l:List FileM} {i:Nat} {c:List AV} (h:(filesC l)[i]? =some c):∃n,l[i]? =some n∧c=fileC n:=by
 simp only [filesC,List.getElem?_map,Option.map_eq_some_iff] at h
 obtain ⟨n,h1,rfl⟩:=h;exact ⟨n,h1,rfl⟩
theorem namesC_fz (σ:Store) (m k:Nat) (l:List NameM):((namesC l).mapM fun (c:List AV)=>c.mapM (fz σ m k))=some (namesC l):=fz_pure (namesC_els l).2.1 (fun c hc=>by obtain ⟨n,_,rfl⟩:=List.mem_map.1 hc;simp [nameC])
theorem movesC_fz (σ:Store) (m k:Nat) (l:List MoveM):((movesC l).mapM fun (c:List AV)=>c.mapM (fz σ m k))=some (movesC l):=fz_pure (movesC_els l).2.1 (fun c hc=>by obtain ⟨n,_,rfl⟩:=List.mem_map.1 hc;simp [moveC])
theorem filesC_fz (σ:Store) (m k:Nat) (l:List FileM):((filesC l).mapM fun (c:List AV)=>c.mapM (fz σ m k))=some (filesC l):=fz_pure (filesC_els l).2.1 (fun c hc=>by obtain ⟨n,_,rfl⟩:=List.mem_map.1 hc;simp [fileC])
theorem namesC_take (l:List NameM) (i:Nat):(namesC l).take i=namesC (l.take i):=by simp [namesC]
theorem namesC_drop (l:List NameM) (i:Nat):(namesC l).drop i=namesC (l.drop i):=by simp [namesC]
theorem namesC_app (a b:List NameM):namesC (a++b)=namesC a++namesC b:=by simp [namesC]
theorem namesC_cons (a:NameM) (b:List NameM):namesC (a::b)=nameC a::namesC b:=by simp [namesC]
theorem namesC_ins (l:List NameM) (x:NameM):(namesC l).take (posK kN l x.name)++nameC x::(namesC l).drop (posK kN l x.name)=namesC (insK kN l x):=by
 rw [namesC_take,namesC_drop,insK,namesC_app,namesC_cons]
theorem namesC_del (l:List NameM) (s:Txt):(namesC l).take (posK kN l s)++(namesC l).drop (posK kN l s+1)=namesC (delK kN l s):=by
 rw [namesC_take,namesC_drop,delK,namesC_app]
theorem cmp_neg:∀(a b:Txt),Lib.compareBytes a b<0↔a<b
 | [],[]=>by simp [Lib.compareBytes]
 | [],_::_=>by simp [Lib.compareBytes]
 |_::_,[]=>by simp [Lib.compareBytes]
 |x::a,y::b=>by
  have ih:=cmp_neg a b
  simp only [Lib.compareBytes]
  by_cases h1:x<y
  ·simp [h1,List.cons_lt_cons_iff]
  ·by_cases h2:y<x
   ·have hne:x≠y:=fun e=>by subst e;exact h1 h2
    simp [h1,h2,hne,List.cons_lt_cons_iff]
   ·obtain rfl:=u_tri x y h1 h2
    simp [h1,List.cons_lt_cons_iff]
    simpa using ih
theorem cmp_zero:∀(a b:Txt),Lib.compareBytes a b=0↔a=b
 | [],[]=>by simp [Lib.compareBytes]
 | [],_::_=>by simp [Lib.compareBytes]
 |_::_,[]=>by simp [Lib.compareBytes]
 |x::a,y::b=>by
  have ih:=cmp_zero a b
  simp only [Lib.compareBytes]
  by_cases h1:x<y
  ·have hne:x≠y:=fun e=>by subst e;exact u_irr x h1
   simp [h1,hne]
  ·by_cases h2:y<x
   ·have hne:x≠y:=fun e=>by subst e;exact h1 h2
    simp [h1,h2,hne]
   ·obtain rfl:=u_tri x y h1 h2
    simp [h1,ih]
theorem less_iff:∀(a b:Txt),Op.bytesLess a b=decide (a<b)
 |_,[]=>by unfold Op.bytesLess;simp
 | [],_::_=>by simp [Op.bytesLess]
 |x::a,y::b=>by
  have ih:=less_iff a b
  simp [Op.bytesLess,ih,List.cons_lt_cons_iff]
  congr 1
end Go.Sf
namespace Go.Proofs.YtdbhocoeolhjhaaGreatDoor
open Go.Abs Go.RowKit Go.Sf
variable {G:Globs}
theorem compare_ok (s p:Txt):PCalls Tryz.prog n_strings_Compare [.str s,.str p] (fun r=>r=.int .i64 (Lib.compareBytes s p)):=by
 refine pcalls2 fun base κ Im w v u hs hv hu=> ?_
 have e0:=hv.str_inv
 have e1:=hu.str_inv
 subst e0;subst e1
 refine (Tryz.strings_Compare ⟨s.toArray⟩ ⟨p.toArray⟩ w).mono ?_
 rintro e w' ⟨rfl,rfl⟩
 exact ⟨_,_,rfl,rfl,Go.RowKit.Below.refl _ _,fun Im'=> .int _ _⟩
theorem compareInt_ok (x y:Int):PCalls Tryz.prog n_cmp_Compare_int [.int .i64 x,.int .i64 y] (fun r=>r=.int .i64 (Lib.compareInt x y)):=by
 refine pcalls2 fun base κ Im w v u hs hv hu=> ?_
 have e0:=hv.int_inv
 have e1:=hu.int_inv
 subst e0;subst e1
 refine (Tryz.cmp_Compare_int x y w).mono ?_
 rintro e w' ⟨rfl,rfl⟩
 exact ⟨_,_,rfl,rfl,Go.RowKit.Below.refl _ _,fun Im'=> .int _ _⟩
theorem itoa_ok (i:Nat) (hi:i<100):PCalls Tryz.prog n_strconv_Itoa [.int .i64 i] (fun r=>r=.str (Lib.decDigits i)):=by
 refine pcalls1 fun base κ Im w v hs hv=> ?_
 have e0:=hv.int_inv
 subst e0
 refine (Tryz.strconv_Itoa_small i hi w).mono ?_
 rintro e w' ⟨rfl,rfl⟩
 exact ⟨_,_,rfl,rfl,Go.RowKit.Below.refl _ _,fun Im'=> .str _⟩
theorem hasPre_ok (s p:Txt):PCalls Tryz.prog n_strings_HasPrefix [.str s,.str p] (fun r=>r=.bool (Lib.hasPrefix s p)):=by
 refine pcalls2 fun base κ Im w v u hs hv hu=> ?_
 have e0:=hv.str_inv
 have e1:=hu.str_inv
 subst e0;subst e1
 refine (Tryz.strings_HasPrefix ⟨s.toArray⟩ ⟨p.toArray⟩ w).mono ?_
 rintro e w' ⟨rfl,rfl⟩
 exact ⟨_,_,rfl,rfl,Go.RowKit.Below.refl _ _,fun Im'=> .bool _⟩
theorem valid_ok (s:Txt) (hl:s.length≤1000000000):PCalls Tryz.prog n_disk_valid [.str s] (fun r=>r=.bool (decide (okS s))):=by
 refine pcalls_of_awp hmix c_disk_valid rfl ?_
 by_cases h0:s= []
 ·subst h0
  simp [a_disk_valid,okS]
 ·simp [a_disk_valid,h0,okS]
  omega
theorem dplace1_ok (n:NameM) (s:Txt):PCalls Tryz.prog n_disk_place_1 [.agg (nameC n),.str s] (fun r=>r=.int .i64 (Lib.compareBytes n.name s)):=by
 refine pcalls_of_awp hmix c_disk_place_1 rfl ?_
 simp [a_disk_place_1,nameC]
 refine ac_same (compare_ok n.name s) (by simp) ?_
 rintro r rfl
 simp
theorem dplace_ok (l:List NameM) (s:Txt) (hs:Srt kN l) (hl:l.length≤1000000000):PCalls Tryz.prog n_disk_place [.lst (namesC l),.str s] (fun r=>r=.tup [.int .i64 (posK kN l s),.bool (decide (hasK kN l s))]):=by
 refine pcalls_of_awp hmix c_disk_place rfl ?_
 simp [a_disk_place]
 have hp:=posK_le (key:=kN) l s
 have kB:=bsNm (G:=G) (namesC l) (namesC_els l) (by rw [namesC_len];exact hl) (.str s) (by simp [AV.pure]) n_disk_place_1 b_disk_place_1 (posK kN l s) (by rw [namesC_len];exact hp)
  (fun i=>match l[i]? with|some n=>Lib.compareBytes n.name s|none=>0)
  (fun i c hc=>by
   obtain ⟨n,hn,rfl⟩:=namesC_inv hc
   simp only [hn]
   exact dplace1_ok n s)
  (fun i hi=>by
   obtain ⟨n,hn⟩:∃n,l[i]? =some n:=⟨l[i]'(by omega),List.getElem?_eq_getElem (by omega)⟩
   simp only [hn]
   exact (cmp_neg _ _).2 (posK_lt hi hn))
  (fun i h1 h2=>by
   rw [namesC_len] at h2
   obtain ⟨n,hn⟩:∃n,l[i]? =some n:=⟨l[i]'h2,List.getElem?_eq_getElem h2⟩
   simp only [hn]
   have:=posK_ge hs h1 hn
   exact Int.not_lt.1 fun h=>this ((cmp_neg _ _).1 h))
 refine ac_same kB (by simp [AV.pure]) ?_
 rintro r rfl
 simp
 rw [namesC_len]
 by_cases hh:hasK kN l s
 ·obtain ⟨n,hn,hk⟩:=(has_pos hs).1 hh
  have:=(List.getElem?_eq_some_iff.1 hn).1
  have hz:=(cmp_zero n.name s).2 hk
  obtain ⟨hx1,hx2⟩:=List.getElem?_eq_some_iff.1 hn
  simp [hh,hn,this,hz,hx2]
 ·by_cases hlt:posK kN l s<l.length
  ·obtain ⟨n,hn⟩:∃n,l[posK kN l s]? =some n:=⟨l[posK kN l s]'hlt,List.getElem?_eq_getElem hlt⟩
   have hne:n.name≠s:=fun e=>hh ((has_pos hs).2 ⟨n,hn,e⟩)
   have:¬Lib.compareBytes n.name s=0:=fun e=>hne ((cmp_zero _ _).1 e)
   obtain ⟨hx1,hx2⟩:=List.getElem?_eq_some_iff.1 hn
   simp [hh,hn,hlt,this,hx2]
  ·simp [hh,hlt]
theorem added_ok (l:List NameM) (s:Txt) (id:Nat) (hs:Srt kN l) (hl:l.length≤1000000):PCalls Tryz.prog n_disk_added [.lst (namesC l),.str s,.int .i64 id] (fun r=>r=.lst (namesC (insK kN l ⟨s,id⟩))):=by
 refine pcalls_of_awp hmix c_disk_added rfl ?_
 simp [a_disk_added]
 refine ac_same (dplace_ok l s hs (by omega)) (by simp) ?_
 rintro r rfl
 simp
 refine ac_eff (cloneNm (namesC l) (namesC_els l) (by rw [namesC_len];omega)) ?_
 have hp:=posK_le (key:=kN) l s
 rintro r σ (⟨h0,rfl,rfl⟩|⟨rfl,rfl⟩)
 ·have h0':l= []:=by simpa [namesC] using h0
  subst h0'
  simp
  have e0:posK kN [] s=0:=rfl
  rw [e0]
  refine ac_eff (insNilNm (jd:=0) (T2:=101) (c:= [.str s,.int .i64 id]) (by simp) rfl (by simp [AV.pure])) ?_
  rintro r σ ⟨rfl,rfl⟩
  simp [insK,posK,namesC,nameC]
 ·simp
  by_cases hlt:posK kN l s<l.length
  ·refine ac_eff (insertNm (id:=0) (jd:=1) (T2:=101) (els:=namesC l) (c:= [.str s,.int .i64 id]) (i:=posK kN l s) (by simp) (by simp) (by omega) (by rw [namesC_len];exact hlt) (by rw [namesC_len];omega)) ?_
   rintro r σ ⟨rfl,rfl⟩
   have hc:=namesC_ins l ⟨s,id⟩
   simp only [nameC] at hc
   rw [hc]
   have hq:(namesC l).length+1=(namesC (insK kN l ⟨s,id⟩)).length:=by rw [namesC_len,namesC_len,len_insK]
   rw [hq]
   simp [namesC_fz]
  ·have he:posK kN l s=l.length:=by omega
   rw [he]
   have hn:=namesC_len l
   rw [←hn]
   refine ac_eff (insEndNm (id:=0) (jd:=1) (T2:=101) (els:=namesC l) (c:= [.str s,.int .i64 id]) (by simp) (by simp) (namesC_els l) rfl (by simp [AV.pure]) (by rw [namesC_len];omega)) ?_
   rintro r σ ⟨rfl,rfl⟩
   have hc:=namesC_ins l ⟨s,id⟩
   rw [he,←hn,List.take_length,List.drop_length] at hc
   simp only [nameC] at hc
   rw [hc]
   have hq:(namesC l).length+1=(namesC (insK kN l ⟨s,id⟩)).length:=by rw [namesC_len,namesC_len,len_insK]
   rw [hq]
   simp [namesC_fz]
end Go.Proofs.YtdbhocoeolhjhaaGreatDoor
end
section
namespace Go.Num
theorem kn_mul {a b u v q r B:Nat} (hr:q*a+r=u):q*(a*B+b)+(B*r+v)=u*B+v+q*b:=by
 subst hr
 rw [Nat.mul_add,Nat.add_mul,Nat.mul_assoc,Nat.mul_comm B r]
 omega
theorem kn_exit {a b u v q r B:Nat} (hy:0<a*B+b) (hq:(u*B+v)/(a*B+b)≤q) (hr:q*a+r=u) (h:q*b≤B*r+v):q=(u*B+v)/(a*B+b):=by
 have:=kn_mul (b:=b) (v:=v) (B:=B) hr
 exact Nat.le_antisymm ((Nat.le_div_iff_mul_le hy).2 (by omega)) hq
theorem kn_break {a b u v q r B:Nat} (hy:0<a*B+b) (hq:(u*B+v)/(a*B+b)≤q) (hr:q*a+r=u) (hB:B≤r) (hqB:q≤B) (hb:b<B):q=(u*B+v)/(a*B+b):=by
 refine kn_exit hy hq hr ?_
 have h1:q*b≤B*B:=Nat.mul_le_mul hqB (Nat.le_of_lt hb)
 have h2:B*B≤B*r:=Nat.mul_le_mul_left B hB
 omega
theorem kn_next {a b u v q r B:Nat} (hy:0<a*B+b) (hu:u<a*B+b) (hv:v<B) (hr:q*a+r=u) (h:B≤q∨B*r+v<q*b):(u*B+v)/(a*B+b)<q:=by
 rw [Nat.div_lt_iff_lt_mul hy]
 rcases h with h|h
 ·have h1:u*B+v<(u+1)*B:=by rw [Nat.add_mul];omega
  have h2:(u+1)*B≤(a*B+b)*B:=Nat.mul_le_mul_right B hu
  have h3:(a*B+b)*B≤q*(a*B+b):=by rw [Nat.mul_comm q];exact Nat.mul_le_mul_left _ h
  omega
 ·have:=kn_mul (b:=b) (v:=v) (B:=B) hr
  omega
theorem kn_guess {a b u v B:Nat} (ha:0<a) (hv:v<B):(u*B+v)/(a*B+b)≤u/a:=by
 have hB:0<B:=by omega
 rw [Nat.le_div_iff_mul_le ha]
 have h1:(u*B+v)/(a*B+b)*(a*B+b)≤u*B+v:=Nat.div_mul_le_self _ _
 have h2:(u*B+v)/(a*B+b)*(a*B)≤(u*B+v)/(a*B+b)*(a*B+b):=Nat.mul_le_mul_left _ (Nat.le_add_right _ _)
 have h3:(u*B+v)/(a*B+b)*a*B<(u+1)*B:=by
  rw [Nat.mul_assoc,Nat.add_mul];omega
 have:=Nat.lt_of_mul_lt_mul_right h3
 omega
theorem kn_first {a b u B:Nat} (ha:B≤2*a) (hb:b<B) (hu:u<a*B+b):u/a≤B+1:=by
 have ha0:0<a:=by omega
 have:u<(B+2)*a:=by
  have e:(B+2)*a=a*B+2*a:=by rw [Nat.add_mul,Nat.mul_comm B a]
  omega
 have:=(Nat.div_lt_iff_lt_mul ha0).2 this
 omega
theorem two_digits {y h l B:Nat} (hy:0<y):let q1:=h/y;let r1:=h%y;(h*B+l)/y=q1*B+(r1*B+l)/y∧(h*B+l)%y=(r1*B+l)%y:=by
 intro q1 r1
 have e:h*B+l=y*(q1*B)+(r1*B+l):=by
  have:=Nat.div_add_mod h y
  have h2:h*B=(y*q1+r1)*B:=by rw [this]
  rw [h2,Nat.add_mul,Nat.mul_assoc];omega
 rw [e]
 exact ⟨Nat.mul_add_div hy _ _,Nat.mul_add_mod _ _ _⟩
theorem div64_join {hi lo y M B P R:Nat} (hM:M=R*P) (hMB:M=B*B) (hp:0<P) (hy:0<y) {u32 u10 h q1 u21 g:Nat}
  (e1:u32=hi*P+lo/R) (e2:u10=lo*P%M) (e3:h=u32*B+u10/B) (e4:q1=h/(y*P)) (e5:u21=h%(y*P)) (e6:g=u21*B+u10%B):
  (hi*M+lo)/y=q1*B+g/(y*P)∧(hi*M+lo)%y=g%(y*P)/P:=by
 have hyp:0<y*P:=Nat.mul_pos hy hp
 have elo:lo*P=lo/R*M+u10:=by
  have h1:=Nat.div_add_mod (lo*P) M
  have h2:lo*P/M=lo/R:=by
   rw [hM];exact Nat.mul_div_mul_right _ _ hp
  rw [h2,Nat.mul_comm,←e2] at h1
  exact h1.symm
 have eu:u10/B*B+u10%B=u10:=by
  have:=Nat.div_add_mod u10 B
  rw [Nat.mul_comm] at this;exact this
 have en:(hi*M+lo)*P=h*B+u10%B:=by
  have h1:(hi*M+lo)*P=hi*P*M+lo*P:=by
   rw [Nat.add_mul,Nat.mul_assoc,Nat.mul_comm M P,←Nat.mul_assoc]
  have h2:h*B=u32*M+u10/B*B:=by
   rw [e3,Nat.add_mul,Nat.mul_assoc,←hMB]
  have h3:u32*M=hi*P*M+lo/R*M:=by rw [e1,Nat.add_mul]
  rw [h1,elo,h2,h3,Nat.add_assoc (hi*P*M+lo/R*M),eu,Nat.add_assoc]
 obtain ⟨t1,t2⟩:=two_digits (y:=y*P) (h:=h) (l:=u10%B) (B:=B) hyp
 rw [←e4,←e5,←e6] at t1
 rw [←e5,←e6] at t2
 have d1:(hi*M+lo)/y=(hi*M+lo)*P/(y*P):=(Nat.mul_div_mul_right _ _ hp).symm
 have d2:(hi*M+lo)*P%(y*P)=(hi*M+lo)%y*P:=Nat.mul_mod_mul_right _ _ _
 constructor
 ·rw [d1,en];exact t1
 ·rw [en,t2] at d2
  rw [d2,Nat.mul_div_cancel _ hp]
abbrev N:=Bool×Int
abbrev most:Int:=9223372036854775807
def good (n:N):Bool:= !n.1&&decide (-most≤n.2)
def rightN (n:N):Bool:=if n.1 then decide (n.2=0) else decide (-most≤n.2)
def nothing:N:=(true,0)
def tell (s:Int):N:=if -most≤s∧s≤most then (false,s) else nothing
def addN (a b:N):N:=if good a&&good b then tell (a.2+b.2) else nothing
def lessN (a b:N):N:=if good a then (if good b then (if a.2≤b.2 then a else b) else a) else if good b then b else nothing
def moreN (a b:N):N:=if good a then (if good b then (if b.2≤a.2 then a else b) else a) else if good b then b else nothing
def rnd (x d:Nat):Nat:=x/d+(if d-x%d≤x%d then 1 else 0)
def sgn (below:Bool) (n:Nat):Int:=if below then -(n:Int) else n
def divN (a b:N):N:=if good a&&good b&&decide (b.2≠0) then tell (sgn (decide (a.2<0) !=decide (b.2<0)) (rnd (a.2.natAbs*1000000) b.2.natAbs)) else nothing
def known (l:List N):List N:=l.filter good
end Go.Num
end
section
namespace Go.Sf
open Go.Num
abbrev Slot:=Int×Int
def i64 (v:Int):Prop:= -9223372036854775808≤v∧v≤9223372036854775807
def okSlot (step n i:Nat) (s:Slot):Prop:=(s.1= -1∧s.2=0)∨∃k:Nat,s.1=((k*step:Nat):Int)∧k*step≤1099511627776∧k%n=i∧i64 s.2∧s.2≠ -9223372036854775808
def RightR (step:Nat) (l:List Slot):Prop:=∀i s,l[i]? =some s→okSlot step l.length i s
def setR (step:Nat) (l:List Slot) (t:Nat) (v:Int):List Slot:=l.set (t/step%l.length) (((t/step*step:Nat):Int),v)
def getR (step:Nat) (l:List Slot) (t:Nat):Option Int:=match l[t/step%l.length]? with
 |some s=>if s.1=((t/step*step:Nat):Int) then some s.2 else none
 |none=>none
theorem len_setR (step:Nat) (l:List Slot) (t:Nat) (v:Int):(setR step l t v).length=l.length:=by simp [setR]
theorem right_setR {step:Nat} {l:List Slot} {t:Nat} {v:Int} (h:RightR step l) (ht:t≤1099511627776) (hv:i64 v) (hv2:v≠ -9223372036854775808):RightR step (setR step l t v):=fun i s hs=>by
 rw [len_setR]
 unfold setR at hs
 rw [List.getElem?_set] at hs
 split at hs
 ·rename_i e
  split at hs
  ·simp only [Option.some.injEq] at hs
   subst hs
   refine .inr ⟨t/step,rfl, ?_,e,hv,hv2⟩
   have:=Nat.div_mul_le_self t step
   omega
  ·cases hs
 ·exact h i s hs
theorem getR_ok {step:Nat} {l:List Slot} {t:Nat} {v:Int} (h:RightR step l) (hg:getR step l t=some v):i64 v∧v≠ -9223372036854775808:=by
 unfold getR at hg
 split at hg
 ·rename_i s hs
  split at hg
  ·rename_i he
   simp only [Option.some.injEq] at hg;subst hg
   rcases h _ _ hs with ⟨h1,_⟩|⟨k,_,_,_,h4,h5⟩
   ·rw [h1] at he;omega
   ·exact ⟨h4,h5⟩
  ·cases hg
 ·cases hg
structure LadM where
 fine:List Slot
 wide:List Slot
structure RightL (l:LadM):Prop where
 n1:l.fine.length=6
 n2:l.wide.length=5
 r1:RightR 10 l.fine
 r2:RightR 60 l.wide
def newL:LadM:=⟨List.replicate 6 (-1,0),List.replicate 5 (-1,0)⟩
def numO:Option Int→N
 |some v=>(false,v)
 |none=>(true,0)
def parts (l:List Slot) (t:Nat):Nat→List Int
 |0=> []
 |k+1=>parts l t k++(getR 10 l (t+k*10)).toList
def avgN (l:List Int):N:=divN (l.foldl (fun a v=>addN a (tell v)) (tell 0)) (tell (l.length*1000000))
def coarse (l:List Slot) (t:Nat):N:=if (parts l (t/60*60) 6).length<3 then (true,0) else avgN (parts l (t/60*60) 6)
def acceptM (l:LadM) (t now:Nat) (v:Int):LadM:=
 if now<t/10*10+60 then
  let f:=setR 10 l.fine t v
  let n:=coarse f t
  if n.1 then ⟨f,l.wide⟩ else ⟨f,setR 60 l.wide t n.2⟩
 else ⟨l.fine,setR 60 l.wide t v⟩
theorem parts_len (l:List Slot) (t:Nat):∀k,(parts l t k).length≤k
 |0=>by simp [parts]
 |k+1=>by
  have:=parts_len l t k
  simp only [parts,List.length_append]
  cases getR 10 l (t+k*10)<;>simp<;>omega
theorem parts_ok {l:List Slot} (h:RightR 10 l) (t:Nat):∀k,∀v∈parts l t k,i64 v∧v≠ -9223372036854775808
 |0=>by simp [parts]
 |k+1=>fun v hv=>by
  simp only [parts,List.mem_append,Option.mem_toList] at hv
  rcases hv with hv|hv
  ·exact parts_ok h t k v hv
  ·exact getR_ok h hv
theorem tell_ok (s:Int) (h:(tell s).1=false):i64 (tell s).2∧(tell s).2≠ -9223372036854775808:=by
 unfold tell at*
 split
 ·rename_i hc;unfold most at hc;exact ⟨⟨by simp only;omega,by simp only;omega⟩,by simp only;omega⟩
 ·rename_i hc;rw [if_neg hc] at h;cases h
theorem divN_ok (a b:N) (h:(divN a b).1=false):i64 (divN a b).2∧(divN a b).2≠ -9223372036854775808:=by
 unfold divN at*
 split
 ·rename_i hc
  rw [if_pos hc] at h
  exact tell_ok _ h
 ·rename_i hc;rw [if_neg hc] at h;cases h
theorem right_new_l:RightL newL:=by
 refine ⟨rfl,rfl,fun i s hs=> .inl ?_,fun i s hs=> .inl ?_⟩<;>
 ·have:=List.mem_of_getElem? hs
  simp [newL] at this
  subst this;exact ⟨rfl,rfl⟩
theorem right_accept {l:LadM} {t now:Nat} {v:Int} (h:RightL l) (ht:t≤1099511627776) (hv:i64 v) (hv2:v≠ -9223372036854775808):RightL (acceptM l t now v):=by
 unfold acceptM
 split
 ·have hf:=right_setR (t:=t) h.r1 ht hv hv2
  simp only
  split
  ·exact ⟨by rw [len_setR];exact h.n1,h.n2,hf,h.r2⟩
  ·rename_i hn
   have hn':(coarse (setR 10 l.fine t v) t).1=false:=by simpa using hn
   have:i64 (coarse (setR 10 l.fine t v) t).2∧(coarse (setR 10 l.fine t v) t).2≠ -9223372036854775808:=by
    unfold coarse at hn'⊢
    split
    ·rename_i hc;rw [if_pos hc] at hn';cases hn'
    ·rename_i hc;rw [if_neg hc] at hn';exact divN_ok _ _ hn'
   exact ⟨by rw [len_setR];exact h.n1,by rw [len_setR];exact h.n2,hf,right_setR h.r2 ht this.1 this.2⟩
 ·exact ⟨h.n1,by rw [len_setR];exact h.n2,h.r1,right_setR h.r2 ht hv hv2⟩
end Go.Sf
end
section
namespace Go.Num
def bt (a i:Nat):Nat:=a/2^i%2
theorem bt_lt (a i:Nat):bt a i<2:=Nat.mod_lt _ (by decide)
theorem bt_lo {hi lo i:Nat} (hl:lo<18446744073709551616) (h:i<64):bt (hi*18446744073709551616+lo) i=lo/2^i%2:=by
 unfold bt
 have e:hi*18446744073709551616=2^i*(hi*2^(64-i)):=by
  rw [show (18446744073709551616:Nat)=2^i*2^(64-i) by rw [←Nat.pow_add,show i+(64-i)=64 by omega]]
  rw [Nat.mul_left_comm]
 rw [e,Nat.mul_add_div (Nat.two_pow_pos i)]
 have e2:hi*2^(64-i)=2*(hi*2^(63-i)):=by
  rw [show 64-i=(63-i)+1 by omega,Nat.pow_succ]
  rw [Nat.mul_comm (2^(63-i)) 2,Nat.mul_left_comm]
 rw [e2,Nat.mul_add_mod]
theorem bt_hi {hi lo i:Nat} (hl:lo<18446744073709551616) (h:64≤i):bt (hi*18446744073709551616+lo) i=hi/2^(i-64)%2:=by
 unfold bt
 have e:2^i=18446744073709551616*2^(i-64):=by
  rw [show (18446744073709551616:Nat)=2^64 by decide,←Nat.pow_add,show 64+(i-64)=i by omega]
 rw [e,←Nat.div_div_eq_div_mul]
 congr 2
 omega
def sumLo (a b i:Nat):Nat:=(a%2^i+b%2^i)%2^i
def sumC (a b i:Nat):Nat:=(a%2^i+b%2^i)/2^i
theorem sum_step (a b i:Nat):sumLo a b (i+1)=sumLo a b i+2^i*((bt a i+bt b i+sumC a b i)%2)∧sumC a b (i+1)=(bt a i+bt b i+sumC a b i)/2:=by
 have hp:=Nat.two_pow_pos i
 have h1:=Nat.mod_pow_succ (x:=a) (b:=2) (k:=i)
 have h2:=Nat.mod_pow_succ (x:=b) (b:=2) (k:=i)
 have h3:=Nat.div_add_mod (a%2^i+b%2^i) (2^i)
 have e:a%2^(i+1)+b%2^(i+1)=2^i*(bt a i+bt b i+sumC a b i)+sumLo a b i:=by
  rw [h1,h2]
  unfold sumC sumLo bt
  rw [Nat.mul_add,Nat.mul_add]
  omega
 have hlo:sumLo a b i<2^i:=Nat.mod_lt _ hp
 obtain ⟨s,hs⟩:∃s,bt a i+bt b i+sumC a b i=s:=⟨_,rfl⟩
 rw [hs] at e⊢
 have e2:2^i*s+sumLo a b i=2^(i+1)*(s/2)+(sumLo a b i+2^i*(s%2)):=by
  have:=Nat.div_add_mod s 2
  have h:2^i*s=2^i*(2*(s/2)+s%2):=by rw [this]
  rw [h,Nat.mul_add,Nat.pow_succ,Nat.mul_assoc];omega
 have hlt:sumLo a b i+2^i*(s%2)<2^(i+1):=by
  have hm:s%2≤1:=by have:=Nat.mod_lt s (show 0<2 by decide);omega
  have:=Nat.mul_le_mul_left (2^i) hm
  rw [Nat.pow_succ];omega
 have hpp:=Nat.two_pow_pos (i+1)
 constructor
 ·show (a%2^(i+1)+b%2^(i+1))%2^(i+1)=_
  rw [e,e2,Nat.mul_add_mod,Nat.mod_eq_of_lt hlt]
 ·show (a%2^(i+1)+b%2^(i+1))/2^(i+1)=_
  rw [e,e2,Nat.mul_add_div hpp,Nat.div_eq_of_lt hlt];omega
theorem sumC_le (a b i:Nat):sumC a b i≤1:=by
 have hp:=Nat.two_pow_pos i
 have h1:=Nat.mod_lt a hp
 have h2:=Nat.mod_lt b hp
 unfold sumC
 have:(a%2^i+b%2^i)/2^i<2:=by
  rw [Nat.div_lt_iff_lt_mul hp];omega
 omega
theorem mul_step (x y i:Nat):x*(y%2^(i+1))=x*(y%2^i)+(if bt y i=1 then x*2^i else 0):=by
 have h:=Nat.mod_pow_succ (x:=y) (b:=2) (k:=i)
 have hb:=bt_lt y i
 unfold bt at*
 rw [h,Nat.mul_add]
 split
 ·rename_i h1;rw [h1,Nat.mul_one]
 ·have:y/2^i%2=0:=by omega
  rw [this];simp
theorem div_step (a i:Nat):a/2^i=2*(a/2^(i+1))+bt a i:=by
 have:a/2^(i+1)=a/2^i/2:=by rw [Nat.pow_succ,Nat.div_div_eq_div_mul]
 rw [this]
 unfold bt
 omega
theorem div_next {n d q r b:Nat} (h:n=q*d+r) (hr:r<d) (hb:b<2):(2*r+b<d→2*n+b=(2*q)*d+(2*r+b))∧(d≤2*r+b→2*n+b=(2*q+1)*d+(2*r+b-d)∧2*r+b-d<d):=by
 subst h
 constructor
 ·intro _
  rw [Nat.mul_add,Nat.mul_assoc];omega
 ·intro h
  refine ⟨?_,by omega⟩
  rw [Nat.mul_add,Nat.add_mul,Nat.mul_assoc];omega
end Go.Num
end
section
namespace Go.Num
open Go.Abs
theorem u64_of (a:Nat) (h:a<18446744073709551616):(BitVec.ofInt 64 (a:Int)).toNat=a:=by
 rw [BitVec.toNat_ofInt]
 omega
theorem u64_wrap (a:Nat) (h:a<18446744073709551616):IntKind.u64.wrap (a:Int)=a:=by
 have:=Go.IntKind.wrap
 simp [IntKind.wrap,IntKind.signed,IntKind.bits];omega
theorem and_one (a:Nat) (h:a<18446744073709551616):bitOp .and .u64 (a:Int) 1=some ((a%2:Nat):Int):=by
 have e:(BitVec.ofInt 64 (a:Int)&&&BitVec.ofInt 64 1).toNat=a%2:=by
  rw [BitVec.toNat_and,u64_of a h,show (BitVec.ofInt 64 1).toNat=1 by decide,Nat.and_one_is_mod]
 show some (IntKind.u64.wrap ((BitVec.ofInt 64 (a:Int)&&&BitVec.ofInt 64 1).toNat:Int))=_
 rw [e,u64_wrap _ (by omega)]
theorem or_nat (a b:Nat) (h:a<18446744073709551616) (h2:b<18446744073709551616):bitOp .or .u64 (a:Int) (b:Int)=some ((a|||b:Nat):Int):=by
 have e:(BitVec.ofInt 64 (a:Int)|||BitVec.ofInt 64 (b:Int)).toNat=a|||b:=by
  rw [BitVec.toNat_or,u64_of a h,u64_of b h2]
 have hlt:a|||b<18446744073709551616:=Nat.or_lt_two_pow (n:=64) h h2
 show some (IntKind.u64.wrap ((BitVec.ofInt 64 (a:Int)|||BitVec.ofInt 64 (b:Int)).toNat:Int))=_
 rw [e,u64_wrap _ hlt]
theorem shr_nat (a n:Nat) (h:a<18446744073709551616) (hn:n≤64):shiftOp .shr .u64 (a:Int) n=some ((a/2^n:Nat):Int):=by
 show some ((a:Int).fdiv (2^min n 64))=_
 rw [Nat.min_eq_left hn]
 congr 1
 rw [show ((2:Int)^n)=((2^n:Nat):Int) by push_cast;rfl]
 exact Int.ofNat_fdiv _ _|>.symm
theorem shl_nat (a n:Nat) (hn:n≤64):shiftOp .shl .u64 (a:Int) n=some ((a*2^n%18446744073709551616:Nat):Int):=by
 show some (IntKind.u64.wrap ((a:Int)*2^min n 64))=_
 rw [Nat.min_eq_left hn]
 rw [show (a:Int)*2^n=((a*2^n:Nat):Int) by push_cast;rfl]
 simp [IntKind.wrap,IntKind.signed,IntKind.bits]
end Go.Num
end
section
namespace Go.Num
theorem good_iff {n:N}:good n=true↔n.1=false∧ -most≤n.2:=by
 simp [good]
theorem tell_zero:tell 0=(false,0):=by decide
theorem add_zero {k:N} (h:good k=true) (h2:k.2≤most):addN (tell 0) k=k:=by
 obtain ⟨h1,h3⟩:=good_iff.1 h
 have hz:good (tell 0)=true:=by decide
 unfold addN
 rw [hz,h]
 simp only [Bool.and_self,if_true]
 rw [tell_zero]
 unfold tell
 simp only [Int.zero_add]
 rw [if_pos ⟨h3,h2⟩,←h1]
end Go.Num
end
