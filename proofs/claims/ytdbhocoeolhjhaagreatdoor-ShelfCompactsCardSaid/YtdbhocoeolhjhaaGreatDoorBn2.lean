/- slices.Clone, BinarySearchFunc, IndexFunc, DeleteFunc at the shelf's element types: printed by gensl.py. slices.Insert at the end: printed by gensl.py -/
import Derived.Test.YtdbhocoeolhjhaaGreatDoorCode
import Derived.Test.YtdbhocoeolhjhaaGreatDoorAbs2
import Derived.Test.YtdbhocoeolhjhaaGreatDoorShelf
import Derived.WalkKit
import Derived.Test.YtdbhocoeolhjhaaGreatDoorBn1
set_option linter.unusedSimpArgs false
set_option linter.unusedVariables false
set_option linter.constructorNameAsVariable false
section
set_option maxHeartbeats 2000000
namespace Go.Abs
open Go.RowKit Go.Proofs
variable {G:Globs}
def Els (k:Nat) (els:List (List AV)):Prop:=(∀c∈els,c.length=k)∧(∀c∈els,∀x∈c,x.pure=true)∧∀c∈els,∀x∈c,x.one=true
def zfD (e k:Nat) (els:List (List AV)) (σ:zac) (r:AV) (σ':zac):Prop:=(els= []∧r=.nils∧σ'=σ)∨(r=.row σ.length els.length∧σ'=σ++ [.row e k els false])
theorem zc4 {P:Program} {f:FuncId} {args:List AV} {e size:Nat} {els:List (List AV)} {σ:zac} (h:ACalls P f args [] (zfD e size els [])) (ha:args.all AV.pure=true) (hp:∀c∈els,∀x∈c,x.pure=true):ACalls P f args σ (zfD e size els σ):=by
 intro base κ Im w vs hs hv
 have h0:SRel w.heap.size (fun _ _=>none) Im [] w:=⟨yaq _,(fun _ _ _ h=>by cases h),(fun id e h=>by simp at h),(fun i j e e' b _ h=>by simp at h),hs.imlt,hs.glob.mono hs.hb (fun _ h=>h) (fun _ _=>rfl) (fun _ _=>rfl)⟩
 have hv0:VRL (fun _ _=>none) Im w args vs:=⟨hv.1,fun j hj hj'=> .im _ _ ((hv.2 j hj hj').pure (by
  simp only [yaz] at ha
  exact ha _ (yat _)))⟩
 refine (h w.heap.size _ Im w vs h0 hv0).mono ?_
 rintro en w' ⟨r,σ',v,κ',Im',rfl,hR,hs',hg,hvr⟩
 have hlow:∀k,k<w.heap.size→w'.heap[k]? =w.heap[k]? :=hg.below.block
 have hIn:∀a,Im' a→Im a∨(w.heap.size≤a.block∧a.block<w'.heap.size∧a.spot=none):=fun a ha=>(hg.new a ha).imp (fun h=>h) fun h=>⟨h,(hs'.imlt a ha).1,(hs'.imlt a ha).2⟩
 rcases hR with ⟨rfl,rfl,rfl⟩|⟨rfl,rfl⟩
 ·exact ⟨_,_,_,κ,Im',rfl,.inl ⟨rfl,rfl,rfl⟩,hs.world hg.im hIn hg.below.size hlow,⟨fun _ _ _ h=>h,hg.im,hg.cell,fun a ha=>(hg.new a ha).imp (fun h=>h) fun h=>yca hs.hb h,hg.below.mono hs.hb⟩,.im _ _ (hvr.pure (by simp [AV.pure]))⟩
 obtain ⟨g,cap,rfl,hk⟩:=hvr.row_inv
 simp only [ycz] at hk
 obtain ⟨v',xs,hk',hown,hcv,hpos,hlens,hones,hir,him⟩:=hs'.ent 0 _ rfl
 rw [hk] at hk';cases hk'
 have hfree:∀k u,κ σ.length k=some u→False:=fun k u h=>by obtain ⟨e,h1,_⟩:=hs.dom _ _ _ h;simp at h1
 have hκ:=Key.with_new hfree els.length (.slice g els.length cap)
 refine ⟨_,_,_,κ.with σ.length els.length (.slice g els.length cap),Im',rfl,.inr ⟨rfl,rfl⟩, ?_,⟨hκ,hg.im,hg.cell,fun a ha=>(hg.new a ha).imp (fun h=>h) fun h=>yca hs.hb h,hg.below.mono hs.hb⟩,.row _ _ _ _ (Key.with_same _ _ _ _)⟩
 have hirl:IRL Im' w' els.flatten xs:=⟨hcv.1,fun j hj hj'=>(hcv.2 j hj hj').pure (by
  obtain ⟨c,hc,hcm⟩:=ybk.1 (yat hj)
  exact hp c hc _ hcm)⟩
 refine hs.push _ hκ (fun i k u h=> ?_) hg.im hIn hg.below.size hlow ?_ (fun b hb=> ?_)
 ·unfold Key.with at h
  split at h
  ·rename_i hcc;exact .inr ⟨hcc.1,by rw [hcc.2];exact yaq _⟩
  ·exact .inl h
 ·refine ⟨_,xs,Key.with_same _ _ _ _,⟨hown.1, ?_⟩,VRL.ofIR hirl,hpos,hlens,hones,fun h=>(by cases h),him⟩
  rcases hown.2 with h|⟨g,cap,cur,h1,h2,rest⟩
  ·exact .inl h
  ·exact .inr ⟨g,cap,cur,h1,yca hs.hb h2,rest⟩
 ·have:(Entry.row e size els false).block (κ.with σ.length els.length (.slice g els.length cap)) σ.length=(Value.slice g els.length cap).ownBlock:=by simp [Entry.block,Key.with_same]
  rw [this] at hb
  exact (hown.lt b hb).1
theorem zdg {σ:zac} {m k:Nat}:∀{els:List (List AV)},(∀c∈els,∀x∈c,x.pure=true)→(∀c∈els,∀x∈c,x≠ .nils)→(els.mapM fun (c:List AV)=>c.mapM (fz σ m k))=some els
 | [],_,_=>rfl
 |c::els,h,h'=>by
  have h1:∀(l:List AV),(∀x∈l,x.pure=true)→(∀x∈l,x≠ .nils)→l.mapM (fz σ m k)=some l:=by
   intro l
   induction l with
   |nil=>intro _ _;rfl
   |cons x l ih=>
    intro h h'
    rw [yb5,ih (fun y hy=>h y (ybq _ hy)) (fun y hy=>h' y (ybq _ hy))]
    have hx:=h x (by simp)
    have hn:=h' x (by simp)
    cases x<;>first|(exact absurd rfl hn)|(simp [AV.pure] at hx;done)|(cases k<;>simp [fz,hx])
  rw [yb5,h1 c (h c (by simp)) (h' c (by simp)),zdg (fun d hd=>h d (ybq _ hd)) (fun d hd=>h' d (ybq _ hd))]
  rfl
theorem zmh {σ:zac}:∀{els:List (List AV)},(∀c∈els,∀x∈c,x.pure=true)→(∀c∈els,∀x∈c,x≠ .nils)→(els.mapM fun (c:List AV)=>c.mapM (zeS σ))=some els
 | [],_,_=>rfl
 |c::els,h,h'=>by
  have h1:∀(l:List AV),(∀x∈l,x.pure=true)→(∀x∈l,x≠ .nils)→l.mapM (zeS σ)=some l:=by
   intro l
   induction l with
   |nil=>intro _ _;rfl
   |cons x l ih=>
    intro h h'
    rw [yb5,ih (fun y hy=>h y (ybq _ hy)) (fun y hy=>h' y (ybq _ hy))]
    have hx:=h x (by simp)
    have hn:=h' x (by simp)
    cases x<;>first|(exact absurd rfl hn)|(simp [AV.pure] at hx;done)|(simp [zeS,hx])
  rw [yb5,h1 c (h c (by simp)) (h' c (by simp)),zmh (fun d hd=>h d (ybq _ hd)) (fun d hd=>h' d (ybq _ hd))]
  rfl
def idxE (p:List AV→Bool):List (List AV)→Int
 | []=> -1
 |n::l=>if p n then 0 else if idxE p l<0 then -1 else idxE p l+1
theorem zid {p:List AV→Bool}:∀{l:List (List AV)},(∀n∈l,p n=false)→idxE p l= -1
 | [],_=>rfl
 |n::l,h=>by
  have h1:=h n (by simp)
  have h2:=zid (p:=p) (l:=l) fun m hm=>h m (by simp [hm])
  simp [idxE,h1,h2]
theorem zio {p:List AV→Bool}:∀{l:List (List AV)} {i:Nat} {n:List AV},l[i]? =some n→p n=true→(∀m∈l.take i,p m=false)→idxE p l=i
 | [],i,n,h,_,_=>by simp at h
 |m::l,0,n,h,hp,_=>by simp at h;subst h;simp [idxE,hp]
 |m::l,i+1,n,h,hp,ha=>by
  have h1:=ha m (by simp)
  have h2:=zio (p:=p) (l:=l) (i:=i) (by simpa using h) hp fun x hx=>ha x (by simp [hx])
  simp [idxE,h1,h2]
  omega
theorem zjh (p:List AV→Bool):∀l:List (List AV),(idxE p l= -1∧∀n∈l,p n=false)∨∃i n,l[i]? =some n∧p n=true∧(∀m∈l.take i,p m=false)∧idxE p l=i
 | []=> .inl ⟨rfl,by simp⟩
 |m::l=>by
  by_cases hm:p m=true
  ·exact .inr ⟨0,m,by simp,hm,by simp,by simp [idxE,hm]⟩
  ·have hm':p m=false:=by simpa using hm
   rcases zjh p l with ⟨h1,h2⟩|⟨i,n,h1,h2,h3,h4⟩
   ·refine .inl ⟨by simp [idxE,hm',h1],fun n hn=> ?_⟩
    rcases ybb.1 hn with rfl|hn
    ·exact hm'
    ·exact h2 n hn
   ·refine .inr ⟨i+1,n,by simpa using h1,h2,fun x hx=> ?_, ?_⟩
    ·rw [List.take_succ_cons] at hx
     rcases ybb.1 hx with rfl|hx
     ·exact hm'
     ·exact h3 x hx
    ·simp [idxE,hm',h4];omega
theorem zrT {α:Type} (A mid rest:List α) (v:α):∃mid',(A++(mid++v::rest)).set A.length v=A++v::(mid'++rest)∧mid'.length=mid.length∧∀x∈mid',x∈mid∨x=v:=by
 cases mid with
 |nil=>exact ⟨[],by simp,rfl,by simp⟩
 |cons m ms=>exact ⟨ms++ [v],by simp,by simp,fun x hx=>by
   rcases yai.1 hx with h|h
   ·exact .inl (by simp [h])
   ·exact .inr (by simpa using h)⟩
theorem z0r {v:AV} (h:v.one=true):v.cells= [v]:=by cases v<;>first|rfl|(simp [AV.one] at h)
def Asks [Globs] (P:Program) (pre:zac) (g:FuncId) (capt:List AV) (V:List AV→AV) (p:List AV→Bool) (els:List (List AV)):Prop:=∀c∈els,∀(X:zac) (K:AV→zac→Prop),K (.bool (p c)) (pre++X)→zsp P (pre++X) K g (V c::capt)
theorem zsn {P:Program} {pre X:zac} {g:FuncId} {capt:List AV} {V:List AV→AV} {p:List AV→Bool} {els:List (List AV)} (hb:zaJ P g=true) (h:Asks P pre g capt V p els) {c:List AV} (hc:c∈els) {K:AV→zac→Prop} {t:Tg K} (hK:K (.bool (p c)) (pre++X)):
  cv P K t (pre++X) (.fn (.func g) [] capt) [V c]:=⟨hb,by simpa using h c hc X K hK⟩
end Go.Abs
namespace Go.Proofs.YtdbhocoeolhjhaaGreatDoor
open Go.Abs Go.RowKit
variable {G:Globs}
theorem za7 {e size m:Nat} {els:List (List AV)} {im:Bool} (h:∀c∈els,∀x∈c,x.pure=true):(Entry.row e size els im).under m=true:=by
 simp only [Entry.under,yaz]
 exact fun c hc x hx=>zf2 m (h c hc x hx)
theorem zoV {x:Int} (h1:0≤x) (h2:x≤18446744073709551615):IntKind.u64.wrap x=x:=by
 simp [IntKind.wrap,IntKind.signed,IntKind.bits];omega
theorem zzG (els:List (List AV)) (he:Els 2 els) (hl:els.length≤1000000000):ACalls Tryz.prog zbh [.lst els] [] (zfD 101 2 els []):=by
 refine zag hmix zcc rfl ?_
 simp [zbj]
 refine zr0 fun b hb=> ?_
 cases b
 ·simp
  refine zaK [] els false (by simp) rfl (by decide) he.1 (fun h=>by cases h) rfl (by omega) (by omega) ?_
  simp
  refine za5 [.row 101 2 els false] (.row 0 els.length) (by simp [zaE]) [] (by simp) (by simp) (by simp [AV.under]) (fun i e he'=> ?_) (.inr ⟨rfl,rfl⟩)
  refine .inr ?_
  match i,he' with
  |0,he'=>
   simp only [ybm,yab] at he'
   subst he'
   exact za7 he.2.1
  |i+1,he'=>simp at he'
 ·have h0:els= []:=by
   refine Classical.byContradiction fun h=> ?_
   cases hb h
  subst h0
  simp
  exact za5 [] .nils (by simp [zaE]) [] (by simp) (by simp) (by simp [AV.under]) (fun i e he'=>by simp at he') (.inl ⟨rfl,rfl,rfl⟩)
theorem zzk (els:List (List AV)) (he:Els 2 els) (hl:els.length≤1000000000) {σ:zac}:ACalls Tryz.prog zbh [.lst els] σ (zfD 101 2 els σ):=zc4 (zzG els he hl) (by simp [AV.pure]) he.2.1
theorem z0V (els:List (List AV)) (he:Els 4 els) (hl:els.length≤1000000000):ACalls Tryz.prog zcm [.lst els] [] (zfD 103 4 els []):=by
 refine zag hmix zex rfl ?_
 simp [zch]
 refine zr0 fun b hb=> ?_
 cases b
 ·simp
  refine zaK [] els false (by simp) rfl (by decide) he.1 (fun h=>by cases h) rfl (by omega) (by omega) ?_
  simp
  refine za5 [.row 103 4 els false] (.row 0 els.length) (by simp [zaE]) [] (by simp) (by simp) (by simp [AV.under]) (fun i e he'=> ?_) (.inr ⟨rfl,rfl⟩)
  refine .inr ?_
  match i,he' with
  |0,he'=>
   simp only [ybm,yab] at he'
   subst he'
   exact za7 he.2.1
  |i+1,he'=>simp at he'
 ·have h0:els= []:=by
   refine Classical.byContradiction fun h=> ?_
   cases hb h
  subst h0
  simp
  exact za5 [] .nils (by simp [zaE]) [] (by simp) (by simp) (by simp [AV.under]) (fun i e he'=>by simp at he') (.inl ⟨rfl,rfl,rfl⟩)
theorem z6h (els:List (List AV)) (he:Els 4 els) (hl:els.length≤1000000000) {σ:zac}:ACalls Tryz.prog zcm [.lst els] σ (zfD 103 4 els σ):=zc4 (z0V els he hl) (by simp [AV.pure]) he.2.1
theorem zzg (els:List (List AV)) (he:Els 3 els) (hl:els.length≤1000000000):ACalls Tryz.prog zcj [.lst els] [] (zfD 97 3 els []):=by
 refine zag hmix zey rfl ?_
 simp [zck]
 refine zr0 fun b hb=> ?_
 cases b
 ·simp
  refine zaK [] els false (by simp) rfl (by decide) he.1 (fun h=>by cases h) rfl (by omega) (by omega) ?_
  simp
  refine za5 [.row 97 3 els false] (.row 0 els.length) (by simp [zaE]) [] (by simp) (by simp) (by simp [AV.under]) (fun i e he'=> ?_) (.inr ⟨rfl,rfl⟩)
  refine .inr ?_
  match i,he' with
  |0,he'=>
   simp only [ybm,yab] at he'
   subst he'
   exact za7 he.2.1
  |i+1,he'=>simp at he'
 ·have h0:els= []:=by
   refine Classical.byContradiction fun h=> ?_
   cases hb h
  subst h0
  simp
  exact za5 [] .nils (by simp [zaE]) [] (by simp) (by simp) (by simp [AV.under]) (fun i e he'=>by simp at he') (.inl ⟨rfl,rfl,rfl⟩)
theorem zvj (els:List (List AV)) (he:Els 3 els) (hl:els.length≤1000000000) {σ:zac}:ACalls Tryz.prog zcj [.lst els] σ (zfD 97 3 els σ):=zc4 (zzg els he hl) (by simp [AV.pure]) he.2.1
theorem z15 (els:List (List AV)) (he:Els 11 els) (hl:els.length≤1000000000):ACalls Tryz.prog zbA [.lst els] [] (zfD 57 11 els []):=by
 refine zag hmix zdr rfl ?_
 simp [zbF]
 refine zr0 fun b hb=> ?_
 cases b
 ·simp
  refine zaK [] els false (by simp) rfl (by decide) he.1 (fun h=>by cases h) rfl (by omega) (by omega) ?_
  simp
  refine za5 [.row 57 11 els false] (.row 0 els.length) (by simp [zaE]) [] (by simp) (by simp) (by simp [AV.under]) (fun i e he'=> ?_) (.inr ⟨rfl,rfl⟩)
  refine .inr ?_
  match i,he' with
  |0,he'=>
   simp only [ybm,yab] at he'
   subst he'
   exact za7 he.2.1
  |i+1,he'=>simp at he'
 ·have h0:els= []:=by
   refine Classical.byContradiction fun h=> ?_
   cases hb h
  subst h0
  simp
  exact za5 [] .nils (by simp [zaE]) [] (by simp) (by simp) (by simp [AV.under]) (fun i e he'=>by simp at he') (.inl ⟨rfl,rfl,rfl⟩)
theorem z5g (els:List (List AV)) (he:Els 11 els) (hl:els.length≤1000000000) {σ:zac}:ACalls Tryz.prog zbA [.lst els] σ (zfD 57 11 els σ):=zc4 (z15 els he hl) (by simp [AV.pure]) he.2.1
theorem z1L (els:List (List AV)) (he:Els 2 els) (hl:els.length≤1000000000):ACalls Tryz.prog zce [.lst els] [] (zfD 186 2 els []):=by
 refine zag hmix zet rfl ?_
 simp [zcg]
 refine zr0 fun b hb=> ?_
 cases b
 ·simp
  refine zaK [] els false (by simp) rfl (by decide) he.1 (fun h=>by cases h) rfl (by omega) (by omega) ?_
  simp
  refine za5 [.row 186 2 els false] (.row 0 els.length) (by simp [zaE]) [] (by simp) (by simp) (by simp [AV.under]) (fun i e he'=> ?_) (.inr ⟨rfl,rfl⟩)
  refine .inr ?_
  match i,he' with
  |0,he'=>
   simp only [ybm,yab] at he'
   subst he'
   exact za7 he.2.1
  |i+1,he'=>simp at he'
 ·have h0:els= []:=by
   refine Classical.byContradiction fun h=> ?_
   cases hb h
  subst h0
  simp
  exact za5 [] .nils (by simp [zaE]) [] (by simp) (by simp) (by simp [AV.under]) (fun i e he'=>by simp at he') (.inl ⟨rfl,rfl,rfl⟩)
theorem z1G (els:List (List AV)) (he:Els 2 els) (hl:els.length≤1000000000) {σ:zac}:ACalls Tryz.prog zce [.lst els] σ (zfD 186 2 els σ):=zc4 (z1L els he hl) (by simp [AV.pure]) he.2.1
theorem z1v (els:List (List AV)) (he:Els 2 els) (hl:els.length≤1000000000):ACalls Tryz.prog zci [.lst els] [] (zfD 112 2 els []):=by
 refine zag hmix zep rfl ?_
 simp [zcd]
 refine zr0 fun b hb=> ?_
 cases b
 ·simp
  refine zaK [] els false (by simp) rfl (by decide) he.1 (fun h=>by cases h) rfl (by omega) (by omega) ?_
  simp
  refine za5 [.row 112 2 els false] (.row 0 els.length) (by simp [zaE]) [] (by simp) (by simp) (by simp [AV.under]) (fun i e he'=> ?_) (.inr ⟨rfl,rfl⟩)
  refine .inr ?_
  match i,he' with
  |0,he'=>
   simp only [ybm,yab] at he'
   subst he'
   exact za7 he.2.1
  |i+1,he'=>simp at he'
 ·have h0:els= []:=by
   refine Classical.byContradiction fun h=> ?_
   cases hb h
  subst h0
  simp
  exact za5 [] .nils (by simp [zaE]) [] (by simp) (by simp) (by simp [AV.under]) (fun i e he'=>by simp at he') (.inl ⟨rfl,rfl,rfl⟩)
theorem z6a (els:List (List AV)) (he:Els 2 els) (hl:els.length≤1000000000) {σ:zac}:ACalls Tryz.prog zci [.lst els] σ (zfD 112 2 els σ):=zc4 (z1v els he hl) (by simp [AV.pure]) he.2.1
theorem bsNm (els:List (List AV)) (he:Els 2 els) (hl:els.length≤1000000000) (tgt:AV) (ht:tgt.pure=true) (g:Nat) (hb:zaJ Tryz.prog g=true) (k:Nat) (hk:k≤els.length) (cmp:Nat→Int)
  (hg:∀i c,els[i]? =some c→PCalls Tryz.prog g [.agg c,tgt] (fun r=>r=.int .i64 (cmp i))) (hlt:∀i,i<k→cmp i<0) (hge:∀i,k≤i→i<els.length→0≤cmp i):
  PCalls Tryz.prog zbK [.lst els,tgt,.fn (.func g) [] []] (fun r=>r=.tup [.int .i64 k,.bool (decide (k<els.length)&&decide (cmp k=0))]):=by
 refine zaa hmix zbJ rfl ?_
 simp [zaN]
 refine zah (fun x f σ=>∃(i j:Nat),x=j-i∧i≤k∧k≤j∧j≤els.length∧f 0=.lst els∧f 1=tgt∧f 2=.fn (.func g) [] []∧f 8=.int .i64 els.length∧f 9=.int .i64 i∧f 10=.int .i64 j∧σ= []) els.length ?_ ?_
 ·exact ⟨0,els.length,by simp,by simp,hk,by simp,by simp,by simp,by simp,by simp,by simp,by simp,by simp⟩
 rintro x f σ ⟨i,j,hx,hik,hkj,hjl,h0,h1,h2,h8,h9,h10,rfl⟩
 simp [h9,h10]
 refine zax (fun hij=> ?_) (fun hij=> ?_)
 ·have hij':i<j:=by omega
  obtain ⟨m,hm⟩:∃m,m=(i+j)/2:=⟨_,rfl⟩
  have hmj:m<j:=by omega
  have him:i≤m:=by omega
  have w1:IntKind.i64.wrap ((i:Int)+j)=((i+j:Nat):Int):=by rw [wrap_i64 (by omega) (by omega)];omega
  have w2:IntKind.u64.wrap ((i:Int)+j)=((i+j:Nat):Int):=by rw [zoV (by omega) (by omega)];omega
  have w3:((i:Int)+j).fdiv (2^min 1 IntKind.u64.bits)=(m:Int):=by
   have:(2^min 1 IntKind.u64.bits:Int)=2:=by decide
   rw [this,hm,yb6 _ (by omega)];omega
  have w4:IntKind.i64.wrap (m:Int)=m:=wrap_i64 (by omega) (by omega)
  have w5:IntKind.i64.wrap ((m:Int)+1)=((m+1:Nat):Int):=by rw [wrap_i64 (by omega) (by omega)];omega
  obtain ⟨c,hc⟩:∃c,els[m]? =some c:=⟨_,yad (by omega)⟩
  have hcl:=he.1 c (yaf hc)
  have hcp:=he.2.1 c (yaf hc)
  have e1:=h0;have e2:=h1;have e3:=h2
  simp [h0,h1,h2,h9,h10,w1,w2,w3,w4,w5,hc,hcl,yao,zaP,zfE]
  refine zuB hb ?_
  refine zad (hg m c hc) (by simp [AV.pure,ht];exact hcp) ?_
  rintro r rfl
  simp
  refine zax (fun hneg=> ?_) (fun hneg=> ?_)
  ·have hmk:m<k:=Classical.byContradiction fun h=>by have:=hge m (by omega) (by omega);omega
   simp [w5]
   refine zae (j-(m+1)) (by omega) ⟨m+1,j,rfl,by omega,by omega,by omega,by simp [h0],by simp [h1],by simp [h2],by simp [h8],by simp,by simp [h10],rfl⟩
  ·have hmk:k≤m:=Classical.byContradiction fun h=>by have:=hlt m (by omega);omega
   simp
   refine zae (m-i) (by omega) ⟨i,m,rfl,by omega,by omega,by omega,by simp [h0],by simp [h1],by simp [h2],by simp [h8],by simp [h9],by simp,rfl⟩
 ·have hik2:i=k:=by omega
  subst hik2
  by_cases hl2:i<els.length
  ·obtain ⟨c,hc⟩:∃c,els[i]? =some c:=⟨_,yad hl2⟩
   have hcl:=he.1 c (yaf hc)
   have hcp:=he.2.1 c (yaf hc)
   obtain ⟨hx1,hx2⟩:=yaa.1 hc
   simp [h0,h1,h2,h8,h9,hl2,hc,hx2,hcl,yao]
   refine zuB hb ?_
   refine zad (hg i c hc) (by simp [AV.pure,ht];exact hcp) ?_
   rintro r rfl
   simp [h9,hl2]
  ·simp [h0,h1,h2,h8,h9,hl2]
theorem bsMt (els:List (List AV)) (he:Els 11 els) (hl:els.length≤1000000000) (tgt:AV) (ht:tgt.pure=true) (g:Nat) (hb:zaJ Tryz.prog g=true) (k:Nat) (hk:k≤els.length) (cmp:Nat→Int)
  (hg:∀i c,els[i]? =some c→PCalls Tryz.prog g [.agg c,tgt] (fun r=>r=.int .i64 (cmp i))) (hlt:∀i,i<k→cmp i<0) (hge:∀i,k≤i→i<els.length→0≤cmp i):
  PCalls Tryz.prog zb1 [.lst els,tgt,.fn (.func g) [] []] (fun r=>r=.tup [.int .i64 k,.bool (decide (k<els.length)&&decide (cmp k=0))]):=by
 refine zaa hmix zb5 rfl ?_
 simp [zaG]
 refine zah (fun x f σ=>∃(i j:Nat),x=j-i∧i≤k∧k≤j∧j≤els.length∧f 0=.lst els∧f 1=tgt∧f 2=.fn (.func g) [] []∧f 8=.int .i64 els.length∧f 9=.int .i64 i∧f 10=.int .i64 j∧σ= []) els.length ?_ ?_
 ·exact ⟨0,els.length,by simp,by simp,hk,by simp,by simp,by simp,by simp,by simp,by simp,by simp,by simp⟩
 rintro x f σ ⟨i,j,hx,hik,hkj,hjl,h0,h1,h2,h8,h9,h10,rfl⟩
 simp [h9,h10]
 refine zax (fun hij=> ?_) (fun hij=> ?_)
 ·have hij':i<j:=by omega
  obtain ⟨m,hm⟩:∃m,m=(i+j)/2:=⟨_,rfl⟩
  have hmj:m<j:=by omega
  have him:i≤m:=by omega
  have w1:IntKind.i64.wrap ((i:Int)+j)=((i+j:Nat):Int):=by rw [wrap_i64 (by omega) (by omega)];omega
  have w2:IntKind.u64.wrap ((i:Int)+j)=((i+j:Nat):Int):=by rw [zoV (by omega) (by omega)];omega
  have w3:((i:Int)+j).fdiv (2^min 1 IntKind.u64.bits)=(m:Int):=by
   have:(2^min 1 IntKind.u64.bits:Int)=2:=by decide
   rw [this,hm,yb6 _ (by omega)];omega
  have w4:IntKind.i64.wrap (m:Int)=m:=wrap_i64 (by omega) (by omega)
  have w5:IntKind.i64.wrap ((m:Int)+1)=((m+1:Nat):Int):=by rw [wrap_i64 (by omega) (by omega)];omega
  obtain ⟨c,hc⟩:∃c,els[m]? =some c:=⟨_,yad (by omega)⟩
  have hcl:=he.1 c (yaf hc)
  have hcp:=he.2.1 c (yaf hc)
  have e1:=h0;have e2:=h1;have e3:=h2
  simp [h0,h1,h2,h9,h10,w1,w2,w3,w4,w5,hc,hcl,yao,zaP,zfE]
  refine zuB hb ?_
  refine zad (hg m c hc) (by simp [AV.pure,ht];exact hcp) ?_
  rintro r rfl
  simp
  refine zax (fun hneg=> ?_) (fun hneg=> ?_)
  ·have hmk:m<k:=Classical.byContradiction fun h=>by have:=hge m (by omega) (by omega);omega
   simp [w5]
   refine zae (j-(m+1)) (by omega) ⟨m+1,j,rfl,by omega,by omega,by omega,by simp [h0],by simp [h1],by simp [h2],by simp [h8],by simp,by simp [h10],rfl⟩
  ·have hmk:k≤m:=Classical.byContradiction fun h=>by have:=hlt m (by omega);omega
   simp
   refine zae (m-i) (by omega) ⟨i,m,rfl,by omega,by omega,by omega,by simp [h0],by simp [h1],by simp [h2],by simp [h8],by simp [h9],by simp,rfl⟩
 ·have hik2:i=k:=by omega
  subst hik2
  by_cases hl2:i<els.length
  ·obtain ⟨c,hc⟩:∃c,els[i]? =some c:=⟨_,yad hl2⟩
   have hcl:=he.1 c (yaf hc)
   have hcp:=he.2.1 c (yaf hc)
   obtain ⟨hx1,hx2⟩:=yaa.1 hc
   simp [h0,h1,h2,h8,h9,hl2,hc,hx2,hcl,yao]
   refine zuB hb ?_
   refine zad (hg i c hc) (by simp [AV.pure,ht];exact hcp) ?_
   rintro r rfl
   simp [h9,hl2]
  ·simp [h0,h1,h2,h8,h9,hl2]
theorem bsFi (els:List (List AV)) (he:Els 3 els) (hl:els.length≤1000000000) (tgt:AV) (ht:tgt.pure=true) (g:Nat) (hb:zaJ Tryz.prog g=true) (k:Nat) (hk:k≤els.length) (cmp:Nat→Int)
  (hg:∀i c,els[i]? =some c→PCalls Tryz.prog g [.agg c,tgt] (fun r=>r=.int .i64 (cmp i))) (hlt:∀i,i<k→cmp i<0) (hge:∀i,k≤i→i<els.length→0≤cmp i):
  PCalls Tryz.prog zbU [.lst els,tgt,.fn (.func g) [] []] (fun r=>r=.tup [.int .i64 k,.bool (decide (k<els.length)&&decide (cmp k=0))]):=by
 refine zaa hmix zbV rfl ?_
 simp [zaU]
 refine zah (fun x f σ=>∃(i j:Nat),x=j-i∧i≤k∧k≤j∧j≤els.length∧f 0=.lst els∧f 1=tgt∧f 2=.fn (.func g) [] []∧f 8=.int .i64 els.length∧f 9=.int .i64 i∧f 10=.int .i64 j∧σ= []) els.length ?_ ?_
 ·exact ⟨0,els.length,by simp,by simp,hk,by simp,by simp,by simp,by simp,by simp,by simp,by simp,by simp⟩
 rintro x f σ ⟨i,j,hx,hik,hkj,hjl,h0,h1,h2,h8,h9,h10,rfl⟩
 simp [h9,h10]
 refine zax (fun hij=> ?_) (fun hij=> ?_)
 ·have hij':i<j:=by omega
  obtain ⟨m,hm⟩:∃m,m=(i+j)/2:=⟨_,rfl⟩
  have hmj:m<j:=by omega
  have him:i≤m:=by omega
  have w1:IntKind.i64.wrap ((i:Int)+j)=((i+j:Nat):Int):=by rw [wrap_i64 (by omega) (by omega)];omega
  have w2:IntKind.u64.wrap ((i:Int)+j)=((i+j:Nat):Int):=by rw [zoV (by omega) (by omega)];omega
  have w3:((i:Int)+j).fdiv (2^min 1 IntKind.u64.bits)=(m:Int):=by
   have:(2^min 1 IntKind.u64.bits:Int)=2:=by decide
   rw [this,hm,yb6 _ (by omega)];omega
  have w4:IntKind.i64.wrap (m:Int)=m:=wrap_i64 (by omega) (by omega)
  have w5:IntKind.i64.wrap ((m:Int)+1)=((m+1:Nat):Int):=by rw [wrap_i64 (by omega) (by omega)];omega
  obtain ⟨c,hc⟩:∃c,els[m]? =some c:=⟨_,yad (by omega)⟩
  have hcl:=he.1 c (yaf hc)
  have hcp:=he.2.1 c (yaf hc)
  have e1:=h0;have e2:=h1;have e3:=h2
  simp [h0,h1,h2,h9,h10,w1,w2,w3,w4,w5,hc,hcl,yao,zaP,zfE]
  refine zuB hb ?_
  refine zad (hg m c hc) (by simp [AV.pure,ht];exact hcp) ?_
  rintro r rfl
  simp
  refine zax (fun hneg=> ?_) (fun hneg=> ?_)
  ·have hmk:m<k:=Classical.byContradiction fun h=>by have:=hge m (by omega) (by omega);omega
   simp [w5]
   refine zae (j-(m+1)) (by omega) ⟨m+1,j,rfl,by omega,by omega,by omega,by simp [h0],by simp [h1],by simp [h2],by simp [h8],by simp,by simp [h10],rfl⟩
  ·have hmk:k≤m:=Classical.byContradiction fun h=>by have:=hlt m (by omega);omega
   simp
   refine zae (m-i) (by omega) ⟨i,m,rfl,by omega,by omega,by omega,by simp [h0],by simp [h1],by simp [h2],by simp [h8],by simp [h9],by simp,rfl⟩
 ·have hik2:i=k:=by omega
  subst hik2
  by_cases hl2:i<els.length
  ·obtain ⟨c,hc⟩:∃c,els[i]? =some c:=⟨_,yad hl2⟩
   have hcl:=he.1 c (yaf hc)
   have hcp:=he.2.1 c (yaf hc)
   obtain ⟨hx1,hx2⟩:=yaa.1 hc
   simp [h0,h1,h2,h8,h9,hl2,hc,hx2,hcl,yao]
   refine zuB hb ?_
   refine zad (hg i c hc) (by simp [AV.pure,ht];exact hcp) ?_
   rintro r rfl
   simp [h9,hl2]
  ·simp [h0,h1,h2,h8,h9,hl2]
theorem z7p (pre:zac) (els:List (List AV)) (he:Els 3 els) (hl:els.length≤1000000000) (p:List AV→Bool) (g:Nat) (capt:List AV) (hb:zaJ Tryz.prog g=true) (hg:Asks Tryz.prog pre g capt .agg p els):
  ACalls Tryz.prog zbD [.row pre.length els.length,.fn (.func g) [] capt] (pre++ [.row 97 3 els false]) (fun r σ'=>r=.int .i64 (idxE p els)∧σ'=pre++ [.row 97 3 els false]):=by
 refine zag hmix zb9 rfl ?_
 simp [zaV]
 refine zah (fun x f σ=>∃(i:Nat),x=els.length-i∧i≤els.length∧f 0=.row pre.length els.length∧f 1=.fn (.func g) [] capt∧f 7=.int .i64 els.length∧f 8=.int .i64 i∧(∀m∈els.take i,p m=false)∧σ=pre++ [.row 97 3 els false]) els.length ?_ ?_
 ·exact ⟨0,by simp,by simp,by simp,by simp,by simp,by simp,by simp,by simp⟩
 rintro x f σ ⟨i,hx,hi,h0,h1,h7,h8,hall,rfl⟩
 simp [h7,h8]
 refine zax (fun hlt=> ?_) (fun hge=> ?_)
 ·have hlt':i<els.length:=by omega
  have hwi:IntKind.i64.wrap ((i:Int)+1)=((i+1:Nat):Int):=by rw [wrap_i64 (by omega) (by omega)];omega
  obtain ⟨c,hc⟩:∃c,els[i]? =some c:=⟨_,yad hlt'⟩
  obtain ⟨hx1,hx2⟩:=yaa.1 hc
  have hcm:=yaf hc
  have hcl:=he.1 c hcm
  skip
  simp [h0,h1,h8,hc,hx2,hcl,hlt',yao]
  refine zsn hb hg hcm ?_
  cases hp:p c with
  |true=>
   have:=zio hc hp hall
   simp
   refine za5 (pre++ [.row 97 3 els false]) (.int .i64 (idxE p els)) (by simp [zaE,this]) [] (by simp) (by simp) (by simp [AV.under]) (fun i e he=> .inl he) ⟨rfl,rfl⟩
  |false=>
   simp [h8,hwi]
   refine zae (els.length-(i+1)) (by omega) ⟨i+1,rfl,by omega,by simp [h0],by simp [h1],by simp [h7],by simp,fun m hm=> ?_,rfl⟩
   rw [yax,hc] at hm
   simp only [ydu,yai,ybh] at hm
   rcases hm with hm|rfl
   ·exact hall m hm
   ·exact hp
 ·have hil:i=els.length:=by omega
  rw [hil,ya1] at hall
  have:=zid hall
  simp
  refine za5 (pre++ [.row 97 3 els false]) (.int .i64 (idxE p els)) (by simp [zaE,this]) [] (by simp) (by simp) (by simp [AV.under]) (fun i e he=> .inl he) ⟨rfl,rfl⟩
theorem z5v (pre:zac) (els:List (List AV)) (he:Els 2 els) (hl:els.length≤1000000000) (p:List AV→Bool) (g:Nat) (capt:List AV) (hb:zaJ Tryz.prog g=true) (hg:Asks Tryz.prog pre g capt .agg p els):
  ACalls Tryz.prog zdp [.row pre.length els.length,.fn (.func g) [] capt] (pre++ [.row 186 2 els false]) (fun r σ'=>r=.int .i64 (idxE p els)∧σ'=pre++ [.row 186 2 els false]):=by
 refine zag hmix zdq rfl ?_
 simp [zbE]
 refine zah (fun x f σ=>∃(i:Nat),x=els.length-i∧i≤els.length∧f 0=.row pre.length els.length∧f 1=.fn (.func g) [] capt∧f 7=.int .i64 els.length∧f 8=.int .i64 i∧(∀m∈els.take i,p m=false)∧σ=pre++ [.row 186 2 els false]) els.length ?_ ?_
 ·exact ⟨0,by simp,by simp,by simp,by simp,by simp,by simp,by simp,by simp⟩
 rintro x f σ ⟨i,hx,hi,h0,h1,h7,h8,hall,rfl⟩
 simp [h7,h8]
 refine zax (fun hlt=> ?_) (fun hge=> ?_)
 ·have hlt':i<els.length:=by omega
  have hwi:IntKind.i64.wrap ((i:Int)+1)=((i+1:Nat):Int):=by rw [wrap_i64 (by omega) (by omega)];omega
  obtain ⟨c,hc⟩:∃c,els[i]? =some c:=⟨_,yad hlt'⟩
  obtain ⟨hx1,hx2⟩:=yaa.1 hc
  have hcm:=yaf hc
  have hcl:=he.1 c hcm
  skip
  simp [h0,h1,h8,hc,hx2,hcl,hlt',yao]
  refine zsn hb hg hcm ?_
  cases hp:p c with
  |true=>
   have:=zio hc hp hall
   simp
   refine za5 (pre++ [.row 186 2 els false]) (.int .i64 (idxE p els)) (by simp [zaE,this]) [] (by simp) (by simp) (by simp [AV.under]) (fun i e he=> .inl he) ⟨rfl,rfl⟩
  |false=>
   simp [h8,hwi]
   refine zae (els.length-(i+1)) (by omega) ⟨i+1,rfl,by omega,by simp [h0],by simp [h1],by simp [h7],by simp,fun m hm=> ?_,rfl⟩
   rw [yax,hc] at hm
   simp only [ydu,yai,ybh] at hm
   rcases hm with hm|rfl
   ·exact hall m hm
   ·exact hp
 ·have hil:i=els.length:=by omega
  rw [hil,ya1] at hall
  have:=zid hall
  simp
  refine za5 (pre++ [.row 186 2 els false]) (.int .i64 (idxE p els)) (by simp [zaE,this]) [] (by simp) (by simp) (by simp [AV.under]) (fun i e he=> .inl he) ⟨rfl,rfl⟩
theorem z4E (els:List (List AV)) (he:Els 2 els) (hl:els.length≤1000000000) (p:List AV→Bool) (g:Nat) (capt:List AV) (hcp:∀x∈capt,x.pure=true) (hb:zaJ Tryz.prog g=true) (hg:∀c∈els,PCalls Tryz.prog g (.agg c::capt) (fun r=>r=.bool (p c))):
  PCalls Tryz.prog zds [.lst els,.fn (.func g) [] capt] (fun r=>r=.int .i64 (idxE p els)):=by
 refine zaa hmix zdk rfl ?_
 simp [zbB]
 refine zah (fun x f σ=>∃(i:Nat),x=els.length-i∧i≤els.length∧f 0=.lst els∧f 1=.fn (.func g) [] capt∧f 7=.int .i64 els.length∧f 8=.int .i64 i∧(∀m∈els.take i,p m=false)∧σ= []) els.length ?_ ?_
 ·exact ⟨0,by simp,by simp,by simp,by simp,by simp,by simp,by simp,by simp⟩
 rintro x f σ ⟨i,hx,hi,h0,h1,h7,h8,hall,rfl⟩
 simp [h7,h8]
 refine zax (fun hlt=> ?_) (fun hge=> ?_)
 ·have hlt':i<els.length:=by omega
  have hwi:IntKind.i64.wrap ((i:Int)+1)=((i+1:Nat):Int):=by rw [wrap_i64 (by omega) (by omega)];omega
  obtain ⟨c,hc⟩:∃c,els[i]? =some c:=⟨_,yad hlt'⟩
  obtain ⟨hx1,hx2⟩:=yaa.1 hc
  have hcm:=yaf hc
  have hcl:=he.1 c hcm
  have hcpp:=he.2.1 c hcm
  simp [h0,h1,h8,hc,hx2,hcl,hlt',yao]
  refine zuB hb ?_
  refine zad (hg c hcm) (by simp [AV.pure];exact ⟨hcpp,hcp⟩) ?_
  rintro r rfl
  cases hp:p c with
  |true=>
   have:=zio hc hp hall
   simp [this]
  |false=>
   simp [h8,hwi]
   refine zae (els.length-(i+1)) (by omega) ⟨i+1,rfl,by omega,by simp [h0],by simp [h1],by simp [h7],by simp,fun m hm=> ?_,rfl⟩
   rw [yax,hc] at hm
   simp only [ydu,yai,ybh] at hm
   rcases hm with hm|rfl
   ·exact hall m hm
   ·exact hp
 ·have hil:i=els.length:=by omega
  rw [hil,ya1] at hall
  simp [zid hall]
theorem zxG {σ:zac} (g:Nat) (capt:List AV):ACalls Tryz.prog zbD [.nils,.fn (.func g) [] capt] σ (fun r σ'=>r=.int .i64 (-1)∧σ'=σ):=by
 refine zag hmix zb9 rfl ?_
 simp [zaV]
 refine zah (fun x f σ'=>f 7=.int .i64 0∧f 8=.int .i64 0∧σ'=σ) 0 ?_ ?_
 ·exact ⟨by simp,by simp,rfl⟩
 rintro x f σ' ⟨h7,h8,rfl⟩
 simp [h7,h8]
 exact za5 σ' (.int .i64 (-1)) (by simp [zaE]) [] (by simp) (by simp) (by simp [AV.under]) (fun i e he=> .inl he) ⟨rfl,rfl⟩
theorem z0i {σ:zac} (g:Nat) (capt:List AV):ACalls Tryz.prog zb2 [.nils,.fn (.func g) [] capt] σ (fun r σ'=>r=.nils∧σ'=σ):=by
 refine zag hmix zb7 rfl ?_
 simp [zaT]
 refine zar (zxG g capt) ?_
 rintro r σ' ⟨rfl,rfl⟩
 simp
 exact za5 σ' .nils (by simp [zaE]) [] (by simp) (by simp) (by simp [AV.under]) (fun i e he=> .inl he) ⟨rfl,rfl⟩
theorem zxf (els:List (List AV)) (he:Els 2 els) (hl:els.length≤1000000000) (hz:∀c∈els,∀x∈c,x≠ .nils):PCalls Tryz.prog zbh [.lst els] (fun r=>r=.lst els):=by
 refine zaa hmix zcc rfl ?_
 simp [zbj]
 refine zr0 fun b hb=> ?_
 cases b
 ·simp
  refine zaK [] els false (by simp) rfl (by decide) he.1 (fun h=>by cases h) rfl (by omega) (by omega) ?_
  simp [zdg he.2.1 hz]
 ·have h0:els= []:=by
   refine Classical.byContradiction fun h=> ?_
   cases hb h
  subst h0
  simp
theorem z2W (els:List (List AV)) (he:Els 2 els) (hl:els.length≤1000000000) (hz:∀c∈els,∀x∈c,x≠ .nils):PCalls Tryz.prog zeq [.lst els] (fun r=>r=.lst els):=by
 refine zaa hmix zev rfl ?_
 simp [zcf]
 refine zr0 fun b hb=> ?_
 cases b
 ·simp
  refine zaK [] els false (by simp) rfl (by decide) he.1 (fun h=>by cases h) rfl (by omega) (by omega) ?_
  simp [zdg he.2.1 hz]
 ·have h0:els= []:=by
   refine Classical.byContradiction fun h=> ?_
   cases hb h
  subst h0
  simp
theorem z7X (pre:zac) (els:List (List AV)) (he:Els 3 els) (hl:els.length≤1000000000) (p:List AV→Bool) (g:Nat) (capt:List AV) (hb:zaJ Tryz.prog g=true) (hg:Asks Tryz.prog pre g capt .agg p els):
  ACalls Tryz.prog zb2 [.row pre.length els.length,.fn (.func g) [] capt] (pre++ [.row 97 3 els false])
   (fun r σ'=>∃X:List (List AV),σ'=pre++ [.row 97 3 X false]∧X.length=els.length∧Els 3 X∧((r=.row pre.length els.length∧X=els.filter fun n=> !p n)∨(r=.sub pre.length els.length 3 0 (els.filter fun n=> !p n).length∧X.take (els.filter fun n=> !p n).length=els.filter fun n=> !p n))):=by
 refine zag hmix zb7 rfl ?_
 simp [zaT]
 refine zar (z7p pre els he hl p g capt hb hg) ?_
 rintro r σ ⟨rfl,rfl⟩
 rcases zjh p els with ⟨hi1,hall⟩|⟨k,n,hk,hpn,hbefore,hi2⟩
 ·have hf:(els.filter fun n=> !p n)=els:=ydn.2 fun n hn=>by simp [hall n hn]
  rw [hf]
  simp [hi1]
  refine za5 (pre++ [.row 97 3 els false]) (.row pre.length els.length) (by simp [zaE]) [] (by simp) (by simp) (by simp [AV.under]) (fun i e he=> .inl he) ⟨els,rfl,rfl,he,.inl ⟨rfl,rfl⟩⟩
 ·have hkl:k<els.length:=(yaa.1 hk).1
  have hpos:0<els.length:=by omega
  have hkn:¬((k:Int)= -1):=by omega
  have hwk:IntKind.i64.wrap ((k:Int)+1)=((k+1:Nat):Int):=by rw [wrap_i64 (by omega) (by omega)];omega
  simp [hi2,hkn,hwk]
  have hfk:((els.take k).filter fun n=> !p n)=els.take k:=ydn.2 fun n hn=>by simp [hbefore n hn]
  refine zah (fun x f σ=>∃(j:Nat) (mid:List (List AV)) (tl:zac),x=els.length-j∧j≤els.length∧f 0=.row pre.length els.length∧f 1=.fn (.func g) [] capt∧f 5=.int .i64 ((els.take j).filter fun n=> !p n).length∧f 6=.int .i64 j∧((els.take j).filter fun n=> !p n).length+mid.length=j∧Els 3 mid∧
   σ=pre++ .row 97 3 (((els.take j).filter fun n=> !p n)++(mid++els.drop j)) false::tl) (els.length-(k+1)) ?_ ?_
  ·have ht1:els.take (k+1)=els.take k++ [n]:=by rw [yax,hk];rfl
   have hf1:((els.take (k+1)).filter fun n=> !p n)=els.take k:=by
    rw [ht1,ycy,hfk];simp [hpn]
   have hnm:=yaf hk
   refine ⟨k+1,[n],[],by omega,by omega,by simp,by simp, ?_,by simp, ?_,⟨(fun c hc=>by simp at hc;subst hc;exact he.1 _ hnm),(fun c hc=>by simp at hc;subst hc;exact he.2.1 _ hnm),(fun c hc=>by simp at hc;subst hc;exact he.2.2 _ hnm)⟩, ?_⟩
   ·rw [hf1];simp [hi2,ybt (ydx hkl)]
   ·rw [hf1];simp [ybt (ydx hkl)]
   ·rw [hf1]
    have:els.take k++([n]++els.drop (k+1))=els:=by
     rw [←ya3,←ht1,ya9]
    rw [this]
  rintro x f σ ⟨j,mid,tl,hx,hj,h0,h1,h5,h6,hmid,hem,rfl⟩
  obtain ⟨A,hA⟩:∃A,A=(els.take j).filter fun n=> !p n:=⟨_,rfl⟩
  rw [←hA] at h5 hmid
  rw [←hA]
  have heA:Els 3 A:=⟨fun c hc=>he.1 c (by rw [hA] at hc;exact yak (ybn.1 hc).1),fun c hc=>he.2.1 c (by rw [hA] at hc;exact yak (ybn.1 hc).1),fun c hc=>he.2.2 c (by rw [hA] at hc;exact yak (ybn.1 hc).1)⟩
  have hlen:(A++(mid++els.drop j)).length=els.length:=by simp;omega
  simp only [yag,ya2] at hlen
  simp [h0,h6,hlen]
  refine zax (fun hlt=> ?_) (fun hge=> ?_)
  ·have hlt':j<els.length:=by omega
   have hwj:IntKind.i64.wrap ((j:Int)+1)=((j+1:Nat):Int):=by rw [wrap_i64 (by omega) (by omega)];omega
   obtain ⟨c,hv⟩:∃c,els[j]? =some c:=⟨_,yad hlt'⟩
   have hdrop:els.drop j=c::els.drop (j+1):=by
    obtain ⟨h1,h2⟩:=yaa.1 hv
    rw [ybw h1,h2]
   have hget:(A++(mid++els.drop j))[j]? =some c:=by
    rw [←ya3,yaj (by simp;omega)]
    have:j-(A++mid).length=0:=by simp;omega
    rw [this,hdrop];rfl
   obtain ⟨hx1,hx2⟩:=yaa.1 hget
   have hcm:=yaf hv
   have hcl:=he.1 c hcm
   have htake:els.take (j+1)=els.take j++ [c]:=by rw [yax,hv];rfl
   skip
   have hone:=he.2.2 _ hcm
   simp [h0,h1,h6,hlen,hlt',hget,hx2,hcl,yao,zgh,zgv]
   rw [if_pos (fun x hx=>hone x hx)];simp [h0,h1,h6,hlen,hlt',hget,hx2,hcl,yao,zgh,zgv]
   refine zsn hb hg hcm ?_
   cases hpv:p c with
   |true=>
    have hf1:((els.take (j+1)).filter fun n=> !p n)=A:=by rw [htake,ycy,←hA];simp [hpv]
    simp [h6,hwj]
    refine zae (els.length-(j+1)) (by omega) ⟨j+1,mid++ [c],tl++ [.var 97 c],rfl,by omega,by simp [h0],by simp [h1],by rw [hf1];simp [h5],by simp,by rw [hf1];simp;omega,⟨fun d hd=> ?_,fun d hd=> ?_,fun d hd=> ?_⟩, ?_⟩
    ·rcases yai.1 hd with h|h
     ·exact hem.1 d h
     ·simp at h;subst h;exact he.1 _ hcm
    ·rcases yai.1 hd with h|h
     ·exact hem.2.1 d h
     ·simp at h;subst h;exact he.2.1 _ hcm
    ·rcases yai.1 hd with h|h
     ·exact hem.2.2 d h
     ·simp at h;subst h;exact he.2.2 _ hcm
    ·rw [hf1,hdrop];simp
   |false=>
    have hf1:((els.take (j+1)).filter fun n=> !p n)=A++ [c]:=by rw [htake,ycy,←hA];simp [hpv]
    obtain ⟨mid',hs1,hs2,hs3⟩:=zrT A mid (els.drop (j+1)) c
    have hAl:A.length<els.length:=by omega
    obtain ⟨d0,hd0⟩:∃d0,(A++(mid++els.drop j))[A.length]? =some d0:=⟨_,yad (by simp;omega)⟩
    obtain ⟨hy1,hy2⟩:=yaa.1 hd0
    have hd0l:d0.length=3:=by
     have:=yaf hd0
     rcases yai.1 this with h|h
     ·exact heA.1 _ h
     ·rcases yai.1 h with h|h
      ·exact hem.1 _ h
      ·exact he.1 _ (yau h)
    have hwA:IntKind.i64.wrap ((A.length:Int)+1)=((A.length+1:Nat):Int):=by rw [wrap_i64 (by omega) (by omega)];omega
    have hsp:splice d0 0 c=c:=by
     have hd:d0.drop 3= []:=ybu (by omega)
     simp [splice,hcl,hd]
    have hset:(A++(mid++els.drop j)).set A.length c=A++ [c]++(mid'++els.drop (j+1)):=by
     rw [hdrop,hs1];simp
    have hset2:(mid++els.drop j).set 0 c=c::(mid'++els.drop (j+1)):=by
     rw [ybi _ _ (yaq _),ycx] at hset
     simpa using hset
    have hdd:d0.drop 3= []:=ybu (by omega)
    skip
    simp [h0,h1,h5,h6,hlen,hAl,hd0,hy2,hd0l,hcl,hwj,hwA,yao,zgh,zgv,splice,hdd,hset2]
    rw [if_pos (fun x hx=>hone x hx)];simp [h5,h6,hwj,hwA]
    refine zae (els.length-(j+1)) (by omega) ⟨j+1,mid',tl++ [.var 97 c],rfl,by omega,by simp [h0],by simp [h1],by rw [hf1];simp,by simp,by rw [hf1];simp;omega,⟨fun d hd=> ?_,fun d hd=> ?_,fun d hd=> ?_⟩, ?_⟩
    ·rcases hs3 d hd with h|rfl
     ·exact hem.1 d h
     ·exact he.1 _ hcm
    ·rcases hs3 d hd with h|rfl
     ·exact hem.2.1 d h
     ·exact he.2.1 _ hcm
    ·rcases hs3 d hd with h|rfl
     ·exact hem.2.2 d h
     ·exact he.2.2 _ hcm
    ·rw [hf1];simp
  ·have hjl:j=els.length:=by omega
   subst hjl
   rw [ya1] at hA
   rw [yd2,yby]
   rw [ycx,ycb] at hlen
   have hAle:A.length≤els.length:=by omega
   have hdz:(A++mid).drop els.length= []:=ybu (by simp;omega)
   simp [h0,h5,hlen,hpos,hAle,hdz]
   rw [←hA]
   obtain ⟨Y,hY⟩:∃Y,Y=A++List.replicate (els.length-A.length) [.int .i64 0,.nils,.int .i64 0]:=⟨_,rfl⟩
   have hYe:Els 3 Y:=by
    rw [hY]
    refine ⟨fun d hd=> ?_,fun d hd=> ?_,fun d hd=> ?_⟩
    ·rcases yai.1 hd with h|h
     ·exact heA.1 d h
     ·rw [(ybp.1 h).2];rfl
    ·rcases yai.1 hd with h|h
     ·exact heA.2.1 d h
     ·rw [(ybp.1 h).2];simp [AV.pure]
    ·rcases yai.1 hd with h|h
     ·exact heA.2.2 d h
     ·rw [(ybp.1 h).2];simp [AV.one]
   have hYt:Y.take A.length=A:=by rw [hY,ycj];rfl
   rw [←hY]
   refine za5 (pre++ [.row 97 3 Y false]) (.sub pre.length els.length 3 0 A.length) (by simp [zaE]) tl (by simp) (by simp) (by simp [AV.under]) (fun i e he'=> ?_) ⟨Y,rfl,by rw [hY];simp;omega,hYe,.inr ⟨rfl,hYt⟩⟩
   rcases ycv i pre.length with h|h|h
   ·rw [yar h] at he'⊢
    exact .inl he'
   ·subst h
    simp at he'
    subst he'
    exact .inr (za7 hYe.2.1)
   ·rw [yaj (by omega)] at he'
    have:=(yaa.1 he').1
    simp at this
    omega
theorem z7y (pre:zac) (els:List (List AV)) (he:Els 2 els) (hl:els.length≤1000000000) (p:List AV→Bool) (g:Nat) (capt:List AV) (hb:zaJ Tryz.prog g=true) (hg:Asks Tryz.prog pre g capt .agg p els):
  ACalls Tryz.prog zdf [.row pre.length els.length,.fn (.func g) [] capt] (pre++ [.row 186 2 els false])
   (fun r σ'=>∃X:List (List AV),σ'=pre++ [.row 186 2 X false]∧X.length=els.length∧Els 2 X∧((r=.row pre.length els.length∧X=els.filter fun n=> !p n)∨(r=.sub pre.length els.length 2 0 (els.filter fun n=> !p n).length∧∃n,X=(els.filter fun n=> !p n)++List.replicate n [.int .i64 0,.int .i64 0]))):=by
 refine zag hmix zdi rfl ?_
 simp [zb4]
 refine zar (z5v pre els he hl p g capt hb hg) ?_
 rintro r σ ⟨rfl,rfl⟩
 rcases zjh p els with ⟨hi1,hall⟩|⟨k,n,hk,hpn,hbefore,hi2⟩
 ·have hf:(els.filter fun n=> !p n)=els:=ydn.2 fun n hn=>by simp [hall n hn]
  rw [hf]
  simp [hi1]
  refine za5 (pre++ [.row 186 2 els false]) (.row pre.length els.length) (by simp [zaE]) [] (by simp) (by simp) (by simp [AV.under]) (fun i e he=> .inl he) ⟨els,rfl,rfl,he,.inl ⟨rfl,rfl⟩⟩
 ·have hkl:k<els.length:=(yaa.1 hk).1
  have hpos:0<els.length:=by omega
  have hkn:¬((k:Int)= -1):=by omega
  have hwk:IntKind.i64.wrap ((k:Int)+1)=((k+1:Nat):Int):=by rw [wrap_i64 (by omega) (by omega)];omega
  simp [hi2,hkn,hwk]
  have hfk:((els.take k).filter fun n=> !p n)=els.take k:=ydn.2 fun n hn=>by simp [hbefore n hn]
  refine zah (fun x f σ=>∃(j:Nat) (mid:List (List AV)) (tl:zac),x=els.length-j∧j≤els.length∧f 0=.row pre.length els.length∧f 1=.fn (.func g) [] capt∧f 5=.int .i64 ((els.take j).filter fun n=> !p n).length∧f 6=.int .i64 j∧((els.take j).filter fun n=> !p n).length+mid.length=j∧Els 2 mid∧
   σ=pre++ .row 186 2 (((els.take j).filter fun n=> !p n)++(mid++els.drop j)) false::tl) (els.length-(k+1)) ?_ ?_
  ·have ht1:els.take (k+1)=els.take k++ [n]:=by rw [yax,hk];rfl
   have hf1:((els.take (k+1)).filter fun n=> !p n)=els.take k:=by
    rw [ht1,ycy,hfk];simp [hpn]
   have hnm:=yaf hk
   refine ⟨k+1,[n],[],by omega,by omega,by simp,by simp, ?_,by simp, ?_,⟨(fun c hc=>by simp at hc;subst hc;exact he.1 _ hnm),(fun c hc=>by simp at hc;subst hc;exact he.2.1 _ hnm),(fun c hc=>by simp at hc;subst hc;exact he.2.2 _ hnm)⟩, ?_⟩
   ·rw [hf1];simp [hi2,ybt (ydx hkl)]
   ·rw [hf1];simp [ybt (ydx hkl)]
   ·rw [hf1]
    have:els.take k++([n]++els.drop (k+1))=els:=by
     rw [←ya3,←ht1,ya9]
    rw [this]
  rintro x f σ ⟨j,mid,tl,hx,hj,h0,h1,h5,h6,hmid,hem,rfl⟩
  obtain ⟨A,hA⟩:∃A,A=(els.take j).filter fun n=> !p n:=⟨_,rfl⟩
  rw [←hA] at h5 hmid
  rw [←hA]
  have heA:Els 2 A:=⟨fun c hc=>he.1 c (by rw [hA] at hc;exact yak (ybn.1 hc).1),fun c hc=>he.2.1 c (by rw [hA] at hc;exact yak (ybn.1 hc).1),fun c hc=>he.2.2 c (by rw [hA] at hc;exact yak (ybn.1 hc).1)⟩
  have hlen:(A++(mid++els.drop j)).length=els.length:=by simp;omega
  simp only [yag,ya2] at hlen
  simp [h0,h6,hlen]
  refine zax (fun hlt=> ?_) (fun hge=> ?_)
  ·have hlt':j<els.length:=by omega
   have hwj:IntKind.i64.wrap ((j:Int)+1)=((j+1:Nat):Int):=by rw [wrap_i64 (by omega) (by omega)];omega
   obtain ⟨c,hv⟩:∃c,els[j]? =some c:=⟨_,yad hlt'⟩
   have hdrop:els.drop j=c::els.drop (j+1):=by
    obtain ⟨h1,h2⟩:=yaa.1 hv
    rw [ybw h1,h2]
   have hget:(A++(mid++els.drop j))[j]? =some c:=by
    rw [←ya3,yaj (by simp;omega)]
    have:j-(A++mid).length=0:=by simp;omega
    rw [this,hdrop];rfl
   obtain ⟨hx1,hx2⟩:=yaa.1 hget
   have hcm:=yaf hv
   have hcl:=he.1 c hcm
   have htake:els.take (j+1)=els.take j++ [c]:=by rw [yax,hv];rfl
   skip
   have hone:=he.2.2 _ hcm
   simp [h0,h1,h6,hlen,hlt',hget,hx2,hcl,yao,zgh,zgv]
   rw [if_pos (fun x hx=>hone x hx)];simp [h0,h1,h6,hlen,hlt',hget,hx2,hcl,yao,zgh,zgv]
   refine zsn hb hg hcm ?_
   cases hpv:p c with
   |true=>
    have hf1:((els.take (j+1)).filter fun n=> !p n)=A:=by rw [htake,ycy,←hA];simp [hpv]
    simp [h6,hwj]
    refine zae (els.length-(j+1)) (by omega) ⟨j+1,mid++ [c],tl++ [.var 186 c],rfl,by omega,by simp [h0],by simp [h1],by rw [hf1];simp [h5],by simp,by rw [hf1];simp;omega,⟨fun d hd=> ?_,fun d hd=> ?_,fun d hd=> ?_⟩, ?_⟩
    ·rcases yai.1 hd with h|h
     ·exact hem.1 d h
     ·simp at h;subst h;exact he.1 _ hcm
    ·rcases yai.1 hd with h|h
     ·exact hem.2.1 d h
     ·simp at h;subst h;exact he.2.1 _ hcm
    ·rcases yai.1 hd with h|h
     ·exact hem.2.2 d h
     ·simp at h;subst h;exact he.2.2 _ hcm
    ·rw [hf1,hdrop];simp
   |false=>
    have hf1:((els.take (j+1)).filter fun n=> !p n)=A++ [c]:=by rw [htake,ycy,←hA];simp [hpv]
    obtain ⟨mid',hs1,hs2,hs3⟩:=zrT A mid (els.drop (j+1)) c
    have hAl:A.length<els.length:=by omega
    obtain ⟨d0,hd0⟩:∃d0,(A++(mid++els.drop j))[A.length]? =some d0:=⟨_,yad (by simp;omega)⟩
    obtain ⟨hy1,hy2⟩:=yaa.1 hd0
    have hd0l:d0.length=2:=by
     have:=yaf hd0
     rcases yai.1 this with h|h
     ·exact heA.1 _ h
     ·rcases yai.1 h with h|h
      ·exact hem.1 _ h
      ·exact he.1 _ (yau h)
    have hwA:IntKind.i64.wrap ((A.length:Int)+1)=((A.length+1:Nat):Int):=by rw [wrap_i64 (by omega) (by omega)];omega
    have hsp:splice d0 0 c=c:=by
     have hd:d0.drop 2= []:=ybu (by omega)
     simp [splice,hcl,hd]
    have hset:(A++(mid++els.drop j)).set A.length c=A++ [c]++(mid'++els.drop (j+1)):=by
     rw [hdrop,hs1];simp
    have hset2:(mid++els.drop j).set 0 c=c::(mid'++els.drop (j+1)):=by
     rw [ybi _ _ (yaq _),ycx] at hset
     simpa using hset
    have hdd:d0.drop 2= []:=ybu (by omega)
    skip
    simp [h0,h1,h5,h6,hlen,hAl,hd0,hy2,hd0l,hcl,hwj,hwA,yao,zgh,zgv,splice,hdd,hset2]
    rw [if_pos (fun x hx=>hone x hx)];simp [h5,h6,hwj,hwA]
    refine zae (els.length-(j+1)) (by omega) ⟨j+1,mid',tl++ [.var 186 c],rfl,by omega,by simp [h0],by simp [h1],by rw [hf1];simp,by simp,by rw [hf1];simp;omega,⟨fun d hd=> ?_,fun d hd=> ?_,fun d hd=> ?_⟩, ?_⟩
    ·rcases hs3 d hd with h|rfl
     ·exact hem.1 d h
     ·exact he.1 _ hcm
    ·rcases hs3 d hd with h|rfl
     ·exact hem.2.1 d h
     ·exact he.2.1 _ hcm
    ·rcases hs3 d hd with h|rfl
     ·exact hem.2.2 d h
     ·exact he.2.2 _ hcm
    ·rw [hf1];simp
  ·have hjl:j=els.length:=by omega
   subst hjl
   rw [ya1] at hA
   rw [yd2,yby]
   rw [ycx,ycb] at hlen
   have hAle:A.length≤els.length:=by omega
   have hdz:(A++mid).drop els.length= []:=ybu (by simp;omega)
   simp [h0,h5,hlen,hpos,hAle,hdz]
   rw [←hA]
   obtain ⟨Y,hY⟩:∃Y,Y=A++List.replicate (els.length-A.length) [.int .i64 0,.int .i64 0]:=⟨_,rfl⟩
   have hYe:Els 2 Y:=by
    rw [hY]
    refine ⟨fun d hd=> ?_,fun d hd=> ?_,fun d hd=> ?_⟩
    ·rcases yai.1 hd with h|h
     ·exact heA.1 d h
     ·rw [(ybp.1 h).2];rfl
    ·rcases yai.1 hd with h|h
     ·exact heA.2.1 d h
     ·rw [(ybp.1 h).2];simp [AV.pure]
    ·rcases yai.1 hd with h|h
     ·exact heA.2.2 d h
     ·rw [(ybp.1 h).2];simp [AV.one]
   have hYt:Y.take A.length=A:=by rw [hY,ycj];rfl
   rw [←hY]
   refine za5 (pre++ [.row 186 2 Y false]) (.sub pre.length els.length 2 0 A.length) (by simp [zaE]) tl (by simp) (by simp) (by simp [AV.under]) (fun i e he'=> ?_) ⟨Y,rfl,by rw [hY];simp;omega,hYe,.inr ⟨rfl,_,hY⟩⟩
   rcases ycv i pre.length with h|h|h
   ·rw [yar h] at he'⊢
    exact .inl he'
   ·subst h
    simp at he'
    subst he'
    exact .inr (za7 hYe.2.1)
   ·rw [yaj (by omega)] at he'
    have:=(yaa.1 he').1
    simp at this
    omega
end Go.Proofs.YtdbhocoeolhjhaaGreatDoor
end
section
set_option maxHeartbeats 2000000
namespace Go.Proofs.YtdbhocoeolhjhaaGreatDoor
open Go.Abs Go.RowKit
variable {G:Globs}
theorem z4m {σ:zac} {jd T2:Nat} {c:List AV} (hj:σ[jd]? =some (.row T2 2 [c] false)) (hc:c.length=2) (hp:∀x∈c,x.pure=true):
  ACalls Tryz.prog zbT [.nils,.int .i64 0,.row jd 1] σ (fun r σ'=>r=.row σ.length 1∧σ'=σ++ [.row 101 2 [c] false]):=by
 refine zag hmix zbM rfl ?_
 simp [zaI,hj,view]
 refine zhS false [c] (by simp [view,hj]) (by decide) (by simp [hc]) (fun h=>by cases h) (by simp) (by simp) ?_
 simp
 refine za5 (σ++ [.row 101 2 [c] false]) (.row σ.length 1) (by simp [zaE]) [] (by simp) (by simp) (by simp [AV.under]) (fun i e he'=> ?_) ⟨rfl,rfl⟩
 rcases ycv i σ.length with h|h|h
 ·rw [yar h] at he'
  exact .inl he'
 ·subst h
  simp at he'
  subst he'
  exact .inr (za7 (by simpa using hp))
 ·rw [yaj (by omega)] at he'
  have:=(yaa.1 he').1
  simp at this
  omega
theorem z2h {σ:zac} {id jd T2:Nat} {els:List (List AV)} {c:List AV} (he:σ[id]? =some (.row 101 2 els false)) (hj:σ[jd]? =some (.row T2 2 [c] false)) (hel:Els 2 els) (hc:c.length=2) (hp:∀x∈c,x.pure=true) (hbig:els.length≤100000000):
  ACalls Tryz.prog zbT [.row id els.length,.int .i64 els.length,.row jd 1] σ (fun r σ'=>r=.row id (els.length+1)∧σ'=σ.set id (.row 101 2 (els++ [c]) false)):=by
 refine zag hmix zbM rfl ?_
 have hid:=(yaa.1 he).1
 obtain ⟨ha,hb⟩:=yaa.1 he
 by_cases hpos:0<els.length
 ·simp [zaI,hj,he,hb,hid,view,hpos]
  refine zaK els [c] false he (by simp [view,hj]) (by decide) (by simp [hc]) (fun h=>by cases h) rfl (by simp;omega) (by simp;omega) ?_
  simp
  refine za5 (σ.set id (.row 101 2 (els++ [c]) false)) (.row id (els.length+1)) (by simp [zaE]) [] (by simp) (by simp) (by simp [AV.under,hid]) (fun i e he'=> ?_) (by simp)
  by_cases hi:i=id
  ·subst hi
   rw [ybj hid] at he'
   simp only [yab] at he'
   subst he'
   refine .inr (za7 fun d hd=> ?_)
   rcases yai.1 hd with h|h
   ·exact hel.2.1 d h
   ·simp at h;subst h;exact hp
  ·rw [yba (Ne.symm hi)] at he'
   exact .inl he'
 ·have h0:els= []:=yap (by omega)
  subst h0
  simp [zaI,hj,he,hb,hid,view]
  refine zaK [] [c] false he (by simp [view,hj]) (by decide) (by simp [hc]) (fun h=>by cases h) rfl (by simp) (by simp) ?_
  simp
  refine za5 (σ.set id (.row 101 2 (([]:List (List AV))++ [c]) false)) (.row id (([]:List (List AV)).length+1)) (by simp [zaE]) [] (by simp) (by simp) (by simp [AV.under,hid]) (fun i e he'=> ?_) (by simp)
  by_cases hi:i=id
  ·subst hi
   rw [ybj hid] at he'
   simp only [yab] at he'
   subst he'
   refine .inr (za7 fun d hd=> ?_)
   rcases yai.1 hd with h|h
   ·exact hel.2.1 d h
   ·simp at h;subst h;exact hp
  ·rw [yba (Ne.symm hi)] at he'
   exact .inl he'
theorem z3q {σ:zac} {jd T2:Nat} {c:List AV} (hj:σ[jd]? =some (.row T2 11 [c] false)) (hc:c.length=11) (hp:∀x∈c,x.pure=true):
  ACalls Tryz.prog zb6 [.nils,.int .i64 0,.row jd 1] σ (fun r σ'=>r=.row σ.length 1∧σ'=σ++ [.row 57 11 [c] false]):=by
 refine zag hmix zb3 rfl ?_
 simp [zaD,hj,view]
 refine zhS false [c] (by simp [view,hj]) (by decide) (by simp [hc]) (fun h=>by cases h) (by simp) (by simp) ?_
 simp
 refine za5 (σ++ [.row 57 11 [c] false]) (.row σ.length 1) (by simp [zaE]) [] (by simp) (by simp) (by simp [AV.under]) (fun i e he'=> ?_) ⟨rfl,rfl⟩
 rcases ycv i σ.length with h|h|h
 ·rw [yar h] at he'
  exact .inl he'
 ·subst h
  simp at he'
  subst he'
  exact .inr (za7 (by simpa using hp))
 ·rw [yaj (by omega)] at he'
  have:=(yaa.1 he').1
  simp at this
  omega
theorem z3f {σ:zac} {id jd T2:Nat} {els:List (List AV)} {c:List AV} (he:σ[id]? =some (.row 57 11 els false)) (hj:σ[jd]? =some (.row T2 11 [c] false)) (hel:Els 11 els) (hc:c.length=11) (hp:∀x∈c,x.pure=true) (hbig:els.length≤100000000):
  ACalls Tryz.prog zb6 [.row id els.length,.int .i64 els.length,.row jd 1] σ (fun r σ'=>r=.row id (els.length+1)∧σ'=σ.set id (.row 57 11 (els++ [c]) false)):=by
 refine zag hmix zb3 rfl ?_
 have hid:=(yaa.1 he).1
 obtain ⟨ha,hb⟩:=yaa.1 he
 by_cases hpos:0<els.length
 ·simp [zaD,hj,he,hb,hid,view,hpos]
  refine zaK els [c] false he (by simp [view,hj]) (by decide) (by simp [hc]) (fun h=>by cases h) rfl (by simp;omega) (by simp;omega) ?_
  simp
  refine za5 (σ.set id (.row 57 11 (els++ [c]) false)) (.row id (els.length+1)) (by simp [zaE]) [] (by simp) (by simp) (by simp [AV.under,hid]) (fun i e he'=> ?_) (by simp)
  by_cases hi:i=id
  ·subst hi
   rw [ybj hid] at he'
   simp only [yab] at he'
   subst he'
   refine .inr (za7 fun d hd=> ?_)
   rcases yai.1 hd with h|h
   ·exact hel.2.1 d h
   ·simp at h;subst h;exact hp
  ·rw [yba (Ne.symm hi)] at he'
   exact .inl he'
 ·have h0:els= []:=yap (by omega)
  subst h0
  simp [zaD,hj,he,hb,hid,view]
  refine zaK [] [c] false he (by simp [view,hj]) (by decide) (by simp [hc]) (fun h=>by cases h) rfl (by simp) (by simp) ?_
  simp
  refine za5 (σ.set id (.row 57 11 (([]:List (List AV))++ [c]) false)) (.row id (([]:List (List AV)).length+1)) (by simp [zaE]) [] (by simp) (by simp) (by simp [AV.under,hid]) (fun i e he'=> ?_) (by simp)
  by_cases hi:i=id
  ·subst hi
   rw [ybj hid] at he'
   simp only [yab] at he'
   subst he'
   refine .inr (za7 fun d hd=> ?_)
   rcases yai.1 hd with h|h
   ·exact hel.2.1 d h
   ·simp at h;subst h;exact hp
  ·rw [yba (Ne.symm hi)] at he'
   exact .inl he'
end Go.Proofs.YtdbhocoeolhjhaaGreatDoor
end
section
namespace Go.Sf
abbrev Txt:=List UInt8
theorem zc8 (a:Txt):¬a<a:=List.lt_irrefl a
theorem z6l (x y:UInt8) (h1:¬x<y) (h2:¬y<x):x=y:=by
 apply UInt8.toNat_inj.1
 have h3:¬x.toNat<y.toNat:=fun h=>h1 (UInt8.lt_iff_toNat_lt.2 h)
 have h4:¬y.toNat<x.toNat:=fun h=>h2 (UInt8.lt_iff_toNat_lt.2 h)
 omega
theorem z62 {x y z:UInt8} (h1:x<y) (h2:y<z):x<z:=UInt8.lt_iff_toNat_lt.2 (by
 have:=UInt8.lt_iff_toNat_lt.1 h1
 have:=UInt8.lt_iff_toNat_lt.1 h2
 omega)
theorem z88 (x:UInt8):¬x<x:=fun h=>by have:=UInt8.lt_iff_toNat_lt.1 h;omega
theorem zw3:∀{a b c:Txt},a<b→b<c→a<c
 |_,[],_,h,_=>by simp at h
 |_,_,[],_,h=>by simp at h
 | [],_,z::c,_,_=>by simp
 |x::a,y::b,z::c,h1,h2=>by
  rw [ydd] at h1 h2⊢
  rcases h1 with h1|⟨rfl,h1⟩<;>rcases h2 with h2|⟨rfl,h2⟩
  ·exact .inl (z62 h1 h2)
  ·exact .inl h1
  ·exact .inl h2
  ·exact .inr ⟨rfl,zw3 h1 h2⟩
theorem z4U:∀(a b:Txt),¬a<b→¬b<a→a=b
 | [],[],_,_=>rfl
 | [],_::_,h,_=>absurd (by simp) h
 |_::_,[],_,h=>absurd (by simp) h
 |x::a,y::b,h1,h2=>by
  rw [ydd] at h1 h2
  have hxy:x=y:=z6l x y (fun h=>h1 (.inl h)) (fun h=>h2 (.inl h))
  subst hxy
  rw [z4U a b (fun h=>h1 (.inr ⟨rfl,h⟩)) (fun h=>h2 (.inr ⟨rfl,h⟩))]
section
variable {α:Type} (key:α→Txt)
def Srt (l:List α):Prop:=l.Pairwise fun a b=>key a<key b
def posK:List α→Txt→Nat
 | [],_=>0
 |x::l,s=>if key x<s then posK l s+1 else 0
def hasK (l:List α) (s:Txt):Prop:=∃x∈l,key x=s
instance (l:List α) (s:Txt):Decidable (hasK key l s):=by unfold hasK;exact inferInstance
def insK (l:List α) (x:α):List α:=l.take (posK key l (key x))++x::l.drop (posK key l (key x))
def delK (l:List α) (s:Txt):List α:=l.take (posK key l s)++l.drop (posK key l s+1)
variable {key}
theorem zk4:∀(l:List α) (s:Txt),posK key l s≤l.length
 | [],_=>yaq _
 |x::l,s=>by
  unfold posK
  have:=zk4 l s
  split<;>simp<;>omega
theorem zpq:∀{l:List α} {s:Txt} {i:Nat} {x:α},i<posK key l s→l[i]? =some x→key x<s
 | [],_,_,_,h,_=>by simp [posK] at h
 |y::l,s,i,x,h,hx=>by
  unfold posK at h
  split at h
  ·rename_i hy
   cases i with
   |zero=>simp at hx;subst hx;exact hy
   |succ i=>exact zpq (l:=l) (i:=i) (by omega) (by simpa using hx)
  ·omega
theorem zpd:∀{l:List α} {s:Txt} {i:Nat} {x:α},Srt key l→posK key l s≤i→l[i]? =some x→¬key x<s
 | [],_,_,_,_,_,hx=>by simp at hx
 |y::l,s,i,x,hs,h,hx=>by
  rw [Srt,yd7] at hs
  unfold posK at h
  split at h
  ·cases i with
   |zero=>omega
   |succ i=>exact zpd (l:=l) (i:=i) hs.2 (by omega) (by simpa using hx)
  ·rename_i hy
   cases i with
   |zero=>simp at hx;subst hx;exact hy
   |succ i=>
    have hm:x∈l:=yaf (by simpa using hx)
    exact fun h'=>hy (zw3 (hs.1 x hm) h')
theorem zd9 {l:List α} {s:Txt} (hs:Srt key l):hasK key l s↔∃x,l[posK key l s]? =some x∧key x=s:=by
 constructor
 ·rintro ⟨x,hx,rfl⟩
  obtain ⟨i,hi,rfl⟩:=yaw.1 hx
  have hg:l[i]? =some l[i]:=yad hi
  have h1:posK key l (key l[i])≤i:=Classical.byContradiction fun h=>zc8 (key l[i]) (zpq (key:=key) (l:=l) (s:=key l[i]) (i:=i) (by omega) hg)
  rcases Nat.lt_or_eq_of_le h1 with h2|h2
  ·obtain ⟨y,hy⟩:∃y,l[posK key l (key l[i])]? =some y:=⟨l[posK key l (key l[i])]'(by omega),yad (by omega)⟩
   have h3:=zpd hs (yaq _) hy
   have h4:key y<key l[i]:=by
    obtain ⟨hj,rfl⟩:=yaa.1 hy
    exact ybg.1 hs _ _ hj hi h2
   exact absurd h4 h3
  ·exact ⟨l[i],by rw [h2];exact hg,rfl⟩
 ·rintro ⟨x,hx,rfl⟩
  exact ⟨x,yaf hx,rfl⟩
theorem zcp {l:List α} {x y:α}:y∈insK key l x↔y=x∨y∈l:=by
 unfold insK
 rw [yai,ybb]
 constructor
 ·rintro (h|rfl|h)
  ·exact .inr (yak h)
  ·exact .inl rfl
  ·exact .inr (yau h)
 ·rintro (rfl|h)
  ·exact .inr (.inl rfl)
  ·rw [←ya9 (posK key l (key x)) l,yai] at h
   rcases h with h|h
   ·exact .inl h
   ·exact .inr (.inr h)
theorem zjf (l:List α) (x:α):(insK key l x).length=l.length+1:=by
 have:=zk4 (key:=key) l (key x)
 simp [insK];omega
theorem zh8 {l:List α} {x:α} (hs:Srt key l) (hn:¬hasK key l (key x)):Srt key (insK key l x):=by
 unfold Srt insK
 have hs':Srt key (l.take (posK key l (key x))++l.drop (posK key l (key x))):=by rw [ya9];exact hs
 rw [Srt,ydv] at hs'
 rw [ydv,yd7]
 refine ⟨hs'.1,⟨fun y hy=> ?_,hs'.2.1⟩,fun y hy z hz=> ?_⟩
 ·obtain ⟨i,hi,rfl⟩:=yaw.1 hy
  rw [ydj]
  rw [ya2] at hi
  have hg:l[posK key l (key x)+i]? =some l[posK key l (key x)+i]:=yad (by omega)
  have h1:=zpd hs (Nat.le_add_right _ i) hg
  refine Classical.byContradiction fun h2=> ?_
  have:=z4U _ _ h1 h2
  exact hn ⟨_,yaf hg,this⟩
 ·have hyx:key y<key x:=by
   obtain ⟨i,hi,rfl⟩:=yaw.1 hy
   rw [yb7]
   rw [yan] at hi
   exact zpq (l:=l) (i:=i) (by omega) (yad (by omega))
  rcases ybb.1 hz with rfl|hz
  ·exact hyx
  ·exact hs'.2.2 y hy z hz
theorem ziZ (l:List α) (s:Txt):(delK key l s).Sublist l:=by
 have:=ya9 (posK key l s) l
 unfold delK
 conv=>rhs;rw [←this]
 refine List.Sublist.append (List.Sublist.refl _) ?_
 rw [←List.drop_drop]
 exact List.drop_sublist _ _
theorem zfr {l:List α} {s:Txt} (hs:Srt key l):Srt key (delK key l s):=hs.sublist (ziZ l s)
theorem zxl {l:List α} {s:Txt} (hs:Srt key l) (h:hasK key l s):(delK key l s).length+1=l.length:=by
 obtain ⟨x,hx,_⟩:=(zd9 hs).1 h
 have:=(yaa.1 hx).1
 simp [delK];omega
theorem zrn {l:List α} (hs:Srt key l) {x y:α} (hx:x∈l) (hy:y∈l) (h:key x=key y):x=y:=by
 obtain ⟨i,hi,rfl⟩:=yaw.1 hx
 obtain ⟨j,hj,rfl⟩:=yaw.1 hy
 rcases ycv i j with h1|h1|h1
 ·have:=ybg.1 hs _ _ hi hj h1
  rw [h] at this;exact absurd this (zc8 _)
 ·subst h1;rfl
 ·have:=ybg.1 hs _ _ hj hi h1
  rw [h] at this;exact absurd this (zc8 _)
theorem zeJ {l:List α} {s:Txt} {y:α} (hs:Srt key l) (h:hasK key l s):y∈delK key l s↔y∈l∧key y≠s:=by
 obtain ⟨x,hx,hk⟩:=(zd9 hs).1 h
 have hlt:=(yaa.1 hx).1
 have e:l=l.take (posK key l s)++x::l.drop (posK key l s+1):=by
  conv=>lhs;rw [←ya9 (posK key l s) l]
  rw [ybw hlt,(yaa.1 hx).2]
 have hs2:Srt key (l.take (posK key l s)++x::l.drop (posK key l s+1)):=by rw [←e];exact hs
 rw [Srt,ydv,yd7] at hs2
 have hl:y∈l↔y∈l.take (posK key l s)∨y=x∨y∈l.drop (posK key l s+1):=by
  conv=>lhs;rw [e]
  rw [yai,ybb]
 unfold delK
 rw [yai,hl]
 constructor
 ·rintro (h1|h1)
  ·refine ⟨.inl h1,fun h2=> ?_⟩
   have:=hs2.2.2 y h1 x (by simp)
   rw [h2,hk] at this;exact zc8 _ this
  ·refine ⟨.inr (.inr h1),fun h2=> ?_⟩
   have:=hs2.2.1.1 y h1
   rw [h2,hk] at this;exact zc8 _ this
 ·rintro ⟨h1|rfl|h1,h2⟩
  ·exact .inl h1
  ·exact absurd hk h2
  ·exact .inr h1
end
structure NameM where
 name:Txt
 id:Nat
 deriving DecidableEq
structure MoveM where
 kind:Nat
 name:Txt
 dst:Txt
 id:Nat
 deriving DecidableEq
structure FileM where
 id:Nat
 bytes:Txt
 sure:Nat
 deriving DecidableEq
structure DiskM where
 quota:Nat
 files:List FileM
 names:List NameM
 kept:List NameM
 moves:List MoveM
 next:Nat
 deriving DecidableEq
abbrev kN:NameM→Txt:=NameM.name
def okS (s:Txt):Prop:=s≠ []∧s.length≤96
instance (s:Txt):Decidable (okS s):=by unfold okS;exact inferInstance
def zfZ (l:List NameM) (s:Txt):List NameM:=if hasK kN l s then delK kN l s else l
def idOf:List NameM→Txt→Nat
 | [],_=>0
 |n::l,s=>if n.name=s then n.id else idOf l s
def zft (l:List NameM) (m:MoveM):Option (List NameM):=
 if okS m.name then
  if m.kind=1 then (if hasK kN l m.name∨m.dst≠ []∨m.id<1 then none else some (insK kN l ⟨m.name,m.id⟩))
  else if m.kind=2 then (if¬hasK kN l m.name∨m.dst≠ []∨m.id≠0 then none else some (delK kN l m.name))
  else if m.kind=3 then (if¬hasK kN l m.name∨¬okS m.dst∨m.dst=m.name∨m.id≠0 then none else some (insK kN (zfZ (delK kN l m.name) m.dst) ⟨m.dst,idOf l m.name⟩))
  else none
 else none
def replay:List NameM→List MoveM→Option (List NameM)
 |l,[]=>some l
 |l,m::ms=>(zft l m).bind fun l'=>replay l' ms
def zbL (ms:List MoveM):List Nat:=(ms.filter fun m=>m.kind=1).map (·.id)
def idsM (d:DiskM):List Nat:=d.kept.map (·.id)++zbL d.moves
def zbX (fs:List FileM):Nat:=(fs.map fun f=>f.bytes.length).sum
def zaC (d:DiskM):Nat:=zbX d.files
structure Listed (l:List NameM):Prop where
 srt:Srt kN l
 ok:∀n∈l,okS n.name
 ids:(l.map (·.id)).Nodup
def Filed (next:Nat) (fs:List FileM):Prop:=(fs.Pairwise fun a b=>a.id<b.id)∧∀f∈fs,1≤f.id∧f.id<next∧f.sure≤f.bytes.length
structure RightM (d:DiskM):Prop where
 quota:d.quota≤1073741824
 next1:1≤d.next
 next2:d.next≤1099511627776
 nfiles:d.files.length≤256
 kept:Listed d.kept
 names:Listed d.names
 filed:Filed d.next d.files
 replay:replay d.kept d.moves=some d.names
 ids:(idsM d).Nodup
 same:∀i,i∈idsM d↔∃f∈d.files,f.id=i
 nids:∀n∈d.names,n.id∈idsM d
 used:zaC d≤d.quota
theorem Filed.ids {next:Nat} {fs:List FileM} (h:Filed next fs):(fs.map (·.id)).Nodup:=by
 rw [yb1,ycm]
 exact h.1.imp fun hab=>by omega
theorem RightM.count {d:DiskM} (h:RightM d):(idsM d).length=d.files.length:=by
 have:=((List.perm_ext_iff_of_nodup h.ids h.filed.ids).2 fun i=>by rw [h.same i];simp).length_eq
 simpa using this
theorem RightM.nkept {d:DiskM} (h:RightM d):d.kept.length≤256:=by
 have h1:=h.count
 have h2:=h.nfiles
 simp only [idsM,yag,yc0] at h1
 omega
theorem z26 {l l':List NameM} {m:MoveM} (hs:Srt kN l) (h:zft l m=some l'):Srt kN l':=by
 unfold zft at h
 split at h
 case isFalse=>cases h
 split at h
 ·split at h
  ·cases h
  ·rename_i hc
   simp only [yab] at h;subst h
   exact zh8 hs (fun hh=>hc (.inl hh))
 split at h
 ·split at h
  ·cases h
  ·simp only [yab] at h;subst h
   exact zfr hs
 split at h
 ·split at h
  ·cases h
  ·simp only [yab] at h;subst h
   refine zh8 ?_ ?_
   ·unfold zfZ;split
    ·exact zfr (zfr hs)
    ·exact zfr hs
   ·unfold zfZ;split
    ·rename_i hh
     rintro ⟨x,hx,hk⟩
     exact ((zeJ (zfr hs) hh).1 hx).2 hk
    ·assumption
 ·cases h
theorem z47 {l l':List NameM} {m:MoveM} (hs:Srt kN l) (h:zft l m=some l'):l'.length≤l.length+1:=by
 have hd:∀(l:List NameM) s,(delK kN l s).length≤l.length:=fun l s=>(ziZ l s).length_le
 unfold zft at h
 split at h
 case isFalse=>cases h
 split at h
 ·split at h
  ·cases h
  ·simp only [yab] at h;subst h;rw [zjf];exact yaq _
 split at h
 ·split at h
  ·cases h
  ·simp only [yab] at h;subst h;have:=hd l m.name;omega
 split at h
 ·split at h
  ·cases h
  ·simp only [yab] at h;subst h;rw [zjf]
   have h1:=hd l m.name
   have h2:=hd (delK kN l m.name) m.dst
   unfold zfZ;split<;>omega
 ·cases h
end Go.Sf
end
section
set_option maxHeartbeats 2000000
namespace Go.Sf
open Go.Abs
def zdd (n:NameM):List AV:= [.str n.name,.int .i64 n.id]
def zay (l:List NameM):List (List AV):=l.map zdd
def zcW (m:MoveM):List AV:= [.int .i64 m.kind,.str m.name,.str m.dst,.int .i64 m.id]
def zbx (l:List MoveM):List (List AV):=l.map zcW
def zcv (f:FileM):List AV:= [.int .i64 f.id,.lst (byteEls f.bytes),.int .i64 f.sure]
def zaF (l:List FileM):List (List AV):=l.map zcv
def zak (d:DiskM):List AV:= [.int .i64 d.quota,.lst (zaF d.files),.lst (zay d.names),.lst (zay d.kept),.lst (zbx d.moves),.int .i64 d.next]
theorem zaA (l:List NameM):(zay l).length=l.length:=by simp [zay]
theorem zre (l:List MoveM):(zbx l).length=l.length:=by simp [zbx]
theorem zcr (l:List FileM):(zaF l).length=l.length:=by simp [zaF]
theorem ze9 (l:List NameM):Els 2 (zay l):=by
 refine ⟨fun c hc=> ?_,fun c hc=> ?_,fun c hc=> ?_⟩<;>obtain ⟨n,_,rfl⟩:=yav.1 hc<;>simp [zdd,AV.pure,AV.one]
theorem zrd (l:List MoveM):Els 4 (zbx l):=by
 refine ⟨fun c hc=> ?_,fun c hc=> ?_,fun c hc=> ?_⟩<;>obtain ⟨n,_,rfl⟩:=yav.1 hc<;>simp [zcW,AV.pure,AV.one]
theorem zf1 (l:List FileM):Els 3 (zaF l):=by
 refine ⟨fun c hc=> ?_,fun c hc=> ?_,fun c hc=> ?_⟩<;>obtain ⟨n,_,rfl⟩:=yav.1 hc<;>simp [zcv,AV.pure,AV.one]
theorem zcU {l:List NameM} {i:Nat} {n:NameM} (h:l[i]? =some n):(zay l)[i]? =some (zdd n):=by simp [zay,h]
theorem zxD {l:List MoveM} {i:Nat} {n:MoveM} (h:l[i]? =some n):(zbx l)[i]? =some (zcW n):=by simp [zbx,h]
theorem zcV {l:List FileM} {i:Nat} {n:FileM} (h:l[i]? =some n):(zaF l)[i]? =some (zcv n):=by simp [zaF,h]
theorem zyj {l:List NameM} {i:Nat} {c:List AV} (h:(zay l)[i]? =some c):∃n,l[i]? =some n∧c=zdd n:=by
 simp only [zay,yb8,yae] at h
 obtain ⟨n,h1,rfl⟩:=h;exact ⟨n,h1,rfl⟩
theorem zyn {l:List FileM} {i:Nat} {c:List AV} (h:(zaF l)[i]? =some c):∃n,l[i]? =some n∧c=zcv n:=by
 simp only [zaF,yb8,yae] at h
 obtain ⟨n,h1,rfl⟩:=h;exact ⟨n,h1,rfl⟩
theorem zoW (σ:zac) (m k:Nat) (l:List NameM):((zay l).mapM fun (c:List AV)=>c.mapM (fz σ m k))=some (zay l):=zdg (ze9 l).2.1 (fun c hc=>by obtain ⟨n,_,rfl⟩:=yav.1 hc;simp [zdd])
theorem z1w (σ:zac) (m k:Nat) (l:List MoveM):((zbx l).mapM fun (c:List AV)=>c.mapM (fz σ m k))=some (zbx l):=zdg (zrd l).2.1 (fun c hc=>by obtain ⟨n,_,rfl⟩:=yav.1 hc;simp [zcW])
theorem zs0 (σ:zac) (m k:Nat) (l:List FileM):((zaF l).mapM fun (c:List AV)=>c.mapM (fz σ m k))=some (zaF l):=zdg (zf1 l).2.1 (fun c hc=>by obtain ⟨n,_,rfl⟩:=yav.1 hc;simp [zcv])
theorem zoE (l:List NameM) (i:Nat):(zay l).take i=zay (l.take i):=by simp [zay]
theorem zp7 (l:List NameM) (i:Nat):(zay l).drop i=zay (l.drop i):=by simp [zay]
theorem zqw (a b:List NameM):zay (a++b)=zay a++zay b:=by simp [zay]
theorem zvd (a:NameM) (b:List NameM):zay (a::b)=zdd a::zay b:=by simp [zay]
theorem zq2 (l:List NameM) (x:NameM):(zay l).take (posK kN l x.name)++zdd x::(zay l).drop (posK kN l x.name)=zay (insK kN l x):=by
 rw [zoE,zp7,insK,zqw,zvd]
theorem zyr (l:List NameM) (s:Txt):(zay l).take (posK kN l s)++(zay l).drop (posK kN l s+1)=zay (delK kN l s):=by
 rw [zoE,zp7,delK,zqw]
theorem zoQ:∀(a b:Txt),Lib.compareBytes a b<0↔a<b
 | [],[]=>by simp [Lib.compareBytes]
 | [],_::_=>by simp [Lib.compareBytes]
 |_::_,[]=>by simp [Lib.compareBytes]
 |x::a,y::b=>by
  have ih:=zoQ a b
  simp only [Lib.compareBytes]
  by_cases h1:x<y
  ·simp [h1,ydd]
  ·by_cases h2:y<x
   ·have hne:x≠y:=fun e=>by subst e;exact h1 h2
    simp [h1,h2,hne,ydd]
   ·obtain rfl:=z6l x y h1 h2
    simp [h1,ydd]
    simpa using ih
theorem zl6:∀(a b:Txt),Lib.compareBytes a b=0↔a=b
 | [],[]=>by simp [Lib.compareBytes]
 | [],_::_=>by simp [Lib.compareBytes]
 |_::_,[]=>by simp [Lib.compareBytes]
 |x::a,y::b=>by
  have ih:=zl6 a b
  simp only [Lib.compareBytes]
  by_cases h1:x<y
  ·have hne:x≠y:=fun e=>by subst e;exact z88 x h1
   simp [h1,hne]
  ·by_cases h2:y<x
   ·have hne:x≠y:=fun e=>by subst e;exact h1 h2
    simp [h1,h2,hne]
   ·obtain rfl:=z6l x y h1 h2
    simp [h1,ih]
theorem zxm:∀(a b:Txt),Op.bytesLess a b=decide (a<b)
 |_,[]=>by unfold Op.bytesLess;simp
 | [],_::_=>by simp [Op.bytesLess]
 |x::a,y::b=>by
  have ih:=zxm a b
  simp [Op.bytesLess,ih,ydd]
  congr 1
end Go.Sf
namespace Go.Proofs.YtdbhocoeolhjhaaGreatDoor
open Go.Abs Go.RowKit Go.Sf
variable {G:Globs}
theorem zql (s p:Txt):PCalls Tryz.prog zm1 [.str s,.str p] (fun r=>r=.int .i64 (Lib.compareBytes s p)):=by
 refine zsd fun base κ Im w v u hs hv hu=> ?_
 have e0:=hv.str_inv
 have e1:=hu.str_inv
 subst e0;subst e1
 refine (Tryz.strings_Compare ⟨s.toArray⟩ ⟨p.toArray⟩ w).mono ?_
 rintro e w' ⟨rfl,rfl⟩
 exact ⟨_,_,rfl,rfl,Go.RowKit.Below.refl _ _,fun Im'=> .int _ _⟩
theorem zrZ (x y:Int):PCalls Tryz.prog zm5 [.int .i64 x,.int .i64 y] (fun r=>r=.int .i64 (Lib.compareInt x y)):=by
 refine zsd fun base κ Im w v u hs hv hu=> ?_
 have e0:=hv.int_inv
 have e1:=hu.int_inv
 subst e0;subst e1
 refine (Tryz.cmp_Compare_int x y w).mono ?_
 rintro e w' ⟨rfl,rfl⟩
 exact ⟨_,_,rfl,rfl,Go.RowKit.Below.refl _ _,fun Im'=> .int _ _⟩
theorem zvA (i:Nat) (hi:i<100):PCalls Tryz.prog zpV [.int .i64 i] (fun r=>r=.str (Lib.decDigits i)):=by
 refine z1x fun base κ Im w v hs hv=> ?_
 have e0:=hv.int_inv
 subst e0
 refine (Tryz.strconv_Itoa_small i hi w).mono ?_
 rintro e w' ⟨rfl,rfl⟩
 exact ⟨_,_,rfl,rfl,Go.RowKit.Below.refl _ _,fun Im'=> .str _⟩
theorem z0S (s p:Txt):PCalls Tryz.prog zki [.str s,.str p] (fun r=>r=.bool (Lib.hasPrefix s p)):=by
 refine zsd fun base κ Im w v u hs hv hu=> ?_
 have e0:=hv.str_inv
 have e1:=hu.str_inv
 subst e0;subst e1
 refine (Tryz.strings_HasPrefix ⟨s.toArray⟩ ⟨p.toArray⟩ w).mono ?_
 rintro e w' ⟨rfl,rfl⟩
 exact ⟨_,_,rfl,rfl,Go.RowKit.Below.refl _ _,fun Im'=> .bool _⟩
theorem ziY (s:Txt) (hl:s.length≤1000000000):PCalls Tryz.prog ztx [.str s] (fun r=>r=.bool (decide (okS s))):=by
 refine zaa hmix zta rfl ?_
 by_cases h0:s= []
 ·subst h0
  simp [zi6,okS]
 ·simp [zi6,h0,okS]
  omega
theorem zx4 (n:NameM) (s:Txt):PCalls Tryz.prog zjy [.agg (zdd n),.str s] (fun r=>r=.int .i64 (Lib.compareBytes n.name s)):=by
 refine zaa hmix zpA rfl ?_
 simp [zj3,zdd]
 refine zad (zql n.name s) (by simp) ?_
 rintro r rfl
 simp
theorem ziy (l:List NameM) (s:Txt) (hs:Srt kN l) (hl:l.length≤1000000000):PCalls Tryz.prog zsW [.lst (zay l),.str s] (fun r=>r=.tup [.int .i64 (posK kN l s),.bool (decide (hasK kN l s))]):=by
 refine zaa hmix ztF rfl ?_
 simp [znn]
 have hp:=zk4 (key:=kN) l s
 have kB:=bsNm (G:=G) (zay l) (ze9 l) (by rw [zaA];exact hl) (.str s) (by simp [AV.pure]) zjy zpD (posK kN l s) (by rw [zaA];exact hp)
  (fun i=>match l[i]? with|some n=>Lib.compareBytes n.name s|none=>0)
  (fun i c hc=>by
   obtain ⟨n,hn,rfl⟩:=zyj hc
   simp only [hn]
   exact zx4 n s)
  (fun i hi=>by
   obtain ⟨n,hn⟩:∃n,l[i]? =some n:=⟨l[i]'(by omega),yad (by omega)⟩
   simp only [hn]
   exact (zoQ _ _).2 (zpq hi hn))
  (fun i h1 h2=>by
   rw [zaA] at h2
   obtain ⟨n,hn⟩:∃n,l[i]? =some n:=⟨l[i]'h2,yad h2⟩
   simp only [hn]
   have:=zpd hs h1 hn
   exact Int.not_lt.1 fun h=>this ((zoQ _ _).1 h))
 refine zad kB (by simp [AV.pure]) ?_
 rintro r rfl
 simp
 rw [zaA]
 by_cases hh:hasK kN l s
 ·obtain ⟨n,hn,hk⟩:=(zd9 hs).1 hh
  have:=(yaa.1 hn).1
  have hz:=(zl6 n.name s).2 hk
  obtain ⟨hx1,hx2⟩:=yaa.1 hn
  simp [hh,hn,this,hz,hx2]
 ·by_cases hlt:posK kN l s<l.length
  ·obtain ⟨n,hn⟩:∃n,l[posK kN l s]? =some n:=⟨l[posK kN l s]'hlt,yad hlt⟩
   have hne:n.name≠s:=fun e=>hh ((zd9 hs).2 ⟨n,hn,e⟩)
   have:¬Lib.compareBytes n.name s=0:=fun e=>hne ((zl6 _ _).1 e)
   obtain ⟨hx1,hx2⟩:=yaa.1 hn
   simp [hh,hn,hlt,this,hx2]
  ·simp [hh,hlt]
theorem zwD (l:List NameM) (s:Txt) (id:Nat) (hs:Srt kN l) (hl:l.length≤1000000):PCalls Tryz.prog zu9 [.lst (zay l),.str s,.int .i64 id] (fun r=>r=.lst (zay (insK kN l ⟨s,id⟩))):=by
 refine zaa hmix zt2 rfl ?_
 simp [znD]
 refine zad (ziy l s hs (by omega)) (by simp) ?_
 rintro r rfl
 simp
 refine zar (zzk (zay l) (ze9 l) (by rw [zaA];omega)) ?_
 have hp:=zk4 (key:=kN) l s
 rintro r σ (⟨h0,rfl,rfl⟩|⟨rfl,rfl⟩)
 ·have h0':l= []:=by simpa [zay] using h0
  subst h0'
  simp
  have e0:posK kN [] s=0:=rfl
  rw [e0]
  refine zar (z4m (jd:=0) (T2:=101) (c:= [.str s,.int .i64 id]) (by simp) rfl (by simp [AV.pure])) ?_
  rintro r σ ⟨rfl,rfl⟩
  simp [insK,posK,zay,zdd]
 ·simp
  by_cases hlt:posK kN l s<l.length
  ·refine zar (z41 (id:=0) (jd:=1) (T2:=101) (els:=zay l) (c:= [.str s,.int .i64 id]) (i:=posK kN l s) (by simp) (by simp) (by omega) (by rw [zaA];exact hlt) (by rw [zaA];omega)) ?_
   rintro r σ ⟨rfl,rfl⟩
   have hc:=zq2 l ⟨s,id⟩
   simp only [zdd] at hc
   rw [hc]
   have hq:(zay l).length+1=(zay (insK kN l ⟨s,id⟩)).length:=by rw [zaA,zaA,zjf]
   rw [hq]
   simp [zoW]
  ·have he:posK kN l s=l.length:=by omega
   rw [he]
   have hn:=zaA l
   rw [←hn]
   refine zar (z2h (id:=0) (jd:=1) (T2:=101) (els:=zay l) (c:= [.str s,.int .i64 id]) (by simp) (by simp) (ze9 l) rfl (by simp [AV.pure]) (by rw [zaA];omega)) ?_
   rintro r σ ⟨rfl,rfl⟩
   have hc:=zq2 l ⟨s,id⟩
   rw [he,←hn,ya1,yd2] at hc
   simp only [zdd] at hc
   rw [hc]
   have hq:(zay l).length+1=(zay (insK kN l ⟨s,id⟩)).length:=by rw [zaA,zaA,zjf]
   rw [hq]
   simp [zoW]
end Go.Proofs.YtdbhocoeolhjhaaGreatDoor
end
section
namespace Go.Num
theorem z5b {a b u v q r B:Nat} (hr:q*a+r=u):q*(a*B+b)+(B*r+v)=u*B+v+q*b:=by
 subst hr
 rw [ydz,ya6,ycu,ybl B r]
 omega
theorem zvm {a b u v q r B:Nat} (hy:0<a*B+b) (hq:(u*B+v)/(a*B+b)≤q) (hr:q*a+r=u) (h:q*b≤B*r+v):q=(u*B+v)/(a*B+b):=by
 have:=z5b (b:=b) (v:=v) (B:=B) hr
 exact Nat.le_antisymm ((Nat.le_div_iff_mul_le hy).2 (by omega)) hq
theorem zom {a b u v q r B:Nat} (hy:0<a*B+b) (hq:(u*B+v)/(a*B+b)≤q) (hr:q*a+r=u) (hB:B≤r) (hqB:q≤B) (hb:b<B):q=(u*B+v)/(a*B+b):=by
 refine zvm hy hq hr ?_
 have h1:q*b≤B*B:=yd5 hqB (ydx hb)
 have h2:B*B≤B*r:=ycq B hB
 omega
theorem z1g {a b u v q r B:Nat} (hy:0<a*B+b) (hu:u<a*B+b) (hv:v<B) (hr:q*a+r=u) (h:B≤q∨B*r+v<q*b):(u*B+v)/(a*B+b)<q:=by
 rw [ych hy]
 rcases h with h|h
 ·have h1:u*B+v<(u+1)*B:=by rw [ya6];omega
  have h2:(u+1)*B≤(a*B+b)*B:=yas B hu
  have h3:(a*B+b)*B≤q*(a*B+b):=by rw [ybl q];exact ycq _ h
  omega
 ·have:=z5b (b:=b) (v:=v) (B:=B) hr
  omega
theorem zxq {a b u v B:Nat} (ha:0<a) (hv:v<B):(u*B+v)/(a*B+b)≤u/a:=by
 have hB:0<B:=by omega
 rw [Nat.le_div_iff_mul_le ha]
 have h1:(u*B+v)/(a*B+b)*(a*B+b)≤u*B+v:=yb0 _ _
 have h2:(u*B+v)/(a*B+b)*(a*B)≤(u*B+v)/(a*B+b)*(a*B+b):=ycq _ (Nat.le_add_right _ _)
 have h3:(u*B+v)/(a*B+b)*a*B<(u+1)*B:=by
  rw [ycu,ya6];omega
 have:=Nat.lt_of_mul_lt_mul_right h3
 omega
theorem z2U {a b u B:Nat} (ha:B≤2*a) (hb:b<B) (hu:u<a*B+b):u/a≤B+1:=by
 have ha0:0<a:=by omega
 have:u<(B+2)*a:=by
  have e:(B+2)*a=a*B+2*a:=by rw [ya6,ybl B a]
  omega
 have:=(ych ha0).2 this
 omega
theorem zq6 {y h l B:Nat} (hy:0<y):let q1:=h/y;let r1:=h%y;(h*B+l)/y=q1*B+(r1*B+l)/y∧(h*B+l)%y=(r1*B+l)%y:=by
 intro q1 r1
 have e:h*B+l=y*(q1*B)+(r1*B+l):=by
  have:=ycf h y
  have h2:h*B=(y*q1+r1)*B:=by rw [this]
  rw [h2,ya6,ycu];omega
 rw [e]
 exact ⟨Nat.mul_add_div hy _ _,Nat.mul_add_mod _ _ _⟩
theorem zy8 {hi lo y M B P R:Nat} (hM:M=R*P) (hMB:M=B*B) (hp:0<P) (hy:0<y) {u32 u10 h q1 u21 g:Nat}
  (e1:u32=hi*P+lo/R) (e2:u10=lo*P%M) (e3:h=u32*B+u10/B) (e4:q1=h/(y*P)) (e5:u21=h%(y*P)) (e6:g=u21*B+u10%B):
  (hi*M+lo)/y=q1*B+g/(y*P)∧(hi*M+lo)%y=g%(y*P)/P:=by
 have hyp:0<y*P:=Nat.mul_pos hy hp
 have elo:lo*P=lo/R*M+u10:=by
  have h1:=ycf (lo*P) M
  have h2:lo*P/M=lo/R:=by
   rw [hM];exact Nat.mul_div_mul_right _ _ hp
  rw [h2,ybl,←e2] at h1
  exact h1.symm
 have eu:u10/B*B+u10%B=u10:=by
  have:=ycf u10 B
  rw [ybl] at this;exact this
 have en:(hi*M+lo)*P=h*B+u10%B:=by
  have h1:(hi*M+lo)*P=hi*P*M+lo*P:=by
   rw [ya6,ycu,ybl M P,←ycu]
  have h2:h*B=u32*M+u10/B*B:=by
   rw [e3,ya6,ycu,←hMB]
  have h3:u32*M=hi*P*M+lo/R*M:=by rw [e1,ya6]
  rw [h1,elo,h2,h3,ydt (hi*P*M+lo/R*M),eu,ydt]
 obtain ⟨t1,t2⟩:=zq6 (y:=y*P) (h:=h) (l:=u10%B) (B:=B) hyp
 rw [←e4,←e5,←e6] at t1
 rw [←e5,←e6] at t2
 have d1:(hi*M+lo)/y=(hi*M+lo)*P/(y*P):=(Nat.mul_div_mul_right _ _ hp).symm
 have d2:(hi*M+lo)*P%(y*P)=(hi*M+lo)%y*P:=Nat.mul_mod_mul_right _ _ _
 constructor
 ·rw [d1,en];exact t1
 ·rw [en,t2] at d2
  rw [d2,ydf _ hp]
abbrev N:=Bool×Int
abbrev most:Int:=9223372036854775807
def good (n:N):Bool:= !n.1&&decide (-most≤n.2)
def zn3 (n:N):Bool:=if n.1 then decide (n.2=0) else decide (-most≤n.2)
def zbH:N:=(true,0)
def tell (s:Int):N:=if -most≤s∧s≤most then (false,s) else zbH
def addN (a b:N):N:=if good a&&good b then tell (a.2+b.2) else zbH
def zpH (a b:N):N:=if good a then (if good b then (if a.2≤b.2 then a else b) else a) else if good b then b else zbH
def zpI (a b:N):N:=if good a then (if good b then (if b.2≤a.2 then a else b) else a) else if good b then b else zbH
def rnd (x d:Nat):Nat:=x/d+(if d-x%d≤x%d then 1 else 0)
def sgn (below:Bool) (n:Nat):Int:=if below then -(n:Int) else n
def divN (a b:N):N:=if good a&&good b&&decide (b.2≠0) then tell (sgn (decide (a.2<0) !=decide (b.2<0)) (rnd (a.2.natAbs*1000000) b.2.natAbs)) else zbH
def z7R (l:List N):List N:=l.filter good
end Go.Num
end
section
namespace Go.Sf
open Go.Num
abbrev Slot:=Int×Int
def i64 (v:Int):Prop:= -9223372036854775808≤v∧v≤9223372036854775807
def z8e (step n i:Nat) (s:Slot):Prop:=(s.1= -1∧s.2=0)∨∃k:Nat,s.1=((k*step:Nat):Int)∧k*step≤1099511627776∧k%n=i∧i64 s.2∧s.2≠ -9223372036854775808
def zdj (step:Nat) (l:List Slot):Prop:=∀i s,l[i]? =some s→z8e step l.length i s
def setR (step:Nat) (l:List Slot) (t:Nat) (v:Int):List Slot:=l.set (t/step%l.length) (((t/step*step:Nat):Int),v)
def getR (step:Nat) (l:List Slot) (t:Nat):Option Int:=match l[t/step%l.length]? with
 |some s=>if s.1=((t/step*step:Nat):Int) then some s.2 else none
 |none=>none
theorem zea (step:Nat) (l:List Slot) (t:Nat) (v:Int):(setR step l t v).length=l.length:=by simp [setR]
theorem zgM {step:Nat} {l:List Slot} {t:Nat} {v:Int} (h:zdj step l) (ht:t≤1099511627776) (hv:i64 v) (hv2:v≠ -9223372036854775808):zdj step (setR step l t v):=fun i s hs=>by
 rw [zea]
 unfold setR at hs
 rw [List.getElem?_set] at hs
 split at hs
 ·rename_i e
  split at hs
  ·simp only [yab] at hs
   subst hs
   refine .inr ⟨t/step,rfl, ?_,e,hv,hv2⟩
   have:=yb0 t step
   omega
  ·cases hs
 ·exact h i s hs
theorem z5C {step:Nat} {l:List Slot} {t:Nat} {v:Int} (h:zdj step l) (hg:getR step l t=some v):i64 v∧v≠ -9223372036854775808:=by
 unfold getR at hg
 split at hg
 ·rename_i s hs
  split at hg
  ·rename_i he
   simp only [yab] at hg;subst hg
   rcases h _ _ hs with ⟨h1,_⟩|⟨k,_,_,_,h4,h5⟩
   ·rw [h1] at he;omega
   ·exact ⟨h4,h5⟩
  ·cases hg
 ·cases hg
structure LadM where
 fine:List Slot
 wide:List Slot
structure RightL (l:LadM):Prop where
 n1:l.fine.length=6
 n2:l.wide.length=5
 r1:zdj 10 l.fine
 r2:zdj 60 l.wide
def newL:LadM:=⟨List.replicate 6 (-1,0),List.replicate 5 (-1,0)⟩
def numO:Option Int→N
 |some v=>(false,v)
 |none=>(true,0)
def parts (l:List Slot) (t:Nat):Nat→List Int
 |0=> []
 |k+1=>parts l t k++(getR 10 l (t+k*10)).toList
def avgN (l:List Int):N:=divN (l.foldl (fun a v=>addN a (tell v)) (tell 0)) (tell (l.length*1000000))
def zeV (l:List Slot) (t:Nat):N:=if (parts l (t/60*60) 6).length<3 then (true,0) else avgN (parts l (t/60*60) 6)
def zcB (l:LadM) (t now:Nat) (v:Int):LadM:=
 if now<t/10*10+60 then
  let f:=setR 10 l.fine t v
  let n:=zeV f t
  if n.1 then ⟨f,l.wide⟩ else ⟨f,setR 60 l.wide t n.2⟩
 else ⟨l.fine,setR 60 l.wide t v⟩
theorem zpj (l:List Slot) (t:Nat):∀k,(parts l t k).length≤k
 |0=>by simp [parts]
 |k+1=>by
  have:=zpj l t k
  simp only [parts,yag]
  cases getR 10 l (t+k*10)<;>simp<;>omega
theorem zrE {l:List Slot} (h:zdj 10 l) (t:Nat):∀k,∀v∈parts l t k,i64 v∧v≠ -9223372036854775808
 |0=>by simp [parts]
 |k+1=>fun v hv=>by
  simp only [parts,yai,Option.mem_toList] at hv
  rcases hv with hv|hv
  ·exact zrE h t k v hv
  ·exact z5C h hv
theorem z6K (s:Int) (h:(tell s).1=false):i64 (tell s).2∧(tell s).2≠ -9223372036854775808:=by
 unfold tell at*
 split
 ·rename_i hc;unfold most at hc;exact ⟨⟨by simp only;omega,by simp only;omega⟩,by simp only;omega⟩
 ·rename_i hc;rw [if_neg hc] at h;cases h
theorem zwc (a b:N) (h:(divN a b).1=false):i64 (divN a b).2∧(divN a b).2≠ -9223372036854775808:=by
 unfold divN at*
 split
 ·rename_i hc
  rw [if_pos hc] at h
  exact z6K _ h
 ·rename_i hc;rw [if_neg hc] at h;cases h
theorem zkf:RightL newL:=by
 refine ⟨rfl,rfl,fun i s hs=> .inl ?_,fun i s hs=> .inl ?_⟩<;>
 ·have:=yaf hs
  simp [newL] at this
  subst this;exact ⟨rfl,rfl⟩
theorem zux {l:LadM} {t now:Nat} {v:Int} (h:RightL l) (ht:t≤1099511627776) (hv:i64 v) (hv2:v≠ -9223372036854775808):RightL (zcB l t now v):=by
 unfold zcB
 split
 ·have hf:=zgM (t:=t) h.r1 ht hv hv2
  simp only
  split
  ·exact ⟨by rw [zea];exact h.n1,h.n2,hf,h.r2⟩
  ·rename_i hn
   have hn':(zeV (setR 10 l.fine t v) t).1=false:=by simpa using hn
   have:i64 (zeV (setR 10 l.fine t v) t).2∧(zeV (setR 10 l.fine t v) t).2≠ -9223372036854775808:=by
    unfold zeV at hn'⊢
    split
    ·rename_i hc;rw [if_pos hc] at hn';cases hn'
    ·rename_i hc;rw [if_neg hc] at hn';exact zwc _ _ hn'
   exact ⟨by rw [zea];exact h.n1,by rw [zea];exact h.n2,hf,zgM h.r2 ht this.1 this.2⟩
 ·exact ⟨h.n1,by rw [zea];exact h.n2,h.r1,zgM h.r2 ht hv hv2⟩
end Go.Sf
end
section
namespace Go.Num
def bt (a i:Nat):Nat:=a/2^i%2
theorem z2p (a i:Nat):bt a i<2:=ybs _ (by decide)
theorem z7q {hi lo i:Nat} (hl:lo<18446744073709551616) (h:i<64):bt (hi*18446744073709551616+lo) i=lo/2^i%2:=by
 unfold bt
 have e:hi*18446744073709551616=2^i*(hi*2^(64-i)):=by
  rw [show (18446744073709551616:Nat)=2^i*2^(64-i) by rw [←yd9,show i+(64-i)=64 by omega]]
  rw [Nat.mul_left_comm]
 rw [e,Nat.mul_add_div (yc1 i)]
 have e2:hi*2^(64-i)=2*(hi*2^(63-i)):=by
  rw [show 64-i=(63-i)+1 by omega,yc5]
  rw [ybl (2^(63-i)) 2,Nat.mul_left_comm]
 rw [e2,Nat.mul_add_mod]
theorem z8u {hi lo i:Nat} (hl:lo<18446744073709551616) (h:64≤i):bt (hi*18446744073709551616+lo) i=hi/2^(i-64)%2:=by
 unfold bt
 have e:2^i=18446744073709551616*2^(i-64):=by
  rw [show (18446744073709551616:Nat)=2^64 by decide,←yd9,show 64+(i-64)=i by omega]
 rw [e,←Nat.div_div_eq_div_mul]
 congr 2
 omega
def zhc (a b i:Nat):Nat:=(a%2^i+b%2^i)%2^i
def sumC (a b i:Nat):Nat:=(a%2^i+b%2^i)/2^i
theorem z4p (a b i:Nat):zhc a b (i+1)=zhc a b i+2^i*((bt a i+bt b i+sumC a b i)%2)∧sumC a b (i+1)=(bt a i+bt b i+sumC a b i)/2:=by
 have hp:=yc1 i
 have h1:=Nat.mod_pow_succ (x:=a) (b:=2) (k:=i)
 have h2:=Nat.mod_pow_succ (x:=b) (b:=2) (k:=i)
 have h3:=ycf (a%2^i+b%2^i) (2^i)
 have e:a%2^(i+1)+b%2^(i+1)=2^i*(bt a i+bt b i+sumC a b i)+zhc a b i:=by
  rw [h1,h2]
  unfold sumC zhc bt
  rw [ydz,ydz]
  omega
 have hlo:zhc a b i<2^i:=ybs _ hp
 obtain ⟨s,hs⟩:∃s,bt a i+bt b i+sumC a b i=s:=⟨_,rfl⟩
 rw [hs] at e⊢
 have e2:2^i*s+zhc a b i=2^(i+1)*(s/2)+(zhc a b i+2^i*(s%2)):=by
  have:=ycf s 2
  have h:2^i*s=2^i*(2*(s/2)+s%2):=by rw [this]
  rw [h,ydz,yc5,ycu];omega
 have hlt:zhc a b i+2^i*(s%2)<2^(i+1):=by
  have hm:s%2≤1:=by have:=ybs s (show 0<2 by decide);omega
  have:=ycq (2^i) hm
  rw [yc5];omega
 have hpp:=yc1 (i+1)
 constructor
 ·show (a%2^(i+1)+b%2^(i+1))%2^(i+1)=_
  rw [e,e2,Nat.mul_add_mod,ybr hlt]
 ·show (a%2^(i+1)+b%2^(i+1))/2^(i+1)=_
  rw [e,e2,Nat.mul_add_div hpp,yeg hlt];omega
theorem z7d (a b i:Nat):sumC a b i≤1:=by
 have hp:=yc1 i
 have h1:=ybs a hp
 have h2:=ybs b hp
 unfold sumC
 have:(a%2^i+b%2^i)/2^i<2:=by
  rw [ych hp];omega
 omega
theorem z4w (x y i:Nat):x*(y%2^(i+1))=x*(y%2^i)+(if bt y i=1 then x*2^i else 0):=by
 have h:=Nat.mod_pow_succ (x:=y) (b:=2) (k:=i)
 have hb:=z2p y i
 unfold bt at*
 rw [h,ydz]
 split
 ·rename_i h1;rw [h1,Nat.mul_one]
 ·have:y/2^i%2=0:=by omega
  rw [this];simp
theorem z3D (a i:Nat):a/2^i=2*(a/2^(i+1))+bt a i:=by
 have:a/2^(i+1)=a/2^i/2:=by rw [yc5,Nat.div_div_eq_div_mul]
 rw [this]
 unfold bt
 omega
theorem z3M {n d q r b:Nat} (h:n=q*d+r) (hr:r<d) (hb:b<2):(2*r+b<d→2*n+b=(2*q)*d+(2*r+b))∧(d≤2*r+b→2*n+b=(2*q+1)*d+(2*r+b-d)∧2*r+b-d<d):=by
 subst h
 constructor
 ·intro _
  rw [ydz,ycu];omega
 ·intro h
  refine ⟨?_,by omega⟩
  rw [ydz,ya6,ycu];omega
end Go.Num
end
section
namespace Go.Num
open Go.Abs
theorem zwX (a:Nat) (h:a<18446744073709551616):(BitVec.ofInt 64 (a:Int)).toNat=a:=by
 rw [BitVec.toNat_ofInt]
 omega
theorem zdU (a:Nat) (h:a<18446744073709551616):IntKind.u64.wrap (a:Int)=a:=by
 have:=Go.IntKind.wrap
 simp [IntKind.wrap,IntKind.signed,IntKind.bits];omega
theorem and_one (a:Nat) (h:a<18446744073709551616):zca .and .u64 (a:Int) 1=some ((a%2:Nat):Int):=by
 have e:(BitVec.ofInt 64 (a:Int)&&&BitVec.ofInt 64 1).toNat=a%2:=by
  rw [yef,zwX a h,show (BitVec.ofInt 64 1).toNat=1 by decide,Nat.and_one_is_mod]
 show some (IntKind.u64.wrap ((BitVec.ofInt 64 (a:Int)&&&BitVec.ofInt 64 1).toNat:Int))=_
 rw [e,zdU _ (by omega)]
theorem ztC (a b:Nat) (h:a<18446744073709551616) (h2:b<18446744073709551616):zca .or .u64 (a:Int) (b:Int)=some ((a|||b:Nat):Int):=by
 have e:(BitVec.ofInt 64 (a:Int)|||BitVec.ofInt 64 (b:Int)).toNat=a|||b:=by
  rw [BitVec.toNat_or,zwX a h,zwX b h2]
 have hlt:a|||b<18446744073709551616:=Nat.or_lt_two_pow (n:=64) h h2
 show some (IntKind.u64.wrap ((BitVec.ofInt 64 (a:Int)|||BitVec.ofInt 64 (b:Int)).toNat:Int))=_
 rw [e,zdU _ hlt]
theorem zfF (a n:Nat) (h:a<18446744073709551616) (hn:n≤64):za4 .shr .u64 (a:Int) n=some ((a/2^n:Nat):Int):=by
 show some ((a:Int).fdiv (2^min n 64))=_
 rw [ybt hn]
 congr 1
 rw [show ((2:Int)^n)=((2^n:Nat):Int) by push_cast;rfl]
 exact Int.ofNat_fdiv _ _|>.symm
theorem ziJ (a n:Nat) (hn:n≤64):za4 .shl .u64 (a:Int) n=some ((a*2^n%18446744073709551616:Nat):Int):=by
 show some (IntKind.u64.wrap ((a:Int)*2^min n 64))=_
 rw [ybt hn]
 rw [show (a:Int)*2^n=((a*2^n:Nat):Int) by push_cast;rfl]
 simp [IntKind.wrap,IntKind.signed,IntKind.bits]
end Go.Num
end
section
namespace Go.Num
theorem zfu {n:N}:good n=true↔n.1=false∧ -most≤n.2:=by
 simp [good]
theorem zzW:tell 0=(false,0):=by decide
theorem add_zero {k:N} (h:good k=true) (h2:k.2≤most):addN (tell 0) k=k:=by
 obtain ⟨h1,h3⟩:=zfu.1 h
 have hz:good (tell 0)=true:=by decide
 unfold addN
 rw [hz,h]
 simp only [Bool.and_self,if_true]
 rw [zzW]
 unfold tell
 simp only [Int.zero_add]
 rw [if_pos ⟨h3,h2⟩,←h1]
end Go.Num
end
