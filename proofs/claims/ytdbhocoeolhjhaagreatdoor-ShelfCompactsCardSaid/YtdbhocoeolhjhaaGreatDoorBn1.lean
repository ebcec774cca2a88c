/- A lift whose contract may use that the world is shaped as the program's package variables say. A witness world whose package variables hold references -/
import Derived.Handed
import Derived.DataWitness
import Derived.Lay
import Derived.Test.YtdbhocoeolhjhaaGreatDoorAbs2
import Derived.Test.YtdbhocoeolhjhaaGreatDoorProg
import Derived.Shelf.Spec.SlicesInsertGrow
import Derived.KernelRfl
set_option linter.unusedSimpArgs false
set_option linter.unusedVariables false
set_option linter.constructorNameAsVariable false
section
namespace Go
section
variable {H:Type} {enc:TypeId×Value→H}
theorem zmo {a:Assume} {C:Checked} {os:Os} {f:FuncId} {fn:Func} {s:ChangeSpec} {conds:List PathCond} {apart fresh handsOn again:Bool} {X:World→Array Value→Prop}
  (hX:∀(w w':World) (args:Array Value),w.heap=w'.heap→X w args→X w' args) (own:ownKnob C.prog.godebug=none) (started:os.Started) (noInit:C.prog.inits.idxOf? f=none) (hfn:C.prog.funcs[f]? =some fn)
  (witness:∃(w:World) (tape:Tape) (i:Input),w.os=os∧(w.forCall tape i).Shaped C.prog∧i.vars= []∧Input.okWide C.prog (w.forCall tape i) .any w.heap.size f i∧
   ((s.pre enc C.prog fn conds apart (w.forCall tape i).memory i.args∧X (w.forCall tape i).memory i.args)∧sizedMet enc C.prog fn (OpenSpec.ofChange s) apart (w.forCall tape i).memory i.args)∧a.holds C.prog (lone (Frame.enter C.prog f i.args .normal) [] (w.forCall tape i)))
  (body:∀(W:World) (base:Nat) (args:Array Value) (ds gs:List (DataW H)) (before:List MemPlace),W.ShapedOpen C.prog→(∀(j:Nat) t v,fn.params[j]? =some t→args[j]? =some v→Value.okWide C.prog W .any base t v)→
   DataW.Whole enc C.prog fn.params.toList s.vars apart W args.toList ds gs before→X W args→(DataW.weightsEach C.prog (fn.params.toList++(OpenSpec.ofChange s).bare.plain.varTypes C.prog) (ds++gs)).all (· ≤reachBytes)=true→Calls C.prog f args W fun e W'=>∃v,e=.returned v∧s.post enc C.prog fn apart fresh handsOn again W args v W'):
  ReturnsInHanded a C os f .any (fun w args=>(s.pre enc C.prog fn conds apart w args∧X w args)∧sizedMet enc C.prog fn (OpenSpec.ofChange s) apart w args) (s.post enc C.prog fn apart fresh handsOn again):=by
 apply returnsInHanded_of_calls own started noInit witness
 rintro w tape i-hshape-⟨-, -, -,g,hg, -, -, -, -,hval⟩ ⟨⟨⟨ds,gs,before,hw, -⟩,hx⟩,hz⟩ -
 cases Option.some.inj (hg.symm.trans hfn)
 apply (body (w.forCall tape i) w.heap.size i.args ds gs before hshape hval (DataW.Whole.of_heap (by rfl) hw) (hX _ _ _ (by rfl) hx) (hz.weights hw)).mono
 rintro e W' ⟨v,rfl,hp⟩
 exact ChangeSpec.post_blind hp
end
end Go
end
section
namespace Go
section
variable {H:Type} {enc:TypeId×Value→H}
theorem zvS {C:Checked} {os:Os} {f:FuncId} {fn:Func} {s:ChangeSpec} {conds:List PathCond} {apart:Bool} {X:World→Array Value→Prop} (w0:World) (args:Array Value) (fuel:Nat) (hos:w0.os=os)
  (hv:(w0.forCall (fun _ _=>0) ⟨#[],args,[]⟩).variablesZipB C.prog=true)
  (hr:((w0.forCall (fun _ _=>0) ⟨#[],args,[]⟩).heap.toList.drop C.prog.globals.size).take ((begin C.prog (fun _ _=>0) default).world.heap.size-C.prog.globals.size)=(begin C.prog (fun _ _=>0) default).world.heap.toList.drop C.prog.globals.size)
  (hok:Input.okWideB C.prog (w0.forCall (fun _ _=>0) ⟨#[],args,[]⟩) f ⟨#[],args,[]⟩=true)
  (hpre:s.preB enc C.prog fn conds apart (w0.forCall (fun _ _=>0) ⟨#[],args,[]⟩).memory args fuel=true)
  (hsz:s.sizedB enc C.prog fn apart (w0.forCall (fun _ _=>0) ⟨#[],args,[]⟩).memory args fuel=true)
  (hx:X (w0.forCall (fun _ _=>0) ⟨#[],args,[]⟩).memory args):
  ∃(w:World) (tape:Tape) (i:Input),w.os=os∧(w.forCall tape i).Shaped C.prog∧i.vars= []∧Input.okWide C.prog (w.forCall tape i) .any w.heap.size f i∧
   ((s.pre enc C.prog fn conds apart (w.forCall tape i).memory i.args∧X (w.forCall tape i).memory i.args)∧sizedMet enc C.prog fn (OpenSpec.ofChange s) apart (w.forCall tape i).memory i.args)∧({}:Assume).holds C.prog (lone (Frame.enter C.prog f i.args .normal) [] (w.forCall tape i)):=by
 refine ⟨w0,fun _ _=>0,⟨#[],args,[]⟩,hos,World.shaped_of_ZipB hv hr,(Input.okWide_of_okWideB (base:=0) hok).1,(Input.okWide_of_okWideB hok).2,⟨⟨ChangeSpec.pre_of_preB hpre,hx⟩,sizedMet_of_sizedB hsz⟩, ?_⟩
 simp only [Assume.holds]
 exact ⟨by simp,by simp,fun _=>Modest.zero,by simp,by simp⟩
end
end Go
end
section
namespace Go.Abs
open Go.RowKit Go.Proofs Go.Shelf Go.Lib
variable {P:Program}
theorem zcQ (w:World) (tD tS ty e:TypeId) (size b off dn dc:Nat) (sad:Addr) (sn sc:Nat) (vs:List Value) (ht:P.underlying tD=some (.slice e)) (hsz:∀w,(sizeOf e).run P w=.ok size w) (k:Nat) (hk:Nat.min sn dn=k) (hvl:vs.length=k*size)
  (hsrc:∀j v,vs[j]? =some v→w.cell? (sad.add j)=some v) (hdst:∀j,j<vs.length→(w.cell? ⟨b,off+j,none⟩).isSome=true) (hfz:∀j,j<vs.length→w.frozen? ⟨b,off+j,none⟩=false) (h1:∀v∈vs,v.oneCell'=true):
  (Builtin.copy_ #[tD,tS] ty #[.slice (some ⟨b,off,none⟩) dn dc,.slice (some sad) sn sc]).run P w=.ok (goInt k) (w.setCells b off vs):=by
 have hr:=run_firstCells_some (P:=P) (w:=w) size k sad sn sc vs hvl hsrc
 have hst:=run_storeCells_cells (P:=P) b off vs 0 w (fun j hj=>by simpa using hdst j hj) (fun j hj=>by simpa using hfz j hj) h1
 rw [ycb] at hst
 simp [Builtin.copy_,run_underlying ht,Builtin.lenOf,hk,hsz,hr,hst]
end Go.Abs
namespace Go.Proofs.YtdbhocoeolhjhaaGreatDoor
open Go.Abs Go.RowKit Go.Lib Go.Shelf
set_option maxHeartbeats 4000000 in
set_option maxRecDepth 100000 in
theorem zyB (b n c i vb vc:Nat) (cs vs:List Value) (w:World) (hi:i<n) (hroom:n+1≤c) (hc63:c≤9223372036854775807) (hvb:vb≠b)
  (hcl:cs.length=n*2) (hvl:vs.length=2)
  (hcs:∀j v,cs[j]? =some v→w.cell? ⟨b,j,none⟩=some v) (hsp:∀j,j<(n+1)*2→(w.cell? ⟨b,j,none⟩).isSome=true) (hfz:∀j,j<(n+1)*2→w.frozen? ⟨b,j,none⟩=false)
  (hvs:∀j v,vs[j]? =some v→w.cell? ⟨vb,j,none⟩=some v) (h1c:∀v∈cs,v.oneCell'=true) (h1v:∀v∈vs,v.oneCell'=true)
  (tA tB:TypeId) (kA kB:Nat) (hsa:w.shape? vb=some (tA,kA)) (hsb:w.shape? b=some (tB,kB)) (hkB:kB≠0) (hfa:w.frozen? ⟨vb,0,none⟩=false) (hfe:w.frozen? ⟨vb,kA,none⟩=false):
  Calls Tryz.prog 140 #[.slice (some ⟨b,0,none⟩) n c,.int .i64 i,.slice (some ⟨vb,0,none⟩) 1 vc] w fun e w'=>
   e=.returned (.slice (some ⟨b,0,none⟩) (n+1) c)∧w'=(w.drew.setCells b ((i+1)*2) (cs.drop (i*2))).setCells b (i*2) vs:=by
 have hz2:¬((i:Int)=(n:Int)):=by omega
 have hov:∀lb cb,(callFunc 205 #[.slice (some ⟨vb,0,none⟩) 1 vc,.slice (some ⟨b,(i+1)*2,none⟩) lb cb]).run Tryz.prog w=.ok (.value (.bool false)) w:=fun lb cb=>by
  rw [run_callFunc_extern Tryz.func205 (by kernel_rfl) (by kernel_rfl) (by kernel_rfl) (e:=Extern.SlicesOverlaps.overlaps #[27,27] #[4]) (by kernel_rfl),
   Lib.run_overlaps_apart w 27 4 101 Tryz.underlying27 2 Tryz.sizeOf101 ⟨vb,0,none⟩ ⟨b,(i+1)*2,none⟩ 1 vc lb cb hvb tA tB kA kB hsa hsb hkB hfa hfe]
  rfl
 have hdl:(cs.drop (i*2)).length=(n-i)*2:=by rw [ya2,hcl];omega
 have hw1:IntKind.i64.wrap ((i:Int)+1)=(i:Int)+1:=by rw [IntKind.wrap_i64];omega
 have hw2:IntKind.i64.wrap ((n:Int)+1)=(n:Int)+1:=by rw [IntKind.wrap_i64];omega
 have hb1:(0:Int)≤(i:Int)+1:=by omega
 have hin:i≤n:=by omega
 have htn:((i:Int)+1).toNat=i+1:=by omega
 have hb2:¬(c=i+1):=by omega
 have hb3:(i:Int)≤(n:Int)+1:=by omega
 have hb4:¬(c=i):=by omega
 have hcp1:∀ty dc sc,(Builtin.copy_ #[27,27] ty #[.slice (some ⟨b,(i+1)*2,none⟩) (n-i) dc,.slice (some ⟨b,i*2,none⟩) (n+1-i) sc]).run Tryz.prog w.drew=.ok (goInt ((n-i:Nat):Int)) (w.drew.setCells b ((i+1)*2) (cs.drop (i*2))):=fun ty dc sc=>
  zcQ w.drew _ _ ty 101 2 b ((i+1)*2) (n-i) dc ⟨b,i*2,none⟩ (n+1-i) sc (cs.drop (i*2)) Tryz.underlying27 Tryz.sizeOf101 (n-i) (by simp only [yek];split<;>omega) hdl
   (fun j v hj=>by rw [Addr.add_lit];exact hcs (i*2+j) v (by rwa [ybz] at hj))
   (fun j hj=>hsp ((i+1)*2+j) (by rw [hdl] at hj;omega)) (fun j hj=>hfz ((i+1)*2+j) (by rw [hdl] at hj;omega)) (fun v hv=>h1c v (yau hv))
 obtain ⟨W1,hW1⟩:∃W1,W1=w.drew.setCells b ((i+1)*2) (cs.drop (i*2)):=⟨_,rfl⟩
 have hsp1:∀k,k<(n+1)*2→(W1.cell? ⟨b,k,none⟩).isSome=true:=fun k hk=>by
  rw [hW1]
  exact isSome_setCells b (cs.drop (i*2)) ((i+1)*2) w.drew (fun j hj=>hsp ((i+1)*2+j) (by rw [hdl] at hj;omega)) _ (hsp k hk)
 have hcp2:∀(W:World),(∀x,W.cell? x=W1.cell? x)→(∀x,W.frozen? x=W1.frozen? x)→∀ty dc,(Builtin.copy_ #[27,27] ty #[.slice (some ⟨b,i*2,none⟩) (n+1-i) dc,.slice (some ⟨vb,0,none⟩) 1 vc]).run Tryz.prog W=.ok (goInt ((1:Nat):Int)) (W.setCells b (i*2) vs):=fun W hWc hWf ty dc=>
  zcQ W _ _ ty 101 2 b (i*2) (n+1-i) dc ⟨vb,0,none⟩ 1 vc vs Tryz.underlying27 Tryz.sizeOf101 1 (by simp only [yek];split<;>omega) (by rw [hvl])
   (fun j v hj=>by
    rw [Addr.add_lit,ybe,hWc,hW1,yde b _ _ _ _ (fun h _=>absurd h hvb)]
    exact hvs j v hj)
   (fun j hj=>by rw [hWc];exact hsp1 (i*2+j) (by omega)) (fun j hj=>by rw [hWf,hW1,ydp];exact hfz (i*2+j) (by omega)) h1v
 rw [←hW1] at hcp1
 have mixed:Tryz.prog.follows .mixedOrders=true:=by kernel_rfl
 go_enter Tryz.func140,Tryz.ntmps140
 go_wp2_with (simp only [hov])
 go_region_law_o (refine step_copy_runI rfl _ _ 27 27 rfl _ _ (by simp [Act.eval,Act.put]) (by simp [Act.eval,Act.put]) (hcp1 _ _ _) ?_)
 go_wp2_with (at_builtin;refine wpList_copy_runI _ rfl _ _ 27 27 rfl _ _ rfl rfl (hcp2 _ (fun _=>rfl) (fun _=>rfl) _ _) ?_)
 go_ret
 first|exact ⟨rfl,rfl⟩|exact ⟨rfl,by rw [hW1]⟩
set_option maxHeartbeats 4000000 in
set_option maxRecDepth 100000 in
theorem z17 (b n c i vb vc:Nat) (cs vs:List Value) (w:World) (hi:i<n) (hnc:n≤c) (hroom:c<n+1) (hbig:(n+1)*24≤140737488355328)
  (hcl:cs.length=n*2) (hvl:vs.length=2)
  (hcs:∀j v,cs[j]? =some v→w.cell? ⟨b,j,none⟩=some v)
  (hvs:∀j v,vs[j]? =some v→w.cell? ⟨vb,j,none⟩=some v) (h1c:∀v∈cs,v.oneCell'=true) (h1v:∀v∈vs,v.oneCell'=true)
  (i0:TypeInfo) (z:Value) (hi0:Tryz.prog.info? 101=some i0) (hz0:i0.zero=some z) (hzs:i0.size=2) (hzb:i0.bytes=24) (hzc:z.cells.size=2):
  Calls Tryz.prog 140 #[.slice (some ⟨b,0,none⟩) n c,.int .i64 i,.slice (some ⟨vb,0,none⟩) 1 vc] w fun e w'=>
   e=.returned (.slice (some ⟨w.heap.size,0,none⟩) (n+1) (grownCap w (n+1) c 101))∧
   w'=(((w.alloc (.cells ((cs.take (i*2)).toArray++Builtin.zeroCells z.cells (n+1-i)++Builtin.zeroCells z.cells (grownCap w (n+1) c 101-(n+1))) 101)).drew.setCells w.heap.size (i*2) vs).drew).setCells w.heap.size ((i+1)*2) (cs.drop (i*2)):=by
 have hz2:¬((i:Int)=(n:Int)):=by omega
 have hz3:(c:Int)<(n:Int)+1:=by omega
 have hsz:=Tryz.sizeOf101
 have hbw:b<w.heap.size:=block_lt_of_cell (hcs 0 _ (yad (by omega)))
 have hvw:vb<w.heap.size:=block_lt_of_cell (hvs 0 _ (yad (by omega)))
 have hkk:(n:Int)+1-(i:Int)=((n+1-i:Nat):Int):=by omega
 have hik:i+(n+1-i)=n+1:=by omega
 have hold:(Builtin.firstCells i0.size i (.slice (some ⟨b,0,none⟩) i c)).run Tryz.prog w.drew=.ok (cs.take (i*2)).toArray w.drew:=by
  rw [hzs]
  exact run_firstCells_some w.drew 2 i ⟨b,0,none⟩ i c (cs.take (i*2)) (by rw [yan];omega) (fun j v hj=>by
   rw [Addr.add_lit,ybe]
   rw [ybo] at hj
   split at hj
   ·exact hcs j v hj
   ·cases hj)
 have hrz:∀ty,(Builtin.append_ #[27,3] ty #[.slice (some ⟨b,0,none⟩) i c,.int .i64 ((n:Int)+1-(i:Int))]).run Tryz.prog w=
   .ok (.slice (some ⟨w.heap.size,0,none⟩) (n+1) (grownCap w (n+1) c 101)) (w.drew.alloc (.cells ((cs.take (i*2)).toArray++Builtin.zeroCells z.cells (n+1-i)++Builtin.zeroCells z.cells (grownCap w (n+1) c 101-(n+1))) 101)):=fun ty=>by
  have h:=Lib.run_append_grow_zeros w 27 3 ty 101 i0 _ .i64 .i64 Tryz.underlying27 Tryz.underlying3 hi0 hz0 (some ⟨b,0,none⟩) i c (cs.take (i*2)) hold (n+1-i) (by omega) (by omega) (by omega) (by omega) (by rw [hzb];omega) (by rw [hzb,hik];exact growslice_fits hroom hbig)
  rw [hik] at h
  rw [hkk]
  exact h
 obtain ⟨G,hG⟩:∃G,G=grownCap w (n+1) c 101:=⟨_,rfl⟩
 obtain ⟨ROW,hROW⟩:∃ROW:Array Value,ROW=(cs.take (i*2)).toArray++Builtin.zeroCells z.cells (n+1-i)++Builtin.zeroCells z.cells (G-(n+1)):=⟨_,rfl⟩
 rw [←hG] at hrz⊢
 rw [←hROW] at hrz⊢
 have hRl:(n+1)*2≤ROW.size:=by
  rw [hROW]
  simp only [yeb,yec,yan,size_zeroCells,hzc,hcl]
  omega
 obtain ⟨W1,hW1⟩:∃W1,W1=w.drew.alloc (.cells ROW 101):=⟨_,rfl⟩
 rw [←hW1] at hrz
 have hN:∀j,j<(n+1)*2→(W1.cell? ⟨w.heap.size,j,none⟩).isSome=true:=fun j hj=>by
  rw [hW1,World.cell?_alloc_at (w:=w.drew) ROW _ w.heap.size j rfl,ybx (by omega)];rfl
 have hNf:∀j,W1.frozen? ⟨w.heap.size,j,none⟩=false:=fun j=>by rw [hW1];exact World.frozen?_alloc_at (w:=w.drew) ROW _ w.heap.size j rfl
 have hOb:∀j v,w.cell? ⟨b,j,none⟩=some v→W1.cell? ⟨b,j,none⟩=some v:=fun j v h=>by rw [hW1,yd6 (w:=w.drew) _ b j hbw];exact h
 have hOv:∀j v,w.cell? ⟨vb,j,none⟩=some v→W1.cell? ⟨vb,j,none⟩=some v:=fun j v h=>by rw [hW1,yd6 (w:=w.drew) _ vb j hvw];exact h
 have hcpA:∀(W:World),(∀x,W.cell? x=W1.cell? x)→(∀x,W.frozen? x=W1.frozen? x)→∀ty dc,(Builtin.copy_ #[27,27] ty #[.slice (some ⟨w.heap.size,i*2,none⟩) (n+1-i) dc,.slice (some ⟨vb,0,none⟩) 1 vc]).run Tryz.prog W=.ok (goInt ((1:Nat):Int)) (W.setCells w.heap.size (i*2) vs):=fun W hWc hWf ty dc=>
  zcQ W _ _ ty 101 2 w.heap.size (i*2) (n+1-i) dc ⟨vb,0,none⟩ 1 vc vs Tryz.underlying27 hsz 1 (by simp only [yek];split<;>omega) (by rw [hvl])
   (fun j v hj=>by rw [Addr.add_lit,ybe,hWc];exact hOv _ v (hvs j v hj))
   (fun j hj=>by rw [hWc];exact hN (i*2+j) (by omega)) (fun j hj=>by rw [hWf];exact hNf _) h1v
 have hGn:n+1≤G:=by rw [hG];exact grownCap_ge w _ _ _
 have hG63:G≤9223372036854775807:=by
  have:=grownCap_le_maxLen w (n+1) c 101 (by unfold maxLen;omega)
  rw [←hG] at this
  unfold maxLen at this
  omega
 have hGi:¬(G=i):=by omega
 have hGim:¬(G=i+1):=by omega
 have hci:¬(c=i):=by omega
 have hbN:b≠w.heap.size:=by omega
 have hdl:(cs.drop (i*2)).length=(n-i)*2:=by rw [ya2,hcl];omega
 have hcpB:∀(W:World),(∀x,W.cell? x=(W1.setCells w.heap.size (i*2) vs).cell? x)→(∀x,W.frozen? x=(W1.setCells w.heap.size (i*2) vs).frozen? x)→∀ty dc sc,(Builtin.copy_ #[27,27] ty #[.slice (some ⟨w.heap.size,(i+1)*2,none⟩) (n-i) dc,.slice (some ⟨b,i*2,none⟩) (n-i) sc]).run Tryz.prog W=.ok (goInt ((n-i:Nat):Int)) (W.setCells w.heap.size ((i+1)*2) (cs.drop (i*2))):=fun W hWc hWf ty dc sc=>
  zcQ W _ _ ty 101 2 w.heap.size ((i+1)*2) (n-i) dc ⟨b,i*2,none⟩ (n-i) sc (cs.drop (i*2)) Tryz.underlying27 hsz (n-i) (by simp only [yek];split<;>omega) hdl
   (fun j v hj=>by
    rw [Addr.add_lit,hWc,yde _ _ _ _ _ (fun h _=>absurd h hbN)]
    exact hOb _ v (hcs (i*2+j) v (by rwa [ybz] at hj)))
   (fun j hj=>by rw [hWc];exact isSome_setCells w.heap.size vs (i*2) W1 (fun t ht=>hN (i*2+t) (by omega)) _ (hN ((i+1)*2+j) (by rw [hdl] at hj;omega)))
   (fun j hj=>by rw [hWf,ydp];exact hNf _) (fun v hv=>h1c v (yau hv))
 subst hW1
 have hE1:∀x,((w.alloc (.cells ROW 101)).drew).cell? x=(w.drew.alloc (.cells ROW 101)).cell? x:=fun x=>rfl
 have hE2:∀x,((w.alloc (.cells ROW 101)).drew).frozen? x=(w.drew.alloc (.cells ROW 101)).frozen? x:=fun x=>rfl
 have hF1:∀x,(((w.alloc (.cells ROW 101)).drew.setCells w.heap.size (i*2) vs).drew).cell? x=((w.drew.alloc (.cells ROW 101)).setCells w.heap.size (i*2) vs).cell? x:=fun x=>rfl
 have hF2:∀x,(((w.alloc (.cells ROW 101)).drew.setCells w.heap.size (i*2) vs).drew).frozen? x=((w.drew.alloc (.cells ROW 101)).setCells w.heap.size (i*2) vs).frozen? x:=fun x=>rfl
 have hw1:IntKind.i64.wrap ((i:Int)+1)=(i:Int)+1:=by rw [IntKind.wrap_i64];omega
 have hw2:IntKind.i64.wrap ((n:Int)+1)=(n:Int)+1:=by rw [IntKind.wrap_i64];omega
 have hb1:(0:Int)≤(i:Int)+1:=by omega
 have hin:i≤n:=by omega
 have htn:((i:Int)+1).toNat=i+1:=by omega
 have hb3:(i:Int)≤(n:Int):=by omega
 clear hkk hik hold hROW hG hRl
 have mixed:Tryz.prog.follows .mixedOrders=true:=by kernel_rfl
 go_enter Tryz.func140,Tryz.ntmps140
 go_wp2_with (first
  |(at_builtin;refine Lib.wpList_append_run _ rfl _ _ _ _ rfl _ _ rfl rfl _ _ (hrz _) ?_)
  |(at_builtin;refine wpList_copy_runI _ rfl _ _ 27 27 rfl _ _ rfl rfl (hcpA _ hE1 hE2 _ _) ?_)
  |(at_builtin;refine wpList_copy_runI _ rfl _ _ 27 27 rfl _ _ rfl rfl (hcpB _ (fun _=>rfl) (fun _=>rfl) _ _ _) ?_))
 go_region_law_o (refine step_copy_runI rfl _ _ 27 27 rfl (.slice (some ⟨w.heap.size,(i+1)*2,none⟩) (n-i) (G-(i+1))) (.slice (some ⟨b,i*2,none⟩) (n-i) (c-i)) (by simp [Act.eval,Act.put]) (by simp [Act.eval,Act.put]) (hcpB _ hF1 hF2 3 (G-(i+1)) (c-i)) ?_)
 go_wp2
 go_ret
 exact ⟨rfl,rfl⟩
set_option maxHeartbeats 4000000 in
set_option maxRecDepth 100000 in
theorem zyM (b n c i vb vc:Nat) (cs vs:List Value) (w:World) (hi:i<n) (hroom:n+1≤c) (hc63:c≤9223372036854775807) (hvb:vb≠b)
  (hcl:cs.length=n*11) (hvl:vs.length=11)
  (hcs:∀j v,cs[j]? =some v→w.cell? ⟨b,j,none⟩=some v) (hsp:∀j,j<(n+1)*11→(w.cell? ⟨b,j,none⟩).isSome=true) (hfz:∀j,j<(n+1)*11→w.frozen? ⟨b,j,none⟩=false)
  (hvs:∀j v,vs[j]? =some v→w.cell? ⟨vb,j,none⟩=some v) (h1c:∀v∈cs,v.oneCell'=true) (h1v:∀v∈vs,v.oneCell'=true)
  (tA tB:TypeId) (kA kB:Nat) (hsa:w.shape? vb=some (tA,kA)) (hsb:w.shape? b=some (tB,kB)) (hkB:kB≠0) (hfa:w.frozen? ⟨vb,0,none⟩=false) (hfe:w.frozen? ⟨vb,kA,none⟩=false):
  Calls Tryz.prog 129 #[.slice (some ⟨b,0,none⟩) n c,.int .i64 i,.slice (some ⟨vb,0,none⟩) 1 vc] w fun e w'=>
   e=.returned (.slice (some ⟨b,0,none⟩) (n+1) c)∧w'=(w.drew.setCells b ((i+1)*11) (cs.drop (i*11))).setCells b (i*11) vs:=by
 have hz2:¬((i:Int)=(n:Int)):=by omega
 have hov:∀lb cb,(callFunc 198 #[.slice (some ⟨vb,0,none⟩) 1 vc,.slice (some ⟨b,(i+1)*11,none⟩) lb cb]).run Tryz.prog w=.ok (.value (.bool false)) w:=fun lb cb=>by
  rw [run_callFunc_extern Tryz.func198 (by kernel_rfl) (by kernel_rfl) (by kernel_rfl) (e:=Extern.SlicesOverlaps.overlaps #[31,31] #[4]) (by kernel_rfl),
   Lib.run_overlaps_apart w 31 4 57 Tryz.underlying31 11 Tryz.sizeOf57 ⟨vb,0,none⟩ ⟨b,(i+1)*11,none⟩ 1 vc lb cb hvb tA tB kA kB hsa hsb hkB hfa hfe]
  rfl
 have hdl:(cs.drop (i*11)).length=(n-i)*11:=by rw [ya2,hcl];omega
 have hw1:IntKind.i64.wrap ((i:Int)+1)=(i:Int)+1:=by rw [IntKind.wrap_i64];omega
 have hw2:IntKind.i64.wrap ((n:Int)+1)=(n:Int)+1:=by rw [IntKind.wrap_i64];omega
 have hb1:(0:Int)≤(i:Int)+1:=by omega
 have hin:i≤n:=by omega
 have htn:((i:Int)+1).toNat=i+1:=by omega
 have hb2:¬(c=i+1):=by omega
 have hb3:(i:Int)≤(n:Int)+1:=by omega
 have hb4:¬(c=i):=by omega
 have hcp1:∀ty dc sc,(Builtin.copy_ #[31,31] ty #[.slice (some ⟨b,(i+1)*11,none⟩) (n-i) dc,.slice (some ⟨b,i*11,none⟩) (n+1-i) sc]).run Tryz.prog w.drew=.ok (goInt ((n-i:Nat):Int)) (w.drew.setCells b ((i+1)*11) (cs.drop (i*11))):=fun ty dc sc=>
  zcQ w.drew _ _ ty 57 11 b ((i+1)*11) (n-i) dc ⟨b,i*11,none⟩ (n+1-i) sc (cs.drop (i*11)) Tryz.underlying31 Tryz.sizeOf57 (n-i) (by simp only [yek];split<;>omega) hdl
   (fun j v hj=>by rw [Addr.add_lit];exact hcs (i*11+j) v (by rwa [ybz] at hj))
   (fun j hj=>hsp ((i+1)*11+j) (by rw [hdl] at hj;omega)) (fun j hj=>hfz ((i+1)*11+j) (by rw [hdl] at hj;omega)) (fun v hv=>h1c v (yau hv))
 obtain ⟨W1,hW1⟩:∃W1,W1=w.drew.setCells b ((i+1)*11) (cs.drop (i*11)):=⟨_,rfl⟩
 have hsp1:∀k,k<(n+1)*11→(W1.cell? ⟨b,k,none⟩).isSome=true:=fun k hk=>by
  rw [hW1]
  exact isSome_setCells b (cs.drop (i*11)) ((i+1)*11) w.drew (fun j hj=>hsp ((i+1)*11+j) (by rw [hdl] at hj;omega)) _ (hsp k hk)
 have hcp2:∀(W:World),(∀x,W.cell? x=W1.cell? x)→(∀x,W.frozen? x=W1.frozen? x)→∀ty dc,(Builtin.copy_ #[31,31] ty #[.slice (some ⟨b,i*11,none⟩) (n+1-i) dc,.slice (some ⟨vb,0,none⟩) 1 vc]).run Tryz.prog W=.ok (goInt ((1:Nat):Int)) (W.setCells b (i*11) vs):=fun W hWc hWf ty dc=>
  zcQ W _ _ ty 57 11 b (i*11) (n+1-i) dc ⟨vb,0,none⟩ 1 vc vs Tryz.underlying31 Tryz.sizeOf57 1 (by simp only [yek];split<;>omega) (by rw [hvl])
   (fun j v hj=>by
    rw [Addr.add_lit,ybe,hWc,hW1,yde b _ _ _ _ (fun h _=>absurd h hvb)]
    exact hvs j v hj)
   (fun j hj=>by rw [hWc];exact hsp1 (i*11+j) (by omega)) (fun j hj=>by rw [hWf,hW1,ydp];exact hfz (i*11+j) (by omega)) h1v
 rw [←hW1] at hcp1
 have mixed:Tryz.prog.follows .mixedOrders=true:=by kernel_rfl
 go_enter Tryz.func129,Tryz.ntmps129
 go_wp2_with (simp only [hov])
 go_region_law_o (refine step_copy_runI rfl _ _ 31 31 rfl _ _ (by simp [Act.eval,Act.put]) (by simp [Act.eval,Act.put]) (hcp1 _ _ _) ?_)
 go_wp2_with (at_builtin;refine wpList_copy_runI _ rfl _ _ 31 31 rfl _ _ rfl rfl (hcp2 _ (fun _=>rfl) (fun _=>rfl) _ _) ?_)
 go_ret
 first|exact ⟨rfl,rfl⟩|exact ⟨rfl,by rw [hW1]⟩
set_option maxHeartbeats 4000000 in
set_option maxRecDepth 100000 in
theorem zze (b n c i vb vc:Nat) (cs vs:List Value) (w:World) (hi:i<n) (hnc:n≤c) (hroom:c<n+1) (hbig:(n+1)*128≤140737488355328)
  (hcl:cs.length=n*11) (hvl:vs.length=11)
  (hcs:∀j v,cs[j]? =some v→w.cell? ⟨b,j,none⟩=some v)
  (hvs:∀j v,vs[j]? =some v→w.cell? ⟨vb,j,none⟩=some v) (h1c:∀v∈cs,v.oneCell'=true) (h1v:∀v∈vs,v.oneCell'=true)
  (i0:TypeInfo) (z:Value) (hi0:Tryz.prog.info? 57=some i0) (hz0:i0.zero=some z) (hzs:i0.size=11) (hzb:i0.bytes=128) (hzc:z.cells.size=11):
  Calls Tryz.prog 129 #[.slice (some ⟨b,0,none⟩) n c,.int .i64 i,.slice (some ⟨vb,0,none⟩) 1 vc] w fun e w'=>
   e=.returned (.slice (some ⟨w.heap.size,0,none⟩) (n+1) (grownCap w (n+1) c 57))∧
   w'=(((w.alloc (.cells ((cs.take (i*11)).toArray++Builtin.zeroCells z.cells (n+1-i)++Builtin.zeroCells z.cells (grownCap w (n+1) c 57-(n+1))) 57)).drew.setCells w.heap.size (i*11) vs).drew).setCells w.heap.size ((i+1)*11) (cs.drop (i*11)):=by
 have hz2:¬((i:Int)=(n:Int)):=by omega
 have hz3:(c:Int)<(n:Int)+1:=by omega
 have hsz:=Tryz.sizeOf57
 have hbw:b<w.heap.size:=block_lt_of_cell (hcs 0 _ (yad (by omega)))
 have hvw:vb<w.heap.size:=block_lt_of_cell (hvs 0 _ (yad (by omega)))
 have hkk:(n:Int)+1-(i:Int)=((n+1-i:Nat):Int):=by omega
 have hik:i+(n+1-i)=n+1:=by omega
 have hold:(Builtin.firstCells i0.size i (.slice (some ⟨b,0,none⟩) i c)).run Tryz.prog w.drew=.ok (cs.take (i*11)).toArray w.drew:=by
  rw [hzs]
  exact run_firstCells_some w.drew 11 i ⟨b,0,none⟩ i c (cs.take (i*11)) (by rw [yan];omega) (fun j v hj=>by
   rw [Addr.add_lit,ybe]
   rw [ybo] at hj
   split at hj
   ·exact hcs j v hj
   ·cases hj)
 have hrz:∀ty,(Builtin.append_ #[31,3] ty #[.slice (some ⟨b,0,none⟩) i c,.int .i64 ((n:Int)+1-(i:Int))]).run Tryz.prog w=
   .ok (.slice (some ⟨w.heap.size,0,none⟩) (n+1) (grownCap w (n+1) c 57)) (w.drew.alloc (.cells ((cs.take (i*11)).toArray++Builtin.zeroCells z.cells (n+1-i)++Builtin.zeroCells z.cells (grownCap w (n+1) c 57-(n+1))) 57)):=fun ty=>by
  have h:=Lib.run_append_grow_zeros w 31 3 ty 57 i0 _ .i64 .i64 Tryz.underlying31 Tryz.underlying3 hi0 hz0 (some ⟨b,0,none⟩) i c (cs.take (i*11)) hold (n+1-i) (by omega) (by omega) (by omega) (by omega) (by rw [hzb];omega) (by rw [hzb,hik];exact growslice_fits hroom hbig)
  rw [hik] at h
  rw [hkk]
  exact h
 obtain ⟨G,hG⟩:∃G,G=grownCap w (n+1) c 57:=⟨_,rfl⟩
 obtain ⟨ROW,hROW⟩:∃ROW:Array Value,ROW=(cs.take (i*11)).toArray++Builtin.zeroCells z.cells (n+1-i)++Builtin.zeroCells z.cells (G-(n+1)):=⟨_,rfl⟩
 rw [←hG] at hrz⊢
 rw [←hROW] at hrz⊢
 have hRl:(n+1)*11≤ROW.size:=by
  rw [hROW]
  simp only [yeb,yec,yan,size_zeroCells,hzc,hcl]
  omega
 obtain ⟨W1,hW1⟩:∃W1,W1=w.drew.alloc (.cells ROW 57):=⟨_,rfl⟩
 rw [←hW1] at hrz
 have hN:∀j,j<(n+1)*11→(W1.cell? ⟨w.heap.size,j,none⟩).isSome=true:=fun j hj=>by
  rw [hW1,World.cell?_alloc_at (w:=w.drew) ROW _ w.heap.size j rfl,ybx (by omega)];rfl
 have hNf:∀j,W1.frozen? ⟨w.heap.size,j,none⟩=false:=fun j=>by rw [hW1];exact World.frozen?_alloc_at (w:=w.drew) ROW _ w.heap.size j rfl
 have hOb:∀j v,w.cell? ⟨b,j,none⟩=some v→W1.cell? ⟨b,j,none⟩=some v:=fun j v h=>by rw [hW1,yd6 (w:=w.drew) _ b j hbw];exact h
 have hOv:∀j v,w.cell? ⟨vb,j,none⟩=some v→W1.cell? ⟨vb,j,none⟩=some v:=fun j v h=>by rw [hW1,yd6 (w:=w.drew) _ vb j hvw];exact h
 have hcpA:∀(W:World),(∀x,W.cell? x=W1.cell? x)→(∀x,W.frozen? x=W1.frozen? x)→∀ty dc,(Builtin.copy_ #[31,31] ty #[.slice (some ⟨w.heap.size,i*11,none⟩) (n+1-i) dc,.slice (some ⟨vb,0,none⟩) 1 vc]).run Tryz.prog W=.ok (goInt ((1:Nat):Int)) (W.setCells w.heap.size (i*11) vs):=fun W hWc hWf ty dc=>
  zcQ W _ _ ty 57 11 w.heap.size (i*11) (n+1-i) dc ⟨vb,0,none⟩ 1 vc vs Tryz.underlying31 hsz 1 (by simp only [yek];split<;>omega) (by rw [hvl])
   (fun j v hj=>by rw [Addr.add_lit,ybe,hWc];exact hOv _ v (hvs j v hj))
   (fun j hj=>by rw [hWc];exact hN (i*11+j) (by omega)) (fun j hj=>by rw [hWf];exact hNf _) h1v
 have hGn:n+1≤G:=by rw [hG];exact grownCap_ge w _ _ _
 have hG63:G≤9223372036854775807:=by
  have:=grownCap_le_maxLen w (n+1) c 57 (by unfold maxLen;omega)
  rw [←hG] at this
  unfold maxLen at this
  omega
 have hGi:¬(G=i):=by omega
 have hGim:¬(G=i+1):=by omega
 have hci:¬(c=i):=by omega
 have hbN:b≠w.heap.size:=by omega
 have hdl:(cs.drop (i*11)).length=(n-i)*11:=by rw [ya2,hcl];omega
 have hcpB:∀(W:World),(∀x,W.cell? x=(W1.setCells w.heap.size (i*11) vs).cell? x)→(∀x,W.frozen? x=(W1.setCells w.heap.size (i*11) vs).frozen? x)→∀ty dc sc,(Builtin.copy_ #[31,31] ty #[.slice (some ⟨w.heap.size,(i+1)*11,none⟩) (n-i) dc,.slice (some ⟨b,i*11,none⟩) (n-i) sc]).run Tryz.prog W=.ok (goInt ((n-i:Nat):Int)) (W.setCells w.heap.size ((i+1)*11) (cs.drop (i*11))):=fun W hWc hWf ty dc sc=>
  zcQ W _ _ ty 57 11 w.heap.size ((i+1)*11) (n-i) dc ⟨b,i*11,none⟩ (n-i) sc (cs.drop (i*11)) Tryz.underlying31 hsz (n-i) (by simp only [yek];split<;>omega) hdl
   (fun j v hj=>by
    rw [Addr.add_lit,hWc,yde _ _ _ _ _ (fun h _=>absurd h hbN)]
    exact hOb _ v (hcs (i*11+j) v (by rwa [ybz] at hj)))
   (fun j hj=>by rw [hWc];exact isSome_setCells w.heap.size vs (i*11) W1 (fun t ht=>hN (i*11+t) (by omega)) _ (hN ((i+1)*11+j) (by rw [hdl] at hj;omega)))
   (fun j hj=>by rw [hWf,ydp];exact hNf _) (fun v hv=>h1c v (yau hv))
 subst hW1
 have hE1:∀x,((w.alloc (.cells ROW 57)).drew).cell? x=(w.drew.alloc (.cells ROW 57)).cell? x:=fun x=>rfl
 have hE2:∀x,((w.alloc (.cells ROW 57)).drew).frozen? x=(w.drew.alloc (.cells ROW 57)).frozen? x:=fun x=>rfl
 have hF1:∀x,(((w.alloc (.cells ROW 57)).drew.setCells w.heap.size (i*11) vs).drew).cell? x=((w.drew.alloc (.cells ROW 57)).setCells w.heap.size (i*11) vs).cell? x:=fun x=>rfl
 have hF2:∀x,(((w.alloc (.cells ROW 57)).drew.setCells w.heap.size (i*11) vs).drew).frozen? x=((w.drew.alloc (.cells ROW 57)).setCells w.heap.size (i*11) vs).frozen? x:=fun x=>rfl
 have hw1:IntKind.i64.wrap ((i:Int)+1)=(i:Int)+1:=by rw [IntKind.wrap_i64];omega
 have hw2:IntKind.i64.wrap ((n:Int)+1)=(n:Int)+1:=by rw [IntKind.wrap_i64];omega
 have hb1:(0:Int)≤(i:Int)+1:=by omega
 have hin:i≤n:=by omega
 have htn:((i:Int)+1).toNat=i+1:=by omega
 have hb3:(i:Int)≤(n:Int):=by omega
 clear hkk hik hold hROW hG hRl
 have mixed:Tryz.prog.follows .mixedOrders=true:=by kernel_rfl
 go_enter Tryz.func129,Tryz.ntmps129
 go_wp2_with (first
  |(at_builtin;refine Lib.wpList_append_run _ rfl _ _ _ _ rfl _ _ rfl rfl _ _ (hrz _) ?_)
  |(at_builtin;refine wpList_copy_runI _ rfl _ _ 31 31 rfl _ _ rfl rfl (hcpA _ hE1 hE2 _ _) ?_)
  |(at_builtin;refine wpList_copy_runI _ rfl _ _ 31 31 rfl _ _ rfl rfl (hcpB _ (fun _=>rfl) (fun _=>rfl) _ _ _) ?_))
 go_region_law_o (refine step_copy_runI rfl _ _ 31 31 rfl (.slice (some ⟨w.heap.size,(i+1)*11,none⟩) (n-i) (G-(i+1))) (.slice (some ⟨b,i*11,none⟩) (n-i) (c-i)) (by simp [Act.eval,Act.put]) (by simp [Act.eval,Act.put]) (hcpB _ hF1 hF2 3 (G-(i+1)) (c-i)) ?_)
 go_wp2
 go_ret
 exact ⟨rfl,rfl⟩
set_option maxHeartbeats 4000000 in
set_option maxRecDepth 100000 in
theorem z8X (b n c i m:Nat) (cs:List Value) (w:World) (hn:n=i+1+m) (hnc:n≤c) (hc63:c≤9223372036854775807)
  (hcl:cs.length=n*2)
  (hcs:∀j v,cs[j]? =some v→w.cell? ⟨b,j,none⟩=some v) (hfz:∀j,j<n*2→w.frozen? ⟨b,j,none⟩=false) (h1c:∀v∈cs,v.oneCell'=true)
  (i0:TypeInfo) (z:Value) (hi0:Tryz.prog.info? 101=some i0) (hz0:i0.zero=some z) (hzs:i0.size=2) (hzc:z.cells.size=2) (hz1:∀v∈z.cells.toList,v.oneCell'=true):
  Calls Tryz.prog 142 #[.slice (some ⟨b,0,none⟩) n c,.int .i64 i,.int .i64 ((i:Int)+1)] w fun e w'=>
   e=.returned (.slice (some ⟨b,0,none⟩) (i+m) c)∧w'=(w.drew.setCells b (i*2) (cs.drop ((i+1)*2))).setCells b ((i+m)*2) z.cells.toList:=by
 have hsz:=Tryz.sizeOf101
 have hsome:∀j,j<n*2→(w.cell? ⟨b,j,none⟩).isSome=true:=fun j hj=>by
  rw [hcs j _ (yad (by omega))];rfl
 have hdl:(cs.drop ((i+1)*2)).length=m*2:=by rw [ya2,hcl];omega
 obtain ⟨news,hnews⟩:∃news,news=cs.drop ((i+1)*2):=⟨_,rfl⟩
 rw [←hnews] at hdl⊢
 obtain ⟨A,hA,hsrc⟩:∃A:Addr,(if c=i+1 then some (⟨b,0,none⟩:Addr) else some ⟨b,(i+1)*2,none⟩)=some A∧Hid (∀t u,news[t]? =some u→w.drew.cell? (A.add t)=some u):=by
  by_cases h:c=i+1
  ·refine ⟨⟨b,0,none⟩,by simp [h],fun t u hu=> ?_⟩
   have h0:news.length=0:=by rw [hdl];omega
   rw [ydh.1 h0] at hu
   simp at hu
  ·refine ⟨⟨b,(i+1)*2,none⟩,by simp [h],fun t u hu=> ?_⟩
   rw [Addr.add_lit]
   rw [hnews,ybz] at hu
   exact hcs _ u hu
 have s1:Hid (news.length=m*2):=hdl
 have s2:Hid (∀u∈news,u.oneCell'=true):=fun u hu=>h1c u (yau (by rw [←hnews];exact hu))
 have s3:Hid (∀t,t<news.length→(w.drew.cell? ⟨b,0+i*2+t,none⟩).isSome=true∧w.drew.frozen? ⟨b,0+i*2+t,none⟩=false):=by
  intro t ht
  rw [hdl] at ht
  exact ⟨hsome (0+i*2+t) (by omega),hfz (0+i*2+t) (by omega)⟩
 obtain ⟨W1,hW1⟩:∃W1,W1=w.drew.setCells b (0+i*2) news:=⟨_,rfl⟩
 have hW1c:∀k,k<n*2→(W1.cell? ⟨b,k,none⟩).isSome=true:=fun k hk=>by
  rw [hW1]
  exact isSome_setCells b news (0+i*2) w.drew (fun j hj=>hsome (0+i*2+j) (by rw [hdl] at hj;omega)) _ (hsome k hk)
 have hst:=run_storeCells_cells (P:=Tryz.prog) b ((i+m)*2) z.cells.toList 0 W1 (fun j hj=>by simpa using hW1c ((i+m)*2+j) (by simp at hj;omega)) (fun j hj=>by rw [hW1,ydp];simpa using hfz ((i+m)*2+j) (by simp at hj;omega)) hz1
 rw [ycb] at hst
 have hzr:∀w,(zeroValue 101).run Tryz.prog w=.ok z w:=fun w=>by
  simp [zeroValue,typeInfo,hi0,hz0]
 have hmf:(Builtin.zeroCells z.cells 1).toList=z.cells.toList:=by
  have h:(Builtin.zeroCells z.cells 1).toList=(List.replicate 1 z.cells.toList).flatten:=zgH z.cells (by omega) 1
  rw [h];simp
 have hcl:∀ty cc,(Builtin.clear_ #[27] ty #[.slice (some ⟨b,(i+m)*2,none⟩) 1 cc]).run Tryz.prog W1=.ok (.tuple #[]) (W1.setCells b ((i+m)*2) z.cells.toList):=fun ty cc=>by
  simp [Builtin.clear_,run_underlying Tryz.underlying27,hzr,hmf,hst]
 rw [ybe] at hW1
 rw [hW1] at hcl
 have hic:i≤c:=by omega
 have hjc:i+1≤c:=by omega
 have hne:¬((i:Int)=(i:Int)+1):=by omega
 have hw1:(0:Int)≤(i:Int)+1:=by omega
 have htn:((i:Int)+1).toNat=i+1:=by omega
 have e1:i+1+m-(i+m)=1:=by omega
 have e2:¬(c=i+m):=by omega
 have e3:(i:Int)≤(i:Int)+1:=by omega
 have e4:(i:Int)+1≤(i:Int)+1+m:=by omega
 have e5:(i:Int)+1≤(c:Int):=by omega
 have e6:i+m≤i+1+m:=by omega
 have e7:(i:Int)+m≤(i:Int)+1+m:=by omega
 have e8:(i:Int)≤(i:Int)+1+m:=by omega
 obtain ⟨zc,hzc2⟩:∃zc,zc=z.cells.toList:=⟨_,rfl⟩
 rw [←hzc2] at hcl⊢
 clear hW1c hst hmf hsome hnews hW1 hzc2 hzr hzc hz1
 subst hn
 have mixed:Tryz.prog.follows .mixedOrders=true:=by kernel_rfl
 go_enter Tryz.func142,Tryz.ntmps142
 go_wp2_with fail
 go_region_law_o (refine step_append_room rfl (.tmp 22) (.tmp 25) 27 rfl 101 i0 2 Tryz.underlying27 hi0 hzs b 0 i c (by simp [Act.eval,Act.put]) A m (c-(i+1)) news (by simp [Act.eval,Act.put]) s1.out hsrc.out s2.out (by omega) s3.out ?_;rw [ybe])
 go_wp2
 go_ret
 exact ⟨rfl,rfl⟩
end Go.Proofs.YtdbhocoeolhjhaaGreatDoor
end
section
namespace Go.Abs
open Go.RowKit Go.Proofs
variable {G:Globs}
section
variable {P:Program} {base:Nat} {κ:Key} {Im:Addr→Prop} {w w':World} {σ:zac}
theorem zwx {id e size:Nat} {els:List (List AV)} {v:Value} (hs:SRel base κ Im σ w) (hent:σ[id]? =some (.row e size els false)) (hk:κ id els.length=some v) (hn:0<els.length):
  ∃b cap cur xs,v=.slice (some ⟨b,0,none⟩) els.length cap∧base≤b∧w.heap[b]? =some (.cells cur e (0,0))∧els.length≤cap∧cap≤maxLen∧cur.size=cap*size∧cur.toList.take (els.length*size)=xs∧xs.length=els.length*size∧VRL κ Im w els.flatten xs∧
   0<size∧(∀c∈els,c.length=size)∧(∀c∈els,∀x∈c,x.one=true)∧(∀a,Im a→a.block≠b)∧(Entry.row e size els false).block κ id=some b:=by
 obtain ⟨v0,xs,hv0,hown,hvr,hpos2,hlens,hones0,hir,him⟩:=hs.ent _ _ hent
 rw [hk] at hv0;cases hv0
 rcases hown.2 with ⟨_,h0⟩|⟨b,cap,cur,h1,h2,h3,h4,h5,h6,h7⟩
 ·omega
 ·subst h1
  exact ⟨b,cap,cur,xs,rfl,h2,h3,h4,h5,h6,h7,hown.1,hvr,hpos2,hlens,hones0,(fun a ha hab=>by have:=((him b rfl).1 a ha hab).1;cases this),by simp [Entry.block,hk,Value.ownBlock]⟩
theorem zw2 {id e size:Nat} {els els':List (List AV)} {v v':Value} {xs':List Value} (hs:SRel base κ Im σ w) (hent:σ[id]? =some (.row e size els false)) (hk:κ id els.length=some v) (hn:els.length<els'.length)
  (p1:w'.ownsRow base e size v' els'.length xs') (p2:w.grownBy w' v.ownBlock) (p3:∀g,v'.ownBlock=some g→v.ownBlock=some g∨w.heap.size≤g) (hvr:VRL κ Im w els'.flatten xs') (hlen:∀c∈els',c.length=size) (hone:∀c∈els',∀x∈c,x.one=true):
  ∃κ',VR κ' Im w' (.row id els'.length) v'∧SRel base κ' Im (σ.set id (.row e size els' false)) w'∧Grow base κ Im w κ' Im w':=by
 obtain ⟨v0,xs,hv0,hown,_,hpos2,hlens,hones0,hir,him⟩:=hs.ent _ _ hent
 rw [hk] at hv0;cases hv0
 have hfree:∀u,κ id els'.length=some u→False:=fun u h=>by
  obtain ⟨e',h1,h2⟩:=hs.dom _ _ _ h
  rw [hent] at h1;cases h1
  simp only [Entry.ver] at h2;omega
 have hκ:∀i' k u,κ i' k=some u→κ.with id els'.length v' i' k=some u:=by
  intro i' k u hu
  unfold Key.with
  split
  ·rename_i hcc;obtain ⟨rfl,rfl⟩:=hcc;exact (hfree _ hu).elim
  ·exact hu
 have hblk0:(Entry.row e size els false).block κ id=v.ownBlock:=by simp [Entry.block,hk]
 have hblk1:(Entry.row e size els' false).block (κ.with id els'.length v') id=v'.ownBlock:=by simp [Entry.block,Key.with_same]
 have hnot:∀ad,Im ad→v.ownBlock≠some ad.block:=fun ad ha hab=>by
  have:=((him _ hab).1 ad ha rfl).1;cases this
 have hcell:∀ad,Im ad→w'.cell? ad=w.cell? ad:=fun ad ha=>ya8 (p2.block _ (hs.imlt ad ha).1 (fun h=>hnot ad ha h.symm))
 refine ⟨κ.with id els'.length v', ?_, ?_,⟨hκ,fun _ h=>h,hcell,fun ad h=> .inl h,⟨p2.os,p2.tape,p2.output,p2.size,fun k hk'=>p2.block k (yb9 hk' hs.hb) (fun hkk=>by have:=hown.lt k hkk.symm;omega)⟩⟩⟩
 ·obtain ⟨g,cap2,hsl⟩:∃g cap,v'=.slice g els'.length cap:=by
   rcases p1.2 with ⟨h1,h2⟩|⟨g,cap,_,h1,_⟩
   ·omega
   ·exact ⟨_,_,h1⟩
  have:=Key.with_same κ id els'.length v'
  rw [hsl] at this⊢
  exact .row _ _ _ _ this
 ·refine hs.set hent _ hκ (fun i' k u h=> ?_) (by simp only [Entry.ver];omega) (fun _ h=>h) hcell (fun ad h=> .inl h) p2.size (fun k hk' hne=>p2.block k hk' (fun h=>hne (by rw [hblk0,h]))) ?_ (fun g hg=> ?_)
  ·unfold Key.with at h
   split at h
   ·rename_i hcc;exact .inr ⟨hcc.1,by rw [hcc.2];simp [Entry.ver]⟩
   ·exact .inl h
  ·refine ⟨v',xs',Key.with_same _ _ _ _,p1,⟨hvr.1,fun j h h'=>(hvr.2 j h h').mono hκ (fun _ h=>h) hcell⟩,hpos2,hlen,hone,fun h=>(by cases h),fun g hg=>⟨fun ad ha hab=> ?_,fun h=>by cases h⟩⟩
   rcases p3 g hg with h|h
   ·exact absurd (by rw [hab];exact h) (hnot ad ha)
   ·have:=(hs.imlt ad ha).1
    omega
  ·rw [hblk1] at hg
   rcases p3 g hg with h|h
   ·exact .inr (by rw [hblk0];exact h)
   ·exact .inl h
theorem z3F {id e size:Nat} {els els':List (List AV)} {v:Value} {xs':List Value} (hs:SRel base κ Im σ w) (hent:σ[id]? =some (.row e size els false)) (hk:κ id els.length=some v) (hn:els'.length=els.length)
  (p1:w'.ownsRow base e size v els.length xs') (p2:w.grownBy w' v.ownBlock) (hvr:VRL κ Im w els'.flatten xs') (hlen:∀c∈els',c.length=size) (hone:∀c∈els',∀x∈c,x.one=true):
  SRel base κ Im (σ.set id (.row e size els' false)) w'∧Grow base κ Im w κ Im w':=by
 obtain ⟨v0,xs,hv0,hown,_,hpos2,hlens,hones0,hir,him⟩:=hs.ent _ _ hent
 rw [hk] at hv0;cases hv0
 have hblk0:(Entry.row e size els false).block κ id=v.ownBlock:=by simp [Entry.block,hk]
 have hblk1:(Entry.row e size els' false).block κ id=v.ownBlock:=by simp [Entry.block,hk,hn]
 have hnot:∀ad,Im ad→v.ownBlock≠some ad.block:=fun ad ha hab=>by
  have:=((him _ hab).1 ad ha rfl).1;cases this
 have hcell:∀ad,Im ad→w'.cell? ad=w.cell? ad:=fun ad ha=>ya8 (p2.block _ (hs.imlt ad ha).1 (fun h=>hnot ad ha h.symm))
 refine ⟨?_,⟨fun _ _ _ h=>h,fun _ h=>h,hcell,fun ad h=> .inl h,⟨p2.os,p2.tape,p2.output,p2.size,fun k hk'=>p2.block k (yb9 hk' hs.hb) (fun hkk=>by have:=hown.lt k hkk.symm;omega)⟩⟩⟩
 refine hs.set hent _ (fun _ _ _ h=>h) (fun i' k u h=> .inl h) (by simp only [Entry.ver];omega) (fun _ h=>h) hcell (fun ad h=> .inl h) p2.size (fun k hk' hne=>p2.block k hk' (fun h=>hne (by rw [hblk0,h]))) ?_ (fun g hg=> .inr (by rw [hblk1] at hg;rw [hblk0];exact hg))
 exact ⟨v,xs',by rw [hn];exact hk,by rw [hn];exact p1,⟨hvr.1,fun j h h'=>(hvr.2 j h h').mono (fun _ _ _ h=>h) (fun _ h=>h) hcell⟩,hpos2,hlen,hone,fun h=>(by cases h),fun g hg=>⟨fun ad ha hab=>absurd (by rw [hab];exact hg) (hnot ad ha),fun h=>by cases h⟩⟩
theorem z1y {α:Type} (X xs vs:List α) (a k n N:Nat) (hX:X.take n=xs) (ha:a≤n) (hk:vs.length=k) (hn:xs.length=n) (hN:n+k≤X.length) (hNN:N=n+k):
  ((X.take (a+k)++xs.drop a++X.drop (a+k+(xs.drop a).length)).take a++vs++(X.take (a+k)++xs.drop a++X.drop (a+k+(xs.drop a).length)).drop (a+vs.length)).take N=xs.take a++vs++xs.drop a:=by
 subst hNN
 have h1:(X.take (a+k)).length=a+k:=by rw [yan];omega
 have h2:(X.take (a+k)++xs.drop a++X.drop (a+k+(xs.drop a).length)).take a=xs.take a:=by
  rw [ya3,ycl (by omega),yd4,ybt (by omega),←hX,yd4,ybt ha]
 have h3:(X.take (a+k)++xs.drop a++X.drop (a+k+(xs.drop a).length)).drop (a+vs.length)=xs.drop a++X.drop (a+k+(xs.drop a).length):=by
  rw [hk,ya3,yd1,ybu (by omega),h1,ycx];rfl
 rw [h2,h3,←ya3]
 refine ycj ?_
 simp only [yag,yan,ya2]
 omega
theorem zzS {α:Type} (Y xs vs:List α) (a k n N:Nat) (hY:Y.take a=xs.take a) (ha:a≤n) (hk:vs.length=k) (hn:xs.length=n) (hN:n+k≤Y.length) (hNN:N=n+k):
  ((Y.take a++vs++Y.drop (a+vs.length)).take (a+k)++xs.drop a++(Y.take a++vs++Y.drop (a+vs.length)).drop (a+k+(xs.drop a).length)).take N=xs.take a++vs++xs.drop a:=by
 subst hNN
 have h1:(Y.take a++vs).length=a+k:=by rw [yag,yan];omega
 rw [ycj (l₁:=Y.take a++vs) h1,hY]
 refine ycj ?_
 simp only [yag,yan,ya2]
 omega
theorem z1k {α:Type} (X xs zs:List α) (a k n q:Nat) (hX:X.take n=xs) (hn:xs.length=n) (hq:q=n-k) (ha:a+k≤n) (hz:zs.length=k) (hN:n≤X.length):
  ((X.take a++xs.drop (a+k)++X.drop (a+(xs.drop (a+k)).length)).take q++zs++(X.take a++xs.drop (a+k)++X.drop (a+(xs.drop (a+k)).length)).drop (q+zs.length)).take n=xs.take a++xs.drop (a+k)++zs:=by
 subst hq
 have h1:(X.take a).length=a:=by rw [yan];omega
 have h2:X.take a=xs.take a:=by rw [←hX,yd4,ybt (by omega)]
 have h3:(X.take a++xs.drop (a+k)).length=n-k:=by rw [yag,h1,ya2];omega
 rw [ycj (l₁:=X.take a++xs.drop (a+k)) h3,←h2]
 refine ycj ?_
 simp only [yag,h1,ya2]
 omega
theorem zqS {f T:Nat} (K:Nat) (B:Nat) {z:List AV} (hz:zfl P T=some z) (hsz:sizeOf? P T=some K) (hzl:z.length=K) (hby:∀i,P.info? T=some i→i.bytes=B)
  (hshift:∀(b n c i vb vc:Nat) (cs vs:List Value) (w:World),i<n→n+1≤c→c≤9223372036854775807→vb≠b→cs.length=n*K→vs.length=K→
   (∀j v,cs[j]? =some v→w.cell? ⟨b,j,none⟩=some v)→(∀j,j<(n+1)*K→(w.cell? ⟨b,j,none⟩).isSome=true)→(∀j,j<(n+1)*K→w.frozen? ⟨b,j,none⟩=false)→
   (∀j v,vs[j]? =some v→w.cell? ⟨vb,j,none⟩=some v)→(∀v∈cs,v.oneCell'=true)→(∀v∈vs,v.oneCell'=true)→
   ∀(tA tB:TypeId) (kA kB:Nat),w.shape? vb=some (tA,kA)→w.shape? b=some (tB,kB)→kB≠0→w.frozen? ⟨vb,0,none⟩=false→w.frozen? ⟨vb,kA,none⟩=false→
   Calls P f #[.slice (some ⟨b,0,none⟩) n c,.int .i64 i,.slice (some ⟨vb,0,none⟩) 1 vc] w fun e w'=>
    e=.returned (.slice (some ⟨b,0,none⟩) (n+1) c)∧w'=(w.drew.setCells b ((i+1)*K) (cs.drop (i*K))).setCells b (i*K) vs)
  (hgrow:∀(b n c i vb vc:Nat) (cs vs:List Value) (w:World),i<n→n≤c→c<n+1→(n+1)*B≤140737488355328→cs.length=n*K→vs.length=K→
   (∀j v,cs[j]? =some v→w.cell? ⟨b,j,none⟩=some v)→(∀j v,vs[j]? =some v→w.cell? ⟨vb,j,none⟩=some v)→(∀v∈cs,v.oneCell'=true)→(∀v∈vs,v.oneCell'=true)→
   ∀(i0:TypeInfo) (z:Value),P.info? T=some i0→i0.zero=some z→i0.size=K→i0.bytes=B→z.cells.size=K→
   Calls P f #[.slice (some ⟨b,0,none⟩) n c,.int .i64 i,.slice (some ⟨vb,0,none⟩) 1 vc] w fun e w'=>
    e=.returned (.slice (some ⟨w.heap.size,0,none⟩) (n+1) (grownCap w (n+1) c T))∧
    w'=(((w.alloc (.cells ((cs.take (i*K)).toArray++Builtin.zeroCells z.cells (n+1-i)++Builtin.zeroCells z.cells (grownCap w (n+1) c T-(n+1))) T)).drew.setCells w.heap.size (i*K) vs).drew).setCells w.heap.size ((i+1)*K) (cs.drop (i*K)))
  {σ:zac} {id jd T2:Nat} {els:List (List AV)} {c:List AV} {i:Nat} (he:σ[id]? =some (.row T K els false)) (hj:σ[jd]? =some (.row T2 K [c] false)) (hij:id≠jd) (hi:i<els.length) (hbig:(els.length+1)*B≤140737488355328) (h63:els.length+1≤maxLen):
  ACalls P f [.row id els.length,.int .i64 i,.row jd 1] σ (fun r σ'=>r=.row id (els.length+1)∧σ'=σ.set id (.row T K (els.take i++c::els.drop i) false)):=by
 intro base κ Im w vs hs hv
 obtain ⟨u1,u2,u3,rfl,hv1,hv2,hv3⟩:∃a b c',vs= [a,b,c']∧VR κ Im w (.row id els.length) a∧VR κ Im w (.int .i64 i) b∧VR κ Im w (.row jd 1) c':=by
  match vs,hv.1 with
  | [a,b,c'],_=>exact ⟨a,b,c',rfl,hv.2 0 (by simp) (by simp),hv.2 1 (by simp) (by simp),hv.2 2 (by simp) (by simp)⟩
 obtain rfl:=hv2.int_inv
 obtain ⟨g1,cap1,rfl,hk1⟩:=hv1.row_inv
 obtain ⟨g2,cap2,rfl,hk2⟩:=hv3.row_inv
 have hk2':κ jd ([c]:List (List AV)).length=some (.slice g2 1 cap2):=hk2
 obtain ⟨b,cap,cur,xs,e1,hb,hheap,hlec,hmax,hcs,htake,hxl,hvr,hpos,hlens,hones,hIm,hblk⟩:=zwx hs he hk1 (by omega)
 obtain ⟨vb,vcap,vcur,ys,e2,hb2,hheap2,hlec2,hmax2,hcs2,htake2,hyl,hvr2,_,hlens2,hones2,_,hblk2⟩:=zwx hs hj hk2' (by simp)
 simp only [Value.slice.injEq] at e1 e2
 obtain ⟨rfl,_,rfl⟩:=e1
 obtain ⟨rfl,_,rfl⟩:=e2
 have hne:vb≠b:=fun h=>by subst h;exact hs.sep _ _ _ _ _ hij he hj hblk hblk2
 have hcl:c.length=K:=hlens2 c (by simp)
 simp only [ybf,ycz,ybe,yej] at hyl htake2 hlec2
 simp only [ybd,List.flatten_nil,yby] at hvr2
 obtain ⟨ti,zv,hti,htz,hzm⟩:=zeW hz
 obtain ⟨hzr,hzo,_⟩:=zbW (Im:=Im) (w:=w) hzm
 have hzs:zv.cells.size=K:=by rw [←hzl,hzr.1];simp
 obtain ⟨ti',hti',htsz⟩:=sizeOf?_ok hsz
 rw [hti] at hti';cases hti'
 have hmul1:=yas K hlec
 have hi1:i*K+K≤els.length*K:=by
  have:=yas K (show i+1≤els.length by omega)
  rw [ya6] at this;omega
 have hsucc:(els.length+1)*K=els.length*K+K:=by rw [ya6];omega
 have hisucc:(i+1)*K=i*K+K:=by rw [ya6];omega
 have hcells:∀j v,xs[j]? =some v→w.cell? ⟨b,j,none⟩=some v:=fun j v hjv=>by
  rw [cell_of_row w b j cur T (0,0) hheap]
  rw [←htake,ybo] at hjv
  split at hjv
  ·rw [ycp] at hjv;exact hjv
  ·cases hjv
 have hcells2:∀j v,ys[j]? =some v→w.cell? ⟨vb,j,none⟩=some v:=fun j v hjv=>by
  rw [cell_of_row w vb j vcur T2 (0,0) hheap2]
  rw [←htake2,ybo] at hjv
  split at hjv
  ·rw [ycp] at hjv;exact hjv
  ·cases hjv
 have h1c:∀v∈xs,v.oneCell'=true:=zeT hvr fun c hc=>by
  obtain ⟨l,hl,hcl⟩:=ybk.1 hc
  exact hones l hl c hcl
 have h1v:∀v∈ys,v.oneCell'=true:=zeT hvr2 fun x hx=>hones2 c (by simp) x hx
 have hnl:(els.take i++c::els.drop i).length=els.length+1:=by simp;omega
 have hflat:(els.take i++c::els.drop i).flatten=els.flatten.take (i*K)++c++els.flatten.drop (i*K):=by
  simp only [ycd,ybd,zcz _ _ hlens,zdE _ _ hlens,ya3]
 have hvr':VRL κ Im w (els.take i++c::els.drop i).flatten (xs.take (i*K)++ys++xs.drop (i*K)):=by
  rw [hflat]
  exact ((hvr.take _).append hvr2).append (hvr.drop _)
 have hlen':∀d∈els.take i++c::els.drop i,d.length=K:=fun d hd=>by
  rcases yai.1 hd with h|h
  ·exact hlens d (yak h)
  ·rcases ybb.1 h with rfl|h
   ·exact hcl
   ·exact hlens d (yau h)
 have hone':∀d∈els.take i++c::els.drop i,∀x∈d,x.one=true:=fun d hd=>by
  rcases yai.1 hd with h|h
  ·exact hones d (yak h)
  ·rcases ybb.1 h with rfl|h
   ·exact hones2 d (by simp)
   ·exact hones d (yau h)
 have hxl':(xs.take (i*K)++ys++xs.drop (i*K)).length=(els.length+1)*K:=by
  simp only [yag,yan,ya2,hyl];omega
 unfold maxLen at hmax h63
 by_cases hroom:els.length+1≤cap1
 ·have hmul2:=yas K hroom
  have hthere:=zeM (off:=0) (n:=(els.length+1)*K) hheap (by omega)
  refine (hshift b els.length cap1 i vb cap2 xs ys w hi hroom (by omega) hne hxl (by omega) hcells (fun j hj=>by simpa using (hthere j hj).1) (fun j hj=>by simpa using (hthere j hj).2) hcells2 h1c h1v T2 T vcur.size cur.size (by simp [World.shape?,hheap2]) (by simp [World.shape?,hheap]) (by
   have:0<cap1*K:=Nat.mul_pos (by omega) hpos
   omega) (by simp [World.frozen?,hheap2]) (by simp [World.frozen?,hheap2])).mono ?_
  rintro e w' ⟨rfl,rfl⟩
  have hdl:(xs.drop (i*K)).length=els.length*K-i*K:=by rw [ya2,hxl]
  obtain ⟨c1,g1,g2,g3,g4,g5,g6,g7⟩:=zb8 b (xs.drop (i*K)) ((i+1)*K) w.drew cur T hheap (by rw [hdl];omega)
  have hc1s:c1.size=cur.size:=by
   have:=congrArg List.length g2
   simp only [yag,yan,ya2,ya4,hdl] at this
   omega
  obtain ⟨c2,q1,q2,q3,q4,q5,q6,q7⟩:=zb8 b ys (i*K) _ c1 T g1 (by omega)
  have hc2s:c2.size=c1.size:=by
   have:=congrArg List.length q2
   simp only [yag,yan,ya2,ya4] at this
   omega
  have hfin:c2.toList.take ((els.length+1)*K)=xs.take (i*K)++ys++xs.drop (i*K):=by
   rw [q2,g2,hisucc]
   exact z1y cur.toList xs ys (i*K) K (els.length*K) _ htake (by omega) (by omega) hxl (by simp only [ya4];omega) hsucc
  obtain ⟨κ',r1,r2,r3⟩:=zw2 (w':=(w.drew.setCells b ((i+1)*K) (xs.drop (i*K))).setCells b (i*K) ys) (els':=els.take i++c::els.drop i) (v':=.slice (some ⟨b,0,none⟩) (els.length+1) cap1) hs he hk1 (by omega)
   ⟨by rw [hnl];exact hxl',.inr ⟨b,cap1,c2,by rw [hnl],hb,q1,by omega,by unfold maxLen;omega,by omega,by rw [hnl];exact hfin⟩⟩
   ⟨q5.trans g5,q6.trans g6,q7.trans g7,by rw [q4,g4];exact yaq _,fun k hk hkn=>by rw [q3 k (fun h=>hkn (by rw [h];rfl)),g3 k (fun h=>hkn (by rw [h];rfl))];rfl⟩ (fun g hg=> .inl hg) hvr' hlen' hone'
  rw [hnl] at r1
  exact ⟨_,_,_,κ',Im,rfl,⟨rfl,rfl⟩,r2,r3,r1⟩
 ·have hbz:ti.bytes=B:=hby _ hti
  refine (hgrow b els.length cap1 i vb cap2 xs ys w hi hlec (by omega) hbig hxl (by omega) hcells hcells2 h1c h1v ti zv hti htz htsz hbz hzs).mono ?_
  rintro e w' ⟨rfl,rfl⟩
  obtain ⟨gc,hgc⟩:∃gc,gc=grownCap w (els.length+1) cap1 T:=⟨_,rfl⟩
  have hge:=grownCap_ge w (els.length+1) cap1 T
  have hgm:=grownCap_le_maxLen w (els.length+1) cap1 T (by unfold maxLen;omega)
  rw [←hgc] at hge hgm⊢
  obtain ⟨ROW,hROW⟩:∃ROW:Array Value,ROW=(xs.take (i*K)).toArray++Builtin.zeroCells zv.cells (els.length+1-i)++Builtin.zeroCells zv.cells (gc-(els.length+1)):=⟨_,rfl⟩
  rw [←hROW]
  have hRs:ROW.size=gc*K:=by
   rw [hROW]
   simp only [yeb,yec,yan,size_zeroCells,hzs,hxl]
   rw [ybt (by omega),Nat.sub_mul,Nat.sub_mul]
   have:=yas K hge
   omega
  have hRt:ROW.toList.take (i*K)=xs.take (i*K):=by
   rw [hROW]
   simp only [Array.toList_append,ya3]
   rw [ycj (by rw [yan];omega)]
  have h0:(w.alloc (.cells ROW T)).drew.heap[w.heap.size]? =some (.cells ROW T (0,0)):=heap_alloc_new w _
  have hgK:=yas K hge
  obtain ⟨c1,g1,g2,g3,g4,g5,g6,g7⟩:=zb8 w.heap.size ys (i*K) (w.alloc (.cells ROW T)).drew ROW T h0 (by omega)
  have hc1s:c1.size=ROW.size:=by
   have:=congrArg List.length g2
   simp only [yag,yan,ya2,ya4] at this
   omega
  have hdl:(xs.drop (i*K)).length=els.length*K-i*K:=by rw [ya2,hxl]
  obtain ⟨c2,q1,q2,q3,q4,q5,q6,q7⟩:=zb8 w.heap.size (xs.drop (i*K)) ((i+1)*K) ((w.alloc (.cells ROW T)).drew.setCells w.heap.size (i*K) ys).drew c1 T g1 (by rw [hdl];omega)
  have hc2s:c2.size=c1.size:=by
   have:=congrArg List.length q2
   simp only [yag,yan,ya2,ya4,hdl] at this
   omega
  have hfin:c2.toList.take ((els.length+1)*K)=xs.take (i*K)++ys++xs.drop (i*K):=by
   rw [q2,g2,hisucc]
   exact zzS ROW.toList xs ys (i*K) K (els.length*K) _ hRt (by omega) (by omega) hxl (by simp only [ya4];omega) hsucc
  have hold:∀k,k<w.heap.size→(((w.alloc (.cells ROW T)).drew.setCells w.heap.size (i*K) ys).drew.setCells w.heap.size ((i+1)*K) (xs.drop (i*K))).heap[k]? =w.heap[k]? :=fun k hk=>by
   rw [q3 k (by omega)]
   show ((w.alloc (.cells ROW T)).drew.setCells w.heap.size (i*K) ys).heap[k]? =_
   rw [g3 k (by omega)]
   exact heap_alloc_old w _ hk
  obtain ⟨κ',r1,r2,r3⟩:=zw2 (w':=((w.alloc (.cells ROW T)).drew.setCells w.heap.size (i*K) ys).drew.setCells w.heap.size ((i+1)*K) (xs.drop (i*K))) (els':=els.take i++c::els.drop i) (v':=.slice (some ⟨w.heap.size,0,none⟩) (els.length+1) gc) hs he hk1 (by omega)
   ⟨by rw [hnl];exact hxl',.inr ⟨w.heap.size,gc,c2,by rw [hnl],hs.hb,q1,by omega,hgm,by omega,by rw [hnl];exact hfin⟩⟩
   ⟨q5.trans g5,q6.trans g6,q7.trans g7,by
    rw [q4]
    show w.heap.size≤((w.alloc (.cells ROW T)).drew.setCells w.heap.size (i*K) ys).heap.size
    rw [g4];show w.heap.size≤(w.heap.push _).size;rw [Array.size_push];omega,fun k hk _=>hold k hk⟩ (fun g hg=> .inr (by simp only [Value.ownBlock,yab] at hg;omega)) hvr' hlen' hone'
  rw [hnl] at r1
  exact ⟨_,_,_,κ',Im,rfl,⟨rfl,rfl⟩,r2,r3,r1⟩
theorem zxW {f T:Nat} (K:Nat) {z:List AV} (hz:zfl P T=some z) (hsz:sizeOf? P T=some K) (hzl:z.length=K)
  (hdel:∀(b n c i m:Nat) (cs:List Value) (w:World),n=i+1+m→n≤c→c≤9223372036854775807→cs.length=n*K→
   (∀j v,cs[j]? =some v→w.cell? ⟨b,j,none⟩=some v)→(∀j,j<n*K→w.frozen? ⟨b,j,none⟩=false)→(∀v∈cs,v.oneCell'=true)→
   ∀(i0:TypeInfo) (z:Value),P.info? T=some i0→i0.zero=some z→i0.size=K→z.cells.size=K→(∀v∈z.cells.toList,v.oneCell'=true)→
   Calls P f #[.slice (some ⟨b,0,none⟩) n c,.int .i64 i,.int .i64 ((i:Int)+1)] w fun e w'=>
    e=.returned (.slice (some ⟨b,0,none⟩) (i+m) c)∧w'=(w.drew.setCells b (i*K) (cs.drop ((i+1)*K))).setCells b ((i+m)*K) z.cells.toList)
  {σ:zac} {id:Nat} {els:List (List AV)} {i:Nat} (he:σ[id]? =some (.row T K els false)) (hi:i<els.length):
  ACalls P f [.row id els.length,.int .i64 i,.int .i64 ((i:Int)+1)] σ (fun r σ'=>r=.row σ.length (els.length-1)∧σ'=σ.set id (.dead els.length)++ [.row T K (els.take i++els.drop (i+1)) false]):=by
 intro base κ Im w vs hs hv
 obtain ⟨u1,u2,u3,rfl,hv1,hv2,hv3⟩:∃a b c',vs= [a,b,c']∧VR κ Im w (.row id els.length) a∧VR κ Im w (.int .i64 i) b∧VR κ Im w (.int .i64 ((i:Int)+1)) c':=by
  match vs,hv.1 with
  | [a,b,c'],_=>exact ⟨a,b,c',rfl,hv.2 0 (by simp) (by simp),hv.2 1 (by simp) (by simp),hv.2 2 (by simp) (by simp)⟩
 obtain rfl:=hv2.int_inv
 obtain rfl:=hv3.int_inv
 obtain ⟨g1,cap1,rfl,hk1⟩:=hv1.row_inv
 obtain ⟨b,cap,cur,xs,e1,hb,hheap,hlec,hmax,hcs,htake,hxl,hvr,hpos,hlens,hones,hIm,hblk⟩:=zwx hs he hk1 (by omega)
 simp only [Value.slice.injEq] at e1
 obtain ⟨rfl,_,rfl⟩:=e1
 obtain ⟨ti,zv,hti,htz,hzm⟩:=zeW hz
 obtain ⟨hzr,hzo,_⟩:=zbW (Im:=Im) (w:=w) hzm
 have hzv:VRL κ Im w z zv.cells.toList:=VRL.ofIR hzr
 have hzs:zv.cells.size=K:=by rw [←hzl,hzr.1];simp
 obtain ⟨ti',hti',htsz⟩:=sizeOf?_ok hsz
 rw [hti] at hti';cases hti'
 have hmul1:=yas K hlec
 have hi1:i*K+K≤els.length*K:=by
  have:=yas K (show i+1≤els.length by omega)
  rw [ya6] at this;omega
 have hisucc:(i+1)*K=i*K+K:=by rw [ya6];omega
 obtain ⟨m,hm⟩:∃m,els.length=i+1+m:=⟨els.length-(i+1),by omega⟩
 have hq:(i+m)*K=els.length*K-K:=by rw [hm,ya6,ya6,ya6];omega
 have hcells:∀j v,xs[j]? =some v→w.cell? ⟨b,j,none⟩=some v:=fun j v hjv=>by
  rw [cell_of_row w b j cur T (0,0) hheap]
  rw [←htake,ybo] at hjv
  split at hjv
  ·rw [ycp] at hjv;exact hjv
  ·cases hjv
 have h1c:∀v∈xs,v.oneCell'=true:=zeT hvr fun c hc=>by
  obtain ⟨l,hl,hcl⟩:=ybk.1 hc
  exact hones l hl c hcl
 have hthere:=zeM (off:=0) (n:=els.length*K) hheap (by omega)
 have hmx:=hmax
 unfold maxLen at hmx
 refine (hdel b els.length cap1 i m xs w hm hlec (by omega) hxl hcells (fun j hj=>by simpa using (hthere j hj).2) h1c ti zv hti htz htsz hzs (zeT hzv hzo)).mono ?_
 rintro e w' ⟨rfl,rfl⟩
 have hdl:(xs.drop ((i+1)*K)).length=els.length*K-(i*K+K):=by rw [ya2,hxl,hisucc]
 obtain ⟨c1,g1,g2,g3,g4,g5,g6,g7⟩:=zb8 b (xs.drop ((i+1)*K)) (i*K) w.drew cur T hheap (by rw [hdl];omega)
 have hc1s:c1.size=cur.size:=by
  have:=congrArg List.length g2
  simp only [yag,yan,ya2,ya4,hdl] at this
  omega
 obtain ⟨c2,q1,q2,q3,q4,q5,q6,q7⟩:=zb8 b zv.cells.toList ((i+m)*K) _ c1 T g1 (by simp only [ya4];omega)
 have hc2s:c2.size=c1.size:=by
  have:=congrArg List.length q2
  simp only [yag,yan,ya2,ya4] at this
  omega
 have hfin:c2.toList.take (els.length*K)=xs.take (i*K)++xs.drop (i*K+K)++zv.cells.toList:=by
  rw [q2,g2,hisucc]
  exact z1k cur.toList xs zv.cells.toList (i*K) K (els.length*K) _ htake hxl hq (by omega) (by simp only [ya4];omega) (by simp only [ya4];omega)
 have hnl:(els.take i++els.drop (i+1)++ [z]).length=els.length:=by simp;omega
 have hflat:(els.take i++els.drop (i+1)++ [z]).flatten=els.flatten.take (i*K)++els.flatten.drop (i*K+K)++z:=by
  simp only [ycd,ybd,List.flatten_nil,yby,zcz _ _ hlens,zdE _ _ hlens,hisucc]
 have hvr':VRL κ Im w (els.take i++els.drop (i+1)++ [z]).flatten (xs.take (i*K)++xs.drop (i*K+K)++zv.cells.toList):=by
  rw [hflat]
  exact ((hvr.take _).append (hvr.drop _)).append hzv
 obtain ⟨r1,r2⟩:=z3F (w':=(w.drew.setCells b (i*K) (xs.drop ((i+1)*K))).setCells b ((i+m)*K) zv.cells.toList) (els':=els.take i++els.drop (i+1)++ [z]) (xs':=xs.take (i*K)++xs.drop (i*K+K)++zv.cells.toList) hs he hk1 hnl
  ⟨by simp only [yag,yan,ya2,ya4];omega,.inr ⟨b,cap1,c2,rfl,hb,q1,hlec,hmax,by omega,hfin⟩⟩
  ⟨q5.trans g5,q6.trans g6,q7.trans g7,by rw [q4,g4];exact yaq _,fun k hk hkn=>by rw [q3 k (fun h=>hkn (by rw [h];rfl)),g3 k (fun h=>hkn (by rw [h];rfl))];rfl⟩ hvr' (fun d hd=>by
   rcases yai.1 hd with h|h
   ·rcases yai.1 h with h|h
    ·exact hlens d (yak h)
    ·exact hlens d (yau h)
   ·simp at h;subst h;exact hzl) (fun d hd=>by
   rcases yai.1 hd with h|h
   ·rcases yai.1 h with h|h
    ·exact hones d (yak h)
    ·exact hones d (yau h)
   ·simp at h;subst h;exact hzo)
 have hid:id<σ.length:=(yaa.1 he).1
 obtain ⟨κ1,t1,t2,t3⟩:=zwO (hi:=els.length-1) r1 (ybj hid) (by rw [hnl];exact hk1) (by rw [hnl];omega)
 have htk:(els.take i++els.drop (i+1)++ [z]).take (els.length-1)=els.take i++els.drop (i+1):=ycj (by simp;omega)
 rw [List.set_set,htk,hnl] at t2
 rw [List.length_set] at t1
 have hmm:i+m=els.length-1:=by omega
 refine ⟨_,_,_,κ1,Im,by rw [hmm],⟨rfl,rfl⟩, ?_,r2.trans t3,t1⟩
 exact t2
end
end Go.Abs
end
section
namespace Go.Proofs.YtdbhocoeolhjhaaGreatDoor
open Go.Abs Go.RowKit
variable {G:Globs}
theorem zwF {P:Program} {t b:Nat} (h:(P.info? t).map (·.bytes)=some b):∀i,P.info? t=some i→i.bytes=b:=fun i hi=>by
 rw [hi] at h;simpa using h
theorem z41 {σ:zac} {id jd T2:Nat} {els:List (List AV)} {c:List AV} {i:Nat} (he:σ[id]? =some (.row 101 2 els false)) (hj:σ[jd]? =some (.row T2 2 [c] false)) (hij:id≠jd) (hi:i<els.length) (hbig:els.length≤100000000):
  ACalls Tryz.prog 140 [.row id els.length,.int .i64 i,.row jd 1] σ (fun r σ'=>r=.row id (els.length+1)∧σ'=σ.set id (.row 101 2 (els.take i++c::els.drop i) false)):=
 zqS 2 24 (z:= [.str [],.int .i64 0]) (by kernel_rfl) (by kernel_rfl) rfl (zwF (by kernel_rfl)) zyB z17 he hj hij hi (by omega) (by unfold maxLen;omega)
theorem z2q {σ:zac} {id jd T2:Nat} {els:List (List AV)} {c:List AV} {i:Nat} (he:σ[id]? =some (.row 57 11 els false)) (hj:σ[jd]? =some (.row T2 11 [c] false)) (hij:id≠jd) (hi:i<els.length) (hbig:els.length≤100000000):
  ACalls Tryz.prog 129 [.row id els.length,.int .i64 i,.row jd 1] σ (fun r σ'=>r=.row id (els.length+1)∧σ'=σ.set id (.row 57 11 (els.take i++c::els.drop i) false)):=
 zqS 11 128 (z:= [.int .i64 0,.str [],.nils,.int .i64 0,.int .i64 0,.int .i64 0,.int .i64 0,.nils,.int .i64 0,.int .i64 0,.int .i64 0]) (by kernel_rfl) (by kernel_rfl) rfl (zwF (by kernel_rfl)) zyM zze he hj hij hi (by omega) (by unfold maxLen;omega)
theorem z23 {σ:zac} {id:Nat} {els:List (List AV)} {i:Nat} (he:σ[id]? =some (.row 101 2 els false)) (hi:i<els.length):
  ACalls Tryz.prog 142 [.row id els.length,.int .i64 i,.int .i64 ((i:Int)+1)] σ (fun r σ'=>r=.row σ.length (els.length-1)∧σ'=σ.set id (.dead els.length)++ [.row 101 2 (els.take i++els.drop (i+1)) false]):=
 zxW 2 (z:= [.str [],.int .i64 0]) (by kernel_rfl) (by kernel_rfl) rfl z8X he hi
end Go.Proofs.YtdbhocoeolhjhaaGreatDoor
end
section
namespace Go.Abs
def AccT (e size lo:Nat) (τ:zac) (v:AV) (l:List (List AV)):Prop:=(l= []∧v=.nils)∨(l≠ []∧∃p,v=.row (lo+p) l.length∧τ[p]? =some (.row e size l true))
theorem zgt {e size lo:Nat} {τ:zac}:AccT e size lo τ .nils []:=.inl ⟨rfl,rfl⟩
theorem AccT.more {e size lo:Nat} {τ:zac} {v:AV} {l:List (List AV)} (h:AccT e size lo τ v l) (x:zac):AccT e size lo (τ++x) v l:=by
 rcases h with h|⟨h1,p,h2,h3⟩
 ·exact .inl h
 ·exact .inr ⟨h1,p,h2,by rw [yar (yaa.1 h3).1];exact h3⟩
theorem AccT.get {e size:Nat} {σ τ:zac} {v:AV} {l:List (List AV)} (h:AccT e size σ.length τ v l):(l= []∧v=.nils)∨(l≠ []∧∃id,σ.length≤id∧v=.row id l.length∧(σ++τ)[id]? =some (.row e size l true)):=by
 rcases h with h|⟨h1,p,h2,h3⟩
 ·exact .inl h
 ·exact .inr ⟨h1,_,by omega,h2,by rw [yaj (by omega),ya0];exact h3⟩
theorem zzm {K:AV→zac→Prop} {t:Tg K} {e size bytes:Nat} {σ τ:zac} {v:AV} {l:List (List AV)} (h:AccT e size σ.length τ v l) (x:List AV) (hs:0<size) (hx:x.length=size) (hb:(l.length+1)*bytes≤140737488355328) (h63:l.length+1≤9223372036854775807)
  (hK:∀v' τ',AccT e size σ.length τ' v' (l++ [x])→τ.length≤τ'.length→(∀(p:Nat) (en:Entry),τ[p]? =some en→v≠ .row (σ.length+p) l.length→τ'[p]? =some en)→(∀en∈τ',en∈τ∨en=.row e size (l++ [x]) true)→K v' (σ++τ')):ap K t (σ++τ) e size bytes v (.lst [x]):=by
 rcases h with ⟨rfl,rfl⟩|⟨h1,p,rfl,h3⟩
 ·refine zhS true [x] rfl hs (by simp [hx]) (fun _=> .inl rfl) (by simpa using hb) (by simp) ?_
  have:=hK (.row (σ.length+τ.length) 1) (τ++ [.row e size [x] true]) (.inr ⟨by simp,τ.length,by simp,by simp⟩) (by simp) (fun p en hp _=>by rw [yar (yaa.1 hp).1];exact hp) (fun en he=>by
   rcases yai.1 he with he|he
   ·exact .inl he
   ·simp at he;exact .inr he)
  simpa using this
 ·have hlt:=(yaa.1 h3).1
  have hg:(σ++τ)[σ.length+p]? =some (.row e size l true):=by rw [yaj (by omega),ya0];exact h3
  refine zaK l [x] true hg rfl hs (by simp [hx]) (fun _=> .inl rfl) rfl (by simpa using hb) (by simpa using h63) ?_
  have:=hK (.row (σ.length+p) (l.length+1)) (τ.set p (.row e size (l++ [x]) true)) (.inr ⟨by simp,p,by simp,by simp [hlt]⟩) (by simp) (fun q en hq hv=>by
   have hne:p≠q:=fun e=>hv (by rw [e])
   rw [yba hne];exact hq) (fun en he=>(List.mem_or_eq_of_mem_set he).imp id id)
  rw [ybi _ _ (by omega),ya0]
  simpa using this
theorem zmt {K:AV→zac→Prop} {t:Tg K} {e size bytes:Nat} {σ τ:zac} {v:AV} {l:List (List AV)} (h:AccT e size σ.length τ v l) (x:List AV) (hs:0<size) (hx:x.length=size) (hb:(l.length+1)*bytes≤140737488355328) (h63:l.length+1≤9223372036854775807)
  (hK:∀v' τ',AccT e size σ.length τ' v' (l++ [x])→τ.length≤τ'.length→(∀(p:Nat) (en:Entry),τ[p]? =some en→v≠ .row (σ.length+p) l.length→τ'[p]? =some en)→K v' (σ++τ')):ap K t (σ++τ) e size bytes v (.lst [x]):=
 zzm h x hs hx hb h63 fun v' τ' h1 h2 h3 _=>hK v' τ' h1 h2 h3
theorem AccT.coe {e size:Nat} {σ τ:zac} {v:AV} {l:List (List AV)} (h:AccT e size σ.length τ v l) (lend:Bool):Coe (σ++τ) lend v (.lst l):=by
 rcases h.get with ⟨rfl,rfl⟩|⟨h1,id,_,rfl,h3⟩
 ·exact .nils
 ·exact .row id _ e size l true h3 rfl (.inl rfl)
theorem AccT.fin1 {e size:Nat} {σ τ:zac} {v:AV} {l:List (List AV)} (h:AccT e size σ.length τ v l) (m:Nat):fin1 (σ++τ) m v=some (.lst l):=by
 rcases h.get with ⟨rfl,rfl⟩|⟨h1,id,_,rfl,h3⟩
 ·rfl
 ·simp [Abs.fin1,fz,h3]
theorem AccT.view {e size:Nat} {σ τ:zac} {v:AV} {l:List (List AV)} (h:AccT e size σ.length τ v l):view (σ++τ) v=some l:=by
 rcases h.get with ⟨rfl,rfl⟩|⟨h1,id,_,rfl,h3⟩
 ·rfl
 ·simp [Abs.view,h3]
theorem AccT.share {e size:Nat} {σ τ:zac} {v:AV} {l:List (List AV)} (h:AccT e size σ.length τ v l):zeS (σ++τ) v=some (.lst l):=by
 rcases h.get with ⟨rfl,rfl⟩|⟨h1,id,_,rfl,h3⟩
 ·rfl
 ·simp [zeS,h3]
theorem AccT.pos {e size lo:Nat} {τ:zac} {v:AV} {l:List (List AV)} (h:AccT e size lo τ v l):v.one=true∧v.cells= [v]∧(v=.nils∨∃p n,v=.row (lo+p) n):=by
 rcases h with ⟨_,rfl⟩|⟨_,p,rfl,_⟩
 ·exact ⟨rfl,rfl,.inl rfl⟩
 ·exact ⟨rfl,rfl,.inr ⟨_,_,rfl⟩⟩
theorem AccT.under {e size lo:Nat} {τ:zac} {v:AV} {l:List (List AV)} (h:AccT e size lo τ v l) {m:Nat} (hm:lo+τ.length≤m):v.under m=true:=by
 rcases h with ⟨_,rfl⟩|⟨_,p,rfl,h3⟩
 ·simp [AV.under]
 ·have:=(yaa.1 h3).1
  simp [AV.under];omega
theorem zbu {σ τ:zac} {a:Entry}:(σ++a::τ)[σ.length]? =some a:=by simp
theorem za6 {σ τ:zac} {a b:Entry}:(σ++a::b::τ)[σ.length+1]? =some b:=by
 rw [yaj (by omega),ya0];rfl
theorem zaY {σ τ:zac} {a b c:Entry}:(σ++a::b::c::τ)[σ.length+2]? =some c:=by
 rw [yaj (by omega),ya0];rfl
theorem zxh {σ τ:zac} {a x:Entry}:(σ++a::τ).set σ.length x=σ++x::τ:=by simp
theorem zdx {σ τ:zac} {a b x:Entry}:(σ++a::b::τ).set (σ.length+1) x=σ++a::x::τ:=by
 rw [ybi _ _ (by omega),ya0];rfl
theorem zdv {σ τ:zac} {a b c x:Entry}:(σ++a::b::c::τ).set (σ.length+2) x=σ++a::b::x::τ:=by
 rw [ybi _ _ (by omega),ya0];rfl
theorem z6m {K:AV→zac→Prop} {t:Tg K} {e size bytes:Nat} {τ:zac} {v:AV} {l:List (List AV)} (h:AccT e size 0 τ v l) (x:List AV) (hs:0<size) (hx:x.length=size) (hb:(l.length+1)*bytes≤140737488355328) (h63:l.length+1≤9223372036854775807)
  (hK:∀v' τ',AccT e size 0 τ' v' (l++ [x])→τ.length≤τ'.length→(∀(p:Nat) (en:Entry),τ[p]? =some en→v≠ .row p l.length→τ'[p]? =some en)→K v' τ'):ap K t τ e size bytes v (.lst [x]):=
 zmt (σ:= []) h x hs hx hb h63 fun v' τ' h1 h2 h3=>hK v' τ' h1 h2 fun p en hp hv=>h3 p en hp (by simpa using hv)
theorem zam {τ:zac} {v:Entry}:(τ++ [v])[τ.length]? =some v:=by simp
theorem zal {τ:zac} {v x:Entry}:(τ++ [v]).set τ.length x=τ++ [x]:=by simp
theorem z2T {σ τ:zac} {a b v:Entry}:(σ++a::b::(τ++ [v]))[σ.length+(τ.length+1+1)]? =some v:=by
 rw [yaj (by omega),ya0];simp
theorem z2Z {σ τ:zac} {a b v x:Entry}:(σ++a::b::(τ++ [v])).set (σ.length+(τ.length+1+1)) x=σ++a::b::(τ++ [x]):=by
 rw [ybi _ _ (by omega),ya0];simp
theorem zgh {σ τ:zac} {a v:Entry}:(σ++a::(τ++ [v]))[σ.length+(τ.length+1)]? =some v:=by
 rw [yaj (by omega),ya0];simp
theorem zgv {σ τ:zac} {a v x:Entry}:(σ++a::(τ++ [v])).set (σ.length+(τ.length+1)) x=σ++a::(τ++ [x]):=by
 rw [ybi _ _ (by omega),ya0];simp
theorem AccT.finT {e size:Nat} {σ τ:zac} {v:AV} {l:List (List AV)} (h:AccT e size σ.length τ v l) (m:Nat):Abs.finT (σ++τ) m v=some (.lst l):=by
 have h1:=h.fin1 m
 rcases h.get with ⟨_,rfl⟩|⟨_,id,_,rfl,_⟩<;>exact h1
theorem z8W {e size:Nat} {σ τ:zac} {a:Entry} {v:AV} {l:List (List AV)} (h:AccT e size (σ.length+1) τ v l):AccT e size (σ++ [a]).length τ v l:=by simpa using h
theorem z8H {e size:Nat} {σ τ:zac} {a b:Entry} {v:AV} {l:List (List AV)} (h:AccT e size (σ.length+2) τ v l):AccT e size (σ++ [a,b]).length τ v l:=by simpa using h
theorem app1 {σ τ:zac} {a:Entry}:(σ++ [a])++τ=σ++a::τ:=by simp
theorem app2 {σ τ:zac} {a b:Entry}:(σ++ [a,b])++τ=σ++a::b::τ:=by simp
theorem zrP {K:AV→zac→Prop} {t:Tg K} {e size bytes:Nat} {σ τ:zac} {a b:Entry} {v:AV} {l:List (List AV)} (h:AccT e size (σ.length+2) τ v l) (x:List AV) (hs:0<size) (hx:x.length=size) (hb:(l.length+1)*bytes≤140737488355328) (h63:l.length+1≤9223372036854775807)
  (hK:∀v' τ',AccT e size (σ.length+2) τ' v' (l++ [x])→τ.length≤τ'.length→K v' (σ++a::b::τ')):ap K t (σ++a::b::τ) e size bytes v (.lst [x]):=by
 rw [←app2]
 exact zmt (z8H h) x hs hx hb h63 fun v' τ' h1 h2 _=>by rw [app2];exact hK v' τ' (by simpa using h1) h2
theorem AccT.finT0 {e size:Nat} {τ:zac} {v:AV} {l:List (List AV)} (h:AccT e size 0 τ v l) (m:Nat):Abs.finT τ m v=some (.lst l):=AccT.finT (σ:= []) h m
theorem AccT.finR {e size:Nat} {σ τ:zac} {v:AV} {l:List (List AV)} (h:AccT e size σ.length τ v l) (m:Nat):Abs.fin (σ++τ) m v=some (.lst l):=by
 have h1:=h.finT m
 rcases h.get with ⟨_,rfl⟩|⟨_,id,_,rfl,_⟩<;>exact h1
theorem AccT.finR0 {e size:Nat} {τ:zac} {v:AV} {l:List (List AV)} (h:AccT e size 0 τ v l) (m:Nat):Abs.fin τ m v=some (.lst l):=AccT.finR (σ:= []) h m
def z4r (J:Frame→zac→Prop) (_:Tg J) (Q:AExit→Frame→zac→Prop):AExit→Frame→zac→Prop
 | .normal,f,σ=>jn J (.mk J) f (.mk f) σ
 |e,f,σ=>Q e f σ
theorem ztY {J:Frame→zac→Prop} {t:Tg J} {Q:AExit→Frame→zac→Prop} {f:Frame} {σ:zac}:z4r J t Q .normal f σ=jn J (.mk J) f (.mk f) σ:=rfl
theorem z2b {J:Frame→zac→Prop} {t:Tg J} {Q:AExit→Frame→zac→Prop} {f:Frame} {σ:zac}:z4r J t Q .ret f σ=Q .ret f σ:=rfl
theorem zxC {J:Frame→zac→Prop} {t:Tg J} {Q:AExit→Frame→zac→Prop} {f:Frame} {σ:zac} {i:Nat}:z4r J t Q (.exit i) f σ=Q (.exit i) f σ:=rfl
attribute [simp ↓] ztY z2b zxC
theorem z3w [Globs] {P:Program} {c:ACode} {id:Nat} {Q:AExit→Frame→zac→Prop} {f:Frame} {σ:zac} (J:Frame→zac→Prop) (hJ:∀f σ,J f σ→Q .normal f σ) (h:awp P (.block id c) (z4r J (.mk _) Q) f σ):awp P (.block id c) Q f σ:=by
 refine zcY (c:=.block id c) (fun e f σ h0=> ?_) h
 cases e with
 |normal=>exact hJ _ _ h0
 |exit _=>exact h0
 |ret=>exact h0
end Go.Abs
end
