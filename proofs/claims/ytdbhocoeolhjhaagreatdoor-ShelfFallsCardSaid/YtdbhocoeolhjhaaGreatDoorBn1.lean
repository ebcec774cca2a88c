import Derived.Handed
import Derived.DataWitness
import Derived.Lay
import Derived.Shelf.Spec.SlicesInsertGrow
import Derived.Test.YtdbhocoeolhjhaaGreatDoorCode
set_option maxHeartbeats 2000000
set_option linter.unusedSimpArgs false
set_option linter.unusedVariables false
set_option linter.constructorNameAsVariable false
namespace Go
section
variable {H:Type}{enc:TypeId×Value->H}
theorem zou {a:Assume}{C:Checked}{os:Os}{f:FuncId}{fn:Func}{s:ChangeSpec}{conds:List PathCond}{apart fresh handsOn again:Bool}{X:World->Array Value->Prop}
  (hX:∀(w w':World) (args:Array Value),w.heap=w'.heap->X w args->X w' args) (own:ownKnob C.prog.godebug=none) (started:os.Started) (noInit:C.prog.inits.idxOf? f=none) (hfn:C.prog.funcs[f]? =some fn)
  (witness:∃(w:World) (tape:Tape) (i:Input),w.os=os/\(w.forCall tape i).Shaped C.prog/\i.vars= []/\Input.okWide C.prog (w.forCall tape i) .any w.heap.size f i/\((s.pre enc C.prog fn conds apart (w.forCall tape i).memory i.args/\X (w.forCall tape i).memory i.args)/\sizedMet enc C.prog fn (OpenSpec.ofChange s) apart (w.forCall tape i).memory i.args)/\a.holds C.prog (lone (Frame.enter C.prog f i.args .normal) [] (w.forCall tape i)))
  (body:∀(W:World) (base:Nat) (args:Array Value) (ds gs:List (DataW H)) (before:List MemPlace),W.ShapedOpen C.prog->(∀(j:Nat) t v,fn.params[j]? =some t->args[j]? =some v->Value.okWide C.prog W .any base t v)->DataW.Whole enc C.prog fn.params.toList s.vars apart W args.toList ds gs before->X W args->(DataW.weightsEach C.prog (fn.params.toList++(OpenSpec.ofChange s).bare.plain.varTypes C.prog) (ds++gs)).all (· <=reachBytes)=true->Calls C.prog f args W λe W'=>∃v,e=.returned v/\s.post enc C.prog fn apart fresh handsOn again W args v W'):
  ReturnsInHanded a C os f .any (λw args=>(s.pre enc C.prog fn conds apart w args/\X w args)/\sizedMet enc C.prog fn (OpenSpec.ofChange s) apart w args) (s.post enc C.prog fn apart fresh handsOn again):=by
 apply returnsInHanded_of_calls own started noInit witness;rintro w tape i-b-⟨-, -, -,g,h, -, -, -, -,c⟩ ⟨⟨⟨ds,gs,before,d, -⟩,k⟩,l⟩ -;cases Option.some.inj (h.symm.trans hfn);apply(body (w.forCall tape i) w.heap.size i.args ds gs before b c (DataW.Whole.of_heap (by rfl) d) (hX _ _ _ (by rfl) k) (l.weights d)).mono;rintro e W' ⟨v,rfl,m⟩;exact ChangeSpec.post_blind m
end
section
variable {H:Type}{enc:TypeId×Value->H}
theorem zyB {C:Checked}{os:Os}{f:FuncId}{fn:Func}{s:ChangeSpec}{conds:List PathCond}{apart:Bool}{X:World->Array Value->Prop}(w0:World)(args:Array Value)(fuel:Nat)(hos:w0.os=os)
  (hv:(w0.forCall (λ_ _=>0) ⟨#[],args,[]⟩).variablesZipB C.prog=true)
  (hr:((w0.forCall (λ_ _=>0) ⟨#[],args,[]⟩).heap.toList.drop C.prog.globals.size).take ((begin C.prog (λ_ _=>0) default).world.heap.size-C.prog.globals.size)=(begin C.prog (λ_ _=>0) default).world.heap.toList.drop C.prog.globals.size)
  (hok:Input.okWideB C.prog (w0.forCall (λ_ _=>0) ⟨#[],args,[]⟩) f ⟨#[],args,[]⟩=true)
  (hpre:s.preB enc C.prog fn conds apart (w0.forCall (λ_ _=>0) ⟨#[],args,[]⟩).memory args fuel=true)
  (hsz:s.sizedB enc C.prog fn apart (w0.forCall (λ_ _=>0) ⟨#[],args,[]⟩).memory args fuel=true)
  (hx:X (w0.forCall (λ_ _=>0) ⟨#[],args,[]⟩).memory args):
  ∃(w:World) (tape:Tape) (i:Input),w.os=os/\(w.forCall tape i).Shaped C.prog/\i.vars= []/\Input.okWide C.prog (w.forCall tape i) .any w.heap.size f i/\((s.pre enc C.prog fn conds apart (w.forCall tape i).memory i.args/\X (w.forCall tape i).memory i.args)/\sizedMet enc C.prog fn (OpenSpec.ofChange s) apart (w.forCall tape i).memory i.args)/\({}:Assume).holds C.prog (lone (Frame.enter C.prog f i.args .normal) [] (w.forCall tape i)):=by
 refine⟨w0,λ_ _=>0,⟨#[],args,[]⟩,hos,World.shaped_of_ZipB hv hr,(Input.okWide_of_okWideB (base:=0) hok).1,(Input.okWide_of_okWideB hok).2,⟨⟨ChangeSpec.pre_of_preB hpre,hx⟩,sizedMet_of_sizedB hsz⟩, ?_⟩;simp only[Assume.holds];exact⟨by simp,by simp,λ_=>Modest.zero,by simp⟩
end
end Go
namespace Go.Abs
open Go.RowKit Go.Proofs Go.Shelf Go.Lib
variable {P:Program}
theorem zdb (w:World)(tD tS ty e:TypeId)(size b off dn dc:Nat)(sad:Addr)(sn sc:Nat)(vs:List Value)(ht:P.underlying tD=some (.slice e))(hsz:∀w,(sizeOf e).run P w=.ok size w)(k:Nat)(hk:Nat.min sn dn=k)(hvl:vs.length=k*size)
  (hsrc:∀j v,vs[j]? =some v->w.cell? (sad.add j)=some v) (hdst:∀j,j<vs.length->(w.cell? ⟨b,off+j,none⟩).isSome=true) (hfz:∀j,j<vs.length->w.frozen? ⟨b,off+j,none⟩=false) (h1:∀v∈vs,v.oneCell'=true):
  (Builtin.copy_ #[tD,tS] ty #[.slice (some ⟨b,off,none⟩) dn dc,.slice (some sad) sn sc]).run P w=.ok (goInt k) (w.setCells b off vs):=by
 have d:=run_firstCells_some (P:=P) (w:=w) size k sad sn sc vs hvl hsrc;have a:=run_storeCells_cells (P:=P) b off vs 0 w (λj c=>by simpa using hdst j c) (λj c=>by simpa using hfz j c) h1;rw[ycf]at a;simp[Builtin.copy_,run_underlying ht,Builtin.lenOf,hk,hsz,d,a]
end Go.Abs
namespace Go.Proofs.YtdbhocoeolhjhaaGreatDoor
open Go.Abs Go.RowKit Go.Lib Go.Shelf
set_option maxHeartbeats 4000000 in
set_option maxRecDepth 100000 in
theorem z17 (b n c i vb vc:Nat)(cs vs:List Value)(w:World)(hi:i<n)(hroom:n+1<=c)(hc63:c<=9223372036854775807)(hvb:vb≠b)
  (hcl:cs.length=n*2) (hvl:vs.length=2)
  (hcs:∀j v,cs[j]? =some v->w.cell? ⟨b,j,none⟩=some v) (hsp:∀j,j<(n+1)*2->(w.cell? ⟨b,j,none⟩).isSome=true) (hfz:∀j,j<(n+1)*2->w.frozen? ⟨b,j,none⟩=false)
  (hvs:∀j v,vs[j]? =some v->w.cell? ⟨vb,j,none⟩=some v) (h1c:∀v∈cs,v.oneCell'=true) (h1v:∀v∈vs,v.oneCell'=true)
  (tA tB:TypeId) (kA kB:Nat) (hsa:w.shape? vb=some (tA,kA)) (hsb:w.shape? b=some (tB,kB)) (hkB:kB≠0) (hfa:w.frozen? ⟨vb,0,none⟩=false) (hfe:w.frozen? ⟨vb,kA,none⟩=false):
  Calls Tryz.prog 140 #[.slice (some ⟨b,0,none⟩) n c,.int .i64 i,.slice (some ⟨vb,0,none⟩) 1 vc] w λe w'=>e=.returned (.slice (some ⟨b,0,none⟩) (n+1) c)/\w'=(w.drew.setCells b ((i+1)*2) (cs.drop (i*2))).setCells b (i*2) vs:=by
 have B:¬((i:Int)=(n:Int)):=by omega
 have u:∀lb cb,(callFunc 205 #[.slice (some ⟨vb,0,none⟩) 1 vc,.slice (some ⟨b,(i+1)*2,none⟩) lb cb]).run Tryz.prog w=.ok (.value (.bool false)) w:=λlb cb=>by rw[run_callFunc_extern Tryz.func205 (by kernel_rfl) (by kernel_rfl) (by kernel_rfl) (e:=Extern.SlicesOverlaps.overlaps #[27,27] #[4]) (by kernel_rfl),Lib.run_overlaps_apart w 27 4 101 Tryz.underlying27 2 Tryz.sizeOf101 ⟨vb,0,none⟩ ⟨b,(i+1)*2,none⟩ 1 vc lb cb hvb tA tB kA kB hsa hsb hkB hfa hfe];rfl
 have f:(cs.drop (i*2)).length=(n-i)*2:=by rw[ya3,hcl];omega
 have C:IntKind.i64.wrap ((i:Int)+1)=(i:Int)+1:=by rw[IntKind.wrap_i64];omega
 have D:IntKind.i64.wrap ((n:Int)+1)=(n:Int)+1:=by rw[IntKind.wrap_i64];omega
 have E:(0:Int)<=(i:Int)+1:=by omega
 have F:i<=n:=by omega
 have G:((i:Int)+1).toNat=i+1:=by omega
 have hb2:¬(c=i+1):=by omega
 have H:(i:Int)<=(n:Int)+1:=by omega
 have I:¬(c=i):=by omega
 have g:∀l m s,(Builtin.copy_ #[27,27] l #[.slice (some ⟨b,(i+1)*2,none⟩) (n-i) m,.slice (some ⟨b,i*2,none⟩) (n+1-i) s]).run Tryz.prog w.drew=.ok (goInt ((n-i:Nat):Int)) (w.drew.setCells b ((i+1)*2) (cs.drop (i*2))):=λl m s=>zdb w.drew _ _ l 101 2 b ((i+1)*2) (n-i) m ⟨b,i*2,none⟩ (n+1-i) s (cs.drop (i*2)) Tryz.underlying27 Tryz.sizeOf101 (n-i) (by simp only[ye5];split<;>omega) f (λj v d=>by rw[Addr.add_lit];exact hcs (i*2+j) v (by rwa[yby]at d)) (λj d=>hsp ((i+1)*2+j) (by rw[f]at d;omega)) (λj d=>hfz ((i+1)*2+j) (by rw[f]at d;omega)) (λv z=>h1c v (yay z));obtain⟨o,a⟩:∃o,o=w.drew.setCells b ((i+1)*2) (cs.drop (i*2)):=⟨_,rfl⟩;have q:∀k,k<(n+1)*2->(o.cell? ⟨b,k,none⟩).isSome=true:=λk A=>by rw[a];exact isSome_setCells b (cs.drop (i*2)) ((i+1)*2) w.drew (λj d=>hsp ((i+1)*2+j) (by rw[f]at d;omega)) _ (hsp k A)
 have r:∀(W:World),(∀x,W.cell? x=o.cell? x)->(∀x,W.frozen? x=o.frozen? x)->∀l m,(Builtin.copy_ #[27,27] l #[.slice (some ⟨b,i*2,none⟩) (n+1-i) m,.slice (some ⟨vb,0,none⟩) 1 vc]).run Tryz.prog W=.ok (goInt ((1:Nat):Int)) (W.setCells b (i*2) vs):=λW p t l m=>zdb W _ _ l 101 2 b (i*2) (n+1-i) m ⟨vb,0,none⟩ 1 vc vs Tryz.underlying27 Tryz.sizeOf101 1 (by simp only[ye5];split<;>omega) (by rw[hvl]) (λj v d=>by rw[Addr.add_lit,ybl,p,a,ydv b _ _ _ _ (λh _=>absurd h hvb)];exact hvs j v d) (λj d=>by rw[p];exact q (i*2+j) (by omega)) (λj d=>by rw[t,a,yd6];exact hfz (i*2+j) (by omega)) h1v;rw[<-a]at g;have y:Tryz.prog.follows .mixedOrders=true:=by kernel_rfl
 go_enter Tryz.func140,Tryz.ntmps140
 go_wp2_with (simp only[u])
 go_region_law_o (refine step_copy_runI rfl _ _ 27 27 rfl _ _ (by simp[Act.eval,Act.put]) (by simp[Act.eval,Act.put]) (g _ _ _) ?_)
 go_wp2_with (at_builtin;refine wpList_copy_runI _ rfl _ _ 27 27 rfl _ _ rfl rfl (r _ (λ_=>rfl) (λ_=>rfl) _ _) ?_)
 go_ret
 first|exact⟨rfl,rfl⟩|exact⟨rfl,by rw[a]⟩
set_option maxHeartbeats 4000000 in
set_option maxRecDepth 100000 in
theorem z3s (b n c i vb vc:Nat)(cs vs:List Value)(w:World)(hi:i<n)(hnc:n<=c)(hroom:c<n+1)(hbig:(n+1)*24<=140737488355328)
  (hcl:cs.length=n*2) (hvl:vs.length=2)
  (hcs:∀j v,cs[j]? =some v->w.cell? ⟨b,j,none⟩=some v)
  (hvs:∀j v,vs[j]? =some v->w.cell? ⟨vb,j,none⟩=some v) (h1c:∀v∈cs,v.oneCell'=true) (h1v:∀v∈vs,v.oneCell'=true)
  (i0:TypeInfo) (z:Value) (hi0:Tryz.prog.info? 101=some i0) (hz0:i0.zero=some z) (hzs:i0.size=2) (hzb:i0.bytes=24) (hzc:z.cells.size=2):
  Calls Tryz.prog 140 #[.slice (some ⟨b,0,none⟩) n c,.int .i64 i,.slice (some ⟨vb,0,none⟩) 1 vc] w λe w'=>
   e=.returned (.slice (some ⟨w.heap.size,0,none⟩) (n+1) (grownCap w (n+1) c 101))/\
   w'=(((w.alloc (.cells ((cs.take (i*2)).toArray++Builtin.zeroCells z.cells (n+1-i)++Builtin.zeroCells z.cells (grownCap w (n+1) c 101-(n+1))) 101)).drew.setCells w.heap.size (i*2) vs).drew).setCells w.heap.size ((i+1)*2) (cs.drop (i*2)):=by
 have Z:¬((i:Int)=(n:Int)):=by omega
 have aa:(c:Int)<(n:Int)+1:=by omega
 have y:=Tryz.sizeOf101;have H:b<w.heap.size:=block_lt_of_cell (hcs 0 _ (yah (by omega)));have I:vb<w.heap.size:=block_lt_of_cell (hvs 0 _ (yah (by omega)));have A:(n:Int)+1-(i:Int)=((n+1-i:Nat):Int):=by omega
 have u:i+(n+1-i)=n+1:=by omega
 have p:(Builtin.firstCells i0.size i (.slice (some ⟨b,0,none⟩) i c)).run Tryz.prog w.drew=.ok (cs.take (i*2)).toArray w.drew:=by
  rw[hzs];exact run_firstCells_some w.drew 2 i ⟨b,0,none⟩ i c (cs.take (i*2)) (by rw[yan];omega) (λj v d=>by
   rw[Addr.add_lit,ybl];rw[ybz]at d;split at d;.exact hcs j v d
   .cases d)
 have o:∀l,(Builtin.append_ #[27,3] l #[.slice (some ⟨b,0,none⟩) i c,.int .i64 ((n:Int)+1-(i:Int))]).run Tryz.prog w=
   .ok (.slice (some ⟨w.heap.size,0,none⟩) (n+1) (grownCap w (n+1) c 101)) (w.drew.alloc (.cells ((cs.take (i*2)).toArray++Builtin.zeroCells z.cells (n+1-i)++Builtin.zeroCells z.cells (grownCap w (n+1) c 101-(n+1))) 101)):=λl=>by
  have h:=Lib.run_append_grow_zeros w 27 3 l 101 i0 _ .i64 .i64 Tryz.underlying27 Tryz.underlying3 hi0 hz0 (some ⟨b,0,none⟩) i c (cs.take (i*2)) p (n+1-i) (by omega) (by omega) (by omega) (by omega) (by rw[hzb];omega) (by rw[hzb,u];exact growslice_fits hroom hbig);rw[u]at h;rw[A];exact h
 obtain⟨G,E⟩:∃G,G=grownCap w (n+1) c 101:=⟨_,rfl⟩;obtain⟨a,g⟩:∃a:Array Value,a=(cs.take (i*2)).toArray++Builtin.zeroCells z.cells (n+1-i)++Builtin.zeroCells z.cells (G-(n+1)):=⟨_,rfl⟩;rw[<-E]at o⊢;rw[<-g]at o⊢;have J:(n+1)*2<=a.size:=by rw[g];simp only[ye0,ye1,yan,size_zeroCells,hzc,hcl];omega
 obtain⟨k,f⟩:∃k,k=w.drew.alloc (.cells a 101):=⟨_,rfl⟩;rw[<-f]at o;have K:∀j,j<(n+1)*2->(k.cell? ⟨w.heap.size,j,none⟩).isSome=true:=λj d=>by rw[f,ydl (w:=w.drew) a _ w.heap.size j rfl,yb6 (by omega)];rfl
 have B:∀j,k.frozen? ⟨w.heap.size,j,none⟩=false:=λj=>by rw[f];exact World.frozen?_alloc_at (w:=w.drew) a _ w.heap.size j rfl
 have L:∀j v,w.cell? ⟨b,j,none⟩=some v->k.cell? ⟨b,j,none⟩=some v:=λj v h=>by rw[f,yes (w:=w.drew) _ b j H];exact h
 have M:∀j v,w.cell? ⟨vb,j,none⟩=some v->k.cell? ⟨vb,j,none⟩=some v:=λj v h=>by rw[f,yes (w:=w.drew) _ vb j I];exact h
 have C:∀(W:World),(∀x,W.cell? x=k.cell? x)->(∀x,W.frozen? x=k.frozen? x)->∀l s,(Builtin.copy_ #[27,27] l #[.slice (some ⟨w.heap.size,i*2,none⟩) (n+1-i) s,.slice (some ⟨vb,0,none⟩) 1 vc]).run Tryz.prog W=.ok (goInt ((1:Nat):Int)) (W.setCells w.heap.size (i*2) vs):=λW m r l s=>zdb W _ _ l 101 2 w.heap.size (i*2) (n+1-i) s ⟨vb,0,none⟩ 1 vc vs Tryz.underlying27 y 1 (by simp only[ye5];split<;>omega) (by rw[hvl]) (λj v d=>by rw[Addr.add_lit,ybl,m];exact M _ v (hvs j v d)) (λj d=>by rw[m];exact K (i*2+j) (by omega)) (λj d=>by rw[r];exact B _) h1v;have ab:n+1<=G:=by rw[E];exact grownCap_ge w _ _ _
 have U:G<=9223372036854775807:=by have:=grownCap_le_maxLen w (n+1) c 101 (by unfold maxLen;omega);rw[<-E]at this;unfold maxLen at this;omega
 have ad:¬(G=i):=by omega
 have X:¬(G=i+1):=by omega
 have ae:¬(c=i):=by omega
 have O:b≠w.heap.size:=by omega
 have D:(cs.drop (i*2)).length=(n-i)*2:=by rw[ya3,hcl];omega
 have q:∀(W:World),(∀x,W.cell? x=(k.setCells w.heap.size (i*2) vs).cell? x)->(∀x,W.frozen? x=(k.setCells w.heap.size (i*2) vs).frozen? x)->∀l s F,(Builtin.copy_ #[27,27] l #[.slice (some ⟨w.heap.size,(i+1)*2,none⟩) (n-i) s,.slice (some ⟨b,i*2,none⟩) (n-i) F]).run Tryz.prog W=.ok (goInt ((n-i:Nat):Int)) (W.setCells w.heap.size ((i+1)*2) (cs.drop (i*2))):=λW m r l s F=>zdb W _ _ l 101 2 w.heap.size ((i+1)*2) (n-i) s ⟨b,i*2,none⟩ (n-i) F (cs.drop (i*2)) Tryz.underlying27 y (n-i) (by simp only[ye5];split<;>omega) D (λj v d=>by rw[Addr.add_lit,m,ydv _ _ _ _ _ (λh _=>absurd h O)];exact L _ v (hcs (i*2+j) v (by rwa[yby]at d))) (λj d=>by rw[m];exact isSome_setCells w.heap.size vs (i*2) k (λt ht=>K (i*2+t) (by omega)) _ (K ((i+1)*2+j) (by rw[D]at d;omega))) (λj d=>by rw[r,yd6];exact B _) (λv Y=>h1c v (yay Y));subst f;have P:∀x,((w.alloc (.cells a 101)).drew).cell? x=(w.drew.alloc (.cells a 101)).cell? x:=λx=>rfl;have Q:∀x,((w.alloc (.cells a 101)).drew).frozen? x=(w.drew.alloc (.cells a 101)).frozen? x:=λx=>rfl;have R:∀x,(((w.alloc (.cells a 101)).drew.setCells w.heap.size (i*2) vs).drew).cell? x=((w.drew.alloc (.cells a 101)).setCells w.heap.size (i*2) vs).cell? x:=λx=>rfl;have S:∀x,(((w.alloc (.cells a 101)).drew.setCells w.heap.size (i*2) vs).drew).frozen? x=((w.drew.alloc (.cells a 101)).setCells w.heap.size (i*2) vs).frozen? x:=λx=>rfl;have af:IntKind.i64.wrap ((i:Int)+1)=(i:Int)+1:=by rw[IntKind.wrap_i64];omega
 have ag:IntKind.i64.wrap ((n:Int)+1)=(n:Int)+1:=by rw[IntKind.wrap_i64];omega
 have ah:(0:Int)<=(i:Int)+1:=by omega
 have ai:i<=n:=by omega
 have aj:((i:Int)+1).toNat=i+1:=by omega
 have ak:(i:Int)<=(n:Int):=by omega
 clear A u p g E J;have T:Tryz.prog.follows .mixedOrders=true:=by kernel_rfl
 go_enter Tryz.func140,Tryz.ntmps140
 go_wp2_with (first
  |(at_builtin;refine Lib.wpList_append_run _ rfl _ _ _ _ rfl _ _ rfl rfl _ _ (o _) ?_)
  |(at_builtin;refine wpList_copy_runI _ rfl _ _ 27 27 rfl _ _ rfl rfl (C _ P Q _ _) ?_)
  |(at_builtin;refine wpList_copy_runI _ rfl _ _ 27 27 rfl _ _ rfl rfl (q _ (λ_=>rfl) (λ_=>rfl) _ _ _) ?_))
 go_region_law_o (refine step_copy_runI rfl _ _ 27 27 rfl (.slice (some ⟨w.heap.size,(i+1)*2,none⟩) (n-i) (G-(i+1))) (.slice (some ⟨b,i*2,none⟩) (n-i) (c-i)) (by simp[Act.eval,Act.put]) (by simp[Act.eval,Act.put]) (q _ R S 3 (G-(i+1)) (c-i)) ?_)
 go_wp2
 go_ret
 exact⟨rfl,rfl⟩
set_option maxHeartbeats 4000000 in
set_option maxRecDepth 100000 in
theorem z2o (b n c i vb vc:Nat)(cs vs:List Value)(w:World)(hi:i<n)(hroom:n+1<=c)(hc63:c<=9223372036854775807)(hvb:vb≠b)
  (hcl:cs.length=n*11) (hvl:vs.length=11)
  (hcs:∀j v,cs[j]? =some v->w.cell? ⟨b,j,none⟩=some v) (hsp:∀j,j<(n+1)*11->(w.cell? ⟨b,j,none⟩).isSome=true) (hfz:∀j,j<(n+1)*11->w.frozen? ⟨b,j,none⟩=false)
  (hvs:∀j v,vs[j]? =some v->w.cell? ⟨vb,j,none⟩=some v) (h1c:∀v∈cs,v.oneCell'=true) (h1v:∀v∈vs,v.oneCell'=true)
  (tA tB:TypeId) (kA kB:Nat) (hsa:w.shape? vb=some (tA,kA)) (hsb:w.shape? b=some (tB,kB)) (hkB:kB≠0) (hfa:w.frozen? ⟨vb,0,none⟩=false) (hfe:w.frozen? ⟨vb,kA,none⟩=false):
  Calls Tryz.prog 129 #[.slice (some ⟨b,0,none⟩) n c,.int .i64 i,.slice (some ⟨vb,0,none⟩) 1 vc] w λe w'=>e=.returned (.slice (some ⟨b,0,none⟩) (n+1) c)/\w'=(w.drew.setCells b ((i+1)*11) (cs.drop (i*11))).setCells b (i*11) vs:=by
 have B:¬((i:Int)=(n:Int)):=by omega
 have u:∀lb cb,(callFunc 198 #[.slice (some ⟨vb,0,none⟩) 1 vc,.slice (some ⟨b,(i+1)*11,none⟩) lb cb]).run Tryz.prog w=.ok (.value (.bool false)) w:=λlb cb=>by rw[run_callFunc_extern Tryz.func198 (by kernel_rfl) (by kernel_rfl) (by kernel_rfl) (e:=Extern.SlicesOverlaps.overlaps #[31,31] #[4]) (by kernel_rfl),Lib.run_overlaps_apart w 31 4 57 Tryz.underlying31 11 Tryz.sizeOf57 ⟨vb,0,none⟩ ⟨b,(i+1)*11,none⟩ 1 vc lb cb hvb tA tB kA kB hsa hsb hkB hfa hfe];rfl
 have f:(cs.drop (i*11)).length=(n-i)*11:=by rw[ya3,hcl];omega
 have C:IntKind.i64.wrap ((i:Int)+1)=(i:Int)+1:=by rw[IntKind.wrap_i64];omega
 have D:IntKind.i64.wrap ((n:Int)+1)=(n:Int)+1:=by rw[IntKind.wrap_i64];omega
 have E:(0:Int)<=(i:Int)+1:=by omega
 have F:i<=n:=by omega
 have G:((i:Int)+1).toNat=i+1:=by omega
 have hb2:¬(c=i+1):=by omega
 have H:(i:Int)<=(n:Int)+1:=by omega
 have I:¬(c=i):=by omega
 have g:∀l m s,(Builtin.copy_ #[31,31] l #[.slice (some ⟨b,(i+1)*11,none⟩) (n-i) m,.slice (some ⟨b,i*11,none⟩) (n+1-i) s]).run Tryz.prog w.drew=.ok (goInt ((n-i:Nat):Int)) (w.drew.setCells b ((i+1)*11) (cs.drop (i*11))):=λl m s=>zdb w.drew _ _ l 57 11 b ((i+1)*11) (n-i) m ⟨b,i*11,none⟩ (n+1-i) s (cs.drop (i*11)) Tryz.underlying31 Tryz.sizeOf57 (n-i) (by simp only[ye5];split<;>omega) f (λj v d=>by rw[Addr.add_lit];exact hcs (i*11+j) v (by rwa[yby]at d)) (λj d=>hsp ((i+1)*11+j) (by rw[f]at d;omega)) (λj d=>hfz ((i+1)*11+j) (by rw[f]at d;omega)) (λv z=>h1c v (yay z));obtain⟨o,a⟩:∃o,o=w.drew.setCells b ((i+1)*11) (cs.drop (i*11)):=⟨_,rfl⟩;have q:∀k,k<(n+1)*11->(o.cell? ⟨b,k,none⟩).isSome=true:=λk A=>by rw[a];exact isSome_setCells b (cs.drop (i*11)) ((i+1)*11) w.drew (λj d=>hsp ((i+1)*11+j) (by rw[f]at d;omega)) _ (hsp k A)
 have r:∀(W:World),(∀x,W.cell? x=o.cell? x)->(∀x,W.frozen? x=o.frozen? x)->∀l m,(Builtin.copy_ #[31,31] l #[.slice (some ⟨b,i*11,none⟩) (n+1-i) m,.slice (some ⟨vb,0,none⟩) 1 vc]).run Tryz.prog W=.ok (goInt ((1:Nat):Int)) (W.setCells b (i*11) vs):=λW p t l m=>zdb W _ _ l 57 11 b (i*11) (n+1-i) m ⟨vb,0,none⟩ 1 vc vs Tryz.underlying31 Tryz.sizeOf57 1 (by simp only[ye5];split<;>omega) (by rw[hvl]) (λj v d=>by rw[Addr.add_lit,ybl,p,a,ydv b _ _ _ _ (λh _=>absurd h hvb)];exact hvs j v d) (λj d=>by rw[p];exact q (i*11+j) (by omega)) (λj d=>by rw[t,a,yd6];exact hfz (i*11+j) (by omega)) h1v;rw[<-a]at g;have y:Tryz.prog.follows .mixedOrders=true:=by kernel_rfl
 go_enter Tryz.func129,Tryz.ntmps129
 go_wp2_with (simp only[u])
 go_region_law_o (refine step_copy_runI rfl _ _ 31 31 rfl _ _ (by simp[Act.eval,Act.put]) (by simp[Act.eval,Act.put]) (g _ _ _) ?_)
 go_wp2_with (at_builtin;refine wpList_copy_runI _ rfl _ _ 31 31 rfl _ _ rfl rfl (r _ (λ_=>rfl) (λ_=>rfl) _ _) ?_)
 go_ret
 first|exact⟨rfl,rfl⟩|exact⟨rfl,by rw[a]⟩
set_option maxHeartbeats 4000000 in
set_option maxRecDepth 100000 in
theorem z6u (b n c i vb vc:Nat)(cs vs:List Value)(w:World)(hi:i<n)(hnc:n<=c)(hroom:c<n+1)(hbig:(n+1)*128<=140737488355328)
  (hcl:cs.length=n*11) (hvl:vs.length=11)
  (hcs:∀j v,cs[j]? =some v->w.cell? ⟨b,j,none⟩=some v)
  (hvs:∀j v,vs[j]? =some v->w.cell? ⟨vb,j,none⟩=some v) (h1c:∀v∈cs,v.oneCell'=true) (h1v:∀v∈vs,v.oneCell'=true)
  (i0:TypeInfo) (z:Value) (hi0:Tryz.prog.info? 57=some i0) (hz0:i0.zero=some z) (hzs:i0.size=11) (hzb:i0.bytes=128) (hzc:z.cells.size=11):
  Calls Tryz.prog 129 #[.slice (some ⟨b,0,none⟩) n c,.int .i64 i,.slice (some ⟨vb,0,none⟩) 1 vc] w λe w'=>
   e=.returned (.slice (some ⟨w.heap.size,0,none⟩) (n+1) (grownCap w (n+1) c 57))/\
   w'=(((w.alloc (.cells ((cs.take (i*11)).toArray++Builtin.zeroCells z.cells (n+1-i)++Builtin.zeroCells z.cells (grownCap w (n+1) c 57-(n+1))) 57)).drew.setCells w.heap.size (i*11) vs).drew).setCells w.heap.size ((i+1)*11) (cs.drop (i*11)):=by
 have Z:¬((i:Int)=(n:Int)):=by omega
 have aa:(c:Int)<(n:Int)+1:=by omega
 have y:=Tryz.sizeOf57;have H:b<w.heap.size:=block_lt_of_cell (hcs 0 _ (yah (by omega)));have I:vb<w.heap.size:=block_lt_of_cell (hvs 0 _ (yah (by omega)));have A:(n:Int)+1-(i:Int)=((n+1-i:Nat):Int):=by omega
 have u:i+(n+1-i)=n+1:=by omega
 have p:(Builtin.firstCells i0.size i (.slice (some ⟨b,0,none⟩) i c)).run Tryz.prog w.drew=.ok (cs.take (i*11)).toArray w.drew:=by
  rw[hzs];exact run_firstCells_some w.drew 11 i ⟨b,0,none⟩ i c (cs.take (i*11)) (by rw[yan];omega) (λj v d=>by
   rw[Addr.add_lit,ybl];rw[ybz]at d;split at d;.exact hcs j v d
   .cases d)
 have o:∀l,(Builtin.append_ #[31,3] l #[.slice (some ⟨b,0,none⟩) i c,.int .i64 ((n:Int)+1-(i:Int))]).run Tryz.prog w=
   .ok (.slice (some ⟨w.heap.size,0,none⟩) (n+1) (grownCap w (n+1) c 57)) (w.drew.alloc (.cells ((cs.take (i*11)).toArray++Builtin.zeroCells z.cells (n+1-i)++Builtin.zeroCells z.cells (grownCap w (n+1) c 57-(n+1))) 57)):=λl=>by
  have h:=Lib.run_append_grow_zeros w 31 3 l 57 i0 _ .i64 .i64 Tryz.underlying31 Tryz.underlying3 hi0 hz0 (some ⟨b,0,none⟩) i c (cs.take (i*11)) p (n+1-i) (by omega) (by omega) (by omega) (by omega) (by rw[hzb];omega) (by rw[hzb,u];exact growslice_fits hroom hbig);rw[u]at h;rw[A];exact h
 obtain⟨G,E⟩:∃G,G=grownCap w (n+1) c 57:=⟨_,rfl⟩;obtain⟨a,g⟩:∃a:Array Value,a=(cs.take (i*11)).toArray++Builtin.zeroCells z.cells (n+1-i)++Builtin.zeroCells z.cells (G-(n+1)):=⟨_,rfl⟩;rw[<-E]at o⊢;rw[<-g]at o⊢;have J:(n+1)*11<=a.size:=by rw[g];simp only[ye0,ye1,yan,size_zeroCells,hzc,hcl];omega
 obtain⟨k,f⟩:∃k,k=w.drew.alloc (.cells a 57):=⟨_,rfl⟩;rw[<-f]at o;have K:∀j,j<(n+1)*11->(k.cell? ⟨w.heap.size,j,none⟩).isSome=true:=λj d=>by rw[f,ydl (w:=w.drew) a _ w.heap.size j rfl,yb6 (by omega)];rfl
 have B:∀j,k.frozen? ⟨w.heap.size,j,none⟩=false:=λj=>by rw[f];exact World.frozen?_alloc_at (w:=w.drew) a _ w.heap.size j rfl
 have L:∀j v,w.cell? ⟨b,j,none⟩=some v->k.cell? ⟨b,j,none⟩=some v:=λj v h=>by rw[f,yes (w:=w.drew) _ b j H];exact h
 have M:∀j v,w.cell? ⟨vb,j,none⟩=some v->k.cell? ⟨vb,j,none⟩=some v:=λj v h=>by rw[f,yes (w:=w.drew) _ vb j I];exact h
 have C:∀(W:World),(∀x,W.cell? x=k.cell? x)->(∀x,W.frozen? x=k.frozen? x)->∀l s,(Builtin.copy_ #[31,31] l #[.slice (some ⟨w.heap.size,i*11,none⟩) (n+1-i) s,.slice (some ⟨vb,0,none⟩) 1 vc]).run Tryz.prog W=.ok (goInt ((1:Nat):Int)) (W.setCells w.heap.size (i*11) vs):=λW m r l s=>zdb W _ _ l 57 11 w.heap.size (i*11) (n+1-i) s ⟨vb,0,none⟩ 1 vc vs Tryz.underlying31 y 1 (by simp only[ye5];split<;>omega) (by rw[hvl]) (λj v d=>by rw[Addr.add_lit,ybl,m];exact M _ v (hvs j v d)) (λj d=>by rw[m];exact K (i*11+j) (by omega)) (λj d=>by rw[r];exact B _) h1v;have ab:n+1<=G:=by rw[E];exact grownCap_ge w _ _ _
 have U:G<=9223372036854775807:=by have:=grownCap_le_maxLen w (n+1) c 57 (by unfold maxLen;omega);rw[<-E]at this;unfold maxLen at this;omega
 have ad:¬(G=i):=by omega
 have X:¬(G=i+1):=by omega
 have ae:¬(c=i):=by omega
 have O:b≠w.heap.size:=by omega
 have D:(cs.drop (i*11)).length=(n-i)*11:=by rw[ya3,hcl];omega
 have q:∀(W:World),(∀x,W.cell? x=(k.setCells w.heap.size (i*11) vs).cell? x)->(∀x,W.frozen? x=(k.setCells w.heap.size (i*11) vs).frozen? x)->∀l s F,(Builtin.copy_ #[31,31] l #[.slice (some ⟨w.heap.size,(i+1)*11,none⟩) (n-i) s,.slice (some ⟨b,i*11,none⟩) (n-i) F]).run Tryz.prog W=.ok (goInt ((n-i:Nat):Int)) (W.setCells w.heap.size ((i+1)*11) (cs.drop (i*11))):=λW m r l s F=>zdb W _ _ l 57 11 w.heap.size ((i+1)*11) (n-i) s ⟨b,i*11,none⟩ (n-i) F (cs.drop (i*11)) Tryz.underlying31 y (n-i) (by simp only[ye5];split<;>omega) D (λj v d=>by rw[Addr.add_lit,m,ydv _ _ _ _ _ (λh _=>absurd h O)];exact L _ v (hcs (i*11+j) v (by rwa[yby]at d))) (λj d=>by rw[m];exact isSome_setCells w.heap.size vs (i*11) k (λt ht=>K (i*11+t) (by omega)) _ (K ((i+1)*11+j) (by rw[D]at d;omega))) (λj d=>by rw[r,yd6];exact B _) (λv Y=>h1c v (yay Y));subst f;have P:∀x,((w.alloc (.cells a 57)).drew).cell? x=(w.drew.alloc (.cells a 57)).cell? x:=λx=>rfl;have Q:∀x,((w.alloc (.cells a 57)).drew).frozen? x=(w.drew.alloc (.cells a 57)).frozen? x:=λx=>rfl;have R:∀x,(((w.alloc (.cells a 57)).drew.setCells w.heap.size (i*11) vs).drew).cell? x=((w.drew.alloc (.cells a 57)).setCells w.heap.size (i*11) vs).cell? x:=λx=>rfl;have S:∀x,(((w.alloc (.cells a 57)).drew.setCells w.heap.size (i*11) vs).drew).frozen? x=((w.drew.alloc (.cells a 57)).setCells w.heap.size (i*11) vs).frozen? x:=λx=>rfl;have af:IntKind.i64.wrap ((i:Int)+1)=(i:Int)+1:=by rw[IntKind.wrap_i64];omega
 have ag:IntKind.i64.wrap ((n:Int)+1)=(n:Int)+1:=by rw[IntKind.wrap_i64];omega
 have ah:(0:Int)<=(i:Int)+1:=by omega
 have ai:i<=n:=by omega
 have aj:((i:Int)+1).toNat=i+1:=by omega
 have ak:(i:Int)<=(n:Int):=by omega
 clear A u p g E J;have T:Tryz.prog.follows .mixedOrders=true:=by kernel_rfl
 go_enter Tryz.func129,Tryz.ntmps129
 go_wp2_with (first
  |(at_builtin;refine Lib.wpList_append_run _ rfl _ _ _ _ rfl _ _ rfl rfl _ _ (o _) ?_)
  |(at_builtin;refine wpList_copy_runI _ rfl _ _ 31 31 rfl _ _ rfl rfl (C _ P Q _ _) ?_)
  |(at_builtin;refine wpList_copy_runI _ rfl _ _ 31 31 rfl _ _ rfl rfl (q _ (λ_=>rfl) (λ_=>rfl) _ _ _) ?_))
 go_region_law_o (refine step_copy_runI rfl _ _ 31 31 rfl (.slice (some ⟨w.heap.size,(i+1)*11,none⟩) (n-i) (G-(i+1))) (.slice (some ⟨b,i*11,none⟩) (n-i) (c-i)) (by simp[Act.eval,Act.put]) (by simp[Act.eval,Act.put]) (q _ R S 3 (G-(i+1)) (c-i)) ?_)
 go_wp2
 go_ret
 exact⟨rfl,rfl⟩
set_option maxHeartbeats 4000000 in
set_option maxRecDepth 100000 in
theorem zEf (b n c i m:Nat)(cs:List Value)(w:World)(hn:n=i+1+m)(hnc:n<=c)(hc63:c<=9223372036854775807)
  (hcl:cs.length=n*2)
  (hcs:∀j v,cs[j]? =some v->w.cell? ⟨b,j,none⟩=some v) (hfz:∀j,j<n*2->w.frozen? ⟨b,j,none⟩=false) (h1c:∀v∈cs,v.oneCell'=true)
  (i0:TypeInfo) (z:Value) (hi0:Tryz.prog.info? 101=some i0) (hz0:i0.zero=some z) (hzs:i0.size=2) (hzc:z.cells.size=2) (hz1:∀v∈z.cells.toList,v.oneCell'=true):
  Calls Tryz.prog 142 #[.slice (some ⟨b,0,none⟩) n c,.int .i64 i,.int .i64 ((i:Int)+1)] w λe w'=>e=.returned (.slice (some ⟨b,0,none⟩) (i+m) c)/\w'=(w.drew.setCells b (i*2) (cs.drop ((i+1)*2))).setCells b ((i+m)*2) z.cells.toList:=by
 have J:=Tryz.sizeOf101;have f:∀j,j<n*2->(w.cell? ⟨b,j,none⟩).isSome=true:=λj x=>by rw[hcs j _ (yah (by omega))];rfl
 have l:(cs.drop ((i+1)*2)).length=m*2:=by rw[ya3,hcl];omega
 obtain⟨a,d⟩:∃a,a=cs.drop ((i+1)*2):=⟨_,rfl⟩;rw[<-d]at l⊢;obtain⟨A,W,y⟩:∃A:Addr,(if c=i+1 then some (⟨b,0,none⟩:Addr)else some ⟨b,(i+1)*2,none⟩)=some A/\Hid (∀t u,a[t]? =some u->w.drew.cell? (A.add t)=some u):=by
  by_cases h:c=i+1
  .refine⟨⟨b,0,none⟩,by simp[h],λt u q=> ?_⟩;have K:a.length=0:=by rw[l];omega
   rw[ydj.1 K]at q;simp at q
  .refine⟨⟨b,(i+1)*2,none⟩,by simp[h],λt u q=> ?_⟩;rw[Addr.add_lit];rw[d,yby]at q;exact hcs _ u q
 have L:Hid (a.length=m*2):=l;have M:Hid (∀u∈a,u.oneCell'=true):=λu q=>h1c u (yay (by rw[<-d];exact q));have O:Hid (∀t,t<a.length->(w.drew.cell? ⟨b,0+i*2+t,none⟩).isSome=true/\w.drew.frozen? ⟨b,0+i*2+t,none⟩=false):=by intro t I;rw[l]at I;exact⟨f (0+i*2+t) (by omega),hfz (0+i*2+t) (by omega)⟩
 obtain⟨s,g⟩:∃s,s=w.drew.setCells b (0+i*2) a:=⟨_,rfl⟩;have p:∀k,k<n*2->(s.cell? ⟨b,k,none⟩).isSome=true:=λk H=>by rw[g];exact isSome_setCells b a (0+i*2) w.drew (λj x=>f (0+i*2+j) (by rw[l]at x;omega)) _ (f k H)
 have r:=run_storeCells_cells (P:=Tryz.prog) b ((i+m)*2) z.cells.toList 0 s (λj x=>by simpa using p ((i+m)*2+j) (by simp at x;omega)) (λj x=>by rw[g,yd6];simpa using hfz ((i+m)*2+j) (by simp at x;omega)) hz1;rw[ycf]at r;have B:∀w,(zeroValue 101).run Tryz.prog w=.ok z w:=λw=>by simp[zeroValue,typeInfo,hi0,hz0]
 have C:(Builtin.zeroCells z.cells 1).toList=z.cells.toList:=by have h:(Builtin.zeroCells z.cells 1).toList=(List.replicate 1 z.cells.toList).flatten:=zih z.cells (by omega) 1;rw[h];simp
 have hcl:∀F G,(Builtin.clear_ #[27] F #[.slice (some ⟨b,(i+m)*2,none⟩) 1 G]).run Tryz.prog s=.ok (.tuple #[]) (s.setCells b ((i+m)*2) z.cells.toList):=λF G=>by simp[Builtin.clear_,run_underlying Tryz.underlying27,B,C,r]
 rw[ybl]at g;rw[g]at hcl;have Q:i<=c:=by omega
 have R:i+1<=c:=by omega
 have S:¬((i:Int)=(i:Int)+1):=by omega
 have T:(0:Int)<=(i:Int)+1:=by omega
 have U:((i:Int)+1).toNat=i+1:=by omega
 have X:i+1+m-(i+m)=1:=by omega
 have Y:¬(c=i+m):=by omega
 have Z:(i:Int)<=(i:Int)+1:=by omega
 have e4:(i:Int)+1<=(i:Int)+1+m:=by omega
 have e5:(i:Int)+1<=(c:Int):=by omega
 have e6:i+m<=i+1+m:=by omega
 have e7:(i:Int)+m<=(i:Int)+1+m:=by omega
 have e8:(i:Int)<=(i:Int)+1+m:=by omega
 obtain⟨E,o⟩:∃E,E=z.cells.toList:=⟨_,rfl⟩;rw[<-o]at hcl⊢;clear p r C f d g o B hzc hz1;subst hn;have D:Tryz.prog.follows .mixedOrders=true:=by kernel_rfl
 go_enter Tryz.func142,Tryz.ntmps142
 go_wp2_with fail
 go_region_law_o (refine step_append_room rfl (.tmp 22) (.tmp 25) 27 rfl 101 i0 2 Tryz.underlying27 hi0 hzs b 0 i c (by simp[Act.eval,Act.put]) A m (c-(i+1)) a (by simp[Act.eval,Act.put]) L.out y.out M.out (by omega) O.out ?_;rw[ybl])
 go_wp2
 go_ret
 exact⟨rfl,rfl⟩
end Go.Proofs.YtdbhocoeolhjhaaGreatDoor
namespace Go.Abs
open Go.RowKit Go.Proofs
variable {G:Globs}
section
variable {P:Program}{base:Nat}{κ:Key}{Im:Addr->Prop}{w w':World}{σ:zaa}
theorem zxP {id e size:Nat}{els:List (List AV)}{v:Value}(hs:SRel base κ Im σ w)(hent:σ[id]? =some (.row e size els false))(hk:κ id els.length=some v)(hn:0<els.length):
  ∃b cap cur xs,v=.slice (some ⟨b,0,none⟩) els.length cap/\base<=b/\w.heap[b]? =some (.cells cur e (0,0))/\els.length<=cap/\cap<=maxLen/\cur.size=cap*size/\cur.toList.take (els.length*size)=xs/\xs.length=els.length*size/\VRL κ Im w els.flatten xs/\0<size/\(∀c∈els,c.length=size)/\(∀c∈els,∀x∈c,x.one=true)/\(∀a,Im a->a.block≠b)/\(Entry.row e size els false).block κ id=some b:=by
 obtain⟨y,xs,i,f,j,g,h,d,m,k⟩:=hs.ent _ _ hent;rw[hk]at i;cases i;rcases f.2 with ⟨_,z⟩|⟨b,cap,cur,n,o,p,q,r,s,t⟩
 .omega
 .subst n;exact⟨b,cap,cur,xs,rfl,o,p,q,r,s,t,f.1,j,g,h,d,(λa u l=>by have:=((k b rfl).1 a u l).1;cases this),by simp[Entry.block,hk,Value.ownBlock]⟩
theorem zzM {id e size:Nat}{els els':List (List AV)}{v v':Value}{xs':List Value}(hs:SRel base κ Im σ w)(hent:σ[id]? =some (.row e size els false))(hk:κ id els.length=some v)(hn:els.length<els'.length)
  (p1:w'.ownsRow base e size v' els'.length xs') (p2:w.grownBy w' v.ownBlock) (p3:∀g,v'.ownBlock=some g->v.ownBlock=some g∨w.heap.size<=g) (hvr:VRL κ Im w els'.flatten xs') (hlen:∀c∈els',c.length=size) (hone:∀c∈els',∀x∈c,x.one=true):
  ∃κ',VR κ' Im w' (.row id els'.length) v'/\SRel base κ' Im (σ.set id (.row e size els' false)) w'/\Grow base κ Im w κ' Im w':=by
 obtain⟨O,P,r,s,_,l,C,z,L,D⟩:=hs.ent _ _ hent;rw[hk]at r;cases r;have p:∀u,κ id els'.length=some u->False:=λu h=>by obtain⟨Q,t,I⟩:=hs.dom _ _ _ h;rw[hent]at t;cases t;simp only[Entry.ver]at I;omega
 have H:∀A k u,κ A k=some u->κ.with id els'.length v' A k=some u:=by
  intro A k u K;unfold Key.with
  split;.rename_i f;obtain⟨rfl,rfl⟩:=f;exact(p _ K).elim
  .exact K
 have d:(Entry.row e size els false).block κ id=v.ownBlock:=by simp[Entry.block,hk]
 have q:(Entry.row e size els' false).block (κ.with id els'.length v') id=v'.ownBlock:=by simp[Entry.block,Key.with_same]
 have i:∀a,Im a->v.ownBlock≠some a.block:=λa m n=>by have:=((D _ n).1 a m rfl).1;cases this
 have b:∀a,Im a->w'.cell? a=w.cell? a:=λa m=>ya5 (p2.block _ (hs.imlt a m).1 (λh=>i a m h.symm));refine⟨κ.with id els'.length v', ?_, ?_,⟨H,λ_ h=>h,b,λa h=> .inl h,⟨p2.os,p2.tape,p2.output,p2.size,λk o=>p2.block k (ycc o hs.hb) (λF=>by have:=s.lt k F.symm;omega)⟩⟩⟩
 .obtain⟨g,J,E⟩:∃g y,v'=.slice g els'.length y:=by
   rcases p1.2 with ⟨t,I⟩|⟨g,y,_,t,_⟩;.omega
   .exact⟨_,_,t⟩
  have:=Key.with_same κ id els'.length v';rw[E]at this⊢;exact .row _ _ _ _ this
 .refine hs.set hent _ H (λA k u h=> ?_) (by simp only[Entry.ver];omega) (λ_ h=>h) b (λa h=> .inl h) p2.size (λk o G=>p2.block k o (λh=>G (by rw[d,h]))) ?_ (λg B=> ?_)
  .unfold Key.with at h;split at h;.rename_i f;exact .inr ⟨f.1,by rw[f.2];simp[Entry.ver]⟩
   .exact .inl h
  .refine⟨v',xs',Key.with_same _ _ _ _,p1,⟨hvr.1,λj h M=>(hvr.2 j h M).mono H (λ_ h=>h) b⟩,l,hlen,hone,λh=>(by cases h),λg B=>⟨λa m n=> ?_,λh=>by cases h⟩⟩;rcases p3 g B with h|h
   .exact absurd (by rw[n];exact h) (i a m)
   .have:=(hs.imlt a m).1;omega
  .rw[q]at B;rcases p3 g B with h|h
   .exact .inr (by rw[d];exact h)
   .exact .inl h
theorem z9z {id e size:Nat}{els els':List (List AV)}{v:Value}{xs':List Value}(hs:SRel base κ Im σ w)(hent:σ[id]? =some (.row e size els false))(hk:κ id els.length=some v)(hn:els'.length=els.length)
  (p1:w'.ownsRow base e size v els.length xs') (p2:w.grownBy w' v.ownBlock) (hvr:VRL κ Im w els'.flatten xs') (hlen:∀c∈els',c.length=size) (hone:∀c∈els',∀x∈c,x.one=true):
  SRel base κ Im (σ.set id (.row e size els' false)) w'/\Grow base κ Im w κ Im w':=by
 obtain⟨D,E,p,q,_,i,t,r,B,y⟩:=hs.ent _ _ hent;rw[hk]at p;cases p;have d:(Entry.row e size els false).block κ id=v.ownBlock:=by simp[Entry.block,hk]
 have n:(Entry.row e size els' false).block κ id=v.ownBlock:=by simp[Entry.block,hk,hn]
 have f:∀a,Im a->v.ownBlock≠some a.block:=λa o l=>by have:=((y _ l).1 a o rfl).1;cases this
 have b:∀a,Im a->w'.cell? a=w.cell? a:=λa o=>ya5 (p2.block _ (hs.imlt a o).1 (λh=>f a o h.symm));refine⟨?_,⟨λ_ _ _ h=>h,λ_ h=>h,b,λa h=> .inl h,⟨p2.os,p2.tape,p2.output,p2.size,λk m=>p2.block k (ycc m hs.hb) (λz=>by have:=q.lt k z.symm;omega)⟩⟩⟩;refine hs.set hent _ (λ_ _ _ h=>h) (λF k u h=> .inl h) (by simp only[Entry.ver];omega) (λ_ h=>h) b (λa h=> .inl h) p2.size (λk m A=>p2.block k m (λh=>A (by rw[d,h]))) ?_ (λg s=> .inr (by rw[n]at s;rw[d];exact s));exact⟨v,xs',by rw[hn];exact hk,by rw[hn];exact p1,⟨hvr.1,λj h C=>(hvr.2 j h C).mono (λ_ _ _ h=>h) (λ_ h=>h) b⟩,i,hlen,hone,λh=>(by cases h),λg s=>⟨λa o l=>absurd (by rw[l];exact s) (f a o),λh=>by cases h⟩⟩
theorem z3a {α:Type}(X xs vs:List α)(a k n N:Nat)(hX:X.take n=xs)(ha:a<=n)(hk:vs.length=k)(hn:xs.length=n)(hN:n+k<=X.length)(hNN:N=n+k):
  ((X.take (a+k)++xs.drop a++X.drop (a+k+(xs.drop a).length)).take a++vs++(X.take (a+k)++xs.drop a++X.drop (a+k+(xs.drop a).length)).drop (a+vs.length)).take N=xs.take a++vs++xs.drop a:=by
 subst hNN;have b:(X.take (a+k)).length=a+k:=by rw[yan];omega
 have c:(X.take (a+k)++xs.drop a++X.drop (a+k+(xs.drop a).length)).take a=xs.take a:=by rw[yax,ya7 (by omega),yd1,ybt (by omega),<-hX,yd1,ybt ha]
 have d:(X.take (a+k)++xs.drop a++X.drop (a+k+(xs.drop a).length)).drop (a+vs.length)=xs.drop a++X.drop (a+k+(xs.drop a).length):=by rw[hk,yax,yeo,yb4 (by omega),b,yc2];rfl
 rw[c,d,<-yax];refine yci ?_;simp only[yag,yan,ya3];omega
theorem z4C {α:Type}(Y xs vs:List α)(a k n N:Nat)(hY:Y.take a=xs.take a)(ha:a<=n)(hk:vs.length=k)(hn:xs.length=n)(hN:n+k<=Y.length)(hNN:N=n+k):
  ((Y.take a++vs++Y.drop (a+vs.length)).take (a+k)++xs.drop a++(Y.take a++vs++Y.drop (a+vs.length)).drop (a+k+(xs.drop a).length)).take N=xs.take a++vs++xs.drop a:=by
 subst hNN;have b:(Y.take a++vs).length=a+k:=by rw[yag,yan];omega
 rw[yci (l₁:=Y.take a++vs) b,hY];refine yci ?_;simp only[yag,yan,ya3];omega
theorem z5q {α:Type}(X xs zs:List α)(a k n q:Nat)(hX:X.take n=xs)(hn:xs.length=n)(hq:q=n-k)(ha:a+k<=n)(hz:zs.length=k)(hN:n<=X.length):
  ((X.take a++xs.drop (a+k)++X.drop (a+(xs.drop (a+k)).length)).take q++zs++(X.take a++xs.drop (a+k)++X.drop (a+(xs.drop (a+k)).length)).drop (q+zs.length)).take n=xs.take a++xs.drop (a+k)++zs:=by
 subst hq;have b:(X.take a).length=a:=by rw[yan];omega
 have c:X.take a=xs.take a:=by rw[<-hX,yd1,ybt (by omega)]
 have d:(X.take a++xs.drop (a+k)).length=n-k:=by rw[yag,b,ya3];omega
 rw[yci (l₁:=X.take a++xs.drop (a+k)) d,<-c];refine yci ?_;simp only[yag,b,ya3];omega
theorem ztk {f T:Nat}(K:Nat)(B:Nat){z:List AV}(hz:zga P T=some z)(hsz:sizeOf? P T=some K)(hzl:z.length=K)(hby:∀i,P.info? T=some i->i.bytes=B)
  (hshift:∀(b n c i vb vc:Nat) (cs vs:List Value) (w:World),i<n->n+1<=c->c<=9223372036854775807->vb≠b->cs.length=n*K->vs.length=K->(∀j v,cs[j]? =some v->w.cell? ⟨b,j,none⟩=some v)->(∀j,j<(n+1)*K->(w.cell? ⟨b,j,none⟩).isSome=true)->(∀j,j<(n+1)*K->w.frozen? ⟨b,j,none⟩=false)->(∀j v,vs[j]? =some v->w.cell? ⟨vb,j,none⟩=some v)->(∀v∈cs,v.oneCell'=true)->(∀v∈vs,v.oneCell'=true)->∀(tA tB:TypeId) (kA kB:Nat),w.shape? vb=some (tA,kA)->w.shape? b=some (tB,kB)->kB≠0->w.frozen? ⟨vb,0,none⟩=false->w.frozen? ⟨vb,kA,none⟩=false->Calls P f #[.slice (some ⟨b,0,none⟩) n c,.int .i64 i,.slice (some ⟨vb,0,none⟩) 1 vc] w λe w'=>e=.returned (.slice (some ⟨b,0,none⟩) (n+1) c)/\w'=(w.drew.setCells b ((i+1)*K) (cs.drop (i*K))).setCells b (i*K) vs)
  (hgrow:∀(b n c i vb vc:Nat) (cs vs:List Value) (w:World),i<n->n<=c->c<n+1->(n+1)*B<=140737488355328->cs.length=n*K->vs.length=K->(∀j v,cs[j]? =some v->w.cell? ⟨b,j,none⟩=some v)->(∀j v,vs[j]? =some v->w.cell? ⟨vb,j,none⟩=some v)->(∀v∈cs,v.oneCell'=true)->(∀v∈vs,v.oneCell'=true)->∀(i0:TypeInfo) (z:Value),P.info? T=some i0->i0.zero=some z->i0.size=K->i0.bytes=B->z.cells.size=K->Calls P f #[.slice (some ⟨b,0,none⟩) n c,.int .i64 i,.slice (some ⟨vb,0,none⟩) 1 vc] w λe w'=>
    e=.returned (.slice (some ⟨w.heap.size,0,none⟩) (n+1) (grownCap w (n+1) c T))/\
    w'=(((w.alloc (.cells ((cs.take (i*K)).toArray++Builtin.zeroCells z.cells (n+1-i)++Builtin.zeroCells z.cells (grownCap w (n+1) c T-(n+1))) T)).drew.setCells w.heap.size (i*K) vs).drew).setCells w.heap.size ((i+1)*K) (cs.drop (i*K)))
  {σ:zaa} {id jd T2:Nat} {els:List (List AV)} {c:List AV} {i:Nat} (he:σ[id]? =some (.row T K els false)) (hj:σ[jd]? =some (.row T2 K [c] false)) (hij:id≠jd) (hi:i<els.length) (hbig:(els.length+1)*B<=140737488355328) (h63:els.length+1<=maxLen):
  ACalls P f [.row id els.length,.int .i64 i,.row jd 1] σ (λr σ'=>r=.row id (els.length+1)/\σ'=σ.set id (.row T K (els.take i++c::els.drop i) false)):=by
 intro base κ Im w vs hs hv;obtain⟨u1,u2,u3,rfl,a6,a7,a8⟩:∃a b c',vs= [a,b,c']/\VR κ Im w (.row id els.length) a/\VR κ Im w (.int .i64 i) b/\VR κ Im w (.row jd 1) c':=by
  match vs,hv.1 with
  | [a,b,c'],_=>exact⟨a,b,c',rfl,hv.2 0 (by simp) (by simp),hv.2 1 (by simp) (by simp),hv.2 2 (by simp) (by simp)⟩
 obtain rfl:=a7.int_inv;obtain⟨g1,o,rfl,ah⟩:=a6.row_inv;obtain⟨g2,L,rfl,a9⟩:=a8.row_inv;have ay:κ jd ([c]:List (List AV)).length=some (.slice g2 1 L):=a9;obtain⟨b,bm,M,q,e1,hb,t,ab,aq,bn,O,D,ai,ar,u,E,bo,au⟩:=zxP hs he ah (by omega);obtain⟨vb,bk,ad,y,e2,hb2,p,aj,ba,bl,F,av,Q,_,aa,G,_,ak⟩:=zxP hs hj ay (by simp);simp only[Value.slice.injEq]at e1 e2;obtain⟨rfl,_,rfl⟩:=e1;obtain⟨rfl,_,rfl⟩:=e2;have bf:vb≠b:=λh=>by subst h;exact hs.sep _ _ _ _ _ hij he hj au ak
 have am:c.length=K:=aa c (by simp);simp only[ybg,yc1,ybl,ye4]at av F aj;simp only[ybk,List.flatten_nil,ybi]at Q;obtain⟨ti,zv,al,bb,bc⟩:=zfB hz;obtain⟨bd,bp,_⟩:=zci (Im:=Im) (w:=w) bc;have az:zv.cells.size=K:=by rw[<-hzl,bd.1];simp
 obtain⟨bq,ae,aw⟩:=sizeOf?_ok hsz;rw[al]at ae;cases ae;have bg:=yat K ab;have br:i*K+K<=els.length*K:=by have:=yat K (show i+1<=els.length by omega);rw[ya8]at this;omega
 have S:(els.length+1)*K=els.length*K+K:=by rw[ya8];omega
 have H:(i+1)*K=i*K+K:=by rw[ya8];omega
 have I:∀j v,q[j]? =some v->w.cell? ⟨b,j,none⟩=some v:=λj v s=>by
  rw[cell_of_row w b j M T (0,0) t];rw[<-O,ybz]at s;split at s;.rw[yb2]at s;exact s
  .cases s
 have A:∀j v,y[j]? =some v->w.cell? ⟨vb,j,none⟩=some v:=λj v s=>by
  rw[cell_of_row w vb j ad T2 (0,0) p];rw[<-F,ybz]at s;split at s;.rw[yb2]at s;exact s
  .cases s
 have a0:∀v∈q,v.oneCell'=true:=ze1 ai λc hc=>by obtain⟨l,hl,am⟩:=ybq.1 hc;exact E l hl c am
 have a1:∀v∈y,v.oneCell'=true:=ze1 Q λx hx=>G c (by simp) x hx;have C:(els.take i++c::els.drop i).length=els.length+1:=by simp;omega
 have an:(els.take i++c::els.drop i).flatten=els.flatten.take (i*K)++c++els.flatten.drop (i*K):=by simp only[ybx,ybk,zc6 _ _ u,zea _ _ u,yax]
 have af:VRL κ Im w (els.take i++c::els.drop i).flatten (q.take (i*K)++y++q.drop (i*K)):=by rw[an];exact((ai.take _).append Q).append (ai.drop _)
 have U:∀d∈els.take i++c::els.drop i,d.length=K:=λd hd=>by
  rcases yai.1 hd with h|h;.exact u d (yao h)
  .rcases ybe.1 h with rfl|h;.exact am
   .exact u d (yay h)
 have W:∀d∈els.take i++c::els.drop i,∀x∈d,x.one=true:=λd hd=>by
  rcases yai.1 hd with h|h;.exact E d (yao h)
  .rcases ybe.1 h with rfl|h;.exact G d (by simp)
   .exact E d (yay h)
 have ag:(q.take (i*K)++y++q.drop (i*K)).length=(els.length+1)*K:=by simp only[yag,yan,ya3,av];omega
 unfold maxLen at aq h63;by_cases Z:els.length+1<=o
 .have bh:=yat K Z;have J:=zf9 (off:=0) (n:=(els.length+1)*K) t (by omega);refine(hshift b els.length o i vb L q y w hi Z (by omega) bf D (by omega) I (λj hj=>by simpa using(J j hj).1) (λj hj=>by simpa using(J j hj).2) A a0 a1 T2 T ad.size M.size (by simp[World.shape?,p]) (by simp[World.shape?,t]) (by have:0<o*K:=Nat.mul_pos (by omega) ar;omega) (by simp[World.frozen?,p]) (by simp[World.frozen?,p])).mono ?_;rintro e w' ⟨rfl,rfl⟩;have X:(q.drop (i*K)).length=els.length*K-i*K:=by rw[ya3,D]
  obtain⟨c1,g1,g2,g3,g4,g5,g6,g7⟩:=zbB b (q.drop (i*K)) ((i+1)*K) w.drew M T t (by rw[X];omega);have a2:c1.size=M.size:=by have:=congrArg List.length g2;simp only[yag,yan,ya3,ya4,X]at this;omega
  obtain⟨c2,q1,q2,q3,q4,q5,q6,q7⟩:=zbB b y (i*K) _ c1 T g1 (by omega);have a3:c2.size=c1.size:=by have:=congrArg List.length q2;simp only[yag,yan,ya3,ya4]at this;omega
  have Y:c2.toList.take ((els.length+1)*K)=q.take (i*K)++y++q.drop (i*K):=by rw[q2,g2,H];exact z3a M.toList q y (i*K) K (els.length*K) _ O (by omega) (by omega) D (by simp only[ya4];omega) S
  obtain⟨κ',r1,r2,r3⟩:=zzM (w':=(w.drew.setCells b ((i+1)*K) (q.drop (i*K))).setCells b (i*K) y) (els':=els.take i++c::els.drop i) (v':=.slice (some ⟨b,0,none⟩) (els.length+1) o) hs he ah (by omega) ⟨by rw[C];exact ag,.inr ⟨b,o,c2,by rw[C],hb,q1,by omega,by unfold maxLen;omega,by omega,by rw[C];exact Y⟩⟩ ⟨q5.trans g5,q6.trans g6,q7.trans g7,by rw[q4,g4];exact yaf _,λk hk ax=>by rw[q3 k (λh=>ax (by rw[h];rfl)),g3 k (λh=>ax (by rw[h];rfl))];rfl⟩ (λg hg=> .inl hg) af U W;rw[C]at r1;exact⟨_,_,_,κ',Im,rfl,⟨rfl,rfl⟩,r2,r3,r1⟩
 .have bi:ti.bytes=B:=hby _ al;refine(hgrow b els.length o i vb L q y w hi ab (by omega) hbig D (by omega) I A a0 a1 ti zv al bb aw bi az).mono ?_;rintro e w' ⟨rfl,rfl⟩;obtain⟨gc,be⟩:∃gc,gc=grownCap w (els.length+1) o T:=⟨_,rfl⟩;have ao:=grownCap_ge w (els.length+1) o T;have a4:=grownCap_le_maxLen w (els.length+1) o T (by unfold maxLen;omega);rw[<-be]at ao a4⊢;obtain⟨m,R⟩:∃m:Array Value,m=(q.take (i*K)).toArray++Builtin.zeroCells zv.cells (els.length+1-i)++Builtin.zeroCells zv.cells (gc-(els.length+1)):=⟨_,rfl⟩;rw[<-R];have bs:m.size=gc*K:=by rw[R];simp only[ye0,ye1,yan,size_zeroCells,az,D];rw[ybt (by omega),Nat.sub_mul,Nat.sub_mul];have:=yat K ao;omega
  have bj:m.toList.take (i*K)=q.take (i*K):=by rw[R];simp only[Array.toList_append,yax];rw[yci (by rw[yan];omega)]
  have h0:(w.alloc (.cells m T)).drew.heap[w.heap.size]? =some (.cells m T (0,0)):=heap_alloc_new w _;have bu:=yat K ao;obtain⟨c1,g1,g2,g3,g4,g5,g6,g7⟩:=zbB w.heap.size y (i*K) (w.alloc (.cells m T)).drew m T h0 (by omega);have a2:c1.size=m.size:=by have:=congrArg List.length g2;simp only[yag,yan,ya3,ya4]at this;omega
  have X:(q.drop (i*K)).length=els.length*K-i*K:=by rw[ya3,D]
  obtain⟨c2,q1,q2,q3,q4,q5,q6,q7⟩:=zbB w.heap.size (q.drop (i*K)) ((i+1)*K) ((w.alloc (.cells m T)).drew.setCells w.heap.size (i*K) y).drew c1 T g1 (by rw[X];omega);have a3:c2.size=c1.size:=by have:=congrArg List.length q2;simp only[yag,yan,ya3,ya4,X]at this;omega
  have Y:c2.toList.take ((els.length+1)*K)=q.take (i*K)++y++q.drop (i*K):=by rw[q2,g2,H];exact z4C m.toList q y (i*K) K (els.length*K) _ bj (by omega) (by omega) D (by simp only[ya4];omega) S
  have a5:∀k,k<w.heap.size->(((w.alloc (.cells m T)).drew.setCells w.heap.size (i*K) y).drew.setCells w.heap.size ((i+1)*K) (q.drop (i*K))).heap[k]? =w.heap[k]? :=λk hk=>by rw[q3 k (by omega)];show((w.alloc (.cells m T)).drew.setCells w.heap.size (i*K) y).heap[k]? =_;rw[g3 k (by omega)];exact heap_alloc_old w _ hk
  obtain⟨κ',r1,r2,r3⟩:=zzM (w':=((w.alloc (.cells m T)).drew.setCells w.heap.size (i*K) y).drew.setCells w.heap.size ((i+1)*K) (q.drop (i*K))) (els':=els.take i++c::els.drop i) (v':=.slice (some ⟨w.heap.size,0,none⟩) (els.length+1) gc) hs he ah (by omega) ⟨by rw[C];exact ag,.inr ⟨w.heap.size,gc,c2,by rw[C],hs.hb,q1,by omega,a4,by omega,by rw[C];exact Y⟩⟩ ⟨q5.trans g5,q6.trans g6,q7.trans g7,by rw[q4];show w.heap.size<=((w.alloc (.cells m T)).drew.setCells w.heap.size (i*K) y).heap.size;rw[g4];show w.heap.size<=(w.heap.push _).size;rw[Array.size_push];omega,λk hk _=>a5 k hk⟩ (λg hg=> .inr (by simp only[Value.ownBlock,yab]at hg;omega)) af U W;rw[C]at r1;exact⟨_,_,_,κ',Im,rfl,⟨rfl,rfl⟩,r2,r3,r1⟩
theorem z1o {f T:Nat}(K:Nat){z:List AV}(hz:zga P T=some z)(hsz:sizeOf? P T=some K)(hzl:z.length=K)
  (hdel:∀(b n c i m:Nat) (cs:List Value) (w:World),n=i+1+m->n<=c->c<=9223372036854775807->cs.length=n*K->(∀j v,cs[j]? =some v->w.cell? ⟨b,j,none⟩=some v)->(∀j,j<n*K->w.frozen? ⟨b,j,none⟩=false)->(∀v∈cs,v.oneCell'=true)->∀(i0:TypeInfo) (z:Value),P.info? T=some i0->i0.zero=some z->i0.size=K->z.cells.size=K->(∀v∈z.cells.toList,v.oneCell'=true)->Calls P f #[.slice (some ⟨b,0,none⟩) n c,.int .i64 i,.int .i64 ((i:Int)+1)] w λe w'=>e=.returned (.slice (some ⟨b,0,none⟩) (i+m) c)/\w'=(w.drew.setCells b (i*K) (cs.drop ((i+1)*K))).setCells b ((i+m)*K) z.cells.toList)
  {σ:zaa} {id:Nat} {els:List (List AV)} {i:Nat} (he:σ[id]? =some (.row T K els false)) (hi:i<els.length):
  ACalls P f [.row id els.length,.int .i64 i,.int .i64 ((i:Int)+1)] σ (λr σ'=>r=.row σ.length (els.length-1)/\σ'=σ.set id (.dead els.length)++ [.row T K (els.take i++els.drop (i+1)) false]):=by
 intro base κ Im w vs hs Z;obtain⟨u1,u2,u3,rfl,aa,ab,ad⟩:∃a b c',vs= [a,b,c']/\VR κ Im w (.row id els.length) a/\VR κ Im w (.int .i64 i) b/\VR κ Im w (.int .i64 ((i:Int)+1)) c':=by
  match vs,Z.1 with
  | [a,b,c'],_=>exact⟨a,b,c',rfl,Z.2 0 (by simp) (by simp),Z.2 1 (by simp) (by simp),Z.2 2 (by simp) (by simp)⟩
 obtain rfl:=ab.int_inv;obtain rfl:=ad.int_inv;obtain⟨g1,E,rfl,H⟩:=aa.row_inv;obtain⟨b,av,y,s,e1,hb,p,t,F,aw,u,I,J,ao,g,q,ax,aq⟩:=zxP hs he H (by omega);simp only[Value.slice.injEq]at e1;obtain⟨rfl,_,rfl⟩:=e1;obtain⟨ti,A,M,ae,af⟩:=zfB hz;obtain⟨O,Q,_⟩:=zci (Im:=Im) (w:=w) af;have U:VRL κ Im w z A.cells.toList:=VRL.ofIR O;have ah:A.cells.size=K:=by rw[<-hzl,O.1];simp
 obtain⟨ay,G,R⟩:=sizeOf?_ok hsz;rw[M]at G;cases G;have ai:=yat K t;have az:i*K+K<=els.length*K:=by have:=yat K (show i+1<=els.length by omega);rw[ya8]at this;omega
 have o:(i+1)*K=i*K+K:=by rw[ya8];omega
 obtain⟨m,hm⟩:∃m,els.length=i+1+m:=⟨els.length-(i+1),by omega⟩;have hq:(i+m)*K=els.length*K-K:=by rw[hm,ya8,ya8,ya8];omega
 have B:∀j v,s[j]? =some v->w.cell? ⟨b,j,none⟩=some v:=λj v x=>by
  rw[cell_of_row w b j y T (0,0) p];rw[<-u,ybz]at x;split at x;.rw[yb2]at x;exact x
  .cases x
 have aj:∀v∈s,v.oneCell'=true:=ze1 J λc hc=>by obtain⟨l,hl,ag⟩:=ybq.1 hc;exact q l hl c ag
 have C:=zf9 (off:=0) (n:=els.length*K) p (by omega);have ak:=F;unfold maxLen at ak;refine(hdel b els.length E i m s w hm t (by omega) I B (λj hj=>by simpa using(C j hj).2) aj ti A M ae R ah (ze1 U Q)).mono ?_;rintro e w' ⟨rfl,rfl⟩;have W:(s.drop ((i+1)*K)).length=els.length*K-(i*K+K):=by rw[ya3,I,o]
 obtain⟨c1,g1,g2,g3,g4,g5,g6,g7⟩:=zbB b (s.drop ((i+1)*K)) (i*K) w.drew y T p (by rw[W];omega);have ar:c1.size=y.size:=by have:=congrArg List.length g2;simp only[yag,yan,ya3,ya4,W]at this;omega
 obtain⟨c2,q1,q2,q3,q4,q5,q6,q7⟩:=zbB b A.cells.toList ((i+m)*K) _ c1 T g1 (by simp only[ya4];omega);have au:c2.size=c1.size:=by have:=congrArg List.length q2;simp only[yag,yan,ya3,ya4]at this;omega
 have X:c2.toList.take (els.length*K)=s.take (i*K)++s.drop (i*K+K)++A.cells.toList:=by rw[q2,g2,o];exact z5q y.toList s A.cells.toList (i*K) K (els.length*K) _ u I hq (by omega) (by simp only[ya4];omega) (by simp only[ya4];omega)
 have D:(els.take i++els.drop (i+1)++ [z]).length=els.length:=by simp;omega
 have L:(els.take i++els.drop (i+1)++ [z]).flatten=els.flatten.take (i*K)++els.flatten.drop (i*K+K)++z:=by simp only[ybx,ybk,List.flatten_nil,ybi,zc6 _ _ g,zea _ _ g,o]
 have Y:VRL κ Im w (els.take i++els.drop (i+1)++ [z]).flatten (s.take (i*K)++s.drop (i*K+K)++A.cells.toList):=by rw[L];exact((J.take _).append (J.drop _)).append U
 obtain⟨r1,r2⟩:=z9z (w':=(w.drew.setCells b (i*K) (s.drop ((i+1)*K))).setCells b ((i+m)*K) A.cells.toList) (els':=els.take i++els.drop (i+1)++ [z]) (xs':=s.take (i*K)++s.drop (i*K+K)++A.cells.toList) hs he H D ⟨by simp only[yag,yan,ya3,ya4];omega,.inr ⟨b,E,c2,rfl,hb,q1,t,F,by omega,X⟩⟩ ⟨q5.trans g5,q6.trans g6,q7.trans g7,by rw[q4,g4];exact yaf _,λk hk S=>by rw[q3 k (λh=>S (by rw[h];rfl)),g3 k (λh=>S (by rw[h];rfl))];rfl⟩ Y (λd hd=>by
   rcases yai.1 hd with h|h
   .rcases yai.1 h with h|h;.exact g d (yao h)
    .exact g d (yay h)
   .simp at h;subst h;exact hzl) (λd hd=>by
   rcases yai.1 hd with h|h
   .rcases yai.1 h with h|h;.exact q d (yao h)
    .exact q d (yay h)
   .simp at h;subst h;exact Q)
 have al:id<σ.length:=(yaa.1 he).1;obtain⟨κ1,t1,t2,t3⟩:=z0J (hi:=els.length-1) r1 (ybs al) (by rw[D];exact H) (by rw[D];omega);have am:(els.take i++els.drop (i+1)++ [z]).take (els.length-1)=els.take i++els.drop (i+1):=yci (by simp;omega);rw[List.set_set,am,D]at t2;rw[List.length_set]at t1;have an:i+m=els.length-1:=by omega
 refine⟨_,_,_,κ1,Im,by rw[an],⟨rfl,rfl⟩, ?_,r2.trans t3,t1⟩;exact t2
end
end Go.Abs
namespace Go.Proofs.YtdbhocoeolhjhaaGreatDoor
open Go.Abs Go.RowKit
variable {G:Globs}
theorem zz7 {P:Program}{t b:Nat}(h:(P.info? t).map (·.bytes)=some b):∀i,P.info? t=some i->i.bytes=b:=λi a=>by rw[a]at h;simpa using h
theorem z9h {σ:zaa}{id jd T2:Nat}{els:List (List AV)}{c:List AV}{i:Nat}(he:σ[id]? =some (.row 101 2 els false))(hj:σ[jd]? =some (.row T2 2 [c] false))(hij:id≠jd)(hi:i<els.length)(hbig:els.length<=100000000):
  AT 140 [.row id els.length,.int .i64 i,.row jd 1] σ (λr σ'=>r=.row id (els.length+1)/\σ'=σ.set id (.row 101 2 (els.take i++c::els.drop i) false)):=
 ztk 2 24 (z:= [.str [],.int .i64 0]) (by kernel_rfl) (by kernel_rfl) rfl (zz7 (by kernel_rfl)) z17 z3s he hj hij hi (by omega) (by unfold maxLen;omega)
theorem z8p {σ:zaa}{id jd T2:Nat}{els:List (List AV)}{c:List AV}{i:Nat}(he:σ[id]? =some (.row 57 11 els false))(hj:σ[jd]? =some (.row T2 11 [c] false))(hij:id≠jd)(hi:i<els.length)(hbig:els.length<=100000000):
  AT 129 [.row id els.length,.int .i64 i,.row jd 1] σ (λr σ'=>r=.row id (els.length+1)/\σ'=σ.set id (.row 57 11 (els.take i++c::els.drop i) false)):=
 ztk 11 128 (z:= [.int .i64 0,.str [],.nils,.int .i64 0,.int .i64 0,.int .i64 0,.int .i64 0,.nils,.int .i64 0,.int .i64 0,.int .i64 0]) (by kernel_rfl) (by kernel_rfl) rfl (zz7 (by kernel_rfl)) z2o z6u he hj hij hi (by omega) (by unfold maxLen;omega)
theorem z6K {σ:zaa}{id:Nat}{els:List (List AV)}{i:Nat}(he:σ[id]? =some (.row 101 2 els false))(hi:i<els.length):
  AT 142 [.row id els.length,.int .i64 i,.int .i64 ((i:Int)+1)] σ (λr σ'=>r=.row σ.length (els.length-1)/\σ'=σ.set id (.dead els.length)++ [.row 101 2 (els.take i++els.drop (i+1)) false]):=
 z1o 2 (z:= [.str [],.int .i64 0]) (by kernel_rfl) (by kernel_rfl) rfl zEf he hi
end Go.Proofs.YtdbhocoeolhjhaaGreatDoor
namespace Go.Abs
def AccT (e size lo:Nat)(τ:zaa)(v:AV)(l:List (List AV)):Prop:=(l= []/\v=.nils)∨(l≠ []/\∃p,v=.row (lo+p) l.length/\τ[p]? =some (.row e size l true))
theorem zku {e size lo:Nat}{τ:zaa}:AccT e size lo τ .nils []:=.inl ⟨rfl,rfl⟩
theorem AccT.more {e size lo:Nat}{τ:zaa}{v:AV}{l:List (List AV)}(h:AccT e size lo τ v l)(x:zaa):AccT e size lo (τ++x) v l:=by
 rcases h with h|⟨b,p,c,a⟩;.exact .inl h
 .exact .inr ⟨b,p,c,by rw[yap (yaa.1 a).1];exact a⟩
theorem AccT.get {e size:Nat}{σ τ:zaa}{v:AV}{l:List (List AV)}(h:AccT e size σ.length τ v l):(l= []/\v=.nils)∨(l≠ []/\∃id,σ.length<=id/\v=.row id l.length/\(σ++τ)[id]? =some (.row e size l true)):=by
 rcases h with h|⟨a,p,b,c⟩;.exact .inl h
 .exact .inr ⟨a,_,by omega,b,by rw[yam (by omega),ybc];exact c⟩
theorem z3k {K:AV->zaa->Prop}{t:Tg K}{e size bytes:Nat}{σ τ:zaa}{v:AV}{l:List (List AV)}(h:AccT e size σ.length τ v l)(x:List AV)(hs:0<size)(hx:x.length=size)(hb:(l.length+1)*bytes<=140737488355328)(h63:l.length+1<=9223372036854775807)
  (hK:∀v' τ',AccT e size σ.length τ' v' (l++ [x])->τ.length<=τ'.length->(∀(p:Nat) (en:Entry),τ[p]? =some en->v≠ .row (σ.length+p) l.length->τ'[p]? =some en)->(∀en∈τ',en∈τ∨en=.row e size (l++ [x]) true)->K v' (σ++τ')):ap K t (σ++τ) e size bytes v (.lst [x]):=by
 rcases h with ⟨rfl,rfl⟩|⟨k,p,rfl,d⟩
 .refine zf6 true [x] rfl hs (by simp[hx]) (λ_=> .inl rfl) (by simpa using hb) (by simp) ?_;have:=hK (.row (σ.length+τ.length) 1) (τ++ [.row e size [x] true]) (.inr ⟨by simp,τ.length,by simp⟩) (by simp) (λp en f _=>by rw[yap (yaa.1 f).1];exact f) (λen a=>by
   rcases yai.1 a with a|a;.exact .inl a
   .simp at a;exact .inr a)
  simpa using this
 .have b:=(yaa.1 d).1;have j:(σ++τ)[σ.length+p]? =some (.row e size l true):=by rw[yam (by omega),ybc];exact d
  refine zbJ l [x] true j rfl hs (by simp[hx]) (λ_=> .inl rfl) rfl (by simpa using hb) (by simpa using h63) ?_;have:=hK (.row (σ.length+p) (l.length+1)) (τ.set p (.row e size (l++ [x]) true)) (.inr ⟨by simp,p,by simp,by simp[b]⟩) (by simp) (λq en g i=>by have c:p≠q:=λe=>i (by rw[e]);rw[yaj c];exact g) (λen a=>(yds a).imp id id);rw[yct _ _ (by omega),ybc];simpa using this
theorem zri {K:AV->zaa->Prop}{t:Tg K}{e size bytes:Nat}{σ τ:zaa}{v:AV}{l:List (List AV)}(h:AccT e size σ.length τ v l)(x:List AV)(hs:0<size)(hx:x.length=size)(hb:(l.length+1)*bytes<=140737488355328)(h63:l.length+1<=9223372036854775807)
  (hK:∀v' τ',AccT e size σ.length τ' v' (l++ [x])->τ.length<=τ'.length->(∀(p:Nat) (en:Entry),τ[p]? =some en->v≠ .row (σ.length+p) l.length->τ'[p]? =some en)->K v' (σ++τ')):ap K t (σ++τ) e size bytes v (.lst [x]):=
 z3k h x hs hx hb h63 λv' τ' a b c _=>hK v' τ' a b c
theorem AccT.coe {e size:Nat}{σ τ:zaa}{v:AV}{l:List (List AV)}(h:AccT e size σ.length τ v l)(lend:Bool):Coe (σ++τ) lend v (.lst l):=by
 rcases h.get with ⟨rfl,rfl⟩|⟨b,id,_,rfl,a⟩;.exact .nils
 .exact .row id _ e size l true a rfl (.inl rfl)
theorem AccT.fin1 {e size:Nat}{σ τ:zaa}{v:AV}{l:List (List AV)}(h:AccT e size σ.length τ v l)(m:Nat):fin1 (σ++τ) m v=some (.lst l):=by
 rcases h.get with ⟨rfl,rfl⟩|⟨b,id,_,rfl,a⟩;.rfl
 .simp[Abs.fin1,fz,a]
theorem AccT.view {e size:Nat}{σ τ:zaa}{v:AV}{l:List (List AV)}(h:AccT e size σ.length τ v l):view (σ++τ) v=some l:=by
 rcases h.get with ⟨rfl,rfl⟩|⟨b,id,_,rfl,a⟩;.rfl
 .simp[Abs.view,a]
theorem AccT.share {e size:Nat}{σ τ:zaa}{v:AV}{l:List (List AV)}(h:AccT e size σ.length τ v l):zfJ (σ++τ) v=some (.lst l):=by
 rcases h.get with ⟨rfl,rfl⟩|⟨b,id,_,rfl,a⟩;.rfl
 .simp[zfJ,a]
theorem AccT.pos {e size lo:Nat}{τ:zaa}{v:AV}{l:List (List AV)}(h:AccT e size lo τ v l):v.one=true/\v.cells= [v]/\(v=.nils∨∃p n,v=.row (lo+p) n):=by
 rcases h with ⟨_,rfl⟩|⟨_,p,rfl,_⟩;.exact⟨rfl,rfl,.inl rfl⟩
 .exact⟨rfl,rfl,.inr ⟨_,_,rfl⟩⟩
theorem AccT.under {e size lo:Nat}{τ:zaa}{v:AV}{l:List (List AV)}(h:AccT e size lo τ v l){m:Nat}(hm:lo+τ.length<=m):v.under m=true:=by
 rcases h with ⟨_,rfl⟩|⟨_,p,rfl,a⟩;.simp[AV.under]
 .have:=(yaa.1 a).1;simp[AV.under];omega
theorem z91 {σ τ:zaa}{a:Entry}:(σ++a::τ)[σ.length]? =some a:=by simp
theorem zuh {σ τ:zaa}{a b:Entry}:(σ++a::b::τ)[σ.length+1]? =some b:=by rw[yam (by omega),ybc];rfl
theorem z9A {σ τ:zaa}{a b c:Entry}:(σ++a::b::c::τ)[σ.length+2]? =some c:=by rw[yam (by omega),ybc];rfl
theorem znx {τ:zaa}{v:Entry}:(τ++ [v])[τ.length]? =some v:=by simp
theorem AccT.finT {e size:Nat}{σ τ:zaa}{v:AV}{l:List (List AV)}(h:AccT e size σ.length τ v l)(m:Nat):Abs.finT (σ++τ) m v=some (.lst l):=by have a:=h.fin1 m;rcases h.get with ⟨_,rfl⟩|⟨_,id,_,rfl,_⟩<;>exact a
theorem zDD {e size:Nat}{σ τ:zaa}{a:Entry}{v:AV}{l:List (List AV)}(h:AccT e size (σ.length+1) τ v l):AccT e size (σ++ [a]).length τ v l:=by simpa using h
theorem app1 {σ τ:zaa}{a:Entry}:(σ++ [a])++τ=σ++a::τ:=by simp
theorem z62 {K:AV->zaa->Prop}{t:Tg K}{e size bytes:Nat}{σ τ:zaa}{a:Entry}{v:AV}{l:List (List AV)}(h:AccT e size (σ.length+1) τ v l)(x:List AV)(hs:0<size)(hx:x.length=size)(hb:(l.length+1)*bytes<=140737488355328)(h63:l.length+1<=9223372036854775807)
  (hK:∀v' τ',AccT e size (σ.length+1) τ' v' (l++ [x])->τ.length<=τ'.length->K v' (σ++a::τ')):ap K t (σ++a::τ) e size bytes v (.lst [x]):=by
 rw[<-app1];exact zri (zDD h) x hs hx hb h63 λv' τ' b c _=>by rw[app1];exact hK v' τ' (by simpa using b) c
theorem AccT.finT0 {e size:Nat}{τ:zaa}{v:AV}{l:List (List AV)}(h:AccT e size 0 τ v l)(m:Nat):Abs.finT τ m v=some (.lst l):=AccT.finT (σ:= []) h m
theorem AccT.finR {e size:Nat}{σ τ:zaa}{v:AV}{l:List (List AV)}(h:AccT e size σ.length τ v l)(m:Nat):Abs.fin (σ++τ) m v=some (.lst l):=by have a:=h.finT m;rcases h.get with ⟨_,rfl⟩|⟨_,id,_,rfl,_⟩<;>exact a
def z8j (J:Frame->zaa->Prop)(_:Tg J)(Q:AExit->Frame->zaa->Prop):AExit->Frame->zaa->Prop
 | .normal,f,σ=>jn J (.mk J) f (.mk f) σ
 |e,f,σ=>Q e f σ
theorem zvU {J:Frame->zaa->Prop}{t:Tg J}{Q:AExit->Frame->zaa->Prop}{f:Frame}{σ:zaa}:z8j J t Q .normal f σ=jn J (.mk J) f (.mk f) σ:=rfl
theorem z3E {J:Frame->zaa->Prop}{t:Tg J}{Q:AExit->Frame->zaa->Prop}{f:Frame}{σ:zaa}:z8j J t Q .ret f σ=Q .ret f σ:=rfl
theorem z13 {J:Frame->zaa->Prop}{t:Tg J}{Q:AExit->Frame->zaa->Prop}{f:Frame}{σ:zaa}{i:Nat}:z8j J t Q (.exit i) f σ=Q (.exit i) f σ:=rfl
attribute [simp ↓] zvU z3E z13
theorem z0s [Globs]{P:Program}{c:ACode}{id:Nat}{Q:AExit->Frame->zaa->Prop}{f:Frame}{σ:zaa}(J:Frame->zaa->Prop)(hJ:∀f σ,J f σ->Q .normal f σ)(h:awp P (.block id c) (z8j J (.mk _) Q) f σ):awp P (.block id c) Q f σ:=by
 refine zdJ (c:=.block id c) (λe f σ a=> ?_) h;cases e with
 |normal=>exact hJ _ _ a
 |exit _=>exact a
 |ret=>exact a
end Go.Abs
namespace Go.Abs
open Go.RowKit Go.Proofs
variable {G:Globs}
def Els (k:Nat)(els:List (List AV)):Prop:=(∀c∈els,c.length=k)/\(∀c∈els,∀x∈c,x.pure=true)/\∀c∈els,∀x∈c,x.one=true
def zwF (e k:Nat)(els:List (List AV))(σ:zaa)(r:AV)(σ':zaa):Prop:=(els= []/\r=.nils/\σ'=σ)∨(r=.row σ.length els.length/\σ'=σ++ [.row e k els false])
theorem zmU {P:Program}{f:FuncId}{args:List AV}{e size:Nat}{els:List (List AV)}{σ:zaa}(h:ACalls P f args [] (zwF e size els []))(ha:args.all AV.pure=true)(hp:∀c∈els,∀x∈c,x.pure=true):ACalls P f args σ (zwF e size els σ):=by
 intro base κ Im w T n U;have h0:SRel w.heap.size (λ_ _=>none) Im [] w:=⟨yaf _,(λ_ _ _ h=>by cases h),(λid e h=>by simp at h),(λi j e e' b _ h=>by simp at h),n.imlt,n.glob.mono n.hb (λ_ h=>h) (λ_ _=>rfl) (λ_ _=>rfl)⟩;have O:VRL (λ_ _=>none) Im w args T:=⟨U.1,λj I y=> .im _ _ ((U.2 j I y).pure (by simp only[ya1]at ha;exact ha _ (yaw _)))⟩;refine(h w.heap.size _ Im w T h0 O).mono ?_;rintro en w' ⟨r,σ',v,κ',o,rfl,Z,t,d,D⟩;have p:∀k,k<w.heap.size->w'.heap[k]? =w.heap[k]? :=d.below.block;have G:∀a,o a->Im a∨(w.heap.size<=a.block/\a.block<w'.heap.size/\a.spot=none):=λa ha=>(d.new a ha).imp (λh=>h) λh=>⟨h,(t.imlt a ha).1,(t.imlt a ha).2⟩;rcases Z with ⟨rfl,rfl,rfl⟩|⟨rfl,rfl⟩
 .exact⟨_,_,_,κ,o,rfl,.inl ⟨rfl,rfl,rfl⟩,n.world d.im G d.below.size p,⟨λ_ _ _ h=>h,d.im,d.cell,λa ha=>(d.new a ha).imp (λh=>h) λh=>ybu n.hb h,d.below.mono n.hb⟩,.im _ _ (D.pure (by simp[AV.pure]))⟩
 obtain⟨g,l,rfl,Q⟩:=D.row_inv;simp only[yc1]at Q;obtain⟨v',R,A,m,B,C,q,s,X,J⟩:=t.ent 0 _ rfl;rw[Q]at A;cases A;have z:∀k u,κ σ.length k=some u->False:=λk u h=>by obtain⟨e,K,_⟩:=n.dom _ _ _ h;simp at K
 have W:=Key.with_new z els.length (.slice g els.length l);refine⟨_,_,_,κ.with σ.length els.length (.slice g els.length l),o,rfl,.inr ⟨rfl,rfl⟩, ?_,⟨W,d.im,d.cell,λa ha=>(d.new a ha).imp (λh=>h) λh=>ybu n.hb h,d.below.mono n.hb⟩,.row _ _ _ _ (Key.with_same _ _ _ _)⟩;have H:IRL o w' els.flatten R:=⟨B.1,λj I y=>(B.2 j I y).pure (by obtain⟨c,Y,L⟩:=ybq.1 (yaw I);exact hp c Y _ L)⟩;refine n.push _ W (λi k u h=> ?_) d.im G d.below.size p ?_ (λb S=> ?_)
 .unfold Key.with at h;split at h;.rename_i F;exact .inr ⟨F.1,by rw[F.2];exact yaf _⟩
  .exact .inl h
 .refine⟨_,R,Key.with_same _ _ _ _,⟨m.1, ?_⟩,VRL.ofIR H,C,q,s,λh=>(by cases h),J⟩;rcases m.2 with h|⟨g,l,M,K,h2,E⟩
  .exact .inl h
  .exact .inr ⟨g,l,M,K,ybu n.hb h2,E⟩
 .have:(Entry.row e size els false).block (κ.with σ.length els.length (.slice g els.length l)) σ.length=(Value.slice g els.length l).ownBlock:=by simp[Entry.block,Key.with_same]
  rw[this]at S;exact(m.lt b S).1
theorem zfV {σ:zaa}{m k:Nat}:∀{els:List (List AV)},(∀c∈els,∀x∈c,x.pure=true)->(∀c∈els,∀x∈c,x≠ .nils)->(els.mapM λ(c:List AV)=>c.mapM (fz σ m k))=some els
 | [],_,_=>rfl
 |c::els,h,a=>by
  have g:∀(l:List AV),(∀x∈l,x.pure=true)->(∀x∈l,x≠ .nils)->l.mapM (fz σ m k)=some l:=by
   intro l
   induction l with
   |nil=>intro _ _;rfl
   |cons x l j=>intro h a;rw[ych,j (λy b=>h y (yb1 _ b)) (λy b=>a y (yb1 _ b))];have f:=h x (by simp);have i:=a x (by simp);cases x<;>first|(exact absurd rfl i)|(simp[AV.pure]at f;done)|(cases k<;>simp[fz,f])
  rw[ych,g c (h c (by simp)) (a c (by simp)),zfV (λd e=>h d (yb1 _ e)) (λd e=>a d (yb1 _ e))];rfl
theorem zoG {σ:zaa}:∀{els:List (List AV)},(∀c∈els,∀x∈c,x.pure=true)->(∀c∈els,∀x∈c,x≠ .nils)->(els.mapM λ(c:List AV)=>c.mapM (zfJ σ))=some els
 | [],_,_=>rfl
 |c::els,h,a=>by
  have g:∀(l:List AV),(∀x∈l,x.pure=true)->(∀x∈l,x≠ .nils)->l.mapM (zfJ σ)=some l:=by
   intro l
   induction l with
   |nil=>intro _ _;rfl
   |cons x l j=>intro h a;rw[ych,j (λy b=>h y (yb1 _ b)) (λy b=>a y (yb1 _ b))];have f:=h x (by simp);have i:=a x (by simp);cases x<;>first|(exact absurd rfl i)|(simp[AV.pure]at f;done)|(simp[zfJ,f])
  rw[ych,g c (h c (by simp)) (a c (by simp)),zoG (λd e=>h d (yb1 _ e)) (λd e=>a d (yb1 _ e))];rfl
def idxE (p:List AV->Bool):List (List AV)->Int
 | []=> -1
 |n::l=>if p n then 0 else if idxE p l<0 then -1 else idxE p l+1
theorem zmK {p:List AV->Bool}:∀{l:List (List AV)},(∀n∈l,p n=false)->idxE p l= -1
 | [],_=>rfl
 |n::l,h=>by have b:=h n (by simp);have c:=zmK (p:=p) (l:=l) λm a=>h m (by simp[a]);simp[idxE,b,c]
theorem zmO {p:List AV->Bool}:∀{l:List (List AV)} {i:Nat} {n:List AV},l[i]? =some n->p n=true->(∀m∈l.take i,p m=false)->idxE p l=i
 | [],i,n,h,_,_=>by simp at h
 |m::l,0,n,h,hp,_=>by simp at h;subst h;simp[idxE,hp]
 |m::l,i+1,n,h,hp,ha=>by have b:=ha m (by simp);have c:=zmO (p:=p) (l:=l) (i:=i) (by simpa using h) hp λx a=>ha x (by simp[a]);simp[idxE,b,c];omega
theorem zoh (p:List AV->Bool):∀l:List (List AV),(idxE p l= -1/\∀n∈l,p n=false)∨∃i n,l[i]? =some n/\p n=true/\(∀m∈l.take i,p m=false)/\idxE p l=i
 | []=> .inl ⟨rfl,by simp⟩
 |m::l=>by
  by_cases f:p m=true;.exact .inr ⟨0,m,by simp,f,by simp,by simp[idxE,f]⟩
  .have a:p m=false:=(by simpa using f);rcases zoh p l with ⟨c,d⟩|⟨i,n,c,d,g,h⟩
   .refine .inl ⟨by simp[idxE,a,c],λn e=> ?_⟩;rcases ybe.1 e with rfl|e
    .exact a
    .exact d n e
   .refine .inr ⟨i+1,n,by simpa using c,d,λx b=> ?_, ?_⟩
    .rw[yd4]at b;rcases ybe.1 b with rfl|b
     .exact a
     .exact g x b
    .simp[idxE,a,h];omega
theorem zzV {α:Type}(A mid rest:List α)(v:α):∃mid',(A++(mid++v::rest)).set A.length v=A++v::(mid'++rest)/\mid'.length=mid.length/\∀x∈mid',x∈mid∨x=v:=by
 cases mid with
 |nil=>exact⟨[],by simp,rfl,by simp⟩
 |cons m ms=>exact⟨ms++ [v],by simp,by simp,λx a=>by
   rcases yai.1 a with h|h;.exact .inl (by simp[h])
   .exact .inr (by simpa using h)⟩
theorem z2L {v:AV}(h:v.one=true):v.cells= [v]:=by cases v<;>first|rfl|(simp[AV.one]at h)
def Asks [Globs](P:Program)(pre:zaa)(g:FuncId)(capt:List AV)(V:List AV->AV)(p:List AV->Bool)(els:List (List AV)):Prop:=∀c∈els,∀(X:zaa) (K:AV->zaa->Prop),K (.bool (p c)) (pre++X)->zuX P (pre++X) K g (V c::capt)
theorem z5p {P:Program}{pre X:zaa}{g:FuncId}{capt:List AV}{V:List AV->AV}{p:List AV->Bool}{els:List (List AV)}(hb:zaL P g=true)(h:Asks P pre g capt V p els){c:List AV}(hc:c∈els){K:AV->zaa->Prop}{t:Tg K}(hK:K (.bool (p c)) (pre++X)):
  cv P K t (pre++X) (.fn (.func g) [] capt) [V c]:=⟨hb,by simpa using h c hc X K hK⟩
end Go.Abs
namespace Go.Proofs.YtdbhocoeolhjhaaGreatDoor
open Go.Abs Go.RowKit
variable {G:Globs}
theorem zaD {e size m:Nat}{els:List (List AV)}{im:Bool}(h:∀c∈els,∀x∈c,x.pure=true):(Entry.row e size els im).under m=true:=by simp only[Entry.under,ya1];exact λc a x b=>zfo m (h c a x b)
theorem z4j {x:Int}(h1:0<=x)(h2:x<=18446744073709551615):IntKind.u64.wrap x=x:=by simp[IntKind.wrap,IntKind.signed,IntKind.bits];omega
theorem z7j {f T K A:Nat}{Z:List AV}(hc:zab Tryz.prog loud f=some (gCL T K A Z))(hK:0<K)(hA:1000000000*A<=140737488355328)(els:List (List AV))(he:Els K els)(hl:els.length<=1000000000):AT f [.lst els] [] (zwF T K els []):=by
 refine pwA hc ?_;simp[gCL];refine z8C λb c=> ?_;cases b
 .simp[hK];refine zbJ [] els false (by simp) rfl hK he.1 (λh=>by cases h) rfl (by simpa using ybu (yat A hl) hA) (by omega) ?_;simp;refine er_k [.row T K els false] (.row 0 els.length) (λi e a=> ?_) (.inr ⟨rfl,rfl⟩);refine .inr ?_
  match i,a with
  |0,a=>simp only[yc8,yab]at a;subst a;exact zaD he.2.1
  |i+1,a=>simp at a
 .have d:els= []:=by refine Classical.byContradiction λh=> ?_;cases c h
  subst d;simp;exact er_k [] .nils (λi e a=>by simp at a) (.inl ⟨rfl,rfl,rfl⟩)
theorem zty {f T K A:Nat}{Z:List AV}(hc:zab Tryz.prog loud f=some (gCL T K A Z))(hK:0<K)(hA:1000000000*A<=140737488355328)(els:List (List AV))(he:Els K els)(hl:els.length<=1000000000){σ:zaa}:AT f [.lst els] σ (zwF T K els σ):=zmU (z7j hc hK hA els he hl) (by simp[AV.pure]) he.2.1
abbrev z5N {G:Globs}:=zty (G:=G) (f:=141) zcs (by decide) (by decide)
abbrev zB0 {G:Globs}:=zty (G:=G) (f:=222) zeO (by decide) (by decide)
abbrev zul {G:Globs}:=zty (G:=G) (f:=170) zeH (by decide) (by decide)
abbrev zCn {G:Globs}:=zty (G:=G) (f:=128) zdC (by decide) (by decide)
abbrev z6z {G:Globs}:=zty (G:=G) (f:=163) zeQ (by decide) (by decide)
abbrev zA8 {G:Globs}:=zty (G:=G) (f:=196) zeK (by decide) (by decide)
theorem bsX {f K:Nat}(hc:zab Tryz.prog loud f=some (gBS K))(els:List (List AV))(he:Els K els)(hl:els.length<=1000000000)(tgt:AV)(ht:tgt.pure=true)(g:Nat)(hb:zaL Tryz.prog g=true)(k:Nat)(hk:k<=els.length)(cmp:Nat->Int)
  (hg:∀i c,els[i]? =some c->PT g [.agg c,tgt] (λr=>r=.int .i64 (cmp i))) (hlt:∀i,i<k->cmp i<0) (hge:∀i,k<=i->i<els.length->0<=cmp i):
  PT f [.lst els,tgt,.fn (.func g) [] []] (λr=>r=.tup [.int .i64 k,.bool (decide (k<els.length)&&decide (cmp k=0))]):=by
 refine pwP hc ?_;simp[gBS];refine zac (λx f σ=>∃(i j:Nat),x=j-i/\i<=k/\k<=j/\j<=els.length/\f 0=.lst els/\f 1=tgt/\f 2=.fn (.func g) [] []/\f 8=.int .i64 els.length/\f 9=.int .i64 i/\f 10=.int .i64 j/\σ= []) els.length ?_ ?_;.exact⟨0,els.length,by simp,by simp,hk,by simp⟩
 rintro x f σ ⟨i,j,M,B,C,D,l,n,o,t,p,b,rfl⟩;simp[p,b];refine zap (λv=> ?_) (λv=> ?_)
 .have y:i<j:=by omega
  obtain⟨m,z⟩:∃m,m=(i+j)/2:=⟨_,rfl⟩;have E:m<j:=by omega
  have F:i<=m:=by omega
  have G:IntKind.i64.wrap ((i:Int)+j)=((i+j:Nat):Int):=wE (by omega);have H:IntKind.u64.wrap ((i:Int)+j)=((i+j:Nat):Int):=by rw[z4j (by omega) (by omega)];omega
  have I:((i:Int)+j).fdiv (2^min 1 IntKind.u64.bits)=(m:Int):=by have:(2^min 1 IntKind.u64.bits:Int)=2:=(by decide);rw[this,z,yd7 _ (by omega)];omega
  have J:IntKind.i64.wrap (m:Int)=m:=wI (by omega);have L:=wS m (by omega);obtain⟨c,hc⟩:=gL els m (by omega);have d:=he.1 c (yad hc);have e:=he.2.1 c (yad hc);have O:=l;have P:=n;have Q:=o;simp[l,n,o,p,b,G,H,I,J,hc,d,yal,zbz,zg5];refine zvX hb ?_;refine zfR (hg m c hc) (by simp[AV.pure,ht];exact e) ?_;rintro r rfl;simp;refine zap (λq=> ?_) (λq=> ?_)
  .have w:m<k:=Classical.byContradiction λh=>by have:=hge m (by omega) (by omega);omega
   simp[L];refine nx_i ⟨m+1,j,rfl,by omega,by omega,by omega,by simp[l],by simp[n],by simp[o],by simp[t],by simp,by simp[b],rfl⟩
  .have w:k<=m:=Classical.byContradiction λh=>by have:=hlt m (by omega);omega
   simp;refine nx_i ⟨i,m,rfl,by omega,by omega,by omega,by simp[l],by simp[n],by simp[o],by simp[t],by simp[p],by simp,rfl⟩
 .have s:i=k:=by omega
  subst s;by_cases a:i<els.length;.obtain⟨c,hc⟩:=gE a;have d:=he.1 c (yad hc);have e:=he.2.1 c (yad hc);obtain⟨A,u⟩:=yaa.1 hc;simp[l,n,o,t,p,a,u,d,yal];refine zvX hb ?_;refine zfR (hg i c hc) (by simp[AV.pure,ht];exact e) ?_;rintro r rfl;simp[a]
  .simp[t,p,a]
abbrev bsNm {G:Globs}:=bsX (G:=G) (f:=138) zbO
abbrev bsMt {G:Globs}:=bsX (G:=G) (f:=77) zb5
abbrev bsFi {G:Globs}:=bsX (G:=G) (f:=109) zck
theorem zDi {f T K:Nat}(hc:zab Tryz.prog loud f=some (gIX K))(pre:zaa)(els:List (List AV))(he:Els K els)(hl:els.length<=1000000000)(p:List AV->Bool)(g:Nat)(capt:List AV)(hb:zaL Tryz.prog g=true)(hg:Asks Tryz.prog pre g capt .agg p els):
  AT f [.row pre.length els.length,.fn (.func g) [] capt] (pre++ [.row T K els false]) (λr σ'=>r=.int .i64 (idxE p els)/\σ'=pre++ [.row T K els false]):=by
 refine pwA hc ?_;simp[gIX];refine zac (λx f σ=>∃(i:Nat),x=els.length-i/\i<=els.length/\f 0=.row pre.length els.length/\f 1=.fn (.func g) [] capt/\f 7=.int .i64 els.length/\f 8=.int .i64 i/\(∀m∈els.take i,p m=false)/\σ=pre++ [.row T K els false]) els.length ?_ ?_;.exact⟨0,by simp⟩
 rintro x f σ ⟨i,z,A,q,s,t,k,a,rfl⟩;simp[t,k];refine zap (λw=> ?_) (λy=> ?_)
 .have b:i<els.length:=by omega
  have l:=wS i (by omega);obtain⟨c,hc,v,j⟩:=gF b;have h:=yad hc;have n:=he.1 c h;simp[q,s,k,j,n,b,yal];refine z5p hb hg h ?_;cases u:p c with
  |true=>have:=zmO hc u a;simp;refine zbi (pre++ [.row T K els false]) (.int .i64 (idxE p els)) (by simp[zaK,this]) [] (by simp) (by simp) (by simp[AV.under]) (λi e he=> .inl he) ⟨rfl,rfl⟩
  |false=>
   simp[k,l];refine nx_i ⟨i+1,rfl,by omega,by simp[q],by simp[s],by simp[t],by simp,λm d=> ?_,rfl⟩;rw[ybh,hc]at d;simp only[yeu,yai,ybr]at d;rcases d with d|rfl
   .exact a m d
   .exact u
 .have o:i=els.length:=by omega
  rw[o,yav]at a;have:=zmK a;simp;refine zbi (pre++ [.row T K els false]) (.int .i64 (idxE p els)) (by simp[zaK,this]) [] (by simp) (by simp) (by simp[AV.under]) (λi e he=> .inl he) ⟨rfl,rfl⟩
theorem z84 (els:List (List AV))(he:Els 2 els)(hl:els.length<=1000000000)(p:List AV->Bool)(g:Nat)(capt:List AV)(hcp:∀x∈capt,x.pure=true)(hb:zaL Tryz.prog g=true)(hg:∀c∈els,PT g (.agg c::capt) (λr=>r=.bool (p c))):
  PT 193 [.lst els,.fn (.func g) [] capt] (λr=>r=.int .i64 (idxE p els)):=by
 refine pwP zd3 ?_;simp[zbE,gIX];refine zac (λx f σ=>∃(i:Nat),x=els.length-i/\i<=els.length/\f 0=.lst els/\f 1=.fn (.func g) [] capt/\f 7=.int .i64 els.length/\f 8=.int .i64 i/\(∀m∈els.take i,p m=false)/\σ= []) els.length ?_ ?_;.exact⟨0,by simp⟩
 rintro x f σ ⟨i,A,B,s,t,u,l,a,rfl⟩;simp[u,l];refine zap (λy=> ?_) (λz=> ?_)
 .have b:i<els.length:=by omega
  have n:=wS i (by omega);obtain⟨c,j,w,k⟩:=gF b;have d:=yad j;have o:=he.1 c d;have h:=he.2.1 c d;simp[s,t,l,k,o,b,yal];refine zvX hb ?_;refine zfR (hg c d) (by simp[AV.pure];exact⟨h,hcp⟩) ?_;rintro r rfl;cases v:p c with
  |true=>have:=zmO j v a;simp[this]
  |false=>
   simp[l,n];refine nx_i ⟨i+1,rfl,by omega,by simp[s],by simp[t],by simp[u],by simp,λm e=> ?_,rfl⟩;rw[ybh,j]at e;simp only[yeu,yai,ybr]at e;rcases e with e|rfl
   .exact a m e
   .exact v
 .have q:i=els.length:=by omega
  rw[q,yav]at a;simp[zmK a]
theorem z3I {f K:Nat}(hc:zab Tryz.prog loud f=some (gIX K)){σ:zaa}(g:Nat)(capt:List AV):AT f [.nils,.fn (.func g) [] capt] σ (λr σ'=>r=.int .i64 (-1)/\σ'=σ):=by
 refine pwA hc ?_;simp[gIX];refine zac (λx f σ'=>f 7=.int .i64 0/\f 8=.int .i64 0/\σ'=σ) 0 ?_ ?_;.exact⟨by simp,by simp,rfl⟩
 rintro x f σ' ⟨a,b,rfl⟩;simp[a,b];exact er_k σ' (.int .i64 (-1)) (λi e c=> .inl c) ⟨rfl,rfl⟩
theorem z9s {f T K I:Nat}{Z:List AV}(hc:zab Tryz.prog loud f=some (gDL T K I Z))(hi:zab Tryz.prog loud I=some (gIX K)){σ:zaa}(g:Nat)(capt:List AV):AT f [.nils,.fn (.func g) [] capt] σ (λr σ'=>r=.nils/\σ'=σ):=by refine pwA hc ?_;simp[gDL];refine zai (z3I hi g capt) ?_;rintro r σ' ⟨rfl,rfl⟩;simp;exact er_k σ' .nils (λi e a=> .inl a) ⟨rfl,rfl⟩
abbrev zwa {G:Globs}{σ:zaa}:=z9s (G:=G) (σ:=σ) (f:=178) zb8 zbF
theorem z4I {f T K A:Nat}{Z:List AV}(hc:zab Tryz.prog loud f=some (gCL T K A Z))(hK:0<K)(hA:1000000000*A<=140737488355328)(els:List (List AV))(he:Els K els)(hl:els.length<=1000000000)(hz:∀c∈els,∀x∈c,x≠ .nils):PT f [.lst els] (λr=>r=.lst els):=by
 refine pwP hc ?_;simp[gCL];refine z8C λb a=> ?_;cases b;.simp[hK];refine zbJ [] els false (by simp) rfl hK he.1 (λh=>by cases h) rfl (by simpa using ybu (yat A hl) hA) (by omega) ?_;simp[zfV he.2.1 hz]
 .have d:els= []:=by refine Classical.byContradiction λh=> ?_;cases a h
  subst d;simp
abbrev zqf {G:Globs}:=z4I (G:=G) (f:=141) zcs (by decide) (by decide)
abbrev z95 {G:Globs}:=z4I (G:=G) (f:=131) zeP (by decide) (by decide)
theorem wkD {F X:List (List AV)}{Z:List AV}(h:∃n,X=F++List.replicate n Z):X.take F.length=F:=by obtain⟨n,rfl⟩:=h;simp
theorem zDe {f T K I:Nat}{Z:List AV}(hc:zab Tryz.prog loud f=some (gDL T K I Z))(hi:zab Tryz.prog loud I=some (gIX K))(hZ:Els K [Z])(pre:zaa)(els:List (List AV))(he:Els K els)(hl:els.length<=1000000000)(p:List AV->Bool)(g:Nat)(capt:List AV)(hb:zaL Tryz.prog g=true)(hg:Asks Tryz.prog pre g capt .agg p els):
  AT f [.row pre.length els.length,.fn (.func g) [] capt] (pre++ [.row T K els false]) (λr σ'=>∃X:List (List AV),σ'=pre++ [.row T K X false]/\X.length=els.length/\Els K X/\((r=.row pre.length els.length/\X=els.filter λn=> !p n)∨(r=.sub pre.length els.length K 0 (els.filter λn=> !p n).length/\∃n,X=(els.filter λn=> !p n)++List.replicate n Z))):=by
 have G:Z.length=K:=hZ.1 Z (by simp);have ao:Z.drop K= []:=yb4 (by omega);refine pwA hc ?_;simp[gDL];refine zai (zDi hi pre els he hl p g capt hb hg) ?_;rintro r σ ⟨rfl,rfl⟩;rcases zoh p els with ⟨am,U⟩|⟨k,n,hk,an,v,W⟩
 .have hf:(els.filter λn=> !p n)=els:=List.filter_eq_self.2 λn hn=>by simp[U n hn]
  rw[hf];simp[am];refine er_k (pre++ [.row T K els false]) (.row pre.length els.length) (λi e he=> .inl he) ⟨els,rfl,rfl,he,.inl ⟨rfl,rfl⟩⟩
 .have aa:k<els.length:=(yaa.1 hk).1;have ab:0<els.length:=by omega
  have aq:¬((k:Int)= -1):=by omega
  have ar:=wS k (by omega);simp[W,aq,ar];have au:((els.take k).filter λn=> !p n)=els.take k:=List.filter_eq_self.2 λn hn=>by simp[v n hn]
  refine zac (λx f σ=>∃(j:Nat) (a:List (List AV)) (Q:zaa),x=els.length-j/\j<=els.length/\f 0=.row pre.length els.length/\f 1=.fn (.func g) [] capt/\f 5=.int .i64 ((els.take j).filter λn=> !p n).length/\f 6=.int .i64 j/\((els.take j).filter λn=> !p n).length+a.length=j/\Els K a/\σ=pre++ .row T K (((els.take j).filter λn=> !p n)++(a++els.drop j)) false::Q) (els.length-(k+1)) ?_ ?_
  .have ad:=tS hk;have b:((els.take (k+1)).filter λn=> !p n)=els.take k:=(by rw[ad,ydw,au];simp[an]);have H:=yad hk;refine⟨k+1,[n],[],by omega,by omega,by simp,by simp, ?_,by simp, ?_,⟨(λc hc=>by simp at hc;subst hc;exact he.1 _ H),(λc hc=>by simp at hc;subst hc;exact he.2.1 _ H),(λc hc=>by simp at hc;subst hc;exact he.2.2 _ H)⟩, ?_⟩;.rw[b];simp[W,ybt (yey aa)]
   .rw[b];simp[ybt (yey aa)]
   .rw[b];have:els.take k++([n]++els.drop (k+1))=els:=by rw[<-yax,<-ad,ya2]
    rw[this]
  rintro x f σ ⟨j,a,Q,hx,hj,M,O,R,h6,S,q,rfl⟩;obtain⟨A,z⟩:∃A,A=(els.take j).filter λn=> !p n:=⟨_,rfl⟩;rw[<-z]at R S;rw[<-z];have B:Els K A:=⟨λc hc=>he.1 c (by rw[z]at hc;exact yao (ybf.1 hc).1),λc hc=>he.2.1 c (by rw[z]at hc;exact yao (ybf.1 hc).1),λc hc=>he.2.2 c (by rw[z]at hc;exact yao (ybf.1 hc).1)⟩;have l:(A++(a++els.drop j)).length=els.length:=by simp;omega
  simp only[yag,ya3]at l;simp[M,h6,l];refine zap (λa5=> ?_) (λa6=> ?_)
  .have w:j<els.length:=(by omega);have ae:=wS j (by omega);obtain⟨c,hv⟩:=gE w;have s:els.drop j=c::els.drop (j+1):=(by obtain⟨O,h2⟩:=yaa.1 hv;rw[ybd O,h2]);have af:(A++(a++els.drop j))[j]? =some c:=by
    rw[<-yax,yam (by simp;omega)];have:j-(A++a).length=0:=by simp;omega
    rw[this,s];rfl
   obtain⟨a2,aj⟩:=yaa.1 af;have o:=yad hv;have C:=he.1 c o;have y:=tS hv;have D:=he.2.2 _ o;simp[M,h6,l,w,aj,C,G,yal];rw[if_pos (λx hx=>D x hx)];simp[O,w,C,G,ao,splice,yal];refine z5p hb hg o ?_;cases ai:p c with
   |true=>
    have b:((els.take (j+1)).filter λn=> !p n)=A:=(by rw[y,ydw,<-z];simp[ai]);simp[h6,ae];refine nx_i ⟨j+1,a++ [c],Q++ [.var T c],rfl,by omega,by simp[M],by simp[O],by rw[b];simp[R],by simp,by rw[b];simp;omega,⟨λd m=> ?_,λd m=> ?_,λd m=> ?_⟩, ?_⟩
    .rcases yai.1 m with h|h;.exact q.1 d h
     .simp at h;subst h;exact he.1 _ o
    .rcases yai.1 m with h|h;.exact q.2.1 d h
     .simp at h;subst h;exact he.2.1 _ o
    .rcases yai.1 m with h|h;.exact q.2.2 d h
     .simp at h;subst h;exact he.2.2 _ o
    .rw[b,s];simp
   |false=>
    have b:((els.take (j+1)).filter λn=> !p n)=A++ [c]:=(by rw[y,ydw,<-z];simp[ai]);obtain⟨u,ak,a3,F⟩:=zzV A a (els.drop (j+1)) c;have av:A.length<els.length:=(by omega);obtain⟨L,P⟩:∃L,(A++(a++els.drop j))[A.length]? =some L:=⟨_,yah (by simp;omega)⟩;obtain⟨a4,al⟩:=yaa.1 P;have a1:L.length=K:=by
     have:=yad P;rcases yai.1 this with h|h
     .exact B.1 _ h
     .rcases yai.1 h with h|h;.exact q.1 _ h
      .exact he.1 _ (yay h)
    have aw:=wS A.length (by omega);have a7:splice L 0 c=c:=(by have m:L.drop K= []:=yb4 (by omega);simp[splice,C,m]);have E:(A++(a++els.drop j)).set A.length c=A++ [c]++(u++els.drop (j+1)):=(by rw[s,ak];simp);have J:(a++els.drop j).set 0 c=c::(u++els.drop (j+1)):=(by rw[yct _ _ (yaf _),yc2]at E;simpa using E);have ax:L.drop K= []:=yb4 (by omega);simp[M,R,l,av,al,C,G,yal,splice,ax,J];rw[if_pos (λx hx=>D x hx)];simp[R,h6,ae,aw];refine nx_i ⟨j+1,u,Q++ [.var T c],rfl,by omega,by simp[M],by simp[O],by rw[b];simp,by simp,by rw[b];simp;omega,⟨λd m=> ?_,λd m=> ?_,λd m=> ?_⟩, ?_⟩
    .rcases F d m with h|rfl;.exact q.1 d h
     .exact he.1 _ o
    .rcases F d m with h|rfl;.exact q.2.1 d h
     .exact he.2.1 _ o
    .rcases F d m with h|rfl;.exact q.2.2 d h
     .exact he.2.2 _ o
    .rw[b];simp
  .have ay:j=els.length:=(by omega);subst ay;rw[yav]at z;rw[ydx,ybi];rw[yc2,ycf]at l;have ag:A.length<=els.length:=(by omega);have az:(A++a).drop els.length= []:=yb4 (by simp;omega);simp[M,R,l,ab,ag,az];rw[<-z];obtain⟨Y,hY⟩:∃Y,Y=A++List.replicate (els.length-A.length) Z:=⟨_,rfl⟩;have ah:Els K Y:=by
    rw[hY];refine⟨λd m=> ?_,λd m=> ?_,λd m=> ?_⟩
    .rcases yai.1 m with h|h;.exact B.1 d h
     .rw[(ycd.1 h).2];exact hZ.1 _ (by simp)
    .rcases yai.1 m with h|h;.exact B.2.1 d h
     .rw[(ycd.1 h).2];exact hZ.2.1 _ (by simp)
    .rcases yai.1 m with h|h;.exact B.2.2 d h
     .rw[(ycd.1 h).2];exact hZ.2.2 _ (by simp)
   rw[<-hY];refine zbi (pre++ [.row T K Y false]) (.sub pre.length els.length K 0 A.length) (by simp[zaK]) Q (by simp) (by simp) (by simp[AV.under]) (λi e t=> ?_) ⟨Y,rfl,by rw[hY];simp;omega,ah,.inr ⟨rfl,_,hY⟩⟩;rcases ycl i pre.length with h|h|h
   .rw[yap h]at t⊢;exact .inl t
   .subst h;simp at t;subst t;exact .inr (zaD ah.2.1)
   .rw[yam (by omega)]at t;have:=(yaa.1 t).1;simp at this;omega
abbrev z9Y {G:Globs}:=zDe (G:=G) (f:=178) zb8 zbF ⟨by simp,by simp[AV.pure],by simp[AV.one]⟩
abbrev zD7 {G:Globs}:=zDe (G:=G) (f:=162) zdx zdH ⟨by simp,by simp[AV.pure],by simp[AV.one]⟩
theorem z8k {σ:zaa}{jd T2:Nat}{c:List AV}(hj:σ[jd]? =some (.row T2 2 [c] false))(hc:c.length=2)(hp:∀x∈c,x.pure=true):
  AT 140 [.nils,.int .i64 0,.row jd 1] σ (λr σ'=>r=.row σ.length 1/\σ'=σ++ [.row 101 2 [c] false]):=by
 refine pwA zcf ?_;simp[zaF,hj,view];refine zf6 false [c] (by simp[view,hj]) (by decide) (by simp[hc]) (λh=>by cases h) (by simp) (by simp) ?_;simp;refine er_k (σ++ [.row 101 2 [c] false]) (.row σ.length 1) (λi e a=> ?_) ⟨rfl,rfl⟩;rcases ycl i σ.length with h|h|h
 .rw[yap h]at a;exact .inl a
 .subst h;simp at a;subst a;exact .inr (zaD (by simpa using hp))
 .rw[yam (by omega)]at a;have:=(yaa.1 a).1;simp at this;omega
theorem z7S {σ:zaa}{id jd T2:Nat}{els:List (List AV)}{c:List AV}(he:σ[id]? =some (.row 101 2 els false))(hj:σ[jd]? =some (.row T2 2 [c] false))(hel:Els 2 els)(hc:c.length=2)(hp:∀x∈c,x.pure=true)(hbig:els.length<=100000000):
  AT 140 [.row id els.length,.int .i64 els.length,.row jd 1] σ (λr σ'=>r=.row id (els.length+1)/\σ'=σ.set id (.row 101 2 (els++ [c]) false)):=by
 refine pwA zcf ?_;have b:=(yaa.1 he).1;obtain⟨m,k⟩:=yaa.1 he;by_cases f:0<els.length
 .simp[zaF,hj,k,b,view,f];refine zbJ els [c] false he (by simp[view,hj]) (by decide) (by simp[hc]) (λh=>by cases h) rfl (by simp;omega) (by simp;omega) ?_;simp;refine zbi (σ.set id (.row 101 2 (els++ [c]) false)) (.row id (els.length+1)) (by simp[zaK]) [] (by simp) (by simp) (by simp[AV.under,b]) (λi e a=> ?_) (by simp);by_cases g:i=id
  .subst g;rw[ybs b]at a;simp only[yab]at a;subst a;refine .inr (zaD λd j=> ?_);rcases yai.1 j with h|h
   .exact hel.2.1 d h
   .simp at h;subst h;exact hp
  .rw[yaj (Ne.symm g)]at a;exact .inl a
 .have l:els= []:=yaq (by omega);subst l;simp[zaF,hj,k,b,view];refine zbJ [] [c] false he (by simp[view,hj]) (by decide) (by simp[hc]) (λh=>by cases h) rfl (by simp) (by simp) ?_;simp;refine zbi (σ.set id (.row 101 2 (([]:List (List AV))++ [c]) false)) (.row id (([]:List (List AV)).length+1)) (by simp[zaK]) [] (by simp) (by simp) (by simp[AV.under,b]) (λi e a=> ?_) (by simp);by_cases g:i=id
  .subst g;rw[ybs b]at a;simp only[yab]at a;subst a;refine .inr (zaD λd j=> ?_);rcases yai.1 j with h|h
   .exact hel.2.1 d h
   .simp at h;subst h;exact hp
  .rw[yaj (Ne.symm g)]at a;exact .inl a
theorem z7F {σ:zaa}{jd T2:Nat}{c:List AV}(hj:σ[jd]? =some (.row T2 11 [c] false))(hc:c.length=11)(hp:∀x∈c,x.pure=true):
  AT 129 [.nils,.int .i64 0,.row jd 1] σ (λr σ'=>r=.row σ.length 1/\σ'=σ++ [.row 57 11 [c] false]):=by
 refine pwA zb7 ?_;simp[zaB,hj,view];refine zf6 false [c] (by simp[view,hj]) (by decide) (by simp[hc]) (λh=>by cases h) (by simp) (by simp) ?_;simp;refine er_k (σ++ [.row 57 11 [c] false]) (.row σ.length 1) (λi e a=> ?_) ⟨rfl,rfl⟩;rcases ycl i σ.length with h|h|h
 .rw[yap h]at a;exact .inl a
 .subst h;simp at a;subst a;exact .inr (zaD (by simpa using hp))
 .rw[yam (by omega)]at a;have:=(yaa.1 a).1;simp at this;omega
theorem z7i {σ:zaa}{id jd T2:Nat}{els:List (List AV)}{c:List AV}(he:σ[id]? =some (.row 57 11 els false))(hj:σ[jd]? =some (.row T2 11 [c] false))(hel:Els 11 els)(hc:c.length=11)(hp:∀x∈c,x.pure=true)(hbig:els.length<=100000000):
  AT 129 [.row id els.length,.int .i64 els.length,.row jd 1] σ (λr σ'=>r=.row id (els.length+1)/\σ'=σ.set id (.row 57 11 (els++ [c]) false)):=by
 refine pwA zb7 ?_;have b:=(yaa.1 he).1;obtain⟨m,k⟩:=yaa.1 he;by_cases f:0<els.length
 .simp[zaB,hj,k,b,view,f];refine zbJ els [c] false he (by simp[view,hj]) (by decide) (by simp[hc]) (λh=>by cases h) rfl (by simp;omega) (by simp;omega) ?_;simp;refine zbi (σ.set id (.row 57 11 (els++ [c]) false)) (.row id (els.length+1)) (by simp[zaK]) [] (by simp) (by simp) (by simp[AV.under,b]) (λi e a=> ?_) (by simp);by_cases g:i=id
  .subst g;rw[ybs b]at a;simp only[yab]at a;subst a;refine .inr (zaD λd j=> ?_);rcases yai.1 j with h|h
   .exact hel.2.1 d h
   .simp at h;subst h;exact hp
  .rw[yaj (Ne.symm g)]at a;exact .inl a
 .have l:els= []:=yaq (by omega);subst l;simp[zaB,hj,k,b,view];refine zbJ [] [c] false he (by simp[view,hj]) (by decide) (by simp[hc]) (λh=>by cases h) rfl (by simp) (by simp) ?_;simp;refine zbi (σ.set id (.row 57 11 (([]:List (List AV))++ [c]) false)) (.row id (([]:List (List AV)).length+1)) (by simp[zaK]) [] (by simp) (by simp) (by simp[AV.under,b]) (λi e a=> ?_) (by simp);by_cases g:i=id
  .subst g;rw[ybs b]at a;simp only[yab]at a;subst a;refine .inr (zaD λd j=> ?_);rcases yai.1 j with h|h
   .exact hel.2.1 d h
   .simp at h;subst h;exact hp
  .rw[yaj (Ne.symm g)]at a;exact .inl a
end Go.Proofs.YtdbhocoeolhjhaaGreatDoor
