/- Abstract machine, part 15: calls; every operation does what the abstract one says. -/
import Derived.Test.YtkclehdmdnfikaaDoorAbsZ
set_option linter.unusedSimpArgs false
set_option linter.unusedVariables false
set_option linter.constructorNameAsVariable false
namespace Go.Abs
open Go.RowKit
variable {G : Globs}
section
variable {P : Program} {base : Nat} {κ : Key} {Im : Addr → Prop} {w : World} {σ : Store}

/-- The cells that a lent argument may reach: all that is there. -/
def Lent (w : World) (Im : Addr → Prop) (lend : Bool) : Addr → Prop := fun a => if lend then a.block < w.heap.size ∧ a.spot = none else Im a

theorem Lent.of (hs : SRel base κ Im σ w) (lend : Bool) (a : Addr) (h : Im a) : Lent w Im lend a := by
  unfold Lent; split
  · exact hs.imlt a h
  · exact h

theorem coe_ok (hs : SRel base κ Im σ w) {lend : Bool} {X Y : AV} (h : Coe σ lend X Y) : ∀ {x : Value}, VR κ Im w X x → IR (Lent w Im lend) w Y x := by
  induction h with
  | pure a hp => intro x hx; exact (hx.pure hp).mono (Lent.of hs lend) (fun _ _ => rfl)
  | nils => intro x hx; cases hx.nils_inv; exact .lnil
  | row id n e size els im hent hn hp =>
    intro x hx
    obtain ⟨g, cap, rfl, hk⟩ := hx.row_inv
    subst hn
    cases im with
    | true => exact (row_lst hs hent hk).mono (Lent.of hs lend) (fun _ _ => rfl)
    | false =>
      rcases hp with hp | ⟨hl, hp⟩
      · cases hp
      subst hl
      obtain ⟨v', xs, hv', hown, hvr, hsz, hlen, hone, _, _⟩ := hs.ent _ _ hent
      rw [hk] at hv'; cases hv'
      rcases hown.2 with ⟨h1, h2⟩ | ⟨b, cap', cur, h1, hg, hh, hle, hmax, hcs, htake⟩
      · have : els = [] := List.eq_nil_of_length_eq_zero h2
        subst this
        simp only [Value.slice.injEq] at h1
        obtain ⟨rfl, _, rfl⟩ := h1
        exact .lnil
      · simp only [Value.slice.injEq] at h1
        obtain ⟨rfl, _, rfl⟩ := h1
        have hcell := hown.cells (g := b) rfl
        have hfl : els.flatten.length = els.length * size := by rw [hvr.1, hown.1]
        have hblt : b < w.heap.size := (Array.getElem?_eq_some_iff.1 hh).1
        refine .lst els size b 0 cap (fun k j => xs.getD (k * size + j) undef) hle hmax hlen hone (fun k j hk hj => ?_) (fun k j hk hj => ?_)
        · have hlt : k * size + j < els.length * size := by
            have : (k + 1) * size ≤ els.length * size := Nat.mul_le_mul_right _ hk
            rw [Nat.add_mul] at this; omega
          rw [Nat.zero_add]
          have hlt' : k * size + j < xs.length := by rw [hown.1]; exact hlt
          refine ⟨by unfold Lent; rw [if_pos rfl]; exact ⟨hblt, rfl⟩, ?_⟩
          have := hcell (k * size + j) _ (List.getElem?_eq_getElem hlt')
          rw [Addr.add_mid, Nat.zero_add] at this
          rw [this]; simp [hlt']
        · have hcl := hlen _ (List.getElem_mem hk)
          obtain ⟨_, _, h3, h5⟩ := flatten_get els k j hlen hk (by omega)
          have hlt' : k * size + j < xs.length := by rw [hvr.1] at h3; exact h3
          have hv := hvr.2 (k * size + j) h3 hlt'
          rw [h5] at hv
          have e : xs.getD (k * size + j) undef = xs[k * size + j] := by simp [hlt']
          simp only [e]
          exact (hv.pure (hp _ (List.getElem_mem hk) _ (List.getElem_mem hj))).mono (Lent.of hs true) (fun _ _ => rfl)
  | ptr id off t cells cells' hent hl hoff hlen hp hone ih =>
    intro x hx
    subst hl
    obtain ⟨b, rfl, hk⟩ := hx.ptr_inv
    obtain ⟨b', cs, hk', hb, hheap, hvr, _, _⟩ := hs.ent _ _ hent
    rw [hk] at hk'; cases hk'
    have hblt : b < w.heap.size := (Array.getElem?_eq_some_iff.1 hheap).1
    have hcl : cells.length = cs.toList.length := hvr.1
    have := rptr_drop (Im := Lent w Im true) (w := w) (l := cells') (b := b) (o := 0) (vals := fun j => cs.toList.getD j undef) hone (fun j hj => by
      rw [Nat.zero_add]
      refine ⟨by unfold Lent; rw [if_pos rfl]; exact ⟨hblt, rfl⟩, ?_⟩
      rw [cell_of_row w b j cs t (0, 0) hheap]
      have : j < cs.size := by rw [hlen] at hj; simp at hcl; omega
      simp [this]) (fun j hj => by
      have h1 : j < cells.length := by omega
      have h2 : j < cs.toList.length := by omega
      have e : cs.toList.getD j undef = cs.toList[j] := by simp at h2; simp [h2]
      rw [e]
      exact ih j h1 hj (hvr.2 j h1 h2)) off
    rwa [Nat.zero_add] at this
  | fn f l l' m m' h1 h2 hl hm ihl ihm =>
    intro x hx
    obtain ⟨vs, us, rfl, hvs, hus⟩ := hx.fn_inv
    exact .fn _ _ _ _ _ (by rw [← h1, hvs.1]) (by rw [← h2, hus.1]) (fun j hj hj' => ihl j (by omega) hj (hvs.2 j (by omega) hj')) (fun j hj hj' => ihm j (by omega) hj (hus.2 j (by omega) hj'))
  | agg l l' h1 hone hl ih =>
    intro x hx
    obtain ⟨vs, rfl, hvs, _⟩ := hx.agg_inv
    exact .agg _ _ hone (by rw [← h1, hvs.1]) (fun j hj hj' => ih j (by omega) hj (hvs.2 j (by omega) hj'))

theorem coeL_ok (hs : SRel base κ Im σ w) {lend : Bool} {l m : List AV} (h : CoeL σ lend l m) : ∀ {vs : List Value}, VRL κ Im w l vs → IRL (Lent w Im lend) w m vs := by
  induction h with
  | nil => intro vs hv; exact ⟨hv.1, fun j h => by simp at h⟩
  | @cons a b l m h hl ih =>
    intro vs hv
    match vs, hv.1 with
    | v :: vs, _ =>
      have h1 := coe_ok hs h (hv.2 0 (by simp) (by simp))
      have h2 := ih (vs := vs) ⟨by simpa using hv.1, fun j hj hj' => hv.2 (j + 1) (by simpa using hj) (by simpa using hj')⟩
      refine ⟨by simp [h2.1], fun j hj hj' => ?_⟩
      cases j with
      | zero => exact h1
      | succ j => exact h2.2 j (by simpa using hj) (by simpa using hj')

theorem VR.none_key {κ' : Key} (hk : ∀ i n v, κ' i n = some v → False) {a : AV} {v : Value} (h : VR κ' Im w a v) : IR Im w a v := by
  have e : κ' = fun _ _ => none := by
    funext i n
    cases hh : κ' i n with
    | none => rfl
    | some v => exact (hk _ _ _ hh).elim
  subst e
  exact h.empty

theorem rig_ok {Im' : Addr → Prop} {w' : World} {r : AV} {v : Value} (h : IR Im w r v) (hr : rig r = true) : IR Im' w' r v := by
  induction h with
  | junk v => simp [rig] at hr
  | int k n => exact .int k n
  | bool b => exact .bool b
  | str s => exact .str s
  | flt k b => exact .flt k b
  | nilp => exact .nilp
  | rptr => simp [rig] at hr
  | nils => simp [rig] at hr
  | lnil => simp [rig] at hr
  | lst => simp [rig] at hr
  | nilm => exact .nilm
  | fn => simp [rig] at hr
  | nilf => exact .nilf
  | iface t a v h ih => exact .iface t a v (ih (by simpa [rig] using hr))
  | nili => exact .nili
  | agg cells vs hone h1 hv ih =>
    simp [rig] at hr
    exact .agg cells vs hone h1 fun j h h' => ih j h h' (hr _ (List.getElem_mem h))
  | tup cells vs h1 hv ih =>
    simp [rig] at hr
    exact .tup cells vs h1 fun j h h' => ih j h h' (hr _ (List.getElem_mem h))
  | any v => exact .any v
  | gp g off => exact .gp g off

/-- A call that touches no entry, made where there are some. -/
theorem pcall_ok {f : FuncId} {args args' : List AV} {R : AV → Prop} {vs : List Value} {lend : Bool} (hs : SRel base κ Im σ w) (hc : CoeL σ lend args args') (hp : PCalls P f args' R) (hv : VRL κ Im w args vs) :
    Calls P f vs.toArray w fun e w' => ∃ r v Im', e = .returned v ∧ R r ∧ IR Im' w' r v ∧ (∀ a, Lent w Im lend a → Im' a) ∧ (∀ a, Im' a → Lent w Im lend a ∨ (w.heap.size ≤ a.block ∧ a.block < w'.heap.size ∧ a.spot = none)) ∧ Below w.heap.size w w' := by
  have hir := coeL_ok hs hc hv
  have hs0 : SRel w.heap.size (fun _ _ => none) (Lent w Im lend) [] w := ⟨Nat.le_refl _, fun _ _ _ h => by simp at h, fun _ _ h => by simp at h, fun _ _ _ _ _ _ h => by simp at h, fun a h => by
    unfold Lent at h; split at h
    · exact h
    · exact hs.imlt a h, hs.glob.mono hs.hb (Lent.of hs lend) (fun _ _ => rfl) (fun _ _ => rfl)⟩
  refine (hp w.heap.size (fun _ _ => none) (Lent w Im lend) w vs hs0 ⟨hir.1, fun j h h' => .im _ _ (hir.2 j h h')⟩).mono ?_
  rintro e w' ⟨r, σ', v, κ', Im', rfl, ⟨rfl, hR⟩, hs', hg, hvr⟩
  refine ⟨r, v, Im', rfl, hR, hvr.none_key (fun i n u h => by obtain ⟨e, h1, _⟩ := hs'.dom _ _ _ h; simp at h1), hg.im, fun a h => ?_, hg.below⟩
  rcases hg.new a h with h' | h'
  · exact .inl h'
  · exact .inr ⟨h', (hs'.imlt a h).1, (hs'.imlt a h).2⟩

theorem acall_ok {f : FuncId} {args : List AV} {K : AV → Store → Prop} {vs : List Value} (hs : SRel base κ Im σ w) (hv : VRL κ Im w args vs) (h : acall P σ K f args) :
    Calls P f vs.toArray w fun e w' => ∃ r σ' v κ' Im', e = .returned v ∧ K r σ' ∧ SRel base κ' Im' σ' w' ∧ Grow base κ Im w κ' Im' w' ∧ VR κ' Im' w' r v := by
  rcases h with ⟨args', R, hc, hp, hR⟩ | ⟨args', R, hc, hp, hR⟩ | h
  · refine (pcall_ok hs hc hp hv).mono ?_
    rintro e w' ⟨r, v, Im', rfl, hr, hir, h1, h2, h3⟩
    have h1' : ∀ a, Im a → Im' a := fun a ha => h1 a (by unfold Lent; simpa using ha)
    have h2' : ∀ a, Im' a → Im a ∨ (w.heap.size ≤ a.block ∧ a.block < w'.heap.size ∧ a.spot = none) := fun a ha => (h2 a ha).imp (fun h => by unfold Lent at h; simpa using h) id
    refine ⟨r, σ, v, κ, Im', rfl, hR r hr, hs.world h1' h2' h3.size h3.block, ⟨fun _ _ _ h => h, h1', fun a ha => World.cell?_of_block (h3.block _ (hs.imlt a ha).1), fun a ha => (h2' a ha).imp id (fun h => Nat.le_trans hs.hb h.1), h3.mono hs.hb⟩, .im _ _ hir⟩
  · refine (pcall_ok hs hc hp hv).mono ?_
    rintro e w' ⟨r, v, Im', rfl, hr, hir, h1, h2, h3⟩
    obtain ⟨hrig, hK⟩ := hR r hr
    refine ⟨r, σ, v, κ, Im, rfl, hK, hs.world (fun _ h => h) (fun _ h => .inl h) h3.size h3.block, ⟨fun _ _ _ h => h, fun _ h => h, fun a ha => World.cell?_of_block (h3.block _ (hs.imlt a ha).1), fun _ h => .inl h, h3.mono hs.hb⟩, .im _ _ (rig_ok hir hrig)⟩
  · exact h base κ Im w vs hs hv

theorem callFunc_ok {f : FuncId} (h : hasBody P f = true) (args : Array Value) (w : World) : (callFunc f args).run P w = .ok (.enter f args) w := by
  unfold hasBody at h
  split at h
  · rename_i fn hf
    simp only [Bool.and_eq_true, bne_iff_ne, ne_eq] at h
    obtain ⟨c, hb⟩ := Option.isSome_iff_exists.1 h.1
    simp [callFunc, hf, h.2, hb]
  · cases h

theorem quiet_acall {f : FuncId} {args : List AV} {K : AV → Store → Prop} (h : aqcall P σ K f args) : acall P σ K f args := by
  obtain ⟨args', r, hc, hp, hr, hK⟩ := h
  exact .inr (.inl ⟨args', fun r' => r' = r, hc, hp, fun r' h => by subst h; exact ⟨hr, hK⟩⟩)

theorem quietOp_ok {loud : List FuncId} {K : AV → Store → Prop} {f : Frame} {ao : AOp} (h : awpOp P K f σ (quietOp loud ao)) : awpOp P K f σ ao := by
  cases ao <;> try exact h
  case call g args =>
    simp only [quietOp] at h
    split at h
    · exact h
    · exact quiet_acall h
  case callv x args =>
    simp only [quietOp, awpOp] at h ⊢
    split
    · rename_i g first captured he
      rw [he] at h
      exact ⟨h.1, quiet_acall h.2⟩
    · rename_i hne
      split at h
      · rename_i g first captured he
        exact absurd he (hne _ _ _)
      · exact h

theorem op_of_pure {o : Oper} {ao : AOp} {f : Frame} {a : Act} {K : AV → Store → Prop} {next : Act → World → Prop} {Q : Exit → Act → World → Prop} (hok : ∀ r, pstep σ f ao = some r → PureOK P κ Im w o a r) (hs : SRel base κ Im σ w) (hf : FRel κ Im w f a)
    (h : ∃ r, pstep σ f ao = some r ∧ K r σ)
    (hnext : ∀ r σ' κ' Im' v w', K r σ' → VR κ' Im' w' r v → SRel base κ' Im' σ' w' → Grow base κ Im w κ' Im' w' → next (a.put o.dst v) w') : o.wp P a w next Q := by
  obtain ⟨r, hr, hK⟩ := h
  obtain ⟨v, hrun, hv⟩ := hok _ hr
  unfold Oper.wp
  rw [hrun]
  exact hnext r σ κ Im v w hK hv hs (Grow.refl _ _ _ _)

theorem op_of_eff {o : Oper} {a : Act} {K : AV → Store → Prop} {next : Act → World → Prop} {Q : Exit → Act → World → Prop} (h : EffOK P base κ Im w o a K)
    (hnext : ∀ r σ' κ' Im' v w', K r σ' → VR κ' Im' w' r v → SRel base κ' Im' σ' w' → Grow base κ Im w κ' Im' w' → next (a.put o.dst v) w') : o.wp P a w next Q := by
  obtain ⟨v, w', κ', Im', r, σ', hrun, hK, hv, hs', hg⟩ := h
  unfold Oper.wp
  rcases hrun with hrun | ⟨hrun, rfl⟩ <;> rw [hrun]
  · exact hnext r σ' κ' Im' v w' hK hv hs' hg
  · exact hnext r σ' κ' Im' undef w' hK hv hs' hg

theorem op_of_call {o : Oper} {a : Act} {g : FuncId} {args : List AV} {vs : List Value} {K : AV → Store → Prop} {next : Act → World → Prop} {Q : Exit → Act → World → Prop} (hrun : (execOp a.eval o).run P w = .ok (.enter g vs.toArray) w) (hs : SRel base κ Im σ w) (hv : VRL κ Im w args vs) (h : acall P σ K g args)
    (hnext : ∀ r σ' κ' Im' v w', K r σ' → VR κ' Im' w' r v → SRel base κ' Im' σ' w' → Grow base κ Im w κ' Im' w' → next (a.put o.dst v) w') : o.wp P a w next Q := by
  unfold Oper.wp
  rw [hrun]
  refine (acall_ok hs hv h).mono ?_
  rintro e w' ⟨r, σ', v, κ', Im', rfl, hK, hs', hg, hvr⟩
  exact hnext r σ' κ' Im' v w' hK hvr hs' hg

/-- The operations of the first kind do what the abstract ones say. -/
theorem op0_ok {o : Oper} {ao : AOp} {f : Frame} {a : Act} {K : AV → Store → Prop} {next : Act → World → Prop} {Q : Exit → Act → World → Prop} (hc : compOp0 P o = some ao) (hs : SRel base κ Im σ w) (hf : FRel κ Im w f a)
    (h : awpOp P K f σ ao)
    (hnext : ∀ r σ' κ' Im' v w', K r σ' → VR κ' Im' w' r v → SRel base κ' Im' σ' w' → Grow base κ Im w κ' Im' w' → next (a.put o.dst v) w') : o.wp P a w next Q := by
  have hc0 := hc
  unfold compOp0 at hc
  split at hc
  case h_4 t ho =>
    simp only [Option.map_eq_some_iff] at hc
    obtain ⟨z, hz, rfl⟩ := hc
    exact op_of_eff (eff_alloc ho hz hs h) hnext
  case h_5 t x ho =>
    simp only [Option.map_eq_some_iff] at hc
    obtain ⟨x', hx, rfl⟩ := hc
    exact op_of_eff (eff_box ho hx hs hf h.1 h.2) hnext
  case h_7 t n parts ho =>
    split at hc
    case h_2 => cases hc
    rename_i e ht
    simp only [Option.bind_eq_bind, Option.bind_eq_some_iff, Option.pure_def] at hc
    obtain ⟨size, hsz, z, hz, hc⟩ := hc
    split at hc
    case isFalse => cases hc
    rename_i hcond
    simp only [Option.bind_eq_some_iff, Option.some.injEq] at hc
    obtain ⟨ps, hps, rfl⟩ := hc
    exact op_of_eff (eff_mklst ho ht hsz hz hcond.1 hcond.2.1 hcond.2.2 hps hs hf h) hnext
  case h_9 t x v ho =>
    simp only [Option.bind_eq_bind, Option.bind_eq_some_iff, Option.pure_def, Option.some.injEq] at hc
    obtain ⟨size, hsz, x', hx, v', hv, rfl⟩ := hc
    obtain ⟨σ', h1, h2, h3, h4⟩ := h
    exact op_of_eff (eff_store ho hsz hx hv hs hf h1 h2 h3 h4) hnext
  case h_17 t l c ho =>
    split at hc
    case h_2 => cases hc
    rename_i e ht
    simp only [Option.bind_eq_bind, Option.bind_eq_some_iff, Option.pure_def] at hc
    obtain ⟨i, hi, z, hz, hc⟩ := hc
    split at hc
    case isFalse => cases hc
    rename_i hcond
    simp only [Option.bind_eq_some_iff, Option.some.injEq] at hc
    obtain ⟨l', hl, c', hcc, rfl⟩ := hc
    exact op_of_eff (eff_mkslice ho ht hi hz hcond.1 hcond.2 hl hcc hs hf h) hnext
  case h_24 c ho =>
    split at hc
    · rename_i g hcal
      split at hc
      case h_2 => cases hc
      split at hc
      case isFalse => cases hc
      rename_i hb
      simp only [Option.bind_eq_bind, Option.bind_eq_some_iff, Option.pure_def, Option.some.injEq] at hc
      obtain ⟨args, hargs, rfl⟩ := hc
      refine op_of_call (g := g) ?_ hs (opds_ok (κ := κ) (Im := Im) (w := w) hf hargs) h hnext
      have hargs' : c.args.map a.eval = (c.args.toList.map a.eval).toArray := list_array2 (by rw [Array.toList_map])
      simp only [execOp, ho, resolve, hcal, Act.eval, Deferred.ofValue, Sem.run_bind, Sem.run_pure, Result.andThen_ok, invoke, Array.empty_append, Array.append_empty]
      rw [callFunc_ok hb, ← hargs']
    · rename_i t hcal
      simp only [Option.bind_eq_bind, Option.bind_eq_some_iff, Option.pure_def, Option.some.injEq] at hc
      obtain ⟨args, hargs, rfl⟩ := hc
      simp only [awpOp, ev_s] at h
      split at h
      case h_2 => exact h.elim
      rename_i g first captured he
      obtain ⟨hb, h⟩ := h
      have ht := hf t
      rw [he] at ht
      obtain ⟨vs, us, hval, h1, h2⟩ := ht.fn_inv
      refine op_of_call (g := g) (vs := vs ++ c.args.toList.map a.eval ++ us) ?_ hs ((h1.append (opds_ok (κ := κ) (Im := Im) (w := w) hf hargs)).append h2) h hnext
      have hargs' : c.args.map a.eval = (c.args.toList.map a.eval).toArray := list_array2 (by rw [Array.toList_map])
      have hev : a.eval (.tmp t) = .func (.func g) vs.toArray us.toArray := hval
      simp only [execOp, ho, resolve, hcal, hev, Deferred.ofValue, Sem.run_bind, Sem.run_pure, Result.andThen_ok, invoke]
      rw [callFunc_ok hb]
      congr 2
      rw [hargs']; simp
    · rename_i b hcal
      simp only [Option.bind_eq_bind, Option.bind_eq_some_iff] at hc
      obtain ⟨args, hargs, hc⟩ := hc
      by_cases happ : ∃ e size bytes x y, ao = .app e size bytes x y
      · obtain ⟨e, size, bytes, x, y, rfl⟩ := happ
        unfold compBuiltin at hc
        split at hc
        · (repeat' (split at hc)) <;> simp at hc
        · simp at hc
        · simp at hc
        · rename_i s t' x' y' hts
          split at hc
          case isFalse => (repeat' (split at hc)) <;> simp at hc
          rename_i hst; subst hst
          split at hc
          case h_2 => cases hc
          rename_i e' ht
          split at hc
          case h_2 => cases hc
          rename_i i hi
          split at hc
          case h_2 => cases hc
          rename_i z hz
          split at hc
          case isFalse => cases hc
          rename_i hcond
          simp only [Option.some.injEq, AOp.app.injEq] at hc
          obtain ⟨rfl, hsz, hby, rfl, rfl⟩ := hc
          exact op_of_eff (eff_app ho hcal hts hargs ht hi hz hcond.1 hcond.2 hsz hby hs hf h) hnext
        · cases hc
      · by_cases happs : ∃ e x y, ao = .apps e x y
        · obtain ⟨e, x, y, rfl⟩ := happs
          unfold compBuiltin at hc
          split at hc
          · (repeat' (split at hc)) <;> simp at hc
          · simp at hc
          · simp at hc
          · rename_i s t' x' y' hts
            split at hc
            case isTrue => (repeat' (split at hc)) <;> simp at hc
            split at hc
            case h_2 => cases hc
            rename_i e' ht hu
            split at hc
            case h_2 => cases hc
            rename_i i hi
            split at hc
            case h_2 => cases hc
            rename_i hz
            split at hc
            case isFalse => cases hc
            rename_i hcond
            simp only [Option.some.injEq, AOp.apps.injEq] at hc
            obtain ⟨rfl, rfl, rfl⟩ := hc
            exact op_of_eff (eff_apps ho hcal hts hargs ht hu hi hz hcond.1 hcond.2 hs hf h) hnext
          · cases hc
        refine op_of_pure (fun _ => pstep0_ok hc0 hs hf) hs hf ?_ hnext
        unfold compBuiltin at hc
        split at hc
        · (repeat' (split at hc)) <;> first
            | (cases hc; done)
            | (simp only [Option.some.injEq] at hc; subst hc; exact h)
        · simp only [Option.some.injEq] at hc; subst hc; exact h
        · simp only [Option.some.injEq] at hc; subst hc; exact h
        · (repeat' (split at hc)) <;> first
            | (cases hc; done)
            | (simp only [Option.some.injEq] at hc; exact (happs ⟨_, _, _, hc.symm⟩).elim)
            | (simp only [Option.some.injEq] at hc; exact (happ ⟨_, _, _, _, _, hc.symm⟩).elim)
        · cases hc
    · cases hc
  case h_25 => cases hc
  all_goals
    refine op_of_pure (fun _ => pstep0_ok hc0 hs hf) hs hf ?_ hnext
    (repeat' (split at hc)) <;> first
      | (cases hc; done)
      | (simp only [Option.bind_eq_bind, Option.bind_eq_some_iff, Option.map_eq_some_iff, Option.pure_def, Option.some.injEq] at hc
         first
           | (obtain ⟨_, _, rfl⟩ := hc; exact h)
           | (obtain ⟨_, _, _, _, rfl⟩ := hc; exact h)
           | (obtain ⟨_, _, _, _, _, _, rfl⟩ := hc; exact h)
           | (obtain ⟨_, _, _, _, _, _, _, _, rfl⟩ := hc; exact h)
           | (obtain ⟨_, _, _, _, hc⟩ := hc; split at hc <;> first
               | (cases hc; done)
               | (simp only [Option.bind_eq_some_iff, Option.some.injEq] at hc; obtain ⟨_, _, rfl⟩ := hc; exact h)))

/-- .. those of the second kind, too. -/
theorem opX_ok {o : Oper} {ao : AOp} {f : Frame} {a : Act} {K : AV → Store → Prop} {next : Act → World → Prop} {Q : Exit → Act → World → Prop} (hc : compX P o = some ao) (hs : SRel base κ Im σ w) (hf : FRel κ Im w f a)
    (h : awpOp P K f σ ao)
    (hnext : ∀ r σ' κ' Im' v w', K r σ' → VR κ' Im' w' r v → SRel base κ' Im' σ' w' → Grow base κ Im w κ' Im' w' → next (a.put o.dst v) w') : o.wp P a w next Q := by
  have hc0 := hc
  have hpure : (∃ r, pstep σ f ao = some r ∧ K r σ) → o.wp P a w next Q := fun h => op_of_pure (fun _ => xstep_ok hc0 hs hf) hs hf h hnext
  unfold compX at hc
  split at hc
  case h_1 =>
    split at hc
    · simp only [Option.map_eq_some_iff] at hc
      obtain ⟨_, _, rfl⟩ := hc
      exact hpure h
    · split at hc
      case h_2 => cases hc
      split at hc <;> first
        | (cases hc; done)
        | (simp only [Option.bind_eq_bind, Option.bind_eq_some_iff, Option.pure_def, Option.some.injEq] at hc
           obtain ⟨_, _, _, _, rfl⟩ := hc
           exact hpure h)
  case h_2 =>
    simp only [Option.map_eq_some_iff] at hc
    obtain ⟨_, _, rfl⟩ := hc
    exact hpure h
  case h_3 s t x ho =>
    split at hc
    · rename_i e hu1 hu2
      split at hc
      case h_2 => cases hc
      rename_i he
      simp only [Option.map_eq_some_iff] at hc
      obtain ⟨x', hx, rfl⟩ := hc
      obtain ⟨r, hr, hK⟩ := h
      exact op_of_eff (eff_tobytes ho hu1 hu2 he hx hs hf hr hK) hnext
    · split at hc
      case h_2 => cases hc
      split at hc
      case isFalse => cases hc
      simp only [Option.map_eq_some_iff] at hc
      obtain ⟨_, _, rfl⟩ := hc
      exact hpure h
    · cases hc
  case h_4 =>
    split at hc
    case h_2 => cases hc
    simp only [Option.bind_eq_bind, Option.bind_eq_some_iff, Option.pure_def] at hc
    obtain ⟨_, _, hc⟩ := hc
    split at hc
    case isFalse => cases hc
    simp only [Option.bind_eq_some_iff, Option.some.injEq] at hc
    obtain ⟨_, _, _, _, _, _, rfl⟩ := hc
    exact hpure h
  case h_5 ho =>
    simp only [Option.some.injEq] at hc; subst hc
    obtain ⟨r, σ', ⟨rfl, rfl⟩, hK⟩ := h
    exact op_of_eff (eff_mkmap ho hs hK) hnext
  case h_6 t m k v ho =>
    split at hc
    case h_2 => cases hc
    rename_i kt e ht
    simp only [Option.bind_eq_bind, Option.bind_eq_some_iff, Option.pure_def, Option.some.injEq] at hc
    obtain ⟨kind, hk, m', hm, k', hkk, v', hv, rfl⟩ := hc
    obtain ⟨r, σ', ⟨rfl, id, kv, kv', h1, h2, h3, h4, rfl⟩, hK⟩ := h
    exact op_of_eff (eff_mset (.inl ho) ht hk hm hkk hv hs hf h1 h2 h3 h4 hK) hnext
  case h_7 t m k v ho =>
    split at hc
    case h_2 => cases hc
    rename_i kt e ht
    simp only [Option.bind_eq_bind, Option.bind_eq_some_iff, Option.pure_def, Option.some.injEq] at hc
    obtain ⟨kind, hk, m', hm, k', hkk, v', hv, rfl⟩ := hc
    obtain ⟨r, σ', ⟨rfl, id, kv, kv', h1, h2, h3, h4, rfl⟩, hK⟩ := h
    exact op_of_eff (eff_mset (.inr ho) ht hk hm hkk hv hs hf h1 h2 h3 h4 hK) hnext
  case h_8 =>
    split at hc
    case h_2 => cases hc
    simp only [Option.bind_eq_bind, Option.bind_eq_some_iff, Option.pure_def, Option.some.injEq] at hc
    obtain ⟨_, _, _, _, _, _, _, _, _, _, _, _, rfl⟩ := hc
    exact hpure h
  case h_9 c ho =>
    split at hc
    · split at hc
      case h_2 => cases hc
      split at hc
      case h_2 => cases hc
      simp only [Option.map_eq_some_iff] at hc
      obtain ⟨_, _, rfl⟩ := hc
      exact hpure h
    · rename_i hcal
      split at hc
      case h_2 => cases hc
      rename_i t x hts hargs
      split at hc
      case h_2 => cases hc
      rename_i e ht
      simp only [Option.bind_eq_bind, Option.bind_eq_some_iff, Option.pure_def] at hc
      obtain ⟨i, hi, z, hz, hc⟩ := hc
      split at hc
      case isFalse => cases hc
      rename_i hcond
      simp only [Option.bind_eq_some_iff, Option.some.injEq] at hc
      obtain ⟨x', hx, rfl⟩ := hc
      obtain ⟨r, σ', ⟨rfl, h1⟩, hK⟩ := h
      exact op_of_eff (eff_clr ho hcal hts hargs ht hi hz hcond.1 hcond.2 hx hs hf h1 hK) hnext
    · cases hc
  case h_10 => cases hc

/-- EVERY OPERATION DOES WHAT THE ABSTRACT ONE SAYS. -/
theorem op_ok {o : Oper} {ao : AOp} {f : Frame} {a : Act} {K : AV → Store → Prop} {next : Act → World → Prop} {Q : Exit → Act → World → Prop} (hc : compOp P o = some ao) (hs : SRel base κ Im σ w) (hf : FRel κ Im w f a)
    (h : awpOp P K f σ ao)
    (hnext : ∀ r σ' κ' Im' v w', K r σ' → VR κ' Im' w' r v → SRel base κ' Im' σ' w' → Grow base κ Im w κ' Im' w' → next (a.put o.dst v) w') : o.wp P a w next Q := by
  unfold compOp at hc
  split at hc
  · rename_i a0 h0
    simp only [Option.some.injEq] at hc; subst hc
    exact op0_ok h0 hs hf h hnext
  · exact opX_ok hc hs hf h hnext

/-- A literal of a slice is of the first kind. -/
theorem compX_mklst {o : Oper} {e s n : Nat} {z : List AV} {ps : List (Nat × Opd)} (hc : compX P o = some (.mklst e s z n ps)) : False := by
  unfold compX at hc
  revert hc
  repeat' split
  all_goals simp [Option.bind_eq_some_iff]

/-- The same, where a literal of a slice is the call's own. -/
theorem op_own_ok {loud : List FuncId} {o : Oper} {ao : AOp} {f : Frame} {a : Act} {K : AV → Store → Prop} {next : Act → World → Prop} {Q : Exit → Act → World → Prop} (hc : compOp P o = some ao) (hs : SRel base κ Im σ w) (hf : FRel κ Im w f a)
    (h : awpOp P K f σ (ownOp loud ao))
    (hnext : ∀ r σ' κ' Im' v w', K r σ' → VR κ' Im' w' r v → SRel base κ' Im' σ' w' → Grow base κ Im w κ' Im' w' → next (a.put o.dst v) w') : o.wp P a w next Q := by
  unfold ownOp at h
  split at h
  case h_2 => exact op_ok hc hs hf h hnext
  rename_i e size z n ps
  split at h
  case isFalse => exact op_ok hc hs hf h hnext
  have hc0 := hc
  unfold compOp at hc
  split at hc
  case h_2 => exact (compX_mklst hc).elim
  rename_i a0 h00
  simp only [Option.some.injEq] at hc; subst hc
  have hc := h00
  unfold compOp0 at hc
  split at hc
  case h_7 t n' parts ho =>
    split at hc
    case h_2 => cases hc
    rename_i e' ht
    simp only [Option.bind_eq_bind, Option.bind_eq_some_iff, Option.pure_def] at hc
    obtain ⟨size, hsz, z, hz, hc⟩ := hc
    split at hc
    case isFalse => cases hc
    rename_i hcond
    simp only [Option.bind_eq_some_iff, Option.some.injEq] at hc
    obtain ⟨ps', hps, hc⟩ := hc
    simp only [AOp.mklst.injEq] at hc
    obtain ⟨rfl, rfl, rfl, rfl, rfl⟩ := hc
    exact op_of_eff (eff_mkrow ho ht hsz hz hcond.1 hcond.2.1 hcond.2.2 hps hs hf h) hnext
  case h_24 =>
    exfalso
    split at hc <;> try (simp at hc; done)
    · split at hc <;> try (simp at hc; done)
      split at hc <;> simp [Option.bind_eq_some_iff] at hc
    · simp [Option.bind_eq_some_iff] at hc
    · simp only [Option.bind_eq_bind, Option.bind_eq_some_iff] at hc
      obtain ⟨as, _, hc⟩ := hc
      unfold compBuiltin at hc
      split at hc <;> (repeat' split at hc) <;> simp at hc
  all_goals
    exfalso
    revert hc
    repeat' split
    all_goals simp [Option.bind_eq_some_iff]

end
end Go.Abs
