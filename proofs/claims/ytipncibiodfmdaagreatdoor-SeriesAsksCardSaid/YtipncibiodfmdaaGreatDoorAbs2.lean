/- The abstract machine: its soundness, contracts, loops, and the rules by which walks step. -/
import Derived.Test.YtipncibiodfmdaaGreatDoorAbs1
import Derived.MapKept
import Derived.Laws.BytesString
import Derived.Lib.ConvBytes
import Derived.Lib.AtoiErrMem
import Derived.Scope
import Derived.Deep.LoopGhost
import Derived.Defers
set_option linter.unusedSimpArgs false
set_option linter.unusedVariables false
set_option linter.constructorNameAsVariable false
section
/- Abstract machine, part 14: make, and literals of slices. -/
set_option linter.unusedSimpArgs false
set_option linter.unusedVariables false
set_option linter.constructorNameAsVariable false
namespace Go.Abs
open Go.RowKit
variable {G : Globs}
section
variable {P : Program} {base : Nat} {κ : Key} {Im : Addr → Prop} {w : World} {σ : Store}

theorem range_split (n size : Nat) : List.range (n * size + size) = List.range size ++ (List.range (n * size)).map (· + size) := by
  rw [Nat.add_comm, List.range_add]
  congr 1
  apply List.map_congr_left
  intro a _; omega

/-- n zero elements, one behind the other. -/
theorem made_flat (z : Array Value) (hz : 0 < z.size) : ∀ n, (madeCells z (n * z.size)).toList = (List.replicate n z.toList).flatten
  | 0 => by simp [madeCells]
  | n + 1 => by
    have ih := made_flat z hz n
    simp only [madeCells, Array.toList_map, Array.toList_range] at ih ⊢
    rw [Nat.add_mul, Nat.one_mul, range_split, List.map_append, List.map_map, List.replicate_succ, List.flatten_cons]
    congr 1
    · apply List.ext_getElem
      · simp
      · intro i h1 h2
        simp at h1
        simp [Nat.mod_eq_of_lt h1, h1]
    · rw [← ih]
      apply List.map_congr_left
      intro a _
      simp

theorem VRL.replicate {l : List AV} {vs : List Value} (h : VRL κ Im w l vs) : ∀ n, VRL κ Im w (List.replicate n l).flatten (List.replicate n vs).flatten
  | 0 => by simpa using VRL.nil
  | n + 1 => by
    rw [List.replicate_succ, List.replicate_succ, List.flatten_cons, List.flatten_cons]
    exact h.append (VRL.replicate h n)

theorem eff_mkslice {o : Oper} {t e : TypeId} {l c : Operand} {l' c' : Opd} {i : TypeInfo} {z : List AV} {f : Frame} {a : Act} {K : AV → Store → Prop} (ho : o.op = .makeSlice t l c) (ht : P.underlying t = some (.slice e)) (hi : P.info? e = some i) (hz : zeroOf P e = some z)
    (hzl : z.length = i.size) (hpos : 0 < i.size) (hl : opd l = some l') (hc : opd c = some c') (hs : SRel base κ Im σ w) (hf : FRel κ Im w f a) (h : awpOp P K f σ (.mkslice e i.size i.bytes z l' c')) : EffOK P base κ Im w o a K := by
  simp only [awpOp] at h
  obtain ⟨n, cc, hn, hcc, hle, hb, h63, _, _, hK⟩ := h
  obtain ⟨kl, hkl⟩ := natOf_ok (opd_ok (κ := κ) (Im := Im) (w := w) hl hf) hn
  obtain ⟨kc, hkc⟩ := natOf_ok (opd_ok (κ := κ) (Im := Im) (w := w) hc hf) hcc
  obtain ⟨i', zv, hi', hzv, hm⟩ := zeroOf_ok hz
  rw [hi] at hi'; cases hi'
  obtain ⟨hzr, hzo, _⟩ := mapM_const1 (Im := Im) (w := w) hm
  have hzs : zv.cells.size = i.size := by rw [← hzl, hzr.1]; simp
  have hbb : (i.bytes : Int) * (cc : Int) ≤ 281474976710656 := by
    have h1 : ((cc * i.bytes : Nat) : Int) ≤ 140737488355328 := by omega
    rw [Int.natCast_mul, Int.mul_comm] at h1; omega
  have hr := run_make (P := P) w t e i zv ht hi hzv kl kc n cc (by omega) (by omega) hbb (by omega)
  simp only [Int.toNat_natCast] at hr
  have hsize : (madeCells zv.cells (cc * i.size)).size = cc * i.size := size_madeCells _ _
  have hflat : (madeCells zv.cells (cc * i.size)).toList = (List.replicate cc zv.cells.toList).flatten := by
    have := made_flat zv.cells (by omega) cc
    rwa [hzs] at this
  have htake : (madeCells zv.cells (cc * i.size)).toList.take (n * i.size) = (List.replicate n zv.cells.toList).flatten := by
    rw [hflat]
    have : cc = n + (cc - n) := by omega
    rw [this, ← List.replicate_append_replicate, List.flatten_append, List.take_append_of_le_length (by simp [hzs])]
    exact List.take_of_length_le (by simp [hzs])
  have hown : (w.alloc (.cells (madeCells zv.cells (cc * i.size)) e)).ownsRow w.heap.size e i.size (.slice (some ⟨w.heap.size, 0, none⟩) n cc) n (List.replicate n zv.cells.toList).flatten :=
    ⟨by simp [hzs], .inr ⟨w.heap.size, cc, _, rfl, Nat.le_refl _, heap_alloc_new w _, hle, by simp only [maxLen]; omega, hsize, htake⟩⟩
  obtain ⟨κ', Im', q1, q2, q3⟩ := new_row (e := e) (size := i.size) (n := n) (m := List.replicate n z) (im := false) hs (by simp) hpos (fun c hc => by rw [(List.mem_replicate.1 hc).2, hzl]) (fun c hc x hx => by rw [(List.mem_replicate.1 hc).2] at hx; exact hzo x hx) hown
    (fun k hk => Below.heap_alloc w _ k hk) (by simp) rfl rfl rfl ((VRL.ofIR hzr).replicate n) (fun h => by simp at h)
  exact ⟨_, _, κ', Im', _, _, .inl (by simp only [execOp, ho, hkl, hkc, Sem.run_bind, hr, Result.andThen_ok, Sem.run_pure]), hK, q1, q2, q3⟩

theorem VR.empty {a : AV} {v : Value} (h : VR (fun _ _ => none) Im w a v) : IR Im w a v := by
  induction h with
  | im a v h => exact h
  | ptr id off b h => simp at h
  | row id n g cap h => simp at h
  | rowp id n size k off b cap h => simp at h
  | map id b h => simp at h
  | sub id n size lo hi b cap ad c h => simp at h
  | asl id off n size b ad c h => simp at h
  | fn f first captured vs us h1 h2 hv hu ih1 ih2 => exact .fn f first captured vs us h1 h2 ih1 ih2
  | iface t a v h ih => exact .iface t a v ih
  | agg cells vs hone h1 hv ih => exact .agg cells vs hone h1 ih
  | tup cells vs h1 hv ih => exact .tup cells vs h1 ih

theorem share1_ok {X r : AV} {x : Value} (hs : SRel base κ Im σ w) (hx : VR κ Im w X x) (h : share1 σ X = some r) : IR Im w r x ∧ (X.one = true → r.one = true) := by
  unfold share1 at h
  split at h
  · rename_i id n
    obtain ⟨g, cap, rfl, hk⟩ := hx.row_inv
    split at h
    case h_2 => cases h
    rename_i e size els he
    split at h
    case isFalse => cases h
    rename_i hn
    simp only [Option.some.injEq] at h; subst h; subst hn
    exact ⟨row_lst hs he hk, fun _ => rfl⟩
  · simp only [Option.some.injEq] at h; subst h
    cases hx.nils_inv
    exact ⟨.lnil _, fun _ => rfl⟩
  · split at h
    case isFalse => cases h
    rename_i hp
    simp only [Option.some.injEq] at h; subst h
    exact ⟨hx.pure hp, id⟩

theorem shareL_ok (hs : SRel base κ Im σ w) {l m : List AV} {vs : List Value} (hl : VRL κ Im w l vs) (h : shareL σ l = some m) : IRL Im w m vs ∧ ((∀ c ∈ l, c.one = true) → ∀ c ∈ m, c.one = true) := by
  obtain ⟨h1, h2⟩ := mapM_some h
  refine ⟨⟨by rw [← h1, hl.1], fun j hj hj' => (share1_ok hs (hl.2 j (by omega) hj') (h2 j (by omega) hj)).1⟩, fun ho c hc => ?_⟩
  obtain ⟨j, hj, rfl⟩ := List.mem_iff_getElem.1 hc
  have hjl : j < l.length := by omega
  have hjv : j < vs.length := by rw [← hl.1]; exact hjl
  exact (share1_ok hs (hl.2 j hjl hjv) (h2 j hjl hj)).2 (ho _ (List.getElem_mem hjl))

theorem share_ok {X r : AV} {x : Value} (hs : SRel base κ Im σ w) (hx : VR κ Im w X x) (h : share σ X = some r) : IR Im w r x ∧ ((∀ c ∈ X.cells, c.one = true) → ∀ c ∈ r.cells, c.one = true) := by
  unfold share at h
  split at h
  · rename_i l
    simp only [Option.map_eq_some_iff] at h
    obtain ⟨m, hm, rfl⟩ := h
    obtain ⟨vs, rfl, hl, hone⟩ := hx.agg_inv
    obtain ⟨h1, h2⟩ := shareL_ok hs hl hm
    exact ⟨.agg _ _ (h2 hone) h1.1 h1.2, fun _ => h2 hone⟩
  · rename_i l
    simp only [Option.map_eq_some_iff] at h
    obtain ⟨m, hm, rfl⟩ := h
    obtain ⟨vs, rfl, hl⟩ := hx.tup_inv
    obtain ⟨h1, h2⟩ := mapM_some hm
    refine ⟨.tup _ _ (by rw [← h1, hl.1]) (fun j hj hj' => ?_), fun ho => ?_⟩
    · have := h2 j (by omega) hj
      split at this
      · rename_i l' hq
        simp only [Option.map_eq_some_iff] at this
        obtain ⟨m', hm', hr⟩ := this
        have hv := hl.2 j (by omega) hj'
        rw [hq] at hv
        obtain ⟨us, hu, hul, hone⟩ := hv.agg_inv
        obtain ⟨g1, g2⟩ := shareL_ok hs hul hm'
        rw [← hr, hu]
        exact .agg _ _ (g2 hone) g1.1 g1.2
      · exact (share1_ok hs (hl.2 j (by omega) hj') this).1
    · exact absurd (ho _ (List.mem_singleton.2 rfl)) (by simp [AV.one])
  · obtain ⟨h1, h2⟩ := share1_ok hs hx h
    refine ⟨h1, fun ho => ?_⟩
    rename_i hna hnt
    have hX : X.cells = [X] := by cases X <;> first | rfl | exact absurd rfl (hna _)
    have hone := h2 (ho X (by rw [hX]; simp))
    have hr : r.cells = [r] := by cases r <;> first | rfl | simp [AV.one] at hone
    rw [hr]; simpa using hone

theorem eff_mklst {o : Oper} {t e : TypeId} {n size : Nat} {parts : Array (Nat × Operand)} {z : List AV} {ps : List (Nat × Opd)} {f : Frame} {a : Act} {K : AV → Store → Prop} (ho : o.op = .buildSlice t n parts) (ht : P.underlying t = some (.slice e)) (hsz : sizeOf? P e = some size)
    (hz : zeroOf P e = some z) (hle : n * size ≤ 16777216) (hzl : z.length = size) (hpos : 0 < size) (hps : parts.toList.mapM (compElem n) = some ps) (hs : SRel base κ Im σ w) (hf : FRel κ Im w f a) (h : awpOp P K f σ (.mklst e size z n ps)) : EffOK P base κ Im w o a K := by
  simp only [awpOp] at h
  obtain ⟨qs, hqs, hK⟩ := h
  obtain ⟨i, zv, hi, hzv, hm⟩ := zeroOf_ok hz
  obtain ⟨hzr, hzo, _⟩ := mapM_const1 (Im := Im) (w := w) hm
  have hzs : zv.cells.size = size := by rw [← hzl, hzr.1]; simp
  obtain ⟨h1, h2⟩ := mapM_some hps
  obtain ⟨h3, h4⟩ := mapM_some hqs
  have hflat : (madeCells zv.cells (n * size)).toList = (List.replicate n zv.cells.toList).flatten := by
    have := made_flat zv.cells (by omega) n
    rwa [hzs] at this
  have hzflat : VRL (fun _ _ => none) Im w (List.replicate n z).flatten (madeCells zv.cells (n * size)).toList := by
    rw [hflat]; exact (VRL.ofIR hzr).replicate n
  have hflen : (List.replicate n z).flatten.length = n * size := by simp [hzl]
  have hfill := fill_ok (κ := fun _ _ => none) (Im := Im) (w := w) (fun i => some (i * size, size)) (parts.toList.map fun p => (p.1, a.eval p.2)) qs (List.replicate n z).flatten (madeCells zv.cells (n * size)) hzflat (by simp [h1, h3]) (fun j hj hj' => by
    have hj1 : j < parts.toList.length := by simpa using hj
    have hj2 : j < ps.length := by omega
    have e1 := h2 j hj1 hj2
    have e2 := h4 j hj2 hj'
    simp only [List.getElem_map]
    unfold compElem at e1
    split at e1
    case h_2 => cases e1
    rename_i x hx
    split at e1
    case isFalse => cases e1
    rename_i hlt
    simp only [Option.some.injEq] at e1
    rw [← e1] at e2
    simp only [Option.bind_eq_some_iff] at e2
    obtain ⟨v, hv, e2⟩ := e2
    split at e2
    case isFalse => cases e2
    rename_i hcl
    simp only [Option.some.injEq] at e2
    rw [← e2]
    have hvr := opd_ok (κ := κ) (Im := Im) (w := w) hx hf
    obtain ⟨g1, g2⟩ := share_ok hs hvr hv
    have hmul : (parts.toList[j].1 + 1) * size ≤ n * size := Nat.mul_le_mul_right _ hlt
    rw [Nat.add_mul] at hmul
    refine ⟨size, rfl, hcl.1.symm, ?_, by rw [hflen]; omega⟩
    exact (VR.im (κ := fun _ _ => none) _ _ g1).oneCells (by simpa using hcl.2))
  obtain ⟨cs', hfl, hvr, hcs⟩ := hfill
  have hones : ∀ c ∈ lay (List.replicate n z).flatten qs, c.one = true := lay_one qs _ (fun c hc => by
      obtain ⟨l, hl, hcl⟩ := List.mem_flatten.1 hc
      rw [(List.mem_replicate.1 hl).2] at hcl
      exact hzo c hcl) (fun p hp c hc => by
    obtain ⟨j, hj, rfl⟩ := List.mem_iff_getElem.1 hp
    have e2 := h4 j (by omega) hj
    simp only [Option.bind_eq_some_iff] at e2
    obtain ⟨v, hv, e2⟩ := e2
    split at e2
    case isFalse => cases e2
    rename_i hcl
    simp only [Option.some.injEq] at e2
    rw [← e2] at hc
    have := hcl.2
    simp only [List.all_eq_true] at this
    exact this c hc)
  have hlaylen : (lay (List.replicate n z).flatten qs).length = n * size := by
    rw [hvr.1]; simp [hcs, size_madeCells]
  obtain ⟨c1, c2, c3⟩ := chunks_ok n size _ hlaylen
  generalize hL : lay (List.replicate n z).flatten qs = L at *
  have hrun : (execOp a.eval o).run P w = .ok (.value (.slice (some ⟨w.heap.size, 0, none⟩) n n)) (w.alloc (.cells cs' e)) := by
    have hparts : (parts.map fun (i, x) => (i, a.eval x)).toList = parts.toList.map fun p => (p.1, a.eval p.2) := by simp
    have hn : ¬ (n * size > 2 ^ 24) := by omega
    by_cases h0 : n * size = 0
    · have hm0 : madeCells zv.cells (n * size) = (Array.range (n * size)).map ((#[] : Array Value)[· % (#[] : Array Value).size]!) := by simp [h0, madeCells, Array.range_zero']
      rw [hm0] at hfl
      simp only [execOp, ho, Instr.buildSlice, Sem.run_bind, run_underlying ht, Result.andThen_ok, run_sizeOf? hsz, Sem.run_ite, hn, if_false, h0, if_true, Sem.run_pure, hparts]
      rw [h0] at hfl
      simp only [hfl, newRow, Sem.run_bind, run_newObj, Result.andThen_ok, Sem.run_pure]
      rfl
    · have hm0 : madeCells zv.cells (n * size) = (Array.range (n * size)).map (zv.cells[· % zv.cells.size]!) := rfl
      rw [hm0] at hfl
      simp only [execOp, ho, Instr.buildSlice, Sem.run_bind, run_underlying ht, Result.andThen_ok, run_sizeOf? hsz, Sem.run_ite, hn, if_false, h0, zeroValue, typeInfo, run_program, hi, hzv, Sem.run_pure, hparts, hfl, newRow, run_newObj]
      rfl
  have hcells : ∀ j, j < n * size → (w.alloc (.cells cs' e)).cell? ⟨w.heap.size, j, none⟩ = some (cs'.getD j undef) := by
    intro j hj
    rw [cell_of_row _ _ j cs' e (0, 0) (heap_alloc_new w _)]
    have : j < cs'.size := by rw [hcs, size_madeCells]; exact hj
    simp [this]
  let Im' : Addr → Prop := fun ad => Im ad ∨ (ad.block = w.heap.size ∧ ad.spot = none ∧ ad.off < n * size)
  have hc : ∀ ad, Im ad → (w.alloc (.cells cs' e)).cell? ad = w.cell? ad := fun ad ha => World.cell?_of_block (Below.heap_alloc w _ _ (hs.imlt ad ha).1)
  have hir : IR Im' (w.alloc (.cells cs' e)) (.lst (chunks n size L)) (.slice (some ⟨w.heap.size, 0, none⟩) n n) := by
    have := IR.lst (Im := Im') (w := w.alloc (.cells cs' e)) (chunks n size L) size w.heap.size 0 n (fun k j => cs'.getD (k * size + j) undef) (by omega) (by simp only [maxLen]; have := Nat.le_mul_of_pos_right n hpos; omega) c2
      (fun c hcc x hx => hones x (by rw [← c3]; exact List.mem_flatten.2 ⟨c, hcc, hx⟩))
      (fun k j hk hj => by
        have hmul : (k + 1) * size ≤ n * size := Nat.mul_le_mul_right _ (by omega)
        rw [Nat.add_mul] at hmul
        rw [Nat.zero_add]
        exact ⟨.inr ⟨rfl, rfl, by show k * size + j < n * size; omega⟩, hcells _ (by omega)⟩)
      (fun k j hk hj => by
        have hjs : j < size := by rw [c2 _ (List.getElem_mem hk)] at hj; exact hj
        obtain ⟨_, _, g3, g4⟩ := flatten_get (chunks n size L) k j c2 hk hjs
        have hlt : k * size + j < L.length := by rw [c3] at g3; exact g3
        have hlt' : k * size + j < cs'.toList.length := by rw [← hvr.1]; exact hlt
        have e1 : (chunks n size L)[k][j] = L[k * size + j] := by rw [← g4]; simp only [c3]
        have e2 : cs'.getD (k * size + j) undef = cs'.toList[k * size + j] := by simp at hlt'; simp [hlt']
        rw [e1, e2]
        exact (hvr.2 _ hlt hlt').empty.mono (fun _ h => .inl h) hc)
    rwa [c1] at this
  refine ⟨_, _, κ, Im', _, σ, .inl hrun, hK, .im _ _ hir, ?_, ⟨fun _ _ _ h => h, fun _ h => .inl h, hc, fun ad h => ?_, (Below.refl _ _).alloc hs.hb _⟩⟩
  · refine hs.world (fun _ h => .inl h) (fun ad h => ?_) (by simp) (fun k hk => Below.heap_alloc w _ k hk)
    rcases h with h | ⟨h1, h2, _⟩
    · exact .inl h
    · exact .inr ⟨by omega, by simp; omega, h2⟩
  · rcases h with h | ⟨h1, _⟩
    · exact .inl h
    · exact .inr (by rw [h1]; exact hs.hb)

/-- A literal of a slice that the call owns. -/
theorem eff_mkrow {o : Oper} {t e : TypeId} {n size : Nat} {parts : Array (Nat × Operand)} {z : List AV} {ps : List (Nat × Opd)} {f : Frame} {a : Act} {K : AV → Store → Prop} (ho : o.op = .buildSlice t n parts) (ht : P.underlying t = some (.slice e)) (hsz : sizeOf? P e = some size)
    (hz : zeroOf P e = some z) (hle : n * size ≤ 16777216) (hzl : z.length = size) (hpos : 0 < size) (hps : parts.toList.mapM (compElem n) = some ps) (hs : SRel base κ Im σ w) (hf : FRel κ Im w f a) (h : awpOp P K f σ (.mkrow e size z n ps)) : EffOK P base κ Im w o a K := by
  simp only [awpOp] at h
  obtain ⟨qs, hqs, _, hK⟩ := h
  obtain ⟨i, zv, hi, hzv, hm⟩ := zeroOf_ok hz
  obtain ⟨hzr, hzo, _⟩ := mapM_const1 (Im := Im) (w := w) hm
  have hzs : zv.cells.size = size := by rw [← hzl, hzr.1]; simp
  obtain ⟨h1, h2⟩ := mapM_some hps
  obtain ⟨h3, h4⟩ := mapM_some hqs
  have hflat : (madeCells zv.cells (n * size)).toList = (List.replicate n zv.cells.toList).flatten := by
    have := made_flat zv.cells (by omega) n
    rwa [hzs] at this
  have hzflat : VRL κ Im w (List.replicate n z).flatten (madeCells zv.cells (n * size)).toList := by
    rw [hflat]; exact (VRL.ofIR hzr).replicate n
  have hflen : (List.replicate n z).flatten.length = n * size := by simp [hzl]
  have hfill := fill_ok (κ := κ) (Im := Im) (w := w) (fun i => some (i * size, size)) (parts.toList.map fun p => (p.1, a.eval p.2)) qs (List.replicate n z).flatten (madeCells zv.cells (n * size)) hzflat (by simp [h1, h3]) (fun j hj hj' => by
    have hj1 : j < parts.toList.length := by simpa using hj
    have hj2 : j < ps.length := by omega
    have e1 := h2 j hj1 hj2
    have e2 := h4 j hj2 hj'
    simp only [List.getElem_map]
    unfold compElem at e1
    split at e1
    case h_2 => cases e1
    rename_i x hx
    split at e1
    case isFalse => cases e1
    rename_i hlt
    simp only [Option.some.injEq] at e1
    rw [← e1] at e2
    split at e2
    case isFalse => cases e2
    rename_i hcl
    simp only [Option.some.injEq] at e2
    rw [← e2]
    have hvr := opd_ok (κ := κ) (Im := Im) (w := w) hx hf
    have hmul : (parts.toList[j].1 + 1) * size ≤ n * size := Nat.mul_le_mul_right _ hlt
    rw [Nat.add_mul] at hmul
    refine ⟨size, rfl, hcl.1.symm, ?_, by rw [hflen]; omega⟩
    exact hvr.oneCells (by simpa using hcl.2))
  obtain ⟨cs', hfl, hvr, hcs⟩ := hfill
  have hones : ∀ c ∈ lay (List.replicate n z).flatten qs, c.one = true := lay_one qs _ (fun c hc => by
      obtain ⟨l, hl, hcl⟩ := List.mem_flatten.1 hc
      rw [(List.mem_replicate.1 hl).2] at hcl
      exact hzo c hcl) (fun p hp c hc => by
    obtain ⟨j, hj, rfl⟩ := List.mem_iff_getElem.1 hp
    have e2 := h4 j (by omega) hj
    split at e2
    case isFalse => cases e2
    rename_i hcl
    simp only [Option.some.injEq] at e2
    rw [← e2] at hc
    have := hcl.2
    simp only [List.all_eq_true] at this
    exact this c hc)
  have hlaylen : (lay (List.replicate n z).flatten qs).length = n * size := by
    rw [hvr.1]; simp [hcs, size_madeCells]
  obtain ⟨c1, c2, c3⟩ := chunks_ok n size _ hlaylen
  generalize hL : lay (List.replicate n z).flatten qs = L at *
  have hrun : (execOp a.eval o).run P w = .ok (.value (.slice (some ⟨w.heap.size, 0, none⟩) n n)) (w.alloc (.cells cs' e)) := by
    have hparts : (parts.map fun (i, x) => (i, a.eval x)).toList = parts.toList.map fun p => (p.1, a.eval p.2) := by simp
    have hn : ¬ (n * size > 2 ^ 24) := by omega
    by_cases h0 : n * size = 0
    · have hm0 : madeCells zv.cells (n * size) = (Array.range (n * size)).map ((#[] : Array Value)[· % (#[] : Array Value).size]!) := by simp [h0, madeCells, Array.range_zero']
      rw [hm0] at hfl
      simp only [execOp, ho, Instr.buildSlice, Sem.run_bind, run_underlying ht, Result.andThen_ok, run_sizeOf? hsz, Sem.run_ite, hn, if_false, h0, if_true, Sem.run_pure, hparts]
      rw [h0] at hfl
      simp only [hfl, newRow, Sem.run_bind, run_newObj, Result.andThen_ok, Sem.run_pure]
      rfl
    · have hm0 : madeCells zv.cells (n * size) = (Array.range (n * size)).map (zv.cells[· % zv.cells.size]!) := rfl
      rw [hm0] at hfl
      simp only [execOp, ho, Instr.buildSlice, Sem.run_bind, run_underlying ht, Result.andThen_ok, run_sizeOf? hsz, Sem.run_ite, hn, if_false, h0, zeroValue, typeInfo, run_program, hi, hzv, Sem.run_pure, hparts, hfl, newRow, run_newObj]
      rfl
  have hown : (w.alloc (.cells cs' e)).ownsRow w.heap.size e size (.slice (some ⟨w.heap.size, 0, none⟩) n n) n cs'.toList := by
    have hsz' : cs'.size = n * size := by rw [hcs, size_madeCells]
    refine ⟨by simpa using hsz', .inr ⟨w.heap.size, n, _, rfl, Nat.le_refl _, heap_alloc_new w _, Nat.le_refl _, ?_, hsz', List.take_of_length_le (by simp [hsz'])⟩⟩
    simp only [maxLen]; have := Nat.le_mul_of_pos_right n hpos; omega
  obtain ⟨κ', Im', q1, q2, q3⟩ := new_row (e := e) (size := size) (n := n) (m := chunks n size L) (im := false) hs c1.symm hpos c2 (fun c hcc x hx => hones x (by rw [← c3]; exact List.mem_flatten.2 ⟨c, hcc, hx⟩)) hown
    (fun k hk => Below.heap_alloc w _ k hk) (by simp) rfl rfl rfl (by rw [c3]; exact hvr) (fun h => by simp at h)
  exact ⟨_, _, κ', Im', _, _, .inl hrun, hK, q1, q2, q3⟩

end
end Go.Abs
end

section
/- Abstract machine, part 14b: further operations: nil, bits, maps, texts and bytes. -/
set_option linter.unusedSimpArgs false
set_option linter.unusedVariables false
set_option linter.constructorNameAsVariable false
namespace Go.Abs
open Go.RowKit
variable {G : Globs}
section
variable {P : Program} {base : Nat} {κ : Key} {Im : Addr → Prop} {w : World} {σ : Store}

theorem run_eqIn {t : TypeId} {x y : Value} {b : Bool} (h : ∀ d, (Op.equalIn (d + 1) t x y).run P w = .ok b w) : (Op.equal t x y).run P w = .ok b w := h 9999

theorem nil_0 {ms : Array (String × TypeId)} {t : TypeId} {x : Operand} {X : AV} {v : Value} {b : Bool} (hu : P.underlying t = some (.interface ms)) (hv : VR κ Im w X v) (hb : nilOf 0 X = some b) :
    (∀ op, (eqGuard op t x (.const (.nilIface)) v (.nilIface)).run P w = .ok () w) ∧ (binOp .eql t v (.nilIface)).run P w = .ok (.bool b) w ∧ (binOp .neq t v (.nilIface)).run P w = .ok (.bool !b) w := by
  unfold nilOf at hb
  split at hb <;> first | (cases hb; done) | skip
  all_goals try (exfalso; omega)
  · simp only [Option.some.injEq] at hb; subst hb
    obtain rfl : v = .nilIface := by cases hv with | im _ _ hv => cases hv; rfl
    have he := run_eqIn (P := P) (w := w) (t := t) (x := .nilIface) (y := .nilIface) (b := true) (fun d => by simp [Op.equalIn, run_underlying hu])
    exact ⟨fun op => by unfold eqGuard; cases op <;> simp, by simp [binOp, he], by simp [binOp, he]⟩
  · simp only [Option.some.injEq] at hb; subst hb
    obtain ⟨u, x', rfl⟩ : ∃ u x', v = .iface u x' := by
      cases hv with
      | im _ _ hv => cases hv; exact ⟨_, _, rfl⟩
      | iface => exact ⟨_, _, rfl⟩
    have he := run_eqIn (P := P) (w := w) (t := t) (x := .iface u x') (y := .nilIface) (b := false) (fun d => by simp [Op.equalIn, run_underlying hu])
    exact ⟨fun op => by unfold eqGuard; cases op <;> simp, by simp [binOp, he], by simp [binOp, he]⟩
theorem nil_1 {ps rs : Array TypeId} {vd : Bool} {t : TypeId} {x : Operand} {X : AV} {v : Value} {b : Bool} (hu : P.underlying t = some (.func ps rs vd)) (hv : VR κ Im w X v) (hb : nilOf 1 X = some b) :
    (∀ op, (eqGuard op t x (.const (.nilFunc)) v (.nilFunc)).run P w = .ok () w) ∧ (binOp .eql t v (.nilFunc)).run P w = .ok (.bool b) w ∧ (binOp .neq t v (.nilFunc)).run P w = .ok (.bool !b) w := by
  unfold nilOf at hb
  split at hb <;> first | (cases hb; done) | skip
  all_goals try (exfalso; omega)
  · simp only [Option.some.injEq] at hb; subst hb
    obtain rfl : v = .nilFunc := by cases hv with | im _ _ hv => cases hv; rfl
    have he := run_eqIn (P := P) (w := w) (t := t) (x := .nilFunc) (y := .nilFunc) (b := true) (fun d => by simp [Op.equalIn, run_underlying hu])
    exact ⟨fun op => by unfold eqGuard; cases op <;> simp, by simp [binOp, he], by simp [binOp, he]⟩
  · simp only [Option.some.injEq] at hb; subst hb
    obtain ⟨f1, a1, b1, rfl⟩ : ∃ f1 a1 b1, v = .func f1 a1 b1 := by obtain ⟨vs, us, rfl, _⟩ := hv.fn_inv; exact ⟨_, _, _, rfl⟩
    have he := run_eqIn (P := P) (w := w) (t := t) (x := .func f1 a1 b1) (y := .nilFunc) (b := false) (fun d => by simp [Op.equalIn, run_underlying hu])
    exact ⟨fun op => by unfold eqGuard; cases op <;> simp, by simp [binOp, he], by simp [binOp, he]⟩
theorem nil_2 {e : TypeId} {t : TypeId} {x : Operand} {X : AV} {v : Value} {b : Bool} (hu : P.underlying t = some (.pointer e)) (hv : VR κ Im w X v) (hb : nilOf 2 X = some b) :
    (∀ op, (eqGuard op t x (.const (.pointer none)) v (.pointer none)).run P w = .ok () w) ∧ (binOp .eql t v (.pointer none)).run P w = .ok (.bool b) w ∧ (binOp .neq t v (.pointer none)).run P w = .ok (.bool !b) w := by
  unfold nilOf at hb
  split at hb <;> first | (cases hb; done) | skip
  all_goals try (exfalso; omega)
  · simp only [Option.some.injEq] at hb; subst hb
    obtain rfl : v = .pointer none := by cases hv with | im _ _ hv => cases hv; rfl
    have he := run_eqIn (P := P) (w := w) (t := t) (x := .pointer none) (y := .pointer none) (b := true) (fun d => by simp [Op.equalIn, run_underlying hu])
    exact ⟨fun op => by unfold eqGuard; cases op <;> simp, by simp [binOp, he], by simp [binOp, he]⟩
  · simp only [Option.some.injEq] at hb; subst hb
    obtain ⟨ad, rfl⟩ : ∃ ad, v = .pointer (some ad) := by obtain ⟨b, rfl, _⟩ := hv.ptr_inv; exact ⟨_, rfl⟩
    have he := run_eqIn (P := P) (w := w) (t := t) (x := .pointer (some ad)) (y := .pointer none) (b := false) (fun d => by simp [Op.equalIn, run_underlying hu])
    exact ⟨fun op => by unfold eqGuard; cases op <;> simp, by simp [binOp, he], by simp [binOp, he]⟩
  · simp only [Option.some.injEq] at hb; subst hb
    obtain ⟨ad, rfl⟩ : ∃ ad, v = .pointer (some ad) := by obtain ⟨b, o, vals, rfl, _⟩ := hv.rptr_inv; exact ⟨_, rfl⟩
    have he := run_eqIn (P := P) (w := w) (t := t) (x := .pointer (some ad)) (y := .pointer none) (b := false) (fun d => by simp [Op.equalIn, run_underlying hu])
    exact ⟨fun op => by unfold eqGuard; cases op <;> simp, by simp [binOp, he], by simp [binOp, he]⟩
  · simp only [Option.some.injEq] at hb; subst hb
    obtain ⟨ad, rfl⟩ : ∃ ad, v = .pointer (some ad) := by obtain ⟨b, cap, rfl, _⟩ := hv.rowp_inv; exact ⟨_, rfl⟩
    have he := run_eqIn (P := P) (w := w) (t := t) (x := .pointer (some ad)) (y := .pointer none) (b := false) (fun d => by simp [Op.equalIn, run_underlying hu])
    exact ⟨fun op => by unfold eqGuard; cases op <;> simp, by simp [binOp, he], by simp [binOp, he]⟩
  · simp only [Option.some.injEq] at hb; subst hb
    obtain ⟨ad, rfl⟩ : ∃ ad, v = .pointer (some ad) := by have := hv.gp_inv; subst this; exact ⟨_, rfl⟩
    have he := run_eqIn (P := P) (w := w) (t := t) (x := .pointer (some ad)) (y := .pointer none) (b := false) (fun d => by simp [Op.equalIn, run_underlying hu])
    exact ⟨fun op => by unfold eqGuard; cases op <;> simp, by simp [binOp, he], by simp [binOp, he]⟩
theorem nil_3 {e : TypeId} {t : TypeId} {x : Operand} {X : AV} {v : Value} {b : Bool} (hu : P.underlying t = some (.slice e)) (hv : VR κ Im w X v) (hb : nilOf 3 X = some b) :
    (∀ op, (eqGuard op t x (.const (.slice none 0 0)) v (.slice none 0 0)).run P w = .ok () w) ∧ (binOp .eql t v (.slice none 0 0)).run P w = .ok (.bool b) w ∧ (binOp .neq t v (.slice none 0 0)).run P w = .ok (.bool !b) w := by
  unfold nilOf at hb
  split at hb <;> first | (cases hb; done) | skip
  all_goals try (exfalso; omega)
  · simp only [Option.some.injEq] at hb; subst hb
    cases hv.nils_inv
    have he := run_eqIn (P := P) (w := w) (t := t) (x := .slice none 0 0) (y := .slice none 0 0) (b := true) (fun d => by simp [Op.equalIn, run_underlying hu])
    exact ⟨fun op => by unfold eqGuard; cases op <;> simp, by simp [binOp, he], by simp [binOp, he]⟩
  · simp only [Option.some.injEq] at hb; subst hb
    obtain ⟨ad, n1, c1, rfl⟩ : ∃ ad n1 c1, v = .slice (some ad) n1 c1 := by
      rcases hv.lst_inv with ⟨_, h0⟩ | ⟨size, b, o, cap, vals, rfl, _⟩
      · cases h0
      · exact ⟨_, _, _, rfl⟩
    have he := run_eqIn (P := P) (w := w) (t := t) (x := .slice (some ad) n1 c1) (y := .slice none 0 0) (b := false) (fun d => by simp [Op.equalIn, run_underlying hu])
    exact ⟨fun op => by unfold eqGuard; cases op <;> simp, by simp [binOp, he], by simp [binOp, he]⟩
theorem nil_4 {k e : TypeId} {t : TypeId} {x : Operand} {X : AV} {v : Value} {b : Bool} (hu : P.underlying t = some (.map k e)) (hv : VR κ Im w X v) (hb : nilOf 4 X = some b) :
    (∀ op, (eqGuard op t x (.const (.map none)) v (.map none)).run P w = .ok () w) ∧ (binOp .eql t v (.map none)).run P w = .ok (.bool b) w ∧ (binOp .neq t v (.map none)).run P w = .ok (.bool !b) w := by
  unfold nilOf at hb
  split at hb <;> first | (cases hb; done) | skip
  all_goals try (exfalso; omega)
  · simp only [Option.some.injEq] at hb; subst hb
    cases hv.nilm_inv
    have he := run_eqIn (P := P) (w := w) (t := t) (x := .map none) (y := .map none) (b := true) (fun d => by simp [Op.equalIn, run_underlying hu])
    exact ⟨fun op => by unfold eqGuard; cases op <;> simp, by simp [binOp, he], by simp [binOp, he]⟩
  · simp only [Option.some.injEq] at hb; subst hb
    obtain ⟨b, rfl, _⟩ := hv.map_inv
    have he := run_eqIn (P := P) (w := w) (t := t) (x := .map (some b)) (y := .map none) (b := false) (fun d => by simp [Op.equalIn, run_underlying hu])
    exact ⟨fun op => by unfold eqGuard; cases op <;> simp, by simp [binOp, he], by simp [binOp, he]⟩

/-- A comparison with nil. -/
theorem isnil_ok {op : BinOp} {t : TypeId} {x y z : Operand} {k : Nat} {n b : Bool} {X : AV} {a : Act} (hn : nilSide P op t x y = some (k, n, z)) (hx : VR κ Im w X (a.eval z)) (h : nilOf k X = some b) :
    (do eqGuard op t x y (a.eval x) (a.eval y); binOp op t (a.eval x) (a.eval y) : Sem Value).run P w = .ok (.bool (if n then !b else b)) w := by
  unfold nilSide at hn
  have key : ∀ (nv : Value), y = .const nv → z = x → n = (op == .neq) → (op = .eql ∨ op = .neq) → ((∀ op, (eqGuard op t x (.const nv) (a.eval z) nv).run P w = .ok () w) ∧ (binOp .eql t (a.eval z) nv).run P w = .ok (.bool b) w ∧ (binOp .neq t (a.eval z) nv).run P w = .ok (.bool !b) w) →
      (do eqGuard op t x y (a.eval x) (a.eval y); binOp op t (a.eval x) (a.eval y) : Sem Value).run P w = .ok (.bool (if n then !b else b)) w := by
    rintro nv rfl rfl rfl hop ⟨h1, h2, h3⟩
    have e : a.eval (.const nv) = nv := rfl
    rw [e, Sem.run_bind, h1, Result.andThen_ok]
    rcases hop with rfl | rfl
    · exact h2
    · exact h3
  split at hn
  case h_3 => cases hn
  all_goals
    split at hn
    case h_6 => cases hn
    all_goals
      rename_i hu
      simp only [Option.some.injEq, Prod.mk.injEq] at hn
      obtain ⟨rfl, rfl, rfl⟩ := hn
    · exact key _ rfl rfl rfl (by simp) (nil_0 hu hx h)
    · exact key _ rfl rfl rfl (by simp) (nil_1 hu hx h)
    · exact key _ rfl rfl rfl (by simp) (nil_2 hu hx h)
    · exact key _ rfl rfl rfl (by simp) (nil_3 hu hx h)
    · exact key _ rfl rfl rfl (by simp) (nil_4 hu hx h)

/-- A slice and nil, told by the value. -/
theorem isnil3_ok {op : BinOp} {t : TypeId} {x y z : Operand} {n b : Bool} {a : Act} (hn : nilSide P op t x y = some (3, n, z)) (hv : (a.eval z = .slice none 0 0 ∧ b = true) ∨ ((∃ ad m c, a.eval z = .slice (some ad) m c) ∧ b = false)) :
    (do eqGuard op t x y (a.eval x) (a.eval y); binOp op t (a.eval x) (a.eval y) : Sem Value).run P w = .ok (.bool (if n then !b else b)) w := by
  unfold nilSide at hn
  split at hn
  case h_3 => cases hn
  all_goals
    split at hn
    case h_6 => cases hn
    all_goals
      rename_i hu
      simp only [Option.some.injEq, Prod.mk.injEq] at hn
      obtain ⟨h3, rfl, rfl⟩ := hn
      first | (exact absurd h3 (by decide)) | skip
    · have e : a.eval (.const (.slice none 0 0)) = .slice none 0 0 := rfl
      rw [e, Sem.run_bind]
      rcases hv with ⟨hv, rfl⟩ | ⟨⟨ad, m, c, hv⟩, rfl⟩
      · rw [hv]
        have he := run_eqIn (P := P) (w := w) (t := t) (x := .slice none 0 0) (y := .slice none 0 0) (b := true) (fun d => by simp [Op.equalIn, run_underlying hu])
        simp [eqGuard, binOp, he]
      · rw [hv]
        have he := run_eqIn (P := P) (w := w) (t := t) (x := .slice (some ad) m c) (y := .slice none 0 0) (b := false) (fun d => by simp [Op.equalIn, run_underlying hu])
        simp [eqGuard, binOp, he]
theorem nlc_val {X : AV} {v : Value} {K : AV → Store → Prop} {neg : Bool} (h : match X with
    | .lst [] => ∀ b : Bool, K (.bool b) σ
    | v => ∃ b, nilOf 3 v = some b ∧ K (.bool (if neg then !b else b)) σ) (hx : VR κ Im w X v) : ∃ b : Bool, ((v = .slice none 0 0 ∧ b = true) ∨ ((∃ ad m c, v = .slice (some ad) m c) ∧ b = false)) ∧ K (.bool (if neg then !b else b)) σ := by
  split at h
  · rcases hx.lst_inv with ⟨⟨g, rfl⟩, _⟩ | ⟨size, b, o, cap, vals, rfl, _⟩
    · cases g with
      | none => exact ⟨true, .inl ⟨rfl, rfl⟩, h _⟩
      | some ad => exact ⟨false, .inr ⟨⟨ad, 0, 0, rfl⟩, rfl⟩, h _⟩
    · exact ⟨false, .inr ⟨⟨_, _, _, rfl⟩, rfl⟩, h _⟩
  · obtain ⟨b, hb, hK⟩ := h
    refine ⟨b, ?_, hK⟩
    unfold nilOf at hb
    split at hb <;> first | (cases hb; done) | skip
    all_goals try (exfalso; omega)
    · simp only [Option.some.injEq] at hb; subst hb
      exact .inl ⟨hx.nils_inv, rfl⟩
    · simp only [Option.some.injEq] at hb; subst hb
      rcases hx.lst_inv with ⟨_, h0⟩ | ⟨size, b, o, cap, vals, rfl, _⟩
      · cases h0
      · exact .inr ⟨⟨_, _, _, rfl⟩, rfl⟩
theorem bitStep_ok {op : BinOp} {X Y r : AV} {x y : Value} {t : TypeId} {xo yo : Operand} (hx : VR κ Im w X x) (hy : VR κ Im w Y y) (h : bitStep op X Y = some r) :
    ∃ v, (do eqGuard op t xo yo x y; binOp op t x y : Sem Value).run P w = .ok v w ∧ VR κ Im w r v := by
  unfold bitStep at h
  split at h
  case h_2 => cases h
  rename_i k a k' b
  cases hx.int_inv; cases hy.int_inv
  have hg : (eqGuard op t xo yo (.int k a) (.int k' b)).run P w = .ok () w := by
    unfold eqGuard; cases op <;> simp <;> rfl
  simp only [Sem.run_bind, hg, Result.andThen_ok]
  split at h
  · rename_i hop
    split at h
    case isFalse => cases h
    rename_i hb
    have hb' : ¬ b < 0 := by omega
    simp only [Option.map_eq_some_iff] at h
    obtain ⟨z, hz, rfl⟩ := h
    rcases hop with rfl | rfl
    · simp only [shiftOp, Option.some.injEq] at hz; subst hz
      exact ⟨_, by simp [binOp, Op.shift, hb'], .im _ _ (.int _ _)⟩
    · simp only [shiftOp, Option.some.injEq] at hz; subst hz
      exact ⟨_, by simp [binOp, Op.shift, hb'], .im _ _ (.int _ _)⟩
  · rename_i hop
    split at h
    case isFalse => cases h
    rename_i hk; subst hk
    simp only [Option.map_eq_some_iff] at h
    obtain ⟨z, hz, rfl⟩ := h
    cases op <;> simp only [bitOp, Option.some.injEq, reduceCtorEq] at hz
    all_goals (subst hz; exact ⟨_, by simp [binOp, Op.intBits], .im _ _ (.int _ _)⟩)

theorem invStep_ok {X r : AV} {x : Value} (hx : VR κ Im w X x) (h : invStep X = some r) : ∃ v, (Op.unary .xor x).run P w = .ok v w ∧ VR κ Im w r v := by
  unfold invStep at h
  split at h
  case h_2 => cases h
  rename_i k a
  cases hx.int_inv
  simp only [Option.map_eq_some_iff, bitOp, Option.some.injEq] at h
  obtain ⟨z, rfl, rfl⟩ := h
  exact ⟨_, by simp [Op.unary, Op.intBits], .im _ _ (.int _ _)⟩

/-- A key and another one. -/
theorem cryStep_ok {X Y Z r : AV} {x y z : Value} (hx : VR κ Im w X x) (hy : VR κ Im w Y y) (hz : VR κ Im w Z z) (h : cryStep X Y Z = some r) : ∃ v, (add64Entry #[x, y, z]).run P w = .ok v w ∧ VR κ Im w r v := by
  unfold cryStep at h
  split at h
  case h_2 => cases h
  split at h
  case isFalse => cases h
  rename_i hc
  simp only [Option.some.injEq] at h
  subst h
  cases hx.int_inv; cases hy.int_inv; cases hz.int_inv
  refine ⟨_, run_add64 _ _ _ hc.1 hc.2.1 hc.2.2.1 hc.2.2.2 w, .im _ _ (.tup _ [_, _] rfl fun j hj hj' => ?_)⟩
  match j, hj with
  | 0, _ => exact .int _ _
  | 1, _ => exact .int _ _
theorem extern_add64 {fn : Func} (h1 : fn.name = "math/bits.Add64") (h2 : fn.origin = "") : Extern.findNext fn = none ∧ Extern.find fn = some add64Entry := by
  obtain ⟨n, o⟩ := fn
  simp only at h1 h2
  subst h1 h2
  exact ⟨rfl, rfl⟩
theorem sameNow_ok {kind : Nat} {d : TypeDesc} {X Y : AV} {x y : Value} {b : Bool} {t : TypeId} (hk : keyKind P t = some kind) (hd : P.underlying t = some d) (hx : VR κ Im w X x) (hy : VR κ Im w Y y) (h : eq1 kind X Y = some b) : Instr.sameNow d x y = some b ∧ (b = true → x = y) := by
  unfold keyKind at hk
  rw [hd] at hk
  unfold eq1 at h
  split at h
  · rename_i k p k' q
    split at h
    case isFalse => cases h
    rename_i hkk; subst hkk
    simp only [Option.some.injEq] at h; subst h
    cases hx.int_inv; cases hy.int_inv
    have e : (p == q) = decide (p = q) := rfl
    split at hk <;> simp_all [Instr.sameNow]
  · rename_i p q
    simp only [Option.some.injEq] at h; subst h
    cases hx.str_inv; cases hy.str_inv
    have e : (ByteArray.mk p.toArray == ByteArray.mk q.toArray) = decide (p = q) := by
      rw [Bool.eq_iff_iff, MapKept.bytes_beq]; simp
    split at hk <;> simp_all [Instr.sameNow]
  · rename_i p q
    simp only [Option.some.injEq] at h; subst h
    cases hx.bool_inv; cases hy.bool_inv
    split at hk <;> simp_all [Instr.sameNow]
  · cases h

theorem checkKey_ok {kind : Nat} {t : TypeId} (hk : keyKind P t = some kind) (e : Bool) (n : Nat) (v : Value) : (Instr.checkKey e (n + 1) t v).run P w = .ok () w := by
  unfold keyKind at hk
  unfold Instr.checkKey
  split at hk <;> rename_i hu <;> first | (cases hk; done) | (simp only [Sem.run_bind, run_underlying hu, Result.andThen_ok]; cases v <;> rfl)

def MEnt (κ : Key) (Im : Addr → Prop) (w : World) (kv : List (AV × AV)) (es : List MapEntry) : Prop := es.length = kv.length ∧ ∀ j (h : j < kv.length) (h' : j < es.length), IR Im w (kv[j]).1 (es[j]).key ∧ VR κ Im w (kv[j]).2 (es[j]).val

theorem mapFind_ok {kind : Nat} {t : TypeId} {d : TypeDesc} {X : AV} {x : Value} (hk : keyKind P t = some kind) (hd : P.underlying t = some d) (hx : VR κ Im w X x) : ∀ {kv : List (AV × AV)} {es : List MapEntry} {i : Nat} {r : Option (Nat × AV)}, MEnt κ Im w kv es → mapFind kind X kv i = some r →
    (match r with
     | none => Instr.findNow d x es i = some none
     | some (j, a) => ∃ v, Instr.findNow d x es i = some (some (j, v)) ∧ VR κ Im w a v ∧ i ≤ j ∧ j < i + es.length ∧ ∃ h : j - i < es.length, (es[j - i]).key = x)
  | [], es, i, r, hm, h => by
    obtain rfl : es = [] := List.eq_nil_of_length_eq_zero (by simpa using hm.1)
    simp only [mapFind, Option.some.injEq] at h; subst h
    rfl
  | (k', v') :: kv, [], i, r, hm, h => by simp [MEnt] at hm
  | (k', v') :: kv, e :: es, i, r, hm, h => by
    have h0 := hm.2 0 (by simp) (by simp)
    simp only [List.getElem_cons_zero] at h0
    have htl : MEnt κ Im w kv es := ⟨by simpa using hm.1, fun j hj hj' => hm.2 (j + 1) (by simpa using hj) (by simpa using hj')⟩
    simp only [mapFind] at h
    split at h
    · rename_i he
      obtain ⟨h1, h2⟩ := sameNow_ok hk hd hx (.im _ _ h0.1) he
      simp only [Option.some.injEq] at h; subst h
      exact ⟨_, by simp [Instr.findNow, h1], h0.2, Nat.le_refl _, by simp, by simp, by simpa using (h2 rfl).symm⟩
    · rename_i he
      obtain ⟨h1, _⟩ := sameNow_ok hk hd hx (.im _ _ h0.1) he
      have ih := mapFind_ok hk hd hx htl h
      split at ih
      · simp [Instr.findNow, h1, ih]
      · obtain ⟨v, g1, g2, g3, g4, g5, g6⟩ := ih
        refine ⟨v, by simp [Instr.findNow, h1, g1], g2, by omega, by simp; omega, by simp; omega, ?_⟩
        rename_i j a
        have e1 : j - i = (j - (i + 1)) + 1 := by omega
        simp only [e1, List.getElem_cons_succ]
        exact g6
    · cases h

/-- What a map holds. -/
theorem mapView_ok {X : AV} {x : Value} {kv : List (AV × AV)} (hs : SRel base κ Im σ w) (hx : VR κ Im w X x) (h : mapView σ X = some kv) :
    (x = .map none ∧ kv = []) ∨ ∃ b es clock, x = .map (some b) ∧ w.heap[b]? = some (.map es clock) ∧ MEnt κ Im w kv es.toList := by
  unfold mapView at h
  split at h
  · simp only [Option.some.injEq] at h; subst h
    exact .inl ⟨hx.nilm_inv, rfl⟩
  · rename_i id
    split at h
    case h_2 => cases h
    rename_i kv' he
    simp only [Option.some.injEq] at h; subst h
    obtain ⟨b, rfl, hk⟩ := hx.map_inv
    obtain ⟨b', es, clock, hk', _, hheap, hsz, hv, _⟩ := hs.ent _ _ he
    rw [hk] at hk'; cases hk'
    exact .inr ⟨b, es, clock, rfl, hheap, by simpa using hsz, fun j hj hj' => hv j hj (by simpa using hj')⟩
  · cases h

theorem run_lookup_ok {kind : Nat} {t kt e : TypeId} {i : TypeInfo} {zv : Value} {ZV X K r : AV} {x k : Value} {ok : Bool} {kv : List (AV × AV)} (ht : P.underlying t = some (.map kt e)) (hk : keyKind P kt = some kind) (hi : P.info? e = some i) (hz : i.zero = some zv) (hZ : constAV zv = some ZV)
    (hs : SRel base κ Im σ w) (hx : VR κ Im w X x) (hkk : VR κ Im w K k) (hm : mapView σ X = some kv) (h : lookStep kind ZV ok K kv = some r) : ∃ v, (Instr.lookup t x k ok).run P w = .ok v w ∧ VR κ Im w r v := by
  obtain ⟨d, hd⟩ : ∃ d, P.underlying kt = some d := by
    unfold keyKind at hk; split at hk <;> first | (cases hk; done) | exact ⟨_, by assumption⟩
  have hzero : (zeroValue e).run P w = .ok zv w := by simp [zeroValue, typeInfo, hi, hz]
  have hZV : VR κ Im w ZV zv := .im _ _ (IR.constAV hZ)
  have hpair : ∀ (a : AV) (v : Value) (b : Bool), VR κ Im w a v → VR κ Im w (if ok then .tup [a, .bool b] else a) (if ok then .tuple #[v, .bool b] else v) := by
    intro a v b ha
    cases ok
    · exact ha
    · have hl : VRL κ Im w [a, .bool b] [v, .bool b] := VRL.cons ha (VRL.cons (.im _ _ (.bool b)) VRL.nil)
      exact .tup _ _ hl.1 hl.2
  obtain ⟨es, hes, hrun⟩ : ∃ es : List MapEntry, MEnt κ Im w kv es ∧ ∀ (r : Option (Nat × Value)) (v : Value), Instr.findNow d k es 0 = some r → (match r with | some (_, u) => v = (if ok then .tuple #[u, .bool true] else u) | none => v = (if ok then .tuple #[zv, .bool false] else zv)) → (Instr.lookup t x k ok).run P w = .ok v w := by
    rcases mapView_ok hs hx hm with ⟨rfl, rfl⟩ | ⟨b, es, clock, rfl, hb, hme⟩
    · refine ⟨[], ⟨rfl, fun j h => by simp at h⟩, fun r v hf hv => ?_⟩
      simp only [Instr.lookup, Sem.run_bind, run_underlying ht, Result.andThen_ok, Sem.run_pure, checkKey_ok hk, Instr.findKey, run_underlying hd, hf]
      rcases r with _ | ⟨j, u⟩
      · simp only at hv; subst hv; simp [hzero]
      · simp only at hv; subst hv; simp
    · refine ⟨es.toList, hme, fun r v hf hv => ?_⟩
      simp only [Instr.lookup, Sem.run_bind, run_underlying ht, Result.andThen_ok, Sem.run_pure, MapKept.run_getObj_map hb, checkKey_ok hk, Instr.findKey, run_underlying hd, hf]
      rcases r with _ | ⟨j, u⟩
      · simp only at hv; subst hv; simp [hzero]
      · simp only at hv; subst hv; simp
  unfold lookStep at h
  simp only [Option.bind_eq_some_iff] at h
  obtain ⟨q, hq, h⟩ := h
  have hf := mapFind_ok hk hd hkk hes hq
  rcases q with _ | ⟨j, a⟩
  · simp only [Option.some.injEq] at h; subst h
    exact ⟨_, hrun _ _ hf rfl, hpair _ _ _ hZV⟩
  · simp only [Option.some.injEq] at h; subst h
    obtain ⟨v, h1, h2, _⟩ := hf
    exact ⟨_, hrun _ _ h1 rfl, hpair _ _ _ h2⟩
end
end Go.Abs
end

section
/- Abstract machine, part 14c: further operations do what the abstract ones say. -/
set_option linter.unusedSimpArgs false
set_option linter.unusedVariables false
set_option linter.constructorNameAsVariable false
namespace Go.Abs
open Go.RowKit
variable {G : Globs}
section
variable {P : Program} {base : Nat} {κ : Key} {Im : Addr → Prop} {w : World} {σ : Store}

theorem bytesOf_ok : ∀ {l : List (List AV)} {s : List UInt8} {vs : List Value}, bytesOf l = some s → VRL κ Im w l.flatten vs → ∃ ns : List Int, vs = ns.map (Value.int .u8) ∧ ∀ r : ByteArray, ns.foldl (fun r n => r.push (UInt8.ofNat n.toNat)) r = ⟨(r.data.toList ++ s).toArray⟩
  | [], s, vs, h, hv => by
    simp only [bytesOf, Option.some.injEq] at h; subst h
    obtain rfl : vs = [] := List.eq_nil_of_length_eq_zero (by simpa using hv.1.symm)
    exact ⟨[], rfl, fun r => by cases r; simp⟩
  | c :: l, s, vs, h, hv => by
    unfold bytesOf at h
    split at h
    · rename_i heq; cases heq
    · rename_i n l' heq
      simp only [List.cons.injEq] at heq
      obtain ⟨rfl, rfl⟩ := heq
      simp only [Option.map_eq_some_iff] at h
      obtain ⟨s', hs', rfl⟩ := h
      match vs, hv with
      | [], hv => simp [VRL] at hv
      | v :: vs, hv =>
        have h0 := hv.2 0 (by simp) (by simp)
        simp only [List.flatten_cons, List.cons_append, List.nil_append, List.getElem_cons_zero] at h0
        cases h0.int_inv
        obtain ⟨ns, rfl, h2⟩ := bytesOf_ok hs' (vs := vs) ⟨by simpa using hv.1, fun j hj hj' => by
          have := hv.2 (j + 1) (by simpa using hj) (by simpa using hj')
          simpa using this⟩
        refine ⟨n :: ns, rfl, fun r => ?_⟩
        simp only [List.foldl_cons, h2]
        cases r; simp
    · cases h

theorem chunks_length (size : Nat) : ∀ (n : Nat) (l : List AV), (chunks n size l).length = n
  | 0, l => rfl
  | n + 1, l => by simp [chunks, chunks_length size n]
theorem chunks_get (size : Nat) : ∀ (n : Nat) (l : List AV) (k : Nat) (h : k < (chunks n size l).length), (chunks n size l)[k] = (l.drop (k * size)).take size
  | 0, l, k, h => by simp [chunks] at h
  | n + 1, l, 0, h => by simp [chunks]
  | n + 1, l, k + 1, h => by
    simp only [chunks, List.getElem_cons_succ]
    rw [chunks_get size n (l.drop size) k (by simpa [chunks] using h), List.drop_drop, Nat.add_mul, Nat.one_mul, Nat.add_comm]

/-- A slice of an array whose cells never change. -/
theorem aslc_lst {cells : List AV} {b o len size ll hh c : Nat} {vals : Nat → Value} (hpos : 0 < size) (hone : ∀ c ∈ cells, c.one = true) (hc : ∀ j, j < cells.length → Im ⟨b, o + j, none⟩ ∧ w.cell? ⟨b, o + j, none⟩ = some (vals j)) (hv : ∀ j (h : j < cells.length), IR Im w (cells[j]) (vals j))
    (hle : len * size ≤ cells.length) (h1 : ll ≤ hh) (h2 : hh ≤ len) (hcap : hh - ll ≤ c) (hmax : c ≤ maxLen) (ad : Addr) (had : ll < hh → ad = ⟨b, o + ll * size, none⟩) (hsp : ad.spot = none) :
    IR Im w (.lst (((chunks len size (cells.take (len * size))).take hh).drop ll)) (.slice (some ad) (hh - ll) c) := by
  have hl : (((chunks len size (cells.take (len * size))).take hh).drop ll).length = hh - ll := by simp [chunks_length]; omega
  have hcl : (cells.take (len * size)).length = len * size := by simp; omega
  obtain ⟨c1, c2, c3⟩ := chunks_ok len size _ hcl
  by_cases hlt : ll < hh
  · have hm1 := Nat.mul_le_mul_right size h2
    rw [had hlt, ← hl]
    refine .lst _ size b (o + ll * size) c (fun k j => vals ((ll + k) * size + j)) (by omega) hmax (fun c hc => c2 c (List.mem_of_mem_take (List.mem_of_mem_drop hc))) (fun c hc x hx => ?_) (fun k j hk hj => ?_) (fun k j hk hj => ?_)
    · refine hone x (List.mem_of_mem_take (?_ : x ∈ cells.take (len * size)))
      rw [← c3]; exact List.mem_flatten.2 ⟨c, List.mem_of_mem_take (List.mem_of_mem_drop hc), hx⟩
    · have hmul : (ll + k + 1) * size ≤ len * size := Nat.mul_le_mul_right _ (by omega)
      rw [Nat.add_mul, Nat.one_mul] at hmul
      have := hc ((ll + k) * size + j) (by omega)
      rw [Nat.add_mul] at this
      rw [show o + ll * size + (k * size + j) = o + (ll * size + k * size + j) by omega, Nat.add_mul]
      exact this
    · have hmul : (ll + k + 1) * size ≤ len * size := Nat.mul_le_mul_right _ (by omega)
      rw [Nat.add_mul, Nat.one_mul] at hmul
      have hjs : j < size := by
        have := c2 _ (List.mem_of_mem_take (List.mem_of_mem_drop (List.getElem_mem hk)))
        omega
      have := hv ((ll + k) * size + j) (by omega)
      have e : (((chunks len size (cells.take (len * size))).take hh).drop ll)[k][j] = cells[(ll + k) * size + j]'(by omega) := by
        simp only [List.getElem_drop, List.getElem_take, chunks_get]
      rw [e]; exact this
  · have he : ((chunks len size (cells.take (len * size))).take hh).drop ll = [] := List.eq_nil_of_length_eq_zero (by omega)
    have had : ad = ⟨ad.block, ad.off, none⟩ := by cases ad; simp only at hsp; subst hsp; rfl
    rw [he, had, show hh - ll = 0 by omega]
    exact IR.lst (Im := Im) (w := w) [] 0 ad.block ad.off c (fun _ _ => undef) (by simp) hmax (by simp) (by simp) (fun k j hk => by simp at hk) (fun k j hk => by simp at hk)

theorem xstep_ok {o : Oper} {ao : AOp} {f : Frame} {a : Act} {r : AV} (hc : compX P o = some ao) (hs : SRel base κ Im σ w) (hf : FRel κ Im w f a) (h : pstep σ f ao = some r) : PureOK P κ Im w o a r := by
  unfold compX at hc
  split at hc
  case h_1 op t x y yt ho =>
    split at hc
    · rename_i k n z hn
      simp only [Option.map_eq_some_iff] at hc
      obtain ⟨z', hz, hc⟩ := hc
      split at hc
      · subst hc; simp [pstep] at h
      subst hc
      simp only [pstep, xstep, Option.map_eq_some_iff] at h
      obtain ⟨b, hb, rfl⟩ := h
      have := isnil_ok (a := a) hn (opd_ok hz hf) hb
      refine ⟨_, ?_, .im _ _ (.bool _)⟩
      simp only [execOp, ho]
      rw [Sem.run_bind]
      simp only [this, Result.andThen_ok, Sem.run_pure]
    · split at hc
      case h_2 => cases hc
      have hbit : ∀ op' x' y', opd x = some x' → opd y = some y' → pstep σ f (.px (.bit op' x' y')) = some r → op' = op → PureOK P κ Im w o a r := by
        intro op' x' y' hx hy hp he
        subst he
        simp only [pstep, xstep] at hp
        obtain ⟨v, hv, hr⟩ := bitStep_ok (P := P) (t := t) (xo := x) (yo := y) (opd_ok hx hf) (opd_ok hy hf) hp
        refine ⟨v, ?_, hr⟩
        simp only [execOp, ho]
        rw [Sem.run_bind]
        simp only [hv, Result.andThen_ok, Sem.run_pure]
      split at hc <;> first
        | (cases hc; done)
        | (simp only [Option.bind_eq_bind, Option.bind_eq_some_iff, Option.pure_def, Option.some.injEq] at hc
           obtain ⟨x', hx, y', hy, rfl⟩ := hc
           exact hbit _ x' y' hx hy h rfl)
  case h_2 t x ho =>
    simp only [Option.map_eq_some_iff] at hc
    obtain ⟨x', hx, rfl⟩ := hc
    simp only [pstep, xstep] at h
    obtain ⟨v, hv, hr⟩ := invStep_ok (P := P) (opd_ok hx hf) h
    exact ⟨v, by simp [execOp, ho, hv], hr⟩
  case h_3 s t x ho =>
    split at hc
    · split at hc
      · simp only [Option.map_eq_some_iff] at hc
        obtain ⟨x', hx, rfl⟩ := hc
        simp [pstep] at h
      · cases hc
    · rename_i e hu1 hu2
      split at hc
      case h_2 => cases hc
      rename_i i he hi
      split at hc
      case isFalse => cases hc
      rename_i hsz
      simp only [Option.map_eq_some_iff] at hc
      obtain ⟨x', hx, rfl⟩ := hc
      simp only [pstep, xstep, Option.map_eq_some_iff, Option.bind_eq_some_iff] at h
      obtain ⟨s', ⟨l, hl, hb⟩, rfl⟩ := h
      have hv := opd_ok (κ := κ) (Im := Im) (w := w) hx hf
      have hlen : ∀ (l : List (List AV)) (s : List UInt8), bytesOf l = some s → ∀ c ∈ l, c.length = 1 := by
        intro l
        induction l with
        | nil => intro s _ c hc; simp at hc
        | cons c0 l ih =>
          intro s h c hc
          unfold bytesOf at h
          split at h
          · rename_i heq; cases heq
          · rename_i heq
            simp only [List.cons.injEq] at heq
            obtain ⟨rfl, rfl⟩ := heq
            simp only [Option.map_eq_some_iff] at h
            obtain ⟨s1, h1, _⟩ := h
            rcases List.mem_cons.1 hc with rfl | hc
            · rfl
            · exact ih _ h1 _ hc
          · cases h
      rcases source_view hs hv hl (hlen _ _ hb) (by omega) with ⟨hx0, rfl⟩ | ⟨ad, c, news, hx0, g1, g2, g3, _⟩
      · simp only [bytesOf, Option.some.injEq] at hb; subst hb
        refine ⟨.string ⟨#[]⟩, ?_, .im _ _ (.str [])⟩
        simp only [execOp, ho, hx0, Sem.run_bind, run_convert_bytes_string w s t e _ _ _ hu1 he hu2, Conv.bytesToString, Sem.run_pure, Result.andThen_ok]
        rfl
      · obtain ⟨ns, rfl, h2⟩ := bytesOf_ok hb g3
        have hld := run_loadCells_list (P := P) w ad _ g2
        rw [g1, Nat.mul_one] at hld
        have hrun := run_bytesToString (P := P) w ad l.length c ns (by rw [hld])
        refine ⟨_, ?_, .im _ _ (.str s')⟩
        simp only [execOp, ho, hx0, Sem.run_bind, run_convert_bytes_string w s t e _ _ _ hu1 he hu2, hrun, Sem.run_pure, Result.andThen_ok, h2]
        rfl
    · cases hc
  case h_4 t x lo hi ho =>
    split at hc
    case h_2 => cases hc
    rename_i n e hu
    simp only [Option.bind_eq_bind, Option.bind_eq_some_iff, Option.pure_def] at hc
    obtain ⟨sz, hsz, hc⟩ := hc
    split at hc
    case isFalse => cases hc
    rename_i hcond
    simp only [Option.bind_eq_some_iff, Option.some.injEq] at hc
    obtain ⟨x', hx, lo', hlo, hi', hhi, rfl⟩ := hc
    have hv := opd_ok (κ := κ) (Im := Im) (w := w) hx hf
    have hlo' := optOpd_ok (κ := κ) (Im := Im) (w := w) hf hlo
    have hhi' := optOpd_ok (κ := κ) (Im := Im) (w := w) hf hhi
    have hrun : ∀ (b off ll hh : Nat), a.eval x = .pointer (some ⟨b, off, none⟩) → bound (hi'.map (·.ev f)) n n = some hh → bound (lo'.map (·.ev f)) 0 hh = some ll → ll ≤ hh ∧ hh ≤ n ∧ ∃ ad, (execOp a.eval o).run P w = .ok (.value (.slice (some ad) (hh - ll) (n - ll))) w ∧ (ll < hh → ad = ⟨b, off + ll * sz, none⟩) ∧ ad.spot = none := by
      intro b off ll hh he h1 h2
      obtain ⟨hb, hle1, hle2⟩ := run_sliceBounds_ok (P := P) (isSlice := false) hlo' hhi' (Nat.le_refl n) h1 h2
      refine ⟨hle1, hle2, if n = ll then ⟨b, off, none⟩ else ⟨b, off + ll * sz, none⟩, ?_, fun hlt => by rw [if_neg (by omega)], by split <;> rfl⟩
      simp only [execOp, ho, he, Option.map_none, Instr.sliceAt, Sem.run_bind, run_underlying hu, Result.andThen_ok, Instr.sureAddr, Sem.run_pure, hb, run_sizeOf? hsz, VR.add]
    simp only [pstep, xstep, aslcStep] at h
    split at h
    · rename_i id off he
      rw [he] at hv
      simp only [Option.bind_eq_some_iff, Option.map_eq_some_iff] at h
      obtain ⟨hh, hhb, ll, hlb, rfl⟩ := h
      obtain ⟨b, hb, hk⟩ := hv.ptr_inv
      obtain ⟨q1, q2, ad, q3, q4, q5⟩ := hrun b off ll hh hb hhb hlb
      exact ⟨_, q3, .asl id (off + ll * sz) (hh - ll) sz b ad (n - ll) hk (fun h => q4 (by omega)) (by omega) (by simp only [maxLen]; omega) q5⟩
    · rename_i cells he
      rw [he] at hv
      split at h
      case isFalse => cases h
      rename_i hle
      simp only [Option.bind_eq_some_iff, Option.map_eq_some_iff] at h
      obtain ⟨hh, hhb, ll, hlb, rfl⟩ := h
      obtain ⟨b, o', vals, hb, h1, h2, h3⟩ := hv.rptr_inv
      obtain ⟨q1, q2, ad, q3, q4, q5⟩ := hrun b o' ll hh hb hhb hlb
      exact ⟨_, q3, .im _ _ (aslc_lst hcond.1 h1 h2 h3 hle q1 q2 (by omega) (by simp only [maxLen]; omega) ad q4 q5)⟩
    · rename_i g off he
      rw [he] at hv
      split at h
      case h_2 => cases h
      rename_i cells hl
      split at h
      case isFalse => cases h
      rename_i hle
      simp only [Option.bind_eq_some_iff, Option.map_eq_some_iff] at h
      obtain ⟨hh, hhb, ll, hlb, rfl⟩ := h
      obtain ⟨b, o', vals, hb, h1, h2, h3⟩ := (VR.im (κ := κ) _ _ (hs.glob _ (lookup_mem hl)).2.2).rptr_inv
      simp only [Value.pointer.injEq, Option.some.injEq, Addr.mk.injEq, and_true] at hb
      obtain ⟨rfl, rfl⟩ := hb
      obtain ⟨q1, q2, ad, q3, q4, q5⟩ := hrun g off ll hh hv.gp_inv hhb hlb
      obtain ⟨b', o'', vals', hb', g1, g2, g3⟩ := (VR.im (κ := κ) _ _ (rptr_drop h1 h2 h3 off)).rptr_inv
      simp only [Value.pointer.injEq, Option.some.injEq, Addr.mk.injEq, and_true, Nat.zero_add] at hb'
      obtain ⟨rfl, rfl⟩ := hb'
      exact ⟨_, q3, .im _ _ (aslc_lst hcond.1 g1 g2 g3 (by simp; omega) q1 q2 (by omega) (by simp only [maxLen]; omega) ad q4 q5)⟩
    · cases h
  case h_5 => simp only [Option.some.injEq] at hc; subst hc; simp [pstep] at h
  case h_6 | h_7 =>
    split at hc
    · simp only [Option.bind_eq_bind, Option.bind_eq_some_iff, Option.pure_def, Option.some.injEq] at hc
      obtain ⟨_, _, _, _, _, _, _, _, rfl⟩ := hc
      simp [pstep] at h
    · cases hc
  case h_8 t x k ok ho =>
    split at hc
    case h_2 => cases hc
    rename_i kt e ht
    simp only [Option.bind_eq_bind, Option.bind_eq_some_iff, Option.pure_def, Option.some.injEq] at hc
    obtain ⟨kind, hk, i, hi, zv, hz, ZV, hZ, x', hx, k', hkk, rfl⟩ := hc
    simp only [pstep, xstep, Option.bind_eq_some_iff] at h
    obtain ⟨kv, hkv, h⟩ := h
    obtain ⟨v, hrun, hr⟩ := run_lookup_ok ht hk hi hz hZ hs (opd_ok hx hf) (opd_ok hkk hf) hkv h
    exact ⟨v, by simp [execOp, ho, hrun], hr⟩
  case h_9 c ho =>
    split at hc
    · rename_i hcal
      split at hc
      case h_2 => cases hc
      rename_i t x hts hargs
      split at hc
      case h_2 => cases hc
      rename_i kt e ht
      simp only [Option.map_eq_some_iff] at hc
      obtain ⟨x', hx, rfl⟩ := hc
      simp only [pstep, xstep, Option.map_eq_some_iff] at h
      obtain ⟨kv, hkv, rfl⟩ := h
      have e1 : c.argTypes = #[t] := list_array hts
      have e2 : c.args.map a.eval = #[a.eval x] := by apply list_array; rw [Array.toList_map, hargs]; rfl
      refine ⟨.int .i64 kv.length, call_builtin ho hcal ?_, .im _ _ (.int _ _)⟩
      rcases mapView_ok hs (opd_ok hx hf) hkv with ⟨hx0, rfl⟩ | ⟨b, es, clock, hx0, hb, hme⟩
      · simp [builtin, Builtin.len_, e1, e2, hx0, run_underlying ht, goInt]
      · have : es.size = kv.length := by simpa using hme.1
        simp [builtin, Builtin.len_, e1, e2, hx0, run_underlying ht, MapKept.run_getObj_map hb, goInt, this]
    · split at hc
      case h_2 => cases hc
      split at hc
      case h_2 => cases hc
      simp only [Option.bind_eq_bind, Option.bind_eq_some_iff, Option.pure_def] at hc
      obtain ⟨i, _, z, _, hc⟩ := hc
      split at hc
      case isFalse => cases hc
      simp only [Option.bind_eq_some_iff, Option.some.injEq] at hc
      obtain ⟨_, _, rfl⟩ := hc
      simp [pstep] at h
    · rename_i g hcal
      split at hc
      case h_2 => cases hc
      rename_i fn hfn
      split at hc
      case isFalse => cases hc
      rename_i hcond
      split at hc
      case h_2 => cases hc
      rename_i x y z hargs
      simp only [Option.bind_eq_bind, Option.bind_eq_some_iff, Option.pure_def, Option.some.injEq] at hc
      obtain ⟨x', hx, y', hy, z', hz, rfl⟩ := hc
      simp only [pstep, xstep] at h
      obtain ⟨v, hv, hr⟩ := cryStep_ok (P := P) (opd_ok hx hf) (opd_ok hy hf) (opd_ok hz hf) h
      obtain ⟨n1, n2⟩ := extern_add64 hcond.2.1 hcond.2.2
      have e2 : c.args.map a.eval = #[a.eval x, a.eval y, a.eval z] := by apply list_array; rw [Array.toList_map, hargs]; rfl
      refine ⟨v, ?_, hr⟩
      simp only [execOp, ho, resolve, hcal, Act.eval, Deferred.ofValue, Sem.run_bind, Sem.run_pure, Result.andThen_ok, invoke, Array.empty_append, Array.append_empty]
      rw [run_callFunc_extern hfn (by rw [hcond.2.1]; decide) hcond.1 n1 n2]
      change ((add64Entry (c.args.map a.eval)).run P w).andThen _ = _
      rw [e2, hv]
      rfl
    · cases hc
  case h_10 => cases hc
end
end Go.Abs
end

section
/- Abstract machine, part 14d: further operations that make or write memory. -/
set_option linter.unusedSimpArgs false
set_option linter.unusedVariables false
set_option linter.constructorNameAsVariable false
namespace Go.Abs
open Go.RowKit
variable {G : Globs}
section
variable {P : Program} {base : Nat} {κ : Key} {Im : Addr → Prop} {w : World} {σ : Store}

theorem eff_mkmap {o : Oper} {t : TypeId} {a : Act} {K : AV → Store → Prop} (ho : o.op = .makeMap t none) (hs : SRel base κ Im σ w) (h : K (.map σ.length) (σ ++ [.mp []])) : EffOK P base κ Im w o a K := by
  have hfree : ∀ m v, κ σ.length m = some v → False := fun m v h => by obtain ⟨e, h1, _⟩ := hs.dom _ _ _ h; simp at h1
  have hκ := Key.with_new hfree 0 (.map (some w.heap.size))
  have hh : ∀ k, k < w.heap.size → (w.alloc (.map #[] 0)).heap[k]? = w.heap[k]? := fun k hk => Below.heap_alloc w _ k hk
  have hc : ∀ a, Im a → (w.alloc (.map #[] 0)).cell? a = w.cell? a := fun a ha => World.cell?_of_block (hh _ (hs.imlt a ha).1)
  refine ⟨_, w.alloc (.map #[] 0), κ.with σ.length 0 (.map (some w.heap.size)), Im, .map σ.length, _, .inl (by simp [execOp, ho, Instr.makeMap]), h, .map _ _ (Key.with_same _ _ _ _), ?_, ⟨hκ, fun _ h => h, hc, fun _ h => .inl h, (Below.refl _ _).alloc hs.hb _⟩⟩
  refine hs.push (.mp []) hκ (fun i n v h => ?_) (fun _ h => h) (fun _ h => .inl h) (by simp) hh ?_ (fun b hb => ?_)
  · unfold Key.with at h
    split at h
    · rename_i hc; exact .inr ⟨hc.1, by rw [hc.2]; exact Nat.zero_le _⟩
    · exact .inl h
  · exact ⟨w.heap.size, #[], 0, Key.with_same _ _ _ _, hs.hb, heap_alloc_new w _, rfl, fun j h => by simp at h, fun a ha he => by have := (hs.imlt a ha).1; omega⟩
  · simp [Entry.block, Key.with] at hb; omega

theorem sameBits_refl {kind : Nat} {X Y : AV} {x : Value} (hx : VR κ Im w X x) (h : eq1 kind X Y = some true) (n : Nat) : Instr.sameBits (n + 1) x x = true := by
  unfold eq1 at h
  split at h
  · cases hx.int_inv; simp [Instr.sameBits]
  · cases hx.str_inv; simp [Instr.sameBits, MapKept.bytes_beq]
  · cases hx.bool_inv; simp [Instr.sameBits]
  · cases h

theorem mapFind_same {kind : Nat} {X : AV} : ∀ {kv : List (AV × AV)} {i j : Nat} {a : AV}, mapFind kind X kv i = some (some (j, a)) → ∃ Y, eq1 kind X Y = some true
  | [], i, j, a, h => by simp [mapFind] at h
  | (k', v') :: kv, i, j, a, h => by
    simp only [mapFind] at h
    split at h
    · rename_i he; exact ⟨_, he⟩
    · exact mapFind_same h
    · cases h

theorem eff_mset {o : Oper} {t kt e : TypeId} {kind : Nat} {m k v : Operand} {m' k' v' : Opd} {f : Frame} {a : Act} {K : AV → Store → Prop} {id : Nat} {kv kv' : List (AV × AV)} (ho : o.op = .mapUpdate t m k v ∨ o.op = .insert t m k v) (ht : P.underlying t = some (.map kt e)) (hk : keyKind P kt = some kind)
    (hm : opd m = some m') (hkk : opd k = some k') (hv : opd v = some v') (hs : SRel base κ Im σ w) (hf : FRel κ Im w f a) (hX : m'.ev f = .map id) (hent : σ[id]? = some (.mp kv)) (hpure : (k'.ev f).pure = true) (hput : mapPut kind (k'.ev f) (v'.ev f) kv = some kv')
    (h : K .junk (σ.set id (.mp kv'))) : EffOK P base κ Im w o a K := by
  obtain ⟨d, hd⟩ : ∃ d, P.underlying kt = some d := by
    unfold keyKind at hk; split at hk <;> first | (cases hk; done) | exact ⟨_, by assumption⟩
  have hmv := opd_ok (κ := κ) (Im := Im) (w := w) hm hf
  have hkv := opd_ok (κ := κ) (Im := Im) (w := w) hkk hf
  have hvv := opd_ok (κ := κ) (Im := Im) (w := w) hv hf
  rw [hX] at hmv
  obtain ⟨b, hb, hκ⟩ := hmv.map_inv
  obtain ⟨b', es, clock, hκ', hbase, hheap, hsz, hes, him⟩ := hs.ent _ _ hent
  rw [hb, hκ'] at hκ; cases hκ
  have hme : MEnt κ Im w kv es.toList := ⟨by simpa using hsz, fun j hj hj' => hes j hj (by simpa using hj')⟩
  have hexec : ∀ w', (Instr.mapUpdate t (.map (some b)) (a.eval k) (a.eval v)).run P w = .ok () w' → (execOp a.eval o).run P w = .ok .skip w' := by
    intro w' hr
    rcases ho with ho | ho <;> simp [execOp, ho, hb, hr]
  -- the step, once the new entries are known
  have key : ∀ (es' : Array MapEntry) (clock' : Nat), (Instr.mapUpdate t (.map (some b)) (a.eval k) (a.eval v)).run P w = .ok () { w with heap := w.heap.setIfInBounds b (.map es' clock') } → es'.size = kv'.length →
      (∀ j (h : j < kv'.length) (h' : j < es'.size), IR Im w (kv'[j]).1 (es'[j]).key ∧ VR κ Im w (kv'[j]).2 (es'[j]).val) → EffOK P base κ Im w o a K := by
    intro es' clock' hr hsz' hes'
    obtain ⟨g1, g2⟩ := MapKept.heap_set (o' := .map es' clock') hheap
    have hcell : ∀ ad, Im ad → ({ w with heap := w.heap.setIfInBounds b (.map es' clock') } : World).cell? ad = w.cell? ad := fun ad ha => World.cell?_of_block (g2 _ (him ad ha))
    refine ⟨undef, _, κ, Im, .junk, _, .inr ⟨hexec _ hr, rfl⟩, h, .im _ _ (.junk _), ?_, ⟨fun _ _ _ h => h, fun _ h => h, hcell, fun _ h => .inl h, ⟨rfl, rfl, rfl, by simp, fun k hk => g2 k (by omega)⟩⟩⟩
    refine hs.set hent _ (fun _ _ _ h => h) (fun _ _ _ h => .inl h) (Nat.le_refl _) (fun _ h => h) hcell (fun _ h => .inl h) (by simp) (fun k _ hk => g2 k (fun he => hk (by simp [Entry.block, hκ', he]))) ?_ (fun b' hb' => .inr (by simpa [Entry.block, hκ'] using hb'))
    exact ⟨b, es', clock', hκ', hbase, g1, hsz', fun j hj hj' => ⟨(hes' j hj hj').1.mono (fun _ h => h) hcell, (hes' j hj hj').2.mono (fun _ _ _ h => h) (fun _ h => h) hcell⟩, him⟩
  unfold mapPut at hput
  simp only [Option.map_eq_some_iff] at hput
  obtain ⟨q, hq, hput⟩ := hput
  have hfind := mapFind_ok hk hd hkv hme hq
  rcases q with _ | ⟨j, x⟩
  · simp only at hput; subst hput
    refine key (es.push { key := a.eval k, val := a.eval v, born := clock }) (clock + 1) ?_ (by simp [hsz]) (fun j hj hj' => ?_)
    · simp only [Instr.mapUpdate, Sem.run_bind, run_underlying ht, Result.andThen_ok, MapKept.run_getObj_map hheap, checkKey_ok hk, Instr.findKey, run_underlying hd, hfind, Sem.run_pure, MapKept.run_setObj_map _ hheap]
    · by_cases hjl : j < kv.length
      · have := hes j hjl (by omega)
        rw [List.getElem_append_left hjl, Array.getElem_push_lt (by omega)]
        exact this
      · have hje : j = kv.length := by simp at hj; omega
        subst hje
        have hje2 : kv.length = es.size := hsz.symm
        rw [List.getElem_append_right (by omega)]
        simp only [Nat.sub_self, List.getElem_cons_zero]
        have e2 : (es.push { key := a.eval k, val := a.eval v, born := clock })[kv.length] = { key := a.eval k, val := a.eval v, born := clock } := by
          simp only [hje2, Array.getElem_push_eq]
        rw [e2]
        exact ⟨hkv.pure hpure, hvv⟩
  · simp only at hput; subst hput
    obtain ⟨u, h1, h2, h3, h4, h5, h6⟩ := hfind
    obtain ⟨Y, hY⟩ := mapFind_same hq
    have hbits := sameBits_refl hkv hY 9999
    have hje : j < es.size := by simpa using h4
    have hkey : (((es[j]?).map (·.key)).getD (a.eval k)) = a.eval k := by
      rw [Array.getElem?_eq_getElem hje]
      simpa using h6
    refine key (es.modify j fun e => { e with key := a.eval k, val := a.eval v }) clock ?_ (by simp [hsz]) (fun i hi hi' => ?_)
    · simp only [Instr.mapUpdate, Sem.run_bind, run_underlying ht, Result.andThen_ok, MapKept.run_getObj_map hheap, checkKey_ok hk, Instr.findKey, run_underlying hd, h1, Sem.run_pure, hkey, Instr.keyThatStays, hbits, if_true, MapKept.run_setObj_map _ hheap]
    · simp only [List.length_set] at hi
      have hii : i < es.size := by omega
      rw [Array.getElem_modify]
      by_cases hij : j = i
      · subst hij
        simp only [if_true, List.getElem_set_self]
        exact ⟨hkv.pure hpure, hvv⟩
      · rw [if_neg hij, List.getElem_set_ne hij]
        exact hes i hi hii

/-- A text's bytes, as a list. -/
theorem eff_tobytes {o : Oper} {s t e : TypeId} {x : Operand} {x' : Opd} {f : Frame} {a : Act} {K : AV → Store → Prop} {r : AV} (ho : o.op = .convert s t x) (hu1 : P.underlying s = some .string) (hu2 : P.underlying t = some (.slice e)) (he : P.underlying e = some (.int .u8)) (hx : opd x = some x') (hs : SRel base κ Im σ w) (hf : FRel κ Im w f a)
    (hr : bytesStep (x'.ev f) = some r) (h : K r σ) : EffOK P base κ Im w o a K := by
  have hv := opd_ok (κ := κ) (Im := Im) (w := w) hx hf
  unfold bytesStep at hr
  split at hr
  case h_2 => cases hr
  rename_i l hl
  split at hr
  case isFalse => cases hr
  rename_i hle
  simp only [Option.some.injEq] at hr; subst hr
  rw [hl] at hv
  have hval := hv.str_inv
  have hrun := Lib.run_convert_string_bytes (P := P) w s t e ⟨l.toArray⟩ hu1 hu2 he
  have hsize : (ByteArray.mk l.toArray).size = l.length := by simp [ByteArray.size]
  rw [hsize] at hrun
  let Im' : Addr → Prop := fun ad => Im ad ∨ (ad.block = w.heap.size ∧ ad.spot = none ∧ ad.off < l.length)
  have hold : ∀ k, k < w.heap.size → (Lib.bytesWorld w e ⟨l.toArray⟩).heap[k]? = w.heap[k]? := Lib.bytesWorld_at_old w e _
  have hc : ∀ ad, Im ad → (Lib.bytesWorld w e ⟨l.toArray⟩).cell? ad = w.cell? ad := fun ad ha => World.cell?_of_block (hold _ (hs.imlt ad ha).1)
  have hir : IR Im' (Lib.bytesWorld w e ⟨l.toArray⟩) (.lst (l.map fun b => [.int .u8 b.toNat])) (.slice (some ⟨w.heap.size, 0, none⟩) (l.map fun b => [AV.int .u8 (b.toNat : Int)]).length (grownCap w l.length 0 e)) := by
    refine .lst _ 1 w.heap.size 0 _ (fun k j => .int .u8 (l.getD k 0).toNat) (by simpa using grownCap_ge w l.length 0 e) (grownCap_le_maxLen _ _ _ _ (by simp only [maxLen]; omega)) (fun c hc => ?_) (fun c hc y hy => ?_) (fun k j hk hj => ?_) (fun k j hk hj => ?_)
    · simp only [List.mem_map] at hc; obtain ⟨b, _, rfl⟩ := hc; rfl
    · simp only [List.mem_map] at hc; obtain ⟨b, _, rfl⟩ := hc
      simp only [List.mem_singleton] at hy; subst hy; rfl
    · obtain rfl : j = 0 := by omega
      simp only [List.length_map] at hk
      refine ⟨.inr ⟨rfl, rfl, by show 0 + (k * 1 + 0) < l.length; omega⟩, ?_⟩
      have := Lib.bytesWorld_cell w e ⟨l.toArray⟩ k (by simpa [ByteArray.size] using hk)
      simpa using this
    · simp only [List.length_map] at hk
      simp only [List.getElem_map, List.length_cons, List.length_nil] at hj ⊢
      obtain rfl : j = 0 := by omega
      simp only [List.getElem_cons_zero]
      have e1 : l.getD k 0 = l[k] := by simp [hk]
      rw [e1]
      exact .int _ _
  rw [List.length_map] at hir
  refine ⟨_, _, κ, Im', _, σ, .inl (by simp only [execOp, ho, hval, Sem.run_bind, hrun, Result.andThen_ok, Sem.run_pure]), h, .im _ _ hir, ?_, ⟨fun _ _ _ h => h, fun _ h => .inl h, hc, fun ad h => ?_, ?_⟩⟩
  · refine hs.world (fun _ h => .inl h) (fun ad h => ?_) (by rw [Lib.bytesWorld_size]; omega) hold
    rcases h with h | ⟨h1, h2, _⟩
    · exact .inl h
    · exact .inr ⟨by omega, by rw [Lib.bytesWorld_size]; omega, h2⟩
  · rcases h with h | ⟨h1, _⟩
    · exact .inl h
    · exact .inr (by rw [h1]; exact hs.hb)
  · exact (Lib.bytesWorld_below w e _).mono hs.hb

theorem eff_clr {o : Oper} {c : Call} {t e : TypeId} {x : Operand} {x' : Opd} {i : TypeInfo} {z : List AV} {f : Frame} {a : Act} {K : AV → Store → Prop} {σ' : Store} (ho : o.op = .call c) (hb : c.callee = .builtin .clear) (hts : c.argTypes.toList = [t]) (hargs : c.args.toList = [x]) (ht : P.underlying t = some (.slice e)) (hi : P.info? e = some i) (hz : zeroOf P e = some z)
    (hzl : z.length = i.size) (hpos : 0 < i.size) (hx : opd x = some x') (hs : SRel base κ Im σ w) (hf : FRel κ Im w f a) (hclr : clrAt σ i.size z (x'.ev f) = some σ') (h : K (.tup []) σ') : EffOK P base κ Im w o a K := by
  obtain ⟨i', zv, hi', hzv, hm⟩ := zeroOf_ok hz
  rw [hi] at hi'; cases hi'
  obtain ⟨hzr, hzo, _⟩ := mapM_const1 (Im := Im) (w := w) hm
  have hzs : zv.cells.size = i.size := by rw [← hzl, hzr.1]; simp
  have hvx := opd_ok (κ := κ) (Im := Im) (w := w) hx hf
  have e1 : c.argTypes = #[t] := list_array hts
  have e2 : c.args.map a.eval = #[a.eval x] := by apply list_array; rw [Array.toList_map, hargs]; rfl
  have hzero : (zeroValue e).run P w = .ok zv w := by simp [zeroValue, typeInfo, hi, hzv]
  have hexec : ∀ w', (Builtin.clear_ #[t] o.type #[a.eval x]).run P w = .ok (.tuple #[]) w' → (execOp a.eval o).run P w = .ok (.value (.tuple #[])) w' := by
    intro w' hr
    simp only [execOp, ho, resolve, hb, Sem.run_bind, Sem.run_pure, Result.andThen_ok, invoke, builtin, e1, e2, hr]
  have htup : ∀ κ' Im' w', VR κ' Im' w' (.tup []) (.tuple #[]) := fun κ' Im' w' => .tup [] [] rfl (fun j h => by simp at h)
  have hnone : ∀ g c, a.eval x = .slice g 0 c → (Builtin.clear_ #[t] o.type #[a.eval x]).run P w = .ok (.tuple #[]) w := by
    intro g c he
    cases g <;> simp [Builtin.clear_, he, run_underlying ht]
  have stay : ∀ g c, a.eval x = .slice g 0 c → σ' = σ → EffOK P base κ Im w o a K := by
    rintro g c he rfl
    exact ⟨_, w, κ, Im, _, _, .inl (hexec _ (hnone g c he)), h, htup _ _ _, hs, Grow.refl _ _ _ _⟩
  have core : ∀ (id ty lo hi' b cap c : Nat) (els : List (List AV)), σ[id]? = some (.row ty i.size els false) → κ id els.length = some (.slice (some ⟨b, 0, none⟩) els.length cap) → lo ≤ hi' → hi' ≤ els.length → a.eval x = .slice (some ⟨b, lo * i.size, none⟩) (hi' - lo) c → lo < hi' →
      σ' = σ.set id (.row ty i.size (els.take lo ++ List.replicate (hi' - lo) z ++ els.drop hi') false) → EffOK P base κ Im w o a K := by
    intro id ty lo hh b cap c els hent hk h1 h2 hval hlt hσ
    obtain ⟨v, xs, hv, hown, hvr, _, hlens, hones, hir, him⟩ := hs.ent _ _ hent
    rw [hk] at hv; cases hv
    rcases hown.2 with ⟨h1', _⟩ | ⟨g, cap', cur, hvv, hbase, hheap, hlecap, hmax, hcur, htake⟩
    · cases h1'
    simp only [Value.slice.injEq, Option.some.injEq, Addr.mk.injEq] at hvv
    obtain ⟨⟨rfl, _⟩, _, rfl⟩ := hvv
    obtain ⟨him1, him2⟩ := him b rfl
    have hzc : (Builtin.zeroCells zv.cells (hh - lo)).toList = (List.replicate (hh - lo) zv.cells.toList).flatten := made_flat zv.cells (by omega) (hh - lo)
    generalize hvs : (Builtin.zeroCells zv.cells (hh - lo)).toList = vs at *
    have hvl : VRL κ Im w (List.replicate (hh - lo) z).flatten vs := by rw [hzc]; exact (VRL.ofIR hzr).replicate _
    have hz1 : ∀ c ∈ (List.replicate (hh - lo) z).flatten, c.one = true := fun c hc => by
      obtain ⟨l, hl, hcl⟩ := List.mem_flatten.1 hc
      rw [(List.mem_replicate.1 hl).2] at hcl
      exact hzo c hcl
    have hlenvs : vs.length = (hh - lo) * i.size := by rw [← hvl.1]; simp [hzl]
    have hm1 := Nat.mul_le_mul_right i.size h1
    have hm2 := Nat.mul_le_mul_right i.size h2
    have hm3 := Nat.mul_le_mul_right i.size hlecap
    have hsub : (hh - lo) * i.size = hh * i.size - lo * i.size := Nat.sub_mul _ _ _
    have hend : lo * i.size + vs.length = hh * i.size := by omega
    have hthere := there_of_row (off := lo * i.size) (n := vs.length) hheap (by omega)
    have hst := run_storeCells_cells (P := P) b (lo * i.size) vs 0 w (fun j hj => by simpa using (hthere j hj).1) (fun j hj => by simpa using (hthere j hj).2) (one_cells hvl hz1)
    rw [Nat.add_zero] at hst
    have hrun : (Builtin.clear_ #[t] o.type #[a.eval x]).run P w = .ok (.tuple #[]) (w.setCells b (lo * i.size) vs) := by
      obtain ⟨n1, hn1⟩ : ∃ n1, hh - lo = n1 + 1 := ⟨hh - lo - 1, by omega⟩
      have hvs' : (Builtin.zeroCells zv.cells (n1 + 1)).toList = vs := by rw [← hvs, hn1]
      rw [hval, hn1]
      simp [Builtin.clear_, run_underlying ht, hzero, hvs', hst]
    obtain ⟨cs', g1, g2, g3, g4, g5, g6, g7⟩ := setCells_heap b vs (lo * i.size) w cur ty hheap (by omega)
    have hcell : ∀ ad, Im ad → (w.setCells b (lo * i.size) vs).cell? ad = w.cell? ad := by
      intro ad hIm
      by_cases hab : ad.block = b
      · exact absurd (him1 ad hIm hab).1 (by simp)
      · exact World.cell?_of_block (g3 _ hab)
    have hlen' : (els.take lo ++ List.replicate (hh - lo) z ++ els.drop hh).length = els.length := by simp; omega
    have hblk : (Entry.row ty i.size els false).block κ id = some b := by simp [Entry.block, hk, Value.ownBlock]
    have hblk' : (Entry.row ty i.size (els.take lo ++ List.replicate (hh - lo) z ++ els.drop hh) false).block κ id = some b := by simp only [Entry.block, hlen', hk, Option.bind_some, Value.ownBlock]
    refine ⟨_, _, κ, Im, _, σ', .inl (hexec _ hrun), h, htup _ _ _, ?_, ⟨fun _ _ _ h => h, fun _ h => h, hcell, fun _ h => .inl h, ⟨g5, g6, g7, by omega, fun k hk' => g3 k (by omega)⟩⟩⟩
    rw [hσ]
    have hxs : xs = cur.toList.take (els.length * i.size) := htake.symm
    have hnew : cs'.toList.take (els.length * i.size) = xs.take (lo * i.size) ++ vs ++ xs.drop (lo * i.size + vs.length) := by
      rw [g2, hxs]
      have hA : (cur.toList.take (lo * i.size)).length = lo * i.size := by rw [List.length_take]; simp; omega
      rw [List.append_assoc, List.take_append, List.take_of_length_le (by omega), List.take_append, List.take_of_length_le (l := vs) (by omega), hA]
      rw [List.take_take, List.drop_take]
      rw [Nat.min_eq_left (by omega)]
      rw [List.append_assoc]
      congr 3
      omega
    have hflat : (els.take lo ++ List.replicate (hh - lo) z ++ els.drop hh).flatten = splice els.flatten (lo * i.size) (List.replicate (hh - lo) z).flatten := by
      have hq : (List.replicate (hh - lo) z).flatten.length = vs.length := hvl.1
      simp only [splice, List.flatten_append, flatten_take _ _ hlens, flatten_drop _ _ hlens, hq, hend]
    refine hs.set hent _ (fun _ _ _ h => h) (fun _ _ _ h => .inl h) (by simp only [Entry.ver, hlen', Nat.le_refl]) (fun _ h => h) hcell (fun _ h => .inl h) (by omega) (fun k _ hk' => g3 k (fun he => hk' (by rw [he]; exact hblk))) ?_ (fun b' hb' => .inr (by rw [hblk'] at hb'; rw [hblk]; exact hb'))
    refine ⟨_, cs'.toList.take (els.length * i.size), by rw [hlen']; exact hk, ⟨?_, .inr ⟨b, cap, cs', by rw [hlen'], hbase, g1, by rw [hlen']; exact hlecap, hmax, ?_, by rw [hlen']⟩⟩, ?_, hpos, ?_, ?_, fun h => by simp at h, fun g hg => ?_⟩
    · rw [hlen', List.length_take]
      have := congrArg List.length g2
      simp only [List.length_append, List.length_take, List.length_drop, Array.length_toList] at this
      simp only [Array.length_toList]; omega
    · have := congrArg List.length g2
      simp only [List.length_append, List.length_take, List.length_drop, Array.length_toList] at this
      omega
    · rw [hflat, hnew]
      have := VRL.splice (lo * i.size) hvr hvl
      exact ⟨this.1, fun j h h' => (this.2 j h h').mono (fun _ _ _ h => h) (fun _ h => h) hcell⟩
    · intro c' hc'
      simp only [List.mem_append] at hc'
      rcases hc' with (hc' | hc') | hc'
      · exact hlens _ (List.mem_of_mem_take hc')
      · rw [(List.mem_replicate.1 hc').2, hzl]
      · exact hlens _ (List.mem_of_mem_drop hc')
    · intro c' hc' y hy
      simp only [List.mem_append] at hc'
      rcases hc' with (hc' | hc') | hc'
      · exact hones _ (List.mem_of_mem_take hc') y hy
      · rw [(List.mem_replicate.1 hc').2] at hy; exact hzo y hy
      · exact hones _ (List.mem_of_mem_drop hc') y hy
    · rw [hlen']; exact him g hg
  unfold clrAt at hclr
  split at hclr
  · rename_i he
    rw [he] at hvx
    simp only [Option.some.injEq] at hclr
    exact stay _ _ hvx.nils_inv hclr.symm
  · rename_i he
    rw [he] at hvx
    simp only [Option.some.injEq] at hclr
    rcases hvx.lst_inv with ⟨⟨g, hv⟩, _⟩ | ⟨size, b, o, cap, vals, hv, _⟩
    · exact stay _ _ hv hclr.symm
    · exact stay _ _ hv hclr.symm
  · rename_i id n he
    rw [he] at hvx
    split at hclr
    case h_2 => cases hclr
    rename_i ty size' els hent
    split at hclr
    case isFalse => cases hclr
    rename_i hcond
    obtain ⟨hn, hsz⟩ := hcond
    simp only [Option.some.injEq] at hclr
    subst hn; subst hsz
    obtain ⟨g, cap, hv, hk⟩ := hvx.row_inv
    by_cases h0 : els.length = 0
    · have : els = [] := List.eq_nil_of_length_eq_zero h0
      subst this
      refine stay g cap (by simpa using hv) ?_
      rw [← hclr]
      obtain ⟨hlt, hee⟩ := List.getElem?_eq_some_iff.1 hent
      simp only [List.length_nil, List.replicate_zero]
      rw [← hee, List.set_getElem_self]
    · obtain ⟨v, xs, hv', hown, _⟩ := hs.ent _ _ hent
      rw [hk] at hv'; cases hv'
      rw [hv] at hk hown
      rcases hown.2 with ⟨_, q2⟩ | ⟨g', cap', cur, q1, _⟩
      · omega
      · simp only [Value.slice.injEq] at q1
        obtain ⟨rfl, _, rfl⟩ := q1
        refine core id ty 0 els.length g' cap cap els hent hk (Nat.zero_le _) (Nat.le_refl _) (by simpa using hv) (by omega) ?_
        rw [← hclr]; simp
  · rename_i id n sz lo hh he
    rw [he] at hvx
    split at hclr
    case h_2 => cases hclr
    rename_i ty size' els hent
    split at hclr
    case isFalse => cases hclr
    rename_i hcond
    obtain ⟨hn, hsz, hsz2, k1, k2⟩ := hcond
    simp only [Option.some.injEq] at hclr
    subst hn; subst hsz; subst hsz2
    obtain ⟨b, cap, ad, c', hv, hk, _, _, k3, k4, _⟩ := hvx.sub_inv
    by_cases h0 : lo = hh
    · subst h0
      refine stay _ c' (by simpa using hv) ?_
      rw [← hclr]
      obtain ⟨hlt, hee⟩ := List.getElem?_eq_some_iff.1 hent
      simp only [Nat.sub_self, List.replicate_zero, List.append_nil, List.take_append_drop]
      rw [← hee, List.set_getElem_self]
    · have hlt : lo < hh := by omega
      rw [k3 hlt] at hv
      exact core id ty lo hh b cap c' els hent hk k1 k2 hv hlt hclr.symm
  · cases hclr
end
end Go.Abs
end

section
/- Abstract machine, part 15: calls; every operation does what the abstract one says. -/
set_option linter.unusedSimpArgs false
set_option linter.unusedVariables false
set_option linter.constructorNameAsVariable false
namespace Go.Abs
open Go.RowKit
variable {G : Globs}
section
variable {P : Program} {base : Nat} {κ : Key} {Im : Addr → Prop} {w : World} {σ : Store}

/-- The cells that a lent argument may reach: all that is there. -/
def Lent (w : World) (Im : Addr → Prop) (lend : Bool) : Addr → Prop := fun a => if lend then a.block < w.heap.size ∧ a.spot = none else Im a

theorem Lent.of (hs : SRel base κ Im σ w) (lend : Bool) (a : Addr) (h : Im a) : Lent w Im lend a := by
  unfold Lent; split
  · exact hs.imlt a h
  · exact h

theorem coe_ok (hs : SRel base κ Im σ w) {lend : Bool} {X Y : AV} (h : Coe σ lend X Y) : ∀ {x : Value}, VR κ Im w X x → IR (Lent w Im lend) w Y x := by
  induction h with
  | pure a hp => intro x hx; exact (hx.pure hp).mono (Lent.of hs lend) (fun _ _ => rfl)
  | nils => intro x hx; cases hx.nils_inv; exact .lnil _
  | row id n e size els im hent hn hp =>
    intro x hx
    obtain ⟨g, cap, rfl, hk⟩ := hx.row_inv
    subst hn
    cases im with
    | true => exact (row_lst hs hent hk).mono (Lent.of hs lend) (fun _ _ => rfl)
    | false =>
      rcases hp with hp | ⟨hl, hp⟩
      · cases hp
      subst hl
      obtain ⟨v', xs, hv', hown, hvr, hsz, hlen, hone, _, _⟩ := hs.ent _ _ hent
      rw [hk] at hv'; cases hv'
      rcases hown.2 with ⟨h1, h2⟩ | ⟨b, cap', cur, h1, hg, hh, hle, hmax, hcs, htake⟩
      · have : els = [] := List.eq_nil_of_length_eq_zero h2
        subst this
        simp only [Value.slice.injEq] at h1
        obtain ⟨rfl, _, rfl⟩ := h1
        exact .lnil _
      · simp only [Value.slice.injEq] at h1
        obtain ⟨rfl, _, rfl⟩ := h1
        have hcell := hown.cells (g := b) rfl
        have hfl : els.flatten.length = els.length * size := by rw [hvr.1, hown.1]
        have hblt : b < w.heap.size := (Array.getElem?_eq_some_iff.1 hh).1
        refine .lst els size b 0 cap (fun k j => xs.getD (k * size + j) undef) hle hmax hlen hone (fun k j hk hj => ?_) (fun k j hk hj => ?_)
        · have hlt : k * size + j < els.length * size := by
            have : (k + 1) * size ≤ els.length * size := Nat.mul_le_mul_right _ hk
            rw [Nat.add_mul] at this; omega
          rw [Nat.zero_add]
          have hlt' : k * size + j < xs.length := by rw [hown.1]; exact hlt
          refine ⟨by unfold Lent; rw [if_pos rfl]; exact ⟨hblt, rfl⟩, ?_⟩
          have := hcell (k * size + j) _ (List.getElem?_eq_getElem hlt')
          rw [Addr.add_mid, Nat.zero_add] at this
          rw [this]; simp [hlt']
        · have hcl := hlen _ (List.getElem_mem hk)
          obtain ⟨_, _, h3, h5⟩ := flatten_get els k j hlen hk (by omega)
          have hlt' : k * size + j < xs.length := by rw [hvr.1] at h3; exact h3
          have hv := hvr.2 (k * size + j) h3 hlt'
          rw [h5] at hv
          have e : xs.getD (k * size + j) undef = xs[k * size + j] := by simp [hlt']
          simp only [e]
          exact (hv.pure (hp _ (List.getElem_mem hk) _ (List.getElem_mem hj))).mono (Lent.of hs true) (fun _ _ => rfl)
  | ptr id off t cells cells' hent hl hoff hlen hp hone ih =>
    intro x hx
    subst hl
    obtain ⟨b, rfl, hk⟩ := hx.ptr_inv
    obtain ⟨b', cs, hk', hb, hheap, hvr, _, _⟩ := hs.ent _ _ hent
    rw [hk] at hk'; cases hk'
    have hblt : b < w.heap.size := (Array.getElem?_eq_some_iff.1 hheap).1
    have hcl : cells.length = cs.toList.length := hvr.1
    have := rptr_drop (Im := Lent w Im true) (w := w) (l := cells') (b := b) (o := 0) (vals := fun j => cs.toList.getD j undef) hone (fun j hj => by
      rw [Nat.zero_add]
      refine ⟨by unfold Lent; rw [if_pos rfl]; exact ⟨hblt, rfl⟩, ?_⟩
      rw [cell_of_row w b j cs t (0, 0) hheap]
      have : j < cs.size := by rw [hlen] at hj; simp at hcl; omega
      simp [this]) (fun j hj => by
      have h1 : j < cells.length := by omega
      have h2 : j < cs.toList.length := by omega
      have e : cs.toList.getD j undef = cs.toList[j] := by simp at h2; simp [h2]
      rw [e]
      exact ih j h1 hj (hvr.2 j h1 h2)) off
    rwa [Nat.zero_add] at this
  | fn f l l' m m' h1 h2 hl hm ihl ihm =>
    intro x hx
    obtain ⟨vs, us, rfl, hvs, hus⟩ := hx.fn_inv
    exact .fn _ _ _ _ _ (by rw [← h1, hvs.1]) (by rw [← h2, hus.1]) (fun j hj hj' => ihl j (by omega) hj (hvs.2 j (by omega) hj')) (fun j hj hj' => ihm j (by omega) hj (hus.2 j (by omega) hj'))
  | agg l l' h1 hone hl ih =>
    intro x hx
    obtain ⟨vs, rfl, hvs, _⟩ := hx.agg_inv
    exact .agg _ _ hone (by rw [← h1, hvs.1]) (fun j hj hj' => ih j (by omega) hj (hvs.2 j (by omega) hj'))

theorem coeL_ok (hs : SRel base κ Im σ w) {lend : Bool} {l m : List AV} (h : CoeL σ lend l m) : ∀ {vs : List Value}, VRL κ Im w l vs → IRL (Lent w Im lend) w m vs := by
  induction h with
  | nil => intro vs hv; exact ⟨hv.1, fun j h => by simp at h⟩
  | @cons a b l m h hl ih =>
    intro vs hv
    match vs, hv.1 with
    | v :: vs, _ =>
      have h1 := coe_ok hs h (hv.2 0 (by simp) (by simp))
      have h2 := ih (vs := vs) ⟨by simpa using hv.1, fun j hj hj' => hv.2 (j + 1) (by simpa using hj) (by simpa using hj')⟩
      refine ⟨by simp [h2.1], fun j hj hj' => ?_⟩
      cases j with
      | zero => exact h1
      | succ j => exact h2.2 j (by simpa using hj) (by simpa using hj')

theorem VR.none_key {κ' : Key} (hk : ∀ i n v, κ' i n = some v → False) {a : AV} {v : Value} (h : VR κ' Im w a v) : IR Im w a v := by
  have e : κ' = fun _ _ => none := by
    funext i n
    cases hh : κ' i n with
    | none => rfl
    | some v => exact (hk _ _ _ hh).elim
  subst e
  exact h.empty

theorem rig_ok {Im' : Addr → Prop} {w' : World} {r : AV} {v : Value} (h : IR Im w r v) (hr : rig r = true) : IR Im' w' r v := by
  induction h with
  | junk v => simp [rig] at hr
  | int k n => exact .int k n
  | bool b => exact .bool b
  | str s => exact .str s
  | flt k b => exact .flt k b
  | nilp => exact .nilp
  | rptr => simp [rig] at hr
  | nils => simp [rig] at hr
  | lnil _ => simp [rig] at hr
  | lst => simp [rig] at hr
  | nilm => exact .nilm
  | fn => simp [rig] at hr
  | nilf => exact .nilf
  | iface t a v h ih => exact .iface t a v (ih (by simpa [rig] using hr))
  | nili => exact .nili
  | agg cells vs hone h1 hv ih =>
    simp [rig] at hr
    exact .agg cells vs hone h1 fun j h h' => ih j h h' (hr _ (List.getElem_mem h))
  | tup cells vs h1 hv ih =>
    simp [rig] at hr
    exact .tup cells vs h1 fun j h h' => ih j h h' (hr _ (List.getElem_mem h))
  | any v => exact .any v
  | gp g off => exact .gp g off

/-- A call that touches no entry, made where there are some. -/
theorem pcall_ok {f : FuncId} {args args' : List AV} {R : AV → Prop} {vs : List Value} {lend : Bool} (hs : SRel base κ Im σ w) (hc : CoeL σ lend args args') (hp : PCalls P f args' R) (hv : VRL κ Im w args vs) :
    Calls P f vs.toArray w fun e w' => ∃ r v Im', e = .returned v ∧ R r ∧ IR Im' w' r v ∧ (∀ a, Lent w Im lend a → Im' a) ∧ (∀ a, Im' a → Lent w Im lend a ∨ (w.heap.size ≤ a.block ∧ a.block < w'.heap.size ∧ a.spot = none)) ∧ Below w.heap.size w w' := by
  have hir := coeL_ok hs hc hv
  have hs0 : SRel w.heap.size (fun _ _ => none) (Lent w Im lend) [] w := ⟨Nat.le_refl _, fun _ _ _ h => by simp at h, fun _ _ h => by simp at h, fun _ _ _ _ _ _ h => by simp at h, fun a h => by
    unfold Lent at h; split at h
    · exact h
    · exact hs.imlt a h, hs.glob.mono hs.hb (Lent.of hs lend) (fun _ _ => rfl) (fun _ _ => rfl)⟩
  refine (hp w.heap.size (fun _ _ => none) (Lent w Im lend) w vs hs0 ⟨hir.1, fun j h h' => .im _ _ (hir.2 j h h')⟩).mono ?_
  rintro e w' ⟨r, σ', v, κ', Im', rfl, ⟨rfl, hR⟩, hs', hg, hvr⟩
  refine ⟨r, v, Im', rfl, hR, hvr.none_key (fun i n u h => by obtain ⟨e, h1, _⟩ := hs'.dom _ _ _ h; simp at h1), hg.im, fun a h => ?_, hg.below⟩
  rcases hg.new a h with h' | h'
  · exact .inl h'
  · exact .inr ⟨h', (hs'.imlt a h).1, (hs'.imlt a h).2⟩

theorem acall_ok {f : FuncId} {args : List AV} {K : AV → Store → Prop} {vs : List Value} (hs : SRel base κ Im σ w) (hv : VRL κ Im w args vs) (h : acall P σ K f args) :
    Calls P f vs.toArray w fun e w' => ∃ r σ' v κ' Im', e = .returned v ∧ K r σ' ∧ SRel base κ' Im' σ' w' ∧ Grow base κ Im w κ' Im' w' ∧ VR κ' Im' w' r v := by
  rcases h with ⟨args', R, hc, hp, hR⟩ | ⟨args', R, hc, hp, hR⟩ | h
  · refine (pcall_ok hs hc hp hv).mono ?_
    rintro e w' ⟨r, v, Im', rfl, hr, hir, h1, h2, h3⟩
    have h1' : ∀ a, Im a → Im' a := fun a ha => h1 a (by unfold Lent; simpa using ha)
    have h2' : ∀ a, Im' a → Im a ∨ (w.heap.size ≤ a.block ∧ a.block < w'.heap.size ∧ a.spot = none) := fun a ha => (h2 a ha).imp (fun h => by unfold Lent at h; simpa using h) id
    refine ⟨r, σ, v, κ, Im', rfl, hR r hr, hs.world h1' h2' h3.size h3.block, ⟨fun _ _ _ h => h, h1', fun a ha => World.cell?_of_block (h3.block _ (hs.imlt a ha).1), fun a ha => (h2' a ha).imp id (fun h => Nat.le_trans hs.hb h.1), h3.mono hs.hb⟩, .im _ _ hir⟩
  · refine (pcall_ok hs hc hp hv).mono ?_
    rintro e w' ⟨r, v, Im', rfl, hr, hir, h1, h2, h3⟩
    obtain ⟨hrig, hK⟩ := hR r hr
    refine ⟨r, σ, v, κ, Im, rfl, hK, hs.world (fun _ h => h) (fun _ h => .inl h) h3.size h3.block, ⟨fun _ _ _ h => h, fun _ h => h, fun a ha => World.cell?_of_block (h3.block _ (hs.imlt a ha).1), fun _ h => .inl h, h3.mono hs.hb⟩, .im _ _ (rig_ok hir hrig)⟩
  · exact h base κ Im w vs hs hv

theorem callFunc_ok {f : FuncId} (h : hasBody P f = true) (args : Array Value) (w : World) : (callFunc f args).run P w = .ok (.enter f args) w := by
  unfold hasBody at h
  split at h
  · rename_i fn hf
    simp only [Bool.and_eq_true, bne_iff_ne, ne_eq] at h
    obtain ⟨c, hb⟩ := Option.isSome_iff_exists.1 h.1
    simp [callFunc, hf, h.2, hb]
  · cases h

theorem quiet_acall {f : FuncId} {args : List AV} {K : AV → Store → Prop} (h : aqcall P σ K f args) : acall P σ K f args := by
  obtain ⟨lend, args', r, hc, hp, hr, hK⟩ := h
  cases lend with
  | true => exact .inr (.inl ⟨args', fun r' => r' = r, hc, hp, fun r' h => by subst h; exact ⟨hr rfl, hK⟩⟩)
  | false => exact .inl ⟨args', fun r' => r' = r, hc, hp, fun r' h => by subst h; exact hK⟩

theorem quietOp_ok {loud : List FuncId} {K : AV → Store → Prop} {f : Frame} {ao : AOp} (h : awpOp P K f σ (quietOp loud ao)) : awpOp P K f σ ao := by
  cases ao <;> try exact h
  case call g args =>
    simp only [quietOp] at h
    split at h
    · exact h
    · exact quiet_acall h
  case callv x args =>
    simp only [quietOp, awpOp] at h ⊢
    split
    · rename_i g first captured he
      rw [he] at h
      exact ⟨h.1, quiet_acall h.2⟩
    · rename_i hne
      split at h
      · rename_i g first captured he
        exact absurd he (hne _ _ _)
      · exact h

theorem op_of_pure {o : Oper} {ao : AOp} {f : Frame} {a : Act} {K : AV → Store → Prop} {next : Act → World → Prop} {Q : Exit → Act → World → Prop} (hok : ∀ r, pstep σ f ao = some r → PureOK P κ Im w o a r) (hs : SRel base κ Im σ w) (hf : FRel κ Im w f a)
    (h : ∃ r, pstep σ f ao = some r ∧ K r σ)
    (hnext : ∀ r σ' κ' Im' v w', K r σ' → VR κ' Im' w' r v → SRel base κ' Im' σ' w' → Grow base κ Im w κ' Im' w' → next (a.put o.dst v) w') : o.wp P a w next Q := by
  obtain ⟨r, hr, hK⟩ := h
  obtain ⟨v, hrun, hv⟩ := hok _ hr
  unfold Oper.wp
  rw [hrun]
  exact hnext r σ κ Im v w hK hv hs (Grow.refl _ _ _ _)

theorem op_of_eff {o : Oper} {a : Act} {K : AV → Store → Prop} {next : Act → World → Prop} {Q : Exit → Act → World → Prop} (h : EffOK P base κ Im w o a K)
    (hnext : ∀ r σ' κ' Im' v w', K r σ' → VR κ' Im' w' r v → SRel base κ' Im' σ' w' → Grow base κ Im w κ' Im' w' → next (a.put o.dst v) w') : o.wp P a w next Q := by
  obtain ⟨v, w', κ', Im', r, σ', hrun, hK, hv, hs', hg⟩ := h
  unfold Oper.wp
  rcases hrun with hrun | ⟨hrun, rfl⟩ <;> rw [hrun]
  · exact hnext r σ' κ' Im' v w' hK hv hs' hg
  · exact hnext r σ' κ' Im' undef w' hK hv hs' hg

theorem op_of_call {o : Oper} {a : Act} {g : FuncId} {args : List AV} {vs : List Value} {K : AV → Store → Prop} {next : Act → World → Prop} {Q : Exit → Act → World → Prop} (hrun : (execOp a.eval o).run P w = .ok (.enter g vs.toArray) w) (hs : SRel base κ Im σ w) (hv : VRL κ Im w args vs) (h : acall P σ K g args)
    (hnext : ∀ r σ' κ' Im' v w', K r σ' → VR κ' Im' w' r v → SRel base κ' Im' σ' w' → Grow base κ Im w κ' Im' w' → next (a.put o.dst v) w') : o.wp P a w next Q := by
  unfold Oper.wp
  rw [hrun]
  refine (acall_ok hs hv h).mono ?_
  rintro e w' ⟨r, σ', v, κ', Im', rfl, hK, hs', hg, hvr⟩
  exact hnext r σ' κ' Im' v w' hK hvr hs' hg

/-- The operations of the first kind do what the abstract ones say. -/
theorem op0_ok {o : Oper} {ao : AOp} {f : Frame} {a : Act} {K : AV → Store → Prop} {next : Act → World → Prop} {Q : Exit → Act → World → Prop} (hc : compOp0 P o = some ao) (hs : SRel base κ Im σ w) (hf : FRel κ Im w f a)
    (h : awpOp P K f σ ao)
    (hnext : ∀ r σ' κ' Im' v w', K r σ' → VR κ' Im' w' r v → SRel base κ' Im' σ' w' → Grow base κ Im w κ' Im' w' → next (a.put o.dst v) w') : o.wp P a w next Q := by
  have hc0 := hc
  unfold compOp0 at hc
  split at hc
  case h_4 t ho =>
    simp only [Option.map_eq_some_iff] at hc
    obtain ⟨z, hz, rfl⟩ := hc
    exact op_of_eff (eff_alloc ho hz hs h) hnext
  case h_5 t x ho =>
    simp only [Option.map_eq_some_iff] at hc
    obtain ⟨x', hx, rfl⟩ := hc
    exact op_of_eff (eff_box ho hx hs hf h.1 h.2) hnext
  case h_7 t n parts ho =>
    split at hc
    case h_2 => cases hc
    rename_i e ht
    simp only [Option.bind_eq_bind, Option.bind_eq_some_iff, Option.pure_def] at hc
    obtain ⟨size, hsz, z, hz, hc⟩ := hc
    split at hc
    case isFalse => cases hc
    rename_i hcond
    simp only [Option.bind_eq_some_iff, Option.some.injEq] at hc
    obtain ⟨ps, hps, rfl⟩ := hc
    exact op_of_eff (eff_mklst ho ht hsz hz hcond.1 hcond.2.1 hcond.2.2 hps hs hf h) hnext
  case h_9 t x v ho =>
    simp only [Option.bind_eq_bind, Option.bind_eq_some_iff, Option.pure_def, Option.some.injEq] at hc
    obtain ⟨size, hsz, x', hx, v', hv, rfl⟩ := hc
    obtain ⟨σ', h1, h2, h3, h4⟩ := h
    exact op_of_eff (eff_store ho hsz hx hv hs hf h1 h2 h3 h4) hnext
  case h_17 t l c ho =>
    split at hc
    case h_2 => cases hc
    rename_i e ht
    simp only [Option.bind_eq_bind, Option.bind_eq_some_iff, Option.pure_def] at hc
    obtain ⟨i, hi, z, hz, hc⟩ := hc
    split at hc
    case isFalse => cases hc
    rename_i hcond
    simp only [Option.bind_eq_some_iff, Option.some.injEq] at hc
    obtain ⟨l', hl, c', hcc, rfl⟩ := hc
    exact op_of_eff (eff_mkslice ho ht hi hz hcond.1 hcond.2 hl hcc hs hf h) hnext
  case h_24 c ho =>
    split at hc
    · rename_i g hcal
      split at hc
      case h_2 => cases hc
      split at hc
      case isFalse => cases hc
      rename_i hb
      simp only [Option.bind_eq_bind, Option.bind_eq_some_iff, Option.pure_def, Option.some.injEq] at hc
      obtain ⟨args, hargs, rfl⟩ := hc
      refine op_of_call (g := g) ?_ hs (opds_ok (κ := κ) (Im := Im) (w := w) hf hargs) h hnext
      have hargs' : c.args.map a.eval = (c.args.toList.map a.eval).toArray := list_array2 (by rw [Array.toList_map])
      simp only [execOp, ho, resolve, hcal, Act.eval, Deferred.ofValue, Sem.run_bind, Sem.run_pure, Result.andThen_ok, invoke, Array.empty_append, Array.append_empty]
      rw [callFunc_ok hb, ← hargs']
    · rename_i t hcal
      simp only [Option.bind_eq_bind, Option.bind_eq_some_iff, Option.pure_def, Option.some.injEq] at hc
      obtain ⟨args, hargs, rfl⟩ := hc
      simp only [awpOp, ev_s] at h
      split at h
      case h_2 => exact h.elim
      rename_i g first captured he
      obtain ⟨hb, h⟩ := h
      have ht := hf t
      rw [he] at ht
      obtain ⟨vs, us, hval, h1, h2⟩ := ht.fn_inv
      refine op_of_call (g := g) (vs := vs ++ c.args.toList.map a.eval ++ us) ?_ hs ((h1.append (opds_ok (κ := κ) (Im := Im) (w := w) hf hargs)).append h2) h hnext
      have hargs' : c.args.map a.eval = (c.args.toList.map a.eval).toArray := list_array2 (by rw [Array.toList_map])
      have hev : a.eval (.tmp t) = .func (.func g) vs.toArray us.toArray := hval
      simp only [execOp, ho, resolve, hcal, hev, Deferred.ofValue, Sem.run_bind, Sem.run_pure, Result.andThen_ok, invoke]
      rw [callFunc_ok hb]
      congr 2
      rw [hargs']; simp
    · rename_i b hcal
      simp only [Option.bind_eq_bind, Option.bind_eq_some_iff] at hc
      obtain ⟨args, hargs, hc⟩ := hc
      by_cases happ : ∃ e size bytes x y, ao = .app e size bytes x y
      · obtain ⟨e, size, bytes, x, y, rfl⟩ := happ
        unfold compBuiltin at hc
        split at hc
        · (repeat' (split at hc)) <;> simp at hc
        · simp at hc
        · simp at hc
        · rename_i s t' x' y' hts
          split at hc
          case isFalse => (repeat' (split at hc)) <;> simp at hc
          rename_i hst; subst hst
          split at hc
          case h_2 => cases hc
          rename_i e' ht
          split at hc
          case h_2 => cases hc
          rename_i i hi
          split at hc
          case h_2 => cases hc
          rename_i z hz
          split at hc
          case isFalse => cases hc
          rename_i hcond
          simp only [Option.some.injEq, AOp.app.injEq] at hc
          obtain ⟨rfl, hsz, hby, rfl, rfl⟩ := hc
          exact op_of_eff (eff_app ho hcal hts hargs ht hi hz hcond.1 hcond.2 hsz hby hs hf h) hnext
        · cases hc
      · by_cases happs : ∃ e x y, ao = .apps e x y
        · obtain ⟨e, x, y, rfl⟩ := happs
          unfold compBuiltin at hc
          split at hc
          · (repeat' (split at hc)) <;> simp at hc
          · simp at hc
          · simp at hc
          · rename_i s t' x' y' hts
            split at hc
            case isTrue => (repeat' (split at hc)) <;> simp at hc
            split at hc
            case h_2 => cases hc
            rename_i e' ht hu
            split at hc
            case h_2 => cases hc
            rename_i i hi
            split at hc
            case h_2 => cases hc
            rename_i hz
            split at hc
            case isFalse => cases hc
            rename_i hcond
            simp only [Option.some.injEq, AOp.apps.injEq] at hc
            obtain ⟨rfl, rfl, rfl⟩ := hc
            exact op_of_eff (eff_apps ho hcal hts hargs ht hu hi hz hcond.1 hcond.2 hs hf h) hnext
          · cases hc
        refine op_of_pure (fun _ => pstep0_ok hc0 hs hf) hs hf ?_ hnext
        unfold compBuiltin at hc
        split at hc
        · (repeat' (split at hc)) <;> first
            | (cases hc; done)
            | (simp only [Option.some.injEq] at hc; subst hc; exact h)
        · simp only [Option.some.injEq] at hc; subst hc; exact h
        · simp only [Option.some.injEq] at hc; subst hc; exact h
        · (repeat' (split at hc)) <;> first
            | (cases hc; done)
            | (simp only [Option.some.injEq] at hc; exact (happs ⟨_, _, _, hc.symm⟩).elim)
            | (simp only [Option.some.injEq] at hc; exact (happ ⟨_, _, _, _, _, hc.symm⟩).elim)
        · cases hc
    · cases hc
  case h_25 => cases hc
  all_goals
    refine op_of_pure (fun _ => pstep0_ok hc0 hs hf) hs hf ?_ hnext
    (repeat' (split at hc)) <;> first
      | (cases hc; done)
      | (simp only [Option.bind_eq_bind, Option.bind_eq_some_iff, Option.map_eq_some_iff, Option.pure_def, Option.some.injEq] at hc
         first
           | (obtain ⟨_, _, rfl⟩ := hc; exact h)
           | (obtain ⟨_, _, _, _, rfl⟩ := hc; exact h)
           | (obtain ⟨_, _, _, _, _, _, rfl⟩ := hc; exact h)
           | (obtain ⟨_, _, _, _, _, _, _, _, rfl⟩ := hc; exact h)
           | (obtain ⟨_, _, _, _, hc⟩ := hc; split at hc <;> first
               | (cases hc; done)
               | (simp only [Option.bind_eq_some_iff, Option.some.injEq] at hc; obtain ⟨_, _, rfl⟩ := hc; exact h)))

/-- .. those of the second kind, too. -/
theorem opX_ok {o : Oper} {ao : AOp} {f : Frame} {a : Act} {K : AV → Store → Prop} {next : Act → World → Prop} {Q : Exit → Act → World → Prop} (hc : compX P o = some ao) (hs : SRel base κ Im σ w) (hf : FRel κ Im w f a)
    (h : awpOp P K f σ ao)
    (hnext : ∀ r σ' κ' Im' v w', K r σ' → VR κ' Im' w' r v → SRel base κ' Im' σ' w' → Grow base κ Im w κ' Im' w' → next (a.put o.dst v) w') : o.wp P a w next Q := by
  have hc0 := hc
  have hpure : (∃ r, pstep σ f ao = some r ∧ K r σ) → o.wp P a w next Q := fun h => op_of_pure (fun _ => xstep_ok hc0 hs hf) hs hf h hnext
  unfold compX at hc
  split at hc
  case h_1 op t x y yt ho =>
    split at hc
    · rename_i k n z hn
      simp only [Option.map_eq_some_iff] at hc
      obtain ⟨z', hz, hc⟩ := hc
      split at hc
      · rename_i hk3
        subst hk3 hc
        obtain ⟨b, hb, hK⟩ := nlc_val (K := K) (neg := n) h (opd_ok hz hf)
        have hrun := isnil3_ok (P := P) (w := w) hn hb
        unfold Oper.wp
        have he : (execOp a.eval o).run P w = .ok (.value (.bool (if n then !b else b))) w := by
          simp only [execOp, ho]
          rw [Sem.run_bind]
          simp only [hrun, Result.andThen_ok, Sem.run_pure]
        rw [he]
        exact hnext _ σ κ Im _ w hK (.im _ _ (.bool _)) hs (Grow.refl _ _ _ _)
      · subst hc
        exact hpure h
    · split at hc
      case h_2 => cases hc
      split at hc <;> first
        | (cases hc; done)
        | (simp only [Option.bind_eq_bind, Option.bind_eq_some_iff, Option.pure_def, Option.some.injEq] at hc
           obtain ⟨_, _, _, _, rfl⟩ := hc
           exact hpure h)
  case h_2 =>
    simp only [Option.map_eq_some_iff] at hc
    obtain ⟨_, _, rfl⟩ := hc
    exact hpure h
  case h_3 s t x ho =>
    split at hc
    · rename_i e hu1 hu2
      split at hc
      case h_2 => cases hc
      rename_i he
      simp only [Option.map_eq_some_iff] at hc
      obtain ⟨x', hx, rfl⟩ := hc
      obtain ⟨r, hr, hK⟩ := h
      exact op_of_eff (eff_tobytes ho hu1 hu2 he hx hs hf hr hK) hnext
    · split at hc
      case h_2 => cases hc
      split at hc
      case isFalse => cases hc
      simp only [Option.map_eq_some_iff] at hc
      obtain ⟨_, _, rfl⟩ := hc
      exact hpure h
    · cases hc
  case h_4 =>
    split at hc
    case h_2 => cases hc
    simp only [Option.bind_eq_bind, Option.bind_eq_some_iff, Option.pure_def] at hc
    obtain ⟨_, _, hc⟩ := hc
    split at hc
    case isFalse => cases hc
    simp only [Option.bind_eq_some_iff, Option.some.injEq] at hc
    obtain ⟨_, _, _, _, _, _, rfl⟩ := hc
    exact hpure h
  case h_5 ho =>
    simp only [Option.some.injEq] at hc; subst hc
    obtain ⟨r, σ', ⟨rfl, rfl⟩, hK⟩ := h
    exact op_of_eff (eff_mkmap ho hs hK) hnext
  case h_6 t m k v ho =>
    split at hc
    case h_2 => cases hc
    rename_i kt e ht
    simp only [Option.bind_eq_bind, Option.bind_eq_some_iff, Option.pure_def, Option.some.injEq] at hc
    obtain ⟨kind, hk, m', hm, k', hkk, v', hv, rfl⟩ := hc
    obtain ⟨r, σ', ⟨rfl, id, kv, kv', h1, h2, h3, h4, rfl⟩, hK⟩ := h
    exact op_of_eff (eff_mset (.inl ho) ht hk hm hkk hv hs hf h1 h2 h3 h4 hK) hnext
  case h_7 t m k v ho =>
    split at hc
    case h_2 => cases hc
    rename_i kt e ht
    simp only [Option.bind_eq_bind, Option.bind_eq_some_iff, Option.pure_def, Option.some.injEq] at hc
    obtain ⟨kind, hk, m', hm, k', hkk, v', hv, rfl⟩ := hc
    obtain ⟨r, σ', ⟨rfl, id, kv, kv', h1, h2, h3, h4, rfl⟩, hK⟩ := h
    exact op_of_eff (eff_mset (.inr ho) ht hk hm hkk hv hs hf h1 h2 h3 h4 hK) hnext
  case h_8 =>
    split at hc
    case h_2 => cases hc
    simp only [Option.bind_eq_bind, Option.bind_eq_some_iff, Option.pure_def, Option.some.injEq] at hc
    obtain ⟨_, _, _, _, _, _, _, _, _, _, _, _, rfl⟩ := hc
    exact hpure h
  case h_9 c ho =>
    split at hc
    · split at hc
      case h_2 => cases hc
      split at hc
      case h_2 => cases hc
      simp only [Option.map_eq_some_iff] at hc
      obtain ⟨_, _, rfl⟩ := hc
      exact hpure h
    · rename_i hcal
      split at hc
      case h_2 => cases hc
      rename_i t x hts hargs
      split at hc
      case h_2 => cases hc
      rename_i e ht
      simp only [Option.bind_eq_bind, Option.bind_eq_some_iff, Option.pure_def] at hc
      obtain ⟨i, hi, z, hz, hc⟩ := hc
      split at hc
      case isFalse => cases hc
      rename_i hcond
      simp only [Option.bind_eq_some_iff, Option.some.injEq] at hc
      obtain ⟨x', hx, rfl⟩ := hc
      obtain ⟨r, σ', ⟨rfl, h1⟩, hK⟩ := h
      exact op_of_eff (eff_clr ho hcal hts hargs ht hi hz hcond.1 hcond.2 hx hs hf h1 hK) hnext
    · split at hc
      case h_2 => cases hc
      split at hc
      case isFalse => cases hc
      split at hc
      case h_2 => cases hc
      simp only [Option.bind_eq_bind, Option.bind_eq_some_iff, Option.pure_def, Option.some.injEq] at hc
      obtain ⟨_, _, _, _, _, _, rfl⟩ := hc
      exact hpure h
    · cases hc
  case h_10 => cases hc

/-- EVERY OPERATION DOES WHAT THE ABSTRACT ONE SAYS. -/
theorem op_ok {o : Oper} {ao : AOp} {f : Frame} {a : Act} {K : AV → Store → Prop} {next : Act → World → Prop} {Q : Exit → Act → World → Prop} (hc : compOp P o = some ao) (hs : SRel base κ Im σ w) (hf : FRel κ Im w f a)
    (h : awpOp P K f σ ao)
    (hnext : ∀ r σ' κ' Im' v w', K r σ' → VR κ' Im' w' r v → SRel base κ' Im' σ' w' → Grow base κ Im w κ' Im' w' → next (a.put o.dst v) w') : o.wp P a w next Q := by
  unfold compOp at hc
  split at hc
  · rename_i a0 h0
    simp only [Option.some.injEq] at hc; subst hc
    exact op0_ok h0 hs hf h hnext
  · exact opX_ok hc hs hf h hnext

/-- A literal of a slice is of the first kind. -/
theorem compX_mklst {o : Oper} {e s n : Nat} {z : List AV} {ps : List (Nat × Opd)} (hc : compX P o = some (.mklst e s z n ps)) : False := by
  unfold compX at hc
  revert hc
  repeat' split
  all_goals simp [Option.bind_eq_some_iff]

/-- The same, where a literal of a slice is the call's own. -/
theorem op_own_ok {loud : List FuncId} {o : Oper} {ao : AOp} {f : Frame} {a : Act} {K : AV → Store → Prop} {next : Act → World → Prop} {Q : Exit → Act → World → Prop} (hc : compOp P o = some ao) (hs : SRel base κ Im σ w) (hf : FRel κ Im w f a)
    (h : awpOp P K f σ (ownOp loud ao))
    (hnext : ∀ r σ' κ' Im' v w', K r σ' → VR κ' Im' w' r v → SRel base κ' Im' σ' w' → Grow base κ Im w κ' Im' w' → next (a.put o.dst v) w') : o.wp P a w next Q := by
  unfold ownOp at h
  split at h
  case h_2 => exact op_ok hc hs hf h hnext
  rename_i e size z n ps
  split at h
  case isFalse => exact op_ok hc hs hf h hnext
  have hc0 := hc
  unfold compOp at hc
  split at hc
  case h_2 => exact (compX_mklst hc).elim
  rename_i a0 h00
  simp only [Option.some.injEq] at hc; subst hc
  have hc := h00
  unfold compOp0 at hc
  split at hc
  case h_7 t n' parts ho =>
    split at hc
    case h_2 => cases hc
    rename_i e' ht
    simp only [Option.bind_eq_bind, Option.bind_eq_some_iff, Option.pure_def] at hc
    obtain ⟨size, hsz, z, hz, hc⟩ := hc
    split at hc
    case isFalse => cases hc
    rename_i hcond
    simp only [Option.bind_eq_some_iff, Option.some.injEq] at hc
    obtain ⟨ps', hps, hc⟩ := hc
    simp only [AOp.mklst.injEq] at hc
    obtain ⟨rfl, rfl, rfl, rfl, rfl⟩ := hc
    exact op_of_eff (eff_mkrow ho ht hsz hz hcond.1 hcond.2.1 hcond.2.2 hps hs hf h) hnext
  case h_24 =>
    exfalso
    split at hc <;> try (simp at hc; done)
    · split at hc <;> try (simp at hc; done)
      split at hc <;> simp [Option.bind_eq_some_iff] at hc
    · simp [Option.bind_eq_some_iff] at hc
    · simp only [Option.bind_eq_bind, Option.bind_eq_some_iff] at hc
      obtain ⟨as, _, hc⟩ := hc
      unfold compBuiltin at hc
      split at hc <;> (repeat' split at hc) <;> simp at hc
  all_goals
    exfalso
    revert hc
    repeat' split
    all_goals simp [Option.bind_eq_some_iff]

end
end Go.Abs
end

section
/- Abstract machine, part 16: instructions that may change places. -/
set_option linter.unusedSimpArgs false
set_option linter.unusedVariables false
set_option linter.constructorNameAsVariable false
namespace Go.Abs
open Go.RowKit
variable {G : Globs}
section
variable {P : Program}

/-- What an operation that leaves the store as it is yields. -/
def NEv [Globs] (P : Program) (f : Frame) (σ : Store) (r : AV) : AOp → Prop
  | .qcall fn args => ∃ (lend : Bool) (args' : List AV), CoeL σ lend (args.map (·.ev f)) args' ∧ PCalls P fn args' (fun r' => r' = r) ∧ (lend = true → rig r = true)
  | .qcallv x args => match x.ev f with
    | .fn (.func g) first captured => hasBody P g = true ∧ ∃ (lend : Bool) (args' : List AV), CoeL σ lend (first ++ args.map (·.ev f) ++ captured) args' ∧ PCalls P g args' (fun r' => r' = r) ∧ (lend = true → rig r = true)
    | _ => False
  | .mklst _ size zero n parts => ∃ ps, (parts.mapM fun (p : Nat × Opd) => (share σ (p.2.ev f)).bind fun v => if v.cells.length = size ∧ v.cells.all AV.one then some (p.1 * size, v.cells) else none) = some ps ∧ r = .lst (chunks n size (lay (List.replicate n zero).flatten ps))
  | .tobytes x => bytesStep (x.ev f) = some r
  | o => pstep σ f o = some r

theorem nev_of {o : AOp} {K : AV → Store → Prop} {f : Frame} {σ : Store} (hn : o.neutral = true) (h : awpOp P K f σ o) : ∃ r, NEv P f σ r o ∧ K r σ := by
  cases o <;> first | (simp [AOp.neutral] at hn; done) | skip
  case qcall fn args =>
    obtain ⟨lend, args', r, h1, h2, h3, h4⟩ := h
    exact ⟨r, ⟨lend, args', h1, h2, h3⟩, h4⟩
  case qcallv x args =>
    simp only [awpOp] at h
    split at h
    · rename_i g first captured he
      obtain ⟨hb, lend, args', r, h1, h2, h3, h4⟩ := h
      exact ⟨r, by simp only [NEv, he]; exact ⟨hb, lend, args', h1, h2, h3⟩, h4⟩
    · exact h.elim
  case mklst e size zero n parts =>
    obtain ⟨ps, h1, h2⟩ := h
    exact ⟨_, ⟨ps, h1, rfl⟩, h2⟩
  all_goals exact h

theorem of_nev {o : AOp} {K : AV → Store → Prop} {f : Frame} {σ : Store} {r : AV} (hn : o.neutral = true) (h : NEv P f σ r o) (hK : K r σ) : awpOp P K f σ o := by
  cases o <;> first | (simp [AOp.neutral] at hn; done) | skip
  case qcall fn args =>
    obtain ⟨lend, args', h1, h2, h3⟩ := h
    exact ⟨lend, args', r, h1, h2, h3, hK⟩
  case qcallv x args =>
    simp only [NEv] at h
    simp only [awpOp]
    split at h
    · rename_i g first captured he
      simp only [he]
      obtain ⟨hb, lend, args', h1, h2, h3⟩ := h
      exact ⟨hb, lend, args', r, h1, h2, h3, hK⟩
    · exact h.elim
  case mklst e size zero n parts =>
    obtain ⟨ps, h1, rfl⟩ := h
    exact ⟨ps, h1, hK⟩
  all_goals exact ⟨r, h, hK⟩

theorem ev_agree {x : Opd} {f f' : Frame} (h : ∀ t ∈ x.slots, f t = f' t) : x.ev f = x.ev f' := by
  cases x with
  | s t => exact h t (by simp [Opd.slots])
  | c v => rfl
theorem evs_agree {l : List Opd} {f f' : Frame} (h : ∀ t ∈ l.flatMap Opd.slots, f t = f' t) : l.map (·.ev f) = l.map (·.ev f') := by
  apply List.map_congr_left
  intro x hx
  exact ev_agree fun t ht => h t (List.mem_flatMap.2 ⟨x, hx, ht⟩)
theorem evo_agree {l : Option Opd} {f f' : Frame} (h : ∀ t ∈ l.toList.flatMap Opd.slots, f t = f' t) : l.map (·.ev f) = l.map (·.ev f') := by
  cases l with
  | none => rfl
  | some x => simp only [Option.map_some]; rw [ev_agree fun t ht => h t (by simpa using ht)]
theorem mapM_congr {α β : Type} {g g' : α → Option β} : ∀ {l : List α}, (∀ a ∈ l, g a = g' a) → l.mapM g = l.mapM g'
  | [], _ => rfl
  | a :: l, h => by
    rw [List.mapM_cons, List.mapM_cons, h a (by simp), mapM_congr fun b hb => h b (by simp [hb])]

theorem xstep_agree {o : XOp} {σ : Store} {f f' : Frame} (h : ∀ t ∈ o.reads, f t = f' t) : xstep σ f o = xstep σ f' o := by
  cases o <;> simp only [XOp.reads, List.mem_append] at h <;> simp only [xstep]
  case look kind zero ok x y => rw [ev_agree (x := x) fun t ht => h t (.inl ht), ev_agree (x := y) fun t ht => h t (.inr ht)]
  case bit op x y => rw [ev_agree (x := x) fun t ht => h t (.inl ht), ev_agree (x := y) fun t ht => h t (.inr ht)]
  case cry x y z => rw [ev_agree (x := x) fun t ht => h t (.inl (.inl ht)), ev_agree (x := y) fun t ht => h t (.inl (.inr ht)), ev_agree (x := z) fun t ht => h t (.inr ht)]
  case aslc len size x lo hi => rw [ev_agree (x := x) fun t ht => h t (.inl (.inl ht)), evo_agree (l := lo) fun t ht => h t (.inl (.inr ht)), evo_agree (l := hi) fun t ht => h t (.inr ht)]
  case iload ag size x => rw [ev_agree (x := x) fun t ht => h t ht]
  case iidx size x i => rw [ev_agree (x := x) fun t ht => h t (.inl ht), ev_agree (x := i) fun t ht => h t (.inr ht)]
  all_goals (rename_i x; rw [ev_agree (x := x) fun t ht => h t ht])

theorem pstep_agree {o : AOp} {σ : Store} {f f' : Frame} (h : ∀ t ∈ o.reads, f t = f' t) : pstep σ f o = pstep σ f' o := by
  cases o <;> simp only [AOp.reads, List.mem_append] at h <;> simp only [pstep]
  case px o => exact xstep_agree h
  case build zero ps =>
    congr 1
    exact mapM_congr fun p hp => by rw [ev_agree (x := p.2.2) fun t ht => h t (List.mem_flatMap.2 ⟨p, hp, ht⟩)]
  case mkfn fn l m =>
    rw [evs_agree fun t ht => h t (.inl ht), evs_agree fun t ht => h t (.inr ht)]
  case sslc x lo hi =>
    rw [ev_agree (x := x) fun t ht => h t (.inl (.inl ht)), evo_agree (l := lo) fun t ht => h t (.inl (.inr ht)), evo_agree (l := hi) fun t ht => h t (.inr ht)]
  case slc size x lo hi =>
    rw [ev_agree (x := x) fun t ht => h t (.inl (.inl ht)), evo_agree (l := lo) fun t ht => h t (.inl (.inr ht)), evo_agree (l := hi) fun t ht => h t (.inr ht)]
  case pick c a b =>
    rw [ev_agree (x := c) fun t ht => h t (.inl (.inl ht)), ev_agree (x := a) fun t ht => h t (.inl (.inr ht)), ev_agree (x := b) fun t ht => h t (.inr ht)]
  all_goals first
    | rfl
    | (rename_i x y; rw [ev_agree (x := x) fun t ht => h t (.inl ht), ev_agree (x := y) fun t ht => h t (.inr ht)])
    | (rename_i x; rw [ev_agree (x := x) fun t ht => h t ht])
    | (rename_i x _; rw [ev_agree (x := x) fun t ht => h t ht])

theorem awpOp_agree {o : AOp} {K : AV → Store → Prop} {σ : Store} {f f' : Frame} (h : ∀ t ∈ o.reads, f t = f' t) (h0 : awpOp P K f σ o) : awpOp P K f' σ o := by
  have hp := pstep_agree (G := G) (σ := σ) h
  cases o <;> simp only [AOp.reads, List.mem_append] at h
  case alloc => exact h0
  case box t x => simp only [awpOp] at h0 ⊢; rwa [← ev_agree (x := x) h]
  case store n x y => simp only [awpOp] at h0 ⊢; rwa [← ev_agree (x := x) fun t ht => h t (.inl ht), ← ev_agree (x := y) fun t ht => h t (.inr ht)]
  case mkslice e s b z x y => simp only [awpOp] at h0 ⊢; rwa [← ev_agree (x := x) fun t ht => h t (.inl ht), ← ev_agree (x := y) fun t ht => h t (.inr ht)]
  case mklst e size zero n ps =>
    simp only [awpOp] at h0 ⊢
    obtain ⟨qs, h1, h2⟩ := h0
    refine ⟨qs, ?_, h2⟩
    rw [← h1]
    exact mapM_congr fun p hp => by rw [ev_agree (x := p.2) fun t ht => h t (List.mem_flatMap.2 ⟨p, hp, ht⟩)]
  case mkrow e size zero n ps =>
    simp only [awpOp] at h0 ⊢
    obtain ⟨qs, h1, h2⟩ := h0
    refine ⟨qs, ?_, h2⟩
    rw [← h1]
    exact mapM_congr fun p hp => by rw [ev_agree (x := p.2) fun t ht => h t (List.mem_flatMap.2 ⟨p, hp, ht⟩)]
  case app e s b x y => simp only [awpOp] at h0 ⊢; rwa [← ev_agree (x := x) fun t ht => h t (.inl ht), ← ev_agree (x := y) fun t ht => h t (.inr ht)]
  case apps e x y => simp only [awpOp] at h0 ⊢; rwa [← ev_agree (x := x) fun t ht => h t (.inl ht), ← ev_agree (x := y) fun t ht => h t (.inr ht)]
  case call fn l => simp only [awpOp] at h0 ⊢; rwa [← evs_agree h]
  case qcall fn l => simp only [awpOp] at h0 ⊢; rwa [← evs_agree h]
  case callv x l => simp only [awpOp] at h0 ⊢; rwa [← ev_agree (x := x) fun t ht => h t (.inl ht), ← evs_agree (l := l) fun t ht => h t (.inr ht)]
  case qcallv x l => simp only [awpOp] at h0 ⊢; rwa [← ev_agree (x := x) fun t ht => h t (.inl ht), ← evs_agree (l := l) fun t ht => h t (.inr ht)]
  case tobytes x => simp only [awpOp] at h0 ⊢; rwa [← ev_agree (x := x) h]
  case ex o =>
    obtain ⟨r, σ', h1, h2⟩ := h0
    refine ⟨r, σ', ?_, h2⟩
    cases o <;> simp only [EOp.reads, List.mem_append] at h <;> simp only [EStep] at h1 ⊢
    case mkmap => exact h1
    case mset kind x k v => rwa [← ev_agree (x := x) fun t ht => h t (.inl (.inl ht)), ← ev_agree (x := k) fun t ht => h t (.inl (.inr ht)), ← ev_agree (x := v) fun t ht => h t (.inr ht)]
    case clr size z x => rwa [← ev_agree (x := x) h]
  case nlc neg x => simp only [awpOp] at h0 ⊢; rwa [← ev_agree (x := x) h]
  case bad => exact h0.elim
  all_goals
    obtain ⟨r, h1, h2⟩ := h0
    exact ⟨r, by rw [← hp]; exact h1, h2⟩

theorem nev_agree {o : AOp} {σ : Store} {f f' : Frame} {r : AV} (hn : o.neutral = true) (h : ∀ t ∈ o.reads, f t = f' t) (h0 : NEv P f σ r o) : NEv P f' σ r o := by
  have h1 := awpOp_agree (P := P) h (of_nev (K := fun r' _ => r' = r) hn h0 rfl)
  obtain ⟨r', h2, rfl⟩ := nev_of hn h1
  exact h2

theorem nev_blind {o : AOp} {σ σ' : Store} {f : Frame} {r : AV} (hb : o.blind = true) (h : NEv P f σ r o) : NEv P f σ' r o := by
  cases o <;> first | (simp [AOp.blind] at hb; done) | exact h | skip
  rename_i o
  cases o <;> first | (simp [AOp.blind] at hb; done) | exact h

theorem get_more {α : Type} {l : List α} {e a : α} {i : Nat} (h : l[i]? = some a) : (l ++ [e])[i]? = some a := by
  rw [List.getElem?_append_left (List.getElem?_eq_some_iff.1 h).1]; exact h

theorem share1_more {σ : Store} {e : Entry} {X r : AV} (h : share1 σ X = some r) : share1 (σ ++ [e]) X = some r := by
  unfold share1 at h ⊢
  split at h
  · split at h
    case h_2 => cases h
    rename_i he
    simp only [get_more he]; exact h
  · exact h
  · exact h
theorem mapM_more {α β : Type} {g g' : α → Option β} (hg : ∀ a b, g a = some b → g' a = some b) : ∀ {l : List α} {m : List β}, l.mapM g = some m → l.mapM g' = some m
  | [], m, h => by simpa using h
  | a :: l, m, h => by
    rw [List.mapM_cons] at h ⊢
    simp only [Option.bind_eq_bind, Option.bind_eq_some_iff, Option.pure_def, Option.some.injEq] at h ⊢
    obtain ⟨b, hb, m', hm', rfl⟩ := h
    exact ⟨b, hg _ _ hb, m', mapM_more hg hm', rfl⟩
theorem share_more {σ : Store} {e : Entry} {X r : AV} (h : share σ X = some r) : share (σ ++ [e]) X = some r := by
  unfold share at h ⊢
  split at h
  · simp only [Option.map_eq_some_iff] at h ⊢
    obtain ⟨m, hm, rfl⟩ := h
    exact ⟨m, mapM_more (fun _ _ => share1_more) hm, rfl⟩
  · simp only [Option.map_eq_some_iff] at h ⊢
    obtain ⟨m, hm, rfl⟩ := h
    refine ⟨m, mapM_more (fun a b hab => ?_) hm, rfl⟩
    split at hab
    · simp only [Option.map_eq_some_iff] at hab ⊢
      obtain ⟨m', hm', rfl⟩ := hab
      exact ⟨m', mapM_more (fun _ _ => share1_more) hm', rfl⟩
    · exact share1_more hab
  · exact share1_more h
theorem coe_more {σ : Store} {e : Entry} {lend : Bool} {X Y : AV} (h : Coe σ lend X Y) : Coe (σ ++ [e]) lend X Y := by
  induction h with
  | pure a hp => exact .pure a hp
  | nils => exact .nils
  | row id n ty size els im he hn hp => exact .row id n ty size els im (get_more he) hn hp
  | ptr id off t cells cells' he hl hoff hlen hp hone ih => exact .ptr id off t cells cells' (get_more he) hl hoff hlen ih hone
  | fn f l l' m m' h1 h2 hl hm ihl ihm => exact .fn f l l' m m' h1 h2 ihl ihm
  | agg l l' h1 hone hl ih => exact .agg l l' h1 hone ih
theorem coeL_more {σ : Store} {e : Entry} {lend : Bool} {l m : List AV} (h : CoeL σ lend l m) : CoeL (σ ++ [e]) lend l m := by
  induction h with
  | nil => exact .nil
  | cons h hl ih => exact .cons (coe_more h) ih
theorem cellsAt_more {σ : Store} {e : Entry} {X : AV} {n : Nat} {l : List AV} (h : cellsAt σ X n = some l) : cellsAt (σ ++ [e]) X n = some l := by
  cases X <;> simp only [cellsAt] at h ⊢ <;> first
    | exact h
    | (split at h
       · rename_i he; simp only [get_more he]; exact h
       · cases h)
theorem view_more {σ : Store} {e : Entry} {X : AV} {l : List (List AV)} (h : view σ X = some l) : view (σ ++ [e]) X = some l := by
  cases X <;> simp only [view] at h ⊢ <;> first
    | exact h
    | (split at h
       · rename_i he; simp only [get_more he]; exact h
       · cases h)

theorem mapView_more {σ : Store} {e : Entry} {X : AV} {kv : List (AV × AV)} (h : mapView σ X = some kv) : mapView (σ ++ [e]) X = some kv := by
  unfold mapView at h ⊢
  split at h
  · exact h
  · split at h
    · rename_i he; simp only [get_more he]; exact h
    · cases h
  · cases h
theorem xstep_more {o : XOp} {σ : Store} {e : Entry} {f : Frame} {r : AV} (h : xstep σ f o = some r) : xstep (σ ++ [e]) f o = some r := by
  cases o <;> simp only [xstep] at h ⊢ <;> try exact h
  case tostr x =>
    simp only [Option.map_eq_some_iff, Option.bind_eq_some_iff] at h ⊢
    obtain ⟨s, ⟨l, hl, hs⟩, hr⟩ := h
    exact ⟨s, ⟨l, view_more hl, hs⟩, hr⟩
  case look kind zero ok x k =>
    simp only [Option.bind_eq_some_iff] at h ⊢
    obtain ⟨l, hl, hr⟩ := h
    exact ⟨l, mapView_more hl, hr⟩
  case mlen x =>
    simp only [Option.map_eq_some_iff] at h ⊢
    obtain ⟨l, hl, hr⟩ := h
    exact ⟨l, mapView_more hl, hr⟩

theorem pstep_more {o : AOp} {σ : Store} {e : Entry} {f : Frame} {r : AV} (h : pstep σ f o = some r) : pstep (σ ++ [e]) f o = some r := by
  cases o <;> simp only [pstep] at h ⊢ <;> try exact h
  case load ag size x =>
    simp only [Option.bind_eq_some_iff] at h ⊢
    obtain ⟨l, hl, hr⟩ := h
    exact ⟨l, cellsAt_more hl, hr⟩
  case len x =>
    simp only [Option.map_eq_some_iff] at h ⊢
    obtain ⟨l, hl, hr⟩ := h
    exact ⟨l, view_more hl, hr⟩
  case px o => exact xstep_more h
  case iaddr size x i =>
    split at h
    · exact h
    · split at h
      · rename_i he; simp only [get_more he]; exact h
      · cases h
    · exact h
    · exact h
    · cases h
  case slc size x lo hi =>
    split at h
    · exact h
    · exact h
    · split at h
      · rename_i he; simp only [get_more he]; exact h
      · rename_i he; simp only [get_more he]; exact h
      · cases h
    · exact h
    · exact h
    · cases h

theorem nev_more {o : AOp} {σ : Store} {e : Entry} {f : Frame} {r : AV} (hn : o.neutral = true) (h : NEv P f σ r o) : NEv P f (σ ++ [e]) r o := by
  cases o <;> first | (simp [AOp.neutral] at hn; done) | skip
  case qcall fn args =>
    obtain ⟨lend, args', h1, h2, h3⟩ := h
    exact ⟨lend, args', coeL_more h1, h2, h3⟩
  case qcallv x args =>
    simp only [NEv] at h ⊢
    split at h
    · obtain ⟨hb, lend, args', h1, h2, h3⟩ := h
      exact ⟨hb, lend, args', coeL_more h1, h2, h3⟩
    · exact h
  case mklst ty size zero n parts =>
    obtain ⟨ps, h1, h2⟩ := h
    refine ⟨ps, mapM_more (fun a b hab => ?_) h1, h2⟩
    simp only [Option.bind_eq_some_iff] at hab ⊢
    obtain ⟨v, hv, hb⟩ := hab
    exact ⟨v, share_more hv, hb⟩
  case tobytes x => exact h
  all_goals exact pstep_more h
end
end Go.Abs
end

section
/- Abstract machine, part 17: regions, in order and in any order. -/
set_option linter.unusedSimpArgs false
set_option linter.unusedVariables false
set_option linter.constructorNameAsVariable false
namespace Go.Abs
open Go.RowKit
variable {G : Globs}
section
variable {P : Program} {base : Nat} {κ : Key} {Im : Addr → Prop} {w : World} {σ : Store}

/-- More is known behind an operation: what leaves the store as it is leaves it; what makes an entry makes one. -/
theorem awpOp_info {o : AOp} {K K' : AV → Store → Prop} {f : Frame} {σ : Store} (h : awpOp P K f σ o) (hK : ∀ r σ', K r σ' → (o.neutral = true → σ' = σ) → (o.makes = true → ∃ e, σ' = σ ++ [e]) → K' r σ') : awpOp P K' f σ o := by
  by_cases hn : o.neutral = true
  · obtain ⟨r, h1, h2⟩ := nev_of hn h
    exact of_nev hn h1 (hK r σ h2 (fun _ => rfl) (fun hm => by cases o <;> simp [AOp.neutral, AOp.makes] at hn hm))
  · cases o <;> first | (exact absurd rfl hn) | skip
    case alloc t cells => exact hK _ _ h (fun hh => absurd hh hn) (fun _ => ⟨_, rfl⟩)
    case box t x => exact ⟨h.1, hK _ _ h.2 (fun hh => absurd hh hn) (fun _ => ⟨_, rfl⟩)⟩
    case store n x y =>
      obtain ⟨σ', h1, h2, h3, h4⟩ := h
      exact ⟨σ', h1, h2, h3, hK _ _ h4 (fun hh => absurd hh hn) (fun hh => by simp [AOp.makes] at hh)⟩
    case mkslice e s b z x y =>
      obtain ⟨n, c, h1, h2, h3, h4, h5, h6, h7, h8⟩ := h
      exact ⟨n, c, h1, h2, h3, h4, h5, h6, h7, hK _ _ h8 (fun hh => absurd hh hn) (fun _ => ⟨_, rfl⟩)⟩
    case mkrow e s z n ps =>
      obtain ⟨qs, h1, h2, h3⟩ := h
      exact ⟨qs, h1, h2, hK _ _ h3 (fun hh => absurd hh hn) (fun _ => ⟨_, rfl⟩)⟩
    case app e s b x y =>
      simp only [awpOp] at h ⊢
      obtain ⟨m, h1, h2, h3, h4⟩ := h
      refine ⟨m, h1, h2, h3, ?_⟩
      split at h4
      · rcases h4 with ⟨g0, g3⟩ | ⟨im, g0, g1, g2, g3⟩
        · exact .inl ⟨g0, hK _ _ g3 (fun hh => absurd hh hn) (fun hh => by simp [AOp.makes] at hh)⟩
        exact .inr ⟨im, g0, g1, g2, hK _ _ g3 (fun hh => absurd hh hn) (fun hh => by simp [AOp.makes] at hh)⟩
      · obtain ⟨els, im, g1, g0, g2, g3, g4, g5⟩ := h4
        exact ⟨els, im, g1, g0, g2, g3, g4, hK _ _ g5 (fun hh => absurd hh hn) (fun hh => by simp [AOp.makes] at hh)⟩
      · exact h4.elim
    case apps e x y =>
      simp only [awpOp] at h ⊢
      obtain ⟨l, h1, h4⟩ := h
      refine ⟨l, h1, ?_⟩
      split at h4
      · rcases h4 with ⟨g0, g3⟩ | ⟨im, g0, g3⟩
        · exact .inl ⟨g0, hK _ _ g3 (fun hh => absurd hh hn) (fun hh => by simp [AOp.makes] at hh)⟩
        exact .inr ⟨im, g0, hK _ _ g3 (fun hh => absurd hh hn) (fun hh => by simp [AOp.makes] at hh)⟩
      · obtain ⟨els, im, g1, g2, g3, g5⟩ := h4
        exact ⟨els, im, g1, g2, g3, hK _ _ g5 (fun hh => absurd hh hn) (fun hh => by simp [AOp.makes] at hh)⟩
      · exact h4.elim
    case call fn l =>
      rcases h with ⟨args', R, h1, h2, h3⟩ | ⟨args', R, h1, h2, h3⟩ | h
      · exact .inl ⟨args', R, h1, h2, fun r hr => hK _ _ (h3 r hr) (fun hh => absurd hh hn) (fun hh => by simp [AOp.makes] at hh)⟩
      · exact .inr (.inl ⟨args', R, h1, h2, fun r hr => ⟨(h3 r hr).1, hK _ _ (h3 r hr).2 (fun hh => absurd hh hn) (fun hh => by simp [AOp.makes] at hh)⟩⟩)
      · exact .inr (.inr (h.mono fun r σ' hr => hK _ _ hr (fun hh => absurd hh hn) (fun hh => by simp [AOp.makes] at hh)))
    case callv x l =>
      simp only [awpOp] at h ⊢
      split at h
      · rename_i g first captured he
        refine ⟨h.1, ?_⟩
        rcases h.2 with ⟨args', R, h1, h2, h3⟩ | ⟨args', R, h1, h2, h3⟩ | h
        · exact .inl ⟨args', R, h1, h2, fun r hr => hK _ _ (h3 r hr) (fun hh => absurd hh hn) (fun hh => by simp [AOp.makes] at hh)⟩
        · exact .inr (.inl ⟨args', R, h1, h2, fun r hr => ⟨(h3 r hr).1, hK _ _ (h3 r hr).2 (fun hh => absurd hh hn) (fun hh => by simp [AOp.makes] at hh)⟩⟩)
        · exact .inr (.inr (h.mono fun r σ' hr => hK _ _ hr (fun hh => absurd hh hn) (fun hh => by simp [AOp.makes] at hh)))
      · exact h.elim
    case ex o =>
      obtain ⟨r, σ', h1, h2⟩ := h
      refine ⟨r, σ', h1, hK _ _ h2 (fun hh => absurd hh hn) (fun hm => ?_)⟩
      cases o
      · exact ⟨_, h1.2⟩
      · simp [AOp.makes] at hm
      · simp [AOp.makes] at hm
    case nlc neg x =>
      simp only [awpOp] at h ⊢
      split at h
      · exact fun b => hK _ _ (h b) (fun hh => absurd hh hn) (fun hh => by simp [AOp.makes] at hh)
      · obtain ⟨b, h1, h2⟩ := h
        exact ⟨b, h1, hK _ _ h2 (fun hh => absurd hh hn) (fun hh => by simp [AOp.makes] at hh)⟩
    case bad => exact h.elim

/-- What an instruction that leaves the store as it is lays into its slot. -/
def JEv [Globs] (P : Program) (j : AIns) (f : Frame) (σ : Store) (r : AV) : Prop := match j.g with
  | none => NEv P f σ r j.o
  | some (t, b) => ∃ w, Wants (f t) b w ∧ (w = true → NEv P f σ r j.o) ∧ (w = false → r = .any undef)

theorem ins_split {j : AIns} {K : Frame → Store → Prop} {f : Frame} {σ : Store} (hn : j.o.neutral = true) (h : awpIns P K j f σ) : ∃ r, JEv P j f σ r ∧ K (f.put j.d r) σ := by
  obtain ⟨g, d, o⟩ := j
  cases g with
  | none =>
    obtain ⟨r, h1, h2⟩ := nev_of (K := fun r σ' => K (f.put d r) σ') hn h
    exact ⟨r, h1, h2⟩
  | some p =>
    obtain ⟨t, b⟩ := p
    obtain ⟨c, h1, h2, h3⟩ := h
    cases c with
    | true =>
      obtain ⟨r, h4, h5⟩ := nev_of hn (h2 rfl)
      exact ⟨r, ⟨true, h1, fun _ => h4, nofun⟩, h5⟩
    | false => exact ⟨.any undef, ⟨false, h1, nofun, fun _ => rfl⟩, h3 rfl⟩
theorem ins_join {j : AIns} {K : Frame → Store → Prop} {f : Frame} {σ : Store} {r : AV} (hn : j.o.neutral = true) (h : JEv P j f σ r) (hK : K (f.put j.d r) σ) : awpIns P K j f σ := by
  obtain ⟨g, d, o⟩ := j
  cases g with
  | none => exact of_nev (K := fun r σ' => K (f.put d r) σ') hn h hK
  | some p =>
    obtain ⟨t, b⟩ := p
    obtain ⟨c, h1, h2, h3⟩ := h
    refine ⟨c, h1, fun hc => of_nev (K := fun r σ' => K (f.put d r) σ') hn (h2 hc) hK, fun hc => ?_⟩
    rw [← h3 hc]; exact hK

theorem jev_step {j : AIns} {f f' : Frame} {σ σ' : Store} {r : AV} (hn : j.o.neutral = true) (hf : ∀ t ∈ j.reads, f t = f' t) (hσ : σ' = σ ∨ (∃ e, σ' = σ ++ [e]) ∨ j.o.blind = true) (h : JEv P j f σ r) : JEv P j f' σ' r := by
  have hop : ∀ t ∈ j.o.reads, f t = f' t := fun t ht => hf t (by unfold AIns.reads; simp [ht])
  have key : NEv P f σ r j.o → NEv P f' σ' r j.o := fun h0 => by
    have h1 := nev_agree hn hop h0
    rcases hσ with rfl | ⟨e, rfl⟩ | hb
    · exact h1
    · exact nev_more hn h1
    · exact nev_blind hb h1
  unfold JEv at h ⊢
  split at h
  · exact key h
  · rename_i t b hg
    obtain ⟨c, h1, h2, h3⟩ := h
    exact ⟨c, by rw [← hf t (by unfold AIns.reads; simp [hg])]; exact h1, fun hc => key (h2 hc), h3⟩

theorem put_comm (f : Frame) (d d' : Option Nat) (r r' : AV) (h : ∀ x, d = some x → d' ≠ some x) : (f.put d r).put d' r' = (f.put d' r').put d r := by
  cases d with
  | none => rfl
  | some x =>
    cases d' with
    | none => rfl
    | some y =>
      have hxy : x ≠ y := fun e => h x rfl (by rw [e])
      funext t
      simp only [Frame.put_some]
      by_cases h1 : t = y <;> by_cases h2 : t = x <;> simp [h1, h2] <;> omega

theorem put_other {f : Frame} {d : Option Nat} {r : AV} {t : Nat} (h : d ≠ some t) : f.put d r t = f t := by
  cases d with
  | none => rfl
  | some x => simp only [Frame.put_some]; rw [if_neg]; intro e; exact h (by rw [e])

/-- The one that stands behind may come first. -/
theorem ins_swap {j i : AIns} {K : Frame → Store → Prop} {f : Frame} {σ : Store} (hc : commOK j i = true) (h : awpIns P (awpIns P K i) j f σ) : awpIns P (awpIns P K j) i f σ := by
  unfold commOK at hc
  simp only [Bool.and_eq_true, Bool.or_eq_true] at hc
  obtain ⟨⟨⟨hn, hj⟩, hi⟩, hσ⟩ := hc
  have hjd : ∀ d, j.d = some d → d ∉ i.reads ∧ i.d ≠ some d := fun d hd => by
    rw [hd] at hj; simpa using hj
  have hid : ∀ d, i.d = some d → d ∉ j.reads := fun d hd => by
    rw [hd] at hi; simpa using hi
  obtain ⟨r, hr, h⟩ := ins_split hn h
  have hread : ∀ t ∈ i.reads, (f.put j.d r) t = f t := fun t ht => put_other fun e => (hjd t e).1 ht
  have hcomm : ∀ r2, (f.put j.d r).put i.d r2 = (f.put i.d r2).put j.d r := fun r2 => put_comm f _ _ _ _ fun x hx => (hjd x hx).2
  have hfin : ∀ r2 σ2, K ((f.put j.d r).put i.d r2) σ2 → (σ2 = σ ∨ (∃ e, σ2 = σ ++ [e]) ∨ j.o.blind = true) → awpIns P K j (f.put i.d r2) σ2 := fun r2 σ2 hK hs =>
    ins_join hn (jev_step hn (fun t ht => (put_other fun e => hid t e ht).symm) hs hr) (by rw [← hcomm]; exact hK)
  have hcls : ∀ σ2, (i.o.neutral = true → σ2 = σ) → (i.o.makes = true → ∃ e, σ2 = σ ++ [e]) → (σ2 = σ ∨ (∃ e, σ2 = σ ++ [e]) ∨ j.o.blind = true) := fun σ2 h1 h2 => by
    rcases hσ with (hb | hb) | hb
    · exact .inr (.inr hb)
    · exact .inl (h1 hb)
    · exact .inr (.inl (h2 hb))
  have hop : ∀ t ∈ i.o.reads, (f.put j.d r) t = f t := fun t ht => hread t (by unfold AIns.reads; simp [ht])
  unfold awpIns at h
  show awpIns P (awpIns P K j) i f σ
  unfold awpIns
  split at h
  · exact awpOp_info (awpOp_agree hop h) fun r2 σ2 hK h1 h2 => hfin r2 σ2 hK (hcls σ2 h1 h2)
  · rename_i t b hg
    obtain ⟨c, h1, h2, h3⟩ := h
    refine ⟨c, by rw [← hread t (by unfold AIns.reads; simp [hg])]; exact h1, fun hcb => ?_, fun hcb => ?_⟩
    · exact awpOp_info (awpOp_agree hop (h2 hcb)) fun r2 σ2 hK h1 h2 => hfin r2 σ2 hK (hcls σ2 h1 h2)
    · exact hfin (.any undef) σ (h3 hcb) (.inl rfl)

theorem awpIns_mono {i : AIns} {K K' : Frame → Store → Prop} {f : Frame} {σ : Store} (hK : ∀ f σ, K f σ → K' f σ) (h : awpIns P K i f σ) : awpIns P K' i f σ := by
  unfold awpIns at h ⊢
  split at h
  · exact awpOp_info h fun r σ' h0 _ _ => hK _ _ h0
  · obtain ⟨c, h1, h2, h3⟩ := h
    exact ⟨c, h1, fun hc => awpOp_info (h2 hc) fun r σ' h0 _ _ => hK _ _ h0, fun hc => hK _ _ (h3 hc)⟩

/-- One that may change places with all that stand ahead of it may come first. -/
theorem ops_pull {Q : Frame → Store → Prop} {i : AIns} {post : List AIns} : ∀ (pre : List AIns) (f : Frame) (σ : Store), (∀ j ∈ pre, commOK j i = true) → awpOps P Q (pre ++ i :: post) f σ → awpIns P (awpOps P Q (pre ++ post)) i f σ
  | [], f, σ, _, h => h
  | j :: pre, f, σ, hc, h => by
    have h1 : awpIns P (awpIns P (awpOps P Q (pre ++ post)) i) j f σ := awpIns_mono (fun f' σ' h' => ops_pull pre f' σ' (fun k hk => hc k (by simp [hk])) h') h
    exact ins_swap (hc j (by simp)) h1

/-- An instruction does what the abstract one says. -/
theorem ins_ok {N : Nat} {ops : Array Oper} {loud : List FuncId} {o : Oper} {f : Frame} {a : Act} {K : Frame → Store → Prop} {next : Act → World → Prop} {Q : Exit → Act → World → Prop} (hs : SRel base κ Im σ w) (hf : FRel κ Im w f a) (hN : a.tmps.size = N)
    (h : awpIns P K (quieten loud (owned loud (compIns P N ops o))) f σ ∨ awpIns P K (owned loud (compIns P N ops o)) f σ)
    (hnext : ∀ f' σ' κ' Im' a' w', K f' σ' → FRel κ' Im' w' f' a' → a'.tmps.size = N → a'.defers = a.defers → SRel base κ' Im' σ' w' → Grow base κ Im w κ' Im' w' → next a' w') :
    if Region.wanted o (yielded ops a.tmps) then o.wp P a w next Q else next (a.put o.dst undef) w := by
  have h' : awpIns P K (owned loud (compIns P N ops o)) f σ := by
    rcases h with h | h
    · generalize owned loud (compIns P N ops o) = i at h
      obtain ⟨g, d, o'⟩ := i
      cases g with
      | none => exact quietOp_ok (loud := loud) (K := fun r σ' => K (f.put d r) σ') h
      | some p =>
        obtain ⟨t, b⟩ := p
        obtain ⟨c, h1, h2, h3⟩ := h
        exact ⟨c, h1, fun hc => quietOp_ok (loud := loud) (K := fun r σ' => K (f.put d r) σ') (h2 hc), h3⟩
    · exact h
  clear h
  unfold compIns at h'
  split at h'
  case isFalse => exact h'.elim
  rename_i hd
  split at h'
  · exact h'.elim
  rename_i ao hc
  -- a slot that is written
  have hput : ∀ {κ' Im' w'} {r : AV} {v : Value}, FRel κ' Im' w' f a → VR κ' Im' w' r v → FRel κ' Im' w' (f.put o.dst r) (a.put o.dst v) ∧ (a.put o.dst v).tmps.size = N ∧ (a.put o.dst v).defers = a.defers := by
    intro κ' Im' w' r v hf' hv
    cases hdst : o.dst with
    | none => exact ⟨hf', hN, rfl⟩
    | some d =>
      rw [hdst] at hd
      have hdN : d < N := by simpa [dstOK] using hd
      refine ⟨fun t => ?_, by simp [Act.put, hN], rfl⟩
      simp only [Frame.put_some, Act.put]
      by_cases ht : t = d
      · subst ht
        rw [if_pos rfl]
        have : (a.tmps.setIfInBounds t v).getD t undef = v := by
          simp [hN, hdN]
        rw [this]; exact hv
      · rw [if_neg ht]
        have : (a.tmps.setIfInBounds d v).getD t undef = a.tmps.getD t undef := by
          simp only [Array.getD_eq_getD_getElem?]
          rw [Array.getElem?_setIfInBounds_ne (Ne.symm ht)]
        rw [this]; exact hf' t
  have hop : awpOp P (fun r σ' => K (f.put o.dst r) σ') f σ (ownOp loud ao) → o.wp P a w next Q := fun h0 =>
    op_own_ok hc hs hf h0 fun r σ' κ' Im' v w' hK hv hs' hg => by
      obtain ⟨h1, h2, h3⟩ := hput (hf.grow hg) hv
      exact hnext _ _ _ _ _ _ hK h1 h2 h3 hs' hg
  split at h'
  · rename_i hgd
    rw [if_pos (by simp [Region.wanted, hgd])]
    exact hop h'
  · rename_i j b hgd
    split at h'
    case h_2 => exact h'.elim
    rename_i t ht
    obtain ⟨c, h1, h2, h3⟩ := h'
    have hft := hf t
    have hw : Region.wanted o (yielded ops a.tmps) = c := by
      rcases h1 with ⟨h1, rfl⟩ | ⟨c', h1, rfl⟩
      · rw [h1] at hft
        have hv : a.tmps.getD t undef = undef := by
          generalize a.tmps.getD t undef = u at hft
          cases hft with | im _ _ h => cases h; rfl
        have hy : yielded ops a.tmps j = none := by
          unfold yielded
          rw [ht]
          rw [Array.getD_eq_getD_getElem?] at hv
          cases hq : a.tmps[t]? with
          | none => simp [hq]
          | some u => rw [hq] at hv; simp at hv; subst hv; simp [hq, undef]
        simp [Region.wanted, hgd, hy]
      · rw [h1] at hft
        have hv := hft.bool_inv
        have hget : a.tmps[t]? = some (.bool c') := by
          rw [Array.getD_eq_getD_getElem?] at hv
          cases hq : a.tmps[t]? with
          | none => rw [hq] at hv; simp [undef] at hv
          | some u => rw [hq] at hv; simpa using hv
        have hy : yielded ops a.tmps j = some c' := by
          unfold yielded
          rw [ht]
          simp [hget]
        simp [Region.wanted, hgd, hy]
    rw [hw]
    cases c with
    | true => exact hop (h2 rfl)
    | false =>
      obtain ⟨g1, g2, g3⟩ := hput hf (.im _ _ (.any undef))
      exact hnext _ _ _ _ _ _ (h3 rfl) g1 g2 g3 hs (Grow.refl _ _ _ _)

/-- The state behind a piece of code. -/
structure St [Globs] (base : Nat) (κ : Key) (Im : Addr → Prop) (w : World) (N : Nat) (D : List Deferred) (f : Frame) (σ : Store) (κ' : Key) (Im' : Addr → Prop) (a' : Act) (w' : World) : Prop where
  fr : FRel κ' Im' w' f a'
  sz : a'.tmps.size = N
  df : a'.defers = D
  st : SRel base κ' Im' σ w'
  gr : Grow base κ Im w κ' Im' w'

/-- Operations in the order of the text. -/
theorem ops_ok {N : Nat} {ops : Array Oper} {loud : List FuncId} {D : List Deferred} {κ₀ : Key} {Im₀ : Addr → Prop} {w₀ : World} {QA : Frame → Store → Prop} {Q : Exit → Act → World → Prop}
    (hQ : ∀ f σ κ Im a w, QA f σ → St base κ₀ Im₀ w₀ N D f σ κ Im a w → Q .normal a w) : ∀ (l : List Oper) (f : Frame) (σ : Store) (κ : Key) (Im : Addr → Prop) (a : Act) (w : World), awpOps P QA (l.map fun o => owned loud (compIns P N ops o)) f σ → St base κ₀ Im₀ w₀ N D f σ κ Im a w → wpList P ops Q l a w
  | [], f, σ, κ, Im, a, w, h, hst => hQ f σ κ Im a w h hst
  | o :: l, f, σ, κ, Im, a, w, h, hst => by
    have := ins_ok (loud := loud) (Q := Q) (next := wpList P ops Q l) hst.st hst.fr hst.sz (.inr h) (fun f' σ' κ' Im' a' w' hK h1 h2 h3 h4 h5 => ops_ok hQ l f' σ' κ' Im' a' w' hK ⟨h1, h2, h3.trans hst.df, h4, hst.gr.trans h5⟩)
    unfold wpList
    split
    · rename_i hw; rw [if_pos hw] at this; exact .inl this
    · rename_i hw; rw [if_neg hw] at this; exact this
end
end Go.Abs
end

section
/- Abstract machine, part 18: regions in any order; code. -/
set_option linter.unusedSimpArgs false
set_option linter.unusedVariables false
set_option linter.constructorNameAsVariable false
namespace Go.Abs
open Go.RowKit
variable {G : Globs}
section
variable {P : Program} {base : Nat}

theorem pairsOKE_iff {E : List (Nat × Nat)} {L : List AIns} {ops : Array Oper} : ∀ {l : List Nat}, pairsOKE E L ops l = true ↔ l.Pairwise fun j i => pairOKE E L ops j i = true
  | [] => by simp [pairsOKE]
  | j :: l => by simp [pairsOKE, pairsOKE_iff]

theorem mem_depsOf {ops : Array Oper} {i k : Nat} {o : Oper} (ho : ops[i]? = some o) : k ∈ depsOf ops i ↔ ∃ e ∈ o.after, Region.binds .any e = true ∧ e.on = k := by
  unfold depsOf
  rw [ho]
  simp only [List.mem_map, List.mem_filter, Array.mem_toList_iff]
  constructor
  · rintro ⟨e, ⟨h1, h2⟩, h3⟩; exact ⟨e, h1, h2, h3⟩
  · rintro ⟨e, h1, h2, h3⟩; exact ⟨e, ⟨h1, h2⟩, h3⟩

theorem reach_listed {E : List (Nat × Nat)} {ops : Array Oper} {listed : Array Bool} (hcl : ∀ i, listed.getD i false = true → ∀ k ∈ depsE E ops i, listed.getD k false = true) {j : Nat} : ∀ (n i : Nat), (∀ k ∈ depsE E ops i, listed.getD k false = true) → reachE E ops j n i = true → listed.getD j false = true
  | 0, i, _, h => by simp [reachE] at h
  | n + 1, i, hi, h => by
    simp only [reachE, List.any_eq_true, Bool.or_eq_true, List.contains_eq_mem, decide_eq_true_eq] at h
    rcases h with h | ⟨k, hk, h⟩
    · exact hi _ h
    · exact reach_listed hcl n k (hcl k (hi k hk)) h

/-- The orders in which a region that draws may run. -/
inductive Sched (ops : Array Oper) : Nat → Array Bool → List Nat → Prop
  | zero (listed : Array Bool) : Sched ops 0 listed []
  | stop (n : Nat) (listed : Array Bool) (h : Region.ready .any ops listed = []) : Sched ops (n + 1) listed []
  | step (n : Nat) (listed : Array Bool) (i : Nat) (l : List Nat) (h : i ∈ Region.ready .any ops listed) (hl : Sched ops n (listed.setIfInBounds i true) l) : Sched ops (n + 1) listed (i :: l)

theorem sched_go (ops : Array Oper) : ∀ (fuel t : Nat) (listed : Array Bool), Sched ops fuel listed (Region.linearise.go .any ops fuel t listed [])
  | 0, t, listed => by simp only [Region.linearise.go, List.reverse_nil]; exact .zero _
  | fuel + 1, t, listed => by
    simp only [Region.linearise.go]
    change Sched ops (fuel + 1) listed (match (Region.ready .any ops listed)[t % (Region.ready .any ops listed).length]? with
      | some i => Region.linearise.go .any ops fuel (t / (Region.ready .any ops listed).length) (listed.setIfInBounds i true) [i]
      | none => [].reverse)
    cases hi : (Region.ready .any ops listed)[t % (Region.ready .any ops listed).length]? with
    | none =>
      have hnil : Region.ready .any ops listed = [] := by
        cases hr : Region.ready .any ops listed with
        | nil => rfl
        | cons x xs =>
          rw [hr] at hi
          have hlt : t % (x :: xs).length < (x :: xs).length := Nat.mod_lt _ (by simp)
          simp at hi
          simp at hlt
          omega
      exact .stop _ _ hnil
    | some i =>
      simp only []
      rw [linearise_go_acc, List.reverse_singleton, List.singleton_append]
      exact .step _ _ _ _ (List.mem_of_getElem? hi) (sched_go ops fuel _ _)

theorem mem_edges {f : Nat × Nat → Bool} {x y : Nat} : ∀ {C : List (Nat × Nat)}, (x, y) ∈ edges C (C.map f) → ∃ p ∈ C, (p = (x, y) ∧ f p = true) ∨ (p = (y, x) ∧ f p = false)
  | [], h => by simp [edges] at h
  | p :: C, h => by
    simp only [List.map_cons, edges, List.mem_cons] at h
    rcases h with h | h
    · cases hf : f p with
      | true => rw [hf] at h; exact ⟨p, by simp, .inl ⟨by simpa using h.symm, hf⟩⟩
      | false =>
        rw [hf] at h
        simp only [Bool.false_eq_true, if_false, Prod.mk.injEq] at h
        exact ⟨p, by simp, .inr ⟨by rw [h.1, h.2], hf⟩⟩
    · obtain ⟨q, hq, h⟩ := mem_edges h
      exact ⟨q, by simp [hq], h⟩

theorem idxOf_past {l : List Nat} {j x : Nat} (h : j ≠ x) : (x :: l).idxOf j = l.idxOf j + 1 := by
  rw [List.idxOf_cons]
  have : (x == j) = false := by simp [Ne.symm h]
  rw [this]; rfl
theorem idxOf_skip {l : List Nat} {j : Nat} : ∀ {d : List Nat}, j ∉ d → (d ++ l).idxOf j = d.length + l.idxOf j
  | [], _ => by simp
  | x :: d, h => by
    simp only [List.mem_cons, not_or] at h
    rw [List.cons_append, idxOf_past h.1, idxOf_skip h.2]; simp; omega

theorem edge_before {C : List (Nat × Nat)} {l₀ : List Nat} {x y : Nat} (hC : ∀ p ∈ C, p.1 ≠ p.2) (h : (x, y) ∈ edges C (C.map fun p => decide (l₀.idxOf p.1 < l₀.idxOf p.2))) : x ≠ y ∧ l₀.idxOf x ≤ l₀.idxOf y := by
  obtain ⟨p, hp, (⟨rfl, hb⟩ | ⟨rfl, hb⟩)⟩ := mem_edges h
  · simp only [decide_eq_true_eq] at hb
    exact ⟨hC _ hp, Nat.le_of_lt hb⟩
  · simp only [decide_eq_false_iff_not] at hb
    exact ⟨fun h => hC _ hp h.symm, Nat.le_of_not_lt hb⟩
theorem idx_of_mem {done rest : List Nat} {y : Nat} (h : y ∈ done) : (done ++ rest).idxOf y < done.length := by
  induction done with
  | nil => cases h
  | cons a done ih =>
    by_cases ha : y = a
    · subst ha; simp [List.idxOf_cons]
    · rw [List.cons_append, idxOf_past ha, List.length_cons]
      have := ih ((List.mem_cons.1 h).resolve_left ha)
      omega
theorem edge_done {C : List (Nat × Nat)} {l₀ done l' : List Nat} {i x y : Nat} (hC : ∀ p ∈ C, p.1 ≠ p.2) (hl0 : l₀ = done ++ i :: l') (hidx : l₀.idxOf i = done.length) (h : (x, y) ∈ edges C (C.map fun p => decide (l₀.idxOf p.1 < l₀.idxOf p.2))) (hy : y ∈ done ∨ y = i) : x ∈ done := by
  obtain ⟨hne, hle⟩ := edge_before hC h
  have hy' : y ∈ done → l₀.idxOf y < done.length := fun h => by rw [hl0]; exact idx_of_mem h
  by_cases hx : x ∈ done
  · exact hx
  exfalso
  by_cases hxi : x = i
  · subst hxi
    rw [hidx] at hle
    rcases hy with hy | hy
    · have := hy' hy; omega
    · exact hne hy.symm
  · have hxx : l₀.idxOf x = done.length + (l'.idxOf x + 1) := by rw [hl0, idxOf_skip hx, idxOf_past hxi]
    rcases hy with hy | hy
    · have := hy' hy; omega
    · subst hy; omega

theorem mem_bitLists : ∀ (l : List Bool), l ∈ bitLists l.length
  | [] => by simp [bitLists]
  | b :: l => by
    simp only [List.length_cons, bitLists, List.mem_flatMap]
    exact ⟨l, mem_bitLists l, by cases b <;> simp⟩

theorem list_ok {N : Nat} {ops : Array Oper} {loud : List FuncId} {D : List Deferred} {κ₀ : Key} {Im₀ : Addr → Prop} {w₀ : World} {QA : Frame → Store → Prop} {Q : Exit → Act → World → Prop} {C : List (Nat × Nat)} {l₀ : List Nat} {L : List AIns} (hL : ∀ (i : Nat) (o : Oper), ops[i]? = some o → ∃ x, L[i]? = some x ∧ ∀ K f σ, awpIns P K x f σ → awpIns P K (quieten loud (owned loud (compIns P N ops o))) f σ)
    (hC : ∀ p ∈ C, p.1 ≠ p.2) (hQ : ∀ f σ κ Im a w, QA f σ → St base κ₀ Im₀ w₀ N D f σ κ Im a w → Q .normal a w) : ∀ (n : Nat) (l done rem : List Nat) (listed : Array Bool) (f : Frame) (σ : Store) (κ : Key) (Im : Addr → Prop) (a : Act) (w : World), Sched ops n listed l → l₀ = done ++ l → (∀ j ∈ done, listed.getD j true = true) → (∀ j, j ∈ done ↔ listed.getD j false = true) → rem.length = n → rem.Nodup →
    (∀ i, i ∈ rem ↔ i < ops.size ∧ listed.getD i true = false) → listed.size = ops.size → (∀ i, listed.getD i false = true → ∀ k ∈ depsOf ops i, listed.getD k false = true) →
    rem.Pairwise (fun j i => pairOKE (edges C (C.map fun p => decide (l₀.idxOf p.1 < l₀.idxOf p.2))) L ops j i = true) → (∀ i ∈ rem, depsOK ops i = true) →
    awpOps P QA (rem.filterMap fun i => L[i]?) f σ → St base κ₀ Im₀ w₀ N D f σ κ Im a w → wpOps P ops Q l a w := by
  intro n
  induction n with
  | zero =>
    intro l done rem listed f σ κ Im a w hsch hl0 hdone hdf hlen hnd hmem hsz hcl hp hd h hst
    have : rem = [] := List.eq_nil_of_length_eq_zero hlen
    subst this
    cases hsch
    exact hQ f σ κ Im a w (by simpa [awpOps] using h) hst
  | succ n ih =>
    intro l done rem listed f σ κ Im a w hsch hl0 hdone hdf hlen hnd hmem hsz hcl hp hd h hst
    cases hsch with
    | stop _ _ hr =>
      -- some operation is ready
      exfalso
      match rem, hlen with
      | j :: rest, _ =>
        have hj := (hmem j).1 (by simp)
        have hready : j ∈ Region.ready .any ops listed := by
          refine mem_ready.2 ⟨hj.2, ops[j], Array.getElem?_eq_getElem hj.1, fun e he hb => ?_⟩
          have hk : e.on ∈ depsOf ops j := (mem_depsOf (Array.getElem?_eq_getElem hj.1)).2 ⟨e, he, hb, rfl⟩
          have hdj := hd j (by simp)
          unfold depsOK at hdj
          have := List.all_eq_true.1 hdj _ hk
          simp only [Bool.and_eq_true, bne_iff_ne, ne_eq, decide_eq_true_eq] at this
          have hnot : e.on ∉ j :: rest := by
            intro hm
            rcases List.mem_cons.1 hm with hm | hm
            · exact this.1 hm
            · have hpo := (List.pairwise_cons.1 hp).1 _ hm
              unfold pairOKE at hpo
              simp only [Bool.and_eq_true, Bool.not_eq_true', List.contains_eq_mem, decide_eq_false_iff_not] at hpo
              exact hpo.1.1 hk
          have h0 : ¬ (listed.getD e.on true = false) := fun h0 => hnot ((hmem _).2 ⟨this.2, h0⟩)
          have hlt : e.on < listed.size := by rw [hsz]; exact this.2
          simp only [Array.getD_eq_getD_getElem?, Array.getElem?_eq_getElem hlt, Option.getD_some] at h0 ⊢
          simpa using h0
        rw [hr] at hready; cases hready
    | step _ _ i l' hi hsch' =>
      obtain ⟨hun, o, ho, hdeps⟩ := mem_ready.1 hi
      have hio : i < ops.size := (Array.getElem?_eq_some_iff.1 ho).1
      have him : i ∈ rem := (hmem i).2 ⟨hio, hun⟩
      have hidx : l₀.idxOf i = done.length := by
        have : i ∉ done := fun hm => by have := hdone i hm; rw [hun] at this; cases this
        rw [hl0, idxOf_skip this]; simp
      have hjx : ∀ j, j ≠ i → listed.getD j true = false → ¬ (l₀.idxOf j ≤ done.length) := by
        intro j hji hju hle
        have : j ∉ done := fun hm => by have := hdone j hm; rw [hju] at this; cases this
        rw [hl0, idxOf_skip this, idxOf_past hji] at hle
        omega
      obtain ⟨pre, post, rfl⟩ := List.append_of_mem him
      have hdl : ∀ k ∈ depsOf ops i, listed.getD k false = true := fun k hk => by
        obtain ⟨e, he, hb, rfl⟩ := (mem_depsOf ho).1 hk
        exact hdeps e he hb
      obtain ⟨X, hLi, hXr⟩ := hL i o ho
      have hne : ∀ j ∈ pre, j ≠ i := fun j hj he => by
        subst he
        exact (List.nodup_append.1 hnd).2.2 j hj j (by simp) rfl
      have hcomm : ∀ x ∈ pre.filterMap (fun i => L[i]?), commOK x X = true := by
        intro x hx
        obtain ⟨j, hj, hxj⟩ := List.mem_filterMap.1 hx
        have hju := ((hmem j).1 (by simp [hj])).2
        have hpo := (List.pairwise_append.1 hp).2.2 j hj i (by simp)
        unfold pairOKE at hpo
        simp only [Bool.and_eq_true, Bool.or_eq_true, List.contains_eq_mem, decide_eq_true_eq] at hpo
        rcases hpo.2 with (h1 | h1) | h1
        · rw [hxj, hLi] at h1; exact h1
        · exfalso
          obtain ⟨p, hp, (⟨rfl, hb⟩ | ⟨rfl, hb⟩)⟩ := mem_edges h1
          · simp only [decide_eq_true_eq] at hb
            exact hjx j (hne j hj) hju (by omega)
          · simp only [decide_eq_false_iff_not] at hb
            exact hjx j (hne j hj) hju (by omega)
        · have hcle : ∀ q, (listed.getD q false = true ∨ q = i) → ∀ k ∈ depsE (edges C (C.map fun p => decide (l₀.idxOf p.1 < l₀.idxOf p.2))) ops q, listed.getD k false = true := by
            intro q hq k hk
            simp only [depsE, List.mem_append, List.mem_map, List.mem_filter, beq_iff_eq] at hk
            rcases hk with hk | ⟨⟨k', q'⟩, ⟨he, rfl⟩, rfl⟩
            · rcases hq with hq | rfl
              · exact hcl q hq k hk
              · exact hdl k hk
            · refine (hdf _).1 (edge_done hC hl0 hidx he ?_)
              rcases hq with hq | hq
              · exact .inl ((hdf _).2 hq)
              · exact .inr hq
          have hjl := reach_listed (fun q hq => hcle q (.inl hq)) _ i (hcle i (.inr rfl)) h1
          have hjs : j < listed.size := by rw [hsz]; exact ((hmem j).1 (by simp [hj])).1
          simp only [Array.getD_eq_getD_getElem?, Array.getElem?_eq_getElem hjs, Option.getD_some] at hjl hju
          rw [hjl] at hju; cases hju
      have hfm : (pre ++ i :: post).filterMap (fun i => L[i]?) = pre.filterMap (fun i => L[i]?) ++ X :: post.filterMap (fun i => L[i]?) := by
        rw [List.filterMap_append, List.filterMap_cons, hLi]
      rw [hfm] at h
      have hins := ops_pull _ f σ hcomm h
      rw [← List.filterMap_append] at hins
      have hmi : i ∉ pre ++ post := by
        have := (List.nodup_append.1 hnd)
        intro hm
        rcases List.mem_append.1 hm with hm | hm
        · exact this.2.2 i hm i (by simp) rfl
        · exact (List.nodup_cons.1 this.2.1).1 hm
      have hsub : (pre ++ post).Sublist (pre ++ i :: post) := List.Sublist.append_left (List.sublist_cons_self i post) pre
      have hstep := ins_ok (Q := Q) (next := wpOps P ops Q l') hst.st hst.fr hst.sz (.inl (hXr _ _ _ hins)) (fun f' σ' κ' Im' a' w' hK h1 h2 h3 h4 h5 => by
        refine ih l' (done ++ [i]) (pre ++ post) _ f' σ' κ' Im' a' w' hsch' (by rw [hl0]; simp) (fun j hj => ?_) (fun j => ?_) (by simp at hlen ⊢; omega) (hnd.sublist hsub) (fun k => ?_) (by simp [hsz]) (fun k hk q hq => ?_) (hp.sublist hsub) (fun k hk => hd k (hsub.subset hk)) hK ⟨h1, h2, h3.trans hst.df, h4, hst.gr.trans h5⟩
        · rcases List.mem_append.1 hj with hj | hj
          · by_cases hji : j = i
            · subst hji; simp [hsz, hio]
            · have e : (listed.setIfInBounds i true).getD j true = listed.getD j true := by
                simp only [Array.getD_eq_getD_getElem?]; rw [Array.getElem?_setIfInBounds_ne (Ne.symm hji)]
              rw [e]; exact hdone j hj
          · have : j = i := by simpa using hj
            subst this; simp [hsz, hio]
        · by_cases hji : j = i
          · subst hji; simp [hsz, hio]
          · have e : (listed.setIfInBounds i true).getD j false = listed.getD j false := by
              simp only [Array.getD_eq_getD_getElem?]; rw [Array.getElem?_setIfInBounds_ne (Ne.symm hji)]
            rw [e, ← hdf j]
            simp [hji]
        · by_cases hki : k = i
          · subst hki
            constructor
            · intro hm; exact absurd hm hmi
            · rintro ⟨h1, h2⟩
              simp [hsz, h1] at h2
          · have e : (listed.setIfInBounds i true).getD k true = listed.getD k true := by
              simp only [Array.getD_eq_getD_getElem?]; rw [Array.getElem?_setIfInBounds_ne (Ne.symm hki)]
            rw [e, ← hmem k]
            simp [hki]
        · by_cases hqi : q = i
          · subst hqi; simp [hsz, hio]
          · have e : (listed.setIfInBounds i true).getD q false = listed.getD q false := by
              simp only [Array.getD_eq_getD_getElem?]; rw [Array.getElem?_setIfInBounds_ne (Ne.symm hqi)]
            rw [e]
            by_cases hki : k = i
            · subst hki; exact hdl q hq
            · have e2 : (listed.setIfInBounds i true).getD k false = listed.getD k false := by
                simp only [Array.getD_eq_getD_getElem?]; rw [Array.getElem?_setIfInBounds_ne (Ne.symm hki)]
              rw [e2] at hk
              exact hcl k hk q hq)
      simp only [wpOps, ho]
      split
      · rename_i hw; rw [if_pos hw] at hstep; exact .inl hstep
      · rename_i hw; rw [if_neg hw] at hstep; exact hstep

theorem St.drawn {κ₀ : Key} {Im₀ : Addr → Prop} {w₀ : World} {N : Nat} {D : List Deferred} {f : Frame} {σ : Store} {κ : Key} {Im : Addr → Prop} {a : Act} {w : World} (h : St base κ₀ Im₀ w₀ N D f σ κ Im a w) : St base κ₀ Im₀ w₀ N D f σ κ Im a { w with drawn := w.drawn + 1 } := by
  have hg : Grow base κ Im w κ Im { w with drawn := w.drawn + 1 } := ⟨fun _ _ _ h => h, fun _ h => h, fun _ _ => rfl, fun _ h => .inl h, ⟨rfl, rfl, rfl, Nat.le_refl _, fun _ _ => rfl⟩⟩
  exact ⟨h.fr.grow hg, h.sz, h.df, h.st.world (fun _ h => h) (fun _ h => .inl h) (Nat.le_refl _) (fun _ _ => rfl), h.gr.trans hg⟩

theorem draw_ok (hm : P.follows .mixedOrders = true) {N : Nat} {loud : List FuncId} {id : Nat} {ops : Array Oper} {D : List Deferred} {κ₀ : Key} {Im₀ : Addr → Prop} {w₀ : World} {QA : AExit → Frame → Store → Prop} {Q : Exit → Act → World → Prop} {f : Frame} {σ : Store} {κ : Key} {Im : Addr → Prop} {a : Act} {w : World}
    (hQ : ∀ f σ κ Im a w, QA .normal f σ → St base κ₀ Im₀ w₀ N D f σ κ Im a w → Q .normal a w) {L : List AIns} (hL : ∀ (i : Nat) (o : Oper), ops[i]? = some o → ∃ x, L[i]? = some x ∧ ∀ K f σ, awpIns P K x f σ → awpIns P K (quieten loud (owned loud (compIns P N ops o))) f σ)
    {C : List (Nat × Nat)} (hC : ∀ p ∈ C, p.1 ≠ p.2) {orders : List (List Nat)} (hcov : ∀ l : List Nat, ∃ order ∈ orders, orderOf L ops (edges C (C.map fun p => decide (l.idxOf p.1 < l.idxOf p.2))) = some order)
    (hall : ∀ order ∈ orders, awpOps P (QA .normal) (order.filterMap fun i => L[i]?) f σ) (hst : St base κ₀ Im₀ w₀ N D f σ κ Im a w) : (Code.region id ops true).wp P Q a w := by
  refine wp_region_draw fun t => ?_
  simp only [Region.schedule, hm, Bool.true_or, if_true]
  have hsch := sched_go ops ops.size t (Array.replicate ops.size false)
  change wpOps P ops Q (Region.linearise.go .any ops ops.size t (Array.replicate ops.size false) []) a _
  generalize Region.linearise.go .any ops ops.size t (Array.replicate ops.size false) [] = l at hsch ⊢
  obtain ⟨order, hq, hchk⟩ := hcov l
  unfold orderOf at hchk
  rw [forceL_eq, forceL_eq] at hchk
  have hdem := hall _ hq
  unfold checkOrder at hchk
  split at hchk
  case isFalse => cases hchk
  rename_i hc
  simp only [Option.some.injEq] at hchk
  rw [hchk] at hc
  obtain ⟨h1, h2, h3, h4, h5⟩ := hc
  have hsz : (Array.replicate ops.size false).size = ops.size := by simp
  refine list_ok (loud := loud) (C := C) hL hC hQ ops.size l [] order (Array.replicate ops.size false) f σ κ Im a _ hsch rfl (fun j hj => by cases hj) (fun j => by by_cases hlt : j < ops.size <;> simp [hlt]) h1 h3 (fun i => ?_) hsz (fun i hi => ?_) (pairsOKE_iff.1 h5) (fun i hi => ?_) hdem hst.drawn
  · constructor
    · intro hi
      have := List.all_eq_true.1 h4 i hi
      simp only [Bool.and_eq_true, decide_eq_true_eq] at this
      exact ⟨this.1, by simp [this.1]⟩
    · rintro ⟨hi, _⟩
      have := List.all_eq_true.1 h2 i (List.mem_range.2 hi)
      simpa using this
  · by_cases hlt : i < ops.size <;> simp [hlt] at hi
  · have := List.all_eq_true.1 h4 i hi
    simp only [Bool.and_eq_true, decide_eq_true_eq] at this
    exact this.2

theorem codeOf_ok {L : List AIns} {k : ACode} {orders : Option (List (List Nat))} {QA : AExit → Frame → Store → Prop} {f : Frame} {σ : Store} (h : awp P (codeOf L k orders) QA f σ) :
    (∃ os, orders = some os ∧ ∀ order ∈ os, awpOps P (QA .normal) (order.filterMap fun i => L[i]?) f σ) ∨ (orders = none ∧ awp P k QA f σ) := by
  unfold codeOf at h
  split at h
  · refine .inl ⟨_, rfl, fun order' hm => ?_⟩
    rw [List.mem_singleton.1 hm]; exact h
  · exact .inl ⟨_, rfl, fun order' hm => h _ (List.mem_map_of_mem hm)⟩
  · exact .inr ⟨rfl, h⟩

theorem immIns_ok {x : AIns} {K : Frame → Store → Prop} {f : Frame} {σ : Store} (h : awpIns P K (immIns x) f σ) : awpIns P K x f σ := by
  have key : ∀ {K : AV → Store → Prop} {o : AOp}, awpOp P K f σ (immOp o) → awpOp P K f σ o := by
    intro K o h
    cases o <;> try exact h
    case load ag n x =>
      obtain ⟨r, h1, h2⟩ := h
      refine ⟨r, ?_, h2⟩
      change iloadStep ag n (x.ev f) = some r at h1
      show (cellsAt σ (x.ev f) n).bind (oneOf ag) = some r
      unfold iloadStep at h1
      split at h1
      case h_2 => cases h1
      rename_i cells he
      split at h1
      case isFalse => cases h1
      rename_i hl
      simp only [he, cellsAt, if_pos hl, Option.bind_some]
      exact h1
    case iaddr n x i =>
      obtain ⟨r, h1, h2⟩ := h
      refine ⟨r, ?_, h2⟩
      change iidxStep n (natOf (i.ev f)) (x.ev f) = some r at h1
      unfold iidxStep at h1
      split at h1
      case h_2 => cases h1
      rename_i k l hi he
      simp only [pstep, hi, he]
      exact h1
  obtain ⟨g, d, o⟩ := x
  cases g with
  | none => exact key (K := fun r σ' => K (f.put d r) σ') h
  | some p =>
    obtain ⟨t, b⟩ := p
    obtain ⟨c, h1, h2, h3⟩ := h
    exact ⟨c, h1, fun hc => key (K := fun r σ' => K (f.put d r) σ') (h2 hc), h3⟩
theorem immFrom_get (C : List (Nat × Nat)) : ∀ (L : List AIns) (n i : Nat) (x : AIns), L[i]? = some x → ∃ y, (immFrom C n L)[i]? = some y ∧ (y = x ∨ y = immIns x)
  | [], n, i, x, h => by simp at h
  | z :: L, n, 0, x, h => by
    simp only [List.getElem?_cons_zero, Option.some.injEq] at h
    subst h
    simp only [immFrom, List.getElem?_cons_zero, Option.some.injEq]
    split
    · exact ⟨_, rfl, .inr rfl⟩
    · exact ⟨_, rfl, .inl rfl⟩
  | z :: L, n, i + 1, x, h => by
    simp only [List.getElem?_cons_succ] at h
    simp only [immFrom, List.getElem?_cons_succ]
    exact immFrom_get C L (n + 1) i x h

theorem tri_no {C : List (Nat × Nat)} (hC : ∀ p ∈ C, p.1 < p.2) (l : List Nat) : tri (edges C (C.map fun p => decide (l.idxOf p.1 < l.idxOf p.2))) = false := by
  have key : ∀ x y, (x, y) ∈ edges C (C.map fun p => decide (l.idxOf p.1 < l.idxOf p.2)) → l.idxOf x < l.idxOf y ∨ (l.idxOf x = l.idxOf y ∧ y < x) := by
    intro x y h
    obtain ⟨p, hp, (⟨rfl, hb⟩ | ⟨rfl, hb⟩)⟩ := mem_edges h
    · simp only [decide_eq_true_eq] at hb; exact .inl hb
    · simp only [decide_eq_false_iff_not] at hb
      have := hC _ hp
      simp only at this
      omega
  cases ht : tri (edges C (C.map fun p => decide (l.idxOf p.1 < l.idxOf p.2))) with
  | false => rfl
  | true =>
    exfalso
    unfold tri at ht
    simp only [List.any_eq_true, Bool.and_eq_true, beq_iff_eq, List.contains_eq_mem, decide_eq_true_eq] at ht
    obtain ⟨⟨a, b⟩, h1, ⟨c, d⟩, h2, h3, h4⟩ := ht
    simp only at h3 h4
    subst h3
    have k1 := key _ _ h1
    have k2 := key _ _ h2
    have k3 := key _ _ h4
    omega

theorem region_ok (hm : P.follows .mixedOrders = true) {N : Nat} {loud : List FuncId} {id : Nat} {ops : Array Oper} {draw : Bool} {D : List Deferred} {κ₀ : Key} {Im₀ : Addr → Prop} {w₀ : World} {QA : AExit → Frame → Store → Prop} {Q : Exit → Act → World → Prop} {f : Frame} {σ : Store} {κ : Key} {Im : Addr → Prop} {a : Act} {w : World}
    (hQ : ∀ f σ κ Im a w, QA .normal f σ → St base κ₀ Im₀ w₀ N D f σ κ Im a w → Q .normal a w) (h : awp P (compRegion P N loud ops draw) QA f σ) (hst : St base κ₀ Im₀ w₀ N D f σ κ Im a w) : (Code.region id ops draw).wp P Q a w := by
  unfold compRegion at h
  cases draw with
  | false => exact wp_region_list (ops_ok hQ ops.toList f σ κ Im a w h hst)
  | true =>
    simp only [Bool.not_true, Bool.false_eq_true, if_false] at h
    rw [List.map_map] at h
    rw [forceL_eq] at h
    have hL0 : ∀ (i : Nat) (o : Oper), ops[i]? = some o → (List.map (quieten loud ∘ fun o => owned loud (compIns P N ops o)) ops.toList)[i]? = some (quieten loud (owned loud (compIns P N ops o))) := fun i o ho => by simp [ho]
    generalize List.map (quieten loud ∘ fun o => owned loud (compIns P N ops o)) ops.toList = L at h hL0
    generalize clashes L ops = C at h
    rcases codeOf_ok h with ⟨orders, hord, hall⟩ | ⟨_, h⟩
    · unfold drawOrders at hord
      split at hord
      case isFalse => cases hord
      rename_i hcond
      have hC : ∀ p ∈ C, p.1 ≠ p.2 := fun p hp => by
        have := List.all_eq_true.1 hcond.1 p hp
        simpa using this
      refine draw_ok hm hQ (fun i o ho => ⟨_, hL0 i o ho, fun _ _ _ h => h⟩) hC (orders := orders) (fun l => ?_) hall hst
      obtain ⟨ho1, ho2⟩ := mapM_some hord
      have hbm : (C.map fun p => decide (l.idxOf p.1 < l.idxOf p.2)) ∈ bitLists C.length := by
        have := mem_bitLists (C.map fun p => decide (l.idxOf p.1 < l.idxOf p.2))
        rwa [List.length_map] at this
      obtain ⟨q, hq, hqe⟩ := List.mem_iff_getElem.1 hbm
      have hq' : q < orders.length := by omega
      have hchk := ho2 q hq hq'
      rw [hqe] at hchk
      exact ⟨_, List.getElem_mem hq', hchk⟩
    · rw [forceL_eq] at h
      have hL2 : ∀ (i : Nat) (o : Oper), ops[i]? = some o → ∃ x, (immFrom C 0 L)[i]? = some x ∧ ∀ K f σ, awpIns P K x f σ → awpIns P K (quieten loud (owned loud (compIns P N ops o))) f σ := fun i o ho => by
        obtain ⟨y, hy, hy2⟩ := immFrom_get C L 0 i _ (hL0 i o ho)
        refine ⟨y, hy, fun K f σ h => ?_⟩
        rcases hy2 with rfl | rfl
        · exact h
        · exact immIns_ok h
      generalize immFrom C 0 L = L2 at h hL2
      generalize clashes L2 ops = C2 at h
      rcases codeOf_ok h with ⟨orders, hord, hall⟩ | ⟨_, h⟩
      · unfold drawOrders2 at hord
        split at hord
        case isFalse => cases hord
        rename_i hcond
        have hC : ∀ p ∈ C2, p.1 < p.2 := fun p hp => by
          have := List.all_eq_true.1 hcond.1 p hp
          simpa using this
        refine draw_ok hm hQ hL2 (fun p hp => Nat.ne_of_lt (hC p hp)) (orders := orders) (fun l => ?_) hall hst
        obtain ⟨ho1, ho2⟩ := mapM_some hord
        have hbm : (C2.map fun p => decide (l.idxOf p.1 < l.idxOf p.2)) ∈ (bitLists C2.length).filter fun b => !tri (edges C2 b) := by
          refine List.mem_filter.2 ⟨?_, by rw [tri_no hC]; rfl⟩
          have := mem_bitLists (C2.map fun p => decide (l.idxOf p.1 < l.idxOf p.2))
          rwa [List.length_map] at this
        obtain ⟨q, hq, hqe⟩ := List.mem_iff_getElem.1 hbm
        have hq' : q < orders.length := by omega
        have hchk := ho2 q hq hq'
        rw [hqe] at hchk
        exact ⟨_, List.getElem_mem hq', hchk⟩
      · exact h.elim

def AExit.conv : AExit → Exit
  | .normal => .normal
  | .exit id => .exit id
  | .ret => .ret

theorem mapM_flatten {g : AV → Option AV} : ∀ {els els' : List (List AV)}, (els.mapM fun (c : List AV) => c.mapM g) = some els' → els.flatten.mapM g = some els'.flatten
  | [], els', h => by simp at h; subst h; simp
  | c :: els, els', h => by
    rw [List.mapM_cons] at h
    simp only [Option.bind_eq_bind, Option.bind_eq_some_iff, Option.pure_def, Option.some.injEq] at h
    obtain ⟨c', h1, l', h2, rfl⟩ := h
    have := mapM_flatten h2
    rw [List.flatten_cons, List.mapM_append, h1, List.flatten_cons]
    simp [this]
/-- A slice that is written no more: its cells are among those that never change. -/
theorem frz_ok {κ : Key} {Im : Addr → Prop} {σ σ' : Store} {w : World} (hs : SRel base κ Im σ w) (hz : Frz σ σ') : ∃ Im', SRel base κ Im' σ' w ∧ Grow base κ Im w κ Im' w := by
  obtain ⟨id, e, size, els, els', he, hm, rfl⟩ := hz
  obtain ⟨v, xs, hk, hown, hvr, hpos, hlens, hones, _, him⟩ := hs.ent _ _ he
  obtain ⟨m1, m2⟩ := mapM_some hm
  have hflat := mapM_flatten hm
  obtain ⟨hir, hone'⟩ := shareL_ok hs hvr hflat
  let Im' : Addr → Prop := fun a => Im a ∨ (v.ownBlock = some a.block ∧ a.spot = none ∧ a.off < els.length * size)
  have hlt : ∀ b, v.ownBlock = some b → base ≤ b ∧ b < w.heap.size := fun b hb => hown.lt b hb
  have hlen' : ∀ c ∈ els', c.length = size := fun c hc => by
    obtain ⟨k, hk', rfl⟩ := List.mem_iff_getElem.1 hc
    have h1 := (mapM_some (m2 k (by omega) hk')).1
    rw [← h1]; exact hlens _ (List.getElem_mem _)
  have hones' : ∀ c ∈ els', ∀ x ∈ c, x.one = true := fun c hc x hx => hone' (fun y hy => by
    obtain ⟨d, hd, hyd⟩ := List.mem_flatten.1 hy
    exact hones d hd y hyd) x (List.mem_flatten.2 ⟨c, hc, hx⟩)
  have hg : Grow base κ Im w κ Im' w := ⟨fun _ _ _ h => h, fun _ h => .inl h, fun _ _ => rfl, fun a h => h.imp (fun x => x) fun h => (hlt _ h.1).1, Below.refl _ _⟩
  have hblk : ∀ els im, els.length = els'.length → (Entry.row e size els im).block κ id = v.ownBlock := fun els im h => by
    simp only [Entry.block, h, ← m1, hk]; rfl
  refine ⟨Im', ?_, hg⟩
  refine hs.set he (.row e size els' true) (fun _ _ _ h => h) (fun _ _ _ h => .inl h) (by simp [Entry.ver, m1]) (fun _ h => .inl h) (fun _ _ => rfl) (fun a h => ?_) (Nat.le_refl _) (fun _ _ _ => rfl) ?_ (fun b hb => .inr ?_)
  · rcases h with h | ⟨h1, h2, h3⟩
    · exact .inl h
    · exact .inr ⟨by rw [hblk _ _ rfl]; exact h1, (hlt _ h1).2, h2⟩
  · refine ⟨v, xs, by rw [← m1]; exact hk, by rw [← m1]; exact hown, ⟨hir.1, fun j h h' => .im _ _ ((hir.2 j h h').mono (fun _ h => .inl h) (fun _ _ => rfl))⟩, hpos, hlen', hones', fun _ => ⟨hir.1, fun j h h' => (hir.2 j h h').mono (fun _ h => .inl h) (fun _ _ => rfl)⟩, fun g hg' => ⟨fun a ha hab => ⟨rfl, ?_⟩, fun _ o ho => .inr ⟨hg', rfl, by rw [m1]; exact ho⟩⟩⟩
    rcases ha with ha | ⟨_, _, h3⟩
    · have := ((him g hg').1 a ha hab).2; rw [← m1]; exact this
    · rw [← m1]; exact h3
  · rw [hblk _ _ rfl] at hb
    rw [hblk _ _ m1]; exact hb
/-- CODE DOES WHAT THE ABSTRACT CODE SAYS. -/
theorem code_ok (hm : P.follows .mixedOrders = true) {N : Nat} {loud : List FuncId} {D : List Deferred} {κ₀ : Key} {Im₀ : Addr → Prop} {w₀ : World} : ∀ (c : Code) (QA : AExit → Frame → Store → Prop) (Q : Exit → Act → World → Prop) (f : Frame) (σ : Store) (κ : Key) (Im : Addr → Prop) (a : Act) (w : World),
    (∀ e f σ κ Im a w, QA e f σ → St base κ₀ Im₀ w₀ N D f σ κ Im a w → Q e.conv a w) → awp P (comp P N loud c) QA f σ → St base κ₀ Im₀ w₀ N D f σ κ Im a w → c.wp P Q a w := by
  intro c
  induction c with
  | skip => intro QA Q f σ κ Im a w hQ h hst; exact wp_skip (hQ .normal _ _ _ _ _ _ h hst)
  | region id ops draw => intro QA Q f σ κ Im a w hQ h hst; exact region_ok hm (hQ .normal) h hst
  | seq x y ihx ihy =>
    intro QA Q f σ κ Im a w hQ h hst
    simp only [comp] at h
    split at h
    · refine wp_seq (ihx _ _ f σ κ Im a w (fun e f σ κ Im a w h1 h2 => ?_) h hst)
      cases e with
      | normal =>
        rcases h1 with h1 | ⟨σ', hz, h1⟩
        · exact ihy QA Q f σ κ Im a w hQ h1 h2
        · obtain ⟨Im', g1, g2⟩ := frz_ok h2.st hz
          exact ihy QA Q f σ' κ Im' a w hQ h1 ⟨h2.fr.grow g2, h2.sz, h2.df, g1, h2.gr.trans g2⟩
      | exit id => exact hQ (.exit id) _ _ _ _ _ _ h1 h2
      | ret => exact hQ .ret _ _ _ _ _ _ h1 h2
    · refine wp_seq (ihx _ _ f σ κ Im a w (fun e f σ κ Im a w h1 h2 => ?_) h hst)
      cases e with
      | normal => exact ihy QA Q f σ κ Im a w hQ h1 h2
      | exit id => exact hQ (.exit id) _ _ _ _ _ _ h1 h2
      | ret => exact hQ .ret _ _ _ _ _ _ h1 h2
  | cond c x y ihx ihy =>
    intro QA Q f σ κ Im a w hQ h hst
    simp only [comp] at h
    split at h
    · rename_i c' hc
      obtain ⟨b, hb, h1, h2⟩ := h
      have hv := opd_ok hc hst.fr
      rw [hb] at hv
      refine wp_cond hv.bool_inv ?_
      cases b
      · exact ihy QA Q f σ κ Im a w hQ (h2 rfl) hst
      · exact ihx QA Q f σ κ Im a w hQ (h1 rfl) hst
    · exact h.elim
  | block id c ih =>
    intro QA Q f σ κ Im a w hQ h hst
    refine wp_block (ih _ _ f σ κ Im a w (fun e f σ κ Im a w h1 h2 => ?_) h hst)
    cases e with
    | normal => exact hQ .normal _ _ _ _ _ _ h1 h2
    | exit id' =>
      simp only [AExit.inBlock] at h1
      simp only [AExit.conv, Exit.inBlock]
      split
      · rename_i he; rw [if_pos he] at h1; exact hQ .normal _ _ _ _ _ _ h1 h2
      · rename_i he; rw [if_neg he] at h1; exact hQ (.exit id') _ _ _ _ _ _ h1 h2
    | ret => exact hQ .ret _ _ _ _ _ _ h1 h2
  | loop c ih =>
    intro QA Q f σ κ Im a w hQ h hst
    obtain ⟨I, n, h0, hround⟩ := h
    refine wp_loop_ghost (fun n a w => ∃ f σ κ Im, I n f σ ∧ St base κ₀ Im₀ w₀ N D f σ κ Im a w) n ⟨f, σ, κ, Im, h0, hst⟩ ?_
    rintro n a w ⟨f, σ, κ, Im, hI, hst⟩
    refine ih _ _ f σ κ Im a w (fun e f σ κ Im a w h1 h2 => ?_) (hround n f σ hI) hst
    cases e with
    | normal =>
      obtain ⟨n', hlt, hI'⟩ := h1
      exact ⟨n', hlt, f, σ, κ, Im, hI', h2⟩
    | exit id => exact hQ (.exit id) _ _ _ _ _ _ h1 h2
    | ret => exact hQ .ret _ _ _ _ _ _ h1 h2
  | exit id => intro QA Q f σ κ Im a w hQ h hst; exact wp_exit (hQ (.exit id) _ _ _ _ _ _ h hst)
  | ret => intro QA Q f σ κ Im a w hQ h hst; exact wp_ret (hQ .ret _ _ _ _ _ _ h hst)
  | rangeFunc => intro QA Q f σ κ Im a w hQ h hst; exact h.elim
  | scope c ih =>
    intro QA Q f σ κ Im a w hQ h hst
    refine wp_scope_straight (ih QA _ f σ κ Im a w (fun e f σ κ Im a w h1 h2 => ?_) h hst)
    cases e with
    | normal => exact hQ .normal _ _ _ _ _ _ h1 h2
    | exit id => exact hQ (.exit id) _ _ _ _ _ _ h1 h2
    | ret => exact hQ .ret _ _ _ _ _ _ h1 h2
  | label l => intro QA Q f σ κ Im a w hQ h hst; exact wp_label (hQ .normal _ _ _ _ _ _ h hst)
  | goto => intro QA Q f σ κ Im a w hQ h hst; exact h.elim
  | refuse => intro QA Q f σ κ Im a w hQ h hst; exact h.elim
end
end Go.Abs
end

section
/- Abstract machine, part 19: functions. -/
set_option linter.unusedSimpArgs false
set_option linter.unusedVariables false
set_option linter.constructorNameAsVariable false
namespace Go.Abs
open Go.RowKit
variable {G : Globs}

/-- Does a value speak of the first m entries alone? -/
def AV.under (m : Nat) : AV → Bool
  | .ptr id _ | .row id _ | .rowp id _ _ _ _ | .map id | .sub id _ _ _ _ | .asl id _ _ _ => decide (id < m)
  | .fn _ a b => (a.attach.all fun ⟨x, _⟩ => x.under m) && (b.attach.all fun ⟨x, _⟩ => x.under m)
  | .iface _ v => v.under m
  | .agg l | .tup l => l.attach.all fun ⟨x, _⟩ => x.under m
  | _ => true
def Entry.under (m : Nat) : Entry → Bool
  | .dead _ => true
  | .var _ cells => cells.all (AV.under m)
  | .row _ _ els _ => els.all fun c => c.all (AV.under m)
  | .mp kv => kv.all fun p => p.2.under m

/-- A cell, as it is handed back: an owned slice as a list, its cells likewise. Entries from m on are given up. -/
def fz (σ : Store) (m : Nat) : Nat → AV → Option AV
  | _, .nils => some (.lst [])
  | 0, v => if v.pure then some v else none
  | k + 1, .row id n => match σ[id]? with
    | some (.row _ _ els im) => if els.length = n then (if im = true then some (.lst els) else if m ≤ id then (els.mapM fun (c : List AV) => c.mapM (fz σ m k)).map .lst else none) else none
    | _ => none
  | _, v => if v.pure then some v else none
/-- A result's cell, as it is handed back. -/
def fin1 (σ : Store) (m : Nat) : AV → Option AV
  | .row id n => fz σ m 3 (.row id n)
  | .nils => some (.lst [])
  | .sub id n size lo hi => (fz σ m 3 (.row id n)).bind fun
    | .lst l => if ∀ c ∈ l, c.length = size then some (.lst ((l.take hi).drop lo)) else none
    | _ => none
  | v => if v.under m then some v else none
def finL (σ : Store) (m : Nat) (l : List AV) : Option (List AV) := l.mapM (fin1 σ m)
def finT (σ : Store) (m : Nat) : AV → Option AV
  | .agg l => (finL σ m l).map .agg
  | v => fin1 σ m v
def fin (σ : Store) (m : Nat) : AV → Option AV
  | .tup l => (l.mapM (finT σ m)).map .tup
  | v => finT σ m v

def evalRes [Globs] (σ : Store) (f : Frame) : Nat × Option (Bool × Nat) → Option AV
  | (t, none) => some (f t)
  | (t, some (ag, size)) => (cellsAt σ (f t) size).bind (oneOf ag)
def tupOf : List AV → AV
  | [v] => v
  | l => .tup l

/-- What is asked where a function returns: its results, and what is left of the store ('m' entries). -/
def AtRet [Globs] (σ₀ : Store) (R : AV → Store → Prop) (res : List (Nat × Option (Bool × Nat))) (f : Frame) (σ : Store) : Prop :=
  ∃ rs r m, res.mapM (evalRes σ f) = some rs ∧ (fin σ m (tupOf rs) = some r ∨ (r = tupOf rs ∧ r.under m = true)) ∧ σ₀.length ≤ m ∧ (∀ (id : Nat) (e : Entry), id < m → σ[id]? = some e → σ₀[id]? = some e ∨ e.under m = true) ∧ R r (σ.take m)

def BodyPost [Globs] (σ₀ : Store) (R : AV → Store → Prop) (res : List (Nat × Option (Bool × Nat))) : AExit → Frame → Store → Prop
  | .exit _, _, _ => False
  | _, f, σ => AtRet σ₀ R res f σ

def initF (args : List AV) : Frame := fun t => args.getD t .junk

section
variable {P : Program} {base : Nat} {κ : Key} {Im : Addr → Prop} {w : World} {σ : Store}

def cut (κ : Key) (m : Nat) : Key := fun id n => if id < m then κ id n else none
theorem cut_some {m id n : Nat} {v : Value} (h : κ id n = some v) (hm : id < m) : cut κ m id n = some v := by simp [cut, hm, h]

theorem VR.under {m : Nat} {Im' : Addr → Prop} (hIm : ∀ a, Im a → Im' a) {a : AV} {v : Value} (h : VR κ Im w a v) (hb : a.under m = true) : VR (cut κ m) Im' w a v := by
  induction h with
  | im a v h => exact .im _ _ (h.mono hIm fun _ _ => rfl)
  | ptr id off b h => exact .ptr id off b (cut_some h (by simpa [AV.under] using hb))
  | row id n g cap h => exact .row id n g cap (cut_some h (by simpa [AV.under] using hb))
  | rowp id n size k off b cap h => exact .rowp id n size k off b cap (cut_some h (by simpa [AV.under] using hb))
  | map id b h => exact .map id b (cut_some h (by simpa [AV.under] using hb))
  | asl id off n size b ad c h h3 h4 h5 h6 => exact .asl id off n size b ad c (cut_some h (by simpa [AV.under] using hb)) h3 h4 h5 h6
  | sub id n size lo hi b cap ad c h h1 h2 h3 h4 h5 h6 => exact .sub id n size lo hi b cap ad c (cut_some h (by simpa [AV.under] using hb)) h1 h2 h3 h4 h5 h6
  | fn f first captured vs us h1 h2 hv hu ih1 ih2 =>
    simp [AV.under] at hb
    exact .fn f first captured vs us h1 h2 (fun j h h' => ih1 j h h' (hb.1 _ (List.getElem_mem h))) (fun j h h' => ih2 j h h' (hb.2 _ (List.getElem_mem h)))
  | iface t a v h ih => exact .iface t a v (ih (by simpa [AV.under] using hb))
  | agg cells vs hone h1 hv ih =>
    simp [AV.under] at hb
    exact .agg cells vs hone h1 fun j h h' => ih j h h' (hb _ (List.getElem_mem h))
  | tup cells vs h1 hv ih =>
    simp [AV.under] at hb
    exact .tup cells vs h1 fun j h h' => ih j h h' (hb _ (List.getElem_mem h))

/-- What was there at the start speaks of what was there alone. -/
theorem VR.old {m : Nat} {κ' : Key} {Im' : Addr → Prop} {w' : World} (hκ : ∀ i n v, κ i n = some v → κ' i n = some v ∧ i < m) (hIm : ∀ a, Im a → Im' a) (hc : ∀ a, Im a → w'.cell? a = w.cell? a) {a : AV} {v : Value} (h : VR κ Im w a v) : VR (cut κ' m) Im' w' a v :=
  h.mono (fun i n v h => cut_some (hκ i n v h).1 (hκ i n v h).2) hIm hc

theorem VRL.under {m : Nat} {Im' : Addr → Prop} (hIm : ∀ a, Im a → Im' a) {l : List AV} {vs : List Value} (h : VRL κ Im w l vs) (hb : l.all (AV.under m) = true) : VRL (cut κ m) Im' w l vs :=
  ⟨h.1, fun j hj hj' => (h.2 j hj hj').under hIm (List.all_eq_true.1 hb _ (List.getElem_mem hj))⟩

/-- The ids of a value that holds in a world lie in the key's domain. -/
theorem VR.isBelow {m : Nat} (hκ : ∀ i n v, κ i n = some v → i < m) {a : AV} {v : Value} (h : VR κ Im w a v) : a.under m = true := by
  induction h with
  | im a v h =>
    induction h with
    | fn f first captured vs us h1 h2 hv hu ih1 ih2 =>
      simp [AV.under]
      exact ⟨fun x hx => by obtain ⟨j, hj, rfl⟩ := List.mem_iff_getElem.1 hx; exact ih1 j hj (by omega), fun x hx => by obtain ⟨j, hj, rfl⟩ := List.mem_iff_getElem.1 hx; exact ih2 j hj (by omega)⟩
    | iface t a v h ih => simpa [AV.under] using ih
    | agg cells vs hone h1 hv ih =>
      simp [AV.under]
      exact fun x hx => by obtain ⟨j, hj, rfl⟩ := List.mem_iff_getElem.1 hx; exact ih j hj (by omega)
    | tup cells vs h1 hv ih =>
      simp [AV.under]
      exact fun x hx => by obtain ⟨j, hj, rfl⟩ := List.mem_iff_getElem.1 hx; exact ih j hj (by omega)
    | _ => simp [AV.under]
  | ptr id off b h => simpa [AV.under] using hκ _ _ _ h
  | row id n g cap h => simpa [AV.under] using hκ _ _ _ h
  | rowp id n size k off b cap h => simpa [AV.under] using hκ _ _ _ h
  | map id b h => simpa [AV.under] using hκ _ _ _ h
  | sub id n size lo hi b cap ad c h => simpa [AV.under] using hκ _ _ _ h
  | asl id off n size b ad c h => simpa [AV.under] using hκ _ _ _ h
  | fn f first captured vs us h1 h2 hv hu ih1 ih2 =>
    simp [AV.under]
    exact ⟨fun x hx => by obtain ⟨j, hj, rfl⟩ := List.mem_iff_getElem.1 hx; exact ih1 j hj (by omega), fun x hx => by obtain ⟨j, hj, rfl⟩ := List.mem_iff_getElem.1 hx; exact ih2 j hj (by omega)⟩
  | iface t a v h ih => simpa [AV.under] using ih
  | agg cells vs hone h1 hv ih =>
    simp [AV.under]
    exact fun x hx => by obtain ⟨j, hj, rfl⟩ := List.mem_iff_getElem.1 hx; exact ih j hj (by omega)
  | tup cells vs h1 hv ih =>
    simp [AV.under]
    exact fun x hx => by obtain ⟨j, hj, rfl⟩ := List.mem_iff_getElem.1 hx; exact ih j hj (by omega)

theorem VRL.isBelow {m : Nat} (hκ : ∀ i n v, κ i n = some v → i < m) {l : List AV} {vs : List Value} (h : VRL κ Im w l vs) : l.all (AV.under m) = true :=
  List.all_eq_true.2 fun x hx => by obtain ⟨j, hj, rfl⟩ := List.mem_iff_getElem.1 hx; exact (h.2 j hj (by rw [← h.1]; exact hj)).isBelow hκ

theorem Entry.isBelow {m id : Nat} (hκ : ∀ i n v, κ i n = some v → i < m) {e : Entry} (h : EOK κ Im base w id e) : e.under m = true := by
  cases e with
  | dead _ => rfl
  | var t cells =>
    obtain ⟨b, cs, _, _, _, hv, _⟩ := h
    exact hv.isBelow hκ
  | row ty size els im =>
    obtain ⟨v, xs, _, _, hv, _⟩ := h
    have := hv.isBelow hκ
    simp only [Entry.under, List.all_eq_true] at this ⊢
    exact fun c hc x hx => this x (List.mem_flatten.2 ⟨c, hc, hx⟩)
  | mp kv =>
    obtain ⟨b, es, clock, _, _, _, hsz, hv, _⟩ := h
    simp only [Entry.under, List.all_eq_true]
    intro p hp
    obtain ⟨j, hj, rfl⟩ := List.mem_iff_getElem.1 hp
    exact (hv j hj (by omega)).2.isBelow hκ

/-- The cells that never change any more once the entries from m on are given up. -/
def Freed (κ : Key) (Im : Addr → Prop) (σ : Store) (m : Nat) : Addr → Prop := fun a =>
  Im a ∨ ∃ id e size els v, m ≤ id ∧ σ[id]? = some (.row e size els false) ∧ κ id els.length = some v ∧ v.ownBlock = some a.block ∧ a.spot = none ∧ a.off < els.length * size

theorem fz_ok {m : Nat} (hs : SRel base κ Im σ w) : ∀ (k : Nat) {X r : AV} {x : Value}, VR κ Im w X x → fz σ m k X = some r → IR (Freed κ Im σ m) w r x ∧ (X.one = true → r.one = true) := by
  have hpure : ∀ {X r : AV} {x : Value}, VR κ Im w X x → (if X.pure = true then some X else none) = some r → IR (Freed κ Im σ m) w r x ∧ (X.one = true → r.one = true) := by
    intro X r x hx h
    split at h
    case isFalse => cases h
    rename_i hp
    simp only [Option.some.injEq] at h; subst h
    exact ⟨(hx.pure hp).mono (fun _ h => .inl h) (fun _ _ => rfl), id⟩
  intro k
  induction k with
  | zero =>
    intro X r x hx h
    cases X <;> simp only [fz] at h <;> first | (exact hpure hx h) | skip
    simp only [Option.some.injEq] at h; subst h
    cases hx.nils_inv
    exact ⟨.lnil _, fun _ => rfl⟩
  | succ k ih =>
    intro X r x hx h
    cases X <;> simp only [fz] at h <;> first | (exact hpure hx h) | skip
    case nils =>
      simp only [Option.some.injEq] at h; subst h
      cases hx.nils_inv
      exact ⟨.lnil _, fun _ => rfl⟩
    case row id n =>
      obtain ⟨g, cap, rfl, hk⟩ := hx.row_inv
      split at h
      case h_2 => cases h
      rename_i e size els im hent
      split at h
      case isFalse => cases h
      rename_i hn
      subst hn
      split at h
      · rename_i him
        subst him
        simp only [Option.some.injEq] at h; subst h
        exact ⟨(row_lst hs hent hk).mono (fun _ h => .inl h) (fun _ _ => rfl), fun _ => rfl⟩
      · rename_i him
        have him : im = false := by simpa using him
        subst him
        split at h
        case isFalse => cases h
        rename_i hm
        simp only [Option.map_eq_some_iff] at h
        obtain ⟨els', hels, rfl⟩ := h
        refine ⟨?_, fun _ => rfl⟩
        obtain ⟨hl1, hl2⟩ := mapM_some hels
        obtain ⟨v', xs, hv', hown, hvr, hsz, hlen, hone, _, _⟩ := hs.ent _ _ hent
        rw [hk] at hv'; cases hv'
        rcases hown.2 with ⟨h1, h2⟩ | ⟨b, cap', cur, h1, hg, hh, hle, hmax, hcs, htake⟩
        · have h3 : els' = [] := List.eq_nil_of_length_eq_zero (by omega)
          subst h3
          simp only [Value.slice.injEq] at h1
          obtain ⟨rfl, h5, rfl⟩ := h1
          rw [h5]
          exact .lnil _
        · simp only [Value.slice.injEq] at h1
          obtain ⟨rfl, _, rfl⟩ := h1
          have hcell := hown.cells (g := b) rfl
          have hrow : ∀ k' (h : k' < els'.length), els'[k'].length = size ∧ ∀ j (hj : j < els'[k'].length), ∃ (hj' : k' < els.length) (hj2 : j < els[k'].length), fz σ m k els[k'][j] = some els'[k'][j] := by
            intro k' h
            have hk2 : k' < els.length := by omega
            obtain ⟨g1, g2⟩ := mapM_some (hl2 k' hk2 h)
            have g3 := hlen _ (List.getElem_mem hk2)
            exact ⟨by omega, fun j hj => ⟨hk2, by omega, g2 j (by omega) hj⟩⟩
          have hnum : ∀ k' j, k' < els'.length → j < size → k' * size + j < els.length * size := fun k' j hk' hj => by
            have : (k' + 1) * size ≤ els.length * size := Nat.mul_le_mul_right _ (by omega)
            rw [Nat.add_mul] at this; omega
          have helem : ∀ k' j (h : k' < els'.length) (h' : j < els'[k'].length), IR (Freed κ Im σ m) w els'[k'][j] (xs.getD (k' * size + j) undef) ∧ els'[k'][j].one = true := by
            intro k' j h h'
            obtain ⟨q1, q2⟩ := hrow k' h
            obtain ⟨q3, q4, q5⟩ := q2 j h'
            obtain ⟨_, _, h3, h5⟩ := flatten_get els k' j hlen q3 (by omega)
            have hlt' : k' * size + j < xs.length := by rw [hvr.1] at h3; exact h3
            have hv := hvr.2 (k' * size + j) h3 hlt'
            rw [h5] at hv
            have e : xs.getD (k' * size + j) undef = xs[k' * size + j] := by simp [hlt']
            rw [e]
            obtain ⟨i1, i2⟩ := ih hv q5
            exact ⟨i1, i2 (hone _ (List.getElem_mem q3) _ (List.getElem_mem q4))⟩
          rw [hl1]
          refine .lst els' size b 0 cap (fun k j => xs.getD (k * size + j) undef) (by omega) hmax (fun c hc => ?_) (fun c hc x hx => ?_) (fun k' j hk' hj => ?_) (fun k' j hk' hj => (helem k' j hk' hj).1)
          · obtain ⟨k', hk', rfl⟩ := List.mem_iff_getElem.1 hc
            exact (hrow k' hk').1
          · obtain ⟨k', hk', rfl⟩ := List.mem_iff_getElem.1 hc
            obtain ⟨j, hj, rfl⟩ := List.mem_iff_getElem.1 hx
            exact (helem k' j hk' hj).2
          · have hlt := hnum k' j hk' hj
            rw [Nat.zero_add]
            have hlt' : k' * size + j < xs.length := by rw [hown.1]; exact hlt
            refine ⟨.inr ⟨id, e, size, els, _, hm, hent, hk, rfl, rfl, hlt⟩, ?_⟩
            have := hcell (k' * size + j) _ (List.getElem?_eq_getElem hlt')
            rw [Addr.add_mid, Nat.zero_add] at this
            rw [this]; simp [hlt']

theorem fin1_ok {m : Nat} (hs : SRel base κ Im σ w) {X r : AV} {x : Value} (hx : VR κ Im w X x) (h : fin1 σ m X = some r) : VR (cut κ m) (Freed κ Im σ m) w r x ∧ (X.one = true → r.one = true) := by
  unfold fin1 at h
  split at h
  · obtain ⟨h1, h2⟩ := fz_ok hs 3 hx h
    exact ⟨.im _ _ h1, h2⟩
  · simp only [Option.some.injEq] at h; subst h
    cases hx.nils_inv
    exact ⟨.im _ _ (.lnil _), fun _ => rfl⟩
  · rename_i id n size lo hi
    simp only [Option.bind_eq_some_iff] at h
    obtain ⟨q, hq, h⟩ := h
    split at h
    case h_2 => cases h
    rename_i l
    split at h
    case isFalse => cases h
    rename_i hall
    simp only [Option.some.injEq] at h; subst h
    obtain ⟨b, cap, ad, c, rfl, hk, k1, k2, k3, k4, k5, k6⟩ := hx.sub_inv
    obtain ⟨h1, _⟩ := fz_ok hs 3 (VR.row (κ := κ) (Im := Im) (w := w) id n _ cap hk) hq
    refine ⟨.im _ _ ?_, fun _ => rfl⟩
    have had : ad = ⟨ad.block, ad.off, none⟩ := by cases ad; simp only at k6; subst k6; rfl
    rcases (VR.im (κ := κ) _ _ h1).lst_inv with ⟨⟨g, h0⟩, hl0⟩ | ⟨size', b', o', cap', vals, hv, g1, g2, g3, g4, g5, g6⟩
    · simp only [Value.slice.injEq] at h0
      obtain ⟨_, hn0, _⟩ := h0
      subst hl0
      have := IR.lst (Im := Freed κ Im σ m) (w := w) [] 0 ad.block ad.off c (fun _ _ => undef) (by simp) k5 (by simp) (by simp) (fun k j hk => by simp at hk) (fun k j hk => by simp at hk)
      rw [had, show hi - lo = 0 by omega]
      simpa using this
    · simp only [Value.slice.injEq, Option.some.injEq, Addr.mk.injEq, and_true] at hv
      obtain ⟨⟨rfl, rfl⟩, hn, rfl⟩ := hv
      have hl : ((l.take hi).drop lo).length = hi - lo := by simp; omega
      by_cases hlt : lo < hi
      · have hsz : size' = size := by
          have h0 : 0 < l.length := by omega
          rw [← g3 _ (List.getElem_mem h0), hall _ (List.getElem_mem h0)]
        subst hsz
        rw [k3 hlt]
        have := IR.lst (Im := Freed κ Im σ m) (w := w) ((l.take hi).drop lo) size' b (lo * size') c (fun k j => vals (lo + k) j) (by omega) k5 (fun c hc => g3 c (List.mem_of_mem_take (List.mem_of_mem_drop hc))) (fun c hc => g4 c (List.mem_of_mem_take (List.mem_of_mem_drop hc)))
          (fun k j hk hj => by
            have := g5 (lo + k) j (by omega) hj
            rw [Nat.add_mul] at this
            rw [show lo * size' + (k * size' + j) = 0 + (lo * size' + k * size' + j) by omega]
            exact this)
          (fun k j hk hj => by
            simp only [List.getElem_drop, List.getElem_take] at hj ⊢
            exact g6 (lo + k) j (by omega) hj)
        rw [hl] at this
        exact this
      · have he : (l.take hi).drop lo = [] := List.eq_nil_of_length_eq_zero (by omega)
        rw [he, had]
        have := IR.lst (Im := Freed κ Im σ m) (w := w) [] 0 ad.block ad.off c (fun _ _ => undef) (by simp) k5 (by simp) (by simp) (fun k j hk => by simp at hk) (fun k j hk => by simp at hk)
        rw [show hi - lo = 0 by omega]
        exact this
  · split at h
    case isFalse => cases h
    rename_i hb
    simp only [Option.some.injEq] at h; subst h
    exact ⟨hx.under (fun _ h => .inl h) hb, id⟩

theorem finT_ok {m : Nat} (hs : SRel base κ Im σ w) {X r : AV} {x : Value} (hx : VR κ Im w X x) (h : finT σ m X = some r) : VR (cut κ m) (Freed κ Im σ m) w r x := by
  unfold finT at h
  split at h
  · simp only [Option.map_eq_some_iff] at h
    obtain ⟨l', hl', rfl⟩ := h
    obtain ⟨vs, rfl, hl, hone⟩ := hx.agg_inv
    obtain ⟨h1, h2⟩ := mapM_some hl'
    refine .agg _ _ (fun c hc => ?_) (by rw [← h1, hl.1]) (fun j hj hj' => (fin1_ok hs (hl.2 j (by omega) hj') (h2 j (by omega) hj)).1)
    obtain ⟨j, hj, rfl⟩ := List.mem_iff_getElem.1 hc
    have hjl := hl.1
    exact (fin1_ok hs (hl.2 j (by omega) (by omega)) (h2 j (by omega) hj)).2 (hone _ (List.getElem_mem _))
  · exact (fin1_ok hs hx h).1

theorem fin_ok {m : Nat} (hs : SRel base κ Im σ w) {X r : AV} {x : Value} (hx : VR κ Im w X x) (h : fin σ m X = some r) : VR (cut κ m) (Freed κ Im σ m) w r x := by
  unfold fin at h
  split at h
  · simp only [Option.map_eq_some_iff] at h
    obtain ⟨l', hl', rfl⟩ := h
    obtain ⟨vs, rfl, hl⟩ := hx.tup_inv
    obtain ⟨h1, h2⟩ := mapM_some hl'
    exact .tup _ _ (by rw [← h1, hl.1]) (fun j hj hj' => finT_ok hs (hl.2 j (by omega) hj') (h2 j (by omega) hj))
  · exact finT_ok hs hx h

theorem tupOf_ok {rs : List AV} {vs : List Value} (h : VRL κ Im w rs vs) : VR κ Im w (tupOf rs) (if h : vs.toArray.size = 1 then vs.toArray[0] else .tuple vs.toArray) := by
  unfold tupOf
  split
  · rename_i v
    match vs, h.1 with
    | [u], _ => exact h.2 0 (by simp) (by simp)
  · rename_i hne
    have : ¬ vs.toArray.size = 1 := by
      intro h1
      have hl := h.1
      simp at h1
      rw [h1] at hl
      match rs, hl with
      | [a], _ => exact hne a rfl
    rw [dif_neg this]
    exact .tup _ _ h.1 h.2

theorem results_ok {rvs : List ResultVar} {res : List (Nat × Option (Bool × Nat))} {rs : List AV} {f : Frame} {a : Act} (hs : SRel base κ Im σ w) (hf : FRel κ Im w f a) : rvs.mapM (compRes P) = some res → res.mapM (evalRes σ f) = some rs →
    ∃ vs, (rvs.mapM (fun | .tmp t => pure (a.tmps.getD t undef) | .cell x t => do loadVar t (← asAddr (a.tmps.getD x undef)) : ResultVar → Sem Value)).run P w = .ok vs w ∧ VRL κ Im w rs vs := by
  induction rvs generalizing res rs with
  | nil =>
    intro h h'
    simp at h; subst h
    simp at h'; subst h'
    exact ⟨[], by simp, .nil⟩
  | cons rv rvs ih =>
    intro h h'
    rw [List.mapM_cons] at h
    simp only [Option.bind_eq_bind, Option.bind_eq_some_iff, Option.pure_def, Option.some.injEq] at h
    obtain ⟨q, hq, qs, hqs, rfl⟩ := h
    rw [List.mapM_cons] at h'
    simp only [Option.bind_eq_bind, Option.bind_eq_some_iff, Option.pure_def, Option.some.injEq] at h'
    obtain ⟨r, hr, rs', hrs', rfl⟩ := h'
    obtain ⟨vs, h1, h2⟩ := ih hqs hrs'
    have hex : ∃ v, ((match rv with | .tmp t => pure (a.tmps.getD t undef) | .cell x t => do loadVar t (← asAddr (a.tmps.getD x undef))) : Sem Value).run P w = .ok v w ∧ VR κ Im w r v := by
      cases rv with
      | tmp t =>
        simp only [compRes, Option.some.injEq] at hq; subst hq
        simp only [evalRes, Option.some.injEq] at hr; subst hr
        exact ⟨_, rfl, hf t⟩
      | cell x t =>
        simp only [compRes, Option.bind_eq_bind, Option.bind_eq_some_iff, Option.pure_def, Option.some.injEq] at hq
        obtain ⟨ag, hag, size, hsz, rfl⟩ := hq
        simp only [evalRes, Option.bind_eq_some_iff] at hr
        obtain ⟨l, hl, hr⟩ := hr
        obtain ⟨b, off, cs, hp, hrange, hvr, hlen, hone⟩ := cellsAt_ok hs (hf x) hl
        obtain ⟨g1, g2⟩ := oneOf_ok hvr hone hr
        have hcl : cs.length = size := by rw [← hvr.1, hlen]
        obtain ⟨i, hi, hin⟩ := sizeOf?_ok hsz
        cases ag
        · obtain ⟨v, rfl, hv⟩ := g2 rfl
          refine ⟨v, ?_, hv⟩
          have hc := hrange 0 v rfl
          simp only [Nat.add_zero] at hc
          simp [hp, asAddr, loadVar, run_isAgg? hag, hc]
        · obtain ⟨d, hd, hrow⟩ := aggOf_true hag
          refine ⟨_, ?_, g1 rfl⟩
          simp only [hp, asAddr, Sem.run_bind, Sem.run_pure, Result.andThen_ok, run_loadVar_mid w b off t cs d hrange hd hrow (by rw [hi]; simp [hin, hcl])]
    obtain ⟨v, h3, h4⟩ := hex
    refine ⟨v :: vs, ?_, .cons h4 h2⟩
    rw [List.mapM_cons]
    simp only [Sem.run_bind, h3, h1, Result.andThen_ok, Sem.run_pure]

/-- What is left of the store: the first m entries. -/
theorem SRel.take {m : Nat} {κ₀ : Key} {Im₀ : Addr → Prop} {w₀ : World} {σ₀ : Store} (hs : SRel base κ Im σ w) (hs₀ : SRel base κ₀ Im₀ σ₀ w₀) (hm : σ₀.length ≤ m) (hg : Grow base κ₀ Im₀ w₀ κ Im w) (hb : ∀ (id : Nat) (e : Entry), id < m → σ[id]? = some e → σ₀[id]? = some e ∨ e.under m = true) :
    SRel base (cut κ m) (Freed κ Im σ m) (σ.take m) w := by
  have hdom0 : ∀ i n v, κ₀ i n = some v → i < m := fun i n v h => by
    obtain ⟨e, h1, _⟩ := hs₀.dom _ _ _ h
    have := (List.getElem?_eq_some_iff.1 h1).1
    omega
  have hcutdom : ∀ i n v, cut κ m i n = some v → i < m ∧ κ i n = some v := fun i n v h => by
    unfold cut at h; split at h
    · exact ⟨by assumption, h⟩
    · cases h
  have hbelow : ∀ (id : Nat) (e : Entry), id < m → σ[id]? = some e → e.under m = true := fun id e hid he => by
    rcases hb id e hid he with h | h
    · exact Entry.isBelow hdom0 (hs₀.ent _ _ h)
    · exact h
  have hget : ∀ (id : Nat) (e : Entry), (σ.take m)[id]? = some e → id < m ∧ σ[id]? = some e := fun id e h => by
    rw [List.getElem?_take] at h
    split at h
    · exact ⟨by assumption, h⟩
    · cases h
  have hblk : ∀ (id : Nat) (e : Entry), id < m → e.block (cut κ m) id = e.block κ id := fun id e hid => by
    cases e <;> simp [Entry.block, cut, hid]
  -- the freed cells lie in other blocks
  have hfree : ∀ (id : Nat) (e : Entry) (b : Nat), id < m → σ[id]? = some e → e.block κ id = some b → ∀ a, a.block = b → Freed κ Im σ m a → Im a := fun id e b hid he hbl a hab ha => by
    rcases ha with h | ⟨id', e', size, els, v, hm', he', hk, hvb, _, _⟩
    · exact h
    · exfalso
      have : (Entry.row e' size els false).block κ id' = some b := by simp [Entry.block, hk, hvb, hab]
      exact hs.sep id id' _ _ b (by omega) he he' hbl this
  refine ⟨hs.hb, fun id n v h => ?_, fun id e h => ?_, fun i j e e' b hij h1 h2 hb1 hb2 => ?_, fun a ha => ?_, hs.glob.mono (Nat.le_refl _) (fun _ h => .inl h) (fun _ _ => rfl) (fun _ _ => rfl)⟩
  · obtain ⟨hid, hk⟩ := hcutdom _ _ _ h
    obtain ⟨e, h1, h2⟩ := hs.dom _ _ _ hk
    exact ⟨e, by rw [List.getElem?_take, if_pos hid]; exact h1, h2⟩
  · obtain ⟨hid, he⟩ := hget _ _ h
    have hok := hs.ent _ _ he
    have hbl := hbelow id e hid he
    cases e with
    | dead _ => trivial
    | var t cells =>
      obtain ⟨b, cs, hk, hbb, hheap, hv, hone, him⟩ := hok
      exact ⟨b, cs, cut_some hk hid, hbb, hheap, hv.under (fun _ h => .inl h) hbl, hone, fun a ha hab => him a (hfree id _ b hid he (by simp [Entry.block, hk]) a hab ha) hab⟩
    | row ty size els im =>
      obtain ⟨v, xs, hk, hown, hv, hsz, hlen, hone, hir, him⟩ := hok
      have hbf : els.flatten.all (AV.under m) = true := by
        simp only [Entry.under, List.all_eq_true] at hbl ⊢
        intro x hx
        obtain ⟨c, hc, hxc⟩ := List.mem_flatten.1 hx
        exact hbl c hc x hxc
      refine ⟨v, xs, cut_some hk hid, hown, hv.under (fun _ h => .inl h) hbf, hsz, hlen, hone, fun hi => ⟨(hir hi).1, fun j h h' => ((hir hi).2 j h h').mono (fun _ h => .inl h) (fun _ _ => rfl)⟩, fun g hg => ?_⟩
      obtain ⟨k1, k2⟩ := him g hg
      exact ⟨fun a ha hab => k1 a (hfree id _ g hid he (by simp [Entry.block, hk, hg]) a hab ha) hab, fun hi o ho => .inl (k2 hi o ho)⟩
    | mp kv =>
      obtain ⟨b, es, clock, hk, hbb, hheap, hsz, hv, him⟩ := hok
      simp only [Entry.under, List.all_eq_true] at hbl
      exact ⟨b, es, clock, cut_some hk hid, hbb, hheap, hsz, fun j hj hj' => ⟨(hv j hj hj').1.mono (fun _ h => .inl h) (fun _ _ => rfl), (hv j hj hj').2.under (fun _ h => .inl h) (hbl _ (List.getElem_mem hj))⟩, fun a ha hab => him a (hfree id _ b hid he (by simp [Entry.block, hk]) a hab ha) hab⟩
  · obtain ⟨hi, he1⟩ := hget _ _ h1
    obtain ⟨hj, he2⟩ := hget _ _ h2
    rw [hblk _ _ hi] at hb1
    rw [hblk _ _ hj] at hb2
    exact hs.sep i j e e' b hij he1 he2 hb1 hb2
  · rcases ha with h | ⟨id', e', size, els, v, hm', he', hk, hvb, hsp, _⟩
    · exact hs.imlt a h
    · have : (Entry.row e' size els false).block κ id' = some a.block := by simp [Entry.block, hk, hvb]
      exact ⟨((hs.ent _ _ he').block_ge this).2, hsp⟩

/-- What a function's end asks for, and what it hands back. -/
theorem ret_ok {fn : Func} {rs : List (Nat × Option (Bool × Nat))} {σ₀ σ' : Store} {R : AV → Store → Prop} {κ κ' : Key} {Im Im' : Addr → Prop} {w w' : World} {f' : Frame} {a' : Act} (hrs : fn.results.toList.mapM (compRes P) = some rs) (hs : SRel base κ Im σ₀ w)
    (hfr : FRel κ' Im' w' f' a') (hst : SRel base κ' Im' σ' w') (hgr : Grow base κ Im w κ' Im' w') : AtRet σ₀ R rs f' σ' → ∃ v, (results fn a'.tmps).run P w' = .ok v w' ∧ (∃ r σ'' v' κ'' Im'', Ending.returned v = .returned v' ∧ R r σ'' ∧ SRel base κ'' Im'' σ'' w' ∧ Grow base κ Im w κ'' Im'' w' ∧ VR κ'' Im'' w' r v') := by
  rintro ⟨rs', r, m, h1, h2, h3, h4, h5⟩
  obtain ⟨us, h6, h7⟩ := results_ok (P := P) hst hfr hrs h1
  have hfin : VR (cut κ' m) (Freed κ' Im' σ' m) w' r (if h : us.toArray.size = 1 then us.toArray[0] else .tuple us.toArray) := by
    rcases h2 with h2 | ⟨rfl, h2⟩
    · exact fin_ok hst (tupOf_ok h7) h2
    · exact (tupOf_ok h7).under (fun _ h => .inl h) h2
  refine ⟨_, ?_, r, σ'.take m, _, cut κ' m, Freed κ' Im' σ' m, rfl, h5, hst.take hs h3 hgr h4, ?_, hfin⟩
  · unfold results
    rw [Array.mapM_eq_mapM_toList]
    simp only [Sem.run_bind, Sem.run_map, Result.andThen_ok]
    exact congrArg (fun (r : Result (List Value)) => (r.andThen fun a w' => Result.ok a.toArray w').andThen fun a w' => Sem.run P (pure (if h : a.size = 1 then a[0] else Value.tuple a)) w') h6
  · refine ⟨fun i n v hk => cut_some (hgr.kap _ _ _ hk) ?_, fun a ha => .inl (hgr.im a ha), hgr.cell, fun a ha => ?_, hgr.below⟩
    · obtain ⟨e, g1, _⟩ := hs.dom _ _ _ hk
      have := (List.getElem?_eq_some_iff.1 g1).1
      omega
    · rcases ha with ha | ⟨id', e', size, els, v, hm', he', hk, hvb, hsp, _⟩
      · exact hgr.new a ha
      · have : (Entry.row e' size els false).block κ' id' = some a.block := by simp [Entry.block, hk, hvb]
        exact .inr ((hst.ent _ _ he').block_ge this).1

theorem init_ok {fn : Func} {args : List AV} {vs : List Value} (hargs : args.length ≤ fn.ntmps) (hv : VRL κ Im w args vs) : (vs.toArray ++ Array.replicate (fn.ntmps - vs.toArray.size) undef).size = fn.ntmps ∧ FRel κ Im w (initF args) { tmps := vs.toArray ++ Array.replicate (fn.ntmps - vs.toArray.size) undef, defers := [] } := by
  have hlen := hv.1
  refine ⟨by simp; omega, fun t => ?_⟩
  show VR κ Im w (args.getD t .junk) ((vs.toArray ++ Array.replicate (fn.ntmps - vs.toArray.size) undef).getD t undef)
  by_cases ht : t < args.length
  · have htv : t < vs.length := by rw [← hlen]; exact ht
    have e1 : args.getD t .junk = args[t] := by simp [ht]
    have e2 : (vs.toArray ++ Array.replicate (fn.ntmps - vs.toArray.size) undef).getD t undef = vs[t] := by
      simp [Array.getD_eq_getD_getElem?, Array.getElem?_append, htv]
    rw [e1, e2]
    exact hv.2 t ht htv
  · have e1 : args.getD t .junk = .junk := by
      rw [List.getD_eq_getElem?_getD, List.getElem?_eq_none (Nat.le_of_not_lt ht)]; rfl
    rw [e1]
    exact .im _ _ (.junk _)

/-- A function's body does what its abstract code says. -/
theorem body_ok (hm : P.follows .mixedOrders = true) {loud : List FuncId} {fn : Func} {c : Code} {rs : List (Nat × Option (Bool × Nat))} {args : List AV} {σ₀ : Store} {R : AV → Store → Prop} (hrs : fn.results.toList.mapM (compRes P) = some rs) (hargs : args.length ≤ fn.ntmps)
    (h : awp P (comp P fn.ntmps loud c) (BodyPost σ₀ R rs) (initF args) σ₀) {base : Nat} {κ : Key} {Im : Addr → Prop} {w : World} {vs : List Value} (hs : SRel base κ Im σ₀ w) (hv : VRL κ Im w args vs) :
    c.wp P (bodyPost P fn fun e w' => ∃ r σ' v κ' Im', e = .returned v ∧ R r σ' ∧ SRel base κ' Im' σ' w' ∧ Grow base κ Im w κ' Im' w' ∧ VR κ' Im' w' r v) { tmps := vs.toArray ++ Array.replicate (fn.ntmps - vs.toArray.size) undef, defers := [] } w := by
  obtain ⟨i1, i2⟩ := init_ok (fn := fn) hargs hv
  refine code_ok hm (N := fn.ntmps) (loud := loud) (D := []) c _ _ (initF args) σ₀ κ Im _ w ?_ h ⟨i2, i1, rfl, hs, Grow.refl _ _ _ _⟩
  intro e f' σ' κ' Im' a' w' hQ hst
  cases e with
  | normal => exact ⟨hst.df, ret_ok hrs hs hst.fr hst.st hst.gr hQ⟩
  | ret => exact ⟨hst.df, ret_ok hrs hs hst.fr hst.st hst.gr hQ⟩
  | exit id => exact hQ.elim

/-- A FUNCTION'S CONTRACT, FROM ITS ABSTRACT CODE. -/
theorem acalls_of_awp (hm : P.follows .mixedOrders = true) {loud : List FuncId} {f : FuncId} {af : AFunc} {args : List AV} {σ₀ : Store} {R : AV → Store → Prop} (hf : compFn P loud f = some af) (hargs : args.length ≤ af.n)
    (h : awp P af.code (BodyPost σ₀ R af.res) (initF args) σ₀) : ACalls P f args σ₀ R := by
  unfold compFn at hf
  simp only [Option.bind_eq_bind, Option.bind_eq_some_iff, Option.pure_def, Option.some.injEq] at hf
  obtain ⟨fn, hfn, c, hbody, rs, hrs, rfl⟩ := hf
  intro base κ Im w vs hs hv
  exact calls_of_wp hfn hbody (body_ok hm hrs hargs h hs hv)
end
end Go.Abs
end

section
/- Abstract machine, part 20: rules by which 'simp' walks through abstract code. -/
set_option linter.unusedSimpArgs false
set_option linter.unusedVariables false
set_option linter.constructorNameAsVariable false
namespace Go.Abs
open Go.RowKit
variable {G : Globs}
universe u

/-- A tag that keeps 'simp' out of what it names: what a later argument's type depends on is left alone. -/
inductive Tg {α : Sort u} : α → Type u
  | mk (a : α) : Tg a

/-- A step that yields something. -/
def ob (K : AV → Prop) (_ : Tg K) (o : Option AV) : Prop := ∃ r, o = some r ∧ K r
theorem ob_some (a : AV) (K : AV → Prop) (t : Tg K) : ob K t (some a) = K a := by simp [ob]
theorem ob_none (K : AV → Prop) (t : Tg K) : ob K t none = False := by simp [ob]

/-- A branch. -/
def cb (A B : Prop) (_ : Tg A) (_ : Tg B) (v : AV) : Prop := ∃ b, v = .bool b ∧ (b = true → A) ∧ (b = false → B)
theorem cb_true (A B : Prop) (s : Tg A) (t : Tg B) : cb A B s t (.bool true) = A := by simp [cb]
theorem cb_false (A B : Prop) (s : Tg A) (t : Tg B) : cb A B s t (.bool false) = B := by simp [cb]
theorem cb_intro {b : Bool} {A B : Prop} {s : Tg A} {t : Tg B} (h1 : b = true → A) (h2 : b = false → B) : cb A B s t (.bool b) := ⟨b, rfl, h1, h2⟩
theorem cb_dec {p : Prop} [Decidable p] {A B : Prop} {s : Tg A} {t : Tg B} (h1 : p → A) (h2 : ¬ p → B) : cb A B s t (.bool (decide p)) := ⟨_, rfl, fun h => h1 (by simpa using h), fun h => h2 (by simpa using h)⟩

/-- A guard. -/
def gd (b : Bool) (A B : Prop) (_ : Tg A) (_ : Tg B) (v : AV) : Prop := ∃ w, Wants v b w ∧ (w = true → A) ∧ (w = false → B)
theorem gd_of (b w : Bool) (A B : Prop) (s : Tg A) (t : Tg B) (v : AV) (h : Wants v b w) (hu : ∀ w', Wants v b w' → w' = w) : gd b A B s t v = if w = true then A else B := by
  unfold gd
  apply propext
  constructor
  · rintro ⟨w', h1, h2, h3⟩
    have := hu w' h1
    subst this
    cases w' with
    | true => exact h2 rfl
    | false => exact h3 rfl
  · intro h1
    refine ⟨w, h, fun e => ?_, fun e => ?_⟩ <;> (subst e; exact h1)
theorem wants_bool (c b : Bool) : Wants (.bool c) b (c == b) := .inr ⟨c, rfl, rfl⟩
theorem wants_bool_eq (c b w : Bool) (h : Wants (.bool c) b w) : w = (c == b) := by
  rcases h with ⟨h, _⟩ | ⟨c', h, rfl⟩
  · cases h
  · cases h; rfl
theorem gd_tt (A B : Prop) (s : Tg A) (t : Tg B) : gd true A B s t (.bool true) = A := gd_of _ _ _ _ _ _ _ (wants_bool _ _) (wants_bool_eq _ _)
theorem gd_tf (A B : Prop) (s : Tg A) (t : Tg B) : gd false A B s t (.bool true) = B := gd_of _ _ _ _ _ _ _ (wants_bool _ _) (wants_bool_eq _ _)
theorem gd_ft (A B : Prop) (s : Tg A) (t : Tg B) : gd true A B s t (.bool false) = B := gd_of _ _ _ _ _ _ _ (wants_bool _ _) (wants_bool_eq _ _)
theorem gd_ff (A B : Prop) (s : Tg A) (t : Tg B) : gd false A B s t (.bool false) = A := gd_of _ _ _ _ _ _ _ (wants_bool _ _) (wants_bool_eq _ _)
theorem gd_u (b : Bool) (A B : Prop) (s : Tg A) (t : Tg B) : gd b A B s t (.any undef) = B := gd_of _ false _ _ _ _ _ (.inl ⟨rfl, rfl⟩) fun w' h => by
  rcases h with ⟨_, h⟩ | ⟨c, h, _⟩
  · exact h
  · cases h
theorem gd_t {b : Bool} {A B : Prop} {s : Tg A} {t : Tg B} (h1 : b = true → A) (h2 : b = false → B) : gd true A B s t (.bool b) := ⟨b, by simpa using wants_bool b true, h1, h2⟩
theorem gd_f {b : Bool} {A B : Prop} {s : Tg A} {t : Tg B} (h1 : b = false → A) (h2 : b = true → B) : gd false A B s t (.bool b) := ⟨!b, by simpa using wants_bool b false, fun h => h1 (by simpa using h), fun h => h2 (by simpa using h)⟩
theorem gd_dt {p : Prop} [Decidable p] {A B : Prop} {s : Tg A} {t : Tg B} (h1 : p → A) (h2 : ¬ p → B) : gd true A B s t (.bool (decide p)) := gd_t (fun h => h1 (by simpa using h)) (fun h => h2 (by simpa using h))
theorem gd_df {p : Prop} [Decidable p] {A B : Prop} {s : Tg A} {t : Tg B} (h1 : ¬ p → A) (h2 : p → B) : gd false A B s t (.bool (decide p)) := gd_f (fun h => h1 (by simpa using h)) (fun h => h2 (by simpa using h))

/-- Calls, out of simp's reach. -/
def ac [Globs] (P : Program) (K : AV → Store → Prop) (_ : Tg K) (σ : Store) (g : FuncId) (args : List AV) : Prop := acall P σ K g args
def qc [Globs] (P : Program) (K : AV → Store → Prop) (_ : Tg K) (σ : Store) (g : FuncId) (args : List AV) : Prop := aqcall P σ K g args
/-- A loop, out of simp's reach. -/
def lp [Globs] (P : Program) (c : ACode) (_ : Tg c) (Q : AExit → Frame → Store → Prop) (_ : Tg Q) (f : Frame) (_ : Tg f) (σ : Store) (_ : Tg σ) : Prop := awp P (.loop c) Q f σ

section
variable {P : Program} {K : AV → Store → Prop} {f : Frame} {σ : Store}

theorem awpOps_nil {Q : Frame → Store → Prop} : awpOps P Q [] f σ = Q f σ := propext Iff.rfl
theorem awpOps_cons {Q : Frame → Store → Prop} {d : Option Nat} {o : AOp} {rest : List AIns} : awpOps P Q (⟨none, d, o⟩ :: rest) f σ = awpOp P (fun r σ' => awpOps P Q rest (f.put d r) σ') f σ o := propext Iff.rfl
theorem awpOps_guard {Q : Frame → Store → Prop} {t : Nat} {b : Bool} {d : Option Nat} {o : AOp} {rest : List AIns} :
    awpOps P Q (⟨some (t, b), d, o⟩ :: rest) f σ = gd b (awpOp P (fun r σ' => awpOps P Q rest (f.put d r) σ') f σ o) (awpOps P Q rest (f.put d (.any undef)) σ) (.mk _) (.mk _) (f t) := propext Iff.rfl
theorem op_mv (x : Opd) : awpOp P K f σ (.mv x) = ob (fun r => K r σ) (.mk _) (pstep σ f (.mv x)) := propext Iff.rfl
theorem op_pick (c a b : Opd) : awpOp P K f σ (.pick c a b) = ob (fun r => K r σ) (.mk _) (pstep σ f (.pick c a b)) := propext Iff.rfl
theorem op_bin (op : BinOp) (x y : Opd) : awpOp P K f σ (.bin op x y) = ob (fun r => K r σ) (.mk _) (pstep σ f (.bin op x y)) := propext Iff.rfl
theorem op_beq (n : Bool) (x y : Opd) : awpOp P K f σ (.beq n x y) = ob (fun r => K r σ) (.mk _) (pstep σ f (.beq n x y)) := propext Iff.rfl
theorem op_eqs (n : Bool) (k : List Nat) (x y : Opd) : awpOp P K f σ (.eqs n k x y) = ob (fun r => K r σ) (.mk _) (pstep σ f (.eqs n k x y)) := propext Iff.rfl
theorem op_not (x : Opd) : awpOp P K f σ (.not x) = ob (fun r => K r σ) (.mk _) (pstep σ f (.not x)) := propext Iff.rfl
theorem op_neg (x : Opd) : awpOp P K f σ (.neg x) = ob (fun r => K r σ) (.mk _) (pstep σ f (.neg x)) := propext Iff.rfl
theorem op_conv (k : IntKind) (x : Opd) : awpOp P K f σ (.conv k x) = ob (fun r => K r σ) (.mk _) (pstep σ f (.conv k x)) := propext Iff.rfl
theorem op_ext (x : Opd) (i : Nat) : awpOp P K f σ (.ext x i) = ob (fun r => K r σ) (.mk _) (pstep σ f (.ext x i)) := propext Iff.rfl
theorem op_build (z : List AV) (p : List (Nat × Nat × Opd)) : awpOp P K f σ (.build z p) = ob (fun r => K r σ) (.mk _) (pstep σ f (.build z p)) := propext Iff.rfl
theorem op_field (o s : Nat) (a : Bool) (x : Opd) : awpOp P K f σ (.field o s a x) = ob (fun r => K r σ) (.mk _) (pstep σ f (.field o s a x)) := propext Iff.rfl
theorem op_load (a : Bool) (s : Nat) (x : Opd) : awpOp P K f σ (.load a s x) = ob (fun r => K r σ) (.mk _) (pstep σ f (.load a s x)) := propext Iff.rfl
theorem op_nilck (x : Opd) : awpOp P K f σ (.nilck x) = ob (fun r => K r σ) (.mk _) (pstep σ f (.nilck x)) := propext Iff.rfl
theorem op_faddr (o : Nat) (x : Opd) : awpOp P K f σ (.faddr o x) = ob (fun r => K r σ) (.mk _) (pstep σ f (.faddr o x)) := propext Iff.rfl
theorem op_iaddr (s : Nat) (x i : Opd) : awpOp P K f σ (.iaddr s x i) = ob (fun r => K r σ) (.mk _) (pstep σ f (.iaddr s x i)) := propext Iff.rfl
theorem op_aaddr (l s : Nat) (x i : Opd) : awpOp P K f σ (.aaddr l s x i) = ob (fun r => K r σ) (.mk _) (pstep σ f (.aaddr l s x i)) := propext Iff.rfl
theorem op_sidx (x i : Opd) : awpOp P K f σ (.sidx x i) = ob (fun r => K r σ) (.mk _) (pstep σ f (.sidx x i)) := propext Iff.rfl
theorem op_aidx (l s : Nat) (a : Bool) (x i : Opd) : awpOp P K f σ (.aidx l s a x i) = ob (fun r => K r σ) (.mk _) (pstep σ f (.aidx l s a x i)) := propext Iff.rfl
theorem op_slen (x : Opd) : awpOp P K f σ (.slen x) = ob (fun r => K r σ) (.mk _) (pstep σ f (.slen x)) := propext Iff.rfl
theorem op_len (x : Opd) : awpOp P K f σ (.len x) = ob (fun r => K r σ) (.mk _) (pstep σ f (.len x)) := propext Iff.rfl
theorem op_sslc (x : Opd) (l h : Option Opd) : awpOp P K f σ (.sslc x l h) = ob (fun r => K r σ) (.mk _) (pstep σ f (.sslc x l h)) := propext Iff.rfl
theorem op_slc (s : Nat) (x : Opd) (l h : Option Opd) : awpOp P K f σ (.slc s x l h) = ob (fun r => K r σ) (.mk _) (pstep σ f (.slc s x l h)) := propext Iff.rfl
theorem op_mm (m : Bool) (x y : Opd) : awpOp P K f σ (.mm m x y) = ob (fun r => K r σ) (.mk _) (pstep σ f (.mm m x y)) := propext Iff.rfl
theorem op_mkfn (g : Fn) (a b : List Opd) : awpOp P K f σ (.mkfn g a b) = ob (fun r => K r σ) (.mk _) (pstep σ f (.mkfn g a b)) := propext Iff.rfl
theorem op_mkif (t : TypeId) (x : Opd) : awpOp P K f σ (.mkif t x) = ob (fun r => K r σ) (.mk _) (pstep σ f (.mkif t x)) := propext Iff.rfl
theorem op_alloc (ty : Nat) (cells : List AV) : awpOp P K f σ (.alloc ty cells) = K (.ptr σ.length 0) (σ ++ [.var ty cells]) := propext Iff.rfl
theorem op_call (g : FuncId) (args : List Opd) : awpOp P K f σ (.call g args) = ac P K (.mk _) σ g (args.map (·.ev f)) := propext Iff.rfl
theorem op_qcall (g : FuncId) (args : List Opd) : awpOp P K f σ (.qcall g args) = qc P K (.mk _) σ g (args.map (·.ev f)) := propext Iff.rfl
/-- A store. -/
def sb (K : Store → Prop) (_ : Tg K) (o : Option Store) : Prop := ∃ r, o = some r ∧ K r
theorem sb_some (a : Store) (K : Store → Prop) (t : Tg K) : sb K t (some a) = K a := by simp [sb]
def putOp (σ : Store) (size : Nat) (x v : AV) : Option Store := if v.cells.length = size ∧ v.cells.all AV.one = true then putAt σ x v.cells else none
theorem op_store (n : Nat) (x v : Opd) : awpOp P K f σ (.store n x v) = sb (fun σ' => K .junk σ') (.mk _) (putOp σ n (x.ev f) (v.ev f)) := by
  unfold putOp sb
  simp only [awpOp]
  apply propext
  constructor
  · rintro ⟨σ', h1, h2, h3, h4⟩
    exact ⟨σ', by rw [if_pos ⟨h1, List.all_eq_true.2 h2⟩]; exact h3, h4⟩
  · rintro ⟨σ', h1, h2⟩
    split at h1
    · rename_i hc; exact ⟨σ', hc.1, List.all_eq_true.1 hc.2, h1, h2⟩
    · cases h1
def boxOp (v : AV) : Option AV := if v.cells.all AV.one = true then some (.agg v.cells) else none
theorem op_box (ty : Nat) (x : Opd) (h : (x.ev f).cells.all AV.one = true) : awpOp P K f σ (.box ty x) = K (.ptr σ.length 0) (σ ++ [.var ty (x.ev f).cells]) := by
  simp only [awpOp]; exact propext ⟨fun h' => h'.2, fun h' => ⟨List.all_eq_true.1 h, h'⟩⟩
def lstOp (σ : Store) (f : Frame) (size : Nat) (zero : List AV) (n : Nat) (parts : List (Nat × Opd)) : Option AV :=
  (parts.mapM fun (p : Nat × Opd) => (share σ (p.2.ev f)).bind fun v => if v.cells.length = size ∧ v.cells.all AV.one then some (p.1 * size, v.cells) else none).map fun ps => .lst (chunks n size (lay (List.replicate n zero).flatten ps))
theorem op_mklst (e size : Nat) (zero : List AV) (n : Nat) (parts : List (Nat × Opd)) : awpOp P K f σ (.mklst e size zero n parts) = ob (fun r => K r σ) (.mk _) (lstOp σ f size zero n parts) := by
  unfold ob lstOp
  simp only [awpOp]
  apply propext
  constructor
  · rintro ⟨ps, h1, h2⟩; exact ⟨_, by rw [h1]; rfl, h2⟩
  · rintro ⟨r, h1, h2⟩
    simp only [Option.map_eq_some_iff] at h1
    obtain ⟨ps, h3, rfl⟩ := h1
    exact ⟨ps, h3, h2⟩

/-- The elements of a list. -/
def AV.els : AV → List (List AV)
  | .lst l => l
  | _ => []
def rowOp (f : Frame) (size : Nat) (zero : List AV) (n : Nat) (parts : List (Nat × Opd)) : Option AV :=
  if 0 < size then (parts.mapM fun (p : Nat × Opd) => if (p.2.ev f).cells.length = size ∧ (p.2.ev f).cells.all AV.one then some (p.1 * size, (p.2.ev f).cells) else none).map fun ps => .lst (chunks n size (lay (List.replicate n zero).flatten ps)) else none
theorem op_mkrow (e size : Nat) (zero : List AV) (n : Nat) (parts : List (Nat × Opd)) : awpOp P K f σ (.mkrow e size zero n parts) = ob (fun r => K (.row σ.length n) (σ ++ [.row e size r.els false])) (.mk _) (rowOp f size zero n parts) := by
  unfold ob rowOp
  simp only [awpOp]
  apply propext
  constructor
  · rintro ⟨ps, h1, h2, h3⟩; exact ⟨.lst (chunks n size (lay (List.replicate n zero).flatten ps)), by rw [if_pos h2, h1]; rfl, h3⟩
  · rintro ⟨r, h1, h2⟩
    split at h1
    case isFalse => cases h1
    rename_i hs
    simp only [Option.map_eq_some_iff] at h1
    obtain ⟨ps, h3, rfl⟩ := h1
    exact ⟨ps, h3, hs, h2⟩

theorem op_px (o : XOp) : awpOp P K f σ (.px o) = ob (fun r => K r σ) (.mk _) (pstep σ f (.px o)) := propext Iff.rfl
theorem op_tobytes (x : Opd) : awpOp P K f σ (.tobytes x) = ob (fun r => K r σ) (.mk _) (bytesStep (x.ev f)) := propext Iff.rfl
theorem op_mkmap : awpOp P K f σ (.ex .mkmap) = K (.map σ.length) (σ ++ [.mp []]) := propext ⟨fun ⟨_, _, ⟨h1, h2⟩, h⟩ => by subst h1; subst h2; exact h, fun h => ⟨_, _, ⟨rfl, rfl⟩, h⟩⟩
def msetOp (σ : Store) (kind : Nat) (X k v : AV) : Option Store := match X with
  | .map id => match σ[id]? with
    | some (.mp kv) => if k.pure = true then (mapPut kind k v kv).map fun kv' => σ.set id (.mp kv') else none
    | _ => none
  | _ => none
theorem op_mset (kind : Nat) (x k v : Opd) : awpOp P K f σ (.ex (.mset kind x k v)) = sb (fun σ' => K .junk σ') (.mk _) (msetOp σ kind (x.ev f) (k.ev f) (v.ev f)) := by
  apply propext
  constructor
  · rintro ⟨r, σ', ⟨rfl, id, kv, kv', h1, h2, h3, h4, rfl⟩, hK⟩
    exact ⟨_, by simp only [msetOp, h1, h2, h3, h4, if_true, Option.map_some], hK⟩
  · rintro ⟨σ', h, hK⟩
    unfold msetOp at h
    split at h
    case h_2 => cases h
    rename_i id he
    split at h
    case h_2 => cases h
    rename_i kv hkv
    split at h
    case isFalse => cases h
    rename_i hp
    simp only [Option.map_eq_some_iff] at h
    obtain ⟨kv', h1, rfl⟩ := h
    exact ⟨_, _, ⟨rfl, id, kv, kv', he, hkv, hp, h1, rfl⟩, hK⟩
theorem op_clr (size : Nat) (z : List AV) (x : Opd) : awpOp P K f σ (.ex (.clr size z x)) = sb (fun σ' => K (.tup []) σ') (.mk _) (clrAt σ size z (x.ev f)) :=
  propext ⟨fun ⟨_, _, ⟨h1, h2⟩, h⟩ => ⟨_, h2, by subst h1; exact h⟩, fun ⟨_, h2, h⟩ => ⟨_, _, ⟨rfl, h2⟩, h⟩⟩
/-- An append, out of simp's reach. -/
def ap (K : AV → Store → Prop) (_ : Tg K) (σ : Store) (e size bytes : Nat) (x y : AV) : Prop := ∃ m, view σ y = some m ∧ 0 < size ∧ (∀ c ∈ m, c.length = size) ∧
  match x with
  | .nils => (m = [] ∧ K .nils σ) ∨ ∃ im, (im = true → Fixed σ y m) ∧ m.length * bytes ≤ 140737488355328 ∧ m.length ≤ 9223372036854775807 ∧ K (.row σ.length m.length) (σ ++ [.row e size m im])
  | .row id n => ∃ els im, σ[id]? = some (.row e size els im) ∧ (im = true → Fixed σ y m) ∧ els.length = n ∧ (n + m.length) * bytes ≤ 140737488355328 ∧ n + m.length ≤ 9223372036854775807 ∧ K (.row id (n + m.length)) (σ.set id (.row e size (els ++ m) im))
  | _ => False
theorem op_app (e size bytes : Nat) (x y : Opd) : awpOp P K f σ (.app e size bytes x y) = ap K (.mk _) σ e size bytes (x.ev f) (y.ev f) := propext Iff.rfl
theorem ap_new (im : Bool) {t : Tg K} {e size bytes : Nat} {y : AV} (m : List (List AV)) (hv : view σ y = some m) (hs : 0 < size) (hl : ∀ c ∈ m, c.length = size) (hf : im = true → Fixed σ y m) (hb : m.length * bytes ≤ 140737488355328) (h63 : m.length ≤ 9223372036854775807)
    (hK : K (.row σ.length m.length) (σ ++ [.row e size m im])) : ap K t σ e size bytes .nils y := ⟨m, hv, hs, hl, .inr ⟨im, hf, hb, h63, hK⟩⟩
theorem ap_nil {t : Tg K} {e size bytes : Nat} {y : AV} (hv : view σ y = some []) (hs : 0 < size) (hK : K .nils σ) : ap K t σ e size bytes .nils y := ⟨[], hv, hs, by simp, .inl ⟨rfl, hK⟩⟩
theorem ap_row {t : Tg K} {e size bytes id n : Nat} {y : AV} (els m : List (List AV)) (im : Bool) (he : σ[id]? = some (.row e size els im)) (hv : view σ y = some m) (hs : 0 < size) (hl : ∀ c ∈ m, c.length = size) (hf : im = true → Fixed σ y m) (hn : els.length = n) (hb : (n + m.length) * bytes ≤ 140737488355328) (h63 : n + m.length ≤ 9223372036854775807)
    (hK : K (.row id (n + m.length)) (σ.set id (.row e size (els ++ m) im))) : ap K t σ e size bytes (.row id n) y := ⟨m, hv, hs, hl, els, im, he, hf, hn, hb, h63, hK⟩

/-- An append of a text, out of simp's reach. -/
def aps (K : AV → Store → Prop) (_ : Tg K) (σ : Store) (e : Nat) (x y : AV) : Prop := ∃ l, y = .str l ∧
  match x with
  | .nils => (l = [] ∧ K .nils σ) ∨ ∃ im, l.length ≤ 140737488355328 ∧ K (.row σ.length l.length) (σ ++ [.row e 1 (byteEls l) im])
  | .row id n => ∃ els im, σ[id]? = some (.row e 1 els im) ∧ els.length = n ∧ n + l.length ≤ 140737488355328 ∧ K (.row id (n + l.length)) (σ.set id (.row e 1 (els ++ byteEls l) im))
  | _ => False
theorem op_apps (e : Nat) (x y : Opd) : awpOp P K f σ (.apps e x y) = aps K (.mk _) σ e (x.ev f) (y.ev f) := propext Iff.rfl
theorem aps_new (im : Bool) {t : Tg K} {e : Nat} {l : List UInt8} (hb : l.length ≤ 140737488355328) (hK : K (.row σ.length l.length) (σ ++ [.row e 1 (byteEls l) im])) : aps K t σ e .nils (.str l) := ⟨l, rfl, .inr ⟨im, hb, hK⟩⟩
theorem aps_nil {t : Tg K} {e : Nat} (hK : K .nils σ) : aps K t σ e .nils (.str []) := ⟨[], rfl, .inl ⟨rfl, hK⟩⟩
theorem aps_row {t : Tg K} {e id n : Nat} {l : List UInt8} (els : List (List AV)) (im : Bool) (he : σ[id]? = some (.row e 1 els im)) (hn : els.length = n) (hb : n + l.length ≤ 140737488355328)
    (hK : K (.row id (n + l.length)) (σ.set id (.row e 1 (els ++ byteEls l) im))) : aps K t σ e (.row id n) (.str l) := ⟨l, rfl, els, im, he, hn, hb, hK⟩
theorem awp_all_nil {Q : AExit → Frame → Store → Prop} : awp P (.all []) Q f σ = True := propext ⟨fun _ => trivial, fun _ _ h => by cases h⟩
theorem awp_all_cons {Q : AExit → Frame → Store → Prop} (l : List AIns) (ls : List (List AIns)) : awp P (.all (l :: ls)) Q f σ = (awpOps P (Q .normal) l f σ ∧ awp P (.all ls) Q f σ) :=
  propext ⟨fun h => ⟨h l (by simp), fun l' h' => h l' (by simp [h'])⟩, fun h l' h' => by
    rcases List.mem_cons.1 h' with rfl | h'
    · exact h.1
    · exact h.2 l' h'⟩
theorem awp_skip {Q : AExit → Frame → Store → Prop} : awp P .skip Q f σ = Q .normal f σ := propext Iff.rfl
theorem awp_ops {Q : AExit → Frame → Store → Prop} (l : List AIns) : awp P (.ops l) Q f σ = awpOps P (Q .normal) l f σ := propext Iff.rfl
theorem awp_seq {Q : AExit → Frame → Store → Prop} (a b : ACode) : awp P (.seq a b) Q f σ = awp P a (AExit.then (awp P b Q) Q) f σ := propext Iff.rfl
theorem awp_cond {Q : AExit → Frame → Store → Prop} (c : Opd) (x y : ACode) : awp P (.cond c x y) Q f σ = cb (awp P x Q f σ) (awp P y Q f σ) (.mk _) (.mk _) (c.ev f) := propext Iff.rfl
theorem awp_loop {Q : AExit → Frame → Store → Prop} (c : ACode) : awp P (.loop c) Q f σ = lp P c (.mk _) Q (.mk _) f (.mk _) σ (.mk _) := propext Iff.rfl
theorem awp_block {Q : AExit → Frame → Store → Prop} (id : Nat) (c : ACode) : awp P (.block id c) Q f σ = awp P c (AExit.inBlock id Q) f σ := propext Iff.rfl
theorem awp_exit {Q : AExit → Frame → Store → Prop} (id : Nat) : awp P (.exit id) Q f σ = Q (.exit id) f σ := propext Iff.rfl
theorem awp_ret {Q : AExit → Frame → Store → Prop} : awp P .ret Q f σ = Q .ret f σ := propext Iff.rfl
theorem then_normal {N : Frame → Store → Prop} {Q : AExit → Frame → Store → Prop} : AExit.then N Q .normal f σ = N f σ := propext Iff.rfl
theorem then_normal' {N : Frame → Store → Prop} {Q : AExit → Frame → Store → Prop} : AExit.then N Q .normal = N := funext fun _ => funext fun _ => propext Iff.rfl
theorem then_exit {N : Frame → Store → Prop} {Q : AExit → Frame → Store → Prop} (id : Nat) : AExit.then N Q (.exit id) f σ = Q (.exit id) f σ := propext Iff.rfl
theorem then_ret {N : Frame → Store → Prop} {Q : AExit → Frame → Store → Prop} : AExit.then N Q .ret f σ = Q .ret f σ := propext Iff.rfl
theorem inBlock_normal {id : Nat} {Q : AExit → Frame → Store → Prop} : AExit.inBlock id Q .normal f σ = Q .normal f σ := propext Iff.rfl
theorem inBlock_normal' {id : Nat} {Q : AExit → Frame → Store → Prop} : AExit.inBlock id Q .normal = Q .normal := funext fun _ => funext fun _ => propext Iff.rfl
theorem inBlock_ret {id : Nat} {Q : AExit → Frame → Store → Prop} : AExit.inBlock id Q .ret f σ = Q .ret f σ := propext Iff.rfl
theorem inBlock_exit {id id' : Nat} {Q : AExit → Frame → Store → Prop} : AExit.inBlock id Q (.exit id') f σ = if id' = id then Q .normal f σ else Q (.exit id') f σ := propext Iff.rfl
theorem post_ret {σ₀ : Store} {R : AV → Store → Prop} {res : List (Nat × Option (Bool × Nat))} : BodyPost σ₀ R res .ret f σ = AtRet σ₀ R res f σ := propext Iff.rfl
theorem post_normal {σ₀ : Store} {R : AV → Store → Prop} {res : List (Nat × Option (Bool × Nat))} : BodyPost σ₀ R res .normal f σ = AtRet σ₀ R res f σ := propext Iff.rfl

theorem lp_intro {c : ACode} {tc : Tg c} {Q : AExit → Frame → Store → Prop} {tq : Tg Q} {tf : Tg f} {ts : Tg σ} (I : Nat → Frame → Store → Prop) (n : Nat) (h0 : I n f σ) (hr : ∀ n f σ, I n f σ → awp P c (AExit.then (fun f' σ' => ∃ n', n' < n ∧ I n' f' σ') Q) f σ) : lp P c tc Q tq f tf σ ts := ⟨I, n, h0, hr⟩

theorem awp_mono : ∀ {c : ACode} {Q Q' : AExit → Frame → Store → Prop} {f : Frame} {σ : Store}, (∀ e f σ, Q e f σ → Q' e f σ) → awp P c Q f σ → awp P c Q' f σ
  | .skip, _, _, _, _, h, h' => h _ _ _ h'
  | .ops [], _, _, _, _, h, h' => h _ _ _ h'
  | .ops (i :: l), Q, Q', _, _, h, h' => awpIns_mono (fun f σ h0 => awp_mono (c := .ops l) (Q := Q) (Q' := Q') h h0) h'
  | .all ls, Q, Q', _, _, h, h' => fun l hl => awp_mono (c := .ops l) (Q := Q) (Q' := Q') h (h' l hl)
  | .seq a b, _, _, _, _, h, h' => awp_mono (c := a) (fun e f σ h0 => by cases e <;> first | exact awp_mono (c := b) h h0 | exact h _ _ _ h0) h'
  | .cond c x y, _, _, _, _, h, ⟨b, h1, h2, h3⟩ => ⟨b, h1, fun hb => awp_mono (c := x) h (h2 hb), fun hb => awp_mono (c := y) h (h3 hb)⟩
  | .block id c, _, _, _, _, h, h' => awp_mono (c := c) (fun e f σ h0 => by
      cases e with
      | normal => exact h _ _ _ h0
      | exit id' => simp only [AExit.inBlock] at h0 ⊢; split <;> rename_i hh <;> simp only [hh, if_true, if_false] at h0 <;> exact h _ _ _ h0
      | ret => exact h _ _ _ h0) h'
  | .loop c, _, _, _, _, h, ⟨I, n, h0, hr⟩ => ⟨I, n, h0, fun n f σ hI => awp_mono (c := c) (fun e f σ h1 => by cases e <;> first | exact h1 | exact h _ _ _ h1) (hr n f σ hI)⟩
  | .exit id, _, _, _, _, h, h' => h _ _ _ h'
  | .ret, _, _, _, _, h, h' => h _ _ _ h'
  | .gh, _, _, _, _, h, h' => h'.imp (h _ _ _) fun ⟨σ', h1, h2⟩ => ⟨σ', h1, h _ _ _ h2⟩
  | .bad, _, _, _, _, _, h' => h'

/-- A function's answer that speaks of no entry. -/
def retVal [Globs] (σ : Store) (f : Frame) (res : List (Nat × Option (Bool × Nat))) : Option AV := (res.mapM (evalRes σ f)).bind fun rs => fin σ 0 (tupOf rs)
def PPost [Globs] (R : AV → Prop) (_ : Tg R) (res : List (Nat × Option (Bool × Nat))) : AExit → Frame → Store → Prop
  | .exit _, _, _ => False
  | _, f, σ => ob R (.mk _) (retVal σ f res)
theorem ppost_ret {R : AV → Prop} {t : Tg R} {res : List (Nat × Option (Bool × Nat))} : PPost R t res .ret f σ = ob R (.mk _) (retVal σ f res) := propext Iff.rfl
theorem ppost_normal {R : AV → Prop} {t : Tg R} {res : List (Nat × Option (Bool × Nat))} : PPost R t res .normal f σ = ob R (.mk _) (retVal σ f res) := propext Iff.rfl

/-- A CONTRACT OF A FUNCTION THAT TOUCHES NO ENTRY. -/
theorem pcalls_of_awp (hm : P.follows .mixedOrders = true) {loud : List FuncId} {g : FuncId} {af : AFunc} {args : List AV} {R : AV → Prop} (hf : compFn P loud g = some af) (hargs : decide (args.length ≤ af.n) = true)
    (h : awp P af.code (PPost R (.mk _) af.res) (initF args) []) : PCalls P g args R := by
  refine acalls_of_awp hm hf (of_decide_eq_true hargs) (awp_mono (fun e f σ h0 => ?_) h)
  have key : ob R (.mk _) (retVal σ f af.res) → AtRet [] (fun r σ' => σ' = [] ∧ R r) af.res f σ := by
    rintro ⟨r, h1, h2⟩
    unfold retVal at h1
    simp only [Option.bind_eq_some_iff] at h1
    obtain ⟨rs, h3, h4⟩ := h1
    exact ⟨rs, r, 0, h3, .inl h4, Nat.le_refl _, fun id e h => absurd h (Nat.not_lt_zero _), by simp, h2⟩
  cases e with
  | normal => exact key h0
  | ret => exact key h0
  | exit id => exact h0.elim

theorem coeL_same {lend : Bool} {args : List AV} (ha : args.all AV.pure = true) : CoeL σ lend args args := by
  induction args with
  | nil => exact .nil
  | cons a l ih =>
    simp only [List.all_cons, Bool.and_eq_true] at ha
    exact .cons (.pure a ha.1) (ih ha.2)
theorem ac_same {g : FuncId} {args : List AV} {R : AV → Prop} {t : Tg K} (hc : PCalls P g args R) (ha : args.all AV.pure = true) (hK : ∀ r, R r → K r σ) : ac P K t σ g args := .inl ⟨args, R, coeL_same ha, hc, hK⟩
theorem ac_pure {g : FuncId} {args args' : List AV} {R : AV → Prop} {t : Tg K} (hc : PCalls P g args' R) (ha : CoeL σ false args args') (hK : ∀ r, R r → K r σ) : ac P K t σ g args := .inl ⟨args', R, ha, hc, hK⟩
theorem ac_lent {g : FuncId} {args args' : List AV} {R : AV → Prop} {t : Tg K} (hc : PCalls P g args' R) (ha : CoeL σ true args args') (hK : ∀ r, R r → rig r = true ∧ K r σ) : ac P K t σ g args := .inr (.inl ⟨args', R, ha, hc, hK⟩)
theorem ac_eff {g : FuncId} {args : List AV} {R : AV → Store → Prop} {t : Tg K} (hc : ACalls P g args σ R) (hK : ∀ r σ', R r σ' → K r σ') : ac P K t σ g args := .inr (.inr (hc.mono hK))
theorem qc_same {g : FuncId} {args : List AV} {r : AV} {t : Tg K} (hc : PCalls P g args (fun r' => r' = r)) (ha : args.all AV.pure = true) (hr : rig r = true) (hK : K r σ) : qc P K t σ g args := ⟨true, args, r, coeL_same ha, hc, fun _ => hr, hK⟩
/-- .. whatever it answers. -/
theorem qc_any {g : FuncId} {args : List AV} {r : AV} {t : Tg K} (hc : PCalls P g args (fun r' => r' = r)) (ha : args.all AV.pure = true) (hK : K r σ) : qc P K t σ g args := ⟨false, args, r, coeL_same ha, hc, nofun, hK⟩
theorem qc_lent {g : FuncId} {args args' : List AV} {r : AV} {t : Tg K} (hc : PCalls P g args' (fun r' => r' = r)) (ha : CoeL σ true args args') (hr : rig r = true) (hK : K r σ) : qc P K t σ g args := ⟨true, args', r, ha, hc, fun _ => hr, hK⟩
end

theorem one_junk  : AV.one (.junk) = false := rfl
theorem cells_junk  : AV.cells (.junk) = [.junk] := rfl
theorem one_int (k : IntKind) (n : Int) : AV.one (.int k n) = true := rfl
theorem cells_int (k : IntKind) (n : Int) : AV.cells (.int k n) = [.int k n] := rfl
theorem one_bool (b : Bool) : AV.one (.bool b) = true := rfl
theorem cells_bool (b : Bool) : AV.cells (.bool b) = [.bool b] := rfl
theorem one_str (s : List UInt8) : AV.one (.str s) = true := rfl
theorem cells_str (s : List UInt8) : AV.cells (.str s) = [.str s] := rfl
theorem one_flt (k : FloatKind) (b : Nat) : AV.one (.flt k b) = true := rfl
theorem cells_flt (k : FloatKind) (b : Nat) : AV.cells (.flt k b) = [.flt k b] := rfl
theorem one_nilp  : AV.one (.nilp) = true := rfl
theorem cells_nilp  : AV.cells (.nilp) = [.nilp] := rfl
theorem one_ptr (i o : Nat) : AV.one (.ptr i o) = true := rfl
theorem cells_ptr (i o : Nat) : AV.cells (.ptr i o) = [.ptr i o] := rfl
theorem one_rptr (c : List AV) : AV.one (.rptr c) = true := rfl
theorem cells_rptr (c : List AV) : AV.cells (.rptr c) = [.rptr c] := rfl
theorem one_nils  : AV.one (.nils) = true := rfl
theorem cells_nils  : AV.cells (.nils) = [.nils] := rfl
theorem one_lst (l : List (List AV)) : AV.one (.lst l) = true := rfl
theorem cells_lst (l : List (List AV)) : AV.cells (.lst l) = [.lst l] := rfl
theorem one_row (i n : Nat) : AV.one (.row i n) = true := rfl
theorem cells_row (i n : Nat) : AV.cells (.row i n) = [.row i n] := rfl
theorem one_rowp (i n s k o : Nat) : AV.one (.rowp i n s k o) = true := rfl
theorem cells_rowp (i n s k o : Nat) : AV.cells (.rowp i n s k o) = [.rowp i n s k o] := rfl
theorem one_map (i : Nat) : AV.one (.map i) = true := rfl
theorem cells_map (i : Nat) : AV.cells (.map i) = [.map i] := rfl
theorem one_nilm  : AV.one (.nilm) = true := rfl
theorem cells_nilm  : AV.cells (.nilm) = [.nilm] := rfl
theorem one_fn (f : Fn) (a b : List AV) : AV.one (.fn f a b) = true := rfl
theorem cells_fn (f : Fn) (a b : List AV) : AV.cells (.fn f a b) = [.fn f a b] := rfl
theorem one_nilf  : AV.one (.nilf) = true := rfl
theorem cells_nilf  : AV.cells (.nilf) = [.nilf] := rfl
theorem one_iface (t : TypeId) (v : AV) : AV.one (.iface t v) = true := rfl
theorem cells_iface (t : TypeId) (v : AV) : AV.cells (.iface t v) = [.iface t v] := rfl
theorem one_nili  : AV.one (.nili) = true := rfl
theorem cells_nili  : AV.cells (.nili) = [.nili] := rfl
theorem one_agg (l : List AV) : AV.one (.agg l) = false := rfl
theorem cells_agg (l : List AV) : AV.cells (.agg l) = l := rfl
theorem one_tup (l : List AV) : AV.one (.tup l) = false := rfl
theorem cells_tup (l : List AV) : AV.cells (.tup l) = [.tup l] := rfl
theorem one_gp (g o : Nat) : AV.one (.gp g o) = true := rfl
theorem cells_gp (g o : Nat) : AV.cells (.gp g o) = [.gp g o] := rfl
theorem one_asl (i o n s : Nat) : AV.one (.asl i o n s) = true := rfl
theorem cells_asl (i o n s : Nat) : AV.cells (.asl i o n s) = [.asl i o n s] := rfl
attribute [simp] one_asl cells_asl
theorem one_sub (i n s l h : Nat) : AV.one (.sub i n s l h) = true := rfl
theorem cells_sub (i n s l h : Nat) : AV.cells (.sub i n s l h) = [.sub i n s l h] := rfl
attribute [simp] one_gp cells_gp one_sub cells_sub
theorem one_any (v : Value) : AV.one (.any v) = false := rfl
theorem cells_any (v : Value) : AV.cells (.any v) = [.any v] := rfl
attribute [simp] one_junk cells_junk one_int cells_int one_bool cells_bool one_str cells_str one_flt cells_flt one_nilp cells_nilp one_ptr cells_ptr one_rptr cells_rptr one_nils cells_nils one_lst cells_lst one_row cells_row one_rowp cells_rowp one_map cells_map one_nilm cells_nilm one_fn cells_fn one_nilf cells_nilf one_iface cells_iface one_nili cells_nili one_agg cells_agg one_tup cells_tup one_any cells_any
theorem fin1_int (σ : Store) (m : Nat) (k : IntKind) (n : Int) : fin1 σ m (.int k n) = some (.int k n) := by simp [fin1, AV.under]
theorem fin1_bool (σ : Store) (m : Nat) (b : Bool) : fin1 σ m (.bool b) = some (.bool b) := by simp [fin1, AV.under]
theorem fin1_str (σ : Store) (m : Nat) (s : List UInt8) : fin1 σ m (.str s) = some (.str s) := by simp [fin1, AV.under]
theorem fin1_flt (σ : Store) (m : Nat) (k : FloatKind) (b : Nat) : fin1 σ m (.flt k b) = some (.flt k b) := by simp [fin1, AV.under]
theorem fin1_nilp (σ : Store) (m : Nat)  : fin1 σ m (.nilp) = some (.nilp) := by simp [fin1, AV.under]
theorem fin1_rptr (σ : Store) (m : Nat) (c : List AV) : fin1 σ m (.rptr c) = some (.rptr c) := by simp [fin1, AV.under]
theorem fin1_lst (σ : Store) (m : Nat) (l : List (List AV)) : fin1 σ m (.lst l) = some (.lst l) := by simp [fin1, AV.under]
theorem fin1_nilm (σ : Store) (m : Nat)  : fin1 σ m (.nilm) = some (.nilm) := by simp [fin1, AV.under]
theorem fin1_nilf (σ : Store) (m : Nat)  : fin1 σ m (.nilf) = some (.nilf) := by simp [fin1, AV.under]
theorem fin1_nili (σ : Store) (m : Nat)  : fin1 σ m (.nili) = some (.nili) := by simp [fin1, AV.under]
theorem fin1_gp (σ : Store) (m : Nat) (g o : Nat) : fin1 σ m (.gp g o) = some (.gp g o) := by simp [fin1, AV.under]
theorem fin1_map (σ : Store) (m i : Nat) : fin1 σ m (.map i) = if i < m then some (.map i) else none := by simp [fin1, AV.under]
theorem fin1_sub (σ : Store) (m i n size lo hi : Nat) : fin1 σ m (.sub i n size lo hi) = (fz σ m 3 (.row i n)).bind fun
    | .lst l => if ∀ c ∈ l, c.length = size then some (.lst ((l.take hi).drop lo)) else none
    | _ => none := rfl
attribute [simp] fin1_gp fin1_map fin1_sub
theorem fin1_nils (σ : Store) (m : Nat) : fin1 σ m .nils = some (.lst []) := rfl
theorem fin1_row (σ : Store) (m i n : Nat) : fin1 σ m (.row i n) = fz σ m 3 (.row i n) := rfl
theorem fin1_ptr (σ : Store) (m i o : Nat) : fin1 σ m (.ptr i o) = if i < m then some (.ptr i o) else none := by simp [fin1, AV.under]
theorem fin1_iface (σ : Store) (m : Nat) (t : TypeId) (v : AV) : fin1 σ m (.iface t v) = if v.under m then some (.iface t v) else none := by simp [fin1, AV.under]
theorem fin1_fn (σ : Store) (m : Nat) (g : Fn) (a b : List AV) : fin1 σ m (.fn g a b) = if (AV.fn g a b).under m then some (.fn g a b) else none := rfl
attribute [simp] fin1_int fin1_bool fin1_str fin1_flt fin1_nilp fin1_rptr fin1_lst fin1_nilm fin1_nilf fin1_nili fin1_nils fin1_row fin1_ptr fin1_iface fin1_fn
theorem view_nils (σ : Store) : view σ .nils = some [] := rfl
theorem view_lst (σ : Store) (l : List (List AV)) : view σ (.lst l) = some l := rfl
theorem view_row (σ : Store) (id n : Nat) : view σ (.row id n) = match σ[id]? with
    | some (.row _ _ els _) => if els.length = n then some els else none
    | _ => none := rfl
theorem view_sub (σ : Store) (id n size lo hi : Nat) : view σ (.sub id n size lo hi) = match σ[id]? with
    | some (.row _ size' els _) => if els.length = n ∧ size' = size then some ((els.take hi).drop lo) else none
    | _ => none := rfl
attribute [simp] view_sub
theorem view_asl (σ : Store) (id off n size : Nat) : view σ (.asl id off n size) = match σ[id]? with
    | some (.var _ cells) => if off + n * size ≤ cells.length then some (chunks n size ((cells.drop off).take (n * size))) else none
    | _ => none := rfl
attribute [simp] view_asl
theorem aview_nils (σ : Store) : aview σ .nils = some [] := rfl
theorem aview_lst (σ : Store) (l : List (List AV)) : aview σ (.lst l) = some l := rfl
theorem aview_row (σ : Store) (id n : Nat) : aview σ (.row id n) = match σ[id]? with
    | some (.row _ _ els true) => if els.length = n then some els else none
    | _ => none := rfl
attribute [simp] view_nils view_lst view_row aview_nils aview_lst aview_row
theorem fin_int (σ : Store) (m : Nat) (k : IntKind) (n : Int) : fin σ m (.int k n) = fin1 σ m (.int k n) := rfl
theorem finT_int (σ : Store) (m : Nat) (k : IntKind) (n : Int) : finT σ m (.int k n) = fin1 σ m (.int k n) := rfl
theorem fin_bool (σ : Store) (m : Nat) (b : Bool) : fin σ m (.bool b) = fin1 σ m (.bool b) := rfl
theorem finT_bool (σ : Store) (m : Nat) (b : Bool) : finT σ m (.bool b) = fin1 σ m (.bool b) := rfl
theorem fin_str (σ : Store) (m : Nat) (s : List UInt8) : fin σ m (.str s) = fin1 σ m (.str s) := rfl
theorem finT_str (σ : Store) (m : Nat) (s : List UInt8) : finT σ m (.str s) = fin1 σ m (.str s) := rfl
theorem fin_flt (σ : Store) (m : Nat) (k : FloatKind) (b : Nat) : fin σ m (.flt k b) = fin1 σ m (.flt k b) := rfl
theorem finT_flt (σ : Store) (m : Nat) (k : FloatKind) (b : Nat) : finT σ m (.flt k b) = fin1 σ m (.flt k b) := rfl
theorem fin_nilp (σ : Store) (m : Nat)  : fin σ m (.nilp) = fin1 σ m (.nilp) := rfl
theorem finT_nilp (σ : Store) (m : Nat)  : finT σ m (.nilp) = fin1 σ m (.nilp) := rfl
theorem fin_rptr (σ : Store) (m : Nat) (c : List AV) : fin σ m (.rptr c) = fin1 σ m (.rptr c) := rfl
theorem finT_rptr (σ : Store) (m : Nat) (c : List AV) : finT σ m (.rptr c) = fin1 σ m (.rptr c) := rfl
theorem fin_lst (σ : Store) (m : Nat) (l : List (List AV)) : fin σ m (.lst l) = fin1 σ m (.lst l) := rfl
theorem finT_lst (σ : Store) (m : Nat) (l : List (List AV)) : finT σ m (.lst l) = fin1 σ m (.lst l) := rfl
theorem fin_nilm (σ : Store) (m : Nat)  : fin σ m (.nilm) = fin1 σ m (.nilm) := rfl
theorem finT_nilm (σ : Store) (m : Nat)  : finT σ m (.nilm) = fin1 σ m (.nilm) := rfl
theorem fin_nilf (σ : Store) (m : Nat)  : fin σ m (.nilf) = fin1 σ m (.nilf) := rfl
theorem finT_nilf (σ : Store) (m : Nat)  : finT σ m (.nilf) = fin1 σ m (.nilf) := rfl
theorem fin_nili (σ : Store) (m : Nat)  : fin σ m (.nili) = fin1 σ m (.nili) := rfl
theorem finT_nili (σ : Store) (m : Nat)  : finT σ m (.nili) = fin1 σ m (.nili) := rfl
theorem fin_nils (σ : Store) (m : Nat)  : fin σ m (.nils) = fin1 σ m (.nils) := rfl
theorem finT_nils (σ : Store) (m : Nat)  : finT σ m (.nils) = fin1 σ m (.nils) := rfl
theorem fin_row (σ : Store) (m : Nat) (i n : Nat) : fin σ m (.row i n) = fin1 σ m (.row i n) := rfl
theorem finT_row (σ : Store) (m : Nat) (i n : Nat) : finT σ m (.row i n) = fin1 σ m (.row i n) := rfl
theorem fin_ptr (σ : Store) (m : Nat) (i o : Nat) : fin σ m (.ptr i o) = fin1 σ m (.ptr i o) := rfl
theorem finT_ptr (σ : Store) (m : Nat) (i o : Nat) : finT σ m (.ptr i o) = fin1 σ m (.ptr i o) := rfl
theorem fin_iface (σ : Store) (m : Nat) (t : TypeId) (v : AV) : fin σ m (.iface t v) = fin1 σ m (.iface t v) := rfl
theorem finT_iface (σ : Store) (m : Nat) (t : TypeId) (v : AV) : finT σ m (.iface t v) = fin1 σ m (.iface t v) := rfl
theorem fin_fn (σ : Store) (m : Nat) (g : Fn) (a b : List AV) : fin σ m (.fn g a b) = fin1 σ m (.fn g a b) := rfl
theorem finT_fn (σ : Store) (m : Nat) (g : Fn) (a b : List AV) : finT σ m (.fn g a b) = fin1 σ m (.fn g a b) := rfl
theorem fin_gp (σ : Store) (m : Nat) (i o : Nat) : fin σ m (.gp i o) = fin1 σ m (.gp i o) := rfl
theorem finT_gp (σ : Store) (m : Nat) (i o : Nat) : finT σ m (.gp i o) = fin1 σ m (.gp i o) := rfl
theorem fin_map (σ : Store) (m : Nat) (i : Nat) : fin σ m (.map i) = fin1 σ m (.map i) := rfl
theorem finT_map (σ : Store) (m : Nat) (i : Nat) : finT σ m (.map i) = fin1 σ m (.map i) := rfl
theorem fin_sub (σ : Store) (m : Nat) (i n s l h : Nat) : fin σ m (.sub i n s l h) = fin1 σ m (.sub i n s l h) := rfl
theorem finT_sub (σ : Store) (m : Nat) (i n s l h : Nat) : finT σ m (.sub i n s l h) = fin1 σ m (.sub i n s l h) := rfl
attribute [simp] fin_gp finT_gp fin_map finT_map fin_sub finT_sub
theorem fin_agg (σ : Store) (m : Nat) (l : List AV) : fin σ m (.agg l) = (finL σ m l).map .agg := rfl
theorem finT_agg (σ : Store) (m : Nat) (l : List AV) : finT σ m (.agg l) = (finL σ m l).map .agg := rfl
theorem fin_tup (σ : Store) (m : Nat) (l : List AV) : fin σ m (.tup l) = (l.mapM (finT σ m)).map .tup := rfl
attribute [simp] fin_int finT_int fin_bool finT_bool fin_str finT_str fin_flt finT_flt fin_nilp finT_nilp fin_rptr finT_rptr fin_lst finT_lst fin_nilm finT_nilm fin_nilf finT_nilf fin_nili finT_nili fin_nils finT_nils fin_row finT_row fin_ptr finT_ptr fin_iface finT_iface fin_fn finT_fn fin_agg finT_agg fin_tup
attribute [simp ↓] awpOps_nil awpOps_cons awpOps_guard op_mv op_pick op_bin op_beq op_eqs op_not op_neg op_conv op_ext op_build op_field op_load op_nilck op_faddr op_iaddr op_aaddr op_sidx op_aidx op_slen op_len op_sslc op_slc op_mm op_mkfn op_mkif op_alloc op_call op_qcall op_store op_box op_mklst op_mkrow op_app op_apps op_px op_tobytes op_mkmap op_mset op_clr awp_all_nil awp_all_cons
  awp_skip awp_ops awp_seq awp_cond awp_block awp_exit awp_ret awp_loop then_normal then_normal' then_exit then_ret inBlock_normal inBlock_normal' inBlock_ret inBlock_exit ppost_ret ppost_normal
attribute [simp] aslcStep xstep nilOf mapView lookStep mapFind bitStep bitOp shiftOp invStep cryStep iloadStep iidxStep bytesStep msetOp mapPut clrAt
attribute [simp] ob_some sb_some cb_true cb_false gd_tt gd_tf gd_ft gd_ff gd_u pstep abin intCmpB cellsAt oneOf initF natOf evalRes retVal tupOf finL fz AV.under AV.els rowOp Fixed AV.pure eq1 eqAll bound putOp putAt splice share share1 shareL lstOp chunks lay rig
end Go.Abs
end

section
/- Abstract machine, part 21: a deferred call. -/
set_option linter.unusedSimpArgs false
set_option linter.unusedVariables false
set_option linter.constructorNameAsVariable false
namespace Go.Abs
open Go.RowKit
variable {G : Globs}
section
variable {P : Program}

/-- A deferred call, as the function that defers it returns. -/
def DCalls [Globs] (P : Program) (g : FuncId) (args : List AV) (σ : Store) (K : Store → Prop) : Prop :=
  ∀ base κ Im w vs, SRel base κ Im σ w → VRL κ Im w args vs → CallsD P g vs.toArray .returning w fun e u' w' =>
    u' = .returning ∧ ∃ v σ' κ' Im', e = .returned v ∧ K σ' ∧ SRel base κ' Im' σ' w' ∧ Grow base κ Im w κ' Im' w'

theorem dcalls_of_awp (hm : P.follows .mixedOrders = true) {loud : List FuncId} {f : FuncId} {af : AFunc} {args : List AV} {σ₀ : Store} {K : Store → Prop} (hf : compFn P loud f = some af) (hargs : args.length ≤ af.n)
    (h : awp P af.code (BodyPost σ₀ (fun _ σ' => K σ') af.res) (initF args) σ₀) : DCalls P f args σ₀ K := by
  unfold compFn at hf
  simp only [Option.bind_eq_bind, Option.bind_eq_some_iff, Option.pure_def, Option.some.injEq] at hf
  obtain ⟨fn, hfn, c, hbody, rs, hrs, rfl⟩ := hf
  intro base κ Im w vs hs hv
  refine (callsD_of_wp (u := .returning) hfn hbody (body_ok hm hrs hargs h hs hv)).mono ?_
  rintro e u' w' ⟨hu, r, σ', v, κ', Im', he, hR, h1, h2, _⟩
  exact ⟨hu, v, σ', κ', Im', he, hR, h1, h2⟩

/-- A region whose last operation defers a call of a slot's value, without arguments: the operations ahead of it, and the slot. -/
def deferOf (P : Program) (N : Nat) (loud : List FuncId) : Code → Option (List AIns × Nat)
  | .region _ ops false => match ops.toList.reverse with
    | o :: rest => match o.op, o.guard, o.dst with
      | .defer c, none, none => match c.callee with
        | .value (.tmp t) => if c.args.size = 0 then some (rest.reverse.map (fun o => owned loud (compIns P N ops o)), t) else none
        | _ => none
      | _, _, _ => none
    | [] => none
  | _ => none

structure ADef where
  pre : ACode
  ins : List AIns
  t : Nat
  post : ACode

/-- Code with one deferral, that stands at its top. -/
def compD (P : Program) (N : Nat) (loud : List FuncId) : Code → Option ADef
  | .seq a b => match deferOf P N loud a with
    | some (l, t) => some ⟨.skip, l, t, comp P N loud b⟩
    | none => (compD P N loud b).map fun d => { d with pre := .seq (comp P N loud a) d.pre }
  | _ => none

structure AFuncD where
  n : Nat
  res : List (Nat × Option (Bool × Nat))
  code : ADef
def compFnD (P : Program) (loud : List FuncId) (f : FuncId) : Option AFuncD := do
  let fn ← P.funcs[f]?
  let c ← fn.body
  let rs ← fn.results.toList.mapM (compRes P)
  let d ← compD P fn.ntmps (if loud.contains (1000000 + f) then 999999 :: loud else loud) c
  return ⟨fn.ntmps, rs, d⟩

/-- Behind the deferral: the rest, the deferred call, the results. -/
def DPost [Globs] (P : Program) (g : FuncId) (cap : List AV) (σ₀ : Store) (R : AV → Store → Prop) (res : List (Nat × Option (Bool × Nat))) : AExit → Frame → Store → Prop
  | .exit _, _, _ => False
  | _, f, σ => DCalls P g cap σ (AtRet σ₀ R res f)
def DMid [Globs] (P : Program) (d : ADef) (σ₀ : Store) (R : AV → Store → Prop) (res : List (Nat × Option (Bool × Nat))) (f : Frame) (σ : Store) : Prop :=
  ∃ g cap, f d.t = .fn (.func g) [] cap ∧ hasBody P g = true ∧ awp P d.post (DPost P g cap σ₀ R res) f σ
def DPre [Globs] (P : Program) (d : ADef) (σ₀ : Store) (R : AV → Store → Prop) (res : List (Nat × Option (Bool × Nat))) : AExit → Frame → Store → Prop
  | .exit _, _, _ => False
  | .ret, f, σ => AtRet σ₀ R res f σ
  | .normal, f, σ => awpOps P (DMid P d σ₀ R res) d.ins f σ

/-- Operations in the order of the text, and more behind them. -/
theorem ops_tail {base : Nat} {N : Nat} {ops : Array Oper} {loud : List FuncId} {D : List Deferred} {κ₀ : Key} {Im₀ : Addr → Prop} {w₀ : World} {QA : Frame → Store → Prop} {Q : Exit → Act → World → Prop} {tail : List Oper}
    (hQ : ∀ f σ κ Im a w, QA f σ → St base κ₀ Im₀ w₀ N D f σ κ Im a w → wpList P ops Q tail a w) : ∀ (l : List Oper) (f : Frame) (σ : Store) (κ : Key) (Im : Addr → Prop) (a : Act) (w : World), awpOps P QA (l.map fun o => owned loud (compIns P N ops o)) f σ → St base κ₀ Im₀ w₀ N D f σ κ Im a w → wpList P ops Q (l ++ tail) a w
  | [], f, σ, κ, Im, a, w, h, hst => hQ f σ κ Im a w h hst
  | o :: l, f, σ, κ, Im, a, w, h, hst => by
    have := ins_ok (loud := loud) (Q := Q) (next := wpList P ops Q (l ++ tail)) hst.st hst.fr hst.sz (.inr h) (fun f' σ' κ' Im' a' w' hK h1 h2 h3 h4 h5 => ops_tail hQ l f' σ' κ' Im' a' w' hK ⟨h1, h2, h3.trans hst.df, h4, hst.gr.trans h5⟩)
    rw [List.cons_append]
    unfold wpList
    split
    · rename_i hw; rw [if_pos hw] at this; exact .inl this
    · rename_i hw; rw [if_neg hw] at this; exact this

theorem compD_ok (hm : P.follows .mixedOrders = true) {base : Nat} {fn : Func} {rs : List (Nat × Option (Bool × Nat))} {loud : List FuncId} {σ₀ : Store} {R : AV → Store → Prop} {κ₀ : Key} {Im₀ : Addr → Prop} {w₀ : World} (hrs : fn.results.toList.mapM (compRes P) = some rs) (hs₀ : SRel base κ₀ Im₀ σ₀ w₀) :
    ∀ (c : Code) (d : ADef) (f : Frame) (σ : Store) (κ : Key) (Im : Addr → Prop) (a : Act) (w : World), compD P fn.ntmps loud c = some d → awp P d.pre (DPre P d σ₀ R rs) f σ → St base κ₀ Im₀ w₀ fn.ntmps [] f σ κ Im a w →
    c.wp P (bodyPostD P fn fun e w' => ∃ r σ' v κ' Im', e = .returned v ∧ R r σ' ∧ SRel base κ' Im' σ' w' ∧ Grow base κ₀ Im₀ w₀ κ' Im' w' ∧ VR κ' Im' w' r v) a w := by
  have hret : ∀ (f : Frame) (σ : Store) (κ : Key) (Im : Addr → Prop) (a : Act) (w : World), AtRet σ₀ R rs f σ → St base κ₀ Im₀ w₀ fn.ntmps [] f σ κ Im a w →
      Leaves P fn a.tmps (fun e w' => ∃ r σ' v κ' Im', e = .returned v ∧ R r σ' ∧ SRel base κ' Im' σ' w' ∧ Grow base κ₀ Im₀ w₀ κ' Im' w' ∧ VR κ' Im' w' r v) a.defers .returning w := by
    intro f σ κ Im a w h hst
    rw [hst.df]
    exact ret_ok hrs hs₀ hst.fr hst.st hst.gr h
  intro c
  induction c with
  | seq x y _ ihy =>
    intro d f σ κ Im a w hd h hst
    simp only [compD] at hd
    refine wp_seq ?_
    split at hd
    · rename_i l t hdef
      simp only [Option.some.injEq] at hd; subst hd
      change awpOps P (DMid P ⟨.skip, l, t, comp P fn.ntmps loud y⟩ σ₀ R rs) l f σ at h
      unfold deferOf at hdef
      split at hdef
      case h_2 => cases hdef
      rename_i rid ops _
      split at hdef
      case h_2 => cases hdef
      rename_i o rest hrev
      split at hdef
      case h_2 => cases hdef
      rename_i c' hop hg hdst
      split at hdef
      case h_2 => cases hdef
      rename_i t' hcal
      split at hdef
      case isFalse => cases hdef
      rename_i hargs
      simp only [Option.some.injEq, Prod.mk.injEq] at hdef
      obtain ⟨rfl, rfl⟩ := hdef
      have hops : ops.toList = rest.reverse ++ [o] := by
        have := congrArg List.reverse hrev
        simpa using this
      have hargs0 : c'.args = #[] := by simpa using hargs
      refine wp_region_list ?_
      rw [hops]
      refine ops_tail (loud := loud) (tail := [o]) (fun f σ κ Im a w hmid hst => ?_) rest.reverse f σ κ Im a w h hst
      obtain ⟨g, cap, hft, hb, hpost⟩ := hmid
      have hv := hst.fr t'
      rw [hft] at hv
      obtain ⟨vs, us, hval, h1, h2⟩ := hv.fn_inv
      have hvs : vs = [] := List.eq_nil_of_length_eq_zero h1.1.symm
      subst hvs
      have hev : a.eval (.tmp t') = .func (.func g) #[] us.toArray := hval
      have hexec : (execOp a.eval o).run P w = .ok (.defer { target := .fn (.func g) us.toArray, args := #[] }) w := by
        simp [execOp, hop, resolve, hcal, hev, Deferred.ofValue, hargs0]
      unfold wpList
      rw [if_pos (by simp [Region.wanted, hg])]
      refine .inl ?_
      unfold Oper.wp
      rw [hexec, Oper.upon_defer, hst.df, hdst]
      show y.wp P _ { a with defers := [{ target := .fn (.func g) us.toArray, args := #[] }] } w
      refine code_ok hm (N := fn.ntmps) (loud := loud) (D := [{ target := .fn (.func g) us.toArray, args := #[] }]) (κ₀ := κ) (Im₀ := Im) (w₀ := w) y _ _ f σ κ Im _ w ?_ hpost ⟨hst.fr, hst.sz, rfl, hst.st, Grow.refl _ _ _ _⟩
      intro e f' σ' κ' Im' a' w' hQ hst'
      have key : DCalls P g cap σ' (AtRet σ₀ R rs f') → Leaves P fn a'.tmps (fun e w' => ∃ r σ' v κ' Im', e = .returned v ∧ R r σ' ∧ SRel base κ' Im' σ' w' ∧ Grow base κ₀ Im₀ w₀ κ' Im' w' ∧ VR κ' Im' w' r v) a'.defers .returning w' := by
        intro hd
        rw [hst'.df]
        refine ⟨by simp, _, _, g, us.toArray, rfl, ?_, ?_⟩
        · simp only [invoke, Array.empty_append]; exact callFunc_ok hb _ _
        · refine (hd base κ' Im' w' us hst'.st (h2.grow hst'.gr)).mono ?_
          rintro e u' w'' ⟨rfl, v, σ'', κ'', Im'', rfl, hat, h3, h4⟩
          exact ret_ok hrs hs₀ (hst'.fr.grow h4) h3 ((hst.gr.trans hst'.gr).trans h4) hat
      cases e with
      | normal => exact key hQ
      | ret => exact key hQ
      | exit id => exact hQ.elim
    · simp only [Option.map_eq_some_iff] at hd
      obtain ⟨d', hd', rfl⟩ := hd
      refine code_ok hm (N := fn.ntmps) (loud := loud) (D := []) x _ _ f σ κ Im a w (fun e f σ κ Im a w h1 h2 => ?_) h hst
      cases e with
      | normal => exact ihy d' f σ κ Im a w hd' h1 h2
      | exit id => exact h1.elim
      | ret => exact hret _ _ _ _ _ _ h1 h2
  | _ => intro d f σ κ Im a w hd; simp [compD] at hd

/-- A CONTRACT OF A FUNCTION WITH A DEFERRED CALL. -/
theorem acalls_of_awp_defer (hm : P.follows .mixedOrders = true) {loud : List FuncId} {f : FuncId} {af : AFuncD} {args : List AV} {σ₀ : Store} {R : AV → Store → Prop} (hf : compFnD P loud f = some af) (hargs : args.length ≤ af.n)
    (h : awp P af.code.pre (DPre P af.code σ₀ R af.res) (initF args) σ₀) : ACalls P f args σ₀ R := by
  unfold compFnD at hf
  simp only [Option.bind_eq_bind, Option.bind_eq_some_iff, Option.pure_def, Option.some.injEq] at hf
  obtain ⟨fn, hfn, c, hbody, rs, hrs, d, hd, rfl⟩ := hf
  intro base κ Im w vs hs hv
  obtain ⟨i1, i2⟩ := init_ok (fn := fn) hargs hv
  exact calls_of_wp_defers hfn hbody (compD_ok hm hrs hs c d (initF args) σ₀ κ Im _ w hd h ⟨i2, i1, rfl, hs, Grow.refl _ _ _ _⟩)
end
end Go.Abs
end

section
/- Abstract machine, part 22: helpers for proofs over abstract code. -/
set_option linter.unusedSimpArgs false
set_option linter.unusedVariables false
set_option linter.constructorNameAsVariable false
namespace Go.Abs
open Go.RowKit
variable {G : Globs}

theorem wrap_i64 {x : Int} (h1 : -9223372036854775808 ≤ x) (h2 : x ≤ 9223372036854775807) : IntKind.wrap .i64 x = x := by
  simp [IntKind.wrap, IntKind.signed, IntKind.bits]; omega
/-- A slice and nil, where it may be either. -/
def nl (K : AV → Store → Prop) (_ : Tg K) (σ : Store) (neg : Bool) (v : AV) : Prop := match v with
  | .lst [] => ∀ b : Bool, K (.bool b) σ
  | v => ∃ b, nilOf 3 v = some b ∧ K (.bool (if neg then !b else b)) σ
theorem op_nlc {P : Program} {K : AV → Store → Prop} {f : Frame} {σ : Store} (neg : Bool) (x : Opd) : awpOp P K f σ (.nlc neg x) = nl K (.mk _) σ neg (x.ev f) := rfl
attribute [simp ↓] op_nlc
theorem nl_empty {K : AV → Store → Prop} {t : Tg K} {σ : Store} {neg : Bool} (h : ∀ b : Bool, K (.bool b) σ) : nl K t σ neg (.lst []) := h
theorem nl_nils {K : AV → Store → Prop} {t : Tg K} {σ : Store} {neg : Bool} : nl K t σ neg .nils = K (.bool (if neg then false else true)) σ := by
  simp [nl, nilOf]
theorem nl_cons {K : AV → Store → Prop} {t : Tg K} {σ : Store} {neg : Bool} {c : List AV} {l : List (List AV)} : nl K t σ neg (.lst (c :: l)) = K (.bool (if neg then true else false)) σ := by
  simp [nl, nilOf]
theorem nl_of {K : AV → Store → Prop} {t : Tg K} {σ : Store} {neg : Bool} {l : List (List AV)} (h : ∀ b : Bool, (l ≠ [] → b = neg) → K (.bool b) σ) : nl K t σ neg (.lst l) := by
  cases l with
  | nil => exact fun b => h b (by simp)
  | cons c l => rw [nl_cons]; exact h _ (fun _ => by cases neg <;> rfl)
attribute [simp] nl_nils nl_cons
/-- Calls of function values, out of simp's reach. -/
def cv [Globs] (P : Program) (K : AV → Store → Prop) (_ : Tg K) (σ : Store) (x : AV) (args : List AV) : Prop := match x with
  | .fn (.func g) first captured => hasBody P g = true ∧ acall P σ K g (first ++ args ++ captured)
  | _ => False
def qv [Globs] (P : Program) (K : AV → Store → Prop) (_ : Tg K) (σ : Store) (x : AV) (args : List AV) : Prop := match x with
  | .fn (.func g) first captured => hasBody P g = true ∧ aqcall P σ K g (first ++ args ++ captured)
  | _ => False
theorem op_callv {P : Program} {K : AV → Store → Prop} {f : Frame} {σ : Store} (x : Opd) (args : List Opd) : awpOp P K f σ (.callv x args) = cv P K (.mk _) σ (x.ev f) (args.map (·.ev f)) := rfl
theorem op_qcallv {P : Program} {K : AV → Store → Prop} {f : Frame} {σ : Store} (x : Opd) (args : List Opd) : awpOp P K f σ (.qcallv x args) = qv P K (.mk _) σ (x.ev f) (args.map (·.ev f)) := rfl
theorem cv_fn {P : Program} {K : AV → Store → Prop} {t : Tg K} {σ : Store} {g : FuncId} {first captured args : List AV} (hb : hasBody P g = true) (h : ac P K t σ g (first ++ args ++ captured)) : cv P K t σ (.fn (.func g) first captured) args := ⟨hb, h⟩
theorem qv_fn {P : Program} {K : AV → Store → Prop} {t : Tg K} {σ : Store} {g : FuncId} {first captured args : List AV} (hb : hasBody P g = true) (h : qc P K t σ g (first ++ args ++ captured)) : qv P K t σ (.fn (.func g) first captured) args := ⟨hb, h⟩
attribute [simp ↓] op_callv op_qcallv

/-- A loop's round, out of simp's reach. -/
def lb [Globs] (P : Program) (I : Nat → Frame → Store → Prop) (_ : Tg I) (c : ACode) (_ : Tg c) (Q : AExit → Frame → Store → Prop) (_ : Tg Q) : Prop :=
  ∀ n f σ, I n f σ → awp P c (AExit.then (fun f' σ' => ∃ n', n' < n ∧ I n' f' σ') Q) f σ
theorem lp_start {P : Program} {c : ACode} {tc : Tg c} {Q : AExit → Frame → Store → Prop} {tq : Tg Q} {f : Frame} {tf : Tg f} {σ : Store} {ts : Tg σ} (I : Nat → Frame → Store → Prop) (n : Nat) (h0 : I n f σ) (hr : lb P I (.mk _) c tc Q tq) : lp P c tc Q tq f tf σ ts := ⟨I, n, h0, hr⟩
/-- A round's end, out of simp's reach. -/
def nx (n : Nat) (I : Nat → Frame → Store → Prop) (_ : Tg I) (f : Frame) (_ : Tg f) (σ : Store) : Prop := ∃ n', n' < n ∧ I n' f σ
def lbx [Globs] (P : Program) (I : Nat → Frame → Store → Prop) (tI : Tg I) (c : ACode) (_ : Tg c) (Q : AExit → Frame → Store → Prop) (_ : Tg Q) : Prop :=
  ∀ n f σ, I n f σ → awp P c (AExit.then (fun f' σ' => nx n I tI f' (.mk f') σ') Q) f σ
theorem lp_startx {P : Program} {c : ACode} {tc : Tg c} {Q : AExit → Frame → Store → Prop} {tq : Tg Q} {f : Frame} {tf : Tg f} {σ : Store} {ts : Tg σ} (I : Nat → Frame → Store → Prop) (n : Nat) (h0 : I n f σ) (hr : lbx P I (.mk _) c tc Q tq) : lp P c tc Q tq f tf σ ts := ⟨I, n, h0, hr⟩
theorem nx_intro {n : Nat} {I : Nat → Frame → Store → Prop} {tI : Tg I} {f : Frame} {tf : Tg f} {σ : Store} (m : Nat) (hm : m < n) (h : I m f σ) : nx n I tI f tf σ := ⟨m, hm, h⟩
/-- The frame at a loop's start, as a name. -/
theorem lp_gen {P : Program} {c : ACode} {tc : Tg c} {Q : AExit → Frame → Store → Prop} {tq : Tg Q} {f : Frame} {tf : Tg f} {σ : Store} {ts : Tg σ} (F : Frame → Prop) (hF : F f) (h : ∀ f0, F f0 → lp P c tc Q tq f0 (.mk f0) σ ts) : lp P c tc Q tq f tf σ ts := h f hF
/-- Where a block is left by many ways: what holds behind it, once. -/
def jn (J : Frame → Store → Prop) (_ : Tg J) (f : Frame) (_ : Tg f) (σ : Store) : Prop := J f σ
def joinQ (id : Nat) (J : Frame → Store → Prop) (tJ : Tg J) (Q : AExit → Frame → Store → Prop) : AExit → Frame → Store → Prop
  | .exit id', f, σ => if id' = id then jn J tJ f (.mk f) σ else Q (.exit id') f σ
  | .normal, f, σ => Q .normal f σ
  | .ret, f, σ => Q .ret f σ
theorem joinQ_exit {id id' : Nat} {J : Frame → Store → Prop} {tJ : Tg J} {Q : AExit → Frame → Store → Prop} {f : Frame} {σ : Store} : joinQ id J tJ Q (.exit id') f σ = if id' = id then jn J tJ f (.mk f) σ else Q (.exit id') f σ := rfl
theorem joinQ_ret {id : Nat} {J : Frame → Store → Prop} {tJ : Tg J} {Q : AExit → Frame → Store → Prop} {f : Frame} {σ : Store} : joinQ id J tJ Q .ret f σ = Q .ret f σ := rfl
theorem joinQ_normal {id : Nat} {J : Frame → Store → Prop} {tJ : Tg J} {Q : AExit → Frame → Store → Prop} {f : Frame} {σ : Store} : joinQ id J tJ Q .normal f σ = Q .normal f σ := rfl
attribute [simp ↓] joinQ_exit joinQ_ret joinQ_normal
theorem jn_intro {J : Frame → Store → Prop} {tJ : Tg J} {f : Frame} {tf : Tg f} {σ : Store} (h : J f σ) : jn J tJ f tf σ := h
theorem lp_join {P : Program} {c : ACode} {tc : Tg c} {Q : AExit → Frame → Store → Prop} {tq : Tg Q} {f : Frame} {tf : Tg f} {σ : Store} {ts : Tg σ} (id : Nat) (J : Frame → Store → Prop) (hJ : ∀ f σ, J f σ → Q (.exit id) f σ) (h : lp P c tc (joinQ id J (.mk _) Q) (.mk _) f tf σ ts) : lp P c tc Q tq f tf σ ts := by
  refine awp_mono (c := .loop c) (fun e f σ h0 => ?_) h
  cases e with
  | exit id' =>
    simp only [joinQ] at h0
    split at h0
    · rename_i he; subst he; exact hJ _ _ h0
    · exact h0
  | normal => exact h0
  | ret => exact h0
theorem coe_fn1 {σ : Store} {lend : Bool} {f : Fn} {x y : AV} (h : Coe σ lend x y) : Coe σ lend (.fn f [] [x]) (.fn f [] [y]) :=
  .fn f [] [] [x] [y] rfl rfl (fun j hj => by simp at hj) (fun j hj hj' => by
    have : j = 0 := by simp at hj; omega
    subst this; exact h)
theorem coe_ptr {σ : Store} {id : Nat} {t : TypeId} {cells : List AV} (h : σ[id]? = some (.var t cells)) (hp : cells.all AV.pure = true) (h1 : cells.all AV.one = true) : Coe σ true (.ptr id 0) (.rptr cells) := by
  have := Coe.ptr (lend := true) id 0 t cells cells h rfl (Nat.zero_le _) rfl (fun j hj hj' => .pure _ (List.all_eq_true.1 hp _ (List.getElem_mem hj))) (List.all_eq_true.1 h1)
  simpa using this
@[simp] theorem int_beq (x y : Int) : (x == y) = decide (x = y) := rfl
@[simp] theorem int_bne (x y : Int) : (x != y) = !decide (x = y) := rfl
theorem cb_ndec {p : Prop} [Decidable p] {A B : Prop} {s : Tg A} {t : Tg B} (h1 : ¬ p → A) (h2 : p → B) : cb A B s t (.bool (!decide p)) := ⟨_, rfl, fun h => h1 (by simpa using h), fun h => h2 (by simpa using h)⟩

/-! ## A function's end, out of simp's reach -/
def er [Globs] (σ₀ : Store) (R : AV → Store → Prop) (_ : Tg R) (res : List (Nat × Option (Bool × Nat))) (f : Frame) (_ : Tg f) (σ : Store) : Prop := AtRet σ₀ R res f σ
def EPost [Globs] (σ₀ : Store) (R : AV → Store → Prop) (_ : Tg R) (res : List (Nat × Option (Bool × Nat))) : AExit → Frame → Store → Prop
  | .exit _, _, _ => False
  | _, f, σ => AtRet σ₀ R res f σ
theorem epost_ret {σ₀ : Store} {R : AV → Store → Prop} {t : Tg R} {res : List (Nat × Option (Bool × Nat))} {f : Frame} {σ : Store} : EPost σ₀ R t res .ret f σ = er σ₀ R t res f (.mk _) σ := rfl
theorem epost_normal {σ₀ : Store} {R : AV → Store → Prop} {t : Tg R} {res : List (Nat × Option (Bool × Nat))} {f : Frame} {σ : Store} : EPost σ₀ R t res .normal f σ = er σ₀ R t res f (.mk _) σ := rfl
attribute [simp ↓] epost_ret epost_normal

theorem acalls_of_awp_e {P : Program} (hm : P.follows .mixedOrders = true) {loud : List FuncId} {g : FuncId} {af : AFunc} {args : List AV} {σ₀ : Store} {R : AV → Store → Prop} (hf : compFn P loud g = some af) (hargs : decide (args.length ≤ af.n) = true)
    (h : awp P af.code (EPost σ₀ R (.mk _) af.res) (initF args) σ₀) : ACalls P g args σ₀ R :=
  acalls_of_awp hm hf (of_decide_eq_true hargs) (awp_mono (fun e f σ h0 => by cases e <;> exact h0) h)

/-- What a function hands back, its own entries given up. -/
def retAt [Globs] (m : Nat) (σ : Store) (f : Frame) (res : List (Nat × Option (Bool × Nat))) : Option AV := (res.mapM (evalRes σ f)).bind fun rs => fin σ m (tupOf rs)

theorem er_intro {σ₀ : Store} {R : AV → Store → Prop} {t : Tg R} {res : List (Nat × Option (Bool × Nat))} {f : Frame} {tf : Tg f} {σ : Store} (s1 : Store) (r : AV) (hr : retAt σ₀.length σ f res = some r) (extra : Store) (hσ : σ = s1 ++ extra) (hlen : s1.length = σ₀.length)
    (hu : ∀ (id : Nat) (e : Entry), s1[id]? = some e → σ₀[id]? = some e ∨ e.under σ₀.length = true) (hR : R r s1) : er σ₀ R t res f tf σ := by
  unfold retAt at hr
  simp only [Option.bind_eq_some_iff] at hr
  obtain ⟨rs, h1, h2⟩ := hr
  refine ⟨rs, r, σ₀.length, h1, .inl h2, Nat.le_refl _, fun id e hid he => ?_, ?_⟩
  · subst hσ
    rw [List.getElem?_append_left (by omega)] at he
    exact hu id e he
  · subst hσ
    rw [List.take_append_of_le_length (by omega), List.take_of_length_le (by omega)]
    exact hR

/-- .. where more is kept, and handed back as it is. -/
theorem er_keep {σ₀ : Store} {R : AV → Store → Prop} {t : Tg R} {res : List (Nat × Option (Bool × Nat))} {f : Frame} {tf : Tg f} {σ : Store} (s1 : Store) (r : AV) (hr : (res.mapM (evalRes σ f)).map tupOf = some r) (extra : Store) (hσ : σ = s1 ++ extra) (hlen : σ₀.length ≤ s1.length) (hru : r.under s1.length = true)
    (hu : ∀ (id : Nat) (e : Entry), s1[id]? = some e → σ₀[id]? = some e ∨ e.under s1.length = true) (hR : R r s1) : er σ₀ R t res f tf σ := by
  simp only [Option.map_eq_some_iff] at hr
  obtain ⟨rs, h1, rfl⟩ := hr
  refine ⟨rs, _, s1.length, h1, .inr ⟨rfl, hru⟩, hlen, fun id e hid he => ?_, ?_⟩
  · subst hσ
    rw [List.getElem?_append_left (by omega)] at he
    exact hu id e he
  · subst hσ
    rw [List.take_append_of_le_length (by omega), List.take_of_length_le (by omega)]
    exact hR

/-- .. where one entry has been laid anew. -/
theorem er_set {σ : Store} {e0 : Entry} {R : AV → Store → Prop} {t : Tg R} {res : List (Nat × Option (Bool × Nat))} {f : Frame} {tf : Tg f} {σ' : Store} (id : Nat) (e : Entry) (r : AV) (extra : Store) (hr : retAt σ.length σ' f res = some r) (hσ : σ' = σ.set id e ++ extra)
    (hu : e.under σ.length = true) (hR : R r (σ.set id e)) : er (σ.set id e0) R t res f tf σ' := by
  refine er_intro (σ.set id e) r (by simpa using hr) extra hσ (by simp) (fun i x hx => ?_) hR
  by_cases hi : i = id
  · subst hi
    by_cases hlt : i < σ.length
    · rw [List.getElem?_set_self hlt] at hx
      simp only [Option.some.injEq] at hx
      subst hx
      exact .inr (by simpa using hu)
    · rw [List.getElem?_eq_none (by simp; omega)] at hx; cases hx
  · rw [List.getElem?_set_ne (fun h => hi h.symm)] at hx ⊢
    exact .inl hx
theorem er_set' {σ : Store} {e0 : Entry} {R : AV → Store → Prop} {t : Tg R} {res : List (Nat × Option (Bool × Nat))} {f : Frame} {tf : Tg f} {σ' : Store} (id : Nat) (e : Entry) (r : AV) (hr : retAt σ.length σ' f res = some r) (hσ : σ' = σ.set id e)
    (hu : e.under σ.length = true) (hR : R r (σ.set id e)) : er (σ.set id e0) R t res f tf σ' := er_set id e r [] hr (by simpa using hσ) hu hR

/-! ## A function with a deferred call -/
def edp [Globs] (P : Program) (g : FuncId) (cap : List AV) (σ₀ : Store) (R : AV → Store → Prop) (_ : Tg R) (res : List (Nat × Option (Bool × Nat))) (f : Frame) (_ : Tg f) (σ : Store) : Prop := DCalls P g cap σ (AtRet σ₀ R res f)
def EDPost [Globs] (P : Program) (g : FuncId) (cap : List AV) (σ₀ : Store) (R : AV → Store → Prop) (t : Tg R) (res : List (Nat × Option (Bool × Nat))) : AExit → Frame → Store → Prop
  | .exit _, _, _ => False
  | _, f, σ => edp P g cap σ₀ R t res f (.mk f) σ
theorem edpost_ret {P : Program} {g : FuncId} {cap : List AV} {σ₀ : Store} {R : AV → Store → Prop} {t : Tg R} {res : List (Nat × Option (Bool × Nat))} {f : Frame} {σ : Store} : EDPost P g cap σ₀ R t res .ret f σ = edp P g cap σ₀ R t res f (.mk _) σ := rfl
theorem edpost_normal {P : Program} {g : FuncId} {cap : List AV} {σ₀ : Store} {R : AV → Store → Prop} {t : Tg R} {res : List (Nat × Option (Bool × Nat))} {f : Frame} {σ : Store} : EDPost P g cap σ₀ R t res .normal f σ = edp P g cap σ₀ R t res f (.mk _) σ := rfl
def edm [Globs] (P : Program) (d : ADef) (_ : Tg d) (σ₀ : Store) (R : AV → Store → Prop) (_ : Tg R) (res : List (Nat × Option (Bool × Nat))) (f : Frame) (_ : Tg f) (σ : Store) : Prop := DMid P d σ₀ R res f σ
def EDPre [Globs] (P : Program) (d : ADef) (td : Tg d) (σ₀ : Store) (R : AV → Store → Prop) (t : Tg R) (res : List (Nat × Option (Bool × Nat))) : AExit → Frame → Store → Prop
  | .exit _, _, _ => False
  | .ret, f, σ => er σ₀ R t res f (.mk f) σ
  | .normal, f, σ => awpOps P (fun f σ => edm P d td σ₀ R t res f (.mk f) σ) d.ins f σ
theorem edpre_normal {P : Program} {d : ADef} {td : Tg d} {σ₀ : Store} {R : AV → Store → Prop} {t : Tg R} {res : List (Nat × Option (Bool × Nat))} {f : Frame} {σ : Store} :
    EDPre P d td σ₀ R t res .normal f σ = awpOps P (fun f σ => edm P d td σ₀ R t res f (.mk f) σ) d.ins f σ := rfl
attribute [simp ↓] edpost_ret edpost_normal edpre_normal
theorem edm_intro {P : Program} {d : ADef} {td : Tg d} {σ₀ : Store} {R : AV → Store → Prop} {t : Tg R} {res : List (Nat × Option (Bool × Nat))} {f : Frame} {tf : Tg f} {σ : Store} (g : FuncId) (cap : List AV) (h1 : f d.t = .fn (.func g) [] cap) (h2 : hasBody P g = true)
    (h3 : awp P d.post (EDPost P g cap σ₀ R (.mk _) res) f σ) : edm P d td σ₀ R t res f tf σ := ⟨g, cap, h1, h2, awp_mono (fun e f σ h0 => by cases e <;> exact h0) h3⟩
theorem acalls_of_awp_de {P : Program} (hm : P.follows .mixedOrders = true) {loud : List FuncId} {f : FuncId} {af : AFuncD} {args : List AV} {σ₀ : Store} {R : AV → Store → Prop} (hf : compFnD P loud f = some af) (hargs : decide (args.length ≤ af.n) = true)
    (h : awp P af.code.pre (EDPre P af.code (.mk _) σ₀ R (.mk _) af.res) (initF args) σ₀) : ACalls P f args σ₀ R :=
  acalls_of_awp_defer hm hf (of_decide_eq_true hargs) (awp_mono (fun e f σ h0 => by cases e <;> exact h0) h)
/-- The deferred call, from its code; behind it the function's end. -/
theorem edp_of {P : Program} (hm : P.follows .mixedOrders = true) {loud : List FuncId} {g : FuncId} {af : AFunc} {cap : List AV} {σ₀ : Store} {R : AV → Store → Prop} {t : Tg R} {res : List (Nat × Option (Bool × Nat))} {f : Frame} {tf : Tg f} {σ : Store} (hf : compFn P loud g = some af) (hargs : decide (cap.length ≤ af.n) = true)
    (h : awp P af.code (EPost σ (fun _ σ' => er σ₀ R t res f tf σ') (.mk _) af.res) (initF cap) σ) : edp P g cap σ₀ R t res f tf σ :=
  dcalls_of_awp hm hf (of_decide_eq_true hargs) (awp_mono (fun e f σ h0 => by cases e <;> exact h0) h)

/-! ## A slice to which a call appends -/
def rowV (id : Nat) (l : List (List AV)) : AV := if l = [] then .nils else .row id l.length
def rowE (e size : Nat) (l : List (List AV)) (im : Bool) : Store := if l = [] then [] else [.row e size l im]
theorem rowV_nil (id : Nat) : rowV id [] = .nils := rfl
theorem rowE_nil (e size : Nat) (im : Bool) : rowE e size [] im = [] := rfl
theorem rowV_cons {id : Nat} {l : List (List AV)} (h : l ≠ []) : rowV id l = .row id l.length := if_neg h
theorem rowE_cons {e size : Nat} {l : List (List AV)} {im : Bool} (h : l ≠ []) : rowE e size l im = [.row e size l im] := if_neg h

theorem ap_acc {K : AV → Store → Prop} {t : Tg K} {σ : Store} {e size bytes : Nat} {y : AV} (l m : List (List AV)) (im : Bool) (hv : view (σ ++ rowE e size l im) y = some m) (hs : 0 < size) (hl : ∀ c ∈ m, c.length = size) (hf : im = true → Fixed (σ ++ rowE e size l im) y m) (h0 : m ≠ [])
    (hb : (l.length + m.length) * bytes ≤ 140737488355328) (h63 : l.length + m.length ≤ 9223372036854775807) (hK : K (rowV σ.length (l ++ m)) (σ ++ rowE e size (l ++ m) im)) : ap K t (σ ++ rowE e size l im) e size bytes (rowV σ.length l) y := by
  have hlm : l ++ m ≠ [] := by simp [h0]
  by_cases hl0 : l = []
  · subst hl0
    rw [rowV_nil]
    rw [rowE_nil, List.append_nil] at hv hf ⊢
    rw [List.nil_append, rowV_cons h0, rowE_cons h0] at hK
    exact ap_new im m hv hs hl hf (by simpa using hb) (by simpa using h63) hK
  · rw [rowV_cons hl0]
    rw [rowV_cons hlm, rowE_cons hlm, List.length_append] at hK
    rw [rowE_cons hl0] at hv hf ⊢
    refine ap_row l m im (by simp) hv hs hl hf rfl hb h63 ?_
    have : (σ ++ [Entry.row e size l im]).set σ.length (.row e size (l ++ m) im) = σ ++ [.row e size (l ++ m) im] := by
      rw [List.set_append_right _ _ (Nat.le_refl _)]; simp
    rw [this]
    exact hK
theorem ap_acc_at {K : AV → Store → Prop} {t : Tg K} {pre : Store} {n : Nat} (hn : pre.length = n) {e size bytes : Nat} (l m : List (List AV)) (im : Bool) (hs : 0 < size) (hl : ∀ c ∈ m, c.length = size) (h0 : m ≠ [])
    (hb : (l.length + m.length) * bytes ≤ 140737488355328) (h63 : l.length + m.length ≤ 9223372036854775807) (hK : K (rowV n (l ++ m)) (pre ++ rowE e size (l ++ m) im)) : ap K t (pre ++ rowE e size l im) e size bytes (rowV n l) (.lst m) := by
  subst hn
  exact ap_acc l m im rfl hs hl (fun _ => .inl rfl) h0 hb h63 hK
theorem fin1_acc {σ : Store} {e size : Nat} {l : List (List AV)} {m : Nat} : fin1 (σ ++ rowE e size l true) m (rowV σ.length l) = some (.lst l) := by
  by_cases hl0 : l = []
  · subst hl0; rfl
  · rw [rowV_cons hl0, rowE_cons hl0]; simp [fin1, fz]
theorem fz_acc {σ : Store} {e size : Nat} {l : List (List AV)} {m k : Nat} : fz (σ ++ rowE e size l true) m (k + 1) (rowV σ.length l) = some (.lst l) := by
  by_cases hl0 : l = []
  · subst hl0; rfl
  · rw [rowV_cons hl0, rowE_cons hl0]; simp [fz]
theorem view_acc {σ : Store} {e size : Nat} {l : List (List AV)} {im : Bool} : view (σ ++ rowE e size l im) (rowV σ.length l) = some l := by
  by_cases hl0 : l = []
  · subst hl0; rfl
  · rw [rowV_cons hl0, rowE_cons hl0]; simp [view]
theorem fin1_acc_at {pre : Store} {n : Nat} (hn : pre.length = n) {e size : Nat} {l : List (List AV)} {m : Nat} : fin1 (pre ++ rowE e size l true) m (rowV n l) = some (.lst l) := by
  subst hn; exact fin1_acc
theorem view_acc_at {pre : Store} {n : Nat} (hn : pre.length = n) {e size : Nat} {l : List (List AV)} {im : Bool} : view (pre ++ rowE e size l im) (rowV n l) = some l := by
  subst hn; exact view_acc
theorem fin_rowV (σ : Store) (m id : Nat) (l : List (List AV)) : fin σ m (rowV id l) = fin1 σ m (rowV id l) := by
  unfold rowV; split <;> rfl
theorem finT_rowV (σ : Store) (m id : Nat) (l : List (List AV)) : finT σ m (rowV id l) = fin1 σ m (rowV id l) := by
  unfold rowV; split <;> rfl
theorem rowV_one (id : Nat) (l : List (List AV)) : (rowV id l).one = true := by
  unfold rowV; split <;> rfl
theorem rowV_cells (id : Nat) (l : List (List AV)) : (rowV id l).cells = [rowV id l] := by
  unfold rowV; split <;> rfl
attribute [simp high] rowV_one rowV_cells fin_rowV finT_rowV
theorem set_app {σ l : Store} {id : Nat} (e : Entry) (h : id < σ.length) : σ.set id e ++ l = (σ ++ l).set id e := (List.set_append_left _ _ h).symm
/-- A slice that is made, out of simp's reach. -/
def ms (K : AV → Store → Prop) (_ : Tg K) (σ : Store) (e size bytes : Nat) (zero : List AV) (len cap : AV) : Prop := ∃ n c, natOf len = some n ∧ natOf cap = some c ∧ n ≤ c ∧ c * bytes ≤ 140737488355328 ∧ c ≤ 9223372036854775807 ∧ 0 < size ∧ zero.length = size ∧
  K (.row σ.length n) (σ ++ [.row e size (List.replicate n zero) false])
theorem op_mkslice {P : Program} {K : AV → Store → Prop} {f : Frame} {σ : Store} (e size bytes : Nat) (zero : List AV) (len cap : Opd) : awpOp P K f σ (.mkslice e size bytes zero len cap) = ms K (.mk _) σ e size bytes zero (len.ev f) (cap.ev f) := rfl
attribute [simp ↓] op_mkslice
theorem ms_intro {K : AV → Store → Prop} {t : Tg K} {σ : Store} {e size bytes : Nat} {zero : List AV} {k k' : IntKind} {x y : Int} (n : Nat) (hx : x = n) (hy : y = n) (hb : n * bytes ≤ 140737488355328) (h63 : n ≤ 9223372036854775807) (hs : 0 < size) (hz : zero.length = size)
    (hK : K (.row σ.length n) (σ ++ [.row e size (List.replicate n zero) false])) : ms K t σ e size bytes zero (.int k x) (.int k' y) := by
  subst hx; subst hy
  exact ⟨n, n, by simp [natOf], by simp [natOf], Nat.le_refl _, hb, h63, hs, hz, hK⟩
theorem gh_skip {P : Program} {Q : AExit → Frame → Store → Prop} {f : Frame} {σ : Store} (h : Q .normal f σ) : awp P .gh Q f σ := .inl h
theorem gh_frz {P : Program} {Q : AExit → Frame → Store → Prop} {f : Frame} {σ σ' : Store} (hz : Frz σ σ') (h : Q .normal f σ') : awp P .gh Q f σ := .inr ⟨σ', hz, h⟩
theorem pure_under (m : Nat) : ∀ {v : AV}, v.pure = true → v.under m = true
  | .ptr .., h | .row .., h | .rowp .., h | .map .., h | .sub .., h | .asl .., h => by simp [AV.pure] at h
  | .fn _ a b, h => by
    simp only [AV.pure, Bool.and_eq_true, List.all_eq_true, List.mem_attach, forall_const, Subtype.forall] at h
    simp only [AV.under, Bool.and_eq_true, List.all_eq_true, List.mem_attach, forall_const, Subtype.forall]
    exact ⟨fun x hx => pure_under m (h.1 x hx), fun x hx => pure_under m (h.2 x hx)⟩
  | .iface _ v, h => by
    simp only [AV.pure] at h
    simp only [AV.under]
    exact pure_under m h
  | .agg l, h => by
    simp only [AV.pure, List.all_eq_true, List.mem_attach, forall_const, Subtype.forall] at h
    simp only [AV.under, List.all_eq_true, List.mem_attach, forall_const, Subtype.forall]
    exact fun x hx => pure_under m (h x hx)
  | .tup l, h => by
    simp only [AV.pure, List.all_eq_true, List.mem_attach, forall_const, Subtype.forall] at h
    simp only [AV.under, List.all_eq_true, List.mem_attach, forall_const, Subtype.forall]
    exact fun x hx => pure_under m (h x hx)
  | .junk, _ | .int .., _ | .bool _, _ | .str _, _ | .flt .., _ | .nilp, _ | .rptr _, _ | .nils, _ | .lst _, _ | .nilm, _ | .nilf, _ | .nili, _ | .any _, _ | .gp .., _ => by simp [AV.under]
end Go.Abs
end

section
/- Abstract machine, part 23: calls by the library's contracts; the package's variables. -/
set_option linter.unusedSimpArgs false
set_option linter.unusedVariables false
set_option linter.constructorNameAsVariable false
namespace Go.Abs
open Go.RowKit
variable {G : Globs}
/-- The relation of a call that touches no entry is kept along a world that grows. -/
theorem srel_grow {base : Nat} {κ : Key} {Im : Addr → Prop} {w w' : World} (hs : SRel base κ Im [] w) (hb : Below w.heap.size w w') : SRel base κ Im [] w' ∧ Grow base κ Im w κ Im w' := by
  have hcl : ∀ a, Im a → w'.cell? a = w.cell? a := fun a ha => World.cell?_of_block (hb.block _ (hs.imlt a ha).1)
  exact ⟨hs.world (fun _ h => h) (fun _ h => .inl h) hb.size hb.block, ⟨fun _ _ _ h => h, fun _ h => h, hcl, fun _ h => .inl h, hb.mono hs.hb⟩⟩
/-- A call of a function of one value, by the library's contract. -/
theorem pcalls1 {P : Program} {f : FuncId} {a : AV} {R : AV → Prop} (h : ∀ base κ Im w v, SRel base κ Im [] w → VR κ Im w a v → Calls P f #[v] w fun e w' => ∃ r u, e = .returned u ∧ R r ∧ Below w.heap.size w w' ∧ ∀ Im', IR Im' w' r u) : PCalls P f [a] R := by
  intro base κ Im w vs hs hv
  obtain ⟨v0, rfl⟩ : ∃ v0, vs = [v0] := by
    match vs, hv.1 with
    | [a], _ => exact ⟨a, rfl⟩
  refine (h base κ Im w v0 hs (hv.2 0 (by simp) (by simp))).mono ?_
  rintro e w' ⟨r, u, rfl, hR, hb, hr⟩
  obtain ⟨h1, h2⟩ := srel_grow hs hb
  exact ⟨r, [], u, κ, Im, rfl, ⟨rfl, hR⟩, h1, h2, .im _ _ (hr _)⟩
theorem pcalls2 {P : Program} {f : FuncId} {a b : AV} {R : AV → Prop} (h : ∀ base κ Im w v u, SRel base κ Im [] w → VR κ Im w a v → VR κ Im w b u → Calls P f #[v, u] w fun e w' => ∃ r u, e = .returned u ∧ R r ∧ Below w.heap.size w w' ∧ ∀ Im', IR Im' w' r u) : PCalls P f [a, b] R := by
  intro base κ Im w vs hs hv
  obtain ⟨v0, v1, rfl⟩ : ∃ v0 v1, vs = [v0, v1] := by
    match vs, hv.1 with
    | [a, b], _ => exact ⟨a, b, rfl⟩
  refine (h base κ Im w v0 v1 hs (hv.2 0 (by simp) (by simp)) (hv.2 1 (by simp) (by simp))).mono ?_
  rintro e w' ⟨r, u, rfl, hR, hb, hr⟩
  obtain ⟨h1, h2⟩ := srel_grow hs hb
  exact ⟨r, [], u, κ, Im, rfl, ⟨rfl, hR⟩, h1, h2, .im _ _ (hr _)⟩
theorem pcalls3 {P : Program} {f : FuncId} {a b c : AV} {R : AV → Prop} (h : ∀ base κ Im w v u x, SRel base κ Im [] w → VR κ Im w a v → VR κ Im w b u → VR κ Im w c x → Calls P f #[v, u, x] w fun e w' => ∃ r u, e = .returned u ∧ R r ∧ Below w.heap.size w w' ∧ ∀ Im', IR Im' w' r u) : PCalls P f [a, b, c] R := by
  intro base κ Im w vs hs hv
  obtain ⟨v0, v1, v2, rfl⟩ : ∃ v0 v1 v2, vs = [v0, v1, v2] := by
    match vs, hv.1 with
    | [a, b, c], _ => exact ⟨a, b, c, rfl⟩
  refine (h base κ Im w v0 v1 v2 hs (hv.2 0 (by simp) (by simp)) (hv.2 1 (by simp) (by simp)) (hv.2 2 (by simp) (by simp))).mono ?_
  rintro e w' ⟨r, u, rfl, hR, hb, hr⟩
  obtain ⟨h1, h2⟩ := srel_grow hs hb
  exact ⟨r, [], u, κ, Im, rfl, ⟨rfl, hR⟩, h1, h2, .im _ _ (hr _)⟩
/-- What a package's variable holds, cell by cell, and as a whole. -/
theorem glob_cell {base : Nat} {κ : Key} {Im : Addr → Prop} {σ : Store} {w : World} (hs : SRel base κ Im σ w) {g : Nat} {cells : List AV} (hm : (g, cells) ∈ Globs.tab) : ∃ vals : Nat → Value, (∀ j, j < cells.length → w.cell? ⟨g, j, none⟩ = some (vals j)) ∧ ∀ j (h : j < cells.length), IR Im w (cells[j]) (vals j) := by
  obtain ⟨_, _, h⟩ := hs.glob _ hm
  obtain ⟨b, o, vals, hb, _, hc, hv⟩ := (VR.im (κ := κ) _ _ h).rptr_inv
  simp only [Value.pointer.injEq, Option.some.injEq, Addr.mk.injEq, and_true] at hb
  obtain ⟨rfl, rfl⟩ := hb
  exact ⟨vals, fun j hj => by have := (hc j hj).2; simpa using this, hv⟩
theorem glob_ints {base : Nat} {κ : Key} {Im : Addr → Prop} {σ : Store} {w : World} (hs : SRel base κ Im σ w) {g : Nat} {k : IntKind} {zs : List Int} (hm : (g, zs.map (AV.int k)) ∈ Globs.tab) : ∃ t fz, w.heap[g]? = some (.cells (zs.map (Value.int k)).toArray t fz) ∧ g < base := by
  obtain ⟨h1, ⟨cs, t, fz, h2, h3⟩, _⟩ := hs.glob _ hm
  obtain ⟨vals, hc, hv⟩ := glob_cell hs hm
  refine ⟨t, fz, ?_, h1⟩
  rw [h2]
  have : cs = (zs.map (Value.int k)).toArray := by
    apply Array.ext
    · simpa using h3
    · intro j hj hj'
      have hjl : j < (zs.map (AV.int k)).length := by simpa using hj'
      have e1 := hc j hjl
      have e2 : w.cell? ⟨g, j, none⟩ = some cs[j] := by simp [World.cell?, h2, hj]
      rw [e2] at e1
      have e4 := hv j hjl
      simp only [List.getElem_map] at e4
      have e3 := (VR.im (κ := κ) _ _ e4).int_inv
      rw [e3] at e1
      simpa using e1
  rw [this]
end Go.Abs
end
