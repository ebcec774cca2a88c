/- Abstract machine, part 14: make, and literals of slices. -/
import Derived.Test.YtkclehdmdnfikaaDoorAbsM
set_option linter.unusedSimpArgs false
set_option linter.unusedVariables false
set_option linter.constructorNameAsVariable false
namespace Go.Abs
open Go.RowKit
variable {G : Globs}
section
variable {P : Program} {base : Nat} {κ : Key} {Im : Addr → Prop} {w : World} {σ : Store}

theorem range_split (n size : Nat) : List.range (n * size + size) = List.range size ++ (List.range (n * size)).map (· + size) := by
  rw [Nat.add_comm, List.range_add]
  congr 1
  apply List.map_congr_left
  intro a _; omega

/-- n zero elements, one behind the other. -/
theorem made_flat (z : Array Value) (hz : 0 < z.size) : ∀ n, (madeCells z (n * z.size)).toList = (List.replicate n z.toList).flatten
  | 0 => by simp [madeCells]
  | n + 1 => by
    have ih := made_flat z hz n
    simp only [madeCells, Array.toList_map, Array.toList_range] at ih ⊢
    rw [Nat.add_mul, Nat.one_mul, range_split, List.map_append, List.map_map, List.replicate_succ, List.flatten_cons]
    congr 1
    · apply List.ext_getElem
      · simp
      · intro i h1 h2
        simp at h1
        simp [Nat.mod_eq_of_lt h1, h1]
    · rw [← ih]
      apply List.map_congr_left
      intro a _
      simp

theorem VRL.replicate {l : List AV} {vs : List Value} (h : VRL κ Im w l vs) : ∀ n, VRL κ Im w (List.replicate n l).flatten (List.replicate n vs).flatten
  | 0 => by simpa using VRL.nil
  | n + 1 => by
    rw [List.replicate_succ, List.replicate_succ, List.flatten_cons, List.flatten_cons]
    exact h.append (VRL.replicate h n)

theorem eff_mkslice {o : Oper} {t e : TypeId} {l c : Operand} {l' c' : Opd} {i : TypeInfo} {z : List AV} {f : Frame} {a : Act} {K : AV → Store → Prop} (ho : o.op = .makeSlice t l c) (ht : P.underlying t = some (.slice e)) (hi : P.info? e = some i) (hz : zeroOf P e = some z)
    (hzl : z.length = i.size) (hpos : 0 < i.size) (hl : opd l = some l') (hc : opd c = some c') (hs : SRel base κ Im σ w) (hf : FRel κ Im w f a) (h : awpOp P K f σ (.mkslice e i.size i.bytes z l' c')) : EffOK P base κ Im w o a K := by
  simp only [awpOp] at h
  obtain ⟨n, cc, hn, hcc, hle, hb, h63, _, _, hK⟩ := h
  obtain ⟨kl, hkl⟩ := natOf_ok (opd_ok (κ := κ) (Im := Im) (w := w) hl hf) hn
  obtain ⟨kc, hkc⟩ := natOf_ok (opd_ok (κ := κ) (Im := Im) (w := w) hc hf) hcc
  obtain ⟨i', zv, hi', hzv, hm⟩ := zeroOf_ok hz
  rw [hi] at hi'; cases hi'
  obtain ⟨hzr, hzo, _⟩ := mapM_const1 (Im := Im) (w := w) hm
  have hzs : zv.cells.size = i.size := by rw [← hzl, hzr.1]; simp
  have hbb : (i.bytes : Int) * (cc : Int) ≤ 281474976710656 := by
    have h1 : ((cc * i.bytes : Nat) : Int) ≤ 140737488355328 := by omega
    rw [Int.natCast_mul, Int.mul_comm] at h1; omega
  have hr := run_make (P := P) w t e i zv ht hi hzv kl kc n cc (by omega) (by omega) hbb (by omega)
  simp only [Int.toNat_natCast] at hr
  have hsize : (madeCells zv.cells (cc * i.size)).size = cc * i.size := size_madeCells _ _
  have hflat : (madeCells zv.cells (cc * i.size)).toList = (List.replicate cc zv.cells.toList).flatten := by
    have := made_flat zv.cells (by omega) cc
    rwa [hzs] at this
  have htake : (madeCells zv.cells (cc * i.size)).toList.take (n * i.size) = (List.replicate n zv.cells.toList).flatten := by
    rw [hflat]
    have : cc = n + (cc - n) := by omega
    rw [this, ← List.replicate_append_replicate, List.flatten_append, List.take_append_of_le_length (by simp [hzs])]
    exact List.take_of_length_le (by simp [hzs])
  have hown : (w.alloc (.cells (madeCells zv.cells (cc * i.size)) e)).ownsRow w.heap.size e i.size (.slice (some ⟨w.heap.size, 0, none⟩) n cc) n (List.replicate n zv.cells.toList).flatten :=
    ⟨by simp [hzs], .inr ⟨w.heap.size, cc, _, rfl, Nat.le_refl _, heap_alloc_new w _, hle, by simp only [maxLen]; omega, hsize, htake⟩⟩
  obtain ⟨κ', Im', q1, q2, q3⟩ := new_row (e := e) (size := i.size) (n := n) (m := List.replicate n z) (im := false) hs (by simp) hpos (fun c hc => by rw [(List.mem_replicate.1 hc).2, hzl]) (fun c hc x hx => by rw [(List.mem_replicate.1 hc).2] at hx; exact hzo x hx) hown
    (fun k hk => Below.heap_alloc w _ k hk) (by simp) rfl rfl rfl ((VRL.ofIR hzr).replicate n) (fun h => by simp at h)
  exact ⟨_, _, κ', Im', _, _, .inl (by simp only [execOp, ho, hkl, hkc, Sem.run_bind, hr, Result.andThen_ok, Sem.run_pure]), hK, q1, q2, q3⟩

theorem VR.empty {a : AV} {v : Value} (h : VR (fun _ _ => none) Im w a v) : IR Im w a v := by
  induction h with
  | im a v h => exact h
  | ptr id off b h => simp at h
  | row id n g cap h => simp at h
  | rowp id n size k off b cap h => simp at h
  | map id b h => simp at h
  | sub id n size lo hi b cap ad c h => simp at h
  | asl id off n size b ad c h => simp at h
  | fn f first captured vs us h1 h2 hv hu ih1 ih2 => exact .fn f first captured vs us h1 h2 ih1 ih2
  | iface t a v h ih => exact .iface t a v ih
  | agg cells vs hone h1 hv ih => exact .agg cells vs hone h1 ih
  | tup cells vs h1 hv ih => exact .tup cells vs h1 ih

theorem share1_ok {X r : AV} {x : Value} (hs : SRel base κ Im σ w) (hx : VR κ Im w X x) (h : share1 σ X = some r) : IR Im w r x ∧ (X.one = true → r.one = true) := by
  unfold share1 at h
  split at h
  · rename_i id n
    obtain ⟨g, cap, rfl, hk⟩ := hx.row_inv
    split at h
    case h_2 => cases h
    rename_i e size els he
    split at h
    case isFalse => cases h
    rename_i hn
    simp only [Option.some.injEq] at h; subst h; subst hn
    exact ⟨row_lst hs he hk, fun _ => rfl⟩
  · simp only [Option.some.injEq] at h; subst h
    cases hx.nils_inv
    exact ⟨.lnil, fun _ => rfl⟩
  · split at h
    case isFalse => cases h
    rename_i hp
    simp only [Option.some.injEq] at h; subst h
    exact ⟨hx.pure hp, id⟩

theorem shareL_ok (hs : SRel base κ Im σ w) {l m : List AV} {vs : List Value} (hl : VRL κ Im w l vs) (h : shareL σ l = some m) : IRL Im w m vs ∧ ((∀ c ∈ l, c.one = true) → ∀ c ∈ m, c.one = true) := by
  obtain ⟨h1, h2⟩ := mapM_some h
  refine ⟨⟨by rw [← h1, hl.1], fun j hj hj' => (share1_ok hs (hl.2 j (by omega) hj') (h2 j (by omega) hj)).1⟩, fun ho c hc => ?_⟩
  obtain ⟨j, hj, rfl⟩ := List.mem_iff_getElem.1 hc
  have hjl : j < l.length := by omega
  have hjv : j < vs.length := by rw [← hl.1]; exact hjl
  exact (share1_ok hs (hl.2 j hjl hjv) (h2 j hjl hj)).2 (ho _ (List.getElem_mem hjl))

theorem share_ok {X r : AV} {x : Value} (hs : SRel base κ Im σ w) (hx : VR κ Im w X x) (h : share σ X = some r) : IR Im w r x ∧ ((∀ c ∈ X.cells, c.one = true) → ∀ c ∈ r.cells, c.one = true) := by
  unfold share at h
  split at h
  · rename_i l
    simp only [Option.map_eq_some_iff] at h
    obtain ⟨m, hm, rfl⟩ := h
    obtain ⟨vs, rfl, hl, hone⟩ := hx.agg_inv
    obtain ⟨h1, h2⟩ := shareL_ok hs hl hm
    exact ⟨.agg _ _ (h2 hone) h1.1 h1.2, fun _ => h2 hone⟩
  · rename_i l
    simp only [Option.map_eq_some_iff] at h
    obtain ⟨m, hm, rfl⟩ := h
    obtain ⟨vs, rfl, hl⟩ := hx.tup_inv
    obtain ⟨h1, h2⟩ := mapM_some hm
    refine ⟨.tup _ _ (by rw [← h1, hl.1]) (fun j hj hj' => ?_), fun ho => ?_⟩
    · have := h2 j (by omega) hj
      split at this
      · rename_i l' hq
        simp only [Option.map_eq_some_iff] at this
        obtain ⟨m', hm', hr⟩ := this
        have hv := hl.2 j (by omega) hj'
        rw [hq] at hv
        obtain ⟨us, hu, hul, hone⟩ := hv.agg_inv
        obtain ⟨g1, g2⟩ := shareL_ok hs hul hm'
        rw [← hr, hu]
        exact .agg _ _ (g2 hone) g1.1 g1.2
      · exact (share1_ok hs (hl.2 j (by omega) hj') this).1
    · exact absurd (ho _ (List.mem_singleton.2 rfl)) (by simp [AV.one])
  · obtain ⟨h1, h2⟩ := share1_ok hs hx h
    refine ⟨h1, fun ho => ?_⟩
    rename_i hna hnt
    have hX : X.cells = [X] := by cases X <;> first | rfl | exact absurd rfl (hna _)
    have hone := h2 (ho X (by rw [hX]; simp))
    have hr : r.cells = [r] := by cases r <;> first | rfl | simp [AV.one] at hone
    rw [hr]; simpa using hone

theorem eff_mklst {o : Oper} {t e : TypeId} {n size : Nat} {parts : Array (Nat × Operand)} {z : List AV} {ps : List (Nat × Opd)} {f : Frame} {a : Act} {K : AV → Store → Prop} (ho : o.op = .buildSlice t n parts) (ht : P.underlying t = some (.slice e)) (hsz : sizeOf? P e = some size)
    (hz : zeroOf P e = some z) (hle : n * size ≤ 16777216) (hzl : z.length = size) (hpos : 0 < size) (hps : parts.toList.mapM (compElem n) = some ps) (hs : SRel base κ Im σ w) (hf : FRel κ Im w f a) (h : awpOp P K f σ (.mklst e size z n ps)) : EffOK P base κ Im w o a K := by
  simp only [awpOp] at h
  obtain ⟨qs, hqs, hK⟩ := h
  obtain ⟨i, zv, hi, hzv, hm⟩ := zeroOf_ok hz
  obtain ⟨hzr, hzo, _⟩ := mapM_const1 (Im := Im) (w := w) hm
  have hzs : zv.cells.size = size := by rw [← hzl, hzr.1]; simp
  obtain ⟨h1, h2⟩ := mapM_some hps
  obtain ⟨h3, h4⟩ := mapM_some hqs
  have hflat : (madeCells zv.cells (n * size)).toList = (List.replicate n zv.cells.toList).flatten := by
    have := made_flat zv.cells (by omega) n
    rwa [hzs] at this
  have hzflat : VRL (fun _ _ => none) Im w (List.replicate n z).flatten (madeCells zv.cells (n * size)).toList := by
    rw [hflat]; exact (VRL.ofIR hzr).replicate n
  have hflen : (List.replicate n z).flatten.length = n * size := by simp [hzl]
  have hfill := fill_ok (κ := fun _ _ => none) (Im := Im) (w := w) (fun i => some (i * size, size)) (parts.toList.map fun p => (p.1, a.eval p.2)) qs (List.replicate n z).flatten (madeCells zv.cells (n * size)) hzflat (by simp [h1, h3]) (fun j hj hj' => by
    have hj1 : j < parts.toList.length := by simpa using hj
    have hj2 : j < ps.length := by omega
    have e1 := h2 j hj1 hj2
    have e2 := h4 j hj2 hj'
    simp only [List.getElem_map]
    unfold compElem at e1
    split at e1
    case h_2 => cases e1
    rename_i x hx
    split at e1
    case isFalse => cases e1
    rename_i hlt
    simp only [Option.some.injEq] at e1
    rw [← e1] at e2
    simp only [Option.bind_eq_some_iff] at e2
    obtain ⟨v, hv, e2⟩ := e2
    split at e2
    case isFalse => cases e2
    rename_i hcl
    simp only [Option.some.injEq] at e2
    rw [← e2]
    have hvr := opd_ok (κ := κ) (Im := Im) (w := w) hx hf
    obtain ⟨g1, g2⟩ := share_ok hs hvr hv
    have hmul : (parts.toList[j].1 + 1) * size ≤ n * size := Nat.mul_le_mul_right _ hlt
    rw [Nat.add_mul] at hmul
    refine ⟨size, rfl, hcl.1.symm, ?_, by rw [hflen]; omega⟩
    exact (VR.im (κ := fun _ _ => none) _ _ g1).oneCells (by simpa using hcl.2))
  obtain ⟨cs', hfl, hvr, hcs⟩ := hfill
  have hones : ∀ c ∈ lay (List.replicate n z).flatten qs, c.one = true := lay_one qs _ (fun c hc => by
      obtain ⟨l, hl, hcl⟩ := List.mem_flatten.1 hc
      rw [(List.mem_replicate.1 hl).2] at hcl
      exact hzo c hcl) (fun p hp c hc => by
    obtain ⟨j, hj, rfl⟩ := List.mem_iff_getElem.1 hp
    have e2 := h4 j (by omega) hj
    simp only [Option.bind_eq_some_iff] at e2
    obtain ⟨v, hv, e2⟩ := e2
    split at e2
    case isFalse => cases e2
    rename_i hcl
    simp only [Option.some.injEq] at e2
    rw [← e2] at hc
    have := hcl.2
    simp only [List.all_eq_true] at this
    exact this c hc)
  have hlaylen : (lay (List.replicate n z).flatten qs).length = n * size := by
    rw [hvr.1]; simp [hcs, size_madeCells]
  obtain ⟨c1, c2, c3⟩ := chunks_ok n size _ hlaylen
  generalize hL : lay (List.replicate n z).flatten qs = L at *
  have hrun : (execOp a.eval o).run P w = .ok (.value (.slice (some ⟨w.heap.size, 0, none⟩) n n)) (w.alloc (.cells cs' e)) := by
    have hparts : (parts.map fun (i, x) => (i, a.eval x)).toList = parts.toList.map fun p => (p.1, a.eval p.2) := by simp
    have hn : ¬ (n * size > 2 ^ 24) := by omega
    by_cases h0 : n * size = 0
    · have hm0 : madeCells zv.cells (n * size) = (Array.range (n * size)).map ((#[] : Array Value)[· % (#[] : Array Value).size]!) := by simp [h0, madeCells, Array.range_zero']
      rw [hm0] at hfl
      simp only [execOp, ho, Instr.buildSlice, Sem.run_bind, run_underlying ht, Result.andThen_ok, run_sizeOf? hsz, Sem.run_ite, hn, if_false, h0, if_true, Sem.run_pure, hparts]
      rw [h0] at hfl
      simp only [hfl, newRow, Sem.run_bind, run_newObj, Result.andThen_ok, Sem.run_pure]
      rfl
    · have hm0 : madeCells zv.cells (n * size) = (Array.range (n * size)).map (zv.cells[· % zv.cells.size]!) := rfl
      rw [hm0] at hfl
      simp only [execOp, ho, Instr.buildSlice, Sem.run_bind, run_underlying ht, Result.andThen_ok, run_sizeOf? hsz, Sem.run_ite, hn, if_false, h0, zeroValue, typeInfo, run_program, hi, hzv, Sem.run_pure, hparts, hfl, newRow, run_newObj]
      rfl
  have hcells : ∀ j, j < n * size → (w.alloc (.cells cs' e)).cell? ⟨w.heap.size, j, none⟩ = some (cs'.getD j undef) := by
    intro j hj
    rw [cell_of_row _ _ j cs' e (0, 0) (heap_alloc_new w _)]
    have : j < cs'.size := by rw [hcs, size_madeCells]; exact hj
    simp [this]
  let Im' : Addr → Prop := fun ad => Im ad ∨ (ad.block = w.heap.size ∧ ad.spot = none ∧ ad.off < n * size)
  have hc : ∀ ad, Im ad → (w.alloc (.cells cs' e)).cell? ad = w.cell? ad := fun ad ha => World.cell?_of_block (Below.heap_alloc w _ _ (hs.imlt ad ha).1)
  have hir : IR Im' (w.alloc (.cells cs' e)) (.lst (chunks n size L)) (.slice (some ⟨w.heap.size, 0, none⟩) n n) := by
    have := IR.lst (Im := Im') (w := w.alloc (.cells cs' e)) (chunks n size L) size w.heap.size 0 n (fun k j => cs'.getD (k * size + j) undef) (by omega) (by simp only [maxLen]; have := Nat.le_mul_of_pos_right n hpos; omega) c2
      (fun c hcc x hx => hones x (by rw [← c3]; exact List.mem_flatten.2 ⟨c, hcc, hx⟩))
      (fun k j hk hj => by
        have hmul : (k + 1) * size ≤ n * size := Nat.mul_le_mul_right _ (by omega)
        rw [Nat.add_mul] at hmul
        rw [Nat.zero_add]
        exact ⟨.inr ⟨rfl, rfl, by show k * size + j < n * size; omega⟩, hcells _ (by omega)⟩)
      (fun k j hk hj => by
        have hjs : j < size := by rw [c2 _ (List.getElem_mem hk)] at hj; exact hj
        obtain ⟨_, _, g3, g4⟩ := flatten_get (chunks n size L) k j c2 hk hjs
        have hlt : k * size + j < L.length := by rw [c3] at g3; exact g3
        have hlt' : k * size + j < cs'.toList.length := by rw [← hvr.1]; exact hlt
        have e1 : (chunks n size L)[k][j] = L[k * size + j] := by rw [← g4]; simp only [c3]
        have e2 : cs'.getD (k * size + j) undef = cs'.toList[k * size + j] := by simp at hlt'; simp [hlt']
        rw [e1, e2]
        exact (hvr.2 _ hlt hlt').empty.mono (fun _ h => .inl h) hc)
    rwa [c1] at this
  refine ⟨_, _, κ, Im', _, σ, .inl hrun, hK, .im _ _ hir, ?_, ⟨fun _ _ _ h => h, fun _ h => .inl h, hc, fun ad h => ?_, (Below.refl _ _).alloc hs.hb _⟩⟩
  · refine hs.world (fun _ h => .inl h) (fun ad h => ?_) (by simp) (fun k hk => Below.heap_alloc w _ k hk)
    rcases h with h | ⟨h1, h2, _⟩
    · exact .inl h
    · exact .inr ⟨by omega, by simp; omega, h2⟩
  · rcases h with h | ⟨h1, _⟩
    · exact .inl h
    · exact .inr (by rw [h1]; exact hs.hb)

/-- A literal of a slice that the call owns. -/
theorem eff_mkrow {o : Oper} {t e : TypeId} {n size : Nat} {parts : Array (Nat × Operand)} {z : List AV} {ps : List (Nat × Opd)} {f : Frame} {a : Act} {K : AV → Store → Prop} (ho : o.op = .buildSlice t n parts) (ht : P.underlying t = some (.slice e)) (hsz : sizeOf? P e = some size)
    (hz : zeroOf P e = some z) (hle : n * size ≤ 16777216) (hzl : z.length = size) (hpos : 0 < size) (hps : parts.toList.mapM (compElem n) = some ps) (hs : SRel base κ Im σ w) (hf : FRel κ Im w f a) (h : awpOp P K f σ (.mkrow e size z n ps)) : EffOK P base κ Im w o a K := by
  simp only [awpOp] at h
  obtain ⟨qs, hqs, _, hK⟩ := h
  obtain ⟨i, zv, hi, hzv, hm⟩ := zeroOf_ok hz
  obtain ⟨hzr, hzo, _⟩ := mapM_const1 (Im := Im) (w := w) hm
  have hzs : zv.cells.size = size := by rw [← hzl, hzr.1]; simp
  obtain ⟨h1, h2⟩ := mapM_some hps
  obtain ⟨h3, h4⟩ := mapM_some hqs
  have hflat : (madeCells zv.cells (n * size)).toList = (List.replicate n zv.cells.toList).flatten := by
    have := made_flat zv.cells (by omega) n
    rwa [hzs] at this
  have hzflat : VRL κ Im w (List.replicate n z).flatten (madeCells zv.cells (n * size)).toList := by
    rw [hflat]; exact (VRL.ofIR hzr).replicate n
  have hflen : (List.replicate n z).flatten.length = n * size := by simp [hzl]
  have hfill := fill_ok (κ := κ) (Im := Im) (w := w) (fun i => some (i * size, size)) (parts.toList.map fun p => (p.1, a.eval p.2)) qs (List.replicate n z).flatten (madeCells zv.cells (n * size)) hzflat (by simp [h1, h3]) (fun j hj hj' => by
    have hj1 : j < parts.toList.length := by simpa using hj
    have hj2 : j < ps.length := by omega
    have e1 := h2 j hj1 hj2
    have e2 := h4 j hj2 hj'
    simp only [List.getElem_map]
    unfold compElem at e1
    split at e1
    case h_2 => cases e1
    rename_i x hx
    split at e1
    case isFalse => cases e1
    rename_i hlt
    simp only [Option.some.injEq] at e1
    rw [← e1] at e2
    split at e2
    case isFalse => cases e2
    rename_i hcl
    simp only [Option.some.injEq] at e2
    rw [← e2]
    have hvr := opd_ok (κ := κ) (Im := Im) (w := w) hx hf
    have hmul : (parts.toList[j].1 + 1) * size ≤ n * size := Nat.mul_le_mul_right _ hlt
    rw [Nat.add_mul] at hmul
    refine ⟨size, rfl, hcl.1.symm, ?_, by rw [hflen]; omega⟩
    exact hvr.oneCells (by simpa using hcl.2))
  obtain ⟨cs', hfl, hvr, hcs⟩ := hfill
  have hones : ∀ c ∈ lay (List.replicate n z).flatten qs, c.one = true := lay_one qs _ (fun c hc => by
      obtain ⟨l, hl, hcl⟩ := List.mem_flatten.1 hc
      rw [(List.mem_replicate.1 hl).2] at hcl
      exact hzo c hcl) (fun p hp c hc => by
    obtain ⟨j, hj, rfl⟩ := List.mem_iff_getElem.1 hp
    have e2 := h4 j (by omega) hj
    split at e2
    case isFalse => cases e2
    rename_i hcl
    simp only [Option.some.injEq] at e2
    rw [← e2] at hc
    have := hcl.2
    simp only [List.all_eq_true] at this
    exact this c hc)
  have hlaylen : (lay (List.replicate n z).flatten qs).length = n * size := by
    rw [hvr.1]; simp [hcs, size_madeCells]
  obtain ⟨c1, c2, c3⟩ := chunks_ok n size _ hlaylen
  generalize hL : lay (List.replicate n z).flatten qs = L at *
  have hrun : (execOp a.eval o).run P w = .ok (.value (.slice (some ⟨w.heap.size, 0, none⟩) n n)) (w.alloc (.cells cs' e)) := by
    have hparts : (parts.map fun (i, x) => (i, a.eval x)).toList = parts.toList.map fun p => (p.1, a.eval p.2) := by simp
    have hn : ¬ (n * size > 2 ^ 24) := by omega
    by_cases h0 : n * size = 0
    · have hm0 : madeCells zv.cells (n * size) = (Array.range (n * size)).map ((#[] : Array Value)[· % (#[] : Array Value).size]!) := by simp [h0, madeCells, Array.range_zero']
      rw [hm0] at hfl
      simp only [execOp, ho, Instr.buildSlice, Sem.run_bind, run_underlying ht, Result.andThen_ok, run_sizeOf? hsz, Sem.run_ite, hn, if_false, h0, if_true, Sem.run_pure, hparts]
      rw [h0] at hfl
      simp only [hfl, newRow, Sem.run_bind, run_newObj, Result.andThen_ok, Sem.run_pure]
      rfl
    · have hm0 : madeCells zv.cells (n * size) = (Array.range (n * size)).map (zv.cells[· % zv.cells.size]!) := rfl
      rw [hm0] at hfl
      simp only [execOp, ho, Instr.buildSlice, Sem.run_bind, run_underlying ht, Result.andThen_ok, run_sizeOf? hsz, Sem.run_ite, hn, if_false, h0, zeroValue, typeInfo, run_program, hi, hzv, Sem.run_pure, hparts, hfl, newRow, run_newObj]
      rfl
  have hown : (w.alloc (.cells cs' e)).ownsRow w.heap.size e size (.slice (some ⟨w.heap.size, 0, none⟩) n n) n cs'.toList := by
    have hsz' : cs'.size = n * size := by rw [hcs, size_madeCells]
    refine ⟨by simpa using hsz', .inr ⟨w.heap.size, n, _, rfl, Nat.le_refl _, heap_alloc_new w _, Nat.le_refl _, ?_, hsz', List.take_of_length_le (by simp [hsz'])⟩⟩
    simp only [maxLen]; have := Nat.le_mul_of_pos_right n hpos; omega
  obtain ⟨κ', Im', q1, q2, q3⟩ := new_row (e := e) (size := size) (n := n) (m := chunks n size L) (im := false) hs c1.symm hpos c2 (fun c hcc x hx => hones x (by rw [← c3]; exact List.mem_flatten.2 ⟨c, hcc, hx⟩)) hown
    (fun k hk => Below.heap_alloc w _ k hk) (by simp) rfl rfl rfl (by rw [c3]; exact hvr) (fun h => by simp at h)
  exact ⟨_, _, κ', Im', _, _, .inl hrun, hK, q1, q2, q3⟩

end
end Go.Abs
