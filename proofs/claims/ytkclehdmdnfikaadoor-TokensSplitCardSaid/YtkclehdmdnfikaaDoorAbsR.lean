/- Abstract machine, part 18: regions in any order; code. -/
import Derived.Test.YtkclehdmdnfikaaDoorAbsQ
import Derived.Scope
import Derived.Deep.LoopGhost
set_option linter.unusedSimpArgs false
set_option linter.unusedVariables false
set_option linter.constructorNameAsVariable false
namespace Go.Abs
open Go.RowKit
variable {G : Globs}
section
variable {P : Program} {base : Nat}

theorem pairsOKE_iff {E : List (Nat × Nat)} {L : List AIns} {ops : Array Oper} : ∀ {l : List Nat}, pairsOKE E L ops l = true ↔ l.Pairwise fun j i => pairOKE E L ops j i = true
  | [] => by simp [pairsOKE]
  | j :: l => by simp [pairsOKE, pairsOKE_iff]

theorem mem_depsOf {ops : Array Oper} {i k : Nat} {o : Oper} (ho : ops[i]? = some o) : k ∈ depsOf ops i ↔ ∃ e ∈ o.after, Region.binds .any e = true ∧ e.on = k := by
  unfold depsOf
  rw [ho]
  simp only [List.mem_map, List.mem_filter, Array.mem_toList_iff]
  constructor
  · rintro ⟨e, ⟨h1, h2⟩, h3⟩; exact ⟨e, h1, h2, h3⟩
  · rintro ⟨e, h1, h2, h3⟩; exact ⟨e, ⟨h1, h2⟩, h3⟩

theorem reach_listed {ops : Array Oper} {listed : Array Bool} (hcl : ∀ i, listed.getD i false = true → ∀ k ∈ depsOf ops i, listed.getD k false = true) {j : Nat} : ∀ (n i : Nat), (∀ k ∈ depsOf ops i, listed.getD k false = true) → reach ops j n i = true → listed.getD j false = true
  | 0, i, _, h => by simp [reach] at h
  | n + 1, i, hi, h => by
    simp only [reach, List.any_eq_true, Bool.or_eq_true, List.contains_eq_mem, decide_eq_true_eq] at h
    rcases h with h | ⟨k, hk, h⟩
    · exact hi _ h
    · exact reach_listed hcl n k (hcl k (hi k hk)) h

/-- The orders in which a region that draws may run. -/
inductive Sched (ops : Array Oper) : Nat → Array Bool → List Nat → Prop
  | zero (listed : Array Bool) : Sched ops 0 listed []
  | stop (n : Nat) (listed : Array Bool) (h : Region.ready .any ops listed = []) : Sched ops (n + 1) listed []
  | step (n : Nat) (listed : Array Bool) (i : Nat) (l : List Nat) (h : i ∈ Region.ready .any ops listed) (hl : Sched ops n (listed.setIfInBounds i true) l) : Sched ops (n + 1) listed (i :: l)

theorem sched_go (ops : Array Oper) : ∀ (fuel t : Nat) (listed : Array Bool), Sched ops fuel listed (Region.linearise.go .any ops fuel t listed [])
  | 0, t, listed => by simp only [Region.linearise.go, List.reverse_nil]; exact .zero _
  | fuel + 1, t, listed => by
    simp only [Region.linearise.go]
    change Sched ops (fuel + 1) listed (match (Region.ready .any ops listed)[t % (Region.ready .any ops listed).length]? with
      | some i => Region.linearise.go .any ops fuel (t / (Region.ready .any ops listed).length) (listed.setIfInBounds i true) [i]
      | none => [].reverse)
    cases hi : (Region.ready .any ops listed)[t % (Region.ready .any ops listed).length]? with
    | none =>
      have hnil : Region.ready .any ops listed = [] := by
        cases hr : Region.ready .any ops listed with
        | nil => rfl
        | cons x xs =>
          rw [hr] at hi
          have hlt : t % (x :: xs).length < (x :: xs).length := Nat.mod_lt _ (by simp)
          simp at hi
          simp at hlt
          omega
      exact .stop _ _ hnil
    | some i =>
      simp only []
      rw [linearise_go_acc, List.reverse_singleton, List.singleton_append]
      exact .step _ _ _ _ (List.mem_of_getElem? hi) (sched_go ops fuel _ _)

theorem mem_edges {f : Nat × Nat → Bool} {x y : Nat} : ∀ {C : List (Nat × Nat)}, (x, y) ∈ edges C (C.map f) → ∃ p ∈ C, (p = (x, y) ∧ f p = true) ∨ (p = (y, x) ∧ f p = false)
  | [], h => by simp [edges] at h
  | p :: C, h => by
    simp only [List.map_cons, edges, List.mem_cons] at h
    rcases h with h | h
    · cases hf : f p with
      | true => rw [hf] at h; exact ⟨p, by simp, .inl ⟨by simpa using h.symm, hf⟩⟩
      | false =>
        rw [hf] at h
        simp only [Bool.false_eq_true, if_false, Prod.mk.injEq] at h
        exact ⟨p, by simp, .inr ⟨by rw [h.1, h.2], hf⟩⟩
    · obtain ⟨q, hq, h⟩ := mem_edges h
      exact ⟨q, by simp [hq], h⟩

theorem idxOf_past {l : List Nat} {j x : Nat} (h : j ≠ x) : (x :: l).idxOf j = l.idxOf j + 1 := by
  rw [List.idxOf_cons]
  have : (x == j) = false := by simp [Ne.symm h]
  rw [this]; rfl
theorem idxOf_skip {l : List Nat} {j : Nat} : ∀ {d : List Nat}, j ∉ d → (d ++ l).idxOf j = d.length + l.idxOf j
  | [], _ => by simp
  | x :: d, h => by
    simp only [List.mem_cons, not_or] at h
    rw [List.cons_append, idxOf_past h.1, idxOf_skip h.2]; simp; omega

theorem mem_bitLists : ∀ (l : List Bool), l ∈ bitLists l.length
  | [] => by simp [bitLists]
  | b :: l => by
    simp only [List.length_cons, bitLists, List.mem_flatMap]
    exact ⟨l, mem_bitLists l, by cases b <;> simp⟩

theorem list_ok {N : Nat} {ops : Array Oper} {loud : List FuncId} {D : List Deferred} {κ₀ : Key} {Im₀ : Addr → Prop} {w₀ : World} {QA : Frame → Store → Prop} {Q : Exit → Act → World → Prop} {C : List (Nat × Nat)} {l₀ : List Nat}
    (hC : ∀ p ∈ C, p.1 ≠ p.2) (hQ : ∀ f σ κ Im a w, QA f σ → St base κ₀ Im₀ w₀ N D f σ κ Im a w → Q .normal a w) : ∀ (n : Nat) (l done rem : List Nat) (listed : Array Bool) (f : Frame) (σ : Store) (κ : Key) (Im : Addr → Prop) (a : Act) (w : World), Sched ops n listed l → l₀ = done ++ l → (∀ j ∈ done, listed.getD j true = true) → rem.length = n → rem.Nodup →
    (∀ i, i ∈ rem ↔ i < ops.size ∧ listed.getD i true = false) → listed.size = ops.size → (∀ i, listed.getD i false = true → ∀ k ∈ depsOf ops i, listed.getD k false = true) →
    rem.Pairwise (fun j i => pairOKE (edges C (C.map fun p => decide (l₀.idxOf p.1 < l₀.idxOf p.2))) (ops.toList.map fun o => quieten loud (owned loud (compIns P N ops o))) ops j i = true) → (∀ i ∈ rem, depsOK ops i = true) →
    awpOps P QA (rem.filterMap fun i => (ops.toList.map fun o => quieten loud (owned loud (compIns P N ops o)))[i]?) f σ → St base κ₀ Im₀ w₀ N D f σ κ Im a w → wpOps P ops Q l a w := by
  intro n
  induction n with
  | zero =>
    intro l done rem listed f σ κ Im a w hsch hl0 hdone hlen hnd hmem hsz hcl hp hd h hst
    have : rem = [] := List.eq_nil_of_length_eq_zero hlen
    subst this
    cases hsch
    exact hQ f σ κ Im a w (by simpa [awpOps] using h) hst
  | succ n ih =>
    intro l done rem listed f σ κ Im a w hsch hl0 hdone hlen hnd hmem hsz hcl hp hd h hst
    cases hsch with
    | stop _ _ hr =>
      -- some operation is ready
      exfalso
      match rem, hlen with
      | j :: rest, _ =>
        have hj := (hmem j).1 (by simp)
        have hready : j ∈ Region.ready .any ops listed := by
          refine mem_ready.2 ⟨hj.2, ops[j], Array.getElem?_eq_getElem hj.1, fun e he hb => ?_⟩
          have hk : e.on ∈ depsOf ops j := (mem_depsOf (Array.getElem?_eq_getElem hj.1)).2 ⟨e, he, hb, rfl⟩
          have hdj := hd j (by simp)
          unfold depsOK at hdj
          have := List.all_eq_true.1 hdj _ hk
          simp only [Bool.and_eq_true, bne_iff_ne, ne_eq, decide_eq_true_eq] at this
          have hnot : e.on ∉ j :: rest := by
            intro hm
            rcases List.mem_cons.1 hm with hm | hm
            · exact this.1 hm
            · have hpo := (List.pairwise_cons.1 hp).1 _ hm
              unfold pairOKE at hpo
              simp only [Bool.and_eq_true, Bool.not_eq_true', List.contains_eq_mem, decide_eq_false_iff_not] at hpo
              exact hpo.1.1 hk
          have h0 : ¬ (listed.getD e.on true = false) := fun h0 => hnot ((hmem _).2 ⟨this.2, h0⟩)
          have hlt : e.on < listed.size := by rw [hsz]; exact this.2
          simp only [Array.getD_eq_getD_getElem?, Array.getElem?_eq_getElem hlt, Option.getD_some] at h0 ⊢
          simpa using h0
        rw [hr] at hready; cases hready
    | step _ _ i l' hi hsch' =>
      obtain ⟨hun, o, ho, hdeps⟩ := mem_ready.1 hi
      have hio : i < ops.size := (Array.getElem?_eq_some_iff.1 ho).1
      have him : i ∈ rem := (hmem i).2 ⟨hio, hun⟩
      have hidx : l₀.idxOf i = done.length := by
        have : i ∉ done := fun hm => by have := hdone i hm; rw [hun] at this; cases this
        rw [hl0, idxOf_skip this]; simp
      have hjx : ∀ j, j ≠ i → listed.getD j true = false → ¬ (l₀.idxOf j ≤ done.length) := by
        intro j hji hju hle
        have : j ∉ done := fun hm => by have := hdone j hm; rw [hju] at this; cases this
        rw [hl0, idxOf_skip this, idxOf_past hji] at hle
        omega
      obtain ⟨pre, post, rfl⟩ := List.append_of_mem him
      have hdl : ∀ k ∈ depsOf ops i, listed.getD k false = true := fun k hk => by
        obtain ⟨e, he, hb, rfl⟩ := (mem_depsOf ho).1 hk
        exact hdeps e he hb
      generalize hL : (ops.toList.map fun o => quieten loud (owned loud (compIns P N ops o))) = L at *
      have hLi : L[i]? = some (quieten loud (owned loud (compIns P N ops o))) := by rw [← hL]; simp [ho]
      have hne : ∀ j ∈ pre, j ≠ i := fun j hj he => by
        subst he
        exact (List.nodup_append.1 hnd).2.2 j hj j (by simp) rfl
      have hcomm : ∀ x ∈ pre.filterMap (fun i => L[i]?), commOK x (quieten loud (owned loud (compIns P N ops o))) = true := by
        intro x hx
        obtain ⟨j, hj, hxj⟩ := List.mem_filterMap.1 hx
        have hju := ((hmem j).1 (by simp [hj])).2
        have hpo := (List.pairwise_append.1 hp).2.2 j hj i (by simp)
        unfold pairOKE at hpo
        simp only [Bool.and_eq_true, Bool.or_eq_true, List.contains_eq_mem, decide_eq_true_eq] at hpo
        rcases hpo.2 with (h1 | h1) | h1
        · rw [hxj, hLi] at h1; exact h1
        · exfalso
          obtain ⟨p, hp, (⟨rfl, hb⟩ | ⟨rfl, hb⟩)⟩ := mem_edges h1
          · simp only [decide_eq_true_eq] at hb
            exact hjx j (hne j hj) hju (by omega)
          · simp only [decide_eq_false_iff_not] at hb
            exact hjx j (hne j hj) hju (by omega)
        · have hjl := reach_listed hcl _ i hdl h1
          have hjs : j < listed.size := by rw [hsz]; exact ((hmem j).1 (by simp [hj])).1
          simp only [Array.getD_eq_getD_getElem?, Array.getElem?_eq_getElem hjs, Option.getD_some] at hjl hju
          rw [hjl] at hju; cases hju
      have hfm : (pre ++ i :: post).filterMap (fun i => L[i]?) = pre.filterMap (fun i => L[i]?) ++ quieten loud (owned loud (compIns P N ops o)) :: post.filterMap (fun i => L[i]?) := by
        rw [List.filterMap_append, List.filterMap_cons, hLi]
      rw [hfm] at h
      have hins := ops_pull _ f σ hcomm h
      rw [← List.filterMap_append] at hins
      have hmi : i ∉ pre ++ post := by
        have := (List.nodup_append.1 hnd)
        intro hm
        rcases List.mem_append.1 hm with hm | hm
        · exact this.2.2 i hm i (by simp) rfl
        · exact (List.nodup_cons.1 this.2.1).1 hm
      have hsub : (pre ++ post).Sublist (pre ++ i :: post) := List.Sublist.append_left (List.sublist_cons_self i post) pre
      have hstep := ins_ok (Q := Q) (next := wpOps P ops Q l') hst.st hst.fr hst.sz (.inl hins) (fun f' σ' κ' Im' a' w' hK h1 h2 h3 h4 h5 => by
        refine ih l' (done ++ [i]) (pre ++ post) _ f' σ' κ' Im' a' w' hsch' (by rw [hl0]; simp) (fun j hj => ?_) (by simp at hlen ⊢; omega) (hnd.sublist hsub) (fun k => ?_) (by simp [hsz]) (fun k hk q hq => ?_) (hp.sublist hsub) (fun k hk => hd k (hsub.subset hk)) hK ⟨h1, h2, h3.trans hst.df, h4, hst.gr.trans h5⟩
        · rcases List.mem_append.1 hj with hj | hj
          · by_cases hji : j = i
            · subst hji; simp [hsz, hio]
            · have e : (listed.setIfInBounds i true).getD j true = listed.getD j true := by
                simp only [Array.getD_eq_getD_getElem?]; rw [Array.getElem?_setIfInBounds_ne (Ne.symm hji)]
              rw [e]; exact hdone j hj
          · have : j = i := by simpa using hj
            subst this; simp [hsz, hio]
        · by_cases hki : k = i
          · subst hki
            constructor
            · intro hm; exact absurd hm hmi
            · rintro ⟨h1, h2⟩
              simp [hsz, h1] at h2
          · have e : (listed.setIfInBounds i true).getD k true = listed.getD k true := by
              simp only [Array.getD_eq_getD_getElem?]; rw [Array.getElem?_setIfInBounds_ne (Ne.symm hki)]
            rw [e, ← hmem k]
            simp [hki]
        · by_cases hqi : q = i
          · subst hqi; simp [hsz, hio]
          · have e : (listed.setIfInBounds i true).getD q false = listed.getD q false := by
              simp only [Array.getD_eq_getD_getElem?]; rw [Array.getElem?_setIfInBounds_ne (Ne.symm hqi)]
            rw [e]
            by_cases hki : k = i
            · subst hki; exact hdl q hq
            · have e2 : (listed.setIfInBounds i true).getD k false = listed.getD k false := by
                simp only [Array.getD_eq_getD_getElem?]; rw [Array.getElem?_setIfInBounds_ne (Ne.symm hki)]
              rw [e2] at hk
              exact hcl k hk q hq)
      simp only [wpOps, ho]
      split
      · rename_i hw; rw [if_pos hw] at hstep; exact .inl hstep
      · rename_i hw; rw [if_neg hw] at hstep; exact hstep

theorem St.drawn {κ₀ : Key} {Im₀ : Addr → Prop} {w₀ : World} {N : Nat} {D : List Deferred} {f : Frame} {σ : Store} {κ : Key} {Im : Addr → Prop} {a : Act} {w : World} (h : St base κ₀ Im₀ w₀ N D f σ κ Im a w) : St base κ₀ Im₀ w₀ N D f σ κ Im a { w with drawn := w.drawn + 1 } := by
  have hg : Grow base κ Im w κ Im { w with drawn := w.drawn + 1 } := ⟨fun _ _ _ h => h, fun _ h => h, fun _ _ => rfl, fun _ h => .inl h, ⟨rfl, rfl, rfl, Nat.le_refl _, fun _ _ => rfl⟩⟩
  exact ⟨h.fr.grow hg, h.sz, h.df, h.st.world (fun _ h => h) (fun _ h => .inl h) (Nat.le_refl _) (fun _ _ => rfl), h.gr.trans hg⟩

theorem region_ok (hm : P.follows .mixedOrders = true) {N : Nat} {loud : List FuncId} {id : Nat} {ops : Array Oper} {draw : Bool} {D : List Deferred} {κ₀ : Key} {Im₀ : Addr → Prop} {w₀ : World} {QA : AExit → Frame → Store → Prop} {Q : Exit → Act → World → Prop} {f : Frame} {σ : Store} {κ : Key} {Im : Addr → Prop} {a : Act} {w : World}
    (hQ : ∀ f σ κ Im a w, QA .normal f σ → St base κ₀ Im₀ w₀ N D f σ κ Im a w → Q .normal a w) (h : awp P (compRegion P N loud ops draw) QA f σ) (hst : St base κ₀ Im₀ w₀ N D f σ κ Im a w) : (Code.region id ops draw).wp P Q a w := by
  unfold compRegion at h
  cases draw with
  | false => exact wp_region_list (ops_ok hQ ops.toList f σ κ Im a w h hst)
  | true =>
    simp only [Bool.not_true, Bool.false_eq_true, if_false] at h
    rw [List.map_map] at h
    rw [forceL_eq] at h
    change awp P (match drawOrders (ops.toList.map fun o => quieten loud (owned loud (compIns P N ops o))) ops (clashes (ops.toList.map fun o => quieten loud (owned loud (compIns P N ops o))) ops) with
      | some [order] => .ops (order.filterMap fun i => (ops.toList.map fun o => quieten loud (owned loud (compIns P N ops o)))[i]?)
      | some orders => .all (orders.map fun order => order.filterMap fun i => (ops.toList.map fun o => quieten loud (owned loud (compIns P N ops o)))[i]?)
      | none => .bad) QA f σ at h
    generalize clashes (ops.toList.map fun o => quieten loud (owned loud (compIns P N ops o))) ops = C at h
    have hall : ∃ orders, drawOrders (ops.toList.map fun o => quieten loud (owned loud (compIns P N ops o))) ops C = some orders ∧ ∀ order ∈ orders, awpOps P (QA .normal) (order.filterMap fun i => (ops.toList.map fun o => quieten loud (owned loud (compIns P N ops o)))[i]?) f σ := by
      split at h
      · rename_i order ho
        refine ⟨_, ho, fun order' hm => ?_⟩
        rw [List.mem_singleton.1 hm]; exact h
      · rename_i orders _ ho
        exact ⟨_, ho, fun order' hm => h _ (List.mem_map_of_mem hm)⟩
      · exact h.elim
    clear h
    obtain ⟨orders, hord, hall⟩ := hall
    unfold drawOrders at hord
    split at hord
    case isFalse => cases hord
    rename_i hcond
    have hC : ∀ p ∈ C, p.1 ≠ p.2 := fun p hp => by
      have := List.all_eq_true.1 hcond.1 p hp
      simpa using this
    refine wp_region_draw fun t => ?_
    simp only [Region.schedule, hm, Bool.true_or, if_true]
    have hsch := sched_go ops ops.size t (Array.replicate ops.size false)
    change wpOps P ops Q (Region.linearise.go .any ops ops.size t (Array.replicate ops.size false) []) a _
    generalize Region.linearise.go .any ops ops.size t (Array.replicate ops.size false) [] = l at hsch ⊢
    obtain ⟨ho1, ho2⟩ := mapM_some hord
    have hbm : (C.map fun p => decide (l.idxOf p.1 < l.idxOf p.2)) ∈ bitLists C.length := by
      have := mem_bitLists (C.map fun p => decide (l.idxOf p.1 < l.idxOf p.2))
      rwa [List.length_map] at this
    obtain ⟨q, hq, hqe⟩ := List.mem_iff_getElem.1 hbm
    have hq' : q < orders.length := by omega
    have hchk := ho2 q hq hq'
    rw [hqe] at hchk
    unfold orderOf at hchk
    rw [forceL_eq, forceL_eq] at hchk
    have hdem := hall _ (List.getElem_mem hq')
    generalize orders[q] = order at hchk hdem
    unfold checkOrder at hchk
    split at hchk
    case isFalse => cases hchk
    rename_i hc
    simp only [Option.some.injEq] at hchk
    rw [hchk] at hc
    obtain ⟨h1, h2, h3, h4, h5⟩ := hc
    have hsz : (Array.replicate ops.size false).size = ops.size := by simp
    refine list_ok (loud := loud) (C := C) hC hQ ops.size l [] order (Array.replicate ops.size false) f σ κ Im a _ hsch rfl (fun j hj => by cases hj) h1 h3 (fun i => ?_) hsz (fun i hi => ?_) (pairsOKE_iff.1 h5) (fun i hi => ?_) hdem hst.drawn
    · constructor
      · intro hi
        have := List.all_eq_true.1 h4 i hi
        simp only [Bool.and_eq_true, decide_eq_true_eq] at this
        exact ⟨this.1, by simp [this.1]⟩
      · rintro ⟨hi, _⟩
        have := List.all_eq_true.1 h2 i (List.mem_range.2 hi)
        simpa using this
    · by_cases hlt : i < ops.size <;> simp [hlt] at hi
    · have := List.all_eq_true.1 h4 i hi
      simp only [Bool.and_eq_true, decide_eq_true_eq] at this
      exact this.2

def AExit.conv : AExit → Exit
  | .normal => .normal
  | .exit id => .exit id
  | .ret => .ret

theorem mapM_flatten {g : AV → Option AV} : ∀ {els els' : List (List AV)}, (els.mapM fun (c : List AV) => c.mapM g) = some els' → els.flatten.mapM g = some els'.flatten
  | [], els', h => by simp at h; subst h; simp
  | c :: els, els', h => by
    rw [List.mapM_cons] at h
    simp only [Option.bind_eq_bind, Option.bind_eq_some_iff, Option.pure_def, Option.some.injEq] at h
    obtain ⟨c', h1, l', h2, rfl⟩ := h
    have := mapM_flatten h2
    rw [List.flatten_cons, List.mapM_append, h1, List.flatten_cons]
    simp [this]
/-- A slice that is written no more: its cells are among those that never change. -/
theorem frz_ok {κ : Key} {Im : Addr → Prop} {σ σ' : Store} {w : World} (hs : SRel base κ Im σ w) (hz : Frz σ σ') : ∃ Im', SRel base κ Im' σ' w ∧ Grow base κ Im w κ Im' w := by
  obtain ⟨id, e, size, els, els', he, hm, rfl⟩ := hz
  obtain ⟨v, xs, hk, hown, hvr, hpos, hlens, hones, _, him⟩ := hs.ent _ _ he
  obtain ⟨m1, m2⟩ := mapM_some hm
  have hflat := mapM_flatten hm
  obtain ⟨hir, hone'⟩ := shareL_ok hs hvr hflat
  let Im' : Addr → Prop := fun a => Im a ∨ (v.ownBlock = some a.block ∧ a.spot = none ∧ a.off < els.length * size)
  have hlt : ∀ b, v.ownBlock = some b → base ≤ b ∧ b < w.heap.size := fun b hb => hown.lt b hb
  have hlen' : ∀ c ∈ els', c.length = size := fun c hc => by
    obtain ⟨k, hk', rfl⟩ := List.mem_iff_getElem.1 hc
    have h1 := (mapM_some (m2 k (by omega) hk')).1
    rw [← h1]; exact hlens _ (List.getElem_mem _)
  have hones' : ∀ c ∈ els', ∀ x ∈ c, x.one = true := fun c hc x hx => hone' (fun y hy => by
    obtain ⟨d, hd, hyd⟩ := List.mem_flatten.1 hy
    exact hones d hd y hyd) x (List.mem_flatten.2 ⟨c, hc, hx⟩)
  have hg : Grow base κ Im w κ Im' w := ⟨fun _ _ _ h => h, fun _ h => .inl h, fun _ _ => rfl, fun a h => h.imp (fun x => x) fun h => (hlt _ h.1).1, Below.refl _ _⟩
  have hblk : ∀ els im, els.length = els'.length → (Entry.row e size els im).block κ id = v.ownBlock := fun els im h => by
    simp only [Entry.block, h, ← m1, hk]; rfl
  refine ⟨Im', ?_, hg⟩
  refine hs.set he (.row e size els' true) (fun _ _ _ h => h) (fun _ _ _ h => .inl h) (by simp [Entry.ver, m1]) (fun _ h => .inl h) (fun _ _ => rfl) (fun a h => ?_) (Nat.le_refl _) (fun _ _ _ => rfl) ?_ (fun b hb => .inr ?_)
  · rcases h with h | ⟨h1, h2, h3⟩
    · exact .inl h
    · exact .inr ⟨by rw [hblk _ _ rfl]; exact h1, (hlt _ h1).2, h2⟩
  · refine ⟨v, xs, by rw [← m1]; exact hk, by rw [← m1]; exact hown, ⟨hir.1, fun j h h' => .im _ _ ((hir.2 j h h').mono (fun _ h => .inl h) (fun _ _ => rfl))⟩, hpos, hlen', hones', fun _ => ⟨hir.1, fun j h h' => (hir.2 j h h').mono (fun _ h => .inl h) (fun _ _ => rfl)⟩, fun g hg' => ⟨fun a ha hab => ⟨rfl, ?_⟩, fun _ o ho => .inr ⟨hg', rfl, by rw [m1]; exact ho⟩⟩⟩
    rcases ha with ha | ⟨_, _, h3⟩
    · have := ((him g hg').1 a ha hab).2; rw [← m1]; exact this
    · rw [← m1]; exact h3
  · rw [hblk _ _ rfl] at hb
    rw [hblk _ _ m1]; exact hb
/-- CODE DOES WHAT THE ABSTRACT CODE SAYS. -/
theorem code_ok (hm : P.follows .mixedOrders = true) {N : Nat} {loud : List FuncId} {D : List Deferred} {κ₀ : Key} {Im₀ : Addr → Prop} {w₀ : World} : ∀ (c : Code) (QA : AExit → Frame → Store → Prop) (Q : Exit → Act → World → Prop) (f : Frame) (σ : Store) (κ : Key) (Im : Addr → Prop) (a : Act) (w : World),
    (∀ e f σ κ Im a w, QA e f σ → St base κ₀ Im₀ w₀ N D f σ κ Im a w → Q e.conv a w) → awp P (comp P N loud c) QA f σ → St base κ₀ Im₀ w₀ N D f σ κ Im a w → c.wp P Q a w := by
  intro c
  induction c with
  | skip => intro QA Q f σ κ Im a w hQ h hst; exact wp_skip (hQ .normal _ _ _ _ _ _ h hst)
  | region id ops draw => intro QA Q f σ κ Im a w hQ h hst; exact region_ok hm (hQ .normal) h hst
  | seq x y ihx ihy =>
    intro QA Q f σ κ Im a w hQ h hst
    simp only [comp] at h
    split at h
    · refine wp_seq (ihx _ _ f σ κ Im a w (fun e f σ κ Im a w h1 h2 => ?_) h hst)
      cases e with
      | normal =>
        rcases h1 with h1 | ⟨σ', hz, h1⟩
        · exact ihy QA Q f σ κ Im a w hQ h1 h2
        · obtain ⟨Im', g1, g2⟩ := frz_ok h2.st hz
          exact ihy QA Q f σ' κ Im' a w hQ h1 ⟨h2.fr.grow g2, h2.sz, h2.df, g1, h2.gr.trans g2⟩
      | exit id => exact hQ (.exit id) _ _ _ _ _ _ h1 h2
      | ret => exact hQ .ret _ _ _ _ _ _ h1 h2
    · refine wp_seq (ihx _ _ f σ κ Im a w (fun e f σ κ Im a w h1 h2 => ?_) h hst)
      cases e with
      | normal => exact ihy QA Q f σ κ Im a w hQ h1 h2
      | exit id => exact hQ (.exit id) _ _ _ _ _ _ h1 h2
      | ret => exact hQ .ret _ _ _ _ _ _ h1 h2
  | cond c x y ihx ihy =>
    intro QA Q f σ κ Im a w hQ h hst
    simp only [comp] at h
    split at h
    · rename_i c' hc
      obtain ⟨b, hb, h1, h2⟩ := h
      have hv := opd_ok hc hst.fr
      rw [hb] at hv
      refine wp_cond hv.bool_inv ?_
      cases b
      · exact ihy QA Q f σ κ Im a w hQ (h2 rfl) hst
      · exact ihx QA Q f σ κ Im a w hQ (h1 rfl) hst
    · exact h.elim
  | block id c ih =>
    intro QA Q f σ κ Im a w hQ h hst
    refine wp_block (ih _ _ f σ κ Im a w (fun e f σ κ Im a w h1 h2 => ?_) h hst)
    cases e with
    | normal => exact hQ .normal _ _ _ _ _ _ h1 h2
    | exit id' =>
      simp only [AExit.inBlock] at h1
      simp only [AExit.conv, Exit.inBlock]
      split
      · rename_i he; rw [if_pos he] at h1; exact hQ .normal _ _ _ _ _ _ h1 h2
      · rename_i he; rw [if_neg he] at h1; exact hQ (.exit id') _ _ _ _ _ _ h1 h2
    | ret => exact hQ .ret _ _ _ _ _ _ h1 h2
  | loop c ih =>
    intro QA Q f σ κ Im a w hQ h hst
    obtain ⟨I, n, h0, hround⟩ := h
    refine wp_loop_ghost (fun n a w => ∃ f σ κ Im, I n f σ ∧ St base κ₀ Im₀ w₀ N D f σ κ Im a w) n ⟨f, σ, κ, Im, h0, hst⟩ ?_
    rintro n a w ⟨f, σ, κ, Im, hI, hst⟩
    refine ih _ _ f σ κ Im a w (fun e f σ κ Im a w h1 h2 => ?_) (hround n f σ hI) hst
    cases e with
    | normal =>
      obtain ⟨n', hlt, hI'⟩ := h1
      exact ⟨n', hlt, f, σ, κ, Im, hI', h2⟩
    | exit id => exact hQ (.exit id) _ _ _ _ _ _ h1 h2
    | ret => exact hQ .ret _ _ _ _ _ _ h1 h2
  | exit id => intro QA Q f σ κ Im a w hQ h hst; exact wp_exit (hQ (.exit id) _ _ _ _ _ _ h hst)
  | ret => intro QA Q f σ κ Im a w hQ h hst; exact wp_ret (hQ .ret _ _ _ _ _ _ h hst)
  | rangeFunc => intro QA Q f σ κ Im a w hQ h hst; exact h.elim
  | scope c ih =>
    intro QA Q f σ κ Im a w hQ h hst
    refine wp_scope_straight (ih QA _ f σ κ Im a w (fun e f σ κ Im a w h1 h2 => ?_) h hst)
    cases e with
    | normal => exact hQ .normal _ _ _ _ _ _ h1 h2
    | exit id => exact hQ (.exit id) _ _ _ _ _ _ h1 h2
    | ret => exact hQ .ret _ _ _ _ _ _ h1 h2
  | label l => intro QA Q f σ κ Im a w hQ h hst; exact wp_label (hQ .normal _ _ _ _ _ _ h hst)
  | goto => intro QA Q f σ κ Im a w hQ h hst; exact h.elim
  | refuse => intro QA Q f σ κ Im a w hQ h hst; exact h.elim
end
end Go.Abs
