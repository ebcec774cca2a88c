/- Abstract machine, part 13: append, make, literals of slices. -/
import Derived.Test.YtkclehdmdnfikaaDoorAbsL
import Derived.Lib.AppendStr
set_option linter.unusedSimpArgs false
set_option linter.unusedVariables false
set_option linter.constructorNameAsVariable false
namespace Go.Abs
open Go.RowKit
variable {G : Globs}
section
variable {P : Program} {base : Nat} {κ : Key} {Im : Addr → Prop} {w : World} {σ : Store}

/-- An append onto an owned slice, and where the new one lies. -/
theorem append_own {t ty e : TypeId} {i : TypeInfo} {z : Value} (ht : P.underlying t = some (.slice e)) (hi : P.info? e = some i) (hz : i.zero = some z) (hzs : z.cells.size = i.size) (hsz : 0 < i.size)
    {v : Value} {n : Nat} {xs : List Value} (b0 : Nat) (hown : w.ownsRow b0 e i.size v n xs) (ad : Addr) (m c : Nat) (news : List Value) (hl : news.length = m * i.size) (hnews : ∀ j u, news[j]? = some u → w.cell? (ad.add j) = some u) (h1 : ∀ u ∈ news, u.oneCell' = true)
    (h63 : n + m ≤ maxLen) (hbytes : (n + m) * i.bytes ≤ 140737488355328) (hbase : b0 ≤ w.heap.size) :
    ∃ v' w', (Builtin.append_ #[t, t] ty #[v, .slice (some ad) m c]).run P w = .ok v' w' ∧ w'.ownsRow b0 e i.size v' (n + m) (xs ++ news) ∧ w.grownBy w' v.ownBlock ∧ (∀ g, v'.ownBlock = some g → v.ownBlock = some g ∨ w.heap.size ≤ g) ∧ (m = 0 → v' = v ∧ w' = w) ∧
      (∀ g j, v.ownBlock = some g → j < n * i.size → w'.cell? ⟨g, j, none⟩ = w.cell? ⟨g, j, none⟩) := by
  obtain ⟨v', w', hr, ho, hg, hiff⟩ := run_append_own (P := P) w b0 t ty e i z i.size i.bytes ht hi hz rfl rfl hzs hsz v n xs hown ad m c news hl hnews h1 h63 hbytes hbase
  have hsmall : n + m ≤ 9223372036854775807 := by simp only [maxLen] at h63; omega
  refine ⟨v', w', hr, ho, hg, fun g hgb => ?_, fun hm => ?_, fun g j hgb hj => ?_⟩
  · rcases hown.2 with ⟨rfl, rfl⟩ | ⟨g', cap, cur, rfl, hbg, hgg, hnc, hcm, hcs, htake⟩
    · by_cases hm : m = 0
      · subst hm
        have : v' = .slice none 0 0 := hiff.2 ⟨rfl, rfl⟩
        subst this; simp [Value.ownBlock] at hgb
      · have hr2 := run_append_nil (P := P) w t ty e i z ht hi hz ad m c news hl hnews (by omega) (by omega) (by have hb := hbytes; simp only [Nat.zero_add] at hb; omega)
        rw [hr2] at hr
        cases hr
        simp [Value.ownBlock] at hgb; right; omega
    · by_cases hroom : n + m ≤ cap
      · have hfit : n * i.size + news.length ≤ cur.size := by rw [hl, hcs, ← Nat.add_mul]; exact Nat.mul_le_mul_right _ hroom
        have hr2 := run_append_room (P := P) w t ty e i ht hi g' n cap cur hgg ad m c news hl hnews h1 hroom hfit
        rw [hr2] at hr
        cases hr
        exact .inl hgb
      · have holds : ∀ j u, xs[j]? = some u → w.cell? ((⟨g', 0, none⟩ : Addr).add j) = some u := hown.cells (g := g') rfl
        have hr2 := run_append_grow (P := P) w t ty e i z ht hi hz ⟨g', 0, none⟩ n cap xs hown.1 holds ad m c news hl hnews (by omega) (by omega) (growslice_fits (by omega) hbytes)
        rw [hr2] at hr
        cases hr
        simp [Value.ownBlock] at hgb; right; omega
  · subst hm
    have hn : news = [] := List.eq_nil_of_length_eq_zero (by simpa using hl)
    have hle : ∀ b cap, v = .slice b n cap → n ≤ cap := by
      intro b cap hv
      rcases hown.2 with ⟨h1, h2⟩ | ⟨g', cap', cur, h1, _, _, hnc, _⟩
      · omega
      · rw [hv] at h1; simp only [Value.slice.injEq] at h1; omega
    obtain ⟨b, cap, hv⟩ : ∃ b cap, v = .slice b n cap := by
      rcases hown.2 with ⟨h1, h2⟩ | ⟨g', cap', cur, h1, _⟩
      · exact ⟨none, 0, by rw [h1, h2]⟩
      · exact ⟨_, _, h1⟩
    have hle := hle b cap hv
    subst hv
    have : (Builtin.append_ #[t, t] ty #[.slice b n cap, .slice (some ad) 0 c]).run P w = .ok (.slice b n cap) w := by
      cases b <;> simp [Builtin.append_, run_underlying ht, sizeOf, typeInfo, hi, Builtin.lenOf, hle, Builtin.firstCells, loadCells, loadCellsFrom, storeCells]
    rw [this] at hr
    cases hr
    exact ⟨rfl, rfl⟩
  · rcases hown.2 with ⟨rfl, rfl⟩ | ⟨g', cap, cur, rfl, hbg, hgg, hnc, hcm, hcs, htake⟩
    · simp [Value.ownBlock] at hgb
    · simp only [Value.ownBlock, Option.some.injEq] at hgb; subst hgb
      by_cases hroom : n + m ≤ cap
      · have hfit : n * i.size + news.length ≤ cur.size := by rw [hl, hcs, ← Nat.add_mul]; exact Nat.mul_le_mul_right _ hroom
        have hr2 := run_append_room (P := P) w t ty e i ht hi g' n cap cur hgg ad m c news hl hnews h1 hroom hfit
        rw [hr2] at hr
        cases hr
        rw [cell_setRow_same w g' j cur _ e _ hgg, cell_of_row w g' j cur e (0, 0) hgg]
        have hjl : j < (cur.toList.take (n * i.size)).length := by rw [List.length_take]; simp; omega
        rw [List.getElem?_toArray, List.append_assoc, List.getElem?_append_left hjl, List.getElem?_take, if_pos hj]
        simp
      · have holds : ∀ j u, xs[j]? = some u → w.cell? ((⟨g', 0, none⟩ : Addr).add j) = some u := hown.cells (g := g') rfl
        have hr2 := run_append_grow (P := P) w t ty e i z ht hi hz ⟨g', 0, none⟩ n cap xs hown.1 holds ad m c news hl hnews (by omega) (by omega) (growslice_fits (by omega) hbytes)
        rw [hr2] at hr
        cases hr
        exact World.cell?_of_block (Below.heap_alloc _ _ _ (by simpa using (Array.getElem?_eq_some_iff.1 hgg).1))

/-- What is appended: cells that never change. -/
theorem source_ok {X : AV} {x : Value} {m : List (List AV)} {size : Nat} (hs : SRel base κ Im σ w) (hx : VR κ Im w X x) (h : aview σ X = some m) (hlen : ∀ c ∈ m, c.length = size) (hpos : 0 < size) :
    (x = .slice none 0 0 ∧ m = []) ∨ ∃ ad c news, x = .slice (some ad) m.length c ∧ news.length = m.length * size ∧ (∀ j u, news[j]? = some u → w.cell? (ad.add j) = some u) ∧ IRL Im w m.flatten news ∧ ∀ c ∈ m, ∀ v ∈ c, v.one = true := by
  have hir : IR Im w (.lst m) x := by
    cases X <;> simp only [aview, reduceCtorEq, Option.some.injEq] at h
    case nils => subst h; cases hx.nils_inv; exact .lnil
    case lst l => subst h; exact hx.pure (by simp [AV.pure])
    case row id n =>
      obtain ⟨g, cap, rfl, hk⟩ := hx.row_inv
      split at h
      case h_2 => cases h
      rename_i e size els he
      split at h
      case isFalse => cases h
      rename_i hn
      simp only [Option.some.injEq] at h; subst h; subst hn
      exact row_lst hs he hk
  rcases (VR.im (κ := κ) _ _ hir).lst_inv with h0 | ⟨size', b, o, cap, vals, hv, h1, h2, h3, h4, h5, h6⟩
  · exact .inl h0
  · by_cases hm : m = []
    · subst hm
      exact .inr ⟨_, _, [], hv, by simp, fun j u h => by simp at h, ⟨rfl, fun j h => by simp at h⟩, h4⟩
    · have hse : size' = size := by
        obtain ⟨c, hc⟩ := List.exists_mem_of_ne_nil _ hm
        rw [← h3 c hc, hlen c hc]
      subst hse
      have hfl : ∀ (l : List (List AV)), (∀ c ∈ l, c.length = size') → l.flatten.length = l.length * size' := by
        intro l
        induction l with
        | nil => intro _; simp
        | cons c l ih => intro hl; rw [List.flatten_cons, List.length_append, ih (fun c h => hl c (by simp [h])), hl c (by simp), List.length_cons, Nat.add_mul]; omega
      refine .inr ⟨_, _, (List.range (m.length * size')).map fun q => vals (q / size') (q % size'), hv, by simp, fun j u hj => ?_, ⟨by rw [hfl m h3]; simp, fun j hj hj' => ?_⟩, h4⟩
      · rw [List.getElem?_map] at hj
        by_cases hjl : j < m.length * size'
        · rw [List.getElem?_range hjl] at hj
          simp at hj; subst hj
          have hk : j / size' < m.length := (Nat.div_lt_iff_lt_mul hpos).2 hjl
          have := (h5 (j / size') (j % size') hk (Nat.mod_lt _ hpos)).2
          rw [Addr.add_mid]
          rw [Nat.div_add_mod'] at this
          exact this
        · rw [List.getElem?_eq_none (by simp; omega)] at hj; cases hj
      · have hjl : j < m.length * size' := by rw [hfl m h3] at hj; exact hj
        have hk : j / size' < m.length := (Nat.div_lt_iff_lt_mul hpos).2 hjl
        obtain ⟨g1, g2, g3, g4⟩ := flatten_get m (j / size') (j % size') h3 hk (Nat.mod_lt _ hpos)
        have e : (j / size') * size' + j % size' = j := Nat.div_add_mod' ..
        have e2 : m.flatten[j] = m[j / size'][j % size'] := by rw [← g4]; congr 1; exact e.symm
        rw [e2]
        simp only [List.getElem_map, List.getElem_range]
        exact h6 _ _ g1 g2

theorem flatten_take {size : Nat} : ∀ (l : List (List AV)) (k : Nat), (∀ c ∈ l, c.length = size) → (l.take k).flatten = l.flatten.take (k * size)
  | [], k, _ => by simp
  | c :: l, 0, _ => by simp
  | c :: l, k + 1, h => by
    have hc : c.length = size := h c (by simp)
    have e : (k + 1) * size = c.length + k * size := by rw [hc, Nat.add_mul]; omega
    rw [List.take_succ_cons, List.flatten_cons, flatten_take l k (fun c hc => h c (by simp [hc])), List.flatten_cons, e, List.take_append, List.take_of_length_le (l := c) (by omega), Nat.add_sub_cancel_left]
theorem flatten_drop {size : Nat} : ∀ (l : List (List AV)) (k : Nat), (∀ c ∈ l, c.length = size) → (l.drop k).flatten = l.flatten.drop (k * size)
  | [], k, _ => by simp
  | c :: l, 0, _ => by simp
  | c :: l, k + 1, h => by
    have hc : c.length = size := h c (by simp)
    have e : (k + 1) * size = c.length + k * size := by rw [hc, Nat.add_mul]; omega
    rw [List.drop_succ_cons, flatten_drop l k (fun c hc => h c (by simp [hc])), List.flatten_cons, e, List.drop_append, List.drop_of_length_le (l := c) (by omega), Nat.add_sub_cancel_left, List.nil_append]

theorem chunks_ok : ∀ (n size : Nat) (l : List AV), l.length = n * size → (chunks n size l).length = n ∧ (∀ c ∈ chunks n size l, c.length = size) ∧ (chunks n size l).flatten = l
  | 0, size, l, h => by simp [chunks]; exact List.eq_nil_of_length_eq_zero (by simpa using h)
  | n + 1, size, l, h => by
    rw [Nat.add_mul] at h
    obtain ⟨h1, h2, h3⟩ := chunks_ok n size (l.drop size) (by simp; omega)
    refine ⟨by simp [chunks, h1], fun c hc => ?_, by simp only [chunks, List.flatten_cons, h3, List.take_append_drop]⟩
    simp only [chunks, List.mem_cons] at hc
    rcases hc with rfl | hc
    · simp; omega
    · exact h2 c hc


/-- What is appended: cells that the store knows. -/
theorem source_view {X : AV} {x : Value} {m : List (List AV)} {size : Nat} (hs : SRel base κ Im σ w) (hx : VR κ Im w X x) (h : view σ X = some m) (hlen : ∀ c ∈ m, c.length = size) (hpos : 0 < size) :
    (x = .slice none 0 0 ∧ m = []) ∨ ∃ ad c news, x = .slice (some ad) m.length c ∧ news.length = m.length * size ∧ (∀ j u, news[j]? = some u → w.cell? (ad.add j) = some u) ∧ VRL κ Im w m.flatten news ∧ (∀ c ∈ m, ∀ v ∈ c, v.one = true) ∧ (Fixed σ X m → IRL Im w m.flatten news) := by
  by_cases ha : aview σ X = some m
  · rcases source_ok hs hx ha hlen hpos with h0 | ⟨ad, c, news, h1, h2, h3, h4, h5⟩
    · exact .inl h0
    · exact .inr ⟨ad, c, news, h1, h2, h3, VRL.ofIR h4, h5, fun _ => h4⟩
  · cases X <;> simp only [view, reduceCtorEq, Option.some.injEq] at h
    case nils => exact absurd (by simpa [aview] using h) ha
    case lst l => exact absurd (by simpa [aview] using h) ha
    case row id n =>
      obtain ⟨g, cap, rfl, hk⟩ := hx.row_inv
      split at h
      case h_2 => cases h
      rename_i e size' els im he
      split at h
      case isFalse => cases h
      rename_i hn
      simp only [Option.some.injEq] at h; subst h; subst hn
      obtain ⟨v0, xs, hv0, hown, hvr, hpos2, hlens, hones0, hir, him⟩ := hs.ent _ _ he
      rw [hk] at hv0; cases hv0
      have hxl := hown.1
      rcases hown.2 with ⟨h1, h2⟩ | ⟨b, cap', cur, h1, hg, hh, hle, hmax, hcs, htake⟩
      · exact .inl ⟨by rw [h1], List.eq_nil_of_length_eq_zero h2⟩
      · simp only [Value.slice.injEq] at h1
        obtain ⟨rfl, _, rfl⟩ := h1
        have hcell := hown.cells (g := b) rfl
        refine .inr ⟨_, _, xs, rfl, ?_, hcell, hvr, hones0, fun hf => ?_⟩
        · by_cases hm : els = []
          · subst hm; simpa using hxl
          · obtain ⟨c, hc⟩ := List.exists_mem_of_ne_nil _ hm
            rw [hxl, ← hlens c hc, hlen c hc]
        · rcases hf with hf | hf
          · exact absurd hf ha
          · refine ⟨hvr.1, fun j hj hj' => (hvr.2 j hj hj').pure ?_⟩
            obtain ⟨c, hc, hcm⟩ := List.mem_flatten.1 (List.getElem_mem hj)
            exact hf c hc _ hcm
    case asl id off n sz =>
      obtain ⟨b, ad, c, rfl, hk, k3, k4, _⟩ := hx.asl_inv
      split at h
      case h_2 => cases h
      rename_i t cells he
      split at h
      case isFalse => cases h
      rename_i hle
      simp only [Option.some.injEq] at h; subst h
      obtain ⟨b', cs, hk', _, hheap, hvr, hones, _⟩ := hs.ent _ _ he
      rw [hk] at hk'; cases hk'
      have hcl : ((cells.drop off).take (n * sz)).length = n * sz := by simp; omega
      obtain ⟨c1, c2, c3⟩ := chunks_ok n sz _ hcl
      have hvr2 := (hvr.drop off).take (n * sz)
      refine .inr ⟨ad, c, (cs.toList.drop off).take (n * sz), by rw [c1], ?_, fun j u hj => ?_, by rw [c3]; exact hvr2, fun c' hc' v hv' => ?_, fun hf => ?_⟩
      · rw [← hvr2.1, hcl, c1]
        by_cases hn : n = 0
        · subst hn; simp
        · have hne : chunks n sz ((cells.drop off).take (n * sz)) ≠ [] := fun h0 => by rw [h0] at c1; simp at c1; omega
          obtain ⟨c', hc'⟩ := List.exists_mem_of_ne_nil _ hne
          rw [← c2 c' hc', hlen c' hc']
      · rw [List.getElem?_take] at hj
        split at hj
        case isFalse => cases hj
        rename_i hjl
        have hn : 0 < n := by
          rcases Nat.eq_zero_or_pos n with h0 | h0
          · subst h0; simp at hjl
          · exact h0
        rw [k3 hn, Addr.add_mid, cell_of_row w b (off + j) cs t (0, 0) hheap]
        rw [List.getElem?_drop] at hj
        simpa using hj
      · refine hones v (List.mem_of_mem_drop (List.mem_of_mem_take (?_ : v ∈ (cells.drop off).take (n * sz))))
        rw [← c3]; exact List.mem_flatten.2 ⟨c', hc', hv'⟩
      · rcases hf with hf | hf
        · simp [aview] at hf
        · rw [c3]
          refine ⟨hvr2.1, fun j hj hj' => (hvr2.2 j hj hj').pure ?_⟩
          have hmem : ∀ v, v ∈ (cells.drop off).take (n * sz) → v ∈ (chunks n sz ((cells.drop off).take (n * sz))).flatten := fun v hv => by rw [c3]; exact hv
          obtain ⟨c', hc', hcm⟩ := List.mem_flatten.1 (hmem _ (List.getElem_mem hj))
          exact hf c' hc' _ hcm
    case sub id n sz lo hi =>
      obtain ⟨b, cap, ad, c, rfl, hk, k1, k2, k3, k4, _⟩ := hx.sub_inv
      split at h
      case h_2 => cases h
      rename_i e size' els im he
      split at h
      case isFalse => cases h
      rename_i hn
      obtain ⟨hn, rfl⟩ := hn
      simp only [Option.some.injEq] at h; subst h; subst hn
      obtain ⟨v0, xs, hv0, hown, hvr, hpos2, hlens, hones0, hir, him⟩ := hs.ent _ _ he
      rw [hk] at hv0; cases hv0
      have hml : ((els.take hi).drop lo).length = hi - lo := by simp; omega
      have hxl := hown.1
      have hfl : ((els.take hi).drop lo).flatten = (els.flatten.take (hi * size')).drop (lo * size') := by
        rw [flatten_drop _ _ (fun c hc => hlens c (List.mem_of_mem_take hc)), flatten_take _ _ hlens]
      have hvr2 := (hvr.take (hi * size')).drop (lo * size')
      rw [← hfl] at hvr2
      rcases hown.2 with ⟨h1, h2⟩ | ⟨b', cap', cur, h1, hg, hh, hle, hmax, hcs, htake⟩
      · cases h1
      · simp only [Value.slice.injEq, Option.some.injEq, Addr.mk.injEq] at h1
        obtain ⟨⟨rfl, _⟩, _, rfl⟩ := h1
        have hcell := hown.cells (g := b) rfl
        have hlo := Nat.mul_le_mul_right size' k1
        have hhi := Nat.mul_le_mul_right size' k2
        refine .inr ⟨_, _, (xs.take (hi * size')).drop (lo * size'), by rw [hml], ?_, fun j u hj => ?_, hvr2, fun c hc => hones0 c (List.mem_of_mem_take (List.mem_of_mem_drop hc)), fun hf => ?_⟩
        · rw [hml]
          by_cases hm : lo = hi
          · subst hm; simp
          · have : size' = size := by
              have hne : (els.take hi).drop lo ≠ [] := fun h0 => by rw [h0] at hml; simp at hml; omega
              obtain ⟨c, hc⟩ := List.exists_mem_of_ne_nil _ hne
              rw [← hlens c (List.mem_of_mem_take (List.mem_of_mem_drop hc)), hlen c hc]
            subst this
            rw [List.length_drop, List.length_take, hxl, Nat.sub_mul]; omega
        · rw [List.getElem?_drop, List.getElem?_take] at hj
          split at hj
          case isFalse => cases hj
          rename_i hjl
          have hlt : lo < hi := by
            refine Nat.lt_of_le_of_ne k1 fun he => ?_
            subst he; omega
          have := hcell _ _ hj
          rw [k3 hlt, Addr.add_mid]
          rw [Addr.add_mid, Nat.zero_add] at this
          exact this
        · rcases hf with hf | hf
          · simp [aview] at hf
          · refine ⟨hvr2.1, fun j hj hj' => (hvr2.2 j hj hj').pure ?_⟩
            obtain ⟨c, hc, hcm⟩ := List.mem_flatten.1 (List.getElem_mem hj)
            exact hf c hc _ hcm

/-- A new row. -/
theorem new_row {e size n : Nat} {m : List (List AV)} {im : Bool} {v : Value} {w' : World} {xs : List Value} (hs : SRel base κ Im σ w) (hn : n = m.length) (hpos : 0 < size) (hlen : ∀ c ∈ m, c.length = size) (hone : ∀ c ∈ m, ∀ x ∈ c, x.one = true)
    (hown : w'.ownsRow w.heap.size e size v n xs) (hh : ∀ k, k < w.heap.size → w'.heap[k]? = w.heap[k]?) (hsize : w.heap.size ≤ w'.heap.size) (hos : w'.os = w.os) (htape : w'.tape = w.tape) (hout : w'.output = w.output)
    (hv : VRL κ Im w m.flatten xs) (hir : im = true → IRL Im w m.flatten xs) :
    ∃ κ' Im', VR κ' Im' w' (.row σ.length n) v ∧ SRel base κ' Im' (σ ++ [.row e size m im]) w' ∧ Grow base κ Im w κ' Im' w' := by
  subst hn
  have hfree : ∀ k u, κ σ.length k = some u → False := fun k u h => by obtain ⟨e, h1, _⟩ := hs.dom _ _ _ h; simp at h1
  have hκ := Key.with_new hfree m.length v
  have hc : ∀ a, Im a → w'.cell? a = w.cell? a := fun a ha => World.cell?_of_block (hh _ (hs.imlt a ha).1)
  obtain ⟨g, cap, hsl⟩ : ∃ g cap, v = .slice g m.length cap := by
    rcases hown.2 with ⟨h1, h2⟩ | ⟨g, cap, _, h1, _⟩
    · exact ⟨none, 0, by rw [h1, h2]⟩
    · exact ⟨_, _, h1⟩
  -- the cells that never change any more
  let Im' : Addr → Prop := fun a => Im a ∨ (im = true ∧ v.ownBlock = some a.block ∧ a.spot = none ∧ a.off < m.length * size)
  have hlt : ∀ b, v.ownBlock = some b → w.heap.size ≤ b ∧ b < w'.heap.size := fun b hb => hown.lt b hb
  refine ⟨κ.with σ.length m.length v, Im', ?_, ?_, ⟨hκ, fun _ h => .inl h, hc, fun a h => ?_, ⟨hos, htape, hout, hsize, fun k hk => hh k (Nat.lt_of_lt_of_le hk hs.hb)⟩⟩⟩
  · have := Key.with_same κ σ.length m.length v
    rw [hsl] at this ⊢
    exact .row _ _ _ _ this
  · refine hs.push _ hκ (fun i k u h => ?_) (fun _ h => .inl h) (fun a h => ?_) hsize hh ?_ (fun b hb => ?_)
    · unfold Key.with at h
      split at h
      · rename_i hcc; exact .inr ⟨hcc.1, by rw [hcc.2]; exact Nat.le_refl _⟩
      · exact .inl h
    · rcases h with h | ⟨_, h1, h2, _⟩
      · exact .inl h
      · exact .inr ⟨(hlt _ h1).1, (hlt _ h1).2, h2⟩
    · have hb' : base ≤ w.heap.size := hs.hb
      refine ⟨v, xs, Key.with_same _ _ _ _, ⟨hown.1, ?_⟩, ⟨hv.1, fun j h h' => (hv.2 j h h').mono hκ (fun _ h => .inl h) hc⟩, hpos, hlen, hone, fun hi => ⟨(hir hi).1, fun j h h' => ((hir hi).2 j h h').mono (fun _ h => .inl h) hc⟩, fun b hb => ⟨fun a ha hab => ?_, fun hi o ho => .inr ⟨hi, hb, rfl, ho⟩⟩⟩
      · rcases hown.2 with h | ⟨g, cap, cur, h1, h2, rest⟩
        · exact .inl h
        · exact .inr ⟨g, cap, cur, h1, by omega, rest⟩
      · rcases ha with ha | ⟨h1, h2, h3, h4⟩
        · have := (hs.imlt a ha).1
          have := (hlt b hb).1
          omega
        · exact ⟨h1, h4⟩
    · have : (Entry.row e size m im).block (κ.with σ.length m.length v) σ.length = v.ownBlock := by simp [Entry.block, Key.with_same]
      rw [this] at hb
      exact (hlt b hb).1
  · rcases h with h | ⟨_, h1, _⟩
    · exact .inl h
    · exact .inr (Nat.le_trans hs.hb (hlt _ h1).1)

theorem list_array2 {α : Type} {a : Array α} {l : List α} (h : a.toList = l) : a = l.toArray := by rw [← h]

/-- What an append is to do: 'news' behind what a value owns. -/
def AppRun (P : Program) (w : World) (o : Oper) (a : Act) (e size bytes : Nat) (u : Value) (m : List (List AV)) (news : List Value) : Prop :=
  ∀ (b0 n : Nat) (xs : List Value), w.ownsRow b0 e size u n xs → n + m.length ≤ maxLen → (n + m.length) * bytes ≤ 140737488355328 → b0 ≤ w.heap.size →
    ∃ v' w', (execOp a.eval o).run P w = .ok (.value v') w' ∧ w'.ownsRow b0 e size v' (n + m.length) (xs ++ news) ∧ w.grownBy w' u.ownBlock ∧ (∀ g, v'.ownBlock = some g → u.ownBlock = some g ∨ w.heap.size ≤ g) ∧ (m.length = 0 → v' = u ∧ w' = w) ∧
      (∀ g j, u.ownBlock = some g → j < n * size → w'.cell? ⟨g, j, none⟩ = w.cell? ⟨g, j, none⟩)

def AppAsk (P : Program) (Im : Addr → Prop) (w : World) (σ : Store) (K : AV → Store → Prop) (e size bytes : Nat) (m : List (List AV)) (news : List Value) : AV → Prop
  | .nils => (m = [] ∧ K .nils σ) ∨ ∃ im, (im = true → IRL Im w m.flatten news) ∧ m.length * bytes ≤ 140737488355328 ∧ m.length ≤ 9223372036854775807 ∧ K (.row σ.length m.length) (σ ++ [.row e size m im])
  | .row id n => ∃ els im, σ[id]? = some (.row e size els im) ∧ (im = true → IRL Im w m.flatten news) ∧ els.length = n ∧ (n + m.length) * bytes ≤ 140737488355328 ∧ n + m.length ≤ 9223372036854775807 ∧ K (.row id (n + m.length)) (σ.set id (.row e size (els ++ m) im))
  | _ => False

theorem app_core {o : Oper} {a : Act} {e size bytes : Nat} {X : AV} {u : Value} {m : List (List AV)} {news : List Value} {K : AV → Store → Prop} (hpos : 0 < size) (hlen : ∀ c ∈ m, c.length = size) (hs : SRel base κ Im σ w) (hx : VR κ Im w X u)
    (g3 : VRL κ Im w m.flatten news) (g4 : ∀ c ∈ m, ∀ v ∈ c, v.one = true) (hrun : AppRun P w o a e size bytes u m news) (h : AppAsk P Im w σ K e size bytes m news X) : EffOK P base κ Im w o a K := by
  cases X <;> try (exact h.elim)
  case nils =>
    cases hx.nils_inv
    have hnil := World.ownsRow_nil w w.heap.size e size
    rcases h with ⟨rfl, hK⟩ | ⟨im, hfix, h1, h2, hK⟩
    · obtain ⟨v', w', hr, _, _, _, p4, _⟩ := hrun w.heap.size 0 [] hnil (by simp [maxLen]) (by simp) (Nat.le_refl _)
      obtain ⟨rfl, rfl⟩ := p4 rfl
      exact ⟨_, _, κ, Im, _, _, .inl hr, hK, hx, hs, Grow.refl _ _ _ _⟩
    obtain ⟨v', w', hr, p1, p2, _, _, _⟩ := hrun w.heap.size 0 [] hnil (by simp only [maxLen]; omega) (by simpa using h1) (Nat.le_refl _)
    rw [Nat.zero_add, List.nil_append] at p1
    obtain ⟨κ', Im', q1, q2, q3⟩ := new_row (e := e) (size := size) (m := m) (im := im) hs rfl hpos hlen g4 p1 (fun k hk => p2.block k hk (by simp [Value.ownBlock])) p2.size p2.os p2.tape p2.output g3 hfix
    exact ⟨_, _, κ', Im', _, _, .inl hr, hK, q1, q2, q3⟩
  case row id n =>
    obtain ⟨els, im, hent, hfix, rfl, h1, h2, hK⟩ := h
    obtain ⟨b, cap, rfl, hk⟩ := hx.row_inv
    obtain ⟨v0, xs, hv0, hown, hvr, hpos2, hlens, hones0, hir, him⟩ := hs.ent _ _ hent
    rw [hk] at hv0; cases hv0
    obtain ⟨v', w', hr, p1, p2, p3, p4, p5⟩ := hrun base els.length xs hown (by simp only [maxLen]; omega) h1 hs.hb
    by_cases hm0 : m.length = 0
    · obtain ⟨rfl, rfl⟩ := p4 hm0
      have hm0 : m = [] := List.eq_nil_of_length_eq_zero hm0
      subst hm0
      simp only [List.length_nil, Nat.add_zero, List.append_nil] at hK
      have hset : σ.set id (.row e size els im) = σ := by
        obtain ⟨hlt, he⟩ := List.getElem?_eq_some_iff.1 hent
        rw [← he, List.set_getElem_self]
      rw [hset] at hK
      exact ⟨_, _, κ, Im, _, _, .inl hr, hK, hx, hs, Grow.refl _ _ _ _⟩
    have hfree : ∀ u, κ id (els.length + m.length) = some u → False := fun u h => by
      obtain ⟨e', h1, h2⟩ := hs.dom _ _ _ h
      rw [hent] at h1; cases h1
      simp only [Entry.ver] at h2; omega
    have hκ : ∀ i' k u, κ i' k = some u → κ.with id (els.length + m.length) v' i' k = some u := by
      intro i' k u hu
      unfold Key.with
      split
      · rename_i hcc; obtain ⟨rfl, rfl⟩ := hcc; exact (hfree _ hu).elim
      · exact hu
    have hblk0 : (Entry.row e size els im).block κ id = (Value.slice b els.length cap).ownBlock := by simp [Entry.block, hk]
    have hblk1 : (Entry.row e size (els ++ m) im).block (κ.with id (els.length + m.length) v') id = v'.ownBlock := by
      simp [Entry.block, Key.with_same]
    have hlt' : ∀ g, v'.ownBlock = some g → base ≤ g ∧ g < w'.heap.size := fun g hg => p1.lt g hg
    let Im' : Addr → Prop := fun ad => Im ad ∨ (im = true ∧ v'.ownBlock = some ad.block ∧ ad.spot = none ∧ ad.off < (els.length + m.length) * size)
    -- the old cells stand
    have hcell : ∀ ad, Im ad → w'.cell? ad = w.cell? ad := by
      intro ad hI
      by_cases hab : (Value.slice b els.length cap).ownBlock = some ad.block
      · obtain ⟨k1, k2⟩ := him _ hab
        have hoff := (k1 ad hI rfl).2
        have hsp := (hs.imlt ad hI).2
        have had : ad = ⟨ad.block, ad.off, none⟩ := by cases ad; simp_all
        rw [had]
        exact p5 _ _ hab hoff
      · exact World.cell?_of_block (p2.block _ (hs.imlt ad hI).1 (fun h => hab h.symm))
    have hvr' : VRL (κ.with id (els.length + m.length) v') Im' w' (els ++ m).flatten (xs ++ news) := by
      rw [List.flatten_append]
      have q1 : VRL (κ.with id (els.length + m.length) v') Im' w' els.flatten xs := ⟨hvr.1, fun j h h' => (hvr.2 j h h').mono hκ (fun _ h => .inl h) hcell⟩
      have q2 : VRL (κ.with id (els.length + m.length) v') Im' w' m.flatten news := ⟨g3.1, fun j h h' => (g3.2 j h h').mono hκ (fun _ h => .inl h) hcell⟩
      exact q1.append q2
    have hlenapp : (els ++ m).length = els.length + m.length := List.length_append
    refine ⟨v', w', κ.with id (els.length + m.length) v', Im', _, _, .inl hr, hK, ?_, ?_, ⟨hκ, fun _ h => .inl h, hcell, fun ad h => ?_, ⟨p2.os, p2.tape, p2.output, p2.size, fun k hk' => p2.block k (Nat.lt_of_lt_of_le hk' hs.hb) (fun hkk => ?_)⟩⟩⟩
    · obtain ⟨g, cap2, hsl⟩ : ∃ g cap, v' = .slice g (els.length + m.length) cap := by
        rcases p1.2 with ⟨h1, h2⟩ | ⟨g, cap, _, h1, _⟩
        · omega
        · exact ⟨_, _, h1⟩
      have := Key.with_same κ id (els.length + m.length) v'
      rw [hsl] at this ⊢
      exact .row _ _ _ _ this
    · refine hs.set hent _ hκ (fun i' k u h => ?_) (by simp [Entry.ver]) (fun _ h => .inl h) hcell (fun ad h => ?_) p2.size (fun k hk' hne => p2.block k hk' (fun h => hne (by rw [hblk0, h]))) ?_ (fun g hg => ?_)
      · unfold Key.with at h
        split at h
        · rename_i hcc; exact .inr ⟨hcc.1, by rw [hcc.2]; simp [Entry.ver]⟩
        · exact .inl h
      · rcases h with h | ⟨_, q1, q2, _⟩
        · exact .inl h
        · exact .inr ⟨by rw [hblk1]; exact q1, (hlt' _ q1).2, q2⟩
      · refine ⟨v', xs ++ news, by rw [hlenapp]; exact Key.with_same _ _ _ _, by rw [hlenapp]; exact p1, hvr', hpos2, fun c hc => ?_, fun c hc => ?_, fun hi => ?_, fun g hg => ⟨fun ad ha hab => ?_, fun hi o ho => .inr ⟨hi, hg, rfl, by rw [hlenapp] at ho; exact ho⟩⟩⟩
        · rcases List.mem_append.1 hc with h | h
          · exact hlens _ h
          · exact hlen _ h
        · rcases List.mem_append.1 hc with h | h
          · exact hones0 _ h
          · exact g4 _ h
        · refine ⟨hvr'.1, fun j h h' => ?_⟩
          have q0 := hir hi
          have hl0 := q0.1
          by_cases hj : j < els.flatten.length
          · have e1 : (els ++ m).flatten[j] = els.flatten[j] := by simp only [List.flatten_append]; rw [List.getElem_append_left hj]
            have e2 : (xs ++ news)[j] = xs[j]'(by omega) := by rw [List.getElem_append_left (by omega)]
            rw [e1, e2]
            exact (q0.2 j hj (by omega)).mono (fun _ h => .inl h) hcell
          · have e1 : (els ++ m).flatten[j] = m.flatten[j - els.flatten.length]'(by rw [List.flatten_append, List.length_append] at h; omega) := by
              simp only [List.flatten_append]; rw [List.getElem_append_right (by omega)]
            have e2 : (xs ++ news)[j] = news[j - els.flatten.length]'(by rw [List.length_append] at h'; omega) := by
              rw [List.getElem_append_right (by omega)]; congr 1; omega
            rw [e1, e2]
            exact ((hfix hi).2 _ _ _).mono (fun _ h => .inl h) hcell
        · rw [hlenapp]
          rcases ha with ha | ⟨q1, q2, q3, q4⟩
          · rcases p3 g hg with h | h
            · have := (him g h).1 ad ha hab
              refine ⟨this.1, ?_⟩
              have := this.2
              have := Nat.mul_le_mul_right size (Nat.le_add_right els.length m.length)
              omega
            · have := (hs.imlt ad ha).1
              omega
          · exact ⟨q1, q4⟩
      · rw [hblk1] at hg
        rcases p3 g hg with h | h
        · exact .inr (by rw [hblk0]; exact h)
        · exact .inl h
    · rcases h with h | ⟨_, q1, _⟩
      · exact .inl h
      · exact .inr (hlt' _ q1).1
    · have := hown.lt k hkk.symm
      omega

theorem eff_app {o : Oper} {c : Call} {s e size bytes : Nat} {x y : Opd} {i : TypeInfo} {z : Value} {f : Frame} {a : Act} {K : AV → Store → Prop} (ho : o.op = .call c) (hb : c.callee = .builtin .append) (hts : c.argTypes.toList = [s, s]) (hargs : c.args.toList.mapM opd = some [x, y])
    (ht : P.underlying s = some (.slice e)) (hi : P.info? e = some i) (hz : i.zero = some z) (hzs : z.cells.size = i.size) (hpos : 0 < i.size) (hsize : i.size = size) (hbytes : i.bytes = bytes)
    (hs : SRel base κ Im σ w) (hf : FRel κ Im w f a) (h : awpOp P K f σ (.app e size bytes x y)) : EffOK P base κ Im w o a K := by
  subst hsize; subst hbytes
  have hv := opds_ok (κ := κ) (Im := Im) (w := w) hf hargs
  obtain ⟨u, v, hu⟩ : ∃ u v, c.args.toList.map a.eval = [u, v] := by
    match hq : c.args.toList.map a.eval, hv.1 with
    | [u, v], _ => exact ⟨u, v, rfl⟩
  rw [hu] at hv
  have hx : VR κ Im w (x.ev f) u := hv.2 0 (by simp) (by simp)
  have hy : VR κ Im w (y.ev f) v := hv.2 1 (by simp) (by simp)
  have hargs' : c.args.map a.eval = #[u, v] := by apply list_array2; simpa using hu
  have hts' : c.argTypes = #[s, s] := list_array2 hts
  have hrun : ∀ r w', (Builtin.append_ #[s, s] o.type #[u, v]).run P w = .ok r w' → (execOp a.eval o).run P w = .ok (.value r) w' := by
    intro r w' hr
    simp only [execOp, ho, resolve, hb, Sem.run_bind, Sem.run_pure, Result.andThen_ok, invoke, builtin, hargs', hts', hr]
  simp only [awpOp] at h
  obtain ⟨m, hm, hpos', hlen, h⟩ := h
  have hask : ∀ news, (Fixed σ (y.ev f) m → IRL Im w m.flatten news) → AppAsk P Im w σ K e i.size i.bytes m news (x.ev f) := by
    intro news hn
    revert h
    cases x.ev f <;> simp only [AppAsk] <;> intro h <;> first | exact h.elim | skip
    · rcases h with h | ⟨im, q1, q2⟩
      · exact .inl h
      · exact .inr ⟨im, fun hi => hn (q1 hi), q2⟩
    · obtain ⟨els, im, q1, q2, q3⟩ := h
      exact ⟨els, im, q1, fun hi => hn (q2 hi), q3⟩
  rcases source_view hs hy hm hlen hpos with ⟨rfl, rfl⟩ | ⟨ad, c', news, rfl, g1, g2, g3, g4, g5⟩
  · refine app_core hpos hlen hs hx (news := []) ⟨rfl, fun j h => by simp at h⟩ (by simp) (fun b0 n xs hown h63 hb hle => ?_) (hask [] fun _ => ⟨rfl, fun j h => by simp at h⟩)
    obtain ⟨q1, q2⟩ : ∃ bb cap, u = .slice bb n cap := by
      rcases hown.2 with ⟨h1, h2⟩ | ⟨g, cap, _, h1, _⟩
      · exact ⟨none, 0, by rw [h1, h2]⟩
      · exact ⟨_, _, h1⟩
    obtain ⟨cap, rfl⟩ := q2
    exact ⟨_, w, hrun _ _ (run_append_owned_none (P := P) (w := w) b0 s o.type e i i.size ht hi _ _ xs hown), by simpa using hown, ⟨rfl, rfl, rfl, Nat.le_refl _, fun _ _ _ => rfl⟩, fun g hg => .inl hg, fun _ => ⟨rfl, rfl⟩, fun _ _ _ _ => rfl⟩
  · have hones : ∀ u ∈ news, u.oneCell' = true := one_cells g3 (fun c hc => by obtain ⟨l, hl, hcl⟩ := List.mem_flatten.1 hc; exact g4 l hl c hcl)
    refine app_core hpos hlen hs hx g3 g4 (fun b0 n xs hown h63 hb hle => ?_) (hask news g5)
    obtain ⟨v', w', hr, p1, p2, p3, p4, p5⟩ := append_own (ty := o.type) ht hi hz hzs hpos b0 hown ad m.length c' news g1 g2 hones h63 hb hle
    exact ⟨v', w', hrun _ _ hr, p1, p2, p3, p4, p5⟩

/-- An append of a text's bytes, and where the new slice lies. -/
theorem append_own_str {t u ty e : TypeId} {i : TypeInfo} (ht : P.underlying t = some (.slice e)) (hu : P.underlying u = some .string) (hi : P.info? e = some i) (hz : i.zero = some (.int .u8 0)) (hsz : i.size = 1) (hby : i.bytes = 1)
    {v : Value} {n : Nat} {xs : List Value} (b0 : Nat) (hown : w.ownsRow b0 e 1 v n xs) (s : ByteArray) (h63 : n + s.size ≤ maxLen) (hbytes : n + s.size ≤ 140737488355328) (hbase : b0 ≤ w.heap.size) :
    ∃ v' w', (Builtin.append_ #[t, u] ty #[v, .string s]).run P w = .ok v' w' ∧ w'.ownsRow b0 e 1 v' (n + s.size) (xs ++ Lib.strCells s) ∧ w.grownBy w' v.ownBlock ∧ (∀ g, v'.ownBlock = some g → v.ownBlock = some g ∨ w.heap.size ≤ g) ∧ (s.size = 0 → v' = v ∧ w' = w) ∧
      (∀ g j, v.ownBlock = some g → j < n * 1 → w'.cell? ⟨g, j, none⟩ = w.cell? ⟨g, j, none⟩) := by
  obtain ⟨v', w', hr, ho, hg, hiff⟩ := Lib.run_append_own_string (P := P) w b0 t u ty e i ht hu hi hz hsz hby v n xs hown s h63 hbytes hbase
  have hsmall : n + s.size ≤ 9223372036854775807 := by simp only [maxLen] at h63; omega
  have hxl : xs.length = n := by simpa using hown.1
  have hzero : s.size = 0 → v' = v ∧ w' = w := by
    intro hm
    have hle : ∃ b cap, v = .slice b n cap ∧ n ≤ cap := by
      rcases hown.2 with ⟨h1, h2⟩ | ⟨g', cap', cur, h1, _, _, hnc, _⟩
      · exact ⟨none, 0, by rw [h1, h2], by omega⟩
      · exact ⟨_, _, h1, hnc⟩
    obtain ⟨b, cap, rfl, hle⟩ := hle
    have hf := Lib.run_firstCells_string (P := P) w 1 s
    rw [hm] at hf
    have hs0 : Lib.strCells s = [] := List.eq_nil_of_length_eq_zero (by rw [Lib.strCells_length]; exact hm)
    have : (Builtin.append_ #[t, u] ty #[.slice b n cap, .string s]).run P w = .ok (.slice b n cap) w := by
      cases b <;> simp [Builtin.append_, run_underlying ht, run_underlying hu, sizeOf, typeInfo, hi, hsz, Builtin.lenOf, hle, hm, hf, hs0, storeCells]
    rw [this] at hr
    cases hr
    exact ⟨rfl, rfl⟩
  refine ⟨v', w', hr, ho, hg, fun g hgb => ?_, hzero, fun g j hgb hj => ?_⟩
  · by_cases hm : s.size = 0
    · obtain ⟨rfl, rfl⟩ := hzero hm
      exact .inl hgb
    rcases hown.2 with ⟨rfl, rfl⟩ | ⟨g', cap, cur, rfl, hbg, hgg, hnc, hcm, hcs, htake⟩
    · have hr2 := run_append_nil_string (P := P) w t u ty e i (.int .u8 0) ht hu hi hz s (by omega) (by omega) (by rw [hby]; omega)
      rw [hr2] at hr
      cases hr
      simp [Value.ownBlock] at hgb; right; omega
    · by_cases hroom : n + s.size ≤ cap
      · have hr2 := Lib.run_append_room_string (P := P) w t u ty e i ht hu hi hsz g' n cap cur hgg s hroom (by omega)
        rw [hr2] at hr
        cases hr
        exact .inl hgb
      · have holds : ∀ j u, xs[j]? = some u → w.cell? ((⟨g', 0, none⟩ : Addr).add j) = some u := hown.cells (g := g') rfl
        have hr2 := Lib.run_append_grow_string (P := P) w t u ty e i (.int .u8 0) ht hu hi hz ⟨g', 0, none⟩ n cap xs (by rw [hsz]; exact hown.1) holds s (by omega) (by omega) (by rw [hby]; exact growslice_fits (by omega) (by omega))
        rw [hr2] at hr
        cases hr
        simp [Value.ownBlock] at hgb; right; omega
  · rcases hown.2 with ⟨rfl, rfl⟩ | ⟨g', cap, cur, rfl, hbg, hgg, hnc, hcm, hcs, htake⟩
    · simp [Value.ownBlock] at hgb
    · simp only [Value.ownBlock, Option.some.injEq] at hgb; subst hgb
      by_cases hroom : n + s.size ≤ cap
      · have hr2 := Lib.run_append_room_string (P := P) w t u ty e i ht hu hi hsz g' n cap cur hgg s hroom (by omega)
        rw [hr2] at hr
        cases hr
        rw [cell_setRow_same w g' j cur _ e _ hgg, cell_of_row w g' j cur e (0, 0) hgg]
        have hjl : j < (cur.toList.take n).length := by rw [List.length_take]; simp; omega
        rw [List.getElem?_toArray, List.append_assoc, List.getElem?_append_left hjl, List.getElem?_take, if_pos (by omega)]
        simp
      · have holds : ∀ j u, xs[j]? = some u → w.cell? ((⟨g', 0, none⟩ : Addr).add j) = some u := hown.cells (g := g') rfl
        have hr2 := Lib.run_append_grow_string (P := P) w t u ty e i (.int .u8 0) ht hu hi hz ⟨g', 0, none⟩ n cap xs (by rw [hsz]; exact hown.1) holds s (by omega) (by omega) (by rw [hby]; exact growslice_fits (by omega) (by omega))
        rw [hr2] at hr
        cases hr
        exact World.cell?_of_block (Below.heap_alloc _ _ _ (by simpa using (Array.getElem?_eq_some_iff.1 hgg).1))

theorem byteEls_flat (l : List UInt8) : (byteEls l).flatten = l.map fun b => .int .u8 b.toNat := by
  unfold byteEls
  induction l with
  | nil => rfl
  | cons b l ih => simp [ih]
theorem byteEls_ir (l : List UInt8) : IRL Im w (byteEls l).flatten (Lib.strCells ⟨l.toArray⟩) := by
  rw [byteEls_flat]
  refine ⟨by simp [Lib.strCells], fun j h h' => ?_⟩
  simp only [Lib.strCells, List.getElem_map]
  exact .int _ _

theorem eff_apps {o : Oper} {c : Call} {s u e : Nat} {x y : Opd} {i : TypeInfo} {f : Frame} {a : Act} {K : AV → Store → Prop} (ho : o.op = .call c) (hb : c.callee = .builtin .append) (hts : c.argTypes.toList = [s, u]) (hargs : c.args.toList.mapM opd = some [x, y])
    (ht : P.underlying s = some (.slice e)) (hu : P.underlying u = some .string) (hi : P.info? e = some i) (hz : i.zero = some (.int .u8 0)) (hsz : i.size = 1) (hby : i.bytes = 1)
    (hs : SRel base κ Im σ w) (hf : FRel κ Im w f a) (h : awpOp P K f σ (.apps e x y)) : EffOK P base κ Im w o a K := by
  have hv := opds_ok (κ := κ) (Im := Im) (w := w) hf hargs
  obtain ⟨p, q, hpq⟩ : ∃ p q, c.args.toList.map a.eval = [p, q] := by
    match hq : c.args.toList.map a.eval, hv.1 with
    | [p, q], _ => exact ⟨p, q, rfl⟩
  rw [hpq] at hv
  have hx : VR κ Im w (x.ev f) p := hv.2 0 (by simp) (by simp)
  have hy : VR κ Im w (y.ev f) q := hv.2 1 (by simp) (by simp)
  have hargs' : c.args.map a.eval = #[p, q] := by apply list_array2; simpa using hpq
  have hts' : c.argTypes = #[s, u] := list_array2 hts
  simp only [awpOp] at h
  obtain ⟨l, hl, h⟩ := h
  rw [hl] at hy
  have hq := hy.str_inv
  subst hq
  have hrun : ∀ r w', (Builtin.append_ #[s, u] o.type #[p, .string ⟨l.toArray⟩]).run P w = .ok r w' → (execOp a.eval o).run P w = .ok (.value r) w' := by
    intro r w' hr
    simp only [execOp, ho, resolve, hb, Sem.run_bind, Sem.run_pure, Result.andThen_ok, invoke, builtin, hargs', hts', hr]
  have hbl : (byteEls l).length = l.length := by simp [byteEls]
  have hsl : (⟨l.toArray⟩ : ByteArray).size = l.length := by simp [ByteArray.size]
  refine app_core (e := e) (size := 1) (bytes := 1) (m := byteEls l) (news := Lib.strCells ⟨l.toArray⟩) (by omega) (fun c hc => ?_) hs hx (VRL.ofIR (byteEls_ir l)) (fun c hc v hv => ?_) (fun b0 n xs hown h63 hb hle => ?_) ?_
  · simp only [byteEls, List.mem_map] at hc
    obtain ⟨b, _, rfl⟩ := hc; rfl
  · simp only [byteEls, List.mem_map] at hc
    obtain ⟨b, _, rfl⟩ := hc
    rw [List.mem_singleton.1 hv]; rfl
  · rw [hbl] at h63 hb ⊢
    obtain ⟨v', w', hr, p1, p2, p3, p4, p5⟩ := append_own_str (ty := o.type) ht hu hi hz hsz hby b0 hown ⟨l.toArray⟩ (by rw [hsl]; exact h63) (by rw [hsl]; omega) hle
    rw [hsl] at p1 p4
    exact ⟨v', w', hrun _ _ hr, p1, p2, p3, p4, p5⟩
  · revert h
    cases x.ev f <;> simp only [AppAsk] <;> intro h <;> first | exact h.elim | skip
    · rcases h with ⟨rfl, h⟩ | ⟨im, q1, q2⟩
      · exact .inl ⟨rfl, h⟩
      · exact .inr ⟨im, fun _ => byteEls_ir l, by rw [hbl]; omega, by rw [hbl]; omega, by rw [hbl]; exact q2⟩
    · obtain ⟨els, im, q1, q2, q3, q4⟩ := h
      exact ⟨els, im, q1, fun _ => byteEls_ir l, q2, by rw [hbl]; omega, by rw [hbl]; omega, by rw [hbl]; exact q4⟩

end
end Go.Abs
