/- Abstract machine, part 11: how the store's relation to the world is kept over a step. -/
import Derived.Test.YtkclehdmdnfikaaDoorAbsJ
set_option linter.unusedSimpArgs false
set_option linter.unusedVariables false
set_option linter.constructorNameAsVariable false
namespace Go.Abs
open Go.RowKit
variable {G : Globs}
section
variable {P : Program} {base : Nat} {κ κ' : Key} {Im Im' : Addr → Prop} {w w' : World} {σ : Store}

theorem ownsRow_heap {b : Nat} {e : TypeId} {size : Nat} {v : Value} {n : Nat} {xs : List Value} (h : w.ownsRow b e size v n xs) (hh : ∀ g, v.ownBlock = some g → w'.heap[g]? = w.heap[g]?) : w'.ownsRow b e size v n xs := by
  refine ⟨h.1, ?_⟩
  rcases h.2 with h0 | ⟨g, cap, cur, hv, hg, hgg, rest⟩
  · exact .inl h0
  · exact .inr ⟨g, cap, cur, hv, hg, by rw [hh g (by rw [hv]; rfl)]; exact hgg, rest⟩

/-- An entry whose block a step does not touch. -/
theorem EOK.keep {id : Nat} {e : Entry} (h : EOK κ Im base w id e) (hκ : ∀ i n v, κ i n = some v → κ' i n = some v) (hIm : ∀ a, Im a → Im' a) (hc : ∀ a, Im a → w'.cell? a = w.cell? a)
    (hh : ∀ b, e.block κ id = some b → w'.heap[b]? = w.heap[b]?) (hn : ∀ b, e.block κ id = some b → ∀ a, a.block = b → Im' a → Im a) : EOK κ' Im' base w' id e := by
  cases e with
  | dead _ => trivial
  | var t cells =>
    obtain ⟨b, cs, hk, hb, hheap, hv, hone, him⟩ := h
    have hbl : (Entry.var t cells).block κ id = some b := by simp [Entry.block, hk]
    exact ⟨b, cs, hκ _ _ _ hk, hb, (hh b hbl).trans hheap, ⟨hv.1, fun j h h' => (hv.2 j h h').mono hκ hIm hc⟩, hone, fun a ha he => him a (hn b hbl a he ha) he⟩
  | row ty size els im =>
    obtain ⟨v, xs, hk, hown, hv, hsz, hlen, hone, hir, him⟩ := h
    have hbl : (Entry.row ty size els im).block κ id = v.ownBlock := by simp [Entry.block, hk]
    refine ⟨v, xs, hκ _ _ _ hk, ownsRow_heap hown (fun g hg => hh g (by rw [hbl, hg])), ⟨hv.1, fun j h h' => (hv.2 j h h').mono hκ hIm hc⟩, hsz, hlen, hone, fun hi => ⟨(hir hi).1, fun j h h' => ((hir hi).2 j h h').mono hIm hc⟩, fun g hg => ?_⟩
    obtain ⟨h1, h2⟩ := him g hg
    exact ⟨fun a ha he => h1 a (hn g (by rw [hbl, hg]) a he ha) he, fun hi o ho => hIm _ (h2 hi o ho)⟩
  | mp kv =>
    obtain ⟨b, es, clock, hk, hb, hheap, hsz, hv, him⟩ := h
    have hbl : (Entry.mp kv).block κ id = some b := by simp [Entry.block, hk]
    exact ⟨b, es, clock, hκ _ _ _ hk, hb, (hh b hbl).trans hheap, hsz, fun j h h' => ⟨(hv j h h').1.mono hIm hc, (hv j h h').2.mono hκ hIm hc⟩, fun a ha he => him a (hn b hbl a he ha) he⟩

theorem EOK.block_ge {id : Nat} {e : Entry} (h : EOK κ Im base w id e) {b : Nat} (hb : e.block κ id = some b) : base ≤ b ∧ b < w.heap.size := by
  cases e with
  | dead _ => simp [Entry.block] at hb
  | var t cells =>
    obtain ⟨b', cs, hk, hbb, hheap, _⟩ := h
    simp [Entry.block, hk] at hb; subst hb
    exact ⟨hbb, (Array.getElem?_eq_some_iff.1 hheap).1⟩
  | row ty size els im =>
    obtain ⟨v, xs, hk, hown, _⟩ := h
    simp [Entry.block, hk] at hb
    exact hown.lt _ hb
  | mp kv =>
    obtain ⟨b', es, clock, hk, hbb, hheap, _⟩ := h
    simp [Entry.block, hk] at hb; subst hb
    exact ⟨hbb, (Array.getElem?_eq_some_iff.1 hheap).1⟩

theorem block_key {id : Nat} {e : Entry} {b : Nat} (h : EOK κ Im base w id e) (hκ : ∀ i n v, κ i n = some v → κ' i n = some v) : e.block κ' id = e.block κ id := by
  cases e with
  | dead _ => rfl
  | var t cells =>
    obtain ⟨b', cs, hk, _⟩ := h
    simp [Entry.block, hk, hκ _ _ _ hk]
  | row ty size els im =>
    obtain ⟨v, xs, hk, _⟩ := h
    simp [Entry.block, hk, hκ _ _ _ hk]
  | mp kv =>
    obtain ⟨b', es, clock, hk, _⟩ := h
    simp [Entry.block, hk, hκ _ _ _ hk]

/-- A new entry. -/
theorem SRel.push (hs : SRel base κ Im σ w) (e : Entry) (hκ : ∀ i n v, κ i n = some v → κ' i n = some v) (hκ' : ∀ i n v, κ' i n = some v → κ i n = some v ∨ (i = σ.length ∧ n ≤ e.ver)) (hIm : ∀ a, Im a → Im' a)
    (hn : ∀ a, Im' a → Im a ∨ (w.heap.size ≤ a.block ∧ a.block < w'.heap.size ∧ a.spot = none)) (hsize : w.heap.size ≤ w'.heap.size) (hh : ∀ k, k < w.heap.size → w'.heap[k]? = w.heap[k]?)
    (he : EOK κ' Im' base w' σ.length e) (hb : ∀ b, e.block κ' σ.length = some b → w.heap.size ≤ b) : SRel base κ' Im' (σ ++ [e]) w' := by
  have hc : ∀ a, Im a → w'.cell? a = w.cell? a := fun a ha => World.cell?_of_block (hh _ (hs.imlt a ha).1)
  have hold : ∀ id e', σ[id]? = some e' → EOK κ' Im' base w' id e' := fun id e' h0 =>
    (hs.ent _ _ h0).keep hκ hIm hc (fun b hb => hh b ((hs.ent _ _ h0).block_ge hb).2) (fun b hb a ha hi => (hn a hi).resolve_right (fun hx => by have := ((hs.ent _ _ h0).block_ge hb).2; omega))
  refine ⟨Nat.le_trans hs.hb hsize, fun id n v h => ?_, fun id e' h0 => ?_, fun i j e1 e2 b hij h1 h2 hb1 hb2 => ?_, fun a ha => ?_, hs.glob.mono (Nat.le_refl _) hIm hc (fun k hk => hh k (Nat.lt_of_lt_of_le hk hs.hb))⟩
  · rcases hκ' _ _ _ h with hx | ⟨rfl, hx⟩
    · obtain ⟨e', h1, h2⟩ := hs.dom _ _ _ hx
      exact ⟨e', by rw [List.getElem?_append_left (List.getElem?_eq_some_iff.1 h1).1]; exact h1, h2⟩
    · exact ⟨e, by simp, hx⟩
  · rw [List.getElem?_append] at h0
    split at h0
    · exact hold _ _ h0
    · rename_i hge
      have : id = σ.length := by
        have := (List.getElem?_eq_some_iff.1 h0).1; simp at this; omega
      subst this
      simp at h0; subst h0; exact he
  · rw [List.getElem?_append] at h1 h2
    split at h1 <;> split at h2
    · have k1 := block_key (b := b) (hs.ent _ _ h1) hκ
      have k2 := block_key (b := b) (hs.ent _ _ h2) hκ
      exact hs.sep i j e1 e2 b hij h1 h2 (k1 ▸ hb1) (k2 ▸ hb2)
    · have hj : j = σ.length := by have := (List.getElem?_eq_some_iff.1 h2).1; simp at this; omega
      subst hj
      simp at h2; subst h2
      have k1 := block_key (b := b) (hs.ent _ _ h1) hκ
      have := ((hs.ent _ _ h1).block_ge (k1 ▸ hb1)).2
      have := hb b hb2
      omega
    · have hi : i = σ.length := by have := (List.getElem?_eq_some_iff.1 h1).1; simp at this; omega
      subst hi
      simp at h1; subst h1
      have k2 := block_key (b := b) (hs.ent _ _ h2) hκ
      have := ((hs.ent _ _ h2).block_ge (k2 ▸ hb2)).2
      have := hb b hb1
      omega
    · have hi : i = σ.length := by have := (List.getElem?_eq_some_iff.1 h1).1; simp at this; omega
      have hj : j = σ.length := by have := (List.getElem?_eq_some_iff.1 h2).1; simp at this; omega
      omega
  · rcases hn a ha with h | h
    · have := hs.imlt a h; exact ⟨by omega, this.2⟩
    · exact ⟨h.2.1, h.2.2⟩

/-- An entry that is written: what else there is stands in other blocks. -/
theorem SRel.set (hs : SRel base κ Im σ w) {id : Nat} {old : Entry} (hold : σ[id]? = some old) (e : Entry) (hκ : ∀ i n v, κ i n = some v → κ' i n = some v) (hκ' : ∀ i n v, κ' i n = some v → κ i n = some v ∨ (i = id ∧ n ≤ e.ver)) (hver : old.ver ≤ e.ver) (hIm : ∀ a, Im a → Im' a)
    (hcell : ∀ a, Im a → w'.cell? a = w.cell? a)
    (hn : ∀ a, Im' a → Im a ∨ ((e.block κ' id = some a.block) ∧ a.block < w'.heap.size ∧ a.spot = none)) (hsize : w.heap.size ≤ w'.heap.size) (hh : ∀ k, k < w.heap.size → old.block κ id ≠ some k → w'.heap[k]? = w.heap[k]?)
    (he : EOK κ' Im' base w' id e) (hb : ∀ b, e.block κ' id = some b → w.heap.size ≤ b ∨ old.block κ id = some b) : SRel base κ' Im' (σ.set id e) w' := by
  have hid : id < σ.length := (List.getElem?_eq_some_iff.1 hold).1
  have hold' : ∀ j e', j ≠ id → σ[j]? = some e' → EOK κ' Im' base w' j e' ∧ ∀ b, e'.block κ j = some b → e.block κ' id ≠ some b := fun j e' hj h0 => by
    have hne : ∀ b, e'.block κ j = some b → old.block κ id ≠ some b := fun b hb => hs.sep j id e' old b hj h0 hold hb
    have hlt : ∀ b, e'.block κ j = some b → b < w.heap.size := fun b hb => ((hs.ent _ _ h0).block_ge hb).2
    have hne' : ∀ b, e'.block κ j = some b → e.block κ' id ≠ some b := fun b hb' hx => by
      rcases hb b hx with h | h
      · have := hlt b hb'; omega
      · exact hne b hb' h
    refine ⟨(hs.ent _ _ h0).keep hκ hIm hcell (fun b hb => hh b (hlt b hb) (hne b hb)) (fun b hb a ha hi => (hn a hi).resolve_right (fun hx => hne' b hb (by rw [← ha]; exact hx.1))), hne'⟩
  refine ⟨Nat.le_trans hs.hb hsize, fun i n v h => ?_, fun i e' h0 => ?_, fun i j e1 e2 b hij h1 h2 hb1 hb2 => ?_, fun a ha => ?_, hs.glob.mono (Nat.le_refl _) hIm hcell (fun k hk => hh k (Nat.lt_of_lt_of_le hk hs.hb) (fun he => by have := ((hs.ent _ _ hold).block_ge he).1; omega))⟩
  · rcases hκ' _ _ _ h with hx | ⟨rfl, hx⟩
    · obtain ⟨e', h1, h2⟩ := hs.dom _ _ _ hx
      by_cases hi : i = id
      · subst hi
        rw [hold] at h1; cases h1
        exact ⟨e, by rw [List.getElem?_set_self hid], by omega⟩
      · exact ⟨e', by rw [List.getElem?_set_ne (Ne.symm hi)]; exact h1, h2⟩
    · exact ⟨e, by rw [List.getElem?_set_self hid], hx⟩
  · by_cases hi : i = id
    · subst hi
      rw [List.getElem?_set_self hid] at h0
      simp at h0; subst h0; exact he
    · rw [List.getElem?_set_ne (Ne.symm hi)] at h0
      exact (hold' _ _ hi h0).1
  · by_cases hi : i = id <;> by_cases hj : j = id
    · omega
    · subst hi
      rw [List.getElem?_set_self hid] at h1
      rw [List.getElem?_set_ne (Ne.symm hj)] at h2
      simp at h1; subst h1
      have k2 := block_key (b := b) (hs.ent _ _ h2) hκ
      exact (hold' _ _ hj h2).2 b (k2 ▸ hb2) hb1
    · subst hj
      rw [List.getElem?_set_self hid] at h2
      rw [List.getElem?_set_ne (Ne.symm hi)] at h1
      simp at h2; subst h2
      have k1 := block_key (b := b) (hs.ent _ _ h1) hκ
      exact (hold' _ _ hi h1).2 b (k1 ▸ hb1) hb2
    · rw [List.getElem?_set_ne (Ne.symm hi)] at h1
      rw [List.getElem?_set_ne (Ne.symm hj)] at h2
      have k1 := block_key (b := b) (hs.ent _ _ h1) hκ
      have k2 := block_key (b := b) (hs.ent _ _ h2) hκ
      exact hs.sep i j e1 e2 b hij h1 h2 (k1 ▸ hb1) (k2 ▸ hb2)
  · rcases hn a ha with h | h
    · have := hs.imlt a h; exact ⟨by omega, this.2⟩
    · exact h.2

/-- A world that holds the same blocks, and more. -/
theorem SRel.world (hs : SRel base κ Im σ w) (hIm : ∀ a, Im a → Im' a) (hn : ∀ a, Im' a → Im a ∨ (w.heap.size ≤ a.block ∧ a.block < w'.heap.size ∧ a.spot = none)) (hsize : w.heap.size ≤ w'.heap.size)
    (hh : ∀ k, k < w.heap.size → w'.heap[k]? = w.heap[k]?) : SRel base κ Im' σ w' := by
  have hc : ∀ a, Im a → w'.cell? a = w.cell? a := fun a ha => World.cell?_of_block (hh _ (hs.imlt a ha).1)
  refine ⟨Nat.le_trans hs.hb hsize, hs.dom, fun id e h0 => ?_, hs.sep, fun a ha => ?_, hs.glob.mono (Nat.le_refl _) hIm hc (fun k hk => hh k (Nat.lt_of_lt_of_le hk hs.hb))⟩
  · exact (hs.ent _ _ h0).keep (fun _ _ _ h => h) hIm hc (fun b hb => hh b ((hs.ent _ _ h0).block_ge hb).2) (fun b hb a ha hi => (hn a hi).resolve_right (fun hx => by have := ((hs.ent _ _ h0).block_ge hb).2; omega))
  · rcases hn a ha with h | h
    · have := hs.imlt a h; exact ⟨by omega, this.2⟩
    · exact ⟨h.2.1, h.2.2⟩
end
end Go.Abs
