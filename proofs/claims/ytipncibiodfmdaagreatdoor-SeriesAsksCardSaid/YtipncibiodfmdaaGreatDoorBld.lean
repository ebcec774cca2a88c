/- Contracts over the abstract machine for strings.Builder and slices.Grow, of any program and any numbering. -/
import Derived.Test.YtipncibiodfmdaaGreatDoorAbs2
import Derived.Shelf.Strings.Builder1
import Derived.Shelf.Spec.SlicesGrow
set_option linter.unusedSimpArgs false
set_option linter.unusedVariables false
set_option linter.constructorNameAsVariable false
namespace Go.Abs
open Go.RowKit Go.Proofs Go.Shelf
variable {G : Globs}
section
variable {P : Program} {ρ : Ren} {σ : Store}

theorem vrl_one {κ : Key} {Im : Addr → Prop} {w : World} {a : AV} {vs : List Value} (h : VRL κ Im w [a] vs) : ∃ v, vs = [v] ∧ VR κ Im w a v := by
  match vs, h.1 with
  | [v], _ => exact ⟨v, rfl, h.2 0 (by simp) (by simp)⟩
theorem vrl_two {κ : Key} {Im : Addr → Prop} {w : World} {a b : AV} {vs : List Value} (h : VRL κ Im w [a, b] vs) : ∃ u v, vs = [u, v] ∧ VR κ Im w a u ∧ VR κ Im w b v := by
  match vs, h.1 with
  | [u, v], _ => exact ⟨u, v, rfl, h.2 0 (by simp) (by simp), h.2 1 (by simp) (by simp)⟩

/-- A variable's first cell is laid anew. -/
theorem set_first {base : Nat} {κ : Key} {Im : Addr → Prop} {w : World} {id b : Nat} {t : TypeId} {a a' : AV} {rest : List AV} {v : Value} (hs : SRel base κ Im σ w) (hent : σ[id]? = some (.var t (a :: rest))) (hk : κ id 0 = some (.pointer (some ⟨b, 0, none⟩))) (hv : VR κ Im w a' v) (h1 : a'.one = true) :
    SRel base κ Im (σ.set id (.var t (a' :: rest))) (w.setCell ⟨b, 0, none⟩ v) ∧ Grow base κ Im w κ Im (w.setCell ⟨b, 0, none⟩ v) := by
  obtain ⟨b', cs, hk', hbase, hheap, hvr, hones, him⟩ := hs.ent _ _ hent
  rw [hk] at hk'; cases hk'
  have hpos : 0 < cs.size := by have := hvr.1; simp at this; omega
  have g1 := heap_setCell_same w b 0 cs t v hheap
  have g3 : ∀ k, k ≠ b → (w.setCell ⟨b, 0, none⟩ v).heap[k]? = w.heap[k]? := fun k hk => heap_setCell_other w ⟨b, 0, none⟩ k v hk
  have hcell : ∀ ad, Im ad → (w.setCell ⟨b, 0, none⟩ v).cell? ad = w.cell? ad := fun ad hi => World.cell?_of_block (g3 _ (him ad hi))
  have hsz : (w.setCell ⟨b, 0, none⟩ v).heap.size = w.heap.size := by simp [World.setCell]
  refine ⟨hs.set hent _ (fun _ _ _ h => h) (fun _ _ _ h => .inl h) (Nat.le_refl _) (fun _ h => h) hcell (fun _ h => .inl h) (by omega) (fun k _ hk' => g3 k (fun he => hk' (by rw [he]; simp [Entry.block, hk]))) ?_ (fun b' hb' => .inr (by simpa [Entry.block] using hb')), ⟨fun _ _ _ h => h, fun _ h => h, hcell, fun _ h => .inl h, ⟨rfl, rfl, rfl, by omega, fun k hk' => g3 k (by omega)⟩⟩⟩
  refine ⟨b, _, hk, hbase, g1, ?_, fun c hc => ?_, him⟩
  · rw [Array.toList_setIfInBounds]
    refine ⟨by simpa using hvr.1, fun j hj hj' => ?_⟩
    cases j with
    | zero => simpa using hv.mono (fun _ _ _ h => h) (fun _ h => h) hcell
    | succ j =>
      have hj1 : j + 1 < cs.toList.length := by simpa using hj'
      have := (hvr.2 (j + 1) (by simpa using hj) hj1).mono (fun _ _ _ h => h) (fun _ h => h) hcell
      simpa [List.getElem_set] using this
  · rcases List.mem_cons.1 hc with rfl | hc
    · exact h1
    · exact hones c (by simp [hc])

/-- (*strings.Builder).copyCheck. -/
theorem copyCheck_ok (L : Lays.n240 P ρ) (X : Builder.X72 P ρ) {id : Nat} {a buf : AV} (ha : a = .nilp ∨ a = .ptr id 0) (hent : σ[id]? = some (.var (ρ.t 72) [a, buf])) :
    ACalls P (ρ.f 240) [.ptr id 0] σ (fun r σ' => r = .tup [] ∧ σ' = σ.set id (.var (ρ.t 72) [.ptr id 0, buf])) := by
  intro base κ Im w vs hs hv
  obtain ⟨v, rfl, hx⟩ := vrl_one hv
  obtain ⟨b, rfl, hk⟩ := hx.ptr_inv
  obtain ⟨b', cs, hk', hbase, hheap, hvr, hones, him⟩ := hs.ent _ _ hent
  rw [hk] at hk'; cases hk'
  obtain ⟨p, q, hpq, hp, hq⟩ := vrl_two hvr
  have hcs : cs = #[p, q] := list_array2 hpq
  subst hcs
  have hsh : w.shape? b = some (ρ.t 72, 2) := by simp [World.shape?, hheap]
  have hc0 : w.cell? ⟨b, 0, none⟩ = some p := by rw [cell_of_row w b 0 _ _ _ hheap]; rfl
  have hfz : w.frozen? ⟨b, 0, none⟩ = false := by simp [World.frozen?, hheap]
  have hself : VR κ Im w (.ptr id 0) (.pointer (some ⟨b, 0, none⟩)) := .ptr id 0 b hk
  rcases ha with rfl | rfl
  · have : p = .pointer none := by cases hp with | im _ _ h => cases h; rfl
    subst this
    refine (Any.Builder_copyCheck_fresh L X b w hc0 hsh hfz).mono ?_
    rintro e w' ⟨rfl, rfl⟩
    obtain ⟨h1, h2⟩ := set_first hs hent hk hself rfl
    exact ⟨_, _, _, κ, Im, rfl, ⟨rfl, rfl⟩, h1, h2, .im _ _ (.tup [] [] rfl (fun j h => by simp at h))⟩
  · obtain ⟨b2, h2, hk2⟩ := hp.ptr_inv
    rw [hk] at hk2; cases hk2
    subst h2
    refine (Any.Builder_copyCheck_used L X b w hc0).mono ?_
    rintro e w' ⟨rfl, rfl⟩
    have hset : σ.set id (.var (ρ.t 72) [.ptr id 0, buf]) = σ := by
      obtain ⟨hlt, he⟩ := List.getElem?_eq_some_iff.1 hent
      rw [← he, List.set_getElem_self]
    exact ⟨_, σ, _, κ, Im, rfl, ⟨rfl, hset.symm⟩, hs, Grow.refl _ _ _ _, .im _ _ (.tup [] [] rfl (fun j h => by simp at h))⟩

set_option maxHeartbeats 1000000 in
set_option maxRecDepth 100000 in
/-- (*strings.Builder).String, of a builder that holds bytes: what is left frozen, and nothing else. -/
theorem string_run (L : Lays.n169 P ρ) (X : Builder.Extra P ρ) {b g cap : Nat} {cs cur : Array Value} (l : List UInt8) (w : World) (hb : w.heap[b]? = some (.cells cs (ρ.t 72) (0, 0))) (h1 : w.cell? ⟨b, 1, none⟩ = some (.slice (some ⟨g, 0, none⟩) l.length cap))
    (hg : w.heap[g]? = some (.cells cur (ρ.t 5) (0, 0))) (hc : cur.size = cap) (hle : l.length ≤ cap) (hmax : cap ≤ maxLen) (hbytes : ∀ j x, l[j]? = some x → w.cell? ⟨g, j, none⟩ = some (.int .u8 x.toNat)) (h0 : l ≠ []) :
    Calls P (ρ.f 169) #[.pointer (some ⟨b, 0, none⟩)] w fun e w' => e = .returned (.string ⟨l.toArray⟩) ∧ w' = w.drew.freeze ⟨g, 0, none⟩ l.length := by
  have hl0 : l.length ≠ 0 := by simpa using h0
  have c1 : w.drew.cell? ⟨b, 1, none⟩ = some (.slice (some ⟨g, 0, none⟩) l.length cap) := h1
  have hSD : (Builtin.unsafeSliceData_ #[(ρ.t 37)] (ρ.t 127) #[.slice (some ⟨g, 0, none⟩) l.length cap]).run P w.drew = .ok (.pointer (some ⟨g, 0, none⟩)) w.drew :=
    Lib.run_unsafeSliceData_row _ _ _ _ _ _ (by omega)
  have hUS : (Builtin.unsafeString_ #[(ρ.t 127), (ρ.t 3)] (ρ.t 9) #[.pointer (some ⟨g, 0, none⟩), .int .i64 l.length]).run P w.drew = .ok (.string ⟨l.toArray⟩) (w.drew.freeze ⟨g, 0, none⟩ l.length) := by
    refine Lib.run_unsafeString_row w.drew (ρ.t 127) (ρ.t 3) (ρ.t 9) (ρ.t 5) L.t127 X.cellsByte g cur.size (by have hg' : w.drew.heap[g]? = some (.cells cur (ρ.t 5) (0, 0)) := hg; simp [World.shape?, hg']) l h0 (by omega) (by unfold maxLen at hmax; omega) ?_
    intro j x hx
    have := hbytes j x hx
    rw [Addr.add_mid, Nat.zero_add]
    exact this
  have mixed := L.mixed
  have t72 := L.t72; have a72 := L.a72; have z72 := L.z72; have v72 := L.v72; have u72 := run_underlying L.t72
  have t70 := L.t70; have a70 := L.a70; have z70 := L.z70; have v70 := L.v70; have u70 := run_underlying L.t70
  have t37 := L.t37; have a37 := L.a37; have z37 := L.z37; have v37 := L.v37; have u37 := run_underlying L.t37
  have t127 := L.t127; have a127 := L.a127; have z127 := L.z127; have v127 := L.v127; have u127 := run_underlying L.t127
  have t3 := L.t3; have a3 := L.a3; have z3 := L.z3; have v3 := L.v3; have u3 := run_underlying L.t3
  have t9 := L.t9; have a9 := L.a9; have z9 := L.z9; have v9 := L.v9; have u9 := run_underlying L.t9
  have t5 := X.t5; have a5 := X.a5; have z5 := X.z5; have v5 := X.v5; have u5 := run_underlying X.t5
  go_enter L.f169, Body.n169_ntmps ρ
  go_wp2
  go_region_o
  all_goals (go_wp2; go_ret; exact ⟨rfl, rfl⟩)

set_option maxHeartbeats 1000000 in
set_option maxRecDepth 100000 in
/-- .. of a builder that holds none. -/
theorem string_run_nil (L : Lays.n169 P ρ) (X : Builder.Extra P ρ) {b : Nat} {cs : Array Value} (w : World) (hb : w.heap[b]? = some (.cells cs (ρ.t 72) (0, 0))) (h1 : w.cell? ⟨b, 1, none⟩ = some (.slice none 0 0)) :
    Calls P (ρ.f 169) #[.pointer (some ⟨b, 0, none⟩)] w fun e w' => e = .returned (.string ⟨#[]⟩) ∧ w' = w.drew := by
  have hUS := Any.unsafeString_none L X
  have c1 : w.drew.cell? ⟨b, 1, none⟩ = some (.slice none 0 0) := h1
  have hSD : (Builtin.unsafeSliceData_ #[(ρ.t 37)] (ρ.t 127) #[.slice none 0 0]).run P w.drew = .ok (.pointer none) w.drew := rfl
  have mixed := L.mixed
  have t72 := L.t72; have a72 := L.a72; have z72 := L.z72; have v72 := L.v72; have u72 := run_underlying L.t72
  have t70 := L.t70; have a70 := L.a70; have z70 := L.z70; have v70 := L.v70; have u70 := run_underlying L.t70
  have t37 := L.t37; have a37 := L.a37; have z37 := L.z37; have v37 := L.v37; have u37 := run_underlying L.t37
  have t127 := L.t127; have a127 := L.a127; have z127 := L.z127; have v127 := L.v127; have u127 := run_underlying L.t127
  have t3 := L.t3; have a3 := L.a3; have z3 := L.z3; have v3 := L.v3; have u3 := run_underlying L.t3
  have t9 := L.t9; have a9 := L.a9; have z9 := L.z9; have v9 := L.v9; have u9 := run_underlying L.t9
  have t5 := X.t5; have a5 := X.a5; have z5 := X.z5; have v5 := X.v5; have u5 := run_underlying X.t5
  go_enter L.f169, Body.n169_ntmps ρ
  go_wp2
  go_region_o
  all_goals (go_wp2; go_ret; exact ⟨rfl, rfl⟩)

/-- A builder: its variable, and the row of its bytes, that lies at m or beyond. -/
def BldAt (T e : TypeId) (m : Nat) (σ : Store) (id : Nat) (bs : List UInt8) : Prop :=
  ∃ a buf, σ[id]? = some (.var T [a, buf]) ∧ (a = .nilp ∨ a = .ptr id 0) ∧ ((buf = .nils ∧ bs = []) ∨ ∃ rid, buf = .row rid bs.length ∧ bs ≠ [] ∧ m ≤ rid ∧ rid ≠ id ∧ σ[rid]? = some (.row e 1 (byteEls bs) true))

theorem freeze_heap {w : World} {g n : Nat} {cur : Array Value} {e : TypeId} (hg : w.heap[g]? = some (.cells cur e (0, 0))) (hn : n ≠ 0) :
    (w.freeze ⟨g, 0, none⟩ n).heap[g]? = some (.cells cur e (0, n)) ∧ (∀ k, k ≠ g → (w.freeze ⟨g, 0, none⟩ n).heap[k]? = w.heap[k]?) ∧ (w.freeze ⟨g, 0, none⟩ n).heap.size = w.heap.size := by
  have hlt := (Array.getElem?_eq_some_iff.1 hg).1
  simp only [World.freeze, hn, if_false]
  refine ⟨?_, fun k hk => ?_, by simp⟩
  · rw [Array.getElem?_modify]; simp [hg]
  · rw [Array.getElem?_modify, if_neg (Ne.symm hk)]

/-- (*strings.Builder).String. -/
theorem string_ok (L : Lays.n169 P ρ) (X : Builder.Extra P ρ) {m id : Nat} {bs : List UInt8} (hb : BldAt (ρ.t 72) (ρ.t 5) m σ id bs) :
    ACalls P (ρ.f 169) [.ptr id 0] σ (fun r σ' => r = .str bs ∧ σ'.length = σ.length ∧ ∀ j, j < m ∨ j = id → σ'[j]? = σ[j]?) := by
  intro base κ Im w vs hs hv
  obtain ⟨v, rfl, hx⟩ := vrl_one hv
  obtain ⟨b, rfl, hk⟩ := hx.ptr_inv
  obtain ⟨a, buf, hent, ha, hbuf⟩ := hb
  obtain ⟨b', cs, hk', hbase, hheap, hvr, hones, him⟩ := hs.ent _ _ hent
  rw [hk] at hk'; cases hk'
  obtain ⟨p, q, hpq, hp, hq⟩ := vrl_two hvr
  have hcs : cs = #[p, q] := list_array2 hpq
  subst hcs
  have hc1 : w.cell? ⟨b, 1, none⟩ = some q := by rw [cell_of_row w b 1 _ _ _ hheap]; rfl
  have hdrew : Grow base κ Im w κ Im w.drew := ⟨fun _ _ _ h => h, fun _ h => h, fun _ _ => rfl, fun _ h => .inl h, ⟨rfl, rfl, rfl, Nat.le_refl _, fun _ _ => rfl⟩⟩
  have hsd : SRel base κ Im σ w.drew := hs.world (fun _ h => h) (fun _ h => .inl h) (Nat.le_refl _) (fun _ _ => rfl)
  rcases hbuf with ⟨rfl, rfl⟩ | ⟨rid, rfl, hnz, hm, hne, hrow⟩
  · have := hq.nils_inv
    subst this
    refine (string_run_nil L X w hheap hc1).mono ?_
    rintro e w' ⟨rfl, rfl⟩
    exact ⟨_, σ, _, κ, Im, rfl, ⟨rfl, rfl, fun _ _ => rfl⟩, hsd, hdrew, .im _ _ (.str [])⟩
  · obtain ⟨v0, xs, hv0, hown, hvr2, hpos2, hlens, hones2, hir, him2⟩ := hs.ent _ _ hrow
    have hbl : (byteEls bs).length = bs.length := by simp [byteEls]
    have hl0 : bs.length ≠ 0 := by simpa using hnz
    obtain ⟨g0, cap, rfl, hk2⟩ := hq.row_inv
    rw [hbl] at hv0 hown
    rw [hk2] at hv0; cases hv0
    obtain ⟨g, cur, rfl, hbg, hg, hnc, hcm, hcs, htake⟩ : ∃ g cur, g0 = some ⟨g, 0, none⟩ ∧ base ≤ g ∧ w.heap[g]? = some (.cells cur (ρ.t 5) (0, 0)) ∧ bs.length ≤ cap ∧ cap ≤ maxLen ∧ cur.size = cap * 1 ∧ cur.toList.take (bs.length * 1) = xs := by
      rcases hown.2 with ⟨_, hz⟩ | ⟨g, cap', cur, hv, r1, r2, r3, r4, r5, r6⟩
      · exact absurd hz hl0
      · simp only [Value.slice.injEq] at hv
        obtain ⟨rfl, _, rfl⟩ := hv
        exact ⟨g, cur, rfl, r1, r2, r3, r4, r5, r6⟩
    have hxs : xs = Lib.strCells ⟨bs.toArray⟩ := by
      have h1 := byteEls_ir (Im := Im) (w := w) bs
      have h2 := hir rfl
      refine List.ext_getElem (by rw [← h2.1, h1.1]) fun j hj hj' => ?_
      have q1 := h1.2 j (by rw [h1.1]; exact hj') hj'
      have q2 := h2.2 j (by rw [h2.1]; exact hj) hj
      simp only [byteEls_flat, List.getElem_map] at q1 q2
      have e1 := (VR.im (κ := κ) _ _ q1).int_inv
      have e2 := (VR.im (κ := κ) _ _ q2).int_inv
      rw [e1, e2]
    have hbytes : ∀ j x, bs[j]? = some x → w.cell? ⟨g, j, none⟩ = some (.int .u8 x.toNat) := by
      intro j x hx
      have := hown.cells (g := g) rfl j (.int .u8 x.toNat) (by rw [hxs]; simp [Lib.strCells, hx])
      rwa [Addr.add_mid, Nat.zero_add] at this
    refine (string_run L X bs w hheap hc1 hg (by omega) hnc hcm hbytes hnz).mono ?_
    rintro e w' ⟨rfl, rfl⟩
    have hg' : w.drew.heap[g]? = some (.cells cur (ρ.t 5) (0, 0)) := hg
    obtain ⟨f1, f2, f3⟩ := freeze_heap hg' hl0
    have hcell : ∀ a, Im a → (w.drew.freeze ⟨g, 0, none⟩ bs.length).cell? a = w.cell? a := by
      intro a ha
      by_cases hab : a.block = g
      · have hsp := (hs.imlt a ha).2
        have had : a = ⟨g, a.off, none⟩ := by cases a; simp_all
        rw [had, cell_of_row _ g a.off _ _ _ f1, cell_of_row w g a.off _ _ _ hg]
      · exact World.cell?_of_block (f2 _ hab)
    have hblk : (Entry.row (ρ.t 5) 1 (byteEls bs) true).block κ rid = some g := by simp [Entry.block, hbl, hk2, Value.ownBlock]
    have hfz : ∀ (a : Addr) (n : Nat) (w : World), (w.freeze a n).os = w.os ∧ (w.freeze a n).tape = w.tape ∧ (w.freeze a n).output = w.output := by
      intro a n w
      unfold World.freeze
      split <;> exact ⟨rfl, rfl, rfl⟩
    obtain ⟨z1, z2, z3⟩ := hfz ⟨g, 0, none⟩ bs.length w.drew
    refine ⟨.str bs, σ.set rid (.dead bs.length), _, κ, Im, rfl, ⟨rfl, by simp, fun j hj => ?_⟩, ?_, ⟨fun _ _ _ h => h, fun _ h => h, hcell, fun _ h => .inl h, ⟨z1, z2, z3, by rw [f3]; exact Nat.le_refl _, fun k hk' => f2 k (by omega)⟩⟩, .im _ _ (.str bs)⟩
    · rw [List.getElem?_set_ne]
      rintro rfl
      rcases hj with hj | hj
      · omega
      · exact hne hj
    · exact hs.set hrow (.dead bs.length) (fun _ _ _ h => h) (fun _ _ _ h => .inl h) (by simp [Entry.ver, hbl]) (fun _ h => h) hcell (fun _ h => .inl h) (by rw [f3]; exact Nat.le_refl _) (fun k _ hk' => f2 k (fun he => hk' (by rw [he]; exact hblk))) trivial (fun b' hb' => by simp [Entry.block] at hb')
end
end Go.Abs
