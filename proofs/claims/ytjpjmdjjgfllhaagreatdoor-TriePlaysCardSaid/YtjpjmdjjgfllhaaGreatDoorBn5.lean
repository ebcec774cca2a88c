/- Tries: walk, Paths (the program). The nodes that a pattern fits: of a list, and of a trie, in plain Lean. Tries: Paths (the program). The shelf's cont -/
import Derived.Shelf.SlSortCmp.WholeK
import Derived.Shelf.SlGeneric
import Derived.Ground.SlsfProg
import Derived.Shelf.SlIter.Collect
import Derived.Shelf.SlIter.Nil
import Derived.Ground.GgzProg
import Derived.Test.YtjpjmdjjgfllhaaGreatDoorProg
import Derived.Test.YtjpjmdjjgfllhaaGreatDoorAbs2
import Derived.KernelRfl
import Derived.Shelf.SlSortCmp.InsertionK
import Derived.Shelf.SlSortCmp.NoneTotal
import Derived.Test.YtjpjmdjjgfllhaaGreatDoorBn1
import Derived.Test.YtjpjmdjjgfllhaaGreatDoorBn2
import Derived.Test.YtjpjmdjjgfllhaaGreatDoorBn3
import Derived.Test.YtjpjmdjjgfllhaaGreatDoorBn4
set_option linter.unusedSimpArgs false
set_option linter.unusedVariables false
set_option linter.constructorNameAsVariable false
section
set_option maxHeartbeats 4000000
namespace Go.Abs
open Go.Trie
/-- A slice that grows, anywhere in the store; 'im': its elements never change. -/
def AccB (im : Bool) (te size : Nat) (σ : Store) (v : AV) (l : List (List AV)) : Prop := (l = [] ∧ v = .nils) ∨ (l ≠ [] ∧ ∃ id, v = .row id l.length ∧ σ[id]? = some (.row te size l im))
/-- What a call that adds to a slice behind a pointer leaves. -/
structure Grown (σ σ' : Store) (p : Nat) (v v' : AV) : Prop where
  kept : Kept σ σ'
  off : ∀ (i : Nat) (e : Entry), σ[i]? = some e → i ≠ p → (∀ m, v ≠ .row i m) → σ'[i]? = some e
  new : ∀ i m, v' = .row i m → i < σ.length → ∃ m', v = .row i m'
variable {σ σ' σ'' : Store} {p : Nat} {v v' v'' : AV}
theorem Grown.refl (σ : Store) (p : Nat) (v : AV) : Grown σ σ p v v := ⟨Kept.refl σ, fun _ _ h _ _ => h, fun i m h _ => ⟨m, h⟩⟩
theorem Grown.trans (h : Grown σ σ' p v v') (h' : Grown σ' σ'' p v' v'') : Grown σ σ'' p v v'' :=
  ⟨h.kept.trans h'.kept, fun i e he hp hv => h'.off i e (h.off i e he hp hv) hp fun m hm => by
    obtain ⟨m', hm'⟩ := h.new i m hm (List.getElem?_eq_some_iff.1 he).1
    exact hv m' hm', fun i m hm hi => by
    obtain ⟨m', hm'⟩ := h'.new i m hm (Nat.lt_of_lt_of_le hi h.kept.len)
    exact h.new i m' hm' hi⟩
theorem Grown.app (h : Grown σ σ' p v v') {x : Entry} (hx : x.under (σ'.length + 1) = true) : Grown σ (σ' ++ [x]) p v v' :=
  ⟨h.kept.app hx, fun i e he hp hv => get_app (h.off i e he hp hv), h.new⟩
/-- An entry that came with the call is laid anew. -/
theorem Grown.set (h : Grown σ σ' p v v') {q : Nat} {x : Entry} (hq : σ.length ≤ q) (hx : x.under σ'.length = true) : Grown σ (σ'.set q x) p v v' :=
  ⟨h.kept.set q hx, fun i e he hp hv => by
    have := (List.getElem?_eq_some_iff.1 he).1
    rw [set_off (by omega)]
    exact h.off i e he hp hv, h.new⟩
theorem Grown.ptr (h : Grown σ σ' p v v') {T : TypeId} (hx : v'.under σ'.length = true) : Grown σ (σ'.set p (.var T [v'])) p v v' :=
  ⟨h.kept.set p (by simpa [Entry.under] using hx), fun i e he hp hv => by
    rw [set_off (Ne.symm hp)]
    exact h.off i e he hp hv, h.new⟩
theorem AccB.keep {im : Bool} {te size : Nat} {l : List (List AV)} (h : AccB im te size σ v l) (hk : ∀ (i : Nat) (e : Entry), σ[i]? = some e → v = .row i l.length → σ'[i]? = some e) : AccB im te size σ' v l := by
  rcases h with h | ⟨h1, id, h2, h3⟩
  · exact .inl h
  · exact .inr ⟨h1, id, h2, hk id _ h3 h2⟩
theorem AccB.under {im : Bool} {te size : Nat} {l : List (List AV)} (h : AccB im te size σ v l) : v.under σ.length = true := by
  rcases h with ⟨_, rfl⟩ | ⟨_, id, rfl, h3⟩
  · simp [AV.under]
  · have := (List.getElem?_eq_some_iff.1 h3).1
    simp [AV.under]; omega
theorem AccB.one {im : Bool} {te size : Nat} {l : List (List AV)} (h : AccB im te size σ v l) : v.one = true ∧ v.cells = [v] := by
  rcases h with ⟨_, rfl⟩ | ⟨_, id, rfl, _⟩ <;> exact ⟨rfl, rfl⟩
/-- Where it stands there is a row. -/
theorem AccB.row {im : Bool} {te size : Nat} {l : List (List AV)} (h : AccB im te size σ v l) {i m : Nat} (hv : v = .row i m) : m = l.length ∧ σ[i]? = some (.row te size l im) := by
  rcases h with ⟨_, rfl⟩ | ⟨_, id, rfl, h3⟩
  · cases hv
  · cases hv; exact ⟨rfl, h3⟩
theorem AccB.of_I {te size : Nat} {l : List (List AV)} (h : AccI te size σ v l) : AccB true te size σ v l := h
/-- .. where nothing else is written. -/
structure GrownB (σ σ' : Store) (v v' : AV) : Prop where
  kept : Kept σ σ'
  off : ∀ (i : Nat) (e : Entry), σ[i]? = some e → (∀ m, v ≠ .row i m) → σ'[i]? = some e
  new : ∀ i m, v' = .row i m → i < σ.length → ∃ m', v = .row i m'
theorem GrownB.at (h : GrownB σ σ' v v') (p : Nat) : Grown σ σ' p v v' := ⟨h.kept, fun i e he _ hv => h.off i e he hv, h.new⟩
theorem ap_accB (im : Bool) {K : AV → Store → Prop} {t : Tg K} {te size bytes : Nat} {l : List (List AV)} (h : AccB im te size σ v l) (x : List AV) (hs : 0 < size) (hx : x.length = size) (hp : ∀ c ∈ l ++ [x], ∀ a ∈ c, a.pure = true) (hb : (l.length + 1) * bytes ≤ 140737488355328) (h63 : l.length + 1 ≤ 9223372036854775807)
    (hK : ∀ v' σ', AccB im te size σ' v' (l ++ [x]) → GrownB σ σ' v v' → K v' σ') : ap K t σ te size bytes v (.lst [x]) := by
  have hu : ∀ m, (Entry.row te size (l ++ [x]) im).under m = true := fun m => by
    simp only [Entry.under, List.all_eq_true]
    exact fun c hc a ha => pure_under' (hp c hc a ha) m
  rcases h with ⟨rfl, rfl⟩ | ⟨h1, id, rfl, h3⟩
  · refine ap_new im [x] rfl hs (by simp [hx]) (fun _ => .inl rfl) (by simpa using hb) (by simp) ?_
    exact hK (.row σ.length 1) (σ ++ [.row te size [x] im]) (.inr ⟨by simp, σ.length, by simp, by simp⟩) ⟨(Kept.refl σ).app (hu _), fun i e he _ => get_app he, fun i m hm hi => by cases hm; omega⟩
  · have hlt := (List.getElem?_eq_some_iff.1 h3).1
    refine ap_row l [x] im h3 rfl hs (by simp [hx]) (fun _ => .inl rfl) rfl (by simpa using hb) (by simpa using h63) ?_
    exact hK (.row id (l.length + 1)) (σ.set id (.row te size (l ++ [x]) im)) (.inr ⟨by simp, id, by simp, by simp [hlt]⟩) ⟨(Kept.refl σ).set id (hu _), fun i e he hv => by
      rw [set_off (fun e => hv l.length (by rw [e]))]; exact he, fun i m hm _ => by cases hm; exact ⟨_, rfl⟩⟩
/-- Nodes stay where a call only adds. -/
theorem Grown.node {T : TypeId} {im : Bool} {te size : Nat} {l : List (List AV)} {c : AV} (h : Grown σ σ' p v v') (hp : σ[p]? = some (.var T [c])) (ha : AccB im te size σ v l) {a : Nat} {e : Entry} (he : σ[a]? = some e) (hn : NodeE e) : σ'[a]? = some e := by
  refine h.off a e he ?_ ?_
  · rintro rfl
    rw [hp] at he
    cases he
    rcases hn with ⟨_, _, _, _, h⟩ | ⟨_, h⟩ <;> cases h
  · intro m hm
    have := (ha.row hm).2
    rw [he] at this
    cases this
    rcases hn with ⟨_, _, _, _, h⟩ | ⟨_, h⟩ <;> cases h
theorem Grown.na {T : TypeId} {im : Bool} {te size : Nat} {l : List (List AV)} {c : AV} (h : Grown σ σ' p v v') (hp : σ[p]? = some (.var T [c])) (ha : AccB im te size σ v l) {id : Nat} {rest : List AV} {lf : Bool} {F : Fo} {fp : List Nat} (hN : NA σ id rest lf F fp) : NA σ' id rest lf F fp :=
  hN.congr fun a hx => by
    obtain ⟨e, he, hn⟩ := hN.kind a hx
    rw [he]
    exact h.node hp ha he hn
theorem perm_range {α : Type} {n : Nat} {vs : List Nat} (g : Nat → List α) (h : vs.Perm (List.range n)) : (vs.flatMap g).Perm ((List.range n).flatMap g) := h.flatMap_right g
theorem range_flat {α β : Type} (l : List α) (g : α → List β) : ((List.range l.length).flatMap fun j => (l[j]?).elim [] g) = l.flatMap g := by
  induction l with
  | nil => rfl
  | cons a l ih =>
    rw [List.length_cons, List.range_succ_eq_map, List.flatMap_cons, List.flatMap_map]
    simp only [List.getElem?_cons_zero, List.flatMap_cons, Function.comp_def, List.getElem?_cons_succ, Option.elim_some]
    rw [ih]
/-- What stands between two parts of a piece of code, once. -/
theorem awp_cutJ [Globs] {P : Program} {a b : ACode} {Q : AExit → Frame → Store → Prop} {f : Frame} {σ : Store} (J : Frame → Store → Prop) (h1 : awp P a (joinB J (.mk _) fun _ _ _ => False) f σ) (h2 : ∀ f σ, J f σ → awp P b Q f σ) : awp P (.seq a b) Q f σ := by
  rw [awp_seq]
  refine awp_mono (fun e f σ h0 => ?_) h1
  cases e with
  | normal => exact h2 _ _ h0
  | exit _ => exact h0.elim
  | ret => exact h0.elim
theorem tight_of {te size : Nat} {l : List (List AV)} {n : Nat} (h : AccI te size σ v l) (hs : ∀ c ∈ l, c.length = size) (hn : n = l.length) : sl3Step σ size (some n) (some n) v = some (.tight l) := by
  subst hn
  rcases h with ⟨rfl, rfl⟩ | ⟨h1, id, rfl, h3⟩
  · simp [sl3Step]
  · simp [sl3Step, h3]
theorem erase_flat {α : Type} (g : Nat → List α) {left : List Nat} {i : Nat} (h : i ∈ left) : (left.flatMap g).Perm (g i ++ (left.erase i).flatMap g) := by
  have := (List.perm_cons_erase h).flatMap_right g
  simpa using this
end Go.Abs
namespace Go.Proofs.YtjpjmdjjgfllhaaGreatDoor
open Go.Abs Go.Glob Go.Trail Go.Trie
variable {G : Globs}
theorem paths1_ok {σ : Store} {v : AV} {names : List Tx} {p : Nat} {T : TypeId} {acc : AV} {L : List Tx} (hv : AccI 9 1 σ v (strEls names)) (hp : σ[p]? = some (.var T [acc])) (ha : AccB false 9 1 σ acc (strEls L)) (hn : names.length ≤ 1000) (hj : (join names).length ≤ 140737488355328) (hL : L.length ≤ 1000000) :
    ACalls Tryz.prog n_trie_Trie_Paths_1 [v, .ptr p 0] σ (fun r σ' => r = .tup [] ∧ ∃ acc', σ'[p]? = some (.var T [acc']) ∧ AccB false 9 1 σ' acc' (strEls (L ++ [join names])) ∧ Grown σ σ' p acc acc') := by
  refine acalls_of_awp_e hmix c_trie_Trie_Paths_1 rfl ?_
  have hplt := (List.getElem?_eq_some_iff.1 hp).1
  have hpa : ∀ m, acc ≠ .row p m := fun m hm => by
    have := (ha.row hm).2
    rw [hp] at this; cases this
  simp [a_trie_Trie_Paths_1, cellsAt, hp]
  refine qc_lent (join_ok names hj (by omega)) (.cons (hv.coe true) (.cons (.pure _ (by simp [AV.pure])) .nil)) (by simp [rig]) ?_
  simp
  refine ap_accB false (bytes := 16) ha [.str (join names)] (by decide) rfl (by rw [els_app1]; exact els_pure _) (by rw [els_len]; omega) (by rw [els_len]; omega) fun acc' σ' hacc hg => ?_
  have hG := hg.at p
  have hp1 : σ'[p]? = some (.var T [acc]) := hg.off p _ hp hpa
  have hplt' := (List.getElem?_eq_some_iff.1 hp1).1
  obtain ⟨h1, h2⟩ := hacc.one
  have hG2 := hG.ptr (T := T) hacc.under
  simp [h1, h2, putAt, hp1, splice]
  refine er_keep (σ'.set p (.var T [acc'])) (.tup []) (by simp [tupOf]) [] (by simp) hG2.kept.len (by simp [AV.under]) hG2.kept.und ⟨rfl, acc', by simp [hplt'], ?_, hG2⟩
  rw [els_app1] at hacc
  refine hacc.keep fun i e he hv => ?_
  rw [set_off]
  · exact he
  · rintro rfl
    have := (hacc.row hv).2
    rw [hp1] at this; cases this
/-- What walks find: of what length. -/
def BdN (names : List Tx) (lf : Bool) (F : Fo) : Prop := F.ok ∧ ∀ ms ∈ lvN lf F, (names ++ ms).length ≤ 8 ∧ (join (names ++ ms)).length ≤ 1000000
theorem toL_ok {F : Fo} (h : F.ok) : ∀ {j : Nat} {x : Tx × Bool × Fo}, (Fo.toL F)[j]? = some x → x.2.2.ok ∧ (x.2.1 = true ∨ x.2.2.isNil = false) := by
  induction F with
  | nil => intro j x hx; simp [Fo.toL] at hx
  | cons n lf s r _ ih =>
    intro j x hx
    cases j with
    | zero => simp [Fo.toL] at hx; subst hx; exact ⟨h.2.2.2.1, h.2.2.1⟩
    | succ j => exact ih h.2.2.2.2 (by simpa [Fo.toL] using hx)
theorem mem_kid {lf : Bool} {F : Fo} {x : Tx × Bool × Fo} {j : Nat} (hx : (Fo.toL F)[j]? = some x) {ms : List Tx} (hm : ms ∈ lvN x.2.1 x.2.2) : x.1 :: ms ∈ lvN lf F := by
  simp only [lvN, List.mem_append]
  right
  rw [lv_toL, List.mem_flatMap]
  exact ⟨x, List.mem_of_getElem? hx, List.mem_map.2 ⟨ms, hm, rfl⟩⟩
theorem lvN_some {lf : Bool} {F : Fo} (h : F.ok) (h2 : lf = true ∨ F.isNil = false) : ∃ ms, ms ∈ lvN lf F := by
  rcases h2 with h2 | h2
  · subst h2; exact ⟨[], by simp [lvN]⟩
  · obtain ⟨ms, hm, _⟩ := lv_some h h2
    exact ⟨ms, by simp [lvN, hm]⟩
theorem BdN.kid {names : List Tx} {lf : Bool} {F : Fo} (h : BdN names lf F) {j : Nat} {x : Tx × Bool × Fo} (hx : (Fo.toL F)[j]? = some x) : BdN (names ++ [x.1]) x.2.1 x.2.2 ∧ names.length + 1 ≤ 8 := by
  obtain ⟨h1, h2⟩ := toL_ok h.1 hx
  refine ⟨⟨h1, fun ms hm => ?_⟩, ?_⟩
  · have := h.2 _ (mem_kid hx hm)
    simpa using this
  · obtain ⟨ms, hm⟩ := lvN_some h1 h2
    have := (h.2 _ (mem_kid hx hm)).1
    simp at this
    omega
def WalkR (σ : Store) (p : Nat) (T : TypeId) (acc : AV) (L : List Tx) (out : List Tx) (r : AV) (σ' : Store) : Prop := r = .tup [] ∧ ∃ acc' M, σ'[p]? = some (.var T [acc']) ∧ AccB false 9 1 σ' acc' (strEls (L ++ M)) ∧ M.Perm out ∧ Grown σ σ' p acc acc'
theorem twalk_ok (F : Fo) (lf : Bool) {σ : Store} {id : Nat} {rest : List AV} {fp : List Nat} {v : AV} {names : List Tx} {p : Nat} {T : TypeId} {acc : AV} {L : List Tx} (h : NA σ id rest lf F fp) (hv : AccI 9 1 σ v (strEls names)) (hp : σ[p]? = some (.var T [acc])) (ha : AccB false 9 1 σ acc (strEls L)) (hd : BdN names lf F) (hL : L.length + (lvN lf F).length ≤ 1000000) :
    ACalls Tryz.prog n_trie_node_walk [.ptr id 0, v, .fn (.func n_trie_Trie_Paths_1) [] [.ptr p 0]] σ (WalkR σ p T acc L ((lvN lf F).map fun ms => join (names ++ ms))) := by
  refine acalls_of_awp_e hmix c_trie_node_walk rfl ?_
  obtain ⟨t, k, fpk, h1, h2, hfp⟩ := h
  have hplt := (List.getElem?_eq_some_iff.1 hp).1
  have hlt := (List.getElem?_eq_some_iff.1 h1).1
  have hnode : NodeE (.var t (k :: .bool lf :: rest)) := .inl ⟨_, _, _, _, rfl⟩
  have hone : ∀ c ∈ strEls names, c.length = 1 := by intro c hc; simp [strEls] at hc; obtain ⟨a, _, rfl⟩ := hc; rfl
  refine awp_cutJ (fun f τ => f 0 = .ptr id 0 ∧ f 1 = v ∧ f 2 = .fn (.func n_trie_Trie_Paths_1) [] [.ptr p 0] ∧ ∃ acc1, τ[p]? = some (.var T [acc1]) ∧ AccB false 9 1 τ acc1 (strEls (L ++ (if lf = true then [join names] else []))) ∧ Grown σ τ p acc acc1) ?_ ?_
  · simp [cellsAt, h1]
    cases lf with
    | false =>
      simp
      exact jn_intro ⟨by simp [initF], by simp [initF], by simp [initF], acc, hp, by simpa using ha, Grown.refl _ _ _⟩
    | true =>
      have hb := hd.2 [] (by simp [lvN])
      simp only [List.append_nil] at hb
      simp
      refine cv_fn b_trie_Trie_Paths_1 ?_
      refine ac_eff (paths1_ok hv hp ha (by omega) (by omega) (by omega)) ?_
      rintro r σ1 ⟨rfl, acc1, g1, g2, g3⟩
      simp
      exact jn_intro ⟨by simp [initF], by simp [initF], by simp [initF], acc1, g1, by simpa using g2, g3⟩
  rintro f τ ⟨f0, f1, f2, acc1, g1, g2, g3⟩
  obtain ⟨M0, hM0⟩ : ∃ M0, M0 = (if lf = true then [join names] else []) := ⟨_, rfl⟩
  rw [← hM0] at g2
  have hlen := g3.kept.len
  have t1 := g3.node hp ha h1 hnode
  rcases h2 with ⟨rfl, rfl, rfl⟩ | ⟨m, kv, fp1, rfl, h3, rfl, h4⟩
  · simp [f0, cellsAt, t1]
    have hend : ∀ σ', σ' = τ ++ [.itr none 0 [] 0] → WalkR σ p T acc L ((lvN lf .nil).map fun ms => join (names ++ ms)) (.tup []) σ' := by
      rintro σ' rfl
      refine ⟨rfl, acc1, M0, get_app g1, g2.keep fun i e he _ => get_app he, ?_, g3.app (by simp [Entry.under])⟩
      rw [hM0]
      cases lf <;> simp [lvN, lv]
    refine lp_startx (fun x f σ' => f 19 = .ptr τ.length 0 ∧ σ' = τ ++ [.itr none 0 [] 0]) 0 ⟨by simp, by simp⟩ ?_
    rintro x f σ' ⟨f19, rfl⟩
    simp [f19]
    refine nt_intro (mid := none) (n := 0) (last := 0) (left := []) (by simp) (fun _ => ?_) (fun i hi => by cases hi)
    simp
    refine er_keep (τ ++ [.itr none 0 [] 0]) (.tup []) (by simp [tupOf, a_trie_node_walk]) [] (by simp) (by simp; omega) (by simp [AV.under]) (g3.app (x := .itr none 0 [] 0) (by simp [Entry.under])).kept.und (hend _ rfl)
  · have t2 : τ[m]? = some (.mp kv) := g3.node hp ha h3 (.inr ⟨_, rfl⟩)
    have hmlt := (List.getElem?_eq_some_iff.1 h3).1
    obtain ⟨hkl, hnth⟩ := h4.nth
    obtain ⟨q, hq⟩ : ∃ q, q = τ.length := ⟨_, rfl⟩
    obtain ⟨g, hg⟩ : ∃ g : Nat → List Tx, g = fun j => ((Fo.toL F)[j]?).elim [] fun x => (lvN x.2.1 x.2.2).map (fun ms => join (names ++ (x.1 :: ms))) := ⟨_, rfl⟩
    have hall : M0 ++ (List.range kv.length).flatMap g = (lvN lf F).map fun ms => join (names ++ ms) := by
      rw [hkl, hg, range_flat (Fo.toL F) (fun x => (lvN x.2.1 x.2.2).map (fun ms => join (names ++ (x.1 :: ms)))), hM0]
      rw [show lvN lf F = (if lf then [[]] else []) ++ lv F from rfl, lv_toL F]
      simp only [List.map_append, List.map_flatMap, List.map_map, Function.comp_def]
      cases lf <;> simp
    have hcnt : M0.length + ((List.range kv.length).flatMap g).length = (lvN lf F).length := by
      have := congrArg List.length hall
      simpa using this
    simp [f0, cellsAt, t1, t2]
    refine lp_startx (fun x f σ' => ∃ (left : List Nat) (last : Nat) (vs : List Nat) (acc' : AV) (M : List Tx), x = left.length ∧ f 1 = v ∧ f 2 = .fn (.func n_trie_Trie_Paths_1) [] [.ptr p 0] ∧ f 19 = .ptr q 0 ∧ σ'[q]? = some (.itr (some m) kv.length left last) ∧ (vs ++ left).Perm (List.range kv.length) ∧ σ'[p]? = some (.var T [acc']) ∧ AccB false 9 1 σ' acc' (strEls (L ++ M)) ∧ M.Perm (M0 ++ vs.flatMap g) ∧ Grown σ σ' p acc acc' ∧ ∀ n, acc' ≠ .row q n) kv.length
      ⟨List.range kv.length, kv.length, [], acc1, M0, by simp, by simp [f1], by simp [f2], by simp [hq], by simp [hq], by simp, get_app g1, g2.keep fun i e he _ => get_app he, by simp, g3.app (by simp [Entry.under]; omega), fun n hn => by
        have := (List.getElem?_eq_some_iff.1 (g2.row hn).2).1
        omega⟩ ?_
    rintro x f σ' ⟨left, last, vs, acc', M, hx, e1, e2, e19, eq, eperm, ep, ea, eM, eG, ene⟩
    simp [e19]
    have hlen' := eG.kept.len
    refine nt_intro eq (fun hl0 => ?_) (fun i hi => ?_)
    · subst hl0
      simp
      refine er_keep σ' (.tup []) (by simp [tupOf, a_trie_node_walk]) [] (by simp) eG.kept.len (by simp [AV.under]) eG.kept.und ⟨rfl, acc', M, ep, ea, ?_, eG⟩
      rw [← hall]
      refine eM.trans ((perm_range g ?_).append_left _)
      simpa using eperm
    · have hin : i < kv.length := by
        have : i ∈ List.range kv.length := eperm.mem_iff.1 (by simp [hi])
        simpa using this
      obtain ⟨y, hy⟩ : ∃ y, kv[i]? = some y := ⟨_, List.getElem?_eq_getElem hin⟩
      obtain ⟨xk, idk, fpk, k1, k2, k3, k4⟩ := hnth i y hy
      obtain ⟨hbk, hb8⟩ := hd.kid k1
      obtain ⟨τ2, hτ2⟩ : ∃ τ2 : Store, τ2 = σ'.set q (.itr (some m) kv.length (left.erase i) i) := ⟨_, rfl⟩
      rw [← hτ2]
      have hql : q < σ'.length := (List.getElem?_eq_some_iff.1 eq).1
      have hpq : p ≠ q := by omega
      have G2 : Grown σ τ2 p acc acc' := by rw [hτ2]; exact eG.set (by omega) (by simp [Entry.under]; omega)
      have p2 : τ2[p]? = some (.var T [acc']) := by rw [hτ2, set_off (Ne.symm hpq)]; exact ep
      have a2 : AccB false 9 1 τ2 acc' (strEls (L ++ M)) := ea.keep fun j e he hv => by
        rw [hτ2, set_off (fun e => ene _ (by rw [hv, e]))]; exact he
      have q2 : τ2[q]? = some (.itr (some m) kv.length (left.erase i) i) := by rw [hτ2]; exact List.getElem?_set_self hql
      have m2 : τ2[m]? = some (.mp kv) := G2.node hp ha h3 (.inr ⟨_, rfl⟩)
      have v2 : AccI 9 1 τ2 v (strEls names) := hv.keep fun j e he hvv => by
        refine G2.off j e he ?_ ?_
        · rintro rfl
          rcases hv with ⟨_, h⟩ | ⟨_, id', h, hr⟩
          · rw [h] at hvv; cases hvv
          · rw [h] at hvv; cases hvv
            rw [hp] at hr; cases hr
        · intro n hn
          rcases hv with ⟨_, h⟩ | ⟨_, id', h, hr⟩
          · rw [h] at hvv; cases hvv
          · rw [h] at hvv; cases hvv
            have := (ha.row hn).2
            rw [hr] at this; simp at this
      have hent : entStep τ2 (.ptr q 0) = some (.tup [.str xk.1, .ptr idk 0]) := by
        simp [entStep, q2, m2, hy, k2]
      have hsl := tight_of (n := names.length) v2 hone (els_len names).symm
      have hvw := v2.view
      simp [e1, e2, e19, hent, hvw, els_len, hsl]
      refine ap_tight true [[.str xk.1]] rfl (by decide) (by simp) hone (by simp) (fun _ => .inl rfl) (by rw [els_len]; simp; omega) (by rw [els_len]; simp; omega) ?_
      simp [e2, els_len]
      obtain ⟨τ3, hτ3⟩ : ∃ τ3 : Store, τ3 = τ2 ++ [.row 9 1 (strEls names ++ [[.str xk.1]]) true] := ⟨_, rfl⟩
      rw [← hτ3]
      have G3 : Grown σ τ3 p acc acc' := by
        rw [hτ3]
        refine G2.app ?_
        simp only [Entry.under, List.all_eq_true, els_app1]
        exact fun c hc a ha => pure_under' (els_pure _ c hc a ha) _
      have p3 : τ3[p]? = some (.var T [acc']) := by rw [hτ3]; exact get_app p2
      have a3 : AccB false 9 1 τ3 acc' (strEls (L ++ M)) := a2.keep fun j e he _ => by rw [hτ3]; exact get_app he
      have q3 : τ3[q]? = some (.itr (some m) kv.length (left.erase i) i) := by rw [hτ3]; exact get_app q2
      have n3 : NA τ3 idk [] xk.2.1 xk.2.2 fpk := G3.na hp ha k3
      have r3 : AccI 9 1 τ3 (.row τ2.length (names.length + 1)) (strEls (names ++ [xk.1])) := by
        rw [hτ3, ← els_app1]
        exact .inr ⟨by simp, τ2.length, by simp [els_len], by simp⟩
      have hgi : g i = (lvN xk.2.1 xk.2.2).map (fun ms => join (names ++ (xk.1 :: ms))) := by rw [hg]; simp only [k1, Option.elim_some]
      have hML := eM.length_eq
      have hLP := (eperm.flatMap_right g).length_eq
      have hLE := (erase_flat g hi).length_eq
      rw [List.flatMap_append] at hLP
      simp only [List.length_append] at hML hLP hLE
      have hgl := congrArg List.length hgi
      rw [List.length_map] at hgl
      have hbound : (L ++ M).length + (lvN xk.2.1 xk.2.2).length ≤ 1000000 := by
        rw [List.length_append]
        omega
      have hsz := toL_size (List.mem_of_getElem? k1)
      refine ac_eff (twalk_ok xk.2.2 xk.2.1 n3 r3 p3 a3 hbk hbound) ?_
      rintro r σ4 ⟨rfl, acc4, M4, p4, a4, hM4, G4⟩
      simp
      refine nx_intro (left.erase i).length (by rw [List.length_erase_of_mem hi]; have := List.length_pos_of_mem hi; omega) ⟨left.erase i, i, vs ++ [i], acc4, M ++ M4, rfl, by simp [e1], by simp [e2], by simp [e19], ?_, ?_, p4, by simpa using a4, ?_, G3.trans G4, ?_⟩
      · exact G4.off q _ q3 (Ne.symm hpq) ene
      · refine List.Perm.trans ?_ eperm
        rw [List.append_assoc]
        exact ((List.perm_cons_erase hi).symm).append_left vs
      · rw [List.flatMap_append, ← List.append_assoc]
        refine eM.append (hM4.trans ?_)
        simp [hgi]
      · intro n hn
        obtain ⟨n', hn'⟩ := G4.new q n hn (List.getElem?_eq_some_iff.1 q3).1
        exact ene n' hn'
termination_by SizeOf.sizeOf F
end Go.Proofs.YtjpjmdjjgfllhaaGreatDoor
end
section
namespace Go.Trie
open Go.Glob Go.Trail
abbrev Hit := Tx × Bool × Bool
def headsF (k : Nat) (H : List Tx) (x : Tx) : List Tx := match path x with
  | some ns => if ns.length < k then H else if join (ns.take k) ∈ H then H else withP H (join (ns.take k))
  | none => H
def headsP (k : Nat) (l : List Tx) : List Tx := l.foldl (headsF k) []
def below (h x : Tx) : Bool := decide (h.length < x.length) && (decide (x.take h.length = h) && decide (x[h.length]? = some 46))
def hitOf (l : List Tx) (h : Tx) : Hit := (h, decide (h ∈ l), l.any (below h))
def mtP (ps : List (Tx → Bool)) (q : Tx) : Bool := match path q with
  | some ns => fitsP ps ns
  | none => false
def nodesP (ps : List (Tx → Bool)) (l : List Tx) : List Hit := ((headsP ps.length l).filter (mtP ps)).map (hitOf l)
def findP (ps : List (Tx → Bool)) (l : List Tx) : List Tx := l.filter (mtP ps)
theorem headsF_up {k : Nat} {H : List Tx} {x : Tx} (h : Up H) : Up (headsF k H x) := by
  unfold headsF
  split
  · split
    · exact h
    · split
      · exact h
      · next hn => exact with_up h hn
  · exact h
theorem fold_up {k : Nat} : ∀ (l H : List Tx), Up H → Up (l.foldl (headsF k) H)
  | [], H, h => h
  | x :: l, H, h => fold_up l _ (headsF_up h)
theorem mem_headsF {k : Nat} {H : List Tx} {x q : Tx} : q ∈ headsF k H x ↔ q ∈ H ∨ ∃ ns, path x = some ns ∧ k ≤ ns.length ∧ q = join (ns.take k) := by
  unfold headsF
  cases hp : path x with
  | none => simp
  | some ns =>
    simp only [Option.some.injEq, exists_eq_left']
    by_cases h1 : ns.length < k
    · have : ¬ k ≤ ns.length := by omega
      simp [h1, this]
    · have h2 : k ≤ ns.length := by omega
      simp only [h1, if_false, h2, true_and]
      by_cases h3 : join (ns.take k) ∈ H
      · simp only [h3, if_true]
        constructor
        · exact .inl
        · rintro (h | rfl)
          · exact h
          · exact h3
      · simp only [h3, if_false, mem_with]
        exact or_comm
theorem mem_fold {k : Nat} {q : Tx} : ∀ (l H : List Tx), q ∈ l.foldl (headsF k) H ↔ q ∈ H ∨ ∃ x ∈ l, ∃ ns, path x = some ns ∧ k ≤ ns.length ∧ q = join (ns.take k)
  | [], H => by simp
  | x :: l, H => by
    rw [List.foldl_cons, mem_fold l, mem_headsF]
    simp only [List.mem_cons, exists_eq_or_imp, or_assoc]
theorem mem_heads {k : Nat} {l : List Tx} {q : Tx} : q ∈ headsP k l ↔ ∃ x ∈ l, ∃ ns, path x = some ns ∧ k ≤ ns.length ∧ q = join (ns.take k) := by
  rw [headsP, mem_fold]; simp
theorem fitsP_len : ∀ {ps : List (Tx → Bool)} {ns : List Tx}, fitsP ps ns = true → ns.length = ps.length
  | [], [], _ => rfl
  | p :: ps, n :: ns, h => by
    simp only [fitsP, Bool.and_eq_true] at h
    simp [fitsP_len h.2]
  | [], n :: ns, h => by simp [fitsP] at h
  | p :: ps, [], h => by simp [fitsP] at h
theorem up_eqK {α : Type} (key : α → Tx) : ∀ {a b : List α}, a.Pairwise (fun x y => key x < key y) → b.Pairwise (fun x y => key x < key y) → (∀ x, x ∈ a ↔ x ∈ b) → a = b
  | [], [], _, _, _ => rfl
  | [], y :: b, _, _, h => by have := (h y).2 (by simp); cases this
  | x :: a, [], _, _, h => by have := (h x).1 (by simp); cases this
  | x :: a, y :: b, ha, hb, h => by
    have ha' := List.pairwise_cons.1 ha
    have hb' := List.pairwise_cons.1 hb
    have e : x = y := by
      rcases List.mem_cons.1 ((h x).1 (by simp)) with e | hx
      · exact e
      · rcases List.mem_cons.1 ((h y).2 (by simp)) with e | hy
        · exact e.symm
        · exact absurd (tx_trans (ha'.1 y hy) (hb'.1 x hx)) (tx_irrefl _)
    subst e
    rw [up_eqK key ha'.2 hb'.2 fun z => ?_]
    have hz := h z
    simp only [List.mem_cons] at hz
    constructor
    · intro hm
      rcases hz.1 (.inr hm) with e | h2
      · subst e; exact absurd (ha'.1 _ hm) (tx_irrefl _)
      · exact h2
    · intro hm
      rcases hz.2 (.inr hm) with e | h2
      · subst e; exact absurd (hb'.1 _ hm) (tx_irrefl _)
      · exact h2
theorem join_cons2 (p : Tx) {l : List Tx} (h : l ≠ []) : join (p :: l) = p ++ 46 :: join l := by
  cases l with
  | nil => exact absurd rfl h
  | cons q l => rfl
theorem join_app : ∀ (a : List Tx) {b : List Tx}, a ≠ [] → b ≠ [] → join (a ++ b) = join a ++ 46 :: join b
  | [], _, h, _ => absurd rfl h
  | [p], b, _, hb => by rw [List.singleton_append, join_cons2 p hb]; rfl
  | p :: q :: a, b, _, hb => by
    have ih := join_app (q :: a) (by simp) hb
    rw [List.cons_append, join_cons2 p (by simp), ih, join_cons2 p (by simp)]
    simp
theorem sp_join_app : ∀ (a : List Tx) (y : Tx), a ≠ [] → (∀ p ∈ a, ∀ c ∈ p, c ≠ 46) → sp (join a ++ 46 :: y) = a ++ sp y
  | [], _, h, _ => absurd rfl h
  | [p], y, _, hp => by simpa [join] using sp_app p y (hp p (by simp))
  | p :: q :: a, y, _, hp => by
    have ih := sp_join_app (q :: a) y (by simp) (fun x hx => hp x (by simp [hx]))
    rw [join_cons2 p (by simp), List.append_assoc, List.cons_append, sp_app p _ (hp p (by simp)), ih]
    simp
theorem path_pre {a b : List Tx} {x : Tx} (h : path x = some (a ++ b)) (ha : a ≠ []) : path (join a) = some a := by
  have h1 := path_head h a.length (by cases a with
    | nil => exact absurd rfl ha
    | cons _ _ => simp)
  simpa using h1
theorem below_iff {h x : Tx} : below h x = true ↔ ∃ y, x = h ++ 46 :: y := by
  unfold below
  simp only [Bool.and_eq_true, decide_eq_true_eq]
  constructor
  · rintro ⟨h1, h2, h3⟩
    refine ⟨x.drop (h.length + 1), ?_⟩
    have h4 := List.take_append_drop h.length x
    have h5 : x.drop h.length = 46 :: x.drop (h.length + 1) := drop_cons h3
    rw [h2, h5] at h4
    exact h4.symm
  · rintro ⟨y, rfl⟩
    refine ⟨by simp, by simp, by simp⟩
variable {l : List Tx} {F : Fo}
theorem below_node (h : Holds l F) {a : List Tx} (ha : a ≠ []) (hn : ∀ n ∈ a, nameB n = true) : l.any (below (join a)) = true ↔ ∃ b, b ≠ [] ∧ a ++ b ∈ lv F := by
  rw [List.any_eq_true]
  constructor
  · rintro ⟨x, hx, hb⟩
    obtain ⟨y, rfl⟩ := below_iff.1 hb
    obtain ⟨ms, h1, h2⟩ := h.mem.1 hx
    have h3 : ms = sp (join a ++ 46 :: y) := by
      unfold path at h1
      split at h1
      · exact (Option.some.inj h1).symm
      · cases h1
    rw [sp_join_app a y ha (fun p hp => name_plain (hn p hp))] at h3
    subst h3
    exact ⟨sp y, sp_ne y, by simpa [lvN] using (mem_lvN (a ++ sp y) false F h.ok).2 h2⟩
  · rintro ⟨b, hb, hm⟩
    refine ⟨join (a ++ b), ?_, ?_⟩
    · exact h.mem.2 ⟨a ++ b, h.names _ hm, (mem_lvN _ false F h.ok).1 (by simp [lvN, hm])⟩
    · rw [below_iff, join_app a ha hb]
      exact ⟨_, rfl⟩
/-- What a trie's nodes are, and what a list's are. -/
theorem mem_nodes (h : Holds l F) {ps : List (Tx → Bool)} (hps : ps ≠ []) (x : Hit) : x ∈ nodesP ps l ↔ x ∈ (hitN ps false F).map fun y => (join y.1, y.2) := by
  have hlen : 1 ≤ ps.length := by cases ps with
    | nil => exact absurd rfl hps
    | cons _ _ => simp
  simp only [nodesP, List.mem_map, List.mem_filter]
  constructor
  · rintro ⟨q, ⟨hq, hm⟩, rfl⟩
    obtain ⟨z, hz, ns, hp, hk, rfl⟩ := mem_heads.1 hq
    obtain ⟨g1, g2, g3, g4⟩ := path_props hp
    have hpq := path_head hp ps.length hlen
    rw [mtP, hpq] at hm
    simp only at hm
    obtain ⟨a, ha⟩ : ∃ a, a = ns.take ps.length := ⟨_, rfl⟩
    rw [← ha] at hpq hm ⊢
    obtain ⟨p1, p2, p3, p4⟩ := path_props hpq
    have hlv : a ++ ns.drop ps.length ∈ lv F := by
      rw [ha, List.take_append_drop]
      obtain ⟨ms, k1, k2⟩ := h.mem.1 hz
      rw [hp] at k1; cases k1
      simpa [lvN] using (mem_lvN ns false F h.ok).2 k2
    obtain ⟨v, hv⟩ := (node_iff (lf := false) h.ok p2).2 ⟨_, hlv⟩
    refine ⟨(a, v.1, !v.2.isNil), (mem_hitN ps false F _ h.ok).2 ⟨hm, v, hv, rfl⟩, ?_⟩
    simp only [hitOf, Prod.mk.injEq, true_and]
    constructor
    · rw [Bool.eq_iff_iff, decide_eq_true_eq, h.mem]
      constructor
      · intro hl; exact ⟨a, hpq, by simp [hasN, hv, hl]⟩
      · rintro ⟨ms, k1, k2⟩
        rw [hpq] at k1; cases k1
        simpa [hasN, hv] using k2
    · rw [Bool.eq_iff_iff, below_node h p2 p4, ← node_branch (lf := false) h.ok hv]
      simp
  · rintro ⟨⟨a, lf, br⟩, hy, rfl⟩
    obtain ⟨hf, v, hv, he⟩ := (mem_hitN ps false F _ h.ok).1 hy
    simp only at hf hv he
    cases he
    have hal := fitsP_len hf
    have hane : a ≠ [] := by rintro rfl; simp at hal; omega
    obtain ⟨b, hb⟩ := (node_iff (lf := false) h.ok hane).1 ⟨v, hv⟩
    have hpb := h.names _ hb
    have hpa := path_pre hpb hane
    obtain ⟨p1, p2, p3, p4⟩ := path_props hpa
    refine ⟨join a, ⟨mem_heads.2 ⟨join (a ++ b), ?_, a ++ b, hpb, by simp; omega, by rw [← hal]; simp⟩, ?_⟩, ?_⟩
    · exact h.mem.2 ⟨a ++ b, hpb, (mem_lvN _ false F h.ok).1 (by simp [lvN, hb])⟩
    · rw [mtP, hpa]; exact hf
    · simp only [hitOf, Prod.mk.injEq, true_and]
      constructor
      · rw [Bool.eq_iff_iff, decide_eq_true_eq, h.mem]
        constructor
        · rintro ⟨ms, k1, k2⟩
          rw [hpa] at k1; cases k1
          simpa [hasN, hv] using k2
        · intro hl; exact ⟨a, hpa, by simp [hasN, hv, hl]⟩
      · rw [Bool.eq_iff_iff, below_node h p2 p4, ← node_branch (lf := false) h.ok hv]
        simp
theorem nodesP_up {ps : List (Tx → Bool)} : (nodesP ps l).Pairwise fun x y => x.1 < y.1 := by
  unfold nodesP
  rw [List.pairwise_map]
  exact filter_up (fold_up l [] List.Pairwise.nil) _
/-- A trie's nodes, sorted, are the list's. -/
theorem nodes_sorted (h : Holds l F) {ps : List (Tx → Bool)} (hps : ps ≠ []) {m : List Hit} (hm : ∀ x, x ∈ m ↔ x ∈ (hitN ps false F).map fun y => (join y.1, y.2)) (hu : m.Pairwise fun x y => x.1 < y.1) : m = nodesP ps l :=
  up_eqK (·.1) hu nodesP_up fun x => (hm x).trans (mem_nodes h hps x).symm
theorem hits_names (h : Holds l F) {ps : List (Tx → Bool)} (hps : ps ≠ []) : ((hitN ps false F).map fun y => join y.1).Nodup := by
  have h1 := hitN_names ps false F h.ok
  have e : ((hitN ps false F).map fun y => join y.1) = ((hitN ps false F).map (·.1)).map join := by rw [List.map_map]; rfl
  rw [e]
  unfold List.Nodup at h1 ⊢
  rw [List.pairwise_map]
  refine List.Pairwise.imp_of_mem ?_ h1
  intro a b ha hb hne he
  have key : ∀ a, a ∈ (hitN ps false F).map (·.1) → path (join a) = some a := fun a ha => by
    obtain ⟨y, hy, rfl⟩ := List.mem_map.1 ha
    obtain ⟨hf, v, hv, _⟩ := (mem_hitN ps false F _ h.ok).1 hy
    have hal := fitsP_len hf
    have hane : y.1 ≠ [] := by
      intro e; rw [e] at hal
      exact hps (List.eq_nil_of_length_eq_zero hal.symm)
    obtain ⟨b, hb⟩ := (node_iff (lf := false) h.ok hane).1 ⟨v, hv⟩
    exact path_pre (h.names _ hb) hane
  have k1 := key a ha
  rw [he, key b hb] at k1
  exact hne (Option.some.inj k1).symm
/-- The leaves among a list's nodes are what it finds. -/
theorem find_nodes (h : Holds l F) {ps : List (Tx → Bool)} (hps : ps ≠ []) : ((nodesP ps l).filter (·.2.1)).map (·.1) = findP ps l := by
  refine up_eq ?_ (filter_up h.up _) fun q => ?_
  · unfold Up
    rw [List.pairwise_map]
    exact nodesP_up.filter _
  · simp only [nodesP, findP, List.mem_map, List.mem_filter]
    constructor
    · rintro ⟨y, ⟨⟨z, ⟨hz, hm⟩, rfl⟩, hy⟩, rfl⟩
      simp only [hitOf, decide_eq_true_eq] at hy
      exact ⟨hy, hm⟩
    · rintro ⟨hq, hm⟩
      refine ⟨hitOf l q, ⟨⟨q, ⟨?_, hm⟩, rfl⟩, by simpa [hitOf] using hq⟩, rfl⟩
      rw [mem_heads]
      obtain ⟨ms, hp, _⟩ := h.mem.1 hq
      refine ⟨q, hq, ms, hp, ?_, ?_⟩
      · rw [mtP, hp] at hm
        exact Nat.le_of_eq (fitsP_len hm).symm
      · rw [mtP, hp] at hm
        rw [← fitsP_len hm, List.take_length]
        exact (path_props hp).1.symm
end Go.Trie
end
section
set_option maxHeartbeats 4000000
namespace Go.Abs
open Go.Trie Go.Trail
theorem Grown.pre {σ σ1 : Store} {x : Entry} {v' : AV} (h : Grown (σ ++ [x]) σ1 σ.length .nils v') {σ2 : Store} (h2 : ∀ i, i < σ.length → σ2[i]? = σ1[i]?) : σ2 = σ ++ σ2.drop σ.length := by
  apply List.ext_getElem?
  intro i
  by_cases hi : i < σ.length
  · rw [List.getElem?_append_left hi, h2 i hi]
    have he : (σ ++ [x])[i]? = some σ[i] := by rw [List.getElem?_append_left hi]; exact List.getElem?_eq_getElem hi
    rw [h.off i _ he (by omega) (fun m hm => by cases hm)]
    exact (List.getElem?_eq_getElem hi).symm
  · rw [List.getElem?_append_right (by omega), List.getElem?_drop]
    congr 1; omega
theorem join_bound : ∀ (l : List Tx), (∀ n ∈ l, nameB n = true) → (join l).length ≤ 33 * l.length
  | [], _ => by simp [join]
  | [p], h => by
    have := h p (by simp)
    simp [nameB] at this
    simp [join]; omega
  | p :: q :: l, h => by
    have h1 := h p (by simp)
    have h2 := join_bound (q :: l) (fun n hn => h n (by simp [hn]))
    simp [nameB] at h1
    simp only [join, List.length_append, List.length_cons] at h2 ⊢
    omega
end Go.Abs
namespace Go.Proofs.YtjpjmdjjgfllhaaGreatDoor
open Go.Abs Go.Glob Go.Trail Go.Trie
variable {G : Globs}
theorem holds_bd {l : List Tx} {F : Fo} (h : Holds l F) : BdN [] false F := ⟨h.ok, fun ms hm => by
  rw [lv_of_lvN] at hm
  have hp := h.names ms hm
  obtain ⟨h1, h2, h3, h4⟩ := path_props hp
  have := join_bound ms h4
  rw [List.nil_append]
  exact ⟨h3, by omega⟩⟩
theorem fz_els (σ : Store) (m : Nat) (l : List (List UInt8)) : ((strEls l).mapM fun (c : List AV) => c.mapM (fz σ m 2)) = some (strEls l) := by
  induction l with
  | nil => rfl
  | cons a l ih =>
    have e : strEls (a :: l) = [.str a] :: strEls l := rfl
    rw [e, List.mapM_cons, ih]
    simp [fz, AV.pure]
theorem tpaths_ok {σ : Store} {id : Nat} {rest : List AV} {l : List Tx} {F : Fo} {fp : List Nat} (h : NA σ id rest false F fp) (hh : Holds l F) (hl : l.length ≤ 100000) : ACalls Tryz.prog n_trie_Trie_Paths [.ptr id 0] σ (fun r σ' => r = .lst (strEls l) ∧ σ' = σ) := by
  refine acalls_of_awp_e hmix c_trie_Trie_Paths rfl ?_
  simp [a_trie_Trie_Paths]
  obtain ⟨σ0, hσ0⟩ : ∃ σ0 : Store, σ0 = σ ++ [.var 22 [.nils]] := ⟨_, rfl⟩
  have hp : σ0[σ.length]? = some (.var 22 [.nils]) := by rw [hσ0]; simp
  have h0 : NA σ0 id rest false F fp := h.congr fun a ha => by rw [hσ0, app_off (h.lt a ha)]
  rw [← hσ0]
  refine ac_eff (twalk_ok F false (names := []) (L := []) h0 (.inl ⟨rfl, rfl⟩) hp (.inl ⟨rfl, rfl⟩) (holds_bd hh) (by rw [lv_of_lvN, ← hh.len]; simp; omega)) ?_
  rintro r σ1 ⟨rfl, acc, M, p1, a1, hM, G1⟩
  rw [lv_of_lvN] at hM
  simp only [List.nil_append] at hM a1
  have hsort := holds_sort hh hM
  have hML := hM.length_eq
  have hfl := hh.len
  simp only [List.length_map] at hML
  rw [hσ0] at G1
  have hlen1 := G1.kept.len
  simp only [List.length_append, List.length_cons, List.length_nil] at hlen1
  rcases a1 with ⟨hM0, rfl⟩ | ⟨hM0, aid, rfl, ha⟩
  · have : M = [] := by simpa [strEls] using hM0
    subst this
    have hl0 : l = [] := List.eq_nil_of_length_eq_zero (by rw [hfl, ← hML]; rfl)
    subst hl0
    simp [cellsAt, p1]
    refine ac_eff sortStr_nil ?_
    rintro r σ2 ⟨rfl, rfl⟩
    simp [cellsAt, p1]
    exact er_intro σ (.lst []) (by simp [retAt, evalRes, tupOf]) _ (G1.pre fun _ _ => rfl) rfl (fun _ _ h => .inl h) ⟨rfl, rfl⟩
  · rw [els_len] at p1
    have hidl := (List.getElem?_eq_some_iff.1 ha).1
    have hge : σ.length + 1 ≤ aid := by
      apply Nat.le_of_not_lt
      intro hlt
      obtain ⟨m', hm'⟩ := G1.new aid _ rfl (by simpa using hlt)
      cases hm'
    have hne : M ≠ [] := by rintro rfl; exact hM0 rfl
    simp [cellsAt, p1]
    refine ac_eff (sortStr_ok ha hne (by omega)) ?_
    rintro r σ2 ⟨rfl, hσ2⟩
    rw [hsort] at hσ2
    have hp2 : σ2[σ.length]? = some (.var 22 [.row aid M.length]) := by rw [hσ2, set_off (by omega)]; exact p1
    have ha2 : σ2[aid]? = some (.row 9 1 (strEls l) false) := by rw [hσ2]; exact List.getElem?_set_self hidl
    have hge2 : σ.length ≤ aid := by omega
    have hLM : l.length = M.length := by omega
    simp [cellsAt, hp2]
    refine er_intro σ (.lst (strEls l)) ?_ _ (G1.pre fun i hi => by rw [hσ2, set_off (by omega)]) rfl (fun _ _ h => .inl h) ⟨rfl, rfl⟩
    simp [retAt, evalRes, tupOf, fz, ha2, els_len, hLM, hge2, fz_els]
end Go.Proofs.YtjpjmdjjgfllhaaGreatDoor
end
section
namespace Go.Proofs
open Go.Shelf
def Tryz.sortHit_ren : Go.Shelf.Ren := ⟨fun | 6 => 41 | 15 => 56 | 14 => 61 | 28 => 82 | 29 => 83 | 20 => 91 | 21 => 92 | 22 => 93 | 23 => 94 | 24 => 95 | 25 => 96 | 26 => 97 | 27 => 98 | 46 => 116 | 47 => 106 | 48 => 107 | 49 => 117 | 50 => 118 | 57 => 130 | n => n, fun | 22 => 46 | 24 => 53 | 25 => 71 | 3 => 3 | 39 => 89 | 0 => 0 | 53 => 114 | 55 => 116 | 4 => 4 | 46 => 107 | 45 => 106 | 50 => 111 | 5 => 5 | 9 => 9 | 66 => 136 | 70 => 140 | 76 => 156 | 77 => 157 | n => n, fun | n => n⟩
theorem Tryz.sortHit : Go.Proofs.SlLaysF0.n6 Tryz.prog Tryz.sortHit_ren := {
  mixed := by kernel_rfl
  f6 := ⟨Tryz.f41.name, by decide, Tryz.func41.trans (congrArg some (by kernel_rfl))⟩
  f14 := ⟨Tryz.f61.name, by decide, Tryz.func61.trans (congrArg some (by kernel_rfl))⟩
  f15 := Tryz.func56.trans (congrArg some (by kernel_rfl))
  f20 := ⟨Tryz.f91.name, by decide, Tryz.func91.trans (congrArg some (by kernel_rfl))⟩
  f21 := ⟨Tryz.f92.name, by decide, Tryz.func92.trans (congrArg some (by kernel_rfl))⟩
  f22 := ⟨Tryz.f93.name, by decide, Tryz.func93.trans (congrArg some (by kernel_rfl))⟩
  f23 := ⟨Tryz.f94.name, by decide, Tryz.func94.trans (congrArg some (by kernel_rfl))⟩
  f24 := ⟨Tryz.f95.name, by decide, Tryz.func95.trans (congrArg some (by kernel_rfl))⟩
  f25 := ⟨Tryz.f96.name, by decide, Tryz.func96.trans (congrArg some (by kernel_rfl))⟩
  f26 := ⟨Tryz.f97.name, by decide, Tryz.func97.trans (congrArg some (by kernel_rfl))⟩
  f27 := ⟨Tryz.f98.name, by decide, Tryz.func98.trans (congrArg some (by kernel_rfl))⟩
  f28 := Tryz.func82.trans (congrArg some (by kernel_rfl))
  f29 := Tryz.func83.trans (congrArg some (by kernel_rfl))
  f46 := ⟨Tryz.f116.name, by decide, Tryz.func116.trans (congrArg some (by kernel_rfl))⟩
  f47 := Tryz.func106.trans (congrArg some (by kernel_rfl))
  f48 := Tryz.func107.trans (congrArg some (by kernel_rfl))
  f49 := ⟨Tryz.f117.name, by decide, Tryz.func117.trans (congrArg some (by kernel_rfl))⟩
  f50 := ⟨Tryz.f118.name, by decide, Tryz.func118.trans (congrArg some (by kernel_rfl))⟩
  f57 := ⟨Tryz.f130.name, by decide, Tryz.func130.trans (congrArg some (by kernel_rfl))⟩
  t0 := Tryz.underlying0
  a0 := Tryz.isAgg0
  z0 := Tryz.sizeOf0
  v0 := Tryz.zeroValue0
  t3 := Tryz.underlying3
  a3 := Tryz.isAgg3
  z3 := Tryz.sizeOf3
  v3 := Tryz.zeroValue3
  t4 := Tryz.underlying4
  a4 := Tryz.isAgg4
  z4 := Tryz.sizeOf4
  v4 := Tryz.zeroValue4
  t5 := Tryz.underlying5
  a5 := Tryz.isAgg5
  z5 := Tryz.sizeOf5
  v5 := Tryz.zeroValue5
  t9 := Tryz.underlying9
  a9 := Tryz.isAgg9
  z9 := Tryz.sizeOf9
  v9 := Tryz.zeroValue9
  t22 := Tryz.underlying46
  a22 := Tryz.isAgg46
  z22 := Tryz.sizeOf46
  v22 := Tryz.zeroValue46
  t25 := Tryz.underlying71
  a25 := Tryz.isAgg71
  z25 := Tryz.sizeOf71
  v25 := Tryz.zeroValue71
  t39 := Tryz.underlying89
  a39 := Tryz.isAgg89
  z39 := Tryz.sizeOf89
  v39 := Tryz.zeroValue89
  t45 := Tryz.underlying106
  a45 := Tryz.isAgg106
  z45 := Tryz.sizeOf106
  v45 := Tryz.zeroValue106
  t46 := Tryz.underlying107
  a46 := Tryz.isAgg107
  z46 := Tryz.sizeOf107
  v46 := Tryz.zeroValue107
  t50 := Tryz.underlying111
  a50 := Tryz.isAgg111
  z50 := Tryz.sizeOf111
  v50 := Tryz.zeroValue111
  t53 := Tryz.underlying114
  a53 := Tryz.isAgg114
  z53 := Tryz.sizeOf114
  v53 := Tryz.zeroValue114
  t55 := Tryz.underlying116
  a55 := Tryz.isAgg116
  z55 := Tryz.sizeOf116
  v55 := Tryz.zeroValue116
  t66 := Tryz.underlying136
  a66 := Tryz.isAgg136
  z66 := Tryz.sizeOf136
  v66 := Tryz.zeroValue136
  t70 := Tryz.underlying140
  a70 := Tryz.isAgg140
  z70 := Tryz.sizeOf140
  v70 := Tryz.zeroValue140
  t76 := Tryz.underlying156
  a76 := Tryz.isAgg156
  z76 := Tryz.sizeOf156
  v76 := Tryz.zeroValue156
  t77 := Tryz.underlying157
  a77 := Tryz.isAgg157
  z77 := Tryz.sizeOf157
  v77 := Tryz.zeroValue157 }
def Tryz.mapKeys_ren : Go.Shelf.Ren := ⟨fun | 7 => 59 | 10 => 86 | n => n, fun | 23 => 54 | 26 => 9 | 3 => 59 | 28 => 92 | 0 => 0 | 27 => 91 | 33 => 33 | 4 => 4 | n => n, fun | n => n⟩
theorem Tryz.mapKeys : Go.Proofs.SlLaysZ.n7 Tryz.prog Tryz.mapKeys_ren := {
  mixed := by kernel_rfl
  f7 := ⟨Tryz.f59.name, by decide, Tryz.func59.trans (congrArg some (by kernel_rfl))⟩
  f10 := ⟨Tryz.f86.name, by decide, Tryz.func86.trans (congrArg some (by kernel_rfl))⟩
  t0 := Tryz.underlying0
  a0 := Tryz.isAgg0
  z0 := Tryz.sizeOf0
  v0 := Tryz.zeroValue0
  t4 := Tryz.underlying4
  a4 := Tryz.isAgg4
  z4 := Tryz.sizeOf4
  v4 := Tryz.zeroValue4
  t23 := Tryz.underlying54
  a23 := Tryz.isAgg54
  z23 := Tryz.sizeOf54
  v23 := Tryz.zeroValue54
  t26 := Tryz.underlying9
  a26 := Tryz.isAgg9
  z26 := Tryz.sizeOf9
  v26 := Tryz.zeroValue9
  t27 := Tryz.underlying91
  a27 := Tryz.isAgg91
  z27 := Tryz.sizeOf91
  v27 := Tryz.zeroValue91
  t28 := Tryz.underlying92
  a28 := Tryz.isAgg92
  z28 := Tryz.sizeOf92
  v28 := Tryz.zeroValue92
  t33 := Tryz.underlying33
  a33 := Tryz.isAgg33
  z33 := Tryz.sizeOf33
  v33 := Tryz.zeroValue33 }
def Tryz.collect_ren : Go.Shelf.Ren := ⟨fun | 8 => 58 | 11 => 85 | n => n, fun | 26 => 9 | 28 => 92 | 24 => 22 | 0 => 0 | 33 => 33 | 4 => 4 | n => n, fun | n => n⟩
theorem Tryz.collect : Go.Proofs.SlLaysZ.n8 Tryz.prog Tryz.collect_ren := {
  mixed := by kernel_rfl
  f8 := ⟨Tryz.f58.name, by decide, Tryz.func58.trans (congrArg some (by kernel_rfl))⟩
  f11 := ⟨Tryz.f85.name, by decide, Tryz.func85.trans (congrArg some (by kernel_rfl))⟩
  t0 := Tryz.underlying0
  a0 := Tryz.isAgg0
  z0 := Tryz.sizeOf0
  v0 := Tryz.zeroValue0
  t24 := Tryz.underlying22
  a24 := Tryz.isAgg22
  z24 := Tryz.sizeOf22
  v24 := Tryz.zeroValue22
  t26 := Tryz.underlying9
  a26 := Tryz.isAgg9
  z26 := Tryz.sizeOf9
  v26 := Tryz.zeroValue9
  t28 := Tryz.underlying92
  a28 := Tryz.isAgg92
  z28 := Tryz.sizeOf92
  v28 := Tryz.zeroValue92
  i26 := by kernel_rfl }
end Go.Proofs
end
section
namespace Go.Proofs.YtjpjmdjjgfllhaaGreatDoor
open Go.Abs
def loudK : List Nat := [8, 9, 10, 13, 15, 16, 17, 19, 21, 22, 29, 34, 35, 37, 38, 40, 41, 53, 54, 58, 59, 71, 111, 114, 125, 126, 127, 136, 1000088, 2000101]
def a_maps_Keys_map_string_trie_node_string_trie_node : AFunc := ⟨4, [(2, none)], (.seq (.ops [⟨none, (some 1), (.box 54 (.s 0))⟩, ⟨none, (some 2), (.mv (.c .nilf))⟩]) (.seq (.ops [⟨none, (some 3), (.mkfn (.func 86) [] [(.s 1)])⟩, ⟨none, (some 2), (.mv (.s 3))⟩]) .ret))⟩
theorem c_maps_Keys_map_string_trie_node_string_trie_node : compFn Tryz.prog loudK 59 = some a_maps_Keys_map_string_trie_node_string_trie_node := by kernel_rfl
end Go.Proofs.YtjpjmdjjgfllhaaGreatDoor
end
section
set_option maxHeartbeats 4000000
namespace Go.Abs
open Go.Proofs Go.RowKit Go.Maps
variable {G : Globs} {base : Nat} {κ : Key} {Im : Addr → Prop} {w : World} {σ : Store}
theorem insert_perm {H : Type} (x : Lit × DataW H) : ∀ (l : List (Lit × DataW H)), (DataW.insert x l).Perm (x :: l)
  | [] => List.Perm.refl _
  | y :: r => by
    simp only [DataW.insert]
    split
    · exact List.Perm.refl _
    · exact ((insert_perm x r).cons y).trans (List.Perm.swap x y r)
theorem foldr_perm {H : Type} : ∀ (l : List (Lit × DataW H)), (l.foldr DataW.insert []).Perm l
  | [] => List.Perm.refl _
  | x :: l => (insert_perm x _).trans ((foldr_perm l).cons x)
/-- What is asked of a map's values here: nothing. -/
def anyR : Value → Option (DataW Unit × List MemPlace) := fun _ => some (.nil, [])
/-- A map in the store, as the kit's contracts have it. -/
theorem owns_map {P : Program} {k : TypeId} (hk : P.underlying k = some .string) (hs : SRel base κ Im σ w) {m : Nat} {kv : List (AV × AV)} {names : List (List UInt8)} (hm : σ[m]? = some (.mp kv)) (hkv : kv.map (·.1) = names.map AV.str) (hn : names.Nodup) (hl : ∀ s ∈ names, s.length ≤ 1000) (hc : names.length ≤ 1000000) :
    ∃ b, κ m 0 = some (.map (some b)) ∧ ∃ D : DataW Unit, w.ownsMap P k anyR b names.length D ∧ (strKeys D).Perm names ∧ Maps.size D = names.length := by
  have hE := hs.ent m _ hm
  unfold EOK at hE
  obtain ⟨b, es, clock, h1, h2, h3, h4, h5, h6, h7, h8⟩ := hE
  have hlen : kv.length = names.length := by simpa using congrArg List.length hkv
  have hkey : ∀ j (hj : j < names.length) (hj' : j < es.size), (es[j]).key = .string ⟨(names[j]).toArray⟩ := fun j hj hj' => by
    have hjk : j < kv.length := by omega
    have e1 : (kv.map (·.1))[j]? = (names.map AV.str)[j]? := by rw [hkv]
    simp only [List.getElem?_map, List.getElem?_eq_getElem hjk, List.getElem?_eq_getElem hj, Option.map_some, Option.some.injEq] at e1
    have := (h5 j hjk hj').1
    rw [e1] at this
    exact (VR.im (κ := κ) _ _ this).str_inv
  have hkeys : es.toList.map (·.key) = names.map fun s => Value.string ⟨s.toArray⟩ := by
    apply List.ext_getElem (by simp; omega)
    intro j g1 g2
    simp only [List.length_map, Array.length_toList] at g1 g2
    simp only [List.getElem_map, Array.getElem_toList]
    exact hkey j g2 g1
  have hinj : ∀ a b : List UInt8, Value.string ⟨a.toArray⟩ = Value.string ⟨b.toArray⟩ → a = b := fun a b h => by simpa using h
  have hreads : ∀ x ∈ es.toList, ∃ s ∈ names, x.key = .string ⟨s.toArray⟩ ∧ keyOf P k x.key = some (.string s) := fun x hx => by
    have : x.key ∈ es.toList.map (·.key) := List.mem_map.2 ⟨x, hx, rfl⟩
    rw [hkeys] at this
    obtain ⟨s, hs1, hs2⟩ := List.mem_map.1 this
    refine ⟨s, hs1, hs2.symm, ?_⟩
    have := hl s hs1
    rw [← hs2]
    have hsz : (ByteArray.mk s.toArray).size ≤ maxLen := by
      have : (ByteArray.mk s.toArray).size = s.length := by simp [ByteArray.size]
      rw [this]; unfold maxLen; omega
    simp [keyOf, hk, mapKey, hsz]
  have hfit : Go.WideElems.Fit P k anyR es clock := ⟨by unfold maxLen; omega, ⟨h8, h7, by
    rw [hkeys]
    exact Go.Trie.nodup_map hinj hn⟩, fun x hx => by
    obtain ⟨s, _, _, h9⟩ := hreads x hx
    exact ⟨(.string s, .nil), by simp [Go.WideElems.rd, h9, anyR]⟩⟩
  have hrg : (es.toList.map (Go.WideElems.rg P k anyR)).map (fun p => strOf p.1) = names := by
    rw [List.map_map]
    have e2 : es.toList.map ((fun p : Lit × DataW Unit => strOf p.1) ∘ Go.WideElems.rg P k anyR) = (es.toList.map (·.key)).map fun v => match v with | .string s => s.data.toList | _ => [] := by
      rw [List.map_map]
      refine List.map_congr_left fun x hx => ?_
      obtain ⟨s, _, h9, h10⟩ := hreads x hx
      rw [h9] at h10
      simp [Go.WideElems.rg, Go.WideElems.rd, h10, h9, anyR, strOf]
    rw [e2, hkeys, List.map_map]
    conv => rhs; rw [← List.map_id names]
    exact List.map_congr_left fun s _ => by simp
  refine ⟨b, h1, .map ((es.toList.map (Go.WideElems.rg P k anyR)).foldr DataW.insert []), ⟨es, clock, h3, hfit, by omega, rfl⟩, ?_, ?_⟩
  · show ((List.foldr DataW.insert [] _).map fun p => strOf p.1).Perm names
    have := (foldr_perm (es.toList.map (Go.WideElems.rg P k anyR))).map fun p => strOf p.1
    rw [hrg] at this
    exact this
  · have := (foldr_perm (es.toList.map (Go.WideElems.rg P k anyR))).length_eq
    simp only [List.length_map, Array.length_toList] at this
    simp only [Maps.size]
    omega
/-- A new list of texts that a call hands back. -/
theorem own_strsK {t : TypeId} {w' : World} {v : Value} {l : List (List UInt8)} (hs : SRel base κ Im σ w) (hb : Below w.heap.size w w') (hown : w'.ownsRow w.heap.size t 1 v l.length (l.map encStr)) (hnil : v = .slice none 0 0 ↔ l = []) :
    ∃ Im', SRel base κ Im' σ w' ∧ Grow base κ Im w κ Im' w' ∧ IR Im' w' (.lst (l.map fun s => [.str s])) v := by
  rcases hown.2 with ⟨rfl, h0⟩ | ⟨A, cap, cur, rfl, hA, hg, hc1, hc2, hc3, htk⟩
  · have : l = [] := List.eq_nil_of_length_eq_zero h0
    subst this
    exact ⟨Im, hs.world (fun _ h => h) (fun a h => .inl h) hb.size hb.block, ⟨fun _ _ _ h => h, fun _ h => h, fun a ha => World.cell?_of_block (hb.block _ (hs.imlt a ha).1), fun a h => .inl h, hb.mono hs.hb⟩, .lnil none⟩
  have hlt : A < w'.heap.size := (Array.getElem?_eq_some_iff.1 hg).1
  rw [Nat.mul_one] at htk
  have hcell : ∀ k (hk : k < l.length), w'.cell? ⟨A, 0 + (k * 1 + 0), none⟩ = some (.string ⟨(l[k]).toArray⟩) := fun k hk => by
    have e : cur[0 + (k * 1 + 0)]? = some (.string ⟨(l[k]).toArray⟩) := by
      have h3 : (cur.toList.take l.length)[k]? = (l.map encStr)[k]? := by rw [htk]
      rw [List.getElem?_take_of_lt hk, Array.getElem?_toList] at h3
      simpa [hk, encStr] using h3
    simp [World.cell?, hg]
    simpa using e
  refine ⟨fun a => Im a ∨ (a.block = A ∧ a.spot = none), hs.world (fun _ h => .inl h) (fun a h => h.imp id fun h => ⟨by rw [h.1]; exact hA, by rw [h.1]; exact hlt, h.2⟩) hb.size hb.block,
    ⟨fun _ _ _ h => h, fun _ h => .inl h, fun a ha => World.cell?_of_block (hb.block _ (hs.imlt a ha).1), fun a h => h.imp id fun h => by rw [h.1]; exact Nat.le_trans hs.hb hA, hb.mono hs.hb⟩, ?_⟩
  have hlen : (l.map fun s => [AV.str s]).length = l.length := by simp
  have := IR.lst (Im := fun a => Im a ∨ (a.block = A ∧ a.spot = none)) (w := w') (l.map fun s => [AV.str s]) 1 A 0 cap (fun k _ => .string ⟨(l.getD k []).toArray⟩) (by simpa using hc1) hc2
    (fun c hc => by simp only [List.mem_map] at hc; obtain ⟨x, _, rfl⟩ := hc; rfl)
    (fun c hc x hx => by simp only [List.mem_map] at hc; obtain ⟨y, _, rfl⟩ := hc; simp at hx; subst hx; rfl)
    (fun k j hk hj => by
      rw [hlen] at hk
      have hj0 : j = 0 := by omega
      subst hj0
      exact ⟨.inr ⟨rfl, rfl⟩, by rw [hcell k hk]; simp [List.getD, hk]⟩)
    (fun k j hk hj => by
      rw [hlen] at hk
      have hj0 : j = 0 := by simpa using hj
      subst hj0
      simp only [List.getElem_map, List.getElem_cons_zero]
      have e : l.getD k [] = l[k] := by simp [List.getD, hk]
      rw [e]
      exact .str _)
  rw [hlen] at this
  exact this
end Go.Abs
namespace Go.Proofs.YtjpjmdjjgfllhaaGreatDoor
open Go.Abs Go.RowKit Go.Maps Go.Sort Go.Shelf
variable {G : Globs}
abbrev n_keysIter : Nat := 86
theorem keys_ok {σ : Store} {k : AV} (hk : k = .nilm ∨ ∃ m kv, k = .map m ∧ σ[m]? = some (.mp kv)) : ACalls Tryz.prog 59 [k] σ (fun r σ' => r = .fn (.func n_keysIter) [] [.ptr σ.length 0] ∧ ∃ t, σ' = σ ++ [.var t [k]]) := by
  refine acalls_of_awp_e hmix c_maps_Keys_map_string_trie_node_string_trie_node rfl ?_
  have hku : k.under (σ.length + 1) = true := by
    rcases hk with rfl | ⟨m, kv, rfl, h⟩
    · simp [AV.under]
    · have := (List.getElem?_eq_some_iff.1 h).1
      simp [AV.under]; omega
  have hone : k.cells = [k] ∧ k.one = true := by rcases hk with rfl | ⟨m, kv, rfl, h⟩ <;> exact ⟨rfl, rfl⟩
  simp [a_maps_Keys_map_string_trie_node_string_trie_node, hone.1, hone.2]
  refine er_keep (σ ++ [.var 54 [k]]) (.fn (.func n_keysIter) [] [.ptr σ.length 0]) (by simp [evalRes, tupOf]) [] (by simp) (by simp) (by simp [AV.under]) ((Kept.refl σ).app (by simpa [Entry.under] using hku)).und ⟨rfl, _, rfl⟩
theorem collect_ok {σ : Store} {id m : Nat} {t : TypeId} {kv : List (AV × AV)} {names : List (List UInt8)} (hv : σ[id]? = some (.var t [.map m])) (hm : σ[m]? = some (.mp kv)) (hkv : kv.map (·.1) = names.map AV.str) (hn : names.Nodup) (hl : ∀ s ∈ names, s.length ≤ 1000) (hc : names.length ≤ 1000000) :
    ACalls Tryz.prog 58 [.fn (.func n_keysIter) [] [.ptr id 0]] σ (fun r σ' => σ' = σ ∧ ∃ ss, ss.Perm names ∧ r = .lst (strEls ss)) := by
  intro base κ Im w vs hs hvs
  obtain ⟨u0, hu0, hv0⟩ := hvs.get? (i := 0) (a := .fn (.func n_keysIter) [] [.ptr id 0]) rfl
  obtain ⟨ws, us, rfl, hw1, hw2⟩ := hv0.fn_inv
  have hw0 : ws = [] := List.eq_nil_of_length_eq_zero hw1.1.symm
  subst hw0
  obtain ⟨u1, hu1, hv1⟩ := hw2.get? (i := 0) (a := .ptr id 0) rfl
  obtain ⟨bv, rfl, hκ⟩ := hv1.ptr_inv
  have hus : us = [.pointer (some ⟨bv, 0, none⟩)] := by
    have hlen := hw2.1
    match us, hlen with
    | [a], _ => simp at hu1; rw [hu1]
  subst hus
  have hvs2 : vs = [.func (.func n_keysIter) [].toArray [.pointer (some ⟨bv, 0, none⟩)].toArray] := by
    have hlen := hvs.1
    match vs, hlen with
    | [a], _ => simp at hu0; rw [hu0]
  subst hvs2
  -- the box
  have hE := hs.ent id _ hv
  unfold EOK at hE
  obtain ⟨b', cs, hκ', hbb, hcs, hvr, -, -⟩ := hE
  rw [hκ] at hκ'
  simp only [Option.some.injEq, Value.pointer.injEq, Addr.mk.injEq, and_true] at hκ'
  subst hκ'
  obtain ⟨b, hκm, D, hD, hDk, hDs⟩ := owns_map (P := Tryz.prog) (k := 9) (by kernel_rfl) hs hm hkv hn hl hc
  have hcell : w.cell? ⟨bv, 0, none⟩ = some (.map (some b)) := by
    obtain ⟨u, hu, hx⟩ := hvr.get? (i := 0) (a := .map m) rfl
    have hmi : u = .map (some b) := by
      cases hx with
      | im _ _ h => cases h
      | map _ b2 h => rw [hκm] at h; simp at h; rw [h]
    subst hmi
    simp only [World.cell?, hcs]
    simp [← Array.getElem?_toList, hu]
  have hbl : bv < w.heap.size := (Array.getElem?_eq_some_iff.1 hcs).1
  have hseq : SeqGives Fence.wide 1 Tryz.prog n_keysIter #[.pointer (some ⟨bv, 0, none⟩)] encStr (fun ss => ss.Perm (strKeys D)) (Maps.size D) w :=
    AnyZ.keys_gives (ρ := Tryz.mapKeys_ren) { Tryz.mapKeys with } Fence.wide _ trivial rfl (by omega) bv b names.length D w hbl hcell hD
  have cC := AnyZ.collect_in Tryz.collect Fence.wide 3 trivial trivial rfl (by omega) n_keysIter #[.pointer (some ⟨bv, 0, none⟩)] trivial (Tryz.mapKeys.f10.enters rfl) _ _ (by rw [hDs]; unfold maxLen; omega) (by rw [hDs]; omega) w hseq
  refine Calls.mono (callsIn_wide.1 cC) ?_
  rintro e w' ⟨v, ss, rfl, hS, hrow, hnil, hb⟩
  obtain ⟨Im', q1, q2, q3⟩ := own_strsK hs hb hrow hnil
  exact ⟨.lst (strEls ss), σ, v, κ, Im', rfl, ⟨rfl, ss, hS.trans hDk, rfl⟩, q1, q2, .im _ _ q3⟩
theorem collect_nil {σ : Store} {id : Nat} {t : TypeId} (hv : σ[id]? = some (.var t [.nilm])) :
    ACalls Tryz.prog 58 [.fn (.func n_keysIter) [] [.ptr id 0]] σ (fun r σ' => σ' = σ ∧ r = .lst []) := by
  intro base κ Im w vs hs hvs
  obtain ⟨u0, hu0, hv0⟩ := hvs.get? (i := 0) (a := .fn (.func n_keysIter) [] [.ptr id 0]) rfl
  obtain ⟨ws, us, rfl, hw1, hw2⟩ := hv0.fn_inv
  have hw0 : ws = [] := List.eq_nil_of_length_eq_zero hw1.1.symm
  subst hw0
  obtain ⟨u1, hu1, hv1⟩ := hw2.get? (i := 0) (a := .ptr id 0) rfl
  obtain ⟨bv, rfl, hκ⟩ := hv1.ptr_inv
  have hus : us = [.pointer (some ⟨bv, 0, none⟩)] := by
    have hlen := hw2.1
    match us, hlen with
    | [a], _ => simp at hu1; rw [hu1]
  subst hus
  have hvs2 : vs = [.func (.func n_keysIter) [].toArray [.pointer (some ⟨bv, 0, none⟩)].toArray] := by
    have hlen := hvs.1
    match vs, hlen with
    | [a], _ => simp at hu0; rw [hu0]
  subst hvs2
  have hE := hs.ent id _ hv
  unfold EOK at hE
  obtain ⟨b', cs, hκ', hbb, hcs, hvr, -, -⟩ := hE
  rw [hκ] at hκ'
  simp only [Option.some.injEq, Value.pointer.injEq, Addr.mk.injEq, and_true] at hκ'
  subst hκ'
  have hcell : w.cell? ⟨bv, 0, none⟩ = some (.map none) := by
    obtain ⟨u, hu, hx⟩ := hvr.get? (i := 0) (a := .nilm) rfl
    have hmi : u = .map none := by
      cases hx with
      | im _ _ h => cases h; rfl
    subst hmi
    simp only [World.cell?, hcs]
    simp [← Array.getElem?_toList, hu]
  have hbl : bv < w.heap.size := (Array.getElem?_eq_some_iff.1 hcs).1
  have hseq : SeqGives Fence.wide 1 Tryz.prog n_keysIter #[.pointer (some ⟨bv, 0, none⟩)] encStr (fun ss : List (List UInt8) => ss = []) 0 w :=
    AnyZ.keys_gives_nil (ρ := Tryz.mapKeys_ren) { Tryz.mapKeys with } Fence.wide _ trivial rfl bv w hbl hcell
  have cC := AnyZ.collect_in Tryz.collect Fence.wide 3 trivial trivial rfl (by omega) n_keysIter #[.pointer (some ⟨bv, 0, none⟩)] trivial (Tryz.mapKeys.f10.enters rfl) _ _ (by unfold maxLen; omega) (by omega) w hseq
  refine Calls.mono (callsIn_wide.1 cC) ?_
  rintro e w' ⟨v, ss, rfl, rfl, hrow, hnil, hb⟩
  obtain ⟨Im', q1, q2, q3⟩ := own_strsK hs hb hrow hnil
  exact ⟨.lst [], σ, v, κ, Im', rfl, ⟨rfl, rfl⟩, q1, q2, .im _ _ q3⟩
end Go.Proofs.YtjpjmdjjgfllhaaGreatDoor
end
section
set_option maxHeartbeats 4000000
namespace Go.Abs
open Go.Trie Go.Trail
theorem FKV.keys {σ : Store} : ∀ {F : Fo} {kv : List (AV × AV)} {fp : List Nat}, FKV σ F kv fp → kv.map (·.1) = F.keys.map AV.str
  | .nil, kv, fp, h => by rw [h.1]; rfl
  | .cons n lf s r, kv, fp, h => by
    obtain ⟨id, t, k, kv', fp1, fp2, rfl, _, _, _, h5⟩ := h
    simp [Fo.keys, h5.keys]
theorem keys_nodup : ∀ {F : Fo}, F.ok → F.keys.Nodup
  | .nil, _ => by simp [Fo.keys]
  | .cons n lf s r, h => List.nodup_cons.2 ⟨h.2.1, keys_nodup h.2.2.2.2⟩
theorem keys_name : ∀ {F : Fo}, F.ok → ∀ n ∈ F.keys, nameB n = true
  | .nil, _, n, h => by cases h
  | .cons m lf s r, h, n, hn => by
    rcases List.mem_cons.1 hn with rfl | hn
    · exact h.1
    · exact keys_name h.2.2.2.2 n hn
theorem flat_congr {α β : Type} {f g : α → List β} : ∀ {l : List α}, (∀ x ∈ l, f x = g x) → l.flatMap f = l.flatMap g
  | [], _ => rfl
  | a :: l, h => by
    rw [List.flatMap_cons, List.flatMap_cons, h a (by simp), flat_congr fun x hx => h x (by simp [hx])]
theorem keys_flat {β : Type} (h : Tx → Bool × Fo → List β) : ∀ {F : Fo}, F.ok → (F.keys.flatMap fun s => (F.get s).elim [] (h s)) = (Fo.toL F).flatMap fun x => h x.1 x.2
  | .nil, _ => rfl
  | .cons n lf s r, ho => by
    rw [show (Fo.cons n lf s r).keys = n :: r.keys from rfl, show Fo.toL (.cons n lf s r) = (n, lf, s) :: Fo.toL r from rfl, List.flatMap_cons, List.flatMap_cons, ← keys_flat h ho.2.2.2.2]
    congr 1
    · simp [Fo.get]
    · refine flat_congr fun x hx => ?_
      have hne : x ≠ n := fun e => ho.2.1 (e ▸ hx)
      simp [Fo.get, hne]
theorem flat_le {α β γ : Type} (f : α → List β) (g : α → List γ) : ∀ (l : List α), (∀ x ∈ l, (f x).length ≤ (g x).length) → (l.flatMap f).length ≤ (l.flatMap g).length
  | [], _ => Nat.le_refl _
  | a :: l, h => by
    have h1 := h a (by simp)
    have h2 := flat_le f g l (fun x hx => h x (by simp [hx]))
    simp only [List.flatMap_cons, List.length_append]; omega
theorem hit_len : ∀ (ps : List (Tx → Bool)) (lf : Bool) (F : Fo), F.ok → (ps ≠ [] ∨ lf = true ∨ F.isNil = false) → (hitN ps lf F).length ≤ (lvN lf F).length
  | [], lf, F, h, h2 => by
    have h3 := h2.resolve_left (fun h => h rfl)
    simp only [hitN, List.length_singleton]
    rcases h3 with h3 | h3
    · subst h3; simp [lvN]
    · obtain ⟨ms, hm, _⟩ := lv_some h h3
      have := List.length_pos_of_mem hm
      simp only [lvN, List.length_append]; omega
  | p :: ps, lf, F, h, _ => by
    have e1 : (hitN (p :: ps) lf F).length ≤ (lv F).length := by
      rw [hitN, hitF_toL, lv_toL]
      refine flat_le _ _ _ fun x hx => ?_
      obtain ⟨j, hj⟩ := List.getElem?_of_mem hx
      have hk := Go.Proofs.YtjpjmdjjgfllhaaGreatDoor.toL_ok h hj
      have := hit_len ps x.2.1 x.2.2 hk.1 (.inr hk.2)
      split <;> simp <;> omega
    simp only [lvN, List.length_append]; omega
theorem keys_le {F : Fo} (h : F.ok) : F.keys.length ≤ (lv F).length := by
  induction F with
  | nil => simp [Fo.keys]
  | cons n lf s r _ ih =>
    have h1 := ih h.2.2.2.2
    have h2 : 1 ≤ (lvN lf s).length := by
      have := hit_len [] lf s h.2.2.2.1 (.inr h.2.2.1)
      simpa [hitN] using this
    have h3 : (lv (.cons n lf s r)).length = (lvN lf s).length + (lv r).length := by simp [lv, lvN]; omega
    rw [h3]
    simp only [Fo.keys, List.length_cons]; omega
theorem rowIB_ne {te te' size size' : Nat} {σ : Store} {v v' : AV} {l l' : List (List AV)} (h : AccI te size σ v l) (h' : AccB false te' size' σ v' l') {i m n : Nat} (hv : v = .row i m) (hv' : v' = .row i n) : False := by
  have h1 := (AccB.row (AccB.of_I h) hv).2
  have h2 := (h'.row hv').2
  rw [h1] at h2
  simp at h2
theorem Grown.acc {σ σ' : Store} {p : Nat} {T : TypeId} {te te' size size' : Nat} {c v v' x : AV} {l l' : List (List AV)} (h : Grown σ σ' p v v') (hp : σ[p]? = some (.var T [c])) (ha : AccB false te size σ v l) (hx : AccI te' size' σ x l') : AccI te' size' σ' x l' :=
  hx.keep fun i e he hv => by
    refine h.off i e he ?_ fun m hm => rowIB_ne hx ha hv hm
    rintro rfl
    have := (AccB.row (AccB.of_I hx) hv).2
    rw [hp] at this; cases this
end Go.Abs
namespace Go.Proofs.YtjpjmdjjgfllhaaGreatDoor
open Go.Abs Go.Glob Go.Trail Go.Trie
variable {G : Globs}
def hitEls (l : List Hit) : List (List AV) := l.map fun h => [.str h.1, .bool h.2.1, .bool h.2.2]
theorem hitEls_len (l : List Hit) : (hitEls l).length = l.length := by simp [hitEls]
theorem hitEls_app1 (l : List Hit) (x : Hit) : hitEls l ++ [[.str x.1, .bool x.2.1, .bool x.2.2]] = hitEls (l ++ [x]) := by simp [hitEls]
theorem hitEls_pure (l : List Hit) : ∀ c ∈ hitEls l, ∀ a ∈ c, a.pure = true := by
  intro c hc a ha
  simp only [hitEls, List.mem_map] at hc
  obtain ⟨x, _, rfl⟩ := hc
  simp at ha
  rcases ha with rfl | rfl | rfl <;> simp [AV.pure]
def ftP (p : Tx) : Tx → Bool := fun n => (matchF p n).1
def ReachR (σ : Store) (p : Nat) (T : TypeId) (acc : AV) (L out : List Hit) (r : AV) (σ' : Store) : Prop := r = .tup [] ∧ ∃ acc' M, σ'[p]? = some (.var T [acc']) ∧ AccB false 53 3 σ' acc' (hitEls (L ++ M)) ∧ M.Perm out ∧ Grown σ σ' p acc acc'
def outH (names : List Tx) (ps : List Tx) (lf : Bool) (F : Fo) : List Hit := (hitN (ps.map ftP) lf F).map fun x => (join (names ++ x.1), x.2)
theorem treach_ok : ∀ (ps : List Tx) (lf : Bool) (F : Fo) (σ : Store) (id : Nat) (rest : List AV) (fp : List Nat) (v : AV) (names : List Tx) (p : Nat) (T : TypeId) (acc : AV) (L : List Hit), NA σ id rest lf F fp → AccI 9 1 σ v (strEls names) → σ[p]? = some (.var T [acc]) → AccB false 53 3 σ acc (hitEls L) → F.ok → (∀ n ∈ names, nameB n = true) → names.length + ps.length ≤ 8 → (∀ q ∈ ps, q.length ≤ 1000000) → L.length + (lvN lf F).length ≤ 100000 → (ps ≠ [] ∨ lf = true ∨ F.isNil = false) →
    ACalls Tryz.prog n_trie_node_reach [.ptr id 0, .lst (strEls ps), v, .ptr p 0] σ (ReachR σ p T acc L (outH names ps lf F))
  | [], lf, F, σ, id, rest, fp, v, names, p, T, acc, L, h, hv, hp, ha, hok, hnm, hd, hpl, hL, hne => by
    refine acalls_of_awp_e hmix c_trie_node_reach rfl ?_
    obtain ⟨t, k, hc, kv, hmv, hkv, -⟩ := h.look
    have hjl : (join names).length ≤ 140737488355328 := by
      have := join_bound names hnm
      simp at hd; omega
    have hL1 : 1 ≤ (lvN lf F).length := by
      have := hit_len [] lf F hok (.inr (hne.resolve_left (fun h => h rfl)))
      simpa [hitN] using this
    have e0 : strEls ([] : List Tx) = [] := rfl
    have hpa : ∀ m, acc ≠ .row p m := fun m hm => by
      have := (ha.row hm).2
      rw [hp] at this; cases this
    simp [-mapView, a_trie_node_reach, e0, cellsAt, hp]
    refine qc_lent (join_ok names hjl (by simp at hd; omega)) (.cons (hv.coe true) (.cons (.pure _ (by simp [AV.pure])) .nil)) (by simp [rig]) ?_
    have hgt : decide (0 < kv.length) = !F.isNil := by
      cases hb : F.isNil with
      | true => have := hkv.2 hb; simp [this]
      | false =>
        have : kv.length ≠ 0 := fun e => by rw [hkv.1 e] at hb; cases hb
        simp; omega
    simp [-mapView, cellsAt, hc, hmv, lay, splice]
    rw [hgt]
    have hout : outH names [] lf F = [(join names, lf, !F.isNil)] := by simp [outH, hitN]
    rw [hout]
    refine ap_accB false (bytes := 24) ha [.str (join names), .bool lf, .bool !F.isNil] (by decide) rfl (by rw [hitEls_app1 L (join names, lf, !F.isNil)]; exact hitEls_pure _) (by rw [hitEls_len]; omega) (by rw [hitEls_len]; omega) fun acc' σ' hacc hg => ?_
    have hp1 : σ'[p]? = some (.var T [acc]) := hg.off p _ hp hpa
    have hplt' := (List.getElem?_eq_some_iff.1 hp1).1
    obtain ⟨h1, h2⟩ := hacc.one
    have hG2 := (hg.at p).ptr (T := T) hacc.under
    simp [h1, h2, putAt, hp1, splice]
    refine er_keep (σ'.set p (.var T [acc'])) (.tup []) (by simp [tupOf]) [] (by simp) hG2.kept.len (by simp [AV.under]) hG2.kept.und ⟨rfl, acc', [(join names, lf, !F.isNil)], by simp [hplt'], ?_, List.Perm.refl _, hG2⟩
    rw [hitEls_app1 L (join names, lf, !F.isNil)] at hacc
    refine hacc.keep fun i e he hv => ?_
    rw [set_off]
    · exact he
    · rintro rfl
      have := (hacc.row hv).2
      rw [hp1] at this; cases this
  | q :: ps, lf, F, σ, id, rest, fp, v, names, p, T, acc, L, h, hv, hp, ha, hok, hnm, hd, hpl, hL, hne => by
    refine acalls_of_awp_e hmix c_trie_node_reach rfl ?_
    obtain ⟨t, k, fpk, h1, h2, hfp⟩ := h
    have hplt := (List.getElem?_eq_some_iff.1 hp).1
    have hlt := (List.getElem?_eq_some_iff.1 h1).1
    have hnode : NodeE (.var t (k :: .bool lf :: rest)) := .inl ⟨_, _, _, _, rfl⟩
    have hone : ∀ c ∈ strEls names, c.length = 1 := by intro c hc; simp [strEls] at hc; obtain ⟨a, _, rfl⟩ := hc; rfl
    have hone2 : ∀ c ∈ strEls ps, c.length = 1 := by intro c hc; simp [strEls] at hc; obtain ⟨a, _, rfl⟩ := hc; rfl
    have e0 : strEls (q :: ps) = [.str q] :: strEls ps := rfl
    have hne0 : ¬ ((((strEls ps).length : Int) + 1) = 0) := by omega
    simp only [List.length_cons] at hd
    rcases h2 with ⟨rfl, rfl, rfl⟩ | ⟨m, kv, fp1, rfl, h3, rfl, h4⟩
    · simp [a_trie_node_reach, e0, hne0, cellsAt, h1]
      refine ac_eff (keys_ok (.inl rfl)) ?_
      rintro r σ1 ⟨rfl, t5, rfl⟩
      simp
      refine ac_eff (collect_nil (t := t5) (id := σ.length) (by simp)) ?_
      rintro r σ1 ⟨rfl, rfl⟩
      simp
      refine lp_startx (fun x f σ' => f 41 = .int .i64 0 ∧ f 42 = .int .i64 0 ∧ σ' = σ ++ [.var t5 [.nilm]]) 0 ⟨by simp, by simp, rfl⟩ ?_
      rintro x f σ' ⟨f41, f42, rfl⟩
      simp [f41, f42]
      have hG : Grown σ (σ ++ [.var t5 [.nilm]]) p acc acc := (Grown.refl σ p acc).app (by simp [Entry.under, AV.under])
      exact er_keep (σ ++ [.var t5 [.nilm]]) (.tup []) (by simp [tupOf]) [] (by simp) (by simp) (by simp [AV.under]) hG.kept.und ⟨rfl, acc, [], get_app hp, by simpa using ha.keep fun i e he _ => get_app he, by simp [outH, hitN, hitF], hG⟩
    · have hmlt := (List.getElem?_eq_some_iff.1 h3).1
      have hkeys := h4.keys
      have hkl := keys_le hok
      have hlvl : (lv F).length ≤ (lvN lf F).length := by simp [lvN]
      have hknm := keys_name hok
      simp [a_trie_node_reach, e0, hne0, cellsAt, h1]
      refine ac_eff (keys_ok (.inr ⟨m, kv, rfl, h3⟩)) ?_
      rintro r σ1 ⟨rfl, t5, rfl⟩
      simp
      refine ac_eff (collect_ok (t := t5) (id := σ.length) (m := m) (by simp) (get_app h3) hkeys (keys_nodup hok) (fun s hs => by have := hknm s hs; simp [nameB] at this; omega) (by omega)) ?_
      rintro r σ1 ⟨rfl, ss, hss, rfl⟩
      have hsl := hss.length_eq
      obtain ⟨gk, hgk⟩ : ∃ gk : Tx → List Hit, gk = fun s => (F.get s).elim [] fun w => if ftP q s then (hitN (ps.map ftP) w.1 w.2).map (fun x => (join (names ++ (s :: x.1)), x.2)) else [] := ⟨_, rfl⟩
      obtain ⟨lk, hlk⟩ : ∃ lk : Tx → List (List Tx), lk = fun s => (F.get s).elim [] fun w => lvN w.1 w.2 := ⟨_, rfl⟩
      have hall : (F.keys.flatMap gk) = outH names (q :: ps) lf F := by
        rw [hgk, keys_flat (fun s w => if ftP q s then (hitN (ps.map ftP) w.1 w.2).map (fun x => (join (names ++ (s :: x.1)), x.2)) else []) hok]
        simp only [outH, List.map_cons, hitN, hitF_toL, List.map_flatMap]
        refine flat_congr fun x _ => ?_
        split <;> simp [List.map_map, Function.comp_def]
      have hlkl : (F.keys.flatMap lk).length = (lv F).length := by
        rw [hlk, keys_flat (fun s w => lvN w.1 w.2) hok, lv_toL]
        simp [List.length_flatMap]
      simp [els_len]
      refine lp_startx (fun x f σ' => ∃ (i : Nat) (acc' : AV) (M : List Hit), x = ss.length - i ∧ i ≤ ss.length ∧ f 0 = .ptr id 0 ∧ f 1 = .lst (strEls (q :: ps)) ∧ f 2 = v ∧ f 3 = .ptr p 0 ∧ f 40 = .lst (strEls ss) ∧ f 41 = .int .i64 ss.length ∧ f 42 = .int .i64 i ∧ σ'[p]? = some (.var T [acc']) ∧ AccB false 53 3 σ' acc' (hitEls (L ++ M)) ∧ M.Perm ((ss.take i).flatMap gk) ∧ Grown σ σ' p acc acc') ss.length
        ⟨0, acc, [], by simp, by simp, by simp [initF], by simp [initF, e0], by simp [initF], by simp [initF], by simp, by simp, by simp, get_app hp, by simpa using ha.keep fun i e he _ => get_app he, by simp, (Grown.refl σ p acc).app (by simp [Entry.under, AV.under]; omega)⟩ ?_
      rintro x f σ' ⟨i, acc', M, hx, hi, f0, f1, f2, f3, f40, f41, f42, ep, ea, eM, eG⟩
      by_cases hlt2 : i < ss.length
      · obtain ⟨s, hs⟩ : ∃ s, ss[i]? = some s := ⟨_, List.getElem?_eq_getElem hlt2⟩
        have hse : (strEls ss)[i]? = some [.str s] := by simp [strEls, hs]
        obtain ⟨hx1, hx2⟩ := List.getElem?_eq_some_iff.1 hse
        have hlt' : (i : Int) < (ss.length : Int) := by omega
        have hwi : IntKind.i64.wrap ((i : Int) + 1) = (i : Int) + 1 := wrap_i64 (by omega) (by omega)
        have hsk : s ∈ F.keys := hss.mem_iff.1 (List.mem_of_getElem? hs)
        have hsn := hknm s hsk
        have hsl1 : s.length ≤ 32 := by simp [nameB] at hsn; omega
        have hq1 := hpl q (by simp)
        have htk : ss.take (i + 1) = ss.take i ++ [s] := by rw [List.take_add_one, hs]; rfl
        have hftk : (ss.take (i + 1)).flatMap gk = (ss.take i).flatMap gk ++ gk s := by rw [htk, List.flatMap_append]; simp
        obtain ⟨w, hw⟩ : ∃ w, F.get s = some w := by
          cases hg : F.get s with
          | none => exact absurd hsk (get_none.1 hg)
          | some w => exact ⟨w, rfl⟩
        simp [f0, f1, f2, f3, f40, f41, f42, e0, hlt2, hlt', hse, hx2]
        refine ac_same (Match_ok q s (by omega) (by omega)) (by simp) ?_
        rintro r rfl
        simp
        cases hm : (matchF q s).1 with
        | false =>
          have hg0 : gk s = [] := by rw [hgk]; simp [hw, ftP, hm]
          simp [f42, hwi]
          refine nx_intro (ss.length - (i + 1)) (by omega) ⟨i + 1, acc', M, rfl, by omega, by simp [f0], by simp [f1, e0], by simp [f2], by simp [f3], by simp [f40], by simp [f41], by simp, ep, ea, by rw [hftk, hg0]; simpa using eM, eG⟩
        | true =>
          have hg1 : gk s = (hitN (ps.map ftP) w.1 w.2).map (fun x => (join (names ++ (s :: x.1)), x.2)) := by rw [hgk]; simp [hw, ftP, hm]
          obtain ⟨j2, id2, fp2, b1, b2, -⟩ := h4.find_some hw 0
          have t1 : σ'[id]? = some (.var t (.map m :: .bool lf :: rest)) := eG.node hp ha h1 hnode
          have t2 : σ'[m]? = some (.mp kv) := eG.node hp ha h3 (.inr ⟨_, rfl⟩)
          have hls : lookStep 1 .nilp false (.str s) kv = some (.ptr id2 0) := by simp [lookStep, b1]
          have hvm := view_map t2
          have v2 := eG.acc hp ha hv
          have hvw := v2.view
          have hsl3 := tight_of (n := names.length) v2 hone (els_len names).symm
          have hok2 := ok_get hok hw
          simp [-mapView, -lookStep, f0, f1, f2, f3, e0, t1, cellsAt, hvm, hls, hvw, els_len, hsl3]
          try rw [if_pos hone2]
          simp [-mapView, -lookStep, f0, f1, f2, f3, e0, t1, cellsAt, hvm, hls, hvw, els_len, hsl3]
          refine apT_intro true [[.str s]] rfl (by decide) (by simp) hone (by simp) (fun _ => .inl rfl) (by rw [els_len]; simp; omega) (by rw [els_len]; simp; omega) ?_
          have htk2 : (strEls ps).take ps.length = strEls ps := List.take_of_length_le (by rw [els_len]; exact Nat.le_refl _)
          simp [els_len, htk2]
          obtain ⟨τ3, hτ3⟩ : ∃ τ3 : Store, τ3 = σ' ++ [.row 9 1 (strEls names ++ [[.str s]]) true] := ⟨_, rfl⟩
          rw [← hτ3]
          have G3 : Grown σ τ3 p acc acc' := by
            rw [hτ3]
            refine eG.app ?_
            simp only [Entry.under, List.all_eq_true, els_app1]
            exact fun c hc a ha => pure_under' (els_pure _ c hc a ha) _
          have p3 : τ3[p]? = some (.var T [acc']) := by rw [hτ3]; exact get_app ep
          have a3 : AccB false 53 3 τ3 acc' (hitEls (L ++ M)) := ea.keep fun j e he _ => by rw [hτ3]; exact get_app he
          have n3 : NA τ3 id2 [] w.1 w.2 fp2 := G3.na hp ha b2
          have r3 : AccI 9 1 τ3 (.row σ'.length (names.length + 1)) (strEls (names ++ [s])) := by
            rw [hτ3, ← els_app1]
            exact .inr ⟨by simp, σ'.length, by simp [els_len], by simp⟩
          have hdrop : ss = ss.take i ++ s :: ss.drop (i + 1) := by rw [← drop_cons hs, List.take_append_drop]
          have hcount : ((ss.take i).flatMap lk).length + (lk s).length ≤ (lv F).length := by
            have e1 := (hss.flatMap_right lk).length_eq
            rw [hlkl] at e1
            have e2 := congrArg (fun l => (l.flatMap lk).length) hdrop
            simp only [List.flatMap_append, List.flatMap_cons, List.length_append] at e2
            omega
          have hgl : ((ss.take i).flatMap gk).length ≤ ((ss.take i).flatMap lk).length := flat_le _ _ _ fun y hy => by
            have hyk : y ∈ F.keys := hss.mem_iff.1 (List.mem_of_mem_take hy)
            rw [hgk, hlk]
            cases hgy : F.get y with
            | none => simp [hgy]
            | some wy =>
              have hoky := ok_get hok hgy
              have := hit_len (ps.map ftP) wy.1 wy.2 hoky.2.1 (.inr hoky.2.2)
              simp only [hgy, Option.elim_some]
              split <;> simp <;> omega
          have hlks : lk s = lvN w.1 w.2 := by rw [hlk]; simp [hw]
          rw [hlks] at hcount
          have hML := eM.length_eq
          refine ac_eff (treach_ok ps w.1 w.2 τ3 id2 [] fp2 (.row σ'.length (names.length + 1)) (names ++ [s]) p T acc' (L ++ M) n3 r3 p3 a3 hok2.2.1 (fun n hn => by
            rcases List.mem_append.1 hn with hn | hn
            · exact hnm n hn
            · simp at hn; subst hn; exact hsn) (by simp; omega) (fun q hq => hpl q (by simp [hq])) (by rw [List.length_append]; omega) (.inr hok2.2.2)) ?_
          rintro r σ4 ⟨rfl, acc4, M4, p4, a4, hM4, G4⟩
          simp [f42, hwi]
          refine nx_intro (ss.length - (i + 1)) (by omega) ⟨i + 1, acc4, M ++ M4, rfl, by omega, by simp [f0], by simp [f1, e0], by simp [f2], by simp [f3], by simp [f40], by simp [f41], by simp, p4, by simpa using a4, ?_, G3.trans G4⟩
          rw [hftk, hg1]
          refine eM.append (hM4.trans ?_)
          simp [outH]
      · have hlt' : ¬ (i : Int) < (ss.length : Int) := by omega
        rw [List.take_of_length_le (by omega)] at eM
        simp [f41, f42, hlt2, hlt']
        refine er_keep σ' (.tup []) (by simp [tupOf]) [] (by simp) eG.kept.len (by simp [AV.under]) eG.kept.und ⟨rfl, acc', M, ep, ea, ?_, eG⟩
        rw [← hall]
        exact eM.trans (hss.flatMap_right gk)
end Go.Proofs.YtjpjmdjjgfllhaaGreatDoor
end
section
set_option maxHeartbeats 2000000
namespace Go.Abs
open Go.Trie Go.Proofs Go.Sort Go.Proofs.YtjpjmdjjgfllhaaGreatDoor
def encH (n : Hit) : List Value := [.string ⟨n.1.toArray⟩, .bool n.2.1, .bool n.2.2]
def vals3 (l : List Hit) : List Value := l.flatMap encH
theorem vals3_len (l : List Hit) : (vals3 l).length = l.length * 3 := by
  induction l with
  | nil => rfl
  | cons n l ih => simp only [vals3, List.flatMap_cons, List.length_append, List.length_cons] at *; rw [ih]; simp [encH]; omega
theorem flat_vals3 (l : List Hit) : (flatK encH 3 l.toArray).toList = vals3 l := by
  apply List.ext_getElem?
  intro t
  by_cases h : t < l.length * 3
  · have h1 : t < (flatK encH 3 l.toArray).toList.length := by simp; omega
    have h2 : t < (vals3 l).length := by rw [vals3_len]; exact h
    rw [List.getElem?_eq_getElem h1, List.getElem?_eq_getElem h2]
    congr 1
    have e1 : (flatK encH 3 l.toArray).toList[t] = (flatK encH 3 l.toArray)[t]! := by
      rw [getElem!_pos _ t (by simpa using h1)]; simp
    rw [e1, get_flatK _ _ _ _ (by simpa using h)]
    clear h1 e1
    induction l generalizing t with
    | nil => simp at h
    | cons n l ih =>
      match t, h, h2 with
      | 0, h, h2 => simp [vals3, encH]
      | 1, h, h2 => simp [vals3, encH]
      | 2, h, h2 => simp [vals3, encH]
      | t + 3, h, h2 =>
        have h' : t < l.length * 3 := by simp at h; omega
        have h2' : t < (vals3 l).length := by rw [vals3_len]; exact h'
        have := ih t h' h2'
        have e2 : (t + 3) / 3 = t / 3 + 1 := by omega
        have e3 : (t + 3) % 3 = t % 3 := by omega
        rw [e2, e3]
        have e4 : (vals3 (n :: l))[t + 3] = (vals3 l)[t] := by simp [vals3, encH]
        rw [e4, ← this]
        have e5 : (n :: l).toArray[t / 3 + 1]! = l.toArray[t / 3]! := by
          have hq : t / 3 < l.length := by omega
          rw [getElem!_pos _ _ (by simp; omega), getElem!_pos _ _ (by simpa using hq)]
          simp
        rw [e5]
  · rw [List.getElem?_eq_none (by simp; omega), List.getElem?_eq_none (by rw [vals3_len]; omega)]
variable {G : Globs} {base : Nat} {κ : Key} {Im : Addr → Prop} {w : World} {σ : Store}
theorem hitEls_cons (n : Hit) (l : List Hit) : hitEls (n :: l) = [.str n.1, .bool n.2.1, .bool n.2.2] :: hitEls l := rfl
theorem vals3_of {l : List Hit} {xs : List Value} (h : VRL κ Im w (hitEls l).flatten xs) : xs = vals3 l := by
  induction l generalizing xs with
  | nil =>
    have := h.1
    simp [hitEls] at this
    rw [List.eq_nil_of_length_eq_zero this.symm]; rfl
  | cons n l ih =>
    rw [hitEls_cons] at h
    simp only [List.flatten_cons] at h
    have hl := h.1
    simp at hl
    match xs, h, hl with
    | x :: y :: z :: xs, h, _ =>
      obtain ⟨u, hu, h1⟩ := h.get? (i := 0) (a := .str n.1) (by simp)
      obtain ⟨u2, hu2, h2⟩ := h.get? (i := 1) (a := .bool n.2.1) (by simp)
      obtain ⟨u3, hu3, h4⟩ := h.get? (i := 2) (a := .bool n.2.2) (by simp)
      simp at hu hu2 hu3
      subst hu; subst hu2; subst hu3
      have h3 : VRL κ Im w (hitEls l).flatten xs := by
        have := h.drop 3
        simpa using this
      rw [h1.str_inv, h2.bool_inv, h4.bool_inv, ih h3]
      rfl
    | [x, y], h, hl => simp at hl
    | [x], h, hl => simp at hl
    | [], h, hl => simp at hl
theorem vals3_vr (l : List Hit) : VRL κ Im w (hitEls l).flatten (vals3 l) := by
  induction l with
  | nil => exact VRL.nil
  | cons n l ih =>
    rw [hitEls_cons]
    simp only [List.flatten_cons, vals3, List.flatMap_cons]
    exact VRL.append (.cons (.im _ _ (.str _)) (.cons (.im _ _ (.bool _)) (.cons (.im _ _ (.bool _)) .nil))) ih
theorem hitEls_one (l : List Hit) : ∀ c ∈ hitEls l, ∀ x ∈ c, x.one = true := fun c hc x hx => by
  simp only [hitEls, List.mem_map] at hc
  obtain ⟨n, _, rfl⟩ := hc
  simp at hx
  rcases hx with rfl | rfl | rfl <;> rfl
theorem hitEls_three (l : List Hit) : ∀ c ∈ hitEls l, c.length = 3 := fun c hc => by
  simp only [hitEls, List.mem_map] at hc
  obtain ⟨n, _, rfl⟩ := hc
  rfl
/-- Where a row lies; and how the store lies behind the sort's write of as many numbers. -/
theorem srel_sorted {i e : Nat} {l A R : List Hit} (hlA : l = A ++ R) (hs : SRel base κ Im σ w) (he : σ[i]? = some (.row e 3 (hitEls l) false)) (hne : l ≠ []) :
    ∃ g cap, κ i l.length = some (.slice (some ⟨g, 0, none⟩) l.length cap) ∧ g < w.heap.size ∧ HoldsK encH 3 w g 0 A.toArray ∧
      ∀ (A' : List Hit) n os, A'.length = A.length → SRel base κ Im (σ.set i (.row e 3 (hitEls (A' ++ R)) false)) (sortWorldK encH 3 w g 0 n A'.toArray os) ∧ Grow base κ Im w κ Im (sortWorldK encH 3 w g 0 n A'.toArray os) := by
  have hE := hs.ent i _ he
  unfold EOK at hE
  obtain ⟨v, xs, hκ, hown, hvr, h0, h2, h1, -, hblk⟩ := hE
  rw [hitEls_len] at hκ hown hblk
  have hxs := vals3_of hvr
  subst hxs
  obtain ⟨hlx, hown⟩ := hown
  rcases hown with ⟨_, h⟩ | ⟨g, cap, cur, rfl, hbase, hg, hc1, hc2, hc3, htk⟩
  · exact absurd (List.eq_nil_of_length_eq_zero h) hne
  have hgs : g < w.heap.size := (Array.getElem?_eq_some_iff.1 hg).1
  have hAl : A.length ≤ l.length := by rw [hlA]; simp
  have hvA : vals3 l = vals3 A ++ vals3 R := by rw [hlA]; simp [vals3]
  have hH : HoldsK encH 3 w g 0 A.toArray := by
    intro j hj
    have hjA : j < A.length * 3 := by simpa using hj
    have hj' : j < l.length * 3 := by omega
    refine ⟨?_, by simp [World.frozen?, hg]⟩
    have h3 : (cur.toList.take (l.length * 3))[j]? = (vals3 l)[j]? := by rw [htk]
    rw [List.getElem?_take_of_lt hj', hvA, List.getElem?_append_left (by rw [vals3_len]; exact hjA), ← flat_vals3] at h3
    simp only [World.cell?, hg, Nat.zero_add]
    simp only [Option.isSome_none, Bool.false_eq_true, if_false]
    rw [← Array.getElem?_toList, h3, Array.getElem?_toList, getElem!_pos _ j hj]
    simp [hj]
  refine ⟨g, cap, hκ, hgs, hH, fun A' n os hl => ?_⟩
  obtain ⟨F, hF⟩ : ∃ F, F = flatK encH 3 A'.toArray := ⟨_, rfl⟩
  have hFs : F.size = A.length * 3 := by rw [hF]; simp [hl]
  have hFl : F.toList = vals3 A' := by rw [hF, flat_vals3]
  obtain ⟨l', hl'⟩ : ∃ l', l' = A' ++ R := ⟨_, rfl⟩
  have hll : l'.length = l.length := by rw [hl', hlA]; simp [hl]
  have hv' : vals3 l' = F.toList ++ vals3 R := by rw [hl', hFl]; simp [vals3]
  rw [← hl']
  obtain ⟨w', hw'⟩ : ∃ w', w' = sortWorldK encH 3 w g 0 n A'.toArray os := ⟨_, rfl⟩
  have hw2 : w' = grow (mapBlock (Sort.ahead w n) g (putCells id 0 F)) os := by rw [hw', hF]; rfl
  have hheap : w'.heap[g]? = some (.cells (putCells id 0 F cur) e (0, 0)) := by
    rw [hw2, heap_grow_old _ _ (by simpa [mapBlock, Sort.ahead] using hgs)]
    simp [mapBlock, Sort.ahead, Array.getElem?_modify, hg, onCells]
  have hother : ∀ k, k < w.heap.size → k ≠ g → w'.heap[k]? = w.heap[k]? := fun k hk hne => by
    rw [hw2, heap_grow_old _ _ (by simpa [mapBlock, Sort.ahead] using hk)]
    simp [mapBlock, Sort.ahead, Array.getElem?_modify, Ne.symm hne]
  have hsize : w.heap.size ≤ w'.heap.size := by rw [hw2]; simp [grow, mapBlock, Sort.ahead]
  have htake : (putCells id 0 F cur).toList.take (l.length * 3) = vals3 l' := by
    rw [hv']
    apply List.ext_getElem?
    intro j
    have hR : (vals3 R).length = (l.length - A.length) * 3 := by rw [vals3_len, hlA]; simp
    by_cases hj : j < l.length * 3
    · rw [List.getElem?_take_of_lt hj, Array.getElem?_toList]
      have hjc : j < cur.size := by
        have : l.length * 3 ≤ cap * 3 := Nat.mul_le_mul_right _ hc1
        omega
      by_cases hjF : j < F.size
      · rw [List.getElem?_append_left (by simpa using hjF), Array.getElem?_toList]
        simp [putCells, hjF, hjc]
      · rw [List.getElem?_append_right (by simpa using Nat.le_of_not_lt hjF)]
        have h3 : (cur.toList.take (l.length * 3))[j]? = (vals3 l)[j]? := by rw [htk]
        rw [List.getElem?_take_of_lt hj, hvA, List.getElem?_append_right (by rw [vals3_len]; omega), Array.getElem?_toList, vals3_len] at h3
        rw [Array.length_toList, hFs, ← h3]
        simp [putCells, hjF, hjc]
    · rw [List.getElem?_take_eq_none (by omega), List.getElem?_eq_none (by rw [List.length_append, Array.length_toList, hR, hFs]; omega)]
  have hIm : ∀ a, Im a → a.block ≠ g := fun a ha hb => by
    have := ((hblk g rfl).1 a ha hb).1
    cases this
  have hcell : ∀ a, Im a → w'.cell? a = w.cell? a := fun a ha => World.cell?_of_block (hother _ (hs.imlt a ha).1 (hIm a ha))
  rw [← hw']
  have hbl : Go.RowKit.Below base w w' := ⟨by rw [hw2]; rfl, by rw [hw2]; rfl, by rw [hw2]; rfl, hsize, fun k hk => hother k (Nat.lt_of_lt_of_le hk hs.hb) (by omega)⟩
  have hbe : ∀ l'' : List Hit, l''.length = l.length → (Entry.row e 3 (hitEls l'') false).block κ i = some g := fun l'' hl'' => by
    simp [Entry.block, hitEls_len, hl'', hκ, Value.ownBlock]
  refine ⟨hs.set he (.row e 3 (hitEls l') false) (fun _ _ _ h => h) (fun _ _ _ h => .inl h) (by simp [Entry.ver, hitEls_len, hll]) (fun _ h => h) hcell (fun _ h => .inl h) hsize (fun k hk hne2 => hother k hk fun h => hne2 (by rw [hbe l rfl, h])) ?_ (fun b hb => .inr (by rw [hbe l rfl, ← hb, hbe l' hll])), ⟨fun _ _ _ h => h, fun _ h => h, hcell, fun _ h => .inl h, hbl⟩⟩
  unfold EOK
  refine ⟨.slice (some ⟨g, 0, none⟩) l.length cap, vals3 l', by rw [hitEls_len, hll]; exact hκ, ⟨by rw [vals3_len, hitEls_len], .inr ⟨g, cap, _, by rw [hitEls_len, hll], hbase, hheap, by rw [hitEls_len, hll]; exact hc1, hc2, by simp [putCells, hc3], by rw [hitEls_len, hll]; exact htake⟩⟩, vals3_vr l', by decide, hitEls_three l', hitEls_one l', fun h => (by cases h), ?_⟩
  rw [hitEls_len, hll]
  exact hblk
end Go.Abs
namespace Go.Proofs.YtjpjmdjjgfllhaaGreatDoor
open Go.Shelf Go.RowKit Go.Lib Go.Sort Go.Proofs Go.Trie
theorem cmp_lt : ∀ (a b : List UInt8), decide (Lib.compareBytes a b < 0) = decide (a < b)
  | [], [] => by simp [Lib.compareBytes]
  | [], _ :: _ => by simp [Lib.compareBytes]
  | _ :: _, [] => by simp [Lib.compareBytes]
  | x :: a, y :: b => by
    have ih := cmp_lt a b
    simp only [Lib.compareBytes]
    by_cases h1 : x < y
    · simp [h1, List.cons_lt_cons_iff]
    · by_cases h2 : y < x
      · have hne : x ≠ y := fun e => by subst e; exact h1 h2
        simp [h1, h2, hne, List.cons_lt_cons_iff]
      · have e : x = y := by
          apply UInt8.toNat_inj.1
          have h3 : ¬ x.toNat < y.toNat := fun h => h1 (UInt8.lt_iff_toNat_lt.2 h)
          have h4 : ¬ y.toNat < x.toNat := fun h => h2 (UInt8.lt_iff_toNat_lt.2 h)
          omega
        subst e
        simp [h1, List.cons_lt_cons_iff]
        simpa using ih
theorem ltH (x y : Hit) : ltOf (fun x y : Hit => Lib.compareBytes x.1 y.1) x y = decide (x.1 < y.1) := by
  unfold ltOf
  exact cmp_lt x.1 y.1
/-- 'strings.Compare(a.Path, b.Path) < 0' is a strict weak order. -/
theorem swoH : SWO (ltOf fun x y : Hit => Lib.compareBytes x.1 y.1) where
  irrefl x := by rw [ltH]; simp
  trans x y z h1 h2 := by rw [ltH] at *; simp only [decide_eq_true_eq] at *; exact tx_trans h1 h2
  ntrans x y z h1 h2 := by
    rw [ltH] at *
    simp only [decide_eq_false_iff_not] at *
    intro h3
    by_cases e : x.1 = y.1
    · exact h2 (e ▸ h3)
    · exact h2 (tx_trans (tx_tri h1 e) h3)
set_option maxHeartbeats 1000000 in
theorem nodes1_lays (x y : Hit) (W : World) : Calls Tryz.prog 42 #[.agg #[.string ⟨x.1.toArray⟩, .bool x.2.1, .bool x.2.2], .agg #[.string ⟨y.1.toArray⟩, .bool y.2.1, .bool y.2.2]] W fun e w' => e = .returned (.int .i64 (Lib.compareBytes x.1 y.1)) ∧ ∃ q os', w' = grow (W.drewN q) os' := by
  have hcon := fun W' => Tryz.strings_Compare ⟨x.1.toArray⟩ ⟨y.1.toArray⟩ W'
  generalize Lib.compareBytes x.1 y.1 = r at hcon ⊢
  go_enter Tryz.func42, Tryz.ntmps42
  go_wp2_with (go_at_call 43; refine (hcon _).mono ?_; rintro e w' ⟨rfl, rfl⟩)
  go_ret
  exact ⟨rfl, 0, _, by rw [alloc_eq_grow, alloc_eq_grow, grow_grow]; rfl⟩
theorem nodes1_cmp (blk off size : Nat) (w : World) : CmpLays Tryz.prog 42 #[] Go.Abs.encH 3 (fun x y => Lib.compareBytes x.1 y.1) blk off size w :=
  fun _ _ _ _ x y => nodes1_lays x y _
theorem perm_of {l : List Hit} {d : Array Hit} (h : PermIn 0 l.toArray.size l.toArray d) : d.toList.Perm l := by
  obtain ⟨h1, _, h3⟩ := h
  have e1 : (d.extract 0 l.toArray.size).toList = d.toList := by
    rw [← h1]; simp
  have e2 : (l.toArray.extract 0 l.toArray.size).toList = l := by simp
  rw [e1, e2] at h3
  exact h3
theorem sorted_of {l : List Hit} {d : Array Hit} (hs : d.size = l.length) (h : SortedIn (ltOf fun x y : Hit => Lib.compareBytes x.1 y.1) 0 l.toArray.size d) : d.toList.Pairwise fun a b => a.1 ≤ b.1 := by
  rw [List.pairwise_iff_getElem]
  intro i j hi hj hij
  have hj' : j < d.size := by simpa using hj
  have hi' : i < d.size := by simpa using hi
  have := h i j (Nat.zero_le _) hij (by simpa [hs] using hj')
  rw [ltH, getElem!_pos d j hj', getElem!_pos d i hi'] at this
  simpa using this
open Go.Abs in
variable {G : Globs} in
/-- Of a row, or of its beginning: the values that stand there come to stand sorted. -/
theorem sortFunc_ok {σ : Store} {id e : Nat} {A R : List Hit} {X : AV} (hX : (X = .row id (A ++ R).length ∧ R = []) ∨ X = .sub id (A ++ R).length 3 0 A.length) (he : σ[id]? = some (.row e 3 (hitEls (A ++ R)) false)) (hA : A ≠ []) (hl : A.length < 4611686018427387904) :
    ACalls Tryz.prog 41 [X, .fn (.func 42) [] []] σ fun r σ' => r = .tup [] ∧ ∃ A' : List Hit, A'.Perm A ∧ (A'.Pairwise fun a b => a.1 ≤ b.1) ∧ σ' = σ.set id (.row e 3 (hitEls (A' ++ R)) false) := by
  intro base κ Im w vs hs hv
  have hne : A ++ R ≠ [] := fun h => hA (List.append_eq_nil_iff.1 h).1
  have hA0 : 0 < A.length := List.length_pos_iff.2 hA
  obtain ⟨g, cap, hκ, hg, hH, hall⟩ := srel_sorted (A := A) (R := R) rfl hs he hne
  obtain ⟨u0, hu0, hv0⟩ := hv.get? (i := 0) (a := X) rfl
  obtain ⟨u1, hu1, hv1⟩ := hv.get? (i := 1) (a := .fn (.func 42) [] []) rfl
  obtain ⟨c0, hu⟩ : ∃ c0, u0 = .slice (some ⟨g, 0, none⟩) A.length c0 := by
    rcases hX with ⟨rfl, hR⟩ | rfl
    · obtain ⟨_, _, _, hk⟩ := hv0.row_inv
      rw [hκ] at hk
      have := Option.some.inj hk
      subst hR
      exact ⟨cap, by rw [← this]; simp⟩
    · obtain ⟨b, cap2, ad, c, rfl, hk, _, _, had, _, _, _⟩ := hv0.sub_inv
      have hkk := hκ.symm.trans hk
      simp only [Option.some.injEq, Value.slice.injEq, Addr.mk.injEq, true_and, and_true] at hkk
      rw [had hA0, ← hkk.1]
      exact ⟨c, by simp⟩
  subst hu
  obtain ⟨fs, us, rfl, hfs, hus⟩ := hv1.fn_inv
  have hfs0 : fs = [] := List.eq_nil_of_length_eq_zero hfs.1.symm
  have hus0 : us = [] := List.eq_nil_of_length_eq_zero hus.1.symm
  subst hfs0; subst hus0
  have hvs : vs = [.slice (some ⟨g, 0, none⟩) A.length c0, .func (.func 42) #[] #[]] := by
    have hlen := hv.1
    match vs, hlen with
    | [a, b], _ =>
      simp at hu0 hu1
      rw [hu0, hu1]
  subst hvs
  have eg : ∀ args w, (callFunc 42 args).run Tryz.prog w = .ok (.enter 42 args) w := enters_of Tryz.func42 (by kernel_rfl) rfl
  have hc := AnyQ.slices_SortFunc Tryz.sortHit 3 Tryz.isAgg53 Tryz.sizeOf53 encH (fun _ => rfl) (fun x v hv => by simp [encH] at hv; rcases hv with rfl | rfl | rfl <;> rfl) (fun x y => Lib.compareBytes x.1 y.1) swoH 42 #[] g 0 c0 A.toArray w eg (nodes1_cmp g 0 _ w) hH hg (by simpa using hl)
  refine Calls.mono hc ?_
  rintro e' w' ⟨rfl, d', n, os, hp, hsd, rfl⟩
  have hsz : d'.size = A.length := by simpa using hp.1
  obtain ⟨h1, h2⟩ := hall d'.toList n os (by simpa using hsz)
  have hd : d'.toList.toArray = d' := by simp
  rw [hd] at h1 h2
  exact ⟨.tup [], _, .tuple #[], κ, Im, rfl, ⟨rfl, d'.toList, perm_of hp, sorted_of hsz hsd, rfl⟩, h1, h2, .im _ _ (by first | exact .tup _ _ rfl (fun j h => by simp at h) | constructor <;> simp)⟩
end Go.Proofs.YtjpjmdjjgfllhaaGreatDoor
end
section
set_option maxHeartbeats 4000000
namespace Go.Abs
variable {σ σ' σ'' : Store} {v v' v'' : AV}
theorem GrownB.refl (σ : Store) (v : AV) : GrownB σ σ v v := ⟨Kept.refl σ, fun _ _ h _ => h, fun i m h _ => ⟨m, h⟩⟩
theorem GrownB.trans (h : GrownB σ σ' v v') (h' : GrownB σ' σ'' v' v'') : GrownB σ σ'' v v'' :=
  ⟨h.kept.trans h'.kept, fun i e he hv => h'.off i e (h.off i e he hv) fun m hm => by
    obtain ⟨m', hm'⟩ := h.new i m hm (List.getElem?_eq_some_iff.1 he).1
    exact hv m' hm', fun i m hm hi => by
    obtain ⟨m', hm'⟩ := h'.new i m hm (Nat.lt_of_lt_of_le hi h.kept.len)
    exact h.new i m' hm' hi⟩
theorem GrownB.app (h : GrownB σ σ' v v') {x : Entry} (hx : x.under (σ'.length + 1) = true) : GrownB σ (σ' ++ [x]) v v' :=
  ⟨h.kept.app hx, fun i e he hv => get_app (h.off i e he hv), h.new⟩
theorem GrownB.pre (h : GrownB σ σ' .nils v') : σ' = σ ++ σ'.drop σ.length := by
  apply List.ext_getElem?
  intro i
  by_cases hi : i < σ.length
  · rw [List.getElem?_append_left hi, h.off i _ (List.getElem?_eq_getElem hi) (fun m hm => by cases hm)]
    exact (List.getElem?_eq_getElem hi).symm
  · rw [List.getElem?_append_right (by omega), List.getElem?_drop]
    congr 1; omega
end Go.Abs
namespace Go.Proofs.YtjpjmdjjgfllhaaGreatDoor
open Go.Abs Go.Glob Go.Trail Go.Trie Go.Shelf Go.RowKit
variable {G : Globs}
theorem sortFunc_nil {σ : Store} : ACalls Tryz.prog 41 [.nils, .fn (.func 42) [] []] σ fun r σ' => r = .tup [] ∧ σ' = σ := by
  intro base κ Im w vs hs hv
  obtain ⟨u0, hu0, hv0⟩ := hv.get? (i := 0) (a := .nils) rfl
  obtain ⟨u1, hu1, hv1⟩ := hv.get? (i := 1) (a := .fn (.func 42) [] []) rfl
  have hu := hv0.nils_inv
  subst hu
  have hvs : vs = [.slice none 0 0, u1] := by
    have hlen := hv.1
    match vs, hlen with
    | [a, b], _ =>
      simp at hu0 hu1
      rw [hu0, hu1]
  subst hvs
  refine Calls.mono (AnyF.slices_SortFunc_none Tryz.sortHit none 0 u1 w) ?_
  rintro e' w' ⟨rfl, rfl⟩
  exact ⟨.tup [], σ, .tuple #[], κ, Im, rfl, ⟨rfl, rfl⟩, hs, Grow.refl _ _ _ _, .im _ _ (by first | exact .tup _ _ rfl (fun j h => by simp at h) | constructor <;> simp)⟩
theorem fz_hits (σ : Store) (m : Nat) (l : List Hit) : ((hitEls l).mapM fun (c : List AV) => c.mapM (fz σ m 2)) = some (hitEls l) := by
  induction l with
  | nil => rfl
  | cons a l ih =>
    rw [hitEls_cons, List.mapM_cons, ih]
    simp [fz, AV.pure]
/-- What a trie that holds a list answers of nodes. -/
def nodesR (pat : Tx) (l : List Tx) : AV := match nodes pat with
  | .error e => .tup [.lst [], .int .i64 e]
  | .ok ps => .tup [.lst (hitEls (nodesP (ps.map ftP) l)), .int .i64 0]
def findR (pat : Tx) (l : List Tx) : AV := match nodes pat with
  | .error e => .tup [.lst [], .int .i64 e]
  | .ok ps => .tup [.lst (strEls (findP (ps.map ftP) l)), .int .i64 0]
theorem hits_sorted {l : List Tx} {F : Fo} (hh : Holds l F) {ps : List Tx} (hps : ps ≠ []) {M M' : List Hit} (hM : M.Perm (outH [] ps false F)) (hM' : M'.Perm M) (hs : M'.Pairwise fun a b => a.1 ≤ b.1) : M' = nodesP (ps.map ftP) l := by
  have hps2 : ps.map ftP ≠ [] := by simpa using hps
  have hp := hM'.trans hM
  refine nodes_sorted hh hps2 (fun x => ?_) ?_
  · rw [hp.mem_iff]
    simp [outH]
  · have hn : (M'.map (·.1)).Nodup := by
      have h1 := hits_names hh hps2
      have h2 := (hp.map (·.1)).nodup_iff
      rw [h2]
      simpa [outH, Function.comp_def] using h1
    unfold List.Nodup at hn
    rw [List.pairwise_map] at hn
    refine (List.pairwise_and_iff.2 ⟨hs, hn⟩).imp ?_
    rintro a b ⟨h1, h2⟩
    exact (tx_le.1 h1).resolve_right h2
theorem tnodes_ok {σ : Store} {id : Nat} {rest : List AV} {l : List Tx} {F : Fo} {fp : List Nat} (h : NA σ id rest false F fp) (hh : Holds l F) (hl : l.length ≤ 1000) (pat : Tx) (hp : pat.length ≤ 1000000) : ACalls Tryz.prog n_trie_Trie_Nodes [.ptr id 0, .str pat] σ (fun r σ' => r = nodesR pat l ∧ σ' = σ) := by
  refine acalls_of_awp_e hmix c_trie_Trie_Nodes rfl ?_
  simp [a_trie_Trie_Nodes]
  refine ac_same (nodes_ok pat (by omega)) (by simp) ?_
  rintro r rfl
  cases hn : nodes pat with
  | error e =>
    have := nodes_pos hn
    simp [nodesAV, this]
    exact er_intro σ (.tup [.lst [], .int .i64 e]) (by simp [retAt, evalRes, tupOf]) [] (by simp) rfl (fun _ _ h => .inl h) ⟨by simp [nodesR, hn], rfl⟩
  | ok ps =>
    obtain ⟨hsp, h8⟩ := nodes_ok_sp hn
    have hps : ps ≠ [] := by rw [hsp]; exact sp_ne pat
    simp [nodesAV]
    obtain ⟨σ0, hσ0⟩ : ∃ σ0 : Store, σ0 = σ ++ [.var 46 [.nils]] := ⟨_, rfl⟩
    have hp0 : σ0[σ.length]? = some (.var 46 [.nils]) := by rw [hσ0]; simp
    have h0 : NA σ0 id rest false F fp := h.congr fun a ha => by rw [hσ0, app_off (h.lt a ha)]
    rw [← hσ0]
    refine ac_eff (treach_ok ps false F σ0 id rest fp .nils [] σ.length _ .nils [] h0 (.inl ⟨rfl, rfl⟩) hp0 (.inl ⟨rfl, rfl⟩) hh.ok (by simp) (by simpa using h8) (fun q hq => by
      have := sp_mem_len pat q (hsp ▸ hq); omega) (by rw [lv_of_lvN, ← hh.len]; simp; omega) (.inl hps)) ?_
    rintro r σ1 ⟨rfl, acc, M, p1, a1, hM, G1⟩
    simp only [List.nil_append] at a1
    rw [hσ0] at G1
    have hlen1 := G1.kept.len
    simp only [List.length_append, List.length_cons, List.length_nil] at hlen1
    have hML : M.length ≤ 1000 := by
      rw [hM.length_eq]
      have := hit_len (ps.map ftP) false F hh.ok (.inl (by simpa using hps))
      rw [lv_of_lvN, ← hh.len] at this
      simp only [outH, List.length_map]; omega
    rcases a1 with ⟨hM0, rfl⟩ | ⟨hM0, aid, rfl, ha⟩
    · have : M = [] := by simpa [hitEls] using hM0
      subst this
      have hr := hits_sorted hh hps hM (List.Perm.refl _) List.Pairwise.nil
      simp [cellsAt, p1]
      refine ac_eff sortFunc_nil ?_
      rintro r σ2 ⟨rfl, rfl⟩
      simp [cellsAt, p1]
      exact er_intro σ (.tup [.lst [], .int .i64 0]) (by simp [retAt, evalRes, tupOf]) _ (G1.pre fun _ _ => rfl) rfl (fun _ _ h => .inl h) ⟨by simp only [nodesR, hn, ← hr]; rfl, rfl⟩
    · rw [hitEls_len] at p1
      have hidl := (List.getElem?_eq_some_iff.1 ha).1
      have hge : σ.length + 1 ≤ aid := by
        apply Nat.le_of_not_lt
        intro hlt
        obtain ⟨m', hm'⟩ := G1.new aid _ rfl (by simpa using hlt)
        cases hm'
      have hne : M ≠ [] := by rintro rfl; exact hM0 rfl
      simp [cellsAt, p1]
      have hsort := sortFunc_ok (G := G) (σ := σ1) (id := aid) (e := 53) (A := M) (R := []) (X := .row aid M.length) (.inl ⟨by simp, rfl⟩) (by simpa using ha) hne (by omega)
      refine ac_eff hsort ?_
      rintro r σ2 ⟨rfl, M', hM', hs', hσ2⟩
      rw [List.append_nil] at hσ2
      have hr := hits_sorted hh hps hM hM' hs'
      have hp2 : σ2[σ.length]? = some (.var 46 [.row aid M.length]) := by rw [hσ2, set_off (by omega)]; exact p1
      have ha2 : σ2[aid]? = some (.row 53 3 (hitEls M') false) := by rw [hσ2]; exact List.getElem?_set_self hidl
      have hge2 : σ.length ≤ aid := by omega
      have hLM : M'.length = M.length := hM'.length_eq
      simp [cellsAt, hp2]
      refine er_intro σ (.tup [.lst (hitEls M'), .int .i64 0]) ?_ _ (G1.pre fun i hi => by rw [hσ2, set_off (by omega)]) rfl (fun _ _ h => .inl h) ⟨by simp only [nodesR, hn, ← hr], rfl⟩
      simp [retAt, evalRes, tupOf, fz, ha2, hitEls_len, hLM, hge2, fz_hits]
/-- Find, from what Nodes answers. -/
theorem tfindP_of {σ : Store} {V : AV} {pat : Tx} {H : List Hit} {e : Nat} (hH : H.length ≤ 100000) (hN : ACalls Tryz.prog n_trie_Trie_Nodes [V, .str pat] σ (fun r σ' => r = .tup [.lst (hitEls H), .int .i64 e] ∧ σ' = σ)) :
    ACalls Tryz.prog n_trie_Trie_Find [V, .str pat] σ (fun r σ' => r = .tup [.lst (strEls ((H.filter (·.2.1)).map (·.1))), .int .i64 e] ∧ σ' = σ) := by
  refine acalls_of_awp_e hmix c_trie_Trie_Find rfl ?_
  simp [a_trie_Trie_Find]
  refine ac_eff hN ?_
  rintro r σ1 ⟨rfl, rfl⟩
  simp [hitEls_len]
  refine lp_startx (fun x f σ' => ∃ (i : Nat), x = H.length - i ∧ i ≤ H.length ∧ f 7 = .int .i64 e ∧ f 17 = .lst (hitEls H) ∧ f 18 = .int .i64 H.length ∧ f 19 = .int .i64 i ∧ AccI 9 1 σ' (f 8) (strEls (((H.take i).filter (·.2.1)).map (·.1))) ∧ GrownB σ1 σ' .nils (f 8)) H.length ⟨0, by simp, by simp, by simp, by simp, by simp, by simp, .inl ⟨rfl, by simp⟩, by simpa using GrownB.refl σ1 .nils⟩ ?_
  rintro x f σ' ⟨i, hx, hi, f7, f17, f18, f19, hacc, hG⟩
  by_cases hlt : i < H.length
  · obtain ⟨h, hh⟩ : ∃ h, H[i]? = some h := ⟨_, List.getElem?_eq_getElem hlt⟩
    have hse : (hitEls H)[i]? = some [.str h.1, .bool h.2.1, .bool h.2.2] := by simp [hitEls, hh]
    obtain ⟨hx1, hx2⟩ := List.getElem?_eq_some_iff.1 hse
    have hlt' : (i : Int) < (H.length : Int) := by omega
    have hwi : IntKind.i64.wrap ((i : Int) + 1) = (i : Int) + 1 := wrap_i64 (by omega) (by omega)
    have htk : H.take (i + 1) = H.take i ++ [h] := by rw [List.take_add_one, hh]; rfl
    have hfl : (((H.take i).filter (·.2.1)).map (·.1)).length ≤ i := by
      rw [List.length_map]
      exact Nat.le_trans (List.length_filter_le _ _) (by simp; omega)
    obtain ⟨σ2, hσ2⟩ : ∃ σ2 : Store, σ2 = σ' ++ [.var 53 [.str h.1, .bool h.2.1, .bool h.2.2]] := ⟨_, rfl⟩
    have g2 : σ2[σ'.length]? = some (.var 53 [.str h.1, .bool h.2.1, .bool h.2.2]) := by rw [hσ2]; simp
    have hacc2 : AccI 9 1 σ2 (f 8) (strEls (((H.take i).filter (·.2.1)).map (·.1))) := hacc.keep fun j e he _ => by rw [hσ2]; exact get_app he
    have hG2 : GrownB σ1 σ2 .nils (f 8) := by rw [hσ2]; exact hG.app (by simp [Entry.under, AV.under])
    simp [f7, f17, f18, f19, hlt, hlt', hse, hx2, hitEls_len, putAt, splice, ← hσ2, cellsAt, g2]
    cases hb : h.2.1 with
    | false =>
      rw [hb] at g2
      simp [f19, hwi]
      refine nx_intro (H.length - (i + 1)) (by omega) ⟨i + 1, rfl, by omega, by simp [f7], by simp [f17], by simp [f18], by simp, ?_, by simpa using hG2⟩
      rw [htk, List.filter_append]
      simpa [hb] using hacc2
    | true =>
      rw [hb] at g2
      simp [cellsAt, g2]
      refine ap_accB true (bytes := 16) hacc2 [.str h.1] (by decide) rfl (by rw [els_app1]; exact els_pure _) (by rw [els_len]; omega) (by rw [els_len]; omega) fun v' σ3 hv hg => ?_
      simp [f19, hwi]
      refine nx_intro (H.length - (i + 1)) (by omega) ⟨i + 1, rfl, by omega, by simp [f7], by simp [f17], by simp [f18], by simp, ?_, by simpa using hG2.trans hg⟩
      rw [htk, List.filter_append]
      rw [els_app1] at hv
      simpa [hb] using (show AccI 9 1 σ3 v' _ from hv)
  · have hlt' : ¬ (i : Int) < (H.length : Int) := by omega
    rw [List.take_of_length_le (by omega)] at hacc
    simp [f7, f18, f19, hlt, hlt']
    refine er_intro σ1 _ ?_ _ hG.pre rfl (fun _ _ h => .inl h) ⟨rfl, rfl⟩
    simp [retAt, evalRes, tupOf, f7, hacc.finT]
theorem headsF_len (k : Nat) (H : List Tx) (x : Tx) : (headsF k H x).length ≤ H.length + 1 := by
  unfold headsF
  split
  · split
    · omega
    · split
      · omega
      · rw [with_len]; omega
  · omega
theorem fold_len (k : Nat) : ∀ (l H : List Tx), (l.foldl (headsF k) H).length ≤ H.length + l.length
  | [], H => by simp
  | x :: l, H => by
    have h1 := fold_len k l (headsF k H x)
    have h2 := headsF_len k H x
    simp only [List.foldl_cons, List.length_cons]; omega
theorem nodesP_len (ps : List (Tx → Bool)) (l : List Tx) : (nodesP ps l).length ≤ l.length := by
  unfold nodesP headsP
  rw [List.length_map]
  have h1 := fold_len ps.length l []
  have h2 := List.length_filter_le (mtP ps) (l.foldl (headsF ps.length) [])
  simp only [List.length_nil] at h1; omega
theorem tfindP_ok {σ : Store} {id : Nat} {rest : List AV} {l : List Tx} {F : Fo} {fp : List Nat} (h : NA σ id rest false F fp) (hh : Holds l F) (hl : l.length ≤ 1000) (pat : Tx) (hp : pat.length ≤ 1000000) : ACalls Tryz.prog n_trie_Trie_Find [.ptr id 0, .str pat] σ (fun r σ' => r = findR pat l ∧ σ' = σ) := by
  have hN := tnodes_ok (G := G) h hh hl pat hp
  cases hn : nodes pat with
  | error e =>
    have := tfindP_of (G := G) (H := []) (e := e) (by simp) (hN.mono fun r σ' h => by simpa [nodesR, hn, hitEls] using h)
    exact this.mono fun r σ' h => by simpa [findR, hn, strEls] using h
  | ok ps =>
    obtain ⟨hsp, h8⟩ := nodes_ok_sp hn
    have hps : ps.map ftP ≠ [] := by
      have : ps ≠ [] := by rw [hsp]; exact sp_ne pat
      simpa using this
    have hlen := nodesP_len (ps.map ftP) l
    have := tfindP_of (G := G) (H := nodesP (ps.map ftP) l) (e := 0) (by omega) (hN.mono fun r σ' h => by simpa [nodesR, hn] using h)
    exact this.mono fun r σ' h => by rw [find_nodes hh hps] at h; simpa [findR, hn] using h
end Go.Proofs.YtjpjmdjjgfllhaaGreatDoor
end
section
set_option maxHeartbeats 8000000
namespace Go.Proofs.YtjpjmdjjgfllhaaGreatDoor
open Go.Abs Go.Glob Go.Trail Go.Trie
variable {G : Globs}
theorem fitsP_eq : ∀ (ps ns : List (List UInt8)), fitsP (ps.map ftP) ns = (decide (ps.length = ns.length) && fitN ps ns)
  | [], [] => by simp [fitsP, fitN]
  | [], n :: ns => by simp [fitsP]
  | p :: ps, [] => by simp [fitsP]
  | p :: ps, n :: ns => by
    have ih := fitsP_eq ps ns
    simp only [List.map_cons, fitsP, ih, fitN, List.zip_cons_cons, List.all_cons, List.length_cons, ftP]
    by_cases h : ps.length = ns.length
    · simp [h]
    · have h2 : ¬ ps.length + 1 = ns.length + 1 := by omega
      simp [h, h2]
/-- Whether a pattern fits, at any text. -/
theorem r16match_mt {pat : Tx} {ps : List Tx} (hn : nodes pat = .ok ps) (q : Tx) (hs : pat.length ≤ 1000000) (hq : q.length ≤ 1000000) : PCalls Tryz.prog n_isobarref16_Match [.str pat, .str q] (fun r => ∃ e : Nat, r = .tup [.bool (mtP (ps.map ftP) q), .int .i64 e]) := by
  refine (r16match_ok pat q hs hq).mono ?_
  rintro r rfl
  rw [hn]
  simp only
  cases hp : path q with
  | none => exact ⟨13, by simp [mtP, hp]⟩
  | some ns => exact ⟨0, by simp [mtP, hp, fitsP_eq]⟩
theorem r17find_ok (l : List Tx) (pat : Tx) (hl : l.length ≤ 1000000) (hs : pat.length ≤ 1000000) (hq : ∀ q ∈ l, q.length ≤ 1000000) : PCalls Tryz.prog n_isobarref17_Find [.lst (strEls l), .str pat] (fun r => r = findR pat l) := by
  refine pcalls_of_awp hmix c_isobarref17_Find rfl ?_
  simp [a_isobarref17_Find]
  refine ac_same (r16nodes_ok pat hs) (by simp) ?_
  rintro r rfl
  cases hn : nodes pat with
  | error e =>
    have := nodes_pos hn
    simp [nodesAV, this, findR, hn]
  | ok ps =>
    obtain ⟨m0, hm0⟩ : ∃ m0 : Tx → Bool, m0 = mtP (ps.map ftP) := ⟨_, rfl⟩
    have hR : findR pat l = .tup [.lst (strEls (l.filter m0)), .int .i64 0] := by simp [findR, hn, findP, hm0]
    rw [hR]
    simp [nodesAV]
    refine lp_startx (fun x f σ => ∃ i : Nat, x = l.length - i ∧ i ≤ l.length ∧ f 0 = .lst (strEls l) ∧ f 1 = .str pat ∧ AccI 9 1 σ (f 8) (strEls ((l.take i).filter m0)) ∧ f 9 = .int .i64 i) l.length ⟨0, by simp, by simp, by simp, by simp, .inl ⟨rfl, by simp⟩, by simp⟩ ?_
    rintro x f σ ⟨i, hx, hi, h0, h1, h8, h9⟩
    have hal : ((l.take i).filter m0).length ≤ i := Nat.le_trans (List.length_filter_le _ _) (by simp; omega)
    by_cases hlt : i < l.length
    · obtain ⟨q, hq1⟩ : ∃ q, l[i]? = some q := ⟨_, List.getElem?_eq_getElem hlt⟩
      have hse : (strEls l)[i]? = some [.str q] := by simp [strEls, hq1]
      obtain ⟨hx1, hx2⟩ := List.getElem?_eq_some_iff.1 hse
      have hlt' : (i : Int) < (l.length : Int) := by omega
      have hwi : IntKind.i64.wrap ((i : Int) + 1) = (i : Int) + 1 := wrap_i64 (by omega) (by omega)
      have htk : l.take (i + 1) = l.take i ++ [q] := by rw [List.take_add_one, hq1]; rfl
      simp [h0, h1, h9, els_len, hlt, hlt', hse, hx2]
      refine ac_same (r16match_mt hn q hs (hq q (List.mem_of_getElem? hq1))) (by simp) ?_
      rintro r ⟨e, rfl⟩
      rw [← hm0]
      cases hm : m0 q with
      | false =>
        simp [h0, h9, hwi]
        refine nx_intro (l.length - (i + 1)) (by omega) ⟨i + 1, rfl, by omega, by simp [h0], by simp [h1], ?_, by simp⟩
        rw [htk, List.filter_append]
        simpa [hm] using h8
      | true =>
        simp [h0, h1, h9, els_len, hlt, hlt', hse, hx2]
        refine ap_accI (bytes := 16) h8 [.str q] (by decide) rfl (by rw [els_app1]; exact els_pure _) (by rw [els_len]; omega) (by rw [els_len]; omega) fun v' σ' hv hk hs _ => ?_
        simp [h9, hwi]
        refine nx_intro (l.length - (i + 1)) (by omega) ⟨i + 1, rfl, by omega, by simp [h0], by simp [h1], ?_, by simp⟩
        rw [htk, List.filter_append]
        rw [els_app1] at hv
        simpa [hm] using hv
    · have hil : i = l.length := by omega
      subst hil
      rw [List.take_length] at h8
      simp [h0, h9, els_len]
      rw [h8.finT]
      simp
theorem samehits_ok (a b : List Hit) (ha : a.length ≤ 1000000) : PCalls Tryz.prog n_isobarref17_SameHits [.lst (hitEls a), .lst (hitEls b)] (fun r => r = .bool (decide (a = b))) := by
  refine pcalls_of_awp hmix c_isobarref17_SameHits rfl ?_
  simp [a_isobarref17_SameHits, hitEls_len]
  by_cases hlen : a.length = b.length
  · have hlen' : (a.length : Int) = (b.length : Int) := by omega
    simp [hlen, hlen']
    refine lp_startx (fun x f σ => ∃ i : Nat, x = b.length - i ∧ i ≤ b.length ∧ f 0 = .lst (hitEls a) ∧ f 1 = .lst (hitEls b) ∧ f 5 = .int .i64 i ∧ a.take i = b.take i ∧ σ = []) b.length ⟨0, by simp⟩ ?_
    rintro x f σ ⟨i, hx, hi, h0, h1, h5, htk, rfl⟩
    by_cases hlt : i < b.length
    · obtain ⟨y, hy⟩ : ∃ y, b[i]? = some y := ⟨_, List.getElem?_eq_getElem hlt⟩
      obtain ⟨z, hz⟩ : ∃ z, a[i]? = some z := ⟨_, List.getElem?_eq_getElem (by omega)⟩
      have hsy : (hitEls b)[i]? = some [.str y.1, .bool y.2.1, .bool y.2.2] := by simp [hitEls, hy]
      have hsz : (hitEls a)[i]? = some [.str z.1, .bool z.2.1, .bool z.2.2] := by simp [hitEls, hz]
      obtain ⟨_, hy2⟩ := List.getElem?_eq_some_iff.1 hsy
      obtain ⟨_, hz2⟩ := List.getElem?_eq_some_iff.1 hsz
      have hlt' : (i : Int) < (b.length : Int) := by omega
      have hlta : i < a.length := by omega
      have hlta' : (i : Int) < (a.length : Int) := by omega
      have hwi : IntKind.i64.wrap ((i : Int) + 1) = (i : Int) + 1 := wrap_i64 (by omega) (by omega)
      by_cases he : z = y
      · subst he
        simp [h0, h1, h5, hitEls_len, hlen, hlt, hlt', hsy, hsz, hy2, hz2, eqAll, eq1, hwi]
        refine nx_intro (b.length - (i + 1)) (by omega) ⟨i + 1, rfl, by omega, by simp [h0], by simp [h1], by simp, ?_, rfl⟩
        rw [List.take_add_one, List.take_add_one, htk, hy, hz]
      · have hne : ¬ (z.1 = y.1 ∧ z.2.1 = y.2.1 ∧ z.2.2 = y.2.2) := fun h => he (Prod.ext h.1 (Prod.ext h.2.1 h.2.2))
        have hab : ¬ a = b := fun e => by
          subst e
          rw [hy] at hz
          cases hz; exact he rfl
        have hev : (decide (z.1 = y.1) && ((z.2.1 == y.2.1) && ((z.2.2 == y.2.2) && true))) = false := by
          rw [Bool.eq_false_iff]
          intro h
          simp at h
          exact hne h
        have hev2 : eqAll [1, 2, 2] [.str z.1, .bool z.2.1, .bool z.2.2] [.str y.1, .bool y.2.1, .bool y.2.2] = some false := by
          simp only [eqAll, eq1, Option.bind_some, Option.map_some]
          rw [hev]
        simp [-eqAll, h0, h1, h5, hitEls_len, hlen, hlt, hlt', hsy, hsz, hy2, hz2, hev2, hab]
    · rw [List.take_of_length_le (by omega), List.take_of_length_le (by omega)] at htk
      subst htk
      have hlt' : ¬ (i : Int) < (a.length : Int) := by omega
      simp [h0, h5, hitEls_len, hlt']
  · have hlen' : ¬ (a.length : Int) = (b.length : Int) := by omega
    have hab : ¬ a = b := fun e => hlen (by rw [e])
    simp [hlen, hlen', hab]
end Go.Proofs.YtjpjmdjjgfllhaaGreatDoor
end
