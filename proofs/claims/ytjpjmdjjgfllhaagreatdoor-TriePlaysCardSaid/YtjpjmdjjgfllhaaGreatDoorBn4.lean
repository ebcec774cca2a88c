/- The store by places: what is kept, what is new, slices that grow anywhere. Tries, in plain Lean: trees of names, and lists of paths. Lists of paths th -/
import Derived.Sort.Walk0
import Derived.Shelf.Sort.Plain
import Derived.Shelf.Slices.In.SortNone
import Derived.Test.YtjpjmdjjgfllhaaGreatDoorProg
import Derived.Test.YtjpjmdjjgfllhaaGreatDoorBn1
import Derived.Test.YtjpjmdjjgfllhaaGreatDoorBn2
import Derived.Test.YtjpjmdjjgfllhaaGreatDoorBn3
set_option linter.unusedSimpArgs false
set_option linter.unusedVariables false
set_option linter.constructorNameAsVariable false
section
namespace Go.Abs
theorem under_le {m m' : Nat} (h : m ≤ m') : ∀ (v : AV), v.under m = true → v.under m' = true
  | .ptr id _, hv => by simp [AV.under] at hv ⊢; omega
  | .row id _, hv => by simp [AV.under] at hv ⊢; omega
  | .rowp id _ _ _ _, hv => by simp [AV.under] at hv ⊢; omega
  | .map id, hv => by simp [AV.under] at hv ⊢; omega
  | .sub id _ _ _ _, hv => by simp [AV.under] at hv ⊢; omega
  | .asl id _ _ _, hv => by simp [AV.under] at hv ⊢; omega
  | .fn g a b, hv => by
    simp only [AV.under, Bool.and_eq_true, List.all_eq_true] at hv ⊢
    exact ⟨fun x hx => under_le h x.1 (hv.1 x hx), fun x hx => under_le h x.1 (hv.2 x hx)⟩
  | .iface t v, hv => by
    simp only [AV.under] at hv ⊢
    exact under_le h v hv
  | .agg l, hv => by
    simp only [AV.under, List.all_eq_true] at hv ⊢
    exact fun x hx => under_le h x.1 (hv x hx)
  | .tup l, hv => by
    simp only [AV.under, List.all_eq_true] at hv ⊢
    exact fun x hx => under_le h x.1 (hv x hx)
  | .junk, _ => by simp [AV.under]
  | .int _ _, _ => by simp [AV.under]
  | .bool _, _ => by simp [AV.under]
  | .str _, _ => by simp [AV.under]
  | .flt _ _, _ => by simp [AV.under]
  | .nilp, _ => by simp [AV.under]
  | .rptr _, _ => by simp [AV.under]
  | .nils, _ => by simp [AV.under]
  | .lst _, _ => by simp [AV.under]
  | .nilm, _ => by simp [AV.under]
  | .nilf, _ => by simp [AV.under]
  | .nili, _ => by simp [AV.under]
  | .any _, _ => by simp [AV.under]
  | .gp _ _, _ => by simp [AV.under]
  | .tight _, _ => by simp [AV.under]
termination_by v _ => SizeOf.sizeOf v
decreasing_by
  all_goals simp_wf
  all_goals (first | omega | (have := List.sizeOf_lt_of_mem x.2; omega))
theorem eunder_le {m m' : Nat} (h : m ≤ m') : ∀ (e : Entry), e.under m = true → e.under m' = true
  | .dead _, _ => rfl
  | .var _ cells, he => by
    simp only [Entry.under, List.all_eq_true] at he ⊢
    exact fun x hx => under_le h x (he x hx)
  | .row _ _ els _, he => by
    simp only [Entry.under, List.all_eq_true] at he ⊢
    exact fun c hc x hx => under_le h x (he c hc x hx)
  | .mp kv, he => by
    simp only [Entry.under, List.all_eq_true] at he ⊢
    exact fun x hx => under_le h x.2 (he x hx)
  | .itr none _ _ _, _ => rfl
  | .itr (some i) _ _ _, he => by
    simp only [Entry.under, Option.all_some, decide_eq_true_eq] at he ⊢
    omega
/-- What was there is there still, or what is there now points at nothing beyond. -/
structure Kept (σ₀ σ : Store) : Prop where
  len : σ₀.length ≤ σ.length
  und : ∀ (i : Nat) (e : Entry), σ[i]? = some e → σ₀[i]? = some e ∨ e.under σ.length = true
theorem Kept.refl (σ : Store) : Kept σ σ := ⟨Nat.le_refl _, fun _ _ h => .inl h⟩
theorem Kept.app {σ₀ σ : Store} (h : Kept σ₀ σ) {x : Entry} (hx : x.under (σ.length + 1) = true) : Kept σ₀ (σ ++ [x]) :=
  ⟨by have := h.len; simp; omega, fun i e he => by
    by_cases hi : i < σ.length
    · rw [List.getElem?_append_left hi] at he
      exact (h.und i e he).imp id fun h2 => eunder_le (by simp) e h2
    · rw [List.getElem?_append_right (by omega)] at he
      have := List.mem_of_getElem? he
      simp at this; subst this
      exact .inr (by simpa using hx)⟩
theorem Kept.set {σ₀ σ : Store} (h : Kept σ₀ σ) (i : Nat) {x : Entry} (hx : x.under σ.length = true) : Kept σ₀ (σ.set i x) :=
  ⟨by have := h.len; simpa using this, fun j e he => by
    by_cases hij : i = j
    · subst hij
      by_cases hl : i < σ.length
      · rw [List.getElem?_set_self hl] at he
        simp at he; subst he
        exact .inr (by simpa using hx)
      · rw [List.getElem?_eq_none (by simp; omega)] at he; cases he
    · rw [List.getElem?_set_ne hij] at he
      exact (h.und j e he).imp id fun h2 => by simpa using h2⟩
theorem Kept.trans {σ₀ σ₁ σ₂ : Store} (h : Kept σ₀ σ₁) (h' : Kept σ₁ σ₂) : Kept σ₀ σ₂ :=
  ⟨Nat.le_trans h.len h'.len, fun i e he => by
    rcases h'.und i e he with h1 | h1
    · exact (h.und i e h1).imp id fun h2 => eunder_le h'.len e h2
    · exact .inr h1⟩
/-- A slice that grows, anywhere in the store: its elements never change. -/
def AccI (te size : Nat) (σ : Store) (v : AV) (l : List (List AV)) : Prop := (l = [] ∧ v = .nils) ∨ (l ≠ [] ∧ ∃ id, v = .row id l.length ∧ σ[id]? = some (.row te size l true))
theorem AccI.keep {te size : Nat} {σ σ' : Store} {v : AV} {l : List (List AV)} (h : AccI te size σ v l) (hk : ∀ (i : Nat) (e : Entry), σ[i]? = some e → v = .row i l.length → σ'[i]? = some e) : AccI te size σ' v l := by
  rcases h with h | ⟨h1, id, h2, h3⟩
  · exact .inl h
  · exact .inr ⟨h1, id, h2, hk id _ h3 h2⟩
theorem AccI.view {te size : Nat} {σ : Store} {v : AV} {l : List (List AV)} (h : AccI te size σ v l) : view σ v = some l := by
  rcases h with ⟨rfl, rfl⟩ | ⟨h1, id, rfl, h3⟩
  · rfl
  · simp [Abs.view, h3]
theorem AccI.share {te size : Nat} {σ : Store} {v : AV} {l : List (List AV)} (h : AccI te size σ v l) : share1 σ v = some (.lst l) := by
  rcases h with ⟨rfl, rfl⟩ | ⟨h1, id, rfl, h3⟩
  · rfl
  · simp [share1, h3]
theorem AccI.coe {te size : Nat} {σ : Store} {v : AV} {l : List (List AV)} (h : AccI te size σ v l) (lend : Bool) : Coe σ lend v (.lst l) := by
  rcases h with ⟨rfl, rfl⟩ | ⟨h1, id, rfl, h3⟩
  · exact .nils
  · exact .row id _ te size l true h3 rfl (.inl rfl)
theorem AccI.fin1 {te size : Nat} {σ : Store} {v : AV} {l : List (List AV)} (h : AccI te size σ v l) (m : Nat) : Abs.fin1 σ m v = some (.lst l) := by
  rcases h with ⟨rfl, rfl⟩ | ⟨h1, id, rfl, h3⟩
  · rfl
  · simp [Abs.fin1, fz, h3]
theorem AccI.under {te size : Nat} {σ : Store} {v : AV} {l : List (List AV)} (h : AccI te size σ v l) : v.under σ.length = true := by
  rcases h with ⟨_, rfl⟩ | ⟨_, id, rfl, h3⟩
  · simp [AV.under]
  · have := (List.getElem?_eq_some_iff.1 h3).1
    simp [AV.under]; omega
theorem AccI.one {te size : Nat} {σ : Store} {v : AV} {l : List (List AV)} (h : AccI te size σ v l) : v.one = true ∧ v.cells = [v] := by
  rcases h with ⟨_, rfl⟩ | ⟨_, id, rfl, _⟩ <;> exact ⟨rfl, rfl⟩
theorem pure_underS (m : Nat) : ∀ (v : AV), v.pure = true → v.under m = true
  | .ptr _ _, hv => by simp [AV.pure] at hv
  | .row _ _, hv => by simp [AV.pure] at hv
  | .rowp _ _ _ _ _, hv => by simp [AV.pure] at hv
  | .map _, hv => by simp [AV.pure] at hv
  | .sub _ _ _ _ _, hv => by simp [AV.pure] at hv
  | .asl _ _ _ _, hv => by simp [AV.pure] at hv
  | .fn g a b, hv => by
    simp only [AV.pure, AV.under, Bool.and_eq_true, List.all_eq_true] at hv ⊢
    exact ⟨fun x hx => pure_underS m x.1 (hv.1 x hx), fun x hx => pure_underS m x.1 (hv.2 x hx)⟩
  | .iface t v, hv => by
    simp only [AV.pure, AV.under] at hv ⊢
    exact pure_underS m v hv
  | .agg l, hv => by
    simp only [AV.pure, AV.under, List.all_eq_true] at hv ⊢
    exact fun x hx => pure_underS m x.1 (hv x hx)
  | .tup l, hv => by
    simp only [AV.pure, AV.under, List.all_eq_true] at hv ⊢
    exact fun x hx => pure_underS m x.1 (hv x hx)
  | .junk, _ => by simp [AV.under]
  | .int _ _, _ => by simp [AV.under]
  | .bool _, _ => by simp [AV.under]
  | .str _, _ => by simp [AV.under]
  | .flt _ _, _ => by simp [AV.under]
  | .nilp, _ => by simp [AV.under]
  | .rptr _, _ => by simp [AV.under]
  | .nils, _ => by simp [AV.under]
  | .lst _, _ => by simp [AV.under]
  | .nilm, _ => by simp [AV.under]
  | .nilf, _ => by simp [AV.under]
  | .nili, _ => by simp [AV.under]
  | .any _, _ => by simp [AV.under]
  | .gp _ _, _ => by simp [AV.under]
  | .tight _, _ => by simp [AV.under]
termination_by v _ => SizeOf.sizeOf v
decreasing_by
  all_goals simp_wf
  all_goals (first | omega | (have := List.sizeOf_lt_of_mem x.2; omega))
theorem pure_under' {v : AV} (h : v.pure = true) (m : Nat) : v.under m = true := pure_underS m v h
theorem ap_accI {K : AV → Store → Prop} {t : Tg K} {te size bytes : Nat} {σ : Store} {v : AV} {l : List (List AV)} (h : AccI te size σ v l) (x : List AV) (hs : 0 < size) (hx : x.length = size) (hp : ∀ c ∈ l ++ [x], ∀ a ∈ c, a.pure = true) (hb : (l.length + 1) * bytes ≤ 140737488355328) (h63 : l.length + 1 ≤ 9223372036854775807)
    (hK : ∀ v' σ', AccI te size σ' v' (l ++ [x]) → Kept σ σ' → (∀ (i : Nat) (e : Entry), σ[i]? = some e → v ≠ .row i l.length → σ'[i]? = some e) → (∀ (i m : Nat), v' = .row i m → i < σ.length → v = .row i l.length) → K v' σ') : ap K t σ te size bytes v (.lst [x]) := by
  have hu : ∀ m, (Entry.row te size (l ++ [x]) true).under m = true := fun m => by
    simp only [Entry.under, List.all_eq_true]
    exact fun c hc a ha => pure_under' (hp c hc a ha) m
  rcases h with ⟨rfl, rfl⟩ | ⟨h1, id, rfl, h3⟩
  · refine ap_new true [x] rfl hs (by simp [hx]) (fun _ => .inl rfl) (by simpa using hb) (by simp) ?_
    exact hK (.row σ.length 1) (σ ++ [.row te size [x] true]) (.inr ⟨by simp, σ.length, by simp, by simp⟩) ((Kept.refl σ).app (hu _)) (fun i e he _ => by rw [List.getElem?_append_left (List.getElem?_eq_some_iff.1 he).1]; exact he) fun i m hm hi => by cases hm; omega
  · have hlt := (List.getElem?_eq_some_iff.1 h3).1
    refine ap_row l [x] true h3 rfl hs (by simp [hx]) (fun _ => .inl rfl) rfl (by simpa using hb) (by simpa using h63) ?_
    exact hK (.row id (l.length + 1)) (σ.set id (.row te size (l ++ [x]) true)) (.inr ⟨by simp, id, by simp, by simp [hlt]⟩) ((Kept.refl σ).set id (hu _)) (fun i e he hv => by
      have hne : id ≠ i := fun e => hv (by rw [e])
      rw [List.getElem?_set_ne hne]; exact he) fun i m hm _ => by cases hm; rfl
end Go.Abs
end
section
namespace Go.Trie
open Go.Glob Go.Trail
abbrev Tx := List UInt8
/-- Nodes beside one another: a name, whether a path ends there, the nodes beneath, and the others. -/
inductive Fo where
  | nil
  | cons (n : Tx) (lf : Bool) (s r : Fo)
def Fo.isNil : Fo → Bool
  | .nil => true
  | _ => false
def Fo.keys : Fo → List Tx
  | .nil => []
  | .cons n _ _ r => n :: r.keys
def Fo.get : Fo → Tx → Option (Bool × Fo)
  | .nil, _ => none
  | .cons n lf s r, x => if x = n then some (lf, s) else r.get x
def Fo.put : Fo → Tx → Bool → Fo → Fo
  | .nil, x, lf, s => .cons x lf s .nil
  | .cons n l0 s0 r, x, lf, s => if x = n then .cons x lf s r else .cons n l0 s0 (r.put x lf s)
def Fo.del : Fo → Tx → Fo
  | .nil, _ => .nil
  | .cons n lf s r, x => if x = n then r else .cons n lf s (r.del x)
def getN : Bool → Fo → List Tx → Option (Bool × Fo)
  | lf, F, [] => some (lf, F)
  | _, F, n :: ns => match F.get n with
    | none => none
    | some x => getN x.1 x.2 ns
def hasN (lf : Bool) (F : Fo) (ns : List Tx) : Bool := match getN lf F ns with
  | some x => x.1
  | none => false
def sub0 (F : Fo) (n : Tx) : Bool × Fo := (F.get n).getD (false, .nil)
def insN : Bool → Fo → List Tx → Bool × Fo
  | _, F, [] => (true, F)
  | lf, F, n :: ns => (lf, F.put n (insN (sub0 F n).1 (sub0 F n).2 ns).1 (insN (sub0 F n).1 (sub0 F n).2 ns).2)
def delN : Bool → Fo → List Tx → Bool × Fo
  | _, F, [] => (false, F)
  | lf, F, n :: ns => match F.get n with
    | none => (lf, F)
    | some x => if (delN x.1 x.2 ns).1 = false ∧ (delN x.1 x.2 ns).2.isNil = true then (lf, F.del n) else (lf, F.put n (delN x.1 x.2 ns).1 (delN x.1 x.2 ns).2)
/-- The leaves, as names from here on. -/
def lv : Fo → List (List Tx)
  | .nil => []
  | .cons n lf s r => ((if lf then [[]] else []) ++ lv s).map (n :: ·) ++ lv r
def lvN (lf : Bool) (F : Fo) : List (List Tx) := (if lf then [[]] else []) ++ lv F
def Fo.ok : Fo → Prop
  | .nil => True
  | .cons n lf s r => nameB n = true ∧ n ∉ r.keys ∧ (lf = true ∨ s.isNil = false) ∧ s.ok ∧ r.ok
theorem isNil_iff {F : Fo} : F.isNil = true ↔ F = .nil := by cases F <;> simp [Fo.isNil]
theorem get_none {F : Fo} {x : Tx} : F.get x = none ↔ x ∉ F.keys := by
  induction F with
  | nil => simp [Fo.get, Fo.keys]
  | cons n lf s r _ ih =>
    simp only [Fo.get, Fo.keys, List.mem_cons, not_or]
    by_cases h : x = n
    · simp [h]
    · simp [h, ih]
theorem keys_put {F : Fo} {x : Tx} {lf : Bool} {s : Fo} (y : Tx) : y ∈ (F.put x lf s).keys ↔ y = x ∨ y ∈ F.keys := by
  induction F with
  | nil => simp [Fo.put, Fo.keys]
  | cons n l0 s0 r _ ih =>
    simp only [Fo.put]
    by_cases h : x = n
    · subst h; simp [Fo.keys]
    · simp only [h, if_false, Fo.keys, List.mem_cons, ih]
      constructor
      · rintro (h | h | h) <;> simp [h]
      · rintro (h | h | h) <;> simp [h]
theorem keys_del {F : Fo} {x y : Tx} (h : y ∈ (F.del x).keys) : y ∈ F.keys := by
  induction F with
  | nil => exact h
  | cons n l0 s0 r _ ih =>
    simp only [Fo.del] at h
    split at h
    · simp [Fo.keys, h]
    · simp only [Fo.keys, List.mem_cons] at h ⊢
      exact h.imp id ih
theorem ok_get {F : Fo} {x : Tx} {v : Bool × Fo} (h : F.ok) (hg : F.get x = some v) : nameB x = true ∧ v.2.ok ∧ (v.1 = true ∨ v.2.isNil = false) := by
  induction F with
  | nil => simp [Fo.get] at hg
  | cons n l0 s0 r _ ih =>
    simp only [Fo.get] at hg
    split at hg
    · next e =>
      cases hg; subst e
      exact ⟨h.1, h.2.2.2.1, h.2.2.1⟩
    · exact ih h.2.2.2.2 hg
theorem ok_put {F : Fo} {x : Tx} {lf : Bool} {s : Fo} (h : F.ok) (hx : nameB x = true) (hs : s.ok) (hl : lf = true ∨ s.isNil = false) : (F.put x lf s).ok := by
  induction F with
  | nil => exact ⟨hx, by simp [Fo.keys], hl, hs, trivial⟩
  | cons n l0 s0 r _ ih =>
    simp only [Fo.put]
    split
    · next e =>
      subst e
      exact ⟨hx, h.2.1, hl, hs, h.2.2.2.2⟩
    · next e =>
      refine ⟨h.1, ?_, h.2.2.1, h.2.2.2.1, ih h.2.2.2.2⟩
      rw [keys_put]
      rintro (h1 | h1)
      · exact e h1.symm
      · exact h.2.1 h1
theorem ok_del {F : Fo} {x : Tx} (h : F.ok) : (F.del x).ok := by
  induction F with
  | nil => exact h
  | cons n l0 s0 r _ ih =>
    simp only [Fo.del]
    split
    · exact h.2.2.2.2
    · exact ⟨h.1, fun h1 => h.2.1 (keys_del h1), h.2.2.1, h.2.2.2.1, ih h.2.2.2.2⟩
theorem put_nnil {F : Fo} {x : Tx} {lf : Bool} {s : Fo} : (F.put x lf s).isNil = false := by
  cases F with
  | nil => rfl
  | cons n l0 s0 r => simp only [Fo.put]; split <;> rfl
theorem ok_ins : ∀ (ns : List Tx) (lf : Bool) (F : Fo), F.ok → (∀ n ∈ ns, nameB n = true) → (insN lf F ns).2.ok ∧ ((insN lf F ns).1 = true ∨ (insN lf F ns).2.isNil = false)
  | [], lf, F, h, _ => ⟨h, .inl rfl⟩
  | n :: ns, lf, F, h, hn => by
    have h0 : (sub0 F n).2.ok := by
      unfold sub0
      cases hg : F.get n with
      | none => trivial
      | some v => exact (ok_get h hg).2.1
    have ih := ok_ins ns (sub0 F n).1 (sub0 F n).2 h0 (fun m hm => hn m (by simp [hm]))
    exact ⟨ok_put h (hn n (by simp)) ih.1 ih.2, .inr put_nnil⟩
theorem ok_delN : ∀ (ns : List Tx) (lf : Bool) (F : Fo), F.ok → (delN lf F ns).2.ok
  | [], lf, F, h => h
  | n :: ns, lf, F, h => by
    simp only [delN]
    cases hg : F.get n with
    | none => exact h
    | some v =>
      obtain ⟨g1, g2, g3⟩ := ok_get h hg
      have ih := ok_delN ns v.1 v.2 g2
      simp only
      split
      · exact ok_del h
      · next hc =>
        refine ok_put h g1 ih ?_
        rcases hb : (delN v.1 v.2 ns).1 with _ | _
        · right
          rcases hb2 : (delN v.1 v.2 ns).2.isNil with _ | _
          · rfl
          · exact absurd ⟨hb, hb2⟩ hc
        · exact .inl rfl
theorem lv_get {F : Fo} {x : Tx} {v : Bool × Fo} (h : F.get x = some v) : (lv F).Perm ((lvN v.1 v.2).map (x :: ·) ++ lv (F.del x)) := by
  induction F with
  | nil => simp [Fo.get] at h
  | cons n l0 s0 r _ ih =>
    simp only [Fo.get] at h
    simp only [lv, Fo.del]
    by_cases e : x = n
    · subst e
      simp only [if_true] at h ⊢
      cases h
      exact List.Perm.refl _
    · simp only [e, if_false] at h ⊢
      refine ((ih h).append_left _).trans ?_
      simp only [lv]
      rw [← List.append_assoc, ← List.append_assoc]
      exact List.perm_append_comm.append_right _
theorem del_none {F : Fo} {x : Tx} (h : F.get x = none) : F.del x = F := by
  induction F with
  | nil => rfl
  | cons n l0 s0 r _ ih =>
    simp only [Fo.get] at h
    split at h
    · cases h
    · next e => simp [Fo.del, e, ih h]
theorem lv_put {F : Fo} {x : Tx} {lf : Bool} {s : Fo} : (lv (F.put x lf s)).Perm ((lvN lf s).map (x :: ·) ++ lv (F.del x)) := by
  induction F with
  | nil => simp [Fo.put, Fo.del, lv, lvN]
  | cons n l0 s0 r _ ih =>
    simp only [Fo.put, Fo.del]
    by_cases e : x = n
    · subst e
      simp only [if_true, lv, lvN]
      exact List.Perm.refl _
    · simp only [e, if_false, lv]
      refine (ih.append_left _).trans ?_
      rw [← List.append_assoc, ← List.append_assoc]
      exact List.perm_append_comm.append_right _
theorem lv_ins : ∀ (ns : List Tx) (lf : Bool) (F : Fo), hasN lf F ns = false → (lvN (insN lf F ns).1 (insN lf F ns).2).Perm (ns :: lvN lf F)
  | [], lf, F, h => by
    have hl : lf = false := h
    subst hl
    simp [insN, lvN]
  | n :: ns, lf, F, h => by
    have h0 : hasN (sub0 F n).1 (sub0 F n).2 ns = false := by
      unfold sub0
      cases hg : F.get n with
      | none => 
        cases ns with
        | nil => rfl
        | cons m ns => simp [hasN, getN, Fo.get]
      | some v => simpa [hasN, getN, hg] using h
    have ih := lv_ins ns (sub0 F n).1 (sub0 F n).2 h0
    have hF : (lv F).Perm ((lvN (sub0 F n).1 (sub0 F n).2).map (n :: ·) ++ lv (F.del n)) := by
      unfold sub0
      cases hg : F.get n with
      | none => simp [lvN, lv, del_none hg]
      | some v => simpa using lv_get hg
    simp only [insN]
    have h1 : (lv (F.put n (insN (sub0 F n).1 (sub0 F n).2 ns).1 (insN (sub0 F n).1 (sub0 F n).2 ns).2)).Perm ((n :: ns) :: lv F) :=
      lv_put.trans (((ih.map (n :: ·)).append_right _).trans (by
        simp only [List.map_cons, List.cons_append]
        exact (hF.symm).cons _))
    show ((if lf then [[]] else []) ++ lv _).Perm ((n :: ns) :: ((if lf then [[]] else []) ++ lv F))
    exact (h1.append_left _).trans List.perm_middle
theorem lv_del : ∀ (ns : List Tx) (lf : Bool) (F : Fo), hasN lf F ns = true → (ns :: lvN (delN lf F ns).1 (delN lf F ns).2).Perm (lvN lf F)
  | [], lf, F, h => by
    have hl : lf = true := h
    subst hl
    simp [delN, lvN]
  | n :: ns, lf, F, h => by
    cases hg : F.get n with
    | none => simp [hasN, getN, hg] at h
    | some v =>
      have h0 : hasN v.1 v.2 ns = true := by simpa [hasN, getN, hg] using h
      have ih := lv_del ns v.1 v.2 h0
      have h1 : ((n :: ns) :: lv (delN lf F (n :: ns)).2).Perm (lv F) := by
        refine List.Perm.trans ?_ (lv_get hg).symm
        refine List.Perm.trans ?_ ((ih.map (n :: ·)).append_right _)
        simp only [List.map_cons, List.cons_append]
        refine List.Perm.cons _ ?_
        simp only [delN, hg]
        split
        · next hc =>
          obtain ⟨c1, c2⟩ := hc
          rw [isNil_iff] at c2
          simp [c1, c2, lvN, lv]
        · exact lv_put
      have h2 : (delN lf F (n :: ns)).1 = lf := by
        simp only [delN, hg]
        split <;> rfl
      rw [h2]
      show ((n :: ns) :: ((if lf then [[]] else []) ++ lv _)).Perm ((if lf then [[]] else []) ++ lv F)
      exact List.perm_middle.symm.trans (h1.append_left _)
theorem mem_lv_cons {F : Fo} {ms : List Tx} (h : ms ∈ lv F) : ∃ n ns, ms = n :: ns ∧ n ∈ F.keys := by
  induction F with
  | nil => simp [lv] at h
  | cons n lf s r _ ih =>
    simp only [lv, List.mem_append, List.mem_map] at h
    rcases h with ⟨a, _, rfl⟩ | h
    · exact ⟨n, a, rfl, by simp [Fo.keys]⟩
    · obtain ⟨m, ns, h1, h2⟩ := ih h
      exact ⟨m, ns, h1, by simp [Fo.keys, h2]⟩
theorem nodup_map {α β : Type} {f : α → β} (hf : ∀ a b, f a = f b → a = b) {l : List α} (h : l.Nodup) : (l.map f).Nodup := by
  unfold List.Nodup at *
  rw [List.pairwise_map]
  exact h.imp fun hne he => hne (hf _ _ he)
theorem mem_lvN : ∀ (ms : List Tx) (lf : Bool) (F : Fo), F.ok → (ms ∈ lvN lf F ↔ hasN lf F ms = true)
  | [], lf, F, h => by
    have : [] ∉ lv F := fun hm => by
      obtain ⟨x, y, e, _⟩ := mem_lv_cons hm
      cases e
    cases lf <;> simp [lvN, hasN, getN, this]
  | n :: ns, lf, F, h => by
    have h1 : n :: ns ∈ lvN lf F ↔ n :: ns ∈ lv F := by cases lf <;> simp [lvN]
    rw [h1]
    induction F with
    | nil => simp [lv, hasN, getN, Fo.get]
    | cons m l0 s r _ ih =>
      have ihr := ih h.2.2.2.2 (by cases lf <;> simp [lvN])
      have ihs := mem_lvN ns l0 s h.2.2.2.1
      simp only [lv, List.mem_append, List.mem_map, List.cons.injEq, hasN, getN, Fo.get] at ihr ihs ⊢
      by_cases e : n = m
      · subst e
        simp only [if_true, true_and, exists_eq_right]
        have hno : n :: ns ∉ lv r := fun hm => by
          obtain ⟨x, y, e, hk⟩ := mem_lv_cons hm
          cases e
          exact h.2.1 hk
        simp only [hno, or_false]
        have : (ns ∈ (if l0 then [[]] else []) ∨ ns ∈ lv s) ↔ ns ∈ lvN l0 s := by simp [lvN]
        rw [this]; exact ihs
      · simp only [e, if_false]
        refine Iff.trans ?_ ihr
        constructor
        · rintro (⟨a, _, h1, _⟩ | h1)
          · exact absurd h1.symm e
          · exact h1
        · exact .inr
/-- The nodes that patterns of names lead to: their names from here on, whether a path ends there, whether there are nodes beneath. -/
def hitF (p : Tx → Bool) (g : Bool → Fo → List (List Tx × Bool × Bool)) : Fo → List (List Tx × Bool × Bool)
  | .nil => []
  | .cons n lf s r => (if p n then (g lf s).map (fun x => (n :: x.1, x.2)) else []) ++ hitF p g r
def hitN : List (Tx → Bool) → Bool → Fo → List (List Tx × Bool × Bool)
  | [], lf, F => [([], lf, !F.isNil)]
  | p :: ps, _, F => hitF p (hitN ps) F
def fitsP : List (Tx → Bool) → List Tx → Bool
  | [], [] => true
  | p :: ps, n :: ns => p n && fitsP ps ns
  | _, _ => false
theorem mem_hitF {p : Tx → Bool} {g : Bool → Fo → List (List Tx × Bool × Bool)} {F : Fo} {x : List Tx × Bool × Bool} (h : F.ok) : x ∈ hitF p g F ↔ ∃ n ns v, x.1 = n :: ns ∧ F.get n = some v ∧ p n = true ∧ (ns, x.2) ∈ g v.1 v.2 := by
  induction F with
  | nil => simp [hitF, Fo.get]
  | cons m lf s r _ ih =>
    have ihr := ih h.2.2.2.2
    simp only [hitF, List.mem_append, ihr]
    constructor
    · rintro (h1 | ⟨n, ns, v, h1, h2, h3, h4⟩)
      · by_cases hp : p m = true
        · rw [if_pos hp] at h1
          obtain ⟨a, ha, rfl⟩ := List.mem_map.1 h1
          exact ⟨m, a.1, (lf, s), rfl, by simp [Fo.get], hp, ha⟩
        · rw [if_neg hp] at h1; cases h1
      · refine ⟨n, ns, v, h1, ?_, h3, h4⟩
        have : n ≠ m := fun e => by
          subst e
          have := get_none.2 h.2.1
          rw [this] at h2; cases h2
        simp [Fo.get, this, h2]
    · rintro ⟨n, ns, v, h1, h2, h3, h4⟩
      simp only [Fo.get] at h2
      split at h2
      · next e =>
        subst e; cases h2
        left
        rw [if_pos h3]
        refine List.mem_map.2 ⟨(ns, x.2), h4, ?_⟩
        rw [← h1]
      · exact .inr ⟨n, ns, v, h1, h2, h3, h4⟩
theorem mem_hitN : ∀ (ps : List (Tx → Bool)) (lf : Bool) (F : Fo) (x : List Tx × Bool × Bool), F.ok → (x ∈ hitN ps lf F ↔ fitsP ps x.1 = true ∧ ∃ v, getN lf F x.1 = some v ∧ x.2 = (v.1, !v.2.isNil))
  | [], lf, F, x, h => by
    obtain ⟨ns, a, b⟩ := x
    simp only [hitN, List.mem_singleton, Prod.mk.injEq]
    constructor
    · rintro ⟨rfl, rfl, rfl⟩; exact ⟨rfl, _, rfl, rfl, rfl⟩
    · rintro ⟨h1, v, h2, h3, h4⟩
      cases ns with
      | nil =>
        simp only [getN, Option.some.injEq] at h2
        subst h2
        exact ⟨rfl, h3, h4⟩
      | cons n ns => simp [fitsP] at h1
  | p :: ps, lf, F, x, h => by
    rw [hitN, mem_hitF h]
    constructor
    · rintro ⟨n, ns, v, h1, h2, h3, h4⟩
      rw [mem_hitN ps v.1 v.2 _ (ok_get h h2).2.1] at h4
      rw [h1]
      refine ⟨by simp [fitsP, h3, h4.1], ?_⟩
      simp only [getN, h2]
      exact h4.2
    · rintro ⟨h1, v, h2, h3⟩
      cases hx : x.1 with
      | nil => rw [hx] at h1; simp [fitsP] at h1
      | cons n ns =>
        rw [hx] at h1 h2
        simp only [fitsP, Bool.and_eq_true] at h1
        simp only [getN] at h2
        cases hg : F.get n with
        | none => rw [hg] at h2; cases h2
        | some w =>
          rw [hg] at h2
          refine ⟨n, ns, w, rfl, hg, h1.1, ?_⟩
          rw [mem_hitN ps w.1 w.2 _ (ok_get h hg).2.1]
          exact ⟨h1.2, v, h2, h3⟩
theorem hitF_names {p : Tx → Bool} {g : Bool → Fo → List (List Tx × Bool × Bool)} {F : Fo} (h : F.ok) (hg : ∀ n v, F.get n = some v → ((g v.1 v.2).map (·.1)).Nodup) : ((hitF p g F).map (·.1)).Nodup := by
  induction F with
  | nil => simp [hitF]
  | cons m lf s r _ ih =>
    have hm := get_none.2 h.2.1
    have ihr := ih h.2.2.2.2 (fun n v hn => hg n v (by
      have : n ≠ m := fun e => by subst e; rw [hm] at hn; cases hn
      simp [Fo.get, this, hn]))
    simp only [hitF, List.map_append]
    rw [List.nodup_append]
    refine ⟨?_, ihr, ?_⟩
    · split
      · have := hg m (lf, s) (by simp [Fo.get])
        rw [List.map_map]
        have e : ((fun x : List Tx × Bool × Bool => x.1) ∘ fun x => (m :: x.1, x.2)) = (m :: ·) ∘ (fun x : List Tx × Bool × Bool => x.1) := rfl
        rw [e, ← List.map_map]
        exact nodup_map (fun a b hab => by simpa using hab) this
      · simp
    · intro a ha b hb hab
      obtain ⟨x, hx, rfl⟩ := List.mem_map.1 hb
      obtain ⟨n, ns, v, h1, h2, _⟩ := (mem_hitF h.2.2.2.2).1 hx
      obtain ⟨y, hy, rfl⟩ := List.mem_map.1 ha
      split at hy
      · obtain ⟨z, _, rfl⟩ := List.mem_map.1 hy
        simp only at hab
        rw [h1] at hab
        cases hab
        rw [hm] at h2; cases h2
      · cases hy
theorem hitN_names : ∀ (ps : List (Tx → Bool)) (lf : Bool) (F : Fo), F.ok → ((hitN ps lf F).map (·.1)).Nodup
  | [], lf, F, h => by simp [hitN]
  | p :: ps, lf, F, h => hitF_names h fun n v hn => hitN_names ps v.1 v.2 (ok_get h hn).2.1
end Go.Trie
end
section
namespace Go.Trie
open Go.Glob Go.Trail
theorem tx_irrefl (a : Tx) : ¬ a < a := List.lt_irrefl a
theorem tx_trans {a b c : Tx} (h : a < b) (h' : b < c) : a < c := List.lt_trans h h'
theorem tx_tri {a b : Tx} (h : ¬ a < b) (hne : a ≠ b) : b < a := by
  have h1 : b ≤ a := by simpa using h
  apply Classical.byContradiction
  intro h2
  exact hne (List.le_antisymm (by simpa using h2) h1)
theorem tx_le {a b : Tx} : a ≤ b ↔ a < b ∨ a = b := by
  constructor
  · intro h
    by_cases e : a = b
    · exact .inr e
    · exact .inl (tx_tri (fun h2 => List.not_lt.2 h h2) (Ne.symm e))
  · rintro (h | rfl)
    · exact List.le_of_lt h
    · exact List.le_refl _
def withP : List Tx → Tx → List Tx
  | [], p => [p]
  | x :: l, p => if p < x then p :: x :: l else x :: withP l p
def Up (l : List Tx) : Prop := l.Pairwise (· < ·)
theorem with_perm (l : List Tx) (p : Tx) : (withP l p).Perm (p :: l) := by
  induction l with
  | nil => exact List.Perm.refl _
  | cons x l ih =>
    simp only [withP]
    split
    · exact List.Perm.refl _
    · exact (ih.cons x).trans (List.Perm.swap p x l)
theorem with_len (l : List Tx) (p : Tx) : (withP l p).length = l.length + 1 := by simpa using (with_perm l p).length_eq
theorem mem_with {l : List Tx} {p q : Tx} : q ∈ withP l p ↔ q = p ∨ q ∈ l := by
  rw [(with_perm l p).mem_iff]; simp
theorem with_up {l : List Tx} {p : Tx} (h : Up l) (hp : p ∉ l) : Up (withP l p) := by
  induction l with
  | nil => simp [withP, Up]
  | cons x l ih =>
    have h1 := List.pairwise_cons.1 h
    simp only [List.mem_cons, not_or] at hp
    simp only [withP]
    split
    · next hlt =>
      refine List.pairwise_cons.2 ⟨fun y hy => ?_, h⟩
      rcases List.mem_cons.1 hy with rfl | hy
      · exact hlt
      · exact tx_trans hlt (h1.1 y hy)
    · next hlt =>
      refine List.pairwise_cons.2 ⟨fun y hy => ?_, ih h1.2 hp.2⟩
      rcases mem_with.1 hy with rfl | hy
      · exact tx_tri hlt hp.1
      · exact h1.1 y hy
theorem up_eq : ∀ {a b : List Tx}, Up a → Up b → (∀ x, x ∈ a ↔ x ∈ b) → a = b
  | [], [], _, _, _ => rfl
  | [], y :: b, _, _, h => by have := (h y).2 (by simp); cases this
  | x :: a, [], _, _, h => by have := (h x).1 (by simp); cases this
  | x :: a, y :: b, ha, hb, h => by
    have ha' := List.pairwise_cons.1 ha
    have hb' := List.pairwise_cons.1 hb
    have e : x = y := by
      rcases List.mem_cons.1 ((h x).1 (by simp)) with e | hx
      · exact e
      · rcases List.mem_cons.1 ((h y).2 (by simp)) with e | hy
        · exact e.symm
        · exact absurd (tx_trans (ha'.1 y hy) (hb'.1 x hx)) (tx_irrefl _)
    subst e
    rw [up_eq ha'.2 hb'.2 fun z => ?_]
    have hz := h z
    simp only [List.mem_cons] at hz
    constructor
    · intro hm
      rcases hz.1 (.inr hm) with e | h2
      · subst e; exact absurd (ha'.1 _ hm) (tx_irrefl _)
      · exact h2
    · intro hm
      rcases hz.2 (.inr hm) with e | h2
      · subst e; exact absurd (hb'.1 _ hm) (tx_irrefl _)
      · exact h2
theorem sort_up {l : List Tx} (h : l.Nodup) : Up (l.mergeSort fun x y => decide (x ≤ y)) := by
  have hp : (l.mergeSort fun x y => decide (x ≤ y)).Pairwise fun a b => decide (a ≤ b) = true := List.pairwise_mergeSort (fun a b c h1 h2 => by
    simp only [decide_eq_true_eq] at *
    exact List.le_trans h1 h2) (fun a b => by
    simp only [Bool.or_eq_true, decide_eq_true_eq]
    exact List.le_total a b) _
  have hn : (l.mergeSort fun x y => decide (x ≤ y)).Nodup := (List.mergeSort_perm _ _).nodup_iff.2 h
  refine (List.pairwise_and_iff.2 ⟨hp, hn⟩).imp ?_
  rintro a b ⟨h1, h2⟩
  simp only [decide_eq_true_eq] at h1
  rcases tx_le.1 h1 with h3 | h3
  · exact h3
  · exact absurd h3 h2
theorem up_nodup {l : List Tx} (h : Up l) : l.Nodup := h.imp fun hlt he => by subst he; exact tx_irrefl _ hlt
def insP (l : List Tx) (p : Tx) : List Tx × Nat := if path p = none then (l, 13) else if p ∈ l then (l, 5) else if 64 ≤ l.length then (l, 11) else (withP l p, 0)
def delP (l : List Tx) (p : Tx) : List Tx × Nat := if path p = none then (l, 13) else if p ∈ l then (l.filter (· ≠ p), 0) else (l, 15)
/-- A trie's root holds a list. -/
structure Holds (l : List Tx) (F : Fo) : Prop where
  ok : F.ok
  up : Up l
  names : ∀ ms ∈ lv F, path (join ms) = some ms
  perm : l.Perm ((lv F).map join)
theorem Holds.mem {l : List Tx} {F : Fo} (h : Holds l F) {p : Tx} : p ∈ l ↔ ∃ ms, path p = some ms ∧ hasN false F ms = true := by
  rw [h.perm.mem_iff, List.mem_map]
  constructor
  · rintro ⟨ms, hm, rfl⟩
    exact ⟨ms, h.names ms hm, (mem_lvN ms false F h.ok).1 (by simpa [lvN] using hm)⟩
  · rintro ⟨ms, hp, hh⟩
    refine ⟨ms, by simpa [lvN] using (mem_lvN ms false F h.ok).2 hh, ?_⟩
    have : ms = sp p := by
      unfold path at hp
      split at hp
      · exact (Option.some.inj hp).symm
      · cases hp
    rw [this, join_sp]
theorem Holds.len {l : List Tx} {F : Fo} (h : Holds l F) : l.length = (lv F).length := by simpa using h.perm.length_eq
theorem holds_nil : Holds [] .nil := ⟨trivial, List.Pairwise.nil, by simp [lv], by simp [lv]⟩
theorem path_props {p : Tx} {ms : List Tx} (h : path p = some ms) : join ms = p ∧ ms ≠ [] ∧ ms.length ≤ 8 ∧ ∀ n ∈ ms, nameB n = true := by
  unfold path at h
  split at h
  case isFalse => cases h
  rename_i hc
  cases h
  exact ⟨join_sp p, sp_ne p, hc.1, List.all_eq_true.1 hc.2⟩
theorem lv_of_lvN {F : Fo} : lvN false F = lv F := by simp [lvN]
theorem insN_root {F : Fo} {ms : List Tx} (h : ms ≠ []) (lf : Bool) : insN lf F ms = (lf, (insN false F ms).2) := by
  cases ms with
  | nil => exact absurd rfl h
  | cons n ns => rfl
theorem delN_root {F : Fo} {ms : List Tx} (h : ms ≠ []) : (delN false F ms).1 = false := by
  cases ms with
  | nil => exact absurd rfl h
  | cons n ns =>
    simp only [delN]
    split
    · rfl
    · split <;> rfl
theorem holds_ins {l : List Tx} {F : Fo} (h : Holds l F) {p : Tx} {ms : List Tx} (hp : path p = some ms) (hn : p ∉ l) : Holds (withP l p) (insN false F ms).2 := by
  obtain ⟨h1, h2, h3, h4⟩ := path_props hp
  have hh : hasN false F ms = false := by
    cases hx : hasN false F ms with
    | false => rfl
    | true => exact absurd (h.mem.2 ⟨ms, hp, hx⟩) hn
  have hl := lv_ins ms false F hh
  rw [insN_root h2] at hl
  simp only at hl
  rw [lv_of_lvN, lv_of_lvN] at hl
  refine ⟨(ok_ins ms false F h.ok h4).1, with_up h.up hn, fun x hx => ?_, ?_⟩
  · rcases List.mem_cons.1 (hl.mem_iff.1 hx) with rfl | hx
    · rw [h1]; exact hp
    · exact h.names x hx
  · refine (with_perm l p).trans ?_
    refine List.Perm.trans ?_ (hl.map join).symm
    simp only [List.map_cons, h1]
    exact h.perm.cons p
theorem filter_up {l : List Tx} (h : Up l) (q : Tx → Bool) : Up (l.filter q) := h.filter _
theorem perm_filter_ne {l : List Tx} {p : Tx} (h : l.Nodup) (hp : p ∈ l) : l.Perm (p :: l.filter (· ≠ p)) := by
  induction l with
  | nil => cases hp
  | cons x l ih =>
    have h1 := List.nodup_cons.1 h
    by_cases e : x = p
    · subst e
      have : l.filter (· ≠ x) = l := List.filter_eq_self.2 fun y hy => by
        simp only [decide_eq_true_eq]
        rintro rfl
        exact h1.1 hy
      simp only [ne_eq, decide_not] at this
      simp [this]
    · have hp' : p ∈ l := by
        rcases List.mem_cons.1 hp with rfl | h2
        · exact absurd rfl e
        · exact h2
      have := ih h1.2 hp'
      have hx : (x :: l).filter (· ≠ p) = x :: l.filter (· ≠ p) := by simp [e]
      rw [hx]
      exact (this.cons x).trans (List.Perm.swap _ _ _)
theorem holds_del {l : List Tx} {F : Fo} (h : Holds l F) {p : Tx} {ms : List Tx} (hp : path p = some ms) (hn : p ∈ l) : Holds (l.filter (· ≠ p)) (delN false F ms).2 := by
  obtain ⟨h1, h2, h3, h4⟩ := path_props hp
  have hh : hasN false F ms = true := by
    obtain ⟨x, hx, hy⟩ := h.mem.1 hn
    rw [hp] at hx; cases hx; exact hy
  have hl := lv_del ms false F hh
  rw [delN_root h2, lv_of_lvN, lv_of_lvN] at hl
  refine ⟨ok_delN ms false F h.ok, filter_up h.up _, fun x hx => h.names x (hl.mem_iff.1 (by simp [hx])), ?_⟩
  have e1 := perm_filter_ne (up_nodup h.up) hn
  have e2 : (p :: l.filter (· ≠ p)).Perm (p :: (lv (delN false F ms).2).map join) := by
    refine e1.symm.trans (h.perm.trans ?_)
    refine (hl.map join).symm.trans ?_
    simp [h1]
  exact List.Perm.cons_inv e2
/-- What a walk over a trie finds, sorted. -/
theorem holds_sort {l : List Tx} {F : Fo} (h : Holds l F) {m : List Tx} (hm : m.Perm ((lv F).map join)) : (m.mergeSort fun x y => decide (x ≤ y)) = l := by
  have hml : m.Perm l := hm.trans h.perm.symm
  refine up_eq (sort_up (hml.nodup_iff.2 (up_nodup h.up))) h.up fun x => ?_
  rw [(List.mergeSort_perm _ _).mem_iff, hml.mem_iff]
theorem getN_app : ∀ (a b : List Tx) (lf : Bool) (F : Fo), getN lf F (a ++ b) = (getN lf F a).bind fun x => getN x.1 x.2 b
  | [], b, lf, F => rfl
  | n :: a, b, lf, F => by
    simp only [List.cons_append, getN]
    cases F.get n with
    | none => rfl
    | some x => exact getN_app a b x.1 x.2
theorem ok_getN : ∀ (a : List Tx) (lf : Bool) (F : Fo) (v : Bool × Fo), F.ok → getN lf F a = some v → v.2.ok ∧ (a ≠ [] → v.1 = true ∨ v.2.isNil = false) ∧ ∀ n ∈ a, nameB n = true
  | [], lf, F, v, h, hg => by cases hg; exact ⟨h, fun e => absurd rfl e, by simp⟩
  | n :: a, lf, F, v, h, hg => by
    simp only [getN] at hg
    cases hx : F.get n with
    | none => rw [hx] at hg; cases hg
    | some x =>
      rw [hx] at hg
      obtain ⟨h1, h2, h3⟩ := ok_get h hx
      have ih := ok_getN a x.1 x.2 v h2 hg
      refine ⟨ih.1, fun _ => ?_, fun m hm => ?_⟩
      · cases a with
        | nil => cases hg; exact h3
        | cons b a => exact ih.2.1 (by simp)
      · rcases List.mem_cons.1 hm with rfl | hm
        · exact h1
        · exact ih.2.2 m hm
/-- Beneath a node that isn't empty a path ends. -/
theorem lv_some : ∀ {F : Fo}, F.ok → F.isNil = false → ∃ ms, ms ∈ lv F ∧ ms ≠ []
  | .nil, _, h => by cases h
  | .cons n lf s r, h, _ => by
    rcases h.2.2.1 with h1 | h1
    · subst h1
      exact ⟨[n], by simp [lv], by simp⟩
    · obtain ⟨ms, hm, _⟩ := lv_some h.2.2.2.1 h1
      exact ⟨n :: ms, by simp [lv, hm], by simp⟩
theorem node_iff {lf : Bool} {F : Fo} (h : F.ok) {a : List Tx} (ha : a ≠ []) : (∃ v, getN lf F a = some v) ↔ ∃ b, a ++ b ∈ lv F := by
  constructor
  · rintro ⟨v, hv⟩
    obtain ⟨h1, h2, h3⟩ := ok_getN a lf F v h hv
    have key : ∀ b, hasN v.1 v.2 b = true → a ++ b ∈ lv F := fun b hb => by
      have : hasN lf F (a ++ b) = true := by simp only [hasN, getN_app, hv, Option.bind_some]; exact hb
      have h4 := (mem_lvN (a ++ b) lf F h).2 this
      simp only [lvN, List.mem_append] at h4
      rcases h4 with h4 | h4
      · cases lf <;> simp at h4
        exact absurd h4.1 ha
      · exact h4
    rcases h2 ha with h4 | h4
    · exact ⟨[], key [] h4⟩
    · obtain ⟨ms, hm, _⟩ := lv_some h1 h4
      exact ⟨ms, key ms ((mem_lvN ms v.1 v.2 h1).1 (by simp [lvN, hm]))⟩
  · rintro ⟨b, hb⟩
    have : hasN lf F (a ++ b) = true := (mem_lvN (a ++ b) lf F h).1 (by simp [lvN, hb])
    simp only [hasN, getN_app] at this
    cases hv : getN lf F a with
    | none => rw [hv] at this; simp at this
    | some v => exact ⟨v, rfl⟩
theorem node_branch {lf : Bool} {F : Fo} (h : F.ok) {a : List Tx} {v : Bool × Fo} (hv : getN lf F a = some v) : v.2.isNil = false ↔ ∃ b, b ≠ [] ∧ a ++ b ∈ lv F := by
  obtain ⟨h1, h2, h3⟩ := ok_getN a lf F v h hv
  constructor
  · intro hn
    obtain ⟨ms, hm, hne⟩ := lv_some h1 hn
    refine ⟨ms, hne, ?_⟩
    have h4 : hasN v.1 v.2 ms = true := (mem_lvN ms v.1 v.2 h1).1 (by simp [lvN, hm])
    have : hasN lf F (a ++ ms) = true := by simp only [hasN, getN_app, hv, Option.bind_some]; exact h4
    have h5 := (mem_lvN (a ++ ms) lf F h).2 this
    simp only [lvN, List.mem_append] at h5
    rcases h5 with h5 | h5
    · cases lf <;> simp at h5
      exact absurd h5.2 hne
    · exact h5
  · rintro ⟨b, hne, hb⟩
    have : hasN lf F (a ++ b) = true := (mem_lvN (a ++ b) lf F h).1 (by simp [lvN, hb])
    simp only [hasN, getN_app, hv, Option.bind_some] at this
    cases hx : v.2 with
    | nil =>
      cases b with
      | nil => exact absurd rfl hne
      | cons n b => rw [hx] at this; simp [getN, Fo.get] at this
    | cons _ _ _ _ => rfl
end Go.Trie
end
section
set_option maxHeartbeats 4000000
namespace Go.Proofs.YtjpjmdjjgfllhaaGreatDoor
open Go.Abs Go.Glob Go.Trail Go.Trie
variable {G : Globs}
theorem _root_.Go.Abs.AccI.finT {te size : Nat} {σ : Store} {v : AV} {l : List (List AV)} (h : AccI te size σ v l) (m : Nat) : Abs.finT σ m v = some (.lst l) := by
  have h1 := h.fin1 m
  rcases h with ⟨_, rfl⟩ | ⟨_, id, rfl, _⟩ <;> exact h1
theorem _root_.Go.Abs.AccI.fin {te size : Nat} {σ : Store} {v : AV} {l : List (List AV)} (h : AccI te size σ v l) (m : Nat) : Abs.fin σ m v = some (.lst l) := by
  have h1 := h.fin1 m
  rcases h with ⟨_, rfl⟩ | ⟨_, id, rfl, _⟩ <;> exact h1
theorem els_len (l : List (List UInt8)) : (strEls l).length = l.length := by simp [strEls]
theorem els_app1 (l : List (List UInt8)) (x : List UInt8) : strEls l ++ [[.str x]] = strEls (l ++ [x]) := by simp [strEls]
theorem els_pure (l : List (List UInt8)) : ∀ c ∈ strEls l, ∀ a ∈ c, a.pure = true := by
  intro c hc a ha
  simp only [strEls, List.mem_map] at hc
  obtain ⟨x, _, rfl⟩ := hc
  simp at ha; subst ha; simp [AV.pure]
theorem r17has_ok (l : List (List UInt8)) (p : List UInt8) (hl : l.length ≤ 1000000000) : PCalls Tryz.prog n_isobarref17_Has [.lst (strEls l), .str p] (fun r => r = .bool (decide (p ∈ l))) := by
  refine pcalls_of_awp hmix c_isobarref17_Has rfl ?_
  simp [a_isobarref17_Has]
  refine lp_startx (fun x f σ => ∃ i : Nat, x = l.length - i ∧ i ≤ l.length ∧ p ∉ l.take i ∧ f 0 = .lst (strEls l) ∧ f 1 = .str p ∧ f 5 = .int .i64 i ∧ σ = []) l.length ⟨0, by simp⟩ ?_
  rintro x f σ ⟨i, hx, hi, hno, h0, h1, h5, rfl⟩
  by_cases hlt : i < l.length
  · obtain ⟨q, hq⟩ : ∃ q, l[i]? = some q := ⟨_, List.getElem?_eq_getElem hlt⟩
    have hse : (strEls l)[i]? = some [.str q] := by simp [strEls, hq]
    obtain ⟨hx1, hx2⟩ := List.getElem?_eq_some_iff.1 hse
    have hlt' : (i : Int) < (l.length : Int) := by omega
    have hwi : IntKind.i64.wrap ((i : Int) + 1) = (i : Int) + 1 := wrap_i64 (by omega) (by omega)
    by_cases hqp : q = p
    · subst hqp
      have hm : q ∈ l := List.mem_of_getElem? hq
      simp [h0, h1, h5, els_len, hlt, hlt', hse, hx2, hm]
    · simp [h0, h1, h5, els_len, hlt, hlt', hse, hx2, hqp, hwi]
      refine nx_intro (l.length - (i + 1)) (by omega) ⟨i + 1, rfl, by omega, ?_, by simp [h0], by simp [h1], by simp, rfl⟩
      rw [List.take_add_one, hq]
      simp only [Option.toList_some, List.mem_append, List.mem_singleton, not_or]
      exact ⟨hno, fun e => hqp e.symm⟩
  · have hlt' : ¬ (i : Int) < (l.length : Int) := by omega
    rw [List.take_of_length_le (by omega)] at hno
    simp [h0, h1, h5, els_len, hlt, hlt', hno]
theorem r17with_ok (l : List (List UInt8)) (p : List UInt8) (hl : l.length ≤ 1000000000) : PCalls Tryz.prog n_isobarref17_With [.lst (strEls l), .str p] (fun r => r = .lst (strEls (withP l p))) := by
  refine pcalls_of_awp hmix c_isobarref17_With rfl ?_
  simp [a_isobarref17_With]
  refine lp_startx (fun x f σ => ∃ (i : Nat) (b : Bool) (acc : List (List UInt8)), x = l.length - i ∧ i ≤ l.length ∧ acc ++ (if b then l.drop i else withP (l.drop i) p) = withP l p ∧ f 0 = .lst (strEls l) ∧ f 1 = .str p ∧ AccI 9 1 σ (f 5) (strEls acc) ∧ f 6 = .bool b ∧ f 7 = .int .i64 i) l.length ⟨0, false, [], by simp, by simp, by simp, by simp, by simp, .inl ⟨rfl, by simp⟩, by simp, by simp⟩ ?_
  rintro x f σ ⟨i, b, acc, hx, hi, hacc, h0, h1, h5, h6, h7⟩
  have hal : acc.length ≤ l.length + 1 := by
    have := congrArg List.length hacc
    rw [with_len] at this
    simp only [List.length_append] at this
    omega
  by_cases hlt : i < l.length
  · obtain ⟨q, hq⟩ : ∃ q, l[i]? = some q := ⟨_, List.getElem?_eq_getElem hlt⟩
    have hse : (strEls l)[i]? = some [.str q] := by simp [strEls, hq]
    obtain ⟨hx1, hx2⟩ := List.getElem?_eq_some_iff.1 hse
    have hlt' : (i : Int) < (l.length : Int) := by omega
    have hwi : IntKind.i64.wrap ((i : Int) + 1) = (i : Int) + 1 := wrap_i64 (by omega) (by omega)
    have hd : l.drop i = q :: l.drop (i + 1) := drop_cons hq
    rw [hd] at hacc
    have hal2 : acc.length + 1 ≤ l.length + 1 := by
      have := congrArg List.length hacc
      rw [with_len] at this
      cases b <;> simp [with_len] at this <;> omega
    cases b with
    | true =>
      simp only [if_true] at hacc
      simp [h0, h1, h6, h7, els_len, hlt, hlt', hse, hx2]
      refine ap_accI (bytes := 16) h5 [.str q] (by decide) rfl (by rw [els_app1]; exact els_pure _) (by rw [els_len]; omega) (by rw [els_len]; omega) fun v' σ' hv hk hs _ => ?_
      simp [h7, hwi]
      refine nx_intro (l.length - (i + 1)) (by omega) ⟨i + 1, true, acc ++ [q], rfl, by omega, by simpa using hacc, by simp [h0], by simp [h1], by simpa [strEls] using hv, by simp [h6], by simp⟩
    | false =>
      simp only [Bool.false_eq_true, if_false, withP] at hacc
      by_cases hpq : p < q
      · rw [if_pos hpq] at hacc
        have hal3 : acc.length + 2 ≤ l.length + 1 := by
          have := congrArg List.length hacc
          rw [with_len] at this
          simp at this; omega
        have hb1 : Op.bytesLess q p = false := by
          rw [bytesLess_eq]; simp only [decide_eq_false_iff_not]
          exact fun h => tx_irrefl _ (tx_trans hpq h)
        have hne : ¬ q = p := fun e => by subst e; exact tx_irrefl _ hpq
        simp [h0, h1, h6, h7, els_len, hlt, hlt', hse, hx2, hb1, hne]
        refine ap_accI (bytes := 16) h5 [.str p] (by decide) rfl (by rw [els_app1]; exact els_pure _) (by rw [els_len]; omega) (by rw [els_len]; omega) fun v' σ' hv hk hs _ => ?_
        simp [h0, h7, els_len, hlt, hlt', hse, hx2]
        have hv2 : AccI 9 1 σ' v' (strEls (acc ++ [p])) := by simpa [strEls] using hv
        refine ap_accI (bytes := 16) hv2 [.str q] (by decide) rfl (by rw [els_app1]; exact els_pure _) (by rw [els_len]; simp; omega) (by rw [els_len]; simp; omega) fun v2 σ2 hw hk2 hs2 _ => ?_
        simp [h7, hwi]
        refine nx_intro (l.length - (i + 1)) (by omega) ⟨i + 1, true, acc ++ [p] ++ [q], rfl, by omega, by simpa using hacc, by simp [h0], by simp [h1], by simpa [strEls] using hw, by simp, by simp⟩
      · rw [if_neg hpq] at hacc
        have hg : (Op.bytesLess q p || decide (q = p)) = true := by
          rw [bytesLess_eq]
          by_cases e : q = p
          · simp [e]
          · have := tx_tri hpq (Ne.symm e)
            simp [this]
        have hg2 : Op.bytesLess q p = false → q = p := fun h => by rw [h] at hg; simpa using hg
        rcases hb1 : Op.bytesLess q p with _ | _
        · have := hg2 hb1
          subst this
          simp [h0, h1, h6, h7, els_len, hlt, hlt', hse, hx2, hb1]
          refine ap_accI (bytes := 16) h5 [.str q] (by decide) rfl (by rw [els_app1]; exact els_pure _) (by rw [els_len]; omega) (by rw [els_len]; omega) fun v' σ' hv hk hs _ => ?_
          simp [h7, hwi]
          refine nx_intro (l.length - (i + 1)) (by omega) ⟨i + 1, false, acc ++ [q], rfl, by omega, by simpa using hacc, by simp [h0], by simp [h1], by simpa [strEls] using hv, by simp [h6], by simp⟩
        · simp [h0, h1, h6, h7, els_len, hlt, hlt', hse, hx2, hb1]
          refine ap_accI (bytes := 16) h5 [.str q] (by decide) rfl (by rw [els_app1]; exact els_pure _) (by rw [els_len]; omega) (by rw [els_len]; omega) fun v' σ' hv hk hs _ => ?_
          simp [h7, hwi]
          refine nx_intro (l.length - (i + 1)) (by omega) ⟨i + 1, false, acc ++ [q], rfl, by omega, by simpa using hacc, by simp [h0], by simp [h1], by simpa [strEls] using hv, by simp [h6], by simp⟩
  · have hil : i = l.length := by omega
    subst hil
    have hlt' : ¬ ((l.length : Int) < (l.length : Int)) := by omega
    cases b with
    | true =>
      simp at hacc
      subst hacc
      simp [h0, h6, h7, els_len]
      rw [h5.fin]
      simp
    | false =>
      simp [withP] at hacc
      simp [h0, h1, h6, h7, els_len]
      refine ap_accI (bytes := 16) h5 [.str p] (by decide) rfl (by rw [els_app1]; exact els_pure _) (by rw [els_len]; omega) (by rw [els_len]; omega) fun v' σ' hv hk hs _ => ?_
      have hv2 : AccI 9 1 σ' v' (strEls (acc ++ [p])) := by simpa [strEls] using hv
      rw [hacc] at hv2
      simp
      rw [hv2.fin]
      simp
theorem r17insert_ok (l : List (List UInt8)) (p : List UInt8) (hl : l.length ≤ 1000000000) (hp : p.length ≤ 9000000000000000000) : PCalls Tryz.prog n_isobarref17_Insert [.lst (strEls l), .str p] (fun r => r = .tup [.lst (strEls (insP l p).1), .int .i64 (insP l p).2]) := by
  refine pcalls_of_awp hmix c_isobarref17_Insert rfl ?_
  simp [a_isobarref17_Insert]
  refine ac_same (r16right_ok p hp) (by simp) ?_
  rintro r rfl
  cases hpp : path p with
  | none => simp [insP, hpp]
  | some ns =>
    simp
    refine ac_same (r17has_ok l p hl) (by simp) ?_
    rintro r rfl
    by_cases hm : p ∈ l
    · simp [insP, hpp, hm]
    · by_cases h64 : 64 ≤ l.length
      · have h64' : (64 : Int) ≤ (l.length : Int) := by omega
        simp [insP, hpp, hm, els_len, h64, h64']
      · have h64' : ¬ (64 : Int) ≤ (l.length : Int) := by omega
        simp [insP, hpp, hm, els_len, h64, h64']
        refine ac_same (r17with_ok l p hl) (by simp) ?_
        rintro r rfl
        simp [insP, hpp, hm, h64]
theorem r17delete_ok (l : List (List UInt8)) (p : List UInt8) (hl : l.length ≤ 1000000000) (hp : p.length ≤ 9000000000000000000) : PCalls Tryz.prog n_isobarref17_Delete [.lst (strEls l), .str p] (fun r => r = .tup [.lst (strEls (delP l p).1), .int .i64 (delP l p).2]) := by
  refine pcalls_of_awp hmix c_isobarref17_Delete rfl ?_
  simp [a_isobarref17_Delete]
  refine ac_same (r16right_ok p hp) (by simp) ?_
  rintro r rfl
  cases hpp : path p with
  | none => simp [delP, hpp]
  | some ns =>
    simp
    refine ac_same (r17has_ok l p hl) (by simp) ?_
    rintro r rfl
    by_cases hm : p ∈ l
    · have hd : delP l p = (l.filter (· ≠ p), 0) := by simp [delP, hpp, hm]
      rw [hd]
      obtain ⟨q0, hq0⟩ : ∃ q0 : List UInt8 → Bool, q0 = fun x => decide (x ≠ p) := ⟨_, rfl⟩
      simp only [← hq0]
      simp [hm]
      refine lp_startx (fun x f σ => ∃ (i : Nat) , x = l.length - i ∧ i ≤ l.length ∧ f 0 = .lst (strEls l) ∧ f 1 = .str p ∧ AccI 9 1 σ (f 6) (strEls ((l.take i).filter q0)) ∧ f 7 = .int .i64 i) l.length ⟨0, by simp, by simp, by simp, by simp, .inl ⟨rfl, by simp⟩, by simp⟩ ?_
      rintro x f σ ⟨i, hx, hi, h0, h1, h6, h7⟩
      have hal : ((l.take i).filter q0).length ≤ i := Nat.le_trans (List.length_filter_le _ _) (by simp; omega)
      by_cases hlt : i < l.length
      · obtain ⟨q, hq⟩ : ∃ q, l[i]? = some q := ⟨_, List.getElem?_eq_getElem hlt⟩
        have hse : (strEls l)[i]? = some [.str q] := by simp [strEls, hq]
        obtain ⟨hx1, hx2⟩ := List.getElem?_eq_some_iff.1 hse
        have hlt' : (i : Int) < (l.length : Int) := by omega
        have hwi : IntKind.i64.wrap ((i : Int) + 1) = (i : Int) + 1 := wrap_i64 (by omega) (by omega)
        have htk : l.take (i + 1) = l.take i ++ [q] := by rw [List.take_add_one, hq]; rfl
        by_cases hqp : q = p
        · have hf : (l.take (i + 1)).filter q0 = (l.take i).filter q0 := by rw [htk, List.filter_append]; simp [hq0, hqp]
          simp [h0, h1, h7, els_len, hlt, hlt', hse, hx2, hqp, hwi]
          refine nx_intro (l.length - (i + 1)) (by omega) ⟨i + 1, rfl, by omega, by simp [h0], by simp [h1], by rw [hf]; simpa using h6, by simp⟩
        · have hf : (l.take (i + 1)).filter q0 = (l.take i).filter q0 ++ [q] := by rw [htk, List.filter_append]; simp [hq0, hqp]
          simp [h0, h1, h7, els_len, hlt, hlt', hse, hx2, hqp]
          refine ap_accI (bytes := 16) h6 [.str q] (by decide) rfl (by rw [els_app1]; exact els_pure _) (by rw [els_len]; omega) (by rw [els_len]; omega) fun v' σ' hv hk hs _ => ?_
          simp [h7, hwi]
          refine nx_intro (l.length - (i + 1)) (by omega) ⟨i + 1, rfl, by omega, by simp [h0], by simp [h1], by rw [hf, ← els_app1]; simpa using hv, by simp⟩
      · have hil : i = l.length := by omega
        subst hil
        rw [List.take_length] at h6
        simp [h0, h1, h7, els_len]
        rw [h6.finT]
        simp [hq0]
    · simp [delP, hpp, hm]
end Go.Proofs.YtjpjmdjjgfllhaaGreatDoor
end
section
namespace Go.Abs
open Go.Trie
/-- The nodes beneath a node: no map, or a map that holds them. -/
def KA (P : List (AV × AV) → List Nat → Prop) (σ : Store) (s : Fo) (k : AV) (fp : List Nat) : Prop :=
  (k = .nilm ∧ s = .nil ∧ fp = []) ∨ ∃ m kv fp', k = .map m ∧ σ[m]? = some (.mp kv) ∧ fp = m :: fp' ∧ P kv fp'
/-- Nodes beside one another, as a map has them; 'fp': all entries that they take. -/
def FKV (σ : Store) : Fo → List (AV × AV) → List Nat → Prop
  | .nil, kv, fp => kv = [] ∧ fp = []
  | .cons n lf s r, kv, fp => ∃ id t k kv' fp1 fp2, kv = (.str n, .ptr id 0) :: kv' ∧ fp = (id :: fp1) ++ fp2 ∧ σ[id]? = some (.var t [k, .bool lf]) ∧ KA (FKV σ s) σ s k fp1 ∧ FKV σ r kv' fp2
/-- A node. -/
def NA (σ : Store) (id : Nat) (rest : List AV) (lf : Bool) (F : Fo) (fp : List Nat) : Prop := ∃ t k fp', σ[id]? = some (.var t (k :: .bool lf :: rest)) ∧ KA (FKV σ F) σ F k fp' ∧ fp = id :: fp'
theorem FKV_cons {σ : Store} {n : Tx} {lf : Bool} {s r : Fo} {kv : List (AV × AV)} {fp : List Nat} : FKV σ (.cons n lf s r) kv fp ↔ ∃ id kv' fp1 fp2, kv = (.str n, .ptr id 0) :: kv' ∧ fp = fp1 ++ fp2 ∧ NA σ id [] lf s fp1 ∧ FKV σ r kv' fp2 := by
  simp only [FKV, NA]
  constructor
  · rintro ⟨id, t, k, kv', fp1, fp2, h1, h2, h3, h4, h5⟩
    exact ⟨id, kv', _, fp2, h1, h2, ⟨t, k, fp1, h3, h4, rfl⟩, h5⟩
  · rintro ⟨id, kv', fp1, fp2, h1, h2, ⟨t, k, fp', h3, h4, rfl⟩, h5⟩
    exact ⟨id, t, k, kv', fp', fp2, h1, h2, h3, h4, h5⟩
theorem FKV.congr {σ σ' : Store} : ∀ {F : Fo} {kv : List (AV × AV)} {fp : List Nat}, FKV σ F kv fp → (∀ a ∈ fp, σ'[a]? = σ[a]?) → FKV σ' F kv fp
  | .nil, kv, fp, h, _ => h
  | .cons n lf s r, kv, fp, h, hc => by
    obtain ⟨id, t, k, kv', fp1, fp2, rfl, rfl, h3, h4, h5⟩ := h
    refine ⟨id, t, k, kv', fp1, fp2, rfl, rfl, (hc id (by simp)).trans h3, ?_, h5.congr fun a ha => hc a (by simp [ha])⟩
    rcases h4 with h4 | ⟨m, kv1, fp', h6, h7, h8, h9⟩
    · exact .inl h4
    · subst h8
      exact .inr ⟨m, kv1, fp', h6, (hc m (by simp)).trans h7, rfl, h9.congr fun a ha => hc a (by simp [ha])⟩
theorem NA.congr {σ σ' : Store} {id : Nat} {rest : List AV} {lf : Bool} {F : Fo} {fp : List Nat} (h : NA σ id rest lf F fp) (hc : ∀ a ∈ fp, σ'[a]? = σ[a]?) : NA σ' id rest lf F fp := by
  obtain ⟨t, k, fp', h1, h2, rfl⟩ := h
  refine ⟨t, k, fp', (hc id (by simp)).trans h1, ?_, rfl⟩
  rcases h2 with h2 | ⟨m, kv1, fp1, h6, h7, h8, h9⟩
  · exact .inl h2
  · subst h8
    exact .inr ⟨m, kv1, fp1, h6, (hc m (by simp)).trans h7, rfl, h9.congr fun a ha => hc a (by simp [ha])⟩
/-- The entries that nodes take are variables of more than one cell, and maps. -/
def NodeE (e : Entry) : Prop := (∃ t a b l, e = .var t (a :: b :: l)) ∨ ∃ kv, e = .mp kv
theorem FKV.kind {σ : Store} : ∀ {F : Fo} {kv : List (AV × AV)} {fp : List Nat}, FKV σ F kv fp → ∀ a ∈ fp, ∃ e, σ[a]? = some e ∧ NodeE e
  | .nil, kv, fp, h, a, ha => by rw [h.2] at ha; cases ha
  | .cons n lf s r, kv, fp, h, a, ha => by
    obtain ⟨id, t, k, kv', fp1, fp2, rfl, rfl, h3, h4, h5⟩ := h
    rcases List.mem_append.1 ha with ha | ha
    · rcases List.mem_cons.1 ha with rfl | ha
      · exact ⟨_, h3, .inl ⟨_, _, _, _, rfl⟩⟩
      · rcases h4 with ⟨_, _, rfl⟩ | ⟨m, kv1, fp', h6, h7, rfl, h9⟩
        · cases ha
        · rcases List.mem_cons.1 ha with rfl | ha
          · exact ⟨_, h7, .inr ⟨_, rfl⟩⟩
          · exact h9.kind a ha
    · exact h5.kind a ha
theorem NA.kind {σ : Store} {id : Nat} {rest : List AV} {lf : Bool} {F : Fo} {fp : List Nat} (h : NA σ id rest lf F fp) : ∀ a ∈ fp, ∃ e, σ[a]? = some e ∧ NodeE e := by
  obtain ⟨t, k, fp', h1, h2, rfl⟩ := h
  intro a ha
  rcases List.mem_cons.1 ha with rfl | ha
  · exact ⟨_, h1, .inl ⟨_, _, _, _, rfl⟩⟩
  · rcases h2 with ⟨_, _, rfl⟩ | ⟨m, kv1, fp', h6, h7, rfl, h9⟩
    · cases ha
    · rcases List.mem_cons.1 ha with rfl | ha
      · exact ⟨_, h7, .inr ⟨_, rfl⟩⟩
      · exact h9.kind a ha
theorem NA.lt {σ : Store} {id : Nat} {rest : List AV} {lf : Bool} {F : Fo} {fp : List Nat} (h : NA σ id rest lf F fp) : ∀ a ∈ fp, a < σ.length := fun a ha => by
  obtain ⟨e, he, _⟩ := h.kind a ha
  exact (List.getElem?_eq_some_iff.1 he).1
theorem FKV.lt {σ : Store} {F : Fo} {kv : List (AV × AV)} {fp : List Nat} (h : FKV σ F kv fp) : ∀ a ∈ fp, a < σ.length := fun a ha => by
  obtain ⟨e, he, _⟩ := h.kind a ha
  exact (List.getElem?_eq_some_iff.1 he).1
theorem FKV.len {σ : Store} : ∀ {F : Fo} {kv : List (AV × AV)} {fp : List Nat}, FKV σ F kv fp → ((kv.length = 0) ↔ F.isNil = true)
  | .nil, kv, fp, h => by rw [h.1]; simp [Fo.isNil]
  | .cons n lf s r, kv, fp, h => by
    obtain ⟨id, t, k, kv', fp1, fp2, rfl, _⟩ := h
    simp [Fo.isNil]
theorem FKV.under {σ : Store} : ∀ {F : Fo} {kv : List (AV × AV)} {fp : List Nat}, FKV σ F kv fp → (Entry.mp kv).under σ.length = true
  | .nil, kv, fp, h => by rw [h.1]; simp [Entry.under]
  | .cons n lf s r, kv, fp, h => by
    obtain ⟨id, t, k, kv', fp1, fp2, rfl, rfl, h3, _, h5⟩ := h
    have := h5.under
    simp only [Entry.under, List.all_cons, Bool.and_eq_true] at this ⊢
    exact ⟨by simpa [AV.under] using (List.getElem?_eq_some_iff.1 h3).1, this⟩
/-- A name that no node has. -/
theorem FKV.find_none {σ : Store} {x : Tx} : ∀ {F : Fo} {kv : List (AV × AV)} {fp : List Nat}, FKV σ F kv fp → F.get x = none → ∀ i, mapFind 1 (.str x) kv i = some none
  | .nil, kv, fp, h, _, i => by rw [h.1]; rfl
  | .cons n lf s r, kv, fp, h, hg, i => by
    obtain ⟨id, t, k, kv', fp1, fp2, rfl, rfl, h3, _, h5⟩ := h
    simp only [Fo.get] at hg
    split at hg
    · cases hg
    · next hne =>
      simp only [mapFind, eq1]
      rw [show decide (x = n) = false by simpa using hne]
      exact h5.find_none hg (i + 1)
/-- A name that a node has: where it lies; what becomes of the others where it is laid anew, or goes. -/
theorem FKV.find_some {σ : Store} {x : Tx} {v : Bool × Fo} : ∀ {F : Fo} {kv : List (AV × AV)} {fp : List Nat}, FKV σ F kv fp → F.get x = some v → ∀ i, ∃ j id fp1, mapFind 1 (.str x) kv i = some (some (i + j, .ptr id 0)) ∧ NA σ id [] v.1 v.2 fp1 ∧ (∀ a ∈ fp1, a ∈ fp) ∧ (fp.Nodup → fp1.Nodup) ∧
    (∀ (σ' : Store) lf' s' fp1', fp.Nodup → (∀ a ∈ fp, a ∉ fp1 → σ'[a]? = σ[a]?) → NA σ' id [] lf' s' fp1' → fp1'.Nodup → (∀ a ∈ fp1', a ∈ fp1 ∨ a ∉ fp) → ∃ fp', FKV σ' (F.put x lf' s') kv fp' ∧ fp'.Nodup ∧ ∀ a ∈ fp', a ∈ fp1' ∨ a ∈ fp) ∧
    (∀ (σ' : Store), fp.Nodup → (∀ a ∈ fp, a ∉ fp1 → σ'[a]? = σ[a]?) → ∃ fp', FKV σ' (F.del x) (kv.eraseIdx j) fp' ∧ fp'.Nodup ∧ ∀ a ∈ fp', a ∈ fp ∧ a ∉ fp1)
  | .nil, kv, fp, h, hg, i => by simp [Fo.get] at hg
  | .cons n lf s r, kv, fp, h, hg, i => by
    obtain ⟨id, kv', fp1, fp2, rfl, rfl, h3, h5⟩ := FKV_cons.1 h
    simp only [Fo.get] at hg
    by_cases hne : x = n
    · subst hne
      simp only [if_true] at hg
      cases hg
      refine ⟨0, id, fp1, by simp [mapFind, eq1], h3, fun a ha => by simp [ha], fun hn => (List.nodup_append.1 hn).1, ?_, ?_⟩
      · intro σ' lf' s' fp1' hn hc hN hn1 hd
        obtain ⟨k1, k2, k3⟩ := List.nodup_append.1 hn
        refine ⟨fp1' ++ fp2, ?_, ?_, ?_⟩
        · simp only [Fo.put, if_true]
          exact FKV_cons.2 ⟨id, kv', fp1', fp2, rfl, rfl, hN, h5.congr fun a ha => hc a (by simp [ha]) fun hx => k3 a hx a ha rfl⟩
        · refine List.nodup_append.2 ⟨hn1, k2, fun a ha b hb e => ?_⟩
          subst e
          rcases hd a ha with h | h
          · exact k3 a h a hb rfl
          · exact h (by simp [hb])
        · intro a ha
          rcases List.mem_append.1 ha with h | h
          · exact .inl h
          · exact .inr (by simp [h])
      · intro σ' hn hc
        obtain ⟨k1, k2, k3⟩ := List.nodup_append.1 hn
        refine ⟨fp2, ?_, k2, fun a ha => ⟨by simp [ha], fun hx => k3 a hx a ha rfl⟩⟩
        simp only [Fo.del, if_true, List.eraseIdx_zero, List.tail_cons]
        exact h5.congr fun a ha => hc a (by simp [ha]) fun hx => k3 a hx a ha rfl
    · simp only [hne, if_false] at hg
      obtain ⟨j, id', fq, g1, g2, g3, g4, g5, g6⟩ := h5.find_some hg (i + 1)
      refine ⟨j + 1, id', fq, ?_, g2, fun a ha => by simp [g3 a ha], fun hn => g4 (List.nodup_append.1 hn).2.1, ?_, ?_⟩
      · simp only [mapFind, eq1]
        rw [show decide (x = n) = false by simpa using hne]
        rw [← Nat.add_assoc, Nat.add_right_comm]
        exact g1
      · intro σ' lf' s' fp1' hn hc hN hn1 hd
        obtain ⟨k1, k2, k3⟩ := List.nodup_append.1 hn
        obtain ⟨fp', q1, q2, q3⟩ := g5 σ' lf' s' fp1' k2 (fun a ha hx => hc a (by simp [ha]) hx) hN hn1 (fun a ha => (hd a ha).imp _root_.id fun h hx => h (by simp [hx]))
        refine ⟨fp1 ++ fp', ?_, ?_, ?_⟩
        · simp only [Fo.put, hne, if_false]
          exact FKV_cons.2 ⟨id, kv', fp1, fp', rfl, rfl, h3.congr fun a ha => hc a (by simp [ha]) fun hx => k3 a ha a (g3 a hx) rfl, q1⟩
        · refine List.nodup_append.2 ⟨k1, q2, fun a ha b hb e => ?_⟩
          subst e
          rcases q3 a hb with h | h
          · rcases hd a h with h2 | h2
            · exact k3 a ha a (g3 a h2) rfl
            · exact h2 (by simp [ha])
          · exact k3 a ha a h rfl
        · intro a ha
          rcases List.mem_append.1 ha with h | h
          · exact .inr (by simp [h])
          · exact (q3 a h).imp _root_.id fun h => by simp [h]
      · intro σ' hn hc
        obtain ⟨k1, k2, k3⟩ := List.nodup_append.1 hn
        obtain ⟨fp', q1, q2, q3⟩ := g6 σ' k2 (fun a ha hx => hc a (by simp [ha]) hx)
        refine ⟨fp1 ++ fp', ?_, ?_, ?_⟩
        · simp only [Fo.del, hne, if_false, List.eraseIdx_cons_succ]
          exact FKV_cons.2 ⟨id, _, fp1, fp', rfl, rfl, h3.congr fun a ha => hc a (by simp [ha]) fun hx => k3 a ha a (g3 a hx) rfl, q1⟩
        · refine List.nodup_append.2 ⟨k1, q2, fun a ha b hb e => ?_⟩
          subst e
          exact k3 a ha a (q3 a hb).1 rfl
        · intro a ha
          rcases List.mem_append.1 ha with h | h
          · exact ⟨by simp [h], fun hx => k3 a h a (g3 a hx) rfl⟩
          · exact ⟨by simp [(q3 a h).1], (q3 a h).2⟩
/-- A new node behind the others. -/
theorem FKV.new {σ : Store} {x : Tx} {lf : Bool} {s : Fo} {id : Nat} {fq : List Nat} (hN : NA σ id [] lf s fq) : ∀ {F : Fo} {kv : List (AV × AV)} {fp : List Nat}, FKV σ F kv fp → F.get x = none → FKV σ (F.put x lf s) (kv ++ [(.str x, .ptr id 0)]) (fp ++ fq)
  | .nil, kv, fp, h, _ => by
    obtain ⟨rfl, rfl⟩ := h
    simp only [Fo.put, List.nil_append]
    exact FKV_cons.2 ⟨id, [], fq, [], rfl, by simp, hN, rfl, rfl⟩
  | .cons n l0 s0 r, kv, fp, h, hg => by
    obtain ⟨id0, kv', fp1, fp2, rfl, rfl, h3, h5⟩ := FKV_cons.1 h
    simp only [Fo.get] at hg
    split at hg
    · cases hg
    · next hne =>
      simp only [Fo.put, hne, if_false]
      refine FKV_cons.2 ⟨id0, kv' ++ [(.str x, .ptr id 0)], fp1, fp2 ++ fq, rfl, by simp, h3, FKV.new hN h5 hg⟩
theorem put_put {x : Tx} {l0 l1 : Bool} {s0 s1 : Fo} : ∀ {F : Fo}, (F.put x l0 s0).put x l1 s1 = F.put x l1 s1
  | .nil => by simp [Fo.put]
  | .cons n lf s r => by
    simp only [Fo.put]
    by_cases h : x = n
    · simp [h, Fo.put]
    · simp only [h, if_false, Fo.put]
      rw [put_put]
theorem get_put {x : Tx} {l0 : Bool} {s0 : Fo} : ∀ {F : Fo}, (F.put x l0 s0).get x = some (l0, s0)
  | .nil => by simp [Fo.put, Fo.get]
  | .cons n lf s r => by
    simp only [Fo.put]
    by_cases h : x = n
    · simp [h, Fo.get]
    · simp only [h, if_false, Fo.get]
      exact get_put
def Fo.toL : Fo → List (Tx × Bool × Fo)
  | .nil => []
  | .cons n lf s r => (n, lf, s) :: Fo.toL r
theorem lv_toL : ∀ (F : Fo), lv F = (Fo.toL F).flatMap fun x => (lvN x.2.1 x.2.2).map (x.1 :: ·)
  | .nil => rfl
  | .cons n lf s r => by simp [lv, Fo.toL, lvN, lv_toL r]
theorem hitF_toL (p : Tx → Bool) (g : Bool → Fo → List (List Tx × Bool × Bool)) : ∀ (F : Fo), hitF p g F = (Fo.toL F).flatMap fun x => if p x.1 then (g x.2.1 x.2.2).map (fun y => (x.1 :: y.1, y.2)) else []
  | .nil => rfl
  | .cons n lf s r => by simp [hitF, Fo.toL, hitF_toL p g r]
theorem toL_size {F : Fo} {x : Tx × Bool × Fo} (h : x ∈ Fo.toL F) : SizeOf.sizeOf x.2.2 < SizeOf.sizeOf F := by
  induction F with
  | nil => cases h
  | cons n lf s r _ ih =>
    simp only [Fo.toL, List.mem_cons] at h
    rcases h with rfl | h
    · simp; omega
    · have := ih h
      simp; omega
theorem FKV.nth {σ : Store} : ∀ {F : Fo} {kv : List (AV × AV)} {fp : List Nat}, FKV σ F kv fp → kv.length = (Fo.toL F).length ∧ ∀ (j : Nat) (y : AV × AV), kv[j]? = some y → ∃ (x : Tx × Bool × Fo) (id : Nat) (fp1 : List Nat), (Fo.toL F)[j]? = some x ∧ y = (AV.str x.1, AV.ptr id 0) ∧ NA σ id [] x.2.1 x.2.2 fp1 ∧ ∀ a ∈ fp1, a ∈ fp
  | .nil, kv, fp, h => by rw [h.1]; exact ⟨rfl, fun j y hy => by simp at hy⟩
  | .cons n lf s r, kv, fp, h => by
    obtain ⟨id, kv', fp1, fp2, rfl, rfl, h3, h5⟩ := FKV_cons.1 h
    obtain ⟨g1, g2⟩ := h5.nth
    refine ⟨by simp [Fo.toL, g1], fun j y hy => ?_⟩
    cases j with
    | zero =>
      simp at hy; subst hy
      exact ⟨(n, lf, s), id, fp1, by simp [Fo.toL], rfl, h3, fun a ha => by simp [ha]⟩
    | succ j =>
      simp only [List.getElem?_cons_succ] at hy
      obtain ⟨x, id', fq, q1, q2, q3, q4⟩ := g2 j y hy
      exact ⟨x, id', fq, by simpa [Fo.toL] using q1, q2, q3, fun a ha => by simp [q4 a ha]⟩
end Go.Abs
end
section
set_option maxHeartbeats 4000000
namespace Go.Abs
open Go.Trie
theorem NA.look {σ : Store} {id : Nat} {rest : List AV} {lf : Bool} {F : Fo} {fp : List Nat} (h : NA σ id rest lf F fp) : ∃ t k, σ[id]? = some (.var t (k :: .bool lf :: rest)) ∧ ∃ kv, mapView σ k = some kv ∧ (kv.length = 0 ↔ F.isNil = true) ∧
    ∀ s : Tx, (F.get s = none → lookStep 1 .nilp false (.str s) kv = some .nilp) ∧ ∀ w, F.get s = some w → ∃ id2 fp2, lookStep 1 .nilp false (.str s) kv = some (.ptr id2 0) ∧ NA σ id2 [] w.1 w.2 fp2 := by
  obtain ⟨t, k, fp', h1, h2, rfl⟩ := h
  refine ⟨t, k, h1, ?_⟩
  rcases h2 with ⟨rfl, rfl, rfl⟩ | ⟨m, kv, fp1, rfl, h3, rfl, h4⟩
  · exact ⟨[], rfl, by simp [Fo.isNil], fun s => ⟨fun _ => rfl, fun w hw => by simp [Fo.get] at hw⟩⟩
  · refine ⟨kv, by simp [mapView, h3], h4.len, fun s => ⟨fun hg => by simp [lookStep, h4.find_none hg 0], fun w hw => ?_⟩⟩
    obtain ⟨j, id2, fp2, g1, g2, _⟩ := h4.find_some hw 0
    exact ⟨id2, fp2, by simp [lookStep, g1], g2⟩
end Go.Abs
namespace Go.Proofs.YtjpjmdjjgfllhaaGreatDoor
open Go.Abs Go.Glob Go.Trail Go.Trie
variable {G : Globs}
theorem tfind_ok {σ : Store} {id : Nat} {rest : List AV} {lf : Bool} {F : Fo} {fp : List Nat} (h : NA σ id rest lf F fp) (ns : List Tx) (hl : ns.length ≤ 1000) : ACalls Tryz.prog n_trie_Trie_find [.ptr id 0, .lst (strEls ns)] σ (fun r σ' => σ' = σ ∧ ((getN lf F ns = none ∧ r = .nilp) ∨ ∃ id' rest' v fp', getN lf F ns = some v ∧ r = .ptr id' 0 ∧ NA σ id' rest' v.1 v.2 fp')) := by
  refine acalls_of_awp_e hmix c_trie_Trie_find rfl ?_
  have e1 : (strEls ns).length = ns.length := by simp [strEls]
  simp [a_trie_Trie_find, e1]
  refine lp_startx (fun x f σ' => ∃ (i id' : Nat) (rest' : List AV) (v : Bool × Fo) (fp' : List Nat), x = ns.length - i ∧ i ≤ ns.length ∧ getN lf F (ns.take i) = some v ∧ NA σ id' rest' v.1 v.2 fp' ∧ f 5 = .ptr id' 0 ∧ f 13 = .lst (strEls ns) ∧ f 14 = .int .i64 ns.length ∧ f 15 = .int .i64 i ∧ σ' = σ) ns.length ⟨0, id, rest, (lf, F), fp, by simp, by simp, by simp [getN], h, by simp, by simp, by simp, by simp, rfl⟩ ?_
  rintro x f σ' ⟨i, id', rest', v, fp', hx, hi, hg, hN, h5, h13, h14, h15, rfl⟩
  by_cases hlt : i < ns.length
  · obtain ⟨s, hs⟩ : ∃ s, ns[i]? = some s := ⟨_, List.getElem?_eq_getElem hlt⟩
    have hse : (strEls ns)[i]? = some [.str s] := by simp [strEls, hs]
    obtain ⟨hx1, hx2⟩ := List.getElem?_eq_some_iff.1 hse
    have hlt' : (i : Int) < (ns.length : Int) := by omega
    have hwi : IntKind.i64.wrap ((i : Int) + 1) = (i : Int) + 1 := wrap_i64 (by omega) (by omega)
    have htk : ns.take (i + 1) = ns.take i ++ [s] := by rw [List.take_add_one, hs]; rfl
    obtain ⟨t, k, hc, kv, hmv, _, hlk⟩ := hN.look
    obtain ⟨hl1, hl2⟩ := hlk s
    cases hw : v.2.get s with
    | none =>
      have hls := hl1 hw
      simp [-mapView, -lookStep, h5, h13, h14, h15, hlt, hlt', hse, hx2, cellsAt, hc, hmv, hls]
      refine er_intro σ' .nilp (by simp [retAt, evalRes, tupOf]) [] (by simp) rfl (fun _ _ h => .inl h) ⟨rfl, .inl ⟨?_, rfl⟩⟩
      have e : ns = ns.take (i + 1) ++ ns.drop (i + 1) := (List.take_append_drop _ _).symm
      rw [e, getN_app, htk, getN_app, hg]
      simp [getN, hw]
    | some w =>
      obtain ⟨id2, fp2, hls, hN2⟩ := hl2 w hw
      simp [-mapView, -lookStep, h5, h13, h14, h15, hlt, hlt', hse, hx2, cellsAt, hc, hmv, hls, hwi]
      refine nx_intro (ns.length - (i + 1)) (by omega) ⟨i + 1, id2, [], w, fp2, rfl, by omega, ?_, hN2, by simp, by simp [h13], by simp [h14], by simp, rfl⟩
      rw [htk, getN_app, hg]
      simp [getN, hw]
  · have hlt' : ¬ (i : Int) < (ns.length : Int) := by omega
    rw [List.take_of_length_le (by omega)] at hg
    obtain ⟨t, k, hc, _⟩ := hN.look
    have hil : id' < σ'.length := (List.getElem?_eq_some_iff.1 hc).1
    simp [h5, h13, h14, h15, hlt, hlt']
    exact er_intro σ' (.ptr id' 0) (by simp [retAt, evalRes, tupOf, h5, hil]) [] (by simp) rfl (fun _ _ h => .inl h) ⟨rfl, .inr ⟨id', rest', v, fp', hg, rfl, hN⟩⟩
def hasT (lf : Bool) (F : Fo) (p : Tx) : Bool := match path p with
  | some ns => hasN lf F ns
  | none => false
theorem thas_ok {σ : Store} {id : Nat} {rest : List AV} {lf : Bool} {F : Fo} {fp : List Nat} (h : NA σ id rest lf F fp) (p : Tx) (hp : p.length ≤ 1000000000000000000) : ACalls Tryz.prog n_trie_Trie_Has [.ptr id 0, .str p] σ (fun r σ' => σ' = σ ∧ r = .bool (hasT lf F p)) := by
  refine acalls_of_awp_e hmix c_trie_Trie_Has rfl ?_
  simp [a_trie_Trie_Has]
  refine ac_same (split_ok p hp) (by simp) ?_
  rintro r rfl
  cases hpp : path p with
  | none =>
    simp [pathAV]
    exact er_intro σ (.bool false) (by simp [retAt, evalRes, tupOf]) [] (by simp) rfl (fun _ _ h => .inl h) ⟨rfl, by simp [hasT, hpp]⟩
  | some ns =>
    simp [pathAV]
    refine ac_eff (tfind_ok h ns (by have := (path_props hpp).2.2.1; omega)) ?_
    rintro r σ' ⟨rfl, ⟨hg, rfl⟩ | ⟨id', rest', v, fp', hg, rfl, hN⟩⟩
    · simp
      exact er_intro σ' (.bool false) (by simp [retAt, evalRes, tupOf]) [] (by simp) rfl (fun _ _ h => .inl h) ⟨rfl, by simp [hasT, hpp, hasN, hg]⟩
    · obtain ⟨t, k, hc, _⟩ := hN.look
      simp [cellsAt, hc]
      exact er_intro σ' (.bool v.1) (by simp [retAt, evalRes, tupOf]) [] (by simp) rfl (fun _ _ h => .inl h) ⟨rfl, by simp [hasT, hpp, hasN, hg]⟩
theorem tlen_ok {σ : Store} {id : Nat} {n : Int} {lf : Bool} {F : Fo} {fp : List Nat} (h : NA σ id [.int .i64 n] lf F fp) : ACalls Tryz.prog n_trie_Trie_Len [.ptr id 0] σ (fun r σ' => σ' = σ ∧ r = .int .i64 n) := by
  refine acalls_of_awp_e hmix c_trie_Trie_Len rfl ?_
  obtain ⟨t, k, hc, _⟩ := h.look
  simp [a_trie_Trie_Len, cellsAt, hc]
  exact er_intro σ (.int .i64 n) (by simp [retAt, evalRes, tupOf]) [] (by simp) rfl (fun _ _ h => .inl h) ⟨rfl, rfl⟩
theorem tnew_ok {σ : Store} : ACalls Tryz.prog n_trie_New [] σ (fun r σ' => r = .ptr σ.length 0 ∧ σ' = σ ++ [.var 58 [.nilm, .bool false, .int .i64 0]]) := by
  refine acalls_of_awp_e hmix c_trie_New rfl ?_
  simp [a_trie_New, lay, splice]
  refine er_keep (σ ++ [.var 58 [.nilm, .bool false, .int .i64 0]]) (.ptr σ.length 0) (by simp [evalRes, tupOf]) [] (by simp) (by simp) (by simp [AV.under]) (fun i e he => ?_) ⟨rfl, rfl⟩
  by_cases hi : i < σ.length
  · rw [List.getElem?_append_left hi] at he; exact .inl he
  · rw [List.getElem?_append_right (by omega)] at he
    have := List.mem_of_getElem? he
    simp at this; subst this
    right; simp [Entry.under, AV.under]
end Go.Proofs.YtjpjmdjjgfllhaaGreatDoor
end
section
set_option maxHeartbeats 4000000
namespace Go.Abs
open Go.Trie
/-- What is beneath a node may be laid anew: the root is then laid anew. -/
def InsW (fp0 : List Nat) (n0 root : Nat) (restR : List AV) (σ : Store) (id : Nat) (rest : List AV) (fp : List Nat) (Gp : Bool → Fo → Bool × Fo) : Prop :=
  ∀ (σ2 : Store) (lf2 : Bool) (F2 : Fo) (fp2 : List Nat), σ.length ≤ σ2.length → (∀ a, a < σ.length → a ∉ fp → σ2[a]? = σ[a]?) → NA σ2 id rest lf2 F2 fp2 → fp2.Nodup → (∀ a ∈ fp2, a ∈ fp ∨ σ.length ≤ a) →
    ∃ fp3, NA σ2 root restR (Gp lf2 F2).1 (Gp lf2 F2).2 fp3 ∧ fp3.Nodup ∧ ∀ a ∈ fp3, a ∈ fp0 ∨ n0 ≤ a
variable {fp0 : List Nat} {n0 root : Nat} {restR : List AV} {σ : Store} {id : Nat} {rest : List AV} {fp : List Nat} {Gp : Bool → Fo → Bool × Fo}
theorem InsW.start (σ : Store) (id : Nat) (rest : List AV) (fp : List Nat) : InsW fp σ.length id rest σ id rest fp (fun l F => (l, F)) := fun σ2 lf2 F2 fp2 _ _ h hn hd => ⟨fp2, h, hn, hd⟩
theorem InsW.move (h : InsW fp0 n0 root restR σ id rest fp Gp) {σ1 : Store} {fp1 : List Nat} (hl : σ.length ≤ σ1.length) (hs : ∀ a, a < σ.length → a ∉ fp → σ1[a]? = σ[a]?) (hf : ∀ a ∈ fp1, a ∈ fp ∨ σ.length ≤ a) : InsW fp0 n0 root restR σ1 id rest fp1 Gp :=
  fun σ2 lf2 F2 fp2 h1 h2 h3 h4 h5 => h σ2 lf2 F2 fp2 (Nat.le_trans hl h1) (fun a ha hna => (h2 a (by omega) (fun hx => (hf a hx).elim hna (fun h => by omega))).trans (hs a ha hna)) h3 h4 (fun a ha => (h5 a ha).elim (fun h => hf a h) (fun h => .inr (by omega)))
theorem InsW.down (h : InsW fp0 n0 root restR σ id rest fp Gp) {t : TypeId} {m : Nat} {lf : Bool} {kv : List (AV × AV)} {F : Fo} {fpk : List Nat} {s : Tx} {w : Bool × Fo} (h1 : σ[id]? = some (.var t (.map m :: .bool lf :: rest))) (h2 : σ[m]? = some (.mp kv)) (h3 : FKV σ F kv fpk) (hfp : fp = id :: m :: fpk) (hn : fp.Nodup) (hg : F.get s = some w) :
    ∃ id2 fp2, lookStep 1 .nilp false (.str s) kv = some (.ptr id2 0) ∧ NA σ id2 [] w.1 w.2 fp2 ∧ fp2.Nodup ∧ (∀ a ∈ fp2, a ∈ fp) ∧ InsW fp0 n0 root restR σ id2 [] fp2 (fun l F' => Gp lf (F.put s l F')) := by
  subst hfp
  obtain ⟨j, id2, fp2, g1, g2, g3, g4, g5, -⟩ := h3.find_some hg 0
  simp only [List.nodup_cons, List.mem_cons, not_or] at hn
  obtain ⟨⟨n1, n2⟩, n3, n4⟩ := hn
  have hidlt : id < σ.length := (List.getElem?_eq_some_iff.1 h1).1
  have hmlt : m < σ.length := (List.getElem?_eq_some_iff.1 h2).1
  refine ⟨id2, fp2, by simp [lookStep, g1], g2, g4 n4, fun a ha => by simp [g3 a ha], fun σ2 lf2 F2 fpx k1 k2 k3 k4 k5 => ?_⟩
  have hold : ∀ a, a < σ.length → a ∉ fpk → a ∉ fpx := fun a hl ha hx => (k5 a hx).elim (fun h => ha (g3 a h)) (fun h => by omega)
  obtain ⟨fpy, q1, q2, q3⟩ := g5 σ2 lf2 F2 fpx n4 (fun a ha hna => k2 a (h3.lt a ha) hna) k3 k4 (fun a ha => (k5 a ha).imp _root_.id fun h hx => by have := h3.lt a hx; omega)
  have hny : ∀ a, a < σ.length → a ∉ fpk → a ∉ fpy := fun a hl ha hx => (q3 a hx).elim (hold a hl ha) ha
  refine h σ2 lf (F.put s lf2 F2) (id :: m :: fpy) k1 (fun a hl ha => ?_) ?_ ?_ ?_
  · simp only [List.mem_cons, not_or] at ha
    exact k2 a hl fun hx => ha.2.2 (g3 a hx)
  · refine ⟨t, .map m, m :: fpy, (k2 id hidlt fun hx => n2 (g3 _ hx)).trans h1, .inr ⟨m, kv, fpy, rfl, (k2 m hmlt fun hx => n3 (g3 _ hx)).trans h2, rfl, q1⟩, rfl⟩
  · simp only [List.nodup_cons, List.mem_cons, not_or]
    exact ⟨⟨n1, hny id hidlt n2⟩, hny m hmlt n3, q2⟩
  · intro a ha
    simp only [List.mem_cons] at ha ⊢
    rcases ha with rfl | rfl | ha
    · exact .inl (.inl rfl)
    · exact .inl (.inr (.inl rfl))
    · rcases q3 a ha with h | h
      · rcases k5 a h with h | h
        · exact .inl (.inr (.inr (g3 a h)))
        · exact .inr h
      · exact .inl (.inr (.inr h))
theorem noItr_iff : noItr σ = true ↔ ∀ e ∈ σ, e.isItr = false := by simp [noItr]
theorem noItr_app {e : Entry} (h : noItr σ = true) (he : e.isItr = false) : noItr (σ ++ [e]) = true := by
  rw [noItr_iff] at *
  intro x hx
  rcases List.mem_append.1 hx with hx | hx
  · exact h x hx
  · simp at hx; subst hx; exact he
theorem noItr_set {e : Entry} {i : Nat} (h : noItr σ = true) (he : e.isItr = false) : noItr (σ.set i e) = true := by
  rw [noItr_iff] at *
  intro x hx
  rcases List.mem_or_eq_of_mem_set hx with hx | rfl
  · exact h x hx
  · exact he
theorem get_app {e x : Entry} {i : Nat} (h : σ[i]? = some e) : (σ ++ [x])[i]? = some e := by
  rw [List.getElem?_append_left (List.getElem?_eq_some_iff.1 h).1]; exact h
/-- The entries of a store that a node's own map is given: ready for a name. -/
structure Ready (σ0 : Store) (fp0 : List Nat) (σ : Store) (id : Nat) (rest : List AV) (lf : Bool) (F : Fo) (fp : List Nat) : Prop where
  na : NA σ id rest lf F fp
  nd : fp.Nodup
  it : noItr σ = true
  kept : Kept σ0 σ
  off : ∀ a, a < σ0.length → a ∉ fp0 → σ[a]? = σ0[a]?
  sub : ∀ a ∈ fp, a ∈ fp0 ∨ σ0.length ≤ a
theorem set_off {i a : Nat} {e : Entry} (h : i ≠ a) : (σ.set i e)[a]? = σ[a]? := List.getElem?_set_ne h
theorem app_off {a : Nat} {e : Entry} (h : a < σ.length) : (σ ++ [e])[a]? = σ[a]? := List.getElem?_append_left h
/-- A node without a map is given one. -/
theorem ready_map {σ0 : Store} {F : Fo} {lf : Bool} {t : TypeId} (h : Ready σ0 fp0 σ id rest lf F fp) (hW : InsW fp0 n0 root restR σ id rest fp Gp) (h1 : σ[id]? = some (.var t (.nilm :: .bool lf :: rest))) (hr : ∀ x ∈ rest, x.pure = true) :
    ∃ σ1 : Store, σ1 = (σ ++ [Entry.mp []]).set id (.var t (.map σ.length :: .bool lf :: rest)) ∧ F = .nil ∧ σ1[id]? = some (.var t (.map σ.length :: .bool lf :: rest)) ∧ σ1[σ.length]? = some (.mp []) ∧ Ready σ0 fp0 σ1 id rest lf .nil [id, σ.length] ∧ InsW fp0 n0 root restR σ1 id rest [id, σ.length] Gp := by
  refine ⟨_, rfl, ?_⟩
  obtain ⟨t', k, fp', g1, g2, rfl⟩ := h.na
  rw [h1] at g1
  simp only [Option.some.injEq, Entry.var.injEq, List.cons.injEq] at g1
  obtain ⟨-, rfl, -⟩ := g1
  have hF : F = .nil := by
    rcases g2 with ⟨_, rfl, _⟩ | ⟨m, _, _, hk, _⟩
    · rfl
    · cases hk
  subst hF
  have hlt : id < σ.length := (List.getElem?_eq_some_iff.1 h1).1
  have hne : id ≠ σ.length := by omega
  have a1 : ((σ ++ [Entry.mp []]).set id (.var t (.map σ.length :: .bool lf :: rest)))[id]? = some (.var t (.map σ.length :: .bool lf :: rest)) := List.getElem?_set_self (by simp; omega)
  have a2 : ((σ ++ [Entry.mp []]).set id (.var t (.map σ.length :: .bool lf :: rest)))[σ.length]? = some (.mp []) := by rw [set_off hne]; simp
  have hoff : ∀ a, a < σ.length → a ∉ (id :: fp') → ((σ ++ [Entry.mp []]).set id (.var t (.map σ.length :: .bool lf :: rest)))[a]? = σ[a]? := fun a ha hna => by
    rw [set_off (fun e => hna (by simp [e])), app_off ha]
  have hsub : ∀ a ∈ [id, σ.length], a ∈ id :: fp' ∨ σ.length ≤ a := fun a ha => by
    simp only [List.mem_cons, List.not_mem_nil, or_false] at ha
    rcases ha with rfl | rfl
    · exact .inl (by simp)
    · exact .inr (Nat.le_refl _)
  refine ⟨rfl, a1, a2, ⟨⟨t, .map σ.length, [σ.length], a1, .inr ⟨σ.length, [], [], rfl, a2, rfl, rfl, rfl⟩, rfl⟩, by simp [hne], noItr_set (noItr_app h.it rfl) rfl, ?_, ?_, ?_⟩, hW.move (by simp) hoff hsub⟩
  · refine Kept.set (Kept.app h.kept (by simp [Entry.under])) id ?_
    simp only [Entry.under, List.all_cons, Bool.and_eq_true, List.all_eq_true]
    exact ⟨by simp [AV.under], by simp [AV.under], fun x hx => pure_under' (hr x hx) _⟩
  · intro a ha hna
    by_cases e : a = id
    · subst e
      exact ((h.sub a (by simp)).elim hna (fun h => by omega)).elim
    · rw [set_off (fun e2 => e e2.symm), app_off (Nat.lt_of_lt_of_le ha h.kept.len)]
      exact h.off a ha hna
  · intro a ha
    rcases hsub a ha with h2 | h2
    · exact h.sub a h2
    · exact .inr (Nat.le_trans h.kept.len h2)
/-- A node's map is given a new name. -/
theorem ready_new {σ0 : Store} {F : Fo} {lf : Bool} {t tn : TypeId} {m : Nat} {kv : List (AV × AV)} {fpk : List Nat} {s : Tx} (h : Ready σ0 fp0 σ id rest lf F fp) (hW : InsW fp0 n0 root restR σ id rest fp Gp) (h1 : σ[id]? = some (.var t (.map m :: .bool lf :: rest))) (h2 : σ[m]? = some (.mp kv)) (h3 : FKV σ F kv fpk) (hfp : fp = id :: m :: fpk) (hg : F.get s = none) :
    ∃ σ1 : Store, σ1 = (σ ++ [Entry.var tn [.nilm, .bool false]]).set m (.mp (kv ++ [(AV.str s, AV.ptr σ.length 0)])) ∧ σ1[id]? = some (.var t (.map m :: .bool lf :: rest)) ∧ σ1[m]? = some (.mp (kv ++ [(AV.str s, AV.ptr σ.length 0)])) ∧ FKV σ1 (F.put s false .nil) (kv ++ [(AV.str s, AV.ptr σ.length 0)]) (fpk ++ [σ.length]) ∧
      Ready σ0 fp0 σ1 id rest lf (F.put s false .nil) (id :: m :: (fpk ++ [σ.length])) ∧ InsW fp0 n0 root restR σ1 id rest (id :: m :: (fpk ++ [σ.length])) Gp := by
  refine ⟨_, rfl, ?_⟩
  subst hfp
  have hlt : id < σ.length := (List.getElem?_eq_some_iff.1 h1).1
  have hmlt : m < σ.length := (List.getElem?_eq_some_iff.1 h2).1
  have hn := h.nd
  simp only [List.nodup_cons, List.mem_cons, not_or] at hn
  obtain ⟨⟨n1, n2⟩, n3, n4⟩ := hn
  obtain ⟨σ1, hσ1⟩ : ∃ σ1, σ1 = (σ ++ [Entry.var tn [.nilm, .bool false]]).set m (.mp (kv ++ [(AV.str s, AV.ptr σ.length 0)])) := ⟨_, rfl⟩
  rw [← hσ1]
  have hl1 : σ1.length = σ.length + 1 := by rw [hσ1]; simp
  have hold : ∀ a, a < σ.length → a ≠ m → σ1[a]? = σ[a]? := fun a ha hne => by rw [hσ1, set_off (Ne.symm hne), app_off ha]
  have a1 : σ1[id]? = some (.var t (.map m :: .bool lf :: rest)) := (hold id hlt n1).trans h1
  have a2 : σ1[m]? = some (.mp (kv ++ [(AV.str s, AV.ptr σ.length 0)])) := by rw [hσ1]; exact List.getElem?_set_self (by simp; omega)
  have a3 : σ1[σ.length]? = some (.var tn [.nilm, .bool false]) := by rw [hσ1, set_off (by omega)]; simp
  have a4 : FKV σ1 F kv fpk := h3.congr fun a ha => hold a (h3.lt a ha) (fun e => n3 (e ▸ ha))
  have a5 : FKV σ1 (F.put s false .nil) (kv ++ [(AV.str s, AV.ptr σ.length 0)]) (fpk ++ [σ.length]) := FKV.new ⟨tn, .nilm, [], a3, .inl ⟨rfl, rfl, rfl⟩, rfl⟩ a4 hg
  have hsub : ∀ a ∈ id :: m :: (fpk ++ [σ.length]), a ∈ id :: m :: fpk ∨ σ.length ≤ a := fun a ha => by
    simp only [List.mem_cons, List.mem_append, List.not_mem_nil, or_false] at ha ⊢
    rcases ha with rfl | rfl | ha | rfl
    · exact .inl (.inl rfl)
    · exact .inl (.inr (.inl rfl))
    · exact .inl (.inr (.inr ha))
    · exact .inr (Nat.le_refl _)
  refine ⟨a1, a2, a5, ⟨⟨t, .map m, m :: (fpk ++ [σ.length]), a1, .inr ⟨m, _, _, rfl, a2, rfl, a5⟩, rfl⟩, ?_, by rw [hσ1]; exact noItr_set (noItr_app h.it rfl) rfl, ?_, ?_, ?_⟩, ?_⟩
  · simp only [List.nodup_cons, List.mem_cons, List.mem_append, not_or, List.not_mem_nil, not_false_eq_true, and_true]
    refine ⟨⟨n1, n2, by omega⟩, ⟨n3, by omega⟩, List.nodup_append.2 ⟨n4, by simp, fun a ha b hb e => ?_⟩⟩
    simp at hb; subst hb; subst e
    have := h3.lt _ ha; omega
  · rw [hσ1]
    refine Kept.set (Kept.app h.kept (by simp [Entry.under, AV.under])) m ?_
    have hu := h3.under
    have hu2 := eunder_le (Nat.le_succ σ.length) _ hu
    simp only [Entry.under, List.all_append, Bool.and_eq_true, List.length_append, List.length_cons, List.length_nil] at hu2 ⊢
    exact ⟨hu2, by simp [AV.under]⟩
  · intro a ha hna
    have hal : a < σ.length := Nat.lt_of_lt_of_le ha h.kept.len
    rw [hold a hal (fun e => by subst e; exact ((h.sub a (by simp)).elim hna (fun h => by omega)).elim)]
    exact h.off a ha hna
  · intro a ha
    rcases hsub a ha with h4 | h4
    · exact h.sub a h4
    · exact .inr (Nat.le_trans h.kept.len h4)
  · exact hW.move (by omega) (fun a ha hna => hold a ha (fun e => hna (by simp [e]))) hsub
theorem mset_new {m : Nat} {kv : List (AV × AV)} {s : Tx} {v : AV} (h : σ[m]? = some (.mp kv)) (hi : noItr σ = true) (hf : mapFind 1 (.str s) kv 0 = some none) : msetOp σ 1 (.map m) (.str s) v = some (σ.set m (.mp (kv ++ [(.str s, v)]))) := by
  unfold msetOp
  simp only [h, hi, AV.pure, and_self, if_true, mapPut, hf, Option.map_some]
theorem view_map {m : Nat} {kv : List (AV × AV)} (h : σ[m]? = some (.mp kv)) : mapView σ (.map m) = some kv := by simp [mapView, h]
end Go.Abs
namespace Go.Proofs.YtjpjmdjjgfllhaaGreatDoor
open Go.Abs Go.Glob Go.Trail Go.Trie
variable {G : Globs}
/-- What an Insert answers, and how it leaves the store. -/
def InsR (σ : Store) (id n : Nat) (F : Fo) (fp : List Nat) (p : Tx) (r : AV) (σ' : Store) : Prop := match path p with
  | none => r = .int .i64 13 ∧ σ' = σ
  | some ns => if hasN false F ns = true then r = .int .i64 5 ∧ σ' = σ else if 64 ≤ n then r = .int .i64 11 ∧ σ' = σ else
      r = .int .i64 0 ∧ ∃ fp', NA σ' id [.int .i64 (n + 1 : Nat)] false (insN false F ns).2 fp' ∧ fp'.Nodup ∧ noItr σ' = true ∧ Kept σ σ' ∧ (∀ a, a < σ.length → a ∉ fp → σ'[a]? = σ[a]?) ∧ ∀ a ∈ fp', a ∈ fp ∨ σ.length ≤ a
theorem tins_ok {σ : Store} {id n : Nat} {F : Fo} {fp : List Nat} (h : NA σ id [.int .i64 n] false F fp) (hn : fp.Nodup) (hit : noItr σ = true) (p : Tx) (hp : p.length ≤ 1000000000000000000) : ACalls Tryz.prog n_trie_Trie_Insert [.ptr id 0, .str p] σ (InsR σ id n F fp p) := by
  refine acalls_of_awp_e hmix c_trie_Trie_Insert rfl ?_
  simp [a_trie_Trie_Insert]
  refine ac_same (split_ok p hp) (by simp) ?_
  rintro r rfl
  cases hpp : path p with
  | none =>
    simp [pathAV]
    exact er_intro σ (.int .i64 13) (by simp [retAt, evalRes, tupOf]) [] (by simp) rfl (fun _ _ h => .inl h) (by simp [InsR, hpp])
  | some ns =>
    obtain ⟨q1, q2, q3, q4⟩ := path_props hpp
    simp [pathAV]
    refine ac_eff (thas_ok h p hp) ?_
    rintro r σ' ⟨rfl, rfl⟩
    cases hh : hasN false F ns with
    | true =>
      simp [hasT, hpp, hh]
      exact er_intro σ' (.int .i64 5) (by simp [retAt, evalRes, tupOf]) [] (by simp) rfl (fun _ _ h => .inl h) (by simp [InsR, hpp, hh])
    | false =>
      obtain ⟨t0, k0, hc0, _⟩ := h.look
      by_cases h64 : 64 ≤ n
      · have h64' : (64 : Int) ≤ (n : Int) := by omega
        simp [hasT, hpp, hh, cellsAt, hc0, h64, h64']
        exact er_intro σ' (.int .i64 11) (by simp [retAt, evalRes, tupOf]) [] (by simp) rfl (fun _ _ h => .inl h) (by simp [InsR, hpp, hh, h64])
      · have h64' : ¬ (64 : Int) ≤ (n : Int) := by omega
        have e1 : (strEls ns).length = ns.length := by simp [strEls]
        simp [hasT, hpp, hh, cellsAt, hc0, h64, h64', e1]
        obtain ⟨σ0, hσ0⟩ : ∃ σ0, σ0 = σ' := ⟨_, rfl⟩
        rw [← hσ0] at h hit hc0 ⊢
        clear hσ0
        refine lp_startx (fun x f σ' => ∃ (i id' : Nat) (rest' : List AV) (lf' : Bool) (F' : Fo) (fp' : List Nat) (Gp : Bool → Fo → Bool × Fo), x = ns.length - i ∧ i ≤ ns.length ∧ f 0 = .ptr id 0 ∧ f 7 = .ptr id' 0 ∧ f 34 = .lst (strEls ns) ∧ f 35 = .int .i64 ns.length ∧ f 36 = .int .i64 i ∧
          Ready σ0 fp σ' id' rest' lf' F' fp' ∧ InsW fp σ0.length id [.int .i64 n] σ' id' rest' fp' Gp ∧ (∀ x ∈ rest', x.pure = true) ∧ Gp (insN lf' F' (ns.drop i)).1 (insN lf' F' (ns.drop i)).2 = insN false F ns) ns.length ⟨0, id, [.int .i64 n], false, F, fp, _, by simp, by simp, by simp, by simp, by simp, by simp, by simp, ⟨h, hn, hit, Kept.refl _, fun _ _ _ => rfl, fun _ h => .inl h⟩, InsW.start _ _ _ _, by simp [AV.pure], by simp⟩ ?_
        rintro x f σ' ⟨i, id', rest', lf', F', fp', Gp, hx, hi, f0, f7, f34, f35, f36, hR, hW, hr, hG⟩
        by_cases hlt : i < ns.length
        · obtain ⟨s, hs⟩ : ∃ s, ns[i]? = some s := ⟨_, List.getElem?_eq_getElem hlt⟩
          have hse : (strEls ns)[i]? = some [.str s] := by simp [strEls, hs]
          obtain ⟨hx1, hx2⟩ := List.getElem?_eq_some_iff.1 hse
          have hlt' : (i : Int) < (ns.length : Int) := by omega
          have hwi : IntKind.i64.wrap ((i : Int) + 1) = (i : Int) + 1 := wrap_i64 (by omega) (by omega)
          rw [drop_cons hs] at hG
          -- what stands behind: the node's map is there
          have tail : ∀ (σ1 : Store) (t : TypeId) (m : Nat) (kv : List (AV × AV)) (F1 : Fo) (fpk : List Nat), σ1[id']? = some (.var t (.map m :: .bool lf' :: rest')) → σ1[m]? = some (.mp kv) → FKV σ1 F1 kv fpk → Ready σ0 fp σ1 id' rest' lf' F1 (id' :: m :: fpk) → InsW fp σ0.length id [.int .i64 n] σ1 id' rest' (id' :: m :: fpk) Gp → F1.get s = some (sub0 F' s) → (∀ l2 s2, F1.put s l2 s2 = F'.put s l2 s2) →
              ∃ id2 fp2 Gp2, lookStep 1 .nilp false (.str s) kv = some (.ptr id2 0) ∧ Ready σ0 fp σ1 id2 [] (sub0 F' s).1 (sub0 F' s).2 fp2 ∧ InsW fp σ0.length id [.int .i64 n] σ1 id2 [] fp2 Gp2 ∧ Gp2 (insN (sub0 F' s).1 (sub0 F' s).2 (ns.drop (i + 1))).1 (insN (sub0 F' s).1 (sub0 F' s).2 (ns.drop (i + 1))).2 = insN false F ns := by
            intro σ1 t m kv F1 fpk a1 a2 a3 a4 a5 a6 a7
            obtain ⟨id2, fp2, b1, b2, b3, b4, b5⟩ := a5.down a1 a2 a3 rfl a4.nd a6
            refine ⟨id2, fp2, _, b1, ⟨b2, b3, a4.it, a4.kept, a4.off, fun a ha => a4.sub a (b4 a ha)⟩, b5, ?_⟩
            simp only [a7]
            exact hG
          obtain ⟨t, k, fpk0, h1, h2, hfp⟩ := hR.na
          subst hfp
          have hil : id' < σ'.length := (List.getElem?_eq_some_iff.1 h1).1
          rcases h2 with ⟨rfl, hF', -⟩ | ⟨m, kv, fpk, rfl, h3, rfl, h4⟩
          · obtain ⟨σ1, hσ1, -, b1, b2, b3, b4⟩ := ready_map hR hW h1 hr
            subst hF'
            obtain ⟨σ2, hσ2, c1, c2, c3, c4, c5⟩ := ready_new (tn := 56) (s := s) b3 b4 b1 b2 (kv := []) (fpk := []) ⟨rfl, rfl⟩ rfl rfl
            obtain ⟨id2, fp2, Gp2, d1, d2, d3, d4⟩ := tail σ2 _ _ _ _ _ c1 c2 c3 c4 c5 (by simp [Fo.put, Fo.get, sub0]) (fun l2 s2 => by simp [Fo.put])
            have hms := mset_new (v := .ptr σ1.length 0) (get_app (x := .var 56 [.nilm, .bool false]) b2) (noItr_app b3.it rfl) (s := s) rfl
            have hvm1 := view_map b2
            have hvm2 := view_map c2
            have hl0 : lookStep 1 .nilp false (.str s) [] = some .nilp := rfl
            have h1a := get_app (x := .mp []) h1
            have b1a := get_app (x := .var 56 [.nilm, .bool false]) b1
            simp only [List.nil_append] at hms hσ2 hvm2 d1
            rw [← hσ2] at hms
            simp [-mapView, -lookStep, -msetOp, f7, f34, f35, f36, hlt, hlt', hse, hx2, cellsAt, h1, h1a, putAt, splice, ← hσ1, b1, b1a, hvm1, hl0, lay, hms, c1, hvm2, d1, hwi, e1]
            refine nx_intro (ns.length - (i + 1)) (by omega) ⟨i + 1, id2, [], _, _, fp2, Gp2, rfl, by omega, by simp [f0], by simp, by simp [f34], by simp [f35], by simp, d2, d3, by simp, d4⟩
          · have hvm := view_map h3
            cases hg : F'.get s with
            | none =>
              obtain ⟨σ2, hσ2, c1, c2, c3, c4, c5⟩ := ready_new (tn := 56) (s := s) hR hW h1 h3 h4 rfl hg
              obtain ⟨id2, fp2, Gp2, d1, d2, d3, d4⟩ := tail σ2 _ _ _ _ _ c1 c2 c3 c4 c5 (by rw [get_put]; simp [sub0, hg]) (fun l2 s2 => put_put)
              have hms := mset_new (v := .ptr σ'.length 0) (get_app (x := .var 56 [.nilm, .bool false]) h3) (noItr_app hR.it rfl) (h4.find_none hg 0)
              have hvm2 := view_map c2
              have hl0 : lookStep 1 .nilp false (.str s) kv = some .nilp := by simp [lookStep, h4.find_none hg 0]
              have h1a := get_app (x := .var 56 [.nilm, .bool false]) h1
              rw [← hσ2] at hms
              simp [-mapView, -lookStep, -msetOp, f7, f34, f35, f36, hlt, hlt', hse, hx2, cellsAt, h1, h1a, hvm, hl0, lay, splice, hms, c1, hvm2, d1, hwi, e1]
              refine nx_intro (ns.length - (i + 1)) (by omega) ⟨i + 1, id2, [], _, _, fp2, Gp2, rfl, by omega, by simp [f0], by simp, by simp [f34], by simp [f35], by simp, d2, d3, by simp, d4⟩
            | some w =>
              have hs0 : F'.get s = some (sub0 F' s) := by simp [sub0, hg]
              obtain ⟨id2, fp2, Gp2, d1, d2, d3, d4⟩ := tail σ' _ _ _ _ _ h1 h3 h4 hR hW hs0 (fun _ _ => rfl)
              simp [-mapView, -lookStep, -msetOp, f7, f34, f35, f36, hlt, hlt', hse, hx2, cellsAt, h1, hvm, d1, hwi, e1]
              refine nx_intro (ns.length - (i + 1)) (by omega) ⟨i + 1, id2, [], _, _, fp2, Gp2, rfl, by omega, by simp [f0], by simp, by simp [f34], by simp [f35], by simp, d2, d3, by simp, d4⟩
        · have hlt' : ¬ (i : Int) < (ns.length : Int) := by omega
          rw [List.drop_of_length_le (by omega)] at hG
          simp only [insN] at hG
          obtain ⟨t, k, fpk0, h1, h2, hfp⟩ := hR.na
          subst hfp
          have hil : id' < σ'.length := (List.getElem?_eq_some_iff.1 h1).1
          obtain ⟨σ1, hσ1⟩ : ∃ σ1 : Store, σ1 = σ'.set id' (.var t (k :: .bool true :: rest')) := ⟨_, rfl⟩
          have hnd := hR.nd
          simp only [List.nodup_cons] at hnd
          have a0 : ∀ a, a ≠ id' → σ1[a]? = σ'[a]? := fun a ha => by rw [hσ1]; exact set_off (Ne.symm ha)
          have a1 : σ1[id']? = some (.var t (k :: .bool true :: rest')) := by rw [hσ1]; exact List.getElem?_set_self hil
          have a2 : NA σ1 id' rest' true F' (id' :: fpk0) := by
            refine ⟨t, k, fpk0, a1, ?_, rfl⟩
            rcases h2 with h2 | ⟨m, kv, fpk, h5, h6, h7, h8⟩
            · exact .inl h2
            · subst h7
              simp only [List.mem_cons, not_or] at hnd
              exact .inr ⟨m, kv, fpk, h5, (a0 m (Ne.symm hnd.1.1)).trans h6, rfl, h8.congr fun a ha => a0 a (fun e => hnd.1.2 (e ▸ ha))⟩
          obtain ⟨fp3, b1, b2, b3⟩ := hW σ1 true F' (id' :: fpk0) (by rw [hσ1]; simp) (fun a ha hna => a0 a (fun e => hna (by simp [e]))) a2 hR.nd (fun a ha => .inl ha)
          rw [hG] at b1
          have hroot : (insN false F ns).1 = false := by rw [insN_root q2]
          rw [hroot] at b1
          obtain ⟨t3, k3, fpr, g1, g2, hfp3⟩ := b1
          subst hfp3
          have hidl : id < σ1.length := (List.getElem?_eq_some_iff.1 g1).1
          obtain ⟨σ2, hσ2⟩ : ∃ σ2 : Store, σ2 = σ1.set id (.var t3 (k3 :: .bool false :: [.int .i64 (n + 1 : Nat)])) := ⟨_, rfl⟩
          have c0 : ∀ a, a ≠ id → σ2[a]? = σ1[a]? := fun a ha => by rw [hσ2]; exact set_off (Ne.symm ha)
          have c1 : σ2[id]? = some (.var t3 (k3 :: .bool false :: [.int .i64 (n + 1 : Nat)])) := by rw [hσ2]; exact List.getElem?_set_self hidl
          have hnd3 := b2
          simp only [List.nodup_cons] at hnd3
          have c2 : NA σ2 id [.int .i64 (n + 1 : Nat)] false (insN false F ns).2 (id :: fpr) := by
            refine ⟨t3, k3, fpr, c1, ?_, rfl⟩
            rcases g2 with g2 | ⟨m, kv, fpk, h5, h6, h7, h8⟩
            · exact .inl g2
            · subst h7
              simp only [List.mem_cons, not_or] at hnd3
              exact .inr ⟨m, kv, fpk, h5, (c0 m (Ne.symm hnd3.1.1)).trans h6, rfl, h8.congr fun a ha => c0 a (fun e => hnd3.1.2 (e ▸ ha))⟩
          have hwn : IntKind.i64.wrap ((n : Int) + 1) = ((n + 1 : Nat) : Int) := by rw [wrap_i64 (by omega) (by omega)]; omega
          have hk1 : Kept σ0 σ1 := by
            rw [hσ1]
            refine hR.kept.set id' ?_
            have hu : (Entry.var t (k :: .bool lf' :: rest')).under σ'.length = true := by
              simp only [Entry.under, List.all_cons, Bool.and_eq_true, List.all_eq_true]
              refine ⟨?_, by simp [AV.under], fun x hx => pure_under' (hr x hx) _⟩
              rcases h2 with ⟨rfl, _⟩ | ⟨m, kv, fpk, rfl, h6, _⟩
              · simp [AV.under]
              · simpa [AV.under] using (List.getElem?_eq_some_iff.1 h6).1
            simp only [Entry.under, List.all_cons, Bool.and_eq_true] at hu ⊢
            exact ⟨hu.1, by simp [AV.under], hu.2.2⟩
          have hk2 : Kept σ0 σ2 := by
            rw [hσ2]
            refine hk1.set id ?_
            simp only [Entry.under, List.all_cons, List.all_nil, Bool.and_eq_true]
            refine ⟨?_, by simp [AV.under], by simp [AV.under]⟩
            rcases g2 with ⟨rfl, _⟩ | ⟨m, kv, fpk, rfl, h6, _⟩
            · simp [AV.under]
            · simpa [AV.under] using (List.getElem?_eq_some_iff.1 h6).1
          have hσ3 : σ2 = σ1.set id (.var t3 (k3 :: .bool false :: [.int .i64 ((n : Int) + 1)])) := by rw [hσ2]; simp
          simp [f0, f7, f34, f35, f36, hlt, hlt', h1, putAt, splice, cellsAt, ← hσ1, g1, hwn, ← hσ3]
          refine er_keep σ2 (.int .i64 0) (by simp [evalRes, tupOf]) [] (by simp) hk2.len (by simp [AV.under]) hk2.und ?_
          simp only [InsR, hpp, hh, Bool.false_eq_true, if_false, h64]
          refine ⟨trivial, id :: fpr, c2, b2, by rw [hσ2, hσ1]; exact noItr_set (noItr_set hR.it rfl) rfl, hk2, fun a ha hna => ?_, b3⟩
          have hne : a ≠ id := fun e => ((b3 id (by simp)).elim (fun h => hna (e ▸ h)) (fun h => by omega)).elim
          have hne2 : a ≠ id' := fun e => ((hR.sub id' (by simp)).elim (fun h => hna (e ▸ h)) (fun h => by omega)).elim
          rw [c0 a hne, a0 a hne2]
          exact hR.off a ha hna
end Go.Proofs.YtjpjmdjjgfllhaaGreatDoor
end
section
set_option maxHeartbeats 4000000
namespace Go.Abs
open Go.Trie
variable {σ : Store}
theorem mdel_some {m j : Nat} {kv : List (AV × AV)} {s : Tx} {v : AV} (h : σ[m]? = some (.mp kv)) (hi : noItr σ = true) (hf : mapFind 1 (.str s) kv 0 = some (some (j, v))) : delAt σ 1 (.str s) (.map m) = some (σ.set m (.mp (kv.eraseIdx j))) := by
  unfold delAt
  simp only [h, hi, if_true, mapDel, hf, Option.map_some]
/-- A node whose nodes beneath have been laid anew. -/
theorem NA.again {σ1 : Store} {id m : Nat} {t : TypeId} {rest : List AV} {lf : Bool} {F : Fo} {kv : List (AV × AV)} {fp : List Nat} (h1 : σ1[id]? = some (.var t (.map m :: .bool lf :: rest))) (h2 : σ1[m]? = some (.mp kv)) (h3 : FKV σ1 F kv fp) : NA σ1 id rest lf F (id :: m :: fp) :=
  ⟨t, .map m, m :: fp, h1, .inr ⟨m, kv, fp, rfl, h2, rfl, h3⟩, rfl⟩
/-- What is asked and told of a cut. -/
def CutR (σ : Store) (id : Nat) (rest : List AV) (fp : List Nat) (lf : Bool) (F : Fo) (r : AV) (σ' : Store) : Prop := r = .bool (!lf && F.isNil) ∧ σ'.length = σ.length ∧ (∀ a, a ∉ fp → σ'[a]? = σ[a]?) ∧ noItr σ' = true ∧ Kept σ σ' ∧ ∃ fp', NA σ' id rest lf F fp' ∧ fp'.Nodup ∧ ∀ a ∈ fp', a ∈ fp
end Go.Abs
namespace Go.Proofs.YtjpjmdjjgfllhaaGreatDoor
open Go.Abs Go.Glob Go.Trail Go.Trie
variable {G : Globs}
theorem tcut_ok : ∀ (ns : List Tx) (σ : Store) (id : Nat) (rest : List AV) (lf : Bool) (F : Fo) (fp : List Nat), NA σ id rest lf F fp → fp.Nodup → noItr σ = true → (∀ x ∈ rest, x.pure = true) → (getN lf F ns).isSome = true → ns.length ≤ 1000 →
    ACalls Tryz.prog n_trie_node_cut [.ptr id 0, .lst (strEls ns)] σ (CutR σ id rest fp (delN lf F ns).1 (delN lf F ns).2)
  | [], σ, id, rest, lf, F, fp, h, hn, hi, hr, hg, hl => by
    refine acalls_of_awp_e hmix c_trie_node_cut rfl ?_
    obtain ⟨t, k, fp1, h1, h2, rfl⟩ := h
    have hlt : id < σ.length := (List.getElem?_eq_some_iff.1 h1).1
    obtain ⟨σ1, hσ1⟩ : ∃ σ1 : Store, σ1 = σ.set id (.var t (k :: .bool false :: rest)) := ⟨_, rfl⟩
    have hnd := hn
    simp only [List.nodup_cons] at hnd
    have a0 : ∀ a, a ≠ id → σ1[a]? = σ[a]? := fun a ha => by rw [hσ1]; exact set_off (Ne.symm ha)
    have a1 : σ1[id]? = some (.var t (k :: .bool false :: rest)) := by rw [hσ1]; exact List.getElem?_set_self hlt
    have a2 : NA σ1 id rest false F (id :: fp1) := by
      refine ⟨t, k, fp1, a1, ?_, rfl⟩
      rcases h2 with h2 | ⟨m, kv, fpk, h5, h6, h7, h8⟩
      · exact .inl h2
      · subst h7
        simp only [List.mem_cons, not_or] at hnd
        exact .inr ⟨m, kv, fpk, h5, (a0 m (Ne.symm hnd.1.1)).trans h6, rfl, h8.congr fun a ha => a0 a (fun e => hnd.1.2 (e ▸ ha))⟩
    obtain ⟨t', k', g1, kv, hmv, hkv, -⟩ := a2.look
    rw [a1] at g1
    simp only [Option.some.injEq, Entry.var.injEq, List.cons.injEq] at g1
    obtain ⟨rfl, rfl, -⟩ := g1
    have hk : Kept σ σ1 := by
      rw [hσ1]
      refine (Kept.refl σ).set id ?_
      simp only [Entry.under, List.all_cons, Bool.and_eq_true, List.all_eq_true]
      refine ⟨?_, by simp [AV.under], fun x hx => pure_under' (hr x hx) _⟩
      rcases h2 with ⟨rfl, _⟩ | ⟨m, kv, fpk, rfl, h6, _⟩
      · simp [AV.under]
      · simpa [AV.under] using (List.getElem?_eq_some_iff.1 h6).1
    have hll : σ1.length = σ.length := by rw [hσ1]; simp
    have hR : ∀ b, b = F.isNil → CutR σ id rest (id :: fp1) false F (.bool b) σ1 := fun b hb => ⟨by rw [hb]; simp, hll, fun a ha => a0 a (fun e => ha (by simp [e])), by rw [hσ1]; exact noItr_set hi rfl, hk, _, a2, hn, fun _ h => h⟩
    have e0 : strEls ([] : List Tx) = [] := rfl
    have hu : ∀ (i : Nat) (e : Entry), σ1[i]? = some e → σ[i]? = some e ∨ e.under σ.length = true := fun i e he => by rw [← hll]; exact hk.und i e he
    simp [-mapView, a_trie_node_cut, e0, h1, putAt, splice, ← hσ1, cellsAt, a1, hmv]
    by_cases hz : kv = []
    · subst hz
      exact er_intro σ1 (.bool true) (by simp [retAt, evalRes, tupOf]) [] (by simp) hll hu (hR true (by simpa using hkv))
    · have hz2 : kv.length ≠ 0 := by simpa using hz
      exact er_intro σ1 (.bool false) (by simp [retAt, evalRes, tupOf, hz]) [] (by simp) hll hu (hR false (by
        cases hb : F.isNil
        · rfl
        · exact absurd (hkv.2 hb) hz2))
  | n :: ns, σ, id, rest, lf, F, fp, h, hn, hi, hr, hg, hl => by
    refine acalls_of_awp_e hmix c_trie_node_cut rfl ?_
    obtain ⟨t, k, fp1, h1, h2, rfl⟩ := h
    have hlt : id < σ.length := (List.getElem?_eq_some_iff.1 h1).1
    cases hw : F.get n with
    | none => simp [getN, hw] at hg
    | some w =>
      simp only [getN, hw] at hg
      rcases h2 with ⟨_, rfl, _⟩ | ⟨m, kv, fpk, rfl, h3, rfl, h4⟩
      · simp [Fo.get] at hw
      have hmlt : m < σ.length := (List.getElem?_eq_some_iff.1 h3).1
      have hnd := hn
      simp only [List.nodup_cons, List.mem_cons, not_or] at hnd
      obtain ⟨⟨n1, n2⟩, n3, n4⟩ := hnd
      obtain ⟨j, id2, fp2, g1, g2, g3, g4, g5, g6⟩ := h4.find_some hw 0
      simp only [Nat.zero_add] at g1
      have hls : lookStep 1 .nilp false (.str n) kv = some (.ptr id2 0) := by simp [lookStep, g1]
      have hvm := view_map h3
      have e0 : strEls (n :: ns) = [.str n] :: strEls ns := rfl
      have hl1 : ∀ c ∈ strEls ns, c.length = 1 := by intro c hc; simp [strEls] at hc; obtain ⟨a, _, rfl⟩ := hc; rfl
      have hne0 : ¬ ((((strEls ns).length : Int) + 1) = 0) := by omega
      have h1l : (1 : Int) ≤ ((strEls ns).length : Int) + 1 := by omega
      have ih := tcut_ok ns σ id2 [] w.1 w.2 fp2 g2 (g4 n4) hi (by simp) hg (by simp at hl; omega)
      simp [-mapView, -lookStep, a_trie_node_cut, e0, hne0, h1, cellsAt, hvm, hls]
      try rw [if_pos hl1]
      simp [-mapView, -lookStep, -delAt]
      refine ac_eff ih ?_
      rintro r σ1 ⟨rfl, k1, k2, k3, k4, fp3, k5, k6, k7⟩
      have o1 : σ1[id]? = some (.var t (.map m :: .bool lf :: rest)) := (k2 id (fun hx => n2 (g3 _ hx))).trans h1
      have o2 : σ1[m]? = some (.mp kv) := (k2 m (fun hx => n3 (g3 _ hx))).trans h3
      have hdel : delN lf F (n :: ns) = if (delN w.1 w.2 ns).1 = false ∧ (delN w.1 w.2 ns).2.isNil = true then (lf, F.del n) else (lf, F.put n (delN w.1 w.2 ns).1 (delN w.1 w.2 ns).2) := by simp [delN, hw]
      by_cases hb : (delN w.1 w.2 ns).1 = false ∧ (delN w.1 w.2 ns).2.isNil = true
      · rw [if_pos hb] at hdel
        have hbb : (!(delN w.1 w.2 ns).1 && (delN w.1 w.2 ns).2.isNil) = true := by simp [hb.1, hb.2]
        obtain ⟨σ2, hσ2⟩ : ∃ σ2 : Store, σ2 = σ1.set m (.mp (kv.eraseIdx j)) := ⟨_, rfl⟩
        have hmd := mdel_some o2 k3 g1
        rw [← hσ2] at hmd
        have b0 : ∀ a, a ≠ m → σ2[a]? = σ1[a]? := fun a ha => by rw [hσ2]; exact set_off (Ne.symm ha)
        have b1 : σ2[m]? = some (.mp (kv.eraseIdx j)) := by rw [hσ2]; exact List.getElem?_set_self (by omega)
        have b2 : σ2[id]? = some (.var t (.map m :: .bool lf :: rest)) := (b0 id n1).trans o1
        obtain ⟨fp4, c1, c2, c3⟩ := g6 σ2 n4 (fun a ha hna => (b0 a (fun e => n3 (e ▸ ha))).trans (k2 a hna))
        have hll : σ2.length = σ.length := by rw [hσ2]; simp [k1]
        have hk : Kept σ σ2 := by
          rw [hσ2]
          refine k4.set m ?_
          have := c1.under
          rw [hll, ← k1] at this
          exact this
        have hu : ∀ (i : Nat) (e : Entry), σ2[i]? = some e → σ[i]? = some e ∨ e.under σ.length = true := fun i e he => by rw [← hll]; exact hk.und i e he
        have hz := c1.len
        have hR : ∀ b, b = (!lf && (F.del n).isNil) → CutR σ id rest (id :: m :: fpk) lf (F.del n) (.bool b) σ2 := fun b hbx => ⟨by rw [hbx], hll, fun a ha => by
          simp only [List.mem_cons, not_or] at ha
          rw [b0 a ha.2.1]
          exact k2 a (fun hx => ha.2.2 (g3 a hx)), by rw [hσ2]; exact noItr_set k3 rfl, hk, _, NA.again b2 b1 c1, by
          simp only [List.nodup_cons, List.mem_cons, not_or]
          exact ⟨⟨n1, fun hx => n2 (c3 _ hx).1⟩, fun hx => n3 (c3 _ hx).1, c2⟩, fun a ha => by
          simp only [List.mem_cons] at ha ⊢
          exact ha.imp _root_.id fun h => h.imp _root_.id fun h => (c3 a h).1⟩
        rw [hdel]
        have hvm2 := view_map b1
        obtain ⟨kv2, hkv2⟩ : ∃ kv2, kv.eraseIdx j = kv2 := ⟨_, rfl⟩
        rw [hkv2] at hvm2 hz
        simp [-mapView, -lookStep, -delAt, hbb, cellsAt, o1, hmd, b2, hvm2]
        cases lf with
        | true =>
          try simp
          exact er_intro σ2 (.bool false) (by simp [retAt, evalRes, tupOf]) [] (by simp) hll hu (hR false (by simp))
        | false =>
          try simp [-mapView, cellsAt, b2, hvm2]
          by_cases hz0 : kv2 = []
          · rw [hz0] at hz
            try simp [hz0]
            exact er_intro σ2 (.bool true) (by simp [retAt, evalRes, tupOf, hz0]) [] (by simp) hll hu (hR true (by simpa using hz))
          · have hz2 : kv2.length ≠ 0 := by simpa using hz0
            try simp [hz0]
            exact er_intro σ2 (.bool false) (by simp [retAt, evalRes, tupOf, hz0]) [] (by simp) hll hu (hR false (by
              cases hb : (F.del n).isNil
              · rfl
              · exact absurd (hz.2 hb) hz2))
      · rw [if_neg hb] at hdel
        have hbb : (!(delN w.1 w.2 ns).1 && (delN w.1 w.2 ns).2.isNil) = false := by
          cases hx : (delN w.1 w.2 ns).1 <;> cases hy : (delN w.1 w.2 ns).2.isNil <;> simp_all
        obtain ⟨fp4, c1, c2, c3⟩ := g5 σ1 _ _ fp3 n4 (fun a ha hna => k2 a hna) k5 k6 (fun a ha => .inl (k7 a ha))
        have c4 : ∀ a ∈ fp4, a ∈ fpk := fun a ha => (c3 a ha).elim (fun h => g3 a (k7 a h)) _root_.id
        have hu : ∀ (i : Nat) (e : Entry), σ1[i]? = some e → σ[i]? = some e ∨ e.under σ.length = true := fun i e he => by rw [← k1]; exact k4.und i e he
        have hz := c1.len
        have hnn : (F.put n (delN w.1 w.2 ns).1 (delN w.1 w.2 ns).2).isNil = false := put_nnil
        rw [hnn] at hz
        have hkv0 : kv ≠ [] := by
          intro e
          rw [e] at hz
          simp at hz
        have hR : CutR σ id rest (id :: m :: fpk) lf (F.put n (delN w.1 w.2 ns).1 (delN w.1 w.2 ns).2) (.bool false) σ1 := ⟨by rw [hnn]; simp, k1, fun a ha => by
          simp only [List.mem_cons, not_or] at ha
          exact k2 a (fun hx => ha.2.2 (g3 a hx)), k3, k4, _, NA.again o1 o2 c1, by
          simp only [List.nodup_cons, List.mem_cons, not_or]
          exact ⟨⟨n1, fun hx => n2 (c4 _ hx)⟩, fun hx => n3 (c4 _ hx), c2⟩, fun a ha => by
          simp only [List.mem_cons] at ha ⊢
          exact ha.imp _root_.id fun h => h.imp _root_.id fun h => c4 a h⟩
        rw [hdel]
        have hvm2 := view_map o2
        simp [-mapView, -lookStep, -delAt, hbb, cellsAt, o1, hvm2]
        cases lf with
        | true =>
          try simp
          exact er_intro σ1 (.bool false) (by simp [retAt, evalRes, tupOf]) [] (by simp) k1 hu hR
        | false =>
          try simp [-mapView, cellsAt, o1, hvm2, hkv0]
          exact er_intro σ1 (.bool false) (by simp [retAt, evalRes, tupOf, hkv0]) [] (by simp) k1 hu hR
/-- What a Delete answers, and how it leaves the store. -/
def DelR (σ : Store) (id n : Nat) (F : Fo) (fp : List Nat) (p : Tx) (r : AV) (σ' : Store) : Prop := match path p with
  | none => r = .int .i64 13 ∧ σ' = σ
  | some ns => if hasN false F ns = true then r = .int .i64 0 ∧ ∃ fp', NA σ' id [.int .i64 ((n : Int) - 1)] false (delN false F ns).2 fp' ∧ fp'.Nodup ∧ noItr σ' = true ∧ Kept σ σ' ∧ σ'.length = σ.length ∧ (∀ a, a ∉ fp → σ'[a]? = σ[a]?) ∧ ∀ a ∈ fp', a ∈ fp
      else r = .int .i64 15 ∧ σ' = σ
theorem tdel_ok {σ : Store} {id n : Nat} {F : Fo} {fp : List Nat} (h : NA σ id [.int .i64 n] false F fp) (hn : fp.Nodup) (hit : noItr σ = true) (p : Tx) (hp : p.length ≤ 1000000000000000000) (hnl : n ≤ 1000000) : ACalls Tryz.prog n_trie_Trie_Delete [.ptr id 0, .str p] σ (DelR σ id n F fp p) := by
  refine acalls_of_awp_e hmix c_trie_Trie_Delete rfl ?_
  simp [a_trie_Trie_Delete]
  refine ac_same (split_ok p hp) (by simp) ?_
  rintro r rfl
  cases hpp : path p with
  | none =>
    simp [pathAV]
    exact er_intro σ (.int .i64 13) (by simp [retAt, evalRes, tupOf]) [] (by simp) rfl (fun _ _ h => .inl h) (by simp [DelR, hpp])
  | some ns =>
    obtain ⟨q1, q2, q3, q4⟩ := path_props hpp
    simp [pathAV]
    refine ac_eff (thas_ok h p hp) ?_
    rintro r σ' ⟨rfl, rfl⟩
    cases hh : hasN false F ns with
    | false =>
      simp [hasT, hpp, hh]
      exact er_intro σ' (.int .i64 15) (by simp [retAt, evalRes, tupOf]) [] (by simp) rfl (fun _ _ h => .inl h) (by simp [DelR, hpp, hh])
    | true =>
      have hg : (getN false F ns).isSome = true := by
        unfold hasN at hh
        cases hx : getN false F ns with
        | none => rw [hx] at hh; cases hh
        | some v => rfl
      simp [hasT, hpp, hh]
      refine ac_eff (tcut_ok ns σ' id _ false F fp h hn hit (by simp [AV.pure]) hg (by omega)) ?_
      rintro r σ1 ⟨-, k1, k2, k3, k4, fp1, k5, k6, k7⟩
      rw [delN_root q2] at k5
      obtain ⟨t3, k0, fpr, g1, g2, rfl⟩ := k5
      have hidl : id < σ1.length := (List.getElem?_eq_some_iff.1 g1).1
      obtain ⟨σ2, hσ2⟩ : ∃ σ2 : Store, σ2 = σ1.set id (.var t3 (k0 :: .bool false :: [.int .i64 ((n : Int) - 1)])) := ⟨_, rfl⟩
      have c0 : ∀ a, a ≠ id → σ2[a]? = σ1[a]? := fun a ha => by rw [hσ2]; exact set_off (Ne.symm ha)
      have c1 : σ2[id]? = some (.var t3 (k0 :: .bool false :: [.int .i64 ((n : Int) - 1)])) := by rw [hσ2]; exact List.getElem?_set_self hidl
      have hnd3 := k6
      simp only [List.nodup_cons] at hnd3
      have c2 : NA σ2 id [.int .i64 ((n : Int) - 1)] false (delN false F ns).2 (id :: fpr) := by
        refine ⟨t3, k0, fpr, c1, ?_, rfl⟩
        rcases g2 with g2 | ⟨m, kv, fpk, h5, h6, h7, h8⟩
        · exact .inl g2
        · subst h7
          simp only [List.mem_cons, not_or] at hnd3
          exact .inr ⟨m, kv, fpk, h5, (c0 m (Ne.symm hnd3.1.1)).trans h6, rfl, h8.congr fun a ha => c0 a (fun e => hnd3.1.2 (e ▸ ha))⟩
      have hwn : IntKind.i64.wrap ((n : Int) - 1) = (n : Int) - 1 := wrap_i64 (by omega) (by omega)
      have hk2 : Kept σ' σ2 := by
        rw [hσ2]
        refine k4.set id ?_
        simp only [Entry.under, List.all_cons, List.all_nil, Bool.and_eq_true]
        refine ⟨?_, by simp [AV.under], by simp [AV.under]⟩
        rcases g2 with ⟨rfl, _⟩ | ⟨m, kv, fpk, rfl, h6, _⟩
        · simp [AV.under]
        · simpa [AV.under] using (List.getElem?_eq_some_iff.1 h6).1
      have hll : σ2.length = σ'.length := by rw [hσ2]; simp [k1]
      simp [cellsAt, g1, putAt, splice, hwn, ← hσ2]
      refine er_intro σ2 (.int .i64 0) (by simp [retAt, evalRes, tupOf]) [] (by simp) hll (fun i e he => by rw [← hll]; exact hk2.und i e he) ?_
      simp only [DelR, hpp, hh, if_true]
      refine ⟨trivial, id :: fpr, c2, k6, by rw [hσ2]; exact noItr_set k3 rfl, hk2, hll, fun a ha => ?_, k7⟩
      rw [c0 a (fun e => ha (e ▸ k7 id (by simp)))]
      exact k2 a ha
end Go.Proofs.YtjpjmdjjgfllhaaGreatDoor
end
section
namespace Go.Proofs
open Go.Shelf
open Go.RowKit Go.Lib Go.Sort
def Tryz.lays190_ren : Go.Shelf.Ren := ⟨fun | 190 => 37 | 125 => 56 | 258 => 55 | 128 => 82 | 129 => 83 | 302 => 73 | 303 => 74 | 304 => 75 | 305 => 76 | 306 => 77 | 307 => 78 | 308 => 79 | 309 => 80 | 310 => 81 | 333 => 105 | 329 => 106 | 330 => 107 | 334 => 108 | 335 => 109 | 336 => 110 | 344 => 123 | n => n, fun | 31 => 22 | 9 => 9 | 3 => 3 | 46 => 89 | 0 => 0 | 51 => 114 | 53 => 116 | 4 => 4 | 183 => 107 | 182 => 106 | 131 => 111 | 5 => 5 | 218 => 136 | 222 => 140 | 228 => 156 | 229 => 157 | n => n, fun | n => n⟩
theorem Tryz.lays190 : Go.Proofs.Lays.n190 Tryz.prog Tryz.lays190_ren := {
  mixed := by kernel_rfl
  f125 := Tryz.func56.trans (congrArg some (by kernel_rfl))
  f128 := Tryz.func82.trans (congrArg some (by kernel_rfl))
  f129 := Tryz.func83.trans (congrArg some (by kernel_rfl))
  f190 := Tryz.func37.trans (congrArg some (by kernel_rfl))
  f258 := Tryz.func55.trans (congrArg some (by kernel_rfl))
  f302 := Tryz.func73.trans (congrArg some (by kernel_rfl))
  f303 := Tryz.func74.trans (congrArg some (by kernel_rfl))
  f304 := Tryz.func75.trans (congrArg some (by kernel_rfl))
  f305 := Tryz.func76.trans (congrArg some (by kernel_rfl))
  f306 := Tryz.func77.trans (congrArg some (by kernel_rfl))
  f307 := Tryz.func78.trans (congrArg some (by kernel_rfl))
  f308 := Tryz.func79.trans (congrArg some (by kernel_rfl))
  f309 := Tryz.func80.trans (congrArg some (by kernel_rfl))
  f310 := Tryz.func81.trans (congrArg some (by kernel_rfl))
  f329 := Tryz.func106.trans (congrArg some (by kernel_rfl))
  f330 := Tryz.func107.trans (congrArg some (by kernel_rfl))
  f333 := Tryz.func105.trans (congrArg some (by kernel_rfl))
  f334 := Tryz.func108.trans (congrArg some (by kernel_rfl))
  f335 := Tryz.func109.trans (congrArg some (by kernel_rfl))
  f336 := Tryz.func110.trans (congrArg some (by kernel_rfl))
  f344 := Tryz.func123.trans (congrArg some (by kernel_rfl))
  t0 := Tryz.underlying0
  a0 := Tryz.isAgg0
  z0 := Tryz.sizeOf0
  v0 := Tryz.zeroValue0
  t3 := Tryz.underlying3
  a3 := Tryz.isAgg3
  z3 := Tryz.sizeOf3
  v3 := Tryz.zeroValue3
  t4 := Tryz.underlying4
  a4 := Tryz.isAgg4
  z4 := Tryz.sizeOf4
  v4 := Tryz.zeroValue4
  t5 := Tryz.underlying5
  a5 := Tryz.isAgg5
  z5 := Tryz.sizeOf5
  v5 := Tryz.zeroValue5
  t9 := Tryz.underlying9
  a9 := Tryz.isAgg9
  z9 := Tryz.sizeOf9
  v9 := Tryz.zeroValue9
  t31 := Tryz.underlying22
  a31 := Tryz.isAgg22
  z31 := Tryz.sizeOf22
  v31 := Tryz.zeroValue22
  t46 := Tryz.underlying89
  a46 := Tryz.isAgg89
  z46 := Tryz.sizeOf89
  v46 := Tryz.zeroValue89
  t51 := Tryz.underlying114
  a51 := Tryz.isAgg114
  z51 := Tryz.sizeOf114
  v51 := Tryz.zeroValue114
  t53 := Tryz.underlying116
  a53 := Tryz.isAgg116
  z53 := Tryz.sizeOf116
  v53 := Tryz.zeroValue116
  t131 := Tryz.underlying111
  a131 := Tryz.isAgg111
  z131 := Tryz.sizeOf111
  v131 := Tryz.zeroValue111
  t182 := Tryz.underlying106
  a182 := Tryz.isAgg106
  z182 := Tryz.sizeOf106
  v182 := Tryz.zeroValue106
  t183 := Tryz.underlying107
  a183 := Tryz.isAgg107
  z183 := Tryz.sizeOf107
  v183 := Tryz.zeroValue107
  t218 := Tryz.underlying136
  a218 := Tryz.isAgg136
  z218 := Tryz.sizeOf136
  v218 := Tryz.zeroValue136
  t222 := Tryz.underlying140
  a222 := Tryz.isAgg140
  z222 := Tryz.sizeOf140
  v222 := Tryz.zeroValue140
  t228 := Tryz.underlying156
  a228 := Tryz.isAgg156
  z228 := Tryz.sizeOf156
  v228 := Tryz.zeroValue156
  t229 := Tryz.underlying157
  a229 := Tryz.isAgg157
  z229 := Tryz.sizeOf157
  v229 := Tryz.zeroValue157 }
theorem Tryz.slices_Sort_string (blk off cap : Nat) (ss : List (List UInt8)) (w : World) (hH : Holds encStr w blk off ss.toArray) (hblk : blk < w.heap.size) (hsz : ss.length < 4611686018427387904) :
    Calls Tryz.prog 37 #[.slice (some ⟨blk, off, none⟩) ss.length cap] w fun e w' =>
      e = .returned (.tuple #[]) ∧ ∃ n os, w' = grow (putRow encStr (Sort.ahead w n) blk off (ss.mergeSort fun x y => decide (x ≤ y)).toArray) os := Any.slices_Sort_string Tryz.lays190 blk off cap ss w hH hblk hsz
/-- .. and plain. (LAID: no walk: one application.) -/
theorem Tryz.slices_Sort_string_none (p : Option Addr) (cap : Nat) (w : World) :
    Calls Tryz.prog 37 #[.slice p 0 cap] w fun e w' => e = .returned (.tuple #[]) ∧ w' = w := Any.slices_Sort_string_none Tryz.lays190 p cap w
end Go.Proofs
end
section
set_option maxHeartbeats 2000000
namespace Go.Abs
open Go.Proofs Go.Sort Go.Shelf Go.RowKit Go.Lib Go.Proofs.YtjpjmdjjgfllhaaGreatDoor
variable {G : Globs} {base : Nat} {κ : Key} {Im : Addr → Prop} {w : World} {σ : Store}
def valsS (l : List (List UInt8)) : List Value := l.map encStr
theorem valsS_len (l : List (List UInt8)) : (valsS l).length = l.length := by simp [valsS]
theorem strEls_flat (l : List (List UInt8)) : (strEls l).flatten = l.map AV.str := by
  induction l with
  | nil => rfl
  | cons s l ih =>
    have : strEls (s :: l) = [.str s] :: strEls l := rfl
    rw [this, List.flatten_cons, ih]; rfl
theorem valsS_of {l : List (List UInt8)} {xs : List Value} (h : VRL κ Im w (strEls l).flatten xs) : xs = valsS l := by
  rw [strEls_flat] at h
  induction l generalizing xs with
  | nil =>
    have := h.1
    simp at this
    rw [List.eq_nil_of_length_eq_zero this.symm]; rfl
  | cons s l ih =>
    have hl := h.1
    simp at hl
    match xs, h, hl with
    | x :: xs, h, _ =>
      obtain ⟨u, hu, h1⟩ := h.get? (i := 0) (a := .str s) (by simp)
      simp at hu
      subst hu
      have h3 : VRL κ Im w (l.map AV.str) xs := by
        have := h.drop 1
        simpa using this
      rw [h1.str_inv, ih h3]
      rfl
theorem valsS_vr (l : List (List UInt8)) : VRL κ Im w (strEls l).flatten (valsS l) := by
  rw [strEls_flat]
  induction l with
  | nil => exact VRL.nil
  | cons s l ih => exact .cons (.im _ _ (.str _)) ih
theorem strEls_length (l : List (List UInt8)) : (strEls l).length = l.length := by simp [strEls]
theorem srel_sortedS {i e : Nat} {l : List (List UInt8)} (hs : SRel base κ Im σ w) (he : σ[i]? = some (.row e 1 (strEls l) false)) (hne : l ≠ []) :
    ∃ g cap, κ i l.length = some (.slice (some ⟨g, 0, none⟩) l.length cap) ∧ g < w.heap.size ∧ Holds encStr w g 0 l.toArray ∧
      ∀ (l' : List (List UInt8)) n os, l'.length = l.length → SRel base κ Im (σ.set i (.row e 1 (strEls l') false)) (grow (putRow encStr (Sort.ahead w n) g 0 l'.toArray) os) ∧ Grow base κ Im w κ Im (grow (putRow encStr (Sort.ahead w n) g 0 l'.toArray) os) := by
  have hE := hs.ent i _ he
  unfold EOK at hE
  obtain ⟨v, xs, hκ, hown, hvr, h0, h2, h1, -, hblk⟩ := hE
  rw [strEls_length] at hκ hown hblk
  have hxs := valsS_of hvr
  subst hxs
  obtain ⟨hlx, hown⟩ := hown
  rcases hown with ⟨_, h⟩ | ⟨g, cap, cur, rfl, hbase, hg, hc1, hc2, hc3, htk⟩
  · exact absurd (List.eq_nil_of_length_eq_zero h) hne
  have hgs : g < w.heap.size := (Array.getElem?_eq_some_iff.1 hg).1
  rw [Nat.mul_one] at htk
  have hH : Holds encStr w g 0 l.toArray := by
    intro j hj
    have hj' : j < l.length := by simpa using hj
    refine ⟨?_, by simp [World.frozen?, hg]⟩
    have h3 : (cur.toList.take l.length)[j]? = (valsS l)[j]? := by rw [htk]
    rw [List.getElem?_take_of_lt hj'] at h3
    simp only [World.cell?, hg, Nat.zero_add]
    simp only [Option.isSome_none, Bool.false_eq_true, if_false]
    rw [← Array.getElem?_toList, h3, getElem!_pos _ j hj]
    simp [valsS, hj']
  refine ⟨g, cap, hκ, hgs, hH, fun l' n os hll => ?_⟩
  obtain ⟨F, hF⟩ : ∃ F, F = l'.toArray := ⟨_, rfl⟩
  have hFs : F.size = l.length := by rw [hF]; simp [hll]
  obtain ⟨w', hw'⟩ : ∃ w', w' = grow (putRow encStr (Sort.ahead w n) g 0 l'.toArray) os := ⟨_, rfl⟩
  have hw2 : w' = grow (mapBlock (Sort.ahead w n) g (putCells encStr 0 F)) os := by rw [hw', hF]; rfl
  have hheap : w'.heap[g]? = some (.cells (putCells encStr 0 F cur) e (0, 0)) := by
    rw [hw2, heap_grow_old _ _ (by simpa [mapBlock, Sort.ahead] using hgs)]
    simp [mapBlock, Sort.ahead, Array.getElem?_modify, hg, onCells]
  have hother : ∀ k, k < w.heap.size → k ≠ g → w'.heap[k]? = w.heap[k]? := fun k hk hne => by
    rw [hw2, heap_grow_old _ _ (by simpa [mapBlock, Sort.ahead] using hk)]
    simp [mapBlock, Sort.ahead, Array.getElem?_modify, Ne.symm hne]
  have hsize : w.heap.size ≤ w'.heap.size := by rw [hw2]; simp [grow, mapBlock, Sort.ahead]
  have htake : (putCells encStr 0 F cur).toList.take l.length = valsS l' := by
    apply List.ext_getElem?
    intro j
    by_cases hj : j < l.length
    · rw [List.getElem?_take_of_lt hj, Array.getElem?_toList]
      have hjc : j < cur.size := by omega
      have hjF : j < F.size := by omega
      have hjl : j < l'.length := by omega
      have e1 : F[j] = l'[j] := by simp [hF]
      simp [putCells, hjF, hjc, e1, valsS, hjl]
    · rw [List.getElem?_take_eq_none (by omega), List.getElem?_eq_none (by rw [valsS_len]; omega)]
  have hIm : ∀ a, Im a → a.block ≠ g := fun a ha hb => by
    have := ((hblk g rfl).1 a ha hb).1
    cases this
  have hcell : ∀ a, Im a → w'.cell? a = w.cell? a := fun a ha => World.cell?_of_block (hother _ (hs.imlt a ha).1 (hIm a ha))
  rw [← hw']
  have hbl : Go.RowKit.Below base w w' := ⟨by rw [hw2]; rfl, by rw [hw2]; rfl, by rw [hw2]; rfl, hsize, fun k hk => hother k (Nat.lt_of_lt_of_le hk hs.hb) (by omega)⟩
  have hbe : ∀ l'' : List (List UInt8), l''.length = l.length → (Entry.row e 1 (strEls l'') false).block κ i = some g := fun l'' hl'' => by
    simp [Entry.block, strEls_length, hl'', hκ, Value.ownBlock]
  have hone : ∀ c ∈ strEls l', c.length = 1 := fun c hc => by
    obtain ⟨y, _, rfl⟩ := List.mem_map.1 hc
    rfl
  have hone2 : ∀ c ∈ strEls l', ∀ x ∈ c, x.one = true := fun c hc x hx => by
    obtain ⟨y, _, rfl⟩ := List.mem_map.1 hc
    simp at hx
    subst hx; rfl
  refine ⟨hs.set he (.row e 1 (strEls l') false) (fun _ _ _ h => h) (fun _ _ _ h => .inl h) (by simp [Entry.ver, strEls_length, hll]) (fun _ h => h) hcell (fun _ h => .inl h) hsize (fun k hk hne2 => hother k hk fun h => hne2 (by rw [hbe l rfl, h])) ?_ (fun b hb => .inr (by rw [hbe l rfl, ← hb, hbe l' hll])), ⟨fun _ _ _ h => h, fun _ h => h, hcell, fun _ h => .inl h, hbl⟩⟩
  unfold EOK
  refine ⟨.slice (some ⟨g, 0, none⟩) l.length cap, valsS l', by rw [strEls_length, hll]; exact hκ, ⟨by rw [valsS_len, strEls_length, Nat.mul_one], .inr ⟨g, cap, _, by rw [strEls_length, hll], hbase, hheap, by rw [strEls_length, hll]; exact hc1, by simpa [putCells] using hc2, by simp [putCells, hc3], by rw [strEls_length, hll, Nat.mul_one]; exact htake⟩⟩, valsS_vr l', by decide, hone, hone2, fun h => (by cases h), ?_⟩
  rw [strEls_length, hll]
  exact hblk
end Go.Abs
namespace Go.Proofs.YtjpjmdjjgfllhaaGreatDoor
open Go.Shelf Go.RowKit Go.Lib Go.Sort Go.Proofs Go.Abs
variable {G : Globs}
theorem sortStr_ok {σ : Store} {id e : Nat} {l : List (List UInt8)} (he : σ[id]? = some (.row e 1 (strEls l) false)) (hne : l ≠ []) (hl : l.length < 4611686018427387904) :
    ACalls Tryz.prog 37 [.row id l.length] σ fun r σ' => r = .tup [] ∧ σ' = σ.set id (.row e 1 (strEls (l.mergeSort fun x y => decide (x ≤ y))) false) := by
  intro base κ Im w vs hs hv
  obtain ⟨g, cap, hκ, hg, hH, hall⟩ := srel_sortedS hs he hne
  obtain ⟨u0, hu0, hv0⟩ := hv.get? (i := 0) (a := .row id l.length) rfl
  have hu : u0 = .slice (some ⟨g, 0, none⟩) l.length cap := by
    obtain ⟨_, _, _, hk⟩ := hv0.row_inv
    rw [hκ] at hk
    exact (Option.some.inj hk).symm
  subst hu
  have hvs : vs = [.slice (some ⟨g, 0, none⟩) l.length cap] := by
    have hlen := hv.1
    match vs, hlen with
    | [a], _ => simp at hu0; rw [hu0]
  subst hvs
  refine Calls.mono (Tryz.slices_Sort_string g 0 cap l w hH hg hl) ?_
  rintro e' w' ⟨rfl, n, os, rfl⟩
  obtain ⟨h1, h2⟩ := hall (l.mergeSort fun x y => decide (x ≤ y)) n os (by simp)
  exact ⟨.tup [], _, .tuple #[], κ, Im, rfl, ⟨rfl, rfl⟩, h1, h2, .im _ _ (by first | exact .tup _ _ rfl (fun j h => by simp at h) | constructor <;> simp)⟩
theorem sortStr_nil {σ : Store} : ACalls Tryz.prog 37 [.nils] σ fun r σ' => r = .tup [] ∧ σ' = σ := by
  intro base κ Im w vs hs hv
  obtain ⟨u0, hu0, hv0⟩ := hv.get? (i := 0) (a := .nils) rfl
  have hu := hv0.nils_inv
  subst hu
  have hvs : vs = [.slice none 0 0] := by
    have hlen := hv.1
    match vs, hlen with
    | [a], _ => simp at hu0; rw [hu0]
  subst hvs
  refine Calls.mono (Tryz.slices_Sort_string_none none 0 w) ?_
  rintro e' w' ⟨rfl, rfl⟩
  exact ⟨.tup [], σ, .tuple #[], κ, Im, rfl, ⟨rfl, rfl⟩, hs, Grow.refl _ _ _ _, .im _ _ (by first | exact .tup _ _ rfl (fun j h => by simp at h) | constructor <;> simp)⟩
end Go.Proofs.YtjpjmdjjgfllhaaGreatDoor
end
