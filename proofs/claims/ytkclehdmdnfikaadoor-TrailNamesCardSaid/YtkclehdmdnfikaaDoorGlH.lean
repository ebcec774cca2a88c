/- Patterns of one name: the lists without braces that come of one. -/
import Derived.Test.YtkclehdmdnfikaaDoorGlG
set_option linter.unusedSimpArgs false
set_option linter.unusedVariables false
set_option linter.constructorNameAsVariable false
namespace Go.Proofs.YtkclehdmdnfikaaDoor
open Go.Abs Go.Glob
variable {G : Globs}

/-- Rows that lie each for itself. -/
structure RowsAt (σ : Store) (els : List (List AV)) (out : List (List Pc)) : Prop where
  len : els.length = out.length
  at_ : ∀ (j : Nat) (o : List Pc), out[j]? = some o → (els[j]? = some [.nils] ∧ o = []) ∨ ∃ id, els[j]? = some [.row id o.length] ∧ σ[id]? = some (.row 126 5 (encL o) true)
  dist : ∀ (i j id n m : Nat), els[i]? = some [.row id n] → els[j]? = some [.row id m] → i = j

theorem RowsAt.mono {σ σ' : Store} {els : List (List AV)} {out : List (List Pc)} (h : RowsAt σ els out) (hk : ∀ (id : Nat) (l : List (List AV)), σ[id]? = some (.row 126 5 l true) → σ'[id]? = some (.row 126 5 l true)) : RowsAt σ' els out :=
  ⟨h.len, fun j o ho => (h.at_ j o ho).imp id fun ⟨id, h1, h2⟩ => ⟨id, h1, hk _ _ h2⟩, h.dist⟩
theorem RowsAt.nil (σ : Store) : RowsAt σ [] [] := ⟨rfl, fun j o h => by simp at h, fun i j id n m h => by simp at h⟩
/-- One more. -/
theorem RowsAt.snoc {σ : Store} {els : List (List AV)} {out : List (List Pc)} (h : RowsAt σ els out) {id : Nat} {o : List Pc} {n : Nat} (hn : n = o.length) (hid : σ[id]? = some (.row 126 5 (encL o) true)) (hf : ∀ (j n : Nat), els[j]? ≠ some [.row id n]) : RowsAt σ (els ++ [[.row id n]]) (out ++ [o]) := by
  subst hn
  have hl := h.len
  refine ⟨by simp [hl], fun j x hx => ?_, fun i j id' n m h1 h2 => ?_⟩
  · by_cases hj : j < out.length
    · rw [List.getElem?_append_left hj] at hx
      rw [List.getElem?_append_left (by omega)]
      exact h.at_ j x hx
    · rw [List.getElem?_append_right (by omega)] at hx ⊢
      have : j - out.length = 0 := by
        have := (List.getElem?_eq_some_iff.1 hx).1
        simp at this; omega
      rw [this] at hx
      simp at hx; subst hx
      rw [show j - els.length = 0 by omega]
      exact .inr ⟨id, rfl, hid⟩
  · have key : ∀ (i n : Nat), (els ++ [[AV.row id o.length]])[i]? = some [.row id' n] → (i < els.length ∧ els[i]? = some [.row id' n]) ∨ (i = els.length ∧ id' = id) := fun i n hi => by
      by_cases hlt : i < els.length
      · rw [List.getElem?_append_left hlt] at hi; exact .inl ⟨hlt, hi⟩
      · rw [List.getElem?_append_right (by omega)] at hi
        have h0 : i - els.length = 0 := by
          have := (List.getElem?_eq_some_iff.1 hi).1
          simp at this; omega
        rw [h0] at hi
        simp at hi
        exact .inr ⟨by omega, hi.1.symm⟩
    rcases key i n h1 with ⟨a1, a2⟩ | ⟨a1, a2⟩ <;> rcases key j m h2 with ⟨b1, b2⟩ | ⟨b1, b2⟩
    · exact h.dist _ _ _ _ _ a2 b2
    · subst b2; exact absurd a2 (hf _ _)
    · subst a2; exact absurd b2 (hf _ _)
    · omega
theorem RowsAt.ent {σ : Store} {els : List (List AV)} {out : List (List Pc)} (h : RowsAt σ els out) {i id n : Nat} (he : els[i]? = some [.row id n]) : ∃ o, out[i]? = some o ∧ n = o.length ∧ σ[id]? = some (.row 126 5 (encL o) true) := by
  have hlt := (List.getElem?_eq_some_iff.1 he).1
  have hlt' : i < out.length := by rw [← h.len]; exact hlt
  obtain ⟨o, ho⟩ : ∃ o, out[i]? = some o := ⟨_, List.getElem?_eq_getElem hlt'⟩
  rcases h.at_ i o ho with ⟨h1, _⟩ | ⟨id', h1, h2⟩
  · rw [he] at h1; simp at h1
  · rw [he] at h1
    simp only [Option.some.injEq, List.cons.injEq, AV.row.injEq, and_true] at h1
    obtain ⟨rfl, rfl⟩ := h1
    exact ⟨o, ho, rfl, h2⟩
/-- One laid anew. -/
theorem RowsAt.put {σ σ' : Store} {els : List (List AV)} {out : List (List Pc)} (h : RowsAt σ els out) {j id : Nat} {o : List Pc} {n : Nat} (hj : j < out.length) (hn : n = o.length) (hid : σ'[id]? = some (.row 126 5 (encL o) true))
    (hother : ∀ (i : Nat) (id' n : Nat) (l : List (List AV)), i ≠ j → els[i]? = some [.row id' n] → σ[id']? = some (.row 126 5 l true) → id' ≠ id ∧ σ'[id']? = some (.row 126 5 l true)) : RowsAt σ' (els.set j [.row id n]) (out.set j o) := by
  subst hn
  have hl := h.len
  refine ⟨by simp [hl], fun i x hx => ?_, fun a b id' n m h1 h2 => ?_⟩
  · by_cases hij : i = j
    · subst hij
      rw [List.getElem?_set_self hj] at hx
      simp only [Option.some.injEq] at hx; subst hx
      rw [List.getElem?_set_self (by omega)]
      exact .inr ⟨id, rfl, hid⟩
    · rw [List.getElem?_set_ne (Ne.symm hij)] at hx ⊢
      rcases h.at_ i x hx with h1 | ⟨id', h1, h2⟩
      · exact .inl h1
      · exact .inr ⟨id', h1, (hother i id' _ _ hij h1 h2).2⟩
  · by_cases ha : a = j <;> by_cases hb : b = j
    · omega
    · subst ha
      rw [List.getElem?_set_self (by omega)] at h1
      rw [List.getElem?_set_ne (Ne.symm hb)] at h2
      simp at h1
      obtain ⟨o', _, _, h3⟩ := h.ent h2
      exact absurd h1.1.symm (hother b id' m _ hb h2 h3).1
    · subst hb
      rw [List.getElem?_set_self (by omega)] at h2
      rw [List.getElem?_set_ne (Ne.symm ha)] at h1
      simp at h2
      obtain ⟨o', _, _, h3⟩ := h.ent h1
      exact absurd h2.1.symm (hother a id' n _ ha h1 h3).1
    · rw [List.getElem?_set_ne (Ne.symm ha)] at h1
      rw [List.getElem?_set_ne (Ne.symm hb)] at h2
      exact h.dist _ _ _ _ _ h1 h2

theorem mapM_at {α β : Type} (f : α → Option β) : ∀ (l : List α) (m : List β), l.length = m.length → (∀ (j : Nat) (b : β), m[j]? = some b → ∃ a, l[j]? = some a ∧ f a = some b) → l.mapM f = some m
  | [], [], _, _ => rfl
  | [], _ :: _, h, _ => by simp at h
  | _ :: _, [], h, _ => by simp at h
  | a :: l, b :: m, h, hj => by
    rw [List.mapM_cons]
    obtain ⟨a', h1, h2⟩ := hj 0 b rfl
    simp at h1; subst h1
    have := mapM_at f l m (by simpa using h) (fun j x hx => by simpa using hj (j + 1) x (by simpa using hx))
    simp [h2, this]
theorem RowsAt.fz {σ : Store} {els : List (List AV)} {out : List (List Pc)} (h : RowsAt σ els out) (m k : Nat) : els.mapM (fun (c : List AV) => c.mapM (Abs.fz σ m (k + 1))) = some (encA out) := by
  refine mapM_at _ _ _ (by rw [h.len, encA_length]) fun j b hb => ?_
  rw [encA_map, List.getElem?_map] at hb
  obtain ⟨o, ho, rfl⟩ := Option.map_eq_some_iff.1 hb
  rcases h.at_ j o ho with ⟨h1, rfl⟩ | ⟨id, h1, h2⟩
  · exact ⟨_, h1, by simp [Abs.fz, encL]⟩
  · exact ⟨_, h1, by simp [Abs.fz, h2, encL_length]⟩

theorem enc_pure (p : Pc) : ∀ x ∈ p.enc, x.pure = true := by
  intro x hx
  simp only [Pc.enc, List.mem_cons, List.not_mem_nil, or_false] at hx
  rcases hx with rfl | rfl | rfl | rfl | rfl <;> simp
theorem encL_pure (l : List Pc) : ∀ c ∈ encL l, c.length = 5 ∧ ∀ x ∈ c, x.pure = true := by
  intro c hc
  rw [encL_map, List.mem_map] at hc
  obtain ⟨p, _, rfl⟩ := hc
  exact ⟨rfl, enc_pure p⟩

/-- What stands in a row of the first i laid anew. -/
def mix (out : List (List Pc)) (p : Pc) (i : Nat) : List (List Pc) := (out.take i).map (· ++ [p]) ++ out.drop i
theorem mix_length (out : List (List Pc)) (p : Pc) (i : Nat) : (mix out p i).length = out.length := by simp [mix]; omega
theorem mix_zero (out : List (List Pc)) (p : Pc) : mix out p 0 = out := by simp [mix]
theorem mix_get {out : List (List Pc)} {p : Pc} {i : Nat} {o : List Pc} (h : out[i]? = some o) : (mix out p i)[i]? = some o := by
  have hlt := (List.getElem?_eq_some_iff.1 h).1
  unfold mix
  rw [List.getElem?_append_right (by simp; omega)]
  simp only [List.length_map, List.length_take, List.getElem?_drop]
  rw [show i + (i - min i out.length) = i by omega]; exact h
theorem mix_set {out : List (List Pc)} {p : Pc} {i : Nat} {o : List Pc} (h : out[i]? = some o) : (mix out p i).set i (o ++ [p]) = mix out p (i + 1) := by
  have hlt := (List.getElem?_eq_some_iff.1 h).1
  unfold mix
  rw [List.take_add_one, h, List.set_append_right _ _ (by simp; omega)]
  have hd := drop_cons h
  rw [hd]
  simp only [List.length_map, List.length_take, Option.toList_some, List.map_append, List.map_cons, List.map_nil]
  rw [show i - min i out.length = 0 by omega]
  simp
theorem mix_end {out : List (List Pc)} {p : Pc} : mix out p out.length = out.map (· ++ [p]) := by simp [mix]

/-- The slice of what has come so far. -/
def Sl (σ₀ σ : Store) (v : AV) (els : List (List AV)) : Prop := (v = .nils ∧ els = []) ∨ ∃ id, σ₀.length ≤ id ∧ v = .row id els.length ∧ σ[id]? = some (.row 84 1 els false)
def Keep (σ₀ σ : Store) : Prop := ∀ (id : Nat) (e : Entry), σ₀[id]? = some e → σ[id]? = some e
theorem Keep.refl (σ : Store) : Keep σ σ := fun _ _ h => h
theorem Keep.more {σ₀ σ t : Store} (h : Keep σ₀ σ) : Keep σ₀ (σ ++ t) := fun id e he => by
  have := h id e he
  rw [List.getElem?_append_left (List.getElem?_eq_some_iff.1 this).1]; exact this
theorem Keep.set {σ₀ σ : Store} (h : Keep σ₀ σ) {id : Nat} (hid : σ₀.length ≤ id) (e : Entry) : Keep σ₀ (σ.set id e) := fun i x hx => by
  have hlt := (List.getElem?_eq_some_iff.1 hx).1
  rw [List.getElem?_set_ne (by omega)]; exact h i x hx
theorem ap_sl {K : AV → Store → Prop} {t : Tg K} {σ₀ σ : Store} {v y : AV} {mels : List (List AV)} {m : List AV} (hs : Sl σ₀ σ v mels) (hkeep : Keep σ₀ σ) (hle : σ₀.length ≤ σ.length) (hv : view σ y = some [m]) (hm : m.length = 1) (hb : mels.length ≤ 1000000)
    (hK : ∀ v' σ', Sl σ₀ σ' v' (mels ++ [m]) → Keep σ₀ σ' → σ₀.length ≤ σ'.length → (∀ (id : Nat) (l : List (List AV)), σ[id]? = some (.row 126 5 l true) → σ'[id]? = some (.row 126 5 l true)) → K v' σ') : ap K t σ 84 1 24 v y := by
  rcases hs with ⟨rfl, rfl⟩ | ⟨id, h1, rfl, h2⟩
  · refine ap_new false [m] hv (by omega) (by simpa using hm) nofun (by simp) (by simp) ?_
    refine hK _ _ (.inr ⟨σ.length, hle, rfl, by simp⟩) hkeep.more (by simp; omega) fun id l h => ?_
    rw [List.getElem?_append_left (List.getElem?_eq_some_iff.1 h).1]; exact h
  · refine ap_row mels [m] false h2 hv (by omega) (by simpa using hm) nofun rfl (by simp; omega) (by simp; omega) ?_
    have hlt := (List.getElem?_eq_some_iff.1 h2).1
    refine hK _ _ (.inr ⟨id, h1, by simp, by rw [List.getElem?_set_self hlt]⟩) (hkeep.set h1 _) (by simpa using hle) fun id' l h => ?_
    rw [List.getElem?_set_ne (by rintro rfl; rw [h2] at h; cases h)]; exact h
theorem Sl.more {σ₀ σ t : Store} {v : AV} {els : List (List AV)} (h : Sl σ₀ σ v els) : Sl σ₀ (σ ++ t) v els := by
  rcases h with h | ⟨id, h1, h2, h3⟩
  · exact .inl h
  · exact .inr ⟨id, h1, h2, by rw [List.getElem?_append_left (List.getElem?_eq_some_iff.1 h3).1]; exact h3⟩
/-- A row's element. -/
theorem RowsAt.elem {σ : Store} {els : List (List AV)} {out : List (List Pc)} (h : RowsAt σ els out) {j : Nat} {o : List Pc} (ho : out[j]? = some o) : ∃ v, els[j]? = some [v] ∧ v.cells = [v] ∧ v.one = true ∧ view σ v = some (encL o) := by
  rcases h.at_ j o ho with ⟨h1, rfl⟩ | ⟨id, h1, h2⟩
  · exact ⟨_, h1, rfl, rfl, by simp [encL]⟩
  · exact ⟨_, h1, rfl, rfl, by simp [h2, encL_length]⟩
end Go.Proofs.YtkclehdmdnfikaaDoor
