/- Contracts over the abstract machine for strings.Builder and slices.Grow, of any program and any numbering. Patterns of one name: parsing. Patterns of  -/
import Derived.Test.YtjpjmdjjgfllhaaGreatDoorAbs2
import Derived.Shelf.Strings.Builder1
import Derived.Shelf.Spec.SlicesGrow
import Derived.Test.YtjpjmdjjgfllhaaGreatDoorLay
import Derived.Lib.Bytealg
import Derived.Test.YtjpjmdjjgfllhaaGreatDoorBn1
set_option linter.unusedSimpArgs false
set_option linter.unusedVariables false
set_option linter.constructorNameAsVariable false
section
namespace Go.Abs
open Go.RowKit Go.Proofs Go.Shelf
variable {G : Globs}
section
variable {P : Program} {ρ : Ren} {σ : Store}
end
end Go.Abs
end
section
namespace Go.Proofs.YtjpjmdjjgfllhaaGreatDoor
open Go.Abs Go.Glob
variable {G : Globs}
def parseAV (x : Except Nat (List Pc)) : AV := match x with
  | .error e => .tup [.lst [], .int .i64 e]
  | .ok l => .tup [.lst (encL l), .int .i64 0]
theorem parse_ok_walk (s : List UInt8) (hs : s.length ≤ 9223372036854775807) : PCalls Tryz.prog n_glob_parse [.str s] (fun r => r = parseAV (parse s)) := by
  refine pcalls_of_awp hmix c_glob_parse rfl ?_
  simp [a_glob_parse]
  by_cases h128 : 128 < s.length
  · have h128' : (128 : Int) < s.length := by omega
    simp [h128, h128', parse, parseAV]
  · have h128' : ¬ (128 : Int) < s.length := by omega
    simp [h128, h128']
    have hP := pieces_ok (G := G) (s.length - 0) [PV s 0 false 0 0] 0 s 0 0 0 (2 * s.length + 2) (by simp) (by omega) rfl (by omega) (by omega) (by omega) (by omega) (by omega)
    simp only [List.set_cons_zero, List.drop_zero] at hP
    have hP' := hP
    simp only [PV] at hP'
    refine ac_eff hP' ?_
    rintro r σ' hr
    unfold PieceR at hr
    unfold parse
    rw [if_neg h128]
    cases hp : pcs (2 * s.length + 2) s with
    | none =>
      rw [hp] at hr
      obtain ⟨els, k, dp, hk, rfl, rfl⟩ := hr
      simp [PV, parseAV]
    | some v =>
      obtain ⟨l, r', d⟩ := v
      rw [hp] at hr
      obtain ⟨rfl, rfl⟩ := hr
      simp [PV]
      have hsz := (pcs_size _).1 _ _ _ _ hp
      have hrl : r'.length ≤ s.length := by omega
      by_cases h0 : s = []
      · simp [h0, parseAV]
      have h0' : s ≠ [] := h0
      by_cases hr0 : r' = []
      · subst hr0
        simp [h0]
        by_cases hd : 4 < d
        · have hd' : (4 : Int) < (d : Int) := by omega
          simp [h0, hd, hd', parseAV]
        · have hd' : ¬ (4 : Int) < (d : Int) := by omega
          simp [hd, hd']
          refine ac_same (count_ok (szL l) l (Nat.le_refl _) (by omega)) (by simp) ?_
          rintro r rfl
          by_cases hc : 64 < cnt 1 l
          · have hc' : (64 : Int) < (cnt 1 l : Nat) := by omega
            simp [h0, hd, hc, hc', parseAV]
          · have hc' : ¬ (64 : Int) < (cnt 1 l : Nat) := by omega
            simp [h0, hd, hc, hc', parseAV]
      · have hl : 0 < r'.length := List.length_pos_iff.2 hr0
        have hlt : s.length - r'.length < s.length := by omega
        simp [h0, hr0, hlt, parseAV]
theorem view_more {σ t : Store} {x : AV} {m : List (List AV)} (h : view σ x = some m) : view (σ ++ t) x = some m := by
  cases x <;> simp only [view] at h ⊢ <;> try exact h
  all_goals
    split at h
    · rename_i he
      have hlt := (List.getElem?_eq_some_iff.1 he).1
      rw [List.getElem?_append_left hlt, he]
      exact h
    · cases h
theorem grow_ok {σ : Store} {n : Nat} (hn : n ≤ 1000000000) : ACalls Tryz.prog n_slices_Grow_glob_piece_glob_piece [.nils, .int .i64 n] σ (fun r σ' => r = .row σ.length 0 ∧ σ' = σ ++ [.row 150 5 [] true]) := by
  have hk : (Tryz.prog.info? (Tryz.laysGP_ren.t 25)).map (fun i => (i.size, i.bytes, i.zero.map fun z => z.cells.size)) = some (5, 80, some 5) := by kernel_rfl
  obtain ⟨i0, hi0, hk⟩ := Option.map_eq_some_iff.1 hk
  simp only [Prod.mk.injEq] at hk
  obtain ⟨h1, h3, hk⟩ := hk
  obtain ⟨z, hz, h2⟩ := Option.map_eq_some_iff.1 hk
  have := grow_nil_ok (G := G) (σ := σ) Tryz.laysGP i0 z hi0 hz (by omega) (by omega) true (n := n) (by rw [h3]; omega) (by omega)
  rw [h1] at this
  exact this
theorem concat_ok {σ : Store} {rid e : Nat} {x y : AV} {mx my : List (List AV)} (hrow : σ[rid]? = some (.row e 1 [[x], [y]] false)) (hx : view σ x = some mx) (hy : view σ y = some my) (hxp : ∀ c ∈ mx, c.length = 5 ∧ ∀ v ∈ c, v.pure = true) (hyp : ∀ c ∈ my, c.length = 5 ∧ ∀ v ∈ c, v.pure = true)
    (hxl : mx.length ≤ 1000000) (hyl : my.length ≤ 1000000) :
    ACalls Tryz.prog n_slices_Concat_glob_piece_glob_piece [.row rid 2] σ (fun r σ' => r = .row σ.length (mx.length + my.length) ∧ σ' = σ ++ [.row 150 5 (mx ++ my) true]) := by
  refine acalls_of_awp_e hmix c_slices_Concat_glob_piece_glob_piece rfl ?_
  simp [a_slices_Concat_glob_piece_glob_piece, hrow]
  let L : Nat → Nat := fun i => if i = 0 then 0 else if i = 1 then mx.length else mx.length + my.length
  let A : Nat → List (List AV) := fun i => if i = 0 then [] else if i = 1 then mx else mx ++ my
  refine lp_startx (fun n f σ' => ∃ i : Nat, n = 2 - i ∧ i ≤ 2 ∧ f 0 = .row rid 2 ∧ f 9 = .row rid 2 ∧ f 10 = .int .i64 2 ∧ f 11 = .int .i64 i ∧ f 3 = .int .i64 (L i) ∧ σ = σ') 2 ⟨0, rfl, by omega, by simp, by simp, by simp, by simp, by simp [L], rfl⟩ ?_
  rintro n f σ' ⟨i, rfl, hi, h0, h9, h10, h11, h3, rfl⟩
  have hi3 : i = 0 ∨ i = 1 ∨ i = 2 := by omega
  rcases hi3 with rfl | rfl | rfl
  · have hw : IntKind.i64.wrap (mx.length : Int) = mx.length := wrap_i64 (by omega) (by omega)
    have hn : ¬ ((mx.length : Int) < 0) := by omega
    simp [h9, h10, h11, h3, hrow, hx, L, hw, hn]
    exact nx_intro 1 (by omega) ⟨1, rfl, by omega, by simp [h0], by simp [h9], by simp [h10], by simp [wrap_i64], by simp [L], rfl⟩
  · have hw : IntKind.i64.wrap ((mx.length : Int) + my.length) = (mx.length : Int) + my.length := wrap_i64 (by omega) (by omega)
    have hn : ¬ ((mx.length : Int) + my.length < 0) := by omega
    simp [h9, h10, h11, h3, hrow, hy, L, hw, hn]
    exact nx_intro 0 (by omega) ⟨2, rfl, by omega, by simp [h0], by simp [h9], by simp [h10], by simp [wrap_i64], by simp [L], rfl⟩
  · simp [h9, h10, h11, h3, L]
    have hg := grow_ok (G := G) (σ := σ) (n := mx.length + my.length) (by omega)
    simp only [Int.natCast_add] at hg
    refine ac_eff hg ?_
    rintro r σ' ⟨rfl, rfl⟩
    have hlt := (List.getElem?_eq_some_iff.1 hrow).1
    have hrow' : ∀ t : Store, (σ ++ t)[rid]? = some (.row e 1 [[x], [y]] false) := fun t => by rw [List.getElem?_append_left hlt]; exact hrow
    simp [h0, hrow']
    clear h9 h10 h11 h3
    refine lp_startx (fun n f σ' => ∃ i : Nat, n = 2 - i ∧ i ≤ 2 ∧ f 25 = .row rid 2 ∧ f 26 = .int .i64 2 ∧ f 27 = .int .i64 i ∧ f 6 = .row σ.length (A i).length ∧ σ' = σ ++ [.row 150 5 (A i) true]) 2 ⟨0, rfl, by omega, by simp [h0], by simp, by simp, by simp [A], by simp [A]⟩ ?_
    rintro n f σ' ⟨i, rfl, hi, h25, h26, h27, h6, rfl⟩
    have hi3 : i = 0 ∨ i = 1 ∨ i = 2 := by omega
    have hx' : ∀ t, view (σ ++ t) x = some mx := fun t => view_more hx
    have hy' : ∀ t, view (σ ++ t) y = some my := fun t => view_more hy
    rcases hi3 with rfl | rfl | rfl
    · simp [h25, h26, h27, h6, hrow', A]
      refine ap_row [] mx true (by simp) (hx' _) (by omega) (fun c hc => (hxp c hc).1) (fun _ => .inr fun c hc v hv => (hxp c hc).2 v hv) rfl (by omega) (by omega) ?_
      simp [h25, h26, h27]
      exact nx_intro 1 (by omega) ⟨1, rfl, by omega, by simp [h25], by simp [h26], by simp [wrap_i64], by simp [A], by simp [A]⟩
    · simp [h25, h26, h27, h6, hrow', A]
      refine ap_row mx my true (by simp) (hy' _) (by omega) (fun c hc => (hyp c hc).1) (fun _ => .inr fun c hc v hv => (hyp c hc).2 v hv) rfl (by omega) (by omega) ?_
      simp [h25, h26, h27]
      exact nx_intro 0 (by omega) ⟨2, rfl, by omega, by simp [h25], by simp [h26], by simp [wrap_i64], by simp [A], by simp [A]⟩
    · simp [h25, h26, h27, h6, hrow', A]
      have hv : A 2 = mx ++ my := by simp [A]
      refine er_keep (σ ++ [.row 150 5 (mx ++ my) true]) (.row σ.length (mx.length + my.length)) ?_ [] (by simp) (by simp) (by simp) (fun i x hx => ?_) ⟨rfl, rfl⟩
      · simp
      · by_cases hlt2 : i < σ.length
        · rw [List.getElem?_append_left hlt2] at hx; exact .inl hx
        · right
          have hi2 : i = σ.length := by have := (List.getElem?_eq_some_iff.1 hx).1; simp at this; omega
          subst hi2
          simp at hx
          subst hx
          simp only [Entry.under, List.all_eq_true, List.mem_append]
          rintro c (hc | hc) v hv
          · exact pure_under _ ((hxp c hc).2 v hv)
          · exact pure_under _ ((hyp c hc).2 v hv)
end Go.Proofs.YtjpjmdjjgfllhaaGreatDoor
end
section
namespace Go.Proofs.YtjpjmdjjgfllhaaGreatDoor
open Go.Abs Go.Glob
variable {G : Globs}
/-- Rows that lie each for itself. -/
structure RowsAt (σ : Store) (els : List (List AV)) (out : List (List Pc)) : Prop where
  len : els.length = out.length
  at_ : ∀ (j : Nat) (o : List Pc), out[j]? = some o → (els[j]? = some [.nils] ∧ o = []) ∨ ∃ id, els[j]? = some [.row id o.length] ∧ σ[id]? = some (.row 150 5 (encL o) true)
  dist : ∀ (i j id n m : Nat), els[i]? = some [.row id n] → els[j]? = some [.row id m] → i = j
theorem RowsAt.mono {σ σ' : Store} {els : List (List AV)} {out : List (List Pc)} (h : RowsAt σ els out) (hk : ∀ (id : Nat) (l : List (List AV)), σ[id]? = some (.row 150 5 l true) → σ'[id]? = some (.row 150 5 l true)) : RowsAt σ' els out :=
  ⟨h.len, fun j o ho => (h.at_ j o ho).imp id fun ⟨id, h1, h2⟩ => ⟨id, h1, hk _ _ h2⟩, h.dist⟩
theorem RowsAt.nil (σ : Store) : RowsAt σ [] [] := ⟨rfl, fun j o h => by simp at h, fun i j id n m h => by simp at h⟩
/-- One more. -/
theorem RowsAt.snoc {σ : Store} {els : List (List AV)} {out : List (List Pc)} (h : RowsAt σ els out) {id : Nat} {o : List Pc} {n : Nat} (hn : n = o.length) (hid : σ[id]? = some (.row 150 5 (encL o) true)) (hf : ∀ (j n : Nat), els[j]? ≠ some [.row id n]) : RowsAt σ (els ++ [[.row id n]]) (out ++ [o]) := by
  subst hn
  have hl := h.len
  refine ⟨by simp [hl], fun j x hx => ?_, fun i j id' n m h1 h2 => ?_⟩
  · by_cases hj : j < out.length
    · rw [List.getElem?_append_left hj] at hx
      rw [List.getElem?_append_left (by omega)]
      exact h.at_ j x hx
    · rw [List.getElem?_append_right (by omega)] at hx ⊢
      have : j - out.length = 0 := by
        have := (List.getElem?_eq_some_iff.1 hx).1
        simp at this; omega
      rw [this] at hx
      simp at hx; subst hx
      rw [show j - els.length = 0 by omega]
      exact .inr ⟨id, rfl, hid⟩
  · have key : ∀ (i n : Nat), (els ++ [[AV.row id o.length]])[i]? = some [.row id' n] → (i < els.length ∧ els[i]? = some [.row id' n]) ∨ (i = els.length ∧ id' = id) := fun i n hi => by
      by_cases hlt : i < els.length
      · rw [List.getElem?_append_left hlt] at hi; exact .inl ⟨hlt, hi⟩
      · rw [List.getElem?_append_right (by omega)] at hi
        have h0 : i - els.length = 0 := by
          have := (List.getElem?_eq_some_iff.1 hi).1
          simp at this; omega
        rw [h0] at hi
        simp at hi
        exact .inr ⟨by omega, hi.1.symm⟩
    rcases key i n h1 with ⟨a1, a2⟩ | ⟨a1, a2⟩ <;> rcases key j m h2 with ⟨b1, b2⟩ | ⟨b1, b2⟩
    · exact h.dist _ _ _ _ _ a2 b2
    · subst b2; exact absurd a2 (hf _ _)
    · subst a2; exact absurd b2 (hf _ _)
    · omega
theorem RowsAt.ent {σ : Store} {els : List (List AV)} {out : List (List Pc)} (h : RowsAt σ els out) {i id n : Nat} (he : els[i]? = some [.row id n]) : ∃ o, out[i]? = some o ∧ n = o.length ∧ σ[id]? = some (.row 150 5 (encL o) true) := by
  have hlt := (List.getElem?_eq_some_iff.1 he).1
  have hlt' : i < out.length := by rw [← h.len]; exact hlt
  obtain ⟨o, ho⟩ : ∃ o, out[i]? = some o := ⟨_, List.getElem?_eq_getElem hlt'⟩
  rcases h.at_ i o ho with ⟨h1, _⟩ | ⟨id', h1, h2⟩
  · rw [he] at h1; simp at h1
  · rw [he] at h1
    simp only [Option.some.injEq, List.cons.injEq, AV.row.injEq, and_true] at h1
    obtain ⟨rfl, rfl⟩ := h1
    exact ⟨o, ho, rfl, h2⟩
/-- One laid anew. -/
theorem RowsAt.put {σ σ' : Store} {els : List (List AV)} {out : List (List Pc)} (h : RowsAt σ els out) {j id : Nat} {o : List Pc} {n : Nat} (hj : j < out.length) (hn : n = o.length) (hid : σ'[id]? = some (.row 150 5 (encL o) true))
    (hother : ∀ (i : Nat) (id' n : Nat) (l : List (List AV)), i ≠ j → els[i]? = some [.row id' n] → σ[id']? = some (.row 150 5 l true) → id' ≠ id ∧ σ'[id']? = some (.row 150 5 l true)) : RowsAt σ' (els.set j [.row id n]) (out.set j o) := by
  subst hn
  have hl := h.len
  refine ⟨by simp [hl], fun i x hx => ?_, fun a b id' n m h1 h2 => ?_⟩
  · by_cases hij : i = j
    · subst hij
      rw [List.getElem?_set_self hj] at hx
      simp only [Option.some.injEq] at hx; subst hx
      rw [List.getElem?_set_self (by omega)]
      exact .inr ⟨id, rfl, hid⟩
    · rw [List.getElem?_set_ne (Ne.symm hij)] at hx ⊢
      rcases h.at_ i x hx with h1 | ⟨id', h1, h2⟩
      · exact .inl h1
      · exact .inr ⟨id', h1, (hother i id' _ _ hij h1 h2).2⟩
  · by_cases ha : a = j <;> by_cases hb : b = j
    · omega
    · subst ha
      rw [List.getElem?_set_self (by omega)] at h1
      rw [List.getElem?_set_ne (Ne.symm hb)] at h2
      simp at h1
      obtain ⟨o', _, _, h3⟩ := h.ent h2
      exact absurd h1.1.symm (hother b id' m _ hb h2 h3).1
    · subst hb
      rw [List.getElem?_set_self (by omega)] at h2
      rw [List.getElem?_set_ne (Ne.symm ha)] at h1
      simp at h2
      obtain ⟨o', _, _, h3⟩ := h.ent h1
      exact absurd h2.1.symm (hother a id' n _ ha h1 h3).1
    · rw [List.getElem?_set_ne (Ne.symm ha)] at h1
      rw [List.getElem?_set_ne (Ne.symm hb)] at h2
      exact h.dist _ _ _ _ _ h1 h2
theorem mapM_at {α β : Type} (f : α → Option β) : ∀ (l : List α) (m : List β), l.length = m.length → (∀ (j : Nat) (b : β), m[j]? = some b → ∃ a, l[j]? = some a ∧ f a = some b) → l.mapM f = some m
  | [], [], _, _ => rfl
  | [], _ :: _, h, _ => by simp at h
  | _ :: _, [], h, _ => by simp at h
  | a :: l, b :: m, h, hj => by
    rw [List.mapM_cons]
    obtain ⟨a', h1, h2⟩ := hj 0 b rfl
    simp at h1; subst h1
    have := mapM_at f l m (by simpa using h) (fun j x hx => by simpa using hj (j + 1) x (by simpa using hx))
    simp [h2, this]
theorem RowsAt.fz {σ : Store} {els : List (List AV)} {out : List (List Pc)} (h : RowsAt σ els out) (m k : Nat) : els.mapM (fun (c : List AV) => c.mapM (Abs.fz σ m (k + 1))) = some (encA out) := by
  refine mapM_at _ _ _ (by rw [h.len, encA_length]) fun j b hb => ?_
  rw [encA_map, List.getElem?_map] at hb
  obtain ⟨o, ho, rfl⟩ := Option.map_eq_some_iff.1 hb
  rcases h.at_ j o ho with ⟨h1, rfl⟩ | ⟨id, h1, h2⟩
  · exact ⟨_, h1, by simp [Abs.fz, encL]⟩
  · exact ⟨_, h1, by simp [Abs.fz, h2, encL_length]⟩
theorem enc_pure (p : Pc) : ∀ x ∈ p.enc, x.pure = true := by
  intro x hx
  simp only [Pc.enc, List.mem_cons, List.not_mem_nil, or_false] at hx
  rcases hx with rfl | rfl | rfl | rfl | rfl <;> simp
theorem encL_pure (l : List Pc) : ∀ c ∈ encL l, c.length = 5 ∧ ∀ x ∈ c, x.pure = true := by
  intro c hc
  rw [encL_map, List.mem_map] at hc
  obtain ⟨p, _, rfl⟩ := hc
  exact ⟨rfl, enc_pure p⟩
/-- What stands in a row of the first i laid anew. -/
def mix (out : List (List Pc)) (p : Pc) (i : Nat) : List (List Pc) := (out.take i).map (· ++ [p]) ++ out.drop i
theorem mix_length (out : List (List Pc)) (p : Pc) (i : Nat) : (mix out p i).length = out.length := by simp [mix]; omega
theorem mix_zero (out : List (List Pc)) (p : Pc) : mix out p 0 = out := by simp [mix]
theorem mix_get {out : List (List Pc)} {p : Pc} {i : Nat} {o : List Pc} (h : out[i]? = some o) : (mix out p i)[i]? = some o := by
  have hlt := (List.getElem?_eq_some_iff.1 h).1
  unfold mix
  rw [List.getElem?_append_right (by simp; omega)]
  simp only [List.length_map, List.length_take, List.getElem?_drop]
  rw [show i + (i - min i out.length) = i by omega]; exact h
theorem mix_set {out : List (List Pc)} {p : Pc} {i : Nat} {o : List Pc} (h : out[i]? = some o) : (mix out p i).set i (o ++ [p]) = mix out p (i + 1) := by
  have hlt := (List.getElem?_eq_some_iff.1 h).1
  unfold mix
  rw [List.take_add_one, h, List.set_append_right _ _ (by simp; omega)]
  have hd := drop_cons h
  rw [hd]
  simp only [List.length_map, List.length_take, Option.toList_some, List.map_append, List.map_cons, List.map_nil]
  rw [show i - min i out.length = 0 by omega]
  simp
theorem mix_end {out : List (List Pc)} {p : Pc} : mix out p out.length = out.map (· ++ [p]) := by simp [mix]
/-- The slice of what has come so far. -/
def Sl (σ₀ σ : Store) (v : AV) (els : List (List AV)) : Prop := (v = .nils ∧ els = []) ∨ ∃ id, σ₀.length ≤ id ∧ v = .row id els.length ∧ σ[id]? = some (.row 117 1 els false)
def Keep (σ₀ σ : Store) : Prop := ∀ (id : Nat) (e : Entry), σ₀[id]? = some e → σ[id]? = some e
theorem Keep.refl (σ : Store) : Keep σ σ := fun _ _ h => h
theorem Keep.more {σ₀ σ t : Store} (h : Keep σ₀ σ) : Keep σ₀ (σ ++ t) := fun id e he => by
  have := h id e he
  rw [List.getElem?_append_left (List.getElem?_eq_some_iff.1 this).1]; exact this
theorem Keep.set {σ₀ σ : Store} (h : Keep σ₀ σ) {id : Nat} (hid : σ₀.length ≤ id) (e : Entry) : Keep σ₀ (σ.set id e) := fun i x hx => by
  have hlt := (List.getElem?_eq_some_iff.1 hx).1
  rw [List.getElem?_set_ne (by omega)]; exact h i x hx
theorem ap_sl {K : AV → Store → Prop} {t : Tg K} {σ₀ σ : Store} {v y : AV} {mels : List (List AV)} {m : List AV} (hs : Sl σ₀ σ v mels) (hkeep : Keep σ₀ σ) (hle : σ₀.length ≤ σ.length) (hv : view σ y = some [m]) (hm : m.length = 1) (hb : mels.length ≤ 1000000)
    (hK : ∀ v' σ', Sl σ₀ σ' v' (mels ++ [m]) → Keep σ₀ σ' → σ₀.length ≤ σ'.length → (∀ (id : Nat) (l : List (List AV)), σ[id]? = some (.row 150 5 l true) → σ'[id]? = some (.row 150 5 l true)) → K v' σ') : ap K t σ 117 1 24 v y := by
  rcases hs with ⟨rfl, rfl⟩ | ⟨id, h1, rfl, h2⟩
  · refine ap_new false [m] hv (by omega) (by simpa using hm) nofun (by simp) (by simp) ?_
    refine hK _ _ (.inr ⟨σ.length, hle, rfl, by simp⟩) hkeep.more (by simp; omega) fun id l h => ?_
    rw [List.getElem?_append_left (List.getElem?_eq_some_iff.1 h).1]; exact h
  · refine ap_row mels [m] false h2 hv (by omega) (by simpa using hm) nofun rfl (by simp; omega) (by simp; omega) ?_
    have hlt := (List.getElem?_eq_some_iff.1 h2).1
    refine hK _ _ (.inr ⟨id, h1, by simp, by rw [List.getElem?_set_self hlt]⟩) (hkeep.set h1 _) (by simpa using hle) fun id' l h => ?_
    rw [List.getElem?_set_ne (by rintro rfl; rw [h2] at h; cases h)]; exact h
theorem Sl.more {σ₀ σ t : Store} {v : AV} {els : List (List AV)} (h : Sl σ₀ σ v els) : Sl σ₀ (σ ++ t) v els := by
  rcases h with h | ⟨id, h1, h2, h3⟩
  · exact .inl h
  · exact .inr ⟨id, h1, h2, by rw [List.getElem?_append_left (List.getElem?_eq_some_iff.1 h3).1]; exact h3⟩
/-- A row's element. -/
theorem RowsAt.elem {σ : Store} {els : List (List AV)} {out : List (List Pc)} (h : RowsAt σ els out) {j : Nat} {o : List Pc} (ho : out[j]? = some o) : ∃ v, els[j]? = some [v] ∧ v.cells = [v] ∧ v.one = true ∧ view σ v = some (encL o) := by
  rcases h.at_ j o ho with ⟨h1, rfl⟩ | ⟨id, h1, h2⟩
  · exact ⟨_, h1, rfl, rfl, by simp [encL]⟩
  · exact ⟨_, h1, rfl, rfl, by simp [h2, encL_length]⟩
end Go.Proofs.YtjpjmdjjgfllhaaGreatDoor
end
section
namespace Go.Proofs.YtjpjmdjjgfllhaaGreatDoor
open Go.Abs Go.Glob
variable {G : Globs}
/-- The slots of the innermost loop. -/
def S8 : List Nat := [7, 13, 56, 57, 58, 59, 60, 61, 62, 63, 64, 65, 66, 67]
def S6 : List Nat := [7, 11, 13, 49, 50, 51, 52, 53, 54, 55, 56, 57, 58, 59, 60, 61, 62, 63, 64, 65, 66, 67, 68]
def S4 : List Nat := [7, 9, 11, 13, 42, 43, 44, 45, 46, 47, 48, 49, 50, 51, 52, 53, 54, 55, 56, 57, 58, 59, 60, 61, 62, 63, 64, 65, 66, 67, 68, 69]
theorem flat_take {α β : Type} {l : List α} {i : Nat} {a : α} (g : α → List β) (h : l[i]? = some a) : (l.take (i + 1)).flatMap g = (l.take i).flatMap g ++ g a := by
  rw [List.take_add_one, h]; simp
theorem expand_ok : ∀ (N : Nat) (l : List Pc), szL l ≤ N → N ≤ 1000000 → neL l → cnt 1 l ≤ 64 → PCalls Tryz.prog n_glob_expand [.lst (encL l)] (fun r => r = .lst (encA (expd [[]] l))) := by
  intro N
  induction N using Nat.strongRecOn with
  | _ N ih =>
  intro l hl hN hne hcn
  have hll := szL_length l
  refine pcalls_of_awp hmix c_glob_expand rfl ?_
  simp [a_glob_expand, encL_length]
  refine lp_startx (fun x f σ => ∃ (i : Nat) (out : List (List Pc)) (els : List (List AV)) (oid : Nat), x = l.length - i ∧ i ≤ l.length ∧ f 15 = .lst (encL l) ∧ f 16 = .int .i64 l.length ∧ f 17 = .int .i64 i ∧ f 3 = .row oid out.length ∧ σ[oid]? = some (.row 117 1 els false) ∧
    RowsAt σ els out ∧ expd out (l.drop i) = expd [[]] l ∧ cnt out.length (l.drop i) = cnt 1 l ∧ 1 ≤ out.length ∧ (∀ o ∈ out, o.length + szL (l.drop i) ≤ szL l)) l.length ?_ ?_
  · refine ⟨0, [[]], [[.nils]], 0, rfl, by omega, by simp, by simp, by simp, by simp, by simp, ⟨rfl, fun j o h => ?_, fun i j id n m h => ?_⟩, rfl, rfl, by simp, by simp⟩
    · match j with
      | 0 => simp at h; exact .inl ⟨rfl, h⟩
      | j + 1 => simp at h
    · match i with
      | 0 => simp at h
      | i + 1 => simp at h
  rintro x f σ ⟨i, out, els, oid, rfl, hi, h15, h16, h17, h3, hoid, hrows, hex, hcnt, hout1, hlens⟩
  have hlen := hrows.len
  have hneD := neL_drop i hne
  have hout64 : out.length ≤ 64 := by
    by_cases h65 : out.length ≤ 65
    · have := cnt_ge (l.drop i) out.length hneD hout1 h65; omega
    · exfalso
      have : ∀ (l : List Pc) (n : Nat), neL l → 65 ≤ n → 65 ≤ cnt n l := by
        intro l
        induction l with
        | nil => intro n _ h; simpa [cnt] using h
        | cons p l ihl =>
          intro n hn h
          by_cases hk : p.kind = 4
          · rw [kind4 hk] at hn ⊢
            simp only [neL] at hn
            simp only [cnt]
            have hx := cntA_ge p.alts 0 hn.2.1 (by omega)
            have hp : 1 ≤ cntA 0 p.alts := by have := List.length_pos_iff.2 hn.1; omega
            have := Nat.mul_le_mul_left n hp
            exact ihl _ hn.2.2 (by omega)
          · rw [cnt_other hk]
            exact ihl n (by simpa using neL_drop 1 hn) h
      have := this (l.drop i) out.length hneD (by omega)
      omega
  simp [h16, h17]
  refine cb_dec (fun hlt => ?_) (fun hge => ?_)
  · have hlt' : i < l.length := by omega
    obtain ⟨p, hp⟩ : ∃ p, l[i]? = some p := ⟨_, List.getElem?_eq_getElem hlt'⟩
    have hm : p ∈ l := List.mem_of_getElem? hp
    have hd := drop_cons hp
    obtain ⟨hx, hga⟩ := List.getElem?_eq_some_iff.1 (encL_get hp)
    have hoidlt := (List.getElem?_eq_some_iff.1 hoid).1
    rw [hd] at hex hcnt hlens hneD
    have he5 : p.enc.length = 5 := rfl
    have hp5 : (∀ (x : AV), x ∈ p.enc → x.one = true) ↔ True := by
      refine iff_true_intro fun x hx => ?_
      simp only [Pc.enc, List.mem_cons, List.not_mem_nil, or_false] at hx
      rcases hx with rfl | rfl | rfl | rfl | rfl <;> rfl
    have hwi : IntKind.i64.wrap ((i : Int) + 1) = (i : Int) + 1 := wrap_i64 (by omega) (by omega)
    have ht5 : List.take 5 p.enc = p.enc := rfl
    have ht1 : List.take 1 p.enc = [.int .i64 p.kind] := rfl
    have ht3 : List.take 1 (List.drop 3 p.enc) = [.lst (encA p.alts)] := rfl
    simp [h15, h17, encL_get hp, hga, he5, ht5, hp5, ht1]
    by_cases hk : p.kind = 4
    · have hp4 := kind4 hk
      have hszm := szL_mem (hp4 ▸ hm)
      have hnem := neL_mem hne (hp4 ▸ hm)
      rw [hp4] at hex hcnt hlens hneD
      rw [expd_cons_br] at hex
      simp only [cnt] at hcnt
      simp only [neL] at hneD
      -- how many
      have hx1 := cntA_ge p.alts 0 hneD.2.1 (by omega)
      have hx2 : 1 ≤ cntA 0 p.alts := by have := List.length_pos_iff.2 hneD.1; omega
      have hmul : out.length ≤ out.length * cntA 0 p.alts := by have := Nat.mul_le_mul_left out.length hx2; omega
      have hmul2 : cntA 0 p.alts ≤ out.length * cntA 0 p.alts := by have := Nat.mul_le_mul_right (cntA 0 p.alts) hout1; omega
      have hgg := cnt_ge (l.drop (i + 1)) (min 65 (out.length * cntA 0 p.alts)) hneD.2.2 (by omega) (Nat.min_le_left _ _)
      have hmin : min 65 (out.length * cntA 0 p.alts) = out.length * cntA 0 p.alts := by omega
      have hE64 : cntA 0 p.alts ≤ 64 := by omega
      have hE := expdA_count p.alts 0 hneD.2.1 hE64
      rw [hmin] at hcnt hgg
      have hszx : szA p.alts ≤ N := by omega
      have hal := szA_length p.alts
      have hxlt0 : σ.length < (σ ++ [Entry.var 150 p.enc]).length := by simp
      simp [hk, h3, hoid, hlen, List.getElem?_append_left hoidlt]
      refine lp_gen (fun f0 => f0 3 = .row oid out.length ∧ f0 5 = .ptr σ.length 0 ∧ f0 7 = .nils ∧ f0 15 = .lst (encL l) ∧ f0 16 = .int .i64 l.length ∧ f0 17 = .int .i64 i ∧ f0 40 = .row oid out.length ∧ f0 41 = .int .i64 out.length ∧ f0 42 = .int .i64 0) (by simp [h3, h15, h16, h17]) ?_
      clear h15 h16 h17 h3
      rintro f0 ⟨z3, z5, z7, z15, z16, z17, z40, z41, z42⟩
      have hko : ∀ {σ' : Store}, Keep (σ ++ [Entry.var 150 p.enc]) σ' → σ'[oid]? = some (.row 117 1 els false) ∧ σ'[σ.length]? = some (.var 150 p.enc) ∧ RowsAt σ' els out := fun {σ'} hk => by
        refine ⟨hk _ _ (by rw [List.getElem?_append_left hoidlt]; exact hoid), hk _ _ (by simp), hrows.mono fun id l h => hk _ _ ?_⟩
        rw [List.getElem?_append_left (List.getElem?_eq_some_iff.1 h).1]; exact h
      refine lp_startx (fun x f σ' => ∃ (j : Nat) (mels : List (List AV)) (mout : List (List Pc)), x = out.length - j ∧ j ≤ out.length ∧ (∀ t, ¬ t ∈ S4 → f t = f0 t) ∧ f 42 = .int .i64 j ∧ Sl (σ ++ [.var 150 p.enc]) σ' (f 7) mels ∧ RowsAt σ' mels mout ∧
        mout = (out.take j).flatMap (fun h => (expdA p.alts).map (h ++ ·)) ∧ Keep (σ ++ [.var 150 p.enc]) σ' ∧ (σ ++ [Entry.var 150 p.enc]).length ≤ σ'.length) out.length ?_ ?_
      · exact ⟨0, [], [], rfl, by omega, fun _ _ => rfl, by simpa using z42, .inl ⟨z7, rfl⟩, RowsAt.nil _, by simp, Keep.refl _, Nat.le_refl _⟩
      rintro x f σ' ⟨j, mels, mout, rfl, hj, hf, h42, hsl, hro, rfl, hkp, hle⟩
      obtain ⟨hov, hxv, hrw⟩ := hko hkp
      have h40 := (hf 40 (by decide)).trans z40
      have h41 := (hf 41 (by decide)).trans z41
      have h5 := (hf 5 (by decide)).trans z5
      simp [h41, h42]
      refine cb_dec (fun hjl => ?_) (fun hjg => ?_)
      · have hjl' : j < out.length := by omega
        obtain ⟨h, hh⟩ : ∃ h, out[j]? = some h := ⟨_, List.getElem?_eq_getElem hjl'⟩
        have hmh : h ∈ out := List.mem_of_getElem? hh
        have hhl := hlens h hmh
        obtain ⟨v, hv, hvc, hvo, hvv⟩ := hrw.elem hh
        obtain ⟨hjx, hvx⟩ := List.getElem?_eq_some_iff.1 hv
        have hwj : IntKind.i64.wrap ((j : Int) + 1) = (j : Int) + 1 := wrap_i64 (by omega) (by omega)
        have hvk : ∀ {σ' : Store}, Keep (σ ++ [Entry.var 150 p.enc]) σ' → view σ' v = some (encL h) := fun {σ'} hk => by
          obtain ⟨v', q1, _, _, q4⟩ := (hko hk).2.2.elem hh
          rw [hv] at q1
          simp only [Option.some.injEq, List.cons.injEq, and_true] at q1
          rw [q1]; exact q4
        simp [h40, h41, h42, h5, hov, hlen, hjl', hv, hvx, hxv, ht3, hvc, he5, encA_length]
        refine lp_gen (fun f1 => (∀ t, ¬ t ∈ S4 → f1 t = f0 t) ∧ f1 7 = f 7 ∧ f1 9 = v ∧ f1 42 = .int .i64 j ∧ f1 47 = .lst (encA p.alts) ∧ f1 48 = .int .i64 p.alts.length ∧ f1 49 = .int .i64 0) ⟨fun t ht => ?_, by simp, by simp, by simp [h42], by simp, by simp, by simp⟩ ?_
        · have := hf t ht
          simp only [S4, List.mem_cons, List.not_mem_nil, or_false, not_or] at ht
          simp [ht, this]
        rintro f1 ⟨y0, y7, y9, y42, y47, y48, y49⟩
        rw [← y7] at hsl
        clear hf h40 h41 h42 h5 y7
        have hbase : ((out.take j).flatMap (fun h => (expdA p.alts).map (h ++ ·))).length ≤ 5000 := by
          rw [List.length_flatMap]
          simp only [List.length_map]
          have : ∀ (o : List (List Pc)), (o.map fun _ => (expdA p.alts).length).sum = o.length * (expdA p.alts).length := fun o => by
            induction o with
            | nil => simp
            | cons a o ih => simp only [List.map_cons, List.sum_cons, List.length_cons, ih]; rw [Nat.add_mul]; omega
          rw [this]
          have h1 : (out.take j).length ≤ 64 := by simp; omega
          have := Nat.mul_le_mul h1 (show (expdA p.alts).length ≤ 64 by omega)
          omega
        have hnext : (out.take (j + 1)).flatMap (fun h => (expdA p.alts).map (h ++ ·)) = (out.take j).flatMap (fun h => (expdA p.alts).map (h ++ ·)) ++ (expdA p.alts).map (h ++ ·) := flat_take _ hh
        generalize hB : (out.take j).flatMap (fun h => (expdA p.alts).map (h ++ ·)) = B at hro hbase hnext
        refine lp_startx (fun x f σ' => ∃ (a : Nat) (mels : List (List AV)) (mout : List (List Pc)), x = p.alts.length - a ∧ a ≤ p.alts.length ∧ (∀ t, ¬ t ∈ S6 → f t = f1 t) ∧ f 49 = .int .i64 a ∧ Sl (σ ++ [.var 150 p.enc]) σ' (f 7) mels ∧ RowsAt σ' mels mout ∧
          mout = B ++ (expdA (p.alts.take a)).map (h ++ ·) ∧ Keep (σ ++ [.var 150 p.enc]) σ' ∧ (σ ++ [Entry.var 150 p.enc]).length ≤ σ'.length ∧ view σ' v = some (encL h)) p.alts.length ?_ ?_
        · exact ⟨0, mels, B, rfl, by omega, fun _ _ => rfl, by simpa using y49, hsl, hro, by simp [expdA], hkp, hle, hvv⟩
        clear hsl hro hkp hle hvv hov hxv hrw hv hvx
        rintro x f σ' ⟨a, mels, mout, rfl, ha, hf, h49, hsl, hro, rfl, hkp, hle, hvv⟩
        have h47 := (hf 47 (by decide)).trans y47
        have h48 := (hf 48 (by decide)).trans y48
        have h9 := (hf 9 (by decide)).trans y9
        simp [h48, h49]
        refine cb_dec (fun hal2 => ?_) (fun hag => ?_)
        · have hal' : a < p.alts.length := by omega
          obtain ⟨alt, halt⟩ : ∃ alt, p.alts[a]? = some alt := ⟨_, List.getElem?_eq_getElem hal'⟩
          have hma : alt ∈ p.alts := List.mem_of_getElem? halt
          have hsa := szA_mem hma
          have hna := neA_mem hneD.2.1 hma
          have hca := cntA_mem hneD.2.1 hE64 hma
          have hcE := expd_count alt [[]] hna (by simp) (by simpa using hca)
          have hlE := expd_len alt [[]] 0 (by simp)
          have hwa : IntKind.i64.wrap ((a : Int) + 1) = (a : Int) + 1 := wrap_i64 (by omega) (by omega)
          simp only [List.length_singleton] at hcE
          simp [h47, h48, h49, encA_get halt]
          refine ac_same (ih (szL alt) (by omega) alt (Nat.le_refl _) (by omega) hna hca) (by simp) ?_
          rintro r rfl
          simp [encA_length]
          have hstep : expdA (p.alts.take (a + 1)) = expdA (p.alts.take a) ++ expd [[]] alt := by
            rw [List.take_add_one, halt]; simp [expdA_append, expdA]
          have hpre : (expdA (p.alts.take a)).length ≤ 64 := by
            have : expdA p.alts = expdA (p.alts.take a) ++ expdA (p.alts.drop a) := by rw [← expdA_append, List.take_append_drop]
            have := congrArg List.length this
            simp at this; omega
          generalize hT : expd [[]] alt = T at hcE hlE hstep
          refine lp_gen (fun f2 => (∀ t, ¬ t ∈ S6 → f2 t = f1 t) ∧ f2 7 = f 7 ∧ f2 49 = .int .i64 a ∧ f2 54 = .lst (encA T) ∧ f2 55 = .int .i64 T.length ∧ f2 56 = .int .i64 0) ⟨fun t ht => ?_, by simp, by simp [h49], by simp, by simp, by simp⟩ ?_
          · have := hf t ht
            simp only [S6, List.mem_cons, List.not_mem_nil, or_false, not_or] at ht
            simp [ht, this]
          rintro f2 ⟨w0, w7, w49, w54, w55, w56⟩
          rw [← w7] at hsl
          clear hf h47 h48 h49 h9 w7
          generalize hC : B ++ (expdA (p.alts.take a)).map (h ++ ·) = C at hro
          have hCl : C.length ≤ 5064 := by rw [← hC]; simp; omega
          refine lp_startx (fun x f σ' => ∃ (t : Nat) (mels : List (List AV)) (mout : List (List Pc)), x = T.length - t ∧ t ≤ T.length ∧ (∀ s, ¬ s ∈ S8 → f s = f2 s) ∧ f 56 = .int .i64 t ∧ Sl (σ ++ [.var 150 p.enc]) σ' (f 7) mels ∧ RowsAt σ' mels mout ∧
            mout = C ++ (T.take t).map (h ++ ·) ∧ Keep (σ ++ [.var 150 p.enc]) σ' ∧ (σ ++ [Entry.var 150 p.enc]).length ≤ σ'.length ∧ view σ' v = some (encL h)) T.length ?_ ?_
          · exact ⟨0, mels, C, rfl, by omega, fun _ _ => rfl, by simpa using w56, hsl, hro, by simp, hkp, hle, hvv⟩
          clear hsl hro hkp hle hvv
          rintro x f σ' ⟨t, mels, mout, rfl, ht, hf, h56, hsl, hro, rfl, hkp, hle, hvv⟩
          have h54 := (hf 54 (by decide)).trans w54
          have h55 := (hf 55 (by decide)).trans w55
          have h9 := ((hf 9 (by decide)).trans (w0 9 (by decide))).trans y9
          simp [h55, h56]
          refine cb_dec (fun htl => ?_) (fun htg => ?_)
          · have htl' : t < T.length := by omega
            obtain ⟨o, ho⟩ : ∃ o, T[t]? = some o := ⟨_, List.getElem?_eq_getElem htl'⟩
            have hmo : o ∈ T := List.mem_of_getElem? ho
            have hlo := hlE o hmo
            have hwt : IntKind.i64.wrap ((t : Int) + 1) = (t : Int) + 1 := wrap_i64 (by omega) (by omega)
            have hml := hro.len
            simp [h9, h54, h55, h56, encA_get ho, hvc, hvo]
            have hcc := concat_ok (G := G) (σ := σ' ++ [.row 117 1 [[v], [.lst (encL o)]] false]) (rid := σ'.length) (e := 117) (x := v) (y := .lst (encL o)) (mx := encL h) (my := encL o) (by simp) (view_more hvv) rfl (encL_pure h) (encL_pure o) (by rw [encL_length]; omega) (by rw [encL_length]; omega)
            refine ac_eff hcc ?_
            rintro r σ2 ⟨rfl, rfl⟩
            simp
            refine ap_sl (m := [.row (σ'.length + 1) ((encL h).length + (encL o).length)]) hsl.more hkp.more (by simp at hle ⊢; omega) (by simp) rfl (by rw [hml]; simp; omega) ?_
            intro v' σ3 hsl3 hkp3 hle3 hrow3
            have hS : ∀ (id : Nat) (l : List (List AV)), σ'[id]? = some (.row 150 5 l true) → σ3[id]? = some (.row 150 5 l true) := fun id l he => hrow3 _ _ (by rw [List.getElem?_append_left (List.getElem?_eq_some_iff.1 he).1]; exact he)
            have henc : encL (h ++ o) = encL h ++ encL o := by simp [encL_map]
            simp [h56, hwt]
            refine nx_intro (T.length - (t + 1)) (by omega) ⟨t + 1, _, _, rfl, by omega, fun s hs => ?_, by simp, by simpa using hsl3, (hro.mono hS).snoc (o := h ++ o) (n := (encL h).length + (encL o).length) (by simp [encL_length]) (by rw [henc]; exact hrow3 _ _ (by simp)) (fun j n hj => ?_), ?_, hkp3, hle3, hvk hkp3⟩
            · have := hf s hs
              simp only [S8, List.mem_cons, List.not_mem_nil, or_false, not_or] at hs
              simp [hs, this]
            · obtain ⟨o', _, _, q⟩ := hro.ent hj
              have := (List.getElem?_eq_some_iff.1 q).1
              omega
            · rw [List.take_add_one, ho]; simp
          · have et : t = T.length := by omega
            subst et
            have h49' := (hf 49 (by decide)).trans w49
            simp [h49', hwa]
            refine nx_intro (p.alts.length - (a + 1)) (by omega) ⟨a + 1, mels, _, rfl, by omega, fun s hs => ?_, by simp, by simpa using hsl, hro, ?_, hkp, hle, hvk hkp⟩
            · have h1 : ¬ s ∈ S8 := by
                simp only [S6, S8, List.mem_cons, List.not_mem_nil, or_false, not_or] at hs ⊢
                simp [hs]
              have := (hf s h1).trans (w0 s hs)
              simp only [S6, List.mem_cons, List.not_mem_nil, or_false, not_or] at hs
              simp [hs, this]
            · rw [hstep, List.take_length, ← hC]; simp
        · have ea : a = p.alts.length := by omega
          subst ea
          have h42' := (hf 42 (by decide)).trans y42
          simp [h42', hwj]
          refine nx_intro (out.length - (j + 1)) (by omega) ⟨j + 1, mels, _, rfl, by omega, fun s hs => ?_, by simp, by simpa using hsl, hro, ?_, hkp, hle⟩
          · have h1 : ¬ s ∈ S6 := by
              simp only [S4, S6, List.mem_cons, List.not_mem_nil, or_false, not_or] at hs ⊢
              simp [hs]
            have := (hf s h1).trans (y0 s hs)
            simp only [S4, List.mem_cons, List.not_mem_nil, or_false, not_or] at hs
            simp [hs, this]
          · rw [hnext, List.take_length]
      · have ej : j = out.length := by omega
        subst ej
        rw [List.take_length] at hro
        have hlo : (out.flatMap fun h => (expdA p.alts).map (h ++ ·)).length = out.length * cntA 0 p.alts := by
          rw [List.length_flatMap]
          simp only [List.length_map]
          have : ∀ (o : List (List Pc)), (o.map fun _ => (expdA p.alts).length).sum = o.length * (expdA p.alts).length := fun o => by
            induction o with
            | nil => simp
            | cons a o ih => simp only [List.map_cons, List.sum_cons, List.length_cons, ih]; rw [Nat.add_mul]; omega
          rw [this]; congr 1; omega
        rcases hsl with ⟨q1, q2⟩ | ⟨mid, q0, q1, q2⟩
        · exfalso
          have := hro.len
          rw [q2, hlo] at this
          simp at this
          omega
        · have h15 := (hf 15 (by decide)).trans z15
          have h16 := (hf 16 (by decide)).trans z16
          have h17 := (hf 17 (by decide)).trans z17
          have hml := hro.len
          simp [q1, h17, hwi]
          refine nx_intro (l.length - (i + 1)) (by omega) ⟨i + 1, _, mels, mid, rfl, by omega, by simp [h15], by simp [h16], by simp, by simp [hml], q2, hro, hex, ?_, ?_, ?_⟩
          · rw [hlo]; exact hcnt
          · rw [hlo]; omega
          · intro o ho
            obtain ⟨x, hx, hz⟩ := List.mem_flatMap.1 ho
            obtain ⟨y, hy, rfl⟩ := List.mem_map.1 hz
            have r1 := hlens x hx
            have r2 := expdA_len p.alts y hy
            simp only [szL] at r1
            simp; omega
    · have hk1 : ¬ ((p.kind : Int) = 4) := by omega
      simp [hk1, h3, hoid, hlen, List.getElem?_append_left hoidlt]
      refine lp_startx (fun x f σ' => ∃ (j : Nat) (els' : List (List AV)), x = out.length - j ∧ j ≤ out.length ∧ f 15 = .lst (encL l) ∧ f 16 = .int .i64 l.length ∧ f 17 = .int .i64 i ∧ f 3 = .row oid out.length ∧ f 5 = .ptr σ.length 0 ∧ f 25 = .int .i64 out.length ∧ f 26 = .int .i64 j ∧
        σ'[σ.length]? = some (.var 150 p.enc) ∧ σ'[oid]? = some (.row 117 1 els' false) ∧ RowsAt σ' els' (mix out p j)) out.length ?_ ?_
      · refine ⟨0, els, rfl, by omega, by simp [h15], by simp [h16], by simp [h17], by simp [h3], by simp, by simp, by simp, by simp, by rw [List.getElem?_append_left hoidlt]; exact hoid, ?_⟩
        rw [mix_zero]
        exact hrows.mono fun id l h => by rw [List.getElem?_append_left (List.getElem?_eq_some_iff.1 h).1]; exact h
      clear h15 h16 h17 h3
      rintro x f σ' ⟨j, els', rfl, hj, h15, h16, h17, h3, h5, h25, h26, hxv, hov, hro⟩
      have hxlt := (List.getElem?_eq_some_iff.1 hxv).1
      have holt := (List.getElem?_eq_some_iff.1 hov).1
      have hx' : ∀ t : Store, (σ' ++ t)[σ.length]? = some (.var 150 p.enc) := fun t => by rw [List.getElem?_append_left hxlt]; exact hxv
      have ho' : ∀ t : Store, (σ' ++ t)[oid]? = some (.row 117 1 els' false) := fun t => by rw [List.getElem?_append_left holt]; exact hov
      have hs' : ∀ (e : Entry) (t : Store), (σ' ++ t).set oid e = σ'.set oid e ++ t := fun e t => List.set_append_left _ _ holt
      have hel : els'.length = out.length := by rw [hro.len, mix_length]
      simp [h25, h26]
      refine cb_dec (fun hjl => ?_) (fun hjg => ?_)
      · have hjl' : j < out.length := by omega
        obtain ⟨o, ho⟩ : ∃ o, out[j]? = some o := ⟨_, List.getElem?_eq_getElem hjl'⟩
        have hmo : o ∈ out := List.mem_of_getElem? ho
        have hol := hlens o hmo
        have hwj : IntKind.i64.wrap ((j : Int) + 1) = (j : Int) + 1 := wrap_i64 (by omega) (by omega)
        have hgo := mix_get (p := p) ho
        rcases hro.at_ j o hgo with ⟨hv, rfl⟩ | ⟨id, hv, hidv⟩
        · obtain ⟨hjx, hvx⟩ := List.getElem?_eq_some_iff.1 hv
          simp [h3, h5, h25, h26, hov, hel, hjl', hv, hvx, hxv, hx', ho', he5, ht5, hp5]
          refine ap_new true [p.enc] (by simp) (by omega) (by simp [he5]) (fun _ => .inr fun c hc x hx => by simp at hc; subst hc; exact enc_pure p x hx) (by simp) (by simp) ?_
          simp [h3, h5, h25, h26, hov, hel, hjl', hv, hvx, hxv, hx', ho', hs', he5, ht5, hp5, hwj]
          refine nx_intro (out.length - (j + 1)) (by omega) ⟨j + 1, els'.set j [.row (σ'.length + 1) 1], rfl, by omega, by simp [h15], by simp [h16], by simp [h17], by simp [h3], by simp [h5], by simp [h25], by simp, ?_, ?_, ?_⟩
          · rw [List.getElem?_append_left (by simpa using hxlt), List.getElem?_set_ne (by intro e; rw [e] at hoidlt; exact absurd hoidlt (Nat.lt_irrefl _))]; exact hxv
          · rw [List.getElem?_append_left (by simpa using holt), List.getElem?_set_self holt]
          · rw [← mix_set ho]
            refine hro.put (by rw [mix_length]; exact hjl') rfl ?_ ?_
            · rw [List.getElem?_append_right (by simp)]; simp [encL_cons, encL]
            · intro i2 id' n l2 hne he h
              have hlt2 := (List.getElem?_eq_some_iff.1 h).1
              refine ⟨by omega, ?_⟩
              rw [List.getElem?_append_left (by simpa using hlt2), List.getElem?_set_ne (by rintro rfl; rw [hov] at h; cases h)]
              exact h
        · obtain ⟨hjx, hvx⟩ := List.getElem?_eq_some_iff.1 hv
          have hidlt := (List.getElem?_eq_some_iff.1 hidv).1
          have hne1 : id ≠ oid := by rintro rfl; rw [hov] at hidv; cases hidv
          have hne2 : id ≠ σ.length := by rintro rfl; rw [hxv] at hidv; cases hidv
          have hid' : ∀ t : Store, (σ' ++ t)[id]? = some (.row 150 5 (encL o) true) := fun t => by rw [List.getElem?_append_left hidlt]; exact hidv
          have hsi : ∀ (e : Entry) (t : Store), (σ' ++ t).set id e = σ'.set id e ++ t := fun e t => List.set_append_left _ _ hidlt
          have ho2 : ∀ (e : Entry) (t : Store), (σ'.set id e ++ t)[oid]? = some (.row 117 1 els' false) := fun e t => by
            rw [List.getElem?_append_left (by simpa using holt), List.getElem?_set_ne hne1]; exact hov
          have hs2 : ∀ (e e' : Entry) (t : Store), (σ'.set id e ++ t).set oid e' = (σ'.set id e).set oid e' ++ t := fun e e' t => List.set_append_left _ _ (by simpa using holt)
          simp [h3, h5, h25, h26, hov, hel, hjl', hv, hvx, hxv, hx', ho', hs', he5, ht5, hp5, hwj]
          refine ap_row (encL o) [p.enc] true (hid' _) (by simp) (by omega) (by simp [he5]) (fun _ => .inr fun c hc x hx => by simp at hc; subst hc; exact enc_pure p x hx) (encL_length o) (by simp; omega) (by simp; omega) ?_
          simp [h3, h5, h25, h26, hov, hel, hjl', hv, hvx, hxv, hx', ho', hs', he5, ht5, hp5, hwj, hsi, ho2, hs2]
          refine nx_intro (out.length - (j + 1)) (by omega) ⟨j + 1, els'.set j [.row id (o.length + 1)], rfl, by omega, by simp [h15], by simp [h16], by simp [h17], by simp [h3], by simp [h5], by simp [h25], by simp, ?_, ?_, ?_⟩
          · rw [List.getElem?_append_left (by simpa using hxlt), List.getElem?_set_ne (by intro e; rw [e] at hoidlt; exact absurd hoidlt (Nat.lt_irrefl _)), List.getElem?_set_ne hne2]; exact hxv
          · rw [List.getElem?_append_left (by simpa using holt), List.getElem?_set_self (by simpa using holt)]
          · rw [← mix_set ho]
            refine hro.put (by rw [mix_length]; exact hjl') (by simp) ?_ ?_
            · rw [List.getElem?_append_left (by simpa using hidlt), List.getElem?_set_ne hne1.symm, List.getElem?_set_self hidlt]
              simp [encL_map]
            · intro i2 id' n l2 hne he h
              have hlt2 := (List.getElem?_eq_some_iff.1 h).1
              have hdd : id' ≠ id := by
                rintro rfl
                exact hne (hro.dist _ _ _ _ _ he hv)
              refine ⟨hdd, ?_⟩
              rw [List.getElem?_append_left (by simpa using hlt2), List.getElem?_set_ne (by rintro rfl; rw [hov] at h; cases h), List.getElem?_set_ne (Ne.symm hdd)]
              exact h
      · have ej : j = out.length := by omega
        subst ej
        rw [mix_end] at hro
        rw [cnt_other hk] at hcnt
        rw [expd_cons_other hk] at hex
        simp [h17, hwi]
        refine nx_intro (l.length - (i + 1)) (by omega) ⟨i + 1, out.map (· ++ [p]), els', oid, rfl, by omega, by simp [h15], by simp [h16], by simp, by simp [h3], hov, hro, hex, by simpa using hcnt, by simpa using hout1, ?_⟩
        intro o ho
        obtain ⟨o', ho', rfl⟩ := List.mem_map.1 ho
        have := hlens o' ho'
        have hsz : 1 + szL (l.drop (i + 1)) ≤ szL (p :: l.drop (i + 1)) := by cases p <;> simp [szL] <;> omega
        simp; omega
  · have e : l.drop i = [] := List.drop_eq_nil_of_le (by omega)
    rw [e] at hex
    simp only [expd] at hex
    have hz := hrows.fz 0 1
    rw [hex] at hz
    simp [h3, hoid, hlen, hz]
end Go.Proofs.YtjpjmdjjgfllhaaGreatDoor
end
section
namespace Go.Glob
open Go.Abs
theorem encR_inj : ∀ {l m : List (UInt8 × UInt8)}, encRg l = encRg m → l = m
  | [], [], _ => rfl
  | [], _ :: _, h => by simp [encRg] at h
  | _ :: _, [], h => by simp [encRg] at h
  | (a, b) :: l, (c, d) :: m, h => by
    simp only [encRg, List.map_cons, List.cons.injEq, AV.int.injEq, true_and, and_true] at h
    obtain ⟨⟨h1, h2⟩, h3⟩ := h
    have e1 : a = c := UInt8.toNat_inj.1 (by omega)
    have e2 : b = d := UInt8.toNat_inj.1 (by omega)
    rw [e1, e2, encR_inj (l := l) (m := m) h3]
mutual
theorem encL_inj : ∀ {l m : List Pc}, encL l = encL m → l = m
  | [], [], _ => rfl
  | [], q :: m, h => by rw [encL_cons] at h; simp [encL] at h
  | p :: l, [], h => by rw [encL_cons] at h; simp [encL] at h
  | .br xs :: l, q :: m, h => by
    rw [encL_cons, encL_cons] at h
    simp only [List.cons.injEq] at h
    obtain ⟨h1, h2⟩ := h
    have hm := encL_inj (l := l) (m := m) h2
    cases q <;> simp [Pc.enc, Pc.kind, Pc.alts] at h1
    rename_i ys
    rw [encA_inj (l := xs) (m := ys) h1.2.2.1, hm]
  | .lit c :: l, q :: m, h => by
    rw [encL_cons, encL_cons] at h
    simp only [List.cons.injEq] at h
    obtain ⟨h1, h2⟩ := h
    have hm := encL_inj (l := l) (m := m) h2
    cases q <;> simp [Pc.enc, Pc.kind, Pc.low, Pc.text] at h1
    rename_i d
    rw [hm, h1.2.2.2]
  | .q :: l, q :: m, h => by
    rw [encL_cons, encL_cons] at h
    simp only [List.cons.injEq] at h
    obtain ⟨h1, h2⟩ := h
    have hm := encL_inj (l := l) (m := m) h2
    cases q <;> simp [Pc.enc, Pc.kind] at h1
    rw [hm]
  | .star :: l, q :: m, h => by
    rw [encL_cons, encL_cons] at h
    simp only [List.cons.injEq] at h
    obtain ⟨h1, h2⟩ := h
    have hm := encL_inj (l := l) (m := m) h2
    cases q <;> simp [Pc.enc, Pc.kind] at h1
    rw [hm]
  | .cls rs t :: l, q :: m, h => by
    rw [encL_cons, encL_cons] at h
    simp only [List.cons.injEq] at h
    obtain ⟨h1, h2⟩ := h
    have hm := encL_inj (l := l) (m := m) h2
    cases q <;> simp [Pc.enc, Pc.kind, Pc.rs, Pc.text] at h1
    rename_i rs' t'
    rw [encR_inj h1.2.1, hm, h1.2.2.2]
theorem encA_inj : ∀ {l m : List (List Pc)}, encA l = encA m → l = m
  | [], [], _ => rfl
  | [], q :: m, h => by simp [encA] at h
  | p :: l, [], h => by simp [encA] at h
  | a :: l, b :: m, h => by
    simp only [encA, List.cons.injEq, AV.lst.injEq, and_true] at h
    rw [encL_inj (l := a) (m := b) h.1, encA_inj (l := l) (m := m) h.2]
end
end Go.Glob
namespace Go.Proofs.YtjpjmdjjgfllhaaGreatDoor
open Go.Abs Go.Glob
variable {G : Globs}
theorem expand_parsed {s : List UInt8} {l : List Pc} (h : parse s = .ok l) : szL l ≤ 128 ∧ neL l ∧ cnt 1 l ≤ 64 ∧ (expd [[]] l).length ≤ 64 ∧ ∀ o ∈ expd [[]] l, Glob.Good 128 o := by
  obtain ⟨h1, h2, d, h3, h4, h5⟩ := parse_ok h
  have hsz := (pcs_size _).1 _ _ _ _ h3
  have hc := expd_count l [[]] hsz.2 (by simp) (by simpa using h5)
  refine ⟨by simp at hsz; omega, hsz.2, h5, ?_, fun o ho => (parse_good h o ho).le h1⟩
  rw [hc]; exact h5
theorem match1_ok (o : List Pc) (name : List UInt8) (hl : o.length ≤ 1000000000) (hn : name.length ≤ 1000000000) (hr : ∀ p ∈ o, p.rs.length ≤ 1000000000) :
    PCalls Tryz.prog n_glob_Match_1 [.lst (encL o), .rptr [.str name]] (fun r => r = .bool (mt o name)) := by
  refine pcalls_of_awp hmix c_glob_Match_1 rfl ?_
  simp [a_glob_Match_1]
  refine ac_same (fits_ok o name hl hn hr) (by simp) ?_
  rintro r rfl
  simp
def matchF (s name : List UInt8) : Bool × Nat := match parse s with
  | .error e => (false, e)
  | .ok l => ((expd [[]] l).any fun o => mt o name, 0)
theorem rs_len {n : Nat} {ne : Bool} {s : List UInt8} {rs : List (UInt8 × UInt8)} {r : List UInt8} : cls n ne s = some (rs, r) → rs.length + r.length ≤ s.length := by
  induction n generalizing ne s rs r with
  | zero => intro h; simp [cls] at h
  | succ n ih =>
    intro h
    cases s with
    | nil => simp [cls] at h
    | cons c s =>
      by_cases h93 : c = 93 ∧ ne = true
      · simp only [cls, if_pos h93] at h
        simp only [Option.some.injEq, Prod.mk.injEq] at h
        obtain ⟨rfl, rfl⟩ := h
        simp
      · by_cases hn : nb c = true
        · rw [cls_step h93 hn] at h
          split at h
          · rename_i hh s' hr
            split at h
            · cases h
            · simp only [Option.map_eq_some_iff, Prod.mk.injEq] at h
              obtain ⟨v, hv, rfl, rfl⟩ := h
              have := ih hv
              have hs : s'.length ≤ s.length := by
                match s, hr with
                | d :: h' :: t, hr =>
                  simp only [rng] at hr
                  split at hr
                  · simp only [Option.some.injEq, Prod.mk.injEq] at hr; obtain ⟨_, rfl⟩ := hr; simp; omega
                  · cases hr
              simp; omega
          · simp only [Option.map_eq_some_iff, Prod.mk.injEq] at h
            obtain ⟨v, hv, rfl, rfl⟩ := h
            have := ih hv
            simp; omega
        · rw [cls_no h93 (by simpa using hn)] at h; cases h
theorem good_rs : ∀ {o : List Pc}, okL o → ∀ p ∈ o, p.rs.length ≤ (texts o).length
  | p :: l, h, q, hq => by
    have ih : okL l → ∀ p ∈ l, p.rs.length ≤ (texts l).length := fun h => good_rs h
    have et : texts (p :: l) = p.text ++ texts l := by simp [texts]
    rw [et, List.length_append]
    have hl : okL l := by cases p <;> simp only [okL] at h <;> first | exact h | exact h.2
    rcases List.mem_cons.1 hq with rfl | hq
    · cases q with
      | cls rs t =>
        simp only [okL] at h
        obtain ⟨⟨b, rfl, hb⟩, _⟩ := h
        have := rs_len (hb (b.length + 1) [] (by omega))
        simp [Pc.rs, Pc.text] at this ⊢; omega
      | _ => simp [Pc.rs]
    · have := ih hl q hq; omega
open Classical in
theorem Match_ok (s name : List UInt8) (hs : s.length ≤ 9223372036854775807) (hn : name.length ≤ 1000000000) : PCalls Tryz.prog n_glob_Match [.str s, .str name] (fun r => r = .tup [.bool (matchF s name).1, .int .i64 (matchF s name).2]) := by
  refine pcalls_of_awp hmix c_glob_Match rfl ?_
  simp [a_glob_Match]
  refine ac_same (parse_ok_walk s hs) (by simp) ?_
  rintro r rfl
  cases hp : parse s with
  | error e =>
    have he : e ≠ 0 := by
      unfold parse at hp
      repeat' split at hp
      all_goals first | (cases hp; decide) | cases hp
    have he' : ¬ ((e : Int) = 0) := by omega
    simp [parseAV, matchF, he, he', hp]
  | ok l =>
    obtain ⟨h1, h2, h3, h4, h5⟩ := expand_parsed hp
    simp [parseAV]
    refine ac_same (expand_ok (szL l) l (Nat.le_refl _) (by omega) h2 h3) (by simp) ?_
    rintro r rfl
    simp
    have hm : matchF s name = ((expd [[]] l).any fun o => mt o name, 0) := by simp [matchF, hp]
    generalize hE : expd [[]] l = E at *
    have hlen : ∀ o ∈ E, o.length ≤ 1000 := fun o ho => by
      have := expd_len l [[]] 0 (by simp) o (by rw [hE]; exact ho)
      omega
    let q : AV → Bool := fun v => decide (∃ o, v = .lst (encL o) ∧ mt o name = true)
    have hq : ∀ o, q (.lst (encL o)) = mt o name := fun o => by
      have : (∃ o', AV.lst (encL o) = .lst (encL o') ∧ mt o' name = true) ↔ mt o name = true := by
        constructor
        · rintro ⟨o', h1, h2⟩
          simp only [AV.lst.injEq] at h1
          rw [encL_inj h1]; exact h2
        · exact fun h => ⟨o, rfl, h⟩
      simp only [q, this]
      simp
    have hc := contains1_ok (G := G) (l := encA E) (g := n_glob_Match_1) (cap := [.rptr [.str name]]) (p := q) (by rw [encA_length]; omega) b_glob_Match_1 (by simp [encA_map]) (by simp) (fun c hc => by
      rw [encA_map, List.mem_map] at hc
      obtain ⟨o, ho, rfl⟩ := hc
      refine ⟨_, rfl, ?_⟩
      rw [hq]
      have hg := h5 o ho
      exact match1_ok o name (by have := hlen o ho; omega) hn (fun p hp => by have := good_rs hg.2.1 p hp; have := hg.2.2; omega))
    refine ac_lent hc (.cons (.pure _ (by simp)) (.cons (coe_fn1 (coe_ptr rfl (by simp) rfl)) .nil)) ?_
    rintro r rfl
    refine ⟨by simp, ?_⟩
    simp [encA_map, List.any_map, Function.comp_def, hq, hm]
end Go.Proofs.YtjpjmdjjgfllhaaGreatDoor
end
section
set_option maxHeartbeats 4000000
namespace Go.Glob
theorem tls_any (g : List UInt8 → Bool) : ∀ s : List UInt8, (tls s).any g = true ↔ ∃ k, k ≤ s.length ∧ g (s.drop k) = true
  | [] => by
    simp only [tls, List.any_cons, List.any_nil, Bool.or_false]
    exact ⟨fun h => ⟨0, Nat.le_refl _, h⟩, fun ⟨k, _, h⟩ => by simpa using h⟩
  | c :: s => by
    simp only [tls, List.any_cons, Bool.or_eq_true, tls_any g s]
    constructor
    · rintro (h | ⟨k, hk, h⟩)
      · exact ⟨0, Nat.zero_le _, h⟩
      · exact ⟨k + 1, by simp; omega, h⟩
    · rintro ⟨k, hk, h⟩
      cases k with
      | zero => exact .inl h
      | succ k => exact .inr ⟨k, by simp at hk; omega, h⟩
theorem mt_split : ∀ (l m : List Pc) (s : List UInt8), mt (l ++ m) s = true ↔ ∃ i, i ≤ s.length ∧ mt l (s.take i) = true ∧ mt m (s.drop i) = true
  | [], m, s => by
    rw [List.nil_append]
    constructor
    · exact fun h => ⟨0, Nat.zero_le _, by simp [mt_nil], h⟩
    · rintro ⟨i, hi, h1, h2⟩
      rw [mt_nil, List.isEmpty_iff] at h1
      have : i = 0 ∨ s = [] := by
        cases i with
        | zero => exact .inl rfl
        | succ i => cases s with
          | nil => exact .inr rfl
          | cons c s => simp at h1
      rcases this with rfl | rfl
      · simpa using h2
      · simpa using h2
  | p :: l, m, s => by
    by_cases hp : p = .star
    · subst hp
      have e : ∀ (x : List Pc) (s : List UInt8), mt (.star :: x) s = (tls s).any (mt x) := fun x s => by rw [mt]
      rw [List.cons_append, e, tls_any]
      constructor
      · rintro ⟨k, hk, h⟩
        obtain ⟨i, hi, h1, h2⟩ := (mt_split l m _).1 h
        rw [List.length_drop] at hi
        refine ⟨k + i, by omega, ?_, by rw [List.drop_drop] at h2; exact h2⟩
        rw [e, tls_any]
        refine ⟨k, by rw [List.length_take]; omega, ?_⟩
        rw [List.drop_take, Nat.add_sub_cancel_left]; exact h1
      · rintro ⟨j, hj, h1, h2⟩
        rw [e, tls_any] at h1
        obtain ⟨k, hk, h1⟩ := h1
        rw [List.length_take] at hk
        refine ⟨k, by omega, (mt_split l m _).2 ⟨j - k, by rw [List.length_drop]; omega, ?_, ?_⟩⟩
        · rw [List.drop_take] at h1; exact h1
        · rw [List.drop_drop, show k + (j - k) = j by omega]; exact h2
    · rw [List.cons_append]
      cases s with
      | nil =>
        rw [mt_other_nil hp]
        simp [mt_other_nil hp]
      | cons c s =>
        rw [mt_other hp, Bool.and_eq_true]
        constructor
        · rintro ⟨h0, h⟩
          obtain ⟨i, hi, h1, h2⟩ := (mt_split l m s).1 h
          refine ⟨i + 1, by simp; omega, ?_, h2⟩
          rw [List.take_succ_cons, mt_other hp, h0, h1]; rfl
        · rintro ⟨i, hi, h1, h2⟩
          cases i with
          | zero => rw [List.take_zero, mt_other_nil hp] at h1; cases h1
          | succ i =>
            rw [List.take_succ_cons, mt_other hp, Bool.and_eq_true] at h1
            exact ⟨h1.1, (mt_split l m s).2 ⟨i, by simp at hi; omega, h1.2, h2⟩⟩
theorem mt_star_zero (a : List Pc) : mt (a ++ [.star]) [] = mt a [] := by
  rw [Bool.eq_iff_iff, mt_split]
  constructor
  · rintro ⟨i, hi, h1, h2⟩; simpa using h1
  · exact fun h => ⟨0, Nat.zero_le _, by simpa using h, mt_any _⟩
theorem mt_star_succ (a : List Pc) (s : List UInt8) (k : Nat) (hk : k < s.length) : mt (a ++ [.star]) (s.take (k + 1)) = (mt a (s.take (k + 1)) || mt (a ++ [.star]) (s.take k)) := by
  rw [Bool.eq_iff_iff, Bool.or_eq_true, mt_split, mt_split]
  constructor
  · rintro ⟨i, hi, h1, h2⟩
    rw [List.length_take] at hi
    by_cases hik : i = k + 1
    · subst hik; left; rw [List.take_take, Nat.min_self] at h1; exact h1
    · right
      refine ⟨i, by rw [List.length_take]; omega, ?_, mt_any _⟩
      rw [List.take_take] at h1 ⊢
      rw [show min i k = min i (k + 1) by omega]; exact h1
  · rintro (h | ⟨i, hi, h1, h2⟩)
    · exact ⟨k + 1, by rw [List.length_take]; omega, by rw [List.take_take, Nat.min_self]; exact h, mt_any _⟩
    · rw [List.length_take] at hi
      refine ⟨i, by rw [List.length_take]; omega, ?_, mt_any _⟩
      rw [List.take_take] at h1 ⊢
      rw [show min i (k + 1) = min i k by omega]; exact h1
theorem mt_other_zero (a : List Pc) {p : Pc} (hp : p ≠ .star) : mt (a ++ [p]) [] = false := by
  rw [Bool.eq_false_iff]
  intro h
  obtain ⟨i, hi, h1, h2⟩ := (mt_split _ _ _).1 h
  rw [List.drop_nil, mt_other_nil hp] at h2; cases h2
theorem mt_other_succ (a : List Pc) {p : Pc} (hp : p ≠ .star) (s : List UInt8) (k : Nat) (c : UInt8) (hc : s[k]? = some c) : mt (a ++ [p]) (s.take (k + 1)) = (mt a (s.take k) && p.one c) := by
  obtain ⟨hk, hck⟩ := List.getElem?_eq_some_iff.1 hc
  have e1 : s.take (k + 1) = s.take k ++ [c] := by rw [List.take_add_one, hc]; rfl
  have hl : (s.take k).length = k := by rw [List.length_take]; omega
  rw [Bool.eq_iff_iff, Bool.and_eq_true, mt_split, e1]
  constructor
  · rintro ⟨i, hi, h1, h2⟩
    rw [List.length_append, hl, List.length_singleton] at hi
    have : i = k := by
      cases hx : (s.take k ++ [c]).drop i with
      | nil => rw [hx, mt_other_nil hp] at h2; cases h2
      | cons d r =>
        rw [hx, mt_other hp, Bool.and_eq_true, mt_nil, List.isEmpty_iff] at h2
        have := congrArg List.length hx
        rw [List.length_drop, List.length_append, hl, List.length_singleton, h2.2] at this
        simp at this; omega
    subst this
    rw [List.take_append_of_le_length (by omega), List.take_of_length_le (by omega)] at h1
    rw [List.drop_append_of_le_length (by omega), List.drop_of_length_le (by omega), List.nil_append, mt_other hp, Bool.and_eq_true] at h2
    exact ⟨h1, h2.1⟩
  · rintro ⟨h1, h2⟩
    refine ⟨k, by rw [List.length_append, hl]; omega, ?_, ?_⟩
    · rw [List.take_append_of_le_length (by omega), List.take_of_length_le (by omega)]; exact h1
    · rw [List.drop_append_of_le_length (by omega), List.drop_of_length_le (by omega), List.nil_append, mt_other hp, h2, mt_nil]; rfl
theorem cls_some {n : Nat} {ne : Bool} {s : List UInt8} {rs : List (UInt8 × UInt8)} {r : List UInt8} (h : cls n ne s = some (rs, r)) :
    ∃ m c t, n = m + 1 ∧ s = c :: t ∧ ((c = 93 ∧ ne = true ∧ rs = [] ∧ r = t) ∨ (c ≠ 93 ∧ nb c = true ∧
      ((∃ d h' t' rs', t = d :: h' :: t' ∧ d = 45 ∧ nb h' = true ∧ ¬ h' < c ∧ cls m true t' = some (rs', r) ∧ rs = (c, h') :: rs') ∨
       (rng t = none ∧ ∃ rs', cls m true t = some (rs', r) ∧ rs = (c, c) :: rs')))) := by
  cases n with
  | zero => simp [cls] at h
  | succ m =>
    cases s with
    | nil => simp [cls] at h
    | cons c t =>
      refine ⟨m, c, t, rfl, rfl, ?_⟩
      by_cases h93 : c = 93 ∧ ne = true
      · rw [cls, if_pos h93] at h
        cases h
        exact .inl ⟨h93.1, h93.2, rfl, rfl⟩
      · rw [cls, if_neg h93] at h
        right
        cases hn : nb c with
        | false => rw [hn] at h; simp at h
        | true =>
          rw [hn] at h
          simp only [Bool.true_eq_false, if_false] at h
          refine ⟨fun e => by subst e; exact absurd hn (by decide), rfl, ?_⟩
          cases hr : rng t with
          | none =>
            rw [hr] at h
            simp only at h
            cases hc : cls m true t with
            | none => rw [hc] at h; cases h
            | some v =>
              rw [hc] at h
              simp only [Option.map_some, Option.some.injEq, Prod.mk.injEq] at h
              obtain ⟨h1, h2⟩ := h
              exact .inr ⟨rfl, v.1, by rw [← h2], h1.symm⟩
          | some v =>
            obtain ⟨h', t'⟩ := v
            rw [hr] at h
            simp only at h
            have hrt : ∃ d, t = d :: h' :: t' ∧ d = 45 ∧ nb h' = true := by
              match t, hr with
              | d :: e :: t2, hr =>
                rw [rng] at hr
                split at hr
                · rename_i hq
                  cases hr
                  exact ⟨d, rfl, hq.1, hq.2⟩
                · cases hr
            obtain ⟨d, ht, hd, hnh⟩ := hrt
            split at h
            · cases h
            rename_i hlt
            cases hc : cls m true t' with
            | none => rw [hc] at h; cases h
            | some v =>
              rw [hc] at h
              simp only [Option.map_some, Option.some.injEq, Prod.mk.injEq] at h
              obtain ⟨h1, h2⟩ := h
              exact .inl ⟨d, h', t', v.1, ht, hd, hnh, hlt, by rw [hc, ← h2], h1.symm⟩
end Go.Glob
namespace Go.Proofs.YtjpjmdjjgfllhaaGreatDoor
open Go.Abs Go.Glob
variable {G : Globs}
theorem u8_ne {c n : UInt8} {z : Int} (hz : z = (n.toNat : Int)) (h : ¬ c = n) : ¬ ((c.toNat : Int) = z) := fun e => h (UInt8.toNat_inj.1 (by omega))
theorem rng_no {d h : UInt8} {t : List UInt8} (hr : rng (d :: h :: t) = none) (hd : d = 45) : nb h = false := by
  subst hd
  rw [rng] at hr
  split at hr
  · cases hr
  · rename_i hq
    cases hn : nb h with
    | false => rfl
    | true => exact absurd ⟨rfl, hn⟩ hq
theorem drop_two {s t : List UInt8} {k : Nat} {c d h : UInt8} (hs : s.drop k = c :: d :: h :: t) : s[k]? = some c ∧ s[k + 1]? = some d ∧ s[k + 2]? = some h ∧ s.drop (k + 3) = t ∧ s.drop (k + 1) = d :: h :: t ∧ k + 3 ≤ s.length := by
  have hl := congrArg List.length hs
  rw [List.length_drop] at hl
  simp only [List.length_cons] at hl
  refine ⟨?_, ?_, ?_, ?_, ?_, by omega⟩
  · have := congrArg (fun l => l[0]?) hs; simpa using this
  · have := congrArg (fun l => l[1]?) hs; simpa using this
  · have := congrArg (fun l => l[2]?) hs; simpa using this
  · have := congrArg (List.drop 3) hs; simpa [List.drop_drop, Nat.add_comm] using this
  · have := congrArg (List.drop 1) hs; simpa [List.drop_drop, Nat.add_comm] using this
theorem drop_one {s t : List UInt8} {k : Nat} {c : UInt8} (hs : s.drop k = c :: t) : s[k]? = some c ∧ s.drop (k + 1) = t ∧ k < s.length := by
  have hl := congrArg List.length hs
  rw [List.length_drop] at hl
  simp only [List.length_cons] at hl
  refine ⟨?_, ?_, by omega⟩
  · have := congrArg (fun l => l[0]?) hs; simpa using this
  · have := congrArg (List.drop 1) hs; simpa [List.drop_drop, Nat.add_comm] using this
/-- A class that is one: the place behind it. -/
theorem rclass_ok (p : List UInt8) (i n : Nat) (rs : List (UInt8 × UInt8)) (r : List UInt8) (h : cls n false (p.drop i) = some (rs, r)) (hp : p.length ≤ 1000000) :
    PCalls Tryz.prog n_isobarref15_class [.str p, .int .i64 i] (fun v => v = .int .i64 (p.length - r.length : Nat)) := by
  refine pcalls_of_awp hmix c_isobarref15_class rfl ?_
  simp [a_isobarref15_class]
  refine lp_startx (fun x f σ => ∃ (k m : Nat) (rs' : List (UInt8 × UInt8)), x = p.length - k ∧ i ≤ k ∧ cls m (decide (i < k)) (p.drop k) = some (rs', r) ∧ f 0 = .str p ∧ f 1 = .int .i64 k ∧ f 5 = .int .i64 i ∧ σ = []) (p.length - i) ?_ ?_
  · exact ⟨i, n, rs, rfl, Nat.le_refl _, by simpa using h, by simp, by simp, by simp, rfl⟩
  rintro x f σ ⟨k, m0, rs', hx, hik, hcls, h0, h1, h5, rfl⟩
  obtain ⟨m, c, t, rfl, hd, hcase⟩ := cls_some hcls
  obtain ⟨hc, hdk, hlt⟩ := drop_one hd
  obtain ⟨_, hc2⟩ := List.getElem?_eq_some_iff.1 hc
  have hlt' : (k : Int) < (p.length : Int) := by omega
  have hwk : IntKind.i64.wrap ((k : Int) + 1) = (k : Int) + 1 := wrap_i64 (by omega) (by omega)
  have hwk2 : IntKind.i64.wrap ((k : Int) + 2) = (k : Int) + 2 := wrap_i64 (by omega) (by omega)
  have hwk3 : IntKind.i64.wrap ((k : Int) + 2 + 1) = (k : Int) + 3 := by rw [wrap_i64 (by omega) (by omega)]; omega
  have hwl : IntKind.i64.wrap ((p.length : Int) - 2) = (p.length : Int) - 2 := wrap_i64 (by omega) (by omega)
  have t1 : ((k : Int) + 1).toNat = k + 1 := by omega
  have t2 : ((k : Int) + 2).toNat = k + 2 := by omega
  have p1 : (0 : Int) ≤ (k : Int) + 1 := by omega
  have p2 : (0 : Int) ≤ (k : Int) + 2 := by omega
  rcases hcase with ⟨rfl, hne, rfl, rfl⟩ | ⟨h93, hnb, hcase⟩
  · have hik2 : i < k := by simpa using hne
    have hki : ¬ (k : Int) = (i : Int) := by omega
    have hki' : ¬ k = i := by omega
    have hge : ¬ p.length ≤ k := by omega
    have hge' : ¬ (p.length : Int) ≤ (k : Int) := by omega
    have hfin : ((p.length - (p.drop (k + 1)).length : Nat) : Int) = (k : Int) + 1 := by simp; omega
    rw [← hdk]
    simp [h0, h1, h5, hlt, hlt', hc, hc2, hki, hki', hge, hge', hwk]
    simp at hfin
    omega
  · have h93' : ¬ ((c.toNat : Int) = 93) := u8_ne (n := 93) rfl h93
    simp [h0, h1, h5, hlt, hlt', hc, hc2, h93']
    refine ac_same (refByte_ok c) (by simp) ?_
    rintro v rfl
    rcases hcase with ⟨d, h', t', rs2, rfl, rfl, hnh, hle, hcl2, rfl⟩ | ⟨hr, rs2, hcl2, rfl⟩
    · obtain ⟨g0, g1, g2, g3, g4, g5⟩ := drop_two hd
      have hk2 : (k : Int) < (p.length : Int) - 2 := by omega
      have hle' : ¬ h'.toNat < c.toNat := fun hx => hle (UInt8.lt_iff_toNat_lt.2 hx)
      have hle2 : ¬ (h'.toNat : Int) < (c.toNat : Int) := by omega
      simp [h0, h1, h5, hnb, hwl, hk2, hwk, hwk2, hwk3, t1, t2, p1, p2, g1, g2]
      refine ac_same (refByte_ok h') (by simp) ?_
      rintro v rfl
      simp [h0, h1, h5, hnb, hnh, hwl, hk2, hwk, hwk2, hwk3, t1, t2, p1, p2, g1, g2, hc, hle', hle2]
      refine nx_intro (p.length - (k + 3)) (by omega) ⟨k + 3, m, rs2, rfl, by omega, ?_, by simp [h0], by simp, by simp [h5], rfl⟩
      have : decide (i < k + 3) = true := by simp; omega
      rw [this, g3]; exact hcl2
    · have hstep : cls m (decide (i < k + 1)) (p.drop (k + 1)) = some (rs2, r) := by
        have : decide (i < k + 1) = true := by simp; omega
        rw [this, hdk]; exact hcl2
      by_cases hk2 : (k : Int) < (p.length : Int) - 2
      · obtain ⟨d, h', t', ht⟩ : ∃ d h' t', t = d :: h' :: t' := by
          have hl : t.length = p.length - (k + 1) := by rw [← hdk]; simp
          match t, hl with
          | [], hl => simp at hl; omega
          | [_], hl => simp at hl; omega
          | d :: h' :: t', _ => exact ⟨d, h', t', rfl⟩
        subst ht
        obtain ⟨g0, g1, g2, g3, g4, g5⟩ := drop_two hd
        by_cases h45 : d = 45
        · have hnh := rng_no hr h45
          subst h45
          simp [h0, h1, h5, hnb, hwl, hk2, hwk, hwk2, hwk3, t1, t2, p1, p2, g1, g2]
          refine ac_same (refByte_ok h') (by simp) ?_
          rintro v rfl
          simp [h0, h1, h5, hnb, hnh, hwl, hk2, hwk]
          refine nx_intro (p.length - (k + 1)) (by omega) ⟨k + 1, m, rs2, rfl, by omega, hstep, by simp [h0], by simp, by simp [h5], rfl⟩
        · have h45' : ¬ ((d.toNat : Int) = 45) := u8_ne (n := 45) rfl h45
          simp [h0, h1, h5, hnb, hwl, hk2, hwk, hwk2, hwk3, t1, t2, p1, p2, g1, g2, h45']
          refine nx_intro (p.length - (k + 1)) (by omega) ⟨k + 1, m, rs2, rfl, by omega, hstep, by simp [h0], by simp, by simp [h5], rfl⟩
      · simp [h0, h1, h5, hnb, hwl, hk2, hwk]
        refine nx_intro (p.length - (k + 1)) (by omega) ⟨k + 1, m, rs2, rfl, by omega, hstep, by simp [h0], by simp, by simp [h5], rfl⟩
/-- Has a class a byte? -/
theorem rhas_ok (p : List UInt8) (i n : Nat) (ne : Bool) (rs : List (UInt8 × UInt8)) (r : List UInt8) (b : UInt8) (h : cls n ne (p.drop i) = some (rs, r)) (hp : p.length ≤ 1000000) :
    PCalls Tryz.prog n_isobarref15_has [.str p, .int .i64 i, .int .u8 b.toNat] (fun v => v = .bool (rs.any fun q => q.1 ≤ b && b ≤ q.2)) := by
  refine pcalls_of_awp hmix c_isobarref15_has rfl ?_
  simp [a_isobarref15_has]
  refine lp_startx (fun x f σ => ∃ (k m : Nat) (ne' : Bool) (rs' : List (UInt8 × UInt8)), x = p.length - k ∧ cls m ne' (p.drop k) = some (rs', r) ∧ (rs.any fun q => q.1 ≤ b && b ≤ q.2) = (rs'.any fun q => q.1 ≤ b && b ≤ q.2) ∧ f 0 = .str p ∧ f 1 = .int .i64 k ∧ f 2 = .int .u8 b.toNat ∧ σ = []) (p.length - i) ?_ ?_
  · exact ⟨i, n, ne, rs, rfl, h, rfl, by simp, by simp, by simp, rfl⟩
  rintro x f σ ⟨k, m0, ne', rs', hx, hcls, hany, h0, h1, h2, rfl⟩
  rw [hany]
  clear hany
  obtain ⟨m, c, t, rfl, hd, hcase⟩ := cls_some hcls
  obtain ⟨hc, hdk, hlt⟩ := drop_one hd
  obtain ⟨_, hc2⟩ := List.getElem?_eq_some_iff.1 hc
  have hlt' : (k : Int) < (p.length : Int) := by omega
  have hwk : IntKind.i64.wrap ((k : Int) + 1) = (k : Int) + 1 := wrap_i64 (by omega) (by omega)
  have hwk2 : IntKind.i64.wrap ((k : Int) + 2) = (k : Int) + 2 := wrap_i64 (by omega) (by omega)
  have hwk3 : IntKind.i64.wrap ((k : Int) + 2 + 1) = (k : Int) + 3 := by rw [wrap_i64 (by omega) (by omega)]; omega
  have hwl : IntKind.i64.wrap ((p.length : Int) - 2) = (p.length : Int) - 2 := wrap_i64 (by omega) (by omega)
  have t1 : ((k : Int) + 1).toNat = k + 1 := by omega
  have t2 : ((k : Int) + 2).toNat = k + 2 := by omega
  have p1 : (0 : Int) ≤ (k : Int) + 1 := by omega
  have p2 : (0 : Int) ≤ (k : Int) + 2 := by omega
  have cmp : ∀ x y : UInt8, (decide (x ≤ y)) = decide ((x.toNat : Int) ≤ (y.toNat : Int)) := fun x y => decide_eq_decide.2 (by rw [UInt8.le_iff_toNat_le]; omega)
  rcases hcase with ⟨rfl, hne, rfl, rfl⟩ | ⟨h93, hnb, hcase⟩
  · simp [h0, h1, h2, hlt, hlt', hc, hc2]
  · have h93' : ¬ ((c.toNat : Int) = 93) := u8_ne (n := 93) rfl h93
    rcases hcase with ⟨d, h', t', rs2, rfl, rfl, hnh, hle, hcl2, rfl⟩ | ⟨hr, rs2, hcl2, rfl⟩
    · obtain ⟨g0, g1, g2, g3, g4, g5⟩ := drop_two hd
      have hk2 : (k : Int) < (p.length : Int) - 2 := by omega
      simp [h0, h1, h2, hlt, hlt', hc, hc2, h93', hnb, hwl, hk2, hwk, hwk2, hwk3, t1, t2, p1, p2, g1, g2]
      refine ac_same (refByte_ok h') (by simp) ?_
      rintro v rfl
      by_cases b1 : c ≤ b
      · have b1' : (c.toNat : Int) ≤ (b.toNat : Int) := by rw [UInt8.le_iff_toNat_le] at b1; omega
        have b1'' : c.toNat ≤ b.toNat := by omega
        by_cases b2 : b ≤ h'
        · have b2' : (b.toNat : Int) ≤ (h'.toNat : Int) := by rw [UInt8.le_iff_toNat_le] at b2; omega
          have b2'' : b.toNat ≤ h'.toNat := by omega
          simp [h0, h1, h2, hnb, hnh, hwl, hk2, hwk, hwk2, hwk3, t1, t2, p1, p2, g1, g2, hc, b1', b1'', b2', b2'', b1, b2]
        · have b2' : ¬ (b.toNat : Int) ≤ (h'.toNat : Int) := by rw [UInt8.le_iff_toNat_le] at b2; omega
          have b2'' : ¬ b.toNat ≤ h'.toNat := by omega
          simp [h0, h1, h2, hnb, hnh, hwl, hk2, hwk, hwk2, hwk3, t1, t2, p1, p2, g1, g2, hc, b1', b1'', b2', b2'', b1, b2]
          refine nx_intro (p.length - (k + 3)) (by omega) ⟨k + 3, m, true, rs2, rfl, by rw [g3]; exact hcl2, by simp [b1, b2], by simp [h0], by simp, by simp [h2], rfl⟩
      · have b1' : ¬ (c.toNat : Int) ≤ (b.toNat : Int) := by rw [UInt8.le_iff_toNat_le] at b1; omega
        have b1'' : ¬ c.toNat ≤ b.toNat := by omega
        simp [h0, h1, h2, hnb, hnh, hwl, hk2, hwk, hwk2, hwk3, t1, t2, p1, p2, g1, g2, hc, b1', b1'', b1]
        refine nx_intro (p.length - (k + 3)) (by omega) ⟨k + 3, m, true, rs2, rfl, by rw [g3]; exact hcl2, by simp [b1], by simp [h0], by simp, by simp [h2], rfl⟩
    · have hstep : cls m true (p.drop (k + 1)) = some (rs2, r) := by rw [hdk]; exact hcl2
      by_cases hk2 : (k : Int) < (p.length : Int) - 2
      · obtain ⟨d, h', t', ht⟩ : ∃ d h' t', t = d :: h' :: t' := by
          have hl : t.length = p.length - (k + 1) := by rw [← hdk]; simp
          match t, hl with
          | [], hl => simp at hl; omega
          | [_], hl => simp at hl; omega
          | d :: h' :: t', _ => exact ⟨d, h', t', rfl⟩
        subst ht
        obtain ⟨g0, g1, g2, g3, g4, g5⟩ := drop_two hd
        by_cases h45 : d = 45
        · have hnh := rng_no hr h45
          subst h45
          simp [h0, h1, h2, hlt, hlt', hc, hc2, h93', hnb, hwl, hk2, hwk, hwk2, hwk3, t1, t2, p1, p2, g1, g2]
          refine ac_same (refByte_ok h') (by simp) ?_
          rintro v rfl
          by_cases b1 : c ≤ b
          · have b1' : (c.toNat : Int) ≤ (b.toNat : Int) := by rw [UInt8.le_iff_toNat_le] at b1; omega
            have b1'' : c.toNat ≤ b.toNat := by omega
            by_cases b2 : b ≤ c
            · have b2' : (b.toNat : Int) ≤ (c.toNat : Int) := by rw [UInt8.le_iff_toNat_le] at b2; omega
              have b2'' : b.toNat ≤ c.toNat := by omega
              simp [h0, h1, h2, hlt, hlt', hc, hc2, h93', hnb, hwl, hk2, hwk, hwk2, hwk3, t1, t2, p1, p2, g1, g2, hnh, b1', b1'', b2', b2'', b1, b2]
            · have b2' : ¬ (b.toNat : Int) ≤ (c.toNat : Int) := by rw [UInt8.le_iff_toNat_le] at b2; omega
              have b2'' : ¬ b.toNat ≤ c.toNat := by omega
              simp [h0, h1, h2, hlt, hlt', hc, hc2, h93', hnb, hwl, hk2, hwk, hwk2, hwk3, t1, t2, p1, p2, g1, g2, hnh, b1', b1'', b2', b2'', b1, b2]
              refine nx_intro (p.length - (k + 1)) (by omega) ⟨k + 1, m, true, rs2, rfl, hstep, by simp [b1, b2], by simp [h0], by simp, by simp [h2], rfl⟩
          · have b1' : ¬ (c.toNat : Int) ≤ (b.toNat : Int) := by rw [UInt8.le_iff_toNat_le] at b1; omega
            have b1'' : ¬ c.toNat ≤ b.toNat := by omega
            simp [h0, h1, h2, hlt, hlt', hc, hc2, h93', hnb, hwl, hk2, hwk, hwk2, hwk3, t1, t2, p1, p2, g1, g2, hnh, b1', b1'', b1]
            refine nx_intro (p.length - (k + 1)) (by omega) ⟨k + 1, m, true, rs2, rfl, hstep, by simp [b1], by simp [h0], by simp, by simp [h2], rfl⟩
        · have h45' : ¬ ((d.toNat : Int) = 45) := u8_ne (n := 45) rfl h45
          by_cases b1 : c ≤ b
          · have b1' : (c.toNat : Int) ≤ (b.toNat : Int) := by rw [UInt8.le_iff_toNat_le] at b1; omega
            have b1'' : c.toNat ≤ b.toNat := by omega
            by_cases b2 : b ≤ c
            · have b2' : (b.toNat : Int) ≤ (c.toNat : Int) := by rw [UInt8.le_iff_toNat_le] at b2; omega
              have b2'' : b.toNat ≤ c.toNat := by omega
              simp [h0, h1, h2, hlt, hlt', hc, hc2, h93', hnb, hwl, hk2, hwk, hwk2, hwk3, t1, t2, p1, p2, g1, g2, h45', b1', b1'', b2', b2'', b1, b2]
            · have b2' : ¬ (b.toNat : Int) ≤ (c.toNat : Int) := by rw [UInt8.le_iff_toNat_le] at b2; omega
              have b2'' : ¬ b.toNat ≤ c.toNat := by omega
              simp [h0, h1, h2, hlt, hlt', hc, hc2, h93', hnb, hwl, hk2, hwk, hwk2, hwk3, t1, t2, p1, p2, g1, g2, h45', b1', b1'', b2', b2'', b1, b2]
              refine nx_intro (p.length - (k + 1)) (by omega) ⟨k + 1, m, true, rs2, rfl, hstep, by simp [b1, b2], by simp [h0], by simp, by simp [h2], rfl⟩
          · have b1' : ¬ (c.toNat : Int) ≤ (b.toNat : Int) := by rw [UInt8.le_iff_toNat_le] at b1; omega
            have b1'' : ¬ c.toNat ≤ b.toNat := by omega
            simp [h0, h1, h2, hlt, hlt', hc, hc2, h93', hnb, hwl, hk2, hwk, hwk2, hwk3, t1, t2, p1, p2, g1, g2, h45', b1', b1'', b1]
            refine nx_intro (p.length - (k + 1)) (by omega) ⟨k + 1, m, true, rs2, rfl, hstep, by simp [b1], by simp [h0], by simp, by simp [h2], rfl⟩
      · 
        by_cases b1 : c ≤ b
        · have b1' : (c.toNat : Int) ≤ (b.toNat : Int) := by rw [UInt8.le_iff_toNat_le] at b1; omega
          have b1'' : c.toNat ≤ b.toNat := by omega
          by_cases b2 : b ≤ c
          · have b2' : (b.toNat : Int) ≤ (c.toNat : Int) := by rw [UInt8.le_iff_toNat_le] at b2; omega
            have b2'' : b.toNat ≤ c.toNat := by omega
            simp [h0, h1, h2, hlt, hlt', hc, hc2, h93', hnb, hwl, hk2, hwk, hwk2, hwk3, t1, t2, p1, p2, b1', b1'', b2', b2'', b1, b2]
          · have b2' : ¬ (b.toNat : Int) ≤ (c.toNat : Int) := by rw [UInt8.le_iff_toNat_le] at b2; omega
            have b2'' : ¬ b.toNat ≤ c.toNat := by omega
            simp [h0, h1, h2, hlt, hlt', hc, hc2, h93', hnb, hwl, hk2, hwk, hwk2, hwk3, t1, t2, p1, p2, b1', b1'', b2', b2'', b1, b2]
            refine nx_intro (p.length - (k + 1)) (by omega) ⟨k + 1, m, true, rs2, rfl, hstep, by simp [b1, b2], by simp [h0], by simp, by simp [h2], rfl⟩
        · have b1' : ¬ (c.toNat : Int) ≤ (b.toNat : Int) := by rw [UInt8.le_iff_toNat_le] at b1; omega
          have b1'' : ¬ c.toNat ≤ b.toNat := by omega
          simp [h0, h1, h2, hlt, hlt', hc, hc2, h93', hnb, hwl, hk2, hwk, hwk2, hwk3, t1, t2, p1, p2, b1', b1'', b1]
          refine nx_intro (p.length - (k + 1)) (by omega) ⟨k + 1, m, true, rs2, rfl, hstep, by simp [b1], by simp [h0], by simp, by simp [h2], rfl⟩
end Go.Proofs.YtjpjmdjjgfllhaaGreatDoor
end
section
set_option maxHeartbeats 8000000
namespace Go.Proofs.YtjpjmdjjgfllhaaGreatDoor
open Go.Abs Go.Glob
variable {G : Globs}
/-- A table's first k places. -/
def Prow (F : Nat → Bool) (n k : Nat) : List (List AV) := (List.range n).map fun j => [.bool (if j < k then F j else false)]
theorem prow_len (F : Nat → Bool) (n k : Nat) : (Prow F n k).length = n := by simp [Prow]
theorem prow_zero (F : Nat → Bool) (n : Nat) : List.replicate n [AV.bool false] = Prow F n 0 := by
  refine List.ext_getElem (by simp [Prow]) fun i h1 h2 => ?_
  simp [Prow]
theorem prow_get (F : Nat → Bool) {n k j : Nat} (hj : j < n) : (Prow F n k)[j]? = some [.bool (if j < k then F j else false)] := by simp [Prow, hj]
theorem prow_set (F : Nat → Bool) {n k : Nat} (hk : k < n) : (Prow F n k).set k [.bool (F k)] = Prow F n (k + 1) := by
  refine List.ext_getElem (by simp [Prow]) fun i h1 h2 => ?_
  rw [List.getElem_set]
  by_cases h : k = i
  · subst h; simp [Prow]
  · simp only [h, if_false, Prow, List.getElem_map, List.getElem_range]
    by_cases h3 : i < k
    · rw [if_pos h3, if_pos (by omega)]
    · rw [if_neg h3, if_neg (by omega)]
theorem prow_full (F : Nat → Bool) (n : Nat) {j : Nat} (hj : j < n) : (Prow F n n)[j]? = some [.bool (F j)] := by rw [prow_get F hj, if_pos hj]
/-- Which beginnings of a name pieces fit. -/
def Fk (a : List Pc) (name : List UInt8) (k : Nat) : Bool := mt a (name.take k)
theorem fk_init (name : List UInt8) : (Prow (Fk [] name) (name.length + 1) 0).set 0 [.bool true] = Prow (Fk [] name) (name.length + 1) (name.length + 1) := by
  have h1 : [AV.bool true] = [AV.bool (Fk [] name 0)] := by simp [Fk, mt_nil]
  rw [h1, prow_set _ (by omega)]
  refine List.ext_getElem (by simp [Prow]) fun i h1 h2 => ?_
  simp only [Prow, List.length_map, List.length_range] at h1
  simp only [Prow, List.getElem_map, List.getElem_range, h1, if_true]
  by_cases hi : i < 0 + 1
  · rw [if_pos hi]
  · rw [if_neg hi]
    have : (name.take i).isEmpty = false := by
      cases name with
      | nil => simp at h1; omega
      | cons c r =>
        obtain ⟨j, rfl⟩ : ∃ j, i = j + 1 := ⟨i - 1, by omega⟩
        rfl
    simp [Fk, mt_nil, this]
theorem prow_skip (F : Nat → Bool) {n k : Nat} (hk : k < n) (h : F k = false) : Prow F n k = Prow F n (k + 1) := by
  rw [← prow_set F hk, h]
  refine (List.ext_getElem (by simp [Prow]) fun i h1 h2 => ?_)
  rw [List.getElem_set]
  by_cases e : k = i
  · subst e; simp [Prow]
  · simp [e]
theorem fk_end (a : List Pc) (name : List UInt8) : Fk a name name.length = mt a name := by simp [Fk]
theorem rfits_ok (l : List Pc) (name : List UInt8) (hf : flat l) (hk : okL l) (hl : (texts l).length ≤ 100000) (hn : name.length ≤ 100000) : PCalls Tryz.prog n_isobarref15_fits [.str (texts l), .str name] (fun r => r = .bool (mt l name)) := by
  refine pcalls_of_awp hmix c_isobarref15_fits rfl ?_
  have hwN : IntKind.i64.wrap ((name.length : Int) + 1) = ((name.length + 1 : Nat) : Int) := by rw [wrap_i64 (by omega) (by omega)]; omega
  simp [a_isobarref15_fits, hwN]
  refine ms_intro (name.length + 1) (by simp [hwN]) (by simp [hwN]) (by omega) (by omega) (by omega) rfl ?_
  rw [prow_zero (Fk [] name)]
  have i0 := fk_init name
  have i1 := prow_get (Fk [] name) (n := name.length + 1) (k := 0) (j := 0) (by omega)
  have i2 := prow_len (Fk [] name) (name.length + 1) 0
  have i3 : ∀ G : Nat → Bool, ∀ k, (Prow G (name.length + 1) k).length = name.length + 1 := fun G k => prow_len G _ k
  generalize hN : name.length + 1 = N at *
  have hNp : 0 < N := by omega
  obtain ⟨i1a, i1b⟩ := List.getElem?_eq_some_iff.1 i1
  simp [i1, i1b, i2, i0, hNp]
  refine lp_startx (fun x f σ => ∃ (a b : List Pc) (rid : Nat), l = a ++ b ∧ x = b.length ∧ f 0 = .str (texts l) ∧ f 1 = .str name ∧ f 5 = .row rid N ∧ f 6 = .int .i64 (texts a).length ∧ σ[rid]? = some (.row 4 1 (Prow (Fk a name) N N) false)) l.length ?_ ?_
  · exact ⟨[], l, 0, rfl, rfl, by simp, by simp, by simp, by simp [texts], by simp⟩
  rintro x f σ ⟨a, b, rid, rfl, rfl, h0, h1, h5, h6, hrow⟩
  have hrl : rid < σ.length := (List.getElem?_eq_some_iff.1 hrow).1
  have ht : texts (a ++ b) = texts a ++ texts b := texts_append a b
  cases b with
  | nil =>
    have e : texts (a ++ []) = texts a := by simp
    have hnl : ¬ ((texts a).length : Int) < ((texts a).length : Int) := by omega
    have hg := prow_full (Fk a name) N (j := name.length) (by omega)
    have hlt : name.length < N := by omega
    rw [fk_end] at hg
    obtain ⟨hg1, hg2⟩ := List.getElem?_eq_some_iff.1 hg
    simp [h0, h1, h5, h6, hrow, i3, hg, hg2, hlt]
  | cons p b =>
    have hfp : flat (p :: b) := by
      have : ∀ (a : List Pc), flat (a ++ p :: b) → flat (p :: b) := by
        intro a
        induction a with
        | nil => exact fun h => h
        | cons q a ih => intro h; cases q <;> first | exact h.elim | exact ih h
      exact this a hf
    have hkp : okL (p :: b) := by
      have : ∀ (a : List Pc), okL (a ++ p :: b) → okL (p :: b) := by
        intro a
        induction a with
        | nil => exact fun h => h
        | cons q a ih => intro h; cases q <;> simp only [List.cons_append, okL] at h <;> first | exact ih h.2 | exact ih h
      exact this a hk
    have htp : texts (p :: b) = p.text ++ texts b := by simp [texts]
    have hta : texts (a ++ [p]) = texts a ++ p.text := by simp [texts]
    have hab : a ++ p :: b = (a ++ [p]) ++ b := by simp
    rw [htp] at ht
    obtain ⟨c0, u, hpu⟩ : ∃ c0 u, p.text = c0 :: u := by
      cases p with
      | lit c => exact ⟨c, [], rfl⟩
      | q => exact ⟨63, [], rfl⟩
      | star => exact ⟨42, [], rfl⟩
      | cls rs t => simp only [okL] at hkp; obtain ⟨⟨b0, rfl, _⟩, _⟩ := hkp; exact ⟨91, b0, rfl⟩
      | br xs => exact hfp.elim
    rw [hpu] at ht
    have hat : (texts (a ++ p :: b))[(texts a).length]? = some c0 := by rw [ht]; simp
    obtain ⟨hat1, hat2⟩ := List.getElem?_eq_some_iff.1 hat
    have hat1' : ((texts a).length : Int) < ((texts (a ++ p :: b)).length : Int) := by omega
    generalize hT : texts (a ++ p :: b) = T at *
    generalize hA : (texts a).length = A at *
    have hwA : IntKind.i64.wrap ((A : Int) + 1) = (A : Int) + 1 := wrap_i64 (by omega) (by omega)
    have hdrop : T.drop (A + 1) = u ++ texts b := by
      rw [ht, ← hA, List.cons_append, List.drop_append, List.drop_of_length_le (by omega)]
      simp
    simp [h0, h1, h5, h6, hat, hat1, hat1', hat2, hwN]
    refine ms_intro N (by simp) (by simp) (by omega) (by omega) (by omega) rfl ?_
    rw [prow_zero (Fk (a ++ [p]) name)]
    simp
    refine lp_gen (fun f' => f' 0 = .str T ∧ f' 1 = .str name ∧ f' 5 = .row rid N ∧ f' 6 = .int .i64 A ∧ f' 7 = .row σ.length N ∧ f' 8 = .int .i64 0) ⟨by simp [h0], by simp [h1], by simp [h5], by simp [h6], by simp, by simp⟩ ?_
    rintro f0 ⟨u0, u1, u5, u6, u7, u8⟩
    refine lp_startx (fun x f σ' => ∃ (k : Nat), x = N - k ∧ k ≤ N ∧ f 0 = .str T ∧ f 1 = .str name ∧ f 5 = .row rid N ∧ f 6 = .int .i64 A ∧ f 7 = .row σ.length N ∧ f 8 = .int .i64 k ∧ σ' = σ ++ [.row 4 1 (Prow (Fk (a ++ [p]) name) N k) false]) N ?_ ?_
    · exact ⟨0, rfl, by omega, u0, u1, u5, u6, u7, u8, rfl⟩
    rintro x' f1 σ' ⟨k, hx', hkN, w0, w1, w5, w6, w7, w8, rfl⟩
    have hw11 : IntKind.i64.wrap 1 = 1 := wrap_i64 (by omega) (by omega)
    have s1 : ∀ e : Entry, (σ ++ [e])[rid]? = some (.row 4 1 (Prow (Fk a name) N N) false) := fun e => by rw [List.getElem?_append_left hrl]; exact hrow
    have s2 : ∀ e : Entry, (σ ++ [e])[σ.length]? = some e := fun e => by simp
    have s3 : ∀ e e' : Entry, (σ ++ [e]).set σ.length e' = σ ++ [e'] := fun e e' => by simp
    by_cases hkl : k < N
    · have hkl' : (k : Int) ≤ (name.length : Int) := by omega
      have hkl2 : k ≤ name.length := by omega
      have hwk : IntKind.i64.wrap ((k : Int) + 1) = (k : Int) + 1 := wrap_i64 (by omega) (by omega)
      have hwk1 : IntKind.i64.wrap ((k : Int) - 1) = (k : Int) - 1 := wrap_i64 (by omega) (by omega)
      have gE := prow_full (Fk a name) N hkl
      obtain ⟨gE1, gE2⟩ := List.getElem?_eq_some_iff.1 gE
      have gS := prow_set (Fk (a ++ [p]) name) hkl
      have gZ := prow_get (Fk (a ++ [p]) name) (k := k) hkl
      rw [if_neg (Nat.lt_irrefl k)] at gZ
      obtain ⟨gZ1, gZ2⟩ := List.getElem?_eq_some_iff.1 gZ
      have hnext : ∀ {f' : Abs.Frame} {tf : Tg f'} {tI : Tg (fun x f σ' => ∃ (k : Nat), x = N - k ∧ k ≤ N ∧ f 0 = .str T ∧ f 1 = .str name ∧ f 5 = .row rid N ∧ f 6 = .int .i64 A ∧ f 7 = .row σ.length N ∧ f 8 = .int .i64 k ∧ σ' = σ ++ [.row 4 1 (Prow (Fk (a ++ [p]) name) N k) false])} {σ' : Store} (v : Bool), v = Fk (a ++ [p]) name k → f' 0 = .str T → f' 1 = .str name → f' 5 = .row rid N → f' 6 = .int .i64 A → f' 7 = .row σ.length N → f' 8 = .int .i64 ((k : Int) + 1) → σ' = σ ++ [.row 4 1 ((Prow (Fk (a ++ [p]) name) N k).set k [.bool v]) false] → Abs.nx x' _ tI f' tf σ' := by
        intro f' tf tI σ' v hv q0 q1 q5 q6 q7 q8 hs
        subst hv
        rw [gS] at hs
        exact nx_intro (N - (k + 1)) (by omega) ⟨k + 1, rfl, by omega, q0, q1, q5, q6, q7, by simp [q8], hs⟩
      have hskip : ∀ {f' : Abs.Frame} {tf : Tg f'} {tI : Tg (fun x f σ' => ∃ (k : Nat), x = N - k ∧ k ≤ N ∧ f 0 = .str T ∧ f 1 = .str name ∧ f 5 = .row rid N ∧ f 6 = .int .i64 A ∧ f 7 = .row σ.length N ∧ f 8 = .int .i64 k ∧ σ' = σ ++ [.row 4 1 (Prow (Fk (a ++ [p]) name) N k) false])} {σ' : Store}, Fk (a ++ [p]) name k = false → f' 0 = .str T → f' 1 = .str name → f' 5 = .row rid N → f' 6 = .int .i64 A → f' 7 = .row σ.length N → f' 8 = .int .i64 ((k : Int) + 1) → σ' = σ ++ [.row 4 1 (Prow (Fk (a ++ [p]) name) N k) false] → Abs.nx x' _ tI f' tf σ' := by
        intro f' tf tI σ' hv q0 q1 q5 q6 q7 q8 hs
        rw [prow_skip _ hkl hv] at hs
        exact nx_intro (N - (k + 1)) (by omega) ⟨k + 1, rfl, by omega, q0, q1, q5, q6, q7, by simp [q8], hs⟩
      by_cases hps : p = .star
      · subst hps
        have h42 : c0 = 42 := by simp [Pc.text] at hpu; exact hpu.1.symm
        subst h42
        cases hE : Fk a name k with
        | true =>
          rw [hE] at gE gE2
          simp [w0, w1, w5, w6, w7, w8, hkl', hkl2, hkl, hat, hat1, hat2, i3, s1, s2, s3, gE, gE2, gZ, gZ2, hwk, hw11]
          refine hnext true ?_ (by simp [w0]) (by simp [w1]) (by simp [w5]) (by simp [w6]) (by simp [w7]) (by simp) (by simp)
          cases k with
          | zero => simp only [Fk, List.take_zero, mt_star_zero] at hE ⊢; exact hE.symm
          | succ j => simp only [Fk] at hE ⊢; rw [mt_star_succ _ _ _ (by omega), hE]; rfl
        | false =>
          rw [hE] at gE gE2
          cases k with
          | zero =>
            simp [w0, w1, w5, w6, w7, w8, hkl', hkl2, hkl, hat, hat1, hat2, i3, s1, s2, s3, gE, gE2, gZ, gZ2, hwk, hw11]
            refine hnext false ?_ (by simp [w0]) (by simp [w1]) (by simp [w5]) (by simp [w6]) (by simp [w7]) (by simp) (by simp)
            simp only [Fk, List.take_zero, mt_star_zero] at hE ⊢; exact hE.symm
          | succ j =>
            have gP := prow_get (Fk (a ++ [.star]) name) (n := N) (k := j + 1) (j := j) (by omega)
            rw [if_pos (Nat.lt_succ_self j)] at gP
            obtain ⟨gP1, gP2⟩ := List.getElem?_eq_some_iff.1 gP
            have hwj : IntKind.i64.wrap (j : Int) = (j : Int) := wrap_i64 (by omega) (by omega)
            have hjN : j < N := by omega
            have hjp : (0 : Int) < (j : Int) + 1 := by omega
            have hj0 : (0 : Int) ≤ (j : Int) + 1 := by omega
            simp at hkl' hwk
            simp [w0, w1, w5, w6, w7, w8, hkl', hkl2, hkl, hat, hat1, hat2, i3, s1, s2, s3, gE, gE2, gZ, gZ2, hwk, hj0, hwj, gP, gP2, hjN, hjp]
            refine hnext (Fk (a ++ [.star]) name j) ?_ (by simp [w0]) (by simp [w1]) (by simp [w5]) (by simp [w6]) (by simp [w7]) (by simp) (by simp)
            simp only [Fk] at hE ⊢; rw [mt_star_succ _ _ _ (by omega), hE]; simp
      · have h42 : ¬ c0 = 42 := by
          cases p with
          | lit c => simp [Pc.text] at hpu; rw [← hpu.1]; simp only [okL] at hkp; exact (nb_no c hkp.1).2.2.1
          | q => simp [Pc.text] at hpu; rw [← hpu.1]; decide
          | star => exact absurd rfl hps
          | cls rs t => simp only [okL] at hkp; obtain ⟨⟨b0, rfl, _⟩, _⟩ := hkp; simp [Pc.text] at hpu; rw [← hpu.1]; decide
          | br xs => exact hfp.elim
        have h42' : ¬ ((c0.toNat : Int) = 42) := u8_ne (n := 42) rfl h42
        cases k with
        | zero =>
          simp at w8
          simp [w0, w1, w5, w6, w7, w8, hkl', hkl2, hkl, hat, hat1, hat2, h42', hw11]
          exact hskip (by simp only [Fk, List.take_zero]; exact mt_other_zero a hps) (by simp [w0]) (by simp [w1]) (by simp [w5]) (by simp [w6]) (by simp [w7]) (by simp) (by simp)
        | succ j =>
          have hjl : j < name.length := by omega
          obtain ⟨c, hc⟩ : ∃ c, name[j]? = some c := ⟨_, List.getElem?_eq_getElem hjl⟩
          obtain ⟨_, hc2⟩ := List.getElem?_eq_some_iff.1 hc
          have hFj : Fk (a ++ [p]) name (j + 1) = (Fk a name j && p.one c) := mt_other_succ a hps name j c hc
          have gJ := prow_full (Fk a name) N (j := j) (by omega)
          obtain ⟨gJ1, gJ2⟩ := List.getElem?_eq_some_iff.1 gJ
          have hwj : IntKind.i64.wrap (j : Int) = (j : Int) := wrap_i64 (by omega) (by omega)
          have hjN : j < N := by omega
          have hjz : ¬ ((j : Int) + 1 = 0) := by omega
          have hj0 : (0 : Int) ≤ (j : Int) + 1 := by omega
          simp at hkl' hwk w8
          cases hE : Fk a name j with
          | false =>
            rw [hE] at gJ gJ2 hFj
            have hfin : false = Fk (a ++ [p]) name (j + 1) := by rw [hFj]; rfl
            by_cases h91 : c0 = 91
            · subst h91
              simp [w0, w1, w5, w6, w7, w8, hkl', hkl2, hkl, hat, hat1, hat2, h42', hjz, hj0, hwj, hjN, i3, s1, s2, s3, gJ, gJ2, gZ, gZ2, hwk, hw11]
              exact hnext false hfin (by simp [w0]) (by simp [w1]) (by simp [w5]) (by simp [w6]) (by simp [w7]) (by simp) (by simp)
            · have h91' : ¬ ((c0.toNat : Int) = 91) := u8_ne (n := 91) rfl h91
              simp [w0, w1, w5, w6, w7, w8, hkl', hkl2, hkl, hat, hat1, hat2, h42', h91', hjz, hj0, hwj, hjN, i3, s1, s2, s3, gJ, gJ2, gZ, gZ2, hwk, hw11]
              exact hnext false hfin (by simp [w0]) (by simp [w1]) (by simp [w5]) (by simp [w6]) (by simp [w7]) (by simp) (by simp)
          | true =>
            rw [hE] at gJ gJ2 hFj
            have hfin : p.one c = Fk (a ++ [p]) name (j + 1) := by rw [hFj]; rfl
            cases p with
            | star => exact absurd rfl hps
            | br xs => exact hfp.elim
            | q =>
              have e : c0 = 63 := by simp [Pc.text] at hpu; exact hpu.1.symm
              subst e
              simp [w0, w1, w5, w6, w7, w8, hkl', hkl2, hkl, hat, hat1, hat2, h42', hjz, hj0, hwj, hjN, i3, s1, s2, s3, gJ, gJ2, gZ, gZ2, hwk, hw11]
              exact hnext true hfin (by simp [w0]) (by simp [w1]) (by simp [w5]) (by simp [w6]) (by simp [w7]) (by simp) (by simp)
            | lit d =>
              have e : c0 = d := by simp [Pc.text] at hpu; exact hpu.1.symm
              subst e
              simp only [okL] at hkp
              obtain ⟨_, n63, _, n91, _⟩ := nb_no c0 hkp.1
              have h91' : ¬ ((c0.toNat : Int) = 91) := u8_ne (n := 91) rfl n91
              have h63' : ¬ ((c0.toNat : Int) = 63) := u8_ne (n := 63) rfl n63
              have hdd : decide ((c0.toNat : Int) = (c.toNat : Int)) = decide (c0 = c) := decide_eq_decide.2 ⟨fun h => UInt8.toNat_inj.1 (by omega), fun h => by rw [h]⟩
              by_cases hcc : c0 = c
              · subst hcc
                simp [w0, w1, w5, w6, w7, w8, hkl', hkl2, hkl, hat, hat1, hat2, h42', h91', h63', hjz, hj0, hwj, hjN, hjl, hc, hc2, i3, s1, s2, s3, gJ, gJ2, gZ, gZ2, hwk, hw11]
                exact hnext true (by rw [← hfin]; simp [Pc.one]) (by simp [w0]) (by simp [w1]) (by simp [w5]) (by simp [w6]) (by simp [w7]) (by simp) (by simp)
              · have hcc' : ¬ ((c0.toNat : Int) = (c.toNat : Int)) := u8_ne rfl hcc
                have hcc2 : ¬ (c0.toNat = c.toNat) := fun h => hcc (UInt8.toNat_inj.1 h)
                simp [w0, w1, w5, w6, w7, w8, hkl', hkl2, hkl, hat, hat1, hat2, h42', h91', h63', hjz, hj0, hwj, hjN, hjl, hc, hc2, i3, s1, s2, s3, gJ, gJ2, gZ, gZ2, hwk, hcc', hcc2]
                exact hnext false (by rw [← hfin]; simp [Pc.one, hcc]) (by simp [w0]) (by simp [w1]) (by simp [w5]) (by simp [w6]) (by simp [w7]) (by simp) (by simp)
            | cls rs t =>
              simp only [okL] at hkp
              obtain ⟨⟨b0, rfl, hcl⟩, _⟩ := hkp
              simp only [Pc.text, List.cons.injEq] at hpu
              obtain ⟨rfl, rfl⟩ := hpu
              have hcl2 := hcl (b0.length + 1) (texts b) (by omega)
              rw [← hdrop] at hcl2
              have hhas := rhas_ok (G := G) T (A + 1) (b0.length + 1) false rs (texts b) c hcl2 (by omega)
              simp at hhas
              simp [w0, w1, w5, w6, w7, w8, hkl', hkl2, hkl, hat, hat1, hat2, h42', hjz, hj0, hwj, hwA, hjN, hjl, hc, hc2, i3, s1, s2, s3, gJ, gJ2, gZ, gZ2, hwk, hw11]
              refine ac_same hhas (by simp) ?_
              rintro v rfl
              simp [w0, w1, w5, w6, w7, w8, hkl', hkl2, hkl, hat, hat1, hat2, h42', hjz, hj0, hwj, hjN, hjl, hc, hc2, i3, s1, s2, s3, gJ, gJ2, gZ, gZ2, hwk, hw11]
              exact hnext _ hfin (by simp [w0]) (by simp [w1]) (by simp [w5]) (by simp [w6]) (by simp [w7]) (by simp) (by simp [Pc.one])
    · have hke : k = N := by omega
      have hkl' : ¬ (k : Int) ≤ (name.length : Int) := by omega
      have hkl2 : ¬ k ≤ name.length := by omega
      have hidl : σ.length < (σ ++ [Entry.row 4 1 (Prow (Fk (a ++ [p]) name) N k) false]).length := by simp
      subst hke
      have hstep : ∀ {f' : Abs.Frame} {tf : Tg f'} {tI : Tg (fun x f σ => ∃ (a_1 b_1 : List Pc) (rid : Nat), a ++ p :: b = a_1 ++ b_1 ∧ x = b_1.length ∧ f 0 = .str T ∧ f 1 = .str name ∧ f 5 = .row rid k ∧ f 6 = .int .i64 (texts a_1).length ∧ σ[rid]? = some (.row 4 1 (Prow (Fk a_1 name) k k) false))} {σ' : Store}, f' 0 = .str T → f' 1 = .str name → f' 5 = .row σ.length k → f' 6 = .int .i64 ((A : Int) + (p.text.length : Int)) → σ' = σ ++ [.row 4 1 (Prow (Fk (a ++ [p]) name) k k) false] → Abs.nx (p :: b).length _ tI f' tf σ' := by
        intro f' tf tI σ' q0 q1 q5 q6 hs
        subst hs
        exact nx_intro b.length (by simp) ⟨a ++ [p], b, σ.length, hab, rfl, q0, q1, q5, by rw [q6, hta, List.length_append, hA]; simp, by simp⟩
      by_cases h91 : c0 = 91
      · subst h91
        cases p with
        | star => simp [Pc.text] at hpu
        | q => simp [Pc.text] at hpu
        | br xs => exact hfp.elim
        | lit d => simp [Pc.text] at hpu; simp only [okL] at hkp; exact absurd hpu.1 (nb_no d hkp.1).2.2.2.1
        | cls rs t =>
          simp only [okL] at hkp
          obtain ⟨⟨b0, rfl, hcl⟩, _⟩ := hkp
          simp only [Pc.text, List.cons.injEq] at hpu
          obtain ⟨_, rfl⟩ := hpu
          have hcl2 := hcl (b0.length + 1) (texts b) (by omega)
          rw [← hdrop] at hcl2
          have hclass := rclass_ok (G := G) T (A + 1) (b0.length + 1) rs (texts b) hcl2 (by omega)
          have hTl : T.length = A + (b0.length + 1) + (texts b).length := by rw [ht, ← hA]; simp; omega
          have e : ((T.length - (texts b).length : Nat) : Int) = (A : Int) + ((b0.length : Int) + 1) := by omega
          rw [e] at hclass
          simp at hclass
          simp [w0, w1, w5, w6, w7, w8, hkl', hkl2, hat, hat1, hat2, hwA]
          refine ac_same hclass (by simp) ?_
          rintro v rfl
          simp [w7]
          exact hstep (by simp [w0]) (by simp [w1]) (by simp) (by simp [Pc.text]) rfl
      · have h91' : ¬ ((c0.toNat : Int) = 91) := u8_ne (n := 91) rfl h91
        have h1 : p.text.length = 1 := by
          cases p with
          | star => rfl
          | q => rfl
          | br xs => exact hfp.elim
          | lit d => rfl
          | cls rs t => simp only [okL] at hkp; obtain ⟨⟨b0, rfl, hcl⟩, _⟩ := hkp; simp [Pc.text] at hpu; exact absurd hpu.1.symm h91
        simp [w0, w1, w5, w6, w7, w8, hkl', hkl2, hat, hat1, hat2, hwA, h91']
        exact hstep (by simp [w0]) (by simp [w1]) (by simp) (by simp [h1]) rfl
end Go.Proofs.YtjpjmdjjgfllhaaGreatDoor
end
section
set_option maxHeartbeats 8000000
namespace Go.Glob
theorem alts_some {n : Nat} {s : List UInt8} {xs : List (List Pc)} {r : List UInt8} {d : Nat} (h : alts n s = some (xs, r, d)) :
    ∃ m a c t d1, n = m + 1 ∧ pcs m s = some (a, c :: t, d1) ∧ ((c = 125 ∧ xs = [a] ∧ r = t ∧ d = d1) ∨ (c ≠ 125 ∧ ∃ as' d2, alts m t = some (as', r, d2) ∧ xs = a :: as' ∧ d = max d1 d2)) := by
  cases n with
  | zero => simp [alts] at h
  | succ m =>
    rw [alts_step] at h
    cases hp : pcs m s with
    | none => rw [hp] at h; cases h
    | some v =>
      obtain ⟨a, r1, d1⟩ := v
      rw [hp] at h
      simp only [Option.bind_some] at h
      cases r1 with
      | nil => cases h
      | cons c t =>
        simp only at h
        by_cases hc : c = 125
        · rw [if_pos hc] at h
          cases h
          exact ⟨m, a, c, _, _, rfl, hp, .inl ⟨hc, rfl, rfl, rfl⟩⟩
        · rw [if_neg hc] at h
          cases ha : alts m t with
          | none => rw [ha] at h; cases h
          | some w =>
            obtain ⟨as', r2, d2⟩ := w
            rw [ha] at h
            cases h
            exact ⟨m, a, c, t, d1, rfl, hp, .inr ⟨hc, as', d2, ha, rfl, rfl⟩⟩
theorem pcs_some {n : Nat} {s : List UInt8} {l : List Pc} {r : List UInt8} {d : Nat} (h : pcs n s = some (l, r, d)) : (s = [] ∧ l = [] ∧ r = [] ∧ d = 0) ∨ ∃ m c t, n = m + 1 ∧ s = c :: t ∧
    (((c = 44 ∨ c = 125) ∧ l = [] ∧ r = c :: t ∧ d = 0) ∨ (¬ (c = 44 ∨ c = 125) ∧
      ((c = 63 ∧ ∃ l', pcs m t = some (l', r, d) ∧ l = .q :: l') ∨
       (c = 42 ∧ ∃ l', pcs m t = some (l', r, d) ∧ l = .star :: l') ∨
       (nb c = true ∧ ∃ l', pcs m t = some (l', r, d) ∧ l = .lit c :: l') ∨
       (c = 91 ∧ ∃ rs r1 l', cls m false t = some (rs, r1) ∧ pcs m r1 = some (l', r, d) ∧ l = .cls rs ((c :: t).take (t.length + 1 - r1.length)) :: l') ∨
       (c = 123 ∧ ∃ xs r1 d1 l' d2, alts m t = some (xs, r1, d1) ∧ pcs m r1 = some (l', r, d2) ∧ l = .br xs :: l' ∧ d = max (d1 + 1) d2)))) := by
  cases n with
  | zero => simp [pcs] at h
  | succ m =>
    cases s with
    | nil => rw [pcs_end] at h; cases h; exact .inl ⟨rfl, rfl, rfl, rfl⟩
    | cons c t =>
      refine .inr ⟨m, c, t, rfl, rfl, ?_⟩
      by_cases hst : c = 44 ∨ c = 125
      · rw [pcs_stop hst] at h
        cases h
        exact .inl ⟨hst, rfl, rfl, rfl⟩
      refine .inr ⟨hst, ?_⟩
      by_cases h63 : c = 63
      · subst h63
        rw [pcs_q] at h
        cases hp : pcs m t with
        | none => rw [hp] at h; cases h
        | some v => obtain ⟨l', r', d'⟩ := v; rw [hp] at h; cases h; exact .inl ⟨rfl, _, rfl, rfl⟩
      by_cases h42 : c = 42
      · subst h42
        rw [pcs_star] at h
        cases hp : pcs m t with
        | none => rw [hp] at h; cases h
        | some v => obtain ⟨l', r', d'⟩ := v; rw [hp] at h; cases h; exact .inr (.inl ⟨rfl, _, rfl, rfl⟩)
      by_cases h91 : c = 91
      · subst h91
        rw [pcs_cls] at h
        cases hc : cls m false t with
        | none => rw [hc] at h; cases h
        | some u =>
          obtain ⟨rs, r1⟩ := u
          rw [hc] at h
          simp only [Option.bind_some] at h
          cases hp : pcs m r1 with
          | none => rw [hp] at h; cases h
          | some v => obtain ⟨l', r', d'⟩ := v; rw [hp] at h; cases h; exact .inr (.inr (.inr (.inl ⟨rfl, rs, r1, _, rfl, hp, rfl⟩)))
      by_cases h123 : c = 123
      · subst h123
        rw [pcs_br] at h
        cases ha : alts m t with
        | none => rw [ha] at h; cases h
        | some u =>
          obtain ⟨xs, r1, d1⟩ := u
          rw [ha] at h
          simp only [Option.bind_some] at h
          cases hp : pcs m r1 with
          | none => rw [hp] at h; cases h
          | some v => obtain ⟨l', r', d'⟩ := v; rw [hp] at h; cases h; exact .inr (.inr (.inr (.inr ⟨rfl, xs, r1, d1, _, _, rfl, hp, rfl, rfl⟩)))
      cases hn : nb c with
      | false => rw [pcs_no hst h63 h42 h91 h123 hn] at h; cases h
      | true =>
        rw [pcs_lit hn] at h
        cases hp : pcs m t with
        | none => rw [hp] at h; cases h
        | some v => obtain ⟨l', r', d'⟩ := v; rw [hp] at h; cases h; exact .inr (.inr (.inl ⟨rfl, _, rfl, rfl⟩))
/-- Where what is left stands. -/
theorem left_at {p r : List UInt8} {k m : Nat} {l : List Pc} {d : Nat} (h : pcs m (p.drop k) = some (l, r, d)) (hk : k ≤ p.length) : p.drop (p.length - r.length) = r ∧ k ≤ p.length - r.length ∧ r.length ≤ p.length := by
  obtain ⟨h1, h2⟩ := pcs_drop h
  exact ⟨h1, by omega, by omega⟩
end Go.Glob
namespace Go.Proofs.YtjpjmdjjgfllhaaGreatDoor
open Go.Abs Go.Glob
variable {G : Globs}
theorem rform_ok : ∀ (L : Nat) (p : List UInt8) (i m : Nat) (l : List Pc) (r : List UInt8) (d : Nat), p.length - i ≤ L → i ≤ p.length → p.length ≤ 1000000 → d ≤ 1000000 → pcs m (p.drop i) = some (l, r, d) →
    PCalls Tryz.prog n_isobarref15_form [.str p, .int .i64 i] (fun v => v = .tup [.int .i64 (p.length - r.length : Nat), .int .i64 d, .int .i64 (cnt 1 l)]) := by
  intro L
  induction L with
  | zero =>
    intro p i m l r d hL hi hp hdl h
    have he : p.drop i = [] := List.drop_of_length_le (by omega)
    rw [he] at h
    rcases pcs_some h with ⟨_, rfl, rfl, rfl⟩ | ⟨_, _, _, _, h2, _⟩
    · refine pcalls_of_awp hmix c_isobarref15_form rfl ?_
      simp [a_isobarref15_form]
      refine lp_startx (fun x f σ => f 0 = .str p ∧ f 1 = .int .i64 i ∧ f 7 = .int .i64 0 ∧ f 8 = .int .i64 1 ∧ σ = []) 0 ⟨by simp, by simp, by simp, by simp, rfl⟩ ?_
      rintro x f σ ⟨h0, h1, h7, h8, rfl⟩
      have hlt : ¬ (i : Int) < (p.length : Int) := by omega
      have hlt' : ¬ i < p.length := by omega
      have e : i = p.length := by omega
      simp [h0, h1, h7, h8, hlt, hlt', cnt]
      omega
    · cases h2
  | succ L ih =>
    intro p i m l r d hL hi hp hdl h
    refine pcalls_of_awp hmix c_isobarref15_form rfl ?_
    simp [a_isobarref15_form]
    refine lp_startx (fun x f σ => ∃ (k m' : Nat) (l2 : List Pc) (d1 d2 n1 : Nat), x = p.length - k ∧ i ≤ k ∧ k ≤ p.length ∧ pcs m' (p.drop k) = some (l2, r, d2) ∧ d = max d1 d2 ∧ n1 ≤ 65 ∧ cnt 1 l = cnt n1 l2 ∧ f 0 = .str p ∧ f 1 = .int .i64 k ∧ f 7 = .int .i64 d1 ∧ f 8 = .int .i64 n1 ∧ σ = []) (p.length - i) ?_ ?_
    · exact ⟨i, m, l, 0, d, 1, rfl, Nat.le_refl _, hi, h, by omega, by omega, rfl, by simp, by simp, by simp, by simp, rfl⟩
    rintro x f σ ⟨k, m', l2, d1, d2, n1, hx, hik, hkl, hpc, hd, hn1, hcnt, h0, h1, h7, h8, rfl⟩
    obtain ⟨lf1, lf2, lf3⟩ := left_at hpc hkl
    rcases pcs_some hpc with ⟨he, rfl, rfl, rfl⟩ | ⟨m', c, t, rfl, hdk, hcase⟩
    · have hke : p.length ≤ k := by have := congrArg List.length he; simp at this; omega
      have hlt : ¬ (k : Int) < (p.length : Int) := by omega
      have hlt' : ¬ k < p.length := by omega
      have hkp : k = p.length := by omega
      have hcn : cnt 1 l = n1 := by rw [hcnt]; simp [cnt]
      have hdd : d = d1 := by omega
      simp [h0, h1, h7, h8, hlt, hlt', hcn, hdd]
      omega
    · obtain ⟨hc, hdk1, hlt⟩ := drop_one hdk
      obtain ⟨_, hc2⟩ := List.getElem?_eq_some_iff.1 hc
      have hlt' : (k : Int) < (p.length : Int) := by omega
      have hwk : IntKind.i64.wrap ((k : Int) + 1) = (k : Int) + 1 := wrap_i64 (by omega) (by omega)
      rcases hcase with ⟨hst, rfl, rfl, rfl⟩ | ⟨hst, hcase⟩
      · have hcn : cnt 1 l = n1 := by rw [hcnt]; simp [cnt]
        have hdd : d = d1 := by omega
        have hr : ((p.length - (c :: t).length : Nat) : Int) = (k : Int) := by
          have : (c :: t).length = p.length - k := by rw [← hdk]; simp
          omega
        rw [hr]
        rcases hst with rfl | rfl
        · simp [h0, h1, h7, h8, hlt, hlt', hc, hc2, hcn, hdd]
        · simp [h0, h1, h7, h8, hlt, hlt', hc, hc2, hcn, hdd]
      · have n44 : ¬ ((c.toNat : Int) = 44) := u8_ne (n := 44) rfl (fun h => hst (.inl h))
        have n125 : ¬ ((c.toNat : Int) = 125) := u8_ne (n := 125) rfl (fun h => hst (.inr h))
        have hone : ∀ {f' : Abs.Frame} {tf : Tg f'} {tI} {σ' : Store} (l' : List Pc), pcs m' t = some (l', r, d2) → cnt n1 l2 = cnt n1 l' → f' 0 = .str p → f' 1 = .int .i64 ((k : Int) + 1) → f' 7 = .int .i64 d1 → f' 8 = .int .i64 n1 → σ' = [] → Abs.nx x (fun x f σ => ∃ (k m' : Nat) (l2 : List Pc) (d1 d2 n1 : Nat), x = p.length - k ∧ i ≤ k ∧ k ≤ p.length ∧ pcs m' (p.drop k) = some (l2, r, d2) ∧ d = max d1 d2 ∧ n1 ≤ 65 ∧ cnt 1 l = cnt n1 l2 ∧ f 0 = .str p ∧ f 1 = .int .i64 k ∧ f 7 = .int .i64 d1 ∧ f 8 = .int .i64 n1 ∧ σ = []) tI f' tf σ' := by
          intro f' tf tI σ' l' hp' hcn q0 q1 q7 q8 hs
          exact nx_intro (p.length - (k + 1)) (by omega) ⟨k + 1, m', l', d1, d2, n1, rfl, by omega, by omega, by rw [hdk1]; exact hp', hd, hn1, by rw [hcnt, hcn], q0, by simp [q1], q7, q8, hs⟩
        simp [h0, h1, h7, h8, hlt, hlt', hc, hc2, n44, n125]
        refine ac_same (refByte_ok c) (by simp) ?_
        rintro v rfl
        rcases hcase with ⟨rfl, l', hp', rfl⟩ | ⟨rfl, l', hp', rfl⟩ | ⟨hnb, l', hp', rfl⟩ | ⟨rfl, rs, r1, l', hcl, hp', rfl⟩ | ⟨rfl, xs, r1, da, l', d3, hal, hp', rfl, rfl⟩
        · have e : nb 63 = false := by decide
          simp [h0, h1, h7, h8, hlt, hlt', hc, hc2, e, hwk]
          exact hone l' hp' (by simp [cnt]) (by simp [h0]) (by simp) (by simp [h7]) (by simp [h8]) rfl
        · have e : nb 42 = false := by decide
          simp [h0, h1, h7, h8, hlt, hlt', hc, hc2, e, hwk]
          exact hone l' hp' (by simp [cnt]) (by simp [h0]) (by simp) (by simp [h7]) (by simp [h8]) rfl
        · simp [h0, h1, h7, h8, hlt, hlt', hc, hc2, hnb, hwk]
          exact hone l' hp' (by simp [cnt]) (by simp [h0]) (by simp) (by simp [h7]) (by simp [h8]) rfl
        · have e : nb 91 = false := by decide
          simp [h0, h1, h7, h8, hlt, hlt', hc, hc2, e, hwk]
          rw [← hdk1] at hcl
          have hclass := rclass_ok (G := G) p (k + 1) m' rs r1 hcl hp
          obtain ⟨cd1, cd2⟩ := cls_drop hcl
          have hge : ¬ ((p.length - r1.length : Nat) : Int) < 0 := by omega
          simp only [Int.natCast_add, Int.cast_ofNat_Int] at hclass
          generalize hE : p.length - r1.length = E at *
          refine ac_same hclass (by simp) ?_
          rintro v rfl
          simp [h0, h7, h8, hge]
          refine nx_intro (p.length - E) (by omega) ⟨E, m', l', d1, d2, n1, rfl, by omega, by omega, by rw [cd1]; exact hp', hd, hn1, by rw [hcnt]; simp [cnt], by simp [h0], by simp, by simp [h7], by simp [h8], rfl⟩
        · have e : nb 123 = false := by decide
          simp [h0, h1, h7, h8, hlt, hlt', hc, hc2, e, hwk]
          have hal0 : alts m' (p.drop (k + 1)) = some (xs, r1, da) := by rw [hdk1]; exact hal
          refine lp_gen (fun f' => f' 0 = .str p ∧ f' 1 = .int .i64 k ∧ f' 7 = .int .i64 d1 ∧ f' 8 = .int .i64 n1 ∧ f' 9 = .int .i64 0) ⟨by simp [h0], by simp [h1], by simp [h7], by simp [h8], by simp⟩ ?_
          rintro f0 ⟨u0, u1, u7, u8, u9⟩
          refine lp_startx (fun x f σ => ∃ (q m2 : Nat) (as2 : List (List Pc)) (da2 D S : Nat), x = p.length - q ∧ k ≤ q ∧ q < p.length ∧ alts m2 (p.drop (q + 1)) = some (as2, r1, da2) ∧ max d1 (da + 1) = max D (da2 + 1) ∧ S ≤ 65 ∧ cntA 0 xs = cntA S as2 ∧ f 0 = .str p ∧ f 1 = .int .i64 q ∧ f 7 = .int .i64 D ∧ f 8 = .int .i64 n1 ∧ f 9 = .int .i64 S ∧ σ = []) (p.length - k) ?_ ?_
          · exact ⟨k, m', xs, da, d1, 0, rfl, Nat.le_refl _, hlt, hal0, rfl, by omega, rfl, u0, u1, u7, u8, by simp [u9], rfl⟩
          rintro x' f1 σ' ⟨q, m2, as2, da2, D, S, hx', hkq, hql, ha2, hD, hS, hcA, w0, w1, w7, w8, w9, rfl⟩
          obtain ⟨m3, a, c', t', da1, rfl, hpa, hcase2⟩ := alts_some ha2
          obtain ⟨e1, e2, e3⟩ := left_at hpa (by omega)
          have hE1 : p.length - (c' :: t').length < p.length := by simp only [List.length_cons] at e3 ⊢; omega
          have hda1 : da1 ≤ da2 := by
            rcases hcase2 with ⟨_, _, _, h⟩ | ⟨_, as', d2', _, _, h⟩ <;> omega
          have hih := ih p (q + 1) m3 a (c' :: t') da1 (by omega) (by omega) hp (by omega) hpa
          simp only [Int.natCast_add, Int.cast_ofNat_Int] at hih
          have hca := cnt_le a 1 (by omega)
          generalize hE : p.length - (c' :: t').length = E at *
          obtain ⟨hcE, hdE, _⟩ := drop_one e1
          obtain ⟨_, hcE2⟩ := List.getElem?_eq_some_iff.1 hcE
          have hE0 : ¬ (E : Int) < 0 := by omega
          have hEl : ¬ (p.length : Int) ≤ (E : Int) := by omega
          have hEl' : ¬ p.length ≤ E := by omega
          have hwq : IntKind.i64.wrap ((q : Int) + 1) = (q : Int) + 1 := wrap_i64 (by omega) (by omega)
          have hwE : IntKind.i64.wrap ((E : Int) + 1) = (E : Int) + 1 := wrap_i64 (by omega) (by omega)
          have hwd : IntKind.i64.wrap ((da1 : Int) + 1) = (da1 : Int) + 1 := wrap_i64 (by omega) (by omega)
          have hwS : IntKind.i64.wrap ((S : Int) + (cnt 1 a : Int)) = (S : Int) + (cnt 1 a : Int) := wrap_i64 (by omega) (by omega)
          generalize hCN : cnt 1 a = C at *
          have hinn : ∀ {f' : Abs.Frame} {tf : Tg f'} {tI} {σ' : Store} (D' S' : Nat), ¬ c' = 125 → D' = max D (da1 + 1) → S' = min 65 (S + C) → f' 0 = .str p → f' 1 = .int .i64 E → f' 7 = .int .i64 D' → f' 8 = .int .i64 n1 → f' 9 = .int .i64 S' → σ' = [] → Abs.nx x' (fun x f σ => ∃ (q m2 : Nat) (as2 : List (List Pc)) (da2 D S : Nat), x = p.length - q ∧ k ≤ q ∧ q < p.length ∧ alts m2 (p.drop (q + 1)) = some (as2, r1, da2) ∧ max d1 (da + 1) = max D (da2 + 1) ∧ S ≤ 65 ∧ cntA 0 xs = cntA S as2 ∧ f 0 = .str p ∧ f 1 = .int .i64 q ∧ f 7 = .int .i64 D ∧ f 8 = .int .i64 n1 ∧ f 9 = .int .i64 S ∧ σ = []) tI f' tf σ' := by
            intro f' tf tI σ' D' S' hc' hD' hS' q0 q1 q7 q8 q9 hs
            rcases hcase2 with ⟨h, _⟩ | ⟨_, as', d2', ha', rfl, rfl⟩
            · exact absurd h hc'
            · exact nx_intro (p.length - E) (by omega) ⟨E, m3, as', d2', D', S', rfl, by omega, by omega, by rw [hdE]; exact ha', by omega, by omega, by rw [hcA]; simp [cntA, hCN, hS'], q0, q1, q7, q8, q9, hs⟩
          have hout : ∀ {f' : Abs.Frame} {tf : Tg f'} {tI} {σ' : Store} (D' S' N' : Nat), c' = 125 → D' = max D (da1 + 1) → S' = min 65 (S + C) → N' = min 65 (n1 * S') → f' 0 = .str p → f' 1 = .int .i64 ((E : Int) + 1) → f' 7 = .int .i64 D' → f' 8 = .int .i64 N' → σ' = [] → Abs.nx x (fun x f σ => ∃ (k m' : Nat) (l2 : List Pc) (d1 d2 n1 : Nat), x = p.length - k ∧ i ≤ k ∧ k ≤ p.length ∧ pcs m' (p.drop k) = some (l2, r, d2) ∧ d = max d1 d2 ∧ n1 ≤ 65 ∧ cnt 1 l = cnt n1 l2 ∧ f 0 = .str p ∧ f 1 = .int .i64 k ∧ f 7 = .int .i64 d1 ∧ f 8 = .int .i64 n1 ∧ σ = []) tI f' tf σ' := by
            intro f' tf tI σ' D' S' N' hc' hD' hS' hN' q0 q1 q7 q8 hs
            rcases hcase2 with ⟨_, rfl, rfl, rfl⟩ | ⟨h, _⟩
            · exact nx_intro (p.length - (E + 1)) (by omega) ⟨E + 1, m', l', D', d3, N', rfl, by omega, by omega, by rw [hdE]; exact hp', by omega, by omega, by rw [hcnt]; simp [cnt, hcA, cntA, hCN, hN', hS'], q0, by simp [q1], q7, q8, hs⟩
            · exact absurd hc' h
          simp [w0, w1, w7, w8, w9, hwq]
          refine ac_same hih (by simp) ?_
          rintro v rfl
          by_cases hDm : D ≤ da1
          · have hDi : (D : Int) < (da1 : Int) + 1 := by omega
            by_cases hSm : S + C < 65
            · have hSi : (S : Int) + (C : Int) < 65 := by omega
              have hMu : IntKind.i64.wrap ((n1 : Int) * ((S : Int) + (C : Int))) = (n1 : Int) * ((S : Int) + (C : Int)) := by
                have hb1 : n1 * (S + C) ≤ 65 * 65 := Nat.mul_le_mul hn1 (by omega)
                have hb2 : ((n1 * (S + C) : Nat) : Int) = (n1 : Int) * ((S : Int) + (C : Int)) := by push_cast; rfl
                rw [← hb2]; exact wrap_i64 (by omega) (by omega)
              by_cases h125 : c' = 125
              · have h125i : (c'.toNat : Int) = 125 := by rw [h125]; rfl
                by_cases hM : n1 * (S + C) < 65
                · have hMi : (n1 : Int) * ((S : Int) + (C : Int)) < 65 := by (have hb2 : ((n1 * (S + C) : Nat) : Int) = (n1 : Int) * ((S : Int) + (C : Int)) := by push_cast; rfl); omega
                  simp [w0, w1, w7, w8, w9, hE0, hEl, hEl', hwd, hwS, hDm, hDi, hSm, hSi, hcE, hcE2, hE1, h125, hwE, hMu, hM, hMi]
                  refine hout (da1 + 1) (S + C) (n1 * (S + C)) h125 (by omega) (by omega) (by omega) (by simp [w0]) (by simp) (by simp [w7]) (by simp [w8]) rfl
                · have hMi : ¬ (n1 : Int) * ((S : Int) + (C : Int)) < 65 := by (have hb2 : ((n1 * (S + C) : Nat) : Int) = (n1 : Int) * ((S : Int) + (C : Int)) := by push_cast; rfl); omega
                  simp [w0, w1, w7, w8, w9, hE0, hEl, hEl', hwd, hwS, hDm, hDi, hSm, hSi, hcE, hcE2, hE1, h125, hwE, hMu, hM, hMi]
                  refine hout (da1 + 1) (S + C) 65 h125 (by omega) (by omega) (by omega) (by simp [w0]) (by simp) (by simp [w7]) (by simp [w8]) rfl
              · have h125i : ¬ (c'.toNat : Int) = 125 := u8_ne (n := 125) rfl h125
                simp [w0, w1, w7, w8, w9, hE0, hEl, hEl', hwd, hwS, hDm, hDi, hSm, hSi, hcE, hcE2, hE1, h125, h125i]
                refine hinn (da1 + 1) (S + C) h125 (by omega) (by omega) (by simp [w0]) (by simp) (by simp [w7]) (by simp [w8]) (by simp) rfl
            · have hSi : ¬ (S : Int) + (C : Int) < 65 := by omega
              have hMu : IntKind.i64.wrap ((n1 : Int) * 65) = (n1 : Int) * 65 := by
                have hb1 : n1 * (65) ≤ 65 * 65 := Nat.mul_le_mul hn1 (by omega)
                have hb2 : ((n1 * (65) : Nat) : Int) = (n1 : Int) * 65 := by push_cast; rfl
                rw [← hb2]; exact wrap_i64 (by omega) (by omega)
              by_cases h125 : c' = 125
              · have h125i : (c'.toNat : Int) = 125 := by rw [h125]; rfl
                by_cases hM : n1 * (65) < 65
                · have hMi : (n1 : Int) * 65 < 65 := by (have hb2 : ((n1 * (65) : Nat) : Int) = (n1 : Int) * 65 := by push_cast; rfl); omega
                  simp [w0, w1, w7, w8, w9, hE0, hEl, hEl', hwd, hwS, hDm, hDi, hSm, hSi, hcE, hcE2, hE1, h125, hwE, hMu, hM, hMi]
                  refine hout (da1 + 1) (65) (n1 * (65)) h125 (by omega) (by omega) (by omega) (by simp [w0]) (by simp) (by simp [w7]) (by simp [w8]) rfl
                · have hMi : ¬ (n1 : Int) * 65 < 65 := by (have hb2 : ((n1 * (65) : Nat) : Int) = (n1 : Int) * 65 := by push_cast; rfl); omega
                  simp [w0, w1, w7, w8, w9, hE0, hEl, hEl', hwd, hwS, hDm, hDi, hSm, hSi, hcE, hcE2, hE1, h125, hwE, hMu, hM, hMi]
                  refine hout (da1 + 1) (65) 65 h125 (by omega) (by omega) (by omega) (by simp [w0]) (by simp) (by simp [w7]) (by simp [w8]) rfl
              · have h125i : ¬ (c'.toNat : Int) = 125 := u8_ne (n := 125) rfl h125
                simp [w0, w1, w7, w8, w9, hE0, hEl, hEl', hwd, hwS, hDm, hDi, hSm, hSi, hcE, hcE2, hE1, h125, h125i]
                refine hinn (da1 + 1) (65) h125 (by omega) (by omega) (by simp [w0]) (by simp) (by simp [w7]) (by simp [w8]) (by simp) rfl
          · have hDi : ¬ (D : Int) < (da1 : Int) + 1 := by omega
            by_cases hSm : S + C < 65
            · have hSi : (S : Int) + (C : Int) < 65 := by omega
              have hMu : IntKind.i64.wrap ((n1 : Int) * ((S : Int) + (C : Int))) = (n1 : Int) * ((S : Int) + (C : Int)) := by
                have hb1 : n1 * (S + C) ≤ 65 * 65 := Nat.mul_le_mul hn1 (by omega)
                have hb2 : ((n1 * (S + C) : Nat) : Int) = (n1 : Int) * ((S : Int) + (C : Int)) := by push_cast; rfl
                rw [← hb2]; exact wrap_i64 (by omega) (by omega)
              by_cases h125 : c' = 125
              · have h125i : (c'.toNat : Int) = 125 := by rw [h125]; rfl
                by_cases hM : n1 * (S + C) < 65
                · have hMi : (n1 : Int) * ((S : Int) + (C : Int)) < 65 := by (have hb2 : ((n1 * (S + C) : Nat) : Int) = (n1 : Int) * ((S : Int) + (C : Int)) := by push_cast; rfl); omega
                  simp [w0, w1, w7, w8, w9, hE0, hEl, hEl', hwd, hwS, hDm, hDi, hSm, hSi, hcE, hcE2, hE1, h125, hwE, hMu, hM, hMi]
                  refine hout (D) (S + C) (n1 * (S + C)) h125 (by omega) (by omega) (by omega) (by simp [w0]) (by simp) (by simp [w7]) (by simp [w8]) rfl
                · have hMi : ¬ (n1 : Int) * ((S : Int) + (C : Int)) < 65 := by (have hb2 : ((n1 * (S + C) : Nat) : Int) = (n1 : Int) * ((S : Int) + (C : Int)) := by push_cast; rfl); omega
                  simp [w0, w1, w7, w8, w9, hE0, hEl, hEl', hwd, hwS, hDm, hDi, hSm, hSi, hcE, hcE2, hE1, h125, hwE, hMu, hM, hMi]
                  refine hout (D) (S + C) 65 h125 (by omega) (by omega) (by omega) (by simp [w0]) (by simp) (by simp [w7]) (by simp [w8]) rfl
              · have h125i : ¬ (c'.toNat : Int) = 125 := u8_ne (n := 125) rfl h125
                simp [w0, w1, w7, w8, w9, hE0, hEl, hEl', hwd, hwS, hDm, hDi, hSm, hSi, hcE, hcE2, hE1, h125, h125i]
                refine hinn (D) (S + C) h125 (by omega) (by omega) (by simp [w0]) (by simp) (by simp [w7]) (by simp [w8]) (by simp) rfl
            · have hSi : ¬ (S : Int) + (C : Int) < 65 := by omega
              have hMu : IntKind.i64.wrap ((n1 : Int) * 65) = (n1 : Int) * 65 := by
                have hb1 : n1 * (65) ≤ 65 * 65 := Nat.mul_le_mul hn1 (by omega)
                have hb2 : ((n1 * (65) : Nat) : Int) = (n1 : Int) * 65 := by push_cast; rfl
                rw [← hb2]; exact wrap_i64 (by omega) (by omega)
              by_cases h125 : c' = 125
              · have h125i : (c'.toNat : Int) = 125 := by rw [h125]; rfl
                by_cases hM : n1 * (65) < 65
                · have hMi : (n1 : Int) * 65 < 65 := by (have hb2 : ((n1 * (65) : Nat) : Int) = (n1 : Int) * 65 := by push_cast; rfl); omega
                  simp [w0, w1, w7, w8, w9, hE0, hEl, hEl', hwd, hwS, hDm, hDi, hSm, hSi, hcE, hcE2, hE1, h125, hwE, hMu, hM, hMi]
                  refine hout (D) (65) (n1 * (65)) h125 (by omega) (by omega) (by omega) (by simp [w0]) (by simp) (by simp [w7]) (by simp [w8]) rfl
                · have hMi : ¬ (n1 : Int) * 65 < 65 := by (have hb2 : ((n1 * (65) : Nat) : Int) = (n1 : Int) * 65 := by push_cast; rfl); omega
                  simp [w0, w1, w7, w8, w9, hE0, hEl, hEl', hwd, hwS, hDm, hDi, hSm, hSi, hcE, hcE2, hE1, h125, hwE, hMu, hM, hMi]
                  refine hout (D) (65) 65 h125 (by omega) (by omega) (by omega) (by simp [w0]) (by simp) (by simp [w7]) (by simp [w8]) rfl
              · have h125i : ¬ (c'.toNat : Int) = 125 := u8_ne (n := 125) rfl h125
                simp [w0, w1, w7, w8, w9, hE0, hEl, hEl', hwd, hwS, hDm, hDi, hSm, hSi, hcE, hcE2, hE1, h125, h125i]
                refine hinn (D) (65) h125 (by omega) (by omega) (by simp [w0]) (by simp) (by simp [w7]) (by simp [w8]) (by simp) rfl
end Go.Proofs.YtjpjmdjjgfllhaaGreatDoor
end
section
namespace Go.Trail
open Go.Glob
/-- A text's pieces between points. -/
def sp : List UInt8 → List (List UInt8)
  | [] => [[]]
  | c :: s => if c = 46 then [] :: sp s else match sp s with
    | p :: ps => (c :: p) :: ps
    | [] => [[c]]
/-- .. the first n of them, and the rest. -/
def cutN : Nat → List UInt8 → List (List UInt8)
  | 0, s => [s]
  | n + 1, s => if Lib.indexByte s 46 = -1 then [s] else s.take (Lib.indexByte s 46).toNat :: cutN n (s.drop ((Lib.indexByte s 46).toNat + 1))
theorem sp_ne (s : List UInt8) : sp s ≠ [] := by
  cases s with
  | nil => simp [sp]
  | cons c s =>
    simp only [sp]
    split
    · simp
    · split <;> simp
theorem sp_cons {c : UInt8} (h : c ≠ 46) (s : List UInt8) : ∃ p ps, sp s = p :: ps ∧ sp (c :: s) = (c :: p) :: ps := by
  cases hs : sp s with
  | nil => exact absurd hs (sp_ne s)
  | cons p ps => exact ⟨p, ps, rfl, by simp [sp, h, hs]⟩
/-- Where the first point stands. -/
theorem sp_index : ∀ (s : List UInt8), (Lib.indexByte s 46 = -1 ∧ sp s = [s]) ∨ (∃ m : Nat, Lib.indexByte s 46 = m ∧ m < s.length ∧ sp s = s.take m :: sp (s.drop (m + 1)))
  | [] => .inl ⟨rfl, rfl⟩
  | c :: s => by
    by_cases hc : c = 46
    · subst hc
      exact .inr ⟨0, by simp [Lib.indexByte], by simp, by simp [sp]⟩
    · obtain ⟨p, ps, h1, h2⟩ := sp_cons hc s
      have hb : (c == 46) = false := by simpa using hc
      rcases sp_index s with ⟨g1, g2⟩ | ⟨m, g1, g2, g3⟩
      · refine .inl ⟨by simp [Lib.indexByte, hb, g1], ?_⟩
        rw [h1] at g2
        simp only [List.cons.injEq] at g2
        rw [h2, g2.1, g2.2]
      · refine .inr ⟨m + 1, ?_, by simp; omega, ?_⟩
        · simp only [Lib.indexByte, hb, g1]
          have : ¬ ((m : Int) == -1) = true := by simp
          rw [if_neg this]; simp
        · rw [h1] at g3
          simp only [List.cons.injEq] at g3
          rw [h2, g3.1, g3.2]; simp
theorem cutN_eq : ∀ (n : Nat) (s : List UInt8), (sp s).length ≤ n + 1 → cutN n s = sp s
  | 0, s, h => by
    rcases sp_index s with ⟨_, g⟩ | ⟨m, _, _, g⟩
    · simp [cutN, g]
    · rw [g] at h
      have := List.length_pos_iff.2 (sp_ne (s.drop (m + 1)))
      rw [List.length_cons] at h; omega
  | n + 1, s, h => by
    rcases sp_index s with ⟨g1, g⟩ | ⟨m, g1, _, g⟩
    · simp [cutN, g, g1]
    · rw [g] at h
      have hne : ¬ ((m : Int) = -1) := by omega
      simp only [cutN, g1, if_neg hne, g]
      rw [show ((m : Int)).toNat = m from rfl, cutN_eq n _ (by simpa using h)]
theorem cutN_long : ∀ (n : Nat) (s : List UInt8), n + 1 ≤ (sp s).length → (cutN n s).length = n + 1
  | 0, s, h => rfl
  | n + 1, s, h => by
    rcases sp_index s with ⟨g1, g⟩ | ⟨m, g1, _, g⟩
    · rw [g] at h; simp at h
    · rw [g] at h
      have hne : ¬ ((m : Int) = -1) := by omega
      simp only [cutN, g1, if_neg hne]
      rw [List.length_cons, show ((m : Int)).toNat = m from rfl, cutN_long n _ (by simpa using h)]
/-- A name. -/
def nameB (s : List UInt8) : Bool := decide (s.length ≤ 32) && (s.all nb && !s.isEmpty)
/-- A path's names, or none. -/
def path (s : List UInt8) : Option (List (List UInt8)) := if (sp s).length ≤ 8 ∧ (sp s).all nameB = true then some (sp s) else none
/-- Names with points between. -/
def join : List (List UInt8) → List UInt8
  | [] => []
  | [p] => p
  | p :: ps => p ++ 46 :: join ps
theorem join_sp : ∀ s, join (sp s) = s
  | [] => rfl
  | c :: s => by
    have ih := join_sp s
    by_cases hc : c = 46
    · subst hc
      simp only [sp, if_true]
      cases hs : sp s with
      | nil => exact absurd hs (sp_ne s)
      | cons p ps => rw [hs] at ih; simp [join, ih]
    · obtain ⟨p, ps, h1, h2⟩ := sp_cons hc s
      rw [h1] at ih
      rw [h2]
      cases ps with
      | nil => simp [join] at ih ⊢; exact ih
      | cons q qs => simp [join] at ih ⊢; exact ih
theorem sp_plain : ∀ (p : List UInt8), (∀ c ∈ p, c ≠ 46) → sp p = [p]
  | [], _ => rfl
  | c :: p, h => by
    have := sp_plain p (fun x hx => h x (by simp [hx]))
    simp [sp, h c (by simp), this]
theorem sp_app : ∀ (p s : List UInt8), (∀ c ∈ p, c ≠ 46) → sp (p ++ 46 :: s) = p :: sp s
  | [], s, _ => by simp [sp]
  | c :: p, s, h => by
    have := sp_app p s (fun x hx => h x (by simp [hx]))
    simp [sp, h c (by simp), this]
theorem sp_join : ∀ (l : List (List UInt8)), l ≠ [] → (∀ p ∈ l, ∀ c ∈ p, c ≠ 46) → sp (join l) = l
  | [], h, _ => absurd rfl h
  | [p], _, h => by simp only [join]; exact sp_plain p (h p (by simp))
  | p :: q :: ps, _, h => by
    simp only [join]
    rw [sp_app p _ (h p (by simp)), sp_join (q :: ps) (by simp) (fun x hx => h x (by simp [hx]))]
theorem name_plain {p : List UInt8} (h : nameB p = true) : ∀ c ∈ p, c ≠ 46 := by
  intro c hc he
  subst he
  unfold nameB at h
  simp only [Bool.and_eq_true] at h
  have := List.all_eq_true.1 h.2.1 46 hc
  exact absurd this (by decide)
theorem path_head {s : List UInt8} {l : List (List UInt8)} (h : path s = some l) (n : Nat) (h1 : 1 ≤ n) : path (join (l.take n)) = some (l.take n) := by
  unfold path at h
  split at h
  case isFalse => cases h
  rename_i hc
  simp only [Option.some.injEq] at h
  subst h
  have hne : (sp s).take n ≠ [] := by
    have := List.length_pos_iff.2 (sp_ne s)
    intro he
    have h0 : ((sp s).take n).length = 0 := by rw [he]; rfl
    rw [List.length_take] at h0; omega
  have hall : ∀ p ∈ (sp s).take n, nameB p = true := fun p hp => List.all_eq_true.1 hc.2 p (List.mem_of_mem_take hp)
  have e := sp_join ((sp s).take n) hne (fun p hp => name_plain (hall p hp))
  unfold path
  rw [e, if_pos ⟨by simp; omega, List.all_eq_true.2 hall⟩]
end Go.Trail
end
