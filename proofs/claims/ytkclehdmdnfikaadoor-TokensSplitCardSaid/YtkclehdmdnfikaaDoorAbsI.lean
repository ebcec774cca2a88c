/- Abstract machine, part 9: all operations that only read, together. -/
import Derived.Test.YtkclehdmdnfikaaDoorAbsH
set_option linter.unusedSimpArgs false
set_option linter.unusedVariables false
set_option linter.constructorNameAsVariable false
namespace Go.Abs
open Go.RowKit
variable {G : Globs}
section
variable {P : Program} {κ : Key} {Im : Addr → Prop} {w : World}

theorem flatten_get {size : Nat} : ∀ (l : List (List AV)) (k j : Nat), (∀ c ∈ l, c.length = size) → k < l.length → j < size → ∃ (h : k < l.length) (h' : j < l[k].length) (h'' : k * size + j < l.flatten.length), l.flatten[k * size + j] = l[k][j] := by
  intro l
  induction l with
  | nil => intro k j _ h; simp at h
  | cons c l ih =>
    intro k j hl hk hj
    have hc : c.length = size := hl c (by simp)
    cases k with
    | zero =>
      refine ⟨hk, by simp [hc, hj], by simp [hc]; omega, ?_⟩
      simp only [Nat.zero_mul, Nat.zero_add, List.flatten_cons, List.getElem_cons_zero]
      rw [List.getElem_append_left]
    | succ k =>
      obtain ⟨h1, h2, h3, h4⟩ := ih k j (fun c h => hl c (by simp [h])) (by simpa using hk) hj
      have e : (k + 1) * size + j = c.length + (k * size + j) := by rw [hc, Nat.add_mul]; omega
      refine ⟨hk, by simpa using h2, by rw [e, List.flatten_cons, List.length_append]; omega, ?_⟩
      simp only [List.flatten_cons, List.getElem_cons_succ]
      rw [← h4]
      simp only [e]
      rw [List.getElem_append_right (by omega)]
      congr 1; omega

/-- A row whose elements never change is a list. -/
theorem row_lst {base : Nat} {σ : Store} {id e size : Nat} {els : List (List AV)} {v : Value} (hs : SRel base κ Im σ w) (he : σ[id]? = some (.row e size els true)) (hv : κ id els.length = some v) : IR Im w (.lst els) v := by
  obtain ⟨v', xs, hv', hown, hvr, hsz, hlen, hone, hir, him⟩ := hs.ent _ _ he
  rw [hv] at hv'; cases hv'
  have hxl := hown.1
  rcases hown.2 with ⟨rfl, h0⟩ | ⟨g, cap, cur, rfl, hg, hh, hle, hmax, hcs, htake⟩
  · have : els = [] := List.eq_nil_of_length_eq_zero h0
    subst this; exact .lnil
  · have hcell := hown.cells (g := g) rfl
    obtain ⟨h1, h2⟩ := hir rfl
    obtain ⟨_, h4⟩ := him g rfl
    have h4 := h4 rfl
    have hfl : els.flatten.length = els.length * size := by rw [h1, hxl]
    refine .lst els size g 0 cap (fun k j => xs.getD (k * size + j) undef) hle hmax hlen hone (fun k j hk hj => ?_) (fun k j hk hj => ?_)
    · have hlt : k * size + j < els.length * size := by
        have : (k + 1) * size ≤ els.length * size := Nat.mul_le_mul_right _ hk
        rw [Nat.add_mul] at this; omega
      rw [Nat.zero_add]
      refine ⟨h4 _ hlt, ?_⟩
      have hlt' : k * size + j < xs.length := by rw [hxl]; exact hlt
      have := hcell (k * size + j) _ (List.getElem?_eq_getElem hlt')
      rw [Addr.add_mid, Nat.zero_add] at this
      rw [this]
      simp [hlt']
    · have hcl := hlen _ (List.getElem_mem hk)
      obtain ⟨_, _, h3, h5⟩ := flatten_get els k j hlen hk (by omega)
      have hlt' : k * size + j < xs.length := by omega
      have := h2 (k * size + j) h3 hlt'
      rw [h5] at this
      have e : xs.getD (k * size + j) undef = xs[k * size + j] := by simp [hlt']
      simp only [e]
      exact this

theorem view_len {base : Nat} {σ : Store} {X : AV} {x : Value} {l : List (List AV)} (hs : SRel base κ Im σ w) (hx : VR κ Im w X x) (h : view σ X = some l) : ∃ b cap, x = .slice b l.length cap ∧ l.length ≤ cap := by
  cases X <;> simp only [view, reduceCtorEq, Option.some.injEq] at h
  case nils => subst h; cases hx.nils_inv; exact ⟨none, 0, rfl, by simp⟩
  case lst m =>
    subst h
    rcases hx.lst_inv with ⟨rfl, rfl⟩ | ⟨size, b, o, cap, vals, rfl, hc, _⟩
    · exact ⟨none, 0, rfl, by simp⟩
    · exact ⟨_, cap, rfl, hc⟩
  case row id n =>
    obtain ⟨g, cap, rfl, hk⟩ := hx.row_inv
    split at h
    case h_2 => cases h
    rename_i e size els im he
    split at h
    case isFalse => cases h
    rename_i hn
    simp only [Option.some.injEq] at h; subst h; subst hn
    obtain ⟨v, xs, hv, hown, _⟩ := hs.ent _ _ he
    rw [hk] at hv; cases hv
    rcases hown.2 with ⟨h1, h2⟩ | ⟨g', cap', cur, h1, _, _, hle, _⟩
    · simp only [Value.slice.injEq] at h1
      obtain ⟨rfl, h3, rfl⟩ := h1
      exact ⟨none, 0, rfl, by omega⟩
    · simp only [Value.slice.injEq] at h1
      obtain ⟨rfl, _, rfl⟩ := h1
      exact ⟨_, _, rfl, hle⟩
  case asl id off n size =>
    obtain ⟨b, ad, c, rfl, hk, h3, h4, _⟩ := hx.asl_inv
    split at h
    case h_2 => cases h
    split at h
    case isFalse => cases h
    simp only [Option.some.injEq] at h; subst h
    have hl : ∀ (n : Nat) (l : List AV), (chunks n size l).length = n := by
      intro n
      induction n with
      | zero => intro l; rfl
      | succ n ih => intro l; simp [chunks, ih]
    exact ⟨_, _, by rw [hl], by rw [hl]; exact h4⟩
  case sub id n size lo hi =>
    obtain ⟨b, cap, ad, c, rfl, hk, h1, h2, h3, h4, _⟩ := hx.sub_inv
    split at h
    case h_2 => cases h
    rename_i e size' els im he
    split at h
    case isFalse => cases h
    rename_i hn
    obtain ⟨hn, rfl⟩ := hn
    simp only [Option.some.injEq] at h; subst h; subst hn
    have hl : ((els.take hi).drop lo).length = hi - lo := by simp; omega
    exact ⟨_, _, by rw [hl], by omega⟩

theorem eq1_ok {k : Nat} {X Y : AV} {x y : Value} {b : Bool} {t : TypeId} {d : Nat} (hx : VR κ Im w X x) (hy : VR κ Im w Y y) (h : eq1 k X Y = some b)
    (ht : (k = 0 ∧ ∃ i, P.underlying t = some (.int i)) ∨ (k = 1 ∧ P.underlying t = some .string) ∨ (k = 2 ∧ P.underlying t = some .bool)) : (Op.equalIn (d + 1) t x y).run P w = .ok b w := by
  unfold eq1 at h
  split at h
  · rename_i k a k' b'
    cases hx.int_inv; cases hy.int_inv
    split at h
    case isFalse => cases h
    rename_i hk; subst hk
    simp only [Option.some.injEq] at h; subst h
    obtain ⟨_, i, hi⟩ | ⟨h, _⟩ | ⟨h, _⟩ := ht
    · have : (a == b') = decide (a = b') := by by_cases h : a = b' <;> simp [h]
      simp [Op.equalIn, run_underlying hi, this]
    · cases h
    · cases h
  · rename_i a b'
    cases hx.str_inv; cases hy.str_inv
    simp only [Option.some.injEq] at h; subst h
    obtain ⟨h, _⟩ | ⟨_, hi⟩ | ⟨h, _⟩ := ht
    · cases h
    · have ea : (ByteArray.mk a.toArray).toList = a := by rw [ByteArray.toList_eq]
      have eb : (ByteArray.mk b'.toArray).toList = b' := by rw [ByteArray.toList_eq]
      have he : (a == b') = decide (a = b') := by by_cases h : a = b' <;> simp [h]
      rw [run_equalIn_string w d t _ _ hi, ea, eb, he]
    · cases h
  · rename_i a b'
    cases hx.bool_inv; cases hy.bool_inv
    simp only [Option.some.injEq] at h; subst h
    obtain ⟨h, _⟩ | ⟨h, _⟩ | ⟨_, hi⟩ := ht
    · cases h
    · cases h
    · simp [Op.equalIn, run_underlying hi]
  · cases h

/-- A struct's '==', field by field. -/
theorem eqFields_ok {d : Nat} {xs ys : List Value} : ∀ (fs : List Field) (i : Nat) (ks : List Nat) (l m : List AV) (b : Bool), kindsFrom P i fs = some ks → VRL κ Im w l (xs.drop i) → VRL κ Im w m (ys.drop i) → eqAll ks l m = some b →
    (Op.eqFields (d + 1) xs.toArray ys.toArray fs).run P w = .ok b w
  | [], i, ks, l, m, b, hk, _, _, h => by
    simp [kindsFrom] at hk; subst hk
    cases l <;> cases m <;> simp [eqAll] at h
    subst h
    simp [Op.eqFields]
  | f :: fs, i, ks, l, m, b, hk, hl, hm, h => by
    simp only [kindsFrom] at hk
    split at hk
    case isFalse => cases hk
    rename_i hn
    obtain ⟨hname, hoff⟩ := hn
    have hex : ∃ k ks', ks = k :: ks' ∧ kindsFrom P (i + 1) fs = some ks' ∧ ((k = 0 ∧ ∃ i, P.underlying f.type = some (.int i)) ∨ (k = 1 ∧ P.underlying f.type = some .string) ∨ (k = 2 ∧ P.underlying f.type = some .bool)) := by
      split at hk <;> first
        | (cases hk; done)
        | (rename_i hu; simp only [Option.map_eq_some_iff] at hk; obtain ⟨ks', h1, rfl⟩ := hk; exact ⟨_, ks', rfl, h1, by first | exact .inl ⟨rfl, _, hu⟩ | exact .inr (.inl ⟨rfl, hu⟩) | exact .inr (.inr ⟨rfl, hu⟩)⟩)
    obtain ⟨k, ks', rfl, hks, hty⟩ := hex
    match l, m, h with
    | a :: l, c :: m, h =>
      simp only [eqAll, Option.bind_eq_some_iff, Option.map_eq_some_iff] at h
      obtain ⟨x, hx, y, hy, rfl⟩ := h
      have hagg : aggOf P f.type = some false := by
        unfold aggOf
        rcases hty with ⟨_, j, hj⟩ | ⟨_, hj⟩ | ⟨_, hj⟩ <;> simp [hj]
      obtain ⟨u, hu, hur⟩ := hl.get? (i := 0) (a := a) rfl
      obtain ⟨v, hv, hvr⟩ := hm.get? (i := 0) (a := c) rfl
      have hu' : xs[i]? = some u := by rw [List.getElem?_drop] at hu; simpa using hu
      have hv' : ys[i]? = some v := by rw [List.getElem?_drop] at hv; simpa using hv
      have hp1 : (part f.type xs.toArray f.offset).run P w = .ok u w := by
        unfold part; simp [run_isAgg? hagg, hoff, hu']
      have hp2 : (part f.type ys.toArray f.offset).run P w = .ok v w := by
        unfold part; simp [run_isAgg? hagg, hoff, hv']
      have heq := eq1_ok (d := d) hur hvr hx hty
      have hl' : VRL κ Im w l (xs.drop (i + 1)) := by have := hl.drop 1; simpa using this
      have hm' : VRL κ Im w m (ys.drop (i + 1)) := by have := hm.drop 1; simpa using this
      have ih := eqFields_ok (d := d) fs (i + 1) ks' l m y hks hl' hm' hy
      simp only [Op.eqFields, hname, ne_eq, not_false_eq_true, if_true, Sem.run_bind, hp1, hp2, Result.andThen_ok, heq, Sem.run_ite]
      cases x
      · simp
      · simp [ih]

theorem run_eqs_ok {t : TypeId} {ks : List Nat} {l m : List AV} {xs ys : List Value} {b : Bool} (hk : flatKinds P t = some ks) (hl : VRL κ Im w l xs) (hm : VRL κ Im w m ys) (h : eqAll ks l m = some b) :
    (Op.equal t (.agg xs.toArray) (.agg ys.toArray)).run P w = .ok b w ∧ ∀ op x y, (eqGuard op t x y (.agg xs.toArray) (.agg ys.toArray)).run P w = .ok () w := by
  unfold flatKinds at hk
  split at hk
  case h_2 => cases hk
  rename_i fs hu
  split at hk
  case isFalse => cases hk
  rename_i hc
  have hfo : P.fieldsOf t = fs := by simp [Program.fieldsOf, hu]
  have hd : ∀ d, (Op.equalIn (d + 2) t (.agg xs.toArray) (.agg ys.toArray)).run P w = .ok b w := fun d => by
    rw [run_equalIn_struct w (d + 1) t _ _ (by rw [hfo]; exact hu) hc.1, hfo]
    exact eqFields_ok fs.toList 0 ks l m b hk (by simpa using hl) (by simpa using hm) h
  refine ⟨hd 9998, fun op x y => ?_⟩
  unfold eqGuard
  cases op <;> simp [hc.2] <;> rfl

end
end Go.Abs
