/- Patterns of one name, as the document has them: classes, and whether pieces fit a name, by a table. -/
import Derived.Test.YtkclehdmdnfikaaDoorGlK
set_option linter.unusedSimpArgs false
set_option linter.unusedVariables false
set_option linter.constructorNameAsVariable false
set_option maxHeartbeats 4000000
namespace Go.Glob
theorem tls_any (g : List UInt8 → Bool) : ∀ s : List UInt8, (tls s).any g = true ↔ ∃ k, k ≤ s.length ∧ g (s.drop k) = true
  | [] => by
    simp only [tls, List.any_cons, List.any_nil, Bool.or_false]
    exact ⟨fun h => ⟨0, Nat.le_refl _, h⟩, fun ⟨k, _, h⟩ => by simpa using h⟩
  | c :: s => by
    simp only [tls, List.any_cons, Bool.or_eq_true, tls_any g s]
    constructor
    · rintro (h | ⟨k, hk, h⟩)
      · exact ⟨0, Nat.zero_le _, h⟩
      · exact ⟨k + 1, by simp; omega, h⟩
    · rintro ⟨k, hk, h⟩
      cases k with
      | zero => exact .inl h
      | succ k => exact .inr ⟨k, by simp at hk; omega, h⟩
theorem mt_split : ∀ (l m : List Pc) (s : List UInt8), mt (l ++ m) s = true ↔ ∃ i, i ≤ s.length ∧ mt l (s.take i) = true ∧ mt m (s.drop i) = true
  | [], m, s => by
    rw [List.nil_append]
    constructor
    · exact fun h => ⟨0, Nat.zero_le _, by simp [mt_nil], h⟩
    · rintro ⟨i, hi, h1, h2⟩
      rw [mt_nil, List.isEmpty_iff] at h1
      have : i = 0 ∨ s = [] := by
        cases i with
        | zero => exact .inl rfl
        | succ i => cases s with
          | nil => exact .inr rfl
          | cons c s => simp at h1
      rcases this with rfl | rfl
      · simpa using h2
      · simpa using h2
  | p :: l, m, s => by
    by_cases hp : p = .star
    · subst hp
      have e : ∀ (x : List Pc) (s : List UInt8), mt (.star :: x) s = (tls s).any (mt x) := fun x s => by rw [mt]
      rw [List.cons_append, e, tls_any]
      constructor
      · rintro ⟨k, hk, h⟩
        obtain ⟨i, hi, h1, h2⟩ := (mt_split l m _).1 h
        rw [List.length_drop] at hi
        refine ⟨k + i, by omega, ?_, by rw [List.drop_drop] at h2; exact h2⟩
        rw [e, tls_any]
        refine ⟨k, by rw [List.length_take]; omega, ?_⟩
        rw [List.drop_take, Nat.add_sub_cancel_left]; exact h1
      · rintro ⟨j, hj, h1, h2⟩
        rw [e, tls_any] at h1
        obtain ⟨k, hk, h1⟩ := h1
        rw [List.length_take] at hk
        refine ⟨k, by omega, (mt_split l m _).2 ⟨j - k, by rw [List.length_drop]; omega, ?_, ?_⟩⟩
        · rw [List.drop_take] at h1; exact h1
        · rw [List.drop_drop, show k + (j - k) = j by omega]; exact h2
    · rw [List.cons_append]
      cases s with
      | nil =>
        rw [mt_other_nil hp]
        simp [mt_other_nil hp]
      | cons c s =>
        rw [mt_other hp, Bool.and_eq_true]
        constructor
        · rintro ⟨h0, h⟩
          obtain ⟨i, hi, h1, h2⟩ := (mt_split l m s).1 h
          refine ⟨i + 1, by simp; omega, ?_, h2⟩
          rw [List.take_succ_cons, mt_other hp, h0, h1]; rfl
        · rintro ⟨i, hi, h1, h2⟩
          cases i with
          | zero => rw [List.take_zero, mt_other_nil hp] at h1; cases h1
          | succ i =>
            rw [List.take_succ_cons, mt_other hp, Bool.and_eq_true] at h1
            exact ⟨h1.1, (mt_split l m s).2 ⟨i, by simp at hi; omega, h1.2, h2⟩⟩
theorem mt_star_zero (a : List Pc) : mt (a ++ [.star]) [] = mt a [] := by
  rw [Bool.eq_iff_iff, mt_split]
  constructor
  · rintro ⟨i, hi, h1, h2⟩; simpa using h1
  · exact fun h => ⟨0, Nat.zero_le _, by simpa using h, mt_any _⟩
theorem mt_star_succ (a : List Pc) (s : List UInt8) (k : Nat) (hk : k < s.length) : mt (a ++ [.star]) (s.take (k + 1)) = (mt a (s.take (k + 1)) || mt (a ++ [.star]) (s.take k)) := by
  rw [Bool.eq_iff_iff, Bool.or_eq_true, mt_split, mt_split]
  constructor
  · rintro ⟨i, hi, h1, h2⟩
    rw [List.length_take] at hi
    by_cases hik : i = k + 1
    · subst hik; left; rw [List.take_take, Nat.min_self] at h1; exact h1
    · right
      refine ⟨i, by rw [List.length_take]; omega, ?_, mt_any _⟩
      rw [List.take_take] at h1 ⊢
      rw [show min i k = min i (k + 1) by omega]; exact h1
  · rintro (h | ⟨i, hi, h1, h2⟩)
    · exact ⟨k + 1, by rw [List.length_take]; omega, by rw [List.take_take, Nat.min_self]; exact h, mt_any _⟩
    · rw [List.length_take] at hi
      refine ⟨i, by rw [List.length_take]; omega, ?_, mt_any _⟩
      rw [List.take_take] at h1 ⊢
      rw [show min i (k + 1) = min i k by omega]; exact h1
theorem mt_other_zero (a : List Pc) {p : Pc} (hp : p ≠ .star) : mt (a ++ [p]) [] = false := by
  rw [Bool.eq_false_iff]
  intro h
  obtain ⟨i, hi, h1, h2⟩ := (mt_split _ _ _).1 h
  rw [List.drop_nil, mt_other_nil hp] at h2; cases h2
theorem mt_other_succ (a : List Pc) {p : Pc} (hp : p ≠ .star) (s : List UInt8) (k : Nat) (c : UInt8) (hc : s[k]? = some c) : mt (a ++ [p]) (s.take (k + 1)) = (mt a (s.take k) && p.one c) := by
  obtain ⟨hk, hck⟩ := List.getElem?_eq_some_iff.1 hc
  have e1 : s.take (k + 1) = s.take k ++ [c] := by rw [List.take_add_one, hc]; rfl
  have hl : (s.take k).length = k := by rw [List.length_take]; omega
  rw [Bool.eq_iff_iff, Bool.and_eq_true, mt_split, e1]
  constructor
  · rintro ⟨i, hi, h1, h2⟩
    rw [List.length_append, hl, List.length_singleton] at hi
    have : i = k := by
      cases hx : (s.take k ++ [c]).drop i with
      | nil => rw [hx, mt_other_nil hp] at h2; cases h2
      | cons d r =>
        rw [hx, mt_other hp, Bool.and_eq_true, mt_nil, List.isEmpty_iff] at h2
        have := congrArg List.length hx
        rw [List.length_drop, List.length_append, hl, List.length_singleton, h2.2] at this
        simp at this; omega
    subst this
    rw [List.take_append_of_le_length (by omega), List.take_of_length_le (by omega)] at h1
    rw [List.drop_append_of_le_length (by omega), List.drop_of_length_le (by omega), List.nil_append, mt_other hp, Bool.and_eq_true] at h2
    exact ⟨h1, h2.1⟩
  · rintro ⟨h1, h2⟩
    refine ⟨k, by rw [List.length_append, hl]; omega, ?_, ?_⟩
    · rw [List.take_append_of_le_length (by omega), List.take_of_length_le (by omega)]; exact h1
    · rw [List.drop_append_of_le_length (by omega), List.drop_of_length_le (by omega), List.nil_append, mt_other hp, h2, mt_nil]; rfl
theorem cls_some {n : Nat} {ne : Bool} {s : List UInt8} {rs : List (UInt8 × UInt8)} {r : List UInt8} (h : cls n ne s = some (rs, r)) :
    ∃ m c t, n = m + 1 ∧ s = c :: t ∧ ((c = 93 ∧ ne = true ∧ rs = [] ∧ r = t) ∨ (c ≠ 93 ∧ nb c = true ∧
      ((∃ d h' t' rs', t = d :: h' :: t' ∧ d = 45 ∧ nb h' = true ∧ ¬ h' < c ∧ cls m true t' = some (rs', r) ∧ rs = (c, h') :: rs') ∨
       (rng t = none ∧ ∃ rs', cls m true t = some (rs', r) ∧ rs = (c, c) :: rs')))) := by
  cases n with
  | zero => simp [cls] at h
  | succ m =>
    cases s with
    | nil => simp [cls] at h
    | cons c t =>
      refine ⟨m, c, t, rfl, rfl, ?_⟩
      by_cases h93 : c = 93 ∧ ne = true
      · rw [cls, if_pos h93] at h
        cases h
        exact .inl ⟨h93.1, h93.2, rfl, rfl⟩
      · rw [cls, if_neg h93] at h
        right
        cases hn : nb c with
        | false => rw [hn] at h; simp at h
        | true =>
          rw [hn] at h
          simp only [Bool.true_eq_false, if_false] at h
          refine ⟨fun e => by subst e; exact absurd hn (by decide), rfl, ?_⟩
          cases hr : rng t with
          | none =>
            rw [hr] at h
            simp only at h
            cases hc : cls m true t with
            | none => rw [hc] at h; cases h
            | some v =>
              rw [hc] at h
              simp only [Option.map_some, Option.some.injEq, Prod.mk.injEq] at h
              obtain ⟨h1, h2⟩ := h
              exact .inr ⟨rfl, v.1, by rw [← h2], h1.symm⟩
          | some v =>
            obtain ⟨h', t'⟩ := v
            rw [hr] at h
            simp only at h
            have hrt : ∃ d, t = d :: h' :: t' ∧ d = 45 ∧ nb h' = true := by
              match t, hr with
              | d :: e :: t2, hr =>
                rw [rng] at hr
                split at hr
                · rename_i hq
                  cases hr
                  exact ⟨d, rfl, hq.1, hq.2⟩
                · cases hr
            obtain ⟨d, ht, hd, hnh⟩ := hrt
            split at h
            · cases h
            rename_i hlt
            cases hc : cls m true t' with
            | none => rw [hc] at h; cases h
            | some v =>
              rw [hc] at h
              simp only [Option.map_some, Option.some.injEq, Prod.mk.injEq] at h
              obtain ⟨h1, h2⟩ := h
              exact .inl ⟨d, h', t', v.1, ht, hd, hnh, hlt, by rw [hc, ← h2], h1.symm⟩
end Go.Glob
namespace Go.Proofs.YtkclehdmdnfikaaDoor
open Go.Abs Go.Glob
variable {G : Globs}

theorem u8_ne {c n : UInt8} {z : Int} (hz : z = (n.toNat : Int)) (h : ¬ c = n) : ¬ ((c.toNat : Int) = z) := fun e => h (UInt8.toNat_inj.1 (by omega))
theorem rng_no {d h : UInt8} {t : List UInt8} (hr : rng (d :: h :: t) = none) (hd : d = 45) : nb h = false := by
  subst hd
  rw [rng] at hr
  split at hr
  · cases hr
  · rename_i hq
    cases hn : nb h with
    | false => rfl
    | true => exact absurd ⟨rfl, hn⟩ hq
theorem drop_two {s t : List UInt8} {k : Nat} {c d h : UInt8} (hs : s.drop k = c :: d :: h :: t) : s[k]? = some c ∧ s[k + 1]? = some d ∧ s[k + 2]? = some h ∧ s.drop (k + 3) = t ∧ s.drop (k + 1) = d :: h :: t ∧ k + 3 ≤ s.length := by
  have hl := congrArg List.length hs
  rw [List.length_drop] at hl
  simp only [List.length_cons] at hl
  refine ⟨?_, ?_, ?_, ?_, ?_, by omega⟩
  · have := congrArg (fun l => l[0]?) hs; simpa using this
  · have := congrArg (fun l => l[1]?) hs; simpa using this
  · have := congrArg (fun l => l[2]?) hs; simpa using this
  · have := congrArg (List.drop 3) hs; simpa [List.drop_drop, Nat.add_comm] using this
  · have := congrArg (List.drop 1) hs; simpa [List.drop_drop, Nat.add_comm] using this
theorem drop_one {s t : List UInt8} {k : Nat} {c : UInt8} (hs : s.drop k = c :: t) : s[k]? = some c ∧ s.drop (k + 1) = t ∧ k < s.length := by
  have hl := congrArg List.length hs
  rw [List.length_drop] at hl
  simp only [List.length_cons] at hl
  refine ⟨?_, ?_, by omega⟩
  · have := congrArg (fun l => l[0]?) hs; simpa using this
  · have := congrArg (List.drop 1) hs; simpa [List.drop_drop, Nat.add_comm] using this

/-- A class that is one: the place behind it. -/
theorem rclass_ok (p : List UInt8) (i n : Nat) (rs : List (UInt8 × UInt8)) (r : List UInt8) (h : cls n false (p.drop i) = some (rs, r)) (hp : p.length ≤ 1000000) :
    PCalls Tryd.prog n_isobarref15_class [.str p, .int .i64 i] (fun v => v = .int .i64 (p.length - r.length : Nat)) := by
  refine pcalls_of_awp hmix c_isobarref15_class rfl ?_
  simp [a_isobarref15_class]
  refine lp_startx (fun x f σ => ∃ (k m : Nat) (rs' : List (UInt8 × UInt8)), x = p.length - k ∧ i ≤ k ∧ cls m (decide (i < k)) (p.drop k) = some (rs', r) ∧ f 0 = .str p ∧ f 1 = .int .i64 k ∧ f 5 = .int .i64 i ∧ σ = []) (p.length - i) ?_ ?_
  · exact ⟨i, n, rs, rfl, Nat.le_refl _, by simpa using h, by simp, by simp, by simp, rfl⟩
  rintro x f σ ⟨k, m0, rs', hx, hik, hcls, h0, h1, h5, rfl⟩
  obtain ⟨m, c, t, rfl, hd, hcase⟩ := cls_some hcls
  obtain ⟨hc, hdk, hlt⟩ := drop_one hd
  obtain ⟨_, hc2⟩ := List.getElem?_eq_some_iff.1 hc
  have hlt' : (k : Int) < (p.length : Int) := by omega
  have hwk : IntKind.i64.wrap ((k : Int) + 1) = (k : Int) + 1 := wrap_i64 (by omega) (by omega)
  have hwk2 : IntKind.i64.wrap ((k : Int) + 2) = (k : Int) + 2 := wrap_i64 (by omega) (by omega)
  have hwk3 : IntKind.i64.wrap ((k : Int) + 2 + 1) = (k : Int) + 3 := by rw [wrap_i64 (by omega) (by omega)]; omega
  have hwl : IntKind.i64.wrap ((p.length : Int) - 2) = (p.length : Int) - 2 := wrap_i64 (by omega) (by omega)
  have t1 : ((k : Int) + 1).toNat = k + 1 := by omega
  have t2 : ((k : Int) + 2).toNat = k + 2 := by omega
  have p1 : (0 : Int) ≤ (k : Int) + 1 := by omega
  have p2 : (0 : Int) ≤ (k : Int) + 2 := by omega
  rcases hcase with ⟨rfl, hne, rfl, rfl⟩ | ⟨h93, hnb, hcase⟩
  · have hik2 : i < k := by simpa using hne
    have hki : ¬ (k : Int) = (i : Int) := by omega
    have hki' : ¬ k = i := by omega
    have hge : ¬ p.length ≤ k := by omega
    have hge' : ¬ (p.length : Int) ≤ (k : Int) := by omega
    have hfin : ((p.length - (p.drop (k + 1)).length : Nat) : Int) = (k : Int) + 1 := by simp; omega
    rw [← hdk]
    simp [h0, h1, h5, hlt, hlt', hc, hc2, hki, hki', hge, hge', hwk]
    simp at hfin
    omega
  · have h93' : ¬ ((c.toNat : Int) = 93) := u8_ne (n := 93) rfl h93
    simp [h0, h1, h5, hlt, hlt', hc, hc2, h93']
    refine ac_same (refByte_ok c) (by simp) ?_
    rintro v rfl
    rcases hcase with ⟨d, h', t', rs2, rfl, rfl, hnh, hle, hcl2, rfl⟩ | ⟨hr, rs2, hcl2, rfl⟩
    · obtain ⟨g0, g1, g2, g3, g4, g5⟩ := drop_two hd
      have hk2 : (k : Int) < (p.length : Int) - 2 := by omega
      have hle' : ¬ h'.toNat < c.toNat := fun hx => hle (UInt8.lt_iff_toNat_lt.2 hx)
      have hle2 : ¬ (h'.toNat : Int) < (c.toNat : Int) := by omega
      simp [h0, h1, h5, hnb, hwl, hk2, hwk, hwk2, hwk3, t1, t2, p1, p2, g1, g2]
      refine ac_same (refByte_ok h') (by simp) ?_
      rintro v rfl
      simp [h0, h1, h5, hnb, hnh, hwl, hk2, hwk, hwk2, hwk3, t1, t2, p1, p2, g1, g2, hc, hle', hle2]
      refine nx_intro (p.length - (k + 3)) (by omega) ⟨k + 3, m, rs2, rfl, by omega, ?_, by simp [h0], by simp, by simp [h5], rfl⟩
      have : decide (i < k + 3) = true := by simp; omega
      rw [this, g3]; exact hcl2
    · have hstep : cls m (decide (i < k + 1)) (p.drop (k + 1)) = some (rs2, r) := by
        have : decide (i < k + 1) = true := by simp; omega
        rw [this, hdk]; exact hcl2
      by_cases hk2 : (k : Int) < (p.length : Int) - 2
      · obtain ⟨d, h', t', ht⟩ : ∃ d h' t', t = d :: h' :: t' := by
          have hl : t.length = p.length - (k + 1) := by rw [← hdk]; simp
          match t, hl with
          | [], hl => simp at hl; omega
          | [_], hl => simp at hl; omega
          | d :: h' :: t', _ => exact ⟨d, h', t', rfl⟩
        subst ht
        obtain ⟨g0, g1, g2, g3, g4, g5⟩ := drop_two hd
        by_cases h45 : d = 45
        · have hnh := rng_no hr h45
          subst h45
          simp [h0, h1, h5, hnb, hwl, hk2, hwk, hwk2, hwk3, t1, t2, p1, p2, g1, g2]
          refine ac_same (refByte_ok h') (by simp) ?_
          rintro v rfl
          simp [h0, h1, h5, hnb, hnh, hwl, hk2, hwk]
          refine nx_intro (p.length - (k + 1)) (by omega) ⟨k + 1, m, rs2, rfl, by omega, hstep, by simp [h0], by simp, by simp [h5], rfl⟩
        · have h45' : ¬ ((d.toNat : Int) = 45) := u8_ne (n := 45) rfl h45
          simp [h0, h1, h5, hnb, hwl, hk2, hwk, hwk2, hwk3, t1, t2, p1, p2, g1, g2, h45']
          refine nx_intro (p.length - (k + 1)) (by omega) ⟨k + 1, m, rs2, rfl, by omega, hstep, by simp [h0], by simp, by simp [h5], rfl⟩
      · simp [h0, h1, h5, hnb, hwl, hk2, hwk]
        refine nx_intro (p.length - (k + 1)) (by omega) ⟨k + 1, m, rs2, rfl, by omega, hstep, by simp [h0], by simp, by simp [h5], rfl⟩

/-- Has a class a byte? -/
theorem rhas_ok (p : List UInt8) (i n : Nat) (ne : Bool) (rs : List (UInt8 × UInt8)) (r : List UInt8) (b : UInt8) (h : cls n ne (p.drop i) = some (rs, r)) (hp : p.length ≤ 1000000) :
    PCalls Tryd.prog n_isobarref15_has [.str p, .int .i64 i, .int .u8 b.toNat] (fun v => v = .bool (rs.any fun q => q.1 ≤ b && b ≤ q.2)) := by
  refine pcalls_of_awp hmix c_isobarref15_has rfl ?_
  simp [a_isobarref15_has]
  refine lp_startx (fun x f σ => ∃ (k m : Nat) (ne' : Bool) (rs' : List (UInt8 × UInt8)), x = p.length - k ∧ cls m ne' (p.drop k) = some (rs', r) ∧ (rs.any fun q => q.1 ≤ b && b ≤ q.2) = (rs'.any fun q => q.1 ≤ b && b ≤ q.2) ∧ f 0 = .str p ∧ f 1 = .int .i64 k ∧ f 2 = .int .u8 b.toNat ∧ σ = []) (p.length - i) ?_ ?_
  · exact ⟨i, n, ne, rs, rfl, h, rfl, by simp, by simp, by simp, rfl⟩
  rintro x f σ ⟨k, m0, ne', rs', hx, hcls, hany, h0, h1, h2, rfl⟩
  rw [hany]
  clear hany
  obtain ⟨m, c, t, rfl, hd, hcase⟩ := cls_some hcls
  obtain ⟨hc, hdk, hlt⟩ := drop_one hd
  obtain ⟨_, hc2⟩ := List.getElem?_eq_some_iff.1 hc
  have hlt' : (k : Int) < (p.length : Int) := by omega
  have hwk : IntKind.i64.wrap ((k : Int) + 1) = (k : Int) + 1 := wrap_i64 (by omega) (by omega)
  have hwk2 : IntKind.i64.wrap ((k : Int) + 2) = (k : Int) + 2 := wrap_i64 (by omega) (by omega)
  have hwk3 : IntKind.i64.wrap ((k : Int) + 2 + 1) = (k : Int) + 3 := by rw [wrap_i64 (by omega) (by omega)]; omega
  have hwl : IntKind.i64.wrap ((p.length : Int) - 2) = (p.length : Int) - 2 := wrap_i64 (by omega) (by omega)
  have t1 : ((k : Int) + 1).toNat = k + 1 := by omega
  have t2 : ((k : Int) + 2).toNat = k + 2 := by omega
  have p1 : (0 : Int) ≤ (k : Int) + 1 := by omega
  have p2 : (0 : Int) ≤ (k : Int) + 2 := by omega
  have cmp : ∀ x y : UInt8, (decide (x ≤ y)) = decide ((x.toNat : Int) ≤ (y.toNat : Int)) := fun x y => decide_eq_decide.2 (by rw [UInt8.le_iff_toNat_le]; omega)
  rcases hcase with ⟨rfl, hne, rfl, rfl⟩ | ⟨h93, hnb, hcase⟩
  · simp [h0, h1, h2, hlt, hlt', hc, hc2]
  · have h93' : ¬ ((c.toNat : Int) = 93) := u8_ne (n := 93) rfl h93
    rcases hcase with ⟨d, h', t', rs2, rfl, rfl, hnh, hle, hcl2, rfl⟩ | ⟨hr, rs2, hcl2, rfl⟩
    · obtain ⟨g0, g1, g2, g3, g4, g5⟩ := drop_two hd
      have hk2 : (k : Int) < (p.length : Int) - 2 := by omega
      simp [h0, h1, h2, hlt, hlt', hc, hc2, h93', hnb, hwl, hk2, hwk, hwk2, hwk3, t1, t2, p1, p2, g1, g2]
      refine ac_same (refByte_ok h') (by simp) ?_
      rintro v rfl
      by_cases b1 : c ≤ b
      · have b1' : (c.toNat : Int) ≤ (b.toNat : Int) := by rw [UInt8.le_iff_toNat_le] at b1; omega
        have b1'' : c.toNat ≤ b.toNat := by omega
        by_cases b2 : b ≤ h'
        · have b2' : (b.toNat : Int) ≤ (h'.toNat : Int) := by rw [UInt8.le_iff_toNat_le] at b2; omega
          have b2'' : b.toNat ≤ h'.toNat := by omega
          simp [h0, h1, h2, hnb, hnh, hwl, hk2, hwk, hwk2, hwk3, t1, t2, p1, p2, g1, g2, hc, b1', b1'', b2', b2'', b1, b2]
        · have b2' : ¬ (b.toNat : Int) ≤ (h'.toNat : Int) := by rw [UInt8.le_iff_toNat_le] at b2; omega
          have b2'' : ¬ b.toNat ≤ h'.toNat := by omega
          simp [h0, h1, h2, hnb, hnh, hwl, hk2, hwk, hwk2, hwk3, t1, t2, p1, p2, g1, g2, hc, b1', b1'', b2', b2'', b1, b2]
          refine nx_intro (p.length - (k + 3)) (by omega) ⟨k + 3, m, true, rs2, rfl, by rw [g3]; exact hcl2, by simp [b1, b2], by simp [h0], by simp, by simp [h2], rfl⟩
      · have b1' : ¬ (c.toNat : Int) ≤ (b.toNat : Int) := by rw [UInt8.le_iff_toNat_le] at b1; omega
        have b1'' : ¬ c.toNat ≤ b.toNat := by omega
        simp [h0, h1, h2, hnb, hnh, hwl, hk2, hwk, hwk2, hwk3, t1, t2, p1, p2, g1, g2, hc, b1', b1'', b1]
        refine nx_intro (p.length - (k + 3)) (by omega) ⟨k + 3, m, true, rs2, rfl, by rw [g3]; exact hcl2, by simp [b1], by simp [h0], by simp, by simp [h2], rfl⟩
    · have hstep : cls m true (p.drop (k + 1)) = some (rs2, r) := by rw [hdk]; exact hcl2
      by_cases hk2 : (k : Int) < (p.length : Int) - 2
      · obtain ⟨d, h', t', ht⟩ : ∃ d h' t', t = d :: h' :: t' := by
          have hl : t.length = p.length - (k + 1) := by rw [← hdk]; simp
          match t, hl with
          | [], hl => simp at hl; omega
          | [_], hl => simp at hl; omega
          | d :: h' :: t', _ => exact ⟨d, h', t', rfl⟩
        subst ht
        obtain ⟨g0, g1, g2, g3, g4, g5⟩ := drop_two hd
        by_cases h45 : d = 45
        · have hnh := rng_no hr h45
          subst h45
          simp [h0, h1, h2, hlt, hlt', hc, hc2, h93', hnb, hwl, hk2, hwk, hwk2, hwk3, t1, t2, p1, p2, g1, g2]
          refine ac_same (refByte_ok h') (by simp) ?_
          rintro v rfl
          by_cases b1 : c ≤ b
          · have b1' : (c.toNat : Int) ≤ (b.toNat : Int) := by rw [UInt8.le_iff_toNat_le] at b1; omega
            have b1'' : c.toNat ≤ b.toNat := by omega
            by_cases b2 : b ≤ c
            · have b2' : (b.toNat : Int) ≤ (c.toNat : Int) := by rw [UInt8.le_iff_toNat_le] at b2; omega
              have b2'' : b.toNat ≤ c.toNat := by omega
              simp [h0, h1, h2, hlt, hlt', hc, hc2, h93', hnb, hwl, hk2, hwk, hwk2, hwk3, t1, t2, p1, p2, g1, g2, hnh, b1', b1'', b2', b2'', b1, b2]
            · have b2' : ¬ (b.toNat : Int) ≤ (c.toNat : Int) := by rw [UInt8.le_iff_toNat_le] at b2; omega
              have b2'' : ¬ b.toNat ≤ c.toNat := by omega
              simp [h0, h1, h2, hlt, hlt', hc, hc2, h93', hnb, hwl, hk2, hwk, hwk2, hwk3, t1, t2, p1, p2, g1, g2, hnh, b1', b1'', b2', b2'', b1, b2]
              refine nx_intro (p.length - (k + 1)) (by omega) ⟨k + 1, m, true, rs2, rfl, hstep, by simp [b1, b2], by simp [h0], by simp, by simp [h2], rfl⟩
          · have b1' : ¬ (c.toNat : Int) ≤ (b.toNat : Int) := by rw [UInt8.le_iff_toNat_le] at b1; omega
            have b1'' : ¬ c.toNat ≤ b.toNat := by omega
            simp [h0, h1, h2, hlt, hlt', hc, hc2, h93', hnb, hwl, hk2, hwk, hwk2, hwk3, t1, t2, p1, p2, g1, g2, hnh, b1', b1'', b1]
            refine nx_intro (p.length - (k + 1)) (by omega) ⟨k + 1, m, true, rs2, rfl, hstep, by simp [b1], by simp [h0], by simp, by simp [h2], rfl⟩
        · have h45' : ¬ ((d.toNat : Int) = 45) := u8_ne (n := 45) rfl h45
          by_cases b1 : c ≤ b
          · have b1' : (c.toNat : Int) ≤ (b.toNat : Int) := by rw [UInt8.le_iff_toNat_le] at b1; omega
            have b1'' : c.toNat ≤ b.toNat := by omega
            by_cases b2 : b ≤ c
            · have b2' : (b.toNat : Int) ≤ (c.toNat : Int) := by rw [UInt8.le_iff_toNat_le] at b2; omega
              have b2'' : b.toNat ≤ c.toNat := by omega
              simp [h0, h1, h2, hlt, hlt', hc, hc2, h93', hnb, hwl, hk2, hwk, hwk2, hwk3, t1, t2, p1, p2, g1, g2, h45', b1', b1'', b2', b2'', b1, b2]
            · have b2' : ¬ (b.toNat : Int) ≤ (c.toNat : Int) := by rw [UInt8.le_iff_toNat_le] at b2; omega
              have b2'' : ¬ b.toNat ≤ c.toNat := by omega
              simp [h0, h1, h2, hlt, hlt', hc, hc2, h93', hnb, hwl, hk2, hwk, hwk2, hwk3, t1, t2, p1, p2, g1, g2, h45', b1', b1'', b2', b2'', b1, b2]
              refine nx_intro (p.length - (k + 1)) (by omega) ⟨k + 1, m, true, rs2, rfl, hstep, by simp [b1, b2], by simp [h0], by simp, by simp [h2], rfl⟩
          · have b1' : ¬ (c.toNat : Int) ≤ (b.toNat : Int) := by rw [UInt8.le_iff_toNat_le] at b1; omega
            have b1'' : ¬ c.toNat ≤ b.toNat := by omega
            simp [h0, h1, h2, hlt, hlt', hc, hc2, h93', hnb, hwl, hk2, hwk, hwk2, hwk3, t1, t2, p1, p2, g1, g2, h45', b1', b1'', b1]
            refine nx_intro (p.length - (k + 1)) (by omega) ⟨k + 1, m, true, rs2, rfl, hstep, by simp [b1], by simp [h0], by simp, by simp [h2], rfl⟩
      · 
        by_cases b1 : c ≤ b
        · have b1' : (c.toNat : Int) ≤ (b.toNat : Int) := by rw [UInt8.le_iff_toNat_le] at b1; omega
          have b1'' : c.toNat ≤ b.toNat := by omega
          by_cases b2 : b ≤ c
          · have b2' : (b.toNat : Int) ≤ (c.toNat : Int) := by rw [UInt8.le_iff_toNat_le] at b2; omega
            have b2'' : b.toNat ≤ c.toNat := by omega
            simp [h0, h1, h2, hlt, hlt', hc, hc2, h93', hnb, hwl, hk2, hwk, hwk2, hwk3, t1, t2, p1, p2, b1', b1'', b2', b2'', b1, b2]
          · have b2' : ¬ (b.toNat : Int) ≤ (c.toNat : Int) := by rw [UInt8.le_iff_toNat_le] at b2; omega
            have b2'' : ¬ b.toNat ≤ c.toNat := by omega
            simp [h0, h1, h2, hlt, hlt', hc, hc2, h93', hnb, hwl, hk2, hwk, hwk2, hwk3, t1, t2, p1, p2, b1', b1'', b2', b2'', b1, b2]
            refine nx_intro (p.length - (k + 1)) (by omega) ⟨k + 1, m, true, rs2, rfl, hstep, by simp [b1, b2], by simp [h0], by simp, by simp [h2], rfl⟩
        · have b1' : ¬ (c.toNat : Int) ≤ (b.toNat : Int) := by rw [UInt8.le_iff_toNat_le] at b1; omega
          have b1'' : ¬ c.toNat ≤ b.toNat := by omega
          simp [h0, h1, h2, hlt, hlt', hc, hc2, h93', hnb, hwl, hk2, hwk, hwk2, hwk3, t1, t2, p1, p2, b1', b1'', b1]
          refine nx_intro (p.length - (k + 1)) (by omega) ⟨k + 1, m, true, rs2, rfl, hstep, by simp [b1], by simp [h0], by simp, by simp [h2], rfl⟩
end Go.Proofs.YtkclehdmdnfikaaDoor
