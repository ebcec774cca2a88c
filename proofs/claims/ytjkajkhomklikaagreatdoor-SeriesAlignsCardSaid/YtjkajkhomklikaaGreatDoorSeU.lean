/- Numbers over time, in plain Lean: what is aligned stays as it is. -/
import Derived.Test.YtjkajkhomklikaaGreatDoorSeT
import Derived.Test.YtjkajkhomklikaaGreatDoorSeK
set_option linter.unusedSimpArgs false
set_option linter.unusedVariables false
set_option maxHeartbeats 1000000
namespace Go.Ser
open Go.Num
theorem placeN_at {a st : Int} {n i : Nat} (hs : 0 < st) (hi : i ≤ n) : placeN a st n (a + i * st) = i := by
  have key : ∀ j, j < n → (placeN a st n (a + i * st) ≤ j ↔ i ≤ j) := by
    intro j hj
    rw [place_iff hs hj]
    constructor
    · intro h
      rcases Nat.lt_or_ge j i with h' | h'
      · exfalso
        have h1 : ((j : Int) + 1) * st ≤ (i : Int) * st := Int.mul_le_mul_of_nonneg_right (by omega) (by omega)
        rw [Int.add_mul, Int.one_mul] at h1
        omega
      · exact h'
    · intro h
      have h1 : (i : Int) * st ≤ (j : Int) * st := Int.mul_le_mul_of_nonneg_right (by omega) (by omega)
      omega
  have hle := placeN_le a st n (a + i * st)
  obtain ⟨p, hp⟩ : ∃ p, p = placeN a st n (a + i * st) := ⟨_, rfl⟩
  rw [← hp] at key hle ⊢
  rcases Nat.lt_or_ge p n with h | h
  · have h1 := (key p h).1 (Nat.le_refl _)
    rcases Nat.lt_or_ge i n with h2 | h2
    · have := (key i h2).2 (Nat.le_refl _); omega
    · omega
  · rcases Nat.lt_or_ge i n with h2 | h2
    · have := (key i h2).2 (Nat.le_refl _); omega
    · omega
theorem slice_one {nm : List UInt8} {a st : Int} {V : List N} {i : Nat} (hs : 0 < st) (hi : i < V.length) : slice ⟨nm, a, st, V⟩ (a + i * st) (a + i * st + st) = [V[i]] := by
  have e : a + i * st + st = a + ((i + 1 : Nat) : Int) * st := by push_cast; rw [Int.add_mul, Int.one_mul]; omega
  unfold slice
  simp only
  rw [e, placeN_at hs (Nat.le_of_lt hi), placeN_at hs hi]
  apply List.ext_getElem
  · simp; omega
  · intro j h1 h2
    have : j = 0 := by simp at h2; omega
    subst this
    simp
theorem reckon1_one {x : N} (h : gn x) (hm : x.2 ≤ Num.most) : reckon 1 [x] = x := by
  rcases h with h | rfl
  · have e : known [x] = [x] := by unfold known; simp [h]
    unfold reckon
    rw [e]
    show reckonK 1 x [] = x
    unfold reckonK
    rw [if_pos rfl]
    have hd := div_len (s := x) (n := 1) h (by omega) (by omega)
    show divN x (tell (((1 : Nat) : Int) * 1000000)) = x
    rw [hd]
    obtain ⟨h1, h2⟩ := good_iff.1 h
    have hr : rnd (x.2.natAbs * 1000000) (1 * 1000000) = x.2.natAbs := by
      unfold rnd
      rw [show 1 * 1000000 = 1000000 by rfl, Nat.mul_div_cancel _ (by omega), Nat.mul_mod_left]
      simp
    rw [hr]
    have hs : sgn (decide (x.2 < 0)) x.2.natAbs = x.2 := by
      unfold sgn
      by_cases h0 : x.2 < 0
      · simp [h0]; omega
      · simp [h0]; omega
    rw [hs]
    unfold tell
    rw [if_pos ⟨h2, hm⟩]
    exact Prod.ext h1.symm rfl
  · rfl
theorem okN_most {x : N} (h : okN x) : x.2 ≤ Num.most := by
  have := h.2
  unfold Num.most
  omega
theorem slots_again {nm : List UInt8} {a st : Int} {V : List N} (hs : 0 < st) (hg : ∀ x ∈ V, gn x ∧ okN x) : slots ⟨nm, a, st, V⟩ a st 1 V.length = V := by
  apply List.ext_getElem
  · simp [slots]
  · intro i h1 h2
    have hx := hg V[i] (List.getElem_mem h2)
    simp only [slots, List.getElem_map, List.getElem_range]
    rw [slice_one hs h2, reckon1_one hx.1 (okN_most hx.2)]
theorem cm_one {n : Nat} : cm 1 n = n := by simp [cm]
theorem cm_self {n : Nat} (h : 0 < n) : cm n n = n := by simp [cm, Nat.div_self h]
theorem scan_same {st : Nat} {a e : Int} (h1 : 0 < st) (h2 : st ≤ 86400) : ∀ l : List Sr, (∀ s ∈ l, s.step = st ∧ s.start = a ∧ endS s = e) → scanS st a e l = some (st, a, e)
  | [], _ => rfl
  | s :: l, h => by
    obtain ⟨e1, e2, e3⟩ := h s (by simp)
    have e4 : s.step.toNat = st := by omega
    rw [scanS, e4, cm_self h1, if_pos h2, e2, e3]
    have m1 : min a a = a := by omega
    have m2 : max e e = e := by omega
    rw [m1, m2]
    exact scan_same h1 h2 l fun s hs => h s (by simp [hs])
theorem scan_bd : ∀ (l : List Sr) (st : Nat) (a b : Int) (st' : Nat) (a' b' : Int), (∀ s ∈ l, SrR s) → 1 ≤ st → st ≤ 86400 → 0 ≤ a → a ≤ 1099511627776 → 0 ≤ b → b ≤ 1200000000000 → scanS st a b l = some (st', a', b') →
    1 ≤ st' ∧ st' ≤ 86400 ∧ 0 ≤ a' ∧ a' ≤ a ∧ b ≤ b' ∧ b' ≤ 1200000000000 ∧ (l ≠ [] → a' ≤ b')
  | [], st, a, b, st', a', b', _, h1, h2, h3, h4, h5, h6, h => by
    simp only [scanS, Option.some.injEq, Prod.mk.injEq] at h
    obtain ⟨rfl, rfl, rfl⟩ := h
    exact ⟨h1, h2, h3, by omega, by omega, h6, fun h => absurd rfl h⟩
  | s :: l, st, a, b, st', a', b', hR, h1, h2, h3, h4, h5, h6, h => by
    have hs := hR s (by simp)
    have s0 := hs.s0
    have s1 := hs.s1
    have p0 := hs.p0
    obtain ⟨e1, e2, _, _⟩ := end_bd hs
    have hc := cm_pos (a := st) (b := s.step.toNat) (by omega) (by omega)
    rw [scanS] at h
    split at h
    case isFalse => cases h
    rename_i hcm
    obtain ⟨g1, g2, g3, g4, g5, g6, _⟩ := scan_bd l _ _ _ st' a' b' (fun s hs => hR s (by simp [hs])) (by omega) hcm (by omega) (by omega) (by omega) (by omega) h
    exact ⟨g1, g2, g3, by omega, by omega, g6, fun _ => by omega⟩
theorem alS_err {l : List Sr} {p : List Sr × Nat} (hp : alS l = p) (h : p.2 ≠ 0) : p.1 = [] := by
  unfold alS at hp
  split at hp
  · subst hp; rfl
  split at hp
  · subst hp; rfl
  split at hp
  · subst hp; rfl
  split at hp
  · subst hp; rfl
  split at hp
  · subst hp; rfl
  · subst hp; exact absurd rfl h
theorem round_again {st q : Int} (h : 1 ≤ st) : (q * st + st - 1) / st * st = q * st := by
  have e : (q * st + st - 1) / st = q := by
    rw [show q * st + st - 1 = st - 1 + q * st by omega, Int.add_mul_ediv_right _ _ (by omega), Int.ediv_eq_zero_of_lt (by omega) (by omega), Int.zero_add]
  rw [e]
theorem again {l r : List Sr} (ho : ∀ s ∈ l, SrOk s) (h : alS l = (r, 0)) : alS r = (r, 0) ∧ r.length = l.length ∧ (∀ s ∈ r, SrOk s) ∧
    ∃ (a st : Int) (n : Nat), ∀ i (h : i < l.length) (h' : i < r.length), r[i].name = l[i].name ∧ r[i].start = a ∧ r[i].step = st ∧ r[i].vals.length = n := by
  cases hany : l.any fun s => !rightS s with
  | true => unfold alS at h; rw [if_pos hany] at h; simp at h
  | false =>
    have hR : ∀ s ∈ l, SrR s := fun s hs => right_iff.1 (by have := List.any_eq_false.1 hany s hs; simpa using this)
    by_cases h128 : 128 < l.length
    · unfold alS at h; rw [if_neg (by simp [hany]), if_pos h128] at h; simp at h
    by_cases hnil : l = []
    · subst hnil
      have : alS [] = ([], 0) := rfl
      rw [this] at h
      simp only [Prod.mk.injEq, and_true] at h
      subst h
      exact ⟨this, rfl, by simp, 0, 0, 0, fun i h => by simp at h⟩
    have hpos : 0 < l.length := List.length_pos_iff.2 hnil
    obtain ⟨s0, hs0⟩ : ∃ s0, l[0]? = some s0 := ⟨_, List.getElem?_eq_getElem hpos⟩
    have hR0 := hR s0 (List.mem_of_getElem? hs0)
    rw [alS_go hs0 hany h128] at h
    split at h
    · simp at h
    rename_i st a b hsc
    obtain ⟨g1, g2, g3, g4, g5, g6, g7⟩ := scan_bd l 1 s0.start 0 st a b hR (by omega) (by omega) hR0.s0 hR0.s1 (by omega) (by omega) hsc
    have g8 := g7 hnil
    have hs01 := hR0.s1
    obtain ⟨r1, r2, r3, r4⟩ := round_bd (b := b) (st := st) (by omega) (by omega) g5 (by omega)
    have m0 := Int.emod_nonneg a (show (st : Int) ≠ 0 by omega)
    have m1 := Int.emod_lt_of_pos a (show (0 : Int) < st by omega)
    have m2 := Int.mul_ediv_add_emod a st
    obtain ⟨k, hk⟩ : ∃ k, k = a / st := ⟨_, rfl⟩
    have hk0 : 0 ≤ k := by rw [hk]; exact Int.ediv_nonneg g3 (by omega)
    rw [← hk, Int.mul_comm] at m2
    have ha : a - a % st = k * st := by omega
    obtain ⟨q, hq⟩ : ∃ q, q = (b + st - 1) / st := ⟨_, rfl⟩
    rw [ha, ← hq] at h
    rw [← hq] at r1 r2 r3 r4
    have hks : 0 ≤ k * st := Int.mul_nonneg hk0 (by omega)
    have hsub : q * st - k * st = (q - k) * st := by rw [Int.sub_mul]
    have hd : (q * st - k * st) / st = q - k := by rw [hsub]; exact Int.mul_ediv_cancel _ (by omega)
    have hd0 : 0 ≤ q - k := by rw [← hd]; exact Int.ediv_nonneg (by omega) (by omega)
    split at h
    · simp at h
    rename_i hno
    simp only [Prod.mk.injEq, and_true] at h
    obtain ⟨d, hdd⟩ := Int.eq_ofNat_of_zero_le hd0
    have hcount : countN (k * st) (q * st) st = d := by
      unfold countN
      rw [hsub, hdd, show ((d : Int) * st + st - 1) = st - 1 + d * st by omega, Int.add_mul_ediv_right _ _ (by omega), Int.ediv_eq_zero_of_lt (by omega) (by omega)]
      simp
    have hlen : ∀ s, (alG (k * st) st (q * st) s).vals.length = d := fun s => by unfold alG; simp only; rw [hcount]; simp [slots]
    have hel : ∀ s ∈ r, ∃ y ∈ l, s = alG (k * st) st (q * st) y := fun s hs => by
      rw [← h] at hs
      obtain ⟨y, hy, rfl⟩ := List.mem_map.1 hs
      exact ⟨y, hy, rfl⟩
    have hrl : r.length = l.length := by rw [← h]; simp
    have hd2 : (d : Int) ≤ 2000 := by rw [← hdd, ← hd]; omega
    have hvals : ∀ y ∈ l, ∀ n ∈ (alG (k * st) st (q * st) y).vals, gn n ∧ okN n := fun y hy n hn => by
      refine ⟨?_, slots_okP (ho y hy).vs _ _ _ _ n hn⟩
      unfold alG slots at hn
      simp only [List.mem_map] at hn
      obtain ⟨i, _, rfl⟩ := hn
      exact gn_reckon _ _
    have hrR : ∀ s ∈ r, SrR s := fun s hs => by
      obtain ⟨y, hy, rfl⟩ := hel s hs
      have hyl := hlen y
      exact ⟨(hR y hy).nm, by omega, by show (1 : Int) ≤ st; omega, by show (st : Int) ≤ 86400; omega, hks, by show k * st ≤ 1099511627776; omega, fun n hn => gn_right (hvals y hy n hn).1⟩
    have hrO : ∀ s ∈ r, SrOk s := fun s hs => by
      have hh := hrR s hs
      have := hh.nm
      have := hh.s0
      have := hh.s1
      have := hh.p0
      have := hh.p1
      have := hh.vl
      obtain ⟨y, hy, rfl⟩ := hel s hs
      exact ⟨by omega, by omega, by omega, by omega, by omega, by omega, fun n hn => (hvals y hy n hn).2⟩
    have hend : ∀ s ∈ r, s.step = st ∧ s.start = k * st ∧ endS s = q * st := fun s hs => by
      obtain ⟨y, hy, rfl⟩ := hel s hs
      refine ⟨rfl, rfl, ?_⟩
      unfold endS
      rw [hlen y]
      show k * st + st * d = q * st
      rw [Int.mul_comm (st : Int) d, ← hdd, ← hsub]
      omega
    have hrn : r ≠ [] := fun e => by rw [e] at hrl; simp at hrl; omega
    have hranyF : (r.any fun s => !rightS s) = false := List.any_eq_false.2 fun s hs => by simp [right_iff.2 (hrR s hs)]
    obtain ⟨t0, ht0⟩ : ∃ t0, r[0]? = some t0 := ⟨_, List.getElem?_eq_getElem (by omega)⟩
    have hscr : scanS 1 t0.start 0 r = some (st, k * st, q * st) := by
      cases r with
      | nil => exact absurd rfl hrn
      | cons t r =>
        simp only [List.getElem?_cons_zero, Option.some.injEq] at ht0
        subst ht0
        obtain ⟨e1, e2, e3⟩ := hend t (by simp)
        have e4 : t.step.toNat = st := by omega
        rw [scanS, e4, cm_one, if_pos g2, e2, e3]
        have n1 : min (k * st) (k * st) = k * st := by omega
        have n2 : max 0 (q * st) = q * st := by omega
        rw [n1, n2]
        exact scan_same (by omega) g2 r fun s hs => hend s (by simp [hs])
    have hmod : k * (st : Int) % st = 0 := Int.mul_emod_left _ _
    have hfin : alS r = (r.map (alG (k * st) st (q * st)), 0) := by
      rw [alS_go ht0 hranyF (by omega), hscr]
      simp only
      rw [hmod, round_again (by omega), Int.sub_zero, if_neg hno]
    refine ⟨?_, hrl, hrO, k * st, st, d, ?_⟩
    · rw [hfin]
      congr 1
      conv => rhs; rw [← List.map_id r]
      apply List.map_congr_left
      intro s hs
      obtain ⟨y, hy, rfl⟩ := hel s hs
      have hsl := slots_again (nm := y.name) (a := k * st) (st := st) (V := (alG (k * st) st (q * st) y).vals) (by omega) (hvals y hy)
      rw [hlen y] at hsl
      show alG (k * st) st (q * st) (alG (k * st) st (q * st) y) = alG (k * st) st (q * st) y
      have e : ∀ s, alG (k * st) st (q * st) s = ⟨s.name, k * st, st, slots s (k * st) st 1 d⟩ := fun s => by unfold alG; rw [hcount]
      rw [e (alG (k * st) st (q * st) y)]
      show Sr.mk y.name (k * st) st (slots ⟨y.name, k * st, st, (alG (k * st) st (q * st) y).vals⟩ (k * st) st 1 d) = _
      rw [hsl]
      rfl
    · intro i h1 h2
      have e : r[i] = alG (k * st) st (q * st) l[i] := by simp [← h]
      rw [e]
      exact ⟨rfl, rfl, rfl, hlen _⟩
end Go.Ser
