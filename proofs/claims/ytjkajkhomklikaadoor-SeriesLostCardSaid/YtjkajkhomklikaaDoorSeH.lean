/- Numbers over time, in plain Lean: what is made coarser loses neither the sum, nor the least, nor the greatest value. -/
import Derived.Test.YtjkajkhomklikaaDoorSeB
set_option linter.unusedSimpArgs false
set_option linter.unusedVariables false
namespace Go.Ser
open Go.Num
theorem take_drop_join {α : Type} (V : List α) {z a b : Nat} (h1 : z ≤ a) (h2 : a ≤ b) : (V.take a).drop z ++ (V.take b).drop a = (V.take b).drop z := by
  have hb : V.take b = V.take a ++ (V.take b).drop a := by
    have h := List.take_append_drop a (V.take b)
    rw [List.take_take, Nat.min_eq_left h2] at h
    exact h.symm
  by_cases hz : z ≤ (V.take a).length
  · conv => rhs; rw [hb]
    rw [List.drop_append_of_le_length hz]
  · have hl : (V.take a).length < z := by omega
    have hV : V.length < z := by rw [List.length_take] at hl; omega
    rw [List.drop_of_length_le (by rw [List.length_take]; omega), List.drop_of_length_le (by rw [List.length_take]; omega), List.drop_of_length_le (by rw [List.length_take]; omega)]
    rfl
theorem flat_slices {α : Type} (V : List α) (p : Nat → Nat) (hm : ∀ i, p i ≤ p (i + 1)) : ∀ c, ((List.range c).map fun i => (V.take (p (i + 1))).drop (p i)).flatten = (V.take (p c)).drop (p 0)
  | 0 => by simp
  | c + 1 => by
    have h0 : ∀ i, p 0 ≤ p i := fun i => by
      induction i with
      | zero => exact Nat.le_refl _
      | succ i ih => exact Nat.le_trans ih (hm i)
    rw [List.range_succ, List.map_append, List.flatten_append, flat_slices V p hm c]
    simp only [List.map_cons, List.map_nil, List.flatten_cons, List.flatten_nil, List.append_nil]
    exact take_drop_join V (h0 c) (hm c)
/-- All slots together hold the series. -/
theorem slices_all (s : Sr) (h : SrR s) (st step : Int) (h1 : st ≤ s.start) (h2 : 1 ≤ step) : ((List.range (countN st (endS s) step)).map fun (i : Nat) => slice s (st + i * step) (st + i * step + step)).flatten = s.vals := by
  have hp0 := h.p0
  obtain ⟨p, hp⟩ : ∃ p : Nat → Nat, p = fun (i : Nat) => placeN s.start s.step s.vals.length (st + i * step) := ⟨_, rfl⟩
  have hstep : ∀ i : Nat, st + i * step + step = st + ((i + 1 : Nat) : Int) * step := fun i => by
    push_cast; rw [Int.add_mul, Int.one_mul]; omega
  have hs : ∀ i : Nat, slice s (st + i * step) (st + i * step + step) = (s.vals.take (p (i + 1))).drop (p i) := fun i => by
    rw [hp]; unfold slice; rw [hstep]
  have hm : ∀ i, p i ≤ p (i + 1) := fun i => by
    rw [hp]
    exact placeN_mono (by omega) (by rw [← hstep]; omega)
  have hf := flat_slices s.vals p hm (countN st (endS s) step)
  have e1 : ((List.range (countN st (endS s) step)).map fun (i : Nat) => slice s (st + i * step) (st + i * step + step)) = (List.range (countN st (endS s) step)).map fun i => (s.vals.take (p (i + 1))).drop (p i) := List.map_congr_left fun i _ => hs i
  rw [e1, hf]
  have hz : p 0 = 0 := by
    rw [hp]; simp only; unfold placeN; rw [if_pos]; simp; omega
  have hc : s.vals.length ≤ p (countN st (endS s) step) := by
    have hn : ¬ (st + ((countN st (endS s) step : Nat) : Int) * step < endS s) := fun h => by
      have := (count_iff (a := st) (b := endS s) (step := step) (by omega) (countN st (endS s) step)).2 h
      omega
    rw [hp]
    simp only
    rcases Nat.eq_zero_or_pos s.vals.length with h0 | h0
    · omega
    · have := (place_iff (st := s.start) (sp := s.step) (t := st + ((countN st (endS s) step : Nat) : Int) * step) (n := s.vals.length) (i := s.vals.length - 1) (by omega) (by omega))
      have hlt : ¬ (placeN s.start s.step s.vals.length (st + ((countN st (endS s) step : Nat) : Int) * step) ≤ s.vals.length - 1) := fun hle => by
        have h3 := this.1 hle
        have h4 : ((s.vals.length - 1 : Nat) : Int) * s.step = s.step * s.vals.length - s.step := by
          have : ((s.vals.length - 1 : Nat) : Int) = s.vals.length - 1 := by omega
          rw [this, Int.sub_mul, Int.one_mul, Int.mul_comm]
        have hes : endS s = s.start + s.step * s.vals.length := rfl
        omega
      omega
  rw [hz, List.take_of_length_le hc, List.drop_zero]
/-- What many values make, two by two. -/
def red (op : N → N → N) (l : List N) : N := match known l with
  | [] => nothing
  | k :: ks => ks.foldl op k
structure Monoid3 (op : N → N → N) : Prop where
  good : ∀ {a b}, good a = true → good b = true → good (op a b) = true
  left : ∀ {a}, Num.good a = true → op nothing a = a
  right : ∀ {a}, Num.good a = true → op a nothing = a
  none : op nothing nothing = nothing
  assoc : ∀ {a b c}, Num.good a = true → Num.good b = true → Num.good c = true → op (op a b) c = op a (op b c)
theorem fold_good {op : N → N → N} (M : Monoid3 op) : ∀ (l : List N) (k : N), Num.good k = true → (∀ n ∈ l, Num.good n = true) → Num.good (l.foldl op k) = true
  | [], k, hk, _ => hk
  | n :: l, k, hk, h => by rw [List.foldl_cons]; exact fold_good M l _ (M.good hk (h n (by simp))) fun m hm => h m (by simp [hm])
theorem fold_op {op : N → N → N} (M : Monoid3 op) : ∀ (l : List N) (a k : N), Num.good a = true → Num.good k = true → (∀ n ∈ l, Num.good n = true) → l.foldl op (op a k) = op a (l.foldl op k)
  | [], a, k, _, _, _ => rfl
  | n :: l, a, k, ha, hk, h => by
    have hn := h n (by simp)
    rw [List.foldl_cons, List.foldl_cons, M.assoc ha hk hn]
    exact fold_op M l a (op k n) ha (M.good hk hn) fun m hm => h m (by simp [hm])
theorem red_cases {op : N → N → N} (M : Monoid3 op) (l : List N) : red op l = nothing ∨ Num.good (red op l) = true := by
  have hk := known_good l
  unfold red
  generalize known l = K at *
  cases K with
  | nil => exact .inl rfl
  | cons k ks => exact .inr (fold_good M ks k (hk k (by simp)) fun n hn => hk n (by simp [hn]))
theorem red_append {op : N → N → N} (M : Monoid3 op) (a b : List N) : red op (a ++ b) = op (red op a) (red op b) := by
  have e : known (a ++ b) = known a ++ known b := List.filter_append _ _
  have ha := known_good a
  have hb := known_good b
  have ca := red_cases M a
  have cb := red_cases M b
  unfold red at *
  rw [e]
  generalize known a = A at *
  generalize known b = B at *
  cases A with
  | nil =>
    simp only [List.nil_append]
    rcases cb with h | h
    · rw [h, M.none]
    · rw [M.left h]
  | cons k ks =>
    cases B with
    | nil =>
      simp only [List.append_nil]
      have := fold_good M ks k (ha k (by simp)) fun n hn => ha n (by simp [hn])
      rw [M.right this]
    | cons j js =>
      simp only [List.cons_append]
      rw [List.foldl_append, List.foldl_cons]
      have h1 := fold_good M ks k (ha k (by simp)) fun n hn => ha n (by simp [hn])
      exact fold_op M js _ j h1 (hb j (by simp)) fun n hn => hb n (by simp [hn])
theorem red_one {op : N → N → N} (M : Monoid3 op) (l : List N) : red op [red op l] = red op l := by
  rcases red_cases M l with h | h
  · rw [h]; rfl
  · unfold red at h ⊢
    unfold known at *
    simp only [List.filter_cons, h, if_true, List.filter_nil, List.foldl_nil]
theorem red_flat {op : N → N → N} (M : Monoid3 op) : ∀ (L : List (List N)), red op (L.map (red op)) = red op L.flatten
  | [] => rfl
  | l :: L => by
    have e : (l :: L).map (red op) = [red op l] ++ L.map (red op) := rfl
    rw [e, List.flatten_cons, red_append M, red_append M, red_flat M L, red_one M]
theorem less_monoid : Monoid3 lessN where
  good := fun ha hb => (less_of ha hb).1
  left := fun h => by simp [lessN, nothing_bad, h]
  right := fun h => by simp [lessN, nothing_bad, h]
  none := rfl
  assoc := fun {a b c} ha hb hc => by
    simp only [lessN, ha, hb, hc, if_true]
    by_cases h1 : a.2 ≤ b.2 <;> by_cases h2 : b.2 ≤ c.2 <;> by_cases h3 : a.2 ≤ c.2 <;> simp [h1, h2, h3, ha, hb, hc] <;> omega
theorem more_monoid : Monoid3 moreN where
  good := fun ha hb => (more_of ha hb).1
  left := fun h => by simp [moreN, nothing_bad, h]
  right := fun h => by simp [moreN, nothing_bad, h]
  none := rfl
  assoc := fun {a b c} ha hb hc => by
    simp only [moreN, ha, hb, hc, if_true]
    by_cases h1 : b.2 ≤ a.2 <;> by_cases h2 : c.2 ≤ b.2 <;> by_cases h3 : c.2 ≤ a.2 <;> simp [h1, h2, h3, ha, hb, hc] <;> omega
theorem reckon3 (l : List N) : reckon 3 l = red lessN l := by
  unfold reckon red
  cases known l with
  | nil => rfl
  | cons k ks => simp [reckonK]
theorem reckon4 (l : List N) : reckon 4 l = red moreN l := by
  unfold reckon red
  cases known l with
  | nil => rfl
  | cons k ks => simp [reckonK]
/-- Sums, of values that are small. -/
theorem sum_small : ∀ (l : List N) (k : N), good k = true → (∀ n ∈ l, good n = true) → (∀ n ∈ l, -1125899906842624 ≤ n.2 ∧ n.2 ≤ 1125899906842624) → k.2.natAbs + 1125899906842624 * l.length ≤ 9223372036854775807 → l.foldl addN k = (false, k.2 + total l)
  | [], k, hk, _, _, _ => by
    have := (good_iff.1 hk).1
    simp [total, ← this]
  | n :: l, k, hk, h, hb, hB => by
    have hn := h n (by simp)
    have hnb := hb n (by simp)
    rw [List.length_cons] at hB
    have e : addN k n = (false, k.2 + n.2) := by
      simp only [addN, hk, hn, Bool.and_self, if_true]
      unfold tell most
      rw [if_pos]; omega
    have hg : good (false, k.2 + n.2) = true := good_iff.2 ⟨rfl, by simp only [most]; omega⟩
    rw [List.foldl_cons, e, sum_small l (false, k.2 + n.2) hg (fun m hm => h m (by simp [hm])) (fun m hm => hb m (by simp [hm])) (by simp only; omega)]
    simp [total]; omega
theorem reckon2 (l : List N) (hl : l.length ≤ 4000) (hb : ∀ n ∈ l, -1125899906842624 ≤ n.2 ∧ n.2 ≤ 1125899906842624) : reckon 2 l = if known l = [] then nothing else (false, total (known l)) := by
  have hk := known_good l
  have hkl : (known l).length ≤ l.length := List.length_filter_le _ _
  have hkb : ∀ n ∈ known l, -1125899906842624 ≤ n.2 ∧ n.2 ≤ 1125899906842624 := fun n hn => hb n (List.mem_filter.1 hn).1
  unfold reckon
  generalize known l = K at *
  cases K with
  | nil => rfl
  | cons k ks =>
    have hkk := hkb k (by simp)
    simp only [List.length_cons] at hkl
    have := sum_small ks k (hk k (by simp)) (fun n hn => hk n (by simp [hn])) (fun n hn => hkb n (by simp [hn])) (by omega)
    simp [reckonK, this, total]
theorem known_yes {x : N} (h : good x = true) (l : List N) : known (x :: l) = x :: known l := by unfold known; rw [List.filter_cons, if_pos h]
theorem known_no {x : N} (h : good x = false) (l : List N) : known (x :: l) = known l := by unfold known; rw [List.filter_cons, if_neg (by simp [h])]
theorem known_app (a b : List N) : known (a ++ b) = known a ++ known b := List.filter_append _ _
theorem total_app (a b : List N) : total (a ++ b) = total a + total b := by simp [total]
theorem total_bd : ∀ (l : List N), (∀ n ∈ l, -1125899906842624 ≤ n.2 ∧ n.2 ≤ 1125899906842624) → (total l).natAbs ≤ 1125899906842624 * l.length
  | [], _ => by simp [total]
  | n :: l, h => by
    have ih := total_bd l fun m hm => h m (by simp [hm])
    have hn := h n (by simp)
    have e : total (n :: l) = n.2 + total l := by simp [total]
    rw [e, List.length_cons]; omega
/-- The sums of parts, all together. -/
theorem known_sums : ∀ (L : List (List N)), (∀ l ∈ L, ∀ n ∈ l, -1125899906842624 ≤ n.2 ∧ n.2 ≤ 1125899906842624) → L.flatten.length ≤ 4000 →
    (known (L.map (reckon 2)) = [] ↔ known L.flatten = []) ∧ total (known (L.map (reckon 2))) = total (known L.flatten) ∧ (∀ n ∈ known (L.map (reckon 2)), good n = true)
  | [], _, _ => by simp [known, total]
  | l :: L, h, hl => by
    rw [List.flatten_cons, List.length_append] at hl
    obtain ⟨i1, i2, i3⟩ := known_sums L (fun m hm => h m (by simp [hm])) (by omega)
    have hlb := h l (by simp)
    have e := reckon2 l (by omega) hlb
    rw [List.map_cons, List.flatten_cons, known_app, e]
    have hkl : (known l).length ≤ l.length := List.length_filter_le _ _
    have htb := total_bd (known l) fun n hn => hlb n (List.mem_filter.1 hn).1
    by_cases hk : known l = []
    · rw [if_pos hk, hk]
      have : known (nothing :: L.map (reckon 2)) = known (L.map (reckon 2)) := known_no nothing_bad _
      rw [this]
      exact ⟨by simpa using i1, by simpa using i2, i3⟩
    · rw [if_neg hk]
      have hg : good (false, total (known l)) = true := good_iff.2 ⟨rfl, by simp only [most]; omega⟩
      have : known ((false, total (known l)) :: L.map (reckon 2)) = (false, total (known l)) :: known (L.map (reckon 2)) := known_yes hg _
      rw [this]
      refine ⟨by simp [hk], ?_, fun n hn => ?_⟩
      · rw [total_app, ← i2]; simp [total]
      · rcases List.mem_cons.1 hn with rfl | hn
        · exact hg
        · exact i3 n hn
/-- Adding values that count, with no sum too great on the way, is the total. -/
theorem fold_total : ∀ (l : List N) (k : N) (B : Nat), good k = true → (∀ n ∈ l, good n = true) → k.2.natAbs + (l.map fun n => n.2.natAbs).sum ≤ B → B ≤ 9223372036854775807 → l.foldl addN k = (false, k.2 + total l)
  | [], k, B, hk, _, _, _ => by
    have := (good_iff.1 hk).1
    simp [total, ← this]
  | n :: l, k, B, hk, h, hB, hB2 => by
    have hn := h n (by simp)
    rw [List.map_cons, List.sum_cons] at hB
    have e : addN k n = (false, k.2 + n.2) := by
      simp only [addN, hk, hn, Bool.and_self, if_true]
      unfold tell most
      rw [if_pos]; omega
    have hg : good (false, k.2 + n.2) = true := good_iff.2 ⟨rfl, by simp only [most]; omega⟩
    rw [List.foldl_cons, e, fold_total l (false, k.2 + n.2) B hg (fun m hm => h m (by simp [hm])) (by simp only; omega) hB2]
    simp [total]; omega
theorem sums_bd : ∀ (L : List (List N)), (∀ l ∈ L, ∀ n ∈ l, -1125899906842624 ≤ n.2 ∧ n.2 ≤ 1125899906842624) → L.flatten.length ≤ 4000 → ((known (L.map (reckon 2))).map fun n => n.2.natAbs).sum ≤ 1125899906842624 * L.flatten.length
  | [], _, _ => by simp [known]
  | l :: L, h, hl => by
    rw [List.flatten_cons, List.length_append] at hl
    have ih := sums_bd L (fun m hm => h m (by simp [hm])) (by omega)
    have hlb := h l (by simp)
    have e := reckon2 l (by omega) hlb
    have hkl : (known l).length ≤ l.length := List.length_filter_le _ _
    have htb := total_bd (known l) fun n hn => hlb n (List.mem_filter.1 hn).1
    rw [List.map_cons, List.flatten_cons, List.length_append, e]
    by_cases hk : known l = []
    · rw [if_pos hk]
      have : known (nothing :: L.map (reckon 2)) = known (L.map (reckon 2)) := known_no nothing_bad _
      rw [this]; omega
    · rw [if_neg hk]
      have hg : good (false, total (known l)) = true := good_iff.2 ⟨rfl, by simp only [most]; omega⟩
      have : known ((false, total (known l)) :: L.map (reckon 2)) = (false, total (known l)) :: known (L.map (reckon 2)) := known_yes hg _
      rw [this, List.map_cons, List.sum_cons]
      simp only
      omega
theorem reckon2_eq (l : List N) : reckon 2 l = red addN l := by
  unfold reckon red
  cases known l with
  | nil => rfl
  | cons k ks => simp [reckonK]
theorem sum_flat (L : List (List N)) (h : ∀ l ∈ L, ∀ n ∈ l, -1125899906842624 ≤ n.2 ∧ n.2 ≤ 1125899906842624) (hl : L.flatten.length ≤ 4000) : reckon 2 (L.map (reckon 2)) = reckon 2 L.flatten := by
  obtain ⟨h1, h2, h3⟩ := known_sums L h hl
  have hB := sums_bd L h hl
  have hflat : ∀ n ∈ L.flatten, -1125899906842624 ≤ n.2 ∧ n.2 ≤ 1125899906842624 := fun n hn => by
    obtain ⟨l, hl1, hl2⟩ := List.mem_flatten.1 hn
    exact h l hl1 n hl2
  rw [reckon2 L.flatten hl hflat, reckon2_eq (L.map (reckon 2))]
  unfold red
  generalize known (L.map (reckon 2)) = K at *
  cases K with
  | nil => rw [if_pos (h1.1 rfl)]
  | cons k ks =>
    rw [if_neg (fun h => by have := h1.2 h; cases this)]
    rw [List.map_cons, List.sum_cons] at hB
    have := fold_total ks k 9223372036854775807 (h3 k (by simp)) (fun n hn => h3 n (by simp [hn])) (by omega) (by omega)
    simp only
    rw [this, ← h2]
    simp [total]
end Go.Ser
