/- Numbers: adding, comparing, and what a list makes, in plain Lean: the two ways of reckoning agree. -/
import Derived.Test.YtipncibiodfmdaaGreatDoorNuSpec
set_option linter.unusedSimpArgs false
set_option linter.unusedVariables false
namespace Go.Num
theorem good_iff {n : N} : good n = true ↔ n.1 = false ∧ -most ≤ n.2 := by
  simp [good]
theorem known_good (l : List N) : ∀ n ∈ known l, good n = true := fun n hn => (List.mem_filter.1 hn).2
theorem nothing_bad : good nothing = false := rfl
theorem tell_zero : tell 0 = (false, 0) := by decide
/-- Nought and a number that counts is the number. -/
theorem add_zero {k : N} (h : good k = true) (h2 : k.2 ≤ most) : addN (tell 0) k = k := by
  obtain ⟨h1, h3⟩ := good_iff.1 h
  have hz : good (tell 0) = true := by decide
  unfold addN
  rw [hz, h]
  simp only [Bool.and_self, if_true]
  rw [tell_zero]
  unfold tell
  simp only [Int.zero_add]
  rw [if_pos ⟨h3, h2⟩, ← h1]
theorem less_self (k : N) (h : good k = true) : lessN k k = k := by simp [lessN, h]
theorem more_self (k : N) (h : good k = true) : moreN k k = k := by simp [moreN, h]
/-- The lesser of two is one of them, and no greater. -/
theorem less_of {a b : N} (ha : good a = true) (hb : good b = true) : good (lessN a b) = true ∧ (lessN a b).2 ≤ a.2 ∧ (lessN a b).2 ≤ b.2 := by
  unfold lessN
  rw [ha, hb]
  simp only [if_true]
  split
  · rename_i h; exact ⟨ha, Int.le_refl _, h⟩
  · exact ⟨hb, by omega, Int.le_refl _⟩
theorem more_of {a b : N} (ha : good a = true) (hb : good b = true) : good (moreN a b) = true ∧ a.2 ≤ (moreN a b).2 ∧ b.2 ≤ (moreN a b).2 := by
  unfold moreN
  rw [ha, hb]
  simp only [if_true]
  split
  · rename_i h; exact ⟨ha, Int.le_refl _, h⟩
  · exact ⟨hb, by omega, Int.le_refl _⟩
theorem fold_less : ∀ (l : List N) (k : N), good k = true → (∀ n ∈ l, good n = true) → good (l.foldl lessN k) = true ∧ (l.foldl lessN k).2 ≤ k.2 ∧ ∀ n ∈ l, (l.foldl lessN k).2 ≤ n.2
  | [], k, hk, _ => ⟨hk, Int.le_refl _, by simp⟩
  | n :: l, k, hk, h => by
    have hn := h n (by simp)
    obtain ⟨h1, h2, h3⟩ := less_of hk hn
    obtain ⟨g1, g2, g3⟩ := fold_less l (lessN k n) h1 fun m hm => h m (by simp [hm])
    rw [List.foldl_cons]
    refine ⟨g1, by omega, fun m hm => ?_⟩
    rcases List.mem_cons.1 hm with rfl | hm
    · omega
    · exact g3 m hm
theorem fold_more : ∀ (l : List N) (k : N), good k = true → (∀ n ∈ l, good n = true) → good (l.foldl moreN k) = true ∧ k.2 ≤ (l.foldl moreN k).2 ∧ ∀ n ∈ l, n.2 ≤ (l.foldl moreN k).2
  | [], k, hk, _ => ⟨hk, Int.le_refl _, by simp⟩
  | n :: l, k, hk, h => by
    have hn := h n (by simp)
    obtain ⟨h1, h2, h3⟩ := more_of hk hn
    obtain ⟨g1, g2, g3⟩ := fold_more l (moreN k n) h1 fun m hm => h m (by simp [hm])
    rw [List.foldl_cons]
    refine ⟨g1, by omega, fun m hm => ?_⟩
    rcases List.mem_cons.1 hm with rfl | hm
    · omega
    · exact g3 m hm
/-- A rounded quotient lies between whole bounds. -/
theorem rnd_le {x d m : Nat} (hd : 0 < d) (h : x ≤ m * d) : rnd x d ≤ m := by
  unfold rnd
  have h1 := Nat.div_add_mod x d
  have hr := Nat.mod_lt x hd
  have hq : x / d ≤ m := by
    have : x / d * d ≤ m * d := Nat.le_trans (Nat.div_mul_le_self _ _) h
    exact Nat.le_of_mul_le_mul_right this hd
  by_cases he : x / d = m
  · have hz : x % d = 0 := by
      rw [he, Nat.mul_comm d m] at h1; omega
    rw [hz, if_neg (by omega)]; omega
  · split <;> omega
theorem le_rnd {x d m : Nat} (hd : 0 < d) (h : m * d ≤ x) : m ≤ rnd x d := by
  unfold rnd
  have : m ≤ x / d := (Nat.le_div_iff_mul_le hd).2 h
  omega

theorem add_nothing (n : N) : addN nothing n = nothing := by simp [addN, nothing_bad]
theorem fold_nothing : ∀ l : List N, l.foldl addN nothing = nothing
  | [] => rfl
  | n :: l => by rw [List.foldl_cons, add_nothing, fold_nothing l]
def total (l : List N) : Int := (l.map (·.2)).sum
theorem fold_add : ∀ (l : List N) (k : N), good k = true → k.2 ≤ most → (∀ n ∈ l, good n = true) → l.foldl addN k = nothing ∨ (good (l.foldl addN k) = true ∧ (l.foldl addN k).2 ≤ most ∧ (l.foldl addN k).2 = k.2 + total l)
  | [], k, hk, hm, _ => .inr ⟨hk, hm, by simp [total]⟩
  | n :: l, k, hk, hm, h => by
    have hn := h n (by simp)
    rw [List.foldl_cons]
    have e : addN k n = tell (k.2 + n.2) := by simp [addN, hk, hn]
    rw [e]
    by_cases hr : -most ≤ k.2 + n.2 ∧ k.2 + n.2 ≤ most
    · have e2 : tell (k.2 + n.2) = (false, k.2 + n.2) := by rw [tell, if_pos hr]
      rw [e2]
      rcases fold_add l (false, k.2 + n.2) (good_iff.2 ⟨rfl, hr.1⟩) hr.2 (fun m hm => h m (by simp [hm])) with h1 | ⟨h1, h2, h3⟩
      · exact .inl h1
      · refine .inr ⟨h1, h2, ?_⟩
        rw [h3]
        simp [total]; omega
    · have e2 : tell (k.2 + n.2) = nothing := by rw [tell, if_neg hr]
      rw [e2, fold_nothing]; exact .inl rfl
theorem total_ge {m : Int} : ∀ (l : List N), (∀ n ∈ l, m ≤ n.2) → m * l.length ≤ total l
  | [], _ => by simp [total]
  | n :: l, h => by
    have ih := total_ge l fun x hx => h x (by simp [hx])
    have hn := h n (by simp)
    have e : total (n :: l) = n.2 + total l := by simp [total]
    rw [e, List.length_cons]
    have : m * ((l.length + 1 : Nat) : Int) = m * l.length + m := by rw [Int.natCast_add, Int.mul_add]; simp
    rw [this]; omega
theorem total_le {m : Int} : ∀ (l : List N), (∀ n ∈ l, n.2 ≤ m) → total l ≤ m * l.length
  | [], _ => by simp [total]
  | n :: l, h => by
    have ih := total_le l fun x hx => h x (by simp [hx])
    have hn := h n (by simp)
    have e : total (n :: l) = n.2 + total l := by simp [total]
    rw [e, List.length_cons]
    have : m * ((l.length + 1 : Nat) : Int) = m * l.length + m := by rw [Int.natCast_add, Int.mul_add]; simp
    rw [this]; omega
/-- A rounded average lies between. -/
theorem avg_between {S L H : Int} {n : Nat} (hn : 0 < n) (h1 : L * n ≤ S) (h2 : S ≤ H * n) : L ≤ sgn (decide (S < 0)) (rnd (S.natAbs * 1000000) (n * 1000000)) ∧ sgn (decide (S < 0)) (rnd (S.natAbs * 1000000) (n * 1000000)) ≤ H := by
  have hd : 0 < n * 1000000 := by omega
  by_cases hS : S < 0
  · have e : sgn (decide (S < 0)) (rnd (S.natAbs * 1000000) (n * 1000000)) = -((rnd (S.natAbs * 1000000) (n * 1000000) : Nat) : Int) := by simp [sgn, hS]
    rw [e]
    have hL : L < 0 := by
      rcases Int.lt_or_le L 0 with h | h
      · exact h
      · have := Int.mul_nonneg h (Int.natCast_nonneg n); omega
    constructor
    · have : rnd (S.natAbs * 1000000) (n * 1000000) ≤ L.natAbs := by
        refine rnd_le hd ?_
        have h3 : S.natAbs ≤ L.natAbs * n := by
          have : ((L.natAbs * n : Nat) : Int) = -(L * n) := by rw [Int.natCast_mul, Int.ofNat_natAbs_of_nonpos (by omega), Int.neg_mul]
          omega
        rw [← Nat.mul_assoc]; exact Nat.mul_le_mul_right _ h3
      omega
    · rcases Int.lt_or_le H 0 with hH | hH
      · have : H.natAbs ≤ rnd (S.natAbs * 1000000) (n * 1000000) := by
          refine le_rnd hd ?_
          have h3 : H.natAbs * n ≤ S.natAbs := by
            have : ((H.natAbs * n : Nat) : Int) = -(H * n) := by rw [Int.natCast_mul, Int.ofNat_natAbs_of_nonpos (by omega), Int.neg_mul]
            omega
          rw [← Nat.mul_assoc]; exact Nat.mul_le_mul_right _ h3
        omega
      · omega
  · have e : sgn (decide (S < 0)) (rnd (S.natAbs * 1000000) (n * 1000000)) = ((rnd (S.natAbs * 1000000) (n * 1000000) : Nat) : Int) := by simp [sgn, hS]
    rw [e]
    have hH : 0 ≤ H := by
      rcases Int.lt_or_le H 0 with h | h
      · have h3 : H * n ≤ -1 * n := Int.mul_le_mul_of_nonneg_right (by omega) (Int.natCast_nonneg n)
        omega
      · exact h
    constructor
    · rcases Int.lt_or_le L 0 with hL | hL
      · omega
      · have : L.natAbs ≤ rnd (S.natAbs * 1000000) (n * 1000000) := by
          refine le_rnd hd ?_
          have h3 : L.natAbs * n ≤ S.natAbs := by
            have : ((L.natAbs * n : Nat) : Int) = L * n := by rw [Int.natCast_mul, Int.natAbs_of_nonneg hL]
            omega
          rw [← Nat.mul_assoc]; exact Nat.mul_le_mul_right _ h3
        omega
    · have : rnd (S.natAbs * 1000000) (n * 1000000) ≤ H.natAbs := by
        refine rnd_le hd ?_
        have h3 : S.natAbs ≤ H.natAbs * n := by
          have : ((H.natAbs * n : Nat) : Int) = H * n := by rw [Int.natCast_mul, Int.natAbs_of_nonneg hH]
          omega
        rw [← Nat.mul_assoc]; exact Nat.mul_le_mul_right _ h3
      omega

theorem div_nothing (n : N) : divN nothing n = nothing := by
  unfold divN
  rw [nothing_bad]
  rfl
theorem div_len {s : N} {n : Nat} (hs : good s = true) (hn : 0 < n) (h2 : n ≤ 3000) : divN s (tell ((n : Int) * 1000000)) = tell (sgn (decide (s.2 < 0)) (rnd (s.2.natAbs * 1000000) (n * 1000000))) := by
  have hmost : most = 9223372036854775807 := rfl
  have e : tell ((n : Int) * 1000000) = (false, (n : Int) * 1000000) := by rw [tell, if_pos ⟨by omega, by omega⟩]
  rw [e]
  have hg : good (false, (n : Int) * 1000000) = true := good_iff.2 ⟨rfl, by simp only; omega⟩
  unfold divN
  rw [hs, hg]
  have h0 : decide ((n : Int) * 1000000 ≠ 0) = true := by simp; omega
  have hneg : decide ((n : Int) * 1000000 < 0) = false := by simp; omega
  have habs : ((n : Int) * 1000000).natAbs = n * 1000000 := by omega
  simp only [h0, hneg, habs, Bool.and_self, if_true]
  have : (decide (s.2 < 0) != false) = decide (s.2 < 0) := by cases decide (s.2 < 0) <;> rfl
  rw [this]
theorem between_plain (l : List N) (hl : l.length ≤ 3000) (hm : ∀ n ∈ l, n.2 ≤ most) :
    (reckon 1 l).1 = true ∨ ((reckon 3 l).1 = false ∧ (reckon 4 l).1 = false ∧ (reckon 3 l).2 ≤ (reckon 1 l).2 ∧ (reckon 1 l).2 ≤ (reckon 4 l).2) := by
  have hkg := known_good l
  have hkl : (known l).length ≤ l.length := List.length_filter_le _ _
  have hkm : ∀ n ∈ known l, n.2 ≤ most := fun n hn => hm n (List.mem_filter.1 hn).1
  unfold reckon
  generalize known l = K at *
  cases K with
  | nil => exact .inl rfl
  | cons k ks =>
    simp only
    have hk := hkg k (by simp)
    have hks : ∀ n ∈ ks, good n = true := fun n hn => hkg n (by simp [hn])
    obtain ⟨l1, l2, l3⟩ := fold_less ks k hk hks
    obtain ⟨m1, m2, m3⟩ := fold_more ks k hk hks
    have r1 : reckonK 1 k ks = divN (ks.foldl addN k) (tell (((k :: ks).length : Int) * 1000000)) := by simp [reckonK]
    have r3 : reckonK 3 k ks = ks.foldl lessN k := by simp [reckonK]
    have r4 : reckonK 4 k ks = ks.foldl moreN k := by simp [reckonK]
    rw [r1, r3, r4]
    rcases fold_add ks k hk (hkm k (by simp)) hks with hS | ⟨s1, s2, s3⟩
    · rw [hS]
      rw [div_nothing]
      exact .inl rfl
    · rw [div_len s1 (by simp) (by omega)]
      generalize hX : sgn (decide ((ks.foldl addN k).2 < 0)) (rnd ((ks.foldl addN k).2.natAbs * 1000000) ((k :: ks).length * 1000000)) = X
      by_cases hr : -most ≤ X ∧ X ≤ most
      · rw [tell, if_pos hr]
        have hlo : (ks.foldl lessN k).2 * ((k :: ks).length : Int) ≤ (ks.foldl addN k).2 := by
          have := total_ge (m := (ks.foldl lessN k).2) (k :: ks) (fun n hn => by
            rcases List.mem_cons.1 hn with rfl | hn
            · exact l2
            · exact l3 n hn)
          have e : total (k :: ks) = k.2 + total ks := by simp [total]
          rw [e] at this; rw [s3]; exact this
        have hhi : (ks.foldl addN k).2 ≤ (ks.foldl moreN k).2 * ((k :: ks).length : Int) := by
          have := total_le (m := (ks.foldl moreN k).2) (k :: ks) (fun n hn => by
            rcases List.mem_cons.1 hn with rfl | hn
            · exact m2
            · exact m3 n hn)
          have e : total (k :: ks) = k.2 + total ks := by simp [total]
          rw [e] at this; rw [s3]; exact this
        have := avg_between (n := (k :: ks).length) (by simp) hlo hhi
        rw [hX] at this
        exact .inr ⟨(good_iff.1 l1).1, (good_iff.1 m1).1, this.1, this.2⟩
      · rw [tell, if_neg hr]; exact .inl rfl
end Go.Num
