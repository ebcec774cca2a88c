/- Patterns of one name: counting, and fitting. -/
import Derived.Test.YtkclehdmdnfikaaDoorGlB
set_option linter.unusedSimpArgs false
set_option linter.unusedVariables false
set_option linter.constructorNameAsVariable false
namespace Go.Glob
mutual
/-- How many pieces and alternatives there are. -/
def szL : List Pc → Nat
  | [] => 0
  | .lit _ :: l => 1 + szL l
  | .q :: l => 1 + szL l
  | .star :: l => 1 + szL l
  | .cls _ _ :: l => 1 + szL l
  | .br xs :: l => 1 + szA xs + szL l
def szA : List (List Pc) → Nat
  | [] => 0
  | a :: xs => 1 + szL a + szA xs
end
theorem szL_length : ∀ l, l.length ≤ szL l
  | [] => Nat.zero_le _
  | p :: l => by have := szL_length l; cases p <;> simp [szL] <;> omega
theorem szA_length : ∀ l, l.length ≤ szA l
  | [] => Nat.zero_le _
  | p :: l => by have := szA_length l; simp [szA]; omega
theorem szA_mem : ∀ {xs : List (List Pc)} {a : List Pc}, a ∈ xs → szL a < szA xs
  | b :: xs, a, h => by
    simp only [szA]
    rcases List.mem_cons.1 h with rfl | h
    · omega
    · have := szA_mem h; omega
theorem szL_mem : ∀ {l : List Pc} {xs : List (List Pc)}, Pc.br xs ∈ l → szA xs < szL l
  | p :: l, xs, h => by
    rcases List.mem_cons.1 h with rfl | h
    · simp [szL]; omega
    · have := szL_mem h
      cases p <;> simp [szL] <;> omega

mutual
theorem cnt_le : ∀ (l : List Pc) (n : Nat), n ≤ 65 → cnt n l ≤ 65
  | [], n, h => by simpa [cnt] using h
  | .br xs :: l, n, _ => by simp only [cnt]; exact cnt_le l _ (Nat.min_le_left _ _)
  | .lit _ :: l, n, h => by simp only [cnt]; exact cnt_le l n h
  | .q :: l, n, h => by simp only [cnt]; exact cnt_le l n h
  | .star :: l, n, h => by simp only [cnt]; exact cnt_le l n h
  | .cls _ _ :: l, n, h => by simp only [cnt]; exact cnt_le l n h
theorem cntA_le : ∀ (l : List (List Pc)) (n : Nat), n ≤ 65 → cntA n l ≤ 65
  | [], n, h => by simpa [cntA] using h
  | a :: l, n, _ => by simp only [cntA]; exact cntA_le l _ (Nat.min_le_left _ _)
end
theorem cnt_other {p : Pc} (h : p.kind ≠ 4) (n : Nat) (l : List Pc) : cnt n (p :: l) = cnt n l := by
  cases p <;> simp_all [cnt, Pc.kind]
theorem kind4 {p : Pc} (h : p.kind = 4) : p = .br p.alts := by
  cases p <;> simp_all [Pc.kind, Pc.alts]
theorem kind2 {p : Pc} : p.kind = 2 ↔ p = .star := by
  cases p <;> simp [Pc.kind]

mutual
/-- Braces have alternatives. -/
def neL : List Pc → Prop
  | [] => True
  | .lit _ :: l => neL l
  | .q :: l => neL l
  | .star :: l => neL l
  | .cls _ _ :: l => neL l
  | .br xs :: l => xs ≠ [] ∧ neA xs ∧ neL l
def neA : List (List Pc) → Prop
  | [] => True
  | a :: xs => neL a ∧ neA xs
end
theorem neA_mem : ∀ {xs : List (List Pc)} {a : List Pc}, neA xs → a ∈ xs → neL a
  | b :: xs, a, h, hm => by
    simp only [neA] at h
    rcases List.mem_cons.1 hm with rfl | hm
    · exact h.1
    · exact neA_mem h.2 hm
theorem neL_drop : ∀ {l : List Pc} (i : Nat), neL l → neL (l.drop i)
  | l, 0, h => h
  | [], i + 1, h => by simpa using h
  | p :: l, i + 1, h => by
    have : neL l := by cases p <;> simp only [neL] at h <;> first | exact h | exact h.2.2
    exact neL_drop i this
theorem neL_mem : ∀ {l : List Pc} {xs : List (List Pc)}, neL l → Pc.br xs ∈ l → xs ≠ [] ∧ neA xs
  | p :: l, xs, h, hm => by
    rcases List.mem_cons.1 hm with rfl | hm
    · simp only [neL] at h; exact ⟨h.1, h.2.1⟩
    · have : neL l := by cases p <;> simp only [neL] at h <;> first | exact h | exact h.2.2
      exact neL_mem this hm

theorem pcs_size : ∀ (n : Nat), (∀ (s : List UInt8) (l : List Pc) (r : List UInt8) (d : Nat), pcs n s = some (l, r, d) → szL l + r.length ≤ s.length ∧ neL l) ∧
    (∀ (s : List UInt8) (l : List (List Pc)) (r : List UInt8) (d : Nat), alts n s = some (l, r, d) → szA l + r.length ≤ s.length ∧ l ≠ [] ∧ neA l) := by
  intro n
  induction n with
  | zero => exact ⟨fun s l r d h => by simp [pcs] at h, fun s l r d h => by simp [alts] at h⟩
  | succ n ih =>
    obtain ⟨ihp, iha⟩ := ih
    refine ⟨fun s l r d h => ?_, fun s l r d h => ?_⟩
    · cases s with
      | nil =>
        simp only [pcs, Option.some.injEq, Prod.mk.injEq] at h
        obtain ⟨rfl, rfl, rfl⟩ := h
        simp [szL, neL]
      | cons c s =>
        by_cases h1 : c = 44 ∨ c = 125
        · rw [pcs_stop h1] at h
          simp only [Option.some.injEq, Prod.mk.injEq] at h
          obtain ⟨rfl, rfl, rfl⟩ := h
          simp [szL, neL]
        by_cases h2 : c = 63
        · subst h2
          rw [pcs_q] at h
          simp only [Option.map_eq_some_iff, Prod.mk.injEq] at h
          obtain ⟨⟨l', r', d'⟩, hv, rfl, rfl, rfl⟩ := h
          have := ihp _ _ _ _ hv
          simp only [szL, neL, List.length_cons]; exact ⟨by omega, this.2⟩
        by_cases h3 : c = 42
        · subst h3
          rw [pcs_star] at h
          simp only [Option.map_eq_some_iff, Prod.mk.injEq] at h
          obtain ⟨⟨l', r', d'⟩, hv, rfl, rfl, rfl⟩ := h
          have := ihp _ _ _ _ hv
          simp only [szL, neL, List.length_cons]; exact ⟨by omega, this.2⟩
        by_cases h4 : c = 91
        · subst h4
          rw [pcs_cls] at h
          simp only [Option.bind_eq_some_iff, Option.map_eq_some_iff, Prod.mk.injEq] at h
          obtain ⟨⟨rs, r1⟩, hc, ⟨l', r', d'⟩, hv, rfl, rfl, rfl⟩ := h
          have := ihp _ _ _ _ hv
          obtain ⟨b, rfl, _⟩ := cls_local _ _ _ _ _ hc
          simp only [szL, neL, List.length_cons, List.length_append] at this ⊢; exact ⟨by omega, this.2⟩
        by_cases h5 : c = 123
        · subst h5
          rw [pcs_br] at h
          simp only [Option.bind_eq_some_iff, Option.map_eq_some_iff, Prod.mk.injEq] at h
          obtain ⟨⟨xs, r1, d1⟩, hc, ⟨l', r', d'⟩, hv, rfl, rfl, rfl⟩ := h
          have h1 := ihp _ _ _ _ hv
          have h2 := iha _ _ _ _ hc
          simp only [szL, neL, List.length_cons] at h1 h2 ⊢; exact ⟨by omega, h2.2.1, h2.2.2, h1.2⟩
        by_cases h6 : nb c = true
        · rw [pcs_lit h6] at h
          simp only [Option.map_eq_some_iff, Prod.mk.injEq] at h
          obtain ⟨⟨l', r', d'⟩, hv, rfl, rfl, rfl⟩ := h
          have := ihp _ _ _ _ hv
          simp only [szL, neL, List.length_cons]; exact ⟨by omega, this.2⟩
        · rw [pcs_no h1 h2 h3 h4 h5 (by simpa using h6)] at h
          cases h
    · rw [alts_step] at h
      simp only [Option.bind_eq_some_iff] at h
      obtain ⟨⟨l', r', d'⟩, hv, h⟩ := h
      have h1 := ihp _ _ _ _ hv
      dsimp only at h
      split at h
      · cases h
      · split at h
        · simp only [Option.some.injEq, Prod.mk.injEq] at h
          obtain ⟨rfl, rfl, rfl⟩ := h
          simp only [szA, neA, List.length_cons] at h1 ⊢
          exact ⟨by omega, by simp, h1.2, trivial⟩
        · simp only [Option.map_eq_some_iff, Prod.mk.injEq] at h
          obtain ⟨⟨xs, r2, d2⟩, hw, rfl, rfl, rfl⟩ := h
          have h2 := iha _ _ _ _ hw
          simp only [szA, neA, List.length_cons] at h1 h2 ⊢
          exact ⟨by omega, by simp, h1.2, h2.2.2⟩

mutual
theorem cnt_ge : ∀ (l : List Pc) (n : Nat), neL l → 1 ≤ n → n ≤ 65 → n ≤ cnt n l
  | [], n, _, _, _ => by simp [cnt]
  | .br xs :: l, n, h, h1, h2 => by
    simp only [neL] at h
    have hx := cntA_ge xs 0 h.2.1 (by omega)
    have hp : 1 ≤ cntA 0 xs := by have := List.length_pos_iff.2 h.1; omega
    simp only [cnt]
    have hm : n ≤ n * cntA 0 xs := by have := Nat.mul_le_mul_left n hp; omega
    have := cnt_ge l (min 65 (n * cntA 0 xs)) h.2.2 (by omega) (Nat.min_le_left _ _)
    omega
  | .lit _ :: l, n, h, h1, h2 => by simp only [cnt]; exact cnt_ge l n (by simpa [neL] using h) h1 h2
  | .q :: l, n, h, h1, h2 => by simp only [cnt]; exact cnt_ge l n (by simpa [neL] using h) h1 h2
  | .star :: l, n, h, h1, h2 => by simp only [cnt]; exact cnt_ge l n (by simpa [neL] using h) h1 h2
  | .cls _ _ :: l, n, h, h1, h2 => by simp only [cnt]; exact cnt_ge l n (by simpa [neL] using h) h1 h2
/-- .. as many as there are alternatives, at least, or 65. -/
theorem cntA_ge : ∀ (l : List (List Pc)) (n : Nat), neA l → n ≤ 65 → min 65 (n + l.length) ≤ cntA n l
  | [], n, _, _ => by simp [cntA]; omega
  | a :: l, n, h, h1 => by
    simp only [neA] at h
    have hc := cnt_ge a 1 h.1 (by omega) (by omega)
    have := cntA_ge l (min 65 (n + cnt 1 a)) h.2 (Nat.min_le_left _ _)
    simp only [cntA, List.length_cons]
    omega
end
mutual
theorem expd_count : ∀ (l : List Pc) (out : List (List Pc)), neL l → 1 ≤ out.length → cnt out.length l ≤ 64 → (expd out l).length = cnt out.length l
  | [], out, _, _, _ => by simp [expd, cnt]
  | .br xs :: l, out, h, h1, hc => by
    simp only [neL] at h
    simp only [cnt] at hc ⊢
    simp only [expd]
    have hx := cntA_ge xs 0 h.2.1 (by omega)
    have hp : 1 ≤ cntA 0 xs := by have := List.length_pos_iff.2 h.1; omega
    have hm : out.length ≤ out.length * cntA 0 xs := by have := Nat.mul_le_mul_left out.length hp; omega
    have hg := cnt_ge l (min 65 (out.length * cntA 0 xs)) h.2.2 (by omega) (Nat.min_le_left _ _)
    have hm2 : cntA 0 xs ≤ out.length * cntA 0 xs := by have := Nat.mul_le_mul_right (cntA 0 xs) h1; omega
    have hA := expdA_count xs 0 h.2.1 (by omega)
    have hl : (out.flatMap fun h => (expdA xs).map (h ++ ·)).length = out.length * cntA 0 xs := by
      rw [List.length_flatMap]
      simp only [List.length_map]
      have : ∀ (o : List (List Pc)), (o.map fun _ => (expdA xs).length).sum = o.length * (expdA xs).length := fun o => by
        induction o with
        | nil => simp
        | cons a o ih => simp only [List.map_cons, List.sum_cons, List.length_cons, ih]; rw [Nat.add_mul]; omega
      rw [this]; congr 1; omega
    have hmin : min 65 (out.length * cntA 0 xs) = out.length * cntA 0 xs := by omega
    rw [hmin] at hc hg ⊢
    have := expd_count l (out.flatMap fun h => (expdA xs).map (h ++ ·)) h.2.2 (by omega) (by rw [hl]; exact hc)
    rw [this, hl]
  | .lit c :: l, out, h, h1, hc => by
    simp only [cnt] at hc ⊢; simp only [expd]
    have := expd_count l (out.map (· ++ [.lit c])) (by simpa [neL] using h) (by simpa using h1) (by simpa using hc)
    simpa using this
  | .q :: l, out, h, h1, hc => by
    simp only [cnt] at hc ⊢; simp only [expd]
    have := expd_count l (out.map (· ++ [.q])) (by simpa [neL] using h) (by simpa using h1) (by simpa using hc)
    simpa using this
  | .star :: l, out, h, h1, hc => by
    simp only [cnt] at hc ⊢; simp only [expd]
    have := expd_count l (out.map (· ++ [.star])) (by simpa [neL] using h) (by simpa using h1) (by simpa using hc)
    simpa using this
  | .cls r t :: l, out, h, h1, hc => by
    simp only [cnt] at hc ⊢; simp only [expd]
    have := expd_count l (out.map (· ++ [.cls r t])) (by simpa [neL] using h) (by simpa using h1) (by simpa using hc)
    simpa using this
theorem expdA_count : ∀ (l : List (List Pc)) (n : Nat), neA l → cntA n l ≤ 64 → n + (expdA l).length = cntA n l
  | [], n, _, _ => by simp [expdA, cntA]
  | a :: l, n, h, hc => by
    simp only [neA] at h
    simp only [cntA] at hc ⊢
    simp only [expdA, List.length_append]
    have hg := cntA_ge l (min 65 (n + cnt 1 a)) h.2 (Nat.min_le_left _ _)
    have hmin : min 65 (n + cnt 1 a) = n + cnt 1 a := by omega
    rw [hmin] at hc hg ⊢
    have h1 := expd_count a [[]] h.1 (by simp) (by simp; omega)
    have h2 := expdA_count l (n + cnt 1 a) h.2 hc
    simp only [List.length_singleton] at h1
    omega
end
theorem cntA_mem : ∀ {l : List (List Pc)} {n : Nat} {a : List Pc}, neA l → cntA n l ≤ 64 → a ∈ l → cnt 1 a ≤ 64
  | b :: l, n, a, h, hc, hm => by
    simp only [neA] at h
    simp only [cntA] at hc
    have hg := cntA_ge l (min 65 (n + cnt 1 b)) h.2 (Nat.min_le_left _ _)
    rcases List.mem_cons.1 hm with rfl | hm
    · omega
    · exact cntA_mem h.2 hc hm
mutual
theorem expd_len : ∀ (l : List Pc) (out : List (List Pc)) (k : Nat), (∀ o ∈ out, o.length ≤ k) → ∀ o ∈ expd out l, o.length ≤ k + szL l
  | [], out, k, h => by simpa [expd, szL] using h
  | .br xs :: l, out, k, h => by
    simp only [expd, szL]
    intro o ho
    have := expd_len l (out.flatMap fun h => (expdA xs).map (h ++ ·)) (k + szA xs) (fun o ho => by
      obtain ⟨x, hx, hz⟩ := List.mem_flatMap.1 ho
      obtain ⟨y, hy, rfl⟩ := List.mem_map.1 hz
      have h1 := h x hx
      have h2 := expdA_len xs y hy
      simp; omega) o ho
    omega
  | .lit c :: l, out, k, h => by
    simp only [expd, szL]
    intro o ho
    have := expd_len l (out.map (· ++ [.lit c])) (k + 1) (fun o ho => by obtain ⟨x, hx, rfl⟩ := List.mem_map.1 ho; have := h x hx; simp; omega) o ho
    omega
  | .q :: l, out, k, h => by
    simp only [expd, szL]
    intro o ho
    have := expd_len l (out.map (· ++ [.q])) (k + 1) (fun o ho => by obtain ⟨x, hx, rfl⟩ := List.mem_map.1 ho; have := h x hx; simp; omega) o ho
    omega
  | .star :: l, out, k, h => by
    simp only [expd, szL]
    intro o ho
    have := expd_len l (out.map (· ++ [.star])) (k + 1) (fun o ho => by obtain ⟨x, hx, rfl⟩ := List.mem_map.1 ho; have := h x hx; simp; omega) o ho
    omega
  | .cls r t :: l, out, k, h => by
    simp only [expd, szL]
    intro o ho
    have := expd_len l (out.map (· ++ [.cls r t])) (k + 1) (fun o ho => by obtain ⟨x, hx, rfl⟩ := List.mem_map.1 ho; have := h x hx; simp; omega) o ho
    omega
theorem expdA_len : ∀ (l : List (List Pc)), ∀ o ∈ expdA l, o.length ≤ szA l
  | [] => by simp [expdA]
  | a :: l => by
    intro o ho
    simp only [expdA, List.mem_append] at ho
    simp only [szA]
    rcases ho with ho | ho
    · have := expd_len a [[]] 0 (by simp) o ho; omega
    · have := expdA_len l o ho; omega
end
theorem expd_cons_br (out : List (List Pc)) (xs : List (List Pc)) (l : List Pc) : expd out (.br xs :: l) = expd (out.flatMap fun h => (expdA xs).map (h ++ ·)) l := by simp [expd]
theorem expd_cons_other {p : Pc} (h : p.kind ≠ 4) (out : List (List Pc)) (l : List Pc) : expd out (p :: l) = expd (out.map (· ++ [p])) l := by
  cases p <;> first | exact absurd rfl h | simp [expd]
theorem expdA_append : ∀ (l m : List (List Pc)), expdA (l ++ m) = expdA l ++ expdA m
  | [], m => by simp [expdA]
  | a :: l, m => by simp [expdA, expdA_append l m]
end Go.Glob
namespace Go.Proofs.YtkclehdmdnfikaaDoor
open Go.Abs Go.Glob
variable {G : Globs}

theorem count_ok : ∀ (N : Nat) (l : List Pc), szL l ≤ N → N ≤ 1000000000000 → PCalls Tryd.prog n_glob_count [.lst (encL l)] (fun r => r = .int .i64 (cnt 1 l)) := by
  intro N
  induction N using Nat.strongRecOn with
  | _ N ih =>
  intro l hl hN
  have hll := szL_length l
  refine pcalls_of_awp hmix c_glob_count rfl ?_
  simp [a_glob_count, encL_length]
  refine lp_start (fun n f σ => ∃ i acc : Nat, n = l.length - i ∧ i ≤ l.length ∧ f 9 = .lst (encL l) ∧ f 10 = .int .i64 l.length ∧ f 11 = .int .i64 i ∧ f 3 = .int .i64 acc ∧ acc ≤ 65 ∧ cnt acc (l.drop i) = cnt 1 l) l.length ⟨0, 1, by simp⟩ ?_
  rintro n f σ ⟨i, acc, rfl, hi, h9, h10, h11, h3, hacc, hc⟩
  simp [h10, h11]
  refine cb_dec (fun hlt => ?_) (fun hge => ?_)
  · have hlt' : i < l.length := by omega
    obtain ⟨p, hp⟩ : ∃ p, l[i]? = some p := ⟨_, List.getElem?_eq_getElem hlt'⟩
    have hm : p ∈ l := List.mem_of_getElem? hp
    have hdrop := drop_cons hp
    simp [h9, h11, encL_get hp, Pc.enc]
    by_cases hk : p.kind = 4
    · have hp4 := kind4 hk
      have hsz := szL_mem (hp4 ▸ hm)
      have hal := szA_length p.alts
      simp [hk, encA_length]
      refine lp_start (fun n f σ => ∃ k sum : Nat, n = p.alts.length - k ∧ k ≤ p.alts.length ∧ f 9 = .lst (encL l) ∧ f 10 = .int .i64 l.length ∧ f 11 = .int .i64 i ∧ f 3 = .int .i64 acc ∧ f 19 = .lst (encA p.alts) ∧ f 20 = .int .i64 p.alts.length ∧ f 21 = .int .i64 k ∧ f 6 = .int .i64 sum ∧ sum ≤ 65 ∧ cntA sum (p.alts.drop k) = cntA 0 p.alts) p.alts.length ⟨0, 0, by simp [h9, h10, h11, h3]⟩ ?_
      clear h9 h10 h11 h3
      rintro n f σ ⟨k, sum, rfl, hk, h9, h10, h11, h3, h19, h20, h21, h6, hsum, hcs⟩
      simp [h20, h21]
      refine cb_dec (fun hlt => ?_) (fun hge => ?_)
      · have hlt2 : k < p.alts.length := by omega
        obtain ⟨a, ha⟩ : ∃ a, p.alts[k]? = some a := ⟨_, List.getElem?_eq_getElem hlt2⟩
        have ham : a ∈ p.alts := List.mem_of_getElem? ha
        have has := szA_mem ham
        have hd2 := drop_cons ha
        have hcl := cnt_le a 1 (by omega)
        simp [h19, h21, h6, encA_get ha]
        refine ac_same (ih (szL a) (by omega) a (Nat.le_refl _) (by omega)) (by simp) ?_
        rintro r rfl
        simp [h21, h9, h10, h11, h3, h19, h20]
        rw [hd2] at hcs
        simp only [cntA] at hcs
        refine ⟨_, ?_, k + 1, rfl, by omega, by rw [wrap_i64 (by omega) (by omega)]; simp, min 65 (sum + cnt 1 a), ?_, Nat.min_le_left _ _, hcs⟩
        · omega
        · rw [wrap_i64 (by omega) (by omega)]
          split <;> omega
      · have e : p.alts.drop k = [] := List.drop_eq_nil_of_le (by omega)
        rw [e] at hcs
        simp only [cntA] at hcs
        have hb : (acc : Int) * sum ≤ 65 * 65 := by
          have : acc * sum ≤ 65 * 65 := Nat.mul_le_mul hacc hsum
          exact_mod_cast this
        have hb0 : (0 : Int) ≤ (acc : Int) * sum := by exact_mod_cast Nat.zero_le (acc * sum)
        simp [h3, h6, h9, h10, h11]
        rw [hdrop, hp4] at hc
        simp only [cnt] at hc
        rw [← hcs] at hc
        refine ⟨_, ?_, i + 1, rfl, by omega, by rw [wrap_i64 (by omega) (by omega)]; simp, min 65 (acc * sum), ?_, Nat.min_le_left _ _, hc⟩
        · omega
        · rw [wrap_i64 (by omega) (by omega)]
          have : ((acc * sum : Nat) : Int) = (acc : Int) * sum := by simp
          split <;> omega
    · have hk1 : ¬ ((p.kind : Int) = 4) := by omega
      simp [hk1, h9, h10, h11, h3]
      rw [hdrop, cnt_other hk] at hc
      refine ⟨_, ?_, i + 1, rfl, by omega, by rw [wrap_i64 (by omega) (by omega)]; simp, acc, rfl, hacc, hc⟩
      omega
  · have e : l.drop i = [] := List.drop_eq_nil_of_le (by omega)
    rw [e] at hc
    simp [h3]
    simp [cnt] at hc
    rw [hc]

theorem fits_ok (l : List Pc) (name : List UInt8) (hl : l.length ≤ 1000000000) (hn : name.length ≤ 1000000000) (hr : ∀ p ∈ l, p.rs.length ≤ 1000000000) :
    PCalls Tryd.prog n_glob_fits [.lst (encL l), .str name] (fun r => r = .bool (mt l name)) := by
  refine pcalls_of_awp hmix c_glob_fits rfl ?_
  simp [a_glob_fits]
  refine lp_start (fun n f σ => ∃ (at_ k : Nat) (back : Option Nat) (from_ : Nat), n = (name.length - from_) * (name.length + l.length + 2) + ((name.length - k) + (l.length - at_)) ∧ Fit l name at_ k back from_ ∧ f 0 = .lst (encL l) ∧ f 1 = .str name ∧ f 5 = .int .i64 at_ ∧ f 6 = .int .i64 k ∧
    f 7 = .int .i64 (match back with | none => -1 | some b => (b : Int)) ∧ f 8 = .int .i64 from_ ∧ σ = []) (name.length * (name.length + l.length + 2) + (name.length + l.length)) ⟨0, 0, none, 0, by simp, Fit.init _ _, by simp⟩ ?_
  rintro n f σ ⟨at_, k, back, from_, rfl, hfit, h0, h1, h5, h6, h7, h8, rfl⟩
  have hat := hfit.hat
  have hk := hfit.hk
  have hfk := hfit.hfk
  simp [h1, h6]
  refine cb_dec (fun hlt => ?_) (fun hge => ?_)
  · have hlt' : k < name.length := by omega
    have hc : name[k]? = some name[k] := List.getElem?_eq_getElem hlt'
    have hmul : ∀ a b : Nat, a ≤ b → a * (name.length + l.length + 2) ≤ b * (name.length + l.length + 2) := fun a b h => Nat.mul_le_mul_right _ h
    simp [h0, h5, encL_length]
    by_cases ha : at_ < l.length
    · obtain ⟨p, hp⟩ : ∃ p, l[at_]? = some p := ⟨_, List.getElem?_eq_getElem ha⟩
      have hm : p ∈ l := List.mem_of_getElem? hp
      have hge := encL_get hp
      obtain ⟨hx, hga⟩ := List.getElem?_eq_some_iff.1 hge
      by_cases hs : p.kind = 2
      · have hps := kind2.1 hs
        subst hps
        simp [ha, h0, h1, h5, h6, hge, encL_length, hga, Pc.enc, hs]
        refine ⟨_, ?_, at_ + 1, k, some at_, k, rfl, hfit.atStar hp, by rw [wrap_i64 (by omega) (by omega)]; simp, rfl, rfl, rfl⟩
        have := hmul (name.length - k) (name.length - from_) (by omega)
        omega
      · have hps : p ≠ .star := fun h => hs (kind2.2 h)
        have hs : ¬ ((p.kind : Int) = 2) := by omega
        simp [ha, h0, h1, h5, h6, h8, hge, encL_length, hga, Pc.enc, hs, hc]
        refine qc_same (one_ok p _ (by have := hr p hm; omega)) ?_ ?_ ?_
        · simp
        · simp
        simp
        refine cb_intro (fun h => ?_) (fun h => ?_)
        · simp [h0, h1, h5, h6, h7, h8]
          refine ⟨_, ?_, at_ + 1, k + 1, back, from_, rfl, hfit.step hp hps hc h, by rw [wrap_i64 (by omega) (by omega)]; simp, by rw [wrap_i64 (by omega) (by omega)]; simp, rfl, rfl⟩
          omega
        · have hst : Stuck l name at_ k := ⟨_, hc, .inr ⟨p, hp, hps, h⟩⟩
          cases back with
          | none =>
            simp [h7, hfit.no hst]
          | some b =>
            have hb := (hfit.f1 b rfl).1
            have h7' : f 7 = .int .i64 (b : Int) := h7
            simp [h0, h1, h7', h8]
            refine ⟨_, ?_, b + 1, from_ + 1, some b, from_ + 1, rfl, hfit.back hst, by rw [wrap_i64 (by omega) (by omega)]; simp, by rw [wrap_i64 (by omega) (by omega)]; simp, rfl, by rw [wrap_i64 (by omega) (by omega)]; simp⟩
            have e : name.length - from_ = (name.length - (from_ + 1)) + 1 := by omega
            rw [e, Nat.add_mul]
            omega
    · have ha' : ¬ at_ < l.length := ha
      simp [ha, h0, h5, encL_length]
      have hst : Stuck l name at_ k := ⟨_, hc, .inl (List.getElem?_eq_none (by omega))⟩
      cases back with
      | none =>
        simp [h7, hfit.no hst]
      | some b =>
        have hb := (hfit.f1 b rfl).1
        have h7' : f 7 = .int .i64 (b : Int) := h7
        simp [h0, h1, h7', h8]
        refine ⟨_, ?_, b + 1, from_ + 1, some b, from_ + 1, rfl, hfit.back hst, by rw [wrap_i64 (by omega) (by omega)]; simp, by rw [wrap_i64 (by omega) (by omega)]; simp, rfl, by rw [wrap_i64 (by omega) (by omega)]; simp⟩
        have e : name.length - from_ = (name.length - (from_ + 1)) + 1 := by omega
        rw [e, Nat.add_mul]
        omega
  · have ek : k = name.length := by omega
    subst ek
    have hd := hfit.done
    clear hfit h7 h6 h8
    simp
    refine lp_start (fun n f σ => ∃ i : Nat, n = l.length - i ∧ i ≤ l.length ∧ f 0 = .lst (encL l) ∧ f 5 = .int .i64 i ∧ mt l name = mt (l.drop i) [] ∧ σ = []) (l.length - at_) ⟨at_, by simp [h0, h5, hat, hd]⟩ ?_
    clear h0 h1 h5
    rintro n f σ ⟨i, rfl, hi, h0, h5, hmt, rfl⟩
    simp [h0, h5, encL_length]
    by_cases ha : i < l.length
    · obtain ⟨p, hp⟩ : ∃ p, l[i]? = some p := ⟨_, List.getElem?_eq_getElem ha⟩
      have hge := encL_get hp
      obtain ⟨hx, hga⟩ := List.getElem?_eq_some_iff.1 hge
      rw [drop_cons hp] at hmt
      by_cases hs : p.kind = 2
      · have hps := kind2.1 hs
        subst hps
        simp [ha, h0, h5, hge, encL_length, hga, Pc.enc, hs]
        refine ⟨_, ?_, i + 1, rfl, by omega, by rw [wrap_i64 (by omega) (by omega)]; simp, ?_⟩
        · omega
        · rw [hmt, mt_star]; simp
      · have hps : p ≠ .star := fun h => hs (kind2.2 h)
        have hs : ¬ ((p.kind : Int) = 2) := by omega
        simp [ha, h0, h5, hge, encL_length, hga, Pc.enc, hs]
        rw [hmt, mt_other_nil hps]
        simp
        omega
    · have e : l.drop i = [] := List.drop_eq_nil_of_le (by omega)
      rw [e] at hmt
      simp [ha, h0, h5, encL_length]
      rw [hmt]
      simp [mt_nil]
      omega
end Go.Proofs.YtkclehdmdnfikaaDoor
