/- Points as lines: what is printed is parsed as it was; blanks change nothing. -/
import Derived.Test.YtddpegkbmdcgbaaGreatDoorLnSpec
import Derived.Test.YtddpegkbmdcgbaaGreatDoorDcJ
set_option linter.unusedSimpArgs false
set_option linter.unusedVariables false
namespace Go.Line
open Go.Glob Go.Dec

theorem sp_bytes : ∀ (s : List UInt8), (∀ q ∈ Trail.sp s, q.all nb = true) → ∀ c ∈ s, nb c = true ∨ c = 46
  | [], _, c, hc => by cases hc
  | d :: s, h, c, hc => by
    by_cases hd : d = 46
    · subst hd
      rw [Trail.sp, if_pos rfl] at h
      rcases List.mem_cons.1 hc with rfl | hc
      · exact .inr rfl
      · exact sp_bytes s (fun q hq => h q (by simp [hq])) c hc
    · obtain ⟨p, ps, h1, h2⟩ := Trail.sp_cons hd s
      rw [h2] at h
      have hp := h (d :: p) (by simp)
      rw [List.all_cons, Bool.and_eq_true] at hp
      rcases List.mem_cons.1 hc with rfl | hc
      · exact .inl hp.1
      · refine sp_bytes s (fun q hq => ?_) c hc
        rw [h1] at hq
        rcases List.mem_cons.1 hq with rfl | hq
        · exact hp.2
        · exact h q (by simp [hq])
theorem path_bytes {p : List UInt8} (h : (Trail.path p).isSome = true) : p ≠ [] ∧ ∀ c ∈ p, nb c = true ∨ c = 46 := by
  unfold Trail.path at h
  split at h
  · rename_i hc
    have hall : ∀ q ∈ Trail.sp p, q.all nb = true := fun q hq => by
      have := List.all_eq_true.1 hc.2 q hq
      unfold Trail.nameB at this
      simp only [Bool.and_eq_true] at this
      exact this.2.1
    refine ⟨?_, sp_bytes p hall⟩
    rintro rfl
    have := List.all_eq_true.1 hc.2 [] (by simp [Trail.sp])
    exact absurd this (by decide)
  · cases h
theorem gap_nb {c : UInt8} (h : nb c = true ∨ c = 46) : gapB c = false := by
  cases hg : gapB c with
  | false => rfl
  | true =>
    simp only [gapB, Bool.or_eq_true, beq_iff_eq] at hg
    rcases hg with rfl | rfl <;> (rcases h with h | h <;> exact absurd h (by decide))
/-- A digit, a sign, or a point. -/
def numB (c : UInt8) : Prop := isD c = true ∨ c = 45 ∨ c = 46
theorem numB_gap {c : UInt8} (h : numB c) : gapB c = false := by
  cases hg : gapB c with
  | false => rfl
  | true =>
    simp only [gapB, Bool.or_eq_true, beq_iff_eq] at hg
    rcases hg with rfl | rfl <;> (rcases h with h | h | h <;> exact absurd h (by decide))
theorem numB_cr {c : UInt8} (h : numB c) : c ≠ 13 := by
  rintro rfl
  rcases h with h | h | h <;> exact absurd h (by decide)
theorem dd_num (n : Nat) : ∀ c ∈ Lib.decDigits n, numB c := fun c hc => .inl (List.all_eq_true.1 (dd_all n).1 c hc)
theorem prn_num {v : Int} (h0 : v ≠ -9223372036854775808) : ∀ c ∈ prn false v, numB c := by
  intro c hc
  rw [prn_eq h0] at hc
  rcases List.mem_append.1 hc with hc | hc
  · split at hc
    · simp only [List.mem_singleton] at hc; exact .inr (.inl hc)
    · cases hc
  · rcases List.mem_append.1 hc with hc | hc
    · exact dd_num _ c hc
    · unfold frac at hc
      split at hc
      · cases hc
      · rcases List.mem_cons.1 hc with rfl | hc
        · exact .inr (.inr rfl)
        · exact .inl (List.all_eq_true.1 (fr_all 6 _ (Nat.mod_lt _ (by decide))) c hc)
theorem itoa_m1 : Lib.itoa (-1) = [45, 49] := by decide +kernel
theorem itoa_num {t : Int} (h : -1 ≤ t) : Lib.itoa t ≠ [] ∧ ∀ c ∈ Lib.itoa t, numB c := by
  by_cases ht : t = -1
  · subst ht
    rw [itoa_m1]
    refine ⟨by simp, fun c hc => ?_⟩
    simp only [List.mem_cons, List.not_mem_nil, or_false] at hc
    rcases hc with rfl | rfl
    · exact .inr (.inl rfl)
    · exact .inl (by decide)
  · obtain ⟨n, rfl⟩ : ∃ n : Nat, t = n := ⟨t.toNat, by omega⟩
    rw [Go.Proofs.YtddpegkbmdcgbaaGreatDoor.itoa_nat]
    exact ⟨dd_ne n, dd_num n⟩
theorem stamp_itoa {t : Int} (h : -1 ≤ t) (h2 : t ≤ 1099511627776) : stamp (Lib.itoa t) = .ok t := by
  by_cases ht : t = -1
  · subst ht; rw [itoa_m1]; rfl
  · obtain ⟨n, rfl⟩ : ∃ n : Nat, t = n := ⟨t.toNat, by omega⟩
    rw [Go.Proofs.YtddpegkbmdcgbaaGreatDoor.itoa_nat]
    have hall := (dd_all n).1
    have hne : Lib.decDigits n ≠ [45, 49] := by
      intro e; rw [e] at hall; exact absurd hall (by decide)
    unfold stamp
    rw [if_neg hne]
    unfold whole
    have hl : (Lib.decDigits n).length ≤ 20 := Go.Proofs.YtddpegkbmdcgbaaGreatDoor.decDigits_le n (by omega)
    have hd := (dd_all n).2
    rw [if_neg (by omega), if_neg (by simp [dd_ne n, hall]), hd, if_neg (by omega)]
theorem cutCR_end {s : List UInt8} {c : UInt8} (h : c ≠ 13) : cutCR (s ++ [c]) = s ++ [c] := by
  unfold cutCR
  rw [if_neg (by simp [h])]
theorem cutCR_app {s w : List UInt8} (hw : w ≠ []) (h : ∀ c ∈ w, c ≠ 13) : cutCR (s ++ w) = s ++ w := by
  obtain ⟨v, c, rfl⟩ : ∃ v c, w = v ++ [c] := ⟨w.dropLast, w.getLast hw, (List.dropLast_concat_getLast hw).symm⟩
  rw [← List.append_assoc]
  exact cutCR_end (h c (by simp))
theorem sampR_iff {p : List UInt8} {v t : Int} : sampR p v t = true ↔ v ≠ -9223372036854775808 ∧ -1 ≤ t ∧ t ≤ 1099511627776 ∧ (Trail.path p).isSome = true := by
  simp [sampR, and_assoc]
theorem words_print {p : List UInt8} {v t : Int} (h : sampR p v t = true) : words (lprint p v t) = [p, prn false v, Lib.itoa t] := by
  obtain ⟨h1, h2, h3, h4⟩ := sampR_iff.1 h
  obtain ⟨p1, p2⟩ := path_bytes h4
  obtain ⟨t1, t2⟩ := itoa_num h2
  have e : lprint p v t = p ++ ([32] ++ (prn false v ++ ([32] ++ Lib.itoa t))) := by simp [lprint]
  have hv : prn false v ≠ [] := by have := prn_pos v; intro e; rw [e] at this; simp at this
  have hg : ∀ c ∈ ([32] : List UInt8), gapB c = true := by simp [gapB]
  unfold words
  rw [e, ← List.append_assoc, ← List.append_assoc, ← List.append_assoc, cutCR_app t1 fun c hc => numB_cr (t2 c hc)]
  simp only [List.append_assoc]
  rw [flds_word p1 (fun c hc => gap_nb (p2 c hc)) (by simp) hg, flds_word hv (fun c hc => numB_gap (prn_num h1 c hc)) (by simp) hg, flds_last t1 fun c hc => numB_gap (t2 c hc)]
theorem lparse_print {p : List UInt8} {v t : Int} (h : sampR p v t = true) (hv : v.natAbs ≤ 9223372036854775807) : lparse (lprint p v t) = if 200 < (lprint p v t).length then .error 12 else .ok (p, v, t) := by
  obtain ⟨h1, h2, h3, h4⟩ := sampR_iff.1 h
  unfold lparse
  rw [words_print h]
  simp only [lp3, h4, if_true, parse_prn h1 hv, stamp_itoa h2 h3]
theorem lp3_right {ws : List (List UInt8)} {p : List UInt8} {v t : Int} (h : lp3 ws = .ok (p, v, t)) : ∃ b c, ws = [p, b, c] ∧ sampR p v t = true ∧ v.natAbs ≤ 9223372036854775807 := by
  unfold lp3 at h
  split at h
  · rename_i a b c
    split at h
    · rename_i hp
      cases hb : Dec.parse b with
      | error e => rw [hb] at h; cases h
      | ok v' =>
        rw [hb] at h
        simp only at h
        cases hc : stamp c with
        | error e => rw [hc] at h; cases h
        | ok t' =>
          rw [hc] at h
          cases h
          obtain ⟨v1, v2⟩ := parse_bound hb
          have ht : -1 ≤ t ∧ t ≤ 1099511627776 := by
            unfold stamp at hc
            split at hc
            · cases hc; omega
            · unfold whole at hc
              split at hc
              · cases hc
              split at hc
              · cases hc
              split at hc
              · cases hc
              · cases hc; omega
          exact ⟨b, c, rfl, sampR_iff.2 ⟨v1, ht.1, ht.2, hp⟩, v2⟩
    · cases h
  · cases h
theorem lparse_right {s p : List UInt8} {v t : Int} (h : lparse s = .ok (p, v, t)) : (∃ b c, words s = [p, b, c]) ∧ s.length ≤ 200 ∧ sampR p v t = true ∧ v.natAbs ≤ 9223372036854775807 := by
  unfold lparse at h
  split at h
  · cases h
  · obtain ⟨b, c, h1, h2, h3⟩ := lp3_right h
    exact ⟨⟨b, c, h1⟩, by omega, h2, h3⟩
theorem lp3_err {ws : List (List UInt8)} {e : Nat} (h : lp3 ws = .error e) : e ≠ 0 := by
  unfold lp3 at h
  split at h
  · rename_i a b c
    split at h
    · cases hb : Dec.parse b with
      | error e' => rw [hb] at h; cases h; exact parse_err hb
      | ok v' =>
        rw [hb] at h
        simp only at h
        cases hc : stamp c with
        | error e' =>
          rw [hc] at h; cases h
          unfold stamp at hc
          split at hc
          · cases hc
          · unfold whole at hc
            split at hc
            · cases hc; decide
            split at hc
            · cases hc; decide
            split at hc
            · cases hc; decide
            · cases hc
        | ok t' => rw [hc] at h; cases h
    · cases h; decide
  · cases h; decide
theorem lparse_err {s : List UInt8} {e : Nat} (h : lparse s = .error e) : e ≠ 0 := by
  unfold lparse at h
  split at h
  · cases h; decide
  · exact lp3_err h
/-- With other gaps the words are the same. -/
theorem words_wide {a b c g0 g1 g2 g3 : List UInt8} (h : ∀ w ∈ [a, b, c], w ≠ [] ∧ ∀ d ∈ w, gapB d = false) (hg : ∀ g ∈ [g0, g1, g2, g3], g ≠ [] ∧ ∀ d ∈ g, gapB d = true) :
    words (g0 ++ (a ++ (g1 ++ (b ++ (g2 ++ (c ++ g3)))))) = [a, b, c] := by
  have hc : cutCR (g0 ++ (a ++ (g1 ++ (b ++ (g2 ++ (c ++ g3)))))) = g0 ++ (a ++ (g1 ++ (b ++ (g2 ++ (c ++ g3))))) := by
    have e : g0 ++ (a ++ (g1 ++ (b ++ (g2 ++ (c ++ g3))))) = (g0 ++ (a ++ (g1 ++ (b ++ (g2 ++ c))))) ++ g3 := by simp
    rw [e]
    refine cutCR_app (hg g3 (by simp)).1 fun d hd => ?_
    have := (hg g3 (by simp)).2 d hd
    rintro rfl
    exact absurd this (by decide)
  unfold words
  rw [hc, flds_gaps g0 _ (hg g0 (by simp)).2, flds_word (h a (by simp)).1 (h a (by simp)).2 (hg g1 (by simp)).1 (hg g1 (by simp)).2, flds_word (h b (by simp)).1 (h b (by simp)).2 (hg g2 (by simp)).1 (hg g2 (by simp)).2]
  have := flds_word (s := []) (h c (by simp)).1 (h c (by simp)).2 (hg g3 (by simp)).1 (hg g3 (by simp)).2
  rw [List.append_nil] at this
  rw [this]
  rfl
theorem words_mem (s : List UInt8) : ∀ w ∈ words s, w ≠ [] ∧ ∀ d ∈ w, gapB d = false := fun w hw => flds_mem _ [] (by simp) w hw
end Go.Line
