/- Numbers over time: the law of Coarser. -/
import Derived.Test.YtipncibiodfmdaaGreatDoorSeJ
set_option linter.unusedSimpArgs false
set_option linter.unusedVariables false
set_option linter.constructorNameAsVariable false
set_option maxHeartbeats 4000000
namespace Go.Ser
open Go.Num
/-- A number that counts, or nothing. -/
def gn (n : N) : Prop := good n = true ∨ n = nothing
theorem gn_right {n : N} (h : gn n) : rightN n = true := by
  rcases h with h | rfl
  · obtain ⟨h1, h2⟩ := good_iff.1 h
    simp [rightN, h1, h2]
  · rfl
theorem gn_tell (s : Int) : gn (tell s) := by
  unfold tell
  split
  · rename_i h; exact .inl (good_iff.2 ⟨rfl, h.1⟩)
  · exact .inr rfl
theorem gn_add (a b : N) : gn (addN a b) := by
  unfold addN; split
  · exact gn_tell _
  · exact .inr rfl
theorem gn_div (a b : N) : gn (divN a b) := by
  unfold divN; split
  · exact gn_tell _
  · exact .inr rfl
theorem gn_less (a b : N) : gn (lessN a b) := by
  unfold lessN; repeat' split
  all_goals first | exact .inl (by assumption) | exact .inr rfl
theorem gn_more (a b : N) : gn (moreN a b) := by
  unfold moreN; repeat' split
  all_goals first | exact .inl (by assumption) | exact .inr rfl
theorem gn_fold {op : N → N → N} (h : ∀ a b, gn (op a b)) : ∀ (l : List N) (k : N), gn k → gn (l.foldl op k)
  | [], k, hk => hk
  | n :: l, k, hk => by rw [List.foldl_cons]; exact gn_fold h l _ (h k n)
theorem gn_reckon (way : Int) (l : List N) : gn (reckon way l) := by
  have hk := known_good l
  unfold reckon
  generalize known l = K at *
  cases K with
  | nil => exact .inr rfl
  | cons k ks =>
    have hkk : gn k := .inl (hk k (by simp))
    simp only
    unfold reckonK
    repeat' split
    · exact gn_div _ _
    · exact gn_fold gn_add _ _ hkk
    · exact gn_fold gn_less _ _ hkk
    · exact gn_fold gn_more _ _ hkk
    · exact .inl (hk _ (List.getLast_mem _))
    · exact .inr rfl
theorem slots_lenP (s : Sr) (st step way : Int) (c : Nat) : (slots s st step way c).length = c := by simp [slots]
theorem slots_okP {s : Sr} (h : oksN s.vals) (start step way : Int) (c : Nat) : oksN (slots s start step way c) := fun n hn => by
  simp only [slots, List.mem_map] at hn
  obtain ⟨i, _, rfl⟩ := hn
  exact reckon_oks way (slice_ok h _ _)
theorem slots_right (s : Sr) (st step way : Int) (c : Nat) : ∀ n ∈ slots s st step way c, rightN n = true := fun n hn => by
  simp only [slots, List.mem_map] at hn
  obtain ⟨i, _, rfl⟩ := hn
  exact gn_right (gn_reckon _ _)
theorem coarser_right {s x : Sr} {step way : Int} (h : coarserS s step way = some x) (hl : s.vals.length ≤ 1999) : SrR x := by
  unfold coarserS at h
  split at h
  case isFalse => cases h
  rename_i hc
  obtain ⟨c1, c2, c3, c4, hr, hm⟩ := hc
  have hR := right_iff.1 hr
  have hp0 := hR.p0
  have hs0 := hR.s0
  have hs1 := hR.s1
  have hq0 : 0 ≤ s.start % step := Int.emod_nonneg _ (by omega)
  have hq1 : s.start % step < step := Int.emod_lt_of_pos _ (by omega)
  have hq2 : s.start % step ≤ s.start := by
    obtain ⟨a, ha⟩ := Int.eq_ofNat_of_zero_le hs0
    obtain ⟨b, hb⟩ := Int.eq_ofNat_of_zero_le (show 0 ≤ step by omega)
    rw [ha, hb, ← Int.natCast_emod]
    have := Nat.mod_le a b
    omega
  have hle : s.step ≤ step := Int.le_of_dvd (by omega) (Int.dvd_of_emod_eq_zero hm)
  simp only [Option.some.injEq] at h
  subst h
  refine ⟨hR.nm, ?_, c3, c4, by simp only; omega, by simp only; omega, ?_⟩
  · simp only
    split
    · simp
    · rw [slots_lenP]
      rcases Nat.lt_or_ge (s.vals.length + 1) (countN (s.start - s.start % step) (endS s) step) with h | h
      · exfalso
        have h1 := (count_iff (a := s.start - s.start % step) (b := endS s) (step := step) (by omega) (s.vals.length + 1)).1 h
        have h2 : ((s.vals.length + 1 : Nat) : Int) * step = s.vals.length * step + step := by push_cast; rw [Int.add_mul, Int.one_mul]
        have h3 : (s.vals.length : Int) * s.step ≤ s.vals.length * step := Int.mul_le_mul_of_nonneg_left hle (Int.natCast_nonneg _)
        have h4 : endS s = s.start + s.vals.length * s.step := by rw [endS, Int.mul_comm]
        omega
      · omega
  · simp only
    split
    · intro n hn; cases hn
    · exact slots_right _ _ _ _ _
theorem coarser_ok2 {s x : Sr} {step way : Int} (h : coarserS s step way = some x) (hl : s.vals.length ≤ 1999) (ho : oksN s.vals) : SrOk x := by
  have hR := coarser_right h hl
  have hv : oksN x.vals := by
    unfold coarserS at h
    split at h
    case isFalse => cases h
    simp only [Option.some.injEq] at h
    subst h
    simp only
    split
    · intro n hn; cases hn
    · exact slots_okP ho _ _ _ _
  have := hR.nm
  have := hR.s0
  have := hR.s1
  have := hR.p0
  have := hR.p1
  have := hR.vl
  exact ⟨by omega, by omega, by omega, by omega, by omega, by omega, hv⟩
end Go.Ser
namespace Go.Proofs.YtipncibiodfmdaaGreatDoor
open Go.Abs Go.Num Go.Ser
variable {G : Globs}
theorem copy_ok (s : Sr) (hl : s.vals.length ≤ 1000000) : PCalls Tryz.prog n_isobarref24_Copy [srA s] (fun r => r = srA s) := by
  refine pcalls_of_awp hmix c_isobarref24_Copy rfl ?_
  rw [srA_eq s]
  have hlen := numEls_len s.vals
  simp [a_isobarref24_Copy]
  refine ap_row [] (numEls s.vals) false (by simp) rfl (by decide) (numEls_two _) (fun h => by cases h) rfl ?_ ?_ ?_
  · simp [hlen]; omega
  · simp [hlen]; omega
  simp [hlen]
  have hfz := numEls_fz [Entry.var 24 [AV.str s.name, AV.int IntKind.i64 s.start, AV.int IntKind.i64 s.step, AV.row 2 s.vals.length], Entry.var 24 [AV.str s.name, AV.int IntKind.i64 s.start, AV.int IntKind.i64 s.step, AV.row 2 s.vals.length], Entry.row 33 2 (numEls s.vals) false] 0 1 s.vals
  simp [fin1, hlen, hfz]
end Go.Proofs.YtipncibiodfmdaaGreatDoor
