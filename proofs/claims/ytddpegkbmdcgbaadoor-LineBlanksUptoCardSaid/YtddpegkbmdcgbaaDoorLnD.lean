/- Points as lines: alive; the laws of what is printed and parsed again, and of times that are not told. -/
import Derived.Test.YtddpegkbmdcgbaaDoorLnC
set_option linter.unusedSimpArgs false
set_option linter.unusedVariables false
set_option linter.constructorNameAsVariable false
set_option maxHeartbeats 4000000
namespace Go.Proofs.YtddpegkbmdcgbaaDoor
open Go.Abs Go.Glob Go.Line Go.Dec Go.Trail
variable {G : Globs}

theorem alive_lp1 : lparse [97, 46, 98, 32, 49, 46, 53, 32, 54, 48] = .ok ([97, 46, 98], 1500000, 60) := by rfl
theorem alive_lp2 : lparse [97, 46, 46, 98, 32, 49, 32, 54, 48] = .error 13 := by rfl
theorem alive_pr : sampR [97, 46, 98] 1500000 60 = true ∧ lprint [97, 46, 98] 1500000 60 = [97, 46, 98, 32, 49, 46, 53, 32, 54, 48] := by decide +kernel
theorem lalive_ok [GDec] : PCalls Tryd.prog n_isobarlaw18_alive [] (fun r => r = .bool true) := by
  refine pcalls_of_awp hmix c_isobarlaw18_alive rfl ?_
  simp [a_isobarlaw18_alive]
  refine ac_same (lparse_ok _ (by simp)) (by simp) ?_
  rintro r rfl
  rw [alive_lp1]
  simp [lparseAV, sampAV]
  refine ac_same (lparse_ok _ (by simp)) (by simp) ?_
  rintro r rfl
  rw [alive_lp2]
  simp [lparseAV, sampAV]
  refine ac_same (lprint_ok [97, 46, 98] 1500000 60 (by simp) (by omega) (by omega)) (by simp [sampAV]) ?_
  rintro r rfl
  rw [lprintAV, alive_pr.1, alive_pr.2]
  simp

theorem back_plain {p : List UInt8} {v t : Int} (h : sampR p v t = true) (hv : v.natAbs ≤ 9223372036854775807) : (200 < (lprint p v t).length ∧ lparse (lprint p v t) = .error 12) ∨ (¬ 200 < (lprint p v t).length ∧ lparse (lprint p v t) = .ok (p, v, t)) := by
  have := lparse_print h hv
  by_cases hl : 200 < (lprint p v t).length
  · rw [if_pos hl] at this; exact .inl ⟨hl, this⟩
  · rw [if_neg hl] at this; exact .inr ⟨hl, this⟩
theorem lprint_len {p : List UInt8} {v t : Int} (h : sampR p v t = true) (hv : v.natAbs ≤ 9223372036854775807) (hp : p.length ≤ 1000000000) : (lprint p v t).length ≤ 1000000100 := by
  obtain ⟨h1, h2, h3, h4⟩ := sampR_iff.1 h
  have hpl : (prn false v).length ≤ 21 := prn_len h1 hv
  have hil := itoa_len h2 h3
  simp [lprint]; omega
theorem lback_law [GDec] (p : List UInt8) (v t : Int) (s : List UInt8) (hp : p.length ≤ 9223372036854775807) (hv0 : -9223372036854775808 ≤ v) (hv1 : v ≤ 9223372036854775807) (hs : s.length ≤ 9223372036854775807) :
    PCalls Tryd.prog n_isobarlaw18_LineBack [sampAV p v t, .str s] (fun r => r = .bool true) := by
  refine pcalls_of_awp hmix c_isobarlaw18_LineBack rfl ?_
  simp [a_isobarlaw18_LineBack, sampAV]
  refine ac_same lalive_ok (by simp) ?_
  rintro r rfl
  simp
  by_cases h1 : 2000 < p.length
  · have h1' : (2000 : Int) < (p.length : Int) := by omega
    simp [h1, h1']
  have h1' : ¬ (2000 : Int) < (p.length : Int) := by omega
  by_cases h2 : 2000 < s.length
  · have h2' : (2000 : Int) < (s.length : Int) := by omega
    simp [h1, h1', h2, h2']
  have h2' : ¬ (2000 : Int) < (s.length : Int) := by omega
  simp [h1, h1', h2, h2']
  refine ac_same (lparse_ok s hs) (by simp) ?_
  rintro r rfl
  cases hP : lparse s with
  | error e =>
    have he := lparse_err hP
    have he' : ¬ ((e : Int) = 0) := by omega
    simp [lparseAV, sampAV, he, he']
    refine ac_same (lprint_ok p v t (by omega) hv0 hv1) (by simp [sampAV]) ?_
    rintro r rfl
    cases hR : sampR p v t with
    | false =>
      simp [lprintAV, hR]
      refine ac_same (rsRight_ok p v t (by omega)) (by simp [sampAV]) ?_
      rintro r rfl
      simp [hR]
    | true =>
    have hvR := (sampR_iff.1 hR).1
    have hvn : v.natAbs ≤ 9223372036854775807 := by omega
    have hlR := lprint_len hR hvn (by omega)
    simp [lprintAV, hR]
    refine ac_same (lparse_ok (lprint p v t) (by omega)) (by simp) ?_
    rintro r rfl
    rcases back_plain hR hvn with ⟨g1, g2⟩ | ⟨g1, g2⟩
    · have g1' : (200 : Int) < ((lprint p v t).length : Int) := by omega
      rw [g2]
      simp [lparseAV, sampAV, g1, g1']
    · have g1' : ¬ (200 : Int) < ((lprint p v t).length : Int) := by omega
      rw [g2]
      simp [lparseAV, sampAV, g1, g1']
  | ok x =>
  obtain ⟨a, b, c⟩ := x
  obtain ⟨_, hsl, hX, hXn⟩ := lparse_right hP
  have hal : a.length ≤ 200 := by
    obtain ⟨⟨y, z, hw⟩, _⟩ := lparse_right hP
    have := flds_len (cutCR s) [] a (by rw [← show words s = flds [] (cutCR s) from rfl, hw]; simp)
    have h2 := cutCR_len s
    simp at this; omega
  have hlX := lprint_len hX hXn (by omega)
  simp [lparseAV, sampAV]
  refine ac_same (lprint_ok a b c (by omega) (by omega) (by omega)) (by simp [sampAV]) ?_
  rintro r rfl
  simp [lprintAV, hX]
  refine ac_same (rsRight_ok a b c (by omega)) (by simp [sampAV]) ?_
  rintro r rfl
  simp [hX]
  refine ac_same (lparse_ok (lprint a b c) (by omega)) (by simp) ?_
  rintro r rfl
  rcases back_plain hX hXn with ⟨b1, b2⟩ | ⟨b1, b2⟩
  · have b1' : (200 : Int) < ((lprint a b c).length : Int) := by omega
    have b3 : ¬ ((lprint a b c).length : Int) ≤ 200 := by omega
    have b3' : ¬ (lprint a b c).length ≤ 200 := by omega
    rw [b2]
    simp [lparseAV, sampAV, b1, b1', b3, b3']
    refine ac_same (lprint_ok p v t (by omega) hv0 hv1) (by simp [sampAV]) ?_
    rintro r rfl
    cases hR : sampR p v t with
    | false =>
      simp [lprintAV, hR]
      refine ac_same (rsRight_ok p v t (by omega)) (by simp [sampAV]) ?_
      rintro r rfl
      simp [hR]
    | true =>
    have hvR := (sampR_iff.1 hR).1
    have hvn : v.natAbs ≤ 9223372036854775807 := by omega
    have hlR := lprint_len hR hvn (by omega)
    simp [lprintAV, hR]
    refine ac_same (lparse_ok (lprint p v t) (by omega)) (by simp) ?_
    rintro r rfl
    rcases back_plain hR hvn with ⟨g1, g2⟩ | ⟨g1, g2⟩
    · have g1' : (200 : Int) < ((lprint p v t).length : Int) := by omega
      rw [g2]
      simp [lparseAV, sampAV, g1, g1']
    · have g1' : ¬ (200 : Int) < ((lprint p v t).length : Int) := by omega
      rw [g2]
      simp [lparseAV, sampAV, g1, g1']
  · have b1' : ¬ (200 : Int) < ((lprint a b c).length : Int) := by omega
    have b3 : ((lprint a b c).length : Int) ≤ 200 := by omega
    have b3' : (lprint a b c).length ≤ 200 := by omega
    rw [b2]
    simp [lparseAV, sampAV, b1, b1', b3, b3']
    refine ac_same (lprint_ok p v t (by omega) hv0 hv1) (by simp [sampAV]) ?_
    rintro r rfl
    cases hR : sampR p v t with
    | false =>
      simp [lprintAV, hR]
      refine ac_same (rsRight_ok p v t (by omega)) (by simp [sampAV]) ?_
      rintro r rfl
      simp [hR]
    | true =>
    have hvR := (sampR_iff.1 hR).1
    have hvn : v.natAbs ≤ 9223372036854775807 := by omega
    have hlR := lprint_len hR hvn (by omega)
    simp [lprintAV, hR]
    refine ac_same (lparse_ok (lprint p v t) (by omega)) (by simp) ?_
    rintro r rfl
    rcases back_plain hR hvn with ⟨g1, g2⟩ | ⟨g1, g2⟩
    · have g1' : (200 : Int) < ((lprint p v t).length : Int) := by omega
      rw [g2]
      simp [lparseAV, sampAV, g1, g1']
    · have g1' : ¬ (200 : Int) < ((lprint p v t).length : Int) := by omega
      rw [g2]
      simp [lparseAV, sampAV, g1, g1']
theorem now_law [GDec] (p : List UInt8) (v n : Int) (hp : p.length ≤ 9223372036854775807) (hv0 : -9223372036854775808 ≤ v) (hv1 : v ≤ 9223372036854775807) :
    PCalls Tryd.prog n_isobarlaw18_LineNow [.str p, .int .i64 v, .int .i64 n] (fun r => r = .bool true) := by
  refine pcalls_of_awp hmix c_isobarlaw18_LineNow rfl ?_
  simp [a_isobarlaw18_LineNow]
  refine ac_same lalive_ok (by simp) ?_
  rintro r rfl
  simp
  by_cases h1 : 1000 < p.length
  · have h1' : (1000 : Int) < (p.length : Int) := by omega
    simp [h1, h1']
  have h1' : ¬ (1000 : Int) < (p.length : Int) := by omega
  simp [h1, h1']
  refine ac_same (lprint_ok p v (-1) (by omega) hv0 hv1) (by simp [sampAV]) ?_
  rintro r rfl
  cases hA : sampR p v (-1) with
  | false =>
    simp [lprintAV, hA]
    refine ac_same (lprint_ok p v n (by omega) hv0 hv1) (by simp [sampAV]) ?_
    rintro r rfl
    cases hB : sampR p v n <;> simp [lprintAV, hB]
  | true =>
  simp [lprintAV, hA]
  refine ac_same (lprint_ok p v n (by omega) hv0 hv1) (by simp [sampAV]) ?_
  rintro r rfl
  cases hB : sampR p v n with
  | false => simp [lprintAV, hB]
  | true =>
  have hvA := (sampR_iff.1 hA).1
  have hvn : v.natAbs ≤ 9223372036854775807 := by omega
  have hlA := lprint_len hA hvn (by omega)
  have hlB := lprint_len hB hvn (by omega)
  simp [lprintAV, hB]
  refine ac_same (lparse_ok (lprint p v (-1)) (by omega)) (by simp) ?_
  rintro r rfl
  rcases back_plain hA hvn with ⟨a1, a2⟩ | ⟨a1, a2⟩
  · rw [a2]
    simp [lparseAV, sampAV]
    refine ac_same (lparse_ok (lprint p v n) (by omega)) (by simp) ?_
    rintro r rfl
    rcases back_plain hB hvn with ⟨b1, b2⟩ | ⟨b1, b2⟩ <;> (rw [b2]; simp [lparseAV, sampAV])
  · rw [a2]
    simp [lparseAV, sampAV]
    refine ac_same (lparse_ok (lprint p v n) (by omega)) (by simp) ?_
    rintro r rfl
    rcases back_plain hB hvn with ⟨b1, b2⟩ | ⟨b1, b2⟩
    · rw [b2]; simp [lparseAV, sampAV]
    · rw [b2]
      simp [lparseAV, sampAV]
      refine qc_same (lstampS_ok p v (-1) n) (by simp [sampAV]) (by simp [sampAV, rig]) ?_
      simp [sampAV]
      refine qc_same (lstampS_ok p v n n) (by simp [sampAV]) (by simp [sampAV, rig]) ?_
      have e : (if n = -1 then n else n) = n := by split <;> rfl
      simp [sampAV, e]
end Go.Proofs.YtddpegkbmdcgbaaDoor
