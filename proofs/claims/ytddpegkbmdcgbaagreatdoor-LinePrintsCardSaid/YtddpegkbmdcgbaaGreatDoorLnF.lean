/- Points as lines: the document's Parse, Print, Stamp; the laws of what any line says, and of what is printed. -/
import Derived.Test.YtddpegkbmdcgbaaGreatDoorLnE
set_option linter.unusedSimpArgs false
set_option linter.unusedVariables false
set_option linter.constructorNameAsVariable false
set_option maxHeartbeats 4000000
namespace Go.Proofs.YtddpegkbmdcgbaaGreatDoor
open Go.Abs Go.Glob Go.Line Go.Dec Go.Trail
variable {G : Globs}

theorem rlparse_ok (s : List UInt8) (hs : s.length ≤ 9223372036854775807) : PCalls Tryz.prog n_isobarref18_Parse [.str s] (fun r => r = lparseAV (lparse s)) := by
  refine pcalls_of_awp hmix c_isobarref18_Parse rfl ?_
  simp [a_isobarref18_Parse]
  by_cases h2 : 200 < s.length
  · have h2' : (200 : Int) < (s.length : Int) := by omega
    simp [h2, h2', lparse, lparseAV, sampAV]
  have h2' : ¬ (200 : Int) < (s.length : Int) := by omega
  simp [h2, h2']
  have hlp : lparse s = lp3 (words s) := by rw [lparse, if_neg h2]
  rw [hlp]
  refine ac_same (rwords_ok s (by omega)) (by simp) ?_
  rintro r rfl
  have hcl := cutCR_len s
  have hwl : ∀ w ∈ words s, w.length ≤ 200 := fun w hw => by
    have := flds_len _ _ w hw
    simp at this; omega
  generalize words s = ws at hwl
  match ws, hwl with
  | [], _ => simp [txtW, lp3, lparseAV, sampAV]
  | [a], _ => simp [txtW, lp3, lparseAV, sampAV]
  | [a, b], _ => simp [txtW, lp3, lparseAV, sampAV]
  | a :: b :: c :: d :: ws, _ =>
    have hn : ¬ ((ws.length : Int) + 1 + 1 + 1 + 1 = 3) := by omega
    simp [txtW, lp3, lparseAV, sampAV, hn]
  | [a, b, c], hwl =>
    have ha := hwl a (by simp)
    have hb := hwl b (by simp)
    have hc := hwl c (by simp)
    simp [txtW]
    refine ac_same (r16right_ok a (by omega)) (by simp) ?_
    rintro r rfl
    cases hp : (Trail.path a).isSome with
    | false => simp [lp3, hp, lparseAV, sampAV]
    | true =>
    simp
    refine ac_same (rParse_ok b (by omega)) (by simp) ?_
    rintro r rfl
    cases hb : Dec.parse b with
    | error e =>
      have he := parse_err hb
      have he' : ¬ ((e : Int) = 0) := by omega
      simp [numAV, lp3, hp, hb, he, he', lparseAV, sampAV]
    | ok v =>
    simp [numAV]
    by_cases hm : c = [45, 49]
    · subst hm
      simp [lp3, hp, hb, stamp, lparseAV, sampAV]
    simp [hm]
    refine ac_same (rWhole_ok c (by omega)) (by simp) ?_
    rintro r rfl
    have hst : stamp c = whole c := by simp [stamp, hm]
    cases hc : whole c with
    | error e =>
      have he := stamp_err (hst.trans hc)
      have he' : ¬ ((e : Int) = 0) := by omega
      simp [wholeAV, lp3, hp, hb, hst, hc, he, he', lparseAV, sampAV]
    | ok t => simp [wholeAV, lp3, hp, hb, hst, hc, lparseAV, sampAV]
theorem rlprint_ok (p : List UInt8) (v t : Int) (hp : p.length ≤ 1000000000) (hv0 : -9223372036854775808 ≤ v) (hv1 : v ≤ 9223372036854775807) : PCalls Tryz.prog n_isobarref18_Print [sampAV p v t] (fun r => r = lprintAV p v t) := by
  refine pcalls_of_awp hmix c_isobarref18_Print rfl ?_
  simp [a_isobarref18_Print, sampAV]
  refine ac_same (rsRight_ok p v t hp) (by simp [sampAV]) ?_
  rintro r rfl
  cases hr : sampR p v t with
  | false => simp [lprintAV, hr]
  | true =>
  obtain ⟨h1, h2, h3, h4⟩ := sampR_iff.1 hr
  have hpl : (prn false v).length ≤ 21 := prn_len h1 (by omega)
  have hil := itoa_len h2 h3
  have q1 : p.length ≤ 9223372036854775806 := by omega
  have q2 : p.length + ((prn false v).length + 1) ≤ 9223372036854775807 := by omega
  have q2' : p.length + 1 + (prn false v).length ≤ 9223372036854775807 := by omega
  have q3 : p.length + ((prn false v).length + (1 + 1)) ≤ 9223372036854775807 := by omega
  have q3' : p.length + ((prn false v).length + 1) + 1 ≤ 9223372036854775807 := by omega
  have q3'' : p.length + ((prn false v).length + 1) ≤ 9223372036854775806 := by omega
  by_cases ht : t = -1
  · subst ht
    simp [q1]
    refine qc_same (rPrint_ok false v hv0 hv1) (by simp) (by simp) ?_
    have q4 : p.length + ((prn false v).length + 1 + 1 + 2) ≤ 9223372036854775807 := by omega
    have q5 : p.length + ((prn false v).length + (1 + 1)) + 2 ≤ 9223372036854775807 := by omega
    have q6 : p.length + ((prn false v).length + 1 + 1) + 2 ≤ 9223372036854775807 := by omega
    have q7 : p.length + ((prn false v).length + 1 + 1) ≤ 9223372036854775805 := by omega
    have q8 : p.length + ((prn false v).length + (1 + 1)) ≤ 9223372036854775805 := by omega
    have q9 : p.length + ((prn false v).length + 2) ≤ 9223372036854775805 := by omega
    simp [q1, q2, q2', q3, q3', q3'', q4, q5, q6, q7, q8, q9, lprintAV, hr, lprint, itoa_m1]
  · obtain ⟨n, rfl⟩ : ∃ n : Nat, t = n := ⟨t.toNat, by omega⟩
    rw [itoa_nat] at hil
    simp [ht, wrap_u64_nat n (by omega)]
    refine ac_same (rDigits_ok n (by omega)) (by simp) ?_
    rintro r rfl
    simp [q1]
    refine qc_same (rPrint_ok false v hv0 hv1) (by simp) (by simp) ?_
    have q4 : p.length + ((prn false v).length + (1 + 1)) + (Lib.decDigits n).length ≤ 9223372036854775807 := by omega
    have q5 : p.length + ((prn false v).length + 1 + 1) + (Lib.decDigits n).length ≤ 9223372036854775807 := by omega
    have q6 : p.length + ((prn false v).length + 1 + 1 + (Lib.decDigits n).length) ≤ 9223372036854775807 := by omega
    simp [q1, q2, q2', q3, q3', q3'', q4, q5, q6, lprintAV, hr, lprint, itoa_nat]
theorem rlstamp_ok (p : List UInt8) (v t n : Int) : PCalls Tryz.prog n_isobarref18_Stamp [sampAV p v t, .int .i64 n] (fun r => r = sampAV p v (if t = -1 then n else t)) := by
  refine pcalls_of_awp hmix c_isobarref18_Stamp rfl ?_
  simp [a_isobarref18_Stamp, sampAV]
  by_cases h : t = -1
  · simp [h]
  · simp [h]
theorem alive_lq1 : lparse [97, 46, 98, 32, 49, 46, 53, 32, 54, 48] = .ok ([97, 46, 98], 1500000, 60) := by rfl
theorem alive_lq2 : lparse [97, 46, 46, 98, 32, 49, 32, 54, 48] = .error 13 := by rfl
theorem alive_pq : sampR [97, 46, 98] 1500000 60 = true ∧ lprint [97, 46, 98] 1500000 60 = [97, 46, 98, 32, 49, 46, 53, 32, 54, 48] := by decide +kernel
theorem lalive2_ok [GDec] : PCalls Tryz.prog n_isobarlaw18_alive [] (fun r => r = .bool true) := by
  refine pcalls_of_awp hmix c_isobarlaw18_alive rfl ?_
  simp [a_isobarlaw18_alive]
  refine ac_same (lparse_ok _ (by simp)) (by simp) ?_
  rintro r rfl
  rw [alive_lq1]
  simp [lparseAV, sampAV]
  refine ac_same (lparse_ok _ (by simp)) (by simp) ?_
  rintro r rfl
  rw [alive_lq2]
  simp [lparseAV, sampAV]
  refine ac_same (lprint_ok [97, 46, 98] 1500000 60 (by simp) (by omega) (by omega)) (by simp [sampAV]) ?_
  rintro r rfl
  rw [lprintAV, alive_pq.1, alive_pq.2]
  simp
theorem words_len (s : List UInt8) : (words s).length ≤ s.length + 1 := by
  have hfl : ∀ (x cur : List UInt8), (flds cur x).length ≤ x.length + 1 := by
    intro x
    induction x with
    | nil => intro cur; rw [flds]; split <;> simp
    | cons c x ih =>
      intro cur
      by_cases hc : gapB c = true
      · rw [flds_gap hc]
        have := ih []
        rw [List.length_append, List.length_cons]
        split <;> simp <;> omega
      · rw [flds, if_neg hc]
        have := ih (cur ++ [c])
        rw [List.length_cons]; omega
  have := hfl (cutCR s) []
  have h2 := cutCR_len s
  unfold words; omega
theorem lparses_law [GDec] (s : List UInt8) (hs : s.length ≤ 9223372036854775807) : PCalls Tryz.prog n_isobarlaw18_LineParses [.str s] (fun r => r = .bool true) := by
  refine pcalls_of_awp hmix c_isobarlaw18_LineParses rfl ?_
  simp [a_isobarlaw18_LineParses]
  refine ac_same lalive2_ok (by simp) ?_
  rintro r rfl
  simp
  by_cases h1 : 2000 < s.length
  · have h1' : (2000 : Int) < (s.length : Int) := by omega
    simp [h1, h1']
  have h1' : ¬ (2000 : Int) < (s.length : Int) := by omega
  simp [h1, h1']
  have hwl := words_len s
  refine ac_same (lparse_ok s hs) (by simp) ?_
  rintro r rfl
  obtain ⟨p, v, t, e, he⟩ : ∃ p v t e, lparseAV (lparse s) = .tup [.agg [.str p, .int .i64 v, .int .i64 t], .int .i64 e] := by
    cases lparse s with
    | error e => exact ⟨_, _, _, _, rfl⟩
    | ok x => exact ⟨_, _, _, _, rfl⟩
  rw [he]
  simp
  refine ac_same (rlparse_ok s hs) (by simp) ?_
  rintro r rfl
  rw [he]
  simp
  refine ac_same (lwords_ok s (by omega)) (by simp) ?_
  rintro r rfl
  simp
  refine ac_same (rwords_ok s (by omega)) (by simp) ?_
  rintro r rfl
  simp
  refine ac_same (texts_ok (words s) (words s) (by omega)) (by simp [txtW]) ?_
  rintro r rfl
  simp
theorem lprints_law [GDec] (p : List UInt8) (v t n : Int) (hp : p.length ≤ 9223372036854775807) (hv0 : -9223372036854775808 ≤ v) (hv1 : v ≤ 9223372036854775807) :
    PCalls Tryz.prog n_isobarlaw18_LinePrints [sampAV p v t, .int .i64 n] (fun r => r = .bool true) := by
  refine pcalls_of_awp hmix c_isobarlaw18_LinePrints rfl ?_
  simp [a_isobarlaw18_LinePrints, sampAV]
  refine ac_same lalive2_ok (by simp) ?_
  rintro r rfl
  simp
  by_cases h1 : 2000 < p.length
  · have h1' : (2000 : Int) < (p.length : Int) := by omega
    simp [h1, h1']
  have h1' : ¬ (2000 : Int) < (p.length : Int) := by omega
  simp [h1, h1']
  refine ac_same (lprint_ok p v t (by omega) hv0 hv1) (by simp [sampAV]) ?_
  rintro r rfl
  obtain ⟨a, e, he⟩ : ∃ a e, lprintAV p v t = .tup [.str a, .int .i64 e] := by
    unfold lprintAV
    split
    · exact ⟨_, _, rfl⟩
    · exact ⟨_, _, rfl⟩
  rw [he]
  simp
  refine ac_same (rlprint_ok p v t (by omega) hv0 hv1) (by simp [sampAV]) ?_
  rintro r rfl
  rw [he]
  simp
  refine qc_same (lstampS_ok p v t n) (by simp [sampAV]) (by simp [sampAV, rig]) ?_
  simp [sampAV]
  refine qc_same (rlstamp_ok p v t n) (by simp [sampAV]) (by simp [sampAV, rig]) ?_
  simp [sampAV]
end Go.Proofs.YtddpegkbmdcgbaaGreatDoor
