/- Points as lines: Words, Parse, Print, Stamp; the document's Right. -/
import Derived.Test.YtddpegkbmdcgbaaGreatDoorLnA
set_option linter.unusedSimpArgs false
set_option linter.unusedVariables false
set_option linter.constructorNameAsVariable false
set_option maxHeartbeats 4000000
namespace Go.Proofs.YtddpegkbmdcgbaaGreatDoor
open Go.Abs Go.Glob Go.Line Go.Dec
variable {G : Globs}

theorem cutCR_len (s : List UInt8) : (cutCR s).length ≤ s.length := by
  unfold cutCR; split <;> simp
theorem lwords_ok (s : List UInt8) (hs : s.length ≤ 4294967296) : PCalls Tryz.prog n_line_Words [.str s] (fun r => r = .lst (txtW (words s))) := by
  refine pcalls_of_awp hmix c_line_Words rfl ?_
  simp [a_line_Words]
  refine ac_same (trimSuffix_ok s (by omega)) (by simp) ?_
  rintro r rfl
  simp
  have := cutCR_len s
  refine ac_same (fieldsFunc_ok (cutCR s) (by omega)) (by simp) ?_
  rintro r rfl
  simp [words]
theorem lstamp_ok [GDec] (s : List UInt8) (hs : s.length ≤ 9223372036854775807) : PCalls Tryz.prog n_line_stamp [.str s] (fun r => r = wholeAV (stamp s)) := by
  refine pcalls_of_awp hmix c_line_stamp rfl ?_
  simp [a_line_stamp]
  by_cases h : s = [45, 49]
  · subst h; simp [stamp, wholeAV]
  · simp [h]
    refine ac_same (dWhole_ok s hs) (by simp) ?_
    rintro r rfl
    have e : stamp s = whole s := by simp [stamp, h]
    rw [e]
    cases whole s <;> simp [wholeAV]
def sampAV (p : List UInt8) (v t : Int) : AV := .agg [.str p, .int .i64 v, .int .i64 t]
def lparseAV : Except Nat (List UInt8 × Int × Int) → AV
  | .ok x => .tup [sampAV x.1 x.2.1 x.2.2, .int .i64 0]
  | .error e => .tup [sampAV [] 0 0, .int .i64 e]
theorem flds_len : ∀ (s cur : List UInt8), ∀ w ∈ flds cur s, w.length ≤ cur.length + s.length
  | [], cur, w, h => by
    rw [flds] at h
    split at h
    · cases h
    · simp only [List.mem_singleton] at h; subst h; simp
  | c :: s, cur, w, h => by
    by_cases hc : gapB c = true
    · rw [flds_gap hc] at h
      rcases List.mem_append.1 h with h | h
      · split at h
        · cases h
        · simp only [List.mem_singleton] at h; subst h; simp
      · have := flds_len s [] w h
        simp at this ⊢; omega
    · rw [flds, if_neg hc] at h
      have := flds_len s _ w h
      simp at this ⊢; omega
theorem stamp_err {s : List UInt8} {e : Nat} (h : stamp s = .error e) : e ≠ 0 := by
  unfold stamp at h
  split at h
  · cases h
  · unfold whole at h
    split at h
    · cases h; decide
    split at h
    · cases h; decide
    split at h
    · cases h; decide
    · cases h
theorem lparse_ok [GDec] (s : List UInt8) (hs : s.length ≤ 9223372036854775807) : PCalls Tryz.prog n_line_Parse [.str s] (fun r => r = lparseAV (lparse s)) := by
  refine pcalls_of_awp hmix c_line_Parse rfl ?_
  simp [a_line_Parse]
  by_cases h2 : 200 < s.length
  · have h2' : (200 : Int) < (s.length : Int) := by omega
    simp [h2, h2', lparse, lparseAV, sampAV]
  have h2' : ¬ (200 : Int) < (s.length : Int) := by omega
  simp [h2, h2']
  have hlp : lparse s = lp3 (words s) := by rw [lparse, if_neg h2]
  rw [hlp]
  refine ac_same (lwords_ok s (by omega)) (by simp) ?_
  rintro r rfl
  have hcl := cutCR_len s
  have hwl : ∀ w ∈ words s, w.length ≤ 200 := fun w hw => by
    have := flds_len _ _ w hw
    simp at this; omega
  generalize words s = ws at hwl
  match ws, hwl with
  | [], _ => simp [txtW, lp3, lparseAV, sampAV]
  | [a], _ => simp [txtW, lp3, lparseAV, sampAV]
  | [a, b], _ => simp [txtW, lp3, lparseAV, sampAV]
  | a :: b :: c :: d :: ws, _ =>
    have hn : ¬ ((ws.length : Int) + 1 + 1 + 1 + 1 = 3) := by omega
    simp [txtW, lp3, lparseAV, sampAV, hn]
  | [a, b, c], hwl =>
    have ha := hwl a (by simp)
    have hb := hwl b (by simp)
    have hc := hwl c (by simp)
    simp [txtW]
    refine ac_same (right_ok a (by omega)) (by simp) ?_
    rintro r rfl
    cases hp : (Trail.path a).isSome with
    | false => simp [lp3, hp, lparseAV, sampAV]
    | true =>
    simp
    refine ac_same (dParse_ok b (by omega)) (by simp) ?_
    rintro r rfl
    cases hb : Dec.parse b with
    | error e =>
      have he := parse_err hb
      have he' : ¬ ((e : Int) = 0) := by omega
      simp [numAV, lp3, hp, hb, he, he', lparseAV, sampAV]
    | ok v =>
    simp [numAV]
    refine ac_same (lstamp_ok c (by omega)) (by simp) ?_
    rintro r rfl
    cases hc : stamp c with
    | error e =>
      have he := stamp_err hc
      have he' : ¬ ((e : Int) = 0) := by omega
      simp [wholeAV, lp3, hp, hb, hc, he, he', lparseAV, sampAV]
    | ok t => simp [wholeAV, lp3, hp, hb, hc, lparseAV, sampAV]
theorem lright_ok (p : List UInt8) (v t : Int) (hp : p.length ≤ 1000000000) : PCalls Tryz.prog n_line_right [sampAV p v t] (fun r => r = .bool (sampR p v t)) := by
  refine pcalls_of_awp hmix c_line_right rfl ?_
  simp [a_line_right, sampAV]
  by_cases h1 : v = -9223372036854775808
  · simp [h1, sampR]
  by_cases h2' : t < -1
  · have h2 : ¬ -1 ≤ t := by omega
    simp [h1, h2, sampR]
  have h2 : -1 ≤ t := by omega
  by_cases h3' : 1099511627776 < t
  · have h3 : ¬ t ≤ 1099511627776 := by omega
    simp [h1, h2, h3, sampR]
  have h3 : t ≤ 1099511627776 := by omega
  simp [h1, h2, h3]
  refine ac_same (right_ok p hp) (by simp) ?_
  rintro r rfl
  simp [sampR, h1, h2, h3]
def lprintAV (p : List UInt8) (v t : Int) : AV := if sampR p v t then .tup [.str (lprint p v t), .int .i64 0] else .tup [.str [], .int .i64 1]
theorem itoa_len {t : Int} (h1 : -1 ≤ t) (h2 : t ≤ 1099511627776) : (Lib.itoa t).length ≤ 20 := by
  by_cases ht : t = -1
  · subst ht; rw [itoa_m1]; simp
  · obtain ⟨n, rfl⟩ : ∃ n : Nat, t = n := ⟨t.toNat, by omega⟩
    rw [itoa_nat]
    exact decDigits_le n (by omega)
theorem lprint_ok [GDec] (p : List UInt8) (v t : Int) (hp : p.length ≤ 1000000000) (hv0 : -9223372036854775808 ≤ v) (hv1 : v ≤ 9223372036854775807) : PCalls Tryz.prog n_line_Print [sampAV p v t] (fun r => r = lprintAV p v t) := by
  refine pcalls_of_awp hmix c_line_Print rfl ?_
  simp [a_line_Print, sampAV]
  refine ac_same (lright_ok p v t hp) (by simp [sampAV]) ?_
  rintro r rfl
  cases hr : sampR p v t with
  | false => simp [lprintAV, hr]
  | true =>
  obtain ⟨h1, h2, h3, h4⟩ := sampR_iff.1 hr
  have hpl : (prn false v).length ≤ 21 := prn_len h1 (by omega)
  have hil := itoa_len h2 h3
  have q1 : p.length ≤ 9223372036854775806 := by omega
  simp [q1]
  refine qc_same (dPrint_ok false v hv0 hv1) (by simp) (by simp) ?_
  have q2 : p.length + ((prn false v).length + 1) ≤ 9223372036854775807 := by omega
  have q2' : p.length + 1 + (prn false v).length ≤ 9223372036854775807 := by omega
  have q3 : p.length + ((prn false v).length + (1 + 1)) ≤ 9223372036854775807 := by omega
  have q3' : p.length + ((prn false v).length + 1) + 1 ≤ 9223372036854775807 := by omega
  have q3'' : p.length + ((prn false v).length + 1) ≤ 9223372036854775806 := by omega
  simp [q1, q2, q2', q3, q3', q3'']
  refine qc_same (itoa_ok t (by omega) (by omega)) (by simp) (by simp) ?_
  have q4 : p.length + ((prn false v).length + (1 + 1)) + (Lib.itoa t).length ≤ 9223372036854775807 := by omega
  have q5 : p.length + ((prn false v).length + 1 + 1) + (Lib.itoa t).length ≤ 9223372036854775807 := by omega
  have q6 : p.length + ((prn false v).length + 1 + 1 + (Lib.itoa t).length) ≤ 9223372036854775807 := by omega
  simp [q4, q5, q6, lprintAV, hr, lprint]
theorem lstampS_ok (p : List UInt8) (v t n : Int) : PCalls Tryz.prog n_line_Stamp [sampAV p v t, .int .i64 n] (fun r => r = sampAV p v (if t = -1 then n else t)) := by
  refine pcalls_of_awp hmix c_line_Stamp rfl ?_
  simp [a_line_Stamp, sampAV]
  by_cases h : t = -1
  · simp [h]
  · simp [h]
end Go.Proofs.YtddpegkbmdcgbaaGreatDoor
