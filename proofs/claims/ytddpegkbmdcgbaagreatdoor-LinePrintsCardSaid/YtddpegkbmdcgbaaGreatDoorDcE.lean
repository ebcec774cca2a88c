/- Numbers as text: Whole, and the document's. -/
import Derived.Test.YtddpegkbmdcgbaaGreatDoorDcD
set_option linter.unusedSimpArgs false
set_option linter.unusedVariables false
set_option linter.constructorNameAsVariable false
set_option maxHeartbeats 2000000
namespace Go.Proofs.YtddpegkbmdcgbaaGreatDoor
open Go.Abs Go.Dec
variable {G : Globs}
def wholeAV (x : Except Nat Int) : AV := match x with
  | .ok n => .tup [.int .i64 n, .int .i64 0]
  | .error e => .tup [.int .i64 0, .int .i64 e]
theorem dWhole_ok [GDec] (s : List UInt8) (hs : s.length ≤ 9223372036854775807) : PCalls Tryz.prog n_decimal_Whole [.str s] (fun r => r = wholeAV (whole s)) := by
  refine pcalls_of_awp hmix c_decimal_Whole rfl ?_
  simp [a_decimal_Whole]
  by_cases h64 : 64 < s.length
  · have h64' : (64 : Int) < s.length := by omega
    simp [h64, h64', whole, wholeAV]
  have h64' : ¬ (64 : Int) < s.length := by omega
  simp [h64, h64']
  by_cases h0 : s = []
  · subst h0; simp [whole, wholeAV]
  simp [h0]
  refine ac_same (digits_ok s (by omega)) (by simp) ?_
  rintro r rfl
  by_cases hall : s.all isD = true
  · have hlt : ¬ (s.takeWhile isD).length < s.length := fun h => by rw [tw_full.1 h] at hall; cases hall
    simp [h0, hlt]
    refine ac_same (parseInt_ok s (by omega) hall h0) (by simp) ?_
    intro r hr
    unfold pIntAV at hr
    by_cases hle : dval 0 s ≤ 9223372036854775807
    · rw [if_pos hle] at hr
      subst hr
      by_cases hb : 1099511627776 < dval 0 s
      · have hb' : (1099511627776 : Int) < (dval 0 s : Int) := by omega
        simp [hb, hb', whole, h64, h0, hall, wholeAV]
      · have hb' : ¬ (1099511627776 : Int) < (dval 0 s : Int) := by omega
        simp [hb, hb', whole, h64, h0, hall, wholeAV]
    · rw [if_neg hle] at hr
      obtain ⟨z, rfl⟩ := hr
      have hb : 1099511627776 < dval 0 s := by omega
      simp [hb, whole, h64, h0, hall, wholeAV]
  · have hall' : s.all isD = false := by simpa using hall
    have hlt : (s.takeWhile isD).length < s.length := tw_full.2 hall'
    simp [h0, hlt, whole, h64, hall', wholeAV]

theorem dval_mono {l : List UInt8} {n : Nat} (c : UInt8) (h : n < dval 0 l) : n < dval 0 (l ++ [c]) := by
  have e : dval 0 (l ++ [c]) = dval 0 l * 10 + dig c := by rw [dval_append, dval_cons, dval_nil]
  omega
theorem dval_more {n : Nat} : ∀ (m l : List UInt8), n < dval 0 l → n < dval 0 (l ++ m)
  | [], l, h => by simpa using h
  | c :: m, l, h => by
    have := dval_more m (l ++ [c]) (dval_mono c h)
    simpa using this

theorem rWhole_ok (s : List UInt8) (hs : s.length ≤ 9223372036854775807) : PCalls Tryz.prog n_isobarref03_Whole [.str s] (fun r => r = wholeAV (whole s)) := by
  refine pcalls_of_awp hmix c_isobarref03_Whole rfl ?_
  simp [a_isobarref03_Whole]
  by_cases h64 : 64 < s.length
  · have h64' : (64 : Int) < s.length := by omega
    simp [h64, h64', whole, wholeAV]
  have h64' : ¬ (64 : Int) < s.length := by omega
  simp [h64, h64']
  refine lp_startx (fun n f σ => ∃ i : Nat, n = s.length - i ∧ i ≤ s.length ∧ f 0 = .str s ∧ f 4 = .int .i64 0 ∧ f 5 = .int .i64 i ∧ (s.take i).all isD = true ∧ σ = []) s.length ⟨0, by simp⟩ ?_
  rintro n f σ ⟨i, rfl, hi, q0, q4, q5, hall, rfl⟩
  simp [q0, q5]
  by_cases hlt : i < s.length
  · have hlt' : (i : Int) < s.length := by omega
    have hwi : IntKind.i64.wrap ((i : Int) + 1) = (i : Int) + 1 := wrap_i64 (by omega) (by omega)
    simp [hlt, hlt', q0, q5, List.getElem?_eq_getElem hlt]
    refine ac_same (digit_ok s[i]) (by simp) ?_
    rintro r rfl
    cases hd : isD s[i] with
    | false =>
      have hall' : s.all isD = false := by
        cases h : s.all isD with
        | false => rfl
        | true => rw [List.all_eq_true] at h; rw [h _ (List.getElem_mem hlt)] at hd; cases hd
      have h0 : s ≠ [] := fun h => by subst h; simp at hlt
      simp [whole, h64, hall', wholeAV]
    | true =>
      simp [q5, hwi]
      refine nx_intro (s.length - (i + 1)) (by omega) ⟨i + 1, rfl, by omega, by simp [q0], by simp [q4], by simp, ?_, rfl⟩
      have htk : s.take (i + 1) = s.take i ++ [s[i]] := by rw [List.take_add_one, List.getElem?_eq_getElem hlt]; rfl
      rw [htk, List.all_append, hall]
      simp [hd]
  · have hlt' : ¬ (i : Int) < s.length := by omega
    have hiU : i = s.length := by omega
    rw [hiU, List.take_length] at hall
    simp [hlt, hlt', q0]
    by_cases h0 : s = []
    · simp [h0, whole, wholeAV]
    simp [h0]
    refine lp_startx (fun x f σ => ∃ i : Nat, x = s.length - i ∧ i ≤ s.length ∧ f 0 = .str s ∧ f 4 = .int .i64 (dval 0 (s.take i)) ∧ f 6 = .int .i64 i ∧ dval 0 (s.take i) ≤ 1099511627776 ∧ σ = []) s.length ⟨0, by simp [q0, q4, dval_nil]⟩ ?_
    rintro x f σ ⟨i, rfl, hi, q0, q4, q6, hv, rfl⟩
    simp [q0, q6]
    by_cases hlt : i < s.length
    · have hlt' : (i : Int) < s.length := by omega
      have hwi : IntKind.i64.wrap ((i : Int) + 1) = (i : Int) + 1 := wrap_i64 (by omega) (by omega)
      have hd : isD s[i] = true := by rw [List.all_eq_true] at hall; exact hall _ (List.getElem_mem hlt)
      have hdg := dig_le hd
      have hcd := (isD_iff s[i]).1 hd
      have hdigE : s[i].toNat = dig s[i] + 48 := by unfold dig; omega
      have htk : s.take (i + 1) = s.take i ++ [s[i]] := by rw [List.take_add_one, List.getElem?_eq_getElem hlt]; rfl
      have hdv : dval 0 (s.take (i + 1)) = dval 0 (s.take i) * 10 + dig s[i] := by rw [htk, dval_append, dval_cons, dval_nil]
      have hws : IntKind.u8.wrap ((s[i].toNat : Int) - 48) = (dig s[i] : Int) := by rw [wrap_u8 (by omega) (by omega)]; omega
      have hwc : IntKind.i64.wrap (dig s[i] : Int) = (dig s[i] : Int) := wrap_i64 (by omega) (by omega)
      have hwm : IntKind.i64.wrap ((dval 0 (s.take i) : Int) * 10) = (dval 0 (s.take i) : Int) * 10 := wrap_i64 (by omega) (by omega)
      have hwa : IntKind.i64.wrap ((dval 0 (s.take i) : Int) * 10 + (dig s[i] : Int)) = (dval 0 (s.take (i + 1)) : Int) := by rw [wrap_i64 (by omega) (by omega)]; omega
      simp [hlt, hlt', q0, q4, q6, List.getElem?_eq_getElem hlt, hwm, hws, hwc, hwa]
      by_cases hb : 1099511627776 < dval 0 (s.take (i + 1))
      · have hb' : (1099511627776 : Int) < (dval 0 (s.take (i + 1)) : Int) := by omega
        have hbig : 1099511627776 < dval 0 s := by
          have := dval_more (s.drop (i + 1)) _ hb
          rwa [List.take_append_drop] at this
        simp [hb, hb', whole, h64, h0, hall, hbig, wholeAV]
      · have hb' : ¬ (1099511627776 : Int) < (dval 0 (s.take (i + 1)) : Int) := by omega
        simp [hb, hb', q6, hwi]
        exact nx_intro (s.length - (i + 1)) (by omega) ⟨i + 1, rfl, by omega, by simp [q0], by simp, by simp, by omega, rfl⟩
    · have hlt' : ¬ (i : Int) < s.length := by omega
      have hiU : i = s.length := by omega
      rw [hiU, List.take_length] at hv q4
      have hb : ¬ 1099511627776 < dval 0 s := by omega
      simp [hlt, hlt', q4, whole, h64, h0, hall, hb, wholeAV]
end Go.Proofs.YtddpegkbmdcgbaaGreatDoor
