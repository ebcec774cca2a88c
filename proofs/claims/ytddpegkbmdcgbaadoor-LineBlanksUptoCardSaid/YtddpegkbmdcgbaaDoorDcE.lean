/- Numbers as text: Whole, and the document's. -/
import Derived.Test.YtddpegkbmdcgbaaDoorDcD
set_option linter.unusedSimpArgs false
set_option linter.unusedVariables false
set_option linter.constructorNameAsVariable false
set_option maxHeartbeats 2000000
namespace Go.Proofs.YtddpegkbmdcgbaaDoor
open Go.Abs Go.Dec
variable {G : Globs}
def wholeAV (x : Except Nat Int) : AV := match x with
  | .ok n => .tup [.int .i64 n, .int .i64 0]
  | .error e => .tup [.int .i64 0, .int .i64 e]
theorem dWhole_ok [GDec] (s : List UInt8) (hs : s.length ≤ 9223372036854775807) : PCalls Tryd.prog n_decimal_Whole [.str s] (fun r => r = wholeAV (whole s)) := by
  refine pcalls_of_awp hmix c_decimal_Whole rfl ?_
  simp [a_decimal_Whole]
  by_cases h64 : 64 < s.length
  · have h64' : (64 : Int) < s.length := by omega
    simp [h64, h64', whole, wholeAV]
  have h64' : ¬ (64 : Int) < s.length := by omega
  simp [h64, h64']
  by_cases h0 : s = []
  · subst h0; simp [whole, wholeAV]
  simp [h0]
  refine ac_same (digits_ok s (by omega)) (by simp) ?_
  rintro r rfl
  by_cases hall : s.all isD = true
  · have hlt : ¬ (s.takeWhile isD).length < s.length := fun h => by rw [tw_full.1 h] at hall; cases hall
    simp [h0, hlt]
    refine ac_same (parseInt_ok s (by omega) hall h0) (by simp) ?_
    intro r hr
    unfold pIntAV at hr
    by_cases hle : dval 0 s ≤ 9223372036854775807
    · rw [if_pos hle] at hr
      subst hr
      by_cases hb : 1099511627776 < dval 0 s
      · have hb' : (1099511627776 : Int) < (dval 0 s : Int) := by omega
        simp [hb, hb', whole, h64, h0, hall, wholeAV]
      · have hb' : ¬ (1099511627776 : Int) < (dval 0 s : Int) := by omega
        simp [hb, hb', whole, h64, h0, hall, wholeAV]
    · rw [if_neg hle] at hr
      obtain ⟨z, rfl⟩ := hr
      have hb : 1099511627776 < dval 0 s := by omega
      simp [hb, whole, h64, h0, hall, wholeAV]
  · have hall' : s.all isD = false := by simpa using hall
    have hlt : (s.takeWhile isD).length < s.length := tw_full.2 hall'
    simp [h0, hlt, whole, h64, hall', wholeAV]

theorem dval_mono {l : List UInt8} {n : Nat} (c : UInt8) (h : n < dval 0 l) : n < dval 0 (l ++ [c]) := by
  have e : dval 0 (l ++ [c]) = dval 0 l * 10 + dig c := by rw [dval_append, dval_cons, dval_nil]
  omega
theorem dval_more {n : Nat} : ∀ (m l : List UInt8), n < dval 0 l → n < dval 0 (l ++ m)
  | [], l, h => by simpa using h
  | c :: m, l, h => by
    have := dval_more m (l ++ [c]) (dval_mono c h)
    simpa using this

end Go.Proofs.YtddpegkbmdcgbaaDoor
