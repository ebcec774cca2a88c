/- Numbers as text: the law of parsing. -/
import Derived.Test.YtkclehdmdnfikaaDoorDcF
set_option linter.unusedSimpArgs false
set_option linter.unusedVariables false
set_option linter.constructorNameAsVariable false
set_option maxHeartbeats 2000000
namespace Go.Proofs.YtkclehdmdnfikaaDoor
open Go.Abs Go.Dec
variable {G : Globs}

theorem aliveD_ok [GDec] : PCalls Tryd.prog n_isobarlaw03_alive [] (fun r => r = .bool true) := by
  refine pcalls_of_awp hmix c_isobarlaw03_alive rfl ?_
  have e1 : parse [49, 46, 53] = .ok 1500000 := by rfl
  have e2 : parse [46, 48, 48, 48, 48, 48, 48, 53] = .ok 1 := by rfl
  have e3 : prn false (-1200000) = [45, 49, 46, 50] := by
    have : Lib.decDigits 1 = [49] := by rw [Lib.decDigits]; rfl
    simp [prn, frac, fr, this]
  simp [a_isobarlaw03_alive]
  refine ac_same (dParse_ok _ (by simp)) (by simp) ?_
  rintro r rfl
  rw [e1]
  simp [numAV]
  refine ac_same (dParse_ok _ (by simp)) (by simp) ?_
  rintro r rfl
  rw [e2]
  simp [numAV]
  refine ac_same (dPrint_ok false (-1200000) (by omega) (by omega)) (by simp) ?_
  rintro r rfl
  rw [e3]
  simp

theorem parses_law [GDec] (s : List UInt8) (hs : s.length ≤ 9223372036854775807) : PCalls Tryd.prog n_isobarlaw03_DecimalParses [.str s] (fun r => r = .bool true) := by
  refine pcalls_of_awp hmix c_isobarlaw03_DecimalParses rfl ?_
  simp [a_isobarlaw03_DecimalParses]
  refine ac_same aliveD_ok (by simp) ?_
  rintro r rfl
  simp
  refine ac_same (dParse_ok s hs) (by simp) ?_
  rintro r rfl
  obtain ⟨n, e, h1⟩ : ∃ (n : Int) (e : Int), numAV (parse s) = .tup [.agg [.bool false, .int .i64 n], .int .i64 e] := by cases parse s <;> exact ⟨_, _, rfl⟩
  obtain ⟨m, g, h2⟩ : ∃ (n : Int) (e : Int), wholeAV (whole s) = .tup [.int .i64 n, .int .i64 e] := by cases whole s <;> exact ⟨_, _, rfl⟩
  rw [h1]
  simp
  refine ac_same (rParse_ok s hs) (by simp) ?_
  rintro r rfl
  rw [h1]
  simp
  refine ac_same (dWhole_ok s hs) (by simp) ?_
  rintro r rfl
  rw [h2]
  simp
  refine ac_same (rWhole_ok s hs) (by simp) ?_
  rintro r rfl
  rw [h2]
  simp
end Go.Proofs.YtkclehdmdnfikaaDoor
