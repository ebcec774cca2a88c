/- Numbers over time: Print, the fixed fact, and the law of what values make. -/
import Derived.Test.YtipncibiodfmdaaGreatDoorSeD
set_option linter.unusedSimpArgs false
set_option linter.unusedVariables false
set_option linter.constructorNameAsVariable false
set_option maxHeartbeats 4000000
namespace Go.Ser
open Go.Abs Go.Num Go.Dec
def printS (s : Sr) : List UInt8 := Lib.join [s.name, Lib.itoa s.start, Lib.itoa (endS s), Lib.itoa s.step] [44] ++ [124] ++ Lib.join (prns s.vals) [44]
theorem itoa_le {n : Int} (h0 : 0 ≤ n) (h1 : n < 18446744073709551616) : (Lib.itoa n).length ≤ 20 := by
  obtain ⟨u, rfl⟩ := Int.eq_ofNat_of_zero_le h0
  have : Lib.itoa (u : Int) = Lib.decDigits u := by unfold Lib.itoa; rw [if_neg (by omega)]; simp
  rw [this, Lib.decDigits_length]; exact Lib.nDigits_le20 u (by omega)
end Go.Ser
namespace Go.Proofs.YtipncibiodfmdaaGreatDoor
open Go.Abs Go.Num Go.Ser Go.Dec
variable {G : Globs}
theorem sItoa_ok [GPow] (n : Int) (h0 : -9223372036854775808 ≤ n) (h1 : n ≤ 9223372036854775807) : PCalls Tryz.prog 36 [.int .i64 n] (fun r => r = .str (Lib.itoa n)) :=
  pcalls1 fun base κ Im w v hs e1 => by
    cases e1.int_inv
    refine (Tryz.strconv_Itoa n h0 h1 w (tab_ok hs)).mono ?_
    rintro e w' ⟨rfl, k, os, rfl⟩
    exact ⟨_, _, rfl, rfl, Lib.below_grow _ w (Nat.le_refl _) k os, fun Im' => .str _⟩
theorem sPrint_ok [GPow] (s : Sr) (h : SrOk s) : PCalls Tryz.prog n_series_Print [srA s] (fun r => r = if rightS s = true then .tup [.str (printS s), .int .i64 0] else .tup [.str [], .int .i64 1]) := by
  refine pcalls_of_awp hmix c_series_Print rfl ?_
  have kR := sRight_ok (G := G) s h
  rw [srA_eq s] at kR ⊢
  simp [a_series_Print]
  refine ac_same kR (by simp) ?_
  rintro r rfl
  cases hr : rightS s with
  | false => simp
  | true =>
    have hR := right_iff.1 hr
    have hp0 := hR.p0
    have hp1 := hR.p1
    have hs0 := hR.s0
    have hs1 := hR.s1
    have hnm := hR.nm
    obtain ⟨e1, e2, e3, e4⟩ := end_bd hR
    have kE := send_ok (G := G) s hR
    rw [srA_eq s] at kE
    have l1 := itoa_le (n := s.start) (by omega) (by omega)
    have l2 := itoa_le (n := endS s) (by omega) (by omega)
    have l3 := itoa_le (n := s.step) (by omega) (by omega)
    have hj : (Lib.join [s.name, Lib.itoa s.start, Lib.itoa (endS s), Lib.itoa s.step] [44]).length ≤ 1000 := by
      simp [Lib.join, Lib.joinTail]; omega
    have kJ := joinC_ok (G := G) [s.name, Lib.itoa s.start, Lib.itoa (endS s), Lib.itoa s.step] (by omega) (by simp)
    have hdj : (Lib.join (prns s.vals) [44]).length ≤ 44000 := by
      have h1 := join_len22 (prns s.vals) (prns_le fun x hx => h.vs x hx)
      have h2 : (prns s.vals).length = s.vals.length := by simp [prns]
      have := hR.vl
      omega
    have kD := dJoin_ok (G := G) s.vals (by have := hR.vl; omega) (fun x hx => h.vs x hx)
    have etx : txts [s.name, Lib.itoa s.start, Lib.itoa (endS s), Lib.itoa s.step] = [[.str s.name], [.str (Lib.itoa s.start)], [.str (Lib.itoa (endS s))], [.str (Lib.itoa s.step)]] := rfl
    rw [etx] at kJ
    obtain ⟨J, hJ⟩ : ∃ J, J = Lib.join [s.name, Lib.itoa s.start, Lib.itoa (endS s), Lib.itoa s.step] [44] := ⟨_, rfl⟩
    obtain ⟨D, hD⟩ : ∃ D, D = Lib.join (prns s.vals) [44] := ⟨_, rfl⟩
    rw [← hJ] at kJ hj
    rw [← hD] at kD hdj
    have hps : printS s = J ++ ([124] ++ D) := by rw [printS, ← hJ, ← hD, List.append_assoc]
    have a1 : J.length + 1 ≤ 9223372036854775807 := by omega
    have a2 : J.length + 1 + D.length ≤ 9223372036854775807 := by omega
    have a3 : J.length + (D.length + 1) ≤ 9223372036854775807 := by omega
    have a4 : J.length ≤ 9223372036854775806 := by omega
    rw [hps]
    simp
    refine qc_same (sItoa_ok s.start (by omega) (by omega)) (by simp) (by simp) ?_
    simp
    refine qc_same kE (by simp) (by simp) ?_
    simp
    refine qc_same (sItoa_ok (endS s) (by omega) (by omega)) (by simp) (by simp) ?_
    simp
    refine qc_same (sItoa_ok s.step (by omega) (by omega)) (by simp) (by simp) ?_
    simp
    refine qc_same kJ (by simp) (by simp) ?_
    simp [a4]
    refine qc_same kD (by simp) (by simp) ?_
    simp [a1, a2, a3, a4]
def s0 : Sr := ⟨[97], 60, 60, [(false, 1000000), (true, 0)]⟩
theorem s0_ok : SrOk s0 := ⟨by decide, by decide, by decide, by decide, by decide, by decide, by unfold oksN okN; decide⟩
theorem salive_ok [GPow] : PCalls Tryz.prog n_isobarlaw24_alive [] (fun r => r = .bool true) := by
  refine pcalls_of_awp hmix c_isobarlaw24_alive rfl ?_
  have k1 := sPrint_ok (G := G) s0 s0_ok
  have k2 := coarser_ok (G := G) s0 s0_ok 120 2 (by decide) (by decide)
  have e1 : rightS s0 = true := by decide +kernel
  have e2 : printS s0 = [97, 44, 54, 48, 44, 49, 56, 48, 44, 54, 48, 124, 49, 44, 78, 111, 110, 101] := by decide +kernel
  have e3 : coarserS s0 120 2 = some ⟨[97], 0, 120, [(false, 1000000), (true, 0)]⟩ := by kernel_rfl
  rw [if_pos e1, e2] at k1
  rw [e3] at k2
  have es : srA s0 = .agg [.str [97], .int .i64 60, .int .i64 60, .lst [[.bool false, .int .i64 1000000], [.bool true, .int .i64 0]]] := rfl
  rw [es] at k1 k2
  simp [a_isobarlaw24_alive]
  refine ac_same k1 (by simp) ?_
  rintro r rfl
  simp
  refine ac_same k2 (by simp) ?_
  rintro r rfl
  simp [coarserA, srA, srC, numEls]
end Go.Proofs.YtipncibiodfmdaaGreatDoor
