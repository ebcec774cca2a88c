/- Numbers as text: the document's Digits and Print. -/
import Derived.Test.YtipncibiodfmdaaGreatDoorDcJ
set_option linter.unusedSimpArgs false
set_option linter.unusedVariables false
set_option linter.constructorNameAsVariable false
set_option maxHeartbeats 2000000
namespace Go.Dec
theorem dig_text {d : Nat} (h : d < 10) : ([48, 49, 50, 51, 52, 53, 54, 55, 56, 57] : List UInt8)[d]? = some (UInt8.ofNat (48 + d)) := by
  have : ∀ i : Fin 10, ([48, 49, 50, 51, 52, 53, 54, 55, 56, 57] : List UInt8)[i.val]? = some (UInt8.ofNat (48 + i.val)) := by decide
  exact this ⟨d, h⟩
theorem dig_slice {d : Nat} (h : d < 10) : (([48, 49, 50, 51, 52, 53, 54, 55, 56, 57] : List UInt8).take (d + 1)).drop d = [UInt8.ofNat (48 + d)] := by
  have : ∀ i : Fin 10, (([48, 49, 50, 51, 52, 53, 54, 55, 56, 57] : List UInt8).take (i.val + 1)).drop i.val = [UInt8.ofNat (48 + i.val)] := by decide
  exact this ⟨d, h⟩
theorem fr_step {k p : Nat} (hm : p * 10 ^ (k + 1) % 1000000 = 0) : (p % 100000 * 10) * 10 ^ k % 1000000 = 0 := by
  have e : p * 10 ^ (k + 1) = (p % 100000 * 10) * 10 ^ k + p / 100000 * 10 ^ k * 1000000 := by
    have := Nat.div_add_mod p 100000
    rw [Nat.pow_succ]
    generalize p / 100000 = a at *
    generalize p % 100000 = b at *
    rw [← this, Nat.add_mul, ← Nat.mul_assoc, ← Nat.mul_assoc, Nat.mul_assoc 100000, Nat.mul_right_comm b 10]
    omega
  rw [e] at hm
  omega
theorem dd_step (m : Nat) : Lib.decDigits m = (if m / 10 = 0 then [] else Lib.decDigits (m / 10)) ++ [UInt8.ofNat (48 + m % 10)] := by
  rw [Lib.decDigits]
  split
  · rename_i h
    have h1 : m / 10 = 0 := by omega
    have h2 : m % 10 = m := by omega
    rw [if_pos h1, h2]
    rfl
  · rename_i h
    rw [if_neg (by omega)]
end Go.Dec
namespace Go.Proofs.YtipncibiodfmdaaGreatDoor
open Go.Abs Go.Dec
variable {G : Globs}

theorem rDigits_ok (n : Nat) (hn : n < 18446744073709551616) : PCalls Tryz.prog n_isobarref03_Digits [.int .u64 n] (fun r => r = .str (Lib.decDigits n)) := by
  refine pcalls_of_awp hmix c_isobarref03_Digits rfl ?_
  simp [a_isobarref03_Digits]
  have hl20 := decDigits_le n hn
  refine lp_startx (fun x f σ => ∃ (m : Nat) (s : List UInt8), x = m + (if s = [] then 1 else 0) ∧ m ≤ n ∧ f 0 = .int .u64 m ∧ f 3 = .str s ∧ Lib.decDigits n = (if m = 0 ∧ s ≠ [] then [] else Lib.decDigits m) ++ s ∧ σ = []) (n + 1) ?_ ?_
  · exact ⟨n, [], by simp, Nat.le_refl _, by simp, by simp, by simp, by simp⟩
  rintro x f σ ⟨m, s, rfl, hm, h0, h3, hd, rfl⟩
  have hsl : s.length ≤ 20 := by rw [hd] at hl20; simp at hl20; omega
  obtain ⟨d, hd0⟩ : ∃ d, d = m % 10 := ⟨_, rfl⟩
  obtain ⟨q, hq0⟩ : ∃ q, q = m / 10 := ⟨_, rfl⟩
  have hd10 : d < 10 := by omega
  have e1 : (m : Int).tmod 10 = (d : Int) := by rw [Int.tmod_eq_emod_of_nonneg (by omega)]; omega
  have e2 : (m : Int) % 10 = (d : Int) := by omega
  have e3 : (m : Int).tdiv 10 = (q : Int) := by rw [Int.tdiv_eq_ediv_of_nonneg (by omega)]; omega
  have e4 : (m : Int) / 10 = (q : Int) := by omega
  have hw1 : IntKind.u64.wrap ((d : Int) + 1) = (d : Int) + 1 := wrap_u64 (by omega) (by omega)
  have hw2 : IntKind.u64.wrap (q : Int) = (q : Int) := wrap_u64 (by omega) (by omega)
  have hw3 : IntKind.u64.wrap (d : Int) = (d : Int) := wrap_u64 (by omega) (by omega)
  have hd1 : (d : Int) ≤ (d : Int) + 1 := by omega
  have hd2 : (d : Int) + 1 ≤ 10 := by omega
  have hd3 : d + 1 ≤ 10 := by omega
  have hsl' : s.length + 1 ≤ 9223372036854775807 := by omega
  have hds := dig_slice hd10
  have hmd : m = q * 10 + d := by omega
  have hd4 : (0 : Int) ≤ (d : Int) + 1 := by omega
  have hds2 : List.drop d (48 :: List.take d [49, 50, 51, 52, 53, 54, 55, 56, 57]) = [UInt8.ofNat (48 + d)] := by rwa [List.take_succ_cons] at hds
  have hmin : min d 9 + 1 - d = 1 := by omega
  have hsl2 : 1 + s.length ≤ 9223372036854775807 := by omega
  have hwz : IntKind.u64.wrap 0 = 0 := wrap_u64 (by omega) (by omega)
  have hw0 : IntKind.u64.wrap 1 = 1 := wrap_u64 (by omega) (by omega)
  have hdd := dd_step m
  rw [← hd0, ← hq0] at hdd
  by_cases hmp : 0 < m
  · have hmp' : (0 : Int) < (m : Int) := by omega
    have hmz : ¬ m = 0 := by omega
    have hfin : Lib.decDigits n = (if q = 0 then [] else Lib.decDigits q) ++ UInt8.ofNat (48 + d) :: s := by
      rw [hd, if_neg (by omega), hdd]; simp
    simp [h0, h3, hmp, hmp', e1, e2, e3, e4, hw1, hw2, hw3, hd1, hd2, hd3, hd4, hds2, hmin, hsl2, hsl']
    refine nx_intro q (by omega) ⟨q, UInt8.ofNat (48 + d) :: s, by simp, by omega, by simp, by simp, by rw [hfin]; simp, rfl⟩
  · have hm0 : m = 0 := by omega
    subst hm0
    have hdz : d = 0 := by omega
    have hqz : q = 0 := by omega
    subst hdz hqz
    by_cases hs : s = []
    · subst hs
      simp [h0, h3, hw0]
      refine nx_intro 0 (by omega) ⟨0, [48], by simp, by omega, by simp [hwz], by simp, ?_, rfl⟩
      have : Lib.decDigits 0 = [48] := by rw [Lib.decDigits]; rfl
      rw [hd]
      simp [this]
    · simp [h0, h3, hs]
      rw [hd]
      simp [hs]

theorem rPrint_ok (nl : Bool) (v : Int) (h0 : -9223372036854775808 ≤ v) (h1 : v ≤ 9223372036854775807) : PCalls Tryz.prog n_isobarref03_Print [.agg [.bool nl, .int .i64 v]] (fun r => r = .str (prn nl v)) := by
  refine pcalls_of_awp hmix c_isobarref03_Print rfl ?_
  simp [a_isobarref03_Print]
  cases nl with
  | true => simp [prn]
  | false =>
  simp
  refine ac_same (rRight_ok false v) (by simp) ?_
  rintro r rfl
  by_cases hmin : v = -9223372036854775808
  · simp [hmin, prn]
  simp [hmin]
  have hpl := prn_len hmin (by omega)
  obtain ⟨u, hu⟩ : ∃ u : Nat, u = v.natAbs := ⟨_, rfl⟩
  have hu64 : u < 9223372036854775808 := by omega
  have hprn : prn false v = (if v < 0 then [45] else []) ++ Lib.decDigits (u / 1000000) ++ frac (u % 1000000) := by
    simp [prn, hmin, hu]
  obtain ⟨q, hq⟩ : ∃ q, q = u / 1000000 := ⟨_, rfl⟩
  obtain ⟨p, hpp⟩ : ∃ p, p = u % 1000000 := ⟨_, rfl⟩
  rw [← hq, ← hpp] at hprn
  have hdl := decDigits_le q (by omega)
  have hq1 : (u : Int).tdiv 1000000 = (q : Int) := by rw [Int.tdiv_eq_ediv_of_nonneg (by omega)]; omega
  have hq2 : (u : Int) / 1000000 = (q : Int) := by omega
  have hwq : IntKind.i64.wrap (q : Int) = (q : Int) := wrap_i64 (by omega) (by omega)
  have hwu : IntKind.u64.wrap (q : Int) = (q : Int) := wrap_u64 (by omega) (by omega)
  have hp1 : (u : Int).tmod 1000000 = (p : Int) := by rw [Int.tmod_eq_emod_of_nonneg (by omega)]; omega
  have hp2 : (u : Int) % 1000000 = (p : Int) := by omega
  have hp : p < 1000000 := by omega
  have hlenQ : (Lib.decDigits q).length ≤ 9223372036854775807 := by omega
  have hlen6 : (Lib.decDigits q).length ≤ 9223372036854775806 := by omega
  have hlen5 : (Lib.decDigits q).length ≤ 9223372036854775805 := by omega
  have hlen1q : 1 + (Lib.decDigits q).length ≤ 9223372036854775807 := by omega
  have hlenQ1 : (Lib.decDigits q).length + 1 ≤ 9223372036854775807 := by omega
  have hlenR : (Lib.decDigits q).length + 1 + 1 ≤ 9223372036854775807 := by omega
  have hlenR1 : 1 + (Lib.decDigits q).length + 1 ≤ 9223372036854775807 := by omega
  by_cases hneg : v < 0
  · have hwn : IntKind.i64.wrap (-v) = (u : Int) := by rw [wrap_i64 (by omega) (by omega)]; omega
    simp [hneg, hwn, hq1, hq2, hwq, hwu]
    refine ac_same (rDigits_ok q (by omega)) (by simp) ?_
    rintro r rfl
    have hlenS : ([45] : List UInt8).length + (Lib.decDigits q).length ≤ 100 := by simp; omega
    simp [hp1, hp2, hlenQ, hlenQ1, hlen6, hlen1q]
    by_cases hp0 : p = 0
    · have hp0' : (p : Int) = 0 := by omega
      simp [hp0]
      rw [hprn]
      simp [hneg, hp0, frac]
    · have hp0' : ¬ (p : Int) = 0 := by omega
      simp [hp0, hp0', hlenR, hlenR1, hlen6, hlen5, hlen1q]
      refine lp_startx (fun x f σ => ∃ (k r : Nat) (T : List UInt8), x = k ∧ k ≤ 6 ∧ r < 1000000 ∧ r * 10 ^ k % 1000000 = 0 ∧ f 5 = .str T ∧ f 6 = .int .i64 r ∧ T ++ fr k r = prn false v ∧ σ = [.var 33 [.bool false, .int .i64 v]]) 6 ?_ ?_
      · refine ⟨6, p, ([45] : List UInt8) ++ Lib.decDigits q ++ [46], rfl, Nat.le_refl _, hp, by omega, by simp, by simp, ?_, by simp⟩
        rw [hprn]
        simp [hneg, frac, hp0]
      rintro x f σ ⟨k, r, T, hxk, hk6, hr6, hrk, h5, h6, hT, rfl⟩
      have hTl : T.length ≤ 21 := by
        have := congrArg List.length hT
        simp only [List.length_append] at this
        omega
      obtain ⟨a, ha⟩ : ∃ a, a = r / 100000 := ⟨_, rfl⟩
      obtain ⟨b, hb⟩ : ∃ b, b = r % 100000 := ⟨_, rfl⟩
      have g1 : (r : Int).tdiv 100000 = (a : Int) := by rw [Int.tdiv_eq_ediv_of_nonneg (by omega)]; omega
      have g2 : (r : Int) / 100000 = (a : Int) := by omega
      have g3 : (r : Int).tmod 100000 = (b : Int) := by rw [Int.tmod_eq_emod_of_nonneg (by omega)]; omega
      have g4 : (r : Int) % 100000 = (b : Int) := by omega
      have g5 : IntKind.i64.wrap ((b : Int) * 10) = ((b * 10 : Nat) : Int) := by rw [wrap_i64 (by omega) (by omega)]; omega
      have g6 : IntKind.u64.wrap (a : Int) = (a : Int) := wrap_u64 (by omega) (by omega)
      have g7 : IntKind.i64.wrap (a : Int) = (a : Int) := wrap_i64 (by omega) (by omega)
      by_cases hr0 : r = 0
      · subst hr0
        have hf0 : fr k 0 = [] := by cases k <;> simp [fr]
        rw [hf0, List.append_nil] at hT
        simp [h5, h6, hT]
      · have hr0' : (0 : Int) < (r : Int) := by omega
        have hrp : 0 < r := by omega
        obtain ⟨k', rfl⟩ : ∃ k', k = k' + 1 := by
          cases k with
          | zero => exfalso; simp at hrk; omega
          | succ k' => exact ⟨k', rfl⟩
        have hstep := fr_step hrk
        have hdg : Lib.decDigits a = [UInt8.ofNat (48 + a)] := Lib.decDigits_one (by omega)
        have hT2 : (T ++ [UInt8.ofNat (48 + a)]) ++ fr k' (b * 10) = prn false v := by
          rw [← hT, fr, if_neg hr0, ← ha, ← hb]; simp
        simp [h5, h6, hr0', hrp, g1, g2, g6, g7]
        refine ac_same (rDigits_ok a (by omega)) (by simp) ?_
        rintro r' rfl
        rw [hdg]
        have hTl6 : T.length ≤ 9223372036854775806 := by omega
        have hTl' : T.length + 1 ≤ 9223372036854775807 := by omega
        simp [h5, h6, g3, g4, g5, hTl', hTl6]
        refine nx_intro k' (by omega) ⟨k', b * 10, T ++ [UInt8.ofNat (48 + a)], rfl, by omega, by omega, by rw [hb]; exact hstep, by simp, by simp, hT2, rfl⟩
  · have hv : v = (u : Int) := by omega
    have hneg' : ¬ (u : Int) < 0 := by omega
    simp [hneg]
    subst hv
    simp [hneg', hq1, hq2, hwq, hwu]
    refine ac_same (rDigits_ok q (by omega)) (by simp) ?_
    rintro r rfl
    have hlenS : ([] : List UInt8).length + (Lib.decDigits q).length ≤ 100 := by simp; omega
    simp [hp1, hp2, hlenQ, hlenQ1, hlen6, hlen1q]
    by_cases hp0 : p = 0
    · have hp0' : (p : Int) = 0 := by omega
      simp [hp0]
      rw [hprn]
      simp [hneg', hp0, frac]
    · have hp0' : ¬ (p : Int) = 0 := by omega
      simp [hp0, hp0', hlenR, hlenR1, hlen6, hlen5, hlen1q]
      refine lp_startx (fun x f σ => ∃ (k r : Nat) (T : List UInt8), x = k ∧ k ≤ 6 ∧ r < 1000000 ∧ r * 10 ^ k % 1000000 = 0 ∧ f 5 = .str T ∧ f 6 = .int .i64 r ∧ T ++ fr k r = prn false (u : Int) ∧ σ = [.var 33 [.bool false, .int .i64 (u : Int)]]) 6 ?_ ?_
      · refine ⟨6, p, ([] : List UInt8) ++ Lib.decDigits q ++ [46], rfl, Nat.le_refl _, hp, by omega, by simp, by simp, ?_, by simp⟩
        rw [hprn]
        simp [hneg', frac, hp0]
      rintro x f σ ⟨k, r, T, hxk, hk6, hr6, hrk, h5, h6, hT, rfl⟩
      have hTl : T.length ≤ 21 := by
        have := congrArg List.length hT
        simp only [List.length_append] at this
        omega
      obtain ⟨a, ha⟩ : ∃ a, a = r / 100000 := ⟨_, rfl⟩
      obtain ⟨b, hb⟩ : ∃ b, b = r % 100000 := ⟨_, rfl⟩
      have g1 : (r : Int).tdiv 100000 = (a : Int) := by rw [Int.tdiv_eq_ediv_of_nonneg (by omega)]; omega
      have g2 : (r : Int) / 100000 = (a : Int) := by omega
      have g3 : (r : Int).tmod 100000 = (b : Int) := by rw [Int.tmod_eq_emod_of_nonneg (by omega)]; omega
      have g4 : (r : Int) % 100000 = (b : Int) := by omega
      have g5 : IntKind.i64.wrap ((b : Int) * 10) = ((b * 10 : Nat) : Int) := by rw [wrap_i64 (by omega) (by omega)]; omega
      have g6 : IntKind.u64.wrap (a : Int) = (a : Int) := wrap_u64 (by omega) (by omega)
      have g7 : IntKind.i64.wrap (a : Int) = (a : Int) := wrap_i64 (by omega) (by omega)
      by_cases hr0 : r = 0
      · subst hr0
        have hf0 : fr k 0 = [] := by cases k <;> simp [fr]
        rw [hf0, List.append_nil] at hT
        simp [h5, h6, hT]
      · have hr0' : (0 : Int) < (r : Int) := by omega
        have hrp : 0 < r := by omega
        obtain ⟨k', rfl⟩ : ∃ k', k = k' + 1 := by
          cases k with
          | zero => exfalso; simp at hrk; omega
          | succ k' => exact ⟨k', rfl⟩
        have hstep := fr_step hrk
        have hdg : Lib.decDigits a = [UInt8.ofNat (48 + a)] := Lib.decDigits_one (by omega)
        have hT2 : (T ++ [UInt8.ofNat (48 + a)]) ++ fr k' (b * 10) = prn false (u : Int) := by
          rw [← hT, fr, if_neg hr0, ← ha, ← hb]; simp
        simp [h5, h6, hr0', hrp, g1, g2, g6, g7]
        refine ac_same (rDigits_ok a (by omega)) (by simp) ?_
        rintro r' rfl
        rw [hdg]
        have hTl6 : T.length ≤ 9223372036854775806 := by omega
        have hTl' : T.length + 1 ≤ 9223372036854775807 := by omega
        simp [h5, h6, g3, g4, g5, hTl', hTl6]
        refine nx_intro k' (by omega) ⟨k', b * 10, T ++ [UInt8.ofNat (48 + a)], rfl, by omega, by omega, by rw [hb]; exact hstep, by simp, by simp, hT2, rfl⟩
end Go.Proofs.YtipncibiodfmdaaGreatDoor
