/- Numbers: the document's numbers. -/
import Derived.Test.YtipncibiodfmdaaGreatDoorNuE
set_option linter.unusedSimpArgs false
set_option linter.unusedVariables false
set_option linter.constructorNameAsVariable false
set_option maxHeartbeats 2000000
namespace Go.Num
open Go.Abs
theorem numA_eq (n : N) : numA n = .agg [.bool n.1, .int .i64 n.2] := rfl
theorem sgn_abs (v : Int) : sgn (decide (v < 0)) v.natAbs = v := by
  unfold sgn; by_cases h : v < 0 <;> simp [h] <;> omega
end Go.Num
namespace Go.Proofs.YtipncibiodfmdaaGreatDoor
open Go.Abs Go.Num
variable {G : Globs}
theorem rnRight_ok (n : N) (h : okN n) : PCalls Tryz.prog n_isobarref02_Right [numA n] (fun r => r = .bool (rightN n)) := by
  refine pcalls_of_awp hmix c_isobarref02_Right rfl ?_
  obtain ⟨b, v⟩ := n
  obtain ⟨h1, h2⟩ := h
  simp only at h1 h2
  cases b
  · have e : (!decide (v = -9223372036854775808)) = decide (-most ≤ v) := by
      unfold most
      by_cases h : v = -9223372036854775808
      · have : ¬ (-9223372036854775807 ≤ v) := by omega
        simp [h]
      · have : -9223372036854775807 ≤ v := by omega
        simp [h, this]
    simp [a_isobarref02_Right, numA, rightN]
    rw [← e]; simp
  · simp [a_isobarref02_Right, numA, rightN]
theorem right_good (n : N) : (rightN n && !n.1) = good n := by
  obtain ⟨b, v⟩ := n
  cases b <;> simp [rightN, good]
theorem rIs_ok (n : N) (h : okN n) : PCalls Tryz.prog n_isobarref02_is [numA n] (fun r => r = .bool (good n)) := by
  refine pcalls_of_awp hmix c_isobarref02_is rfl ?_
  have k := rnRight_ok (G := G) n h
  have hg := right_good n
  rw [numA_eq] at k ⊢
  simp [a_isobarref02_is]
  refine ac_same k (by simp) ?_
  rintro r rfl
  cases hr : rightN n
  · rw [hr] at hg; simp at hg; simp [hg]
  · rw [hr] at hg; simp at hg; simp [← hg]
theorem rNothing_ok : PCalls Tryz.prog n_isobarref02_Nothing [] (fun r => r = numA nothing) := by
  refine pcalls_of_awp hmix c_isobarref02_Nothing rfl ?_
  simp [a_isobarref02_Nothing, numA, nothing]
theorem rOf_ok (v : Int) (h0 : -9223372036854775808 ≤ v) (h1 : v ≤ 9223372036854775807) : PCalls Tryz.prog n_isobarref02_Of [.int .i64 v] (fun r => r = numA (tell v)) := by
  refine pcalls_of_awp hmix c_isobarref02_Of rfl ?_
  have k := rnRight_ok (G := G) (false, v) ⟨h0, h1⟩
  rw [numA_eq] at k
  simp [a_isobarref02_Of]
  refine ac_same k (by simp) ?_
  rintro r rfl
  by_cases hv : -9223372036854775807 ≤ v
  · have e : tell v = (false, v) := by unfold tell most; rw [if_pos]; omega
    simp [rightN, most, hv, e, numA]
  · have e : tell v = nothing := by unfold tell most; rw [if_neg]; omega
    simp [rightN, most, hv, e]
    refine ac_same rNothing_ok (by simp) ?_
    rintro r rfl
    simp [numA, e]
theorem rSize_ok (v : Int) (h0 : -9223372036854775808 ≤ v) (h1 : v ≤ 9223372036854775807) : PCalls Tryz.prog n_isobarref02_size [.int .i64 v] (fun r => r = .int .u64 v.natAbs) := by
  refine pcalls_of_awp hmix c_isobarref02_size rfl ?_
  simp [a_isobarref02_size]
  refine cb_dec (fun hlt => ?_) (fun hge => ?_)
  · have w1 : IntKind.i64.wrap (v + 1) = v + 1 := wrap_i (by omega) (by omega)
    have w2 : IntKind.i64.wrap (-(v + 1)) = -(v + 1) := wrap_i (by omega) (by omega)
    have w2' : IntKind.i64.wrap (-1 + -v) = -(v + 1) := by rw [wrap_i (by omega) (by omega)]; omega
    have w3 : IntKind.u64.wrap (-(v + 1)) = -(v + 1) := by rw [wrap_u]; omega
    have w4 : IntKind.u64.wrap (-(v + 1) + 1) = -v := by rw [wrap_u]; omega
    simp [w1, w2, w2', w3, w4]
    omega
  · have w : IntKind.u64.wrap v = v := by rw [wrap_u]; omega
    simp [w]
    omega
theorem rSigned_ok (n : Nat) (hn : n < 18446744073709551616) (b : Bool) : PCalls Tryz.prog n_isobarref02_signed [.int .u64 n, .bool b] (fun r => r = numA (tell (sgn b n))) := by
  refine pcalls_of_awp hmix c_isobarref02_signed rfl ?_
  simp [a_isobarref02_signed]
  refine cb_dec (fun hlt => ?_) (fun hge => ?_)
  · simp
    refine ac_same rNothing_ok (by simp) ?_
    rintro r rfl
    have : tell (sgn b n) = nothing := by
      unfold tell sgn most
      cases b <;> simp <;> omega
    simp [this, numA]
  · have hw : IntKind.i64.wrap (n : Int) = n := wrap_i (by omega) (by omega)
    have hw2 : IntKind.i64.wrap (-(n : Int)) = -n := wrap_i (by omega) (by omega)
    cases b
    · have : tell (sgn false n) = (false, (n : Int)) := by
        unfold tell sgn most; simp; omega
      simp [hw, this, numA]
    · have : tell (sgn true n) = (false, -(n : Int)) := by
        unfold tell sgn most; simp; omega
      simp [hw, hw2, this, numA]
theorem rInt_ok (n : Int) (h0 : -9223372036854775808 ≤ n) (h1 : n ≤ 9223372036854775807) : PCalls Tryz.prog n_isobarref02_Int [.int .i64 n] (fun r => r = numA (tell (n * 1000000))) := by
  refine pcalls_of_awp hmix c_isobarref02_Int rfl ?_
  simp [a_isobarref02_Int]
  refine ac_same (rSize_ok n h0 h1) (by simp) ?_
  rintro r rfl
  obtain ⟨s, hs⟩ : ∃ s, s = n.natAbs := ⟨_, rfl⟩
  obtain ⟨h, hh⟩ : ∃ x, x = s * 1000000 / 18446744073709551616 := ⟨_, rfl⟩
  obtain ⟨l, hl⟩ : ∃ x, x = s * 1000000 % 18446744073709551616 := ⟨_, rfl⟩
  have k := rMul_ok (G := G) s 1000000 (by omega) (by decide)
  rw [wA_eq hh hl] at k
  rw [← hs]
  simp
  refine ac_same k (by simp) ?_
  rintro r rfl
  by_cases hz : h = 0
  · have hsg : sgn (decide (n < 0)) l = n * 1000000 := by
      unfold sgn; by_cases hn : n < 0 <;> simp [hn] <;> omega
    simp [hz]
    refine ac_same (rSigned_ok l (by omega) (decide (n < 0))) (by simp) ?_
    rintro r rfl
    rw [hsg]
    simp [numA]
  · have hz' : ¬ (h : Int) = 0 := by omega
    have : tell (n * 1000000) = nothing := by unfold tell most; rw [if_neg]; omega
    simp [hz, hz', this]
    refine ac_same rNothing_ok (by simp) ?_
    rintro r rfl
    simp [this, numA]
theorem rnAdd_ok (a b : N) (ha : okN a) (hb : okN b) : PCalls Tryz.prog n_isobarref02_Add [numA a, numA b] (fun r => r = numA (addN a b)) := by
  refine pcalls_of_awp hmix c_isobarref02_Add rfl ?_
  have ka := rIs_ok (G := G) a ha
  have kb := rIs_ok (G := G) b hb
  obtain ⟨a1, a2⟩ := ha
  obtain ⟨b1, b2⟩ := hb
  rw [numA_eq] at ka kb
  rw [numA_eq a, numA_eq b]
  simp [a_isobarref02_Add]
  refine ac_same ka (by simp) ?_
  rintro r rfl
  cases hga : good a with
  | false =>
    simp
    refine ac_same rNothing_ok (by simp) ?_
    rintro r rfl
    simp [addN, hga, numA]
  | true =>
    simp
    refine ac_same kb (by simp) ?_
    rintro r rfl
    cases hgb : good b with
    | false =>
      simp
      refine ac_same rNothing_ok (by simp) ?_
      rintro r rfl
      simp [addN, hga, hgb, numA]
    | true =>
      have va := (good_iff.1 hga).2
      have vb := (good_iff.1 hgb).2
      simp only [most] at va vb
      have e : addN a b = tell (a.2 + b.2) := by simp [addN, hga, hgb]
      rw [e]
      by_cases hs : (decide (a.2 < 0)) = (decide (b.2 < 0))
      · have hs' : (decide (a.2 < 0) == decide (b.2 < 0)) = true := by simp [hs]
        have hsi : (a.2 < 0 ↔ b.2 < 0) := by simpa using hs
        have hw : IntKind.u64.wrap ((a.2.natAbs : Int) + b.2.natAbs) = ((a.2.natAbs + b.2.natAbs : Nat) : Int) := by rw [wrap_u]; omega
        obtain ⟨sa, hsa⟩ : ∃ s, s = a.2.natAbs := ⟨_, rfl⟩
        obtain ⟨sb, hsb⟩ : ∃ s, s = b.2.natAbs := ⟨_, rfl⟩
        obtain ⟨sc, hsc⟩ : ∃ s, s = sa + sb := ⟨_, rfl⟩
        rw [← hsa, ← hsb, ← hsc] at hw
        have ksa := rSize_ok (G := G) a.2 a1 a2
        have ksb := rSize_ok (G := G) b.2 b1 b2
        rw [← hsa] at ksa
        rw [← hsb] at ksb
        have hsg : sgn (decide (a.2 < 0)) sc = a.2 + b.2 := by
          unfold sgn; by_cases hn : a.2 < 0 <;> simp [hn] <;> omega
        simp [hs']
        refine qc_same ksa (by simp) (by simp) ?_
        simp
        refine qc_same ksb (by simp) (by simp) ?_
        simp [hw]
        refine qc_same (rSigned_ok sc (by omega) (decide (a.2 < 0))) (by simp) (by simp [numA]) ?_
        rw [hsg]
        simp [numA]
      · have hs' : (decide (a.2 < 0) == decide (b.2 < 0)) = false := by simpa using hs
        have hsi : ¬ (a.2 < 0 ↔ b.2 < 0) := by simpa using hs
        have hw : IntKind.i64.wrap (a.2 + b.2) = a.2 + b.2 := wrap_i (by omega) (by omega)
        have ht : tell (a.2 + b.2) = (false, a.2 + b.2) := by unfold tell most; rw [if_pos]; omega
        rw [ht]
        simp [hs', hw, numA]
theorem rnDiv_ok (a b : N) (ha : okN a) (hb : okN b) : PCalls Tryz.prog n_isobarref02_Div [numA a, numA b] (fun r => r = numA (divN a b)) := by
  refine pcalls_of_awp hmix c_isobarref02_Div rfl ?_
  have ka := rIs_ok (G := G) a ha
  have kb := rIs_ok (G := G) b hb
  obtain ⟨a1, a2⟩ := ha
  obtain ⟨b1, b2⟩ := hb
  rw [numA_eq] at ka kb
  rw [numA_eq a, numA_eq b]
  simp [a_isobarref02_Div]
  refine ac_same ka (by simp) ?_
  rintro r rfl
  cases hga : good a with
  | false =>
    simp
    refine ac_same rNothing_ok (by simp) ?_
    rintro r rfl
    simp [divN, hga, numA]
  | true =>
    simp
    refine ac_same kb (by simp) ?_
    rintro r rfl
    cases hgb : good b with
    | false =>
      simp
      refine ac_same rNothing_ok (by simp) ?_
      rintro r rfl
      simp [divN, hga, hgb, numA]
    | true =>
      have va := (good_iff.1 hga).2
      have vb := (good_iff.1 hgb).2
      simp only [most] at va vb
      by_cases hb0 : b.2 = 0
      · simp [hb0]
        refine ac_same rNothing_ok (by simp) ?_
        rintro r rfl
        simp [divN, hga, hgb, hb0, numA]
      · obtain ⟨sa, hsa⟩ : ∃ s, s = a.2.natAbs := ⟨_, rfl⟩
        obtain ⟨sb, hsb⟩ : ∃ s, s = b.2.natAbs := ⟨_, rfl⟩
        have e : divN a b = tell (sgn (decide (a.2 < 0) != decide (b.2 < 0)) (rnd (sa * 1000000) sb)) := by simp [divN, hga, hgb, hb0, hsa, hsb]
        rw [e]
        have ksa := rSize_ok (G := G) a.2 a1 a2
        have ksb := rSize_ok (G := G) b.2 b1 b2
        rw [← hsa] at ksa
        rw [← hsb] at ksb
        have km := rMul_ok (G := G) sa 1000000 (by omega) (by decide)
        have hxy : sa * 1000000 < 340282366920938463463374607431768211456 := by omega
        have kr := rRound_ok (G := G) (sa * 1000000) sb hxy (by omega)
        have hsb0 : ¬ sb = 0 := by omega
        rw [if_neg hsb0] at kr
        obtain ⟨h, hh⟩ : ∃ x, x = sa * 1000000 / 18446744073709551616 := ⟨_, rfl⟩
        obtain ⟨l, hl⟩ : ∃ x, x = sa * 1000000 % 18446744073709551616 := ⟨_, rfl⟩
        rw [wA_eq hh hl] at km kr
        obtain ⟨q, hq⟩ : ∃ q, q = rnd (sa * 1000000) sb := ⟨_, rfl⟩
        rw [← hq] at kr ⊢
        simp [hb0]
        refine qc_same ksa (by simp) (by simp) ?_
        simp
        refine qc_same km (by simp) (by simp) ?_
        simp
        refine qc_same ksb (by simp) (by simp) ?_
        simp
        by_cases hqM : q < 18446744073709551616
        · rw [if_pos hqM] at kr
          refine qc_same kr (by simp) (by simp) ?_
          simp
          refine ac_same (rSigned_ok q hqM (decide (a.2 < 0) != decide (b.2 < 0))) (by simp) ?_
          rintro r rfl
          simp [numA]
        · rw [if_neg hqM] at kr
          have : tell (sgn (decide (a.2 < 0) != decide (b.2 < 0)) q) = nothing := by
            unfold tell sgn most
            cases (decide (a.2 < 0) != decide (b.2 < 0)) <;> simp <;> omega
          rw [this]
          refine qc_same kr (by simp) (by simp) ?_
          simp
          refine ac_same rNothing_ok (by simp) ?_
          rintro r rfl
          simp [numA]
theorem rnLess_ok (a b : N) (ha : okN a) (hb : okN b) : PCalls Tryz.prog n_isobarref02_Less [numA a, numA b] (fun r => r = numA (lessN a b)) := by
  refine pcalls_of_awp hmix c_isobarref02_Less rfl ?_
  have ka := rIs_ok (G := G) a ha
  have kb := rIs_ok (G := G) b hb
  rw [numA_eq] at ka kb
  rw [numA_eq a, numA_eq b]
  simp [a_isobarref02_Less]
  refine ac_same ka (by simp) ?_
  rintro r rfl
  cases hga : good a with
  | false =>
    simp
    refine ac_same kb (by simp) ?_
    rintro r rfl
    cases hgb : good b with
    | false =>
      simp
      refine ac_same rNothing_ok (by simp) ?_
      rintro r rfl
      simp [lessN, hga, hgb, numA]
    | true =>
      simp
      refine ac_same ka (by simp) ?_
      rintro r rfl
      simp [hga, lessN, hgb, numA]
  | true =>
    simp
    refine ac_same ka (by simp) ?_
    rintro r rfl
    simp [hga]
    refine ac_same kb (by simp) ?_
    rintro r rfl
    cases hgb : good b with
    | false => simp [lessN, hga, hgb, numA]
    | true =>
      by_cases hle : a.2 ≤ b.2
      · simp [lessN, hga, hgb, hle, numA]
      · simp [lessN, hga, hgb, hle, numA]
theorem rnMore_ok (a b : N) (ha : okN a) (hb : okN b) : PCalls Tryz.prog n_isobarref02_More [numA a, numA b] (fun r => r = numA (moreN a b)) := by
  refine pcalls_of_awp hmix c_isobarref02_More rfl ?_
  have ka := rIs_ok (G := G) a ha
  have kb := rIs_ok (G := G) b hb
  rw [numA_eq] at ka kb
  rw [numA_eq a, numA_eq b]
  simp [a_isobarref02_More]
  refine ac_same ka (by simp) ?_
  rintro r rfl
  cases hga : good a with
  | false =>
    simp
    refine ac_same kb (by simp) ?_
    rintro r rfl
    cases hgb : good b with
    | false =>
      simp
      refine ac_same rNothing_ok (by simp) ?_
      rintro r rfl
      simp [moreN, hga, hgb, numA]
    | true =>
      simp
      refine ac_same ka (by simp) ?_
      rintro r rfl
      simp [hga, moreN, hgb, numA]
  | true =>
    simp
    refine ac_same ka (by simp) ?_
    rintro r rfl
    simp [hga]
    refine ac_same kb (by simp) ?_
    rintro r rfl
    cases hgb : good b with
    | false => simp [moreN, hga, hgb, numA]
    | true =>
      by_cases hle : b.2 ≤ a.2
      · simp [moreN, hga, hgb, hle, numA]
      · simp [moreN, hga, hgb, hle, numA]
end Go.Proofs.YtipncibiodfmdaaGreatDoor
