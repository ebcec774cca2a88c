/- Numbers as text: Print. -/
import Derived.Test.YtipncibiodfmdaaGreatDoorDcE
set_option linter.unusedSimpArgs false
set_option linter.unusedVariables false
set_option linter.constructorNameAsVariable false
set_option maxHeartbeats 2000000
namespace Go.Dec
/-- Digits of a part of one, to so many places. -/
def dgs : Nat → Nat → List UInt8
  | 0, _ => []
  | k + 1, p => UInt8.ofNat (48 + p / 100000) :: dgs k (p % 100000 * 10)
def fr : Nat → Nat → List UInt8
  | 0, _ => []
  | k + 1, p => if p = 0 then [] else UInt8.ofNat (48 + p / 100000) :: fr k (p % 100000 * 10)
def frac (p : Nat) : List UInt8 := if p = 0 then [] else 46 :: fr 6 p
def prn (null : Bool) (v : Int) : List UInt8 :=
  if null = true ∨ v = -9223372036854775808 then [78, 111, 110, 101]
  else (if v < 0 then [45] else []) ++ Lib.decDigits (v.natAbs / 1000000) ++ frac (v.natAbs % 1000000)

theorem trimR_cons (c : UInt8) (l : List UInt8) (d : UInt8) : Lib.trimRightB (d :: l) c = if Lib.trimRightB l c = [] then (if d = c then [] else [d]) else d :: Lib.trimRightB l c := by
  unfold Lib.trimRightB
  rw [List.reverse_cons, List.dropWhile_append]
  by_cases h : l.reverse.dropWhile (· == c) = []
  · simp only [h, List.reverse_nil, if_true, List.isEmpty_nil]
    by_cases hd : d = c
    · simp [hd]
    · have : (d == c) = false := by simpa using hd
      simp [hd, this]
  · have h' : ¬ (l.reverse.dropWhile (· == c)).reverse = [] := by simpa using h
    have h2 : (l.reverse.dropWhile (· == c)).isEmpty = false := by cases hx : l.reverse.dropWhile (· == c) with
      | nil => exact absurd hx h
      | cons => rfl
    simp only [h2, if_neg h']
    simp
theorem ofNat_inj {a b : Nat} (ha : a < 256) (hb : b < 256) (h : UInt8.ofNat a = UInt8.ofNat b) : a = b := by
  have := congrArg UInt8.toNat h
  simpa [UInt8.toNat_ofNat', Nat.mod_eq_of_lt ha, Nat.mod_eq_of_lt hb] using this
theorem fr_trim : ∀ (k p : Nat), p < 1000000 → p * 10 ^ k % 1000000 = 0 → Lib.trimRightB (dgs k p) 48 = fr k p ∧ (fr k p = [] ↔ p = 0)
  | 0, p, h, hm => by
    have : p = 0 := by simp at hm; omega
    exact ⟨rfl, by simp [fr, this]⟩
  | k + 1, p, h, hm => by
    have hq : (p % 100000 * 10) * 10 ^ k % 1000000 = 0 := by
      have e : p * 10 ^ (k + 1) = (p % 100000 * 10) * 10 ^ k + p / 100000 * 10 ^ k * 1000000 := by
        have := Nat.div_add_mod p 100000
        rw [Nat.pow_succ]
        generalize p / 100000 = a at *
        generalize p % 100000 = b at *
        rw [← this, Nat.add_mul, ← Nat.mul_assoc, ← Nat.mul_assoc, Nat.mul_assoc 100000, Nat.mul_right_comm b 10]
        omega
      rw [e] at hm
      omega
    obtain ⟨h1, h2⟩ := fr_trim k (p % 100000 * 10) (by omega) hq
    simp only [dgs, trimR_cons, h1, fr]
    by_cases hp : p = 0
    · subst hp
      have : fr k (0 % 100000 * 10) = [] := h2.2 rfl
      simp [this]
    · rw [if_neg hp]
      refine ⟨?_, by simp [hp]⟩
      by_cases hr : p % 100000 * 10 = 0
      · have hf : fr k (p % 100000 * 10) = [] := h2.2 hr
        rw [hf, if_pos rfl]
        have hd : ¬ UInt8.ofNat (48 + p / 100000) = 48 := fun he => by
          have := ofNat_inj (a := 48 + p / 100000) (b := 48) (by omega) (by omega) he
          omega
        rw [if_neg hd]
      · have hf : ¬ fr k (p % 100000 * 10) = [] := fun h => hr (h2.1 h)
        rw [if_neg hf]
theorem digits7 (p : Nat) (h : p < 1000000) : Lib.decDigits (1000000 + p) = 49 :: dgs 6 p := by
  have hn : Lib.nDigits (1000000 + p) = 7 := Lib.nDigits_unique 6 _ (by omega) (by omega)
  rw [Lib.decDigits_eq, hn]
  simp only [List.range, List.range.loop, List.map_cons, List.map_nil, Lib.dg, dgs, List.cons.injEq, and_true]
  refine ⟨?_, ?_, ?_, ?_, ?_, ?_, ?_⟩
  · rw [show 48 + (1000000 + p) / 10 ^ (7 - 1 - 0) % 10 = 49 by simp; omega]; rfl
  all_goals (congr 1; simp; omega)
theorem frac_trim {p : Nat} (h : p < 1000000) (h0 : p ≠ 0) : Lib.trimRightB ((Lib.decDigits (1000000 + p)).drop 1) 48 = fr 6 p := by
  rw [digits7 p h]
  exact (fr_trim 6 p h (by omega)).1
theorem fr_len : ∀ (k p : Nat), (fr k p).length ≤ k
  | 0, p => by simp [fr]
  | k + 1, p => by
    have := fr_len k (p % 100000 * 10)
    unfold fr; split <;> simp; omega
end Go.Dec
namespace Go.Abs
theorem bytesOf_byteEls : ∀ l : List UInt8, bytesOf (byteEls l) = some l
  | [] => rfl
  | c :: l => by
    have := bytesOf_byteEls l
    simp only [byteEls, List.map_cons] at this ⊢
    simp only [bytesOf, this, Option.map_some]
    simp
end Go.Abs
namespace Go.Proofs.YtipncibiodfmdaaGreatDoor
open Go.Abs Go.Dec
variable {G : Globs}

theorem dPrint_ok [GPow] (nl : Bool) (v : Int) (h0 : -9223372036854775808 ≤ v) (h1 : v ≤ 9223372036854775807) : PCalls Tryz.prog n_decimal_Print [.agg [.bool nl, .int .i64 v]] (fun r => r = .str (prn nl v)) := by
  refine pcalls_of_awp hmix c_decimal_Print rfl ?_
  simp [a_decimal_Print]
  cases nl with
  | true => simp [prn]
  | false =>
  simp
  by_cases hmin : v = -9223372036854775808
  · simp [hmin, prn]
  simp [hmin]
  obtain ⟨u, hu⟩ : ∃ u : Nat, u = v.natAbs := ⟨_, rfl⟩
  have hu64 : u < 9223372036854775808 := by omega
  have hprn : prn false v = (if v < 0 then [45] else []) ++ Lib.decDigits (u / 1000000) ++ frac (u % 1000000) := by
    simp [prn, hmin, hu]
  obtain ⟨q, hq⟩ : ∃ q, q = u / 1000000 := ⟨_, rfl⟩
  obtain ⟨p, hpp⟩ : ∃ p, p = u % 1000000 := ⟨_, rfl⟩
  rw [← hq, ← hpp] at hprn
  have hdl := decDigits_le q (by omega)
  have hq1 : (u : Int).tdiv 1000000 = (q : Int) := by rw [Int.tdiv_eq_ediv_of_nonneg (by omega)]; omega
  have hq2 : (u : Int) / 1000000 = (q : Int) := by omega
  have hwq : IntKind.i64.wrap (q : Int) = (q : Int) := wrap_i64 (by omega) (by omega)
  have hp1 : (u : Int).tmod 1000000 = (p : Int) := by rw [Int.tmod_eq_emod_of_nonneg (by omega)]; omega
  have hp2 : (u : Int) % 1000000 = (p : Int) := by omega
  have hp : p < 1000000 := by omega
  have hwp : IntKind.i64.wrap (1000000 + (p : Int)) = 1000000 + (p : Int) := wrap_i64 (by omega) (by omega)
  have hitoa : Lib.itoa (1000000 + (p : Int)) = Lib.decDigits (1000000 + p) := by have := itoa_nat (1000000 + p); rwa [show ((1000000 + p : Nat) : Int) = 1000000 + (p : Int) by omega] at this
  have hd7 : (Lib.decDigits (1000000 + p)).length = 7 := by rw [digits7 _ hp]; rfl
  have hfrl := fr_len 6 p
  have htl : ((Lib.decDigits (1000000 + p)).drop 1).length ≤ 9223372036854775807 := by simp [hd7]
  by_cases hneg : v < 0
  · have hwn : IntKind.i64.wrap (-v) = (u : Int) := by rw [wrap_i64 (by omega) (by omega)]; omega
    simp [hneg]
    refine ap_new false [[.int .u8 45]] (by simp) (by omega) (by simp) (by simp) (by simp) (by simp) ?_
    simp [hwn, hq1, hq2, hwq]
    refine ac_eff (appendInt_row (els := [[.int .u8 45]]) (by simp) q (by omega) (by simp) (by simp [AV.pure])) ?_
    rintro r σ' ⟨rfl, rfl⟩
    have hby : [[AV.int .u8 45]] ++ byteEls (Lib.decDigits q) = byteEls (45 :: Lib.decDigits q) := by simp [byteEls]
    have hby2 : [AV.int .u8 45] :: byteEls (Lib.decDigits q) = byteEls (45 :: Lib.decDigits q) := by simp [byteEls]
    have hbl : (byteEls (Lib.decDigits q)).length + 1 = 1 + (Lib.decDigits q).length := by simp [byteEls]; omega
    have hb45 : bytesOf ([AV.int .u8 45] :: byteEls (Lib.decDigits q)) = some (45 :: Lib.decDigits q) := by rw [hby2]; exact bytesOf_byteEls _
    simp [hp1, hp2]
    by_cases hp0 : p = 0
    · have hp0' : (p : Int) = 0 := by omega
      simp [hp0, hbl, hb45, hprn, hneg, frac]
    · have hp0' : ¬ (p : Int) = 0 := by omega
      simp [hp0, hp0', hwp]
      refine ac_same (formatInt_ok _ (by omega) (by omega)) (by simp) ?_
      rintro r rfl
      rw [hitoa]
      have hD6 : (dgs 6 p).length = 6 := rfl
      have hD6' : (dgs 6 p).take 6 = dgs 6 p := List.take_of_length_le (by omega)
      have htr := (fr_trim 6 p hp (by omega)).1
      rw [digits7 _ hp]
      generalize dgs 6 p = D at *
      have hlenA2 : (Lib.decDigits q).length ≤ 9223372036854775805 := by omega
      have hlenB2 : (Lib.decDigits q).length + 1 + 1 + (fr 6 p).length ≤ 9223372036854775807 := by omega
      have hlenA : (Lib.decDigits q).length + 1 ≤ 9223372036854775807 := by omega
      have hlenB : (Lib.decDigits q).length + 1 + (fr 6 p).length ≤ 9223372036854775807 := by omega
      simp [hD6, hD6', hbl, hb45, hlenA, hlenA2]
      refine qc_same (trimRight_ok D (by rw [hD6]; omega)) (by simp) (by simp) ?_
      rw [htr]
      simp [hprn, hneg, frac, hp0, hlenB, hlenB2]
  · have hv : v = (u : Int) := by omega
    simp [hneg]
    rw [hv]
    simp [hq1, hq2, hwq]
    refine ac_same (appendInt_nil q (by omega)) (by simp) ?_
    rintro r rfl
    simp [hp1, hp2]
    by_cases hp0 : p = 0
    · have hp0' : (p : Int) = 0 := by omega
      simp [hp0, bytesOf_byteEls]
      rw [← hv, hprn]
      simp [hneg, hp0, frac]
    · have hp0' : ¬ (p : Int) = 0 := by omega
      simp [hp0, hp0', hwp]
      refine ac_same (formatInt_ok _ (by omega) (by omega)) (by simp) ?_
      rintro r rfl
      rw [hitoa]
      have hD6 : (dgs 6 p).length = 6 := rfl
      have hD6' : (dgs 6 p).take 6 = dgs 6 p := List.take_of_length_le (by omega)
      have htr := (fr_trim 6 p hp (by omega)).1
      rw [digits7 _ hp]
      generalize dgs 6 p = D at *
      have hlenA2 : (Lib.decDigits q).length ≤ 9223372036854775805 := by omega
      have hlenB2 : (Lib.decDigits q).length + 1 + 1 + (fr 6 p).length ≤ 9223372036854775807 := by omega
      have hlenA : (Lib.decDigits q).length + 1 ≤ 9223372036854775807 := by omega
      have hlenB : (Lib.decDigits q).length + 1 + (fr 6 p).length ≤ 9223372036854775807 := by omega
      simp [hD6, hD6', bytesOf_byteEls, hlenA, hlenA2]
      refine qc_same (trimRight_ok D (by rw [hD6]; omega)) (by simp) (by simp) ?_
      rw [htr]
      simp [hlenB]
      rw [← hv, hprn]
      simp [hneg, frac, hp0]
end Go.Proofs.YtipncibiodfmdaaGreatDoor
