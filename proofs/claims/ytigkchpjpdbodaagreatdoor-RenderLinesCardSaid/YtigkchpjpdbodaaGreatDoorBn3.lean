/- Numbers as text: Whole, and the document's Parse and Whole. Numbers as text: Whole, and the document's. Numbers as text: Print. Numbers as text: the l -/
import Derived.Lib.IndexLaws
import Derived.Test.YtigkchpjpdbodaaGreatDoorBn1
import Derived.Test.YtigkchpjpdbodaaGreatDoorBn2
set_option linter.unusedSimpArgs false
set_option linter.unusedVariables false
set_option linter.constructorNameAsVariable false
section
set_option maxHeartbeats 2000000
namespace Go.Dec
/-- Digits, then what is none. -/
theorem tw_app {A R : List UInt8} (hA : A.all isD = true) (hR : ∀ c t, R = c :: t → isD c = false) : (A ++ R).takeWhile isD = A ∧ (A ++ R).dropWhile isD = R := by
  induction A with
  | nil =>
    cases R with
    | nil => simp
    | cons c t => simp [hR c t rfl]
  | cons a A ih =>
    simp only [List.all_cons, Bool.and_eq_true] at hA
    have := ih hA.2
    simp [hA.1, this.1, this.2]
theorem isD_pt : isD 46 = false := by decide
/-- How far a text has been read: the digits ahead of the first point, the digits behind it, the points. -/
def Rd (t A B : List UInt8) (pts : Nat) : Prop := A.all isD = true ∧ B.all isD = true ∧
  ((pts = 0 ∧ t = A ∧ B = []) ∨ (pts = 1 ∧ t = A ++ 46 :: B) ∨ (2 ≤ pts ∧ ∃ C, t = A ++ 46 :: C ∧ 46 ∈ C))
theorem Rd.end {t A B : List UInt8} {pts : Nat} (h : Rd t A B pts) : parts t = if A.length + B.length = 0 ∨ 1 < pts then none else some (A, B) := by
  obtain ⟨hA, hB, ⟨rfl, rfl, rfl⟩ | ⟨rfl, rfl⟩ | ⟨hp, C, rfl, hC⟩⟩ := h
  · have := tw_app (R := []) hA (fun c t h => by simp at h)
    simp only [List.append_nil] at this
    unfold parts
    simp only [this.1, this.2]
    by_cases h0 : t = []
    · simp [h0]
    · simp [h0]
  · have := tw_app (R := 46 :: B) hA (fun c t h => by cases h; exact isD_pt)
    have h2 := tw_app (R := []) hB (fun c t h => by simp at h)
    simp only [List.append_nil] at h2
    unfold parts
    simp only [this.1, this.2, h2.2]
    by_cases h0 : A = [] ∧ B = []
    · simp [h0.1, h0.2]
    · have : ¬ (A.length + B.length = 0) := fun he => h0 ⟨List.eq_nil_of_length_eq_zero (by omega), List.eq_nil_of_length_eq_zero (by omega)⟩
      have h3 : A = [] → ¬ B = [] := fun ha hb => h0 ⟨ha, hb⟩
      simp
      rw [if_pos h3, if_neg h0]
  · have := tw_app (R := 46 :: C) hA (fun c t h => by cases h; exact isD_pt)
    unfold parts
    simp only [this.1, this.2]
    have hd : ¬ C.dropWhile isD = [] := fun he => by
      have := tw_all C he
      have h1 := all_tw C
      rw [this, List.all_eq_true] at h1
      have := h1 46 hC
      simp [isD_pt] at this
    simp [hd]; omega
theorem Rd.bad {t A B r : List UInt8} {pts : Nat} {c : UInt8} (h : Rd t A B pts) (h1 : isD c = false) (h2 : c ≠ 46) : parts (t ++ c :: r) = none := by
  obtain ⟨hA, hB, ⟨rfl, rfl, rfl⟩ | ⟨rfl, rfl⟩ | ⟨hp, C, rfl, hC⟩⟩ := h
  · have := tw_app (R := c :: r) hA (fun c t h => by cases h; exact h1)
    unfold parts
    simp only [this.1, this.2]
    simp [h2]
  · have := tw_app (R := 46 :: (B ++ c :: r)) hA (fun c t h => by cases h; exact isD_pt)
    have h2 := tw_app (R := c :: r) hB (fun c t h => by cases h; exact h1)
    unfold parts
    simp only [List.append_assoc, List.cons_append, this.1, this.2, h2.2]
    simp
  · have := tw_app (R := 46 :: (C ++ c :: r)) hA (fun c t h => by cases h; exact isD_pt)
    unfold parts
    simp only [List.append_assoc, List.cons_append, this.1, this.2]
    have hd : ¬ (C ++ c :: r).dropWhile isD = [] := fun he => by
      have := tw_all _ he
      have h1 := all_tw (C ++ c :: r)
      rw [this, List.all_eq_true] at h1
      have := h1 46 (by simp [hC])
      simp [isD_pt] at this
    simp [hd]
/-- The number so far, or far beyond. -/
def Num (l : List UInt8) (n : Nat) (far : Bool) : Prop := n ≤ 11529215046068469769 ∧ (far = false → n = dval 0 l) ∧ (far = true → 1152921504606846976 < n ∧ 9223372036854775807 < dval 0 l)
theorem Num.far {l : List UInt8} {n : Nat} {far : Bool} {c : UInt8} (h : Num l n far) (hn : 1152921504606846976 < n) : Num (l ++ [c]) n true := by
  refine ⟨h.1, by simp, fun _ => ⟨hn, ?_⟩⟩
  have e : dval 0 (l ++ [c]) = dval 0 l * 10 + dig c := by rw [dval_append, dval_cons, dval_nil]
  rw [e]
  cases far with
  | false => have := h.2.1 rfl; omega
  | true => have := (h.2.2 rfl).2; omega
theorem Num.step {l : List UInt8} {n : Nat} {far : Bool} {c : UInt8} (h : Num l n far) (hn : n ≤ 1152921504606846976) (hc : dig c ≤ 9) : far = false ∧ Num (l ++ [c]) (n * 10 + dig c) far := by
  have hf : far = false := by
    cases far with
    | false => rfl
    | true => have := (h.2.2 rfl).1; omega
  subst hf
  have e : dval 0 (l ++ [c]) = dval 0 l * 10 + dig c := by rw [dval_append, dval_cons, dval_nil]
  refine ⟨rfl, by omega, fun _ => ?_, by simp⟩
  rw [e, ← h.2.1 rfl]
end Go.Dec
namespace Go.Proofs.YtigkchpjpdbodaaGreatDoor
open Go.Abs Go.Dec
variable {G : Globs}
theorem wrap_u64 {x : Int} (h1 : 0 ≤ x) (h2 : x ≤ 18446744073709551615) : IntKind.u64.wrap x = x := by
  simp [IntKind.wrap, IntKind.signed, IntKind.bits]; omega
end Go.Proofs.YtigkchpjpdbodaaGreatDoor
end
section
set_option maxHeartbeats 2000000
namespace Go.Proofs.YtigkchpjpdbodaaGreatDoor
open Go.Abs Go.Dec
variable {G : Globs}
end Go.Proofs.YtigkchpjpdbodaaGreatDoor
end
section
set_option maxHeartbeats 2000000
namespace Go.Dec
/-- Digits of a part of one, to so many places. -/
def dgs : Nat → Nat → List UInt8
  | 0, _ => []
  | k + 1, p => UInt8.ofNat (48 + p / 100000) :: dgs k (p % 100000 * 10)
def fr : Nat → Nat → List UInt8
  | 0, _ => []
  | k + 1, p => if p = 0 then [] else UInt8.ofNat (48 + p / 100000) :: fr k (p % 100000 * 10)
def frac (p : Nat) : List UInt8 := if p = 0 then [] else 46 :: fr 6 p
def prn (null : Bool) (v : Int) : List UInt8 :=
  if null = true ∨ v = -9223372036854775808 then [78, 111, 110, 101]
  else (if v < 0 then [45] else []) ++ Lib.decDigits (v.natAbs / 1000000) ++ frac (v.natAbs % 1000000)
theorem trimR_cons (c : UInt8) (l : List UInt8) (d : UInt8) : Lib.trimRightB (d :: l) c = if Lib.trimRightB l c = [] then (if d = c then [] else [d]) else d :: Lib.trimRightB l c := by
  unfold Lib.trimRightB
  rw [List.reverse_cons, List.dropWhile_append]
  by_cases h : l.reverse.dropWhile (· == c) = []
  · simp only [h, List.reverse_nil, if_true, List.isEmpty_nil]
    by_cases hd : d = c
    · simp [hd]
    · have : (d == c) = false := by simpa using hd
      simp [hd, this]
  · have h' : ¬ (l.reverse.dropWhile (· == c)).reverse = [] := by simpa using h
    have h2 : (l.reverse.dropWhile (· == c)).isEmpty = false := by cases hx : l.reverse.dropWhile (· == c) with
      | nil => exact absurd hx h
      | cons => rfl
    simp only [h2, if_neg h']
    simp
theorem ofNat_inj {a b : Nat} (ha : a < 256) (hb : b < 256) (h : UInt8.ofNat a = UInt8.ofNat b) : a = b := by
  have := congrArg UInt8.toNat h
  simpa [UInt8.toNat_ofNat', Nat.mod_eq_of_lt ha, Nat.mod_eq_of_lt hb] using this
theorem fr_trim : ∀ (k p : Nat), p < 1000000 → p * 10 ^ k % 1000000 = 0 → Lib.trimRightB (dgs k p) 48 = fr k p ∧ (fr k p = [] ↔ p = 0)
  | 0, p, h, hm => by
    have : p = 0 := by simp at hm; omega
    exact ⟨rfl, by simp [fr, this]⟩
  | k + 1, p, h, hm => by
    have hq : (p % 100000 * 10) * 10 ^ k % 1000000 = 0 := by
      have e : p * 10 ^ (k + 1) = (p % 100000 * 10) * 10 ^ k + p / 100000 * 10 ^ k * 1000000 := by
        have := Nat.div_add_mod p 100000
        rw [Nat.pow_succ]
        generalize p / 100000 = a at *
        generalize p % 100000 = b at *
        rw [← this, Nat.add_mul, ← Nat.mul_assoc, ← Nat.mul_assoc, Nat.mul_assoc 100000, Nat.mul_right_comm b 10]
        omega
      rw [e] at hm
      omega
    obtain ⟨h1, h2⟩ := fr_trim k (p % 100000 * 10) (by omega) hq
    simp only [dgs, trimR_cons, h1, fr]
    by_cases hp : p = 0
    · subst hp
      have : fr k (0 % 100000 * 10) = [] := h2.2 rfl
      simp [this]
    · rw [if_neg hp]
      refine ⟨?_, by simp [hp]⟩
      by_cases hr : p % 100000 * 10 = 0
      · have hf : fr k (p % 100000 * 10) = [] := h2.2 hr
        rw [hf, if_pos rfl]
        have hd : ¬ UInt8.ofNat (48 + p / 100000) = 48 := fun he => by
          have := ofNat_inj (a := 48 + p / 100000) (b := 48) (by omega) (by omega) he
          omega
        rw [if_neg hd]
      · have hf : ¬ fr k (p % 100000 * 10) = [] := fun h => hr (h2.1 h)
        rw [if_neg hf]
theorem digits7 (p : Nat) (h : p < 1000000) : Lib.decDigits (1000000 + p) = 49 :: dgs 6 p := by
  have hn : Lib.nDigits (1000000 + p) = 7 := Lib.nDigits_unique 6 _ (by omega) (by omega)
  rw [Lib.decDigits_eq, hn]
  simp only [List.range, List.range.loop, List.map_cons, List.map_nil, Lib.dg, dgs, List.cons.injEq, and_true]
  refine ⟨?_, ?_, ?_, ?_, ?_, ?_, ?_⟩
  · rw [show 48 + (1000000 + p) / 10 ^ (7 - 1 - 0) % 10 = 49 by simp; omega]; rfl
  all_goals (congr 1; simp; omega)
theorem fr_len : ∀ (k p : Nat), (fr k p).length ≤ k
  | 0, p => by simp [fr]
  | k + 1, p => by
    have := fr_len k (p % 100000 * 10)
    unfold fr; split <;> simp; omega
end Go.Dec
namespace Go.Abs
theorem bytesOf_byteEls : ∀ l : List UInt8, bytesOf (byteEls l) = some l
  | [] => rfl
  | c :: l => by
    have := bytesOf_byteEls l
    simp only [byteEls, List.map_cons] at this ⊢
    simp only [bytesOf, this, Option.map_some]
    simp
end Go.Abs
namespace Go.Proofs.YtigkchpjpdbodaaGreatDoor
open Go.Abs Go.Dec
variable {G : Globs}
theorem dPrint_ok [GPow] (nl : Bool) (v : Int) (h0 : -9223372036854775808 ≤ v) (h1 : v ≤ 9223372036854775807) : PCalls Tryz.prog n_decimal_Print [.agg [.bool nl, .int .i64 v]] (fun r => r = .str (prn nl v)) := by
  refine pcalls_of_awp hmix c_decimal_Print rfl ?_
  simp [a_decimal_Print]
  cases nl with
  | true => simp [prn]
  | false =>
  simp
  by_cases hmin : v = -9223372036854775808
  · simp [hmin, prn]
  simp [hmin]
  obtain ⟨u, hu⟩ : ∃ u : Nat, u = v.natAbs := ⟨_, rfl⟩
  have hu64 : u < 9223372036854775808 := by omega
  have hprn : prn false v = (if v < 0 then [45] else []) ++ Lib.decDigits (u / 1000000) ++ frac (u % 1000000) := by
    simp [prn, hmin, hu]
  obtain ⟨q, hq⟩ : ∃ q, q = u / 1000000 := ⟨_, rfl⟩
  obtain ⟨p, hpp⟩ : ∃ p, p = u % 1000000 := ⟨_, rfl⟩
  rw [← hq, ← hpp] at hprn
  have hdl := decDigits_le q (by omega)
  have hq1 : (u : Int).tdiv 1000000 = (q : Int) := by rw [Int.tdiv_eq_ediv_of_nonneg (by omega)]; omega
  have hq2 : (u : Int) / 1000000 = (q : Int) := by omega
  have hwq : IntKind.i64.wrap (q : Int) = (q : Int) := wrap_i64 (by omega) (by omega)
  have hp1 : (u : Int).tmod 1000000 = (p : Int) := by rw [Int.tmod_eq_emod_of_nonneg (by omega)]; omega
  have hp2 : (u : Int) % 1000000 = (p : Int) := by omega
  have hp : p < 1000000 := by omega
  have hwp : IntKind.i64.wrap (1000000 + (p : Int)) = 1000000 + (p : Int) := wrap_i64 (by omega) (by omega)
  have hitoa : Lib.itoa (1000000 + (p : Int)) = Lib.decDigits (1000000 + p) := by have := itoa_nat (1000000 + p); rwa [show ((1000000 + p : Nat) : Int) = 1000000 + (p : Int) by omega] at this
  have hd7 : (Lib.decDigits (1000000 + p)).length = 7 := by rw [digits7 _ hp]; rfl
  have hfrl := fr_len 6 p
  have htl : ((Lib.decDigits (1000000 + p)).drop 1).length ≤ 9223372036854775807 := by simp [hd7]
  by_cases hneg : v < 0
  · have hwn : IntKind.i64.wrap (-v) = (u : Int) := by rw [wrap_i64 (by omega) (by omega)]; omega
    simp [hneg]
    refine ap_new false [[.int .u8 45]] (by simp) (by omega) (by simp) (by simp) (by simp) (by simp) ?_
    simp [hwn, hq1, hq2, hwq]
    refine ac_eff (appendInt_row (els := [[.int .u8 45]]) (by simp) q (by omega) (by simp) (by simp [AV.pure])) ?_
    rintro r σ' ⟨rfl, rfl⟩
    have hby : [[AV.int .u8 45]] ++ byteEls (Lib.decDigits q) = byteEls (45 :: Lib.decDigits q) := by simp [byteEls]
    have hby2 : [AV.int .u8 45] :: byteEls (Lib.decDigits q) = byteEls (45 :: Lib.decDigits q) := by simp [byteEls]
    have hbl : (byteEls (Lib.decDigits q)).length + 1 = 1 + (Lib.decDigits q).length := by simp [byteEls]; omega
    have hb45 : bytesOf ([AV.int .u8 45] :: byteEls (Lib.decDigits q)) = some (45 :: Lib.decDigits q) := by rw [hby2]; exact bytesOf_byteEls _
    simp [hp1, hp2]
    by_cases hp0 : p = 0
    · have hp0' : (p : Int) = 0 := by omega
      simp [hp0, hbl, hb45, hprn, hneg, frac]
    · have hp0' : ¬ (p : Int) = 0 := by omega
      simp [hp0, hp0', hwp]
      refine ac_same (formatInt_ok _ (by omega) (by omega)) (by simp) ?_
      rintro r rfl
      rw [hitoa]
      have hD6 : (dgs 6 p).length = 6 := rfl
      have hD6' : (dgs 6 p).take 6 = dgs 6 p := List.take_of_length_le (by omega)
      have htr := (fr_trim 6 p hp (by omega)).1
      rw [digits7 _ hp]
      generalize dgs 6 p = D at *
      have hlenA2 : (Lib.decDigits q).length ≤ 9223372036854775805 := by omega
      have hlenB2 : (Lib.decDigits q).length + 1 + 1 + (fr 6 p).length ≤ 9223372036854775807 := by omega
      have hlenA : (Lib.decDigits q).length + 1 ≤ 9223372036854775807 := by omega
      have hlenB : (Lib.decDigits q).length + 1 + (fr 6 p).length ≤ 9223372036854775807 := by omega
      simp [hD6, hD6', hbl, hb45, hlenA, hlenA2]
      refine qc_same (trimRight_ok D (by rw [hD6]; omega)) (by simp) (by simp) ?_
      rw [htr]
      simp [hprn, hneg, frac, hp0, hlenB, hlenB2]
  · have hv : v = (u : Int) := by omega
    simp [hneg]
    rw [hv]
    simp [hq1, hq2, hwq]
    refine ac_same (appendInt_nil q (by omega)) (by simp) ?_
    rintro r rfl
    simp [hp1, hp2]
    by_cases hp0 : p = 0
    · have hp0' : (p : Int) = 0 := by omega
      simp [hp0, bytesOf_byteEls]
      rw [← hv, hprn]
      simp [hneg, hp0, frac]
    · have hp0' : ¬ (p : Int) = 0 := by omega
      simp [hp0, hp0', hwp]
      refine ac_same (formatInt_ok _ (by omega) (by omega)) (by simp) ?_
      rintro r rfl
      rw [hitoa]
      have hD6 : (dgs 6 p).length = 6 := rfl
      have hD6' : (dgs 6 p).take 6 = dgs 6 p := List.take_of_length_le (by omega)
      have htr := (fr_trim 6 p hp (by omega)).1
      rw [digits7 _ hp]
      generalize dgs 6 p = D at *
      have hlenA2 : (Lib.decDigits q).length ≤ 9223372036854775805 := by omega
      have hlenB2 : (Lib.decDigits q).length + 1 + 1 + (fr 6 p).length ≤ 9223372036854775807 := by omega
      have hlenA : (Lib.decDigits q).length + 1 ≤ 9223372036854775807 := by omega
      have hlenB : (Lib.decDigits q).length + 1 + (fr 6 p).length ≤ 9223372036854775807 := by omega
      simp [hD6, hD6', bytesOf_byteEls, hlenA, hlenA2]
      refine qc_same (trimRight_ok D (by rw [hD6]; omega)) (by simp) (by simp) ?_
      rw [htr]
      simp [hlenB]
      rw [← hv, hprn]
      simp [hneg, frac, hp0]
end Go.Proofs.YtigkchpjpdbodaaGreatDoor
end
section
set_option maxHeartbeats 2000000
namespace Go.Proofs.YtigkchpjpdbodaaGreatDoor
open Go.Abs Go.Dec
variable {G : Globs}
end Go.Proofs.YtigkchpjpdbodaaGreatDoor
end
section
namespace Go.Dec
theorem dig_of {d : Nat} (h : d < 10) : dig (UInt8.ofNat (48 + d)) = d := by
  unfold dig
  rw [UInt8.toNat_ofNat', Nat.mod_eq_of_lt (by omega)]
  omega
theorem isD_of {d : Nat} (h : d < 10) : isD (UInt8.ofNat (48 + d)) = true := by
  rw [isD_iff, UInt8.toNat_ofNat', Nat.mod_eq_of_lt (by omega)]
  omega
theorem dval_from (n : Nat) (l : List UInt8) : dval n l = n * 10 ^ l.length + dval 0 l := by
  induction l generalizing n with
  | nil => simp [dval_nil]
  | cons c l ih =>
    rw [dval_cons, dval_cons, ih, ih (0 * 10 + dig c)]
    simp only [List.length_cons, Nat.pow_succ, Nat.zero_mul, Nat.zero_add, Nat.add_mul]
    rw [Nat.mul_assoc n 10, Nat.mul_comm 10, Nat.add_assoc]
theorem dval_snoc (n : Nat) (l : List UInt8) (c : UInt8) : dval n (l ++ [c]) = dval n l * 10 + dig c := by
  rw [dval_append, dval_cons, dval_nil]
theorem dd_all : ∀ (n : Nat), (Lib.decDigits n).all isD = true ∧ dval 0 (Lib.decDigits n) = n := by
  intro n
  induction n using Nat.strongRecOn with
  | _ n ih =>
    rw [Lib.decDigits]
    split
    · rename_i h
      refine ⟨by simp only [List.all_cons, List.all_nil, isD_of h, Bool.and_self], ?_⟩
      rw [dval_cons, dval_nil, dig_of h]; omega
    · rename_i h
      obtain ⟨h1, h2⟩ := ih (n / 10) (by omega)
      have h10 : n % 10 < 10 := by omega
      refine ⟨by simp only [List.all_append, List.all_cons, List.all_nil, h1, isD_of h10, Bool.and_self], ?_⟩
      rw [dval_snoc, h2, dig_of h10]; omega
theorem dd_ne (n : Nat) : Lib.decDigits n ≠ [] := by
  rw [Lib.decDigits]
  split <;> simp
theorem dd_head : ∀ (n : Nat), 0 < n → ∃ c t, Lib.decDigits n = c :: t ∧ 1 ≤ dig c := by
  intro n
  induction n using Nat.strongRecOn with
  | _ n ih =>
    intro h0
    rw [Lib.decDigits]
    split
    · rename_i h
      exact ⟨_, _, rfl, by rw [dig_of h]; omega⟩
    · rename_i h
      obtain ⟨c, t, he, hc⟩ := ih (n / 10) (by omega) (by omega)
      exact ⟨c, t ++ [UInt8.ofNat (48 + n % 10)], by rw [he]; rfl, hc⟩
theorem dd_len13 {n : Nat} (h : n ≤ 9223372036854) : (Lib.decDigits n).length ≤ 13 := by
  rcases Nat.lt_or_ge n 10 with h10 | h10
  · rw [Lib.decDigits_one h10]; simp
  · have hne := dd_ne n
    obtain ⟨c, t, he, hc⟩ := dd_head n (by omega)
    have hv := (dd_all n).2
    rw [he, dval_cons, dval_from] at hv
    rw [he]
    rcases Nat.lt_or_ge 12 t.length with hl | hl
    · exfalso
      have h1 : 10 ^ 13 ≤ 10 ^ t.length := Nat.pow_le_pow_right (by omega) (by omega)
      have h2 : 1 * 10 ^ t.length ≤ (0 * 10 + dig c) * 10 ^ t.length := Nat.mul_le_mul_right _ (by omega)
      have h3 : (10 : Nat) ^ 13 = 10000000000000 := by decide
      omega
    · simp; omega
theorem fr_pad : ∀ (k p m : Nat), k ≤ m → (fr k p ++ List.replicate m 48).take k = dgs k p
  | 0, p, m, h => by simp [dgs]
  | k + 1, p, m, h => by
    unfold fr
    split
    · rename_i h0
      subst h0
      have := fr_pad k 0 (m - 1) (by omega)
      obtain ⟨m', rfl⟩ : ∃ m', m = m' + 1 := ⟨m - 1, by omega⟩
      have e0 : fr k 0 = [] := by cases k <;> simp [fr]
      rw [e0] at this
      simp only [List.nil_append, Nat.add_sub_cancel] at this
      simp only [dgs, List.nil_append, List.replicate_succ, List.take_succ_cons, this, Nat.zero_mod, Nat.zero_mul, Nat.zero_div, Nat.add_zero]
      rfl
    · simp only [dgs, List.cons_append, List.take_succ_cons, List.cons.injEq, true_and]
      exact fr_pad k _ m (by omega)
theorem pad_fr (p : Nat) : pad (fr 6 p) = dgs 6 p := fr_pad 6 p 6 (Nat.le_refl _)
theorem dgs6_val (n p : Nat) (h : p < 1000000) : dval n (dgs 6 p) = n * 1000000 + p := by
  simp only [dgs, dval_cons, dval_nil]
  rw [dig_of (by omega), dig_of (by omega), dig_of (by omega), dig_of (by omega), dig_of (by omega), dig_of (by omega)]
  omega
theorem fr_all : ∀ (k p : Nat), p < 1000000 → (fr k p).all isD = true
  | 0, _, _ => rfl
  | k + 1, p, h => by
    unfold fr
    split
    · rfl
    · simp only [List.all_cons, isD_of (show p / 100000 < 10 by omega), fr_all k (p % 100000 * 10) (by omega), Bool.and_self]
theorem dval_rep (n m : Nat) : dval n (List.replicate m 48) = n * 10 ^ m := by
  induction m generalizing n with
  | zero => simp [dval_nil]
  | succ m ih =>
    rw [List.replicate_succ, dval_cons, ih, Nat.pow_succ]
    have : dig 48 = 0 := rfl
    rw [this, Nat.add_zero, Nat.mul_assoc, Nat.mul_comm 10]
theorem pad_val {f : List UInt8} (hf : f.length ≤ 6) (n : Nat) : dval n (pad f) = dval n f * 10 ^ (6 - f.length) := by
  have : pad f = f ++ List.replicate (6 - f.length) 48 := by
    unfold pad
    rw [List.take_append, List.take_of_length_le hf]
    congr 1
    have e : ([48, 48, 48, 48, 48, 48] : List UInt8) = List.replicate 6 48 := rfl
    rw [e, List.take_replicate]
    congr 1
    omega
  rw [this, dval_append, dval_rep]
theorem upB_short {f : List UInt8} (hf : f.length ≤ 6) : upB f = false := by
  unfold upB
  rw [List.getElem?_eq_none (by omega)]
def tailOk (f t : List UInt8) : Prop := (t = [] ∧ f = []) ∨ t = 46 :: f
theorem parts_ok {D f t : List UInt8} (hD : D.all isD = true) (hf : f.all isD = true) (ht : tailOk f t) (hne : D ++ f ≠ []) : parts (D ++ t) = some (D, f) := by
  have htw : (D ++ t).takeWhile isD = D ∧ (D ++ t).dropWhile isD = t := tw_app hD (fun c r e => by
    rcases ht with ⟨rfl, _⟩ | rfl
    · cases e
    · cases e; exact isD_pt)
  unfold parts
  rw [htw.1, htw.2]
  rcases ht with ⟨rfl, rfl⟩ | rfl
  · have : D ≠ [] := by simpa using hne
    simp [this]
  · have : f.dropWhile isD = [] := by have := (tw_app (R := []) hf (fun c t h => by cases h)).2; simpa using this
    simp only [this, true_and]
    rw [if_pos hne]
theorem parse_num {neg : Bool} {D f t : List UInt8} (hD : D.all isD = true) (hf : f.all isD = true) (ht : tailOk f t) (hne : D ++ f ≠ []) (hl : f.length ≤ 6) (hlen : D.length + t.length + 1 ≤ 64)
    (hv : (dval 0 D) * 1000000 + dval 0 f * 10 ^ (6 - f.length) ≤ 9223372036854775807) :
    parse ((if neg then [45] else []) ++ (D ++ t)) = .ok (if neg then -(((dval 0 D) * 1000000 + dval 0 f * 10 ^ (6 - f.length) : Nat) : Int) else (((dval 0 D) * 1000000 + dval 0 f * 10 ^ (6 - f.length) : Nat) : Int)) := by
  have hval : dval 0 (D ++ pad f) = (dval 0 D) * 1000000 + dval 0 f * 10 ^ (6 - f.length) := by
    rw [dval_append, pad_val hl, dval_from, Nat.add_mul, Nat.mul_assoc, ← Nat.pow_add, show f.length + (6 - f.length) = 6 by omega]
  have hhead : ∀ c r, D ++ t = c :: r → ¬ (c = 45 ∨ c = 43) ∧ ¬ c = 45 := by
    intro c r e
    have : isD c = true ∨ c = 46 := by
      cases D with
      | nil =>
        rcases ht with ⟨rfl, _⟩ | rfl
        · cases e
        · cases e; exact .inr rfl
      | cons d D =>
        cases e
        simp only [List.all_cons, Bool.and_eq_true] at hD
        exact .inl hD.1
    rcases this with h | h
    · have := (isD_iff c).1 h
      refine ⟨fun h => ?_, fun h => ?_⟩
      · rcases h with rfl | rfl <;> simp at this
      · subst h; simp at this
    · subst h; decide
  have hne' : D ++ t ≠ [] := by
    rcases ht with ⟨rfl, rfl⟩ | rfl
    · exact hne
    · simp
  have hun : unsign ((if neg then [45] else []) ++ (D ++ t)) = D ++ t ∧ below ((if neg then [45] else []) ++ (D ++ t)) = neg := by
    cases neg with
    | true => exact ⟨rfl, rfl⟩
    | false =>
      simp only [Bool.false_eq_true, if_false, List.nil_append]
      cases e : D ++ t with
      | nil => exact absurd e hne'
      | cons c r =>
        obtain ⟨h1, h2⟩ := hhead c r e
        simp [unsign, below, h1, h2]
        intro h3
        exact absurd (Or.inr h3) h1
  have hlen' : ¬ 64 < ((if neg then [45] else []) ++ (D ++ t)).length := by
    cases neg <;> simp <;> omega
  unfold parse
  rw [if_neg hlen', hun.1, hun.2, parts_ok hD hf ht hne]
  simp only [upB_short hl, hval, Bool.false_eq_true, if_false, Nat.add_zero]
  rw [if_neg (by omega)]
theorem frac_tail (p : Nat) : tailOk (fr 6 p) (frac p) := by
  unfold frac tailOk
  split
  · rename_i h; subst h; exact .inl ⟨rfl, by simp [fr]⟩
  · exact .inr rfl
theorem fr_val {p : Nat} (h : p < 1000000) : dval 0 (fr 6 p) * 10 ^ (6 - (fr 6 p).length) = p := by
  rw [← pad_val (fr_len 6 p), pad_fr, dgs6_val 0 p h]; omega
theorem frac_len (p : Nat) : (frac p).length ≤ 7 := by
  have := fr_len 6 p
  unfold frac
  split <;> simp
  omega
theorem prn_eq {v : Int} (h0 : v ≠ -9223372036854775808) : prn false v = (if decide (v < 0) then [45] else []) ++ (Lib.decDigits (v.natAbs / 1000000) ++ frac (v.natAbs % 1000000)) := by
  simp [prn, h0]
theorem prn_len {v : Int} (h0 : v ≠ -9223372036854775808) (hb : v.natAbs ≤ 9223372036854775807) : (prn false v).length ≤ 21 := by
  rw [prn_eq h0]
  have h1 := dd_len13 (n := v.natAbs / 1000000) (by omega)
  have h2 := frac_len (v.natAbs % 1000000)
  simp only [List.length_append]
  split <;> simp <;> omega
theorem parse_prn {v : Int} (h0 : v ≠ -9223372036854775808) (hb : v.natAbs ≤ 9223372036854775807) : parse (prn false v) = .ok v := by
  have h1 := dd_len13 (n := v.natAbs / 1000000) (by omega)
  have h2 := frac_len (v.natAbs % 1000000)
  obtain ⟨h3, h4⟩ := dd_all (v.natAbs / 1000000)
  have h5 := fr_val (p := v.natAbs % 1000000) (by omega)
  rw [prn_eq h0, parse_num h3 (fr_all 6 _ (by omega)) (frac_tail _) (by simp [dd_ne]) (fr_len 6 _) (by omega) (by rw [h4, h5]; omega), h4, h5]
  congr 1
  by_cases hneg : v < 0
  · simp [hneg]; omega
  · simp [hneg]; omega
end Go.Dec
end
section
set_option maxHeartbeats 2000000
namespace Go.Dec
theorem parse_bound {s : List UInt8} {m : Int} (h : parse s = .ok m) : m ≠ -9223372036854775808 ∧ m.natAbs ≤ 9223372036854775807 := by
  unfold parse at h
  by_cases h1 : 64 < s.length
  · rw [if_pos h1] at h; cases h
  rw [if_neg h1] at h
  cases hp : parts (unsign s) with
  | none => rw [hp] at h; cases h
  | some wp =>
    obtain ⟨w, p⟩ := wp
    rw [hp] at h
    dsimp only at h
    obtain ⟨n, hn⟩ : ∃ n, n = dval 0 (w ++ pad p) + (if upB p = true then 1 else 0) := ⟨_, rfl⟩
    rw [← hn] at h
    by_cases hx : 9223372036854775807 < n
    · rw [if_pos hx] at h; cases h
    · rw [if_neg hx] at h
      cases hb : below s <;> simp [hb] at h <;> omega
theorem parse_err {s : List UInt8} {e : Nat} (h : parse s = .error e) : e ≠ 0 := by
  unfold parse at h
  by_cases h1 : 64 < s.length
  · rw [if_pos h1] at h; cases h; decide
  rw [if_neg h1] at h
  cases hp : parts (unsign s) with
  | none => rw [hp] at h; cases h; decide
  | some wp =>
    obtain ⟨w, p⟩ := wp
    rw [hp] at h
    dsimp only at h
    obtain ⟨n, hn⟩ : ∃ n, n = dval 0 (w ++ pad p) + (if upB p = true then 1 else 0) := ⟨_, rfl⟩
    rw [← hn] at h
    by_cases hx : 9223372036854775807 < n
    · rw [if_pos hx] at h; cases h; decide
    · rw [if_neg hx] at h
      cases h
end Go.Dec
namespace Go.Proofs.YtigkchpjpdbodaaGreatDoor
open Go.Abs Go.Dec
variable {G : Globs}
theorem rRight_ok (nl : Bool) (v : Int) : PCalls Tryz.prog n_isobarref02_Right [.agg [.bool nl, .int .i64 v]] (fun r => r = .bool (if nl then decide (v = 0) else !decide (v = -9223372036854775808))) := by
  refine pcalls_of_awp hmix c_isobarref02_Right rfl ?_
  simp [a_isobarref02_Right]
  cases nl with
  | true => simp
  | false => simp
end Go.Proofs.YtigkchpjpdbodaaGreatDoor
end
section
set_option maxHeartbeats 2000000
namespace Go.Proofs.YtigkchpjpdbodaaGreatDoor
open Go.Abs Go.Glob Go.Tok
variable {G : Globs}
/-- A scanner. -/
def SV (t : List UInt8) (k : Nat) : Entry := .var 128 [.str t, .int .i64 k]
theorem SV_under (t : List UInt8) (k m : Nat) : (SV t k).under m = true := by simp [SV, Entry.under]
theorem more_ok (t : List UInt8) (k : Nat) : PCalls Tryz.prog n_tokens_scanner_more [.rptr [.str t, .int .i64 k]] (fun r => r = .bool (decide (k < t.length))) := by
  refine pcalls_of_awp hmix c_tokens_scanner_more rfl ?_
  simp [a_tokens_scanner_more]
def stp (t : List UInt8) (k : Nat) : Bool := match t[k]? with | some c => bstop c | none => true
theorem stp_some {t : List UInt8} {k : Nat} {c : UInt8} (h : t[k]? = some c) : stp t k = bstop c := by simp [stp, h]
theorem stp_none {t : List UInt8} {k : Nat} (h : t.length ≤ k) : stp t k = true := by simp [stp, List.getElem?_eq_none h]
theorem stopped_ok (t : List UInt8) (k : Nat) : PCalls Tryz.prog n_tokens_scanner_stopped [.rptr [.str t, .int .i64 k]] (fun r => r = .bool (stp t k)) := by
  refine pcalls_of_awp hmix c_tokens_scanner_stopped rfl ?_
  simp [a_tokens_scanner_stopped]
  refine qc_same (more_ok t k) (by simp) (by simp) ?_
  by_cases hk : k < t.length
  · have hc : t[k]? = some t[k] := List.getElem?_eq_getElem hk
    simp [hk, hc]
    refine qc_same (indexByte_ok _ _) (by simp) (by simp) ?_
    have hi := idx_stop t[k]
    by_cases hs : bstop t[k] = true
    · have h0 := hi.2 hs
      simp [stp_some hc, hs, h0]
    · have h0 : ¬ 0 ≤ Lib.indexByte [39, 34, 32, 40, 41] t[k] := fun h => hs (hi.1 h)
      simp [stp_some hc, hs, h0]
  · rw [stp_none (by omega)]
    simp [hk]
/-- A class, from its [ on. -/
theorem tclass_ok {σ : Store} {id : Nat} (hid : id < σ.length) (t : List UInt8) (k0 : Nat) (h2 : k0 ≤ t.length) (h3 : t.length ≤ 1000000) :
    ACalls Tryz.prog n_tokens_scanner_class [.ptr id 0] (σ.set id (SV t k0)) (fun r σ' =>
      match clsN (t.drop k0) with
      | some n => r = .bool true ∧ σ' = σ.set id (SV t (k0 + n))
      | none => ∃ k, k ≤ t.length ∧ r = .bool false ∧ σ' = σ.set id (SV t k)) := by
  refine acalls_of_awp_e hmix c_tokens_scanner_class rfl ?_
  have g0 := @set_get' σ id hid
  simp [a_tokens_scanner_class, g0, SV]
  refine lp_startx (fun x f σ' => ∃ (k : Nat), x = t.length - k ∧ k0 ≤ k ∧ k ≤ t.length ∧ clsN (t.drop k0) = (clsN (t.drop k)).map (· + (k - k0)) ∧ f 0 = .ptr id 0 ∧ σ' = σ.set id (SV t k)) (t.length - k0) ?_ ?_
  · exact ⟨k0, rfl, Nat.le_refl _, h2, by simp, by simp, by simp [SV]⟩
  rintro x f σ' ⟨k, hx, hk1, hk2, hcls, h0, rfl⟩
  simp [h0]
  refine ac_lent (stopped_ok t k) (.cons (coe_ptr (g0 _) (by simp) rfl) .nil) ?_
  rintro r rfl
  refine ⟨by simp, ?_⟩
  by_cases hk : k < t.length
  · obtain ⟨c, hc⟩ : ∃ c, t[k]? = some c := ⟨_, List.getElem?_eq_getElem hk⟩
    have hd := drop_cons hc
    rw [stp_some hc]
    rw [hd, clsN] at hcls
    have hwk : IntKind.i64.wrap ((k : Int) + 1) = (k : Int) + 1 := wrap_i64 (by omega) (by omega)
    have hwk2 : IntKind.i64.wrap (k : Int) = (k : Int) := wrap_i64 (by omega) (by omega)
    by_cases hs : bstop c = true
    · simp [hs, h0]
      refine er_set' id (SV t k) (.bool false) ?_ ?_ (SV_under _ _ _) ?_
      · simp [retAt, a_tokens_scanner_class]
      · simp
      · rw [hcls]; simp [hs]; exact ⟨k, hk2, rfl⟩
    · simp [hs, h0, g0, SV, hwk, hwk2, hc]
      by_cases h93 : c = 93
      · subst h93
        simp
        refine er_set' id (SV t (k + 1)) (.bool true) ?_ ?_ (SV_under _ _ _) ?_
        · simp [retAt, a_tokens_scanner_class]
        · simp [SV]
        · rw [hcls]
          have e : (k0 : Int) + (1 + ((k - k0 : Nat) : Int)) = (k : Int) + 1 := by omega
          simp [hs, SV, e]
      · have h93' : ¬ ((c.toNat : Int) = 93) := fun h => h93 (UInt8.toNat_inj.1 (show c.toNat = 93 by omega))
        simp [h93, h93']
        refine nx_intro (t.length - (k + 1)) (by omega) ⟨k + 1, rfl, by omega, by omega, ?_, by simp [h0], by simp⟩
        rw [hcls]
        cases clsN (List.drop (k + 1) t) with
        | none => simp [hs, h93]
        | some n => simp [hs, h93]; omega
  · rw [stp_none (by omega)]
    have hd : t.drop k = [] := List.drop_of_length_le (by omega)
    rw [hd, clsN] at hcls
    simp [h0]
    refine er_set' id (SV t k) (.bool false) ?_ ?_ (SV_under _ _ _) ?_
    · simp [retAt, a_tokens_scanner_class]
    · simp
    · rw [hcls]; simp; exact ⟨k, hk2, rfl⟩
/-- Braces, from their { on. -/
theorem tbraces_ok {σ : Store} {id : Nat} (hid : id < σ.length) (t : List UInt8) (k0 : Nat) (h1 : t[k0]? = some 123) (h3 : t.length ≤ 1000000) :
    ACalls Tryz.prog n_tokens_scanner_braces [.ptr id 0] (σ.set id (SV t k0)) (fun r σ' =>
      match brcN 0 (t.drop k0) with
      | some n => r = .bool true ∧ σ' = σ.set id (SV t (k0 + n))
      | none => ∃ k, k ≤ t.length ∧ r = .bool false ∧ σ' = σ.set id (SV t k)) := by
  refine acalls_of_awp_e hmix c_tokens_scanner_braces rfl ?_
  have g0 := @set_get' σ id hid
  obtain ⟨h2', _⟩ := List.getElem?_eq_some_iff.1 h1
  have h2 : k0 ≤ t.length := by omega
  simp [a_tokens_scanner_braces, g0, SV]
  refine lp_startx (fun x f σ' => ∃ (k d : Nat), x = t.length - k ∧ k0 ≤ k ∧ k ≤ t.length ∧ d ≤ k - k0 ∧ (k = k0 ∨ 0 < d) ∧ brcN 0 (t.drop k0) = (brcN d (t.drop k)).map (· + (k - k0)) ∧ f 0 = .ptr id 0 ∧ f 3 = .int .i64 d ∧ σ' = σ.set id (SV t k)) (t.length - k0) ?_ ?_
  · exact ⟨k0, 0, rfl, Nat.le_refl _, h2, by omega, .inl rfl, by simp, by simp, by simp, by simp [SV]⟩
  rintro x f σ' ⟨k, d, hx, hk1, hk2, hdk, hd0, hcls, h0, h3f, rfl⟩
  simp [h0]
  refine ac_lent (stopped_ok t k) (.cons (coe_ptr (g0 _) (by simp) rfl) .nil) ?_
  rintro r rfl
  refine ⟨by simp, ?_⟩
  by_cases hk : k < t.length
  · obtain ⟨c, hc⟩ : ∃ c, t[k]? = some c := ⟨_, List.getElem?_eq_getElem hk⟩
    have hd := drop_cons hc
    rw [stp_some hc]
    rw [hd, brcN] at hcls
    have hwk : IntKind.i64.wrap ((k : Int) + 1) = (k : Int) + 1 := wrap_i64 (by omega) (by omega)
    have hwd : IntKind.i64.wrap ((d : Int) + 1) = (d : Int) + 1 := wrap_i64 (by omega) (by omega)
    have hwm : IntKind.i64.wrap ((d : Int) - 1) = (d : Int) - 1 := wrap_i64 (by omega) (by omega)
    have hc0 : k = k0 → c = 123 := fun h => by subst h; rw [h1] at hc; cases hc; rfl
    by_cases hs : bstop c = true
    · simp [hs, h0]
      refine er_set' id (SV t k) (.bool false) ?_ ?_ (SV_under _ _ _) ?_
      · simp [retAt, a_tokens_scanner_braces]
      · simp
      · rw [hcls]; simp [hs]; exact ⟨k, hk2, rfl⟩
    · have hnext : ∀ d' : Nat, deeper d c = d' → d' ≠ 0 → brcN 0 (t.drop k0) = (brcN d' (t.drop (k + 1))).map (· + (k + 1 - k0)) := fun d' hd' hz => by
        rw [hcls, hd', if_neg hs, if_neg hz]
        cases brcN d' (List.drop (k + 1) t) with
        | none => simp
        | some n => simp; omega
      have hend : deeper d c = 0 → brcN 0 (t.drop k0) = some (1 + (k - k0)) := fun hz => by
        rw [hcls, if_neg hs, hz]; simp
      have e : (k0 : Int) + (1 + ((k - k0 : Nat) : Int)) = (k : Int) + 1 := by omega
      by_cases h123 : c = 123
      · subst h123
        have hdp : deeper d 123 = d + 1 := by simp [deeper]
        have hdz : ¬ ((d : Int) + 1 = 0) := by omega
        simp [hs, h0, h3f, g0, SV, hwk, hwd, hc, hdz]
        refine nx_intro (t.length - (k + 1)) (by omega) ⟨k + 1, d + 1, rfl, by omega, by omega, by omega, .inr (by omega), hnext _ hdp (by omega), by simp [h0], by simp, by simp⟩
      · have h123' : ¬ ((c.toNat : Int) = 123) := fun h => h123 (UInt8.toNat_inj.1 (show c.toNat = 123 by omega))
        have hdp0 : 0 < d := by
          rcases hd0 with h | h
          · exact absurd (hc0 h) h123
          · exact h
        by_cases h125 : c = 125
        · subst h125
          have hdp : deeper d 125 = d - 1 := by simp [deeper]
          by_cases hz : d = 1
          · have hdz : (d : Int) - 1 = 0 := by omega
            have := hend (by rw [hdp]; omega)
            have hz1 : (d : Int) = 1 := by omega
            have hw0 : IntKind.i64.wrap 0 = 0 := wrap_i64 (by omega) (by omega)
            simp [hs, h0, h3f, g0, SV, hwk, hwm, hc, hz1, hw0]
            refine er_set' id (SV t (k + 1)) (.bool true) ?_ ?_ (SV_under _ _ _) ?_
            · simp [retAt, a_tokens_scanner_braces]
            · simp [SV]
            · rw [this]; simp [SV, e]
          · have hdz : ¬ ((d : Int) - 1 = 0) := by omega
            simp [hs, h0, h3f, g0, SV, hwk, hwm, hc, hdz]
            refine nx_intro (t.length - (k + 1)) (by omega) ⟨k + 1, d - 1, rfl, by omega, by omega, by omega, .inr (by omega), hnext _ hdp (by omega), by simp [h0], by simp; omega, by simp⟩
        · have h125' : ¬ ((c.toNat : Int) = 125) := fun h => h125 (UInt8.toNat_inj.1 (show c.toNat = 125 by omega))
          have hdp : deeper d c = d := by simp [deeper, h123, h125]
          have hdz : ¬ ((d : Int) = 0) := by omega
          have hdz' : ¬ (d = 0) := by omega
          simp [hs, h0, h3f, g0, SV, hwk, hc, h123', h125', hdz, hdz']
          refine nx_intro (t.length - (k + 1)) (by omega) ⟨k + 1, d, rfl, by omega, by omega, by omega, .inr (by omega), hnext _ hdp (by omega), by simp [h0], by simp [h3f], by simp⟩
  · rw [stp_none (by omega)]
    have hd : t.drop k = [] := List.drop_of_length_le (by omega)
    rw [hd, brcN] at hcls
    simp [h0]
    refine er_set' id (SV t k) (.bool false) ?_ ?_ (SV_under _ _ _) ?_
    · simp [retAt, a_tokens_scanner_braces]
    · simp
    · rw [hcls]; simp; exact ⟨k, hk2, rfl⟩
end Go.Proofs.YtigkchpjpdbodaaGreatDoor
namespace Go.Tok
theorem rowF_nil (n : Nat) : rowF n [] = some 0 := by cases n <;> rfl
end Go.Tok
namespace Go.Proofs.YtigkchpjpdbodaaGreatDoor
open Go.Abs Go.Glob Go.Tok
variable {G : Globs}
theorem ne_nat {c : UInt8} {n : UInt8} {z : Int} (hz : z = (n.toNat : Int)) (h : ¬ c = n) : ¬ ((c.toNat : Int) = z) := fun e => h (UInt8.toNat_inj.1 (by omega))
/-- Word bytes, and what is shut. -/
theorem trow_ok {σ : Store} {id : Nat} (hid : id < σ.length) (t : List UInt8) (k0 n : Nat) (h2 : k0 ≤ t.length) (h3 : t.length ≤ 1000000) (hn : t.length - k0 ≤ n) :
    ACalls Tryz.prog n_tokens_scanner_row [.ptr id 0] (σ.set id (SV t k0)) (fun r σ' =>
      match rowF n (t.drop k0) with
      | some m => r = .tup [.str ((t.drop k0).take m), .bool (decide (0 < m))] ∧ σ' = σ.set id (SV t (k0 + m))
      | none => ∃ k, k ≤ t.length ∧ r = .tup [.str [], .bool false] ∧ σ' = σ.set id (SV t k)) := by
  refine acalls_of_awp_e hmix c_tokens_scanner_row rfl ?_
  have g0 := @set_get' σ id hid
  simp [a_tokens_scanner_row, g0, SV]
  refine lp_startx (fun x f σ' => ∃ (k m : Nat), x = t.length - k ∧ k0 ≤ k ∧ k ≤ t.length ∧ t.length - k ≤ m ∧ rowF n (t.drop k0) = (rowF m (t.drop k)).map (· + (k - k0)) ∧ f 0 = .ptr id 0 ∧ f 4 = .int .i64 k0 ∧ σ' = σ.set id (SV t k)) (t.length - k0) ?_ ?_
  · exact ⟨k0, n, rfl, Nat.le_refl _, h2, hn, by simp, by simp, by simp, by simp [SV]⟩
  rintro x f σ' ⟨k, m, hx, hk1, hk2, hm, hrow, h0, h4, rfl⟩
  have hkk : (k0 : Int) ≤ (k : Int) := by omega
  simp [h0]
  refine ac_lent (more_ok t k) (.cons (coe_ptr (g0 _) (by simp) rfl) .nil) ?_
  rintro r rfl
  refine ⟨by simp, ?_⟩
  by_cases hk : k < t.length
  · obtain ⟨c, hc⟩ : ∃ c, t[k]? = some c := ⟨_, List.getElem?_eq_getElem hk⟩
    have hd := drop_cons hc
    obtain ⟨_, hc2⟩ := List.getElem?_eq_some_iff.1 hc
    obtain ⟨m, rfl⟩ : ∃ j, m = j + 1 := ⟨m - 1, by omega⟩
    have hwk : IntKind.i64.wrap ((k : Int) + 1) = (k : Int) + 1 := wrap_i64 (by omega) (by omega)
    have hword : bword c = true → rowF n (t.drop k0) = (rowF m (t.drop (k + 1))).map (· + (k + 1 - k0)) := fun hw => by
      rw [hrow, hd, rowF, if_pos hw]
      cases rowF m (List.drop (k + 1) t) with
      | none => simp
      | some j => simp; omega
    simp [hk, h0, g0, SV, hc, hc2]
    refine ac_same (byte_ok c) (by simp) ?_
    rintro r rfl
    by_cases hb : nb c = true
    · simp [hb, h0, g0, SV, hwk]
      refine nx_intro (t.length - (k + 1)) (by omega) ⟨k + 1, m, rfl, by omega, by omega, by omega, hword (by simp [bword, hb]), by simp [h0], by simp [h4], by simp⟩
    by_cases h46 : c = 46
    · subst h46
      simp [hb, h0, g0, SV, hwk]
      refine nx_intro (t.length - (k + 1)) (by omega) ⟨k + 1, m, rfl, by omega, by omega, by omega, hword (by simp [bword]), by simp [h0], by simp [h4], by simp⟩
    have h46' := ne_nat (z := 46) rfl h46
    by_cases h63 : c = 63
    · subst h63
      simp [hb, h0, g0, SV, hwk]
      refine nx_intro (t.length - (k + 1)) (by omega) ⟨k + 1, m, rfl, by omega, by omega, by omega, hword (by simp [bword]), by simp [h0], by simp [h4], by simp⟩
    have h63' := ne_nat (z := 63) rfl h63
    by_cases h42 : c = 42
    · subst h42
      simp [hb, h0, g0, SV, hwk]
      refine nx_intro (t.length - (k + 1)) (by omega) ⟨k + 1, m, rfl, by omega, by omega, by omega, hword (by simp [bword]), by simp [h0], by simp [h4], by simp⟩
    have h42' := ne_nat (z := 42) rfl h42
    have hnw : bword c = false := by simp [bword, hb, h46, h63, h42]
    by_cases h91 : c = 91
    · subst h91
      simp [hb, h0, g0, SV, hwk]
      refine ac_eff (tclass_ok hid t k hk2 h3) ?_
      intro r σ1 hr
      rw [hd] at hr
      cases hcl : clsN (91 :: t.drop (k + 1)) with
      | none =>
        rw [hcl] at hr
        obtain ⟨k', hk', rfl, rfl⟩ := hr
        have hnone : rowF n (t.drop k0) = none := by rw [hrow, hd, rowF, hnw, hcl]; simp
        simp
        refine er_set' id (SV t k') (.tup [.str [], .bool false]) ?_ ?_ (SV_under _ _ _) ?_
        · simp [retAt, a_tokens_scanner_row]
        · simp
        · rw [hnone]; exact ⟨k', hk', rfl, rfl⟩
      | some j =>
        rw [hcl] at hr
        obtain ⟨rfl, rfl⟩ := hr
        have hj := clsN_le _ _ hcl
        simp at hj
        simp
        refine nx_intro (t.length - (k + j)) (by omega) ⟨k + j, m, rfl, by omega, by omega, by omega, ?_, by simp [h0], by simp [h4], by simp [SV]⟩
        rw [hrow, hd, rowF, hnw, hcl]
        simp only [Bool.false_eq_true, if_false, if_true, Option.bind_some]
        rw [← hd, List.drop_drop]
        cases rowF m (List.drop (k + j) t) with
        | none => simp
        | some i => simp; omega
    have h91' := ne_nat (z := 91) rfl h91
    by_cases h123 : c = 123
    · subst h123
      simp [hb, h0, g0, SV, hwk]
      refine ac_eff (tbraces_ok hid t k hc h3) ?_
      intro r σ1 hr
      rw [hd] at hr
      cases hcl : brcN 0 (123 :: t.drop (k + 1)) with
      | none =>
        rw [hcl] at hr
        obtain ⟨k', hk', rfl, rfl⟩ := hr
        have hnone : rowF n (t.drop k0) = none := by rw [hrow, hd, rowF, hnw, hcl]; simp
        simp
        refine er_set' id (SV t k') (.tup [.str [], .bool false]) ?_ ?_ (SV_under _ _ _) ?_
        · simp [retAt, a_tokens_scanner_row]
        · simp
        · rw [hnone]; exact ⟨k', hk', rfl, rfl⟩
      | some j =>
        rw [hcl] at hr
        obtain ⟨rfl, rfl⟩ := hr
        have hj := brcN_le _ _ _ hcl
        simp at hj
        simp
        refine nx_intro (t.length - (k + j)) (by omega) ⟨k + j, m, rfl, by omega, by omega, by omega, ?_, by simp [h0], by simp [h4], by simp [SV]⟩
        rw [hrow, hd, rowF, hnw, hcl]
        simp only [Bool.false_eq_true, if_false, if_true, Option.bind_some]
        rw [← hd, List.drop_drop]
        cases rowF m (List.drop (k + j) t) with
        | none => simp
        | some i => simp; omega
    have h123' := ne_nat (z := 123) rfl h123
    have hz : rowF (m + 1) (t.drop k) = some 0 := by rw [hd, rowF, hnw]; simp [h91, h123]
    simp [hb, h0, g0, SV, hwk, h46', h63', h42', h91', h123', h4, hkk, hk2, hk1]
    refine er_set' id (SV t k) (.tup [.str ((t.take k).drop k0), .bool (decide (k0 < k))]) ?_ ?_ (SV_under _ _ _) ?_
    · simp [retAt, a_tokens_scanner_row]
    · simp [SV]
    · have e : k0 + (k - k0) = k := by omega
      have e1 : (k0 : Int) + ((k - k0 : Nat) : Int) = (k : Int) := by omega
      rw [hrow, hz]
      simp [SV, e, e1, List.drop_take, hk1]
      omega
  · have hz : rowF m (t.drop k) = some 0 := by rw [List.drop_of_length_le (by omega)]; exact rowF_nil m
    simp [hk, h0, g0, SV, h4, hkk, hk2, hk1]
    refine er_set' id (SV t k) (.tup [.str ((t.take k).drop k0), .bool (decide (k0 < k))]) ?_ ?_ (SV_under _ _ _) ?_
    · simp [retAt, a_tokens_scanner_row]
    · simp [SV]
    · have e : k0 + (k - k0) = k := by omega
      have e1 : (k0 : Int) + ((k - k0 : Nat) : Int) = (k : Int) := by omega
      rw [hrow, hz]
      simp [SV, e, e1, List.drop_take, hk1]
      omega
/-- A text, from its first quote on. -/
theorem tquoted_ok {σ : Store} {id : Nat} (hid : id < σ.length) (t : List UInt8) (k : Nat) (c : UInt8) (hc : t[k]? = some c) (h3 : t.length ≤ 1000000) :
    ACalls Tryz.prog n_tokens_scanner_quoted [.ptr id 0] (σ.set id (SV t k)) (fun r σ' =>
      if Lib.indexByte (t.drop (k + 1)) c < 0 then r = .tup [.str [], .bool false] ∧ σ' = σ.set id (SV t k)
      else r = .tup [.str ((t.drop (k + 1)).take (Lib.indexByte (t.drop (k + 1)) c).toNat), .bool true] ∧ σ' = σ.set id (SV t (k + (Lib.indexByte (t.drop (k + 1)) c).toNat + 2))) := by
  refine acalls_of_awp_e hmix c_tokens_scanner_quoted rfl ?_
  have g0 := @set_get' σ id hid
  obtain ⟨hk, hc2⟩ := List.getElem?_eq_some_iff.1 hc
  have hwk : IntKind.i64.wrap ((k : Int) + 1) = (k : Int) + 1 := wrap_i64 (by omega) (by omega)
  have hp1 : (0 : Int) ≤ (k : Int) + 1 := by omega
  have hp2 : k + 1 ≤ t.length := by omega
  simp [a_tokens_scanner_quoted, g0, SV, hwk, hp1, hp2, hc, hc2]
  refine qc_same (indexByte_ok (t.drop (k + 1)) c) (by simp) (by simp) ?_
  by_cases hneg : Lib.indexByte (t.drop (k + 1)) c < 0
  · simp [hneg]
    refine er_set' id (SV t k) (.tup [.str [], .bool false]) ?_ ?_ (SV_under _ _ _) ?_
    · simp [retAt, a_tokens_scanner_quoted]
    · simp [SV]
    · rw [if_pos hneg]; exact ⟨rfl, rfl⟩
  · obtain ⟨i, hi⟩ : ∃ i : Nat, Lib.indexByte (t.drop (k + 1)) c = (i : Int) := ⟨(Lib.indexByte (t.drop (k + 1)) c).toNat, by omega⟩
    have hlt := (List.getElem?_eq_some_iff.1 (Lib.indexByte_some hi).1).1
    rw [List.length_drop] at hlt
    rw [hi] at hneg ⊢
    have hw1 : IntKind.i64.wrap ((k : Int) + 1 + (i : Int)) = (k : Int) + 1 + (i : Int) := wrap_i64 (by omega) (by omega)
    have hw2 : IntKind.i64.wrap ((k : Int) + 1 + (i : Int) + 1) = (k : Int) + 1 + (i : Int) + 1 := wrap_i64 (by omega) (by omega)
    have q1 : (0 : Int) ≤ (k : Int) + 1 + (i : Int) := by omega
    have q2 : (k : Int) + 1 ≤ (k : Int) + 1 + (i : Int) := by omega
    have q3 : ((k : Int) + 1 + (i : Int)).toNat = k + 1 + i := by omega
    have q4 : k + 1 + i ≤ t.length := by omega
    simp [hneg, g0, SV, hwk, hw1, hw2, q1, q2, q3, q4, hp1, hp2]
    refine er_set' id (SV t (k + i + 2)) (.tup [.str ((t.drop (k + 1)).take i), .bool true]) ?_ ?_ (SV_under _ _ _) ?_
    · simp [retAt, a_tokens_scanner_quoted, List.drop_take]
    · have e : (k : Int) + 1 + (i : Int) + 1 = (k : Int) + (i : Int) + 2 := by omega
      simp [SV, e]
    · simp [SV]
theorem tword_ok [GDec] (s : List UInt8) (hs : s.length ≤ 1000000) : PCalls Tryz.prog n_tokens_word [.str s] (fun r => r = .agg [.int .i64 (if isNum s then 2 else 1), .str s, .int .i64 0]) := by
  refine pcalls_of_awp hmix c_tokens_word rfl ?_
  simp [a_tokens_word]
  refine ac_same (dParse_ok s (by omega)) (by simp) ?_
  rintro r rfl
  cases hp : Dec.parse s with
  | ok m => simp [hp, numAV, isNum]
  | error e =>
    have he : ¬ e = 0 := Dec.parse_err hp
    simp [hp, numAV, isNum, he]
end Go.Proofs.YtigkchpjpdbodaaGreatDoor
end
section
set_option maxHeartbeats 4000000
namespace Go.Proofs.YtigkchpjpdbodaaGreatDoor
open Go.Abs Go.Glob Go.Tok
variable {G : Globs}
theorem noItr_app (a b : Store) : noItr (a ++ b) = (noItr a && noItr b) := by simp only [noItr, List.all_append]
theorem noItr_set {σ : Store} (h : noItr σ = true) (id : Nat) {e : Entry} (he : e.isItr = false) : noItr (σ.set id e) = true := by
  unfold noItr at h ⊢
  rw [List.all_eq_true] at h ⊢
  intro x hx
  rcases List.mem_or_eq_of_mem_set hx with h' | rfl
  · exact h x h'
  · rw [he]; rfl
theorem noItr_var (t : TypeId) (c : List AV) (l : Store) : noItr (.var t c :: l) = noItr l := rfl
theorem noItr_mp (kv : List (AV × AV)) (l : Store) : noItr (.mp kv :: l) = noItr l := rfl
theorem noItr_none : noItr [] = true := rfl
def tokA (kind : Int) (text : List UInt8) (place : Int) : AV := .agg [.int .i64 kind, .str text, .int .i64 place]
def mpK : Entry := .mp [(.int .u8 40, .int .i64 4), (.int .u8 41, .int .i64 5), (.int .u8 44, .int .i64 6)]
theorem tquoted_ok' {σ : Store} {id : Nat} (hid : id < σ.length) (l : Store) (t : List UInt8) (k : Nat) (c : UInt8) (hc : t[k]? = some c) (h3 : t.length ≤ 1000000) :
    ACalls Tryz.prog n_tokens_scanner_quoted [.ptr id 0] (σ.set id (SV t k) ++ l) (fun r σ' =>
      if Lib.indexByte (t.drop (k + 1)) c < 0 then r = .tup [.str [], .bool false] ∧ σ' = σ.set id (SV t k) ++ l
      else r = .tup [.str ((t.drop (k + 1)).take (Lib.indexByte (t.drop (k + 1)) c).toNat), .bool true] ∧ σ' = σ.set id (SV t (k + (Lib.indexByte (t.drop (k + 1)) c).toNat + 2)) ++ l) := by
  have h := tquoted_ok (G := G) (σ := σ ++ l) (id := id) (by simp; omega) t k c hc h3
  simp only [← set_app _ hid] at h
  exact h
theorem trow_ok' {σ : Store} {id : Nat} (hid : id < σ.length) (l : Store) (t : List UInt8) (k0 n : Nat) (h2 : k0 ≤ t.length) (h3 : t.length ≤ 1000000) (hn : t.length - k0 ≤ n) :
    ACalls Tryz.prog n_tokens_scanner_row [.ptr id 0] (σ.set id (SV t k0) ++ l) (fun r σ' =>
      match rowF n (t.drop k0) with
      | some m => r = .tup [.str ((t.drop k0).take m), .bool (decide (0 < m))] ∧ σ' = σ.set id (SV t (k0 + m)) ++ l
      | none => ∃ k, k ≤ t.length ∧ r = .tup [.str [], .bool false] ∧ σ' = σ.set id (SV t k) ++ l) := by
  have h := trow_ok (G := G) (σ := σ ++ l) (id := id) (by simp; omega) t k0 n h2 h3 hn
  simp only [← set_app _ hid] at h
  exact h
theorem tnext_ok [GDec] {σ : Store} {id : Nat} (hni : noItr σ = true) (hid : id < σ.length) (t : List UInt8) (k : Nat) (hk : k < t.length) (h3 : t.length ≤ 1000000) :
    ACalls Tryz.prog n_tokens_scanner_next [.ptr id 0] (σ.set id (SV t k)) (fun r σ' =>
      match nextT (t.drop k) with
      | some x => r = .tup [tokA x.1 x.2.1 0, .bool true] ∧ σ' = σ.set id (SV t (k + x.2.2))
      | none => ∃ kd tx k', k' ≤ t.length ∧ r = .tup [tokA kd tx 0, .bool false] ∧ σ' = σ.set id (SV t k')) := by
  refine acalls_of_awp_e hmix c_tokens_scanner_next rfl ?_
  have hN : ∀ (T : TypeId) (cs : List AV) (l : Store), noItr (σ.set id (.var T cs) ++ l) = noItr l := fun T cs l => by rw [noItr_app, noItr_set hni id rfl]; rfl
  have g0 := @set_get σ id hid
  have g00 := @set_get' σ id hid
  have q0 := @set_set σ id hid
  obtain ⟨c, hc⟩ : ∃ c, t[k]? = some c := ⟨_, List.getElem?_eq_getElem hk⟩
  obtain ⟨_, hc2⟩ := List.getElem?_eq_some_iff.1 hc
  have hd := drop_cons hc
  have hwk : IntKind.i64.wrap ((k : Int) + 1) = (k : Int) + 1 := wrap_i64 (by omega) (by omega)
  by_cases h40 : c = 40
  · subst h40
    have hn : nextT (t.drop k) = some (4, [], 1) := by rw [hd, nextT]; simp
    simp [-noItr, hN, noItr_var, noItr_mp, noItr_none, a_tokens_scanner_next, g0, g00, q0, SV, get_0, get_1, set_0, set_1, hwk, hc, hc2]
    refine er_set id (SV t (k + 1)) (.tup [tokA 4 [] 0, .bool true]) [.var 130 [.int .i64 4, .str [], .int .i64 0], mpK] ?_ ?_ (SV_under _ _ _) ?_
    · simp [retAt, a_tokens_scanner_next, get_0, tokA]
    · simp [SV, mpK]
    · rw [hn]; exact ⟨rfl, rfl⟩
  have h40' := ne_nat (z := 40) rfl h40
  by_cases h41 : c = 41
  · subst h41
    have hn : nextT (t.drop k) = some (5, [], 1) := by rw [hd, nextT]; simp
    simp [-noItr, hN, noItr_var, noItr_mp, noItr_none, a_tokens_scanner_next, g0, g00, q0, SV, get_0, get_1, set_0, set_1, hwk, hc, hc2]
    refine er_set id (SV t (k + 1)) (.tup [tokA 5 [] 0, .bool true]) [.var 130 [.int .i64 5, .str [], .int .i64 0], mpK] ?_ ?_ (SV_under _ _ _) ?_
    · simp [retAt, a_tokens_scanner_next, get_0, tokA]
    · simp [SV, mpK]
    · rw [hn]; exact ⟨rfl, rfl⟩
  have h41' := ne_nat (z := 41) rfl h41
  by_cases h44 : c = 44
  · subst h44
    have hn : nextT (t.drop k) = some (6, [], 1) := by rw [hd, nextT]; simp
    simp [-noItr, hN, noItr_var, noItr_mp, noItr_none, a_tokens_scanner_next, g0, g00, q0, SV, get_0, get_1, set_0, set_1, hwk, hc, hc2]
    refine er_set id (SV t (k + 1)) (.tup [tokA 6 [] 0, .bool true]) [.var 130 [.int .i64 6, .str [], .int .i64 0], mpK] ?_ ?_ (SV_under _ _ _) ?_
    · simp [retAt, a_tokens_scanner_next, get_0, tokA]
    · simp [SV, mpK]
    · rw [hn]; exact ⟨rfl, rfl⟩
  have h44' := ne_nat (z := 44) rfl h44
  have hq := idx_quote c
  by_cases hqq : c = 39 ∨ c = 34
  · have hq0 := hq.2 hqq
    simp [-noItr, hN, noItr_var, noItr_mp, noItr_none, a_tokens_scanner_next, g0, g00, q0, SV, get_0, get_1, set_0, set_1, hwk, hc, hc2, h40', h41', h44']
    refine ac_same (indexByte_ok _ c) (by simp) ?_
    rintro r rfl
    simp [hq0]
    refine ac_eff (tquoted_ok' hid _ t k c hc h3) ?_
    intro r σ1 hr
    by_cases hneg : Lib.indexByte (t.drop (k + 1)) c < 0
    · rw [if_pos hneg] at hr
      obtain ⟨rfl, rfl⟩ := hr
      have hn : nextT (t.drop k) = none := by rw [hd, nextT, if_neg h40, if_neg h41, if_neg h44, if_pos hqq, if_pos hneg]
      simp [g0, q0, get_0, get_1, set_0, set_1]
      refine er_set id (SV t k) (.tup [tokA 3 [] 0, .bool false]) [.var 130 [.int .i64 3, .str [], .int .i64 0], mpK] ?_ ?_ (SV_under _ _ _) ?_
      · simp [retAt, a_tokens_scanner_next, get_0, tokA]
      · simp [SV, mpK]
      · rw [hn]; exact ⟨3, [], k, by omega, rfl, rfl⟩
    · rw [if_neg hneg] at hr
      obtain ⟨rfl, rfl⟩ := hr
      have hn : nextT (t.drop k) = some (3, (t.drop (k + 1)).take (Lib.indexByte (t.drop (k + 1)) c).toNat, (Lib.indexByte (t.drop (k + 1)) c).toNat + 2) := by rw [hd, nextT, if_neg h40, if_neg h41, if_neg h44, if_pos hqq, if_neg hneg]
      simp [g0, q0, get_0, get_1, set_0, set_1]
      refine er_set id (SV t (k + (Lib.indexByte (t.drop (k + 1)) c).toNat + 2)) (.tup [tokA 3 ((t.drop (k + 1)).take (Lib.indexByte (t.drop (k + 1)) c).toNat) 0, .bool true]) [.var 130 [.int .i64 3, .str ((t.drop (k + 1)).take (Lib.indexByte (t.drop (k + 1)) c).toNat), .int .i64 0], mpK] ?_ ?_ (SV_under _ _ _) ?_
      · simp [retAt, a_tokens_scanner_next, get_0, tokA]
      · simp [SV, mpK]
      · rw [hn]; exact ⟨rfl, rfl⟩
  · have hq0 : ¬ 0 ≤ Lib.indexByte [39, 34] c := fun h => hqq (hq.1 h)
    simp [-noItr, hN, noItr_var, noItr_mp, noItr_none, a_tokens_scanner_next, g0, g00, q0, SV, get_0, get_1, set_0, set_1, hwk, hc, hc2, h40', h41', h44']
    refine ac_same (indexByte_ok _ c) (by simp) ?_
    rintro r rfl
    simp [hq0]
    refine ac_eff (trow_ok' hid _ t k (t.length - k) (by omega) h3 (Nat.le_refl _)) ?_
    intro r σ1 hr
    have hlen : (t.drop (k + 1)).length + 1 = t.length - k := by rw [List.length_drop]; omega
    have hnx : nextT (t.drop k) = match rowF (t.length - k) (t.drop k) with
      | none => none
      | some 0 => none
      | some (j + 1) => some (if isNum ((t.drop k).take (j + 1)) then 2 else 1, (t.drop k).take (j + 1), j + 1) := by
      rw [hd, nextT, if_neg h40, if_neg h41, if_neg h44, if_neg hqq, hlen]
      cases rowF (t.length - k) (c :: t.drop (k + 1)) with
      | none => rfl
      | some m => cases m <;> rfl
    cases hrw : rowF (t.length - k) (t.drop k) with
    | none =>
      rw [hrw] at hr hnx
      obtain ⟨k', hk', rfl, rfl⟩ := hr
      simp [g0, q0, get_0, get_1, set_0, set_1]
      refine ac_same (tword_ok [] (by simp)) (by simp) ?_
      rintro r rfl
      simp [g0, q0, get_0, get_1, set_0, set_1]
      refine er_set id (SV t k') (.tup [tokA (if isNum [] then 2 else 1) [] 0, .bool false]) [.var 130 [.int .i64 (if isNum [] then 2 else 1), .str [], .int .i64 0], mpK] ?_ ?_ (SV_under _ _ _) ?_
      · simp [retAt, a_tokens_scanner_next, get_0, tokA]
      · simp [SV, mpK]
      · rw [hnx]; exact ⟨_, [], k', hk', rfl, rfl⟩
    | some m =>
      rw [hrw] at hr hnx
      obtain ⟨rfl, rfl⟩ := hr
      have hml := rowF_le _ _ _ hrw
      rw [List.length_drop] at hml
      simp [g0, q0, get_0, get_1, set_0, set_1]
      refine ac_same (tword_ok ((t.drop k).take m) (by simp; omega)) (by simp) ?_
      rintro r rfl
      simp [g0, q0, get_0, get_1, set_0, set_1]
      refine er_set id (SV t (k + m)) (.tup [tokA (if isNum ((t.drop k).take m) then 2 else 1) ((t.drop k).take m) 0, .bool (decide (0 < m))]) [.var 130 [.int .i64 (if isNum ((t.drop k).take m) then 2 else 1), .str ((t.drop k).take m), .int .i64 0], mpK] ?_ ?_ (SV_under _ _ _) ?_
      · simp [retAt, a_tokens_scanner_next, get_0, tokA]
      · simp [SV, mpK]
      · rw [hnx]
        cases m with
        | zero => exact ⟨_, _, k, by omega, by simp; rfl, rfl⟩
        | succ j => exact ⟨by simp, rfl⟩
end Go.Proofs.YtigkchpjpdbodaaGreatDoor
end
section
set_option maxHeartbeats 4000000
namespace Go.Tok
theorem nextT_le {s : List UInt8} {x : Int × List UInt8 × Nat} (h : nextT s = some x) : 1 ≤ x.2.2 ∧ x.2.2 ≤ s.length := by
  cases s with
  | nil => simp [nextT] at h
  | cons c r =>
    rw [nextT] at h
    by_cases h1 : c = 40
    · rw [if_pos h1] at h; cases h; simp
    rw [if_neg h1] at h
    by_cases h2 : c = 41
    · rw [if_pos h2] at h; cases h; simp
    rw [if_neg h2] at h
    by_cases h3 : c = 44
    · rw [if_pos h3] at h; cases h; simp
    rw [if_neg h3] at h
    by_cases h4 : c = 39 ∨ c = 34
    · rw [if_pos h4] at h
      by_cases hneg : Lib.indexByte r c < 0
      · rw [if_pos hneg] at h; cases h
      · rw [if_neg hneg] at h
        cases h
        have hi : Lib.indexByte r c = ((Lib.indexByte r c).toNat : Int) := by omega
        have := (List.getElem?_eq_some_iff.1 (Lib.indexByte_some hi).1).1
        simp
        omega
    · rw [if_neg h4] at h
      cases hr : rowF (r.length + 1) (c :: r) with
      | none => rw [hr] at h; cases h
      | some m =>
        rw [hr] at h
        have hm := rowF_le _ _ _ hr
        cases m with
        | zero => cases h
        | succ j => cases h; exact ⟨by simp, hm⟩
end Go.Tok
namespace Go.Proofs.YtigkchpjpdbodaaGreatDoor
open Go.Abs Go.Glob Go.Tok
variable {G : Globs}
def tkEls (l : List Tk) : List (List AV) := l.map fun x => [.int .i64 x.kind, .str x.text, .int .i64 x.place]
def splitAV : Except Nat (List Tk) → AV
  | .ok l => .tup [.lst (tkEls l), .int .i64 0]
  | .error e => .tup [.lst [], .int .i64 e]
/-- A slice that grows somewhere behind the first entry. -/
def AccR (e size : Nat) (σ : Store) (v : AV) (l : List (List AV)) : Prop := noItr σ = true ∧ ((l = [] ∧ v = .nils) ∨ (l ≠ [] ∧ ∃ rid, 0 < rid ∧ v = .row rid l.length ∧ σ[rid]? = some (.row e size l true)))
theorem AccR.more {e size : Nat} {σ : Store} {v : AV} {l : List (List AV)} (h : AccR e size σ v l) (x : Store) (hx : noItr x = true) : AccR e size (σ ++ x) v l := by
  refine ⟨by rw [noItr_app, h.1, hx]; rfl, ?_⟩
  rcases h.2 with h | ⟨h1, rid, h2, h3, h4⟩
  · exact .inl h
  · refine .inr ⟨h1, rid, h2, h3, ?_⟩
    rw [List.getElem?_append_left (List.getElem?_eq_some_iff.1 h4).1]; exact h4
theorem ap_accR {K : AV → Store → Prop} {t : Tg K} {e size bytes : Nat} {σ : Store} {v : AV} {l : List (List AV)} {e0 : Entry} (h : AccR e size σ v l) (x : List AV) (hs : 0 < size) (hx : x.length = size) (h0 : 0 < σ.length) (hb : (l.length + 1) * bytes ≤ 140737488355328) (h63 : l.length + 1 ≤ 9223372036854775807)
    (hK : ∀ v' σ', AccR e size σ' v' (l ++ [x]) → 0 < σ'.length → K v' (σ'.set 0 e0)) : ap K t (σ.set 0 e0) e size bytes v (.lst [x]) := by
  obtain ⟨hn, h⟩ := h
  rcases h with ⟨rfl, rfl⟩ | ⟨h1, rid, h2, rfl, h4⟩
  · refine ap_new true [x] rfl hs (by simp [hx]) (fun _ => .inl rfl) (by simpa using hb) (by simp) ?_
    have := hK (.row σ.length 1) (σ ++ [.row e size [x] true]) ⟨by rw [noItr_app, hn]; rfl, .inr ⟨by simp, σ.length, h0, by simp, by simp⟩⟩ (by simp)
    rw [List.set_append_left _ _ h0] at this
    simpa using this
  · have hlt := (List.getElem?_eq_some_iff.1 h4).1
    have hne : 0 ≠ rid := by omega
    refine ap_row l [x] true (by rw [List.getElem?_set_ne hne]; exact h4) rfl hs (by simp [hx]) (fun _ => .inl rfl) rfl (by simpa using hb) (by simpa using h63) ?_
    have := hK (.row rid (l.length + 1)) (σ.set rid (.row e size (l ++ [x]) true)) ⟨noItr_set hn rid rfl, .inr ⟨by simp, rid, h2, by simp, by simp [hlt]⟩⟩ (by simpa using h0)
    rw [List.set_comm _ _ hne.symm] at this
    simpa using this
theorem ap_accR' {K : AV → Store → Prop} {t : Tg K} {e size bytes : Nat} {σ : Store} {v : AV} {l : List (List AV)} {e0 : Entry} (ex : Store) (hex : noItr ex = true) (h : AccR e size σ v l) (x : List AV) (hs : 0 < size) (hx : x.length = size) (h0 : 0 < σ.length) (hb : (l.length + 1) * bytes ≤ 140737488355328) (h63 : l.length + 1 ≤ 9223372036854775807)
    (hK : ∀ v' σ', AccR e size σ' v' (l ++ [x]) → 0 < σ'.length → K v' (σ'.set 0 e0)) : ap K t (σ.set 0 e0 ++ ex) e size bytes v (.lst [x]) := by
  rw [set_app e0 h0]
  exact ap_accR (h.more ex hex) x hs hx (by simp; omega) hb h63 hK
theorem tsplit_ok [GDec] (s : List UInt8) (hs : s.length ≤ 9223372036854775807) : PCalls Tryz.prog n_tokens_Split [.str s] (fun r => r = splitAV (Tok.split s)) := by
  refine pcalls_of_awp hmix c_tokens_Split rfl ?_
  simp [a_tokens_Split]
  by_cases h1k : 1024 < s.length
  · have h1k' : (1024 : Int) < (s.length : Int) := by omega
    simp [h1k, h1k', Tok.split, splitAV]
  have h1k' : ¬ (1024 : Int) < (s.length : Int) := by omega
  simp [h1k, h1k']
  have h3 : s.length ≤ 1000000 := by omega
  refine lp_startx (fun x f σ => ∃ (k n : Nat) (l : List Tk) (σ0 : Store), x = s.length - k ∧ k ≤ s.length ∧ s.length - k ≤ n ∧ l.length ≤ k ∧ splitF s.length 0 s = (splitF n k (s.drop k)).map (l ++ ·) ∧ f 5 = .ptr 0 0 ∧ AccR 130 3 σ0 (f 4) (tkEls l) ∧ 0 < σ0.length ∧ σ = σ0.set 0 (SV s k)) s.length ?_ ?_
  · exact ⟨0, s.length, [], [SV s 0], by simp, by simp, by simp, by simp, by simp, by simp, ⟨rfl, .inl ⟨rfl, by simp⟩⟩, by simp, by simp [SV]⟩
  rintro x f σ ⟨k, n, l, σ0, hx, hk2, hn, hlk, hspl, h5, hacc, hid, rfl⟩
  have g0 := @set_get σ0 0 hid
  have g00 := @set_get' σ0 0 hid
  have q0 := @set_set σ0 0 hid
  simp [h5]
  refine ac_lent (more_ok s k) (.cons (coe_ptr (g00 _) (by simp) rfl) .nil) ?_
  rintro r rfl
  refine ⟨by simp, ?_⟩
  by_cases hk : k < s.length
  · obtain ⟨c, hc⟩ : ∃ c, s[k]? = some c := ⟨_, List.getElem?_eq_getElem hk⟩
    have hd := drop_cons hc
    obtain ⟨_, hc2⟩ := List.getElem?_eq_some_iff.1 hc
    obtain ⟨n, rfl⟩ : ∃ j, n = j + 1 := ⟨n - 1, by omega⟩
    have hwk : IntKind.i64.wrap ((k : Int) + 1) = (k : Int) + 1 := wrap_i64 (by omega) (by omega)
    by_cases h32 : c = 32
    · subst h32
      simp [hk, h5, g00, SV, hc, hc2, hwk]
      refine nx_intro (s.length - (k + 1)) (by omega) ⟨k + 1, n, l, σ0, rfl, by omega, by omega, by omega, ?_, by simp [h5], by simpa using hacc, hid, by simp [SV]⟩
      rw [hspl, hd, splitF, if_pos rfl]
    · have h32' := ne_nat (z := 32) rfl h32
      simp [hk, h5, g00, SV, hc, hc2, hwk, h32']
      refine ac_eff (tnext_ok hacc.1 hid s k hk h3) ?_
      intro r σ1 hr
      cases hnx : nextT (s.drop k) with
      | none =>
        rw [hnx] at hr
        obtain ⟨kd, tx, k', hk', rfl, rfl⟩ := hr
        have hnone : Tok.split s = .error 16 := by
          have : splitF s.length 0 s = none := by rw [hspl, hd, splitF, if_neg h32, ← hd, hnx]; rfl
          simp [Tok.split, h1k, this]
        simp [tokA, hnone, splitAV]
      | some y =>
        rw [hnx] at hr
        obtain ⟨rfl, rfl⟩ := hr
        have hyl := nextT_le hnx
        rw [List.length_drop] at hyl
        simp [tokA]
        have htl : (tkEls l).length = l.length := by simp [tkEls]
        refine ap_accR' _ (by rfl) hacc _ (by omega) rfl hid (by omega) (by omega) ?_
        intro v' σ' hacc' hid'
        simp
        refine nx_intro (s.length - (k + y.2.2)) (by omega) ⟨k + y.2.2, n, l ++ [⟨y.1, y.2.1, k⟩], σ', rfl, by omega, by omega, by simp; omega, ?_, by simp [h5], by simpa [tkEls] using hacc', hid', by simp [SV]⟩
        rw [hspl, hd, splitF, if_neg h32, ← hd, hnx]
        simp only [Option.bind_some, List.drop_drop]
        cases splitF n (k + y.2.2) (List.drop (k + y.2.2) s) with
        | none => simp
        | some z => simp
  · have htl : (tkEls l).length = l.length := by simp [tkEls]
    have hsp : Tok.split s = if 256 < l.length then .error 11 else .ok l := by
      have h0 : splitF s.length 0 s = some l := by
        rw [hspl, List.drop_of_length_le (by omega)]
        cases n <;> simp [splitF]
      simp [Tok.split, h1k, h0]
    rw [hsp]
    rcases hacc.2 with ⟨h1, h4⟩ | ⟨h1, rid, h2, h4, he⟩
    · have hl0 : l = [] := by simpa [tkEls] using h1
      subst hl0
      simp [hk, h4, splitAV, view, tkEls]
    · have he' : (σ0.set 0 (SV s k))[rid]? = some (.row 130 3 (tkEls l) true) := by rw [List.getElem?_set_ne (by omega)]; exact he
      by_cases h256 : 256 < l.length
      · have h256' : (256 : Int) < (l.length : Int) := by omega
        simp [hk, h4, view, he', htl, h256, h256', splitAV]
      · have h256' : ¬ (256 : Int) < (l.length : Int) := by omega
        simp [hk, h4, view, he', htl, h256, h256', splitAV]
end Go.Proofs.YtigkchpjpdbodaaGreatDoor
end
section
set_option maxHeartbeats 4000000
namespace Go.Proofs.YtigkchpjpdbodaaGreatDoor
open Go.Abs Go.Tgt
variable {G : Globs}
def intEls (l : List Int) : List (List AV) := l.map fun n => [.int .i64 n]
def ndC (n : Nd) : List AV := [.int .i64 n.kind, .str n.text, .int .i64 n.num, .lst (intEls n.args)]
def ndA (n : Nd) : AV := .agg (ndC n)
def ndEls (l : List Nd) : List (List AV) := l.map ndC
theorem ndA_eq (n : Nd) : ndA n = .agg [.int .i64 n.kind, .str n.text, .int .i64 n.num, .lst (intEls n.args)] := rfl
theorem ndEls_len (l : List Nd) : (ndEls l).length = l.length := by simp [ndEls]
theorem ndEls_get {l : List Nd} {i : Nat} {n : Nd} (h : l[i]? = some n) : (ndEls l)[i]? = some [.int .i64 n.kind, .str n.text, .int .i64 n.num, .lst (intEls n.args)] := by simp [ndEls, h, ndC]
theorem ndEls_app1 (l : List Nd) (n : Nd) : ndEls l ++ [[.int .i64 n.kind, .str n.text, .int .i64 n.num, .lst (intEls n.args)]] = ndEls (l ++ [n]) := by simp [ndEls, ndC]
theorem ndEls_pure (l : List Nd) : ∀ c ∈ ndEls l, ∀ a ∈ c, a.pure = true := by
  intro c hc a ha
  obtain ⟨n, _, rfl⟩ := List.mem_map.1 hc
  simp only [ndC, List.mem_cons, List.mem_nil_iff, or_false] at ha
  rcases ha with rfl | rfl | rfl | rfl <;> simp [AV.pure]
/-- The parser: its tokens, its place, its nodes. -/
def parE (t : List Tok.Tk) (k : Nat) (V : AV) : Entry := .var 91 [.lst (tkEls t), .int .i64 k, V]
def kindAt (t : List Tok.Tk) (k : Nat) : Int := match t[k]? with
  | some x => x.kind
  | none => 0
theorem tkEls_len' (t : List Tok.Tk) : (tkEls t).length = t.length := by simp [tkEls]
theorem tkEls_get' {t : List Tok.Tk} {k : Nat} {x : Tok.Tk} (h : t[k]? = some x) : (tkEls t)[k]? = some [.int .i64 x.kind, .str x.text, .int .i64 x.place] := by simp [tkEls, h]
theorem peek_okT (t : List Tok.Tk) (ht : t.length ≤ 1000000) (k s : Nat) (hk : k ≤ 1000000) (hs : s ≤ 1000000) (L : AV) : PCalls Tryz.prog n_target_parser_peek [.rptr [.lst (tkEls t), .int .i64 k, L], .int .i64 s] (fun r => r = .int .i64 (kindAt t (k + s))) := by
  refine pcalls_of_awp hmix c_target_parser_peek rfl ?_
  have hl := tkEls_len' t
  have hw : IntKind.i64.wrap ((k : Int) + (s : Int)) = ((k + s : Nat) : Int) := by rw [wrap_i64 (by omega) (by omega)]; omega
  unfold kindAt
  obtain ⟨q, hq⟩ : ∃ q, q = k + s := ⟨_, rfl⟩
  rw [← hq] at hw ⊢
  by_cases h : t.length ≤ q
  · rw [List.getElem?_eq_none h]
    simp [a_target_parser_peek, hl, hw, h]
  · have h' : q < t.length := by omega
    obtain ⟨x, hx⟩ : ∃ x, t[q]? = some x := ⟨_, List.getElem?_eq_getElem h'⟩
    have hg := tkEls_get' hx
    obtain ⟨h1, h2⟩ := List.getElem?_eq_some_iff.1 hg
    rw [hx]
    simp [a_target_parser_peek, hl, hw, h, hg, h1, h2]
theorem coe_par {σ : Store} {id : Nat} {t : List Tok.Tk} {k : Nat} {V : AV} {l : List Nd} (h : σ[id]? = some (parE t k V)) (ha : AccI 97 4 σ V (ndEls l)) : Coe σ true (.ptr id 0) (.rptr [.lst (tkEls t), .int .i64 k, .lst (ndEls l)]) := by
  have := Coe.ptr (σ := σ) (lend := true) id 0 91 [.lst (tkEls t), .int .i64 k, V] [.lst (tkEls t), .int .i64 k, .lst (ndEls l)] h rfl (by simp) rfl (fun j hj hj' => by
    match j, hj with
    | 0, _ => exact .pure _ (by simp [AV.pure])
    | 1, _ => exact .pure _ (by simp [AV.pure])
    | 2, _ => exact ha.coe true) (by simp [AV.one])
  simpa using this
/-- The row of nodes is not the parser itself. -/
theorem par_ne {σ : Store} {id : Nat} {t : List Tok.Tk} {k : Nat} {V : AV} {l : List (List AV)} (h : σ[id]? = some (parE t k V)) (ha : AccI 97 4 σ V l) : V ≠ .row id l.length := by
  rintro rfl
  rcases ha with ⟨_, h2⟩ | ⟨_, rid, h2, h3⟩
  · cases h2
  · cases h2
    rw [h] at h3
    cases h3
/-- What a step of the parser leaves: its place, its nodes; all else is kept. -/
def ParR (σ σ' : Store) (id : Nat) (t : List Tok.Tk) (k : Nat) (V : AV) (n : Nat) (l' : List Nd) : Prop :=
  ∃ V', σ'[id]? = some (parE t k V') ∧ AccI 97 4 σ' V' (ndEls l') ∧ Kept σ σ' ∧ (∀ (i : Nat) (e : Entry), σ[i]? = some e → i ≠ id → V ≠ .row i n → σ'[i]? = some e) ∧ ∀ (i m : Nat), V' = .row i m → i < σ.length → V = .row i n
theorem get_more {σ : Store} {i : Nat} {e x : Entry} (h : σ[i]? = some e) : (σ ++ [x])[i]? = some e := by
  rw [List.getElem?_append_left (List.getElem?_eq_some_iff.1 h).1]; exact h
theorem parE_under {t : List Tok.Tk} {k : Nat} {V : AV} {m : Nat} (h : V.under m = true) : (parE t k V).under m = true := by
  simp [parE, Entry.under, AV.under, h]
theorem put_okT (σ : Store) (id : Nat) (t : List Tok.Tk) (k : Nat) (V : AV) (l : List Nd) (n : Nd) (h : σ[id]? = some (parE t k V)) (ha : AccI 97 4 σ V (ndEls l)) (hl : l.length ≤ 1000000) :
    ACalls Tryz.prog n_target_parser_put [.ptr id 0, ndA n] σ (fun r σ' => r = .int .i64 0 ∧ ParR σ σ' id t k V l.length (l ++ [n])) := by
  refine acalls_of_awp_e hmix c_target_parser_put rfl ?_
  have hid := (List.getElem?_eq_some_iff.1 h).1
  have hll := ndEls_len l
  have hone := ha.one
  have hne := par_ne h ha
  rw [hll] at hne
  obtain ⟨B, hB⟩ : ∃ B : Entry, B = .var 97 [.int .i64 n.kind, .str n.text, .int .i64 n.num, .lst (intEls n.args)] := ⟨_, rfl⟩
  have h1 : (σ ++ [B])[id]? = some (parE t k V) := get_more h
  have h1' : (σ ++ [B])[id]? = some (.var 91 [.lst (tkEls t), .int .i64 k, V]) := h1
  have ha1 : AccI 97 4 (σ ++ [B]) V (ndEls l) := ha.keep fun i e he _ => get_more he
  have hBg : (σ ++ [B])[σ.length]? = some B := by simp
  have hBu : ∀ m, B.under m = true := fun m => by rw [hB]; simp [Entry.under, AV.under]
  rw [ndA_eq]
  have hBg' : (σ ++ [B])[σ.length]? = some (.var 97 [.int .i64 n.kind, .str n.text, .int .i64 n.num, .lst (intEls n.args)]) := by rw [hBg, hB]
  simp [a_target_parser_put, boxOp]
  rw [← hB]
  simp [h1', hBg', hone]
  try rw [← hB]
  refine ap_accI (bytes := 56) ha1 [.int .i64 n.kind, .str n.text, .int .i64 n.num, .lst (intEls n.args)] (by decide) rfl (by rw [ndEls_app1]; exact ndEls_pure _) (by rw [hll]; omega) (by rw [hll]; omega) fun V' σ2 ha2 hk2 hkeep hsame => ?_
  rw [ndEls_app1] at ha2
  rw [hll] at hkeep
  have h2 := hkeep id _ h1 hne
  have h2' : σ2[id]? = some (.var 91 [.lst (tkEls t), .int .i64 k, V]) := h2
  have hid2 := (List.getElem?_eq_some_iff.1 h2).1
  have hone2 := ha2.one
  have hne2 : ∀ (m : Nat), V' ≠ .row id m := by
    rintro m rfl
    rcases ha2 with ⟨_, h3⟩ | ⟨_, rid, h3, h4⟩
    · cases h3
    · cases h3
      rw [h2] at h4
      cases h4
  simp [h2', hone2, splice]
  refine er_keep (σ2.set id (parE t k V')) (.int .i64 0) (by simp [tupOf]) [] (by simp [parE]) ?_ (by simp [AV.under]) ?_ ⟨rfl, V', ?_, ?_, ?_, ?_, ?_⟩
  · have := hk2.len; simp at this ⊢; omega
  · exact ((((Kept.refl σ).app (hBu _)).trans hk2).set id (parE_under ha2.under)).und
  · rw [List.getElem?_set_self hid2]
  · refine ha2.keep fun i e he hv => ?_
    have hii : id ≠ i := fun e => hne2 _ (by rw [hv, e])
    rw [List.getElem?_set_ne hii]; exact he
  · exact (((Kept.refl σ).app (hBu _)).trans hk2).set id (parE_under ha2.under)
  · intro i e he hi hv
    rw [List.getElem?_set_ne (fun e => hi e.symm)]
    exact hkeep i e (get_more he) hv
  · intro i m hm hi
    have := hsame i m hm (by simp; omega)
    rw [hll] at this; exact this
end Go.Proofs.YtigkchpjpdbodaaGreatDoor
end
