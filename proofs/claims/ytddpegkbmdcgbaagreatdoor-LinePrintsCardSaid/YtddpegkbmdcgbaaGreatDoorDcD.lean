/- Numbers as text: Whole, and the document's Parse and Whole. -/
import Derived.Test.YtddpegkbmdcgbaaGreatDoorDcC
set_option linter.unusedSimpArgs false
set_option linter.unusedVariables false
set_option linter.constructorNameAsVariable false
set_option maxHeartbeats 2000000
namespace Go.Dec
/-- Digits, then what is none. -/
theorem tw_app {A R : List UInt8} (hA : A.all isD = true) (hR : ∀ c t, R = c :: t → isD c = false) : (A ++ R).takeWhile isD = A ∧ (A ++ R).dropWhile isD = R := by
  induction A with
  | nil =>
    cases R with
    | nil => simp
    | cons c t => simp [hR c t rfl]
  | cons a A ih =>
    simp only [List.all_cons, Bool.and_eq_true] at hA
    have := ih hA.2
    simp [hA.1, this.1, this.2]
theorem tw_full {s : List UInt8} : (s.takeWhile isD).length < s.length ↔ s.all isD = false := by
  constructor
  · intro h
    cases ha : s.all isD with
    | false => rfl
    | true =>
      exfalso
      have : s.takeWhile isD = s := by
        have := (tw_app (R := []) ha (fun c t h => by simp at h)).1
        simpa using this
      rw [this] at h; omega
  · intro h
    refine Nat.lt_of_le_of_ne (tw_len s) fun he => ?_
    have h1 := tw_take s
    rw [he, List.take_length] at h1
    have := all_tw s
    rw [← h1] at this
    rw [this] at h; cases h

theorem isD_pt : isD 46 = false := by decide

/-- How far a text has been read: the digits ahead of the first point, the digits behind it, the points. -/
def Rd (t A B : List UInt8) (pts : Nat) : Prop := A.all isD = true ∧ B.all isD = true ∧
  ((pts = 0 ∧ t = A ∧ B = []) ∨ (pts = 1 ∧ t = A ++ 46 :: B) ∨ (2 ≤ pts ∧ ∃ C, t = A ++ 46 :: C ∧ 46 ∈ C))
theorem Rd.end {t A B : List UInt8} {pts : Nat} (h : Rd t A B pts) : parts t = if A.length + B.length = 0 ∨ 1 < pts then none else some (A, B) := by
  obtain ⟨hA, hB, ⟨rfl, rfl, rfl⟩ | ⟨rfl, rfl⟩ | ⟨hp, C, rfl, hC⟩⟩ := h
  · have := tw_app (R := []) hA (fun c t h => by simp at h)
    simp only [List.append_nil] at this
    unfold parts
    simp only [this.1, this.2]
    by_cases h0 : t = []
    · simp [h0]
    · simp [h0]
  · have := tw_app (R := 46 :: B) hA (fun c t h => by cases h; exact isD_pt)
    have h2 := tw_app (R := []) hB (fun c t h => by simp at h)
    simp only [List.append_nil] at h2
    unfold parts
    simp only [this.1, this.2, h2.2]
    by_cases h0 : A = [] ∧ B = []
    · simp [h0.1, h0.2]
    · have : ¬ (A.length + B.length = 0) := fun he => h0 ⟨List.eq_nil_of_length_eq_zero (by omega), List.eq_nil_of_length_eq_zero (by omega)⟩
      have h3 : A = [] → ¬ B = [] := fun ha hb => h0 ⟨ha, hb⟩
      simp
      rw [if_pos h3, if_neg h0]
  · have := tw_app (R := 46 :: C) hA (fun c t h => by cases h; exact isD_pt)
    unfold parts
    simp only [this.1, this.2]
    have hd : ¬ C.dropWhile isD = [] := fun he => by
      have := tw_all C he
      have h1 := all_tw C
      rw [this, List.all_eq_true] at h1
      have := h1 46 hC
      simp [isD_pt] at this
    simp [hd]; omega
theorem Rd.bad {t A B r : List UInt8} {pts : Nat} {c : UInt8} (h : Rd t A B pts) (h1 : isD c = false) (h2 : c ≠ 46) : parts (t ++ c :: r) = none := by
  obtain ⟨hA, hB, ⟨rfl, rfl, rfl⟩ | ⟨rfl, rfl⟩ | ⟨hp, C, rfl, hC⟩⟩ := h
  · have := tw_app (R := c :: r) hA (fun c t h => by cases h; exact h1)
    unfold parts
    simp only [this.1, this.2]
    simp [h2]
  · have := tw_app (R := 46 :: (B ++ c :: r)) hA (fun c t h => by cases h; exact isD_pt)
    have h2 := tw_app (R := c :: r) hB (fun c t h => by cases h; exact h1)
    unfold parts
    simp only [List.append_assoc, List.cons_append, this.1, this.2, h2.2]
    simp
  · have := tw_app (R := 46 :: (C ++ c :: r)) hA (fun c t h => by cases h; exact isD_pt)
    unfold parts
    simp only [List.append_assoc, List.cons_append, this.1, this.2]
    have hd : ¬ (C ++ c :: r).dropWhile isD = [] := fun he => by
      have := tw_all _ he
      have h1 := all_tw (C ++ c :: r)
      rw [this, List.all_eq_true] at h1
      have := h1 46 (by simp [hC])
      simp [isD_pt] at this
    simp [hd]
theorem Rd.pt {t A B : List UInt8} {pts : Nat} (h : Rd t A B pts) : Rd (t ++ [46]) A B (pts + 1) := by
  obtain ⟨hA, hB, ⟨rfl, rfl, rfl⟩ | ⟨rfl, rfl⟩ | ⟨hp, C, rfl, hC⟩⟩ := h
  · exact ⟨hA, hB, .inr (.inl ⟨rfl, by simp⟩)⟩
  · exact ⟨hA, hB, .inr (.inr ⟨by omega, B ++ [46], by simp, by simp⟩)⟩
  · exact ⟨hA, hB, .inr (.inr ⟨by omega, C ++ [46], by simp, by simp⟩)⟩
theorem Rd.ahead {t A B : List UInt8} {c : UInt8} (h : Rd t A B 0) (hc : isD c = true) : Rd (t ++ [c]) (A ++ [c]) B 0 := by
  obtain ⟨hA, hB, ⟨_, rfl, rfl⟩ | ⟨h0, _⟩ | ⟨hp, _⟩⟩ := h
  · exact ⟨by simpa [hc] using hA, hB, .inl ⟨rfl, rfl, rfl⟩⟩
  · omega
  · omega
theorem Rd.behind {t A B : List UInt8} {pts : Nat} {c : UInt8} (h : Rd t A B pts) (hp : 0 < pts) (hc : isD c = true) : Rd (t ++ [c]) A (B ++ [c]) pts := by
  obtain ⟨hA, hB, ⟨h0, _⟩ | ⟨rfl, rfl⟩ | ⟨hp, C, rfl, hC⟩⟩ := h
  · omega
  · exact ⟨hA, by simpa [hc] using hB, .inr (.inl ⟨rfl, by simp⟩)⟩
  · exact ⟨hA, by simpa [hc] using hB, .inr (.inr ⟨hp, C ++ [c], by simp, by simp [hC]⟩)⟩

/-- The number so far, or far beyond. -/
def Num (l : List UInt8) (n : Nat) (far : Bool) : Prop := n ≤ 11529215046068469769 ∧ (far = false → n = dval 0 l) ∧ (far = true → 1152921504606846976 < n ∧ 9223372036854775807 < dval 0 l)
theorem Num.far {l : List UInt8} {n : Nat} {far : Bool} {c : UInt8} (h : Num l n far) (hn : 1152921504606846976 < n) : Num (l ++ [c]) n true := by
  refine ⟨h.1, by simp, fun _ => ⟨hn, ?_⟩⟩
  have e : dval 0 (l ++ [c]) = dval 0 l * 10 + dig c := by rw [dval_append, dval_cons, dval_nil]
  rw [e]
  cases far with
  | false => have := h.2.1 rfl; omega
  | true => have := (h.2.2 rfl).2; omega
theorem Num.step {l : List UInt8} {n : Nat} {far : Bool} {c : UInt8} (h : Num l n far) (hn : n ≤ 1152921504606846976) (hc : dig c ≤ 9) : far = false ∧ Num (l ++ [c]) (n * 10 + dig c) far := by
  have hf : far = false := by
    cases far with
    | false => rfl
    | true => have := (h.2.2 rfl).1; omega
  subst hf
  have e : dval 0 (l ++ [c]) = dval 0 l * 10 + dig c := by rw [dval_append, dval_cons, dval_nil]
  refine ⟨rfl, by omega, fun _ => ?_, by simp⟩
  rw [e, ← h.2.1 rfl]
theorem dig_le {c : UInt8} (h : isD c = true) : dig c ≤ 9 := by
  have := (isD_iff c).1 h
  unfold dig; omega
theorem pad_eq (B : List UInt8) : pad B = B.take 6 ++ List.replicate (6 - B.length) 48 := by
  unfold pad
  by_cases h : 6 ≤ B.length
  · rw [List.take_append_of_le_length h]
    have : 6 - B.length = 0 := by omega
    simp [this]
  · have h' : B.length ≤ 6 := by omega
    rw [List.take_append, List.take_of_length_le h', show [(48 : UInt8), 48, 48, 48, 48, 48] = List.replicate 6 48 from rfl, List.take_replicate, Nat.min_eq_left (by omega)]
end Go.Dec
namespace Go.Proofs.YtddpegkbmdcgbaaGreatDoor
open Go.Abs Go.Dec
variable {G : Globs}

theorem digit_ok (c : UInt8) : PCalls Tryz.prog n_isobarref03_digit [.int .u8 c.toNat] (fun r => r = .bool (isD c)) := by
  refine pcalls_of_awp hmix c_isobarref03_digit rfl ?_
  have h := isD_iff c
  by_cases h1 : 48 ≤ c.toNat
  · have h1' : (48 : Int) ≤ (c.toNat : Int) := by omega
    by_cases h2 : c.toNat ≤ 57
    · have h2' : (c.toNat : Int) ≤ 57 := by omega
      have := h.2 ⟨h1, h2⟩
      simp [a_isobarref03_digit, h1, h1', h2, h2', this]
    · have h2' : ¬ (c.toNat : Int) ≤ 57 := by omega
      have : isD c = false := by
        cases hd : isD c with
        | false => rfl
        | true => exact absurd (h.1 hd).2 h2
      simp [a_isobarref03_digit, h1, h1', h2, h2', this]
  · have h1' : ¬ (48 : Int) ≤ (c.toNat : Int) := by omega
    have : isD c = false := by
      cases hd : isD c with
      | false => rfl
      | true => exact absurd (h.1 hd).1 h1
    simp [a_isobarref03_digit, h1, h1', this]

theorem wrap_u64 {x : Int} (h1 : 0 ≤ x) (h2 : x ≤ 18446744073709551615) : IntKind.u64.wrap x = x := by
  simp [IntKind.wrap, IntKind.signed, IntKind.bits]; omega
theorem wrap_u8 {x : Int} (h1 : 0 ≤ x) (h2 : x ≤ 255) : IntKind.u8.wrap x = x := by
  simp [IntKind.wrap, IntKind.signed, IntKind.bits]; omega

/-- The code behind so many steps; a loop's parts. -/
def tailC : Nat → ACode → ACode
  | n + 1, .seq _ b => tailC n b
  | _, c => c
def headC : ACode → ACode
  | .seq a _ => a
  | c => c
/-- From a block on. -/
def toBlock (id : Nat) : ACode → ACode
  | .seq (.block i c) b => if i = id then .seq (.block i c) b else toBlock id b
  | .seq (.seq a (.block i c)) b => if i = id then .seq (.block i c) b else toBlock id b
  | .seq _ b => toBlock id b
  | c => c
def rpS : ACode := toBlock 0 a_isobarref03_Parse.code
theorem upB_app (B : List UInt8) (c : UInt8) : upB (B ++ [c]) = if B.length = 6 then decide (53 ≤ c) else upB B := by
  unfold upB
  by_cases h : B.length = 6
  · rw [if_pos h, List.getElem?_append_right (by omega)]; simp [h]
  · rw [if_neg h]
    by_cases h6 : 6 < B.length
    · rw [List.getElem?_append_left h6]
    · rw [List.getElem?_eq_none (by simp; omega), List.getElem?_eq_none (by omega)]

theorem rParse_loop (U : List UInt8) (bl : Bool) (PS : Except Nat Int) (hUl : U.length ≤ 64) (hpar : PS = match parts U with
    | none => .error 2
    | some (w, p) => if 9223372036854775807 < dval 0 (w ++ pad p) + (if upB p then 1 else 0) then .error 3 else .ok (if bl then -((dval 0 (w ++ pad p) + (if upB p then 1 else 0) : Nat) : Int) else ((dval 0 (w ++ pad p) + (if upB p then 1 else 0) : Nat) : Int)))
    (f0 : Abs.Frame) (h0 : f0 0 = .str U ∧ f0 2 = .ptr 0 0 ∧ f0 3 = .int .i64 0 ∧ f0 4 = .bool bl ∧ f0 5 = .int .i64 0 ∧ f0 6 = .int .i64 0 ∧ f0 7 = .int .i64 0 ∧ f0 8 = .int .u64 0 ∧ f0 9 = .bool false ∧ f0 10 = .bool false ∧ f0 11 = .int .i64 0) :
    awp Tryz.prog (headC rpS) (AExit.then (awp Tryz.prog (tailC 1 rpS) (PPost (fun r => r = numAV PS) (.mk _) a_isobarref03_Parse.res)) (PPost (fun r => r = numAV PS) (.mk _) a_isobarref03_Parse.res)) f0 [.var 37 [.bool false, .int .i64 0]] := by
  obtain ⟨g0, g2, g3, g4, g5, g6, g7, g8, g9, g10, g11⟩ := h0
  simp [rpS, tailC, headC, toBlock, a_isobarref03_Parse]
  refine lp_startx (fun x f σ => ∃ (i : Nat) (A B : List UInt8) (pts n : Nat) (far : Bool), x = U.length - i ∧ i ≤ U.length ∧ Rd (U.take i) A B pts ∧ Num (A ++ B.take 6) n far ∧ A.length + B.length ≤ i ∧ pts ≤ i ∧ f 0 = .str U ∧ f 2 = .ptr 0 0 ∧ f 3 = .int .i64 0 ∧ f 4 = .bool bl ∧ f 5 = .int .i64 ((A.length + B.length : Nat) : Int) ∧ f 6 = .int .i64 pts ∧ f 7 = .int .i64 B.length ∧ f 8 = .int .u64 n ∧ f 9 = .bool far ∧ f 10 = .bool (upB B) ∧ f 11 = .int .i64 i ∧ σ = [.var 37 [.bool false, .int .i64 0]]) U.length ⟨0, [], [], 0, 0, false, ?_⟩ ?_
  · simp [Rd, Num, g0, g2, g3, g4, g5, g6, g7, g8, g9, g10, g11, upB, dval_nil]
  rintro x f σ ⟨i, A, B, pts, n, far, rfl, hi, hR, hN, hAB, hpts, q0, q2, q3, q4, q5, q6, q7, q8, q9, q10, q11, rfl⟩
  simp [q0, q11]
  by_cases hlt : i < U.length
  · have hlt' : (i : Int) < U.length := by omega
    have hUe : U = U.take i ++ U[i] :: U.drop (i + 1) := by rw [← List.drop_eq_getElem_cons hlt, List.take_append_drop]
    have htk : U.take (i + 1) = U.take i ++ [U[i]] := by rw [List.take_add_one, List.getElem?_eq_getElem hlt]; rfl
    have hwi : IntKind.i64.wrap ((i : Int) + 1) = (i : Int) + 1 := wrap_i64 (by omega) (by omega)
    simp [hlt, hlt', q0, q11, List.getElem?_eq_getElem hlt]
    by_cases h46 : U[i] = 46
    · have e46 : ((U[i].toNat : Nat) : Int) = 46 := by rw [h46]; rfl
      have hwp : IntKind.i64.wrap ((pts : Int) + 1) = (pts : Int) + 1 := wrap_i64 (by omega) (by omega)
      rw [h46] at htk
      simp [h46, e46, q6, q11, hwp, hwi]
      refine nx_intro (U.length - (i + 1)) (by omega) ⟨i + 1, A, B, pts + 1, n, far, rfl, by omega, by rw [htk]; exact hR.pt, hN, by omega, by omega, by simp [q0], by simp [q2], by simp [q3], by simp [q4], by simp [q5], by simp, by simp [q7], by simp [q8], by simp [q9], by simp [q10], by simp, rfl⟩
    · have e46 : ¬ ((U[i].toNat : Nat) : Int) = 46 := fun h => h46 (UInt8.toNat_inj.1 (by simpa using (by omega : U[i].toNat = 46)))
      simp [h46, e46, q0, q11, List.getElem?_eq_getElem hlt]
      refine ac_same (digit_ok U[i]) (by simp) ?_
      rintro r rfl
      cases hd : isD U[i] with
      | false =>
        have hbad : parts U = none := by rw [hUe]; exact hR.bad hd h46
        simp [hpar, hbad, numAV, q2, q3]
      | true =>
        have hdg := dig_le hd
        have hcd := (isD_iff U[i]).1 hd
        have hdigE : U[i].toNat = dig U[i] + 48 := by unfold dig; omega
        have hwd : IntKind.i64.wrap (((A.length + B.length : Nat) : Int) + 1) = ((A.length + B.length + 1 : Nat) : Int) := by rw [wrap_i64 (by omega) (by omega)]; omega
        have hws : IntKind.u8.wrap ((U[i].toNat : Int) - 48) = (dig U[i] : Int) := by rw [wrap_u8 (by omega) (by omega)]; omega
        have hwc : IntKind.u64.wrap (dig U[i] : Int) = (dig U[i] : Int) := wrap_u64 (by omega) (by omega)
        by_cases hp0 : pts = 0
        · subst hp0
          have hB0 : B = [] := by
            obtain ⟨_, _, ⟨_, _, h⟩ | ⟨h, _⟩ | ⟨h, _⟩⟩ := hR
            · exact h
            · omega
            · omega
          subst hB0
          simp only [List.length_nil, Nat.add_zero, List.take_nil, List.append_nil] at hwd hN q5 q7
          simp [q5, q6, q7, hwd]
          by_cases hn : 1152921504606846976 < n
          · have hn' : (1152921504606846976 : Int) < (n : Int) := by omega
            simp [q8, hn, hn', q11, hwi]
            refine nx_intro (U.length - (i + 1)) (by omega) ⟨i + 1, A ++ [U[i]], [], 0, n, true, rfl, by omega, by rw [htk]; exact hR.ahead hd, by simpa using hN.far hn, by simp; omega, by omega, by simp [q0], by simp [q2], by simp [q3], by simp [q4], by simp, by simp [q6], by simp [q7], by simp [q8], by simp, by simp [q10], by simp, rfl⟩
          · have hn' : ¬ (1152921504606846976 : Int) < (n : Int) := by omega
            obtain ⟨hf, hN'⟩ := hN.step (c := U[i]) (by omega) hdg
            have hwm : IntKind.u64.wrap ((n : Int) * 10) = (n : Int) * 10 := wrap_u64 (by omega) (by omega)
            have hwa : IntKind.u64.wrap ((n : Int) * 10 + (dig U[i] : Int)) = ((n * 10 + dig U[i] : Nat) : Int) := by rw [wrap_u64 (by omega) (by omega)]; omega
            simp [q8, hn, hn', q0, q11, List.getElem?_eq_getElem hlt, hwm, hws, hwc, hwa, hwi]
            refine nx_intro (U.length - (i + 1)) (by omega) ⟨i + 1, A ++ [U[i]], [], 0, n * 10 + dig U[i], far, rfl, by omega, by rw [htk]; exact hR.ahead hd, by simpa using hN', by simp; omega, by omega, by simp [q0], by simp [q2], by simp [q3], by simp [q4], by simp, by simp [q6], by simp [q7], by simp, by simp [q9], by simp [q10], by simp, rfl⟩
        · have hp1 : 0 < pts := by omega
          have hp1' : (0 : Int) < (pts : Int) := by omega
          have hwb : IntKind.i64.wrap ((B.length : Int) + 1) = ((B.length + 1 : Nat) : Int) := by rw [wrap_i64 (by omega) (by omega)]; omega
          have hR' := hR.behind hp1 hd
          have hup := upB_app B U[i]
          have hwd2 : IntKind.i64.wrap ((A.length : Int) + (B.length : Int) + 1) = (A.length : Int) + (B.length : Int) + 1 := wrap_i64 (by omega) (by omega)
          have hwd6 : B.length = 6 → IntKind.i64.wrap ((A.length : Int) + 6 + 1) = (A.length : Int) + 6 + 1 := fun h => wrap_i64 (by omega) (by omega)
          have hwb2 : IntKind.i64.wrap ((B.length : Int) + 1) = (B.length : Int) + 1 := wrap_i64 (by omega) (by omega)
          have hge : decide ((53 : Int) ≤ (U[i].toNat : Int)) = decide (53 ≤ U[i]) := by simp [UInt8.le_iff_toNat_le]; omega
          have hfin : ∀ (n' : Nat) (far' : Bool) (f' : Abs.Frame), Num (A ++ (B ++ [U[i]]).take 6) n' far' → f' 0 = .str U → f' 2 = .ptr 0 0 → f' 3 = .int .i64 0 → f' 4 = .bool bl → f' 5 = .int .i64 ((A.length + B.length + 1 : Nat) : Int) → f' 6 = .int .i64 pts → f' 7 = .int .i64 ((B.length + 1 : Nat) : Int) → f' 8 = .int .u64 n' → f' 9 = .bool far' → f' 10 = .bool (upB (B ++ [U[i]])) → f' 11 = .int .i64 ((i : Int) + 1) →
              ∃ (i' : Nat) (A' B' : List UInt8) (pts' n'' : Nat) (far'' : Bool), U.length - (i + 1) = U.length - i' ∧ i' ≤ U.length ∧ Rd (U.take i') A' B' pts' ∧ Num (A' ++ B'.take 6) n'' far'' ∧ A'.length + B'.length ≤ i' ∧ pts' ≤ i' ∧ f' 0 = .str U ∧ f' 2 = .ptr 0 0 ∧ f' 3 = .int .i64 0 ∧ f' 4 = .bool bl ∧ f' 5 = .int .i64 ((A'.length + B'.length : Nat) : Int) ∧ f' 6 = .int .i64 pts' ∧ f' 7 = .int .i64 B'.length ∧ f' 8 = .int .u64 n'' ∧ f' 9 = .bool far'' ∧ f' 10 = .bool (upB B') ∧ f' 11 = .int .i64 i' ∧ ([.var 37 [.bool false, .int .i64 0]] : Store) = [.var 37 [.bool false, .int .i64 0]] := by
            intro n' far' f' hN' a0 a2 a3 a4 a5 a6 a7 a8 a9 a10 a11
            exact ⟨i + 1, A, B ++ [U[i]], pts, n', far', rfl, by omega, by rw [htk]; exact hR', hN', by simp; omega, by omega, a0, a2, a3, a4, by rw [a5]; simp; omega, a6, by rw [a7]; simp, a8, a9, a10, by rw [a11]; simp, rfl⟩
          simp [q5, q6, q7, hwd, hp1, hp1', hwb]
          by_cases h6 : B.length = 6
          · have e7 : ((B.length + 1 : Nat) : Int) = 7 := by omega
            have e7' : (B.length : Int) + 1 = 7 := by omega
            have hup' : upB (B ++ [U[i]]) = decide (53 ≤ U[i]) := by rw [hup, if_pos h6]
            have htk6 : (B ++ [U[i]]).take 6 = B.take 6 := by rw [List.take_append_of_le_length (by omega)]
            simp [h6, e7, e7', q0, q11, List.getElem?_eq_getElem hlt, hge, hwi]
            refine nx_intro (U.length - (i + 1)) (by omega) (hfin n far _ (by rw [htk6]; exact hN) (by simp [q0]) (by simp [q2]) (by simp [q3]) (by simp [q4]) (by simp [h6, hwd6 h6]) (by simp [q6]) (by simp [h6]) (by simp [q8]) (by simp [q9]) (by simp [hup']) (by simp))
          · have e7 : ¬ ((B.length + 1 : Nat) : Int) = 7 := by omega
            have e7' : ¬ (B.length : Int) + 1 = 7 := by omega
            have hup' : upB (B ++ [U[i]]) = upB B := by rw [hup, if_neg h6]
            by_cases h7 : 6 < B.length
            · have g7 : (6 : Int) < ((B.length + 1 : Nat) : Int) := by omega
              have g7' : (6 : Int) < (B.length : Int) + 1 := by omega
              have g7'' : 6 < B.length + 1 := by omega
              have htk6 : (B ++ [U[i]]).take 6 = B.take 6 := by rw [List.take_append_of_le_length (by omega)]
              simp [h6, e7, e7', g7, g7', g7'', q11, hwi]
              refine nx_intro (U.length - (i + 1)) (by omega) (hfin n far _ (by rw [htk6]; exact hN) (by simp [q0]) (by simp [q2]) (by simp [q3]) (by simp [q4]) (by simp [hwd2]) (by simp [q6]) (by simp [hwb2]) (by simp [q8]) (by simp [q9]) (by simp [hup', q10]) (by simp))
            · have g7 : ¬ (6 : Int) < ((B.length + 1 : Nat) : Int) := by omega
              have g7' : ¬ (6 : Int) < (B.length : Int) + 1 := by omega
              have g7'' : ¬ 6 < B.length + 1 := by omega
              have htk6 : A ++ (B ++ [U[i]]).take 6 = A ++ B.take 6 ++ [U[i]] := by
                rw [List.take_of_length_le (by simp; omega), List.take_of_length_le (by omega)]; simp
              rw [htk6] at hfin
              by_cases hn : 1152921504606846976 < n
              · have hn' : (1152921504606846976 : Int) < (n : Int) := by omega
                simp [h6, e7, e7', g7, g7', g7'', q8, hn, hn', q11, hwi]
                refine nx_intro (U.length - (i + 1)) (by omega) (hfin n true _ (hN.far hn) (by simp [q0]) (by simp [q2]) (by simp [q3]) (by simp [q4]) (by simp [hwd2]) (by simp [q6]) (by simp [hwb2]) (by simp [q8]) (by simp) (by simp [hup', q10]) (by simp))
              · have hn' : ¬ (1152921504606846976 : Int) < (n : Int) := by omega
                obtain ⟨hf, hN'⟩ := hN.step (c := U[i]) (by omega) hdg
                have hwm : IntKind.u64.wrap ((n : Int) * 10) = (n : Int) * 10 := wrap_u64 (by omega) (by omega)
                have hwa : IntKind.u64.wrap ((n : Int) * 10 + (dig U[i] : Int)) = ((n * 10 + dig U[i] : Nat) : Int) := by rw [wrap_u64 (by omega) (by omega)]; omega
                simp [h6, e7, e7', g7, g7', g7'', q8, hn, hn', q0, q11, List.getElem?_eq_getElem hlt, hwm, hws, hwc, hwa, hwi]
                refine nx_intro (U.length - (i + 1)) (by omega) (hfin (n * 10 + dig U[i]) far _ hN' (by simp [q0]) (by simp [q2]) (by simp [q3]) (by simp [q4]) (by simp [hwd2]) (by simp [q6]) (by simp [hwb2]) (by simp) (by simp [q9]) (by simp [hup', q10]) (by simp))
  · have hiU : i = U.length := by omega
    have hlt' : ¬ (i : Int) < U.length := by omega
    rw [hiU, List.take_length] at hR
    have hend := hR.end
    simp [hlt, hlt', q5, q6]
    by_cases hbad : A.length + B.length = 0 ∨ 1 < pts
    · rw [if_pos hbad] at hend
      by_cases hz : A.length + B.length = 0
      · have hz' : (A.length : Int) + (B.length : Int) = 0 := by omega
        have hA0 : A = [] := List.eq_nil_of_length_eq_zero (by omega)
        have hB0 : B = [] := List.eq_nil_of_length_eq_zero (by omega)
        simp [hA0, hB0, hpar, hend, numAV, q2, q3]
      · have hz' : ¬ (A.length : Int) + (B.length : Int) = 0 := by omega
        have hp : 1 < pts := by omega
        have hp' : (1 : Int) < (pts : Int) := by omega
        simp [hz, hz', hp, hp', q6, hpar, hend, numAV, q2, q3]
    · rw [if_neg hbad] at hend
      have hz : ¬ A.length + B.length = 0 := by omega
      have hz' : ¬ (A.length : Int) + (B.length : Int) = 0 := by omega
      have hp : ¬ 1 < pts := by omega
      have hp' : ¬ (1 : Int) < (pts : Int) := by omega
      simp [hz, hz', hp, hp', q6, q7]
      rw [hend] at hpar
      simp only at hpar
      refine lp_startx (fun x f σ => ∃ (j n : Nat) (far : Bool), x = 6 - j ∧ B.length ≤ j ∧ (j ≤ 6 ∨ j = B.length) ∧ Num (A ++ B.take 6 ++ List.replicate (j - B.length) 48) n far ∧ f 2 = .ptr 0 0 ∧ f 3 = .int .i64 0 ∧ f 4 = .bool bl ∧ f 8 = .int .u64 n ∧ f 9 = .bool far ∧ f 10 = .bool (upB B) ∧ f 12 = .int .i64 j ∧ σ = [.var 37 [.bool false, .int .i64 0]]) (6 - B.length) ⟨B.length, n, far, rfl, Nat.le_refl _, .inr rfl, by simpa using hN, by simp [q2], by simp [q3], by simp [q4], by simp [q8], by simp [q9], by simp [q10], by simp, rfl⟩ ?_
      rintro x f σ ⟨j, n, far, rfl, hj1, hj2, hN, q2, q3, q4, q8, q9, q10, q12, rfl⟩
      simp [q12]
      by_cases hj6 : j < 6
      · have hj6' : (j : Int) < 6 := by omega
        have hwj : IntKind.i64.wrap ((j : Int) + 1) = (j : Int) + 1 := wrap_i64 (by omega) (by omega)
        have hrep : A ++ B.take 6 ++ List.replicate (j + 1 - B.length) 48 = A ++ B.take 6 ++ List.replicate (j - B.length) 48 ++ [48] := by
          rw [show j + 1 - B.length = (j - B.length) + 1 by omega, List.replicate_succ']; simp
        by_cases hn : 1152921504606846976 < n
        · have hn' : (1152921504606846976 : Int) < (n : Int) := by omega
          simp [hj6, hj6', q8, hn, hn', q12, hwj]
          exact nx_intro (6 - (j + 1)) (by omega) ⟨j + 1, n, true, rfl, by omega, .inl (by omega), by rw [hrep]; exact hN.far hn, by simp [q2], by simp [q3], by simp [q4], by simp [q8], by simp, by simp [q10], by simp, rfl⟩
        · have hn' : ¬ (1152921504606846976 : Int) < (n : Int) := by omega
          obtain ⟨hf, hN'⟩ := hN.step (c := 48) (by omega) (by decide)
          have hd0 : dig 48 = 0 := by decide
          rw [hd0, Nat.add_zero] at hN'
          have hwm : IntKind.u64.wrap ((n : Int) * 10) = ((n * 10 : Nat) : Int) := by rw [wrap_u64 (by omega) (by omega)]; omega
          simp [hj6, hj6', q8, hn, hn', q12, hwm, hwj]
          exact nx_intro (6 - (j + 1)) (by omega) ⟨j + 1, n * 10, far, rfl, by omega, .inl (by omega), by rw [hrep]; exact hN', by simp [q2], by simp [q3], by simp [q4], by simp, by simp [q9], by simp [q10], by simp, rfl⟩
      · have hj6' : ¬ (j : Int) < 6 := by omega
        have hpad : A ++ B.take 6 ++ List.replicate (j - B.length) 48 = A ++ pad B := by
          rw [pad_eq, List.append_assoc]
          rcases hj2 with h | h
          · rw [show j = 6 by omega]
          · rw [h, show 6 - B.length = 0 by omega, Nat.sub_self]
        rw [hpad] at hN
        obtain ⟨hn1, hn2, hn3⟩ := hN
        have hw1 : IntKind.u64.wrap ((n : Int) + 1) = ((n + 1 : Nat) : Int) := by rw [wrap_u64 (by omega) (by omega)]; omega
        generalize hV : dval 0 (A ++ pad B) = V at *
        simp [hj6, hj6', q10]
        refine cb_intro (fun hub => ?_) (fun hub => ?_)
        · simp [q8, hw1]
          cases far with
          | true =>
            have hgt : 9223372036854775807 < V + 1 := by have := (hn3 rfl).2; omega
            simp [q9, q2, q3, hpar, hub, hgt, numAV]
          | false =>
            have hnV := hn2 rfl
            by_cases hgt : 9223372036854775807 < V + 1
            · have hgt' : (9223372036854775807 : Int) < ((n + 1 : Nat) : Int) := by omega
              have hgt2 : (9223372036854775807 : Int) < (n : Int) + 1 := by omega
              have hgt3 : 9223372036854775807 < n + 1 := by omega
              simp [q9, hgt', hgt2, hgt3, q2, q3, hpar, hub, hgt, numAV]
            · have hgt' : ¬ (9223372036854775807 : Int) < ((n + 1 : Nat) : Int) := by omega
              have hgt2 : ¬ (9223372036854775807 : Int) < (n : Int) + 1 := by omega
              have hgt3 : ¬ 9223372036854775807 < n + 1 := by omega
              have hwi : IntKind.i64.wrap ((n : Int) + 1) = (n : Int) + 1 := wrap_i64 (by omega) (by omega)
              have hwn : IntKind.i64.wrap (-((n : Int) + 1)) = -((n : Int) + 1) := by rw [wrap_i64 (by omega) (by omega)]
              simp [q9, hgt', hgt2, hgt3, q4]
              refine cb_intro (fun hb => ?_) (fun hb => ?_)
              · simp [hwi, hwn, q2, q3, hpar, hub, hgt, hgt3, hb, numAV, ← hnV]
              · simp [hwi, q2, q3, hpar, hub, hgt, hgt3, hb, numAV, ← hnV]
        · have hub' : upB B = false := by simpa using hub
          cases far with
          | true =>
            have hgt : 9223372036854775807 < V := by have := (hn3 rfl).2; omega
            simp [q9, q2, q3, hpar, hub', hgt, numAV]
          | false =>
            have hnV := hn2 rfl
            by_cases hgt : 9223372036854775807 < V
            · have hgt2 : (9223372036854775807 : Int) < (n : Int) := by omega
              have hgt3 : 9223372036854775807 < n := by omega
              simp [q8, q9, hgt2, hgt3, q2, q3, hpar, hub', hgt, numAV]
            · have hgt2 : ¬ (9223372036854775807 : Int) < (n : Int) := by omega
              have hgt3 : ¬ 9223372036854775807 < n := by omega
              have hwi : IntKind.i64.wrap (n : Int) = (n : Int) := wrap_i64 (by omega) (by omega)
              have hwn : IntKind.i64.wrap (-(n : Int)) = -(n : Int) := by rw [wrap_i64 (by omega) (by omega)]
              simp [q8, q9, hgt2, hgt3, q4]
              refine cb_intro (fun hb => ?_) (fun hb => ?_)
              · simp [hwi, hwn, q8, q2, q3, hpar, hub', hgt, hgt3, hb, numAV, ← hnV]
              · simp [hwi, q8, q2, q3, hpar, hub', hgt, hgt3, hb, numAV, ← hnV]

theorem rParse_ok (s : List UInt8) (hs : s.length ≤ 9223372036854775807) : PCalls Tryz.prog n_isobarref03_Parse [.str s] (fun r => r = numAV (parse s)) := by
  refine pcalls_of_awp hmix c_isobarref03_Parse rfl ?_
  simp [a_isobarref03_Parse]
  by_cases h64 : 64 < s.length
  · have h64' : (64 : Int) < s.length := by omega
    simp [h64, h64', parse, numAV]
  have h64' : ¬ (64 : Int) < s.length := by omega
  simp [h64, h64']
  obtain ⟨U, hU⟩ : ∃ U, unsign s = U := ⟨_, rfl⟩
  obtain ⟨bl, hbl⟩ : ∃ bl, below s = bl := ⟨_, rfl⟩
  have hUl : U.length ≤ 64 := by have := unsign_len s; rw [hU] at this; omega
  have hpar : parse s = match parts U with
    | none => .error 2
    | some (w, p) => if 9223372036854775807 < dval 0 (w ++ pad p) + (if upB p then 1 else 0) then .error 3 else .ok (if bl then -((dval 0 (w ++ pad p) + (if upB p then 1 else 0) : Nat) : Int) else ((dval 0 (w ++ pad p) + (if upB p then 1 else 0) : Nat) : Int)) := by
    unfold parse; rw [if_neg h64, hU, hbl]; rfl
  generalize hPS : parse s = PS at *
  clear hPS
  have hstart : (s = [] ∧ U = [] ∧ bl = false) ∨ (∃ t, s = 45 :: t ∧ U = t ∧ bl = true) ∨ (∃ t, s = 43 :: t ∧ U = t ∧ bl = false) ∨ (∃ c t, s = c :: t ∧ U = s ∧ bl = false ∧ c ≠ 45 ∧ c ≠ 43) := by
    cases s with
    | nil => exact .inl ⟨rfl, by rw [← hU]; rfl, by rw [← hbl]; rfl⟩
    | cons c t =>
      by_cases h45 : c = 45
      · subst h45; exact .inr (.inl ⟨t, rfl, by rw [← hU]; simp [unsign], by rw [← hbl]; simp [below]⟩)
      · by_cases h43 : c = 43
        · subst h43; exact .inr (.inr (.inl ⟨t, rfl, by rw [← hU]; simp [unsign], by rw [← hbl]; simp [below]⟩))
        · exact .inr (.inr (.inr ⟨c, t, rfl, by rw [← hU]; simp [unsign, h45, h43], by rw [← hbl]; simp [below, h45], h45, h43⟩))
  clear hU hbl
  rcases hstart with ⟨rfl, hU1, hb1⟩ | ⟨t, rfl, hU1, hb1⟩ | ⟨t, rfl, hU1, hb1⟩ | ⟨c, t, rfl, hU1, hb1, h45, h43⟩
  · simp
    exact lp_gen (fun f => f 0 = .str U ∧ f 2 = .ptr 0 0 ∧ f 3 = .int .i64 0 ∧ f 4 = .bool bl ∧ f 5 = .int .i64 0 ∧ f 6 = .int .i64 0 ∧ f 7 = .int .i64 0 ∧ f 8 = .int .u64 0 ∧ f 9 = .bool false ∧ f 10 = .bool false ∧ f 11 = .int .i64 0) (by simp [hU1, hb1]) (fun f0 h0 => rParse_loop U bl PS hUl hpar f0 h0)
  · simp
    exact lp_gen (fun f => f 0 = .str U ∧ f 2 = .ptr 0 0 ∧ f 3 = .int .i64 0 ∧ f 4 = .bool bl ∧ f 5 = .int .i64 0 ∧ f 6 = .int .i64 0 ∧ f 7 = .int .i64 0 ∧ f 8 = .int .u64 0 ∧ f 9 = .bool false ∧ f 10 = .bool false ∧ f 11 = .int .i64 0) (by simp [hU1, hb1]) (fun f0 h0 => rParse_loop U bl PS hUl hpar f0 h0)
  · simp
    exact lp_gen (fun f => f 0 = .str U ∧ f 2 = .ptr 0 0 ∧ f 3 = .int .i64 0 ∧ f 4 = .bool bl ∧ f 5 = .int .i64 0 ∧ f 6 = .int .i64 0 ∧ f 7 = .int .i64 0 ∧ f 8 = .int .u64 0 ∧ f 9 = .bool false ∧ f 10 = .bool false ∧ f 11 = .int .i64 0) (by simp [hU1, hb1]) (fun f0 h0 => rParse_loop U bl PS hUl hpar f0 h0)
  · have e45 : ¬ ((c.toNat : Int) = 45) := fun h => h45 (UInt8.toNat_inj.1 (by simpa using (by omega : c.toNat = 45)))
    have e43 : ¬ ((c.toNat : Int) = 43) := fun h => h43 (UInt8.toNat_inj.1 (by simpa using (by omega : c.toNat = 43)))
    simp [e45, e43]
    exact lp_gen (fun f => f 0 = .str U ∧ f 2 = .ptr 0 0 ∧ f 3 = .int .i64 0 ∧ f 4 = .bool bl ∧ f 5 = .int .i64 0 ∧ f 6 = .int .i64 0 ∧ f 7 = .int .i64 0 ∧ f 8 = .int .u64 0 ∧ f 9 = .bool false ∧ f 10 = .bool false ∧ f 11 = .int .i64 0) (by simp [hU1, hb1]) (fun f0 h0 => rParse_loop U bl PS hUl hpar f0 h0)
end Go.Proofs.YtddpegkbmdcgbaaGreatDoor
