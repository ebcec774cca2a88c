/- Numbers as text: the program's Parse and Whole. Numbers as text: Whole, and the document's Parse and Whole. Numbers as text: Whole, and the document's -/
import Derived.Lib.IndexLaws
import Derived.Test.YtalfhchbmhoagaaGreatDoorBn1
import Derived.Test.YtalfhchbmhoagaaGreatDoorBn2
set_option linter.unusedSimpArgs false
set_option linter.unusedVariables false
set_option linter.constructorNameAsVariable false
section
set_option maxHeartbeats 1000000
namespace Go.Dec
theorem tw_take (s : List UInt8) : s.take (s.takeWhile isD).length = s.takeWhile isD :=
 (congrArg (List.take (s.takeWhile isD).length) (List.takeWhile_append_dropWhile (p := isD) (l := s)).symm).trans (List.take_left' rfl)
theorem tw_drop (s : List UInt8) : s.drop (s.takeWhile isD).length = s.dropWhile isD :=
 (congrArg (List.drop (s.takeWhile isD).length) (List.takeWhile_append_dropWhile (p := isD) (l := s)).symm).trans (List.drop_left' rfl)
theorem tw_len (s : List UInt8) : (s.takeWhile isD).length ≤ s.length := List.Sublist.length_le (List.takeWhile_sublist _)
theorem tw_at : ∀ (s : List UInt8) (i : Nat), i ≤ s.length → (s.take i).all isD = true → (∀ h : i < s.length, isD s[i] = false) → (s.takeWhile isD).length = i
 | [], i, h, _, _ => by simp at h; simp [h]
 | c :: s, 0, _, _, hn => by
  have := hn (by simp)
  simp only [List.getElem_cons_zero] at this
  simp [List.takeWhile_cons, this]
 | c :: s, i + 1, h, ha, hn => by
  simp only [List.take_succ_cons, List.all_cons, Bool.and_eq_true] at ha
  simp only [List.takeWhile_cons, ha.1, if_true, List.length_cons]
  rw [tw_at s i (by simpa using h) ha.2 (fun h' => by have := hn (by simpa using h'); rw [List.getElem_cons_succ] at this; exact this)]
def splitW (s : List UInt8) : List UInt8 := s.takeWhile isD
def splitP (s : List UInt8) : List UInt8 := match s.dropWhile isD with
 | c :: t => if c = 46 then t.takeWhile isD else []
 | [] => []
def splitR (s : List UInt8) : List UInt8 := match s.dropWhile isD with
 | c :: t => if c = 46 then t.dropWhile isD else c :: t
 | [] => []
theorem tw_all : ∀ (s : List UInt8), s.dropWhile isD = [] → s.takeWhile isD = s
 | s, h => by have := List.takeWhile_append_dropWhile (p := isD) (l := s); rw [h, List.append_nil] at this; exact this
theorem parts_some {s : List UInt8} : (splitR s = [] ∧ splitW s ++ splitP s ≠ []) ↔ parts s = some (splitW s, splitP s) := by
 unfold splitR splitW splitP parts
 cases hd : s.dropWhile isD with
 | nil => simp
 | cons c t =>
  by_cases hc : c = 46
  ·subst hc
   by_cases ht : t.dropWhile isD = []
   ·simp only [ht, if_true, true_and]
    rw [tw_all t ht]
    by_cases hw : s.takeWhile isD ++ t = []
    ·simp [hw]
    ·simp [hw]
   ·simp [ht]
  ·simp [hc]
theorem parts_none {s : List UInt8} (h : ¬ (splitR s = [] ∧ splitW s ++ splitP s ≠ [])) : parts s = none := by
 cases hp : parts s with
 | none => rfl
 | some x =>
  exfalso
  apply h
  rw [parts_some, hp]
  unfold parts at hp
  unfold splitW splitP
  cases hd : s.dropWhile isD with
  | nil =>
   rw [hd] at hp; simp only at hp
   split at hp
   ·cases hp
   ·simpa using hp.symm
  | cons c t =>
   rw [hd] at hp; simp only at hp
   split at hp
   ·rename_i hc
    obtain ⟨rfl, h2, h3⟩ := hc
    simp only [if_true, tw_all t h2]
    simpa using hp.symm
   ·cases hp
theorem all_tw (s : List UInt8) : (s.takeWhile isD).all isD = true := by
 exact List.all_takeWhile
end Go.Dec
namespace Go.Proofs.YtalfhchbmhoagaaGreatDoor
open Go.Abs Go.Dec
variable {G : Globs}
theorem hp_cons (c d : UInt8) (t : List UInt8) : Lib.hasPrefix (c :: t) [d] = decide (c = d) := by
 by_cases h : c = d
 ·subst h; simp [Lib.hasPrefix]
 ·have : ¬ d = c := fun h' => h h'.symm
  have e : (d == c) = false := by simpa using this
  show (d == c && List.isPrefixOf [] t) = decide (c = d)
  simp [e, h]
theorem tp_cons (c d : UInt8) (t : List UInt8) : Lib.trimPrefix (c :: t) [d] = if c = d then t else c :: t := by
 simp only [Lib.trimPrefix, hp_cons]; split <;> simp_all
theorem hp_nil (d : UInt8) : Lib.hasPrefix [] [d] = false := rfl
theorem tp_nil (d : UInt8) : Lib.trimPrefix [] [d] = [] := rfl
theorem digits_ok (s : List UInt8) (hs : s.length ≤ 1000000) : PCalls Tryz.prog n_decimal_digits [.str s] (fun r => r = .int .i64 (s.takeWhile isD).length) := by
 refine pcalls_of_awp hmix c_decimal_digits rfl ?_
 simp [a_decimal_digits]
 refine lp_start (fun n f σ => ∃ i : Nat, n = s.length - i ∧ i ≤ s.length ∧ f 0 = .str s ∧ f 3 = .int .i64 i ∧ (s.take i).all isD = true ∧ σ = []) s.length ⟨0, by simp⟩ ?_
 rintro n f σ ⟨i, rfl, hi, h0, h3, hall, rfl⟩
 simp [h0, h3]
 by_cases hlt : i < s.length
 ·have hlt' : (i : Int) < s.length := by omega
  have hge := (isD_iff s[i])
  simp [hlt, hlt', h0, h3, List.getElem?_eq_getElem hlt]
  by_cases hd : isD s[i] = true
  ·obtain ⟨g1, g2⟩ := hge.1 hd
   have g1' : (48 : Int) ≤ (s[i].toNat : Int) := by omega
   have g2' : (s[i].toNat : Int) ≤ 57 := by omega
   simp [g1, g2, g1', g2', h0, h3, List.getElem?_eq_getElem hlt]
   refine ⟨_, ?_, i + 1, rfl, by omega, by rw [wrap_i64 (by omega) (by omega)]; simp, ?_⟩
   ·omega
   ·intro x hx
    rw [List.take_add_one, List.getElem?_eq_getElem hlt] at hx
    simp only [Option.toList_some, List.mem_append, List.mem_singleton] at hx
    rcases hx with hx | rfl
    ·exact List.all_eq_true.1 hall x hx
    ·exact hd
  ·have hend := tw_at s i hi hall (fun _ => by simpa using hd)
   by_cases g1 : 48 ≤ s[i].toNat
   ·have g2 : ¬ s[i].toNat ≤ 57 := fun h => hd (hge.2 ⟨g1, h⟩)
    have g1' : (48 : Int) ≤ (s[i].toNat : Int) := by omega
    have g2' : ¬ (s[i].toNat : Int) ≤ 57 := by omega
    simp [g1, g2, g1', g2', h0, h3, List.getElem?_eq_getElem hlt, hend]
   ·have g1' : ¬ (48 : Int) ≤ (s[i].toNat : Int) := by omega
    simp [g1, g1', h0, h3, hend]
 ·have hlt' : ¬ (i : Int) < s.length := by omega
  have hend := tw_at s i hi hall (fun h => absurd h hlt)
  simp [hlt, hlt', h0, h3, hend]
theorem sign_ok (s : List UInt8) : PCalls Tryz.prog n_decimal_sign [.str s] (fun r => r = .tup [.str (unsign s), .bool (below s)]) := by
 refine pcalls_of_awp hmix c_decimal_sign rfl ?_
 simp [a_decimal_sign]
 refine ac_same (cutPrefix_ok s [45]) (by simp) ?_
 rintro r rfl
 cases s with
 | nil =>
  simp [hp_nil, tp_nil]
  refine ac_same (trimPrefix_ok [] [43]) (by simp) ?_
  rintro r rfl
  simp [tp_nil, unsign, below]
 | cons c t =>
  by_cases hc : c = 45
  ·subst hc
   simp [hp_cons, tp_cons, unsign, below]
  ·simp [hp_cons, tp_cons, hc]
   refine ac_same (trimPrefix_ok (c :: t) [43]) (by simp) ?_
   rintro r rfl
   by_cases h43 : c = 43
   ·subst h43; simp [tp_cons, unsign, below]
   ·simp [tp_cons, unsign, below, hc, h43]
theorem split_okD (s : List UInt8) (hs : s.length ≤ 1000000) : PCalls Tryz.prog n_decimal_split [.str s] (fun r => r = .tup [.str (splitW s), .str (splitP s), .bool (decide (splitR s = [] ∧ splitW s ++ splitP s ≠ []))]) := by
 refine pcalls_of_awp hmix c_decimal_split rfl ?_
 simp [a_decimal_split]
 refine ac_same (digits_ok s hs) (by simp) ?_
 rintro r rfl
 have hl := tw_len s
 simp [hl, tw_take, tw_drop]
 refine ac_same (cutPrefix_ok (s.dropWhile isD) [46]) (by simp) ?_
 rintro r rfl
 have hadd : ∀ a b : List UInt8, a.length ≤ s.length → b.length ≤ s.length → a.length + b.length ≤ 9223372036854775807 := fun a b h1 h2 => by omega
 cases hd : s.dropWhile isD with
 | nil =>
  simp [hp_nil, tp_nil]
  have := hadd (s.takeWhile isD) [] hl (by simp)
  simp at this
  simp [this, splitW, splitP, splitR, hd]
 | cons c t =>
  have hdl : (c :: t).length ≤ s.length := by rw [← hd]; exact List.Sublist.length_le (List.dropWhile_sublist _)
  simp only [List.length_cons] at hdl
  by_cases hc : c = 46
  ·subst hc
   simp [hp_cons, tp_cons]
   refine ac_same (digits_ok t (by omega)) (by simp) ?_
   rintro r rfl
   have hl2 := tw_len t
   simp [hl2, tw_take, tw_drop]
   have := hadd (s.takeWhile isD) (t.takeWhile isD) hl (by omega)
   by_cases he : t.dropWhile isD = []
   ·simp [he, this, splitW, splitP, splitR, hd]
   ·simp [he, splitW, splitP, splitR, hd]
  ·simp [hp_cons, tp_cons, hc]
   simp [splitW, splitP, splitR, hd, hc]
theorem unsign_len (s : List UInt8) : (unsign s).length ≤ s.length := by
 unfold unsign; split
 ·split <;> simp
 ·simp
theorem pad_len (p : List UInt8) : (pad p).length = 6 := by simp [pad]
theorem splitW_len (s : List UInt8) : (splitW s).length ≤ s.length := tw_len s
theorem splitP_len (s : List UInt8) : (splitP s).length ≤ s.length := by
 unfold splitP
 have h := List.Sublist.length_le (List.dropWhile_sublist (p := isD) (l := s))
 split
 ·rename_i c t hd
  rw [hd] at h; simp only [List.length_cons] at h
  split
  ·have := tw_len t; omega
  ·simp
 ·simp
theorem pad_all {p : List UInt8} (h : p.all isD = true) : (pad p).all isD = true := by
 rw [List.all_eq_true] at h ⊢
 intro x hx
 have := List.mem_of_mem_take hx
 rcases List.mem_append.1 this with h1 | h1
 ·exact h x h1
 ·simp at h1; subst h1; decide
theorem splitP_all (s : List UInt8) : (splitP s).all isD = true := by
 unfold splitP
 split
 ·split
  ·exact all_tw _
  ·rfl
 ·rfl
def numAV (x : Except Nat Int) : AV := match x with
 | .ok n => .tup [.agg [.bool false, .int .i64 n], .int .i64 0]
 | .error e => .tup [.agg [.bool false, .int .i64 0], .int .i64 e]
theorem dParse_ok [GDec] (s : List UInt8) (hs : s.length ≤ 9223372036854775807) : PCalls Tryz.prog n_decimal_Parse [.str s] (fun r => r = numAV (parse s)) := by
 refine pcalls_of_awp hmix c_decimal_Parse rfl ?_
 simp [a_decimal_Parse]
 by_cases h64 : 64 < s.length
 ·have h64' : (64 : Int) < s.length := by omega
  simp [h64, h64', parse, numAV]
 have h64' : ¬ (64 : Int) < s.length := by omega
 simp [h64, h64']
 refine ac_same (sign_ok s) (by simp) ?_
 rintro r rfl
 simp
 have hul := unsign_len s
 refine ac_same (split_okD (unsign s) (by omega)) (by simp) ?_
 rintro r rfl
 generalize hU : unsign s = U at *
 by_cases hp : splitR U = [] ∧ splitW U ++ splitP U ≠ []
 ·rw [decide_eq_true hp]
  have hparts := parts_some.1 hp
  have hWl := splitW_len U
  have hPl := splitP_len U
  have hWa : (splitW U).all isD = true := all_tw U
  have hPa := splitP_all U
  generalize splitW U = W at *
  generalize splitP U = P at *
  have hpar : parse s = if 9223372036854775807 < dval 0 (W ++ pad P) + (if upB P then 1 else 0) then .error 3 else .ok (if below s then -((dval 0 (W ++ pad P) + (if upB P then 1 else 0) : Nat) : Int) else ((dval 0 (W ++ pad P) + (if upB P then 1 else 0) : Nat) : Int)) := by
   unfold parse; rw [if_neg h64, hU, hparts]
  have hadd1 : P.length + 6 ≤ 9223372036854775807 := by omega
  have hadd2 : W.length + 1 ≤ 9223372036854775807 := by omega
  have hadd2' : 1 + W.length ≤ 9223372036854775807 := by omega
  have hpl := pad_len P
  have hadd3 : W.length + 1 + (pad P).length ≤ 9223372036854775807 := by omega
  have hmin : 6 ≤ P.length + 6 := by omega
  have hdv : dval 0 (48 :: (W ++ pad P)) = dval 0 (W ++ pad P) := by rw [dval_cons]; rfl
  have hdall : (48 :: (W ++ pad P)).all isD = true := by
   simp only [List.all_cons, List.all_append, Bool.and_eq_true]
   exact ⟨by decide, hWa, pad_all hPa⟩
  have hpadeq : (P ++ [48, 48, 48, 48, 48, 48]).take 6 = pad P := rfl
  have hpi := parseInt_ok (48 :: (W ++ pad P)) (by simp; omega) hdall (by simp)
  rw [hdv] at hpi
  generalize hV : dval 0 (W ++ pad P) = V at *
  have hup : ∀ (h6 : 6 < P.length), upB P = decide ((53 : Int) ≤ (P[6].toNat : Int)) := fun h6 => by
   unfold upB
   rw [List.getElem?_eq_getElem h6]
   simp [UInt8.le_iff_toNat_le]
   omega
  have hup0 : ¬ 6 < P.length → upB P = false := fun h6 => by
   unfold upB
   rw [List.getElem?_eq_none (by omega)]
  by_cases h6 : 6 < P.length
  ·have h6' : (6 : Int) < P.length := by omega
   simp [h6, h6', List.getElem?_eq_getElem h6, ← hup h6, hadd1, hmin, hpadeq, hadd2', hadd2, hadd3]
   cases hub : upB P with
   | true =>
    refine ac_same hpi (by simp) ?_
    intro r hr
    unfold pIntAV at hr
    by_cases hle : V ≤ 9223372036854775807
    ·rw [if_pos hle] at hr
     subst hr
     have hnw : IntKind.i64.wrap (-(V : Int)) = -(V : Int) := by rw [wrap_i64 (by omega) (by omega)]
     simp
     by_cases hmax : V = 9223372036854775807
     ·subst hmax
      simp [hpar, hub, numAV]
     ·have hmax' : ¬ (V : Int) = 9223372036854775807 := by omega
      have hlt : ¬ 9223372036854775807 < V + 1 := by omega
      have hw1 : IntKind.i64.wrap ((V : Int) + 1) = (V : Int) + 1 := wrap_i64 (by omega) (by omega)
      have hw2 : IntKind.i64.wrap (-((V : Int) + 1)) = -((V : Int) + 1) := by rw [wrap_i64 (by omega) (by omega)]
      simp [hmax, hmax', hw1]
      refine cb_intro (fun hb => ?_) (fun hb => ?_)
      ·simp [hpar, hub, hb, hlt, hw1, hw2, numAV]
      ·simp [hpar, hub, hb, hlt, hw1, numAV]
    ·rw [if_neg hle] at hr
     obtain ⟨z, rfl⟩ := hr
     have hgt : 9223372036854775807 < V := by omega
     have hgt1 : 9223372036854775807 < V + 1 := by omega
     simp [hpar, hub, hgt, hgt1, numAV]
   | false =>
    refine ac_same hpi (by simp) ?_
    intro r hr
    unfold pIntAV at hr
    by_cases hle : V ≤ 9223372036854775807
    ·rw [if_pos hle] at hr
     subst hr
     have hnw : IntKind.i64.wrap (-(V : Int)) = -(V : Int) := by rw [wrap_i64 (by omega) (by omega)]
     simp
     have hlt : ¬ 9223372036854775807 < V := by omega
     refine cb_intro (fun hb => ?_) (fun hb => ?_)
     ·simp [hpar, hub, hb, hlt, hnw, numAV]
     ·simp [hpar, hub, hb, hlt, numAV]
    ·rw [if_neg hle] at hr
     obtain ⟨z, rfl⟩ := hr
     have hgt : 9223372036854775807 < V := by omega
     have hgt1 : 9223372036854775807 < V + 1 := by omega
     simp [hpar, hub, hgt, hgt1, numAV]
  ·have h6' : ¬ (6 : Int) < P.length := by omega
   have hub := hup0 h6
   simp [h6, h6', hadd1, hmin, hpadeq, hadd2', hadd2, hadd3]
   refine ac_same hpi (by simp) ?_
   intro r hr
   unfold pIntAV at hr
   by_cases hle : V ≤ 9223372036854775807
   ·rw [if_pos hle] at hr
    subst hr
    have hnw : IntKind.i64.wrap (-(V : Int)) = -(V : Int) := by rw [wrap_i64 (by omega) (by omega)]
    simp
    have hlt : ¬ 9223372036854775807 < V := by omega
    refine cb_intro (fun hb => ?_) (fun hb => ?_)
    ·simp [hpar, hub, hb, hlt, hnw, numAV]
    ·simp [hpar, hub, hb, hlt, numAV]
   ·rw [if_neg hle] at hr
    obtain ⟨z, rfl⟩ := hr
    have hgt : 9223372036854775807 < V := by omega
    have hgt1 : 9223372036854775807 < V + 1 := by omega
    simp [hpar, hub, hgt, hgt1, numAV]
 ·rw [decide_eq_false hp]
  have hparts := parts_none hp
  have hpar : parse s = .error 2 := by unfold parse; rw [if_neg h64, hU, hparts]
  simp [hpar, numAV]
end Go.Proofs.YtalfhchbmhoagaaGreatDoor
end
section
set_option maxHeartbeats 2000000
namespace Go.Dec
theorem tw_app {A R : List UInt8} (hA : A.all isD = true) (hR : ∀ c t, R = c :: t → isD c = false) : (A ++ R).takeWhile isD = A ∧ (A ++ R).dropWhile isD = R := by
 induction A with
 | nil =>
  cases R with
  | nil => simp
  | cons c t => simp [hR c t rfl]
 | cons a A ih =>
  simp only [List.all_cons, Bool.and_eq_true] at hA
  have := ih hA.2
  simp [hA.1, this.1, this.2]
theorem isD_pt : isD 46 = false := by decide
def Rd (t A B : List UInt8) (pts : Nat) : Prop := A.all isD = true ∧ B.all isD = true ∧
 ((pts = 0 ∧ t = A ∧ B = []) ∨ (pts = 1 ∧ t = A ++ 46 :: B) ∨ (2 ≤ pts ∧ ∃ C, t = A ++ 46 :: C ∧ 46 ∈ C))
theorem Rd.end {t A B : List UInt8} {pts : Nat} (h : Rd t A B pts) : parts t = if A.length + B.length = 0 ∨ 1 < pts then none else some (A, B) := by
 obtain ⟨hA, hB, ⟨rfl, rfl, rfl⟩ | ⟨rfl, rfl⟩ | ⟨hp, C, rfl, hC⟩⟩ := h
 ·have := tw_app (R := []) hA (fun c t h => by simp at h)
  simp only [List.append_nil] at this
  unfold parts
  simp only [this.1, this.2]
  by_cases h0 : t = []
  ·simp [h0]
  ·simp [h0]
 ·have := tw_app (R := 46 :: B) hA (fun c t h => by cases h; exact isD_pt)
  have h2 := tw_app (R := []) hB (fun c t h => by simp at h)
  simp only [List.append_nil] at h2
  unfold parts
  simp only [this.1, this.2, h2.2]
  by_cases h0 : A = [] ∧ B = []
  ·simp [h0.1, h0.2]
  ·have : ¬ (A.length + B.length = 0) := fun he => h0 ⟨List.eq_nil_of_length_eq_zero (by omega), List.eq_nil_of_length_eq_zero (by omega)⟩
   have h3 : A = [] → ¬ B = [] := fun ha hb => h0 ⟨ha, hb⟩
   simp
   rw [if_pos h3, if_neg h0]
 ·have := tw_app (R := 46 :: C) hA (fun c t h => by cases h; exact isD_pt)
  unfold parts
  simp only [this.1, this.2]
  have hd : ¬ C.dropWhile isD = [] := fun he => by
   have := tw_all C he
   have h1 := all_tw C
   rw [this, List.all_eq_true] at h1
   have := h1 46 hC
   simp [isD_pt] at this
  simp [hd]; omega
theorem Rd.bad {t A B r : List UInt8} {pts : Nat} {c : UInt8} (h : Rd t A B pts) (h1 : isD c = false) (h2 : c ≠ 46) : parts (t ++ c :: r) = none := by
 obtain ⟨hA, hB, ⟨rfl, rfl, rfl⟩ | ⟨rfl, rfl⟩ | ⟨hp, C, rfl, hC⟩⟩ := h
 ·have := tw_app (R := c :: r) hA (fun c t h => by cases h; exact h1)
  unfold parts
  simp only [this.1, this.2]
  simp [h2]
 ·have := tw_app (R := 46 :: (B ++ c :: r)) hA (fun c t h => by cases h; exact isD_pt)
  have h2 := tw_app (R := c :: r) hB (fun c t h => by cases h; exact h1)
  unfold parts
  simp only [List.append_assoc, List.cons_append, this.1, this.2, h2.2]
  simp
 ·have := tw_app (R := 46 :: (C ++ c :: r)) hA (fun c t h => by cases h; exact isD_pt)
  unfold parts
  simp only [List.append_assoc, List.cons_append, this.1, this.2]
  have hd : ¬ (C ++ c :: r).dropWhile isD = [] := fun he => by
   have := tw_all _ he
   have h1 := all_tw (C ++ c :: r)
   rw [this, List.all_eq_true] at h1
   have := h1 46 (by simp [hC])
   simp [isD_pt] at this
  simp [hd]
theorem Rd.ahead {t A B : List UInt8} {c : UInt8} (h : Rd t A B 0) (hc : isD c = true) : Rd (t ++ [c]) (A ++ [c]) B 0 := by
 obtain ⟨hA, hB, ⟨_, rfl, rfl⟩ | ⟨h0, _⟩ | ⟨hp, _⟩⟩ := h
 ·exact ⟨by simpa [hc] using hA, hB, .inl ⟨rfl, rfl, rfl⟩⟩
 ·omega
 ·omega
def Num (l : List UInt8) (n : Nat) (far : Bool) : Prop := n ≤ 11529215046068469769 ∧ (far = false → n = dval 0 l) ∧ (far = true → 1152921504606846976 < n ∧ 9223372036854775807 < dval 0 l)
theorem Num.far {l : List UInt8} {n : Nat} {far : Bool} {c : UInt8} (h : Num l n far) (hn : 1152921504606846976 < n) : Num (l ++ [c]) n true := by
 refine ⟨h.1, by simp, fun _ => ⟨hn, ?_⟩⟩
 have e : dval 0 (l ++ [c]) = dval 0 l * 10 + dig c := by rw [dval_append, dval_cons, dval_nil]
 rw [e]
 cases far with
 | false => have := h.2.1 rfl; omega
 | true => have := (h.2.2 rfl).2; omega
theorem Num.step {l : List UInt8} {n : Nat} {far : Bool} {c : UInt8} (h : Num l n far) (hn : n ≤ 1152921504606846976) (hc : dig c ≤ 9) : far = false ∧ Num (l ++ [c]) (n * 10 + dig c) far := by
 have hf : far = false := by
  cases far with
  | false => rfl
  | true => have := (h.2.2 rfl).1; omega
 subst hf
 have e : dval 0 (l ++ [c]) = dval 0 l * 10 + dig c := by rw [dval_append, dval_cons, dval_nil]
 refine ⟨rfl, by omega, fun _ => ?_, by simp⟩
 rw [e, ← h.2.1 rfl]
end Go.Dec
namespace Go.Proofs.YtalfhchbmhoagaaGreatDoor
open Go.Abs Go.Dec
variable {G : Globs}
end Go.Proofs.YtalfhchbmhoagaaGreatDoor
end
section
set_option maxHeartbeats 2000000
namespace Go.Proofs.YtalfhchbmhoagaaGreatDoor
open Go.Abs Go.Dec
variable {G : Globs}
end Go.Proofs.YtalfhchbmhoagaaGreatDoor
end
section
set_option maxHeartbeats 2000000
namespace Go.Dec
def fr : Nat → Nat → List UInt8
 | 0, _ => []
 | k + 1, p => if p = 0 then [] else UInt8.ofNat (48 + p / 100000) :: fr k (p % 100000 * 10)
end Go.Dec
namespace Go.Abs
end Go.Abs
namespace Go.Proofs.YtalfhchbmhoagaaGreatDoor
open Go.Abs Go.Dec
variable {G : Globs}
end Go.Proofs.YtalfhchbmhoagaaGreatDoor
end
section
set_option maxHeartbeats 2000000
namespace Go.Proofs.YtalfhchbmhoagaaGreatDoor
open Go.Abs Go.Dec
variable {G : Globs}
end Go.Proofs.YtalfhchbmhoagaaGreatDoor
end
section
namespace Go.Dec
end Go.Dec
end
section
set_option maxHeartbeats 2000000
namespace Go.Dec
theorem parse_bound {s : List UInt8} {m : Int} (h : parse s = .ok m) : m ≠ -9223372036854775808 ∧ m.natAbs ≤ 9223372036854775807 := by
 unfold parse at h
 by_cases h1 : 64 < s.length
 ·rw [if_pos h1] at h; cases h
 rw [if_neg h1] at h
 cases hp : parts (unsign s) with
 | none => rw [hp] at h; cases h
 | some wp =>
  obtain ⟨w, p⟩ := wp
  rw [hp] at h
  dsimp only at h
  obtain ⟨n, hn⟩ : ∃ n, n = dval 0 (w ++ pad p) + (if upB p = true then 1 else 0) := ⟨_, rfl⟩
  rw [← hn] at h
  by_cases hx : 9223372036854775807 < n
  ·rw [if_pos hx] at h; cases h
  ·rw [if_neg hx] at h
   cases hb : below s <;> simp [hb] at h <;> omega
theorem parse_err {s : List UInt8} {e : Nat} (h : parse s = .error e) : e ≠ 0 := by
 unfold parse at h
 by_cases h1 : 64 < s.length
 ·rw [if_pos h1] at h; cases h; decide
 rw [if_neg h1] at h
 cases hp : parts (unsign s) with
 | none => rw [hp] at h; cases h; decide
 | some wp =>
  obtain ⟨w, p⟩ := wp
  rw [hp] at h
  dsimp only at h
  obtain ⟨n, hn⟩ : ∃ n, n = dval 0 (w ++ pad p) + (if upB p = true then 1 else 0) := ⟨_, rfl⟩
  rw [← hn] at h
  by_cases hx : 9223372036854775807 < n
  ·rw [if_pos hx] at h; cases h; decide
  ·rw [if_neg hx] at h
   cases h
end Go.Dec
namespace Go.Proofs.YtalfhchbmhoagaaGreatDoor
open Go.Abs Go.Dec
variable {G : Globs}
end Go.Proofs.YtalfhchbmhoagaaGreatDoor
end
section
set_option maxHeartbeats 2000000
namespace Go.Proofs.YtalfhchbmhoagaaGreatDoor
open Go.Abs Go.Glob Go.Tok
variable {G : Globs}
def SV (t : List UInt8) (k : Nat) : Entry := .var 71 [.str t, .int .i64 k]
theorem SV_under (t : List UInt8) (k m : Nat) : (SV t k).under m = true := by simp [SV, Entry.under]
theorem more_ok (t : List UInt8) (k : Nat) : PCalls Tryz.prog n_tokens_scanner_more [.rptr [.str t, .int .i64 k]] (fun r => r = .bool (decide (k < t.length))) := by
 refine pcalls_of_awp hmix c_tokens_scanner_more rfl ?_
 simp [a_tokens_scanner_more]
def stp (t : List UInt8) (k : Nat) : Bool := match t[k]? with | some c => bstop c | none => true
theorem stp_some {t : List UInt8} {k : Nat} {c : UInt8} (h : t[k]? = some c) : stp t k = bstop c := by simp [stp, h]
theorem stp_none {t : List UInt8} {k : Nat} (h : t.length ≤ k) : stp t k = true := by simp [stp, List.getElem?_eq_none h]
theorem stopped_ok (t : List UInt8) (k : Nat) : PCalls Tryz.prog n_tokens_scanner_stopped [.rptr [.str t, .int .i64 k]] (fun r => r = .bool (stp t k)) := by
 refine pcalls_of_awp hmix c_tokens_scanner_stopped rfl ?_
 simp [a_tokens_scanner_stopped]
 refine qc_same (more_ok t k) (by simp) (by simp) ?_
 by_cases hk : k < t.length
 ·have hc : t[k]? = some t[k] := List.getElem?_eq_getElem hk
  simp [hk, hc]
  refine qc_same (indexByte_ok _ _) (by simp) (by simp) ?_
  have hi := idx_stop t[k]
  by_cases hs : bstop t[k] = true
  ·have h0 := hi.2 hs
   simp [stp_some hc, hs, h0]
  ·have h0 : ¬ 0 ≤ Lib.indexByte [39, 34, 32, 40, 41] t[k] := fun h => hs (hi.1 h)
   simp [stp_some hc, hs, h0]
 ·rw [stp_none (by omega)]
  simp [hk]
theorem tclass_ok {σ : Store} {id : Nat} (hid : id < σ.length) (t : List UInt8) (k0 : Nat) (h2 : k0 ≤ t.length) (h3 : t.length ≤ 1000000) :
  ACalls Tryz.prog n_tokens_scanner_class [.ptr id 0] (σ.set id (SV t k0)) (fun r σ' =>
   match clsN (t.drop k0) with
   | some n => r = .bool true ∧ σ' = σ.set id (SV t (k0 + n))
   | none => ∃ k, k ≤ t.length ∧ r = .bool false ∧ σ' = σ.set id (SV t k)) := by
 refine acalls_of_awp_e hmix c_tokens_scanner_class rfl ?_
 have g0 := @set_get' σ id hid
 simp [a_tokens_scanner_class, g0, SV]
 refine lp_startx (fun x f σ' => ∃ (k : Nat), x = t.length - k ∧ k0 ≤ k ∧ k ≤ t.length ∧ clsN (t.drop k0) = (clsN (t.drop k)).map (· + (k - k0)) ∧ f 0 = .ptr id 0 ∧ σ' = σ.set id (SV t k)) (t.length - k0) ?_ ?_
 ·exact ⟨k0, rfl, Nat.le_refl _, h2, by simp, by simp, by simp [SV]⟩
 rintro x f σ' ⟨k, hx, hk1, hk2, hcls, h0, rfl⟩
 simp [h0]
 refine ac_lent (stopped_ok t k) (.cons (coe_ptr (g0 _) (by simp) rfl) .nil) ?_
 rintro r rfl
 refine ⟨by simp, ?_⟩
 by_cases hk : k < t.length
 ·obtain ⟨c, hc⟩ : ∃ c, t[k]? = some c := ⟨_, List.getElem?_eq_getElem hk⟩
  have hd := drop_cons hc
  rw [stp_some hc]
  rw [hd, clsN] at hcls
  have hwk : IntKind.i64.wrap ((k : Int) + 1) = (k : Int) + 1 := wrap_i64 (by omega) (by omega)
  have hwk2 : IntKind.i64.wrap (k : Int) = (k : Int) := wrap_i64 (by omega) (by omega)
  by_cases hs : bstop c = true
  ·simp [hs, h0]
   refine er_set' id (SV t k) (.bool false) ?_ ?_ (SV_under _ _ _) ?_
   ·simp [retAt, a_tokens_scanner_class]
   ·simp
   ·rw [hcls]; simp [hs]; exact ⟨k, hk2, rfl⟩
  ·simp [hs, h0, g0, SV, hwk, hwk2, hc]
   by_cases h93 : c = 93
   ·subst h93
    simp
    refine er_set' id (SV t (k + 1)) (.bool true) ?_ ?_ (SV_under _ _ _) ?_
    ·simp [retAt, a_tokens_scanner_class]
    ·simp [SV]
    ·rw [hcls]
     have e : (k0 : Int) + (1 + ((k - k0 : Nat) : Int)) = (k : Int) + 1 := by omega
     simp [hs, SV, e]
   ·have h93' : ¬ ((c.toNat : Int) = 93) := fun h => h93 (UInt8.toNat_inj.1 (show c.toNat = 93 by omega))
    simp [h93, h93']
    refine nx_intro (t.length - (k + 1)) (by omega) ⟨k + 1, rfl, by omega, by omega, ?_, by simp [h0], by simp⟩
    rw [hcls]
    cases clsN (List.drop (k + 1) t) with
    | none => simp [hs, h93]
    | some n => simp [hs, h93]; omega
 ·rw [stp_none (by omega)]
  have hd : t.drop k = [] := List.drop_of_length_le (by omega)
  rw [hd, clsN] at hcls
  simp [h0]
  refine er_set' id (SV t k) (.bool false) ?_ ?_ (SV_under _ _ _) ?_
  ·simp [retAt, a_tokens_scanner_class]
  ·simp
  ·rw [hcls]; simp; exact ⟨k, hk2, rfl⟩
theorem tbraces_ok {σ : Store} {id : Nat} (hid : id < σ.length) (t : List UInt8) (k0 : Nat) (h1 : t[k0]? = some 123) (h3 : t.length ≤ 1000000) :
  ACalls Tryz.prog n_tokens_scanner_braces [.ptr id 0] (σ.set id (SV t k0)) (fun r σ' =>
   match brcN 0 (t.drop k0) with
   | some n => r = .bool true ∧ σ' = σ.set id (SV t (k0 + n))
   | none => ∃ k, k ≤ t.length ∧ r = .bool false ∧ σ' = σ.set id (SV t k)) := by
 refine acalls_of_awp_e hmix c_tokens_scanner_braces rfl ?_
 have g0 := @set_get' σ id hid
 obtain ⟨h2', _⟩ := List.getElem?_eq_some_iff.1 h1
 have h2 : k0 ≤ t.length := by omega
 simp [a_tokens_scanner_braces, g0, SV]
 refine lp_startx (fun x f σ' => ∃ (k d : Nat), x = t.length - k ∧ k0 ≤ k ∧ k ≤ t.length ∧ d ≤ k - k0 ∧ (k = k0 ∨ 0 < d) ∧ brcN 0 (t.drop k0) = (brcN d (t.drop k)).map (· + (k - k0)) ∧ f 0 = .ptr id 0 ∧ f 3 = .int .i64 d ∧ σ' = σ.set id (SV t k)) (t.length - k0) ?_ ?_
 ·exact ⟨k0, 0, rfl, Nat.le_refl _, h2, by omega, .inl rfl, by simp, by simp, by simp, by simp [SV]⟩
 rintro x f σ' ⟨k, d, hx, hk1, hk2, hdk, hd0, hcls, h0, h3f, rfl⟩
 simp [h0]
 refine ac_lent (stopped_ok t k) (.cons (coe_ptr (g0 _) (by simp) rfl) .nil) ?_
 rintro r rfl
 refine ⟨by simp, ?_⟩
 by_cases hk : k < t.length
 ·obtain ⟨c, hc⟩ : ∃ c, t[k]? = some c := ⟨_, List.getElem?_eq_getElem hk⟩
  have hd := drop_cons hc
  rw [stp_some hc]
  rw [hd, brcN] at hcls
  have hwk : IntKind.i64.wrap ((k : Int) + 1) = (k : Int) + 1 := wrap_i64 (by omega) (by omega)
  have hwd : IntKind.i64.wrap ((d : Int) + 1) = (d : Int) + 1 := wrap_i64 (by omega) (by omega)
  have hwm : IntKind.i64.wrap ((d : Int) - 1) = (d : Int) - 1 := wrap_i64 (by omega) (by omega)
  have hc0 : k = k0 → c = 123 := fun h => by subst h; rw [h1] at hc; cases hc; rfl
  by_cases hs : bstop c = true
  ·simp [hs, h0]
   refine er_set' id (SV t k) (.bool false) ?_ ?_ (SV_under _ _ _) ?_
   ·simp [retAt, a_tokens_scanner_braces]
   ·simp
   ·rw [hcls]; simp [hs]; exact ⟨k, hk2, rfl⟩
  ·have hnext : ∀ d' : Nat, deeper d c = d' → d' ≠ 0 → brcN 0 (t.drop k0) = (brcN d' (t.drop (k + 1))).map (· + (k + 1 - k0)) := fun d' hd' hz => by
    rw [hcls, hd', if_neg hs, if_neg hz]
    cases brcN d' (List.drop (k + 1) t) with
    | none => simp
    | some n => simp; omega
   have hend : deeper d c = 0 → brcN 0 (t.drop k0) = some (1 + (k - k0)) := fun hz => by
    rw [hcls, if_neg hs, hz]; simp
   have e : (k0 : Int) + (1 + ((k - k0 : Nat) : Int)) = (k : Int) + 1 := by omega
   by_cases h123 : c = 123
   ·subst h123
    have hdp : deeper d 123 = d + 1 := by simp [deeper]
    have hdz : ¬ ((d : Int) + 1 = 0) := by omega
    simp [hs, h0, h3f, g0, SV, hwk, hwd, hc, hdz]
    refine nx_intro (t.length - (k + 1)) (by omega) ⟨k + 1, d + 1, rfl, by omega, by omega, by omega, .inr (by omega), hnext _ hdp (by omega), by simp [h0], by simp, by simp⟩
   ·have h123' : ¬ ((c.toNat : Int) = 123) := fun h => h123 (UInt8.toNat_inj.1 (show c.toNat = 123 by omega))
    have hdp0 : 0 < d := by
     rcases hd0 with h | h
     ·exact absurd (hc0 h) h123
     ·exact h
    by_cases h125 : c = 125
    ·subst h125
     have hdp : deeper d 125 = d - 1 := by simp [deeper]
     by_cases hz : d = 1
     ·have hdz : (d : Int) - 1 = 0 := by omega
      have := hend (by rw [hdp]; omega)
      have hz1 : (d : Int) = 1 := by omega
      have hw0 : IntKind.i64.wrap 0 = 0 := wrap_i64 (by omega) (by omega)
      simp [hs, h0, h3f, g0, SV, hwk, hwm, hc, hz1, hw0]
      refine er_set' id (SV t (k + 1)) (.bool true) ?_ ?_ (SV_under _ _ _) ?_
      ·simp [retAt, a_tokens_scanner_braces]
      ·simp [SV]
      ·rw [this]; simp [SV, e]
     ·have hdz : ¬ ((d : Int) - 1 = 0) := by omega
      simp [hs, h0, h3f, g0, SV, hwk, hwm, hc, hdz]
      refine nx_intro (t.length - (k + 1)) (by omega) ⟨k + 1, d - 1, rfl, by omega, by omega, by omega, .inr (by omega), hnext _ hdp (by omega), by simp [h0], by simp; omega, by simp⟩
    ·have h125' : ¬ ((c.toNat : Int) = 125) := fun h => h125 (UInt8.toNat_inj.1 (show c.toNat = 125 by omega))
     have hdp : deeper d c = d := by simp [deeper, h123, h125]
     have hdz : ¬ ((d : Int) = 0) := by omega
     have hdz' : ¬ (d = 0) := by omega
     simp [hs, h0, h3f, g0, SV, hwk, hc, h123', h125', hdz, hdz']
     refine nx_intro (t.length - (k + 1)) (by omega) ⟨k + 1, d, rfl, by omega, by omega, by omega, .inr (by omega), hnext _ hdp (by omega), by simp [h0], by simp [h3f], by simp⟩
 ·rw [stp_none (by omega)]
  have hd : t.drop k = [] := List.drop_of_length_le (by omega)
  rw [hd, brcN] at hcls
  simp [h0]
  refine er_set' id (SV t k) (.bool false) ?_ ?_ (SV_under _ _ _) ?_
  ·simp [retAt, a_tokens_scanner_braces]
  ·simp
  ·rw [hcls]; simp; exact ⟨k, hk2, rfl⟩
end Go.Proofs.YtalfhchbmhoagaaGreatDoor
namespace Go.Tok
theorem rowF_nil (n : Nat) : rowF n [] = some 0 := by cases n <;> rfl
end Go.Tok
namespace Go.Proofs.YtalfhchbmhoagaaGreatDoor
open Go.Abs Go.Glob Go.Tok
variable {G : Globs}
theorem ne_nat {c : UInt8} {n : UInt8} {z : Int} (hz : z = (n.toNat : Int)) (h : ¬ c = n) : ¬ ((c.toNat : Int) = z) := fun e => h (UInt8.toNat_inj.1 (by omega))
theorem trow_ok {σ : Store} {id : Nat} (hid : id < σ.length) (t : List UInt8) (k0 n : Nat) (h2 : k0 ≤ t.length) (h3 : t.length ≤ 1000000) (hn : t.length - k0 ≤ n) :
  ACalls Tryz.prog n_tokens_scanner_row [.ptr id 0] (σ.set id (SV t k0)) (fun r σ' =>
   match rowF n (t.drop k0) with
   | some m => r = .tup [.str ((t.drop k0).take m), .bool (decide (0 < m))] ∧ σ' = σ.set id (SV t (k0 + m))
   | none => ∃ k, k ≤ t.length ∧ r = .tup [.str [], .bool false] ∧ σ' = σ.set id (SV t k)) := by
 refine acalls_of_awp_e hmix c_tokens_scanner_row rfl ?_
 have g0 := @set_get' σ id hid
 simp [a_tokens_scanner_row, g0, SV]
 refine lp_startx (fun x f σ' => ∃ (k m : Nat), x = t.length - k ∧ k0 ≤ k ∧ k ≤ t.length ∧ t.length - k ≤ m ∧ rowF n (t.drop k0) = (rowF m (t.drop k)).map (· + (k - k0)) ∧ f 0 = .ptr id 0 ∧ f 4 = .int .i64 k0 ∧ σ' = σ.set id (SV t k)) (t.length - k0) ?_ ?_
 ·exact ⟨k0, n, rfl, Nat.le_refl _, h2, hn, by simp, by simp, by simp, by simp [SV]⟩
 rintro x f σ' ⟨k, m, hx, hk1, hk2, hm, hrow, h0, h4, rfl⟩
 have hkk : (k0 : Int) ≤ (k : Int) := by omega
 simp [h0]
 refine ac_lent (more_ok t k) (.cons (coe_ptr (g0 _) (by simp) rfl) .nil) ?_
 rintro r rfl
 refine ⟨by simp, ?_⟩
 by_cases hk : k < t.length
 ·obtain ⟨c, hc⟩ : ∃ c, t[k]? = some c := ⟨_, List.getElem?_eq_getElem hk⟩
  have hd := drop_cons hc
  obtain ⟨_, hc2⟩ := List.getElem?_eq_some_iff.1 hc
  obtain ⟨m, rfl⟩ : ∃ j, m = j + 1 := ⟨m - 1, by omega⟩
  have hwk : IntKind.i64.wrap ((k : Int) + 1) = (k : Int) + 1 := wrap_i64 (by omega) (by omega)
  have hword : bword c = true → rowF n (t.drop k0) = (rowF m (t.drop (k + 1))).map (· + (k + 1 - k0)) := fun hw => by
   rw [hrow, hd, rowF, if_pos hw]
   cases rowF m (List.drop (k + 1) t) with
   | none => simp
   | some j => simp; omega
  simp [hk, h0, g0, SV, hc, hc2]
  refine ac_same (byte_ok c) (by simp) ?_
  rintro r rfl
  by_cases hb : nb c = true
  ·simp [hb, h0, g0, SV, hwk]
   refine nx_intro (t.length - (k + 1)) (by omega) ⟨k + 1, m, rfl, by omega, by omega, by omega, hword (by simp [bword, hb]), by simp [h0], by simp [h4], by simp⟩
  by_cases h46 : c = 46
  ·subst h46
   simp [hb, h0, g0, SV, hwk]
   refine nx_intro (t.length - (k + 1)) (by omega) ⟨k + 1, m, rfl, by omega, by omega, by omega, hword (by simp [bword]), by simp [h0], by simp [h4], by simp⟩
  have h46' := ne_nat (z := 46) rfl h46
  by_cases h63 : c = 63
  ·subst h63
   simp [hb, h0, g0, SV, hwk]
   refine nx_intro (t.length - (k + 1)) (by omega) ⟨k + 1, m, rfl, by omega, by omega, by omega, hword (by simp [bword]), by simp [h0], by simp [h4], by simp⟩
  have h63' := ne_nat (z := 63) rfl h63
  by_cases h42 : c = 42
  ·subst h42
   simp [hb, h0, g0, SV, hwk]
   refine nx_intro (t.length - (k + 1)) (by omega) ⟨k + 1, m, rfl, by omega, by omega, by omega, hword (by simp [bword]), by simp [h0], by simp [h4], by simp⟩
  have h42' := ne_nat (z := 42) rfl h42
  have hnw : bword c = false := by simp [bword, hb, h46, h63, h42]
  by_cases h91 : c = 91
  ·subst h91
   simp [hb, h0, g0, SV, hwk]
   refine ac_eff (tclass_ok hid t k hk2 h3) ?_
   intro r σ1 hr
   rw [hd] at hr
   cases hcl : clsN (91 :: t.drop (k + 1)) with
   | none =>
    rw [hcl] at hr
    obtain ⟨k', hk', rfl, rfl⟩ := hr
    have hnone : rowF n (t.drop k0) = none := by rw [hrow, hd, rowF, hnw, hcl]; simp
    simp
    refine er_set' id (SV t k') (.tup [.str [], .bool false]) ?_ ?_ (SV_under _ _ _) ?_
    ·simp [retAt, a_tokens_scanner_row]
    ·simp
    ·rw [hnone]; exact ⟨k', hk', rfl, rfl⟩
   | some j =>
    rw [hcl] at hr
    obtain ⟨rfl, rfl⟩ := hr
    have hj := clsN_le _ _ hcl
    simp at hj
    simp
    refine nx_intro (t.length - (k + j)) (by omega) ⟨k + j, m, rfl, by omega, by omega, by omega, ?_, by simp [h0], by simp [h4], by simp [SV]⟩
    rw [hrow, hd, rowF, hnw, hcl]
    simp only [Bool.false_eq_true, if_false, if_true, Option.bind_some]
    rw [← hd, List.drop_drop]
    cases rowF m (List.drop (k + j) t) with
    | none => simp
    | some i => simp; omega
  have h91' := ne_nat (z := 91) rfl h91
  by_cases h123 : c = 123
  ·subst h123
   simp [hb, h0, g0, SV, hwk]
   refine ac_eff (tbraces_ok hid t k hc h3) ?_
   intro r σ1 hr
   rw [hd] at hr
   cases hcl : brcN 0 (123 :: t.drop (k + 1)) with
   | none =>
    rw [hcl] at hr
    obtain ⟨k', hk', rfl, rfl⟩ := hr
    have hnone : rowF n (t.drop k0) = none := by rw [hrow, hd, rowF, hnw, hcl]; simp
    simp
    refine er_set' id (SV t k') (.tup [.str [], .bool false]) ?_ ?_ (SV_under _ _ _) ?_
    ·simp [retAt, a_tokens_scanner_row]
    ·simp
    ·rw [hnone]; exact ⟨k', hk', rfl, rfl⟩
   | some j =>
    rw [hcl] at hr
    obtain ⟨rfl, rfl⟩ := hr
    have hj := brcN_le _ _ _ hcl
    simp at hj
    simp
    refine nx_intro (t.length - (k + j)) (by omega) ⟨k + j, m, rfl, by omega, by omega, by omega, ?_, by simp [h0], by simp [h4], by simp [SV]⟩
    rw [hrow, hd, rowF, hnw, hcl]
    simp only [Bool.false_eq_true, if_false, if_true, Option.bind_some]
    rw [← hd, List.drop_drop]
    cases rowF m (List.drop (k + j) t) with
    | none => simp
    | some i => simp; omega
  have h123' := ne_nat (z := 123) rfl h123
  have hz : rowF (m + 1) (t.drop k) = some 0 := by rw [hd, rowF, hnw]; simp [h91, h123]
  simp [hb, h0, g0, SV, hwk, h46', h63', h42', h91', h123', h4, hkk, hk2, hk1]
  refine er_set' id (SV t k) (.tup [.str ((t.take k).drop k0), .bool (decide (k0 < k))]) ?_ ?_ (SV_under _ _ _) ?_
  ·simp [retAt, a_tokens_scanner_row]
  ·simp [SV]
  ·have e : k0 + (k - k0) = k := by omega
   have e1 : (k0 : Int) + ((k - k0 : Nat) : Int) = (k : Int) := by omega
   rw [hrow, hz]
   simp [SV, e, e1, List.drop_take, hk1]
   omega
 ·have hz : rowF m (t.drop k) = some 0 := by rw [List.drop_of_length_le (by omega)]; exact rowF_nil m
  simp [hk, h0, g0, SV, h4, hkk, hk2, hk1]
  refine er_set' id (SV t k) (.tup [.str ((t.take k).drop k0), .bool (decide (k0 < k))]) ?_ ?_ (SV_under _ _ _) ?_
  ·simp [retAt, a_tokens_scanner_row]
  ·simp [SV]
  ·have e : k0 + (k - k0) = k := by omega
   have e1 : (k0 : Int) + ((k - k0 : Nat) : Int) = (k : Int) := by omega
   rw [hrow, hz]
   simp [SV, e, e1, List.drop_take, hk1]
   omega
theorem tquoted_ok {σ : Store} {id : Nat} (hid : id < σ.length) (t : List UInt8) (k : Nat) (c : UInt8) (hc : t[k]? = some c) (h3 : t.length ≤ 1000000) :
  ACalls Tryz.prog n_tokens_scanner_quoted [.ptr id 0] (σ.set id (SV t k)) (fun r σ' =>
   if Lib.indexByte (t.drop (k + 1)) c < 0 then r = .tup [.str [], .bool false] ∧ σ' = σ.set id (SV t k)
   else r = .tup [.str ((t.drop (k + 1)).take (Lib.indexByte (t.drop (k + 1)) c).toNat), .bool true] ∧ σ' = σ.set id (SV t (k + (Lib.indexByte (t.drop (k + 1)) c).toNat + 2))) := by
 refine acalls_of_awp_e hmix c_tokens_scanner_quoted rfl ?_
 have g0 := @set_get' σ id hid
 obtain ⟨hk, hc2⟩ := List.getElem?_eq_some_iff.1 hc
 have hwk : IntKind.i64.wrap ((k : Int) + 1) = (k : Int) + 1 := wrap_i64 (by omega) (by omega)
 have hp1 : (0 : Int) ≤ (k : Int) + 1 := by omega
 have hp2 : k + 1 ≤ t.length := by omega
 simp [a_tokens_scanner_quoted, g0, SV, hwk, hp1, hp2, hc, hc2]
 refine qc_same (indexByte_ok (t.drop (k + 1)) c) (by simp) (by simp) ?_
 by_cases hneg : Lib.indexByte (t.drop (k + 1)) c < 0
 ·simp [hneg]
  refine er_set' id (SV t k) (.tup [.str [], .bool false]) ?_ ?_ (SV_under _ _ _) ?_
  ·simp [retAt, a_tokens_scanner_quoted]
  ·simp [SV]
  ·rw [if_pos hneg]; exact ⟨rfl, rfl⟩
 ·obtain ⟨i, hi⟩ : ∃ i : Nat, Lib.indexByte (t.drop (k + 1)) c = (i : Int) := ⟨(Lib.indexByte (t.drop (k + 1)) c).toNat, by omega⟩
  have hlt := (List.getElem?_eq_some_iff.1 (Lib.indexByte_some hi).1).1
  rw [List.length_drop] at hlt
  rw [hi] at hneg ⊢
  have hw1 : IntKind.i64.wrap ((k : Int) + 1 + (i : Int)) = (k : Int) + 1 + (i : Int) := wrap_i64 (by omega) (by omega)
  have hw2 : IntKind.i64.wrap ((k : Int) + 1 + (i : Int) + 1) = (k : Int) + 1 + (i : Int) + 1 := wrap_i64 (by omega) (by omega)
  have q1 : (0 : Int) ≤ (k : Int) + 1 + (i : Int) := by omega
  have q2 : (k : Int) + 1 ≤ (k : Int) + 1 + (i : Int) := by omega
  have q3 : ((k : Int) + 1 + (i : Int)).toNat = k + 1 + i := by omega
  have q4 : k + 1 + i ≤ t.length := by omega
  simp [hneg, g0, SV, hwk, hw1, hw2, q1, q2, q3, q4, hp1, hp2]
  refine er_set' id (SV t (k + i + 2)) (.tup [.str ((t.drop (k + 1)).take i), .bool true]) ?_ ?_ (SV_under _ _ _) ?_
  ·simp [retAt, a_tokens_scanner_quoted, List.drop_take]
  ·have e : (k : Int) + 1 + (i : Int) + 1 = (k : Int) + (i : Int) + 2 := by omega
   simp [SV, e]
  ·simp [SV]
theorem tword_ok [GDec] (s : List UInt8) (hs : s.length ≤ 1000000) : PCalls Tryz.prog n_tokens_word [.str s] (fun r => r = .agg [.int .i64 (if isNum s then 2 else 1), .str s, .int .i64 0]) := by
 refine pcalls_of_awp hmix c_tokens_word rfl ?_
 simp [a_tokens_word]
 refine ac_same (dParse_ok s (by omega)) (by simp) ?_
 rintro r rfl
 cases hp : Dec.parse s with
 | ok m => simp [hp, numAV, isNum]
 | error e =>
  have he : ¬ e = 0 := Dec.parse_err hp
  simp [hp, numAV, isNum, he]
end Go.Proofs.YtalfhchbmhoagaaGreatDoor
end
section
set_option maxHeartbeats 4000000
namespace Go.Proofs.YtalfhchbmhoagaaGreatDoor
open Go.Abs Go.Glob Go.Tok
variable {G : Globs}
def tokA (kind : Int) (text : List UInt8) (place : Int) : AV := .agg [.int .i64 kind, .str text, .int .i64 place]
def mpK : Entry := .mp [(.int .u8 40, .int .i64 4), (.int .u8 41, .int .i64 5), (.int .u8 44, .int .i64 6)]
theorem tquoted_ok' {σ : Store} {id : Nat} (hid : id < σ.length) (l : Store) (t : List UInt8) (k : Nat) (c : UInt8) (hc : t[k]? = some c) (h3 : t.length ≤ 1000000) :
  ACalls Tryz.prog n_tokens_scanner_quoted [.ptr id 0] (σ.set id (SV t k) ++ l) (fun r σ' =>
   if Lib.indexByte (t.drop (k + 1)) c < 0 then r = .tup [.str [], .bool false] ∧ σ' = σ.set id (SV t k) ++ l
   else r = .tup [.str ((t.drop (k + 1)).take (Lib.indexByte (t.drop (k + 1)) c).toNat), .bool true] ∧ σ' = σ.set id (SV t (k + (Lib.indexByte (t.drop (k + 1)) c).toNat + 2)) ++ l) := by
 have h := tquoted_ok (G := G) (σ := σ ++ l) (id := id) (by simp; omega) t k c hc h3
 simp only [← set_app _ hid] at h
 exact h
theorem trow_ok' {σ : Store} {id : Nat} (hid : id < σ.length) (l : Store) (t : List UInt8) (k0 n : Nat) (h2 : k0 ≤ t.length) (h3 : t.length ≤ 1000000) (hn : t.length - k0 ≤ n) :
  ACalls Tryz.prog n_tokens_scanner_row [.ptr id 0] (σ.set id (SV t k0) ++ l) (fun r σ' =>
   match rowF n (t.drop k0) with
   | some m => r = .tup [.str ((t.drop k0).take m), .bool (decide (0 < m))] ∧ σ' = σ.set id (SV t (k0 + m)) ++ l
   | none => ∃ k, k ≤ t.length ∧ r = .tup [.str [], .bool false] ∧ σ' = σ.set id (SV t k) ++ l) := by
 have h := trow_ok (G := G) (σ := σ ++ l) (id := id) (by simp; omega) t k0 n h2 h3 hn
 simp only [← set_app _ hid] at h
 exact h
theorem tnext_ok [GDec] {σ : Store} {id : Nat} (hid : id < σ.length) (t : List UInt8) (k : Nat) (hk : k < t.length) (h3 : t.length ≤ 1000000) :
  ACalls Tryz.prog n_tokens_scanner_next [.ptr id 0] (σ.set id (SV t k)) (fun r σ' =>
   match nextT (t.drop k) with
   | some x => r = .tup [tokA x.1 x.2.1 0, .bool true] ∧ σ' = σ.set id (SV t (k + x.2.2))
   | none => ∃ kd tx k', k' ≤ t.length ∧ r = .tup [tokA kd tx 0, .bool false] ∧ σ' = σ.set id (SV t k')) := by
 refine acalls_of_awp_e hmix c_tokens_scanner_next rfl ?_
 have g0 := @set_get σ id hid
 have g00 := @set_get' σ id hid
 have q0 := @set_set σ id hid
 obtain ⟨c, hc⟩ : ∃ c, t[k]? = some c := ⟨_, List.getElem?_eq_getElem hk⟩
 obtain ⟨_, hc2⟩ := List.getElem?_eq_some_iff.1 hc
 have hd := drop_cons hc
 have hwk : IntKind.i64.wrap ((k : Int) + 1) = (k : Int) + 1 := wrap_i64 (by omega) (by omega)
 by_cases h40 : c = 40
 ·subst h40
  have hn : nextT (t.drop k) = some (4, [], 1) := by rw [hd, nextT]; simp
  simp [a_tokens_scanner_next, g0, g00, q0, SV, get_0, get_1, set_0, set_1, hwk, hc, hc2]
  refine er_set id (SV t (k + 1)) (.tup [tokA 4 [] 0, .bool true]) [.var 62 [.int .i64 4, .str [], .int .i64 0], mpK] ?_ ?_ (SV_under _ _ _) ?_
  ·simp [retAt, a_tokens_scanner_next, get_0, tokA]
  ·simp [SV, mpK]
  ·rw [hn]; exact ⟨rfl, rfl⟩
 have h40' := ne_nat (z := 40) rfl h40
 by_cases h41 : c = 41
 ·subst h41
  have hn : nextT (t.drop k) = some (5, [], 1) := by rw [hd, nextT]; simp
  simp [a_tokens_scanner_next, g0, g00, q0, SV, get_0, get_1, set_0, set_1, hwk, hc, hc2]
  refine er_set id (SV t (k + 1)) (.tup [tokA 5 [] 0, .bool true]) [.var 62 [.int .i64 5, .str [], .int .i64 0], mpK] ?_ ?_ (SV_under _ _ _) ?_
  ·simp [retAt, a_tokens_scanner_next, get_0, tokA]
  ·simp [SV, mpK]
  ·rw [hn]; exact ⟨rfl, rfl⟩
 have h41' := ne_nat (z := 41) rfl h41
 by_cases h44 : c = 44
 ·subst h44
  have hn : nextT (t.drop k) = some (6, [], 1) := by rw [hd, nextT]; simp
  simp [a_tokens_scanner_next, g0, g00, q0, SV, get_0, get_1, set_0, set_1, hwk, hc, hc2]
  refine er_set id (SV t (k + 1)) (.tup [tokA 6 [] 0, .bool true]) [.var 62 [.int .i64 6, .str [], .int .i64 0], mpK] ?_ ?_ (SV_under _ _ _) ?_
  ·simp [retAt, a_tokens_scanner_next, get_0, tokA]
  ·simp [SV, mpK]
  ·rw [hn]; exact ⟨rfl, rfl⟩
 have h44' := ne_nat (z := 44) rfl h44
 have hq := idx_quote c
 by_cases hqq : c = 39 ∨ c = 34
 ·have hq0 := hq.2 hqq
  simp [a_tokens_scanner_next, g0, g00, q0, SV, get_0, get_1, set_0, set_1, hwk, hc, hc2, h40', h41', h44']
  refine ac_same (indexByte_ok _ c) (by simp) ?_
  rintro r rfl
  simp [hq0]
  refine ac_eff (tquoted_ok' hid _ t k c hc h3) ?_
  intro r σ1 hr
  by_cases hneg : Lib.indexByte (t.drop (k + 1)) c < 0
  ·rw [if_pos hneg] at hr
   obtain ⟨rfl, rfl⟩ := hr
   have hn : nextT (t.drop k) = none := by rw [hd, nextT, if_neg h40, if_neg h41, if_neg h44, if_pos hqq, if_pos hneg]
   simp [g0, q0, get_0, get_1, set_0, set_1]
   refine er_set id (SV t k) (.tup [tokA 3 [] 0, .bool false]) [.var 62 [.int .i64 3, .str [], .int .i64 0], mpK] ?_ ?_ (SV_under _ _ _) ?_
   ·simp [retAt, a_tokens_scanner_next, get_0, tokA]
   ·simp [SV, mpK]
   ·rw [hn]; exact ⟨3, [], k, by omega, rfl, rfl⟩
  ·rw [if_neg hneg] at hr
   obtain ⟨rfl, rfl⟩ := hr
   have hn : nextT (t.drop k) = some (3, (t.drop (k + 1)).take (Lib.indexByte (t.drop (k + 1)) c).toNat, (Lib.indexByte (t.drop (k + 1)) c).toNat + 2) := by rw [hd, nextT, if_neg h40, if_neg h41, if_neg h44, if_pos hqq, if_neg hneg]
   simp [g0, q0, get_0, get_1, set_0, set_1]
   refine er_set id (SV t (k + (Lib.indexByte (t.drop (k + 1)) c).toNat + 2)) (.tup [tokA 3 ((t.drop (k + 1)).take (Lib.indexByte (t.drop (k + 1)) c).toNat) 0, .bool true]) [.var 62 [.int .i64 3, .str ((t.drop (k + 1)).take (Lib.indexByte (t.drop (k + 1)) c).toNat), .int .i64 0], mpK] ?_ ?_ (SV_under _ _ _) ?_
   ·simp [retAt, a_tokens_scanner_next, get_0, tokA]
   ·simp [SV, mpK]
   ·rw [hn]; exact ⟨rfl, rfl⟩
 ·have hq0 : ¬ 0 ≤ Lib.indexByte [39, 34] c := fun h => hqq (hq.1 h)
  simp [a_tokens_scanner_next, g0, g00, q0, SV, get_0, get_1, set_0, set_1, hwk, hc, hc2, h40', h41', h44']
  refine ac_same (indexByte_ok _ c) (by simp) ?_
  rintro r rfl
  simp [hq0]
  refine ac_eff (trow_ok' hid _ t k (t.length - k) (by omega) h3 (Nat.le_refl _)) ?_
  intro r σ1 hr
  have hlen : (t.drop (k + 1)).length + 1 = t.length - k := by rw [List.length_drop]; omega
  have hnx : nextT (t.drop k) = match rowF (t.length - k) (t.drop k) with
   | none => none
   | some 0 => none
   | some (j + 1) => some (if isNum ((t.drop k).take (j + 1)) then 2 else 1, (t.drop k).take (j + 1), j + 1) := by
   rw [hd, nextT, if_neg h40, if_neg h41, if_neg h44, if_neg hqq, hlen]
   cases rowF (t.length - k) (c :: t.drop (k + 1)) with
   | none => rfl
   | some m => cases m <;> rfl
  cases hrw : rowF (t.length - k) (t.drop k) with
  | none =>
   rw [hrw] at hr hnx
   obtain ⟨k', hk', rfl, rfl⟩ := hr
   simp [g0, q0, get_0, get_1, set_0, set_1]
   refine ac_same (tword_ok [] (by simp)) (by simp) ?_
   rintro r rfl
   simp [g0, q0, get_0, get_1, set_0, set_1]
   refine er_set id (SV t k') (.tup [tokA (if isNum [] then 2 else 1) [] 0, .bool false]) [.var 62 [.int .i64 (if isNum [] then 2 else 1), .str [], .int .i64 0], mpK] ?_ ?_ (SV_under _ _ _) ?_
   ·simp [retAt, a_tokens_scanner_next, get_0, tokA]
   ·simp [SV, mpK]
   ·rw [hnx]; exact ⟨_, [], k', hk', rfl, rfl⟩
  | some m =>
   rw [hrw] at hr hnx
   obtain ⟨rfl, rfl⟩ := hr
   have hml := rowF_le _ _ _ hrw
   rw [List.length_drop] at hml
   simp [g0, q0, get_0, get_1, set_0, set_1]
   refine ac_same (tword_ok ((t.drop k).take m) (by simp; omega)) (by simp) ?_
   rintro r rfl
   simp [g0, q0, get_0, get_1, set_0, set_1]
   refine er_set id (SV t (k + m)) (.tup [tokA (if isNum ((t.drop k).take m) then 2 else 1) ((t.drop k).take m) 0, .bool (decide (0 < m))]) [.var 62 [.int .i64 (if isNum ((t.drop k).take m) then 2 else 1), .str ((t.drop k).take m), .int .i64 0], mpK] ?_ ?_ (SV_under _ _ _) ?_
   ·simp [retAt, a_tokens_scanner_next, get_0, tokA]
   ·simp [SV, mpK]
   ·rw [hnx]
    cases m with
    | zero => exact ⟨_, _, k, by omega, by simp; rfl, rfl⟩
    | succ j => exact ⟨by simp, rfl⟩
end Go.Proofs.YtalfhchbmhoagaaGreatDoor
end
section
set_option maxHeartbeats 4000000
namespace Go.Tok
theorem nextT_le {s : List UInt8} {x : Int × List UInt8 × Nat} (h : nextT s = some x) : 1 ≤ x.2.2 ∧ x.2.2 ≤ s.length := by
 cases s with
 | nil => simp [nextT] at h
 | cons c r =>
  rw [nextT] at h
  by_cases h1 : c = 40
  ·rw [if_pos h1] at h; cases h; simp
  rw [if_neg h1] at h
  by_cases h2 : c = 41
  ·rw [if_pos h2] at h; cases h; simp
  rw [if_neg h2] at h
  by_cases h3 : c = 44
  ·rw [if_pos h3] at h; cases h; simp
  rw [if_neg h3] at h
  by_cases h4 : c = 39 ∨ c = 34
  ·rw [if_pos h4] at h
   by_cases hneg : Lib.indexByte r c < 0
   ·rw [if_pos hneg] at h; cases h
   ·rw [if_neg hneg] at h
    cases h
    have hi : Lib.indexByte r c = ((Lib.indexByte r c).toNat : Int) := by omega
    have := (List.getElem?_eq_some_iff.1 (Lib.indexByte_some hi).1).1
    simp
    omega
  ·rw [if_neg h4] at h
   cases hr : rowF (r.length + 1) (c :: r) with
   | none => rw [hr] at h; cases h
   | some m =>
    rw [hr] at h
    have hm := rowF_le _ _ _ hr
    cases m with
    | zero => cases h
    | succ j => cases h; exact ⟨by simp, hm⟩
end Go.Tok
namespace Go.Proofs.YtalfhchbmhoagaaGreatDoor
open Go.Abs Go.Glob Go.Tok
variable {G : Globs}
def tkEls (l : List Tk) : List (List AV) := l.map fun x => [.int .i64 x.kind, .str x.text, .int .i64 x.place]
def splitAV : Except Nat (List Tk) → AV
 | .ok l => .tup [.lst (tkEls l), .int .i64 0]
 | .error e => .tup [.lst [], .int .i64 e]
def AccR (e size : Nat) (σ : Store) (v : AV) (l : List (List AV)) : Prop := (l = [] ∧ v = .nils) ∨ (l ≠ [] ∧ ∃ rid, 0 < rid ∧ v = .row rid l.length ∧ σ[rid]? = some (.row e size l true))
theorem AccR.more {e size : Nat} {σ : Store} {v : AV} {l : List (List AV)} (h : AccR e size σ v l) (x : Store) : AccR e size (σ ++ x) v l := by
 rcases h with h | ⟨h1, rid, h2, h3, h4⟩
 ·exact .inl h
 ·refine .inr ⟨h1, rid, h2, h3, ?_⟩
  rw [List.getElem?_append_left (List.getElem?_eq_some_iff.1 h4).1]; exact h4
theorem ap_accR {K : AV → Store → Prop} {t : Tg K} {e size bytes : Nat} {σ : Store} {v : AV} {l : List (List AV)} {e0 : Entry} (h : AccR e size σ v l) (x : List AV) (hs : 0 < size) (hx : x.length = size) (h0 : 0 < σ.length) (hb : (l.length + 1) * bytes ≤ 140737488355328) (h63 : l.length + 1 ≤ 9223372036854775807)
  (hK : ∀ v' σ', AccR e size σ' v' (l ++ [x]) → 0 < σ'.length → K v' (σ'.set 0 e0)) : ap K t (σ.set 0 e0) e size bytes v (.lst [x]) := by
 rcases h with ⟨rfl, rfl⟩ | ⟨h1, rid, h2, rfl, h4⟩
 ·refine ap_new true [x] rfl hs (by simp [hx]) (fun _ => .inl rfl) (by simpa using hb) (by simp) ?_
  have := hK (.row σ.length 1) (σ ++ [.row e size [x] true]) (.inr ⟨by simp, σ.length, h0, by simp, by simp⟩) (by simp)
  rw [List.set_append_left _ _ h0] at this
  simpa using this
 ·have hlt := (List.getElem?_eq_some_iff.1 h4).1
  have hne : 0 ≠ rid := by omega
  refine ap_row l [x] true (by rw [List.getElem?_set_ne hne]; exact h4) rfl hs (by simp [hx]) (fun _ => .inl rfl) rfl (by simpa using hb) (by simpa using h63) ?_
  have := hK (.row rid (l.length + 1)) (σ.set rid (.row e size (l ++ [x]) true)) (.inr ⟨by simp, rid, h2, by simp, by simp [hlt]⟩) (by simpa using h0)
  rw [List.set_comm _ _ hne.symm] at this
  simpa using this
theorem ap_accR' {K : AV → Store → Prop} {t : Tg K} {e size bytes : Nat} {σ : Store} {v : AV} {l : List (List AV)} {e0 : Entry} (ex : Store) (h : AccR e size σ v l) (x : List AV) (hs : 0 < size) (hx : x.length = size) (h0 : 0 < σ.length) (hb : (l.length + 1) * bytes ≤ 140737488355328) (h63 : l.length + 1 ≤ 9223372036854775807)
  (hK : ∀ v' σ', AccR e size σ' v' (l ++ [x]) → 0 < σ'.length → K v' (σ'.set 0 e0)) : ap K t (σ.set 0 e0 ++ ex) e size bytes v (.lst [x]) := by
 rw [set_app e0 h0]
 exact ap_accR (h.more ex) x hs hx (by simp; omega) hb h63 hK
theorem tsplit_ok [GDec] (s : List UInt8) (hs : s.length ≤ 9223372036854775807) : PCalls Tryz.prog n_tokens_Split [.str s] (fun r => r = splitAV (Tok.split s)) := by
 refine pcalls_of_awp hmix c_tokens_Split rfl ?_
 simp [a_tokens_Split]
 by_cases h1k : 1024 < s.length
 ·have h1k' : (1024 : Int) < (s.length : Int) := by omega
  simp [h1k, h1k', Tok.split, splitAV]
 have h1k' : ¬ (1024 : Int) < (s.length : Int) := by omega
 simp [h1k, h1k']
 have h3 : s.length ≤ 1000000 := by omega
 refine lp_startx (fun x f σ => ∃ (k n : Nat) (l : List Tk) (σ0 : Store), x = s.length - k ∧ k ≤ s.length ∧ s.length - k ≤ n ∧ l.length ≤ k ∧ splitF s.length 0 s = (splitF n k (s.drop k)).map (l ++ ·) ∧ f 5 = .ptr 0 0 ∧ AccR 62 3 σ0 (f 4) (tkEls l) ∧ 0 < σ0.length ∧ σ = σ0.set 0 (SV s k)) s.length ?_ ?_
 ·exact ⟨0, s.length, [], [SV s 0], by simp, by simp, by simp, by simp, by simp, by simp, .inl ⟨rfl, by simp⟩, by simp, by simp [SV]⟩
 rintro x f σ ⟨k, n, l, σ0, hx, hk2, hn, hlk, hspl, h5, hacc, hid, rfl⟩
 have g0 := @set_get σ0 0 hid
 have g00 := @set_get' σ0 0 hid
 have q0 := @set_set σ0 0 hid
 simp [h5]
 refine ac_lent (more_ok s k) (.cons (coe_ptr (g00 _) (by simp) rfl) .nil) ?_
 rintro r rfl
 refine ⟨by simp, ?_⟩
 by_cases hk : k < s.length
 ·obtain ⟨c, hc⟩ : ∃ c, s[k]? = some c := ⟨_, List.getElem?_eq_getElem hk⟩
  have hd := drop_cons hc
  obtain ⟨_, hc2⟩ := List.getElem?_eq_some_iff.1 hc
  obtain ⟨n, rfl⟩ : ∃ j, n = j + 1 := ⟨n - 1, by omega⟩
  have hwk : IntKind.i64.wrap ((k : Int) + 1) = (k : Int) + 1 := wrap_i64 (by omega) (by omega)
  by_cases h32 : c = 32
  ·subst h32
   simp [hk, h5, g00, SV, hc, hc2, hwk]
   refine nx_intro (s.length - (k + 1)) (by omega) ⟨k + 1, n, l, σ0, rfl, by omega, by omega, by omega, ?_, by simp [h5], by simpa using hacc, hid, by simp [SV]⟩
   rw [hspl, hd, splitF, if_pos rfl]
  ·have h32' := ne_nat (z := 32) rfl h32
   simp [hk, h5, g00, SV, hc, hc2, hwk, h32']
   refine ac_eff (tnext_ok hid s k hk h3) ?_
   intro r σ1 hr
   cases hnx : nextT (s.drop k) with
   | none =>
    rw [hnx] at hr
    obtain ⟨kd, tx, k', hk', rfl, rfl⟩ := hr
    have hnone : Tok.split s = .error 16 := by
     have : splitF s.length 0 s = none := by rw [hspl, hd, splitF, if_neg h32, ← hd, hnx]; rfl
     simp [Tok.split, h1k, this]
    simp [tokA, hnone, splitAV]
   | some y =>
    rw [hnx] at hr
    obtain ⟨rfl, rfl⟩ := hr
    have hyl := nextT_le hnx
    rw [List.length_drop] at hyl
    simp [tokA]
    have htl : (tkEls l).length = l.length := by simp [tkEls]
    refine ap_accR' _ hacc _ (by omega) rfl hid (by omega) (by omega) ?_
    intro v' σ' hacc' hid'
    simp
    refine nx_intro (s.length - (k + y.2.2)) (by omega) ⟨k + y.2.2, n, l ++ [⟨y.1, y.2.1, k⟩], σ', rfl, by omega, by omega, by simp; omega, ?_, by simp [h5], by simpa [tkEls] using hacc', hid', by simp [SV]⟩
    rw [hspl, hd, splitF, if_neg h32, ← hd, hnx]
    simp only [Option.bind_some, List.drop_drop]
    cases splitF n (k + y.2.2) (List.drop (k + y.2.2) s) with
    | none => simp
    | some z => simp
 ·have htl : (tkEls l).length = l.length := by simp [tkEls]
  have hsp : Tok.split s = if 256 < l.length then .error 11 else .ok l := by
   have h0 : splitF s.length 0 s = some l := by
    rw [hspl, List.drop_of_length_le (by omega)]
    cases n <;> simp [splitF]
   simp [Tok.split, h1k, h0]
  rw [hsp]
  rcases hacc with ⟨h1, h4⟩ | ⟨h1, rid, h2, h4, he⟩
  ·have hl0 : l = [] := by simpa [tkEls] using h1
   subst hl0
   simp [hk, h4, splitAV, view, tkEls]
  ·have he' : (σ0.set 0 (SV s k))[rid]? = some (.row 62 3 (tkEls l) true) := by rw [List.getElem?_set_ne (by omega)]; exact he
   by_cases h256 : 256 < l.length
   ·have h256' : (256 : Int) < (l.length : Int) := by omega
    simp [hk, h4, view, he', htl, h256, h256', splitAV]
   ·have h256' : ¬ (256 : Int) < (l.length : Int) := by omega
    simp [hk, h4, view, he', htl, h256, h256', splitAV]
end Go.Proofs.YtalfhchbmhoagaaGreatDoor
end
