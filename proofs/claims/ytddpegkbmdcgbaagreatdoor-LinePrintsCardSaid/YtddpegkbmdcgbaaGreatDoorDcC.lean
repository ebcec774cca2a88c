/- Numbers as text: the program's Parse and Whole. -/
import Derived.Test.YtddpegkbmdcgbaaGreatDoorDcB
set_option linter.unusedSimpArgs false
set_option linter.unusedVariables false
set_option linter.constructorNameAsVariable false
set_option maxHeartbeats 1000000
namespace Go.Dec
theorem tw_take (s : List UInt8) : s.take (s.takeWhile isD).length = s.takeWhile isD :=
  (congrArg (List.take (s.takeWhile isD).length) (List.takeWhile_append_dropWhile (p := isD) (l := s)).symm).trans (List.take_left' rfl)
theorem tw_drop (s : List UInt8) : s.drop (s.takeWhile isD).length = s.dropWhile isD :=
  (congrArg (List.drop (s.takeWhile isD).length) (List.takeWhile_append_dropWhile (p := isD) (l := s)).symm).trans (List.drop_left' rfl)
theorem tw_len (s : List UInt8) : (s.takeWhile isD).length ≤ s.length := List.Sublist.length_le (List.takeWhile_sublist _)
/-- Where the digits end. -/
theorem tw_at : ∀ (s : List UInt8) (i : Nat), i ≤ s.length → (s.take i).all isD = true → (∀ h : i < s.length, isD s[i] = false) → (s.takeWhile isD).length = i
  | [], i, h, _, _ => by simp at h; simp [h]
  | c :: s, 0, _, _, hn => by
    have := hn (by simp)
    simp only [List.getElem_cons_zero] at this
    simp [List.takeWhile_cons, this]
  | c :: s, i + 1, h, ha, hn => by
    simp only [List.take_succ_cons, List.all_cons, Bool.and_eq_true] at ha
    simp only [List.takeWhile_cons, ha.1, if_true, List.length_cons]
    rw [tw_at s i (by simpa using h) ha.2 (fun h' => by have := hn (by simpa using h'); rw [List.getElem_cons_succ] at this; exact this)]

/-- What the program's split makes of a text. -/
def splitW (s : List UInt8) : List UInt8 := s.takeWhile isD
def splitP (s : List UInt8) : List UInt8 := match s.dropWhile isD with
  | c :: t => if c = 46 then t.takeWhile isD else []
  | [] => []
def splitR (s : List UInt8) : List UInt8 := match s.dropWhile isD with
  | c :: t => if c = 46 then t.dropWhile isD else c :: t
  | [] => []
theorem tw_all : ∀ (s : List UInt8), s.dropWhile isD = [] → s.takeWhile isD = s
  | s, h => by have := List.takeWhile_append_dropWhile (p := isD) (l := s); rw [h, List.append_nil] at this; exact this
theorem parts_some {s : List UInt8} : (splitR s = [] ∧ splitW s ++ splitP s ≠ []) ↔ parts s = some (splitW s, splitP s) := by
  unfold splitR splitW splitP parts
  cases hd : s.dropWhile isD with
  | nil => simp
  | cons c t =>
    by_cases hc : c = 46
    · subst hc
      by_cases ht : t.dropWhile isD = []
      · simp only [ht, if_true, true_and]
        rw [tw_all t ht]
        by_cases hw : s.takeWhile isD ++ t = []
        · simp [hw]
        · simp [hw]
      · simp [ht]
    · simp [hc]
theorem parts_none {s : List UInt8} (h : ¬ (splitR s = [] ∧ splitW s ++ splitP s ≠ [])) : parts s = none := by
  cases hp : parts s with
  | none => rfl
  | some x =>
    exfalso
    apply h
    rw [parts_some, hp]
    unfold parts at hp
    unfold splitW splitP
    cases hd : s.dropWhile isD with
    | nil =>
      rw [hd] at hp; simp only at hp
      split at hp
      · cases hp
      · simpa using hp.symm
    | cons c t =>
      rw [hd] at hp; simp only at hp
      split at hp
      · rename_i hc
        obtain ⟨rfl, h2, h3⟩ := hc
        simp only [if_true, tw_all t h2]
        simpa using hp.symm
      · cases hp
theorem all_tw (s : List UInt8) : (s.takeWhile isD).all isD = true := by
  exact List.all_takeWhile
end Go.Dec
namespace Go.Proofs.YtddpegkbmdcgbaaGreatDoor
open Go.Abs Go.Dec
variable {G : Globs}

theorem hp_cons (c d : UInt8) (t : List UInt8) : Lib.hasPrefix (c :: t) [d] = decide (c = d) := by
  by_cases h : c = d
  · subst h; simp [Lib.hasPrefix]
  · have : ¬ d = c := fun h' => h h'.symm
    have e : (d == c) = false := by simpa using this
    show (d == c && List.isPrefixOf [] t) = decide (c = d)
    simp [e, h]
theorem tp_cons (c d : UInt8) (t : List UInt8) : Lib.trimPrefix (c :: t) [d] = if c = d then t else c :: t := by
  simp only [Lib.trimPrefix, hp_cons]; split <;> simp_all
theorem hp_nil (d : UInt8) : Lib.hasPrefix [] [d] = false := rfl
theorem tp_nil (d : UInt8) : Lib.trimPrefix [] [d] = [] := rfl
theorem u8_ge (c : UInt8) (n : Nat) (hn : n < 256) : decide ((n : Int) ≤ (c.toNat : Int)) = decide (UInt8.ofNat n ≤ c) := by
  have e : (UInt8.ofNat n).toNat = n := by simp [UInt8.toNat_ofNat']; omega
  simp [UInt8.le_iff_toNat_le, e]
theorem digits_ok (s : List UInt8) (hs : s.length ≤ 1000000) : PCalls Tryz.prog n_decimal_digits [.str s] (fun r => r = .int .i64 (s.takeWhile isD).length) := by
  refine pcalls_of_awp hmix c_decimal_digits rfl ?_
  simp [a_decimal_digits]
  refine lp_start (fun n f σ => ∃ i : Nat, n = s.length - i ∧ i ≤ s.length ∧ f 0 = .str s ∧ f 3 = .int .i64 i ∧ (s.take i).all isD = true ∧ σ = []) s.length ⟨0, by simp⟩ ?_
  rintro n f σ ⟨i, rfl, hi, h0, h3, hall, rfl⟩
  simp [h0, h3]
  by_cases hlt : i < s.length
  · have hlt' : (i : Int) < s.length := by omega
    have hge := (isD_iff s[i])
    simp [hlt, hlt', h0, h3, List.getElem?_eq_getElem hlt]
    by_cases hd : isD s[i] = true
    · obtain ⟨g1, g2⟩ := hge.1 hd
      have g1' : (48 : Int) ≤ (s[i].toNat : Int) := by omega
      have g2' : (s[i].toNat : Int) ≤ 57 := by omega
      simp [g1, g2, g1', g2', h0, h3, List.getElem?_eq_getElem hlt]
      refine ⟨_, ?_, i + 1, rfl, by omega, by rw [wrap_i64 (by omega) (by omega)]; simp, ?_⟩
      · omega
      · intro x hx
        rw [List.take_add_one, List.getElem?_eq_getElem hlt] at hx
        simp only [Option.toList_some, List.mem_append, List.mem_singleton] at hx
        rcases hx with hx | rfl
        · exact List.all_eq_true.1 hall x hx
        · exact hd
    · have hend := tw_at s i hi hall (fun _ => by simpa using hd)
      by_cases g1 : 48 ≤ s[i].toNat
      · have g2 : ¬ s[i].toNat ≤ 57 := fun h => hd (hge.2 ⟨g1, h⟩)
        have g1' : (48 : Int) ≤ (s[i].toNat : Int) := by omega
        have g2' : ¬ (s[i].toNat : Int) ≤ 57 := by omega
        simp [g1, g2, g1', g2', h0, h3, List.getElem?_eq_getElem hlt, hend]
      · have g1' : ¬ (48 : Int) ≤ (s[i].toNat : Int) := by omega
        simp [g1, g1', h0, h3, hend]
  · have hlt' : ¬ (i : Int) < s.length := by omega
    have hend := tw_at s i hi hall (fun h => absurd h hlt)
    simp [hlt, hlt', h0, h3, hend]

theorem sign_ok (s : List UInt8) : PCalls Tryz.prog n_decimal_sign [.str s] (fun r => r = .tup [.str (unsign s), .bool (below s)]) := by
  refine pcalls_of_awp hmix c_decimal_sign rfl ?_
  simp [a_decimal_sign]
  refine ac_same (cutPrefix_ok s [45]) (by simp) ?_
  rintro r rfl
  cases s with
  | nil =>
    simp [hp_nil, tp_nil]
    refine ac_same (trimPrefix_ok [] [43]) (by simp) ?_
    rintro r rfl
    simp [tp_nil, unsign, below]
  | cons c t =>
    by_cases hc : c = 45
    · subst hc
      simp [hp_cons, tp_cons, unsign, below]
    · simp [hp_cons, tp_cons, hc]
      refine ac_same (trimPrefix_ok (c :: t) [43]) (by simp) ?_
      rintro r rfl
      by_cases h43 : c = 43
      · subst h43; simp [tp_cons, unsign, below]
      · simp [tp_cons, unsign, below, hc, h43]

theorem split_okD (s : List UInt8) (hs : s.length ≤ 1000000) : PCalls Tryz.prog n_decimal_split [.str s] (fun r => r = .tup [.str (splitW s), .str (splitP s), .bool (decide (splitR s = [] ∧ splitW s ++ splitP s ≠ []))]) := by
  refine pcalls_of_awp hmix c_decimal_split rfl ?_
  simp [a_decimal_split]
  refine ac_same (digits_ok s hs) (by simp) ?_
  rintro r rfl
  have hl := tw_len s
  simp [hl, tw_take, tw_drop]
  refine ac_same (cutPrefix_ok (s.dropWhile isD) [46]) (by simp) ?_
  rintro r rfl
  have hadd : ∀ a b : List UInt8, a.length ≤ s.length → b.length ≤ s.length → a.length + b.length ≤ 9223372036854775807 := fun a b h1 h2 => by omega
  cases hd : s.dropWhile isD with
  | nil =>
    simp [hp_nil, tp_nil]
    have := hadd (s.takeWhile isD) [] hl (by simp)
    simp at this
    simp [this, splitW, splitP, splitR, hd]
  | cons c t =>
    have hdl : (c :: t).length ≤ s.length := by rw [← hd]; exact List.Sublist.length_le (List.dropWhile_sublist _)
    simp only [List.length_cons] at hdl
    by_cases hc : c = 46
    · subst hc
      simp [hp_cons, tp_cons]
      refine ac_same (digits_ok t (by omega)) (by simp) ?_
      rintro r rfl
      have hl2 := tw_len t
      simp [hl2, tw_take, tw_drop]
      have := hadd (s.takeWhile isD) (t.takeWhile isD) hl (by omega)
      by_cases he : t.dropWhile isD = []
      · simp [he, this, splitW, splitP, splitR, hd]
      · simp [he, splitW, splitP, splitR, hd]
    · simp [hp_cons, tp_cons, hc]
      simp [splitW, splitP, splitR, hd, hc]

theorem unsign_len (s : List UInt8) : (unsign s).length ≤ s.length := by
  unfold unsign; split
  · split <;> simp
  · simp
theorem pad_len (p : List UInt8) : (pad p).length = 6 := by simp [pad]
theorem splitW_len (s : List UInt8) : (splitW s).length ≤ s.length := tw_len s
theorem splitP_len (s : List UInt8) : (splitP s).length ≤ s.length := by
  unfold splitP
  have h := List.Sublist.length_le (List.dropWhile_sublist (p := isD) (l := s))
  split
  · rename_i c t hd
    rw [hd] at h; simp only [List.length_cons] at h
    split
    · have := tw_len t; omega
    · simp
  · simp
theorem pad_all {p : List UInt8} (h : p.all isD = true) : (pad p).all isD = true := by
  rw [List.all_eq_true] at h ⊢
  intro x hx
  have := List.mem_of_mem_take hx
  rcases List.mem_append.1 this with h1 | h1
  · exact h x h1
  · simp at h1; subst h1; decide
theorem splitP_all (s : List UInt8) : (splitP s).all isD = true := by
  unfold splitP
  split
  · split
    · exact all_tw _
    · rfl
  · rfl

def numAV (x : Except Nat Int) : AV := match x with
  | .ok n => .tup [.agg [.bool false, .int .i64 n], .int .i64 0]
  | .error e => .tup [.agg [.bool false, .int .i64 0], .int .i64 e]
theorem dParse_ok [GDec] (s : List UInt8) (hs : s.length ≤ 9223372036854775807) : PCalls Tryz.prog n_decimal_Parse [.str s] (fun r => r = numAV (parse s)) := by
  refine pcalls_of_awp hmix c_decimal_Parse rfl ?_
  simp [a_decimal_Parse]
  by_cases h64 : 64 < s.length
  · have h64' : (64 : Int) < s.length := by omega
    simp [h64, h64', parse, numAV]
  have h64' : ¬ (64 : Int) < s.length := by omega
  simp [h64, h64']
  refine ac_same (sign_ok s) (by simp) ?_
  rintro r rfl
  simp
  have hul := unsign_len s
  refine ac_same (split_okD (unsign s) (by omega)) (by simp) ?_
  rintro r rfl
  generalize hU : unsign s = U at *
  by_cases hp : splitR U = [] ∧ splitW U ++ splitP U ≠ []
  · rw [decide_eq_true hp]
    have hparts := parts_some.1 hp
    have hWl := splitW_len U
    have hPl := splitP_len U
    have hWa : (splitW U).all isD = true := all_tw U
    have hPa := splitP_all U
    generalize splitW U = W at *
    generalize splitP U = P at *
    have hpar : parse s = if 9223372036854775807 < dval 0 (W ++ pad P) + (if upB P then 1 else 0) then .error 3 else .ok (if below s then -((dval 0 (W ++ pad P) + (if upB P then 1 else 0) : Nat) : Int) else ((dval 0 (W ++ pad P) + (if upB P then 1 else 0) : Nat) : Int)) := by
      unfold parse; rw [if_neg h64, hU, hparts]
    have hadd1 : P.length + 6 ≤ 9223372036854775807 := by omega
    have hadd2 : W.length + 1 ≤ 9223372036854775807 := by omega
    have hadd2' : 1 + W.length ≤ 9223372036854775807 := by omega
    have hpl := pad_len P
    have hadd3 : W.length + 1 + (pad P).length ≤ 9223372036854775807 := by omega
    have hmin : 6 ≤ P.length + 6 := by omega
    have hdv : dval 0 (48 :: (W ++ pad P)) = dval 0 (W ++ pad P) := by rw [dval_cons]; rfl
    have hdall : (48 :: (W ++ pad P)).all isD = true := by
      simp only [List.all_cons, List.all_append, Bool.and_eq_true]
      exact ⟨by decide, hWa, pad_all hPa⟩
    have hpadeq : (P ++ [48, 48, 48, 48, 48, 48]).take 6 = pad P := rfl
    have hpi := parseInt_ok (48 :: (W ++ pad P)) (by simp; omega) hdall (by simp)
    rw [hdv] at hpi
    generalize hV : dval 0 (W ++ pad P) = V at *
    have hup : ∀ (h6 : 6 < P.length), upB P = decide ((53 : Int) ≤ (P[6].toNat : Int)) := fun h6 => by
      unfold upB
      rw [List.getElem?_eq_getElem h6]
      simp [UInt8.le_iff_toNat_le]
      omega
    have hup0 : ¬ 6 < P.length → upB P = false := fun h6 => by
      unfold upB
      rw [List.getElem?_eq_none (by omega)]
    by_cases h6 : 6 < P.length
    · have h6' : (6 : Int) < P.length := by omega
      simp [h6, h6', List.getElem?_eq_getElem h6, ← hup h6, hadd1, hmin, hpadeq, hadd2', hadd2, hadd3]
      cases hub : upB P with
      | true =>
        refine ac_same hpi (by simp) ?_
        intro r hr
        unfold pIntAV at hr
        by_cases hle : V ≤ 9223372036854775807
        · rw [if_pos hle] at hr
          subst hr
          have hnw : IntKind.i64.wrap (-(V : Int)) = -(V : Int) := by rw [wrap_i64 (by omega) (by omega)]
          simp
          by_cases hmax : V = 9223372036854775807
          · subst hmax
            simp [hpar, hub, numAV]
          · have hmax' : ¬ (V : Int) = 9223372036854775807 := by omega
            have hlt : ¬ 9223372036854775807 < V + 1 := by omega
            have hw1 : IntKind.i64.wrap ((V : Int) + 1) = (V : Int) + 1 := wrap_i64 (by omega) (by omega)
            have hw2 : IntKind.i64.wrap (-((V : Int) + 1)) = -((V : Int) + 1) := by rw [wrap_i64 (by omega) (by omega)]
            simp [hmax, hmax', hw1]
            refine cb_intro (fun hb => ?_) (fun hb => ?_)
            · simp [hpar, hub, hb, hlt, hw1, hw2, numAV]
            · simp [hpar, hub, hb, hlt, hw1, numAV]
        · rw [if_neg hle] at hr
          obtain ⟨z, rfl⟩ := hr
          have hgt : 9223372036854775807 < V := by omega
          have hgt1 : 9223372036854775807 < V + 1 := by omega
          simp [hpar, hub, hgt, hgt1, numAV]
      | false =>
        refine ac_same hpi (by simp) ?_
        intro r hr
        unfold pIntAV at hr
        by_cases hle : V ≤ 9223372036854775807
        · rw [if_pos hle] at hr
          subst hr
          have hnw : IntKind.i64.wrap (-(V : Int)) = -(V : Int) := by rw [wrap_i64 (by omega) (by omega)]
          simp
          have hlt : ¬ 9223372036854775807 < V := by omega
          refine cb_intro (fun hb => ?_) (fun hb => ?_)
          · simp [hpar, hub, hb, hlt, hnw, numAV]
          · simp [hpar, hub, hb, hlt, numAV]
        · rw [if_neg hle] at hr
          obtain ⟨z, rfl⟩ := hr
          have hgt : 9223372036854775807 < V := by omega
          have hgt1 : 9223372036854775807 < V + 1 := by omega
          simp [hpar, hub, hgt, hgt1, numAV]
    · have h6' : ¬ (6 : Int) < P.length := by omega
      have hub := hup0 h6
      simp [h6, h6', hadd1, hmin, hpadeq, hadd2', hadd2, hadd3]
      refine ac_same hpi (by simp) ?_
      intro r hr
      unfold pIntAV at hr
      by_cases hle : V ≤ 9223372036854775807
      · rw [if_pos hle] at hr
        subst hr
        have hnw : IntKind.i64.wrap (-(V : Int)) = -(V : Int) := by rw [wrap_i64 (by omega) (by omega)]
        simp
        have hlt : ¬ 9223372036854775807 < V := by omega
        refine cb_intro (fun hb => ?_) (fun hb => ?_)
        · simp [hpar, hub, hb, hlt, hnw, numAV]
        · simp [hpar, hub, hb, hlt, numAV]
      · rw [if_neg hle] at hr
        obtain ⟨z, rfl⟩ := hr
        have hgt : 9223372036854775807 < V := by omega
        have hgt1 : 9223372036854775807 < V + 1 := by omega
        simp [hpar, hub, hgt, hgt1, numAV]
  · rw [decide_eq_false hp]
    have hparts := parts_none hp
    have hpar : parse s = .error 2 := by unfold parse; rw [if_neg h64, hU, hparts]
    simp [hpar, numAV]
end Go.Proofs.YtddpegkbmdcgbaaGreatDoor
