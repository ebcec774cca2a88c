/- Numbers over time: series.Align. -/
import Derived.Test.YtjkajkhomklikaaGreatDoorSeS
set_option linter.unusedSimpArgs false
set_option linter.unusedVariables false
set_option linter.constructorNameAsVariable false
set_option maxHeartbeats 4000000
namespace Go.Ser
open Go.Abs Go.Num
def alG (a st b : Int) (s : Sr) : Sr := ⟨s.name, a, st, slots s a st 1 (countN a b st)⟩
theorem alS_go {l : List Sr} {s0 : Sr} (h0 : l[0]? = some s0) (hany : (l.any fun s => !rightS s) = false) (hlen : ¬ 128 < l.length) :
    alS l = match scanS 1 s0.start 0 l with
    | none => ([], 3)
    | some (st, a, b) =>
      if 2000 < ((b + st - 1) / st * st - (a - a % st)) / st ∨ 1099511714176 < (b + st - 1) / st * st then ([], 20)
      else (l.map (alG (a - a % st) st ((b + st - 1) / st * st)), 0) := by
  unfold alS
  rw [if_neg (by simp [hany]), if_neg hlen]
  cases l with
  | nil => simp at h0
  | cons s l => simp at h0; subst h0; rfl
theorem mid_get {e : Entry} {σ τ : Store} : (σ ++ e :: τ)[σ.length]? = some e := by simp
theorem mid_set {e e' : Entry} {σ τ : Store} : (σ ++ e :: τ).set σ.length e' = σ ++ e' :: τ := by simp
theorem mid_last {e v : Entry} {σ τ : Store} : (σ ++ e :: (τ ++ [v]))[σ.length + (τ.length + 1)]? = some v := by
  rw [List.getElem?_append_right (by omega)]
  simp
theorem mid_set_last {e v v' : Entry} {σ τ : Store} : (σ ++ e :: (τ ++ [v])).set (σ.length + (τ.length + 1)) v' = σ ++ e :: (τ ++ [v']) := by
  rw [List.set_append_right _ _ (by omega)]
  simp
theorem last_set {v v' : Entry} {σ : Store} : (σ ++ [v]).set σ.length v' = σ ++ [v'] := by simp
theorem round_bd {b st : Int} (h1 : 1 ≤ st) (h2 : st ≤ 86400) (h3 : 0 ≤ b) (h4 : b ≤ 2000000000000) : b ≤ (b + st - 1) / st * st ∧ (b + st - 1) / st * st ≤ b + st - 1 ∧ 0 ≤ (b + st - 1) / st ∧ (b + st - 1) / st ≤ 2000000086400 := by
  have e := Int.mul_ediv_add_emod (b + st - 1) st
  have q0 := Int.emod_nonneg (b + st - 1) (show st ≠ 0 by omega)
  have q1 := Int.emod_lt_of_pos (b + st - 1) (show 0 < st by omega)
  rw [Int.mul_comm] at e
  have h5 : 0 ≤ (b + st - 1) / st := Int.ediv_nonneg (by omega) (by omega)
  have h6 : (b + st - 1) / st ≤ b + st - 1 := Int.ediv_le_self _ (by omega)
  omega
end Go.Ser
namespace Go.Proofs.YtjkajkhomklikaaGreatDoor
open Go.Abs Go.Num Go.Ser
variable {G : Globs}
def alA (p : List Sr × Nat) : AV := .tup [serL p.1, .int .i64 p.2]
def alE (l : List Sr) (g : Sr → Sr) (i : Nat) : List (List AV) := serEls ((l.take i).map g) ++ List.replicate (l.length - i) [.str [], .int .i64 0, .int .i64 0, .nils]
theorem alE_len {l : List Sr} {g : Sr → Sr} {i : Nat} (h : i ≤ l.length) : (alE l g i).length = l.length := by simp [alE, serEls, Nat.min_eq_left h]; omega
theorem alE_get {l : List Sr} {g : Sr → Sr} {i : Nat} (h : i < l.length) : (alE l g i)[i]? = some [.str [], .int .i64 0, .int .i64 0, .nils] := by
  have e : (serEls ((l.take i).map g)).length = i := by simp [serEls, Nat.min_eq_left (Nat.le_of_lt h)]
  unfold alE
  rw [List.getElem?_append_right (by omega), e, Nat.sub_self, show l.length - i = (l.length - i - 1) + 1 by omega, List.replicate_succ]
  rfl
theorem alE_set {l : List Sr} {g : Sr → Sr} {i : Nat} {y : Sr} (h : l[i]? = some y) : (alE l g i).set i (srC (g y)) = alE l g (i + 1) := by
  obtain ⟨h1, h2⟩ := List.getElem?_eq_some_iff.1 h
  have e : (serEls ((l.take i).map g)).length = i := by simp [serEls, Nat.min_eq_left (Nat.le_of_lt h1)]
  unfold alE
  rw [List.set_append_right _ _ (by omega), e, Nat.sub_self, show l.length - i = (l.length - (i + 1)) + 1 by omega, List.replicate_succ, List.set_cons_zero, List.take_add_one, h]
  simp [serEls]
theorem alE_all {l : List Sr} {g : Sr → Sr} : alE l g l.length = serEls (l.map g) := by simp [alE]
theorem align_ok (l : List Sr) (hl : l.length ≤ 9223372036854775807) (ho : ∀ s ∈ l, SrOk s) : PCalls Tryz.prog n_series_Align [serL l] (fun r => r = alA (alS l)) := by
  refine pcalls_of_awp hmix c_series_Align rfl ?_
  have hle := serEls_len l
  have kc := containsS_ok (G := G) l hl (fun s => !rightS s) n_series_Align_1 b_series_Align_1 (fun n hn => align1_ok n (ho n hn))
  unfold serL at kc ⊢
  simp [a_series_Align]
  refine ac_same kc (by simp) ?_
  rintro r rfl
  cases hany : l.any fun s => !rightS s with
  | true =>
    have : alS l = ([], 1) := by unfold alS; rw [if_pos hany]
    simp [this, alA, serL, serEls]
  | false =>
    have hR : ∀ s ∈ l, SrR s := fun s hs => right_iff.1 (by have := List.any_eq_false.1 hany s hs; simpa using this)
    by_cases h128 : 128 < l.length
    · have : alS l = ([], 11) := by unfold alS; rw [if_neg (by simp [hany]), if_pos h128]
      have h128' : (128 : Int) < l.length := by omega
      simp [hle, h128, h128', this, alA, serL, serEls]
    have h128' : ¬ (128 : Int) < l.length := by omega
    by_cases hnil : l = []
    · subst hnil
      have : alS [] = ([], 0) := rfl
      simp [this, alA, serL, serEls]
    obtain ⟨s0, hs0⟩ : ∃ s0, l[0]? = some s0 := ⟨_, List.getElem?_eq_getElem (by have := List.length_pos_iff.2 hnil; omega)⟩
    have hpos : 0 < l.length := List.length_pos_iff.2 hnil
    have hse0 := serEls_get hs0
    obtain ⟨hz1, hz2⟩ := List.getElem?_eq_some_iff.1 hse0
    have hne : ¬ (l.length : Int) = 0 := by omega
    have hne' : ¬ l.length = 0 := by omega
    have hne'' : ¬ serEls l = [] := fun h => by rw [h] at hle; simp at hle; omega
    have hgo := alS_go hs0 hany h128
    have hR0 := hR s0 (List.mem_of_getElem? hs0)
    have hs00 := hR0.s0
    have hs01 := hR0.s1
    simp [hle, h128, h128', hne, hne', hne'', hz1, hz2, hpos]
    refine lp_startx (fun x f σ => ∃ (i st : Nat) (a b : Int), x = l.length - i ∧ i ≤ l.length ∧ 1 ≤ st ∧ st ≤ 86400 ∧ (0 < i → a ≤ b) ∧ 0 ≤ a ∧ a ≤ 1099511627776 ∧ 0 ≤ b ∧ b ≤ 1200000000000 ∧ scanS 1 s0.start 0 l = scanS st a b (l.drop i) ∧
      f 0 = .lst (serEls l) ∧ f 4 = .int .i64 st ∧ f 5 = .int .i64 a ∧ f 6 = .int .i64 b ∧ f 27 = .lst (serEls l) ∧ f 28 = .int .i64 l.length ∧ f 29 = .int .i64 i) l.length ?_ ?_
    · exact ⟨0, 1, s0.start, 0, by simp, by simp, by simp, by simp, by simp, hs00, hs01, by simp, by simp, by simp, by simp, by simp, by simp, by simp, by simp, by simp [hle], by simp⟩
    rintro x f σ ⟨i, st, a, b, hx, hi, hst1, hst2, hab, ha0, ha1, hb0, hb1, hsc, f0, f4, f5, f6, f27, f28, f29⟩
    simp [f28, f29]
    refine cb_dec (fun hlt => ?_) (fun hge => ?_)
    · have hlt' : i < l.length := by omega
      have hwi : IntKind.i64.wrap ((i : Int) + 1) = ((i + 1 : Nat) : Int) := by rw [wrap_i64 (by omega) (by omega)]; omega
      obtain ⟨y, hy⟩ : ∃ y, l[i]? = some y := ⟨_, List.getElem?_eq_getElem hlt'⟩
      have hym := List.mem_of_getElem? hy
      have hyR := hR y hym
      have hse := serEls_get hy
      obtain ⟨hx1, hx2⟩ := List.getElem?_eq_some_iff.1 hse
      have hp0 := hyR.p0
      have hp1 := hyR.p1
      have hy0 := hyR.s0
      have hy1 := hyR.s1
      obtain ⟨e1, e2, e3, e4⟩ := end_bd hyR
      have kC := common_ok (G := G) st y.step.toNat (by omega) hst2 (by omega) (by omega)
      rw [Int.toNat_of_nonneg (by omega)] at kC
      have hcp := cm_pos (a := st) (b := y.step.toNat) (by omega) (by omega)
      have kE := send_ok (G := G) y hyR
      rw [srA_eq] at kE
      have hdr : l.drop i = y :: l.drop (i + 1) := by
        obtain ⟨hq1, hq2⟩ := List.getElem?_eq_some_iff.1 hy
        rw [← hq2]; exact List.drop_eq_getElem_cons hq1
      rw [hdr, scanS] at hsc
      obtain ⟨c, hc⟩ : ∃ c, c = cm st y.step.toNat := ⟨_, rfl⟩
      rw [← hc] at hsc kC hcp
      simp [f4, f27, f29, hx1, hx2]
      refine ac_same kC (by simp) ?_
      rintro r rfl
      by_cases hbig : 86400 < c
      · have hbig' : (86400 : Int) < c := by omega
        rw [if_neg (by omega)] at hsc
        rw [hsc] at hgo
        simp [hbig, hbig', hgo, alA, serL, serEls]
      · have hbig' : ¬ (86400 : Int) < c := by omega
        rw [if_pos (by omega)] at hsc
        simp [hbig, hbig', f5, f6, f29, hwi]
        refine qc_same kE (by simp) (by simp) ?_
        simp [f29, hwi]
        refine nx_intro (l.length - (i + 1)) (by omega) ⟨i + 1, c, min a y.start, max b (endS y), rfl, by omega, by omega, by omega, by omega, by omega, by omega, by omega, by omega, hsc, by simp [f0], by simp, by simp; omega, by simp; omega, by simp [f27], by simp [f28], by simp⟩
    · have hil : i = l.length := by omega
      subst hil
      rw [List.drop_length, scanS] at hsc
      rw [hsc] at hgo
      have hab' := hab hpos
      obtain ⟨r1, r2, r3, r4⟩ := round_bd (b := b) (st := st) (by omega) (by omega) hb0 (by omega)
      have hst0 : ¬ (st : Int) = 0 := by omega
      have hst0' : ¬ st = 0 := by omega
      have htm : a.tmod st = a % st := Int.tmod_eq_emod_of_nonneg ha0
      have m0 := Int.emod_nonneg a hst0
      have m1 := Int.emod_lt_of_pos a (show (0 : Int) < st by omega)
      have m2 : a % st ≤ a := by
        obtain ⟨n, hn⟩ := Int.eq_ofNat_of_zero_le ha0
        rw [hn]; have := Nat.mod_le n st; omega
      obtain ⟨q, hq⟩ : ∃ q, q = (b + st - 1) / st := ⟨_, rfl⟩
      have htd : (b + st - 1).tdiv st = q := by rw [hq]; exact Int.tdiv_eq_ediv_of_nonneg (by omega)
      obtain ⟨a', ha'⟩ : ∃ a', a' = a - a % st := ⟨_, rfl⟩
      obtain ⟨b', hb'⟩ : ∃ b', b' = q * st := ⟨_, rfl⟩
      rw [← hq] at r1 r2 r3 r4
      rw [← hb'] at r1 r2
      have w1 : IntKind.i64.wrap (a - a % st) = a' := by rw [ha']; exact wrap_i64 (by omega) (by omega)
      have w2 : IntKind.i64.wrap (b + st) = b + st := wrap_i64 (by omega) (by omega)
      have w3 : IntKind.i64.wrap (b + st - 1) = b + st - 1 := wrap_i64 (by omega) (by omega)
      have w4 : IntKind.i64.wrap q = q := wrap_i64 (by omega) (by omega)
      have w5 : IntKind.i64.wrap (q * st) = b' := by rw [← hb']; exact wrap_i64 (by omega) (by omega)
      have w6 : IntKind.i64.wrap (b' - a') = b' - a' := wrap_i64 (by omega) (by omega)
      obtain ⟨qq, hqq⟩ : ∃ qq, qq = (b' - a') / st := ⟨_, rfl⟩
      have htd2 : (b' - a').tdiv st = qq := by rw [hqq]; exact Int.tdiv_eq_ediv_of_nonneg (by omega)
      have hq0 : 0 ≤ qq := by rw [hqq]; exact Int.ediv_nonneg (by omega) (by omega)
      have hq1 : qq ≤ b' - a' := by rw [hqq]; exact Int.ediv_le_self _ (by omega)
      have w7 : IntKind.i64.wrap qq = qq := wrap_i64 (by omega) (by omega)
      have hspan : qq ≤ 2000 → b' - a' ≤ 1000000000 := by
        intro h
        have e := Int.mul_ediv_add_emod (b' - a') st
        rw [← hqq] at e
        have q1 := Int.emod_lt_of_pos (b' - a') (show (0 : Int) < st by omega)
        have h5 : (st : Int) * qq ≤ 86400 * 2000 := Int.mul_le_mul (by omega) h hq0 (by decide)
        omega
      simp only [← hq, ← ha', ← hb', ← hqq] at hgo
      by_cases h1 : 2000 < qq
      · rw [if_pos (.inl h1)] at hgo
        simp [f4, f5, f6, hst0, hst0', htm, w1, w2, w3, htd, w4, w5, w6, htd2, w7, h1, hgo, alA, serL, serEls]
      by_cases h2 : 1099511714176 < b'
      · rw [if_pos (.inr h2)] at hgo
        simp [f4, f5, f6, hst0, hst0', htm, w1, w2, w3, htd, w4, w5, w6, htd2, w7, h1, h2, hgo, alA, serL, serEls]
      have hsp := hspan (by omega)
      rw [if_neg (by omega)] at hgo
      simp [f0, f4, f5, f6, hst0, hst0', htm, w1, w2, w3, htd, w4, w5, w6, htd2, w7, h1, h2, hle]
      refine ms_intro l.length rfl rfl (by omega) (by omega) (by omega) rfl ?_
      simp [f0, hle]
      obtain ⟨g, hg⟩ : ∃ g, g = alG a' st b' := ⟨_, rfl⟩
      rw [← hg] at hgo
      refine lp_startx (fun x f' σ' => ∃ (i : Nat) (τ : Store), x = l.length - i ∧ i ≤ l.length ∧ f' 4 = .int .i64 st ∧ f' 5 = .int .i64 a' ∧ f' 6 = .int .i64 b' ∧ f' 9 = .row σ.length l.length ∧ f' 74 = .lst (serEls l) ∧ f' 75 = .int .i64 l.length ∧ f' 76 = .int .i64 i ∧
        σ' = σ ++ .row 29 4 (alE l g i) false :: τ) l.length ?_ ?_
      · exact ⟨0, [], by simp, by simp, by simp [f4], by simp, by simp, by simp, by simp [f0], by simp [hle], by simp, by simp [alE, serEls]⟩
      rintro x f' σ' ⟨i, τ, hx', hi', g4, g5, g6, g9, g74, g75, g76, rfl⟩
      have hEl := alE_len (g := g) hi'
      simp [g75, g76]
      refine cb_dec (fun hlt => ?_) (fun hge => ?_)
      · have hlt' : i < l.length := by omega
        have hwi : IntKind.i64.wrap ((i : Int) + 1) = ((i + 1 : Nat) : Int) := by rw [wrap_i64 (by omega) (by omega)]; omega
        obtain ⟨y, hy⟩ : ∃ y, l[i]? = some y := ⟨_, List.getElem?_eq_getElem hlt'⟩
        have hym := List.mem_of_getElem? hy
        have hse := serEls_get hy
        obtain ⟨hx1, hx2⟩ := List.getElem?_eq_some_iff.1 hse
        have hEg := alE_get (g := g) hlt'
        obtain ⟨hy1, hy2⟩ := List.getElem?_eq_some_iff.1 hEg
        have hEs := alE_set (g := g) hy
        have kL := laid_ok (G := G) y (hR y hym) (ho y hym).vs a' b' st 1 (by omega) (by omega) (by omega) (by omega) (by omega)
        rw [srA_eq y] at kL
        simp [g4, g5, g6, g9, g74, g76, hx1, hx2, mid_last, mid_set_last, mid_get, mid_set]
        refine ac_same kL (by simp) ?_
        rintro r rfl
        have hEs' : (alE l g i).set i [.str y.name, .int .i64 a', .int .i64 st, .lst (numEls (slots y a' st 1 (countN a' b' st)))] = alE l g (i + 1) := by rw [← hEs, hg]; rfl
        simp [srA_eq, g76, hEl, hlt', hy1, hy2, hEg, hEs', hwi, mid_last, mid_set_last, mid_get, mid_set]
        refine nx_intro (l.length - (i + 1)) (by omega) ⟨i + 1, τ ++ [.var 29 [.str y.name, .int .i64 y.start, .int .i64 y.step, .lst (numEls y.vals)]], rfl, by omega, by simp [g4], by simp [g5], by simp [g6], by simp [g9], by simp [g74], by simp [g75], by simp, by simp [splice]⟩
      · have hil : i = l.length := by omega
        subst hil
        rw [alE_all]
        have hz := serEls_fz (σ ++ .row 29 4 (serEls (l.map g)) false :: τ) 0 1 (l.map g)
        have hln : (serEls (l.map g)).length = l.length := by simp [serEls]
        simp [g9, g75, fin1_row, fz, mid_get, hz, hln, hgo, alA, serL]
end Go.Proofs.YtjkajkhomklikaaGreatDoor
