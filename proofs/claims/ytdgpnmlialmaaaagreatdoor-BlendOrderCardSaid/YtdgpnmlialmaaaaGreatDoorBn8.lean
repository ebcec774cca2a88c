/- Functions of many series: what becomes of values together (the document). Numbers over time: series.Align. Functions of many series: percents (the pro -/
import Derived.Test.YtdgpnmlialmaaaaGreatDoorBn1
import Derived.Test.YtdgpnmlialmaaaaGreatDoorBn2
import Derived.Test.YtdgpnmlialmaaaaGreatDoorBn3
import Derived.Test.YtdgpnmlialmaaaaGreatDoorBn4
import Derived.Test.YtdgpnmlialmaaaaGreatDoorBn5
import Derived.Test.YtdgpnmlialmaaaaGreatDoorBn6
import Derived.Test.YtdgpnmlialmaaaaGreatDoorBn7
set_option linter.unusedSimpArgs false
set_option linter.unusedVariables false
set_option linter.constructorNameAsVariable false
section
set_option maxHeartbeats 4000000
namespace Go.Ble
open Go.Num
theorem reckon_none {l : List N} (h : known l = []) (w : Int) : reckon w l = nothing := by
  unfold reckon; rw [h]
end Go.Ble
namespace Go.Proofs.YtdgpnmlialmaaaaGreatDoor
open Go.Abs Go.Num Go.Ser Go.Ble Go.Dec Go.Shp
variable {G : Globs}
end Go.Proofs.YtdgpnmlialmaaaaGreatDoor
end
section
set_option maxHeartbeats 4000000
namespace Go.Ser
open Go.Abs Go.Num
def alG (a st b : Int) (s : Sr) : Sr := ⟨s.name, a, st, slots s a st 1 (countN a b st)⟩
theorem alS_go {l : List Sr} {s0 : Sr} (h0 : l[0]? = some s0) (hany : (l.any fun s => !rightS s) = false) (hlen : ¬ 128 < l.length) :
    alS l = match scanS 1 s0.start 0 l with
    | none => ([], 3)
    | some (st, a, b) =>
      if 2000 < ((b + st - 1) / st * st - (a - a % st)) / st ∨ 1099511714176 < (b + st - 1) / st * st then ([], 20)
      else (l.map (alG (a - a % st) st ((b + st - 1) / st * st)), 0) := by
  unfold alS
  rw [if_neg (by simp [hany]), if_neg hlen]
  cases l with
  | nil => simp at h0
  | cons s l => simp at h0; subst h0; rfl
theorem mid_get {e : Entry} {σ τ : Store} : (σ ++ e :: τ)[σ.length]? = some e := by simp
theorem mid_set {e e' : Entry} {σ τ : Store} : (σ ++ e :: τ).set σ.length e' = σ ++ e' :: τ := by simp
theorem mid_last {e v : Entry} {σ τ : Store} : (σ ++ e :: (τ ++ [v]))[σ.length + (τ.length + 1)]? = some v := by
  rw [List.getElem?_append_right (by omega)]
  simp
theorem mid_set_last {e v v' : Entry} {σ τ : Store} : (σ ++ e :: (τ ++ [v])).set (σ.length + (τ.length + 1)) v' = σ ++ e :: (τ ++ [v']) := by
  rw [List.set_append_right _ _ (by omega)]
  simp
theorem round_bd {b st : Int} (h1 : 1 ≤ st) (h2 : st ≤ 86400) (h3 : 0 ≤ b) (h4 : b ≤ 2000000000000) : b ≤ (b + st - 1) / st * st ∧ (b + st - 1) / st * st ≤ b + st - 1 ∧ 0 ≤ (b + st - 1) / st ∧ (b + st - 1) / st ≤ 2000000086400 := by
  have e := Int.mul_ediv_add_emod (b + st - 1) st
  have q0 := Int.emod_nonneg (b + st - 1) (show st ≠ 0 by omega)
  have q1 := Int.emod_lt_of_pos (b + st - 1) (show 0 < st by omega)
  rw [Int.mul_comm] at e
  have h5 : 0 ≤ (b + st - 1) / st := Int.ediv_nonneg (by omega) (by omega)
  have h6 : (b + st - 1) / st ≤ b + st - 1 := Int.ediv_le_self _ (by omega)
  omega
end Go.Ser
namespace Go.Proofs.YtdgpnmlialmaaaaGreatDoor
open Go.Abs Go.Num Go.Ser
variable {G : Globs}
def alA (p : List Sr × Nat) : AV := .tup [serL p.1, .int .i64 p.2]
def alE (l : List Sr) (g : Sr → Sr) (i : Nat) : List (List AV) := serEls ((l.take i).map g) ++ List.replicate (l.length - i) [.str [], .int .i64 0, .int .i64 0, .nils]
theorem alE_len {l : List Sr} {g : Sr → Sr} {i : Nat} (h : i ≤ l.length) : (alE l g i).length = l.length := by simp [alE, serEls, Nat.min_eq_left h]; omega
theorem alE_get {l : List Sr} {g : Sr → Sr} {i : Nat} (h : i < l.length) : (alE l g i)[i]? = some [.str [], .int .i64 0, .int .i64 0, .nils] := by
  have e : (serEls ((l.take i).map g)).length = i := by simp [serEls, Nat.min_eq_left (Nat.le_of_lt h)]
  unfold alE
  rw [List.getElem?_append_right (by omega), e, Nat.sub_self, show l.length - i = (l.length - i - 1) + 1 by omega, List.replicate_succ]
  rfl
theorem alE_set {l : List Sr} {g : Sr → Sr} {i : Nat} {y : Sr} (h : l[i]? = some y) : (alE l g i).set i (srC (g y)) = alE l g (i + 1) := by
  obtain ⟨h1, h2⟩ := List.getElem?_eq_some_iff.1 h
  have e : (serEls ((l.take i).map g)).length = i := by simp [serEls, Nat.min_eq_left (Nat.le_of_lt h1)]
  unfold alE
  rw [List.set_append_right _ _ (by omega), e, Nat.sub_self, show l.length - i = (l.length - (i + 1)) + 1 by omega, List.replicate_succ, List.set_cons_zero, List.take_add_one, h]
  simp [serEls]
theorem alE_all {l : List Sr} {g : Sr → Sr} : alE l g l.length = serEls (l.map g) := by simp [alE]
theorem align_ok (l : List Sr) (hl : l.length ≤ 9223372036854775807) (ho : ∀ s ∈ l, SrOk s) : PCalls Tryz.prog n_series_Align [serL l] (fun r => r = alA (alS l)) := by
  refine pcalls_of_awp hmix c_series_Align rfl ?_
  have hle := serEls_len l
  have kc := containsS_ok (G := G) l hl (fun s => !rightS s) n_series_Align_1 b_series_Align_1 (fun n hn => align1_ok n (ho n hn))
  unfold serL at kc ⊢
  simp [a_series_Align]
  refine ac_same kc (by simp) ?_
  rintro r rfl
  cases hany : l.any fun s => !rightS s with
  | true =>
    have : alS l = ([], 1) := by unfold alS; rw [if_pos hany]
    simp [this, alA, serL, serEls]
  | false =>
    have hR : ∀ s ∈ l, SrR s := fun s hs => right_iff.1 (by have := List.any_eq_false.1 hany s hs; simpa using this)
    by_cases h128 : 128 < l.length
    · have : alS l = ([], 11) := by unfold alS; rw [if_neg (by simp [hany]), if_pos h128]
      have h128' : (128 : Int) < l.length := by omega
      simp [hle, h128, h128', this, alA, serL, serEls]
    have h128' : ¬ (128 : Int) < l.length := by omega
    by_cases hnil : l = []
    · subst hnil
      have : alS [] = ([], 0) := rfl
      simp [this, alA, serL, serEls]
    obtain ⟨s0, hs0⟩ : ∃ s0, l[0]? = some s0 := ⟨_, List.getElem?_eq_getElem (by have := List.length_pos_iff.2 hnil; omega)⟩
    have hpos : 0 < l.length := List.length_pos_iff.2 hnil
    have hse0 := serEls_get hs0
    obtain ⟨hz1, hz2⟩ := List.getElem?_eq_some_iff.1 hse0
    have hne : ¬ (l.length : Int) = 0 := by omega
    have hne' : ¬ l.length = 0 := by omega
    have hne'' : ¬ serEls l = [] := fun h => by rw [h] at hle; simp at hle; omega
    have hgo := alS_go hs0 hany h128
    have hR0 := hR s0 (List.mem_of_getElem? hs0)
    have hs00 := hR0.s0
    have hs01 := hR0.s1
    simp [hle, h128, h128', hne, hne', hne'', hz1, hz2, hpos]
    refine lp_startx (fun x f σ => ∃ (i st : Nat) (a b : Int), x = l.length - i ∧ i ≤ l.length ∧ 1 ≤ st ∧ st ≤ 86400 ∧ (0 < i → a ≤ b) ∧ 0 ≤ a ∧ a ≤ 1099511627776 ∧ 0 ≤ b ∧ b ≤ 1200000000000 ∧ scanS 1 s0.start 0 l = scanS st a b (l.drop i) ∧
      f 0 = .lst (serEls l) ∧ f 4 = .int .i64 st ∧ f 5 = .int .i64 a ∧ f 6 = .int .i64 b ∧ f 27 = .lst (serEls l) ∧ f 28 = .int .i64 l.length ∧ f 29 = .int .i64 i) l.length ?_ ?_
    · exact ⟨0, 1, s0.start, 0, by simp, by simp, by simp, by simp, by simp, hs00, hs01, by simp, by simp, by simp, by simp, by simp, by simp, by simp, by simp, by simp [hle], by simp⟩
    rintro x f σ ⟨i, st, a, b, hx, hi, hst1, hst2, hab, ha0, ha1, hb0, hb1, hsc, f0, f4, f5, f6, f27, f28, f29⟩
    simp [f28, f29]
    refine cb_dec (fun hlt => ?_) (fun hge => ?_)
    · have hlt' : i < l.length := by omega
      have hwi : IntKind.i64.wrap ((i : Int) + 1) = ((i + 1 : Nat) : Int) := by rw [wrap_i64 (by omega) (by omega)]; omega
      obtain ⟨y, hy⟩ : ∃ y, l[i]? = some y := ⟨_, List.getElem?_eq_getElem hlt'⟩
      have hym := List.mem_of_getElem? hy
      have hyR := hR y hym
      have hse := serEls_get hy
      obtain ⟨hx1, hx2⟩ := List.getElem?_eq_some_iff.1 hse
      have hp0 := hyR.p0
      have hp1 := hyR.p1
      have hy0 := hyR.s0
      have hy1 := hyR.s1
      obtain ⟨e1, e2, e3, e4⟩ := end_bd hyR
      have kC := common_ok (G := G) st y.step.toNat (by omega) hst2 (by omega) (by omega)
      rw [Int.toNat_of_nonneg (by omega)] at kC
      have hcp := cm_pos (a := st) (b := y.step.toNat) (by omega) (by omega)
      have kE := send_ok (G := G) y hyR
      rw [srA_eq] at kE
      have hdr : l.drop i = y :: l.drop (i + 1) := by
        obtain ⟨hq1, hq2⟩ := List.getElem?_eq_some_iff.1 hy
        rw [← hq2]; exact List.drop_eq_getElem_cons hq1
      rw [hdr, scanS] at hsc
      obtain ⟨c, hc⟩ : ∃ c, c = cm st y.step.toNat := ⟨_, rfl⟩
      rw [← hc] at hsc kC hcp
      simp [f4, f27, f29, hx1, hx2]
      refine ac_same kC (by simp) ?_
      rintro r rfl
      by_cases hbig : 86400 < c
      · have hbig' : (86400 : Int) < c := by omega
        rw [if_neg (by omega)] at hsc
        rw [hsc] at hgo
        simp [hbig, hbig', hgo, alA, serL, serEls]
      · have hbig' : ¬ (86400 : Int) < c := by omega
        rw [if_pos (by omega)] at hsc
        simp [hbig, hbig', f5, f6, f29, hwi]
        refine qc_same kE (by simp) (by simp) ?_
        simp [f29, hwi]
        refine nx_intro (l.length - (i + 1)) (by omega) ⟨i + 1, c, min a y.start, max b (endS y), rfl, by omega, by omega, by omega, by omega, by omega, by omega, by omega, by omega, hsc, by simp [f0], by simp, by simp; omega, by simp; omega, by simp [f27], by simp [f28], by simp⟩
    · have hil : i = l.length := by omega
      subst hil
      rw [List.drop_length, scanS] at hsc
      rw [hsc] at hgo
      have hab' := hab hpos
      obtain ⟨r1, r2, r3, r4⟩ := round_bd (b := b) (st := st) (by omega) (by omega) hb0 (by omega)
      have hst0 : ¬ (st : Int) = 0 := by omega
      have hst0' : ¬ st = 0 := by omega
      have htm : a.tmod st = a % st := Int.tmod_eq_emod_of_nonneg ha0
      have m0 := Int.emod_nonneg a hst0
      have m1 := Int.emod_lt_of_pos a (show (0 : Int) < st by omega)
      have m2 : a % st ≤ a := by
        obtain ⟨n, hn⟩ := Int.eq_ofNat_of_zero_le ha0
        rw [hn]; have := Nat.mod_le n st; omega
      obtain ⟨q, hq⟩ : ∃ q, q = (b + st - 1) / st := ⟨_, rfl⟩
      have htd : (b + st - 1).tdiv st = q := by rw [hq]; exact Int.tdiv_eq_ediv_of_nonneg (by omega)
      obtain ⟨a', ha'⟩ : ∃ a', a' = a - a % st := ⟨_, rfl⟩
      obtain ⟨b', hb'⟩ : ∃ b', b' = q * st := ⟨_, rfl⟩
      rw [← hq] at r1 r2 r3 r4
      rw [← hb'] at r1 r2
      have w1 : IntKind.i64.wrap (a - a % st) = a' := by rw [ha']; exact wrap_i64 (by omega) (by omega)
      have w2 : IntKind.i64.wrap (b + st) = b + st := wrap_i64 (by omega) (by omega)
      have w3 : IntKind.i64.wrap (b + st - 1) = b + st - 1 := wrap_i64 (by omega) (by omega)
      have w4 : IntKind.i64.wrap q = q := wrap_i64 (by omega) (by omega)
      have w5 : IntKind.i64.wrap (q * st) = b' := by rw [← hb']; exact wrap_i64 (by omega) (by omega)
      have w6 : IntKind.i64.wrap (b' - a') = b' - a' := wrap_i64 (by omega) (by omega)
      obtain ⟨qq, hqq⟩ : ∃ qq, qq = (b' - a') / st := ⟨_, rfl⟩
      have htd2 : (b' - a').tdiv st = qq := by rw [hqq]; exact Int.tdiv_eq_ediv_of_nonneg (by omega)
      have hq0 : 0 ≤ qq := by rw [hqq]; exact Int.ediv_nonneg (by omega) (by omega)
      have hq1 : qq ≤ b' - a' := by rw [hqq]; exact Int.ediv_le_self _ (by omega)
      have w7 : IntKind.i64.wrap qq = qq := wrap_i64 (by omega) (by omega)
      have hspan : qq ≤ 2000 → b' - a' ≤ 1000000000 := by
        intro h
        have e := Int.mul_ediv_add_emod (b' - a') st
        rw [← hqq] at e
        have q1 := Int.emod_lt_of_pos (b' - a') (show (0 : Int) < st by omega)
        have h5 : (st : Int) * qq ≤ 86400 * 2000 := Int.mul_le_mul (by omega) h hq0 (by decide)
        omega
      simp only [← hq, ← ha', ← hb', ← hqq] at hgo
      by_cases h1 : 2000 < qq
      · rw [if_pos (.inl h1)] at hgo
        simp [f4, f5, f6, hst0, hst0', htm, w1, w2, w3, htd, w4, w5, w6, htd2, w7, h1, hgo, alA, serL, serEls]
      by_cases h2 : 1099511714176 < b'
      · rw [if_pos (.inr h2)] at hgo
        simp [f4, f5, f6, hst0, hst0', htm, w1, w2, w3, htd, w4, w5, w6, htd2, w7, h1, h2, hgo, alA, serL, serEls]
      have hsp := hspan (by omega)
      rw [if_neg (by omega)] at hgo
      simp [f0, f4, f5, f6, hst0, hst0', htm, w1, w2, w3, htd, w4, w5, w6, htd2, w7, h1, h2, hle]
      refine ms_intro l.length rfl rfl (by omega) (by omega) (by omega) rfl ?_
      simp [f0, hle]
      obtain ⟨g, hg⟩ : ∃ g, g = alG a' st b' := ⟨_, rfl⟩
      rw [← hg] at hgo
      refine lp_startx (fun x f' σ' => ∃ (i : Nat) (τ : Store), x = l.length - i ∧ i ≤ l.length ∧ f' 4 = .int .i64 st ∧ f' 5 = .int .i64 a' ∧ f' 6 = .int .i64 b' ∧ f' 9 = .row σ.length l.length ∧ f' 74 = .lst (serEls l) ∧ f' 75 = .int .i64 l.length ∧ f' 76 = .int .i64 i ∧
        σ' = σ ++ .row 41 4 (alE l g i) false :: τ) l.length ?_ ?_
      · exact ⟨0, [], by simp, by simp, by simp [f4], by simp, by simp, by simp, by simp [f0], by simp [hle], by simp, by simp [alE, serEls]⟩
      rintro x f' σ' ⟨i, τ, hx', hi', g4, g5, g6, g9, g74, g75, g76, rfl⟩
      have hEl := alE_len (g := g) hi'
      simp [g75, g76]
      refine cb_dec (fun hlt => ?_) (fun hge => ?_)
      · have hlt' : i < l.length := by omega
        have hwi : IntKind.i64.wrap ((i : Int) + 1) = ((i + 1 : Nat) : Int) := by rw [wrap_i64 (by omega) (by omega)]; omega
        obtain ⟨y, hy⟩ : ∃ y, l[i]? = some y := ⟨_, List.getElem?_eq_getElem hlt'⟩
        have hym := List.mem_of_getElem? hy
        have hse := serEls_get hy
        obtain ⟨hx1, hx2⟩ := List.getElem?_eq_some_iff.1 hse
        have hEg := alE_get (g := g) hlt'
        obtain ⟨hy1, hy2⟩ := List.getElem?_eq_some_iff.1 hEg
        have hEs := alE_set (g := g) hy
        have kL := laid_ok (G := G) y (hR y hym) (ho y hym).vs a' b' st 1 (by omega) (by omega) (by omega) (by omega) (by omega)
        rw [srA_eq y] at kL
        simp [g4, g5, g6, g9, g74, g76, hx1, hx2, mid_last, mid_set_last, mid_get, mid_set]
        refine ac_same kL (by simp) ?_
        rintro r rfl
        have hEs' : (alE l g i).set i [.str y.name, .int .i64 a', .int .i64 st, .lst (numEls (slots y a' st 1 (countN a' b' st)))] = alE l g (i + 1) := by rw [← hEs, hg]; rfl
        simp [srA_eq, g76, hEl, hlt', hy1, hy2, hEg, hEs', hwi, mid_last, mid_set_last, mid_get, mid_set]
        refine nx_intro (l.length - (i + 1)) (by omega) ⟨i + 1, τ ++ [.var 41 [.str y.name, .int .i64 y.start, .int .i64 y.step, .lst (numEls y.vals)]], rfl, by omega, by simp [g4], by simp [g5], by simp [g6], by simp [g9], by simp [g74], by simp [g75], by simp, by simp [splice]⟩
      · have hil : i = l.length := by omega
        subst hil
        rw [alE_all]
        have hz := serEls_fz (σ ++ .row 41 4 (serEls (l.map g)) false :: τ) 0 1 (l.map g)
        have hln : (serEls (l.map g)).length = l.length := by simp [serEls]
        simp [g9, g75, fin1_row, fz, mid_get, hz, hln, hgo, alA, serL]
end Go.Proofs.YtdgpnmlialmaaaaGreatDoor
end
section
set_option maxHeartbeats 4000000
namespace Go.Ble
open Go.Num Go.Ser Go.Dec Go.Shp
def percentG (l : List Sr) (s : Sr) : Sr := ⟨percentName s, s.start, s.step, (List.range s.vals.length).map (percentN l s)⟩
theorem percentS_none {a : List Sr} {s : Sr} (h : s ∈ a) (hl : 400 < (percentName s).length) : percentS a = ([], 20) := by
  unfold percentS
  rw [if_pos (List.any_eq_true.2 ⟨s, h, by simpa using hl⟩)]
theorem percentS_some {a : List Sr} (h : ∀ s ∈ a, (percentName s).length ≤ 400) : percentS a = (a.map (percentG a), 0) := by
  unfold percentS
  rw [if_neg (by
    intro hc
    obtain ⟨s, hs, h2⟩ := List.any_eq_true.1 hc
    have := h s hs
    simp at h2; omega)]
  rfl
theorem percentName_eq (s : Sr) : percentName s = 97 :: 115 :: 80 :: 101 :: 114 :: 99 :: 101 :: 110 :: 116 :: 40 :: (s.name ++ [41]) := by simp [percentName, Cw.txt]
theorem oksN_tog {l : List Sr} (h : ∀ s ∈ l, SrOk s) (k : Nat) : oksN (togN l k) := by
  intro n hn
  obtain ⟨s, hs, rfl⟩ := List.mem_map.1 hn
  rw [List.getD_eq_getElem?_getD]
  cases hv : s.vals[k]? with
  | none => exact ⟨by decide, by decide⟩
  | some v => exact (h s hs).vs v (List.mem_of_getElem? hv)
end Go.Ble
namespace Go.Proofs.YtdgpnmlialmaaaaGreatDoor
open Go.Abs Go.Num Go.Ser Go.Dec Go.Shp Go.Ble
variable {G : Globs}
theorem percent1_ok (l : List N) (hok : oksN l) (hl : l.length ≤ 1000000000) : PCalls Tryz.prog n_blend_percent_1 [.lst (numEls l)] (fun r => r = numA (reckon 2 l)) := by
  refine pcalls_of_awp hmix c_blend_percent_1 rfl ?_
  have kR := reckon_ok (G := G) 2 l hok hl
  obtain ⟨z, hz⟩ : ∃ z, z = reckon 2 l := ⟨_, rfl⟩
  rw [← hz, numA_eq] at kR
  rw [← hz]
  simp [a_blend_percent_1]
  refine ac_same kR (by simp) ?_
  rintro r rfl
  simp [splice, numA]
theorem bPercent_ok (s0 : Sr) (l0 : List Sr) (hl : (s0 :: l0).length ≤ 100000) (hv : ∀ s ∈ s0 :: l0, s.vals.length = s0.vals.length) (hn : s0.vals.length ≤ 1000000) (ho : ∀ s ∈ s0 :: l0, SrOk s) (hnm : ∀ s ∈ s0 :: l0, s.name.length ≤ 100000) :
    PCalls Tryz.prog n_blend_percent [serL (s0 :: l0)] (fun r => r = alA (percentS (s0 :: l0))) := by
  refine pcalls_of_awp hmix c_blend_percent rfl ?_
  have kT := bTogether_ok (G := G) [] s0 l0 (by simp at hl; omega) hv hn (reckon 2) n_blend_percent_1 b_blend_percent_1 [] [] [] (fun _ => .nil) (fun k hk => percent1_ok _ (oksN_tog ho k) (by rw [togN_len]; omega))
  obtain ⟨L, hL⟩ : ∃ L, L = s0 :: l0 := ⟨_, rfl⟩
  have hL0 : L ≠ [] := by rw [hL]; simp
  obtain ⟨n, hnn⟩ : ∃ n, n = s0.vals.length := ⟨_, rfl⟩
  have hG : oneG [] (reckon 2) L = ⟨[], s0.start, s0.step, (List.range n).map fun k => reckon 2 (togN L k)⟩ := by rw [hL, hnn]; rfl
  rw [← hL] at hl hv ho hnm kT ⊢
  rw [← hnn] at hv hn
  rw [hG, srA_eq] at kT
  obtain ⟨S, hS⟩ : ∃ S, S = (List.range n).map fun k => reckon 2 (togN L k) := ⟨_, rfl⟩
  rw [← hS] at kT
  have hSl : S.length = n := by rw [hS]; simp
  have hSe := numEls_len S
  have hle := serEls_len L
  obtain ⟨R, hR⟩ : ∃ R, R = percentS L := ⟨_, rfl⟩
  rw [← hR]
  unfold serL at kT ⊢
  simp [a_blend_percent]
  refine ac_eff kT ?_
  rintro r σ' ⟨rfl, rfl⟩
  obtain ⟨v4, hv4⟩ : ∃ v4, v4 = Entry.var 41 [.str [], .int .i64 s0.start, .int .i64 s0.step, .lst (numEls S)] := ⟨_, rfl⟩
  simp [hle, splice]
  rw [← hv4]
  refine lp_startx (fun x f σ => ∃ (i : Nat) (V : AV) (τ : Store), x = L.length - i ∧ i ≤ L.length ∧ f 4 = .ptr 0 0 ∧ f 5 = V ∧ f 13 = .lst (serEls L) ∧ f 14 = .int .i64 L.length ∧ f 15 = .int .i64 i ∧ (∀ s ∈ L.take i, (percentName s).length ≤ 400) ∧
    AccT 41 4 1 τ V (serEls ((L.take i).map (percentG L))) ∧ σ = v4 :: τ) L.length ?_ ?_
  · exact ⟨0, .nils, [], by simp, by simp, by simp, by simp, by simp, by simp, by simp, by simp, accT_nil, rfl⟩
  rintro x f σ ⟨i, V, τ, hx, hi, f4, f5, f13, f14, f15, hnl, hacc, rfl⟩
  simp [f14, f15]
  refine cb_dec (fun hlt => ?_) (fun hge => ?_)
  · have hlti : i < L.length := by omega
    have hwi : IntKind.i64.wrap ((i : Int) + 1) = ((i + 1 : Nat) : Int) := by rw [wrap_i64 (by omega) (by omega)]; omega
    obtain ⟨y, hy⟩ : ∃ y, L[i]? = some y := ⟨_, List.getElem?_eq_getElem hlti⟩
    have hym := List.mem_of_getElem? hy
    have hse := serEls_get hy
    obtain ⟨hx1, hx2⟩ := List.getElem?_eq_some_iff.1 hse
    have hyn := hnm y hym
    have hyv := hv y hym
    have hpn := percentName_eq y
    obtain ⟨P, hP⟩ : ∃ P, P = v4 :: τ := ⟨_, rfl⟩
    have hP0 : ∀ t, (P ++ t)[0]? = some v4 := fun t => by rw [hP]; rfl
    have hPs : ∀ t : Store, v4 :: (τ ++ t) = P ++ t := fun t => by rw [hP]; rfl
    have hyl := numEls_len y.vals
    rw [← hP]
    simp [f13, f15, hse, hx1, hx2, tail_get, tail_set, splice]
    refine ob_if (by omega) ?_
    simp
    refine ob_if (by omega) ?_
    simp [pre_get0, pre_get1, pre_set0, pre_set1, splice]
    have hpl : (percentName y).length = y.name.length + 11 := by rw [hpn]; simp
    rw [← hpn]
    obtain ⟨pn, hpne⟩ : ∃ pn, pn = percentName y := ⟨_, rfl⟩
    rw [← hpne] at hpl ⊢
    refine cb_dec (fun hbig => ?_) (fun hsm => ?_)
    · have hz : R = ([], 20) := by rw [hR]; exact percentS_none hym (by rw [← hpne]; omega)
      simp [hz, alA, serL, serEls]
    · have hsm' : pn.length ≤ 400 := by omega
      simp [pre_get0, pre_get1, pre_set0, pre_set1, splice, hyl]
      refine lp_startx (fun x f σ => ∃ (k : Nat) (W : AV) (τ2 : Store), x = n - k ∧ k ≤ n ∧ f 4 = .ptr 0 0 ∧ f 5 = V ∧ f 7 = .ptr P.length 0 ∧ f 8 = .ptr (P.length + 1) 0 ∧ f 13 = .lst (serEls L) ∧ f 14 = .int .i64 L.length ∧ f 15 = .int .i64 i ∧ f 33 = .lst (numEls y.vals) ∧ f 34 = .int .i64 n ∧ f 35 = .int .i64 k ∧
        AccT 35 2 (P.length + 2) τ2 W (numEls ((List.range k).map (percentN L y))) ∧ σ = P ++ .var 41 [.str y.name, .int .i64 y.start, .int .i64 y.step, .lst (numEls y.vals)] :: .var 41 [.str pn, .int .i64 y.start, .int .i64 y.step, W] :: τ2) n ?_ ?_
      · exact ⟨0, .nils, [], by simp, by simp, by simp [f4], by simp [f5], by simp, by simp, by simp [f13], by simp [f14], by simp [f15], by simp, by simp [hyv], by simp, accT_nil, by simp⟩
      rintro x f σ ⟨k, W, τ2, hx, hk, g4, g5, g7, g8, g13, g14, g15, g33, g34, g35, hacc2, rfl⟩
      simp [g34, g35]
      refine cb_dec (fun hlt => ?_) (fun hge => ?_)
      · have hlt' : k < n := by omega
        have hwk : IntKind.i64.wrap ((k : Int) + 1) = ((k + 1 : Nat) : Int) := by rw [wrap_i64 (by omega) (by omega)]; omega
        obtain ⟨v, hvv⟩ : ∃ v, y.vals[k]? = some v := ⟨_, List.getElem?_eq_getElem (by omega)⟩
        have hvg := numEls_get hvv
        obtain ⟨hv1, hv2⟩ := List.getElem?_eq_some_iff.1 hvg
        have hgd : y.vals.getD k nothing = v := by rw [List.getD_eq_getElem?_getD, hvv]; rfl
        have hvo := (ho y hym).vs v (List.mem_of_getElem? hvv)
        obtain ⟨u, hu⟩ : ∃ u, u = reckon 2 (togN L k) := ⟨_, rfl⟩
        have huo : okN u := by rw [hu]; exact reckon_oks 2 (oksN_tog ho k)
        have hSk : S[k]? = some u := by rw [hS, hu]; simp [hlt']
        have hSg := numEls_get hSk
        obtain ⟨hu1, hu2⟩ := List.getElem?_eq_some_iff.1 hSg
        have kD := fDiv_ok (G := G) v u hvo huo
        have kI := fInt_ok (G := G) 100 (by decide) (by decide)
        have eI : tell (100 * 1000000) = tell 100000000 := by decide
        rw [eI] at kI
        obtain ⟨d, hd⟩ : ∃ d, d = divN v u := ⟨_, rfl⟩
        obtain ⟨h, hh⟩ : ∃ h, h = tell 100000000 := ⟨_, rfl⟩
        have kM := fMul_ok (G := G) d h (by rw [hd]; exact ok_div _ _) (by rw [hh]; exact ok_tell _)
        obtain ⟨m, hm⟩ : ∃ m, m = mulN d h := ⟨_, rfl⟩
        have hpk : percentN L y k = m := by unfold percentN; rw [hgd, ← hu, ← hd, ← hh, hm]
        rw [← hd, numA_eq v, numA_eq u, numA_eq d] at kD
        rw [← hh, numA_eq h] at kI
        rw [← hm, numA_eq d, numA_eq h, numA_eq m] at kM
        have hWl : (numEls ((List.range k).map (percentN L y))).length = k := by rw [numEls_len]; simp
        simp [g4, g8, g33, g35, hvg, hv1, hv2, pre_get0, pre_get1, pre_set0, pre_set1, pre2_get, pre2_set, hP0, hv4, hSe, hSg, hu1, hu2]
        refine qc_same kD (by simp) (by simp [rig]) ?_
        simp
        refine qc_same kI (by simp) (by simp [rig]) ?_
        simp
        refine qc_same kM (by simp) (by simp [rig]) ?_
        simp
        refine ap_acc2 (bytes := 16) (hacc2.more [_]) [.bool m.1, .int .i64 m.2] (by decide) rfl (by rw [hWl]; omega) (by rw [hWl]; omega) fun W' τ3 hacc3 hlen => ?_
        obtain ⟨c1, c2, c3⟩ := hacc3.pos
        have hr : numEls ((List.range k).map (percentN L y)) ++ [[.bool m.1, .int .i64 m.2]] = numEls ((List.range (k + 1)).map (percentN L y)) := by rw [List.range_succ, List.map_append, List.map_singleton, hpk, ← numEls_app1]
        rw [hr] at hacc3
        simp [g8, g35, pre_get0, pre_get1, pre_set0, pre_set1, splice, hwk, c1, c2]
        exact nx_intro (n - (k + 1)) (by omega) ⟨k + 1, W', τ3, rfl, by omega, by simp [g4], by simp [g5], by simp [g7], by simp [g8], by simp [g13], by simp [g14], by simp [g15], by simp [g33], by simp [g34], by simp, hacc3, rfl⟩
      · have hkn : k = n := by omega
        obtain ⟨c1, c2, c3⟩ := hacc2.pos
        have hsh := fun a b => hacc2.share2 (a := a) (b := b)
        have hpg : srC (percentG L y) = [.str pn, .int .i64 y.start, .int .i64 y.step, .lst (numEls ((List.range k).map (percentN L y)))] := by
          rw [hpne, hkn, ← hyv]; rfl
        have hVl : (serEls ((L.take i).map (percentG L))).length = i := by rw [serEls_len, List.length_map, List.length_take]; omega
        simp [g5, g8, pre_get0, pre_get1, pre_set0, pre_set1, splice, c1, c2, hsh, -share1, share1_str, share1_int]
        have e3 : ∀ t : Store, P ++ t = [v4] ++ (τ ++ t) := fun t => by rw [hP]; simp
        rw [e3]
        refine ap_accT (size := 4) (bytes := 56) (σ := [v4]) (hacc.more _) [.str pn, .int .i64 y.start, .int .i64 y.step, .lst (numEls ((List.range k).map (percentN L y)))] (by decide) rfl (by rw [hVl]; omega) (by rw [hVl]; omega) fun V' τ3 hacc3 hlen hkeep => ?_
        have hst : serEls ((L.take i).map (percentG L)) ++ [srC (percentG L y)] = serEls ((L.take (i + 1)).map (percentG L)) := by rw [List.take_add_one, hy]; simp [serEls]
        rw [← hpg, hst] at hacc3
        simp [g15, hwi]
        refine nx_intro (L.length - (i + 1)) (by omega) ⟨i + 1, V', τ3, rfl, by omega, by simp [g4], by simp, by simp [g13], by simp [g14], by simp, fun s hs => ?_, by simpa using hacc3, rfl⟩
        rw [List.take_add_one, hy] at hs
        rcases List.mem_append.1 hs with hs | hs
        · exact hnl s hs
        · simp at hs; subst hs; rw [← hpne]; exact hsm'
  · have hil : i = L.length := by omega
    subst hil
    rw [List.take_length] at hacc hnl
    have hf1 : ∀ m, Abs.fin1 (v4 :: τ) m V = _ := fun m => AccT.fin1 (σ := [v4]) (τ := τ) hacc m
    have hf2 : ∀ m, Abs.finT (v4 :: τ) m V = _ := fun m => AccT.finT (σ := [v4]) (τ := τ) hacc m
    have hz : R = (L.map (percentG L), 0) := by rw [hR]; exact percentS_some hnl
    simp [f5, hf1, hf2, hz, alA, serL]
end Go.Proofs.YtdgpnmlialmaaaaGreatDoor
end
section
set_option maxHeartbeats 4000000
namespace Go.Ble
open Go.Num Go.Ser Go.Dec Go.Shp Go.Abs
theorem keysS_snoc (n : Nat) (s : Sr) : ∀ (l : List Sr) (ks : List (List UInt8)), keysS n (l ++ [s]) ks = if pieceS s.name n ∈ keysS n l ks then keysS n l ks else keysS n l ks ++ [pieceS s.name n]
  | [], ks => rfl
  | a :: l, ks => by rw [List.cons_append, keysS, keysS_snoc n s l, keysS]
theorem keysS_nodup (n : Nat) : ∀ (l : List Sr) (ks : List (List UInt8)), ks.Nodup → (keysS n l ks).Nodup
  | [], _, h => h
  | a :: l, ks, h => by
    rw [keysS]
    refine keysS_nodup n l _ ?_
    split
    · exact h
    · rename_i hn
      refine List.nodup_append.2 ⟨h, by simp, fun x hx y hy => ?_⟩
      simp at hy; subst hy
      exact fun e => hn (e ▸ hx)
theorem keysS_len (n : Nat) : ∀ (l : List Sr) (ks : List (List UInt8)), (keysS n l ks).length ≤ ks.length + l.length
  | [], _ => by simp [keysS]
  | a :: l, ks => by
    have := keysS_len n l (if pieceS a.name n ∈ ks then ks else ks ++ [pieceS a.name n])
    rw [keysS]
    refine Nat.le_trans this ?_
    split <;> simp <;> omega
def partG (n : Nat) (l : List Sr) (k : List UInt8) : List Sr := l.filter fun s => decide (pieceS s.name n = k)
theorem partG_snoc (n : Nat) (l : List Sr) (s : Sr) (k : List UInt8) : partG n (l ++ [s]) k = if pieceS s.name n = k then partG n l k ++ [s] else partG n l k := by
  unfold partG
  rw [List.filter_append]
  split
  · rename_i h; simp [h]
  · rename_i h; simp [h]
theorem partG_none (n : Nat) : ∀ (l : List Sr) (ks : List (List UInt8)) (k : List UInt8), k ∉ keysS n l ks → partG n l k = []
  | [], _, _, _ => rfl
  | a :: l, ks, k, h => by
    rw [keysS] at h
    have h2 := partG_none n l _ k h
    have hk : pieceS a.name n ≠ k := by
      intro e
      have hsub : ∀ (l : List Sr) (ks : List (List UInt8)) (x : List UInt8), x ∈ ks → x ∈ keysS n l ks := by
        intro l
        induction l with
        | nil => intro ks x hx; exact hx
        | cons b l ih =>
          intro ks x hx
          rw [keysS]
          refine ih _ _ ?_
          split
          · exact hx
          · simp [hx]
      refine h (hsub _ _ _ ?_)
      split
      · rename_i hm; rw [← e]; exact hm
      · simp [e]
    unfold partG at h2 ⊢
    rw [List.filter_cons_of_neg (by simpa using hk), h2]
theorem partG_len (n : Nat) (l : List Sr) (k : List UInt8) : (partG n l k).length ≤ l.length := List.length_filter_le _ _
theorem partG_mem {n : Nat} {l : List Sr} {k : List UInt8} {s : Sr} (h : s ∈ partG n l k) : s ∈ l := (List.mem_filter.1 h).1
end Go.Ble
namespace Go.Proofs.YtdgpnmlialmaaaaGreatDoor
open Go.Abs Go.Num Go.Ser Go.Dec Go.Shp Go.Ble
def kvG (lo n : Nat) (l : List Sr) (q : List UInt8 → Nat) : List (AV × AV) := (keysS n l []).map fun k => (.str k, .row (lo + q k) (partG n l k).length)
/-- The map's rows in the store behind lo entries; which piece, at which place. -/
structure GS (te ts lo n : Nat) (l : List Sr) (KV : AV) (q : List UInt8 → Nat) (τ : Store) : Prop where
  keys : AccT te 1 lo τ KV (txts (keysS n l []))
  rows : ∀ k ∈ keysS n l [], τ[q k]? = some (.row ts 4 (serEls (partG n l k)) true)
  inj : ∀ k ∈ keysS n l [], ∀ k' ∈ keysS n l [], q k = q k' → k = k'
  und : ∀ e ∈ τ, ∀ m, e.under m = true
theorem find_map {F : List UInt8 → AV} {k : List UInt8} : ∀ (ks : List (List UInt8)) (i : Nat), mapFind 1 (.str k) (ks.map fun x => (AV.str x, F x)) i = some (if k ∈ ks then some (i + ks.idxOf k, F k) else none)
  | [], i => rfl
  | x :: ks, i => by
    rw [List.map_cons, mapFind]
    by_cases h : k = x
    · subst h
      simp [eq1]
    · have h' : ¬ x = k := fun e => h e.symm
      simp only [eq1, decide_eq_false h]
      rw [find_map ks (i + 1), List.idxOf_cons]
      by_cases hm : k ∈ ks
      · rw [if_pos hm, if_pos (List.mem_cons_of_mem _ hm)]
        have hb : (x == k) = false := by simpa using h'
        simp [hb, Nat.add_assoc, Nat.add_comm 1]
      · rw [if_neg hm, if_neg (by simp [h, hm])]
theorem set_map {F F' : List UInt8 → AV × AV} {k : List UInt8} : ∀ {ks : List (List UInt8)}, k ∈ ks → ks.Nodup → (∀ x ∈ ks, x ≠ k → F' x = F x) → (ks.map F).set (ks.idxOf k) (F' k) = ks.map F'
  | [], h, _, _ => by simp at h
  | x :: ks, h, hn, he => by
    obtain ⟨h1, h2⟩ := List.nodup_cons.1 hn
    rw [List.idxOf_cons]
    by_cases hx : x = k
    · subst hx
      simp only [beq_self_eq_true, cond_true, List.map_cons, List.set_cons_zero]
      rw [List.map_congr_left fun y hy => (he y (by simp [hy]) (fun e => h1 (e ▸ hy))).symm]
    · have hb : (x == k) = false := by simpa using hx
      rw [hb]
      have hm : k ∈ ks := by
        rcases List.mem_cons.1 h with e | h
        · exact absurd e.symm hx
        · exact h
      simp only [cond_false, List.map_cons, List.set_cons_succ]
      rw [set_map hm h2 fun y hy => he y (by simp [hy]), he x (by simp) hx]
theorem ser_under (l : List Sr) (te m : Nat) (b : Bool) : (Entry.row te 4 (serEls l) b).under m = true := by
  simp only [Entry.under, List.all_eq_true]
  intro c hc
  obtain ⟨s, _, rfl⟩ := List.mem_map.1 hc
  simp [srC, AV.under]
theorem txts_under (l : List (List UInt8)) (te m : Nat) (b : Bool) : (Entry.row te 1 (txts l) b).under m = true := by
  simp only [Entry.under, List.all_eq_true]
  intro c hc
  obtain ⟨s, _, rfl⟩ := List.mem_map.1 hc
  simp [AV.under]
variable {te ts lo n : Nat} {l : List Sr} {KV : AV} {q : List UInt8 → Nat} {τ : Store}
theorem GS.nil : GS te ts lo n [] .nils q [] := ⟨accT_nil, fun k hk => by simp [keysS] at hk, fun k hk => by simp [keysS] at hk, fun e he => by simp at he⟩
theorem GS.more (h : GS te ts lo n l KV q τ) (x : Entry) (hx : ∀ m, x.under m = true) : GS te ts lo n l KV q (τ ++ [x]) :=
  ⟨h.keys.more _, fun k hk => by rw [List.getElem?_append_left (List.getElem?_eq_some_iff.1 (h.rows k hk)).1]; exact h.rows k hk, h.inj, fun e he => by
    rcases List.mem_append.1 he with he | he
    · exact h.und e he
    · simp at he; subst he; exact hx⟩
theorem GS.old (h : GS te ts lo n l KV q τ) (hne : te ≠ ts) (s : Sr) (hk : pieceS s.name n ∈ keysS n l []) :
    GS te ts lo n (l ++ [s]) KV q (τ.set (q (pieceS s.name n)) (.row ts 4 (serEls (partG n l (pieceS s.name n)) ++ [srC s]) true)) := by
  have hr := h.rows _ hk
  have hlt := (List.getElem?_eq_some_iff.1 hr).1
  have hks : keysS n (l ++ [s]) [] = keysS n l [] := by rw [keysS_snoc, if_pos hk]
  have hrow : ∀ k ∈ keysS n l [], (τ.set (q (pieceS s.name n)) (Entry.row ts 4 (serEls (partG n l (pieceS s.name n)) ++ [srC s]) true))[q k]? = some (.row ts 4 (serEls (partG n (l ++ [s]) k)) true) := by
    intro k hkm
    rw [partG_snoc]
    by_cases e : pieceS s.name n = k
    · subst e
      rw [if_pos rfl, List.getElem?_set_self hlt]
      simp [serEls]
    · rw [if_neg e, List.getElem?_set_ne fun e' => e (h.inj _ hk _ hkm e')]
      exact h.rows k hkm
  refine ⟨?_, by rw [hks]; exact hrow, by rw [hks]; exact h.inj, fun e he => ?_⟩
  · rw [hks]
    rcases h.keys with h1 | ⟨h1, p, h2, h3⟩
    · exact .inl h1
    · refine .inr ⟨h1, p, h2, ?_⟩
      rw [List.getElem?_set_ne fun e => by
        rw [e, h3] at hr
        simp only [Option.some.injEq, Entry.row.injEq] at hr
        exact hne hr.1]
      exact h3
  · rcases List.mem_or_eq_of_mem_set he with he | rfl
    · exact h.und e he
    · intro m
      have := ser_under (partG n l (pieceS s.name n) ++ [s]) ts m true
      simpa [serEls] using this
theorem kvG_old (h : GS te ts lo n l KV q τ) (s : Sr) (hk : pieceS s.name n ∈ keysS n l []) :
    mapPut 1 (.str (pieceS s.name n)) (.row (lo + q (pieceS s.name n)) ((partG n l (pieceS s.name n)).length + 1)) (kvG lo n l q) = some (kvG lo n (l ++ [s]) q) := by
  unfold mapPut kvG
  rw [find_map, if_pos hk]
  have hks : keysS n (l ++ [s]) [] = keysS n l [] := by rw [keysS_snoc, if_pos hk]
  rw [hks]
  simp only [Option.map_some, Option.some.injEq, Nat.zero_add]
  have := set_map (F := fun k => (AV.str k, AV.row (lo + q k) (partG n l k).length)) (F' := fun k => (AV.str k, AV.row (lo + q k) (partG n (l ++ [s]) k).length)) hk (keysS_nodup n l [] (by simp)) (fun x hx hne => by
    rw [partG_snoc, if_neg fun e => hne e.symm])
  rw [← this, partG_snoc, if_pos rfl]
  simp
theorem GS.new (h : GS te ts lo n l KV q τ) (s : Sr) (hk : pieceS s.name n ∉ keysS n l []) {KV' : AV} {τ' : Store} (h1 : AccT te 1 lo τ' KV' (txts (keysS n l []) ++ [[.str (pieceS s.name n)]]))
    (h2 : ∀ (p : Nat) (en : Entry), τ[p]? = some en → KV ≠ .row (lo + p) (txts (keysS n l [])).length → τ'[p]? = some en) (h3 : ∀ en ∈ τ', en ∈ τ ∨ en = .row te 1 (txts (keysS n l []) ++ [[.str (pieceS s.name n)]]) true) (hne : te ≠ ts) :
    GS te ts lo n (l ++ [s]) KV' (fun k => if k = pieceS s.name n then τ'.length else q k) (τ' ++ [.row ts 4 [srC s] true]) := by
  have hks : keysS n (l ++ [s]) [] = keysS n l [] ++ [pieceS s.name n] := by rw [keysS_snoc, if_neg hk]
  have hold : ∀ k ∈ keysS n l [], τ'[q k]? = some (.row ts 4 (serEls (partG n l k)) true) := fun k hkm => h2 _ _ (h.rows k hkm) fun e => by
    rcases h.keys with ⟨_, h1⟩ | ⟨_, p, h1, h3⟩
    · rw [h1] at e; cases e
    · rw [h1] at e
      simp only [AV.row.injEq, Nat.add_left_cancel_iff] at e
      have hr := h.rows k hkm
      rw [← e.1, h3] at hr
      simp only [Option.some.injEq, Entry.row.injEq] at hr
      exact hne hr.1
  have hkne : ∀ k ∈ keysS n l [], k ≠ pieceS s.name n := fun k hkm e => hk (e ▸ hkm)
  refine ⟨?_, ?_, ?_, ?_⟩
  · rw [hks]
    have : txts (keysS n l [] ++ [pieceS s.name n]) = txts (keysS n l []) ++ [[.str (pieceS s.name n)]] := by simp [txts]
    rw [this]
    exact h1.more _
  · rw [hks]
    intro k hkm
    rcases List.mem_append.1 hkm with hkm | hkm
    · rw [if_neg (hkne k hkm), partG_snoc, if_neg fun e => hkne k hkm e.symm, List.getElem?_append_left (List.getElem?_eq_some_iff.1 (hold k hkm)).1]
      exact hold k hkm
    · simp at hkm; subst hkm
      rw [if_pos rfl, partG_snoc, if_pos rfl, partG_none n l [] _ hk]
      simp [serEls]
  · rw [hks]
    have hlt : ∀ k ∈ keysS n l [], q k < τ'.length := fun k hkm => (List.getElem?_eq_some_iff.1 (hold k hkm)).1
    intro k hkm k' hkm' e
    rcases List.mem_append.1 hkm with hkm | hkm <;> rcases List.mem_append.1 hkm' with hkm' | hkm'
    · rw [if_neg (hkne k hkm), if_neg (hkne k' hkm')] at e
      exact h.inj k hkm k' hkm' e
    · simp at hkm'; subst hkm'
      rw [if_neg (hkne k hkm), if_pos rfl] at e
      have := hlt k hkm; omega
    · simp at hkm; subst hkm
      rw [if_neg (hkne k' hkm'), if_pos rfl] at e
      have := hlt k' hkm'; omega
    · simp at hkm hkm'; rw [hkm, hkm']
  · intro e he
    rcases List.mem_append.1 he with he | he
    · rcases h3 e he with he | rfl
      · exact h.und e he
      · intro m
        have := txts_under (keysS n l [] ++ [pieceS s.name n]) te m true
        simpa [txts] using this
    · simp at he; subst he
      exact fun m => ser_under [s] ts m true
theorem kvG_new (h : GS te ts lo n l KV q τ) (s : Sr) (hk : pieceS s.name n ∉ keysS n l []) (p : Nat) :
    mapPut 1 (.str (pieceS s.name n)) (.row (lo + p) 1) (kvG lo n l q) = some (kvG lo n (l ++ [s]) fun k => if k = pieceS s.name n then p else q k) := by
  unfold mapPut kvG
  rw [find_map, if_neg hk]
  have hks : keysS n (l ++ [s]) [] = keysS n l [] ++ [pieceS s.name n] := by rw [keysS_snoc, if_neg hk]
  rw [hks, List.map_append]
  simp only [Option.map_some, Option.some.injEq, List.map_singleton, if_true]
  rw [partG_snoc, if_pos rfl, partG_none n l [] _ hk]
  congr 1
  refine List.map_congr_left fun k hkm => ?_
  have hne : k ≠ pieceS s.name n := fun e => hk (e ▸ hkm)
  rw [if_neg hne, partG_snoc, if_neg fun e => hne e.symm]
theorem kvG_find (k : List UInt8) : mapFind 1 (.str k) (kvG lo n l q) 0 = some (if k ∈ keysS n l [] then some ((keysS n l []).idxOf k, .row (lo + q k) (partG n l k).length) else none) := by
  unfold kvG
  rw [find_map, Nat.zero_add]
end Go.Proofs.YtdgpnmlialmaaaaGreatDoor
end
section
set_option maxHeartbeats 4000000
namespace Go.Proofs.YtdgpnmlialmaaaaGreatDoor
open Go.Abs Go.Num Go.Ser Go.Dec Go.Shp Go.Ble
variable {G : Globs}
theorem take_snoc {α : Type} {l : List α} {i : Nat} {y : α} (h : l[i]? = some y) : l.take (i + 1) = l.take i ++ [y] := by rw [List.take_add_one, h]; rfl
theorem bGroups_ok [GMaxL] (σ : Store) (n : Nat) (hn : n ≤ 9223372036854775807) (l : List Sr) (hl : l.length ≤ 100000) (hnm : ∀ s ∈ l, s.name.length ≤ 1000000) :
    ACalls Tryz.prog n_blend_groups [serL l, .int .i64 n] σ (fun r σ' => ∃ KV q τ, r = .tup [KV, .map σ.length] ∧ GS 9 41 (σ.length + 1) n l KV q τ ∧ σ' = σ ++ .mp (kvG (σ.length + 1) n l q) :: τ) := by
  refine acalls_of_awp_e hmix c_blend_groups rfl ?_
  have hle := serEls_len l
  unfold serL
  simp [a_blend_groups, hle]
  refine lp_startx (fun x f σ' => ∃ (i : Nat) (KV : AV) (q : List UInt8 → Nat) (τ : Store), x = l.length - i ∧ i ≤ l.length ∧ f 1 = .int .i64 n ∧ f 4 = KV ∧ f 5 = .map σ.length ∧ f 12 = .lst (serEls l) ∧ f 13 = .int .i64 l.length ∧ f 14 = .int .i64 i ∧
    GS 9 41 (σ.length + 1) n (l.take i) KV q τ ∧ σ' = σ ++ .mp (kvG (σ.length + 1) n (l.take i) q) :: τ) l.length ?_ ?_
  · exact ⟨0, .nils, fun _ => 0, [], by simp, by simp, by simp, by simp, by simp, by simp, by simp, by simp, GS.nil, by simp [kvG, keysS]⟩
  rintro x f σ' ⟨i, KV, q, τ, hx, hi, f1, f4, f5, f12, f13, f14, hgs, rfl⟩
  simp [f13, f14]
  refine cb_dec (fun hlt => ?_) (fun hge => ?_)
  · have hlti : i < l.length := by omega
    have hwi : IntKind.i64.wrap ((i : Int) + 1) = ((i + 1 : Nat) : Int) := by rw [wrap_i64 (by omega) (by omega)]; omega
    obtain ⟨y, hy⟩ : ∃ y, l[i]? = some y := ⟨_, List.getElem?_eq_getElem hlti⟩
    have hym := List.mem_of_getElem? hy
    have hse := serEls_get hy
    obtain ⟨hx1, hx2⟩ := List.getElem?_eq_some_iff.1 hse
    have hts := take_snoc hy
    have kP := bPiece_ok (G := G) y.name (hnm y hym) n hn
    have hfind := kvG_find (lo := σ.length + 1) (n := n) (l := l.take i) (q := q) (pieceS y.name n)
    have hgs1 := hgs.more (.var 41 [.str y.name, .int .i64 y.start, .int .i64 y.step, .lst (numEls y.vals)]) (fun m => by simp [Entry.under, AV.under])
    have hold := fun h => kvG_old hgs1 y h
    have hnew := fun h p => kvG_new hgs1 y h p
    have hgo := fun h => hgs1.old (by decide) y h
    have hpl : (partG n (l.take i) (pieceS y.name n)).length ≤ 100000 := by
      have := partG_len n (l.take i) (pieceS y.name n)
      rw [List.length_take] at this; omega
    have hkl : (keysS n (l.take i) []).length ≤ 100000 := by
      have := keysS_len n (l.take i) []
      rw [List.length_take] at this; simp at this; omega
    rw [← hts] at hold hgo
    obtain ⟨kv, hkv⟩ : ∃ kv, kv = kvG (σ.length + 1) n (l.take i) q := ⟨_, rfl⟩
    rw [← hkv] at hfind hold hnew ⊢
    obtain ⟨k, hk⟩ : ∃ k, k = pieceS y.name n := ⟨_, rfl⟩
    rw [← hk] at kP hfind hold hnew hgo hpl
    simp [f1, f12, f14, hse, hx1, hx2, pre_get0, pre_set0, pre1_get, pre1_set, splice]
    refine ac_same kP (by simp) ?_
    rintro r rfl
    by_cases hm : k ∈ keysS n (l.take i) []
    · rw [if_pos hm] at hfind
      obtain ⟨j, hj⟩ : ∃ j, j = (keysS n (l.take i) []).idxOf k := ⟨_, rfl⟩
      rw [← hj] at hfind
      have hrw := hgs1.rows k hm
      have hold' := hold hm
      have hgo' := hgo hm
      have hplen := serEls_len (partG n (l.take i) k)
      obtain ⟨Pt, hPt⟩ : ∃ Pt, Pt = partG n (l.take i) k := ⟨_, rfl⟩
      rw [← hPt] at hfind hrw hold' hgo' hpl hplen
      simp [f4, f5, hfind, pre_get0, pre_set0, pre1_get, pre1_set, splice, -mapPut]
      refine ap_row (serEls Pt) [[.str y.name, .int .i64 y.start, .int .i64 y.step, .lst (numEls y.vals)]] true (by rw [pre1_at]; exact hrw) rfl (by decide) (by simp) (fun _ => .inl rfl) hplen (by simp; omega) (by simp; omega) ?_
      rw [pre1_setat]
      simp [f14, hwi, pre_get0, pre_set0, hold', -mapPut]
      exact nx_intro (l.length - (i + 1)) (by omega) ⟨i + 1, KV, q, _, rfl, by omega, by simp [f1], by simp [f4], by simp [f5], by simp [f12], by simp [f13], by simp, hgo', rfl⟩
    · rw [if_neg hm] at hfind
      have hacc := hgs1.keys
      have hkl' : (txts (keysS n (l.take i) [])).length ≤ 100000 := by rw [txts_len]; exact hkl
      simp [f4, f5, hfind, pre_get0, pre_set0, pre1_get, pre1_set, splice, -mapPut]
      have e1 : σ ++ Entry.mp kv :: (τ ++ [.var 41 [.str y.name, .int .i64 y.start, .int .i64 y.step, .lst (numEls y.vals)]]) = (σ ++ [.mp kv]) ++ (τ ++ [.var 41 [.str y.name, .int .i64 y.start, .int .i64 y.step, .lst (numEls y.vals)]]) := by simp
      rw [e1]
      refine ap_accG (bytes := 16) (accT1 hacc) [.str k] (by decide) rfl (by omega) (by omega) fun KV' τ' h1 hlen h2 h3 => ?_
      have hgn := hgs1.new y (by rw [← hk]; exact hm) (KV' := KV') (τ' := τ') (by rw [← hk]; simpa using h1) (fun p en hp hne => h2 p en hp (by simpa using hne)) (by rw [← hk]; exact h3) (by decide)
      have hnw := hnew hm τ'.length
      rw [← hts, ← hk] at hgn
      rw [← hts] at hnw
      rw [app1]
      have hkeepv : (σ ++ Entry.mp kv :: τ')[σ.length + (τ.length + 1)]? = some (.var 41 [.str y.name, .int .i64 y.start, .int .i64 y.step, .lst (numEls y.vals)]) := by
        have h4 := h2 τ.length (.var 41 [.str y.name, .int .i64 y.start, .int .i64 y.step, .lst (numEls y.vals)]) (by simp) (fun e => by
          rcases hacc with ⟨_, h1⟩ | ⟨_, p, h1, h3⟩
          · rw [h1] at e; cases e
          · rw [h1] at e
            simp only [AV.row.injEq, List.length_append, List.length_singleton] at e
            have : p = τ.length := by omega
            rw [this] at h3; simp at h3)
        rw [show σ.length + (τ.length + 1) = σ.length + 1 + τ.length by omega, pre1_at]
        exact h4
      simp [f5, hfind, pre_get0, pre_set0, hkeepv, -mapPut]
      refine ap_new true [[.str y.name, .int .i64 y.start, .int .i64 y.step, .lst (numEls y.vals)]] rfl (by decide) (by simp) (fun _ => .inl rfl) (by simp) (by simp) ?_
      have hlr : (σ ++ Entry.mp kv :: τ').length = σ.length + 1 + τ'.length := by simp; omega
      rw [hlr]
      simp [f14, hwi, pre_get0, pre_set0, hnw, -mapPut]
      exact nx_intro (l.length - (i + 1)) (by omega) ⟨i + 1, KV', _, _, rfl, by omega, by simp [f1], by simp, by simp [f5], by simp [f12], by simp [f13], by simp, hgn, rfl⟩
  · have hil : i = l.length := by omega
    subst hil
    rw [List.take_length] at hgs ⊢
    have hun := hgs.keys.under (m := (σ ++ Entry.mp (kvG (σ.length + 1) n l q) :: τ).length) (by simp; omega)
    simp [f4, f5]
    refine er_keep (σ ++ Entry.mp (kvG (σ.length + 1) n l q) :: τ) (.tup [KV, .map σ.length]) (by simp [tupOf, f4, f5]) [] (by simp) (by simp) ?_ (under_more fun e he => ?_) ⟨KV, q, τ, rfl, hgs, rfl⟩
    · have h2 : AV.under (σ ++ Entry.mp (kvG (σ.length + 1) n l q) :: τ).length (.map σ.length) = true := by simp [AV.under]
      simp only [AV.under, List.attach_cons, List.attach_nil, List.map_nil, List.map_cons, List.all_cons, List.all_nil, Bool.and_true, Bool.and_eq_true]
      exact ⟨hun, by simp⟩
    · rcases List.mem_cons.1 he with rfl | he
      · simp only [Entry.under, List.all_eq_true]
        intro p hp
        obtain ⟨k, hk, rfl⟩ := List.mem_map.1 hp
        have := (List.getElem?_eq_some_iff.1 (hgs.rows k hk)).1
        simp [AV.under]; omega
      · exact hgs.und e he _
end Go.Proofs.YtdgpnmlialmaaaaGreatDoor
end
section
set_option maxHeartbeats 4000000
namespace Go.Proofs.YtdgpnmlialmaaaaGreatDoor
open Go.Abs Go.Num Go.Ser
variable {G : Globs}
end Go.Proofs.YtdgpnmlialmaaaaGreatDoor
end
section
set_option maxHeartbeats 4000000
namespace Go.Ser
open Go.Num
/-- A number that counts, or nothing. -/
def gn (n : N) : Prop := good n = true ∨ n = nothing
theorem gn_right {n : N} (h : gn n) : rightN n = true := by
  rcases h with h | rfl
  · obtain ⟨h1, h2⟩ := good_iff.1 h
    simp [rightN, h1, h2]
  · rfl
theorem gn_tell (s : Int) : gn (tell s) := by
  unfold tell
  split
  · rename_i h; exact .inl (good_iff.2 ⟨rfl, h.1⟩)
  · exact .inr rfl
theorem gn_add (a b : N) : gn (addN a b) := by
  unfold addN; split
  · exact gn_tell _
  · exact .inr rfl
theorem gn_div (a b : N) : gn (divN a b) := by
  unfold divN; split
  · exact gn_tell _
  · exact .inr rfl
theorem gn_less (a b : N) : gn (lessN a b) := by
  unfold lessN; repeat' split
  all_goals first | exact .inl (by assumption) | exact .inr rfl
theorem gn_more (a b : N) : gn (moreN a b) := by
  unfold moreN; repeat' split
  all_goals first | exact .inl (by assumption) | exact .inr rfl
theorem gn_fold {op : N → N → N} (h : ∀ a b, gn (op a b)) : ∀ (l : List N) (k : N), gn k → gn (l.foldl op k)
  | [], k, hk => hk
  | n :: l, k, hk => by rw [List.foldl_cons]; exact gn_fold h l _ (h k n)
theorem gn_reckon (way : Int) (l : List N) : gn (reckon way l) := by
  have hk := known_good l
  unfold reckon
  generalize known l = K at *
  cases K with
  | nil => exact .inr rfl
  | cons k ks =>
    have hkk : gn k := .inl (hk k (by simp))
    simp only
    unfold reckonK
    repeat' split
    · exact gn_div _ _
    · exact gn_fold gn_add _ _ hkk
    · exact gn_fold gn_less _ _ hkk
    · exact gn_fold gn_more _ _ hkk
    · exact .inl (hk _ (List.getLast_mem _))
    · exact .inr rfl
theorem slots_okP {s : Sr} (h : oksN s.vals) (start step way : Int) (c : Nat) : oksN (slots s start step way c) := fun n hn => by
  simp only [slots, List.mem_map] at hn
  obtain ⟨i, _, rfl⟩ := hn
  exact reckon_oks way (slice_ok h _ _)
end Go.Ser
namespace Go.Proofs.YtdgpnmlialmaaaaGreatDoor
open Go.Abs Go.Num Go.Ser
variable {G : Globs}
end Go.Proofs.YtdgpnmlialmaaaaGreatDoor
end
section
set_option maxHeartbeats 1000000
namespace Go.Ser
open Go.Num
theorem placeN_at {a st : Int} {n i : Nat} (hs : 0 < st) (hi : i ≤ n) : placeN a st n (a + i * st) = i := by
  have key : ∀ j, j < n → (placeN a st n (a + i * st) ≤ j ↔ i ≤ j) := by
    intro j hj
    rw [place_iff hs hj]
    constructor
    · intro h
      rcases Nat.lt_or_ge j i with h' | h'
      · exfalso
        have h1 : ((j : Int) + 1) * st ≤ (i : Int) * st := Int.mul_le_mul_of_nonneg_right (by omega) (by omega)
        rw [Int.add_mul, Int.one_mul] at h1
        omega
      · exact h'
    · intro h
      have h1 : (i : Int) * st ≤ (j : Int) * st := Int.mul_le_mul_of_nonneg_right (by omega) (by omega)
      omega
  have hle := placeN_le a st n (a + i * st)
  obtain ⟨p, hp⟩ : ∃ p, p = placeN a st n (a + i * st) := ⟨_, rfl⟩
  rw [← hp] at key hle ⊢
  rcases Nat.lt_or_ge p n with h | h
  · have h1 := (key p h).1 (Nat.le_refl _)
    rcases Nat.lt_or_ge i n with h2 | h2
    · have := (key i h2).2 (Nat.le_refl _); omega
    · omega
  · rcases Nat.lt_or_ge i n with h2 | h2
    · have := (key i h2).2 (Nat.le_refl _); omega
    · omega
theorem slice_one {nm : List UInt8} {a st : Int} {V : List N} {i : Nat} (hs : 0 < st) (hi : i < V.length) : slice ⟨nm, a, st, V⟩ (a + i * st) (a + i * st + st) = [V[i]] := by
  have e : a + i * st + st = a + ((i + 1 : Nat) : Int) * st := by push_cast; rw [Int.add_mul, Int.one_mul]; omega
  unfold slice
  simp only
  rw [e, placeN_at hs (Nat.le_of_lt hi), placeN_at hs hi]
  apply List.ext_getElem
  · simp; omega
  · intro j h1 h2
    have : j = 0 := by simp at h2; omega
    subst this
    simp
theorem reckon1_one {x : N} (h : gn x) (hm : x.2 ≤ Num.most) : reckon 1 [x] = x := by
  rcases h with h | rfl
  · have e : known [x] = [x] := by unfold known; simp [h]
    unfold reckon
    rw [e]
    show reckonK 1 x [] = x
    unfold reckonK
    rw [if_pos rfl]
    have hd := div_len (s := x) (n := 1) h (by omega) (by omega)
    show divN x (tell (((1 : Nat) : Int) * 1000000)) = x
    rw [hd]
    obtain ⟨h1, h2⟩ := good_iff.1 h
    have hr : rnd (x.2.natAbs * 1000000) (1 * 1000000) = x.2.natAbs := by
      unfold rnd
      rw [show 1 * 1000000 = 1000000 by rfl, Nat.mul_div_cancel _ (by omega), Nat.mul_mod_left]
      simp
    rw [hr]
    have hs : sgn (decide (x.2 < 0)) x.2.natAbs = x.2 := by
      unfold sgn
      by_cases h0 : x.2 < 0
      · simp [h0]; omega
      · simp [h0]; omega
    rw [hs]
    unfold tell
    rw [if_pos ⟨h2, hm⟩]
    exact Prod.ext h1.symm rfl
  · rfl
theorem okN_most {x : N} (h : okN x) : x.2 ≤ Num.most := by
  have := h.2
  unfold Num.most
  omega
theorem slots_again {nm : List UInt8} {a st : Int} {V : List N} (hs : 0 < st) (hg : ∀ x ∈ V, gn x ∧ okN x) : slots ⟨nm, a, st, V⟩ a st 1 V.length = V := by
  apply List.ext_getElem
  · simp [slots]
  · intro i h1 h2
    have hx := hg V[i] (List.getElem_mem h2)
    simp only [slots, List.getElem_map, List.getElem_range]
    rw [slice_one hs h2, reckon1_one hx.1 (okN_most hx.2)]
theorem cm_one {n : Nat} : cm 1 n = n := by simp [cm]
theorem cm_self {n : Nat} (h : 0 < n) : cm n n = n := by simp [cm, Nat.div_self h]
theorem scan_same {st : Nat} {a e : Int} (h1 : 0 < st) (h2 : st ≤ 86400) : ∀ l : List Sr, (∀ s ∈ l, s.step = st ∧ s.start = a ∧ endS s = e) → scanS st a e l = some (st, a, e)
  | [], _ => rfl
  | s :: l, h => by
    obtain ⟨e1, e2, e3⟩ := h s (by simp)
    have e4 : s.step.toNat = st := by omega
    rw [scanS, e4, cm_self h1, if_pos h2, e2, e3]
    have m1 : min a a = a := by omega
    have m2 : max e e = e := by omega
    rw [m1, m2]
    exact scan_same h1 h2 l fun s hs => h s (by simp [hs])
theorem scan_bd : ∀ (l : List Sr) (st : Nat) (a b : Int) (st' : Nat) (a' b' : Int), (∀ s ∈ l, SrR s) → 1 ≤ st → st ≤ 86400 → 0 ≤ a → a ≤ 1099511627776 → 0 ≤ b → b ≤ 1200000000000 → scanS st a b l = some (st', a', b') →
    1 ≤ st' ∧ st' ≤ 86400 ∧ 0 ≤ a' ∧ a' ≤ a ∧ b ≤ b' ∧ b' ≤ 1200000000000 ∧ (l ≠ [] → a' ≤ b')
  | [], st, a, b, st', a', b', _, h1, h2, h3, h4, h5, h6, h => by
    simp only [scanS, Option.some.injEq, Prod.mk.injEq] at h
    obtain ⟨rfl, rfl, rfl⟩ := h
    exact ⟨h1, h2, h3, by omega, by omega, h6, fun h => absurd rfl h⟩
  | s :: l, st, a, b, st', a', b', hR, h1, h2, h3, h4, h5, h6, h => by
    have hs := hR s (by simp)
    have s0 := hs.s0
    have s1 := hs.s1
    have p0 := hs.p0
    obtain ⟨e1, e2, _, _⟩ := end_bd hs
    have hc := cm_pos (a := st) (b := s.step.toNat) (by omega) (by omega)
    rw [scanS] at h
    split at h
    case isFalse => cases h
    rename_i hcm
    obtain ⟨g1, g2, g3, g4, g5, g6, _⟩ := scan_bd l _ _ _ st' a' b' (fun s hs => hR s (by simp [hs])) (by omega) hcm (by omega) (by omega) (by omega) (by omega) h
    exact ⟨g1, g2, g3, by omega, by omega, g6, fun _ => by omega⟩
theorem round_again {st q : Int} (h : 1 ≤ st) : (q * st + st - 1) / st * st = q * st := by
  have e : (q * st + st - 1) / st = q := by
    rw [show q * st + st - 1 = st - 1 + q * st by omega, Int.add_mul_ediv_right _ _ (by omega), Int.ediv_eq_zero_of_lt (by omega) (by omega), Int.zero_add]
  rw [e]
theorem again {l r : List Sr} (ho : ∀ s ∈ l, SrOk s) (h : alS l = (r, 0)) : alS r = (r, 0) ∧ r.length = l.length ∧ (∀ s ∈ r, SrOk s) ∧
    ∃ (a st : Int) (n : Nat), ∀ i (h : i < l.length) (h' : i < r.length), r[i].name = l[i].name ∧ r[i].start = a ∧ r[i].step = st ∧ r[i].vals.length = n := by
  cases hany : l.any fun s => !rightS s with
  | true => unfold alS at h; rw [if_pos hany] at h; simp at h
  | false =>
    have hR : ∀ s ∈ l, SrR s := fun s hs => right_iff.1 (by have := List.any_eq_false.1 hany s hs; simpa using this)
    by_cases h128 : 128 < l.length
    · unfold alS at h; rw [if_neg (by simp [hany]), if_pos h128] at h; simp at h
    by_cases hnil : l = []
    · subst hnil
      have : alS [] = ([], 0) := rfl
      rw [this] at h
      simp only [Prod.mk.injEq, and_true] at h
      subst h
      exact ⟨this, rfl, by simp, 0, 0, 0, fun i h => by simp at h⟩
    have hpos : 0 < l.length := List.length_pos_iff.2 hnil
    obtain ⟨s0, hs0⟩ : ∃ s0, l[0]? = some s0 := ⟨_, List.getElem?_eq_getElem hpos⟩
    have hR0 := hR s0 (List.mem_of_getElem? hs0)
    rw [alS_go hs0 hany h128] at h
    split at h
    · simp at h
    rename_i st a b hsc
    obtain ⟨g1, g2, g3, g4, g5, g6, g7⟩ := scan_bd l 1 s0.start 0 st a b hR (by omega) (by omega) hR0.s0 hR0.s1 (by omega) (by omega) hsc
    have g8 := g7 hnil
    have hs01 := hR0.s1
    obtain ⟨r1, r2, r3, r4⟩ := round_bd (b := b) (st := st) (by omega) (by omega) g5 (by omega)
    have m0 := Int.emod_nonneg a (show (st : Int) ≠ 0 by omega)
    have m1 := Int.emod_lt_of_pos a (show (0 : Int) < st by omega)
    have m2 := Int.mul_ediv_add_emod a st
    obtain ⟨k, hk⟩ : ∃ k, k = a / st := ⟨_, rfl⟩
    have hk0 : 0 ≤ k := by rw [hk]; exact Int.ediv_nonneg g3 (by omega)
    rw [← hk, Int.mul_comm] at m2
    have ha : a - a % st = k * st := by omega
    obtain ⟨q, hq⟩ : ∃ q, q = (b + st - 1) / st := ⟨_, rfl⟩
    rw [ha, ← hq] at h
    rw [← hq] at r1 r2 r3 r4
    have hks : 0 ≤ k * st := Int.mul_nonneg hk0 (by omega)
    have hsub : q * st - k * st = (q - k) * st := by rw [Int.sub_mul]
    have hd : (q * st - k * st) / st = q - k := by rw [hsub]; exact Int.mul_ediv_cancel _ (by omega)
    have hd0 : 0 ≤ q - k := by rw [← hd]; exact Int.ediv_nonneg (by omega) (by omega)
    split at h
    · simp at h
    rename_i hno
    simp only [Prod.mk.injEq, and_true] at h
    obtain ⟨d, hdd⟩ := Int.eq_ofNat_of_zero_le hd0
    have hcount : countN (k * st) (q * st) st = d := by
      unfold countN
      rw [hsub, hdd, show ((d : Int) * st + st - 1) = st - 1 + d * st by omega, Int.add_mul_ediv_right _ _ (by omega), Int.ediv_eq_zero_of_lt (by omega) (by omega)]
      simp
    have hlen : ∀ s, (alG (k * st) st (q * st) s).vals.length = d := fun s => by unfold alG; simp only; rw [hcount]; simp [slots]
    have hel : ∀ s ∈ r, ∃ y ∈ l, s = alG (k * st) st (q * st) y := fun s hs => by
      rw [← h] at hs
      obtain ⟨y, hy, rfl⟩ := List.mem_map.1 hs
      exact ⟨y, hy, rfl⟩
    have hrl : r.length = l.length := by rw [← h]; simp
    have hd2 : (d : Int) ≤ 2000 := by rw [← hdd, ← hd]; omega
    have hvals : ∀ y ∈ l, ∀ n ∈ (alG (k * st) st (q * st) y).vals, gn n ∧ okN n := fun y hy n hn => by
      refine ⟨?_, slots_okP (ho y hy).vs _ _ _ _ n hn⟩
      unfold alG slots at hn
      simp only [List.mem_map] at hn
      obtain ⟨i, _, rfl⟩ := hn
      exact gn_reckon _ _
    have hrR : ∀ s ∈ r, SrR s := fun s hs => by
      obtain ⟨y, hy, rfl⟩ := hel s hs
      have hyl := hlen y
      exact ⟨(hR y hy).nm, by omega, by show (1 : Int) ≤ st; omega, by show (st : Int) ≤ 86400; omega, hks, by show k * st ≤ 1099511627776; omega, fun n hn => gn_right (hvals y hy n hn).1⟩
    have hrO : ∀ s ∈ r, SrOk s := fun s hs => by
      have hh := hrR s hs
      have := hh.nm
      have := hh.s0
      have := hh.s1
      have := hh.p0
      have := hh.p1
      have := hh.vl
      obtain ⟨y, hy, rfl⟩ := hel s hs
      exact ⟨by omega, by omega, by omega, by omega, by omega, by omega, fun n hn => (hvals y hy n hn).2⟩
    have hend : ∀ s ∈ r, s.step = st ∧ s.start = k * st ∧ endS s = q * st := fun s hs => by
      obtain ⟨y, hy, rfl⟩ := hel s hs
      refine ⟨rfl, rfl, ?_⟩
      unfold endS
      rw [hlen y]
      show k * st + st * d = q * st
      rw [Int.mul_comm (st : Int) d, ← hdd, ← hsub]
      omega
    have hrn : r ≠ [] := fun e => by rw [e] at hrl; simp at hrl; omega
    have hranyF : (r.any fun s => !rightS s) = false := List.any_eq_false.2 fun s hs => by simp [right_iff.2 (hrR s hs)]
    obtain ⟨t0, ht0⟩ : ∃ t0, r[0]? = some t0 := ⟨_, List.getElem?_eq_getElem (by omega)⟩
    have hscr : scanS 1 t0.start 0 r = some (st, k * st, q * st) := by
      cases r with
      | nil => exact absurd rfl hrn
      | cons t r =>
        simp only [List.getElem?_cons_zero, Option.some.injEq] at ht0
        subst ht0
        obtain ⟨e1, e2, e3⟩ := hend t (by simp)
        have e4 : t.step.toNat = st := by omega
        rw [scanS, e4, cm_one, if_pos g2, e2, e3]
        have n1 : min (k * st) (k * st) = k * st := by omega
        have n2 : max 0 (q * st) = q * st := by omega
        rw [n1, n2]
        exact scan_same (by omega) g2 r fun s hs => hend s (by simp [hs])
    have hmod : k * (st : Int) % st = 0 := Int.mul_emod_left _ _
    have hfin : alS r = (r.map (alG (k * st) st (q * st)), 0) := by
      rw [alS_go ht0 hranyF (by omega), hscr]
      simp only
      rw [hmod, round_again (by omega), Int.sub_zero, if_neg hno]
    refine ⟨?_, hrl, hrO, k * st, st, d, ?_⟩
    · rw [hfin]
      congr 1
      conv => rhs; rw [← List.map_id r]
      apply List.map_congr_left
      intro s hs
      obtain ⟨y, hy, rfl⟩ := hel s hs
      have hsl := slots_again (nm := y.name) (a := k * st) (st := st) (V := (alG (k * st) st (q * st) y).vals) (by omega) (hvals y hy)
      rw [hlen y] at hsl
      show alG (k * st) st (q * st) (alG (k * st) st (q * st) y) = alG (k * st) st (q * st) y
      have e : ∀ s, alG (k * st) st (q * st) s = ⟨s.name, k * st, st, slots s (k * st) st 1 d⟩ := fun s => by unfold alG; rw [hcount]
      rw [e (alG (k * st) st (q * st) y)]
      show Sr.mk y.name (k * st) st (slots ⟨y.name, k * st, st, (alG (k * st) st (q * st) y).vals⟩ (k * st) st 1 d) = _
      rw [hsl]
      rfl
    · intro i h1 h2
      have e : r[i] = alG (k * st) st (q * st) l[i] := by simp [← h]
      rw [e]
      exact ⟨rfl, rfl, rfl, hlen _⟩
end Go.Ser
end
section
set_option maxHeartbeats 4000000
namespace Go.Ble
open Go.Num Go.Ser Go.Dec Go.Shp Go.Abs
theorem keys_mem (n : Nat) : ∀ (l : List Sr) (ks : List (List UInt8)) (k : List UInt8), k ∈ keysS n l ks → k ∈ ks ∨ ∃ s ∈ l, pieceS s.name n = k
  | [], _, _, h => .inl h
  | a :: l, ks, k, h => by
    rw [keysS] at h
    rcases keys_mem n l _ k h with h | ⟨s, hs, h⟩
    · split at h
      · exact .inl h
      · rcases List.mem_append.1 h with h | h
        · exact .inl h
        · simp at h; exact .inr ⟨a, by simp, h.symm⟩
    · exact .inr ⟨s, by simp [hs], h⟩
theorem keys_sub (n : Nat) : ∀ (l : List Sr) (ks : List (List UInt8)) (k : List UInt8), k ∈ ks → k ∈ keysS n l ks
  | [], _, _, h => h
  | a :: l, ks, k, h => by
    rw [keysS]
    refine keys_sub n l _ k ?_
    split
    · exact h
    · simp [h]
theorem keys_ne {n : Nat} {l : List Sr} (h : l ≠ []) : keysS n l [] ≠ [] := by
  cases l with
  | nil => exact absurd rfl h
  | cons a l =>
    intro e
    have := keys_sub n l [pieceS a.name n] (pieceS a.name n) (by simp)
    rw [keysS] at e
    simp at e
    rw [e] at this
    simp at this
theorem partG_ne {n : Nat} {l : List Sr} {k : List UInt8} (h : k ∈ keysS n l []) : partG n l k ≠ [] := by
  rcases keys_mem n l [] k h with h | ⟨s, hs, h⟩
  · simp at h
  · intro e
    have : s ∈ partG n l k := List.mem_filter.2 ⟨hs, by simpa using h⟩
    rw [e] at this; simp at this
theorem al_right {l r : List Sr} (h : alS l = (r, 0)) : (∀ s ∈ l, SrR s) ∧ l.length ≤ 128 := by
  unfold alS at h
  split at h
  · simp at h
  rename_i hany
  split at h
  · simp at h
  rename_i h128
  exact ⟨fun s hs => right_iff.1 (by
    cases hr : rightS s with
    | true => rfl
    | false => exact absurd (List.any_eq_true.2 ⟨s, hs, by simp [hr]⟩) hany), by omega⟩
/-- What is aligned: its values have one count, one start, one step. -/
theorem al_facts {l r : List Sr} (ho : ∀ s ∈ l, SrOk s) (hne : l ≠ []) (h : alS l = (r, 0)) : ∃ s0 r', r = s0 :: r' ∧ (∀ s ∈ r, s.vals.length = s0.vals.length ∧ s.start = s0.start ∧ s.step = s0.step) ∧ (∀ s ∈ r, SrOk s) ∧ (∀ s ∈ r, SrR s) ∧ r.length ≤ 128 ∧ r.map (·.name) = l.map (·.name) := by
  obtain ⟨h1, h2, h3, a, st, n, h4⟩ := again ho h
  obtain ⟨g1, g2⟩ := al_right h1
  have hnm : r.map (·.name) = l.map (·.name) := by
    apply List.ext_getElem (by simp [h2])
    intro i hi hi'
    simp only [List.getElem_map]
    exact (h4 i (by simpa using hi') (by simpa using hi)).1
  have hall : ∀ s ∈ r, s.start = a ∧ s.step = st ∧ s.vals.length = n := fun s hs => by
    obtain ⟨i, hi, rfl⟩ := List.getElem_of_mem hs
    exact (h4 i (by omega) hi).2
  cases r with
  | nil => exact absurd (List.eq_nil_of_length_eq_zero (by simpa using h2.symm)) hne
  | cons s0 r' =>
    obtain ⟨e1, e2, e3⟩ := hall s0 (by simp)
    exact ⟨s0, r', rfl, fun s hs => by obtain ⟨f1, f2, f3⟩ := hall s hs; exact ⟨by omega, by omega, by omega⟩, h3, g1, g2, hnm⟩
end Go.Ble
namespace Go.Proofs.YtdgpnmlialmaaaaGreatDoor
open Go.Abs Go.Num Go.Ser Go.Dec Go.Shp Go.Ble
variable {G : Globs}
theorem grouped1_ok (m : Int) (l : List N) (hok : oksN l) (hl : l.length ≤ 1000000000) : PCalls Tryz.prog n_blend_grouped_1 [.lst (numEls l), .rptr [.int .i64 m]] (fun r => r = numA (reckon m l)) := by
  refine pcalls_of_awp hmix c_blend_grouped_1 rfl ?_
  have kR := reckon_ok (G := G) m l hok hl
  obtain ⟨z, hz⟩ : ∃ z, z = reckon m l := ⟨_, rfl⟩
  rw [← hz, numA_eq] at kR
  rw [← hz]
  simp [a_blend_grouped_1]
  refine ac_same kR (by simp) ?_
  rintro r rfl
  simp [splice, numA]
theorem bGrouped_ok [GMaxL] (n : Nat) (hn : n ≤ 9223372036854775807) (m : Int) (l : List Sr) (hne : l ≠ []) (hl : l.length ≤ 100000) (hnm : ∀ s ∈ l, s.name.length ≤ 1000000) (ho : ∀ s ∈ l, SrOk s) :
    PCalls Tryz.prog n_blend_grouped [serL l, .int .i64 n, .int .i64 m] (fun r => r = alA (groupsS l n m (keysS n l []) [])) := by
  refine pcalls_of_awp hmix c_blend_grouped rfl ?_
  obtain ⟨R, hR⟩ : ∃ R, R = groupsS l n m (keysS n l []) [] := ⟨_, rfl⟩
  rw [← hR]
  have kG := bGroups_ok (G := G) [.var 3 [.int .i64 m]] n hn l hl hnm
  have hkl : (keysS n l []).length ≤ 100000 := by
    have := keysS_len n l []
    simp at this; omega
  unfold serL at kG ⊢
  simp [a_blend_grouped]
  refine ac_eff kG ?_
  rintro r σ' ⟨KV, q, τ, rfl, hgs, rfl⟩
  obtain ⟨hk0, hk1⟩ := hgs.keys.resolve_left (fun h => keys_ne (n := n) hne (by
    have := h.1
    simpa [txts] using this))
  obtain ⟨p, rfl, hp⟩ := hk1
  have hrows := hgs.rows
  have hkvl : ∀ k ∈ keysS n l [], mapFind 1 (.str k) (kvG 2 n l q) 0 = some (some ((keysS n l []).idxOf k, .row (2 + q k) (partG n l k).length)) := fun k hk => by rw [kvG_find, if_pos hk]
  obtain ⟨ks, hks⟩ : ∃ ks, ks = keysS n l [] := ⟨_, rfl⟩
  have hkne : ∀ k ∈ ks, partG n l k ≠ [] := fun k hk => partG_ne (by rw [← hks]; exact hk)
  obtain ⟨kv, hkv⟩ : ∃ kv, kv = kvG 2 n l q := ⟨_, rfl⟩
  have elo : ([Entry.var 3 [.int .i64 m]].length + 1) = 2 := rfl
  rw [elo] at hgs ⊢
  rw [← hks] at hkvl hrows hp hkl hR ⊢
  rw [← hkv] at hkvl ⊢
  have hkl2 : (txts ks).length = ks.length := txts_len ks
  obtain ⟨Q, hQ⟩ : ∃ Q : Store, Q = [.var 3 [.int .i64 m]] ++ .mp kv :: τ := ⟨_, rfl⟩
  rw [← hQ]
  have q0 : ∀ t : Store, (Q ++ t)[0]? = some (.var 3 [.int .i64 m]) := fun t => by rw [hQ]; rfl
  have q1 : ∀ t : Store, (Q ++ t)[1]? = some (.mp kv) := fun t => by rw [hQ]; rfl
  have q2 : ∀ (t : Store) (j : Nat) (e : Entry), τ[j]? = some e → (Q ++ t)[2 + j]? = some e := fun t j e h => by
    rw [hQ, show 2 + j = j + 1 + 1 by omega]
    show (τ ++ t)[j]? = some e
    rw [List.getElem?_append_left (List.getElem?_eq_some_iff.1 h).1]; exact h
  have q0' := q0 []
  have q1' := q1 []
  have q2' := q2 [] p _ hp
  simp at q0' q1' q2'
  simp [q2', hkl2]
  refine lp_startx (fun x f σ' => ∃ (i : Nat) (V : AV) (O : List Sr) (t : Store), x = ks.length - i ∧ i ≤ ks.length ∧ f 5 = .ptr 0 0 ∧ f 8 = V ∧ f 10 = .map 1 ∧ f 21 = .row (2 + p) ks.length ∧ f 22 = .int .i64 ks.length ∧ f 23 = .int .i64 i ∧ R = groupsS l n m (ks.drop i) O ∧ O.length = i ∧
    AccT 41 4 Q.length t V (serEls O) ∧ σ' = Q ++ t) ks.length ?_ ?_
  · exact ⟨0, .nils, [], [], by simp, by simp, by simp, by simp, by simp, by simp [hkl2], by simp, by simp, by rw [hR]; rfl, rfl, accT_nil, by simp⟩
  rintro x f σ' ⟨i, V, O, t, hx, hi, f5, f8, f10, f21, f22, f23, hRi, hOl, hacc, rfl⟩
  simp [f22, f23]
  refine cb_dec (fun hlt => ?_) (fun hge => ?_)
  · have hlti : i < ks.length := by omega
    have hwi : IntKind.i64.wrap ((i : Int) + 1) = ((i + 1 : Nat) : Int) := by rw [wrap_i64 (by omega) (by omega)]; omega
    obtain ⟨k, hk⟩ : ∃ k, ks[i]? = some k := ⟨_, List.getElem?_eq_getElem hlti⟩
    have hkm := List.mem_of_getElem? hk
    have htg : (txts ks)[i]? = some [.str k] := by simp [txts, hk]
    obtain ⟨hx1, hx2⟩ := List.getElem?_eq_some_iff.1 htg
    have hdr : ks.drop i = k :: ks.drop (i + 1) := by
      obtain ⟨hq1, hq2⟩ := List.getElem?_eq_some_iff.1 hk
      rw [← hq2]; exact List.drop_eq_getElem_cons hq1
    rw [hdr, groupsS] at hRi
    have hfind := hkvl k hkm
    have hrow := q2 t _ _ (hrows k hkm)
    have hpne := hkne k hkm
    have hqp := q2 t p _ hp
    have hpo : ∀ s ∈ partG n l k, SrOk s := fun s hs => ho s (partG_mem hs)
    have hpl : (partG n l k).length ≤ 100000 := Nat.le_trans (partG_len n l k) hl
    have kA := align_ok (G := G) (partG n l k) (by omega) hpo
    have hRi' : R = match alS (partG n l k) with
      | (a, 0) => groupsS l n m (ks.drop (i + 1)) (O ++ [oneG k (reckon m) a])
      | (_, e) => ([], e) := hRi
    obtain ⟨j, hj⟩ : ∃ j, j = ks.idxOf k := ⟨_, rfl⟩
    rw [← hj] at hfind
    simp [f10, f21, f23, hqp, hkl2, htg, hx1, hx2, hlti, q1, hfind]
    unfold serL at kA
    refine ac_pure kA (.cons (.row _ _ _ _ (serEls (partG n l k)) true hrow (serEls_len _) (.inl rfl)) .nil) ?_
    rintro r rfl
    obtain ⟨a, e, hal⟩ : ∃ a e, alS (partG n l k) = (a, e) := ⟨_, _, rfl⟩
    rw [hal] at hRi'
    by_cases he : e = 0
    · subst he
      simp only at hRi'
      obtain ⟨s0, a', ha, hav, hao, har, hal2, _⟩ := al_facts hpo hpne hal
      have hs0r := har s0 (by rw [ha]; simp)
      have kT := bTogether_ok (G := G) k s0 a' (by rw [ha] at hal2; simp at hal2; omega) (fun s hs => (hav s (by rw [ha]; exact hs)).1) (by have := hs0r.vl; omega) (reckon m) n_blend_grouped_1 b_blend_grouped_1 (Q ++ t) [.ptr 0 0] [.rptr [.int .i64 m]]
        (fun τ' => .cons (coe_ptr (t := 3) (by rw [List.append_assoc]; exact q0 _) (by simp) (by simp [AV.one])) .nil) (fun k' hk' => grouped1_ok m _ (oksN_tog (fun s hs => hao s (by rw [ha]; exact hs)) k') (by rw [togN_len]; rw [ha] at hal2; omega))
      rw [← ha, srA_eq] at kT
      obtain ⟨g, hg⟩ : ∃ g, g = oneG k (reckon m) a := ⟨_, rfl⟩
      rw [← hg] at kT hRi'
      unfold serL at kT
      have hOe : (serEls O).length = i := by rw [serEls_len]; exact hOl
      simp [alA, hal, serL, f5, f8]
      refine ac_eff kT ?_
      rintro r σ'' ⟨rfl, rfl⟩
      simp [f8]
      refine ap_accT (bytes := 56) hacc [.str g.name, .int .i64 g.start, .int .i64 g.step, .lst (numEls g.vals)] (by decide) rfl (by omega) (by omega) fun V' t' hacc' hlen hkeep => ?_
      have hst : serEls O ++ [[.str g.name, .int .i64 g.start, .int .i64 g.step, .lst (numEls g.vals)]] = serEls (O ++ [g]) := by simp [serEls, srC]
      rw [hst] at hacc'
      simp [f23, hwi]
      exact nx_intro (ks.length - (i + 1)) (by omega) ⟨i + 1, V', _, t', rfl, by omega, by simp [f5], by simp, by simp [f10], by simp [f21], by simp [f22], by simp, hRi', by simp [hOl], hacc', rfl⟩
    · have hz : R = ([], e) := by
        rw [hRi']
        cases e with
        | zero => exact absurd rfl he
        | succ e => rfl
      have he' : ¬ (e : Int) = 0 := by omega
      simp [alA, hal, he, he', hz, serL, serEls]
  · have hil : i = ks.length := by omega
    subst hil
    rw [List.drop_length, groupsS] at hRi
    have hf1 := hacc.finT 0
    simp [f8, hf1, hRi, alA, serL]
end Go.Proofs.YtdgpnmlialmaaaaGreatDoor
end
section
set_option maxHeartbeats 4000000
namespace Go.Proofs.YtdgpnmlialmaaaaGreatDoor
open Go.Abs Go.Num Go.Ser
variable {G : Globs}
end Go.Proofs.YtdgpnmlialmaaaaGreatDoor
end
