/- Numbers over time: the document's Align. -/
import Derived.Test.YtjkajkhomklikaaGreatDoorSeU
import Derived.Test.YtjkajkhomklikaaGreatDoorSeD
set_option linter.unusedSimpArgs false
set_option linter.unusedVariables false
set_option linter.constructorNameAsVariable false
set_option maxHeartbeats 4000000
namespace Go.Proofs.YtjkajkhomklikaaGreatDoor
open Go.Abs Go.Num Go.Ser
variable {G : Globs}
theorem divisor_ok (a b : Nat) (ha : 0 < a) (ha2 : a ≤ 86400) (hb2 : b ≤ 86400) : PCalls Tryz.prog n_isobarref24_divisor [.int .i64 a, .int .i64 b] (fun r => r = .int .i64 (Nat.gcd a b)) := by
  refine pcalls_of_awp hmix c_isobarref24_divisor rfl ?_
  simp [a_isobarref24_divisor]
  refine lp_startx (fun x f σ => ∃ (p q : Nat), x = q ∧ Nat.gcd p q = Nat.gcd a b ∧ p ≤ 86400 ∧ q ≤ 86400 ∧ f 0 = .int .i64 p ∧ f 1 = .int .i64 q ∧ σ = []) b ?_ ?_
  · exact ⟨a, b, by simp, rfl, ha2, hb2, by simp, by simp, rfl⟩
  rintro x f σ ⟨p, q, rfl, hg, hp, hq, f0, f1, rfl⟩
  by_cases h0 : x = 0
  · subst h0
    rw [Nat.gcd_zero_right] at hg
    subst hg
    simp [f0, f1]
  · have hx1 : ¬ (x : Int) = 0 := by omega
    have hlt : p % x < x := Nat.mod_lt _ (by omega)
    have hd : ((p : Int)).tmod (x : Nat) = ((p % x : Nat) : Int) := by rw [Int.tmod_eq_emod_of_nonneg (by omega)]; simp
    have hw : IntKind.i64.wrap (((p % x : Nat)) : Int) = ((p % x : Nat) : Int) := wrap_i64 (by omega) (by omega)
    obtain ⟨z, hz⟩ : ∃ z, z = p % x := ⟨_, rfl⟩
    rw [← hz] at hd hw hlt
    simp [f0, f1, hx1, h0, hd, hw]
    refine nx_intro z (by omega) ⟨x, z, rfl, ?_, hq, by omega, by simp, by simp, rfl⟩
    rw [hz, ← hg, Nat.gcd_comm p x, Nat.gcd_rec x p, Nat.gcd_comm]
theorem ap_acc1 {K : AV → Store → Prop} {t : Tg K} {σ : Store} {v : Entry} (x : List N) (z : N) (hlen : x.length ≤ 1000000) (hK : K (rowV (σ.length + 1) (numEls (x ++ [z]))) (σ ++ v :: rowE 25 2 (numEls (x ++ [z])) true)) :
    ap K t (σ ++ v :: rowE 25 2 (numEls x) true) 25 2 16 (rowV (σ.length + 1) (numEls x)) (.lst [[.bool z.1, .int .i64 z.2]]) := by
  have e : ∀ l : List (List AV), σ ++ v :: rowE 25 2 l true = (σ ++ [v]) ++ rowE 25 2 l true := fun l => by simp
  rw [e]
  rw [e, numEls_app] at hK
  refine ap_acc_at (pre := σ ++ [v]) (by simp) (numEls x) [[.bool z.1, .int .i64 z.2]] true (by decide) (by simp) (by simp) ?_ ?_ hK
  · rw [numEls_len]; simp; omega
  · rw [numEls_len]; simp; omega
theorem share_acc {σ : Store} {v : Entry} (l : List (List AV)) : share1 (σ ++ v :: rowE 25 2 l true) (rowV (σ.length + 1) l) = some (.lst l) := by
  cases l with
  | nil => rfl
  | cons c l =>
    have : (σ ++ v :: [Entry.row 25 2 (c :: l) true])[σ.length + 1]? = some (.row 25 2 (c :: l) true) := by
      rw [List.getElem?_append_right (by omega)]; simp
    simp [rowV, rowE, share1, this]
theorem rAlign_ok (l : List Sr) (hl : l.length ≤ 9223372036854775807) (ho : ∀ s ∈ l, SrOk s) : PCalls Tryz.prog n_isobarref24_Align [serL l] (fun r => r = alA (alS l)) := by
  refine pcalls_of_awp hmix c_isobarref24_Align rfl ?_
  have hle := serEls_len l
  unfold serL
  simp [a_isobarref24_Align]
  refine lp_startx (fun x f σ => ∃ (i : Nat), x = l.length - i ∧ i ≤ l.length ∧ (∀ s ∈ l.take i, rightS s = true) ∧ f 0 = .lst (serEls l) ∧ f 4 = .int .i64 i ∧ σ = []) l.length ?_ ?_
  · exact ⟨0, by simp, by simp, by simp, by simp, by simp, by simp⟩
  rintro x f σ ⟨i, hx, hi, hall, f0, f4, rfl⟩
  by_cases hlt : i < l.length
  · have hlt' : (i : Int) < l.length := by omega
    have hwi : IntKind.i64.wrap ((i : Int) + 1) = (i : Int) + 1 := wrap_i64 (by omega) (by omega)
    obtain ⟨y, hy⟩ : ∃ y, l[i]? = some y := ⟨_, List.getElem?_eq_getElem hlt⟩
    have hym := List.mem_of_getElem? hy
    have hse := serEls_get hy
    obtain ⟨hx1, hx2⟩ := List.getElem?_eq_some_iff.1 hse
    have kR := rsRight_ok (G := G) y (ho y hym)
    rw [srA_eq] at kR
    simp [f0, f4, hle, hlt, hlt', hx1, hx2]
    refine ac_same kR (by simp) ?_
    rintro r rfl
    cases hr : rightS y with
    | false =>
      have hany : (l.any fun s => !rightS s) = true := List.any_eq_true.2 ⟨y, hym, by simp [hr]⟩
      have : alS l = ([], 1) := by unfold alS; rw [if_pos hany]
      simp [this, alA, serL, serEls]
    | true =>
      simp [f4, hwi]
      refine nx_intro (l.length - (i + 1)) (by omega) ⟨i + 1, rfl, by omega, fun m hm => ?_, by simp [f0], by simp, rfl⟩
      rw [List.take_add_one, hy] at hm
      simp only [Option.toList_some, List.mem_append, List.mem_singleton] at hm
      rcases hm with hm | rfl
      · exact hall m hm
      · exact hr
  have hil : i = l.length := by omega
  subst hil
  rw [List.take_length] at hall
  have hlt' : ¬ (l.length : Int) < l.length := by omega
  have hany : (l.any fun s => !rightS s) = false := List.any_eq_false.2 fun s hs => by simp [hall s hs]
  have hR : ∀ s ∈ l, SrR s := fun s hs => right_iff.1 (hall s hs)
  by_cases h128 : 128 < l.length
  · have : alS l = ([], 11) := by unfold alS; rw [if_neg (by simp [hany]), if_pos h128]
    have h128' : (128 : Int) < l.length := by omega
    simp [f0, f4, hle, h128, h128', this, alA, serL, serEls]
  have h128' : ¬ (128 : Int) < l.length := by omega
  by_cases hnil : l = []
  · subst hnil
    have : alS [] = ([], 0) := rfl
    simp [f0, f4, this, alA, serL, serEls]
  obtain ⟨s0, hs0⟩ : ∃ s0, l[0]? = some s0 := ⟨_, List.getElem?_eq_getElem (by have := List.length_pos_iff.2 hnil; omega)⟩
  have hpos : 0 < l.length := List.length_pos_iff.2 hnil
  have hse0 := serEls_get hs0
  obtain ⟨hz1, hz2⟩ := List.getElem?_eq_some_iff.1 hse0
  have hne : ¬ (l.length : Int) = 0 := by omega
  have hne' : ¬ l.length = 0 := by omega
  have hne'' : ¬ serEls l = [] := fun h => by rw [h] at hle; simp at hle; omega
  have hgo := alS_go hs0 hany h128
  have hR0 := hR s0 (List.mem_of_getElem? hs0)
  have hs00 := hR0.s0
  have hs01 := hR0.s1
  simp [f0, f4, hle, h128, h128', hne, hne', hne'', hz1, hz2, hpos]
  refine lp_startx (fun x f σ => ∃ (i st : Nat) (a b : Int), x = l.length - i ∧ i ≤ l.length ∧ 1 ≤ st ∧ st ≤ 86400 ∧ (0 < i → a ≤ b) ∧ 0 ≤ a ∧ a ≤ 1099511627776 ∧ 0 ≤ b ∧ b ≤ 1200000000000 ∧ scanS 1 s0.start 0 l = scanS st a b (l.drop i) ∧
    f 0 = .lst (serEls l) ∧ f 5 = .int .i64 st ∧ f 6 = .int .i64 a ∧ f 7 = .int .i64 b ∧ f 8 = .int .i64 i ∧ σ = []) l.length ?_ ?_
  · exact ⟨0, 1, s0.start, 0, by simp, by simp, by simp, by simp, by simp, hs00, hs01, by simp, by simp, by simp, by simp [f0], by simp, by simp, by simp, by simp, rfl⟩
  clear hx hi hall hlt hlt' f0 f4
  rintro x f σ ⟨i, st, a, b, hx, hi, hst1, hst2, hab, ha0, ha1, hb0, hb1, hsc, f0, f5, f6, f7, f8, rfl⟩
  by_cases hlt : i < l.length
  · have hlt' : (i : Int) < l.length := by omega
    have hwi : IntKind.i64.wrap ((i : Int) + 1) = (i : Int) + 1 := wrap_i64 (by omega) (by omega)
    obtain ⟨y, hy⟩ : ∃ y, l[i]? = some y := ⟨_, List.getElem?_eq_getElem hlt⟩
    have hym := List.mem_of_getElem? hy
    have hyR := hR y hym
    have hse := serEls_get hy
    obtain ⟨hx1, hx2⟩ := List.getElem?_eq_some_iff.1 hse
    have hp0 := hyR.p0
    have hp1 := hyR.p1
    have hy0 := hyR.s0
    have hy1 := hyR.s1
    obtain ⟨e1, e2, e3, e4⟩ := end_bd hyR
    have kD := divisor_ok (G := G) st y.step.toNat (by omega) hst2 (by omega)
    rw [Int.toNat_of_nonneg (by omega)] at kD
    have hcp := cm_pos (a := st) (b := y.step.toNat) (by omega) (by omega)
    have hcl := cm_le (a := st) (b := y.step.toNat) hst2 (by omega)
    have kE := rsEnd_ok (G := G) y (ho y hym)
    rw [if_pos (right_iff.2 hyR), srA_eq] at kE
    have hdr : l.drop i = y :: l.drop (i + 1) := by
      obtain ⟨hq1, hq2⟩ := List.getElem?_eq_some_iff.1 hy
      rw [← hq2]; exact List.drop_eq_getElem_cons hq1
    rw [hdr, scanS] at hsc
    have hgp : 0 < Nat.gcd st y.step.toNat := Nat.gcd_pos_of_pos_left _ (by omega)
    have hd : ((st : Int)).tdiv (Nat.gcd st y.step.toNat : Nat) = ((st / Nat.gcd st y.step.toNat : Nat) : Int) := by rw [Int.tdiv_eq_ediv_of_nonneg (by omega)]; simp
    obtain ⟨d, hdd⟩ : ∃ d, d = st / Nat.gcd st y.step.toNat := ⟨_, rfl⟩
    have hcm : cm st y.step.toNat = d * y.step.toNat := by rw [hdd]; rfl
    obtain ⟨g, hgg⟩ : ∃ g, g = Nat.gcd st y.step.toNat := ⟨_, rfl⟩
    rw [← hdd] at hd
    rw [← hgg] at hd hgp kD
    have hd2 : d ≤ 86400 := by rw [hdd]; exact Nat.le_trans (Nat.div_le_self _ _) hst2
    obtain ⟨c, hc⟩ : ∃ c, c = cm st y.step.toNat := ⟨_, rfl⟩
    have hci : (d : Int) * y.step = c := by
      have h1 : (y.step.toNat : Int) = y.step := Int.toNat_of_nonneg (by omega)
      have h2 : ((d * y.step.toNat : Nat) : Int) = (d : Int) * y.step.toNat := by push_cast; rfl
      rw [hc, hcm, h2, h1]
    rw [← hc] at hsc hcp hcl
    have hw1 : IntKind.i64.wrap (d : Int) = d := wrap_i64 (by omega) (by omega)
    have hw2 : IntKind.i64.wrap (c : Int) = c := wrap_i64 (by omega) (by omega)
    have hg0 : ¬ (g : Int) = 0 := by omega
    have hg0' : ¬ g = 0 := by omega
    simp [f0, f5, f8, hle, hlt, hlt', hx1, hx2]
    refine qc_any kD (by simp) ?_
    simp [f0, f5, f8, hx1, hx2, hg0, hg0', hd, hw1, hci, hw2]
    by_cases hbig : 86400 < c
    · have hbig' : (86400 : Int) < c := by omega
      rw [if_neg (by omega)] at hsc
      rw [hsc] at hgo
      simp [hbig, hbig', hgo, alA, serL, serEls]
    · have hbig' : ¬ (86400 : Int) < c := by omega
      rw [if_pos (by omega)] at hsc
      simp [hbig, hbig', f0, f6, f7, f8, hx1, hx2]
      refine ac_same kE (by simp) ?_
      rintro r rfl
      simp [f8, hwi]
      refine nx_intro (l.length - (i + 1)) (by omega) ⟨i + 1, c, min a y.start, max b (endS y), rfl, by omega, by omega, by omega, by omega, by omega, by omega, by omega, by omega, hsc, by simp [f0], by simp, by simp; omega, by simp; omega, by simp, rfl⟩
  have hil : i = l.length := by omega
  subst hil
  have hlt' : ¬ (l.length : Int) < l.length := by omega
  rw [List.drop_length, scanS] at hsc
  rw [hsc] at hgo
  have hab' := hab hpos
  obtain ⟨r1, r2, r3, r4⟩ := round_bd (b := b) (st := st) (by omega) (by omega) hb0 (by omega)
  have hst0 : ¬ (st : Int) = 0 := by omega
  have hst0' : ¬ st = 0 := by omega
  have htm : a.tmod st = a % st := Int.tmod_eq_emod_of_nonneg ha0
  have m0 := Int.emod_nonneg a hst0
  have m1 := Int.emod_lt_of_pos a (show (0 : Int) < st by omega)
  have m2 : a % st ≤ a := by
    obtain ⟨n, hn⟩ := Int.eq_ofNat_of_zero_le ha0
    rw [hn]; have := Nat.mod_le n st; omega
  obtain ⟨q, hq⟩ : ∃ q, q = (b + st - 1) / st := ⟨_, rfl⟩
  have htd : (b + st - 1).tdiv st = q := by rw [hq]; exact Int.tdiv_eq_ediv_of_nonneg (by omega)
  obtain ⟨a', ha'⟩ : ∃ a', a' = a - a % st := ⟨_, rfl⟩
  obtain ⟨b', hb'⟩ : ∃ b', b' = q * st := ⟨_, rfl⟩
  rw [← hq] at r1 r2 r3 r4
  rw [← hb'] at r1 r2
  have w1 : IntKind.i64.wrap (a - a % st) = a' := by rw [ha']; exact wrap_i64 (by omega) (by omega)
  have w2 : IntKind.i64.wrap (b + st) = b + st := wrap_i64 (by omega) (by omega)
  have w3 : IntKind.i64.wrap (b + st - 1) = b + st - 1 := wrap_i64 (by omega) (by omega)
  have w4 : IntKind.i64.wrap q = q := wrap_i64 (by omega) (by omega)
  have w5 : IntKind.i64.wrap (q * st) = b' := by rw [← hb']; exact wrap_i64 (by omega) (by omega)
  have w6 : IntKind.i64.wrap (b' - a') = b' - a' := wrap_i64 (by omega) (by omega)
  obtain ⟨qq, hqq⟩ : ∃ qq, qq = (b' - a') / st := ⟨_, rfl⟩
  have htd2 : (b' - a').tdiv st = qq := by rw [hqq]; exact Int.tdiv_eq_ediv_of_nonneg (by omega)
  have hq0 : 0 ≤ qq := by rw [hqq]; exact Int.ediv_nonneg (by omega) (by omega)
  have hq1 : qq ≤ b' - a' := by rw [hqq]; exact Int.ediv_le_self _ (by omega)
  have w7 : IntKind.i64.wrap qq = qq := wrap_i64 (by omega) (by omega)
  have hspan : qq ≤ 2000 → b' - a' ≤ 1000000000 := by
    intro h
    have e := Int.mul_ediv_add_emod (b' - a') st
    rw [← hqq] at e
    have q1 := Int.emod_lt_of_pos (b' - a') (show (0 : Int) < st by omega)
    have h5 : (st : Int) * qq ≤ 86400 * 2000 := Int.mul_le_mul (by omega) h hq0 (by decide)
    omega
  simp only [← hq, ← ha', ← hb', ← hqq] at hgo
  by_cases h1 : 2000 < qq
  · rw [if_pos (.inl h1)] at hgo
    simp [f0, f5, f6, f7, f8, hle, hlt', hst0, hst0', htm, w1, w2, w3, htd, w4, w5, w6, htd2, w7, h1, hgo, alA, serL, serEls]
  by_cases h2 : 1099511714176 < b'
  · rw [if_pos (.inr h2)] at hgo
    simp [f0, f5, f6, f7, f8, hle, hlt', hst0, hst0', htm, w1, w2, w3, htd, w4, w5, w6, htd2, w7, h1, h2, hgo, alA, serL, serEls]
  have hsp := hspan (by omega)
  rw [if_neg (by omega)] at hgo
  simp [f0, f5, f6, f7, f8, hle, hlt', hst0, hst0', htm, w1, w2, w3, htd, w4, w5, w6, htd2, w7, h1, h2]
  clear hx hi hlt hlt' hsc
  obtain ⟨g, hg⟩ : ∃ g, g = alG a' st b' := ⟨_, rfl⟩
  rw [← hg] at hgo
  refine lp_startx (fun x f' σ' => ∃ (i : Nat), x = l.length - i ∧ i ≤ l.length ∧ f' 0 = .lst (serEls l) ∧ f' 5 = .int .i64 st ∧ f' 6 = .int .i64 a' ∧ f' 7 = .int .i64 b' ∧ f' 10 = .int .i64 i ∧
    ((i = 0 ∧ f' 9 = .nils) ∨ ∃ id, f' 9 = .row id i ∧ 0 < i ∧ σ'[id]? = some (.row 29 4 (serEls ((l.take i).map g)) true))) l.length ?_ ?_
  · exact ⟨0, by simp, by simp, by simp [f0], by simp [f5], by simp, by simp, by simp, .inl ⟨rfl, by simp⟩⟩
  rintro x f' σ' ⟨i, hx', hi', g0, g5, g6, g7, g10, hout⟩
  by_cases hlt : i < l.length
  · have hlt' : (i : Int) < l.length := by omega
    have hwi : IntKind.i64.wrap ((i : Int) + 1) = (i : Int) + 1 := wrap_i64 (by omega) (by omega)
    obtain ⟨y, hy⟩ : ∃ y, l[i]? = some y := ⟨_, List.getElem?_eq_getElem hlt⟩
    have hym := List.mem_of_getElem? hy
    have hse := serEls_get hy
    obtain ⟨hx1, hx2⟩ := List.getElem?_eq_some_iff.1 hse
    simp [g0, g5, g6, g7, g10, hle, hlt, hlt', hx1, hx2, splice]
    have hyR := hR y hym
    have hyo := (ho y hym).vs
    obtain ⟨c, hc⟩ : ∃ c, c = countN a' b' st := ⟨_, rfl⟩
    have hcb : c ≤ 1000000 := by
      rcases Nat.eq_zero_or_pos c with h | h
      · omega
      · have := (count_iff (a := a') (b := b') (step := st) (by omega) (c - 1)).1 (by rw [← hc]; omega)
        have e := Int.mul_ediv_add_emod (b' - a') st
        rw [← hqq] at e
        have q1 := Int.emod_lt_of_pos (b' - a') (show (0 : Int) < st by omega)
        rcases Nat.lt_or_ge 1000000 c with h6 | h6
        · exfalso
          have h7 : ((c - 1 : Nat) : Int) * st ≥ 1000000 * st := Int.mul_le_mul_of_nonneg_right (by omega) (by omega)
          have h8 : (st : Int) * qq ≤ st * 2000 := Int.mul_le_mul_of_nonneg_left (by omega) (by omega)
          omega
        · exact h6
    refine lp_startx (fun x f'' σ'' => ∃ (j : Nat), x = c - j ∧ j ≤ c ∧ f'' 0 = .lst (serEls l) ∧ f'' 5 = .int .i64 st ∧ f'' 6 = .int .i64 a' ∧ f'' 7 = .int .i64 b' ∧ f'' 10 = .int .i64 i ∧ f'' 9 = f' 9 ∧ f'' 11 = .ptr σ'.length 0 ∧ f'' 12 = .int .i64 (a' + j * st) ∧
      σ'' = σ' ++ .var 29 [.str y.name, .int .i64 a', .int .i64 st, rowV (σ'.length + 1) (numEls (slots y a' st 1 j))] :: rowE 25 2 (numEls (slots y a' st 1 j)) true) c ?_ ?_
    · exact ⟨0, by simp, by simp, by simp [g0], by simp [g5], by simp [g6], by simp [g7], by simp [g10], by simp, by simp, by simp, by simp [slots, numEls, rowV_nil, rowE_nil]⟩
    rintro x f'' σ'' ⟨j, hx'', hj, k0, k5, k6, k7, k10, k9, k11, k12, rfl⟩
    have hiff := count_iff (a := a') (b := b') (step := st) (by omega) j
    rw [← hc] at hiff
    by_cases hjt : a' + (j : Int) * st < b'
    · have hj' : j < c := hiff.2 hjt
      have hmul : 0 ≤ (j : Int) * st := Int.mul_nonneg (Int.natCast_nonneg _) (by omega)
      obtain ⟨t, ht⟩ : ∃ t, t = a' + (j : Int) * st := ⟨_, rfl⟩
      rw [← ht] at k12 hjt
      have hwt : IntKind.i64.wrap (t + st) = t + st := wrap_i64 (by omega) (by omega)
      have hnext : t + st = a' + ((j + 1 : Nat) : Int) * st := by
        rw [ht]; push_cast; rw [Int.add_mul, Int.one_mul]; omega
      have kB := between_ok (G := G) y hyR t (t + st)
      rw [srA_eq y] at kB
      have hslo := slice_ok (s := y) hyo t (t + st)
      have hsll := slice_len y t (t + st)
      have kK := rReckon_ok (G := G) 1 (slice y t (t + st)) hslo (by have := hyR.vl; omega)
      rw [numA_eq] at kK
      have hstp := slot_step y a' st 1 j
      rw [← ht] at hstp
      obtain ⟨z, hz⟩ : ∃ z, z = reckon 1 (slice y t (t + st)) := ⟨_, rfl⟩
      rw [← hz] at hstp kK
      simp [k0, k5, k7, k10, k11, k12, hjt, hx1, hx2, hwt, mid_get, mid_set]
      refine qc_any kB (by simp) ?_
      simp
      refine qc_same kK (by simp) (by simp) ?_
      simp
      refine ap_acc1 _ z ?_ ?_
      · rw [slots_len]; omega
      rw [← hstp]
      simp [k0, k5, k7, k10, k11, k12, hwt, mid_get, mid_set, splice]
      refine nx_intro (c - (j + 1)) (by omega) ⟨j + 1, rfl, by omega, by simp [k0], by simp [k5], by simp [k6], by simp [k7], by simp [k10], by simp [k9], by simp [k11], by simp [hnext], by simp [splice]⟩
    · have hjc : j = c := by
        rcases Nat.lt_or_ge j c with h | h
        · exact absurd (hiff.1 h) hjt
        · omega
      subst hjc
      have hsh := share_acc (σ := σ') (v := .var 29 [.str y.name, .int .i64 a', .int .i64 st, rowV (σ'.length + 1) (numEls (slots y a' st 1 j))]) (numEls (slots y a' st 1 j))
      have hgy : srC (g y) = [.str y.name, .int .i64 a', .int .i64 st, .lst (numEls (slots y a' st 1 j))] := by rw [hg, hc]; rfl
      have hte : serEls ((l.take (i + 1)).map g) = serEls ((l.take i).map g) ++ [srC (g y)] := by rw [List.take_add_one, hy]; simp [serEls]
      have hs1 : ∀ (σ : Store) (s : List UInt8), share1 σ (.str s) = some (.str s) := fun _ _ => by simp [share1]
      have hs2 : ∀ (σ : Store) (k : IntKind) (n : Int), share1 σ (.int k n) = some (.int k n) := fun _ _ _ => by simp [share1]
      simp [-share1, k7, k9, k11, k12, hjt, mid_get, hsh, hs1, hs2, chunks, splice]
      generalize hT : (σ' ++ Entry.var 29 [.str y.name, .int .i64 a', .int .i64 st, rowV (σ'.length + 1) (numEls (slots y a' st 1 j))] :: rowE 25 2 (numEls (slots y a' st 1 j)) true) = T
      rcases hout with ⟨hi0, g9⟩ | ⟨id, g9, hi0, hrow⟩
      · rw [g9]
        refine ap_new true [srC (g y)] (by rw [hgy]; rfl) (by decide) (by simp [srC]) (fun _ => .inl (by rw [hgy]; rfl)) (by simp) (by simp) ?_
        simp [k10, hwi]
        refine nx_intro (l.length - (i + 1)) (by omega) ⟨i + 1, rfl, by omega, by simp [k0], by simp [k5], by simp [k6], by simp [k7], by simp, .inr ⟨T.length, by simp [hi0], by omega, ?_⟩⟩
        rw [hte, hi0]
        simp [serEls]
      · rw [g9]
        obtain ⟨hlt3, _⟩ := List.getElem?_eq_some_iff.1 hrow
        have hTid : T[id]? = some (.row 29 4 (serEls ((l.take i).map g)) true) := by
          rw [← hT, List.getElem?_append_left hlt3]; exact hrow
        have hTl : id < T.length := by rw [← hT]; simp; omega
        have hsl : (serEls ((l.take i).map g)).length = i := by simp [serEls]; omega
        refine ap_row (serEls ((l.take i).map g)) [srC (g y)] true hTid (by rw [hgy]; rfl) (by decide) (by simp [srC]) (fun _ => .inl (by rw [hgy]; rfl)) hsl (by simp; omega) (by simp; omega) ?_
        simp [k10, hwi]
        refine nx_intro (l.length - (i + 1)) (by omega) ⟨i + 1, rfl, by omega, by simp [k0], by simp [k5], by simp [k6], by simp [k7], by simp, .inr ⟨id, by simp, by omega, ?_⟩⟩
        rw [hte]
        simp [hTl]
  · have hil : i = l.length := by omega
    subst hil
    have hlt' : ¬ (l.length : Int) < l.length := by omega
    rcases hout with ⟨h0, _⟩ | ⟨id, g9, _, hrow⟩
    · omega
    rw [List.take_length] at hrow
    have hz := serEls_fz σ' 0 1 (l.map g)
    have hln : (serEls (l.map g)).length = l.length := by simp [serEls]
    obtain ⟨hro1, hro2⟩ := List.getElem?_eq_some_iff.1 hrow
    simp [g0, g9, g10, hle, hlt', fin1_row, fz, hro1, hro2, hrow, hz, hln, hgo, alA, serL]
end Go.Proofs.YtjkajkhomklikaaGreatDoor
