/- Functions of many series: what groupByNode makes (the document). Functions of many series: a call of a list (the program). Functions of many series: a -/
import Derived.OpenShut
import Derived.Shelf.Vars
import Derived.Test.YtdgpnmlialmaaaaGreatDoorBn1
import Derived.Test.YtdgpnmlialmaaaaGreatDoorBn2
import Derived.Test.YtdgpnmlialmaaaaGreatDoorBn3
import Derived.Test.YtdgpnmlialmaaaaGreatDoorBn4
import Derived.Test.YtdgpnmlialmaaaaGreatDoorBn5
import Derived.Test.YtdgpnmlialmaaaaGreatDoorBn6
import Derived.Test.YtdgpnmlialmaaaaGreatDoorBn7
import Derived.Test.YtdgpnmlialmaaaaGreatDoorBn8
set_option linter.unusedSimpArgs false
set_option linter.unusedVariables false
set_option linter.constructorNameAsVariable false
section
set_option maxHeartbeats 8000000
namespace Go.Proofs.YtdgpnmlialmaaaaGreatDoor
open Go.Abs Go.Num Go.Ser Go.Ble Go.Dec Go.Shp
variable {G : Globs}
theorem txts_app1 (l : List (List UInt8)) (s : List UInt8) : txts l ++ [[.str s]] = txts (l ++ [s]) := by simp [txts]
theorem rGroups_ok (n : Nat) (hn : n ≤ 9223372036854775807) (m : Int) (l : List Sr) (hne : l ≠ []) (hl : l.length ≤ 100000) (hnm : ∀ s ∈ l, s.name.length ≤ 1000000) (ho : ∀ s ∈ l, SrOk s) :
    PCalls Tryz.prog n_isobarref26_groups [serL l, .int .i64 n, .int .i64 m] (fun r => r = alA (groupsS l n m (keysS n l []) [])) := by
  refine pcalls_of_awp hmix c_isobarref26_groups rfl ?_
  obtain ⟨R, hR⟩ : ∃ R, R = groupsS l n m (keysS n l []) [] := ⟨_, rfl⟩
  rw [← hR]
  have hle := serEls_len l
  unfold serL
  simp [a_isobarref26_groups]
  refine lp_startx (fun x f τ => ∃ (i : Nat) (KV : AV), x = l.length - i ∧ i ≤ l.length ∧ f 0 = .lst (serEls l) ∧ f 1 = .int .i64 n ∧ f 2 = .int .i64 m ∧ f 8 = KV ∧ f 9 = .int .i64 i ∧ AccT 9 1 0 τ KV (txts (keysS n (l.take i) []))) l.length ?_ ?_
  · exact ⟨0, .nils, by simp, by simp, by simp, by simp, by simp, by simp, by simp, accT_nil⟩
  rintro x f τ ⟨i, KV, hx, hi, f0, f1, f2, f8, f9, hacc⟩
  simp [f0, f9, hle]
  refine cb_dec (fun hlt => ?_) (fun hge => ?_)
  · have hlti : i < l.length := by omega
    have hwi : IntKind.i64.wrap ((i : Int) + 1) = ((i + 1 : Nat) : Int) := by rw [wrap_i64 (by omega) (by omega)]; omega
    obtain ⟨y, hy⟩ : ∃ y, l[i]? = some y := ⟨_, List.getElem?_eq_getElem hlti⟩
    have hse := serEls_get hy
    obtain ⟨hx1, hx2⟩ := List.getElem?_eq_some_iff.1 hse
    have kP := rPiece_ok (G := G) y.name (hnm y (List.mem_of_getElem? hy)) n hn
    have hks := keysS_snoc n y (l.take i) []
    rw [← take_snoc hy] at hks
    obtain ⟨k, hk⟩ : ∃ k, k = pieceS y.name n := ⟨_, rfl⟩
    rw [← hk] at kP hks
    have hkl := keysS_len n (l.take i) []
    rw [List.length_take] at hkl
    obtain ⟨ks, hks0⟩ : ∃ ks, ks = keysS n (l.take i) [] := ⟨_, rfl⟩
    rw [← hks0] at hacc hks hkl
    have hkl2 : ks.length ≤ 100000 := by simp at hkl; omega
    have htl := txts_len ks
    have hview := hacc.view0
    simp [f0, f1, f9, hse, hx1, hx2]
    refine ac_same kP (by simp) ?_
    rintro r rfl
    simp
    refine lp_startx (fun x f' τ' => ∃ j : Nat, x = ks.length - j ∧ j ≤ ks.length ∧ f' 0 = .lst (serEls l) ∧ f' 1 = .int .i64 n ∧ f' 2 = .int .i64 m ∧ f' 8 = KV ∧ f' 9 = .int .i64 i ∧ f' 10 = .str k ∧ f' 11 = .bool (decide (k ∈ ks.take j)) ∧ f' 12 = .int .i64 j ∧ τ' = τ) ks.length ?_ ?_
    · exact ⟨0, by simp, by simp, by simp [f0], by simp [f1], by simp [f2], by simp [f8], by simp [f9], by simp, by simp, by simp, rfl⟩
    rintro x f' τ' ⟨j, hx', hj, g0, g1, g2, g8, g9, g10, g11, g12, rfl⟩
    simp [g8, g12, hview, htl]
    refine cb_dec (fun hlt2 => ?_) (fun hge2 => ?_)
    · have hltj : j < ks.length := by omega
      have hwj : IntKind.i64.wrap ((j : Int) + 1) = ((j + 1 : Nat) : Int) := by rw [wrap_i64 (by omega) (by omega)]; omega
      obtain ⟨c, hc⟩ : ∃ c, ks[j]? = some c := ⟨_, List.getElem?_eq_getElem hltj⟩
      have htg : (txts ks)[j]? = some [.str c] := by simp [txts, hc]
      obtain ⟨ht1, ht2⟩ := List.getElem?_eq_some_iff.1 htg
      have hst : (k ∈ ks.take (j + 1)) ↔ (k ∈ ks.take j ∨ c = k) := by
        rw [List.take_add_one, hc]; simp [eq_comm]
      rcases hacc with ⟨h1, _⟩ | ⟨h1, p, rfl, hp⟩
      · have : (txts ks).length = 0 := by rw [h1]; rfl
        omega
      simp only [Nat.zero_add, htl] at g8
      by_cases hm : k ∈ ks.take j
      · have hd : decide (k ∈ ks.take (j + 1)) = true := by rw [decide_eq_true_eq]; exact hst.2 (.inl hm)
        simp [g8, g10, g11, g12, hm, hwj]
        exact nx_intro (ks.length - (j + 1)) (by omega) ⟨j + 1, rfl, by omega, by simp [g0], by simp [g1], by simp [g2], by simp [g8, htl], by simp [g9], by simp [g10], by rw [hd]; simp, by simp, rfl⟩
      · have hd : decide (k ∈ ks.take (j + 1)) = decide (c = k) := by
          rw [decide_eq_decide, hst]; simp [hm]
        simp [g8, g10, g11, g12, hm, hp, htl, htg, ht1, ht2, hltj, hwj]
        exact nx_intro (ks.length - (j + 1)) (by omega) ⟨j + 1, rfl, by omega, by simp [g0], by simp [g1], by simp [g2], by simp [g8, htl], by simp [g9], by simp [g10], by rw [hd]; simp, by simp, rfl⟩
    · have hjl : j = ks.length := by omega
      rw [hjl, List.take_length] at g11
      by_cases hm : k ∈ ks
      · rw [if_pos hm] at hks
        simp [g9, g11, hm, hwi]
        exact nx_intro (l.length - (i + 1)) (by omega) ⟨i + 1, KV, rfl, by omega, by simp [g0], by simp [g1], by simp [g2], by simp [g8], by simp, by rw [hks]; exact hacc⟩
      · rw [if_neg hm] at hks
        simp [g8, g10, g11, hm]
        refine ap_acc0 (bytes := 16) hacc [.str k] (by decide) rfl (by rw [htl]; omega) (by rw [htl]; omega) fun V' τ'' hacc' hlen hkeep => ?_
        rw [txts_app1] at hacc'
        simp [g9, hwi]
        exact nx_intro (l.length - (i + 1)) (by omega) ⟨i + 1, V', rfl, by omega, by simp [g0], by simp [g1], by simp [g2], by simp, by simp, by rw [hks]; exact hacc'⟩
  · have hil : i = l.length := by omega
    subst hil
    rw [List.take_length] at hacc
    have hkl : (keysS n l []).length ≤ 100000 := by
      have := keysS_len n l []
      simp at this; omega
    obtain ⟨hk0, p, rfl, hp⟩ := hacc.resolve_left (fun h => keys_ne (n := n) hne (by
      have := h.1
      simpa [txts] using this))
    obtain ⟨ks, hks⟩ : ∃ ks, ks = keysS n l [] := ⟨_, rfl⟩
    have hkne : ∀ k ∈ ks, partG n l k ≠ [] := fun k hk => partG_ne (by rw [← hks]; exact hk)
    rw [← hks] at hp hkl hR f8
    have htl := txts_len ks
    simp only [Nat.zero_add, htl] at f8
    simp
    obtain ⟨Q, hQ⟩ : ∃ Q : Store, Q = τ := ⟨_, rfl⟩
    rw [← hQ] at hp ⊢
    have hQp : ∀ t : Store, (Q ++ t)[p]? = some (.row 9 1 (txts ks) true) := fun t => by rw [List.getElem?_append_left (List.getElem?_eq_some_iff.1 hp).1]; exact hp
    refine lp_startx (fun x f' σ' => ∃ (j : Nat) (V : AV) (O : List Sr) (t : Store), x = ks.length - j ∧ j ≤ ks.length ∧ f' 0 = .lst (serEls l) ∧ f' 1 = .int .i64 n ∧ f' 2 = .int .i64 m ∧ f' 8 = .row p ks.length ∧ f' 13 = V ∧ f' 14 = .int .i64 j ∧ R = groupsS l n m (ks.drop j) O ∧ O.length = j ∧
      AccT 41 4 Q.length t V (serEls O) ∧ σ' = Q ++ t) ks.length ?_ ?_
    · exact ⟨0, .nils, [], [], by simp, by simp, by simp [f0], by simp [f1], by simp [f2], by simp [f8], by simp, by simp, by rw [hR]; rfl, rfl, accT_nil, by simp⟩
    rintro x f' σ' ⟨j, V, O, t, hx', hj, g0, g1, g2, g8, g13, g14, hRj, hOl, haccO, rfl⟩
    simp [g8, g14, hQp, htl]
    refine cb_dec (fun hlt2 => ?_) (fun hge2 => ?_)
    · have hltj : j < ks.length := by omega
      have hwj : IntKind.i64.wrap ((j : Int) + 1) = ((j + 1 : Nat) : Int) := by rw [wrap_i64 (by omega) (by omega)]; omega
      obtain ⟨k, hk⟩ : ∃ k, ks[j]? = some k := ⟨_, List.getElem?_eq_getElem hltj⟩
      have hkm := List.mem_of_getElem? hk
      have htg : (txts ks)[j]? = some [.str k] := by simp [txts, hk]
      obtain ⟨ht1, ht2⟩ := List.getElem?_eq_some_iff.1 htg
      have hdr : ks.drop j = k :: ks.drop (j + 1) := by
        obtain ⟨hq1, hq2⟩ := List.getElem?_eq_some_iff.1 hk
        rw [← hq2]; exact List.drop_eq_getElem_cons hq1
      rw [hdr, groupsS] at hRj
      have hRj' : R = match alS (partG n l k) with
        | (a, 0) => groupsS l n m (ks.drop (j + 1)) (O ++ [oneG k (reckon m) a])
        | (_, e) => ([], e) := hRj
      have hpne := hkne k hkm
      have hpo : ∀ s ∈ partG n l k, SrOk s := fun s hs => ho s (partG_mem hs)
      have hpl : (partG n l k).length ≤ 100000 := Nat.le_trans (partG_len n l k) hl
      have kA := rAlign_ok (G := G) (partG n l k) (by omega) hpo
      obtain ⟨P, hP⟩ : ∃ P, P = Q ++ t := ⟨_, rfl⟩
      have hPp : ∀ t' : Store, (P ++ t')[p]? = some (.row 9 1 (txts ks) true) := fun t' => by rw [hP, List.append_assoc]; exact hQp _
      rw [← hP]
      simp
      refine lp_startx (fun x f'' σ' => ∃ (i : Nat) (W : AV) (t2 : Store), x = l.length - i ∧ i ≤ l.length ∧ f'' 0 = .lst (serEls l) ∧ f'' 1 = .int .i64 n ∧ f'' 2 = .int .i64 m ∧ f'' 8 = .row p ks.length ∧ f'' 13 = V ∧ f'' 14 = .int .i64 j ∧ f'' 15 = W ∧ f'' 16 = .int .i64 i ∧
        AccT 41 4 P.length t2 W (serEls (partG n (l.take i) k)) ∧ σ' = P ++ t2) l.length ?_ ?_
      · exact ⟨0, .nils, [], by simp, by simp, by simp [g0], by simp [g1], by simp [g2], by simp [g8], by simp [g13], by simp [g14], by simp, by simp, accT_nil, by simp⟩
      rintro x f'' σ' ⟨i, W, t2, hx2, hi2, h0, h1, h2, h8, h13, h14, h15, h16, hacc2, rfl⟩
      simp [h0, h16, hle]
      refine cb_dec (fun hlt3 => ?_) (fun hge3 => ?_)
      · have hlti : i < l.length := by omega
        have hwi : IntKind.i64.wrap ((i : Int) + 1) = ((i + 1 : Nat) : Int) := by rw [wrap_i64 (by omega) (by omega)]; omega
        obtain ⟨y, hy⟩ : ∃ y, l[i]? = some y := ⟨_, List.getElem?_eq_getElem hlti⟩
        have hse := serEls_get hy
        obtain ⟨hx1, hx2⟩ := List.getElem?_eq_some_iff.1 hse
        have kP := rPiece_ok (G := G) y.name (hnm y (List.mem_of_getElem? hy)) n hn
        have hps := partG_snoc n (l.take i) y k
        rw [← take_snoc hy] at hps
        have hpl2 : (serEls (partG n (l.take i) k)).length ≤ 100000 := by
          rw [serEls_len]
          have := partG_len n (l.take i) k
          rw [List.length_take] at this; omega
        simp [h0, h1, h8, h14, h16, hse, hx1, hx2]
        refine qc_same kP (by simp) (by simp [rig]) ?_
        by_cases he : pieceS y.name n = k
        · rw [if_pos he] at hps
          simp [h0, h8, h14, h15, h16, hPp, htl, htg, ht1, ht2, hltj, he, hse, hx1, hx2]
          refine ap_accT (bytes := 56) hacc2 [.str y.name, .int .i64 y.start, .int .i64 y.step, .lst (numEls y.vals)] (by decide) rfl (by omega) (by omega) fun W' t3 hacc3 hlen hkeep => ?_
          simp [h16, hwi]
          refine nx_intro (l.length - (i + 1)) (by omega) ⟨i + 1, W', t3, rfl, by omega, by simp [h0], by simp [h1], by simp [h2], by simp [h8], by simp [h13], by simp [h14], by simp, by simp, ?_, rfl⟩
          rw [hps]
          simpa [serEls, srC] using hacc3
        · rw [if_neg he] at hps
          simp [h0, h8, h14, h15, h16, hPp, htl, htg, ht1, ht2, hltj, he, hwi]
          exact nx_intro (l.length - (i + 1)) (by omega) ⟨i + 1, W, t2, rfl, by omega, by simp [h0], by simp [h1], by simp [h2], by simp [h8], by simp [h13], by simp [h14], by simp [h15], by simp, by rw [hps]; exact hacc2, rfl⟩
      · have hil : i = l.length := by omega
        subst hil
        rw [List.take_length] at hacc2
        have hco := hacc2.coe false
        unfold serL at kA
        simp [h15]
        refine ac_pure kA (.cons hco .nil) ?_
        rintro r rfl
        obtain ⟨a, e, hal⟩ : ∃ a e, alS (partG n l k) = (a, e) := ⟨_, _, rfl⟩
        rw [hal] at hRj'
        by_cases he : e = 0
        rotate_left
        · have hz : R = ([], e) := by
            rw [hRj']
            cases e with
            | zero => exact absurd rfl he
            | succ e => rfl
          have he' : ¬ (e : Int) = 0 := by omega
          simp [alA, hal, he, he', hz, serL, serEls]
        subst he
        simp only at hRj'
        obtain ⟨s0, a', ha, hav, hao, har, hal2, _⟩ := al_facts hpo hpne hal
        have hs0r := har s0 (by rw [ha]; simp)
        have h00 : a[0]? = some s0 := by rw [ha]; rfl
        have hse0 := serEls_get h00
        obtain ⟨hz1, hz2⟩ := List.getElem?_eq_some_iff.1 hse0
        obtain ⟨c, hc⟩ : ∃ c, c = s0.vals.length := ⟨_, rfl⟩
        have hcl := numEls_len s0.vals
        rw [← hc] at hcl
        have hc2 : c ≤ 2000 := by rw [hc]; exact hs0r.vl
        have hvl0 : (numEls s0.vals).length = c := hcl
        obtain ⟨F, hF⟩ : ∃ F : Nat → N, F = fun q => reckon m (togN a q) := ⟨_, rfl⟩
        have hG : oneG k (reckon m) a = ⟨k, s0.start, s0.step, (List.range c).map F⟩ := by rw [ha, hF, hc, ha]; rfl
        rw [hG] at hRj'
        have hle0 := serEls_len a
        obtain ⟨S, hS⟩ : ∃ S, S = P ++ t2 := ⟨_, rfl⟩
        have hSp : ∀ t' : Store, (S ++ t')[p]? = some (.row 9 1 (txts ks) true) := fun t' => by rw [hS, List.append_assoc]; exact hPp _
        have hSp0 : S[p]? = some (.row 9 1 (txts ks) true) := by have := hSp []; simpa using this
        rw [← hS]
        simp [alA, hal, serL, h8, h14, hSp0, htl, htg, ht1, ht2, hltj, hse0, hz1, hz2, tail_get, tail_set, splice]
        refine lp_startx (fun x f3 σ' => ∃ (q : Nat) (W2 : AV) (t3 : Store), x = c - q ∧ q ≤ c ∧ f3 0 = .lst (serEls l) ∧ f3 1 = .int .i64 n ∧ f3 2 = .int .i64 m ∧ f3 8 = .row p ks.length ∧ f3 13 = V ∧ f3 14 = .int .i64 j ∧ f3 17 = .lst (serEls a) ∧ f3 19 = .ptr S.length 0 ∧ f3 20 = .int .i64 q ∧
          AccT 35 2 (S.length + 1) t3 W2 (numEls ((List.range q).map F)) ∧ σ' = S ++ .var 41 [.str k, .int .i64 s0.start, .int .i64 s0.step, W2] :: t3) c ?_ ?_
        · exact ⟨0, .nils, [], by simp, by simp, by simp [h0], by simp [h1], by simp [h2], by simp [h8], by simp [h13], by simp [h14], by simp, by simp, by simp, accT_nil, by simp⟩
        rintro x f3 σ' ⟨q, W2, t3, hx3, hq, e0, e1, e2, e8, e13, e14, e17, e19, e20, hacc3, rfl⟩
        simp [e17, e20, hse0, hz1, hz2, hvl0]
        refine cb_dec (fun hlt4 => ?_) (fun hge4 => ?_)
        · have hltq : q < c := by omega
          have hwq : IntKind.i64.wrap ((q : Int) + 1) = ((q + 1 : Nat) : Int) := by rw [wrap_i64 (by omega) (by omega)]; omega
          have kT := rTogether_ok (G := G) a q (by omega) (fun s hs => by rw [(hav s hs).1]; omega) (by omega)
          have kR := rReckon_ok (G := G) m (togN a q) (oksN_tog hao q) (by rw [togN_len]; omega)
          obtain ⟨z, hz⟩ : ∃ z, z = reckon m (togN a q) := ⟨_, rfl⟩
          have hFq : F q = z := by rw [hF, hz]
          rw [← hz, numA_eq] at kR
          have hWl : (numEls ((List.range q).map F)).length = q := by rw [numEls_len]; simp
          unfold serL at kT
          simp [e2, e17, e19, e20, pre_get0, pre_set0]
          refine qc_any kT (by simp) ?_
          simp
          refine qc_same kR (by simp) (by simp [rig]) ?_
          simp
          refine Abs.ap_acc1 (bytes := 16) hacc3 [.bool z.1, .int .i64 z.2] (by decide) rfl (by rw [hWl]; omega) (by rw [hWl]; omega) fun W' t4 hacc4 hlen => ?_
          obtain ⟨c1, c2, c3⟩ := hacc4.pos
          have hr : numEls ((List.range q).map F) ++ [[.bool z.1, .int .i64 z.2]] = numEls ((List.range (q + 1)).map F) := by rw [List.range_succ, List.map_append, List.map_singleton, hFq, ← numEls_app1]
          rw [hr] at hacc4
          simp [e19, e20, hwq, pre_get0, pre_set0, splice, c1, c2]
          exact nx_intro (c - (q + 1)) (by omega) ⟨q + 1, W', t4, rfl, by omega, by simp [e0], by simp [e1], by simp [e2], by simp [e8], by simp [e13], by simp [e14], by simp [e17], by simp [e19], by simp, hacc4, rfl⟩
        · have hqc : q = c := by omega
          subst hqc
          obtain ⟨c1, c2, c3⟩ := hacc3.pos
          have hsh : share1 (S ++ Entry.var 41 [.str k, .int .i64 s0.start, .int .i64 s0.step, W2] :: t3) W2 = some (.lst (numEls ((List.range q).map F))) := by
            rw [← app1]; exact AccT.share (accT1 hacc3)
          have hOe : (serEls O).length = j := by rw [serEls_len]; exact hOl
          have eS : ∀ t' : Store, S ++ t' = Q ++ (t ++ (t2 ++ t')) := fun t' => by rw [hS, hP]; simp
          simp [e13, e19, pre_get0, pre_set0, splice, c1, c2, hsh, -share1, share1_str, share1_int]
          rw [eS]
          refine ap_accT (bytes := 56) (haccO.more _) [.str k, .int .i64 s0.start, .int .i64 s0.step, .lst (numEls ((List.range q).map F))] (by decide) rfl (by omega) (by omega) fun V' t5 hacc5 hlen hkeep => ?_
          simp [e14, hwj]
          refine nx_intro (ks.length - (j + 1)) (by omega) ⟨j + 1, V', O ++ [⟨k, s0.start, s0.step, (List.range q).map F⟩], t5, rfl, by omega, by simp [e0], by simp [e1], by simp [e2], by simp [e8], by simp, by simp, hRj', by simp [hOl], ?_, rfl⟩
          simpa [serEls, srC] using hacc5
    · have hjl : j = ks.length := by omega
      subst hjl
      rw [List.drop_length, groupsS] at hRj
      have hf1 := haccO.finT 0
      simp [g13, hf1, hRj, alA, serL]
end Go.Proofs.YtdgpnmlialmaaaaGreatDoor
end
section
set_option maxHeartbeats 8000000
namespace Go.Proofs.YtdgpnmlialmaaaaGreatDoor
open Go.Abs Go.Num Go.Ser Go.Dec Go.Shp Go.Ble
variable {G : Globs}
theorem check_bd {w : Cw} {l : List Sr} {args : List N} {text : List UInt8} {n m : Int} (h : checkB w l args text = some (n, m)) : 0 ≤ n ∧ n ≤ 1099511627776 := by
  by_cases hg : w = .group
  · subst hg
    have hcb : checkB .group l args text = match methodS text, wholeS (args.headD nothing) 0 1099511627776 with
      | some m, some n => some (n, m)
      | _, _ => none := rfl
    rw [hcb] at h
    cases hms : methodS text with
    | none => rw [hms] at h; cases h
    | some m' =>
      rw [hms] at h
      cases hws : wholeS (args.headD nothing) 0 1099511627776 with
      | none => rw [hws] at h; cases h
      | some n' =>
        rw [hws] at h
        cases h
        unfold wholeS at hws
        split at hws
        · rename_i h; cases hws; exact h.2
        · cases hws
  · have : n = 0 := by
      cases w <;> simp [checkB] at h <;> first | exact absurd rfl hg | omega
    omega
theorem check_two {l : List Sr} {args : List N} {text : List UInt8} {p : Int × Int} (h : checkB .divide l args text = some p) : l.length = 2 := by
  simp only [checkB] at h
  split at h
  · assumption
  · cases h
theorem cw_txt_eq {a b : Cw} : (a.txt = b.txt) ↔ a = b := ⟨cw_inj, fun h => by rw [h]⟩
theorem apply1_ok (s : Sr) (h : SrOk s) : PCalls Tryz.prog n_blend_Apply_1 [srA s] (fun r => r = .bool (!rightS s)) := by
  refine pcalls_of_awp hmix c_blend_Apply_1 rfl ?_
  have k := sRight_ok (G := G) s h
  rw [srA_eq] at k ⊢
  simp [a_blend_Apply_1]
  refine ac_same k (by simp) ?_
  rintro r rfl
  simp
theorem apply2_ok (w : Cw) (hw : w ≠ .percent ∧ w ≠ .group) (args l : List N) (ha : oksN args) (hok : oksN l) (hl : l.length ≤ 1000000000) (h1 : w = .percentile → args ≠ []) (h2 : w = .diff → l ≠ []) (h3 : w = .divide → 2 ≤ l.length) :
    PCalls Tryz.prog n_blend_Apply_2 [.lst (numEls l), .rptr [.str w.txt], .rptr [.lst (numEls args)]] (fun r => r = numA (valueS w args l)) := by
  refine pcalls_of_awp hmix c_blend_Apply_2 rfl ?_
  have k := bValue_ok (G := G) w hw args l ha hok hl h1 h2 h3
  obtain ⟨z, hz⟩ : ∃ z, z = valueS w args l := ⟨_, rfl⟩
  rw [← hz, numA_eq] at k
  rw [← hz]
  simp [a_blend_Apply_2]
  refine ac_same k (by simp) ?_
  rintro r rfl
  simp [splice, numA]
theorem bApply_ok [GSpc] [GPow] [GMaxL] (call : List UInt8) (l : List Sr) (args : List N) (text : List UInt8) (hl : l.length ≤ 9223372036854775807) (ho : ∀ s ∈ l, SrOk s) (hal : args.length ≤ 9223372036854775807) (hao : oksN args) :
    PCalls Tryz.prog n_blend_Apply [.str call, serL l, .lst (numEls args), .str text] (fun r => r = alA (applyB call l args text)) := by
  refine pcalls_of_awp hmix c_blend_Apply rfl ?_
  have hle := serEls_len l
  have hla := numEls_len args
  have kT := bTakes_ok (G := G) call
  have kc := containsS_ok (G := G) l hl (fun s => !rightS s) n_blend_Apply_1 b_blend_Apply_1 (fun n hn => apply1_ok n (ho n hn))
  have kU := contains_ok (G := G) args (by omega) (fun n => !good n) n_blend_unknown b_blend_unknown (fun n hn => bUnknown_ok n (hao n hn))
  obtain ⟨R, hR0⟩ : ∃ R, R = applyB call l args text := ⟨_, rfl⟩
  rw [← hR0]
  unfold applyB at hR0
  unfold takesBA at kT
  unfold serL at kc ⊢
  simp [a_blend_Apply]
  refine ac_same kT (by cases cwOf call <;> simp) ?_
  rintro r rfl
  cases hcw : cwOf call with
  | none =>
    rw [hcw] at hR0
    simp [hR0, alA, serL, serEls]
  | some w =>
    rw [hcw] at hR0
    have hwt := cwOf_some hcw
    subst hwt
    simp only at hR0
    simp
    refine ac_same kc (by simp) ?_
    rintro r rfl
    cases hany : l.any fun s => !rightS s with
    | true =>
      rw [if_pos hany] at hR0
      simp [hR0, alA, serL, serEls]
    | false =>
      rw [if_neg (by simp [hany])] at hR0
      have hSR : ∀ s ∈ l, SrR s := fun s hs => right_iff.1 (by have := List.any_eq_false.1 hany s hs; simpa using this)
      by_cases h128 : 128 < l.length
      · rw [if_pos h128] at hR0
        have h128' : (128 : Int) < l.length := by omega
        simp [hle, h128, h128', hR0, alA, serL, serEls]
      rw [if_neg h128] at hR0
      have h128' : ¬ (128 : Int) < l.length := by omega
      have h21 : args.length = w.takes.1 → (w = .percentile ∨ w = .group → args ≠ []) := by
        intro h hw he
        subst he
        rcases hw with rfl | rfl <;> simp [Cw.takes] at h
      obtain ⟨tk1, htk1⟩ : ∃ t, t = w.takes.1 := ⟨_, rfl⟩
      obtain ⟨tk2, htk2⟩ : ∃ t, t = w.takes.2 := ⟨_, rfl⟩
      rw [← htk1] at h21
      rw [← htk1, ← htk2] at hR0 ⊢
      by_cases hn : args.length = tk1
      rotate_left
      · rw [if_pos (.inl hn)] at hR0
        have hn' : ¬ (args.length : Int) = tk1 := by omega
        simp [hle, h128, h128', hla, hn, hn', hR0, alA, serL, serEls]
      have hne := h21 hn
      simp [hle, h128, h128', hla, hn]
      refine ac_same kU (by simp) ?_
      rintro r rfl
      cases hag : args.any fun n => !good n with
      | true =>
        rw [if_pos (.inr (.inl hag))] at hR0
        simp [hR0, alA, serL, serEls]
      | false =>
      by_cases htx : text ≠ [] ∧ tk2 = false
      · rw [if_pos (.inr (.inr htx))] at hR0
        obtain ⟨ht1, ht2⟩ := htx
        simp [ht1, ht2, hR0, alA, serL, serEls]
      rw [if_neg (by
        rintro (h | h | h)
        · exact h hn
        · rw [hag] at h; cases h
        · exact htx h)] at hR0
      have kC := bChecked_ok (G := G) w l args text hao hne
      have htx' : text = [] ∨ (text ≠ [] ∧ tk2 = true) := by
        by_cases h : text = []
        · exact .inl h
        · refine .inr ⟨h, ?_⟩
          cases h2 : tk2 with
          | true => rfl
          | false => exact absurd ⟨h, h2⟩ htx
      unfold serL at kC
      obtain ⟨ch, hch⟩ : ∃ ch, ch = checkB w l args text := ⟨_, rfl⟩
      unfold checkR at kC
      rw [← hch] at kC hR0
      rcases htx' with rfl | ⟨ht, ht2⟩
      all_goals (
        first | simp [ht, ht2] | simp
        refine ac_same kC (by simp) ?_
        rintro r ⟨a, b, rfl, hab⟩
        cases hc2 : ch with
        | none =>
          rw [hc2] at hR0
          simp [hR0, alA, serL, serEls, splice]
        | some nm =>
        obtain ⟨n, m⟩ := nm
        rw [hc2] at hR0 hab
        obtain ⟨rfl, rfl⟩ := hab _ _ rfl
        have hbd := check_bd (hch.symm.trans hc2)
        simp only at hR0
        by_cases hnil : l = []
        · rw [if_pos hnil] at hR0
          subst hnil
          simp [hR0, alA, serL, serEls, splice]
        rw [if_neg hnil] at hR0
        have hlp := List.length_pos_iff.2 hnil
        have hl0 : ¬ (l.length : Int) = 0 := by omega
        have hl0' : ¬ l.length = 0 := by omega
        have hgt : w.txt = [103, 114, 111, 117, 112, 66, 121, 78, 111, 100, 101] ↔ w = .group := cw_txt_eq (b := .group)
        have hpt : w.txt = [97, 115, 80, 101, 114, 99, 101, 110, 116] ↔ w = .percent := cw_txt_eq (b := .percent)
        by_cases hwg : w = .group
        · rw [if_pos hwg] at hR0
          have kG := bGrouped_ok (G := G) a.toNat (by omega) b l hnil (by omega) (fun s hs => by have := (hSR s hs).nm; omega) ho
          rw [← hR0, Int.toNat_of_nonneg hbd.1] at kG
          unfold serL at kG
          simp [hle, hnil, hl0, hl0', hwg, Cw.txt, splice]
          refine ac_same kG (by simp) ?_
          rintro r rfl
          simp [alA, serL]
        rw [if_neg hwg] at hR0
        have kA := align_ok (G := G) l hl ho
        unfold serL at kA
        simp [hle, hnil, hl0, hl0', hgt, hwg, splice]
        refine ac_same kA (by simp) ?_
        rintro r rfl
        obtain ⟨al, e, hal2⟩ : ∃ al e, alS l = (al, e) := ⟨_, _, rfl⟩
        rw [hal2] at hR0
        by_cases he : e = 0
        rotate_left
        · have hz : R = ([], e) := by
            rw [hR0]
            cases e with
            | zero => exact absurd rfl he
            | succ e => rfl
          have he' : ¬ (e : Int) = 0 := by omega
          simp [alA, hal2, he, he', hz, serL, serEls]
        subst he
        simp only at hR0
        obtain ⟨s0, a', ha, hav, haso, har, hall, hanm⟩ := al_facts ho hnil hal2
        have hs0r := har s0 (by rw [ha]; simp)
        by_cases hwp : w = .percent
        · rw [if_pos hwp] at hR0
          have kP := bPercent_ok (G := G) s0 a' (by rw [ha] at hall; omega) (fun s hs => (hav s (by rw [ha]; exact hs)).1) (by have := hs0r.vl; omega) (fun s hs => haso s (by rw [ha]; exact hs)) (fun s hs => by have := (har s (by rw [ha]; exact hs)).nm; omega)
          rw [← ha, ← hR0] at kP
          unfold serL at kP
          simp [alA, hal2, serL, hwp, Cw.txt]
          refine ac_same kP (by simp) ?_
          rintro r rfl
          simp [alA, serL]
        rw [if_neg hwp] at hR0
        have htk : tk1 ≤ 1 := by rw [htk1]; cases w <;> decide
        have kL := bLabel_ok (G := G) w l args (by omega) (fun s hs => by have := (hSR s hs).nm; omega) (by omega) hao
        unfold serL at kL
        simp [alA, hal2, serL, hpt, hwp]
        refine ac_same kL (by simp) ?_
        rintro r rfl
        by_cases hbig : 400 < (nameB w l args).length
        · rw [if_pos hbig] at hR0
          have hbig' : (400 : Int) < (nameB w l args).length := by omega
          simp [hbig, hbig', hR0, serEls]
        rw [if_neg hbig] at hR0
        have hbig' : ¬ (400 : Int) < (nameB w l args).length := by omega
        have hall2 : al.length = l.length := by have := congrArg List.length hanm; simpa using this
        have hper : w = .percentile → args ≠ [] := fun h => hne (.inl h)
        have kA2 := fun k (hk : k < s0.vals.length) => apply2_ok (G := G) w ⟨hwp, hwg⟩ args (togN al k) hao (oksN_tog haso k) (by rw [togN_len]; omega) hper (fun _ h => by
          have := congrArg List.length h
          rw [togN_len, hall2] at this
          exact hl0' this) (fun h => by
          rw [togN_len, hall2]
          subst h
          exact Nat.le_of_eq (check_two (hch.symm.trans hc2)).symm)
        obtain ⟨fv, hfv⟩ : ∃ fv, fv = valueS w args := ⟨_, rfl⟩
        rw [← hfv] at kA2 hR0
        rw [ha] at kA2 hR0
        have kT := fun σ : Store => fun h => bTogether_ok (G := G) (nameB w l args) s0 a' (by rw [ha] at hall; simp at hall; omega) (fun s hs => (hav s (by rw [ha]; exact hs)).1) (by have := hs0r.vl; omega) fv n_blend_Apply_2 b_blend_Apply_2 σ [.ptr 0 0, .ptr 1 0] [.rptr [.str w.txt], .rptr [.lst (numEls args)]] h (fun k hk => kA2 k hk)
        obtain ⟨g, hg⟩ : ∃ g, g = oneG (nameB w l args) fv (s0 :: a') := ⟨_, rfl⟩
        rw [← hg] at hR0 kT
        rw [ha]
        unfold serL at kT
        simp [hbig, hbig']
        refine ac_eff (kT _ fun τ => .cons (coe_ptr (t := 9) (by simp) (by simp) (by simp [AV.one])) (.cons (coe_ptr (t := 22) (by simp) (by simp) (by simp [AV.one])) .nil)) ?_
        rintro r σ' ⟨rfl, rfl⟩
        simp [hR0, srA_eq, serEls, srC, lay, splice, chunks])
end Go.Proofs.YtdgpnmlialmaaaaGreatDoor
end
section
set_option maxHeartbeats 16000000
namespace Go.Proofs.YtdgpnmlialmaaaaGreatDoor
open Go.Abs Go.Num Go.Ser Go.Ble Go.Dec Go.Shp
variable {G : Globs}
theorem any_take_right {l : List Sr} {i : Nat} (h : ∀ s ∈ l.take i, rightS s = true) {y : Sr} (hy : l[i]? = some y) (hr : rightS y = true) : ∀ s ∈ l.take (i + 1), rightS s = true := by
  intro s hs
  rw [List.take_add_one, hy] at hs
  rcases List.mem_append.1 hs with hs | hs
  · exact h s hs
  · simp at hs; subst hs; exact hr
theorem rbApply_ok (call : List UInt8) (l : List Sr) (args : List N) (text : List UInt8) (hl : l.length ≤ 9223372036854775807) (ho : ∀ s ∈ l, SrOk s) (hal : args.length ≤ 9223372036854775807) (hao : oksN args) :
    PCalls Tryz.prog n_isobarref26_Apply [.str call, serL l, .lst (numEls args), .str text] (fun r => r = alA (applyB call l args text)) := by
  refine pcalls_of_awp hmix c_isobarref26_Apply rfl ?_
  have hle := serEls_len l
  have hla := numEls_len args
  have kT := rbTakes_ok (G := G) call
  obtain ⟨R, hR0⟩ : ∃ R, R = applyB call l args text := ⟨_, rfl⟩
  rw [← hR0]
  unfold applyB at hR0
  unfold takesBA at kT
  unfold serL
  simp [a_isobarref26_Apply]
  refine ac_same kT (by cases cwOf call <;> simp) ?_
  rintro r rfl
  cases hcw : cwOf call with
  | none =>
    rw [hcw] at hR0
    simp [hR0, alA, serL, serEls]
  | some w =>
    rw [hcw] at hR0
    have hwt := cwOf_some hcw
    subst hwt
    simp only at hR0
    obtain ⟨tk1, htk1⟩ : ∃ t, t = w.takes.1 := ⟨_, rfl⟩
    obtain ⟨tk2, htk2⟩ : ∃ t, t = w.takes.2 := ⟨_, rfl⟩
    have h21 : args.length = w.takes.1 → (w = .percentile ∨ w = .group → args ≠ []) := by
      intro h hw he
      subst he
      rcases hw with rfl | rfl <;> simp [Cw.takes] at h
    rw [← htk1] at h21
    rw [← htk1, ← htk2] at hR0
    simp [← htk1, ← htk2]
    refine lp_startx (fun x f σ => ∃ i : Nat, x = l.length - i ∧ i ≤ l.length ∧ (∀ s ∈ l.take i, rightS s = true) ∧ f 0 = .str w.txt ∧ f 1 = .lst (serEls l) ∧ f 2 = .lst (numEls args) ∧ f 3 = .str text ∧ f 10 = .int .i64 tk1 ∧ f 11 = .bool tk2 ∧ f 13 = .int .i64 i ∧ σ = []) l.length ?_ ?_
    · exact ⟨0, by simp, by simp, by simp, by simp, by simp, by simp, by simp, by simp, by simp, by simp, rfl⟩
    rintro x f σ ⟨i, hx, hi, hrg, f0, f1, f2, f3, f10, f11, f13, rfl⟩
    simp [f1, f13, hle]
    refine cb_dec (fun hlt => ?_) (fun hge => ?_)
    · have hlti : i < l.length := by omega
      have hwi : IntKind.i64.wrap ((i : Int) + 1) = ((i + 1 : Nat) : Int) := by rw [wrap_i64 (by omega) (by omega)]; omega
      obtain ⟨y, hy⟩ : ∃ y, l[i]? = some y := ⟨_, List.getElem?_eq_getElem hlti⟩
      have hym := List.mem_of_getElem? hy
      have hse := serEls_get hy
      obtain ⟨hx1, hx2⟩ := List.getElem?_eq_some_iff.1 hse
      have kR := rsRight_ok (G := G) y (ho y hym)
      rw [srA_eq] at kR
      simp [f1, f13, hse, hx1, hx2]
      refine ac_same kR (by simp) ?_
      rintro r rfl
      cases hr : rightS y with
      | false =>
        have hany : (l.any fun s => !rightS s) = true := List.any_eq_true.2 ⟨y, hym, by simp [hr]⟩
        rw [if_pos hany] at hR0
        simp [hR0, alA, serL, serEls]
      | true =>
        simp [f13, hwi]
        exact nx_intro (l.length - (i + 1)) (by omega) ⟨i + 1, rfl, by omega, any_take_right hrg hy hr, by simp [f0], by simp [f1], by simp [f2], by simp [f3], by simp [f10], by simp [f11], by simp, rfl⟩
    have hil : i = l.length := by omega
    rw [hil, List.take_length] at hrg
    have hany : ¬ (l.any fun s => !rightS s) = true := fun h => by
      obtain ⟨s, hs, h2⟩ := List.any_eq_true.1 h
      rw [hrg s hs] at h2; simp at h2
    rw [if_neg hany] at hR0
    have hSR : ∀ s ∈ l, SrR s := fun s hs => right_iff.1 (hrg s hs)
    by_cases h128 : 128 < l.length
    · rw [if_pos h128] at hR0
      have h128' : (128 : Int) < l.length := by omega
      simp [f1, hle, h128, h128', hR0, alA, serL, serEls]
    rw [if_neg h128] at hR0
    have h128' : ¬ (128 : Int) < l.length := by omega
    by_cases hn : args.length = tk1
    rotate_left
    · rw [if_pos (.inl hn)] at hR0
      have hn' : ¬ (args.length : Int) = tk1 := by omega
      simp [f1, f2, f3, f10, f11, hle, h128, h128', hla, hn, hn', hR0, alA, serL, serEls]
    have hne := h21 hn
    by_cases htx : text ≠ [] ∧ tk2 = false
    · rw [if_pos (.inr (.inr htx))] at hR0
      obtain ⟨ht1, ht2⟩ := htx
      simp [f1, f2, f3, f10, f11, hle, h128, h128', hla, hn, ht1, ht2, hR0, alA, serL, serEls]
    have htx' : text = [] ∨ (text ≠ [] ∧ tk2 = true) := by
      by_cases h : text = []
      · exact .inl h
      · refine .inr ⟨h, ?_⟩
        cases h2 : tk2 with
        | true => rfl
        | false => exact absurd ⟨h, h2⟩ htx
    obtain ⟨tx, htxe⟩ : ∃ tx, tx = text := ⟨_, rfl⟩
    rcases htx' with ht | ⟨ht, ht2⟩
    all_goals (
      first | simp [f1, f2, f3, f10, f11, hle, h128, h128', hla, hn, ht, ht2] | simp [f1, f2, f3, f10, f11, hle, h128, h128', hla, hn, ht]
      rw [← htxe] at f3 hR0
      refine lp_startx (fun x f σ => ∃ i : Nat, x = args.length - i ∧ i ≤ args.length ∧ (∀ s ∈ args.take i, good s = true) ∧ f 0 = .str w.txt ∧ f 1 = .lst (serEls l) ∧ f 2 = .lst (numEls args) ∧ f 3 = .str tx ∧ f 14 = .int .i64 i ∧ σ = []) args.length ?_ ?_
      · exact ⟨0, by simp, by simp, by simp, by simp [f0], by simp [f1], by simp [f2], by simp [f3], by simp, rfl⟩
      clear f0 f1 f2 f3 f10 f11 f13
      rintro x f σ ⟨i, hx, hi, hgd, f0, f1, f2, f3, f14, rfl⟩
      simp [f2, f14, hla]
      refine cb_dec (fun hlt2 => ?_) (fun hge2 => ?_)
      · have hlti : i < args.length := by omega
        have hwi : IntKind.i64.wrap ((i : Int) + 1) = ((i + 1 : Nat) : Int) := by rw [wrap_i64 (by omega) (by omega)]; omega
        obtain ⟨y, hy⟩ : ∃ y, args[i]? = some y := ⟨_, List.getElem?_eq_getElem hlti⟩
        have hym := List.mem_of_getElem? hy
        have hse := numEls_get hy
        obtain ⟨hx1, hx2⟩ := List.getElem?_eq_some_iff.1 hse
        have kR := rnRight_ok (G := G) y (hao y hym)
        have hrg2 := right_good y
        rw [numA_eq] at kR
        have bad : good y = false → R = ([], 18) := fun h => by
          rw [if_pos (.inr (.inl (List.any_eq_true.2 ⟨y, hym, by simp [h]⟩)))] at hR0
          exact hR0
        cases hy1 : y.1 with
        | true =>
          have hz := bad (by rw [← hrg2, hy1]; simp)
          simp [f2, f14, hse, hx1, hx2, hy1, hz, alA, serL, serEls]
        | false =>
          rw [hy1] at kR hrg2
          simp [f2, f14, hse, hx1, hx2, hy1]
          refine ac_same kR (by simp) ?_
          rintro r rfl
          cases hr : rightN y with
          | false =>
            have hz := bad (by rw [← hrg2, hr]; rfl)
            simp [hz, alA, serL, serEls]
          | true =>
            have hgy : good y = true := by rw [← hrg2, hr]; rfl
            simp [f14, hwi]
            refine nx_intro (args.length - (i + 1)) (by omega) ⟨i + 1, rfl, by omega, fun s hs => ?_, by simp [f0], by simp [f1], by simp [f2], by simp [f3], by simp, rfl⟩
            rw [List.take_add_one, hy] at hs
            rcases List.mem_append.1 hs with hs | hs
            · exact hgd s hs
            · simp at hs; subst hs; exact hgy
      have hial : i = args.length := by omega
      rw [hial, List.take_length] at hgd
      rw [if_neg (by
        rintro (h | h | h)
        · exact h hn
        · obtain ⟨s, hs, h2⟩ := List.any_eq_true.1 h
          rw [hgd s hs] at h2; simp at h2
        · exact htx (by rw [← htxe]; exact h))] at hR0
      simp [-awp_block]
      refine bk_joinB (fun g σ => ∃ nn mm n' m' : Int, checkB w l args tx = some (nn, mm) ∧ (w = .group → n' = nn ∧ m' = mm) ∧ g 0 = .str w.txt ∧ g 1 = .lst (serEls l) ∧ g 2 = .lst (numEls args) ∧ g 15 = .int .i64 m' ∧ g 16 = .int .i64 n' ∧ σ = []) ?_ ?_
      · clear f0 f1 f2 f3 f14
        rintro f σ ⟨nn, mm, n', m', hch, hgr, f0, f1, f2, f15, f16, rfl⟩
        rw [hch] at hR0
        have hbd := check_bd hch
        simp only at hR0
        by_cases hnil : l = []
        · rw [if_pos hnil] at hR0
          subst hnil
          simp [f0, f1, f2, f15, f16, hR0, alA, serL, serEls]
        rw [if_neg hnil] at hR0
        have hlp := List.length_pos_iff.2 hnil
        have hl0 : ¬ (l.length : Int) = 0 := by omega
        have hl0' : ¬ l.length = 0 := by omega
        have hgt : w.txt = [103, 114, 111, 117, 112, 66, 121, 78, 111, 100, 101] ↔ w = .group := cw_txt_eq (b := .group)
        have hpt : w.txt = [97, 115, 80, 101, 114, 99, 101, 110, 116] ↔ w = .percent := cw_txt_eq (b := .percent)
        have het : w.txt = [112, 101, 114, 99, 101, 110, 116, 105, 108, 101, 79, 102, 83, 101, 114, 105, 101, 115] ↔ w = .percentile := cw_txt_eq (b := .percentile)
        by_cases hwg : w = .group
        · rw [if_pos hwg] at hR0
          obtain ⟨rfl, rfl⟩ := hgr hwg
          have kG := rGroups_ok (G := G) n'.toNat (by omega) m' l hnil (by omega) (fun s hs => by have := (hSR s hs).nm; omega) ho
          rw [← hR0, Int.toNat_of_nonneg hbd.1] at kG
          unfold serL at kG
          simp [f0, f1, f2, f15, f16, hle, hnil, hl0, hl0', hgt, hwg, Cw.txt]
          refine ac_same kG (by simp) ?_
          rintro r rfl
          simp [alA, serL]
        rw [if_neg hwg] at hR0
        have kA := rAlign_ok (G := G) l (by omega) ho
        unfold serL at kA
        simp [f0, f1, f2, hle, hnil, hl0, hl0', hgt, hwg]
        refine ac_same kA (by simp) ?_
        rintro r rfl
        obtain ⟨al, e, hal2⟩ : ∃ al e, alS l = (al, e) := ⟨_, _, rfl⟩
        rw [hal2] at hR0
        by_cases he : e = 0
        rotate_left
        · have hz : R = ([], e) := by
            rw [hR0]
            cases e with
            | zero => exact absurd rfl he
            | succ e => rfl
          have he' : ¬ (e : Int) = 0 := by omega
          simp [alA, hal2, he, he', hz, serL, serEls]
        subst he
        simp only at hR0
        obtain ⟨s0, a', ha, hav, haso, har, hall, hanm⟩ := al_facts ho hnil hal2
        have hs0r := har s0 (by rw [ha]; simp)
        have hall2 : al.length = l.length := by have := congrArg List.length hanm; simpa using this
        have hale := serEls_len al
        have h00 : al[0]? = some s0 := by rw [ha]; rfl
        have hse0 := serEls_get h00
        obtain ⟨hz1, hz2⟩ := List.getElem?_eq_some_iff.1 hse0
        obtain ⟨c, hc⟩ : ∃ c, c = s0.vals.length := ⟨_, rfl⟩
        have hcl := numEls_len s0.vals
        rw [← hc] at hcl
        have hc2 : c ≤ 2000 := by rw [hc]; exact hs0r.vl
        have havc : ∀ s ∈ al, s.vals.length = c := fun s hs => by rw [(hav s hs).1, hc]
        by_cases hwp : w = .percent
        · rw [if_pos hwp] at hR0
          simp [alA, hal2, serL, f0, hpt, hwp, Cw.txt]
          refine lp_startx (fun x f σ => ∃ (i : Nat) (V : AV), x = al.length - i ∧ i ≤ al.length ∧ f 21 = .lst (serEls al) ∧ f 23 = V ∧ f 24 = .int .i64 i ∧ (∀ s ∈ al.take i, (percentName s).length ≤ 400) ∧
            AccT 41 4 0 σ V (serEls ((al.take i).map (percentG al)))) al.length ?_ ?_
          · exact ⟨0, .nils, by simp, by simp, by simp, by simp, by simp, by simp, accT_nil⟩
          clear f0 f1 f2 f15 f16
          rintro x f σ ⟨i, V, hx, hi, f21, f23, f24, hnl, hacc⟩
          simp [f21, f24, hale]
          refine cb_dec (fun hlt => ?_) (fun hge => ?_)
          · have hlti : i < al.length := by omega
            have hwi : IntKind.i64.wrap ((i : Int) + 1) = ((i + 1 : Nat) : Int) := by rw [wrap_i64 (by omega) (by omega)]; omega
            obtain ⟨y, hy⟩ : ∃ y, al[i]? = some y := ⟨_, List.getElem?_eq_getElem hlti⟩
            have hym := List.mem_of_getElem? hy
            have hse := serEls_get hy
            obtain ⟨hx1, hx2⟩ := List.getElem?_eq_some_iff.1 hse
            have hyn := (har y hym).nm
            have hyv := havc y hym
            have hpn := percentName_eq y
            have hyl := numEls_len y.vals
            rw [hyv] at hyl
            obtain ⟨P, hP⟩ : ∃ P, P = σ := ⟨_, rfl⟩
            rw [← hP]
            simp [f21, f24, hse, hx1, hx2]
            refine ob_if (by omega) ?_
            simp
            refine ob_if (by omega) ?_
            simp [f21, f24, hse, hx1, hx2, tail_get, tail_set, splice]
            have hpl : (percentName y).length = y.name.length + 11 := by rw [hpn]; simp
            rw [← hpn]
            obtain ⟨pn, hpne⟩ : ∃ pn, pn = percentName y := ⟨_, rfl⟩
            rw [← hpne] at hpl ⊢
            refine cb_dec (fun hbig => ?_) (fun hsm => ?_)
            · have hz : R = ([], 20) := by rw [hR0]; exact percentS_none hym (by rw [← hpne]; omega)
              simp [hz, alA, serL, serEls]
            · have hsm' : pn.length ≤ 400 := by omega
              simp
              refine lp_startx (fun x f σ' => ∃ (k : Nat) (W : AV) (τ2 : Store), x = c - k ∧ k ≤ c ∧ f 21 = .lst (serEls al) ∧ f 23 = V ∧ f 24 = .int .i64 i ∧ f 25 = .ptr P.length 0 ∧ f 26 = .int .i64 k ∧
                AccT 35 2 (P.length + 1) τ2 W (numEls ((List.range k).map (percentN al y))) ∧ σ' = P ++ .var 41 [.str pn, .int .i64 y.start, .int .i64 y.step, W] :: τ2) c ?_ ?_
              · exact ⟨0, .nils, [], by simp, by simp, by simp [f21], by simp [f23], by simp [f24], by simp, by simp, accT_nil, by simp⟩
              rintro x f σ' ⟨k, W, τ2, hx, hk, g21, g23, g24, g25, g26, hacc2, rfl⟩
              simp [g21, g24, g26, hse, hx1, hx2, hyl]
              refine cb_dec (fun hlt => ?_) (fun hge => ?_)
              · have hlt' : k < c := by omega
                have hwk : IntKind.i64.wrap ((k : Int) + 1) = ((k + 1 : Nat) : Int) := by rw [wrap_i64 (by omega) (by omega)]; omega
                obtain ⟨v, hvv⟩ : ∃ v, y.vals[k]? = some v := ⟨_, List.getElem?_eq_getElem (by omega)⟩
                have hvg := numEls_get hvv
                obtain ⟨hv1, hv2⟩ := List.getElem?_eq_some_iff.1 hvg
                have hgd : y.vals.getD k nothing = v := by rw [List.getD_eq_getElem?_getD, hvv]; rfl
                have hvo := (haso y hym).vs v (List.mem_of_getElem? hvv)
                have kT := rTogether_ok (G := G) al k (by omega) (fun s hs => by rw [havc s hs]; exact hlt') (by omega)
                have kR := rReckon_ok (G := G) 2 (togN al k) (oksN_tog haso k) (by rw [togN_len]; omega)
                obtain ⟨u, hu⟩ : ∃ u, u = reckon 2 (togN al k) := ⟨_, rfl⟩
                have huo : okN u := by rw [hu]; exact reckon_oks 2 (oksN_tog haso k)
                rw [← hu, numA_eq] at kR
                have kD := rnDiv_ok (G := G) v u hvo huo
                have kI := rInt_ok (G := G) 100 (by decide) (by decide)
                have eI : tell (100 * 1000000) = tell 100000000 := by decide
                rw [eI] at kI
                obtain ⟨d, hd⟩ : ∃ d, d = divN v u := ⟨_, rfl⟩
                obtain ⟨h, hh⟩ : ∃ h, h = tell 100000000 := ⟨_, rfl⟩
                have kM := rnMul_ok (G := G) d h (by rw [hd]; exact ok_div _ _) (by rw [hh]; exact ok_tell _)
                obtain ⟨m, hm⟩ : ∃ m, m = mulN d h := ⟨_, rfl⟩
                have hpk : percentN al y k = m := by unfold percentN; rw [hgd, ← hu, ← hd, ← hh, hm]
                rw [← hd, numA_eq v, numA_eq u, numA_eq d] at kD
                rw [← hh, numA_eq h] at kI
                rw [← hm, numA_eq d, numA_eq h, numA_eq m] at kM
                have hWl : (numEls ((List.range k).map (percentN al y))).length = k := by rw [numEls_len]; simp
                unfold serL at kT
                simp [g21, g26]
                refine ac_same kT (by simp) ?_
                rintro r rfl
                simp
                refine ac_same kR (by simp) ?_
                rintro r rfl
                simp [g21, g24, g25, g26, hse, hx1, hx2, hvg, hv1, hv2, pre_get0, pre_set0, pre1_get, pre1_set, splice]
                refine qc_same kD (by simp) (by simp [rig]) ?_
                simp
                refine qc_same kI (by simp) (by simp [rig]) ?_
                simp
                refine qc_same kM (by simp) (by simp [rig]) ?_
                simp
                refine Abs.ap_acc1 (bytes := 16) (hacc2.more [_]) [.bool m.1, .int .i64 m.2] (by decide) rfl (by rw [hWl]; omega) (by rw [hWl]; omega) fun W' τ3 hacc3 hlen => ?_
                obtain ⟨c1, c2, c3⟩ := hacc3.pos
                have hr : numEls ((List.range k).map (percentN al y)) ++ [[.bool m.1, .int .i64 m.2]] = numEls ((List.range (k + 1)).map (percentN al y)) := by rw [List.range_succ, List.map_append, List.map_singleton, hpk, ← numEls_app1]
                rw [hr] at hacc3
                simp [g25, g26, pre_get0, pre_set0, splice, hwk, c1, c2]
                exact nx_intro (c - (k + 1)) (by omega) ⟨k + 1, W', τ3, rfl, by omega, by simp [g21], by simp [g23], by simp [g24], by simp [g25], by simp, hacc3, rfl⟩
              · have hkn : k = c := by omega
                obtain ⟨c1, c2, c3⟩ := hacc2.pos
                have hsh : share1 (P ++ Entry.var 41 [.str pn, .int .i64 y.start, .int .i64 y.step, W] :: τ2) W = some (.lst (numEls ((List.range k).map (percentN al y)))) := by
                  rw [← app1]; exact AccT.share (accT1 hacc2)
                have hpg : srC (percentG al y) = [.str pn, .int .i64 y.start, .int .i64 y.step, .lst (numEls ((List.range k).map (percentN al y)))] := by
                  rw [hpne, hkn, ← hyv]; rfl
                have hVl : (serEls ((al.take i).map (percentG al))).length = i := by rw [serEls_len, List.length_map, List.length_take]; omega
                simp [g23, g25, pre_get0, pre_set0, splice, c1, c2, hsh, -share1, share1_str, share1_int]
                rw [hP]
                refine ap_acc0 (bytes := 56) (hacc.more _) [.str pn, .int .i64 y.start, .int .i64 y.step, .lst (numEls ((List.range k).map (percentN al y)))] (by decide) rfl (by rw [hVl]; omega) (by rw [hVl]; omega) fun V' τ3 hacc3 hlen hkeep => ?_
                have hst : serEls ((al.take i).map (percentG al)) ++ [srC (percentG al y)] = serEls ((al.take (i + 1)).map (percentG al)) := by rw [List.take_add_one, hy]; simp [serEls]
                rw [← hpg, hst] at hacc3
                simp [g24, hwi]
                refine nx_intro (al.length - (i + 1)) (by omega) ⟨i + 1, V', rfl, by omega, by simp [g21], by simp, by simp, fun s hs => ?_, hacc3⟩
                rw [List.take_add_one, hy] at hs
                rcases List.mem_append.1 hs with hs | hs
                · exact hnl s hs
                · simp at hs; subst hs; rw [← hpne]; exact hsm'
          · have hil : i = al.length := by omega
            subst hil
            rw [List.take_length] at hacc hnl
            have hf2 := hacc.finT0 0
            have hz : R = (al.map (percentG al), 0) := by rw [hR0]; exact percentS_some hnl
            simp [f23, hf2, hz, alA, serL]
        rw [if_neg hwp] at hR0
        have kN := rNames_ok (G := G) l (by omega) (fun s hs => by have := (hSR s hs).nm; omega)
        have hJl := join_le (l.map (·.name))
        have hns := sum_names l 400 (fun s hs => (hSR s hs).nm)
        have hml : (l.map (·.name)).length = l.length := by simp
        have hmn : l.map (·.name) ≠ [] := fun e => by have := congrArg List.length e; rw [hml] at this; exact hl0' this
        have hcw := cw_len w
        obtain ⟨nm, hnm⟩ : ∃ nm, nm = nameB w l args := ⟨_, rfl⟩
        rw [← hnm] at hR0
        obtain ⟨ct, hct⟩ : ∃ ct, ct = w.txt := ⟨_, rfl⟩
        have hnmd : nm = ct ++ [40] ++ Lib.join (l.map (·.name) ++ prns args) [44] ++ [41] := by rw [hnm, hct]; rfl
        have hjs : ∀ x, Lib.join (l.map (·.name) ++ [x]) [44] = Lib.join (l.map (·.name)) [44] ++ ([44] ++ x) := fun x => by rw [join_snoc, if_neg hmn]
        obtain ⟨J, hJ⟩ : ∃ J, J = Lib.join (l.map (·.name)) [44] := ⟨_, rfl⟩
        rw [← hJ] at kN hJl hjs
        have hJb : J.length ≤ 100000 := by omega
        have kV : ∀ k, k < c → PCalls Tryz.prog n_isobarref26_value [.str ct, .lst (numEls (togN al k)), .lst (numEls args)] (fun r => r = numA (valueS w args (togN al k))) := fun k hk => by
          rw [hct]
          refine rValue_ok (G := G) w ⟨hwp, hwg⟩ args (togN al k) hao (oksN_tog haso k) (fun n hn => ?_) (by rw [togN_len]; omega) (fun h => hne (.inl h)) (fun _ h => ?_) (fun h => ?_)
          · obtain ⟨s, hs, rfl⟩ := List.mem_map.1 hn
            rw [List.getD_eq_getElem?_getD]
            cases hv : s.vals[k]? with
            | none => decide
            | some v => exact (har s hs).rs v (List.mem_of_getElem? hv)
          · have := congrArg List.length h
            rw [togN_len, hall2] at this
            exact hl0' this
          · rw [togN_len, hall2]
            subst h
            exact Nat.le_of_eq (check_two hch).symm
        obtain ⟨fv, hfv⟩ : ∃ fv, fv = valueS w args := ⟨_, rfl⟩
        rw [← hfv] at kV hR0
        obtain ⟨F, hF⟩ : ∃ F : Nat → N, F = fun q => fv (togN al q) := ⟨_, rfl⟩
        have hG : oneG nm fv al = ⟨nm, s0.start, s0.step, (List.range c).map F⟩ := by rw [ha, hF, hc, ha]; rfl
        rw [hG] at hR0
        rw [← hct] at het hcw hpt f0
        have hcp : ¬ ct = [97, 115, 80, 101, 114, 99, 101, 110, 116] := fun h => hwp (hpt.1 h)
        unfold serL at kN
        simp [alA, hal2, serL, f0, f1, f2, hcp]
        refine ob_if (by first | omega | (simp; omega)) ?_
        simp [f1]
        refine qc_same kN (by simp) (by simp [rig]) ?_
        simp
        refine ob_if (by first | omega | (simp; omega)) ?_
        simp [hse0, hz1, hz2, splice]
        by_cases hwpe : w = .percentile
        case' pos =>
          obtain ⟨a, rfl⟩ : ∃ a, args = [a] := by
            rw [htk1, hwpe] at hn
            match args, hn with
            | [a], _ => exact ⟨a, rfl⟩
          have hao1 := hao a (by simp)
          have kP := rPrint_ok (G := G) a.1 a.2 hao1.1 hao1.2
          have hpb := prn_le21 a.1 hao1.1 hao1.2
          have hnm2 : nm = ct ++ 40 :: (J ++ 44 :: (prn a.1 a.2 ++ [41])) := by
            rw [hnmd]
            have : prns [a] = [prn a.1 a.2] := rfl
            rw [this, hjs]
            simp
          obtain ⟨pa, hpa⟩ : ∃ pa, pa = prn a.1 a.2 := ⟨_, rfl⟩
          rw [← hpa] at kP hpb hnm2
          have hce := het.2 hwpe
          have hce' : decide (ct = [112, 101, 114, 99, 101, 110, 116, 105, 108, 101, 79, 102, 83, 101, 114, 105, 101, 115]) = true := decide_eq_true hce
          simp [hce', f0, f1, f2, splice, numEls_cons]
          refine ob_if (by first | omega | (simp; omega)) ?_
          simp [f2, numEls_cons]
          refine qc_same kP (by simp) (by simp [rig]) ?_
          simp
          refine ob_if (by first | omega | (simp; omega)) ?_
          simp [splice]
          refine ob_if (by first | omega | (simp; omega)) ?_
          simp [splice]
        case' neg =>
          have harg0 : args = [] := by
            rw [htk1] at hn
            have h0 : w.takes.1 = 0 := by cases w <;> simp [Cw.takes] <;> first | exact absurd rfl hwpe | exact absurd rfl hwg
            rw [h0] at hn
            exact List.eq_nil_of_length_eq_zero hn
          have hnm2 : nm = ct ++ 40 :: (J ++ [41]) := by
            rw [hnmd, harg0]
            have : prns [] = [] := rfl
            rw [this, List.append_nil, ← hJ]
            simp
          have hce' : ¬ ct = [112, 101, 114, 99, 101, 110, 116, 105, 108, 101, 79, 102, 83, 101, 114, 105, 101, 115] := fun h => hwpe (het.1 h)
          simp [hce', f0, f1, f2, splice]
          refine ob_if (by first | omega | (simp; omega)) ?_
          simp [splice]
        all_goals (
          rw [← hnm2]
          have hnml : nm.length = _ := congrArg List.length hnm2
          simp at hnml
          refine cb_dec (fun hbig => ?_) (fun hsm => ?_)
          · have hbig2 : 400 < nm.length := by omega
            rw [if_pos hbig2] at hR0
            simp [hR0, alA, serL, serEls]
          rw [if_neg (by omega)] at hR0
          simp
          refine lp_startx (fun x f' σ => ∃ (k : Nat) (W : AV) (τ : Store), x = c - k ∧ k ≤ c ∧ f' 0 = .str ct ∧ f' 2 = f 2 ∧ f' 21 = .lst (serEls al) ∧ f' 28 = .ptr 0 0 ∧ f' 29 = .int .i64 k ∧
            AccT 35 2 1 τ W (numEls ((List.range k).map F)) ∧ σ = .var 41 [.str nm, .int .i64 s0.start, .int .i64 s0.step, W] :: τ) c ?_ ?_
          · exact ⟨0, .nils, [], by simp, by simp, by simp [f0], by simp, by simp, by simp, by simp, accT_nil, rfl⟩
          rintro x f' σ ⟨k, W, τ, hx, hk, g0, g2, g21, g28, g29, hacc, rfl⟩
          rw [f2] at g2
          simp [g21, g29, hse0, hz1, hz2, hcl]
          refine cb_dec (fun hlt => ?_) (fun hge => ?_)
          · have hlt' : k < c := by omega
            have hwk : IntKind.i64.wrap ((k : Int) + 1) = ((k + 1 : Nat) : Int) := by rw [wrap_i64 (by omega) (by omega)]; omega
            have kT2 := rTogether_ok (G := G) al k (by omega) (fun s hs => by rw [havc s hs]; exact hlt') (by omega)
            have kV2 := kV k hlt'
            obtain ⟨z, hz⟩ : ∃ z, z = fv (togN al k) := ⟨_, rfl⟩
            have hFz : F k = z := by rw [hF, hz]
            rw [← hz, numA_eq] at kV2
            have hWl : (numEls ((List.range k).map F)).length = k := by rw [numEls_len]; simp
            unfold serL at kT2
            simp [g0, g2, g21, g28, g29]
            refine qc_any kT2 (by simp) ?_
            simp [g2]
            refine qc_same kV2 (by simp) (by simp [rig]) ?_
            simp
            refine ap_accT (bytes := 16) (σ := [Entry.var 41 [.str nm, .int .i64 s0.start, .int .i64 s0.step, W]]) hacc [.bool z.1, .int .i64 z.2] (by decide) rfl (by rw [hWl]; omega) (by rw [hWl]; omega) fun W' τ3 hacc3 hlen hkeep => ?_
            obtain ⟨c1, c2, c3⟩ := hacc3.pos
            have hr : numEls ((List.range k).map F) ++ [[.bool z.1, .int .i64 z.2]] = numEls ((List.range (k + 1)).map F) := by rw [List.range_succ, List.map_append, List.map_singleton, hFz, ← numEls_app1]
            rw [hr] at hacc3
            simp [g28, g29, splice, hwk, c1, c2]
            exact nx_intro (c - (k + 1)) (by omega) ⟨k + 1, W', τ3, rfl, by omega, by simp [g0], by simp [g2, f2], by simp [g21], by simp [g28], by simp, hacc3, rfl⟩
          · have hkc : k = c := by omega
            subst hkc
            obtain ⟨c1, c2, c3⟩ := hacc.pos
            have hsh : share1 (Entry.var 41 [.str nm, .int .i64 s0.start, .int .i64 s0.step, W] :: τ) W = some (.lst (numEls ((List.range k).map F))) := AccT.share (σ := [Entry.var 41 [.str nm, .int .i64 s0.start, .int .i64 s0.step, W]]) hacc
            simp [g28, splice, c1, c2, hsh, -share1, share1_str, share1_int, lay, chunks]
            rw [hR0]
            simp [alA, serL, serEls, srC])
      · have hdt : w.txt = [100, 105, 118, 105, 100, 101, 83, 101, 114, 105, 101, 115] ↔ w = .divide := cw_txt_eq (b := .divide)
        have hpt : w.txt = [112, 101, 114, 99, 101, 110, 116, 105, 108, 101, 79, 102, 83, 101, 114, 105, 101, 115] ↔ w = .percentile := cw_txt_eq (b := .percentile)
        have hgt : w.txt = [103, 114, 111, 117, 112, 66, 121, 78, 111, 100, 101] ↔ w = .group := cw_txt_eq (b := .group)
        have hbad : checkB w l args tx = none → R = ([], 1) := fun h => by rw [h] at hR0; exact hR0
        have jn1 : ∀ (g : Abs.Frame) (tg : Tg g) tJ, w ≠ .group → checkB w l args tx = some (0, 0) → g 0 = .str w.txt → g 1 = .lst (serEls l) → g 2 = .lst (numEls args) → g 15 = .int .i64 0 → g 16 = .int .i64 0 →
            jn (fun g σ => ∃ nn mm n' m' : Int, checkB w l args tx = some (nn, mm) ∧ (w = .group → n' = nn ∧ m' = mm) ∧ g 0 = .str w.txt ∧ g 1 = .lst (serEls l) ∧ g 2 = .lst (numEls args) ∧ g 15 = .int .i64 m' ∧ g 16 = .int .i64 n' ∧ σ = []) tJ g tg [] := fun g tg tJ hng hc g0 g1 g2 g15 g16 =>
          jn_intro ⟨0, 0, 0, 0, hc, fun h => absurd h hng, g0, g1, g2, g15, g16, rfl⟩
        by_cases hwd : w = .divide
        · subst hwd
          by_cases h2 : l.length = 2
          · simp [f0, f1, f2, f3, hle, h2, Cw.txt]
            exact jn1 _ _ _ (by decide) (by simp [checkB, h2]) (by simp [f0, Cw.txt]) (by simp [f1]) (by simp [f2]) (by simp) (by simp)
          · have h2' : ¬ (l.length : Int) = 2 := by omega
            have hz := hbad (by simp [checkB, h2])
            simp [f0, f1, f2, f3, hle, h2, h2', Cw.txt, hz, alA, serL, serEls]
        by_cases hwp : w = .percentile
        · subst hwp
          obtain ⟨a, t, rfl⟩ : ∃ a t, args = a :: t := by
            cases args with
            | nil => exact absurd rfl (hne (.inl rfl))
            | cons a t => exact ⟨a, t, rfl⟩
          by_cases q1 : a.2 < 0
          · have hz := hbad (by simp [checkB]; omega)
            simp [f0, f1, f2, f3, numEls_cons, q1, Cw.txt, hz, alA, serL, serEls]
          · by_cases q2 : 100000000 < a.2
            · have hz := hbad (by simp [checkB]; omega)
              simp [f0, f1, f2, f3, numEls_cons, q1, q2, Cw.txt, hz, alA, serL, serEls]
            · simp [f0, f1, f2, f3, numEls_cons, q1, q2, Cw.txt]
              exact jn1 _ _ _ (by decide) (by simp [checkB]; omega) (by simp [f0, Cw.txt]) (by simp [f1]) (by simp [f2, numEls_cons]) (by simp) (by simp)
        by_cases hwg : w = .group
        · subst hwg
          obtain ⟨a, t, rfl⟩ : ∃ a t, args = a :: t := by
            cases args with
            | nil => exact absurd rfl (hne (.inr rfl))
            | cons a t => exact ⟨a, t, rfl⟩
          have kM := rMethod_ok (G := G) tx
          have kW := rWhole25_ok (G := G) a (hao a (by simp)) (hgd a (by simp)) 0 1099511627776
          have hcb : checkB .group l (a :: t) tx = match methodS tx, wholeS a 0 1099511627776 with
            | some m, some n => some (n, m)
            | _, _ => none := rfl
          rw [numA_eq] at kW
          unfold methodA at kM
          simp [f0, f1, f2, f3, numEls_cons, Cw.txt]
          refine ac_same kM (by cases methodS tx <;> simp) ?_
          rintro r rfl
          cases hms : methodS tx with
          | none =>
            have hz := hbad (by rw [hcb, hms])
            simp [f0, f1, f2, f3, numEls_cons]
            refine ac_same kW (by simp) ?_
            rintro r ⟨z, rfl, hzz⟩
            simp [hz, alA, serL, serEls]
          | some mm =>
            simp [f0, f1, f2, f3, numEls_cons]
            refine ac_same kW (by simp) ?_
            rintro r ⟨z, rfl, hzz⟩
            cases hws : wholeS a 0 1099511627776 with
            | none =>
              have hz := hbad (by rw [hcb, hms, hws])
              simp [hz, alA, serL, serEls]
            | some nn =>
              have hzn := hzz nn hws
              subst hzn
              simp
              exact jn_intro ⟨z, mm, z, mm, by rw [hcb, hms, hws], fun _ => ⟨rfl, rfl⟩, by simp [f0, Cw.txt], by simp [f1], by simp [f2, numEls_cons], by simp, by simp, rfl⟩
        have hc0 : checkB w l args tx = some (0, 0) := by cases w <;> simp_all [checkB]
        simp [f0, f1, f2, f3, hdt, hpt, hgt, hwd, hwp, hwg]
        exact jn1 _ _ _ hwg hc0 (by simp [f0]) (by simp [f1]) (by simp [f2]) (by simp) (by simp))
end Go.Proofs.YtdgpnmlialmaaaaGreatDoor
end
section
set_option maxHeartbeats 4000000
namespace Go.Proofs.YtdgpnmlialmaaaaGreatDoor
open Go.Abs Go.Num Go.Ser
variable {G : Globs}
theorem sameList_ok (l : List Sr) (hl : l.length ≤ 9223372036854775807) (h : ∀ s ∈ l, s.vals.length ≤ 9223372036854775807) : PCalls Tryz.prog n_isobarref24_SameList [serL l, serL l] (fun r => r = .bool true) := by
  refine pcalls_of_awp hmix c_isobarref24_SameList rfl ?_
  have hle := serEls_len l
  simp [a_isobarref24_SameList, serL]
  refine lp_startx (fun x f σ => ∃ (i : Nat), x = l.length - i ∧ i ≤ l.length ∧ f 0 = .lst (serEls l) ∧ f 1 = .lst (serEls l) ∧ f 5 = .int .i64 i ∧ σ = []) l.length ?_ ?_
  · exact ⟨0, by simp, by simp, by simp, by simp, by simp, by simp⟩
  rintro x f σ ⟨i, hx, hi, f0, f1, f5, rfl⟩
  by_cases hlt : i < l.length
  · have hlt' : (i : Int) < l.length := by omega
    have hwi : IntKind.i64.wrap ((i : Int) + 1) = (i : Int) + 1 := wrap_i64 (by omega) (by omega)
    obtain ⟨y, hy⟩ : ∃ y, l[i]? = some y := ⟨_, List.getElem?_eq_getElem hlt⟩
    have hse := serEls_get hy
    obtain ⟨hx1, hx2⟩ := List.getElem?_eq_some_iff.1 hse
    have kS := sameS_ok (G := G) y (h y (List.mem_of_getElem? hy))
    rw [srA_eq] at kS
    simp [f0, f1, f5, hle, hlt, hlt', hx1, hx2, hwi]
    refine qc_same kS (by simp) (by simp) ?_
    simp [f5, hwi]
    refine nx_intro (l.length - (i + 1)) (by omega) ⟨i + 1, rfl, by omega, by simp [f0], by simp [f1], by simp, rfl⟩
  · have hil : i = l.length := by omega
    have hlt' : ¬ (i : Int) < l.length := by omega
    simp [f0, f5, hle, hlt, hlt', hil]
end Go.Proofs.YtdgpnmlialmaaaaGreatDoor
end
section
set_option maxHeartbeats 4000000
namespace Go.Proofs.YtdgpnmlialmaaaaGreatDoor
open Go.Abs Go.Num Go.Ser Go.Ble Go.Dec Go.Shp
variable {G : Globs}
def of26 (name : List UInt8) (l : List Int) : Sr := ⟨name, 0, 60, l.map fun v => (false, v * 1000000)⟩
theorem of26_ok (name : List UInt8) (l : List Int) (hl : l.length ≤ 1000) (hb : ∀ v ∈ l, -1000 ≤ v ∧ v ≤ 1000) : PCalls Tryz.prog n_isobarlaw26_of [.str name, .lst (l.map fun v => [.int .i64 v])] (fun r => r = srA (of26 name l)) := by
  refine pcalls_of_awp hmix c_isobarlaw26_of rfl ?_
  obtain ⟨F, hF⟩ : ∃ F : Int → N, F = fun v => (false, v * 1000000) := ⟨_, rfl⟩
  have ho : of26 name l = ⟨name, 0, 60, l.map F⟩ := by rw [hF]; rfl
  rw [ho]
  simp [a_isobarlaw26_of, splice]
  refine lp_startx (fun x f σ => ∃ (k : Nat) (V : AV) (τ : Store), x = l.length - k ∧ k ≤ l.length ∧ f 1 = .lst (l.map fun v => [.int .i64 v]) ∧ f 4 = .ptr 0 0 ∧ f 5 = .ptr 1 0 ∧ f 6 = .int .i64 k ∧
    AccT 35 2 2 τ V (numEls ((l.take k).map F)) ∧ σ = [.var 41 [.str [], .int .i64 0, .int .i64 0, .nils], .var 41 [.str name, .int .i64 0, .int .i64 60, V]] ++ τ) l.length ?_ ?_
  · exact ⟨0, .nils, [], by simp, by simp, by simp, by simp, by simp, by simp, accT_nil, by simp⟩
  rintro x f σ ⟨k, V, τ, hx, hk, f1, f4, f5, f6, hacc, rfl⟩
  simp [f1, f6]
  refine cb_dec (fun hlt => ?_) (fun hge => ?_)
  · have hlt' : k < l.length := by omega
    obtain ⟨y, hy⟩ : ∃ y, l[k]? = some y := ⟨_, List.getElem?_eq_getElem hlt'⟩
    have hyb := hb y (List.mem_of_getElem? hy)
    have hw : IntKind.i64.wrap ((k : Int) + 1) = ((k + 1 : Nat) : Int) := by rw [wrap_i64 (by omega) (by omega)]; omega
    have hw2 : IntKind.i64.wrap (y * 1000000) = y * 1000000 := wrap_i64 (by omega) (by omega)
    obtain ⟨hx1, hx2⟩ := List.getElem?_eq_some_iff.1 hy
    have hWl : (numEls ((l.take k).map F)).length = k := by rw [numEls_len, List.length_map, List.length_take]; omega
    have hFy : F y = (false, y * 1000000) := by rw [hF]
    simp [f1, f5, f6, hx1, hx2, hw2, splice]
    refine ap_accT (bytes := 16) (σ := [Entry.var 41 [.str [], .int .i64 0, .int .i64 0, .nils], Entry.var 41 [.str name, .int .i64 0, .int .i64 60, V]]) hacc [.bool false, .int .i64 (y * 1000000)] (by decide) rfl (by rw [hWl]; omega) (by rw [hWl]; omega) fun W' τ3 hacc3 hlen hkeep => ?_
    obtain ⟨c1, c2, c3⟩ := hacc3.pos
    have hr : numEls ((l.take k).map F) ++ [[.bool false, .int .i64 (y * 1000000)]] = numEls ((l.take (k + 1)).map F) := by
      rw [List.take_add_one, hy]; simp [numEls, hFy]
    rw [hr] at hacc3
    simp [f5, f6, splice, hw, c1, c2]
    exact nx_intro (l.length - (k + 1)) (by omega) ⟨k + 1, W', τ3, rfl, by omega, by simp [f1], by simp [f4], by simp [f5], by simp, hacc3, by simp⟩
  · have hkl : k = l.length := by omega
    subst hkl
    rw [List.take_length] at hacc
    obtain ⟨c1, c2, c3⟩ := hacc.pos
    have hf : ∀ (v : Entry) m, Abs.fin1 (v :: Entry.var 41 [.str name, .int .i64 0, .int .i64 60, V] :: τ) m V = some (.lst (numEls (l.map F))) := fun v m => AccT.fin1 (σ := [v, Entry.var 41 [.str name, .int .i64 0, .int .i64 60, V]]) hacc m
    simp [f4, f5, splice, c1, c2, hf, srA_eq]
theorem of26_sr (name : List UInt8) (l : List Int) (hn : name.length ≤ 1000) (hl : l.length ≤ 1000) (hb : ∀ v ∈ l, -1000 ≤ v ∧ v ≤ 1000) : SrOk (of26 name l) :=
  ⟨by simp [of26]; omega, by simp [of26], by simp [of26], by simp [of26], by simp [of26], by simp [of26]; omega, fun n hn => by
    simp only [of26, List.mem_map] at hn
    obtain ⟨v, hv, rfl⟩ := hn
    have := hb v hv
    unfold okN; simp only; omega⟩
/-- A call: its word, its numbers, its text. -/
structure Cb where
  word : List UInt8
  args : List N
  text : List UInt8
structure CbOk (c : Cb) : Prop where
  wd : c.word.length ≤ 9223372036854775807
  al : c.args.length ≤ 9223372036854775807
  ar : oksN c.args
  tx : c.text.length ≤ 9223372036854775807
def cbA (c : Cb) : AV := .agg [.str c.word, .lst (numEls c.args), .str c.text]
theorem great26_any (word text : List UInt8) (A : AV) (na : Nat) (hA : (A = .nils ∧ na = 0) ∨ ∃ l, A = .lst (numEls l) ∧ na = l.length) (l : List Sr) (hl : l.length ≤ 9223372036854775807) :
    PCalls Tryz.prog n_isobarlaw26_great [.agg [.str word, A, .str text], serL l] (fun r => ∃ b : Bool, r = .bool b) := by
  refine pcalls_of_awp hmix c_isobarlaw26_great rfl ?_
  have hA1 : A.one = true ∧ A.cells = [A] := by rcases hA with ⟨rfl, _⟩ | ⟨l, rfl, _⟩ <;> exact ⟨rfl, rfl⟩
  have hAv : ∀ σ, (view σ A).map (fun l => AV.int .i64 l.length) = some (.int .i64 na) := fun σ => by
    rcases hA with ⟨rfl, rfl⟩ | ⟨l, rfl, rfl⟩ <;> simp [numEls_len]
  have hle := serEls_len l
  unfold serL
  simp [a_isobarlaw26_great, boxOp, hA1, hAv, hle]
  refine lp_startx (fun x f σ => ∃ (i : Nat) (z : Int), x = l.length - i ∧ i ≤ l.length ∧ f 1 = .lst (serEls l) ∧ f 2 = .ptr 0 0 ∧ f 5 = .int .i64 z ∧ f 6 = .int .i64 i ∧
    σ = [.var 24 [.str word, A, .str text]]) l.length ?_ ?_
  · exact ⟨0, _, by simp, by simp, by simp, by simp, by simp; rfl, by simp, by simp⟩
  rintro x f σ ⟨i, z, hx, hi, f1, f2, f5, f6, rfl⟩
  by_cases hlt : i < l.length
  · have hwi : IntKind.i64.wrap ((i : Int) + 1) = ((i + 1 : Nat) : Int) := by rw [wrap_i64 (by omega) (by omega)]; omega
    obtain ⟨y, hy⟩ : ∃ y, l[i]? = some y := ⟨_, List.getElem?_eq_getElem hlt⟩
    have hse := serEls_get hy
    obtain ⟨hx1, hx2⟩ := List.getElem?_eq_some_iff.1 hse
    by_cases hz : z ≤ 400
    · simp [f1, f2, f5, f6, hle, hlt, hz, hse, hx1, hx2, hwi]
      exact nx_intro (l.length - (i + 1)) (by omega) ⟨i + 1, _, rfl, by omega, by simp [f1], by simp [f2], by simp; rfl, by simp, rfl⟩
    · have hz' : 400 < z := by omega
      simp [f1, f2, f5, f6, hle, hlt, hz, hz']
  · by_cases hz : 400 < z
    · simp [f1, f2, f5, f6, hle, hlt, hz]
    · by_cases h2 : 1000 < word.length
      · have h2' : (1000 : Int) < (word.length : Int) := by omega
        simp [f1, f2, f5, f6, hle, hlt, hz, h2, h2']
      · have h2' : ¬ (1000 : Int) < (word.length : Int) := by omega
        simp [f1, f2, f5, f6, hle, hlt, hz, h2, h2']
end Go.Proofs.YtdgpnmlialmaaaaGreatDoor
end
section
set_option maxHeartbeats 4000000
namespace Go.Abs
variable [Globs]
/-- A call ahead of which an own row is frozen. -/
theorem ac_frz {P : Program} {K : AV → Store → Prop} {t : Tg K} {σ σ' : Store} {g : FuncId} {args : List AV} (hz : Frz σ σ') (h : acall P σ' K g args) : ac P K t σ g args :=
  .inr (.inr fun base κ Im w vs hs hv => by
    obtain ⟨Im1, hs1, hg1⟩ := frz_ok hs hz
    refine (acall_ok hs1 (hv.grow hg1) h).mono ?_
    rintro e w' ⟨r, σ2, v, κ', Im', rfl, hK, hs2, hg2, hvr⟩
    exact ⟨r, σ2, v, κ', Im', rfl, hK, hs2, hg1.trans hg2, hvr⟩)
end Go.Abs
namespace Go.Ble
open Go.Num
theorem middle_alive : middleS [(false, 4), (false, 1), (true, 0)] = (false, 3) := by
  have h : risingS [(false, 4), (false, 1), (true, 0)] = [(false, 1), (false, 4)] := (rising_eq (by
    have : known [(false, 4), (false, 1), (true, 0)] = [(false, 4), (false, 1)] := by decide
    rw [this]
    exact List.Perm.swap _ _ _) (by simp)).symm
  unfold middleS
  rw [h]
  decide
end Go.Ble
namespace Go.Proofs.YtdgpnmlialmaaaaGreatDoor
open Go.Abs Go.Num Go.Ser Go.Ble Go.Dec Go.Shp
variable {G : Globs}
theorem alive26_ok [GSpc] [GPow] [GMaxL] : PCalls Tryz.prog n_isobarlaw26_alive [] (fun r => r = .bool true) := by
  refine pcalls_of_awp hmix c_isobarlaw26_alive rfl ?_
  have o1 := of26_ok (G := G) [97] [1, 2] (by decide) (by decide)
  have o2 := of26_ok (G := G) [98] [2, 3] (by decide) (by decide)
  have o3 := of26_ok (G := G) [120, 46, 97] [1] (by decide) (by decide)
  have o4 := of26_ok (G := G) [121, 46, 98] [2] (by decide) (by decide)
  have o5 := of26_ok (G := G) [122, 46, 97] [5] (by decide) (by decide)
  have o6 := of26_ok (G := G) [115, 117, 109, 83, 101, 114, 105, 101, 115, 40, 97, 44, 98, 41] [3, 5] (by decide) (by decide)
  have o7 := of26_ok (G := G) [97] [5] (by decide) (by decide)
  have o8 := of26_ok (G := G) [98] [2] (by decide) (by decide)
  have hs : ∀ (name : List UInt8) (l : List Int), name.length ≤ 1000 → l.length ≤ 1000 → (∀ v ∈ l, -1000 ≤ v ∧ v ≤ 1000) → SrOk (of26 name l) := fun n l h1 h2 h3 => of26_sr n l h1 h2 h3
  have k1 := bApply_ok (G := G) Cw.sum.txt [of26 [97] [1, 2], of26 [98] [2, 3]] [] [] (by decide) (by
    intro s h
    simp only [List.mem_cons, List.mem_nil_iff, or_false] at h
    rcases h with rfl | rfl
    · exact hs _ _ (by decide) (by decide) (by decide)
    · exact hs _ _ (by decide) (by decide) (by decide)) (by decide) (by intro n h; simp at h)
  have k2 := bApply_ok (G := G) Cw.group.txt [of26 [120, 46, 97] [1], of26 [121, 46, 98] [2], of26 [122, 46, 97] [5]] [(false, 1000000)] [109, 97, 120] (by decide) (by
    intro s h
    simp only [List.mem_cons, List.mem_nil_iff, or_false] at h
    rcases h with rfl | rfl | rfl
    · exact hs _ _ (by decide) (by decide) (by decide)
    · exact hs _ _ (by decide) (by decide) (by decide)
    · exact hs _ _ (by decide) (by decide) (by decide)) (by decide) (by unfold oksN okN; decide)
  have e1 : applyB Cw.sum.txt [of26 [97] [1, 2], of26 [98] [2, 3]] [] [] = ([of26 [115, 117, 109, 83, 101, 114, 105, 101, 115, 40, 97, 44, 98, 41] [3, 5]], 0) := by kernel_rfl
  have e2 : applyB Cw.group.txt [of26 [120, 46, 97] [1], of26 [121, 46, 98] [2], of26 [122, 46, 97] [5]] [(false, 1000000)] [109, 97, 120] = ([of26 [97] [5], of26 [98] [2]], 0) := by kernel_rfl
  rw [e1] at k1
  rw [e2] at k2
  have s1 := sameList_ok (G := G) [of26 [115, 117, 109, 83, 101, 114, 105, 101, 115, 40, 97, 44, 98, 41] [3, 5]] (by decide) (by simp [of26])
  have s2 := sameList_ok (G := G) [of26 [97] [5], of26 [98] [2]] (by decide) (by simp [of26])
  have kM := bMiddle_ok (G := G) [(false, 4), (false, 1), (true, 0)] (by unfold oksN okN; decide) (by decide)
  rw [middle_alive] at kM
  simp only [alA, serL, serEls, srC, srA_eq, of26, numEls, numA, Cw.txt, List.map_cons, List.map_nil, Int.reduceMul] at k1 k2 o1 o2 o3 o4 o5 o6 o7 o8 s1 s2 kM
  simp [a_isobarlaw26_alive, lay, splice, chunks]
  refine ac_same o1 (by simp) ?_
  rintro r rfl
  simp [lay, splice, chunks]
  refine ac_same o2 (by simp) ?_
  rintro r rfl
  simp [lay, splice, chunks]
  refine ac_pure k1 (.cons (.pure _ (by simp)) (.cons (.pure _ (by simp)) (.cons .nils (.cons (.pure _ (by simp)) .nil)))) ?_
  rintro r rfl
  simp [lay, splice, chunks]
  refine ac_same o3 (by simp) ?_
  rintro r rfl
  simp [lay, splice, chunks]
  refine ac_same o4 (by simp) ?_
  rintro r rfl
  simp [lay, splice, chunks]
  refine ac_same o5 (by simp) ?_
  rintro r rfl
  simp [lay, splice, chunks]
  refine ac_same k2 (by simp) ?_
  rintro r rfl
  simp [lay, splice, chunks]
  refine ac_same o6 (by simp) ?_
  rintro r rfl
  simp [lay, splice, chunks]
  refine ac_same s1 (by simp) ?_
  rintro r rfl
  simp [lay, splice, chunks]
  refine ac_same o7 (by simp) ?_
  rintro r rfl
  simp [lay, splice, chunks]
  refine ac_same o8 (by simp) ?_
  rintro r rfl
  simp [lay, splice, chunks]
  refine ac_same s2 (by simp) ?_
  rintro r rfl
  simp [lay, splice, chunks]
  refine ac_same kM (by simp) ?_
  rintro r rfl
  simp
end Go.Proofs.YtdgpnmlialmaaaaGreatDoor
end
section
set_option maxHeartbeats 4000000
namespace Go.Ble
open Go.Num Go.Ser Go.Dec Go.Shp Go.Abs
theorem oneG_vals (nm : List UInt8) (f : List N → N) {a : List Sr} (h : ∀ s ∈ a, s.vals.length ≤ 2000) : (oneG nm f a).vals.length ≤ 2000 := by
  unfold oneG
  simp only [List.length_map, List.length_range]
  cases a with
  | nil => simp
  | cons s a => exact h s (by simp)
theorem al_vals {l r : List Sr} {e : Nat} (ho : ∀ s ∈ l, SrOk s) (h : alS l = (r, e)) : ∀ s ∈ r, s.vals.length ≤ 2000 := by
  by_cases he : e = 0
  · subst he
    by_cases hn : l = []
    · subst hn
      have : alS [] = ([], 0) := rfl
      rw [this] at h; cases h; simp
    · obtain ⟨_, _, _, _, _, har, _⟩ := al_facts ho hn h
      exact fun s hs => (har s hs).vl
  · have := alS_err h he
    simp only at this
    subst this; simp
theorem groups_bd (l : List Sr) (ho : ∀ s ∈ l, SrOk s) (n : Nat) (m : Int) : ∀ (ks : List (List UInt8)) (out : List Sr), (∀ s ∈ out, s.vals.length ≤ 2000) → (∀ s ∈ (groupsS l n m ks out).1, s.vals.length ≤ 2000) ∧ (groupsS l n m ks out).1.length ≤ out.length + ks.length
  | [], out, h => ⟨h, by simp [groupsS]⟩
  | k :: ks, out, h => by
    have e : groupsS l n m (k :: ks) out = match alS (partG n l k) with
      | (a, 0) => groupsS l n m ks (out ++ [oneG k (reckon m) a])
      | (_, e) => ([], e) := rfl
    rw [e]
    obtain ⟨a, c, hal⟩ : ∃ a c, alS (partG n l k) = (a, c) := ⟨_, _, rfl⟩
    rw [hal]
    have hv := al_vals (fun s hs => ho s (partG_mem hs)) hal
    cases c with
    | zero =>
      obtain ⟨h1, h2⟩ := groups_bd l ho n m ks (out ++ [oneG k (reckon m) a]) (fun s hs => by
        rcases List.mem_append.1 hs with hs | hs
        · exact h s hs
        · simp at hs; subst hs; exact oneG_vals _ _ hv)
      refine ⟨h1, Nat.le_trans h2 ?_⟩
      simp; omega
    | succ c => simp
theorem applyB_bd (call : List UInt8) (l : List Sr) (args : List N) (text : List UInt8) (ho : ∀ s ∈ l, SrOk s) : (∀ s ∈ (applyB call l args text).1, s.vals.length ≤ 2000) ∧ (applyB call l args text).1.length ≤ 1000000 := by
  have none : ∀ (e : Nat), (∀ s ∈ (([], e) : List Sr × Nat).1, s.vals.length ≤ 2000) ∧ (([], e) : List Sr × Nat).1.length ≤ 1000000 := fun e => by simp
  unfold applyB
  cases cwOf call with
  | none => exact none 15
  | some w =>
  simp only
  split
  · exact none 1
  split
  · exact none 11
  rename_i h128
  split
  · exact none 18
  cases checkB w l args text with
  | none => exact none 1
  | some p =>
  obtain ⟨n, m⟩ := p
  simp only
  split
  · exact none 0
  split
  · obtain ⟨h1, h2⟩ := groups_bd l ho n.toNat m (keysS n.toNat l []) [] (by simp)
    have := keysS_len n.toNat l []
    simp at this
    exact ⟨h1, by simp at h2; omega⟩
  obtain ⟨a, c, hal⟩ : ∃ a c, alS l = (a, c) := ⟨_, _, rfl⟩
  rw [hal]
  have hv := al_vals ho hal
  cases c with
  | succ c => exact none _
  | zero =>
  simp only
  split
  · unfold percentS
    split
    · exact none 20
    · refine ⟨fun s hs => ?_, ?_⟩
      · obtain ⟨x, hx, rfl⟩ := List.mem_map.1 hs
        simp only [List.length_map, List.length_range]
        exact hv x hx
      · simp only [List.length_map]
        by_cases hn : l = []
        · subst hn
          have : alS [] = ([], 0) := rfl
          rw [this] at hal; cases hal; simp
        · obtain ⟨_, _, _, _, _, _, h8, _⟩ := al_facts ho hn hal
          omega
  split
  · exact none 20
  · refine ⟨fun s hs => ?_, by simp⟩
    simp at hs; subst hs
    exact oneG_vals _ _ hv
end Go.Ble
namespace Go.Proofs.YtdgpnmlialmaaaaGreatDoor
open Go.Abs Go.Num Go.Ser Go.Ble Go.Dec Go.Shp
variable {G : Globs}
theorem serEls_share (σ : Store) (l : List Sr) : ((serEls l).mapM fun (c : List AV) => c.mapM (share1 σ)) = some (serEls l) := by
  induction l with
  | nil => rfl
  | cons a l ih =>
    show ((srC a :: serEls l).mapM _) = some (srC a :: serEls l)
    rw [List.mapM_cons, ih]
    simp [srC, share1, AV.pure]
theorem serEls_four (l : List Sr) : ∀ c ∈ serEls l, c.length = 4 := by
  intro c hc
  obtain ⟨s, _, rfl⟩ := List.mem_map.1 hc
  rfl
theorem takesBA_eq (call : List UInt8) : ∃ (a : Int) (b c : Bool), takesBA call = .tup [.int .i64 a, .bool b, .bool c] := by
  unfold takesBA
  cases cwOf call <;> exact ⟨_, _, _, rfl⟩
theorem bapplies_law [GSpc] [GPow] [GMaxL] (c : Cb) (hc : CbOk c) (l : List Sr) (ho : ∀ s ∈ l, SrOk s) (hl : l.length * 56 ≤ 140737488355328) : PCalls Tryz.prog n_isobarlaw26_BlendApplies [cbA c, serL l] (fun r => r = .bool true) := by
  refine pcalls_of_awp hmix c_isobarlaw26_BlendApplies rfl ?_
  have kG := great26_any (G := G) c.word c.text (.lst (numEls c.args)) c.args.length (.inr ⟨_, rfl, rfl⟩) l (by omega)
  have kA := bApply_ok (G := G) c.word l c.args c.text (by omega) ho hc.al hc.ar
  have kB := rbApply_ok (G := G) c.word l c.args c.text (by omega) ho hc.al hc.ar
  have kT := bTakes_ok (G := G) c.word
  have kU := rbTakes_ok (G := G) c.word
  obtain ⟨t1, t2, t3, ht⟩ := takesBA_eq c.word
  rw [ht] at kT kU
  have hle := serEls_len l
  have kSl := sameList_ok (G := G) l (by omega) (fun s hs => (ho s hs).vl)
  unfold serL at kG kA kB kSl ⊢
  unfold cbA
  simp [a_isobarlaw26_BlendApplies]
  refine ac_same alive26_ok (by simp) ?_
  rintro r rfl
  simp
  refine ac_same kG (by simp) ?_
  rintro r ⟨b, rfl⟩
  cases b with
  | true => simp
  | false =>
    obtain ⟨hX1, hX2⟩ := applyB_bd c.word l c.args c.text ho
    obtain ⟨X, hX⟩ : ∃ X, X = applyB c.word l c.args c.text := ⟨_, rfl⟩
    rw [← hX] at kA kB hX1 hX2
    have kSX := sameList_ok (G := G) X.1 (by omega) (fun s hs => by have := hX1 s hs; omega)
    unfold alA serL at kA kB
    unfold serL at kSX
    simp
    refine ap_row (bytes := 56) [] (serEls l) false (by simp [lay, splice, chunks]) rfl (by decide) (serEls_four l) (fun h => by cases h) rfl (by rw [hle]; omega) (by rw [hle]; omega) ?_
    simp [hle]
    refine ac_frz ⟨1, 41, 4, serEls l, serEls l, rfl, serEls_share _ _, rfl⟩ (.inl ⟨_, _, .cons (.pure _ (by simp)) (.cons (.row 1 l.length 41 4 (serEls l) true (by simp) hle (.inl rfl)) (.cons (.pure _ (by simp)) (.cons (.pure _ (by simp)) .nil))), kA, ?_⟩)
    rintro r rfl
    simp
    refine ac_same kB (by simp) ?_
    rintro r rfl
    simp
    refine ac_same kT (by simp) ?_
    rintro r rfl
    simp
    refine ac_same kU (by simp) ?_
    rintro r rfl
    simp
    refine ac_same kSX (by simp) ?_
    rintro r rfl
    simp
    refine ac_pure kSl (.cons (.row 1 l.length 41 4 (serEls l) true (by simp) hle (.inl rfl)) (.cons (.pure _ (by simp)) .nil)) ?_
    rintro r rfl
    simp
end Go.Proofs.YtdgpnmlialmaaaaGreatDoor
end
section
namespace Go.Proofs.YtdgpnmlialmaaaaGreatDoor
open Go.ChangeShapes Go.WideShapes Go.ChangeAt Go.RowKit Go.ChangeMaps Go.Abs Go.Ser
section
variable {H : Type} {enc : TypeId × Value → H} {w : World} {base : Nat} {spare : Nat → Bool} {held : Bool}
theorem ser_size : Tryz.prog.cellsOf 41 = 4 := by kernel_rfl
theorem str_size4 : Tryz.prog.cellsOf 9 = 1 := by kernel_rfl
theorem int_size4 : Tryz.prog.cellsOf 3 = 1 := by kernel_rfl
theorem nums_size4 : Tryz.prog.cellsOf 22 = 1 := by kernel_rfl
theorem ir_bytes4 {Im : Addr → Prop} {w : World} (s : ByteArray) : IR Im w (.str s.data.toList) (.string s) := by
  have : (.string s : Value) = .string ⟨s.data.toList.toArray⟩ := by cases s; simp
  rw [this]; exact .str _
end
end Go.Proofs.YtdgpnmlialmaaaaGreatDoor
end
section
namespace Go.Proofs.YtdgpnmlialmaaaaGreatDoor
open Go.ChangeShapes Go.WideShapes Go.ChangeAt Go.RowKit Go.ChangeMaps Go.Abs
instance serGlobs : Globs := ⟨[(gPow, Lib.pow10Tab.map (AV.int .u64))]⟩
instance serG : GPow where
  pow := List.Mem.head _
end Go.Proofs.YtdgpnmlialmaaaaGreatDoor
end
section
namespace Go.Proofs.YtdgpnmlialmaaaaGreatDoor
open Go.ChangeShapes Go.WideShapes Go.ChangeAt Go.RowKit Go.ChangeMaps Go.Abs
abbrev gSpace : Nat := 0
abbrev gMx : Nat := 5
abbrev bleGlobs (m : Int) : Globs := ⟨[(gPow, Lib.pow10Tab.map (AV.int .u64)), (gSpace, Lib.asciiSpaceTab.map (AV.int .u8)), (gMx, [AV.int .i64 m])]⟩
theorem bleP (m : Int) : @GPow (bleGlobs m) := @GPow.mk (bleGlobs m) (List.Mem.head _)
theorem bleS (m : Int) : @GSpc (bleGlobs m) := @GSpc.mk (bleGlobs m) (.tail _ (List.Mem.head _))
theorem bleM (m : Int) : @GMaxL (bleGlobs m) := @GMaxL.mk (bleGlobs m) ⟨m, .tail _ (.tail _ (List.Mem.head _))⟩
theorem mx_var {w : World} (h : w.ShapedOpen Tryz.prog) : ∃ m, w.var? Tryz.prog "internal/bytealg.MaxLen" = some #[.int .i64 m] := by
  obtain ⟨cs, hh, hs, -⟩ := h.1 gMx #[.int .i64 0] 3 (of_decide_eq_true (by kernel_rfl)) (by kernel_rfl)
  obtain ⟨m, hm⟩ := Go.Proofs.cell_of_shapedOpen_int (zero := #[.int .i64 0]) (g := gMx) (t := 3) h (of_decide_eq_true (by kernel_rfl)) (by kernel_rfl) rfl (by kernel_rfl) (by kernel_rfl) Tryz.underlying3
  have h1 : cs.size = 1 := hs
  obtain ⟨v, rfl⟩ : ∃ v, cs = #[v] := by
    obtain ⟨l⟩ := cs
    match l, h1 with
    | [v], _ => exact ⟨v, rfl⟩
  have hg : Tryz.prog.globalNamed "internal/bytealg.MaxLen" = some gMx := by kernel_rfl
  simp [World.cell?, hh] at hm
  subst hm
  exact ⟨m, by unfold World.var?; rw [hg]; simp [hh]⟩
theorem gin_ble {l : List (String × DataW Unit)} {w : World} (h : laidMet Tryz.prog l w) (h3 : ("internal/strconv.uint64pow10", Rows.laid_internal_strconv_uint64pow10) ∈ l) (h4 : ("strings.asciiSpace", Rows.laid_strings_asciiSpace) ∈ l) (hs : w.ShapedOpen Tryz.prog) : ∃ m, @GlobsIn (bleGlobs m) w := by
  obtain ⟨m, hm⟩ := mx_var hs
  refine ⟨m, ?_⟩
  letI : Globs := bleGlobs m
  intro p hp
  have hI : ∀ g, (∃ p ∈ (bleGlobs m).tab, g = p.1) → ∀ j, @gIm (bleGlobs m) ⟨g, j, none⟩ := fun g hg j => ⟨rfl, hg⟩
  rcases hp with _ | ⟨_, _ | ⟨_, _ | ⟨_, hp⟩⟩⟩
  · obtain ⟨r, h⟩ := laidAt h h3
    have e : (Rows.laid_internal_strconv_uint64pow10 : DataW Unit) = Lib.tabData .u64 Lib.pow10Tab := by kernel_rfl
    rw [e] at h
    have := Lib.tabIs_of_head (g := gPow) (by kernel_rfl) (by kernel_rfl) Tryz.underlying204 Tryz.underlying74 (by kernel_rfl) (by kernel_rfl) h
    refine gok_one (n := "internal/strconv.uint64pow10") (by kernel_rfl) this (by simp) (by simp [AV.one]) ?_ (hI _ ⟨_, List.Mem.head _, rfl⟩)
    intro j hj
    have hj' : j < Lib.pow10Tab.length := by simpa using hj
    simp [hj']
    exact .int _ _
  · obtain ⟨r, h⟩ := laidAt h h4
    have e : (Rows.laid_strings_asciiSpace : DataW Unit) = Lib.tabData .u8 Lib.asciiSpaceTab := by kernel_rfl
    rw [e] at h
    have := Lib.tabIs_of_head (g := gSpace) (by kernel_rfl) (by kernel_rfl) Tryz.underlying102 Tryz.underlying5 (by kernel_rfl) (by kernel_rfl) h
    refine gok_one (n := "strings.asciiSpace") (by kernel_rfl) this (by simp) (by simp [AV.one]) ?_ (hI _ ⟨_, .tail _ (List.Mem.head _), rfl⟩)
    intro j hj
    have hj' : j < Lib.asciiSpaceTab.length := by simpa using hj
    simp [hj']
    exact .int _ _
  · refine gok_one (n := "internal/bytealg.MaxLen") (by kernel_rfl) hm rfl (by simp [AV.one]) ?_ (hI _ ⟨_, .tail _ (.tail _ (List.Mem.head _)), rfl⟩)
    intro j hj
    have : j = 0 := by simp at hj; omega
    subst this
    exact .int _ _
  · cases hp
/-- So many blocks has the settled world. -/
noncomputable def lowS : Nat := (World.holding Tryz.prog default ⟨#[], #[], []⟩).heap.size
/-- A world that meets the condition: the settled one, the tables laid, and two blocks more for the table of blanks. -/
noncomputable def bleWorld (os : Os) : World :=
  let w0 := World.holding Tryz.prog os ⟨#[.cells #[.slice (some ⟨lowS + 1, 0, none⟩) 7 7, .slice none 0 0, .int .i64 2] 163,
    .cells #[.int .u16 9, .int .u16 13, .int .u16 1, .int .u16 32, .int .u16 133, .int .u16 101, .int .u16 160, .int .u16 5760, .int .u16 5600, .int .u16 8192, .int .u16 8202, .int .u16 1, .int .u16 8232, .int .u16 8233, .int .u16 1, .int .u16 8239, .int .u16 8287, .int .u16 48, .int .u16 12288, .int .u16 12288, .int .u16 1] 166], #[], []⟩
  let put (h : Array Obj) (g : Nat) (cs : Array Value) : Array Obj := h.modify g fun
    | .cells _ t frozen => .cells cs t frozen
    | o => o
  let h := put w0.heap gPow (litCells Rows.laid_internal_strconv_uint64pow10).toArray
  let h := put h gSpace (litCells Rows.laid_strings_asciiSpace).toArray
  let h := put h 1 #[.pointer (some ⟨lowS, 0, none⟩)]
  let h := put h 6 (litCells Rows.laid_math_bits_deBruijn32tab).toArray
  let h := put h 7 (litCells Rows.laid_math_bits_deBruijn64tab).toArray
  let h := put h 8 (litCells Rows.laid_unicode_utf8_first).toArray
  let h := put h 9 (litCells Rows.laid_unicode_utf8_acceptRanges).toArray
  { w0 with heap := h }
noncomputable abbrev bleBlocks : List Nat := [lowS, lowS + 1, gPow, gSpace, 1, 6, 7, 8, 9]
open Go.Ser Go.Num
section
variable {H : Type} {enc : TypeId × Value → H} {w : World} {base : Nat} {spare : Nat → Bool} {held : Bool}
theorem call_size : Tryz.prog.cellsOf 24 = 3 := by kernel_rfl
theorem call_types : Tryz.prog.cellTypes Tryz.prog.depth 24 = some [9, 22, 9] := by kernel_rfl
set_option maxRecDepth 100000 in
theorem open_call {r : Reach} {b0 : Nat} {v : Value} {d : DataW H} {ps : List MemPlace} (hval : Value.okWide Tryz.prog w r b0 24 v) (hd : DataW.Trod enc Tryz.prog w base spare held 24 v d ps) :
    ∃ c : Cb, CbOk c ∧ IR (oldIm w) w (cbA c) v := by
  have hval' := hval
  simp only [Value.okWide, Tryz.underlying24] at hval'
  obtain ⟨cs, rfl, hsz, ts, hts, _, hcell⟩ := hval'
  rw [call_types] at hts
  simp only [Option.some.injEq] at hts
  subst hts
  obtain ⟨fuel, hf⟩ := hd
  obtain ⟨xs, n, rfl, hx, hl, hxl, hall⟩ := DataW.trod_struct Tryz.underlying24 hf
  have hx2 : xs.length = 3 := hxl
  obtain ⟨x0, x1, x2, rfl⟩ : ∃ x0 x1 x2, xs = [x0, x1, x2] := by
    match xs, hx2 with
    | [a, b, c], _ => exact ⟨a, b, c, rfl⟩
  have hl2 : cs.size = 3 := by rw [hsz, call_size]
  obtain ⟨c0, c1, c2, rfl⟩ : ∃ c0 c1 c2, cs = #[c0, c1, c2] := by
    obtain ⟨l⟩ := cs
    match l, hl2 with
    | [a, b, c], _ => exact ⟨a, b, c, rfl⟩
  have h0 : DataW.trod enc Tryz.prog w base spare held n 9 [c0] = some x0 := by simpa [str_size4, Value.cells] using hall 0 _ rfl
  have h1 : DataW.trod enc Tryz.prog w base spare held n 22 [c1] = some x1 := by simpa [nums_size4, Value.cells] using hall 1 _ rfl
  have h2 : DataW.trod enc Tryz.prog w base spare held n 9 [c2] = some x2 := by simpa [str_size4, Value.cells] using hall 2 _ rfl
  obtain ⟨s0, e0, _, w0⟩ := DataW.trod_string Tryz.underlying9 h0
  obtain ⟨s2, e2, _, w2⟩ := DataW.trod_string Tryz.underlying9 h2
  simp only [List.cons.injEq, and_true] at e0 e2
  subst e0 e2
  obtain ⟨u, hu, hck⟩ := hcell 1 c1 rfl
  have hu2 : u = 22 := by simpa using hu.symm
  subst hu2
  have hval1 : Value.okWide Tryz.prog w r b0 22 c1 := by simp only [Value.okWide, Tryz.underlying22]; exact hck
  have hcs : c1.cells = #[c1] := by
    rcases DataW.trod_slice Tryz.underlying22 h1 with ⟨hc, _⟩ | ⟨a, len, cap, elems, rest, n', _, hc, _⟩
    · simp only [List.cons.injEq, and_true] at hc; subst hc; rfl
    · simp only [List.cons.injEq, and_true] at hc; subst hc; rfl
  have hd1 : DataW.Trod enc Tryz.prog w base spare held 22 c1 x1.1 x1.2 := ⟨n, by rw [hcs]; exact h1⟩
  obtain ⟨l, wl, wk, hir⟩ := open_nums hval1 hd1
  refine ⟨⟨s0.data.toList, l, s2.data.toList⟩, ⟨by rw [Array.length_toList]; exact w0, wk, wl, by rw [Array.length_toList]; exact w2⟩, ?_⟩
  exact .agg _ [_, _, _] (by simp [AV.one]) rfl fun j hj hj' => by
    match j, hj with
    | 0, _ => exact ir_bytes4 _
    | 1, _ => exact hir
    | 2, _ => exact ir_bytes4 _
end
theorem ser_bytes : Tryz.prog.bytesOf 41 = 56 := by kernel_rfl
theorem sers_room {H : Type} {enc : TypeId × Value → H} {w : World} {base : Nat} {spare : Nat → Bool} {held : Bool} {Im : Addr → Prop} {L : List (List AV)} {v : Value} {d : DataW H} {ps : List MemPlace} {ts : List TypeId} {ds : List (DataW H)} {j : Nat}
    (hd : DataW.Trod enc Tryz.prog w base spare held 25 v d ps) (hir : IR Im w (.lst L) v) (h : (DataW.weightsEach Tryz.prog ts ds).all (· ≤ reachBytes) = true) (ht : ts[j]? = some 25) (hdj : ds[j]? = some d) : L.length * 56 ≤ 140737488355328 := by
  obtain ⟨fuel, hf⟩ := hd
  have hv : v.cells = #[v] := by cases hir <;> rfl
  rw [hv] at hf
  rcases DataW.trod_slice Tryz.underlying25 hf with ⟨hcs, hx⟩ | ⟨a, len', cap', elems, rest, n, _, hcs, hx, hb, hl, hm, hlen, _⟩
  · simp only [List.cons.injEq, and_true] at hcs
    subst hcs
    cases hir
    simp
  · simp only [List.cons.injEq, and_true] at hcs
    subst hcs
    have hLl : L.length = len' := by
      cases hir <;> simp
    have hdd : d = .slice (elems.map (·.1)) (rest.map (·.1)) := congrArg Prod.fst hx
    subst hdd
    have hin : ((elems.map (·.1)).length + (rest.map (·.1)).length) * Tryz.prog.bytesOf 41 ∈ (DataW.slice (elems.map (·.1)) (rest.map (·.1))).weights Tryz.prog 25 := by
      simp only [DataW.weights, Tryz.underlying25]
      exact List.Mem.head _
    have hm := DataW.weights_mem_each ht hdj _ hin
    have h2 := of_decide_eq_true (List.all_eq_true.1 h _ hm)
    rw [ser_bytes] at h2
    simp only [List.length_map, reachBytes] at h2
    have : (elems.length + rest.length) * 56 ≤ 140737488351232 := h2
    omega
end Go.Proofs.YtdgpnmlialmaaaaGreatDoor
end
