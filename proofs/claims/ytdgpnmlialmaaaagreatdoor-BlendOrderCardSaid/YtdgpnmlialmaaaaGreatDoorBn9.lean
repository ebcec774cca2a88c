/- Functions of many series: what groupByNode makes (the document). Functions of many series: a call of a list (the program). Functions of many series: a -/
import Derived.Test.YtdgpnmlialmaaaaGreatDoorBn1
import Derived.Test.YtdgpnmlialmaaaaGreatDoorBn2
import Derived.Test.YtdgpnmlialmaaaaGreatDoorBn3
import Derived.Test.YtdgpnmlialmaaaaGreatDoorBn4
import Derived.Test.YtdgpnmlialmaaaaGreatDoorBn5
import Derived.Test.YtdgpnmlialmaaaaGreatDoorBn6
import Derived.Test.YtdgpnmlialmaaaaGreatDoorBn7
import Derived.Test.YtdgpnmlialmaaaaGreatDoorBn8
set_option linter.unusedSimpArgs false
set_option linter.unusedVariables false
set_option linter.constructorNameAsVariable false
section
set_option maxHeartbeats 8000000
namespace Go.Proofs.YtdgpnmlialmaaaaGreatDoor
open Go.Abs Go.Num Go.Ser Go.Ble Go.Dec Go.Shp
variable {G : Globs}
end Go.Proofs.YtdgpnmlialmaaaaGreatDoor
end
section
set_option maxHeartbeats 8000000
namespace Go.Proofs.YtdgpnmlialmaaaaGreatDoor
open Go.Abs Go.Num Go.Ser Go.Dec Go.Shp Go.Ble
variable {G : Globs}
theorem check_bd {w : Cw} {l : List Sr} {args : List N} {text : List UInt8} {n m : Int} (h : checkB w l args text = some (n, m)) : 0 ≤ n ∧ n ≤ 1099511627776 := by
  by_cases hg : w = .group
  · subst hg
    have hcb : checkB .group l args text = match methodS text, wholeS (args.headD nothing) 0 1099511627776 with
      | some m, some n => some (n, m)
      | _, _ => none := rfl
    rw [hcb] at h
    cases hms : methodS text with
    | none => rw [hms] at h; cases h
    | some m' =>
      rw [hms] at h
      cases hws : wholeS (args.headD nothing) 0 1099511627776 with
      | none => rw [hws] at h; cases h
      | some n' =>
        rw [hws] at h
        cases h
        unfold wholeS at hws
        split at hws
        · rename_i h; cases hws; exact h.2
        · cases hws
  · have : n = 0 := by
      cases w <;> simp [checkB] at h <;> first | exact absurd rfl hg | omega
    omega
theorem check_two {l : List Sr} {args : List N} {text : List UInt8} {p : Int × Int} (h : checkB .divide l args text = some p) : l.length = 2 := by
  simp only [checkB] at h
  split at h
  · assumption
  · cases h
theorem cw_txt_eq {a b : Cw} : (a.txt = b.txt) ↔ a = b := ⟨cw_inj, fun h => by rw [h]⟩
theorem apply1_ok (s : Sr) (h : SrOk s) : PCalls Tryz.prog n_blend_Apply_1 [srA s] (fun r => r = .bool (!rightS s)) := by
  refine pcalls_of_awp hmix c_blend_Apply_1 rfl ?_
  have k := sRight_ok (G := G) s h
  rw [srA_eq] at k ⊢
  simp [a_blend_Apply_1]
  refine ac_same k (by simp) ?_
  rintro r rfl
  simp
theorem apply2_ok (w : Cw) (hw : w ≠ .percent ∧ w ≠ .group) (args l : List N) (ha : oksN args) (hok : oksN l) (hl : l.length ≤ 1000000000) (h1 : w = .percentile → args ≠ []) (h2 : w = .diff → l ≠ []) (h3 : w = .divide → 2 ≤ l.length) :
    PCalls Tryz.prog n_blend_Apply_2 [.lst (numEls l), .rptr [.str w.txt], .rptr [.lst (numEls args)]] (fun r => r = numA (valueS w args l)) := by
  refine pcalls_of_awp hmix c_blend_Apply_2 rfl ?_
  have k := bValue_ok (G := G) w hw args l ha hok hl h1 h2 h3
  obtain ⟨z, hz⟩ : ∃ z, z = valueS w args l := ⟨_, rfl⟩
  rw [← hz, numA_eq] at k
  rw [← hz]
  simp [a_blend_Apply_2]
  refine ac_same k (by simp) ?_
  rintro r rfl
  simp [splice, numA]
theorem bApply_ok [GSpc] [GPow] [GMaxL] (call : List UInt8) (l : List Sr) (args : List N) (text : List UInt8) (hl : l.length ≤ 9223372036854775807) (ho : ∀ s ∈ l, SrOk s) (hal : args.length ≤ 9223372036854775807) (hao : oksN args) :
    PCalls Tryz.prog n_blend_Apply [.str call, serL l, .lst (numEls args), .str text] (fun r => r = alA (applyB call l args text)) := by
  refine pcalls_of_awp hmix c_blend_Apply rfl ?_
  have hle := serEls_len l
  have hla := numEls_len args
  have kT := bTakes_ok (G := G) call
  have kc := containsS_ok (G := G) l hl (fun s => !rightS s) n_blend_Apply_1 b_blend_Apply_1 (fun n hn => apply1_ok n (ho n hn))
  have kU := contains_ok (G := G) args (by omega) (fun n => !good n) n_blend_unknown b_blend_unknown (fun n hn => bUnknown_ok n (hao n hn))
  obtain ⟨R, hR0⟩ : ∃ R, R = applyB call l args text := ⟨_, rfl⟩
  rw [← hR0]
  unfold applyB at hR0
  unfold takesBA at kT
  unfold serL at kc ⊢
  simp [a_blend_Apply]
  refine ac_same kT (by cases cwOf call <;> simp) ?_
  rintro r rfl
  cases hcw : cwOf call with
  | none =>
    rw [hcw] at hR0
    simp [hR0, alA, serL, serEls]
  | some w =>
    rw [hcw] at hR0
    have hwt := cwOf_some hcw
    subst hwt
    simp only at hR0
    simp
    refine ac_same kc (by simp) ?_
    rintro r rfl
    cases hany : l.any fun s => !rightS s with
    | true =>
      rw [if_pos hany] at hR0
      simp [hR0, alA, serL, serEls]
    | false =>
      rw [if_neg (by simp [hany])] at hR0
      have hSR : ∀ s ∈ l, SrR s := fun s hs => right_iff.1 (by have := List.any_eq_false.1 hany s hs; simpa using this)
      by_cases h128 : 128 < l.length
      · rw [if_pos h128] at hR0
        have h128' : (128 : Int) < l.length := by omega
        simp [hle, h128, h128', hR0, alA, serL, serEls]
      rw [if_neg h128] at hR0
      have h128' : ¬ (128 : Int) < l.length := by omega
      have h21 : args.length = w.takes.1 → (w = .percentile ∨ w = .group → args ≠ []) := by
        intro h hw he
        subst he
        rcases hw with rfl | rfl <;> simp [Cw.takes] at h
      obtain ⟨tk1, htk1⟩ : ∃ t, t = w.takes.1 := ⟨_, rfl⟩
      obtain ⟨tk2, htk2⟩ : ∃ t, t = w.takes.2 := ⟨_, rfl⟩
      rw [← htk1] at h21
      rw [← htk1, ← htk2] at hR0 ⊢
      by_cases hn : args.length = tk1
      rotate_left
      · rw [if_pos (.inl hn)] at hR0
        have hn' : ¬ (args.length : Int) = tk1 := by omega
        simp [hle, h128, h128', hla, hn, hn', hR0, alA, serL, serEls]
      have hne := h21 hn
      simp [hle, h128, h128', hla, hn]
      refine ac_same kU (by simp) ?_
      rintro r rfl
      cases hag : args.any fun n => !good n with
      | true =>
        rw [if_pos (.inr (.inl hag))] at hR0
        simp [hR0, alA, serL, serEls]
      | false =>
      by_cases htx : text ≠ [] ∧ tk2 = false
      · rw [if_pos (.inr (.inr htx))] at hR0
        obtain ⟨ht1, ht2⟩ := htx
        simp [ht1, ht2, hR0, alA, serL, serEls]
      rw [if_neg (by
        rintro (h | h | h)
        · exact h hn
        · rw [hag] at h; cases h
        · exact htx h)] at hR0
      have kC := bChecked_ok (G := G) w l args text hao hne
      have htx' : text = [] ∨ (text ≠ [] ∧ tk2 = true) := by
        by_cases h : text = []
        · exact .inl h
        · refine .inr ⟨h, ?_⟩
          cases h2 : tk2 with
          | true => rfl
          | false => exact absurd ⟨h, h2⟩ htx
      unfold serL at kC
      obtain ⟨ch, hch⟩ : ∃ ch, ch = checkB w l args text := ⟨_, rfl⟩
      unfold checkR at kC
      rw [← hch] at kC hR0
      rcases htx' with rfl | ⟨ht, ht2⟩
      all_goals (
        first | simp [ht, ht2] | simp
        refine ac_same kC (by simp) ?_
        rintro r ⟨a, b, rfl, hab⟩
        cases hc2 : ch with
        | none =>
          rw [hc2] at hR0
          simp [hR0, alA, serL, serEls, splice]
        | some nm =>
        obtain ⟨n, m⟩ := nm
        rw [hc2] at hR0 hab
        obtain ⟨rfl, rfl⟩ := hab _ _ rfl
        have hbd := check_bd (hch.symm.trans hc2)
        simp only at hR0
        by_cases hnil : l = []
        · rw [if_pos hnil] at hR0
          subst hnil
          simp [hR0, alA, serL, serEls, splice]
        rw [if_neg hnil] at hR0
        have hlp := List.length_pos_iff.2 hnil
        have hl0 : ¬ (l.length : Int) = 0 := by omega
        have hl0' : ¬ l.length = 0 := by omega
        have hgt : w.txt = [103, 114, 111, 117, 112, 66, 121, 78, 111, 100, 101] ↔ w = .group := cw_txt_eq (b := .group)
        have hpt : w.txt = [97, 115, 80, 101, 114, 99, 101, 110, 116] ↔ w = .percent := cw_txt_eq (b := .percent)
        by_cases hwg : w = .group
        · rw [if_pos hwg] at hR0
          have kG := bGrouped_ok (G := G) a.toNat (by omega) b l hnil (by omega) (fun s hs => by have := (hSR s hs).nm; omega) ho
          rw [← hR0, Int.toNat_of_nonneg hbd.1] at kG
          unfold serL at kG
          simp [hle, hnil, hl0, hl0', hwg, Cw.txt, splice]
          refine ac_same kG (by simp) ?_
          rintro r rfl
          simp [alA, serL]
        rw [if_neg hwg] at hR0
        have kA := align_ok (G := G) l hl ho
        unfold serL at kA
        simp [hle, hnil, hl0, hl0', hgt, hwg, splice]
        refine ac_same kA (by simp) ?_
        rintro r rfl
        obtain ⟨al, e, hal2⟩ : ∃ al e, alS l = (al, e) := ⟨_, _, rfl⟩
        rw [hal2] at hR0
        by_cases he : e = 0
        rotate_left
        · have hz : R = ([], e) := by
            rw [hR0]
            cases e with
            | zero => exact absurd rfl he
            | succ e => rfl
          have he' : ¬ (e : Int) = 0 := by omega
          simp [alA, hal2, he, he', hz, serL, serEls]
        subst he
        simp only at hR0
        obtain ⟨s0, a', ha, hav, haso, har, hall, hanm⟩ := al_facts ho hnil hal2
        have hs0r := har s0 (by rw [ha]; simp)
        by_cases hwp : w = .percent
        · rw [if_pos hwp] at hR0
          have kP := bPercent_ok (G := G) s0 a' (by rw [ha] at hall; omega) (fun s hs => (hav s (by rw [ha]; exact hs)).1) (by have := hs0r.vl; omega) (fun s hs => haso s (by rw [ha]; exact hs)) (fun s hs => by have := (har s (by rw [ha]; exact hs)).nm; omega)
          rw [← ha, ← hR0] at kP
          unfold serL at kP
          simp [alA, hal2, serL, hwp, Cw.txt]
          refine ac_same kP (by simp) ?_
          rintro r rfl
          simp [alA, serL]
        rw [if_neg hwp] at hR0
        have htk : tk1 ≤ 1 := by rw [htk1]; cases w <;> decide
        have kL := bLabel_ok (G := G) w l args (by omega) (fun s hs => by have := (hSR s hs).nm; omega) (by omega) hao
        unfold serL at kL
        simp [alA, hal2, serL, hpt, hwp]
        refine ac_same kL (by simp) ?_
        rintro r rfl
        by_cases hbig : 400 < (nameB w l args).length
        · rw [if_pos hbig] at hR0
          have hbig' : (400 : Int) < (nameB w l args).length := by omega
          simp [hbig, hbig', hR0, serEls]
        rw [if_neg hbig] at hR0
        have hbig' : ¬ (400 : Int) < (nameB w l args).length := by omega
        have hall2 : al.length = l.length := by have := congrArg List.length hanm; simpa using this
        have hper : w = .percentile → args ≠ [] := fun h => hne (.inl h)
        have kA2 := fun k (hk : k < s0.vals.length) => apply2_ok (G := G) w ⟨hwp, hwg⟩ args (togN al k) hao (oksN_tog haso k) (by rw [togN_len]; omega) hper (fun _ h => by
          have := congrArg List.length h
          rw [togN_len, hall2] at this
          exact hl0' this) (fun h => by
          rw [togN_len, hall2]
          subst h
          exact Nat.le_of_eq (check_two (hch.symm.trans hc2)).symm)
        obtain ⟨fv, hfv⟩ : ∃ fv, fv = valueS w args := ⟨_, rfl⟩
        rw [← hfv] at kA2 hR0
        rw [ha] at kA2 hR0
        have kT := fun σ : Store => fun h => bTogether_ok (G := G) (nameB w l args) s0 a' (by rw [ha] at hall; simp at hall; omega) (fun s hs => (hav s (by rw [ha]; exact hs)).1) (by have := hs0r.vl; omega) fv n_blend_Apply_2 b_blend_Apply_2 σ [.ptr 0 0, .ptr 1 0] [.rptr [.str w.txt], .rptr [.lst (numEls args)]] h (fun k hk => kA2 k hk)
        obtain ⟨g, hg⟩ : ∃ g, g = oneG (nameB w l args) fv (s0 :: a') := ⟨_, rfl⟩
        rw [← hg] at hR0 kT
        rw [ha]
        unfold serL at kT
        simp [hbig, hbig']
        refine ac_eff (kT _ fun τ => .cons (coe_ptr (t := 9) (by simp) (by simp) (by simp [AV.one])) (.cons (coe_ptr (t := 22) (by simp) (by simp) (by simp [AV.one])) .nil)) ?_
        rintro r σ' ⟨rfl, rfl⟩
        simp [hR0, srA_eq, serEls, srC, lay, splice, chunks])
end Go.Proofs.YtdgpnmlialmaaaaGreatDoor
end
section
set_option maxHeartbeats 16000000
namespace Go.Proofs.YtdgpnmlialmaaaaGreatDoor
open Go.Abs Go.Num Go.Ser Go.Ble Go.Dec Go.Shp
variable {G : Globs}
end Go.Proofs.YtdgpnmlialmaaaaGreatDoor
end
section
set_option maxHeartbeats 4000000
namespace Go.Proofs.YtdgpnmlialmaaaaGreatDoor
open Go.Abs Go.Num Go.Ser
variable {G : Globs}
theorem sameList_ok (l : List Sr) (hl : l.length ≤ 9223372036854775807) (h : ∀ s ∈ l, s.vals.length ≤ 9223372036854775807) : PCalls Tryz.prog n_isobarref24_SameList [serL l, serL l] (fun r => r = .bool true) := by
  refine pcalls_of_awp hmix c_isobarref24_SameList rfl ?_
  have hle := serEls_len l
  simp [a_isobarref24_SameList, serL]
  refine lp_startx (fun x f σ => ∃ (i : Nat), x = l.length - i ∧ i ≤ l.length ∧ f 0 = .lst (serEls l) ∧ f 1 = .lst (serEls l) ∧ f 5 = .int .i64 i ∧ σ = []) l.length ?_ ?_
  · exact ⟨0, by simp, by simp, by simp, by simp, by simp, by simp⟩
  rintro x f σ ⟨i, hx, hi, f0, f1, f5, rfl⟩
  by_cases hlt : i < l.length
  · have hlt' : (i : Int) < l.length := by omega
    have hwi : IntKind.i64.wrap ((i : Int) + 1) = (i : Int) + 1 := wrap_i64 (by omega) (by omega)
    obtain ⟨y, hy⟩ : ∃ y, l[i]? = some y := ⟨_, List.getElem?_eq_getElem hlt⟩
    have hse := serEls_get hy
    obtain ⟨hx1, hx2⟩ := List.getElem?_eq_some_iff.1 hse
    have kS := sameS_ok (G := G) y (h y (List.mem_of_getElem? hy))
    rw [srA_eq] at kS
    simp [f0, f1, f5, hle, hlt, hlt', hx1, hx2, hwi]
    refine qc_same kS (by simp) (by simp) ?_
    simp [f5, hwi]
    refine nx_intro (l.length - (i + 1)) (by omega) ⟨i + 1, rfl, by omega, by simp [f0], by simp [f1], by simp, rfl⟩
  · have hil : i = l.length := by omega
    have hlt' : ¬ (i : Int) < l.length := by omega
    simp [f0, f5, hle, hlt, hlt', hil]
end Go.Proofs.YtdgpnmlialmaaaaGreatDoor
end
section
set_option maxHeartbeats 4000000
namespace Go.Proofs.YtdgpnmlialmaaaaGreatDoor
open Go.Abs Go.Num Go.Ser Go.Ble Go.Dec Go.Shp
variable {G : Globs}
def of26 (name : List UInt8) (l : List Int) : Sr := ⟨name, 0, 60, l.map fun v => (false, v * 1000000)⟩
theorem of26_ok (name : List UInt8) (l : List Int) (hl : l.length ≤ 1000) (hb : ∀ v ∈ l, -1000 ≤ v ∧ v ≤ 1000) : PCalls Tryz.prog n_isobarlaw26_of [.str name, .lst (l.map fun v => [.int .i64 v])] (fun r => r = srA (of26 name l)) := by
  refine pcalls_of_awp hmix c_isobarlaw26_of rfl ?_
  obtain ⟨F, hF⟩ : ∃ F : Int → N, F = fun v => (false, v * 1000000) := ⟨_, rfl⟩
  have ho : of26 name l = ⟨name, 0, 60, l.map F⟩ := by rw [hF]; rfl
  rw [ho]
  simp [a_isobarlaw26_of, splice]
  refine lp_startx (fun x f σ => ∃ (k : Nat) (V : AV) (τ : Store), x = l.length - k ∧ k ≤ l.length ∧ f 1 = .lst (l.map fun v => [.int .i64 v]) ∧ f 4 = .ptr 0 0 ∧ f 5 = .ptr 1 0 ∧ f 6 = .int .i64 k ∧
    AccT 35 2 2 τ V (numEls ((l.take k).map F)) ∧ σ = [.var 41 [.str [], .int .i64 0, .int .i64 0, .nils], .var 41 [.str name, .int .i64 0, .int .i64 60, V]] ++ τ) l.length ?_ ?_
  · exact ⟨0, .nils, [], by simp, by simp, by simp, by simp, by simp, by simp, accT_nil, by simp⟩
  rintro x f σ ⟨k, V, τ, hx, hk, f1, f4, f5, f6, hacc, rfl⟩
  simp [f1, f6]
  refine cb_dec (fun hlt => ?_) (fun hge => ?_)
  · have hlt' : k < l.length := by omega
    obtain ⟨y, hy⟩ : ∃ y, l[k]? = some y := ⟨_, List.getElem?_eq_getElem hlt'⟩
    have hyb := hb y (List.mem_of_getElem? hy)
    have hw : IntKind.i64.wrap ((k : Int) + 1) = ((k + 1 : Nat) : Int) := by rw [wrap_i64 (by omega) (by omega)]; omega
    have hw2 : IntKind.i64.wrap (y * 1000000) = y * 1000000 := wrap_i64 (by omega) (by omega)
    obtain ⟨hx1, hx2⟩ := List.getElem?_eq_some_iff.1 hy
    have hWl : (numEls ((l.take k).map F)).length = k := by rw [numEls_len, List.length_map, List.length_take]; omega
    have hFy : F y = (false, y * 1000000) := by rw [hF]
    simp [f1, f5, f6, hx1, hx2, hw2, splice]
    refine ap_accT (bytes := 16) (σ := [Entry.var 41 [.str [], .int .i64 0, .int .i64 0, .nils], Entry.var 41 [.str name, .int .i64 0, .int .i64 60, V]]) hacc [.bool false, .int .i64 (y * 1000000)] (by decide) rfl (by rw [hWl]; omega) (by rw [hWl]; omega) fun W' τ3 hacc3 hlen hkeep => ?_
    obtain ⟨c1, c2, c3⟩ := hacc3.pos
    have hr : numEls ((l.take k).map F) ++ [[.bool false, .int .i64 (y * 1000000)]] = numEls ((l.take (k + 1)).map F) := by
      rw [List.take_add_one, hy]; simp [numEls, hFy]
    rw [hr] at hacc3
    simp [f5, f6, splice, hw, c1, c2]
    exact nx_intro (l.length - (k + 1)) (by omega) ⟨k + 1, W', τ3, rfl, by omega, by simp [f1], by simp [f4], by simp [f5], by simp, hacc3, by simp⟩
  · have hkl : k = l.length := by omega
    subst hkl
    rw [List.take_length] at hacc
    obtain ⟨c1, c2, c3⟩ := hacc.pos
    have hf : ∀ (v : Entry) m, Abs.fin1 (v :: Entry.var 41 [.str name, .int .i64 0, .int .i64 60, V] :: τ) m V = some (.lst (numEls (l.map F))) := fun v m => AccT.fin1 (σ := [v, Entry.var 41 [.str name, .int .i64 0, .int .i64 60, V]]) hacc m
    simp [f4, f5, splice, c1, c2, hf, srA_eq]
theorem of26_sr (name : List UInt8) (l : List Int) (hn : name.length ≤ 1000) (hl : l.length ≤ 1000) (hb : ∀ v ∈ l, -1000 ≤ v ∧ v ≤ 1000) : SrOk (of26 name l) :=
  ⟨by simp [of26]; omega, by simp [of26], by simp [of26], by simp [of26], by simp [of26], by simp [of26]; omega, fun n hn => by
    simp only [of26, List.mem_map] at hn
    obtain ⟨v, hv, rfl⟩ := hn
    have := hb v hv
    unfold okN; simp only; omega⟩
/-- A call: its word, its numbers, its text. -/
structure Cb where
  word : List UInt8
  args : List N
  text : List UInt8
structure CbOk (c : Cb) : Prop where
  wd : c.word.length ≤ 9223372036854775807
  al : c.args.length ≤ 9223372036854775807
  ar : oksN c.args
  tx : c.text.length ≤ 9223372036854775807
theorem great26_ok (word text : List UInt8) (A : AV) (na : Nat) (hA : (A = .nils ∧ na = 0) ∨ ∃ l, A = .lst (numEls l) ∧ na = l.length) (l : List Sr) (hl : l.length + na ≤ 9223372036854775807) :
    PCalls Tryz.prog n_isobarlaw26_great [.agg [.str word, A, .str text], serL l] (fun r => ∃ b : Bool, r = .bool b ∧ (b = false → l.length ≤ 400)) := by
  refine pcalls_of_awp hmix c_isobarlaw26_great rfl ?_
  have hA1 : A.one = true ∧ A.cells = [A] := by rcases hA with ⟨rfl, _⟩ | ⟨l, rfl, _⟩ <;> exact ⟨rfl, rfl⟩
  have hAv : ∀ σ, (view σ A).map (fun l => AV.int .i64 l.length) = some (.int .i64 na) := fun σ => by
    rcases hA with ⟨rfl, rfl⟩ | ⟨l, rfl, rfl⟩ <;> simp [numEls_len]
  have hle := serEls_len l
  have hw0 : IntKind.i64.wrap ((l.length : Int) + (na : Int)) = ((l.length + na : Nat) : Int) := by rw [wrap_i64 (by omega) (by omega)]; omega
  unfold serL
  simp [a_isobarlaw26_great, boxOp, hA1, hAv, hle, hw0]
  refine lp_startx (fun x f σ => ∃ (i : Nat) (z : Int), x = l.length - i ∧ i ≤ l.length ∧ (i = 0 → z = ((l.length + na : Nat) : Int)) ∧ (0 < i → l.length ≤ 400) ∧ f 1 = .lst (serEls l) ∧ f 2 = .ptr 0 0 ∧ f 5 = .int .i64 z ∧ f 6 = .int .i64 i ∧
    σ = [.var 24 [.str word, A, .str text]]) l.length ?_ ?_
  · exact ⟨0, ((l.length + na : Nat) : Int), by simp, by simp, fun _ => rfl, fun h => by omega, by simp, by simp, by simp, by simp, by simp⟩
  rintro x f σ ⟨i, z, hx, hi, hz0, hz1, f1, f2, f5, f6, rfl⟩
  have fin : ∀ (b : Bool), (b = false → l.length ≤ 400) → (fun r => ∃ b : Bool, r = AV.bool b ∧ (b = false → l.length ≤ 400)) (.bool b) := fun b h => ⟨b, rfl, h⟩
  by_cases hlt : i < l.length
  · have hwi : IntKind.i64.wrap ((i : Int) + 1) = ((i + 1 : Nat) : Int) := by rw [wrap_i64 (by omega) (by omega)]; omega
    obtain ⟨y, hy⟩ : ∃ y, l[i]? = some y := ⟨_, List.getElem?_eq_getElem hlt⟩
    have hse := serEls_get hy
    obtain ⟨hx1, hx2⟩ := List.getElem?_eq_some_iff.1 hse
    by_cases hz : z ≤ 400
    · have hl4 : l.length ≤ 400 := by
        by_cases h0 : i = 0
        · have := hz0 h0; omega
        · exact hz1 (by omega)
      simp [f1, f2, f5, f6, hle, hlt, hz, hse, hx1, hx2, hwi]
      exact nx_intro (l.length - (i + 1)) (by omega) ⟨i + 1, _, rfl, by omega, fun h => by omega, fun _ => hl4, by simp [f1], by simp [f2], by simp; rfl, by simp, rfl⟩
    · have hz' : 400 < z := by omega
      simp [f1, f2, f5, f6, hle, hlt, hz, hz']
  · have hl4 : z ≤ 400 → l.length ≤ 400 := fun hz => by
      by_cases h0 : i = 0
      · have := hz0 h0; omega
      · exact hz1 (by omega)
    by_cases hz : 400 < z
    · simp [f1, f2, f5, f6, hle, hlt, hz]
    · have hl5 := hl4 (by omega)
      by_cases h2 : 1000 < word.length
      · have h2' : (1000 : Int) < (word.length : Int) := by omega
        simp [f1, f2, f5, f6, hle, hlt, hz, h2, h2']
      · have h2' : ¬ (1000 : Int) < (word.length : Int) := by omega
        simp [f1, f2, f5, f6, hle, hlt, hz, h2, h2']
        exact fun _ => hl5
end Go.Proofs.YtdgpnmlialmaaaaGreatDoor
end
section
set_option maxHeartbeats 4000000
namespace Go.Abs
variable [Globs]
/-- A call ahead of which an own row is frozen. -/
theorem ac_frz {P : Program} {K : AV → Store → Prop} {t : Tg K} {σ σ' : Store} {g : FuncId} {args : List AV} (hz : Frz σ σ') (h : acall P σ' K g args) : ac P K t σ g args :=
  .inr (.inr fun base κ Im w vs hs hv => by
    obtain ⟨Im1, hs1, hg1⟩ := frz_ok hs hz
    refine (acall_ok hs1 (hv.grow hg1) h).mono ?_
    rintro e w' ⟨r, σ2, v, κ', Im', rfl, hK, hs2, hg2, hvr⟩
    exact ⟨r, σ2, v, κ', Im', rfl, hK, hs2, hg1.trans hg2, hvr⟩)
end Go.Abs
namespace Go.Ble
open Go.Num
theorem middle_alive : middleS [(false, 4), (false, 1), (true, 0)] = (false, 3) := by
  have h : risingS [(false, 4), (false, 1), (true, 0)] = [(false, 1), (false, 4)] := (rising_eq (by
    have : known [(false, 4), (false, 1), (true, 0)] = [(false, 4), (false, 1)] := by decide
    rw [this]
    exact List.Perm.swap _ _ _) (by simp)).symm
  unfold middleS
  rw [h]
  decide
end Go.Ble
namespace Go.Proofs.YtdgpnmlialmaaaaGreatDoor
open Go.Abs Go.Num Go.Ser Go.Ble Go.Dec Go.Shp
variable {G : Globs}
theorem alive26_ok [GSpc] [GPow] [GMaxL] : PCalls Tryz.prog n_isobarlaw26_alive [] (fun r => r = .bool true) := by
  refine pcalls_of_awp hmix c_isobarlaw26_alive rfl ?_
  have o1 := of26_ok (G := G) [97] [1, 2] (by decide) (by decide)
  have o2 := of26_ok (G := G) [98] [2, 3] (by decide) (by decide)
  have o3 := of26_ok (G := G) [120, 46, 97] [1] (by decide) (by decide)
  have o4 := of26_ok (G := G) [121, 46, 98] [2] (by decide) (by decide)
  have o5 := of26_ok (G := G) [122, 46, 97] [5] (by decide) (by decide)
  have o6 := of26_ok (G := G) [115, 117, 109, 83, 101, 114, 105, 101, 115, 40, 97, 44, 98, 41] [3, 5] (by decide) (by decide)
  have o7 := of26_ok (G := G) [97] [5] (by decide) (by decide)
  have o8 := of26_ok (G := G) [98] [2] (by decide) (by decide)
  have hs : ∀ (name : List UInt8) (l : List Int), name.length ≤ 1000 → l.length ≤ 1000 → (∀ v ∈ l, -1000 ≤ v ∧ v ≤ 1000) → SrOk (of26 name l) := fun n l h1 h2 h3 => of26_sr n l h1 h2 h3
  have k1 := bApply_ok (G := G) Cw.sum.txt [of26 [97] [1, 2], of26 [98] [2, 3]] [] [] (by decide) (by
    intro s h
    simp only [List.mem_cons, List.mem_nil_iff, or_false] at h
    rcases h with rfl | rfl
    · exact hs _ _ (by decide) (by decide) (by decide)
    · exact hs _ _ (by decide) (by decide) (by decide)) (by decide) (by intro n h; simp at h)
  have k2 := bApply_ok (G := G) Cw.group.txt [of26 [120, 46, 97] [1], of26 [121, 46, 98] [2], of26 [122, 46, 97] [5]] [(false, 1000000)] [109, 97, 120] (by decide) (by
    intro s h
    simp only [List.mem_cons, List.mem_nil_iff, or_false] at h
    rcases h with rfl | rfl | rfl
    · exact hs _ _ (by decide) (by decide) (by decide)
    · exact hs _ _ (by decide) (by decide) (by decide)
    · exact hs _ _ (by decide) (by decide) (by decide)) (by decide) (by unfold oksN okN; decide)
  have e1 : applyB Cw.sum.txt [of26 [97] [1, 2], of26 [98] [2, 3]] [] [] = ([of26 [115, 117, 109, 83, 101, 114, 105, 101, 115, 40, 97, 44, 98, 41] [3, 5]], 0) := by kernel_rfl
  have e2 : applyB Cw.group.txt [of26 [120, 46, 97] [1], of26 [121, 46, 98] [2], of26 [122, 46, 97] [5]] [(false, 1000000)] [109, 97, 120] = ([of26 [97] [5], of26 [98] [2]], 0) := by kernel_rfl
  rw [e1] at k1
  rw [e2] at k2
  have s1 := sameList_ok (G := G) [of26 [115, 117, 109, 83, 101, 114, 105, 101, 115, 40, 97, 44, 98, 41] [3, 5]] (by decide) (by simp [of26])
  have s2 := sameList_ok (G := G) [of26 [97] [5], of26 [98] [2]] (by decide) (by simp [of26])
  have kM := bMiddle_ok (G := G) [(false, 4), (false, 1), (true, 0)] (by unfold oksN okN; decide) (by decide)
  rw [middle_alive] at kM
  simp only [alA, serL, serEls, srC, srA_eq, of26, numEls, numA, Cw.txt, List.map_cons, List.map_nil, Int.reduceMul] at k1 k2 o1 o2 o3 o4 o5 o6 o7 o8 s1 s2 kM
  simp [a_isobarlaw26_alive, lay, splice, chunks]
  refine ac_same o1 (by simp) ?_
  rintro r rfl
  simp [lay, splice, chunks]
  refine ac_same o2 (by simp) ?_
  rintro r rfl
  simp [lay, splice, chunks]
  refine ac_pure k1 (.cons (.pure _ (by simp)) (.cons (.pure _ (by simp)) (.cons .nils (.cons (.pure _ (by simp)) .nil)))) ?_
  rintro r rfl
  simp [lay, splice, chunks]
  refine ac_same o3 (by simp) ?_
  rintro r rfl
  simp [lay, splice, chunks]
  refine ac_same o4 (by simp) ?_
  rintro r rfl
  simp [lay, splice, chunks]
  refine ac_same o5 (by simp) ?_
  rintro r rfl
  simp [lay, splice, chunks]
  refine ac_same k2 (by simp) ?_
  rintro r rfl
  simp [lay, splice, chunks]
  refine ac_same o6 (by simp) ?_
  rintro r rfl
  simp [lay, splice, chunks]
  refine ac_same s1 (by simp) ?_
  rintro r rfl
  simp [lay, splice, chunks]
  refine ac_same o7 (by simp) ?_
  rintro r rfl
  simp [lay, splice, chunks]
  refine ac_same o8 (by simp) ?_
  rintro r rfl
  simp [lay, splice, chunks]
  refine ac_same s2 (by simp) ?_
  rintro r rfl
  simp [lay, splice, chunks]
  refine ac_same kM (by simp) ?_
  rintro r rfl
  simp
end Go.Proofs.YtdgpnmlialmaaaaGreatDoor
end
section
set_option maxHeartbeats 4000000
namespace Go.Ble
open Go.Num Go.Ser Go.Dec Go.Shp Go.Abs
end Go.Ble
namespace Go.Proofs.YtdgpnmlialmaaaaGreatDoor
open Go.Abs Go.Num Go.Ser Go.Ble Go.Dec Go.Shp
variable {G : Globs}
theorem serEls_share (σ : Store) (l : List Sr) : ((serEls l).mapM fun (c : List AV) => c.mapM (share1 σ)) = some (serEls l) := by
  induction l with
  | nil => rfl
  | cons a l ih =>
    show ((srC a :: serEls l).mapM _) = some (srC a :: serEls l)
    rw [List.mapM_cons, ih]
    simp [srC, share1, AV.pure]
theorem serEls_four (l : List Sr) : ∀ c ∈ serEls l, c.length = 4 := by
  intro c hc
  obtain ⟨s, _, rfl⟩ := List.mem_map.1 hc
  rfl
end Go.Proofs.YtdgpnmlialmaaaaGreatDoor
end
section
set_option maxHeartbeats 4000000
namespace Go.Ble
open Go.Num
theorem least_le {l : List N} {n : N} (h : n ∈ known l) : (reckon 3 l).2 ≤ n.2 := by
  have hg := known_good l
  unfold reckon
  cases hk : known l with
  | nil => rw [hk] at h; simp at h
  | cons k ks =>
    rw [hk] at h hg
    have := fold_less ks k (hg k (by simp)) (fun n hn => hg n (by simp [hn]))
    simp only [reckonK]
    rcases List.mem_cons.1 h with rfl | h
    · exact this.2.1
    · exact this.2.2 n h
theorem le_most {l : List N} {n : N} (h : n ∈ known l) : n.2 ≤ (reckon 4 l).2 := by
  have hg := known_good l
  unfold reckon
  cases hk : known l with
  | nil => rw [hk] at h; simp at h
  | cons k ks =>
    rw [hk] at h hg
    have := fold_more ks k (hg k (by simp)) (fun n hn => hg n (by simp [hn]))
    simp only [reckonK]
    rcases List.mem_cons.1 h with rfl | h
    · exact this.2.1
    · exact this.2.2 n h
end Go.Ble
namespace Go.Proofs.YtdgpnmlialmaaaaGreatDoor
open Go.Abs Go.Num Go.Ser Go.Ble Go.Dec Go.Shp
variable {G : Globs}
end Go.Proofs.YtdgpnmlialmaaaaGreatDoor
end
section
set_option maxHeartbeats 2000000
namespace Go.Ble
open Go.Num
/-- Values none of which is great. -/
def Small (l : List N) : Prop := ∀ n ∈ l, good n = true → -1125899906842624 ≤ n.2 ∧ n.2 ≤ 1125899906842624
theorem sum_small (B : Int) (hB : B = 1125899906842624) (ks : List N) : ∀ (x c : Int), (∀ n ∈ ks, good n = true ∧ -B ≤ n.2 ∧ n.2 ≤ B) → -c ≤ x → x ≤ c → c + B * (ks.length : Int) ≤ B * 1000 →
    ks.foldl addN (false, x) = (false, x + total ks) := by
  induction ks with
  | nil => intro x c _ _ _ _; simp [total]
  | cons n ks ih =>
    intro x c h h1 h2 hl
    obtain ⟨g, a, b⟩ := h n (by simp)
    have hlen : B * ((n :: ks).length : Int) = B * (ks.length : Int) + B := by rw [List.length_cons, Int.natCast_add, Int.mul_add]; simp
    rw [hlen] at hl
    have hk0 : 0 ≤ B * (ks.length : Int) := Int.mul_nonneg (by omega) (by omega)
    have hM : most = 9223372036854775807 := rfl
    have hx : good (false, x) = true := good_iff.2 ⟨rfl, by simp only; omega⟩
    have e : addN (false, x) n = (false, x + n.2) := by
      unfold addN
      rw [hx, g]
      simp only [Bool.and_self, if_true]
      unfold tell
      rw [if_pos (by omega)]
    rw [List.foldl_cons, e, ih (x + n.2) (c + B) (fun m hm => h m (by simp [hm])) (by omega) (by omega) (by omega)]
    have ht : total (n :: ks) = n.2 + total ks := by simp [total]
    rw [ht, Int.add_assoc]
theorem small_known {l : List N} (h : Small l) : ∀ n ∈ known l, good n = true ∧ -1125899906842624 ≤ n.2 ∧ n.2 ≤ 1125899906842624 := fun n hn => by
  obtain ⟨h1, h2⟩ := List.mem_filter.1 hn
  exact ⟨h2, h n h1 h2⟩
theorem sum_known {l : List N} (h : Small l) (hl : l.length ≤ 1000) : reckon 2 l = if known l = [] then nothing else (false, total (known l)) := by
  have hk := small_known h
  have hkl : (known l).length ≤ l.length := List.length_filter_le _ _
  unfold reckon
  cases hks : known l with
  | nil => rfl
  | cons k ks =>
    rw [hks] at hk hkl
    obtain ⟨g, a, b⟩ := hk k (by simp)
    simp only [List.length_cons] at hkl
    have k1 : k = (false, k.2) := Prod.ext (good_iff.1 g).1 rfl
    rw [if_neg (by simp)]
    show ks.foldl addN k = _
    rw [k1, sum_small 1125899906842624 rfl ks k.2 1125899906842624 (fun n hn => hk n (by simp [hn])) a b (by omega)]
    have ht : total ((false, k.2) :: ks) = k.2 + total ks := by simp [total]
    rw [ht]
theorem known_perm {l m : List N} (h : l.Perm m) : (known l).Perm (known m) := h.filter _
theorem total_perm {l m : List N} (h : l.Perm m) : total l = total m := by
  unfold total
  have : ∀ {a b : List Int}, a.Perm b → a.sum = b.sum := by
    intro a b hp
    induction hp with
    | nil => rfl
    | cons x _ ih => simp [ih]
    | swap x y l => simp only [List.sum_cons]; omega
    | trans _ _ h1 h2 => exact h1.trans h2
  exact this (h.map _)
theorem less_mem : ∀ (ks : List N) (k : N), (∀ n ∈ k :: ks, good n = true) → ks.foldl lessN k ∈ k :: ks
  | [], k, _ => by simp
  | n :: ks, k, h => by
    have hk := h k (by simp)
    have hn := h n (by simp)
    rw [List.foldl_cons]
    have e : lessN k n = k ∨ lessN k n = n := by
      unfold lessN; rw [hk, hn]; simp only [if_true]
      split <;> simp
    rcases e with e | e
    · rw [e]
      have := less_mem ks k (fun m hm => by rcases List.mem_cons.1 hm with rfl | hm; exact hk; exact h m (by simp [hm]))
      rcases List.mem_cons.1 this with h1 | h1
      · rw [h1]; simp
      · simp [h1]
    · rw [e]
      have := less_mem ks n (fun m hm => by rcases List.mem_cons.1 hm with rfl | hm; exact hn; exact h m (by simp [hm]))
      rcases List.mem_cons.1 this with h1 | h1
      · rw [h1]; simp
      · simp [h1]
theorem more_mem : ∀ (ks : List N) (k : N), (∀ n ∈ k :: ks, good n = true) → ks.foldl moreN k ∈ k :: ks
  | [], k, _ => by simp
  | n :: ks, k, h => by
    have hk := h k (by simp)
    have hn := h n (by simp)
    rw [List.foldl_cons]
    have e : moreN k n = k ∨ moreN k n = n := by
      unfold moreN; rw [hk, hn]; simp only [if_true]
      split <;> simp
    rcases e with e | e
    · rw [e]
      have := more_mem ks k (fun m hm => by rcases List.mem_cons.1 hm with rfl | hm; exact hk; exact h m (by simp [hm]))
      rcases List.mem_cons.1 this with h1 | h1
      · rw [h1]; simp
      · simp [h1]
    · rw [e]
      have := more_mem ks n (fun m hm => by rcases List.mem_cons.1 hm with rfl | hm; exact hn; exact h m (by simp [hm]))
      rcases List.mem_cons.1 this with h1 | h1
      · rw [h1]; simp
      · simp [h1]
theorem reckon3_mem {l : List N} (h : known l ≠ []) : reckon 3 l ∈ known l := by
  have hg := known_good l
  unfold reckon
  cases hk : known l with
  | nil => exact absurd hk h
  | cons k ks => rw [hk] at hg; exact less_mem ks k hg
theorem reckon4_mem {l : List N} (h : known l ≠ []) : reckon 4 l ∈ known l := by
  have hg := known_good l
  unfold reckon
  cases hk : known l with
  | nil => exact absurd hk h
  | cons k ks => rw [hk] at hg; exact more_mem ks k hg
theorem good_ext {a b : N} (ha : good a = true) (hb : good b = true) (h : a.2 = b.2) : a = b := Prod.ext ((good_iff.1 ha).1.trans (good_iff.1 hb).1.symm) h
theorem known_nil_perm {l m : List N} (h : l.Perm m) : known l = [] ↔ known m = [] := by
  have := (known_perm h).length_eq
  constructor <;> intro e
  · rw [e] at this; exact List.eq_nil_of_length_eq_zero this.symm
  · rw [e] at this; exact List.eq_nil_of_length_eq_zero this
theorem reckon3_perm {l m : List N} (h : l.Perm m) : reckon 3 l = reckon 3 m := by
  by_cases hk : known l = []
  · rw [reckon_none hk, reckon_none ((known_nil_perm h).1 hk)]
  · have hk2 : known m ≠ [] := fun e => hk ((known_nil_perm h).2 e)
    have h1 := reckon3_mem hk
    have h2 := reckon3_mem hk2
    have a := least_le ((known_perm h).mem_iff.2 h2)
    have b := least_le ((known_perm h).mem_iff.1 h1)
    exact good_ext (known_good l _ h1) (known_good m _ h2) (by omega)
theorem reckon4_perm {l m : List N} (h : l.Perm m) : reckon 4 l = reckon 4 m := by
  by_cases hk : known l = []
  · rw [reckon_none hk, reckon_none ((known_nil_perm h).1 hk)]
  · have hk2 : known m ≠ [] := fun e => hk ((known_nil_perm h).2 e)
    have h1 := reckon4_mem hk
    have h2 := reckon4_mem hk2
    have a := le_most ((known_perm h).mem_iff.2 h2)
    have b := le_most ((known_perm h).mem_iff.1 h1)
    exact good_ext (known_good l _ h1) (known_good m _ h2) (by omega)
theorem small_perm {l m : List N} (h : l.Perm m) (hs : Small l) : Small m := fun n hn => hs n (h.mem_iff.2 hn)
theorem reckon2_perm {l m : List N} (h : l.Perm m) (hs : Small l) (hl : l.length ≤ 1000) : reckon 2 l = reckon 2 m := by
  rw [sum_known hs hl, sum_known (small_perm h hs) (by rw [← h.length_eq]; exact hl), total_perm (known_perm h)]
  by_cases hk : known l = []
  · rw [if_pos hk, if_pos ((known_nil_perm h).1 hk)]
  · rw [if_neg hk, if_neg fun e => hk ((known_nil_perm h).2 e)]
theorem reckon1_eq (l : List N) : reckon 1 l = if known l = [] then nothing else divN (reckon 2 l) (tell (((known l).length : Int) * 1000000)) := by
  unfold reckon
  cases known l with
  | nil => rfl
  | cons k ks => rw [if_neg (by simp)]; rfl
theorem reckon1_perm {l m : List N} (h : l.Perm m) (hs : Small l) (hl : l.length ≤ 1000) : reckon 1 l = reckon 1 m := by
  rw [reckon1_eq, reckon1_eq, reckon2_perm h hs hl, (known_perm h).length_eq]
  by_cases hk : known l = []
  · rw [if_pos hk, if_pos ((known_nil_perm h).1 hk)]
  · rw [if_neg hk, if_neg fun e => hk ((known_nil_perm h).2 e)]
theorem rising_permS {l m : List N} (h : l.Perm m) : risingS l = risingS m := rising_eq ((rising_perm l).trans (known_perm h)) (rising_sorted l)
def sevenW : List Cw := [.sum, .average, .least, .greatest, .count, .median, .range]
theorem value_perm {w : Cw} (hw : w ∈ sevenW) {l m : List N} (h : l.Perm m) (hs : Small l) (hl : l.length ≤ 1000) : valueS w [] l = valueS w [] m := by
  simp only [sevenW, List.mem_cons, List.mem_nil_iff, or_false] at hw
  rcases hw with rfl | rfl | rfl | rfl | rfl | rfl | rfl
  · exact reckon2_perm h hs hl
  · exact reckon1_perm h hs hl
  · exact reckon3_perm h
  · exact reckon4_perm h
  · show tell _ = tell _
    rw [(known_perm h).length_eq]
  · show middleS l = middleS m
    unfold middleS
    rw [rising_permS h]
  · show subN _ _ = subN _ _
    rw [reckon3_perm h, reckon4_perm h]
/-- An average of values none of which is great is not great. -/
theorem avg_small {l : List N} (hl : l.length ≤ 3000) (hm : ∀ n ∈ l, n.2 ≤ most) (hs : Small l) (hg : good (reckon 1 l) = true) : -1125899906842624 ≤ (reckon 1 l).2 ∧ (reckon 1 l).2 ≤ 1125899906842624 := by
  rcases between_plain l hl hm with h | ⟨_, _, h3, h4⟩
  · simp [good, h] at hg
  · have hk : known l ≠ [] := fun e => by rw [reckon_none e] at hg; cases hg
    have a := (small_known hs _ (reckon3_mem hk)).2.1
    have b := (small_known hs _ (reckon4_mem hk)).2.2
    omega
end Go.Ble
end
section
set_option maxHeartbeats 4000000
namespace Go.Ble
open Go.Num Go.Ser Go.Dec Go.Shp Go.Abs
end Go.Ble
namespace Go.Proofs.YtdgpnmlialmaaaaGreatDoor
open Go.Abs Go.Num Go.Ser Go.Ble Go.Dec Go.Shp
variable {G : Globs}
end Go.Proofs.YtdgpnmlialmaaaaGreatDoor
end
