/- Functions of many series: what groupByNode makes (the document). Functions of many series: a call of a list (the program). Functions of many series: a call of a list (the document). Numbers over time: lists of series that are the same; the law Again. Functions of many series: the fixed fact; whether a call is too great to be looked at. Functions of many series: the fixed fact, and the laws of what the document says. Functions of many series: the law that any call answers as the document says; of ranks. Functions of many series: the laws of ranks. A series as an argument of a law. The package's variables that Series reads: what the row's condition says, and a world that meets it. -/
import Derived.OpenShut
import Derived.Test.YtdgpnmlialmaaaaGreatDoorBn1
import Derived.Test.YtdgpnmlialmaaaaGreatDoorBn2
import Derived.Test.YtdgpnmlialmaaaaGreatDoorBn3
import Derived.Test.YtdgpnmlialmaaaaGreatDoorBn4
import Derived.Test.YtdgpnmlialmaaaaGreatDoorBn5
import Derived.Test.YtdgpnmlialmaaaaGreatDoorBn6
import Derived.Test.YtdgpnmlialmaaaaGreatDoorBn7
import Derived.Test.YtdgpnmlialmaaaaGreatDoorBn8
section
set_option linter.unusedSimpArgs false
set_option linter.unusedVariables false
set_option linter.constructorNameAsVariable false
set_option maxHeartbeats 8000000
namespace Go.Proofs.YtdgpnmlialmaaaaGreatDoor
open Go.Abs Go.Num Go.Ser Go.Ble Go.Dec Go.Shp
variable {G : Globs}
end Go.Proofs.YtdgpnmlialmaaaaGreatDoor
end
section
set_option linter.unusedSimpArgs false
set_option linter.unusedVariables false
set_option linter.constructorNameAsVariable false
set_option maxHeartbeats 8000000
namespace Go.Proofs.YtdgpnmlialmaaaaGreatDoor
open Go.Abs Go.Num Go.Ser Go.Dec Go.Shp Go.Ble
variable {G : Globs}
theorem check_bd {w : Cw} {l : List Sr} {args : List N} {text : List UInt8} {n m : Int} (h : checkB w l args text = some (n, m)) : 0 ≤ n ∧ n ≤ 1099511627776 := by
  by_cases hg : w = .group
  · subst hg
    have hcb : checkB .group l args text = match methodS text, wholeS (args.headD nothing) 0 1099511627776 with
      | some m, some n => some (n, m)
      | _, _ => none := rfl
    rw [hcb] at h
    cases hms : methodS text with
    | none => rw [hms] at h; cases h
    | some m' =>
      rw [hms] at h
      cases hws : wholeS (args.headD nothing) 0 1099511627776 with
      | none => rw [hws] at h; cases h
      | some n' =>
        rw [hws] at h
        cases h
        unfold wholeS at hws
        split at hws
        · rename_i h; cases hws; exact h.2
        · cases hws
  · have : n = 0 := by
      cases w <;> simp [checkB] at h <;> first | exact absurd rfl hg | omega
    omega
theorem check_two {l : List Sr} {args : List N} {text : List UInt8} {p : Int × Int} (h : checkB .divide l args text = some p) : l.length = 2 := by
  simp only [checkB] at h
  split at h
  · assumption
  · cases h
theorem cw_txt_eq {a b : Cw} : (a.txt = b.txt) ↔ a = b := ⟨cw_inj, fun h => by rw [h]⟩
theorem apply1_ok (s : Sr) (h : SrOk s) : PCalls Tryz.prog n_blend_Apply_1 [srA s] (fun r => r = .bool (!rightS s)) := by
  refine pcalls_of_awp hmix c_blend_Apply_1 rfl ?_
  have k := sRight_ok (G := G) s h
  rw [srA_eq] at k ⊢
  simp [a_blend_Apply_1]
  refine ac_same k (by simp) ?_
  rintro r rfl
  simp
theorem apply2_ok (w : Cw) (hw : w ≠ .percent ∧ w ≠ .group) (args l : List N) (ha : oksN args) (hok : oksN l) (hl : l.length ≤ 1000000000) (h1 : w = .percentile → args ≠ []) (h2 : w = .diff → l ≠ []) (h3 : w = .divide → 2 ≤ l.length) :
    PCalls Tryz.prog n_blend_Apply_2 [.lst (numEls l), .rptr [.str w.txt], .rptr [.lst (numEls args)]] (fun r => r = numA (valueS w args l)) := by
  refine pcalls_of_awp hmix c_blend_Apply_2 rfl ?_
  have k := bValue_ok (G := G) w hw args l ha hok hl h1 h2 h3
  obtain ⟨z, hz⟩ : ∃ z, z = valueS w args l := ⟨_, rfl⟩
  rw [← hz, numA_eq] at k
  rw [← hz]
  simp [a_blend_Apply_2]
  refine ac_same k (by simp) ?_
  rintro r rfl
  simp [splice, numA]
theorem bApply_ok [GSpc] [GPow] [GMaxL] (call : List UInt8) (l : List Sr) (args : List N) (text : List UInt8) (hl : l.length ≤ 9223372036854775807) (ho : ∀ s ∈ l, SrOk s) (hal : args.length ≤ 9223372036854775807) (hao : oksN args) :
    PCalls Tryz.prog n_blend_Apply [.str call, serL l, .lst (numEls args), .str text] (fun r => r = alA (applyB call l args text)) := by
  refine pcalls_of_awp hmix c_blend_Apply rfl ?_
  have hle := serEls_len l
  have hla := numEls_len args
  have kT := bTakes_ok (G := G) call
  have kc := containsS_ok (G := G) l hl (fun s => !rightS s) n_blend_Apply_1 b_blend_Apply_1 (fun n hn => apply1_ok n (ho n hn))
  have kU := contains_ok (G := G) args (by omega) (fun n => !good n) n_blend_unknown b_blend_unknown (fun n hn => bUnknown_ok n (hao n hn))
  obtain ⟨R, hR0⟩ : ∃ R, R = applyB call l args text := ⟨_, rfl⟩
  rw [← hR0]
  unfold applyB at hR0
  unfold takesBA at kT
  unfold serL at kc ⊢
  simp [a_blend_Apply]
  refine ac_same kT (by cases cwOf call <;> simp) ?_
  rintro r rfl
  cases hcw : cwOf call with
  | none =>
    rw [hcw] at hR0
    simp [hR0, alA, serL, serEls]
  | some w =>
    rw [hcw] at hR0
    have hwt := cwOf_some hcw
    subst hwt
    simp only at hR0
    simp
    refine ac_same kc (by simp) ?_
    rintro r rfl
    cases hany : l.any fun s => !rightS s with
    | true =>
      rw [if_pos hany] at hR0
      simp [hR0, alA, serL, serEls]
    | false =>
      rw [if_neg (by simp [hany])] at hR0
      have hSR : ∀ s ∈ l, SrR s := fun s hs => right_iff.1 (by have := List.any_eq_false.1 hany s hs; simpa using this)
      by_cases h128 : 128 < l.length
      · rw [if_pos h128] at hR0
        have h128' : (128 : Int) < l.length := by omega
        simp [hle, h128, h128', hR0, alA, serL, serEls]
      rw [if_neg h128] at hR0
      have h128' : ¬ (128 : Int) < l.length := by omega
      have h21 : args.length = w.takes.1 → (w = .percentile ∨ w = .group → args ≠ []) := by
        intro h hw he
        subst he
        rcases hw with rfl | rfl <;> simp [Cw.takes] at h
      obtain ⟨tk1, htk1⟩ : ∃ t, t = w.takes.1 := ⟨_, rfl⟩
      obtain ⟨tk2, htk2⟩ : ∃ t, t = w.takes.2 := ⟨_, rfl⟩
      rw [← htk1] at h21
      rw [← htk1, ← htk2] at hR0 ⊢
      by_cases hn : args.length = tk1
      rotate_left
      · rw [if_pos (.inl hn)] at hR0
        have hn' : ¬ (args.length : Int) = tk1 := by omega
        simp [hle, h128, h128', hla, hn, hn', hR0, alA, serL, serEls]
      have hne := h21 hn
      simp [hle, h128, h128', hla, hn]
      refine ac_same kU (by simp) ?_
      rintro r rfl
      cases hag : args.any fun n => !good n with
      | true =>
        rw [if_pos (.inr (.inl hag))] at hR0
        simp [hR0, alA, serL, serEls]
      | false =>
      by_cases htx : text ≠ [] ∧ tk2 = false
      · rw [if_pos (.inr (.inr htx))] at hR0
        obtain ⟨ht1, ht2⟩ := htx
        simp [ht1, ht2, hR0, alA, serL, serEls]
      rw [if_neg (by
        rintro (h | h | h)
        · exact h hn
        · rw [hag] at h; cases h
        · exact htx h)] at hR0
      have kC := bChecked_ok (G := G) w l args text hao hne
      have htx' : text = [] ∨ (text ≠ [] ∧ tk2 = true) := by
        by_cases h : text = []
        · exact .inl h
        · refine .inr ⟨h, ?_⟩
          cases h2 : tk2 with
          | true => rfl
          | false => exact absurd ⟨h, h2⟩ htx
      unfold serL at kC
      obtain ⟨ch, hch⟩ : ∃ ch, ch = checkB w l args text := ⟨_, rfl⟩
      unfold checkR at kC
      rw [← hch] at kC hR0
      rcases htx' with rfl | ⟨ht, ht2⟩
      all_goals (
        first | simp [ht, ht2] | simp
        refine ac_same kC (by simp) ?_
        rintro r ⟨a, b, rfl, hab⟩
        cases hc2 : ch with
        | none =>
          rw [hc2] at hR0
          simp [hR0, alA, serL, serEls, splice]
        | some nm =>
        obtain ⟨n, m⟩ := nm
        rw [hc2] at hR0 hab
        obtain ⟨rfl, rfl⟩ := hab _ _ rfl
        have hbd := check_bd (hch.symm.trans hc2)
        simp only at hR0
        by_cases hnil : l = []
        · rw [if_pos hnil] at hR0
          subst hnil
          simp [hR0, alA, serL, serEls, splice]
        rw [if_neg hnil] at hR0
        have hlp := List.length_pos_iff.2 hnil
        have hl0 : ¬ (l.length : Int) = 0 := by omega
        have hl0' : ¬ l.length = 0 := by omega
        have hgt : w.txt = [103, 114, 111, 117, 112, 66, 121, 78, 111, 100, 101] ↔ w = .group := cw_txt_eq (b := .group)
        have hpt : w.txt = [97, 115, 80, 101, 114, 99, 101, 110, 116] ↔ w = .percent := cw_txt_eq (b := .percent)
        by_cases hwg : w = .group
        · rw [if_pos hwg] at hR0
          have kG := bGrouped_ok (G := G) a.toNat (by omega) b l hnil (by omega) (fun s hs => by have := (hSR s hs).nm; omega) ho
          rw [← hR0, Int.toNat_of_nonneg hbd.1] at kG
          unfold serL at kG
          simp [hle, hnil, hl0, hl0', hwg, Cw.txt, splice]
          refine ac_same kG (by simp) ?_
          rintro r rfl
          simp [alA, serL]
        rw [if_neg hwg] at hR0
        have kA := align_ok (G := G) l hl ho
        unfold serL at kA
        simp [hle, hnil, hl0, hl0', hgt, hwg, splice]
        refine ac_same kA (by simp) ?_
        rintro r rfl
        obtain ⟨al, e, hal2⟩ : ∃ al e, alS l = (al, e) := ⟨_, _, rfl⟩
        rw [hal2] at hR0
        by_cases he : e = 0
        rotate_left
        · have hz : R = ([], e) := by
            rw [hR0]
            cases e with
            | zero => exact absurd rfl he
            | succ e => rfl
          have he' : ¬ (e : Int) = 0 := by omega
          simp [alA, hal2, he, he', hz, serL, serEls]
        subst he
        simp only at hR0
        obtain ⟨s0, a', ha, hav, haso, har, hall, hanm⟩ := al_facts ho hnil hal2
        have hs0r := har s0 (by rw [ha]; simp)
        by_cases hwp : w = .percent
        · rw [if_pos hwp] at hR0
          have kP := bPercent_ok (G := G) s0 a' (by rw [ha] at hall; omega) (fun s hs => (hav s (by rw [ha]; exact hs)).1) (by have := hs0r.vl; omega) (fun s hs => haso s (by rw [ha]; exact hs)) (fun s hs => by have := (har s (by rw [ha]; exact hs)).nm; omega)
          rw [← ha, ← hR0] at kP
          unfold serL at kP
          simp [alA, hal2, serL, hwp, Cw.txt]
          refine ac_same kP (by simp) ?_
          rintro r rfl
          simp [alA, serL]
        rw [if_neg hwp] at hR0
        have htk : tk1 ≤ 1 := by rw [htk1]; cases w <;> decide
        have kL := bLabel_ok (G := G) w l args (by omega) (fun s hs => by have := (hSR s hs).nm; omega) (by omega) hao
        unfold serL at kL
        simp [alA, hal2, serL, hpt, hwp]
        refine ac_same kL (by simp) ?_
        rintro r rfl
        by_cases hbig : 400 < (nameB w l args).length
        · rw [if_pos hbig] at hR0
          have hbig' : (400 : Int) < (nameB w l args).length := by omega
          simp [hbig, hbig', hR0, serEls]
        rw [if_neg hbig] at hR0
        have hbig' : ¬ (400 : Int) < (nameB w l args).length := by omega
        have hall2 : al.length = l.length := by have := congrArg List.length hanm; simpa using this
        have hper : w = .percentile → args ≠ [] := fun h => hne (.inl h)
        have kA2 := fun k (hk : k < s0.vals.length) => apply2_ok (G := G) w ⟨hwp, hwg⟩ args (togN al k) hao (oksN_tog haso k) (by rw [togN_len]; omega) hper (fun _ h => by
          have := congrArg List.length h
          rw [togN_len, hall2] at this
          exact hl0' this) (fun h => by
          rw [togN_len, hall2]
          subst h
          exact Nat.le_of_eq (check_two (hch.symm.trans hc2)).symm)
        obtain ⟨fv, hfv⟩ : ∃ fv, fv = valueS w args := ⟨_, rfl⟩
        rw [← hfv] at kA2 hR0
        rw [ha] at kA2 hR0
        have kT := fun σ : Store => fun h => bTogether_ok (G := G) (nameB w l args) s0 a' (by rw [ha] at hall; simp at hall; omega) (fun s hs => (hav s (by rw [ha]; exact hs)).1) (by have := hs0r.vl; omega) fv n_blend_Apply_2 b_blend_Apply_2 σ [.ptr 0 0, .ptr 1 0] [.rptr [.str w.txt], .rptr [.lst (numEls args)]] h (fun k hk => kA2 k hk)
        obtain ⟨g, hg⟩ : ∃ g, g = oneG (nameB w l args) fv (s0 :: a') := ⟨_, rfl⟩
        rw [← hg] at hR0 kT
        rw [ha]
        unfold serL at kT
        simp [hbig, hbig']
        refine ac_eff (kT _ fun τ => .cons (coe_ptr (t := 9) (by simp) (by simp) (by simp [AV.one])) (.cons (coe_ptr (t := 22) (by simp) (by simp) (by simp [AV.one])) .nil)) ?_
        rintro r σ' ⟨rfl, rfl⟩
        simp [hR0, srA_eq, serEls, srC, lay, splice, chunks])
end Go.Proofs.YtdgpnmlialmaaaaGreatDoor
end
section
set_option linter.unusedSimpArgs false
set_option linter.unusedVariables false
set_option linter.constructorNameAsVariable false
set_option maxHeartbeats 16000000
namespace Go.Proofs.YtdgpnmlialmaaaaGreatDoor
open Go.Abs Go.Num Go.Ser Go.Ble Go.Dec Go.Shp
variable {G : Globs}
end Go.Proofs.YtdgpnmlialmaaaaGreatDoor
end
section
set_option linter.unusedSimpArgs false
set_option linter.unusedVariables false
set_option linter.constructorNameAsVariable false
set_option maxHeartbeats 4000000
namespace Go.Proofs.YtdgpnmlialmaaaaGreatDoor
open Go.Abs Go.Num Go.Ser
variable {G : Globs}
theorem sameList_ok (l : List Sr) (hl : l.length ≤ 9223372036854775807) (h : ∀ s ∈ l, s.vals.length ≤ 9223372036854775807) : PCalls Tryz.prog n_isobarref24_SameList [serL l, serL l] (fun r => r = .bool true) := by
  refine pcalls_of_awp hmix c_isobarref24_SameList rfl ?_
  have hle := serEls_len l
  simp [a_isobarref24_SameList, serL]
  refine lp_startx (fun x f σ => ∃ (i : Nat), x = l.length - i ∧ i ≤ l.length ∧ f 0 = .lst (serEls l) ∧ f 1 = .lst (serEls l) ∧ f 5 = .int .i64 i ∧ σ = []) l.length ?_ ?_
  · exact ⟨0, by simp, by simp, by simp, by simp, by simp, by simp⟩
  rintro x f σ ⟨i, hx, hi, f0, f1, f5, rfl⟩
  by_cases hlt : i < l.length
  · have hlt' : (i : Int) < l.length := by omega
    have hwi : IntKind.i64.wrap ((i : Int) + 1) = (i : Int) + 1 := wrap_i64 (by omega) (by omega)
    obtain ⟨y, hy⟩ : ∃ y, l[i]? = some y := ⟨_, List.getElem?_eq_getElem hlt⟩
    have hse := serEls_get hy
    obtain ⟨hx1, hx2⟩ := List.getElem?_eq_some_iff.1 hse
    have kS := sameS_ok (G := G) y (h y (List.mem_of_getElem? hy))
    rw [srA_eq] at kS
    simp [f0, f1, f5, hle, hlt, hlt', hx1, hx2, hwi]
    refine qc_same kS (by simp) (by simp) ?_
    simp [f5, hwi]
    refine nx_intro (l.length - (i + 1)) (by omega) ⟨i + 1, rfl, by omega, by simp [f0], by simp [f1], by simp, rfl⟩
  · have hil : i = l.length := by omega
    have hlt' : ¬ (i : Int) < l.length := by omega
    simp [f0, f5, hle, hlt, hlt', hil]
end Go.Proofs.YtdgpnmlialmaaaaGreatDoor
end
section
set_option linter.unusedSimpArgs false
set_option linter.unusedVariables false
set_option linter.constructorNameAsVariable false
set_option maxHeartbeats 4000000
namespace Go.Proofs.YtdgpnmlialmaaaaGreatDoor
open Go.Abs Go.Num Go.Ser Go.Ble Go.Dec Go.Shp
variable {G : Globs}
def of26 (name : List UInt8) (l : List Int) : Sr := ⟨name, 0, 60, l.map fun v => (false, v * 1000000)⟩
theorem of26_ok (name : List UInt8) (l : List Int) (hl : l.length ≤ 1000) (hb : ∀ v ∈ l, -1000 ≤ v ∧ v ≤ 1000) : PCalls Tryz.prog n_isobarlaw26_of [.str name, .lst (l.map fun v => [.int .i64 v])] (fun r => r = srA (of26 name l)) := by
  refine pcalls_of_awp hmix c_isobarlaw26_of rfl ?_
  obtain ⟨F, hF⟩ : ∃ F : Int → N, F = fun v => (false, v * 1000000) := ⟨_, rfl⟩
  have ho : of26 name l = ⟨name, 0, 60, l.map F⟩ := by rw [hF]; rfl
  rw [ho]
  simp [a_isobarlaw26_of, splice]
  refine lp_startx (fun x f σ => ∃ (k : Nat) (V : AV) (τ : Store), x = l.length - k ∧ k ≤ l.length ∧ f 1 = .lst (l.map fun v => [.int .i64 v]) ∧ f 4 = .ptr 0 0 ∧ f 5 = .ptr 1 0 ∧ f 6 = .int .i64 k ∧
    AccT 35 2 2 τ V (numEls ((l.take k).map F)) ∧ σ = [.var 41 [.str [], .int .i64 0, .int .i64 0, .nils], .var 41 [.str name, .int .i64 0, .int .i64 60, V]] ++ τ) l.length ?_ ?_
  · exact ⟨0, .nils, [], by simp, by simp, by simp, by simp, by simp, by simp, accT_nil, by simp⟩
  rintro x f σ ⟨k, V, τ, hx, hk, f1, f4, f5, f6, hacc, rfl⟩
  simp [f1, f6]
  refine cb_dec (fun hlt => ?_) (fun hge => ?_)
  · have hlt' : k < l.length := by omega
    obtain ⟨y, hy⟩ : ∃ y, l[k]? = some y := ⟨_, List.getElem?_eq_getElem hlt'⟩
    have hyb := hb y (List.mem_of_getElem? hy)
    have hw : IntKind.i64.wrap ((k : Int) + 1) = ((k + 1 : Nat) : Int) := by rw [wrap_i64 (by omega) (by omega)]; omega
    have hw2 : IntKind.i64.wrap (y * 1000000) = y * 1000000 := wrap_i64 (by omega) (by omega)
    obtain ⟨hx1, hx2⟩ := List.getElem?_eq_some_iff.1 hy
    have hWl : (numEls ((l.take k).map F)).length = k := by rw [numEls_len, List.length_map, List.length_take]; omega
    have hFy : F y = (false, y * 1000000) := by rw [hF]
    simp [f1, f5, f6, hx1, hx2, hw2, splice]
    refine ap_accT (bytes := 16) (σ := [Entry.var 41 [.str [], .int .i64 0, .int .i64 0, .nils], Entry.var 41 [.str name, .int .i64 0, .int .i64 60, V]]) hacc [.bool false, .int .i64 (y * 1000000)] (by decide) rfl (by rw [hWl]; omega) (by rw [hWl]; omega) fun W' τ3 hacc3 hlen hkeep => ?_
    obtain ⟨c1, c2, c3⟩ := hacc3.pos
    have hr : numEls ((l.take k).map F) ++ [[.bool false, .int .i64 (y * 1000000)]] = numEls ((l.take (k + 1)).map F) := by
      rw [List.take_add_one, hy]; simp [numEls, hFy]
    rw [hr] at hacc3
    simp [f5, f6, splice, hw, c1, c2]
    exact nx_intro (l.length - (k + 1)) (by omega) ⟨k + 1, W', τ3, rfl, by omega, by simp [f1], by simp [f4], by simp [f5], by simp, hacc3, by simp⟩
  · have hkl : k = l.length := by omega
    subst hkl
    rw [List.take_length] at hacc
    obtain ⟨c1, c2, c3⟩ := hacc.pos
    have hf : ∀ (v : Entry) m, Abs.fin1 (v :: Entry.var 41 [.str name, .int .i64 0, .int .i64 60, V] :: τ) m V = some (.lst (numEls (l.map F))) := fun v m => AccT.fin1 (σ := [v, Entry.var 41 [.str name, .int .i64 0, .int .i64 60, V]]) hacc m
    simp [f4, f5, splice, c1, c2, hf, srA_eq]
theorem of26_sr (name : List UInt8) (l : List Int) (hn : name.length ≤ 1000) (hl : l.length ≤ 1000) (hb : ∀ v ∈ l, -1000 ≤ v ∧ v ≤ 1000) : SrOk (of26 name l) :=
  ⟨by simp [of26]; omega, by simp [of26], by simp [of26], by simp [of26], by simp [of26], by simp [of26]; omega, fun n hn => by
    simp only [of26, List.mem_map] at hn
    obtain ⟨v, hv, rfl⟩ := hn
    have := hb v hv
    unfold okN; simp only; omega⟩
/-- A call: its word, its numbers, its text. -/
structure Cb where
  word : List UInt8
  args : List N
  text : List UInt8
structure CbOk (c : Cb) : Prop where
  wd : c.word.length ≤ 9223372036854775807
  al : c.args.length ≤ 9223372036854775807
  ar : oksN c.args
  tx : c.text.length ≤ 9223372036854775807
theorem great26_ok (word text : List UInt8) (A : AV) (na : Nat) (hA : (A = .nils ∧ na = 0) ∨ ∃ l, A = .lst (numEls l) ∧ na = l.length) (l : List Sr) (hl : l.length + na ≤ 9223372036854775807) :
    PCalls Tryz.prog n_isobarlaw26_great [.agg [.str word, A, .str text], serL l] (fun r => ∃ b : Bool, r = .bool b ∧ (b = false → l.length ≤ 400)) := by
  refine pcalls_of_awp hmix c_isobarlaw26_great rfl ?_
  have hA1 : A.one = true ∧ A.cells = [A] := by rcases hA with ⟨rfl, _⟩ | ⟨l, rfl, _⟩ <;> exact ⟨rfl, rfl⟩
  have hAv : ∀ σ, (view σ A).map (fun l => AV.int .i64 l.length) = some (.int .i64 na) := fun σ => by
    rcases hA with ⟨rfl, rfl⟩ | ⟨l, rfl, rfl⟩ <;> simp [numEls_len]
  have hle := serEls_len l
  have hw0 : IntKind.i64.wrap ((l.length : Int) + (na : Int)) = ((l.length + na : Nat) : Int) := by rw [wrap_i64 (by omega) (by omega)]; omega
  unfold serL
  simp [a_isobarlaw26_great, boxOp, hA1, hAv, hle, hw0]
  refine lp_startx (fun x f σ => ∃ (i : Nat) (z : Int), x = l.length - i ∧ i ≤ l.length ∧ (i = 0 → z = ((l.length + na : Nat) : Int)) ∧ (0 < i → l.length ≤ 400) ∧ f 1 = .lst (serEls l) ∧ f 2 = .ptr 0 0 ∧ f 5 = .int .i64 z ∧ f 6 = .int .i64 i ∧
    σ = [.var 24 [.str word, A, .str text]]) l.length ?_ ?_
  · exact ⟨0, ((l.length + na : Nat) : Int), by simp, by simp, fun _ => rfl, fun h => by omega, by simp, by simp, by simp, by simp, by simp⟩
  rintro x f σ ⟨i, z, hx, hi, hz0, hz1, f1, f2, f5, f6, rfl⟩
  have fin : ∀ (b : Bool), (b = false → l.length ≤ 400) → (fun r => ∃ b : Bool, r = AV.bool b ∧ (b = false → l.length ≤ 400)) (.bool b) := fun b h => ⟨b, rfl, h⟩
  by_cases hlt : i < l.length
  · have hwi : IntKind.i64.wrap ((i : Int) + 1) = ((i + 1 : Nat) : Int) := by rw [wrap_i64 (by omega) (by omega)]; omega
    obtain ⟨y, hy⟩ : ∃ y, l[i]? = some y := ⟨_, List.getElem?_eq_getElem hlt⟩
    have hse := serEls_get hy
    obtain ⟨hx1, hx2⟩ := List.getElem?_eq_some_iff.1 hse
    by_cases hz : z ≤ 400
    · have hl4 : l.length ≤ 400 := by
        by_cases h0 : i = 0
        · have := hz0 h0; omega
        · exact hz1 (by omega)
      simp [f1, f2, f5, f6, hle, hlt, hz, hse, hx1, hx2, hwi]
      exact nx_intro (l.length - (i + 1)) (by omega) ⟨i + 1, _, rfl, by omega, fun h => by omega, fun _ => hl4, by simp [f1], by simp [f2], by simp; rfl, by simp, rfl⟩
    · have hz' : 400 < z := by omega
      simp [f1, f2, f5, f6, hle, hlt, hz, hz']
  · have hl4 : z ≤ 400 → l.length ≤ 400 := fun hz => by
      by_cases h0 : i = 0
      · have := hz0 h0; omega
      · exact hz1 (by omega)
    by_cases hz : 400 < z
    · simp [f1, f2, f5, f6, hle, hlt, hz]
    · have hl5 := hl4 (by omega)
      by_cases h2 : 1000 < word.length
      · have h2' : (1000 : Int) < (word.length : Int) := by omega
        simp [f1, f2, f5, f6, hle, hlt, hz, h2, h2']
      · have h2' : ¬ (1000 : Int) < (word.length : Int) := by omega
        simp [f1, f2, f5, f6, hle, hlt, hz, h2, h2']
        exact fun _ => hl5
end Go.Proofs.YtdgpnmlialmaaaaGreatDoor
end
section
set_option linter.unusedSimpArgs false
set_option linter.unusedVariables false
set_option linter.constructorNameAsVariable false
set_option maxHeartbeats 4000000
namespace Go.Abs
variable [Globs]
end Go.Abs
namespace Go.Ble
open Go.Num
theorem middle_alive : middleS [(false, 4), (false, 1), (true, 0)] = (false, 3) := by
  have h : risingS [(false, 4), (false, 1), (true, 0)] = [(false, 1), (false, 4)] := (rising_eq (by
    have : known [(false, 4), (false, 1), (true, 0)] = [(false, 4), (false, 1)] := by decide
    rw [this]
    exact List.Perm.swap _ _ _) (by simp)).symm
  unfold middleS
  rw [h]
  decide
end Go.Ble
namespace Go.Proofs.YtdgpnmlialmaaaaGreatDoor
open Go.Abs Go.Num Go.Ser Go.Ble Go.Dec Go.Shp
variable {G : Globs}
theorem alive26_ok [GSpc] [GPow] [GMaxL] : PCalls Tryz.prog n_isobarlaw26_alive [] (fun r => r = .bool true) := by
  refine pcalls_of_awp hmix c_isobarlaw26_alive rfl ?_
  have o1 := of26_ok (G := G) [97] [1, 2] (by decide) (by decide)
  have o2 := of26_ok (G := G) [98] [2, 3] (by decide) (by decide)
  have o3 := of26_ok (G := G) [120, 46, 97] [1] (by decide) (by decide)
  have o4 := of26_ok (G := G) [121, 46, 98] [2] (by decide) (by decide)
  have o5 := of26_ok (G := G) [122, 46, 97] [5] (by decide) (by decide)
  have o6 := of26_ok (G := G) [115, 117, 109, 83, 101, 114, 105, 101, 115, 40, 97, 44, 98, 41] [3, 5] (by decide) (by decide)
  have o7 := of26_ok (G := G) [97] [5] (by decide) (by decide)
  have o8 := of26_ok (G := G) [98] [2] (by decide) (by decide)
  have hs : ∀ (name : List UInt8) (l : List Int), name.length ≤ 1000 → l.length ≤ 1000 → (∀ v ∈ l, -1000 ≤ v ∧ v ≤ 1000) → SrOk (of26 name l) := fun n l h1 h2 h3 => of26_sr n l h1 h2 h3
  have k1 := bApply_ok (G := G) Cw.sum.txt [of26 [97] [1, 2], of26 [98] [2, 3]] [] [] (by decide) (by
    intro s h
    simp only [List.mem_cons, List.mem_nil_iff, or_false] at h
    rcases h with rfl | rfl
    · exact hs _ _ (by decide) (by decide) (by decide)
    · exact hs _ _ (by decide) (by decide) (by decide)) (by decide) (by intro n h; simp at h)
  have k2 := bApply_ok (G := G) Cw.group.txt [of26 [120, 46, 97] [1], of26 [121, 46, 98] [2], of26 [122, 46, 97] [5]] [(false, 1000000)] [109, 97, 120] (by decide) (by
    intro s h
    simp only [List.mem_cons, List.mem_nil_iff, or_false] at h
    rcases h with rfl | rfl | rfl
    · exact hs _ _ (by decide) (by decide) (by decide)
    · exact hs _ _ (by decide) (by decide) (by decide)
    · exact hs _ _ (by decide) (by decide) (by decide)) (by decide) (by unfold oksN okN; decide)
  have e1 : applyB Cw.sum.txt [of26 [97] [1, 2], of26 [98] [2, 3]] [] [] = ([of26 [115, 117, 109, 83, 101, 114, 105, 101, 115, 40, 97, 44, 98, 41] [3, 5]], 0) := by kernel_rfl
  have e2 : applyB Cw.group.txt [of26 [120, 46, 97] [1], of26 [121, 46, 98] [2], of26 [122, 46, 97] [5]] [(false, 1000000)] [109, 97, 120] = ([of26 [97] [5], of26 [98] [2]], 0) := by kernel_rfl
  rw [e1] at k1
  rw [e2] at k2
  have s1 := sameList_ok (G := G) [of26 [115, 117, 109, 83, 101, 114, 105, 101, 115, 40, 97, 44, 98, 41] [3, 5]] (by decide) (by simp [of26])
  have s2 := sameList_ok (G := G) [of26 [97] [5], of26 [98] [2]] (by decide) (by simp [of26])
  have kM := bMiddle_ok (G := G) [(false, 4), (false, 1), (true, 0)] (by unfold oksN okN; decide) (by decide)
  rw [middle_alive] at kM
  simp only [alA, serL, serEls, srC, srA_eq, of26, numEls, numA, Cw.txt, List.map_cons, List.map_nil, Int.reduceMul] at k1 k2 o1 o2 o3 o4 o5 o6 o7 o8 s1 s2 kM
  simp [a_isobarlaw26_alive, lay, splice, chunks]
  refine ac_same o1 (by simp) ?_
  rintro r rfl
  simp [lay, splice, chunks]
  refine ac_same o2 (by simp) ?_
  rintro r rfl
  simp [lay, splice, chunks]
  refine ac_pure k1 (.cons (.pure _ (by simp)) (.cons (.pure _ (by simp)) (.cons .nils (.cons (.pure _ (by simp)) .nil)))) ?_
  rintro r rfl
  simp [lay, splice, chunks]
  refine ac_same o3 (by simp) ?_
  rintro r rfl
  simp [lay, splice, chunks]
  refine ac_same o4 (by simp) ?_
  rintro r rfl
  simp [lay, splice, chunks]
  refine ac_same o5 (by simp) ?_
  rintro r rfl
  simp [lay, splice, chunks]
  refine ac_same k2 (by simp) ?_
  rintro r rfl
  simp [lay, splice, chunks]
  refine ac_same o6 (by simp) ?_
  rintro r rfl
  simp [lay, splice, chunks]
  refine ac_same s1 (by simp) ?_
  rintro r rfl
  simp [lay, splice, chunks]
  refine ac_same o7 (by simp) ?_
  rintro r rfl
  simp [lay, splice, chunks]
  refine ac_same o8 (by simp) ?_
  rintro r rfl
  simp [lay, splice, chunks]
  refine ac_same s2 (by simp) ?_
  rintro r rfl
  simp [lay, splice, chunks]
  refine ac_same kM (by simp) ?_
  rintro r rfl
  simp
end Go.Proofs.YtdgpnmlialmaaaaGreatDoor
end
section
set_option linter.unusedSimpArgs false
set_option linter.unusedVariables false
set_option linter.constructorNameAsVariable false
set_option maxHeartbeats 4000000
namespace Go.Ble
open Go.Num Go.Ser Go.Dec Go.Shp Go.Abs
end Go.Ble
namespace Go.Proofs.YtdgpnmlialmaaaaGreatDoor
open Go.Abs Go.Num Go.Ser Go.Ble Go.Dec Go.Shp
variable {G : Globs}
end Go.Proofs.YtdgpnmlialmaaaaGreatDoor
end
section
set_option linter.unusedSimpArgs false
set_option linter.unusedVariables false
set_option linter.constructorNameAsVariable false
set_option maxHeartbeats 4000000
namespace Go.Ble
open Go.Num
theorem least_le {l : List N} {n : N} (h : n ∈ known l) : (reckon 3 l).2 ≤ n.2 := by
  have hg := known_good l
  unfold reckon
  cases hk : known l with
  | nil => rw [hk] at h; simp at h
  | cons k ks =>
    rw [hk] at h hg
    have := fold_less ks k (hg k (by simp)) (fun n hn => hg n (by simp [hn]))
    simp only [reckonK]
    rcases List.mem_cons.1 h with rfl | h
    · exact this.2.1
    · exact this.2.2 n h
theorem le_most {l : List N} {n : N} (h : n ∈ known l) : n.2 ≤ (reckon 4 l).2 := by
  have hg := known_good l
  unfold reckon
  cases hk : known l with
  | nil => rw [hk] at h; simp at h
  | cons k ks =>
    rw [hk] at h hg
    have := fold_more ks k (hg k (by simp)) (fun n hn => hg n (by simp [hn]))
    simp only [reckonK]
    rcases List.mem_cons.1 h with rfl | h
    · exact this.2.1
    · exact this.2.2 n h
theorem rank_mem {l : List N} {n : N} (hg : good n = true) (hr : risingS l ≠ []) : rankS l n ∈ risingS l ∧ rankS l n = (risingS l).getD (rankI n.2 (risingS l).length) nothing := by
  have e : rankS l n = (risingS l).getD (rankI n.2 (risingS l).length) nothing := by
    unfold rankS
    rw [if_neg (by rintro (h | h); exact hr h; rw [hg] at h; cases h)]
  refine ⟨?_, e⟩
  rw [e, List.getD_eq_getElem?_getD]
  have hlt := rankI_lt n.2 (List.length_pos_iff.2 hr)
  rw [List.getElem?_eq_getElem hlt]
  exact List.getElem_mem hlt
theorem rank_mono {l : List N} {n m : N} (hn : good n = true) (hm : good m = true) (hr : risingS l ≠ []) (h : n.2 ≤ m.2) : (rankS l n).2 ≤ (rankS l m).2 := by
  rw [(rank_mem hn hr).2, (rank_mem hm hr).2]
  have hpos := List.length_pos_iff.2 hr
  have h1 := rankI_lt n.2 hpos
  have h2 := rankI_lt m.2 hpos
  have h3 := rankI_mono h (risingS l).length hpos
  rw [List.getD_eq_getElem?_getD, List.getD_eq_getElem?_getD, List.getElem?_eq_getElem h1, List.getElem?_eq_getElem h2]
  simp only [Option.getD_some]
  rcases Nat.lt_or_ge (rankI n.2 (risingS l).length) (rankI m.2 (risingS l).length) with h | h
  · exact (List.pairwise_iff_getElem.1 (rising_sorted l)) _ _ h1 h2 h
  · have : rankI n.2 (risingS l).length = rankI m.2 (risingS l).length := by omega
    simp only [this]
    exact Int.le_refl _
end Go.Ble
namespace Go.Proofs.YtdgpnmlialmaaaaGreatDoor
open Go.Abs Go.Num Go.Ser Go.Ble Go.Dec Go.Shp
variable {G : Globs}
theorem branks_law [GSpc] [GPow] [GMaxL] (l : List N) (hok : oksN l) (n : N) (hno : okN n) : PCalls Tryz.prog n_isobarlaw26_BlendRanks [.lst (numEls l), numA n] (fun r => r = .bool true) := by
  refine pcalls_of_awp hmix c_isobarlaw26_BlendRanks rfl ?_
  have hlen := numEls_len l
  rw [numA_eq]
  simp [a_isobarlaw26_BlendRanks, hlen]
  refine ac_same alive26_ok (by simp) ?_
  rintro r rfl
  by_cases h5 : 500 < l.length
  · have h5' : (500 : Int) < l.length := by omega
    simp [hlen, h5, h5']
  · have h5' : ¬ (500 : Int) < l.length := by omega
    have kM := bMiddle_ok (G := G) l hok (by omega)
    have kN := rMiddle_ok (G := G) l hok (by omega)
    have kR := bRank_ok (G := G) l hok (by omega) n hno
    have kS := rRank_ok (G := G) l hok (by omega) n hno
    have kE := same_ok (G := G) l (by omega)
    obtain ⟨x, hx⟩ : ∃ x, x = middleS l := ⟨_, rfl⟩
    obtain ⟨y, hy⟩ : ∃ y, y = rankS l n := ⟨_, rfl⟩
    rw [← hx, numA_eq] at kM kN
    rw [← hy, numA_eq, numA_eq] at kR kS
    have hpu := numEls_pure l
    simp [hlen, h5, h5']
    refine ap_row (bytes := 16) [] (numEls l) false (by simp [lay, splice, chunks]) rfl (by decide) (numEls_two l) (fun h => by cases h) rfl (by rw [hlen]; omega) (by rw [hlen]; omega) ?_
    simp [hlen]
    refine qc_lent kM (.cons (.row 1 l.length 35 2 (numEls l) false (by simp) hlen (.inr ⟨rfl, hpu⟩)) .nil) (by simp [rig]) ?_
    simp
    refine qc_same kN (by simp) (by simp [rig]) ?_
    simp
    refine qc_lent kR (.cons (.row 1 l.length 35 2 (numEls l) false (by simp) hlen (.inr ⟨rfl, hpu⟩)) (.cons (.pure _ (by simp)) .nil)) (by simp [rig]) ?_
    simp
    refine qc_same kS (by simp) (by simp [rig]) ?_
    simp
    refine qc_lent kE (.cons (.row 1 l.length 35 2 (numEls l) false (by simp) hlen (.inr ⟨rfl, hpu⟩)) (.cons (.pure _ (by simp)) .nil)) (by simp [rig]) ?_
    simp
theorem brises_law [GSpc] [GPow] [GMaxL] (l : List N) (hok : oksN l) (n m : N) (hno : okN n) (hmo : okN m) : PCalls Tryz.prog n_isobarlaw26_BlendRises [.lst (numEls l), numA n, numA m] (fun r => r = .bool true) := by
  refine pcalls_of_awp hmix c_isobarlaw26_BlendRises rfl ?_
  have hlen := numEls_len l
  have kn := rnRight_ok (G := G) n hno
  have km := rnRight_ok (G := G) m hmo
  have hgn := right_good n
  have hgm := right_good m
  rw [numA_eq] at kn km
  rw [numA_eq, numA_eq]
  simp [a_isobarlaw26_BlendRises, hlen]
  refine ac_same alive26_ok (by simp) ?_
  rintro r rfl
  by_cases h5 : 500 < l.length
  · have h5' : (500 : Int) < l.length := by omega
    simp [hlen, h5, h5']
  have h5' : ¬ (500 : Int) < l.length := by omega
  simp [hlen, h5, h5']
  refine ac_same kn (by simp) ?_
  rintro r rfl
  cases hrn : rightN n with
  | false => simp
  | true =>
  simp
  refine ac_same km (by simp) ?_
  rintro r rfl
  cases hrm : rightN m with
  | false => simp
  | true =>
  rw [hrn] at hgn
  rw [hrm] at hgm
  cases hn1 : n.1 with
  | true => simp [hn1]
  | false =>
  cases hm1 : m.1 with
  | true => simp [hn1, hm1]
  | false =>
  rw [hn1] at hgn
  rw [hm1] at hgm
  have hgn' : good n = true := by rw [← hgn]; rfl
  have hgm' : good m = true := by rw [← hgm]; rfl
  by_cases hgt : m.2 < n.2
  · simp [hn1, hm1, hgt]
  have kA := bRank_ok (G := G) l hok (by omega) n hno
  have kB := bRank_ok (G := G) l hok (by omega) m hmo
  have k5 := rReckon_ok (G := G) 5 l hok (by omega)
  have k3 := rReckon_ok (G := G) 3 l hok (by omega)
  have k4 := rReckon_ok (G := G) 4 l hok (by omega)
  rw [numA_eq n] at kA
  rw [numA_eq m] at kB
  by_cases hr : risingS l = []
  · have e1 : rankS l n = nothing := by unfold rankS; rw [if_pos (.inl hr)]
    have e2 : rankS l m = nothing := by unfold rankS; rw [if_pos (.inl hr)]
    have hk : known l = [] := List.eq_nil_of_length_eq_zero (by rw [← rising_len, hr]; rfl)
    rw [reckon_none hk] at k5
    rw [e1] at kA
    rw [e2] at kB
    have en : numA nothing = .agg [.bool true, .int .i64 0] := rfl
    rw [en] at kA kB k5
    rw [hn1] at kA
    rw [hm1] at kB
    simp [hn1, hm1, hgt]
    refine ⟨?_, ?_⟩
    all_goals (
      refine qc_same kA (by simp) (by simp [rig]) ?_
      simp
      refine qc_same kB (by simp) (by simp [rig]) ?_
      simp [splice]
      refine ac_same k5 (by simp) ?_
      rintro r rfl
      simp)
  · have hmn := rank_mem hgn' hr
    have hmm := rank_mem hgm' hr
    have hle := rank_mono hgn' hgm' hr (by omega)
    have g1 := rising_good l _ hmn.1
    have g2 := rising_good l _ hmm.1
    have l1 := least_le ((rising_perm l).mem_iff.1 hmn.1)
    have l2 := le_most ((rising_perm l).mem_iff.1 hmm.1)
    obtain ⟨a, ha⟩ : ∃ a, a = rankS l n := ⟨_, rfl⟩
    obtain ⟨b, hb⟩ : ∃ b, b = rankS l m := ⟨_, rfl⟩
    obtain ⟨x, hx⟩ : ∃ x, x = reckon 3 l := ⟨_, rfl⟩
    obtain ⟨y, hy⟩ : ∃ y, y = reckon 4 l := ⟨_, rfl⟩
    rw [← ha] at kA hle g1 l1
    rw [← hb] at kB hle g2 l2
    rw [← hx] at k3 l1
    rw [← hy] at k4 l2
    have a1 := (good_iff.1 g1).1
    have b1 := (good_iff.1 g2).1
    rw [numA_eq] at kA kB k3 k4
    rw [hn1, a1] at kA
    rw [hm1, b1] at kB
    simp [hn1, hm1, hgt]
    refine ⟨?_, ?_⟩
    all_goals (
      refine qc_same kA (by simp) (by simp [rig]) ?_
      simp
      refine qc_same kB (by simp) (by simp [rig]) ?_
      simp [splice, hle]
      refine qc_same k3 (by simp) (by simp [rig]) ?_
      simp [l1]
      refine qc_same k4 (by simp) (by simp [rig]) ?_
      simp [l2])
end Go.Proofs.YtdgpnmlialmaaaaGreatDoor
end
section
set_option linter.unusedSimpArgs false
set_option linter.unusedVariables false
set_option linter.constructorNameAsVariable false
namespace Go.Proofs.YtdgpnmlialmaaaaGreatDoor
open Go.ChangeShapes Go.WideShapes Go.ChangeAt Go.RowKit Go.ChangeMaps Go.Abs Go.Ser
section
variable {H : Type} {enc : TypeId × Value → H} {w : World} {base : Nat} {spare : Nat → Bool} {held : Bool}
theorem ser_size : Tryz.prog.cellsOf 41 = 4 := by kernel_rfl
theorem ser_types : Tryz.prog.cellTypes Tryz.prog.depth 41 = some [9, 3, 3, 22] := by kernel_rfl
theorem str_size4 : Tryz.prog.cellsOf 9 = 1 := by kernel_rfl
theorem int_size4 : Tryz.prog.cellsOf 3 = 1 := by kernel_rfl
theorem nums_size4 : Tryz.prog.cellsOf 22 = 1 := by kernel_rfl
theorem ir_bytes4 {Im : Addr → Prop} {w : World} (s : ByteArray) : IR Im w (.str s.data.toList) (.string s) := by
  have : (.string s : Value) = .string ⟨s.data.toList.toArray⟩ := by cases s; simp
  rw [this]; exact .str _
set_option maxRecDepth 100000 in
theorem open_ser {r : Reach} {b0 : Nat} {v : Value} {d : DataW H} {ps : List MemPlace} (hval : Value.okWide Tryz.prog w r b0 41 v) (hd : DataW.Trod enc Tryz.prog w base spare held 41 v d ps) :
    ∃ s : Sr, SrOk s ∧ IR (oldIm w) w (srA s) v := by
  have hval' := hval
  simp only [Value.okWide, Tryz.underlying41] at hval'
  obtain ⟨cs, rfl, hsz, ts, hts, _, hcell⟩ := hval'
  rw [ser_types] at hts
  simp only [Option.some.injEq] at hts
  subst hts
  obtain ⟨fuel, hf⟩ := hd
  obtain ⟨xs, n, rfl, hx, hl, hxl, hall⟩ := DataW.trod_struct Tryz.underlying41 hf
  have hx2 : xs.length = 4 := hxl
  obtain ⟨x0, x1, x2, x3, rfl⟩ : ∃ x0 x1 x2 x3, xs = [x0, x1, x2, x3] := by
    match xs, hx2 with
    | [a, b, c, d], _ => exact ⟨a, b, c, d, rfl⟩
  have hl2 : cs.size = 4 := by rw [hsz, ser_size]
  obtain ⟨c0, c1, c2, c3, rfl⟩ : ∃ c0 c1 c2 c3, cs = #[c0, c1, c2, c3] := by
    obtain ⟨l⟩ := cs
    match l, hl2 with
    | [a, b, c, d], _ => exact ⟨a, b, c, d, rfl⟩
  have h0 : DataW.trod enc Tryz.prog w base spare held n 9 [c0] = some x0 := by simpa [str_size4, Value.cells] using hall 0 _ rfl
  have h1 : DataW.trod enc Tryz.prog w base spare held n 3 [c1] = some x1 := by simpa [int_size4, Value.cells] using hall 1 _ rfl
  have h2 : DataW.trod enc Tryz.prog w base spare held n 3 [c2] = some x2 := by simpa [int_size4, Value.cells] using hall 2 _ rfl
  have h3 : DataW.trod enc Tryz.prog w base spare held n 22 [c3] = some x3 := by simpa [nums_size4, Value.cells] using hall 3 _ rfl
  obtain ⟨s0, e0, _, w0⟩ := DataW.trod_string Tryz.underlying9 h0
  obtain ⟨m1, e1, _, w1⟩ := DataW.trod_int Tryz.underlying3 h1
  obtain ⟨m2, e2, _, w2⟩ := DataW.trod_int Tryz.underlying3 h2
  simp only [List.cons.injEq, and_true] at e0 e1 e2
  subst e0 e1 e2
  obtain ⟨u, hu, hck⟩ := hcell 3 c3 rfl
  have hu2 : u = 22 := by simpa using hu.symm
  subst hu2
  have hval3 : Value.okWide Tryz.prog w r b0 22 c3 := by simp only [Value.okWide, Tryz.underlying22]; exact hck
  have hcs : c3.cells = #[c3] := by
    rcases DataW.trod_slice Tryz.underlying22 h3 with ⟨hc, _⟩ | ⟨a, len, cap, elems, rest, n', _, hc, _⟩
    · simp only [List.cons.injEq, and_true] at hc; subst hc; rfl
    · simp only [List.cons.injEq, and_true] at hc; subst hc; rfl
  have hd3 : DataW.Trod enc Tryz.prog w base spare held 22 c3 x3.1 x3.2 := ⟨n, by rw [hcs]; exact h3⟩
  obtain ⟨l, wl, wk, hir⟩ := open_nums hval3 hd3
  obtain ⟨a1, a2⟩ := wf_i64 w1
  obtain ⟨b1, b2⟩ := wf_i64 w2
  refine ⟨⟨s0.data.toList, m1, m2, l⟩, ⟨by rw [Array.length_toList]; exact w0, a1, a2, b1, b2, wk, wl⟩, ?_⟩
  exact .agg _ [_, _, _, _] (by simp [srC, AV.one]) rfl fun j hj hj' => by
    match j, hj with
    | 0, _ => exact ir_bytes4 _
    | 1, _ => exact .int _ _
    | 2, _ => exact .int _ _
    | 3, _ => exact hir
end
end Go.Proofs.YtdgpnmlialmaaaaGreatDoor
end
section
set_option linter.unusedSimpArgs false
set_option linter.unusedVariables false
set_option linter.constructorNameAsVariable false
namespace Go.Proofs.YtdgpnmlialmaaaaGreatDoor
open Go.ChangeShapes Go.WideShapes Go.ChangeAt Go.RowKit Go.ChangeMaps Go.Abs
instance serGlobs : Globs := ⟨[(gPow, Lib.pow10Tab.map (AV.int .u64))]⟩
instance serG : GPow where
  pow := List.Mem.head _
end Go.Proofs.YtdgpnmlialmaaaaGreatDoor
end
