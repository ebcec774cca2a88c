/- Patterns of one name: classes. -/
import Derived.Test.YtkclehdmdnfikaaDoorGlC
set_option linter.unusedSimpArgs false
set_option linter.unusedVariables false
set_option linter.constructorNameAsVariable false
namespace Go.Proofs.YtkclehdmdnfikaaDoor
open Go.Abs Go.Glob
variable {G : Globs}

/-- A parser. -/
def PV (text : List UInt8) (k : Nat) (bad : Bool) (depth deepest : Int) : Entry := .var 120 [.str text, .int .i64 k, .bool bad, .int .i64 depth, .int .i64 deepest]
theorem PV_under (text : List UInt8) (k : Nat) (bad : Bool) (depth deepest : Int) (m : Nat) : (PV text k bad depth deepest).under m = true := by simp [PV, Entry.under]

theorem set_get {σ : Store} {id : Nat} (hid : id < σ.length) (e : Entry) (l : Store) : (σ.set id e ++ l)[id]? = some e := by
  rw [List.getElem?_append_left (by simpa using hid)]; simp [hid]
theorem set_get' {σ : Store} {id : Nat} (hid : id < σ.length) (e : Entry) : (σ.set id e)[id]? = some e := by simp [hid]
theorem set_set {σ : Store} {id : Nat} (hid : id < σ.length) (e e' : Entry) (l : Store) : (σ.set id e ++ l).set id e' = σ.set id e' ++ l := by
  rw [List.set_append_left _ _ (by simpa using hid), List.set_set]
theorem get_0 {σ : Store} (id : Nat) (e a : Entry) (l : Store) : (σ.set id e ++ a :: l)[σ.length]? = some a := by
  rw [List.getElem?_append_right (by simp)]; simp
theorem get_1 {σ : Store} (id : Nat) (e a b : Entry) (l : Store) : (σ.set id e ++ a :: b :: l)[σ.length + 1]? = some b := by
  rw [List.getElem?_append_right (by simp)]; simp
theorem set_0 {σ : Store} (id : Nat) (e a a' : Entry) (l : Store) : (σ.set id e ++ a :: l).set σ.length a' = σ.set id e ++ a' :: l := by
  rw [List.set_append_right _ _ (by simp)]; simp
theorem set_1 {σ : Store} (id : Nat) (e a b b' : Entry) (l : Store) : (σ.set id e ++ a :: b :: l).set (σ.length + 1) b' = σ.set id e ++ a :: b' :: l := by
  rw [List.set_append_right _ _ (by simp)]; simp

theorem class_ok {σ : Store} {id : Nat} (hid : id < σ.length) (text : List UInt8) (at_ : Nat) (depth deepest : Int) (h1 : 1 ≤ at_) (h2 : at_ ≤ text.length) (h3 : text.length ≤ 1000000) (n : Nat) (hn : text.length - at_ < n) :
    ACalls Tryd.prog n_glob_parser_class [.ptr id 0] (σ.set id (PV text at_ false depth deepest)) (fun r σ' =>
      match cls n false (text.drop at_) with
      | some (rs, r') => r = .agg (Pc.cls rs ((text.drop (at_ - 1)).take (text.length - at_ + 1 - r'.length))).enc ∧ σ' = σ.set id (PV text (text.length - r'.length) false depth deepest)
      | none => ∃ rs k, k ≤ text.length ∧ r = .agg (Pc.cls rs []).enc ∧ σ' = σ.set id (PV text k true depth deepest)) := by
  refine acalls_of_awp_e hmix c_glob_parser_class rfl ?_
  have g0 := @set_get σ id hid
  have g00 := @set_get' σ id hid
  have q0 := @set_set σ id hid
  have hw1 : IntKind.i64.wrap ((at_ : Int) - 1) = (at_ : Int) - 1 := wrap_i64 (by omega) (by omega)
  simp [a_glob_parser_class, g0, g00, PV, hw1, get_0, get_1, set_0, set_1]
  refine lp_startx (fun x f σ' => ∃ (k : Nat) (rs : List (UInt8 × UInt8)) (m : Nat), x = text.length - k ∧ at_ ≤ k ∧ k ≤ text.length ∧ text.length - k < m ∧ rs.length ≤ k ∧
    cls n false (text.drop at_) = ((cls m (!rs.isEmpty) (text.drop k)).map fun x => (rs ++ x.1, x.2)) ∧ f 0 = .ptr id 0 ∧ f 2 = .ptr σ.length 0 ∧ f 3 = .int .i64 ((at_ : Int) - 1) ∧ f 4 = .ptr (σ.length + 1) 0 ∧
    σ' = σ.set id (PV text k false depth deepest) ++ .var 126 [.int .i64 0, .int .u8 0, .nils, .nils, .str []] :: .var 126 [.int .i64 3, .int .u8 0, rowV (σ.length + 2) (encR rs), .nils, .str []] :: rowE 155 2 (encR rs) true) (text.length - at_) ?_ ?_
  · refine ⟨at_, [], n, rfl, Nat.le_refl _, h2, hn, by simp, ?_, ?_⟩
    · simp
    · simp [PV, encR, rowV, rowE]
  · rintro x f σ' ⟨k, rs, m, rfl, hk1, hk2, hm, hrk, hcls, h0, h2, h3', h4, rfl⟩
    have hview : ∀ e a b, view (σ.set id e ++ a :: b :: rowE 155 2 (encR rs) true) (rowV (σ.length + 2) (encR rs)) = some (encR rs) := fun e a b => by
      have := view_acc (σ := σ.set id e ++ [a, b]) (e := 155) (size := 2) (l := encR rs) (im := true)
      simpa using this
    have hfin : ∀ e a b, fin1 (σ.set id e ++ a :: b :: rowE 155 2 (encR rs) true) σ.length (rowV (σ.length + 2) (encR rs)) = some (.lst (encR rs)) := fun e a b => by
      have := fin1_acc (σ := σ.set id e ++ [a, b]) (e := 155) (size := 2) (l := encR rs) (m := σ.length)
      simpa using this
    simp [h0]
    by_cases hlt : k < text.length
    · have hlt' : k < text.length := hlt
      obtain ⟨c, hc⟩ : ∃ c, text[k]? = some c := ⟨_, List.getElem?_eq_getElem hlt⟩
      have hd := drop_cons hc
      have hrs : (encR rs).length = rs.length := by simp [encR]
      obtain ⟨m, rfl⟩ : ∃ j, m = j + 1 := ⟨m - 1, by omega⟩
      refine ac_lent (peek_some text k c _ _ _ hc) (.cons (coe_ptr (g0 _ _) (by simp) rfl) .nil) ?_
      rintro r rfl
      refine ⟨by simp, ?_⟩
      have hwk : IntKind.i64.wrap ((k : Int) + 1) = (k : Int) + 1 := wrap_i64 (by omega) (by omega)
      have hw2 : IntKind.i64.wrap ((k : Int) + 1 + 1) = (k : Int) + 1 + 1 := wrap_i64 (by omega) (by omega)
      have ht2 : ((k : Int) + 1 + 1).toNat = k + 1 + 1 := by omega
      have hp1 : (0 : Int) ≤ (k : Int) + 1 := by omega
      have hp2 : (0 : Int) ≤ (k : Int) + 1 + 1 := by omega
      have hw3 : IntKind.i64.wrap ((k : Int) + 1 + 2) = (k : Int) + 3 := by rw [wrap_i64 (by omega) (by omega)]; omega
      rw [hd] at hcls
      by_cases hc1 : c = 93 ∧ rs ≠ []
      · obtain ⟨rfl, hr0⟩ := hc1
        have hpos : 0 < rs.length := List.length_pos_iff.2 hr0
        have f1 : (0 : Int) ≤ (k : Int) + 1 := by omega
        have f2 : (1 : Int) ≤ (at_ : Int) := by omega
        have f3 : k + 1 ≤ text.length := by omega
        have f4 : at_ ≤ k + 1 + 1 := by omega
        simp [h0, g0, q0, PV, h4, h2, h3', get_1, set_0, get_0, set_1, hview, hrs, hpos, hwk, f1, f2, f3, f4]
        refine er_set id (PV text (k + 1) false depth deepest) (.agg (Pc.cls rs ((text.drop (at_ - 1)).take (text.length - at_ + 1 - (text.length - (k + 1))))).enc) (.var 126 [.int .i64 3, .int .u8 0, rowV (σ.length + 2) (encR rs), .nils, .str ((text.take (k + 1)).drop (at_ - 1))] :: .var 126 [.int .i64 3, .int .u8 0, rowV (σ.length + 2) (encR rs), .nils, .str ((text.take (k + 1)).drop (at_ - 1))] :: rowE 155 2 (encR rs) true) ?_ ?_ ?_ ?_
        · simp [retAt, a_glob_parser_class, h2, get_0, hfin, Pc.enc, Pc.kind, Pc.low, Pc.rs, Pc.alts, Pc.text, encA]
          rw [List.drop_take]
          congr 1
          omega
        · rfl
        · exact PV_under _ _ _ _ _ _
        · rw [hcls]
          have : (!rs.isEmpty) = true := by simpa using hr0
          simp only [cls, this, and_self, if_true, Option.map_some, List.append_nil, List.length_drop]
          have e : text.length - (text.length - (k + 1)) = k + 1 := by omega
          simp [PV, e]
      · have hst : ∀ e a b l, σ.set id e ++ a :: b :: l = (σ.set id e ++ [a, b]) ++ l := fun e a b l => by simp
        have hap : ∀ {K : AV → Store → Prop} {t : Tg K} {e a b : Entry} (c h : UInt8), K (rowV (σ.length + 2) (encR (rs ++ [(c, h)]))) (σ.set id e ++ a :: b :: rowE 155 2 (encR (rs ++ [(c, h)])) true) →
            ap K t (σ.set id e ++ a :: b :: rowE 155 2 (encR rs) true) 155 2 2 (rowV (σ.length + 2) (encR rs)) (.lst [[.int .u8 c.toNat, .int .u8 h.toNat]]) := by
          intro K t e a b c h hK
          have e1 : encR (rs ++ [(c, h)]) = encR rs ++ [[.int .u8 c.toNat, .int .u8 h.toNat]] := by simp [encR]
          rw [hst, e1] at hK
          rw [hst]
          exact ap_acc_at (by simp) (encR rs) [[.int .u8 c.toNat, .int .u8 h.toNat]] true (by omega) (by simp) (by simp) (by simp [hrs]; omega) (by simp [hrs]; omega) hK
        have hne : ¬ (c = 93 ∧ (!rs.isEmpty) = true) := fun h => hc1 ⟨h.1, by simpa using h.2⟩
        by_cases h93 : c = 93
        · have hr0 : rs = [] := Classical.byContradiction fun h => hc1 ⟨h93, h⟩
          subst hr0
          have hnb : nb c = false := by rw [h93]; decide
          subst h93
          simp [h0, g0, q0, PV, h4, h2, h3', get_1, set_0, get_0, set_1, hview, hrs]
          refine ac_same (byte_ok 93) (by simp) ?_
          rintro r rfl
          simp [h0, g0, q0, PV, h4, h2, h3', get_1, set_0, get_0, set_1, hnb]
          refine er_set id (PV text k true depth deepest) (.agg (Pc.cls [] []).enc) (.var 126 [.int .i64 3, .int .u8 0, rowV (σ.length + 2) (encR []), .nils, .str []] :: .var 126 [.int .i64 3, .int .u8 0, rowV (σ.length + 2) (encR []), .nils, .str []] :: rowE 155 2 (encR []) true) ?_ ?_ ?_ ?_
          · simp [retAt, a_glob_parser_class, h2, get_0, hfin, Pc.enc, Pc.kind, Pc.low, Pc.rs, Pc.alts, Pc.text, encA]
          · rfl
          · exact PV_under _ _ _ _ _ _
          · rw [hcls, cls_no hne hnb]
            exact ⟨[], k, hk2, rfl, rfl⟩
        · have h93' : ¬ ((c.toNat : Int) = 93) := fun h => h93 (UInt8.toNat_inj.1 (show c.toNat = 93 by omega))
          simp [h0, g0, q0, PV, h4, h2, h3', get_1, set_0, get_0, set_1, hview, hrs, h93']
          refine ac_same (byte_ok c) (by simp) ?_
          rintro r rfl
          by_cases hnb : nb c = true
          · simp [h0, g0, q0, PV, h4, h2, h3', get_1, set_0, get_0, set_1, hnb, hwk, hw2, hw3, hp1, hp2, ht2]
            by_cases hk2' : k + 2 < text.length
            · obtain ⟨d, hdd⟩ : ∃ d, text[k + 1]? = some d := ⟨_, List.getElem?_eq_getElem (by omega)⟩
              obtain ⟨h, hhh⟩ : ∃ h, text[k + 1 + 1]? = some h := ⟨_, List.getElem?_eq_getElem (by omega)⟩
              have hd2 : text.drop (k + 1) = d :: h :: text.drop (k + 3) := by rw [drop_cons hdd, drop_cons hhh]
              have hk3 : (k : Int) + 1 + 1 < text.length := by omega
              simp [h0, g0, q0, PV, h4, h2, h3', get_1, set_0, get_0, set_1, hnb, hwk, hw2, hw3, hp1, hp2, ht2, hk3, hdd]
              by_cases h45 : d = 45
              · have h45' : (d.toNat : Int) = 45 := by rw [h45]; rfl
                simp [h0, g0, q0, PV, h4, h2, h3', get_1, set_0, get_0, set_1, hnb, hwk, hw2, hw3, hp1, hp2, ht2, h45', hhh]
                refine qc_same (byte_ok h) (by simp) (by simp) ?_
                by_cases hnh : nb h = true
                · have hr : rng (text.drop (k + 1)) = some (h, text.drop (k + 3)) := by rw [hd2]; simp [rng, h45, hnh]
                  simp [h0, g0, q0, PV, h4, h2, h3', get_1, set_0, get_0, set_1, hnb, hwk, hw2, hw3, hp1, hp2, ht2, h45', hnh, hhh]
                  by_cases hlt2 : h < c
                  · have hlt3 : h.toNat < c.toNat := UInt8.lt_iff_toNat_lt.1 hlt2
                    have hlt3' : (h.toNat : Int) < c.toNat := by omega
                    simp [h0, g0, q0, PV, h4, h2, h3', get_1, set_0, get_0, set_1, hnb, hwk, hw2, hw3, hp1, hp2, ht2, h45', hhh, hlt3, hlt3']
                    refine er_set id (PV text (k + 3) true depth deepest) (.agg (Pc.cls rs []).enc) (.var 126 [.int .i64 3, .int .u8 0, rowV (σ.length + 2) (encR rs), .nils, .str []] :: .var 126 [.int .i64 3, .int .u8 0, rowV (σ.length + 2) (encR rs), .nils, .str []] :: rowE 155 2 (encR rs) true) ?_ ?_ ?_ ?_
                    · simp [retAt, a_glob_parser_class, h2, get_0, hfin, Pc.enc, Pc.kind, Pc.low, Pc.rs, Pc.alts, Pc.text, encA]
                    · simp [PV]
                    · exact PV_under _ _ _ _ _ _
                    · rw [hcls, cls_step hne hnb, hr]
                      simp only [if_pos hlt2]
                      exact ⟨rs, k + 3, by omega, rfl, rfl⟩
                  · have hlt3 : ¬ h.toNat < c.toNat := fun hx => hlt2 (UInt8.lt_iff_toNat_lt.2 hx)
                    have hlt3' : ¬ (h.toNat : Int) < c.toNat := by omega
                    simp [h0, g0, q0, PV, h4, h2, h3', get_1, set_0, get_0, set_1, hnb, hwk, hw2, hw3, hp1, hp2, ht2, h45', hhh, hlt3, hlt3']
                    refine hap c h ?_
                    simp [h0, g0, q0, PV, h4, h2, h3', get_1, set_0, get_0, set_1, hnb, hwk, hw2, hw3, hp1, hp2, ht2, h45']
                    refine nx_intro (text.length - (k + 3)) (by omega) ⟨k + 3, rs ++ [(c, h)], m, rfl, by omega, by omega, by omega, by simp; omega, ?_, by simp [h0], by simp [h2], by simp [h3'], by simp [h4], by simp [PV]⟩
                    rw [hcls, cls_step hne hnb, hr]
                    have hq : (!(rs ++ [(c, h)]).isEmpty) = true := by simp
                    rw [hq]
                    simp only [if_neg hlt2]
                    cases cls m true (text.drop (k + 3)) <;> simp
                · have hr : rng (text.drop (k + 1)) = none := by rw [hd2]; simp [rng, hnh]
                  simp [h0, g0, q0, PV, h4, h2, h3', get_1, set_0, get_0, set_1, hnb, hwk, hw2, hw3, hp1, hp2, ht2, h45', hnh]
                  refine hap c c ?_
                  simp [h0, g0, q0, PV, h4, h2, h3', get_1, set_0, get_0, set_1, hnb, hwk, hw2, hw3, hp1, hp2, ht2, h45']
                  refine nx_intro (text.length - (k + 1)) (by omega) ⟨k + 1, rs ++ [(c, c)], m, rfl, by omega, by omega, by omega, by simp; omega, ?_, by simp [h0], by simp [h2], by simp [h3'], by simp [h4], by simp [PV]⟩
                  rw [hcls, cls_step hne hnb, hr]
                  have hq : (!(rs ++ [(c, c)]).isEmpty) = true := by simp
                  rw [hq]
                  cases cls m true (text.drop (k + 1)) <;> simp
              · have h45' : ¬ (d.toNat : Int) = 45 := fun hx => h45 (UInt8.toNat_inj.1 (show d.toNat = 45 by omega))
                have hr : rng (text.drop (k + 1)) = none := by rw [hd2]; simp [rng, h45]
                simp [h0, g0, q0, PV, h4, h2, h3', get_1, set_0, get_0, set_1, hnb, hwk, hw2, hw3, hp1, hp2, ht2, h45']
                refine hap c c ?_
                simp [h0, g0, q0, PV, h4, h2, h3', get_1, set_0, get_0, set_1, hnb, hwk, hw2, hw3, hp1, hp2, ht2]
                refine nx_intro (text.length - (k + 1)) (by omega) ⟨k + 1, rs ++ [(c, c)], m, rfl, by omega, by omega, by omega, by simp; omega, ?_, by simp [h0], by simp [h2], by simp [h3'], by simp [h4], by simp [PV]⟩
                rw [hcls, cls_step hne hnb, hr]
                have hq : (!(rs ++ [(c, c)]).isEmpty) = true := by simp
                rw [hq]
                cases cls m true (text.drop (k + 1)) <;> simp
            · have hr : rng (text.drop (k + 1)) = none := by
                have hl : (text.drop (k + 1)).length ≤ 1 := by simp; omega
                match text.drop (k + 1), hl with
                | [], _ => rfl
                | [_], _ => rfl
              have hk3 : ¬ (k : Int) + 1 + 1 < text.length := by omega
              simp [h0, g0, q0, PV, h4, h2, h3', get_1, set_0, get_0, set_1, hnb, hwk, hw2, hw3, hp1, hp2, ht2, hk3]
              refine hap c c ?_
              simp [h0, g0, q0, PV, h4, h2, h3', get_1, set_0, get_0, set_1, hnb, hwk, hw2, hw3, hp1, hp2, ht2]
              refine nx_intro (text.length - (k + 1)) (by omega) ⟨k + 1, rs ++ [(c, c)], m, rfl, by omega, by omega, by omega, by simp; omega, ?_, by simp [h0], by simp [h2], by simp [h3'], by simp [h4], by simp [PV]⟩
              rw [hcls, cls_step hne hnb, hr]
              have hq : (!(rs ++ [(c, c)]).isEmpty) = true := by simp
              rw [hq]
              cases cls m true (text.drop (k + 1)) <;> simp
          · simp only [Bool.not_eq_true] at hnb
            simp [h0, g0, q0, PV, h4, h2, h3', get_1, set_0, get_0, set_1, hnb]
            refine er_set id (PV text k true depth deepest) (.agg (Pc.cls rs []).enc) (.var 126 [.int .i64 3, .int .u8 0, rowV (σ.length + 2) (encR rs), .nils, .str []] :: .var 126 [.int .i64 3, .int .u8 0, rowV (σ.length + 2) (encR rs), .nils, .str []] :: rowE 155 2 (encR rs) true) ?_ ?_ ?_ ?_
            · simp [retAt, a_glob_parser_class, h2, get_0, hfin, Pc.enc, Pc.kind, Pc.low, Pc.rs, Pc.alts, Pc.text, encA]
            · rfl
            · exact PV_under _ _ _ _ _ _
            · rw [hcls, cls_no hne hnb]
              exact ⟨rs, k, hk2, rfl, rfl⟩
    · refine ac_lent (peek_none text k _ _ _ (by omega)) (.cons (coe_ptr (g0 _ _) (by simp) rfl) .nil) ?_
      rintro r rfl
      refine ⟨by simp, ?_⟩
      simp [h0, g0, q0, PV, h4, h2, get_1, set_0, get_0]
      refine er_set id (PV text k true depth deepest) (.agg (Pc.cls rs []).enc) (.var 126 [.int .i64 3, .int .u8 0, rowV (σ.length + 2) (encR rs), .nils, .str []] :: .var 126 [.int .i64 3, .int .u8 0, rowV (σ.length + 2) (encR rs), .nils, .str []] :: rowE 155 2 (encR rs) true) ?_ ?_ ?_ ?_
      · simp [retAt, a_glob_parser_class, h2, get_0, hfin, Pc.enc, Pc.kind, Pc.low, Pc.rs, Pc.alts, Pc.text, encA]
      · rfl
      · exact PV_under _ _ _ _ _ _
      · obtain ⟨m, rfl⟩ : ∃ j, m = j + 1 := ⟨m - 1, by omega⟩
        rw [hcls, List.drop_eq_nil_of_le (by omega)]
        exact ⟨rs, k, hk2, rfl, rfl⟩
end Go.Proofs.YtkclehdmdnfikaaDoor
