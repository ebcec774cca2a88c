/- A target's tokens: the scanner's small methods, rows, quoted texts, words. -/
import Derived.Test.YtkclehdmdnfikaaDoorGlD
import Derived.Test.YtkclehdmdnfikaaDoorTkSpec
import Derived.Test.YtkclehdmdnfikaaDoorDcJ
import Derived.Lib.IndexLaws
set_option linter.unusedSimpArgs false
set_option linter.unusedVariables false
set_option linter.constructorNameAsVariable false
set_option maxHeartbeats 2000000
namespace Go.Proofs.YtkclehdmdnfikaaDoor
open Go.Abs Go.Glob Go.Tok
variable {G : Globs}

/-- A scanner. -/
def SV (t : List UInt8) (k : Nat) : Entry := .var 62 [.str t, .int .i64 k]
theorem SV_under (t : List UInt8) (k m : Nat) : (SV t k).under m = true := by simp [SV, Entry.under]

theorem more_ok (t : List UInt8) (k : Nat) : PCalls Tryd.prog n_tokens_scanner_more [.rptr [.str t, .int .i64 k]] (fun r => r = .bool (decide (k < t.length))) := by
  refine pcalls_of_awp hmix c_tokens_scanner_more rfl ?_
  simp [a_tokens_scanner_more]

def stp (t : List UInt8) (k : Nat) : Bool := match t[k]? with | some c => bstop c | none => true
theorem stp_some {t : List UInt8} {k : Nat} {c : UInt8} (h : t[k]? = some c) : stp t k = bstop c := by simp [stp, h]
theorem stp_none {t : List UInt8} {k : Nat} (h : t.length ≤ k) : stp t k = true := by simp [stp, List.getElem?_eq_none h]
theorem stopped_ok (t : List UInt8) (k : Nat) : PCalls Tryd.prog n_tokens_scanner_stopped [.rptr [.str t, .int .i64 k]] (fun r => r = .bool (stp t k)) := by
  refine pcalls_of_awp hmix c_tokens_scanner_stopped rfl ?_
  simp [a_tokens_scanner_stopped]
  refine qc_same (more_ok t k) (by simp) (by simp) ?_
  by_cases hk : k < t.length
  · have hc : t[k]? = some t[k] := List.getElem?_eq_getElem hk
    simp [hk, hc]
    refine qc_same (indexByte_ok _ _) (by simp) (by simp) ?_
    have hi := idx_stop t[k]
    by_cases hs : bstop t[k] = true
    · have h0 := hi.2 hs
      simp [stp_some hc, hs, h0]
    · have h0 : ¬ 0 ≤ Lib.indexByte [39, 34, 32, 40, 41] t[k] := fun h => hs (hi.1 h)
      simp [stp_some hc, hs, h0]
  · rw [stp_none (by omega)]
    simp [hk]

theorem refStop_ok (c : UInt8) : PCalls Tryd.prog n_isobarref22_stop [.int .u8 c.toNat] (fun r => r = .bool (bstop c)) := by
  refine pcalls_of_awp hmix c_isobarref22_stop rfl ?_
  by_cases h1 : c = 39
  · subst h1; simp [a_isobarref22_stop, bstop]
  by_cases h2 : c = 34
  · subst h2; simp [a_isobarref22_stop, bstop]
  by_cases h3 : c = 32
  · subst h3; simp [a_isobarref22_stop, bstop]
  by_cases h4 : c = 40
  · subst h4; simp [a_isobarref22_stop, bstop]
  by_cases h5 : c = 41
  · subst h5; simp [a_isobarref22_stop, bstop]
  have n1 : ¬ ((c.toNat : Int) = 39) := fun h => h1 (UInt8.toNat_inj.1 (show c.toNat = 39 by omega))
  have n2 : ¬ ((c.toNat : Int) = 34) := fun h => h2 (UInt8.toNat_inj.1 (show c.toNat = 34 by omega))
  have n3 : ¬ ((c.toNat : Int) = 32) := fun h => h3 (UInt8.toNat_inj.1 (show c.toNat = 32 by omega))
  have n4 : ¬ ((c.toNat : Int) = 40) := fun h => h4 (UInt8.toNat_inj.1 (show c.toNat = 40 by omega))
  have n5 : ¬ ((c.toNat : Int) = 41) := fun h => h5 (UInt8.toNat_inj.1 (show c.toNat = 41 by omega))
  simp [a_isobarref22_stop, n1, n2, n3, n4, n5, bstop, h1, h2, h3, h4, h5]

theorem sv_get {σ : Store} {id : Nat} (hid : id < σ.length) (t : List UInt8) (k : Nat) : (σ.set id (SV t k))[id]? = some (SV t k) := by simp [hid]

/-- A class, from its [ on. -/
theorem tclass_ok {σ : Store} {id : Nat} (hid : id < σ.length) (t : List UInt8) (k0 : Nat) (h2 : k0 ≤ t.length) (h3 : t.length ≤ 1000000) :
    ACalls Tryd.prog n_tokens_scanner_class [.ptr id 0] (σ.set id (SV t k0)) (fun r σ' =>
      match clsN (t.drop k0) with
      | some n => r = .bool true ∧ σ' = σ.set id (SV t (k0 + n))
      | none => ∃ k, k ≤ t.length ∧ r = .bool false ∧ σ' = σ.set id (SV t k)) := by
  refine acalls_of_awp_e hmix c_tokens_scanner_class rfl ?_
  have g0 := @set_get' σ id hid
  simp [a_tokens_scanner_class, g0, SV]
  refine lp_startx (fun x f σ' => ∃ (k : Nat), x = t.length - k ∧ k0 ≤ k ∧ k ≤ t.length ∧ clsN (t.drop k0) = (clsN (t.drop k)).map (· + (k - k0)) ∧ f 0 = .ptr id 0 ∧ σ' = σ.set id (SV t k)) (t.length - k0) ?_ ?_
  · exact ⟨k0, rfl, Nat.le_refl _, h2, by simp, by simp, by simp [SV]⟩
  rintro x f σ' ⟨k, hx, hk1, hk2, hcls, h0, rfl⟩
  simp [h0]
  refine ac_lent (stopped_ok t k) (.cons (coe_ptr (g0 _) (by simp) rfl) .nil) ?_
  rintro r rfl
  refine ⟨by simp, ?_⟩
  by_cases hk : k < t.length
  · obtain ⟨c, hc⟩ : ∃ c, t[k]? = some c := ⟨_, List.getElem?_eq_getElem hk⟩
    have hd := drop_cons hc
    rw [stp_some hc]
    rw [hd, clsN] at hcls
    have hwk : IntKind.i64.wrap ((k : Int) + 1) = (k : Int) + 1 := wrap_i64 (by omega) (by omega)
    have hwk2 : IntKind.i64.wrap (k : Int) = (k : Int) := wrap_i64 (by omega) (by omega)
    by_cases hs : bstop c = true
    · simp [hs, h0]
      refine er_set' id (SV t k) (.bool false) ?_ ?_ (SV_under _ _ _) ?_
      · simp [retAt, a_tokens_scanner_class]
      · simp
      · rw [hcls]; simp [hs]; exact ⟨k, hk2, rfl⟩
    · simp [hs, h0, g0, SV, hwk, hwk2, hc]
      by_cases h93 : c = 93
      · subst h93
        simp
        refine er_set' id (SV t (k + 1)) (.bool true) ?_ ?_ (SV_under _ _ _) ?_
        · simp [retAt, a_tokens_scanner_class]
        · simp [SV]
        · rw [hcls]
          have e : (k0 : Int) + (1 + ((k - k0 : Nat) : Int)) = (k : Int) + 1 := by omega
          simp [hs, SV, e]
      · have h93' : ¬ ((c.toNat : Int) = 93) := fun h => h93 (UInt8.toNat_inj.1 (show c.toNat = 93 by omega))
        simp [h93, h93']
        refine nx_intro (t.length - (k + 1)) (by omega) ⟨k + 1, rfl, by omega, by omega, ?_, by simp [h0], by simp⟩
        rw [hcls]
        cases clsN (List.drop (k + 1) t) with
        | none => simp [hs, h93]
        | some n => simp [hs, h93]; omega
  · rw [stp_none (by omega)]
    have hd : t.drop k = [] := List.drop_of_length_le (by omega)
    rw [hd, clsN] at hcls
    simp [h0]
    refine er_set' id (SV t k) (.bool false) ?_ ?_ (SV_under _ _ _) ?_
    · simp [retAt, a_tokens_scanner_class]
    · simp
    · rw [hcls]; simp; exact ⟨k, hk2, rfl⟩

/-- Braces, from their { on. -/
theorem tbraces_ok {σ : Store} {id : Nat} (hid : id < σ.length) (t : List UInt8) (k0 : Nat) (h1 : t[k0]? = some 123) (h3 : t.length ≤ 1000000) :
    ACalls Tryd.prog n_tokens_scanner_braces [.ptr id 0] (σ.set id (SV t k0)) (fun r σ' =>
      match brcN 0 (t.drop k0) with
      | some n => r = .bool true ∧ σ' = σ.set id (SV t (k0 + n))
      | none => ∃ k, k ≤ t.length ∧ r = .bool false ∧ σ' = σ.set id (SV t k)) := by
  refine acalls_of_awp_e hmix c_tokens_scanner_braces rfl ?_
  have g0 := @set_get' σ id hid
  obtain ⟨h2', _⟩ := List.getElem?_eq_some_iff.1 h1
  have h2 : k0 ≤ t.length := by omega
  simp [a_tokens_scanner_braces, g0, SV]
  refine lp_startx (fun x f σ' => ∃ (k d : Nat), x = t.length - k ∧ k0 ≤ k ∧ k ≤ t.length ∧ d ≤ k - k0 ∧ (k = k0 ∨ 0 < d) ∧ brcN 0 (t.drop k0) = (brcN d (t.drop k)).map (· + (k - k0)) ∧ f 0 = .ptr id 0 ∧ f 3 = .int .i64 d ∧ σ' = σ.set id (SV t k)) (t.length - k0) ?_ ?_
  · exact ⟨k0, 0, rfl, Nat.le_refl _, h2, by omega, .inl rfl, by simp, by simp, by simp, by simp [SV]⟩
  rintro x f σ' ⟨k, d, hx, hk1, hk2, hdk, hd0, hcls, h0, h3f, rfl⟩
  simp [h0]
  refine ac_lent (stopped_ok t k) (.cons (coe_ptr (g0 _) (by simp) rfl) .nil) ?_
  rintro r rfl
  refine ⟨by simp, ?_⟩
  by_cases hk : k < t.length
  · obtain ⟨c, hc⟩ : ∃ c, t[k]? = some c := ⟨_, List.getElem?_eq_getElem hk⟩
    have hd := drop_cons hc
    rw [stp_some hc]
    rw [hd, brcN] at hcls
    have hwk : IntKind.i64.wrap ((k : Int) + 1) = (k : Int) + 1 := wrap_i64 (by omega) (by omega)
    have hwd : IntKind.i64.wrap ((d : Int) + 1) = (d : Int) + 1 := wrap_i64 (by omega) (by omega)
    have hwm : IntKind.i64.wrap ((d : Int) - 1) = (d : Int) - 1 := wrap_i64 (by omega) (by omega)
    have hc0 : k = k0 → c = 123 := fun h => by subst h; rw [h1] at hc; cases hc; rfl
    by_cases hs : bstop c = true
    · simp [hs, h0]
      refine er_set' id (SV t k) (.bool false) ?_ ?_ (SV_under _ _ _) ?_
      · simp [retAt, a_tokens_scanner_braces]
      · simp
      · rw [hcls]; simp [hs]; exact ⟨k, hk2, rfl⟩
    · have hnext : ∀ d' : Nat, deeper d c = d' → d' ≠ 0 → brcN 0 (t.drop k0) = (brcN d' (t.drop (k + 1))).map (· + (k + 1 - k0)) := fun d' hd' hz => by
        rw [hcls, hd', if_neg hs, if_neg hz]
        cases brcN d' (List.drop (k + 1) t) with
        | none => simp
        | some n => simp; omega
      have hend : deeper d c = 0 → brcN 0 (t.drop k0) = some (1 + (k - k0)) := fun hz => by
        rw [hcls, if_neg hs, hz]; simp
      have e : (k0 : Int) + (1 + ((k - k0 : Nat) : Int)) = (k : Int) + 1 := by omega
      by_cases h123 : c = 123
      · subst h123
        have hdp : deeper d 123 = d + 1 := by simp [deeper]
        have hdz : ¬ ((d : Int) + 1 = 0) := by omega
        simp [hs, h0, h3f, g0, SV, hwk, hwd, hc, hdz]
        refine nx_intro (t.length - (k + 1)) (by omega) ⟨k + 1, d + 1, rfl, by omega, by omega, by omega, .inr (by omega), hnext _ hdp (by omega), by simp [h0], by simp, by simp⟩
      · have h123' : ¬ ((c.toNat : Int) = 123) := fun h => h123 (UInt8.toNat_inj.1 (show c.toNat = 123 by omega))
        have hdp0 : 0 < d := by
          rcases hd0 with h | h
          · exact absurd (hc0 h) h123
          · exact h
        by_cases h125 : c = 125
        · subst h125
          have hdp : deeper d 125 = d - 1 := by simp [deeper]
          by_cases hz : d = 1
          · have hdz : (d : Int) - 1 = 0 := by omega
            have := hend (by rw [hdp]; omega)
            have hz1 : (d : Int) = 1 := by omega
            have hw0 : IntKind.i64.wrap 0 = 0 := wrap_i64 (by omega) (by omega)
            simp [hs, h0, h3f, g0, SV, hwk, hwm, hc, hz1, hw0]
            refine er_set' id (SV t (k + 1)) (.bool true) ?_ ?_ (SV_under _ _ _) ?_
            · simp [retAt, a_tokens_scanner_braces]
            · simp [SV]
            · rw [this]; simp [SV, e]
          · have hdz : ¬ ((d : Int) - 1 = 0) := by omega
            simp [hs, h0, h3f, g0, SV, hwk, hwm, hc, hdz]
            refine nx_intro (t.length - (k + 1)) (by omega) ⟨k + 1, d - 1, rfl, by omega, by omega, by omega, .inr (by omega), hnext _ hdp (by omega), by simp [h0], by simp; omega, by simp⟩
        · have h125' : ¬ ((c.toNat : Int) = 125) := fun h => h125 (UInt8.toNat_inj.1 (show c.toNat = 125 by omega))
          have hdp : deeper d c = d := by simp [deeper, h123, h125]
          have hdz : ¬ ((d : Int) = 0) := by omega
          have hdz' : ¬ (d = 0) := by omega
          simp [hs, h0, h3f, g0, SV, hwk, hc, h123', h125', hdz, hdz']
          refine nx_intro (t.length - (k + 1)) (by omega) ⟨k + 1, d, rfl, by omega, by omega, by omega, .inr (by omega), hnext _ hdp (by omega), by simp [h0], by simp [h3f], by simp⟩
  · rw [stp_none (by omega)]
    have hd : t.drop k = [] := List.drop_of_length_le (by omega)
    rw [hd, brcN] at hcls
    simp [h0]
    refine er_set' id (SV t k) (.bool false) ?_ ?_ (SV_under _ _ _) ?_
    · simp [retAt, a_tokens_scanner_braces]
    · simp
    · rw [hcls]; simp; exact ⟨k, hk2, rfl⟩
end Go.Proofs.YtkclehdmdnfikaaDoor
namespace Go.Tok
theorem rowF_nil (n : Nat) : rowF n [] = some 0 := by cases n <;> rfl
end Go.Tok
namespace Go.Proofs.YtkclehdmdnfikaaDoor
open Go.Abs Go.Glob Go.Tok
variable {G : Globs}

theorem ne_nat {c : UInt8} {n : UInt8} {z : Int} (hz : z = (n.toNat : Int)) (h : ¬ c = n) : ¬ ((c.toNat : Int) = z) := fun e => h (UInt8.toNat_inj.1 (by omega))

/-- Word bytes, and what is shut. -/
theorem trow_ok {σ : Store} {id : Nat} (hid : id < σ.length) (t : List UInt8) (k0 n : Nat) (h2 : k0 ≤ t.length) (h3 : t.length ≤ 1000000) (hn : t.length - k0 ≤ n) :
    ACalls Tryd.prog n_tokens_scanner_row [.ptr id 0] (σ.set id (SV t k0)) (fun r σ' =>
      match rowF n (t.drop k0) with
      | some m => r = .tup [.str ((t.drop k0).take m), .bool (decide (0 < m))] ∧ σ' = σ.set id (SV t (k0 + m))
      | none => ∃ k, k ≤ t.length ∧ r = .tup [.str [], .bool false] ∧ σ' = σ.set id (SV t k)) := by
  refine acalls_of_awp_e hmix c_tokens_scanner_row rfl ?_
  have g0 := @set_get' σ id hid
  simp [a_tokens_scanner_row, g0, SV]
  refine lp_startx (fun x f σ' => ∃ (k m : Nat), x = t.length - k ∧ k0 ≤ k ∧ k ≤ t.length ∧ t.length - k ≤ m ∧ rowF n (t.drop k0) = (rowF m (t.drop k)).map (· + (k - k0)) ∧ f 0 = .ptr id 0 ∧ f 4 = .int .i64 k0 ∧ σ' = σ.set id (SV t k)) (t.length - k0) ?_ ?_
  · exact ⟨k0, n, rfl, Nat.le_refl _, h2, hn, by simp, by simp, by simp, by simp [SV]⟩
  rintro x f σ' ⟨k, m, hx, hk1, hk2, hm, hrow, h0, h4, rfl⟩
  have hkk : (k0 : Int) ≤ (k : Int) := by omega
  simp [h0]
  refine ac_lent (more_ok t k) (.cons (coe_ptr (g0 _) (by simp) rfl) .nil) ?_
  rintro r rfl
  refine ⟨by simp, ?_⟩
  by_cases hk : k < t.length
  · obtain ⟨c, hc⟩ : ∃ c, t[k]? = some c := ⟨_, List.getElem?_eq_getElem hk⟩
    have hd := drop_cons hc
    obtain ⟨_, hc2⟩ := List.getElem?_eq_some_iff.1 hc
    obtain ⟨m, rfl⟩ : ∃ j, m = j + 1 := ⟨m - 1, by omega⟩
    have hwk : IntKind.i64.wrap ((k : Int) + 1) = (k : Int) + 1 := wrap_i64 (by omega) (by omega)
    have hword : bword c = true → rowF n (t.drop k0) = (rowF m (t.drop (k + 1))).map (· + (k + 1 - k0)) := fun hw => by
      rw [hrow, hd, rowF, if_pos hw]
      cases rowF m (List.drop (k + 1) t) with
      | none => simp
      | some j => simp; omega
    simp [hk, h0, g0, SV, hc, hc2]
    refine ac_same (byte_ok c) (by simp) ?_
    rintro r rfl
    by_cases hb : nb c = true
    · simp [hb, h0, g0, SV, hwk]
      refine nx_intro (t.length - (k + 1)) (by omega) ⟨k + 1, m, rfl, by omega, by omega, by omega, hword (by simp [bword, hb]), by simp [h0], by simp [h4], by simp⟩
    by_cases h46 : c = 46
    · subst h46
      simp [hb, h0, g0, SV, hwk]
      refine nx_intro (t.length - (k + 1)) (by omega) ⟨k + 1, m, rfl, by omega, by omega, by omega, hword (by simp [bword]), by simp [h0], by simp [h4], by simp⟩
    have h46' := ne_nat (z := 46) rfl h46
    by_cases h63 : c = 63
    · subst h63
      simp [hb, h0, g0, SV, hwk]
      refine nx_intro (t.length - (k + 1)) (by omega) ⟨k + 1, m, rfl, by omega, by omega, by omega, hword (by simp [bword]), by simp [h0], by simp [h4], by simp⟩
    have h63' := ne_nat (z := 63) rfl h63
    by_cases h42 : c = 42
    · subst h42
      simp [hb, h0, g0, SV, hwk]
      refine nx_intro (t.length - (k + 1)) (by omega) ⟨k + 1, m, rfl, by omega, by omega, by omega, hword (by simp [bword]), by simp [h0], by simp [h4], by simp⟩
    have h42' := ne_nat (z := 42) rfl h42
    have hnw : bword c = false := by simp [bword, hb, h46, h63, h42]
    by_cases h91 : c = 91
    · subst h91
      simp [hb, h0, g0, SV, hwk]
      refine ac_eff (tclass_ok hid t k hk2 h3) ?_
      intro r σ1 hr
      rw [hd] at hr
      cases hcl : clsN (91 :: t.drop (k + 1)) with
      | none =>
        rw [hcl] at hr
        obtain ⟨k', hk', rfl, rfl⟩ := hr
        have hnone : rowF n (t.drop k0) = none := by rw [hrow, hd, rowF, hnw, hcl]; simp
        simp
        refine er_set' id (SV t k') (.tup [.str [], .bool false]) ?_ ?_ (SV_under _ _ _) ?_
        · simp [retAt, a_tokens_scanner_row]
        · simp
        · rw [hnone]; exact ⟨k', hk', rfl, rfl⟩
      | some j =>
        rw [hcl] at hr
        obtain ⟨rfl, rfl⟩ := hr
        have hj := clsN_le _ _ hcl
        simp at hj
        simp
        refine nx_intro (t.length - (k + j)) (by omega) ⟨k + j, m, rfl, by omega, by omega, by omega, ?_, by simp [h0], by simp [h4], by simp [SV]⟩
        rw [hrow, hd, rowF, hnw, hcl]
        simp only [Bool.false_eq_true, if_false, if_true, Option.bind_some]
        rw [← hd, List.drop_drop]
        cases rowF m (List.drop (k + j) t) with
        | none => simp
        | some i => simp; omega
    have h91' := ne_nat (z := 91) rfl h91
    by_cases h123 : c = 123
    · subst h123
      simp [hb, h0, g0, SV, hwk]
      refine ac_eff (tbraces_ok hid t k hc h3) ?_
      intro r σ1 hr
      rw [hd] at hr
      cases hcl : brcN 0 (123 :: t.drop (k + 1)) with
      | none =>
        rw [hcl] at hr
        obtain ⟨k', hk', rfl, rfl⟩ := hr
        have hnone : rowF n (t.drop k0) = none := by rw [hrow, hd, rowF, hnw, hcl]; simp
        simp
        refine er_set' id (SV t k') (.tup [.str [], .bool false]) ?_ ?_ (SV_under _ _ _) ?_
        · simp [retAt, a_tokens_scanner_row]
        · simp
        · rw [hnone]; exact ⟨k', hk', rfl, rfl⟩
      | some j =>
        rw [hcl] at hr
        obtain ⟨rfl, rfl⟩ := hr
        have hj := brcN_le _ _ _ hcl
        simp at hj
        simp
        refine nx_intro (t.length - (k + j)) (by omega) ⟨k + j, m, rfl, by omega, by omega, by omega, ?_, by simp [h0], by simp [h4], by simp [SV]⟩
        rw [hrow, hd, rowF, hnw, hcl]
        simp only [Bool.false_eq_true, if_false, if_true, Option.bind_some]
        rw [← hd, List.drop_drop]
        cases rowF m (List.drop (k + j) t) with
        | none => simp
        | some i => simp; omega
    have h123' := ne_nat (z := 123) rfl h123
    have hz : rowF (m + 1) (t.drop k) = some 0 := by rw [hd, rowF, hnw]; simp [h91, h123]
    simp [hb, h0, g0, SV, hwk, h46', h63', h42', h91', h123', h4, hkk, hk2, hk1]
    refine er_set' id (SV t k) (.tup [.str ((t.take k).drop k0), .bool (decide (k0 < k))]) ?_ ?_ (SV_under _ _ _) ?_
    · simp [retAt, a_tokens_scanner_row]
    · simp [SV]
    · have e : k0 + (k - k0) = k := by omega
      have e1 : (k0 : Int) + ((k - k0 : Nat) : Int) = (k : Int) := by omega
      rw [hrow, hz]
      simp [SV, e, e1, List.drop_take, hk1]
      omega
  · have hz : rowF m (t.drop k) = some 0 := by rw [List.drop_of_length_le (by omega)]; exact rowF_nil m
    simp [hk, h0, g0, SV, h4, hkk, hk2, hk1]
    refine er_set' id (SV t k) (.tup [.str ((t.take k).drop k0), .bool (decide (k0 < k))]) ?_ ?_ (SV_under _ _ _) ?_
    · simp [retAt, a_tokens_scanner_row]
    · simp [SV]
    · have e : k0 + (k - k0) = k := by omega
      have e1 : (k0 : Int) + ((k - k0 : Nat) : Int) = (k : Int) := by omega
      rw [hrow, hz]
      simp [SV, e, e1, List.drop_take, hk1]
      omega

/-- A text, from its first quote on. -/
theorem tquoted_ok {σ : Store} {id : Nat} (hid : id < σ.length) (t : List UInt8) (k : Nat) (c : UInt8) (hc : t[k]? = some c) (h3 : t.length ≤ 1000000) :
    ACalls Tryd.prog n_tokens_scanner_quoted [.ptr id 0] (σ.set id (SV t k)) (fun r σ' =>
      if Lib.indexByte (t.drop (k + 1)) c < 0 then r = .tup [.str [], .bool false] ∧ σ' = σ.set id (SV t k)
      else r = .tup [.str ((t.drop (k + 1)).take (Lib.indexByte (t.drop (k + 1)) c).toNat), .bool true] ∧ σ' = σ.set id (SV t (k + (Lib.indexByte (t.drop (k + 1)) c).toNat + 2))) := by
  refine acalls_of_awp_e hmix c_tokens_scanner_quoted rfl ?_
  have g0 := @set_get' σ id hid
  obtain ⟨hk, hc2⟩ := List.getElem?_eq_some_iff.1 hc
  have hwk : IntKind.i64.wrap ((k : Int) + 1) = (k : Int) + 1 := wrap_i64 (by omega) (by omega)
  have hp1 : (0 : Int) ≤ (k : Int) + 1 := by omega
  have hp2 : k + 1 ≤ t.length := by omega
  simp [a_tokens_scanner_quoted, g0, SV, hwk, hp1, hp2, hc, hc2]
  refine qc_same (indexByte_ok (t.drop (k + 1)) c) (by simp) (by simp) ?_
  by_cases hneg : Lib.indexByte (t.drop (k + 1)) c < 0
  · simp [hneg]
    refine er_set' id (SV t k) (.tup [.str [], .bool false]) ?_ ?_ (SV_under _ _ _) ?_
    · simp [retAt, a_tokens_scanner_quoted]
    · simp [SV]
    · rw [if_pos hneg]; exact ⟨rfl, rfl⟩
  · obtain ⟨i, hi⟩ : ∃ i : Nat, Lib.indexByte (t.drop (k + 1)) c = (i : Int) := ⟨(Lib.indexByte (t.drop (k + 1)) c).toNat, by omega⟩
    have hlt := (List.getElem?_eq_some_iff.1 (Lib.indexByte_some hi).1).1
    rw [List.length_drop] at hlt
    rw [hi] at hneg ⊢
    have hw1 : IntKind.i64.wrap ((k : Int) + 1 + (i : Int)) = (k : Int) + 1 + (i : Int) := wrap_i64 (by omega) (by omega)
    have hw2 : IntKind.i64.wrap ((k : Int) + 1 + (i : Int) + 1) = (k : Int) + 1 + (i : Int) + 1 := wrap_i64 (by omega) (by omega)
    have q1 : (0 : Int) ≤ (k : Int) + 1 + (i : Int) := by omega
    have q2 : (k : Int) + 1 ≤ (k : Int) + 1 + (i : Int) := by omega
    have q3 : ((k : Int) + 1 + (i : Int)).toNat = k + 1 + i := by omega
    have q4 : k + 1 + i ≤ t.length := by omega
    simp [hneg, g0, SV, hwk, hw1, hw2, q1, q2, q3, q4, hp1, hp2]
    refine er_set' id (SV t (k + i + 2)) (.tup [.str ((t.drop (k + 1)).take i), .bool true]) ?_ ?_ (SV_under _ _ _) ?_
    · simp [retAt, a_tokens_scanner_quoted, List.drop_take]
    · have e : (k : Int) + 1 + (i : Int) + 1 = (k : Int) + (i : Int) + 2 := by omega
      simp [SV, e]
    · simp [SV]

theorem tword_ok [GDec] (s : List UInt8) (hs : s.length ≤ 1000000) : PCalls Tryd.prog n_tokens_word [.str s] (fun r => r = .agg [.int .i64 (if isNum s then 2 else 1), .str s, .int .i64 0]) := by
  refine pcalls_of_awp hmix c_tokens_word rfl ?_
  simp [a_tokens_word]
  refine ac_same (dParse_ok s (by omega)) (by simp) ?_
  rintro r rfl
  cases hp : Dec.parse s with
  | ok m => simp [hp, numAV, isNum]
  | error e =>
    have he : ¬ e = 0 := Dec.parse_err hp
    simp [hp, numAV, isNum, he]
end Go.Proofs.YtkclehdmdnfikaaDoor
