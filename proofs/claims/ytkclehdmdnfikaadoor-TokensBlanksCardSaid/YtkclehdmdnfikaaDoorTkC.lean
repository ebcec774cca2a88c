/- A target's tokens: the next one. -/
import Derived.Test.YtkclehdmdnfikaaDoorTkB
set_option linter.unusedSimpArgs false
set_option linter.unusedVariables false
set_option linter.constructorNameAsVariable false
set_option maxHeartbeats 4000000
namespace Go.Proofs.YtkclehdmdnfikaaDoor
open Go.Abs Go.Glob Go.Tok
variable {G : Globs}

def tokA (kind : Int) (text : List UInt8) (place : Int) : AV := .agg [.int .i64 kind, .str text, .int .i64 place]

def mpK : Entry := .mp [(.int .u8 40, .int .i64 4), (.int .u8 41, .int .i64 5), (.int .u8 44, .int .i64 6)]
theorem tquoted_ok' {σ : Store} {id : Nat} (hid : id < σ.length) (l : Store) (t : List UInt8) (k : Nat) (c : UInt8) (hc : t[k]? = some c) (h3 : t.length ≤ 1000000) :
    ACalls Tryd.prog n_tokens_scanner_quoted [.ptr id 0] (σ.set id (SV t k) ++ l) (fun r σ' =>
      if Lib.indexByte (t.drop (k + 1)) c < 0 then r = .tup [.str [], .bool false] ∧ σ' = σ.set id (SV t k) ++ l
      else r = .tup [.str ((t.drop (k + 1)).take (Lib.indexByte (t.drop (k + 1)) c).toNat), .bool true] ∧ σ' = σ.set id (SV t (k + (Lib.indexByte (t.drop (k + 1)) c).toNat + 2)) ++ l) := by
  have h := tquoted_ok (G := G) (σ := σ ++ l) (id := id) (by simp; omega) t k c hc h3
  simp only [← set_app _ hid] at h
  exact h
theorem trow_ok' {σ : Store} {id : Nat} (hid : id < σ.length) (l : Store) (t : List UInt8) (k0 n : Nat) (h2 : k0 ≤ t.length) (h3 : t.length ≤ 1000000) (hn : t.length - k0 ≤ n) :
    ACalls Tryd.prog n_tokens_scanner_row [.ptr id 0] (σ.set id (SV t k0) ++ l) (fun r σ' =>
      match rowF n (t.drop k0) with
      | some m => r = .tup [.str ((t.drop k0).take m), .bool (decide (0 < m))] ∧ σ' = σ.set id (SV t (k0 + m)) ++ l
      | none => ∃ k, k ≤ t.length ∧ r = .tup [.str [], .bool false] ∧ σ' = σ.set id (SV t k) ++ l) := by
  have h := trow_ok (G := G) (σ := σ ++ l) (id := id) (by simp; omega) t k0 n h2 h3 hn
  simp only [← set_app _ hid] at h
  exact h

theorem tnext_ok [GDec] {σ : Store} {id : Nat} (hid : id < σ.length) (t : List UInt8) (k : Nat) (hk : k < t.length) (h3 : t.length ≤ 1000000) :
    ACalls Tryd.prog n_tokens_scanner_next [.ptr id 0] (σ.set id (SV t k)) (fun r σ' =>
      match nextT (t.drop k) with
      | some x => r = .tup [tokA x.1 x.2.1 0, .bool true] ∧ σ' = σ.set id (SV t (k + x.2.2))
      | none => ∃ kd tx k', k' ≤ t.length ∧ r = .tup [tokA kd tx 0, .bool false] ∧ σ' = σ.set id (SV t k')) := by
  refine acalls_of_awp_e hmix c_tokens_scanner_next rfl ?_
  have g0 := @set_get σ id hid
  have g00 := @set_get' σ id hid
  have q0 := @set_set σ id hid
  obtain ⟨c, hc⟩ : ∃ c, t[k]? = some c := ⟨_, List.getElem?_eq_getElem hk⟩
  obtain ⟨_, hc2⟩ := List.getElem?_eq_some_iff.1 hc
  have hd := drop_cons hc
  have hwk : IntKind.i64.wrap ((k : Int) + 1) = (k : Int) + 1 := wrap_i64 (by omega) (by omega)
  by_cases h40 : c = 40
  · subst h40
    have hn : nextT (t.drop k) = some (4, [], 1) := by rw [hd, nextT]; simp
    simp [a_tokens_scanner_next, g0, g00, q0, SV, get_0, get_1, set_0, set_1, hwk, hc, hc2]
    refine er_set id (SV t (k + 1)) (.tup [tokA 4 [] 0, .bool true]) [.var 39 [.int .i64 4, .str [], .int .i64 0], mpK] ?_ ?_ (SV_under _ _ _) ?_
    · simp [retAt, a_tokens_scanner_next, get_0, tokA]
    · simp [SV, mpK]
    · rw [hn]; exact ⟨rfl, rfl⟩
  have h40' := ne_nat (z := 40) rfl h40
  by_cases h41 : c = 41
  · subst h41
    have hn : nextT (t.drop k) = some (5, [], 1) := by rw [hd, nextT]; simp
    simp [a_tokens_scanner_next, g0, g00, q0, SV, get_0, get_1, set_0, set_1, hwk, hc, hc2]
    refine er_set id (SV t (k + 1)) (.tup [tokA 5 [] 0, .bool true]) [.var 39 [.int .i64 5, .str [], .int .i64 0], mpK] ?_ ?_ (SV_under _ _ _) ?_
    · simp [retAt, a_tokens_scanner_next, get_0, tokA]
    · simp [SV, mpK]
    · rw [hn]; exact ⟨rfl, rfl⟩
  have h41' := ne_nat (z := 41) rfl h41
  by_cases h44 : c = 44
  · subst h44
    have hn : nextT (t.drop k) = some (6, [], 1) := by rw [hd, nextT]; simp
    simp [a_tokens_scanner_next, g0, g00, q0, SV, get_0, get_1, set_0, set_1, hwk, hc, hc2]
    refine er_set id (SV t (k + 1)) (.tup [tokA 6 [] 0, .bool true]) [.var 39 [.int .i64 6, .str [], .int .i64 0], mpK] ?_ ?_ (SV_under _ _ _) ?_
    · simp [retAt, a_tokens_scanner_next, get_0, tokA]
    · simp [SV, mpK]
    · rw [hn]; exact ⟨rfl, rfl⟩
  have h44' := ne_nat (z := 44) rfl h44
  have hq := idx_quote c
  by_cases hqq : c = 39 ∨ c = 34
  · have hq0 := hq.2 hqq
    simp [a_tokens_scanner_next, g0, g00, q0, SV, get_0, get_1, set_0, set_1, hwk, hc, hc2, h40', h41', h44']
    refine ac_same (indexByte_ok _ c) (by simp) ?_
    rintro r rfl
    simp [hq0]
    refine ac_eff (tquoted_ok' hid _ t k c hc h3) ?_
    intro r σ1 hr
    by_cases hneg : Lib.indexByte (t.drop (k + 1)) c < 0
    · rw [if_pos hneg] at hr
      obtain ⟨rfl, rfl⟩ := hr
      have hn : nextT (t.drop k) = none := by rw [hd, nextT, if_neg h40, if_neg h41, if_neg h44, if_pos hqq, if_pos hneg]
      simp [g0, q0, get_0, get_1, set_0, set_1]
      refine er_set id (SV t k) (.tup [tokA 3 [] 0, .bool false]) [.var 39 [.int .i64 3, .str [], .int .i64 0], mpK] ?_ ?_ (SV_under _ _ _) ?_
      · simp [retAt, a_tokens_scanner_next, get_0, tokA]
      · simp [SV, mpK]
      · rw [hn]; exact ⟨3, [], k, by omega, rfl, rfl⟩
    · rw [if_neg hneg] at hr
      obtain ⟨rfl, rfl⟩ := hr
      have hn : nextT (t.drop k) = some (3, (t.drop (k + 1)).take (Lib.indexByte (t.drop (k + 1)) c).toNat, (Lib.indexByte (t.drop (k + 1)) c).toNat + 2) := by rw [hd, nextT, if_neg h40, if_neg h41, if_neg h44, if_pos hqq, if_neg hneg]
      simp [g0, q0, get_0, get_1, set_0, set_1]
      refine er_set id (SV t (k + (Lib.indexByte (t.drop (k + 1)) c).toNat + 2)) (.tup [tokA 3 ((t.drop (k + 1)).take (Lib.indexByte (t.drop (k + 1)) c).toNat) 0, .bool true]) [.var 39 [.int .i64 3, .str ((t.drop (k + 1)).take (Lib.indexByte (t.drop (k + 1)) c).toNat), .int .i64 0], mpK] ?_ ?_ (SV_under _ _ _) ?_
      · simp [retAt, a_tokens_scanner_next, get_0, tokA]
      · simp [SV, mpK]
      · rw [hn]; exact ⟨rfl, rfl⟩
  · have hq0 : ¬ 0 ≤ Lib.indexByte [39, 34] c := fun h => hqq (hq.1 h)
    simp [a_tokens_scanner_next, g0, g00, q0, SV, get_0, get_1, set_0, set_1, hwk, hc, hc2, h40', h41', h44']
    refine ac_same (indexByte_ok _ c) (by simp) ?_
    rintro r rfl
    simp [hq0]
    refine ac_eff (trow_ok' hid _ t k (t.length - k) (by omega) h3 (Nat.le_refl _)) ?_
    intro r σ1 hr
    have hlen : (t.drop (k + 1)).length + 1 = t.length - k := by rw [List.length_drop]; omega
    have hnx : nextT (t.drop k) = match rowF (t.length - k) (t.drop k) with
      | none => none
      | some 0 => none
      | some (j + 1) => some (if isNum ((t.drop k).take (j + 1)) then 2 else 1, (t.drop k).take (j + 1), j + 1) := by
      rw [hd, nextT, if_neg h40, if_neg h41, if_neg h44, if_neg hqq, hlen]
      cases rowF (t.length - k) (c :: t.drop (k + 1)) with
      | none => rfl
      | some m => cases m <;> rfl
    cases hrw : rowF (t.length - k) (t.drop k) with
    | none =>
      rw [hrw] at hr hnx
      obtain ⟨k', hk', rfl, rfl⟩ := hr
      simp [g0, q0, get_0, get_1, set_0, set_1]
      refine ac_same (tword_ok [] (by simp)) (by simp) ?_
      rintro r rfl
      simp [g0, q0, get_0, get_1, set_0, set_1]
      refine er_set id (SV t k') (.tup [tokA (if isNum [] then 2 else 1) [] 0, .bool false]) [.var 39 [.int .i64 (if isNum [] then 2 else 1), .str [], .int .i64 0], mpK] ?_ ?_ (SV_under _ _ _) ?_
      · simp [retAt, a_tokens_scanner_next, get_0, tokA]
      · simp [SV, mpK]
      · rw [hnx]; exact ⟨_, [], k', hk', rfl, rfl⟩
    | some m =>
      rw [hrw] at hr hnx
      obtain ⟨rfl, rfl⟩ := hr
      have hml := rowF_le _ _ _ hrw
      rw [List.length_drop] at hml
      simp [g0, q0, get_0, get_1, set_0, set_1]
      refine ac_same (tword_ok ((t.drop k).take m) (by simp; omega)) (by simp) ?_
      rintro r rfl
      simp [g0, q0, get_0, get_1, set_0, set_1]
      refine er_set id (SV t (k + m)) (.tup [tokA (if isNum ((t.drop k).take m) then 2 else 1) ((t.drop k).take m) 0, .bool (decide (0 < m))]) [.var 39 [.int .i64 (if isNum ((t.drop k).take m) then 2 else 1), .str ((t.drop k).take m), .int .i64 0], mpK] ?_ ?_ (SV_under _ _ _) ?_
      · simp [retAt, a_tokens_scanner_next, get_0, tokA]
      · simp [SV, mpK]
      · rw [hnx]
        cases m with
        | zero => exact ⟨_, _, k, by omega, by simp; rfl, rfl⟩
        | succ j => exact ⟨by simp, rfl⟩
end Go.Proofs.YtkclehdmdnfikaaDoor
