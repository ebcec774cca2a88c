/- strings.Builder: WriteString, WriteByte. -/
import Derived.Test.YtipncibiodfmdaaGreatDoorBld
import Derived.Test.YtipncibiodfmdaaGreatDoorGlA
import Derived.Test.YtipncibiodfmdaaGreatDoorShelf
import Derived.Test.YtipncibiodfmdaaGreatDoorLay
set_option linter.unusedSimpArgs false
set_option linter.unusedVariables false
set_option linter.constructorNameAsVariable false
namespace Go.Proofs.YtipncibiodfmdaaGreatDoor
open Go.Abs
variable {G : Globs}
theorem BldAt.more2 {T e m id : Nat} {σ t : Store} {bs : List UInt8} (h : BldAt T e m σ id bs) : BldAt T e m (σ ++ t) id bs := by
  obtain ⟨a, buf, h1, h2, h3⟩ := h
  refine ⟨a, buf, by rw [List.getElem?_append_left (List.getElem?_eq_some_iff.1 h1).1]; exact h1, h2, h3.imp (fun x => x) fun ⟨rid, g1, g2, g3, g4, g5⟩ => ⟨rid, g1, g2, g3, g4, ?_⟩⟩
  rw [List.getElem?_append_left (List.getElem?_eq_some_iff.1 g5).1]; exact g5
theorem byteEls_app2 (a b : List UInt8) : byteEls (a ++ b) = byteEls a ++ byteEls b := by simp [byteEls]
theorem byteEls_len2 (a : List UInt8) : (byteEls a).length = a.length := by simp [byteEls]
theorem byteEls_und2 (a : List UInt8) (m : Nat) : ((byteEls a).all fun c => c.all (AV.under m)) = true := by simp [byteEls, AV.under]

theorem bwStr_ok {m id : Nat} {σ : Store} {bs s : List UInt8} (hb : BldAt 60 5 m σ id bs) (hm : m ≤ σ.length) (hid : id < m) (hl : bs.length + s.length ≤ 1000000000) :
    ACalls Tryz.prog n_strings_Builder_WriteString [.ptr id 0, .str s] σ (fun r σ' => r = .tup [.int .i64 s.length, .nili] ∧ BldAt 60 5 m σ' id (bs ++ s) ∧ σ.length ≤ σ'.length ∧ (∀ j, j < m → j ≠ id → σ'[j]? = σ[j]?) ∧ ∀ (j : Nat) (t : TypeId) (cs : List AV), j ≠ id → σ[j]? = some (.var t cs) → σ'[j]? = some (.var t cs)) := by
  refine acalls_of_awp_e hmix c_strings_Builder_WriteString rfl ?_
  obtain ⟨a, buf, hent, ha, hbuf⟩ := hb
  have hlt : id < σ.length := by omega
  have hcc := copyCheck_ok (G := G) (σ := σ) Tryz.laysCC Tryz.XCC ha hent
  simp [a_strings_Builder_WriteString]
  refine ac_eff hcc ?_
  rintro r σ' ⟨rfl, rfl⟩
  have hT : Tryz.laysCC_ren.t 72 = 60 := rfl
  simp only [hT]
  simp [hlt]
  have hset : ∀ (e e' : Entry) (t : Store), (σ.set id e ++ t).set id e' = σ.set id e' ++ t := fun e e' t => by rw [List.set_append_left _ _ (by simpa using hlt), List.set_set]
  have hget : ∀ (e : Entry) (t : Store), (σ.set id e ++ t)[id]? = some e := fun e t => by rw [List.getElem?_append_left (by simpa using hlt), List.getElem?_set_self hlt]
  have hgo : ∀ (e : Entry) (j : Nat), j ≠ id → (σ.set id e)[j]? = σ[j]? := fun e j hj => List.getElem?_set_ne (Ne.symm hj)
  rcases hbuf with ⟨rfl, rfl⟩ | ⟨rid, rfl, hnz, hmr, hri, hrow⟩
  · by_cases hs0 : s = []
    · subst hs0
      refine aps_nil ?_
      simp [hlt]
      refine er_keep (σ.set id (.var 60 [.ptr id 0, .nils])) (.tup [.int .i64 0, .nili]) (by simp) [] (by simp) (by simp) (by simp) (fun j x hx => ?_) ⟨rfl, ?_, by simp, fun j _ hj => hgo _ j hj, fun j t cs hj h => by rw [hgo _ j hj]; exact h⟩
      · by_cases hj : j = id
        · subst hj
          rw [List.getElem?_set_self hlt] at hx
          simp at hx; subst hx
          right; simp [Entry.under, AV.under, hlt]
        · rw [hgo _ j hj] at hx; exact .inl hx
      · exact ⟨_, _, List.getElem?_set_self hlt, .inr rfl, .inl ⟨rfl, rfl⟩⟩
    · refine aps_new true (by simp at hl; omega) ?_
      simp [hlt, hset, hget]
      refine er_keep (σ.set id (.var 60 [.ptr id 0, .row σ.length s.length]) ++ [.row 5 1 (byteEls s) true]) (.tup [.int .i64 s.length, .nili]) (by simp) [] (by simp) (by simp) (by simp) (fun j x hx => ?_) ⟨rfl, ?_, by simp, fun j hjm hj => ?_, fun j t cs hj h => ?_⟩
      · by_cases hj : j = id
        · subst hj
          rw [hget] at hx
          simp at hx; subst hx
          right; simp [Entry.under, AV.under, hlt]; omega
        · by_cases hjl : j < σ.length
          · rw [List.getElem?_append_left (by simpa using hjl), hgo _ j hj] at hx; exact .inl hx
          · right
            rw [List.getElem?_append_right (by simp; omega)] at hx
            have : j - (σ.set id (.var 60 [.ptr id 0, .row σ.length s.length])).length = 0 := by have := (List.getElem?_eq_some_iff.1 hx).1; simp at this ⊢; omega
            rw [this] at hx
            simp at hx; subst hx
            exact byteEls_und2 s _
      · exact ⟨_, _, hget _ _, .inr rfl, .inr ⟨σ.length, rfl, by simpa using hs0, hm, by omega, by rw [List.getElem?_append_right (by simp)]; simp⟩⟩
      · rw [List.getElem?_append_left (by simp; omega)]; exact hgo _ j hj
      · rw [List.getElem?_append_left (by simpa using (List.getElem?_eq_some_iff.1 h).1), hgo _ j hj]; exact h
  · have hrl := (List.getElem?_eq_some_iff.1 hrow).1
    refine aps_row (byteEls bs) true (by rw [hgo _ _ hri]; exact hrow) (byteEls_len2 bs) (by omega) ?_
    have hrset : ∀ (e e' : Entry), ((σ.set id e).set rid e')[id]? = some e := fun e e' => by rw [List.getElem?_set_ne hri, List.getElem?_set_self hlt]
    have hss : ∀ (e e' e2 : Entry), ((σ.set id e).set rid e').set id e2 = (σ.set id e2).set rid e' := fun e e' e2 => by rw [List.set_comm _ _ hri, List.set_set]
    simp [hlt, hrset, hss, hri]
    refine er_keep ((σ.set id (.var 60 [.ptr id 0, .row rid (bs.length + s.length)])).set rid (.row 5 1 (byteEls bs ++ byteEls s) true)) (.tup [.int .i64 s.length, .nili]) (by simp) [] (by simp) (by simp) (by simp) (fun j x hx => ?_) ⟨rfl, ?_, by simp, fun j hjm hj => ?_, fun j t cs hj h => ?_⟩
    · by_cases hj : j = id
      · subst hj
        rw [hrset] at hx
        simp at hx; subst hx
        right; simp [Entry.under, AV.under, hlt, hrl]
      · by_cases hjr : j = rid
        · subst hjr
          rw [List.getElem?_set_self (by simpa using hrl)] at hx
          simp at hx; subst hx
          right
          rw [← byteEls_app2]
          exact byteEls_und2 _ _
        · rw [List.getElem?_set_ne (Ne.symm hjr), hgo _ j hj] at hx; exact .inl hx
    · exact ⟨_, _, hrset _ _, .inr rfl, .inr ⟨rid, by simp, by simp [hnz], hmr, hri, by rw [List.getElem?_set_self (by simpa using hrl), byteEls_app2]⟩⟩
    · rw [List.getElem?_set_ne (by omega)]; exact hgo _ j hj
    · rw [List.getElem?_set_ne (by rintro rfl; rw [hrow] at h; cases h), hgo _ j hj]; exact h

theorem bwByte_ok {m id : Nat} {σ : Store} {bs : List UInt8} (c : UInt8) {n : Int} (hn : n = c.toNat) (hb : BldAt 60 5 m σ id bs) (hm : m ≤ σ.length) (hid : id < m) (hl : bs.length + 1 ≤ 1000000000) :
    ACalls Tryz.prog n_strings_Builder_WriteByte [.ptr id 0, .int .u8 n] σ (fun r σ' => r = .nili ∧ BldAt 60 5 m σ' id (bs ++ [c]) ∧ σ.length ≤ σ'.length ∧ (∀ j, j < m → j ≠ id → σ'[j]? = σ[j]?) ∧ ∀ (j : Nat) (t : TypeId) (cs : List AV), j ≠ id → σ[j]? = some (.var t cs) → σ'[j]? = some (.var t cs)) := by
  subst hn
  refine acalls_of_awp_e hmix c_strings_Builder_WriteByte rfl ?_
  obtain ⟨a, buf, hent, ha, hbuf⟩ := hb
  have hlt : id < σ.length := by omega
  have hcc := copyCheck_ok (G := G) (σ := σ) Tryz.laysCC Tryz.XCC ha hent
  simp [a_strings_Builder_WriteByte]
  refine ac_eff hcc ?_
  rintro r σ' ⟨rfl, rfl⟩
  have hT : Tryz.laysCC_ren.t 72 = 60 := rfl
  simp only [hT]
  simp [hlt]
  have hset : ∀ (e e' : Entry) (t : Store), (σ.set id e ++ t).set id e' = σ.set id e' ++ t := fun e e' t => by rw [List.set_append_left _ _ (by simpa using hlt), List.set_set]
  have hget : ∀ (e : Entry) (t : Store), (σ.set id e ++ t)[id]? = some e := fun e t => by rw [List.getElem?_append_left (by simpa using hlt), List.getElem?_set_self hlt]
  have hgo : ∀ (e : Entry) (j : Nat), j ≠ id → (σ.set id e)[j]? = σ[j]? := fun e j hj => List.getElem?_set_ne (Ne.symm hj)
  have hfx : ∀ (τ : Store), Fixed τ (.lst [[AV.int .u8 c.toNat]]) [[AV.int .u8 c.toNat]] := fun τ => .inl rfl
  have hbe : byteEls [c] = [[AV.int .u8 c.toNat]] := rfl
  rcases hbuf with ⟨rfl, rfl⟩ | ⟨rid, rfl, hnz, hmr, hri, hrow⟩
  · refine ap_new true [[.int .u8 c.toNat]] rfl (by omega) (by simp) (fun _ => hfx _) (by simp) (by simp) ?_
    simp [hlt, hset, hget]
    refine er_keep (σ.set id (.var 60 [.ptr id 0, .row σ.length 1]) ++ [.row 5 1 (byteEls [c]) true]) .nili (by simp) [] (by simp [hbe]) (by simp) (by simp) (fun j x hx => ?_) ⟨rfl, ?_, by simp, fun j hjm hj => ?_, fun j t cs hj h => ?_⟩
    · by_cases hj : j = id
      · subst hj
        rw [hget] at hx
        simp at hx; subst hx
        right; simp [Entry.under, AV.under, hlt]; omega
      · by_cases hjl : j < σ.length
        · rw [List.getElem?_append_left (by simpa using hjl), hgo _ j hj] at hx; exact .inl hx
        · right
          rw [List.getElem?_append_right (by simp; omega)] at hx
          have : j - (σ.set id (.var 60 [.ptr id 0, .row σ.length 1])).length = 0 := by have := (List.getElem?_eq_some_iff.1 hx).1; simp at this ⊢; omega
          rw [this] at hx
          simp at hx; subst hx
          exact byteEls_und2 [c] _
    · exact ⟨_, _, hget _ _, .inr rfl, .inr ⟨σ.length, rfl, by simp, hm, by omega, by rw [List.getElem?_append_right (by simp)]; simp⟩⟩
    · rw [List.getElem?_append_left (by simp; omega)]; exact hgo _ j hj
    · rw [List.getElem?_append_left (by simpa using (List.getElem?_eq_some_iff.1 h).1), hgo _ j hj]; exact h
  · have hrl := (List.getElem?_eq_some_iff.1 hrow).1
    refine ap_row (byteEls bs) [[.int .u8 c.toNat]] true (by rw [hgo _ _ hri]; exact hrow) rfl (by omega) (by simp) (fun _ => hfx _) (byteEls_len2 bs) (by simp; omega) (by simp; omega) ?_
    have hrset : ∀ (e e' : Entry), ((σ.set id e).set rid e')[id]? = some e := fun e e' => by rw [List.getElem?_set_ne hri, List.getElem?_set_self hlt]
    have hss : ∀ (e e' e2 : Entry), ((σ.set id e).set rid e').set id e2 = (σ.set id e2).set rid e' := fun e e' e2 => by rw [List.set_comm _ _ hri, List.set_set]
    simp [hlt, hrset, hss, hri]
    refine er_keep ((σ.set id (.var 60 [.ptr id 0, .row rid (bs.length + 1)])).set rid (.row 5 1 (byteEls bs ++ byteEls [c]) true)) .nili (by simp) [] (by simp [hbe]) (by simp) (by simp) (fun j x hx => ?_) ⟨rfl, ?_, by simp, fun j hjm hj => ?_, fun j t cs hj h => ?_⟩
    · by_cases hj : j = id
      · subst hj
        rw [hrset] at hx
        simp at hx; subst hx
        right; simp [Entry.under, AV.under, hlt, hrl]
      · by_cases hjr : j = rid
        · subst hjr
          rw [List.getElem?_set_self (by simpa using hrl)] at hx
          simp at hx; subst hx
          right
          rw [← byteEls_app2]
          exact byteEls_und2 _ _
        · rw [List.getElem?_set_ne (Ne.symm hjr), hgo _ j hj] at hx; exact .inl hx
    · exact ⟨_, _, hrset _ _, .inr rfl, .inr ⟨rid, by simp, by simp [hnz], hmr, hri, by rw [List.getElem?_set_self (by simpa using hrl), byteEls_app2]⟩⟩
    · rw [List.getElem?_set_ne (by omega)]; exact hgo _ j hj
    · rw [List.getElem?_set_ne (by rintro rfl; rw [hrow] at h; cases h), hgo _ j hj]; exact h
end Go.Proofs.YtipncibiodfmdaaGreatDoor
