/- Patterns of one name: texts of the patterns that come of one; whether a pattern fits a name. -/
import Derived.Test.YtfbbpknimppcmaaGlI
set_option linter.unusedSimpArgs false
set_option linter.unusedVariables false
set_option linter.constructorNameAsVariable false
namespace Go.Proofs.Ytfbbpknimppcmaa
open Go.Abs Go.Glob

theorem BldAt.more {T e m id : Nat} {σ t : Store} {bs : List UInt8} (h : BldAt T e m σ id bs) : BldAt T e m (σ ++ t) id bs := by
  obtain ⟨a, buf, h1, h2, h3⟩ := h
  refine ⟨a, buf, by rw [List.getElem?_append_left (List.getElem?_eq_some_iff.1 h1).1]; exact h1, h2, h3.imp (fun x => x) fun ⟨rid, g1, g2, g3, g4, g5⟩ => ⟨rid, g1, g2, g3, g4, ?_⟩⟩
  rw [List.getElem?_append_left (List.getElem?_eq_some_iff.1 g5).1]; exact g5
theorem byteEls_append (a b : List UInt8) : byteEls (a ++ b) = byteEls a ++ byteEls b := by simp [byteEls]
theorem byteEls_length (a : List UInt8) : (byteEls a).length = a.length := by simp [byteEls]
theorem byteEls_under (a : List UInt8) (m : Nat) : ((byteEls a).all fun c => c.all (AV.under m)) = true := by simp [byteEls, AV.under]

theorem writeString_ok {m id : Nat} {σ : Store} {bs s : List UInt8} (hb : BldAt 45 5 m σ id bs) (hm : m ≤ σ.length) (hid : id < m) (hl : bs.length + s.length ≤ 1000000000) :
    ACalls Try.prog n_strings_Builder_WriteString [.ptr id 0, .str s] σ (fun r σ' => r = .tup [.int .i64 s.length, .nili] ∧ BldAt 45 5 m σ' id (bs ++ s) ∧ σ.length ≤ σ'.length ∧ ∀ j, j < m → j ≠ id → σ'[j]? = σ[j]?) := by
  refine acalls_of_awp_e hmix c_strings_Builder_WriteString rfl ?_
  obtain ⟨a, buf, hent, ha, hbuf⟩ := hb
  have hlt : id < σ.length := by omega
  have hcc := copyCheck_ok (σ := σ) Try.laysCC Try.XCC ha hent
  simp [a_strings_Builder_WriteString]
  refine ac_eff hcc ?_
  rintro r σ' ⟨rfl, rfl⟩
  have hT : Try.laysCC_ren.t 72 = 45 := rfl
  simp only [hT]
  simp [hlt]
  have hset : ∀ (e e' : Entry) (t : Store), (σ.set id e ++ t).set id e' = σ.set id e' ++ t := fun e e' t => by rw [List.set_append_left _ _ (by simpa using hlt), List.set_set]
  have hget : ∀ (e : Entry) (t : Store), (σ.set id e ++ t)[id]? = some e := fun e t => by rw [List.getElem?_append_left (by simpa using hlt), List.getElem?_set_self hlt]
  have hgo : ∀ (e : Entry) (j : Nat), j ≠ id → (σ.set id e)[j]? = σ[j]? := fun e j hj => List.getElem?_set_ne (Ne.symm hj)
  rcases hbuf with ⟨rfl, rfl⟩ | ⟨rid, rfl, hnz, hmr, hri, hrow⟩
  · by_cases hs0 : s = []
    · subst hs0
      refine aps_nil ?_
      simp [hlt]
      refine er_keep (σ.set id (.var 45 [.ptr id 0, .nils])) (.tup [.int .i64 0, .nili]) (by simp) [] (by simp) (by simp) (by simp) (fun j x hx => ?_) ⟨rfl, ?_, by simp, fun j _ hj => hgo _ j hj⟩
      · by_cases hj : j = id
        · subst hj
          rw [List.getElem?_set_self hlt] at hx
          simp at hx; subst hx
          right; simp [Entry.under, AV.under, hlt]
        · rw [hgo _ j hj] at hx; exact .inl hx
      · exact ⟨_, _, List.getElem?_set_self hlt, .inr rfl, .inl ⟨rfl, rfl⟩⟩
    · refine aps_new true (by simp at hl; omega) ?_
      simp [hlt, hset, hget]
      refine er_keep (σ.set id (.var 45 [.ptr id 0, .row σ.length s.length]) ++ [.row 5 1 (byteEls s) true]) (.tup [.int .i64 s.length, .nili]) (by simp) [] (by simp) (by simp) (by simp) (fun j x hx => ?_) ⟨rfl, ?_, by simp, fun j hjm hj => ?_⟩
      · by_cases hj : j = id
        · subst hj
          rw [hget] at hx
          simp at hx; subst hx
          right; simp [Entry.under, AV.under, hlt]; omega
        · by_cases hjl : j < σ.length
          · rw [List.getElem?_append_left (by simpa using hjl), hgo _ j hj] at hx; exact .inl hx
          · right
            rw [List.getElem?_append_right (by simp; omega)] at hx
            have : j - (σ.set id (.var 45 [.ptr id 0, .row σ.length s.length])).length = 0 := by have := (List.getElem?_eq_some_iff.1 hx).1; simp at this ⊢; omega
            rw [this] at hx
            simp at hx; subst hx
            exact byteEls_under s _
      · exact ⟨_, _, hget _ _, .inr rfl, .inr ⟨σ.length, rfl, by simpa using hs0, hm, by omega, by rw [List.getElem?_append_right (by simp)]; simp⟩⟩
      · rw [List.getElem?_append_left (by simp; omega)]; exact hgo _ j hj
  · have hrl := (List.getElem?_eq_some_iff.1 hrow).1
    refine aps_row (byteEls bs) true (by rw [hgo _ _ hri]; exact hrow) (byteEls_length bs) (by omega) ?_
    have hrset : ∀ (e e' : Entry), ((σ.set id e).set rid e')[id]? = some e := fun e e' => by rw [List.getElem?_set_ne hri, List.getElem?_set_self hlt]
    have hss : ∀ (e e' e2 : Entry), ((σ.set id e).set rid e').set id e2 = (σ.set id e2).set rid e' := fun e e' e2 => by rw [List.set_comm _ _ hri, List.set_set]
    simp [hlt, hrset, hss, hri]
    refine er_keep ((σ.set id (.var 45 [.ptr id 0, .row rid (bs.length + s.length)])).set rid (.row 5 1 (byteEls bs ++ byteEls s) true)) (.tup [.int .i64 s.length, .nili]) (by simp) [] (by simp) (by simp) (by simp) (fun j x hx => ?_) ⟨rfl, ?_, by simp, fun j hjm hj => ?_⟩
    · by_cases hj : j = id
      · subst hj
        rw [hrset] at hx
        simp at hx; subst hx
        right; simp [Entry.under, AV.under, hlt, hrl]
      · by_cases hjr : j = rid
        · subst hjr
          rw [List.getElem?_set_self (by simpa using hrl)] at hx
          simp at hx; subst hx
          right
          rw [← byteEls_append]
          exact byteEls_under _ _
        · rw [List.getElem?_set_ne (Ne.symm hjr), hgo _ j hj] at hx; exact .inl hx
    · exact ⟨_, _, hrset _ _, .inr rfl, .inr ⟨rid, by simp, by simp [hnz], hmr, hri, by rw [List.getElem?_set_self (by simpa using hrl), byteEls_append]⟩⟩
    · rw [List.getElem?_set_ne (by omega)]; exact hgo _ j hj

/-- The texts that have come so far. -/
def SlS (m : Nat) (σ : Store) (v : AV) (els : List (List AV)) : Prop := (v = .nils ∧ els = []) ∨ ∃ id, id < m ∧ v = .row id els.length ∧ σ[id]? = some (.row 9 1 els true)
theorem SlS.mono {m m' : Nat} {σ σ' : Store} {v : AV} {els : List (List AV)} (h : SlS m σ v els) (hm : m ≤ m') (hk : ∀ j, j < m → σ'[j]? = σ[j]?) : SlS m' σ' v els := by
  rcases h with h | ⟨id, h1, h2, h3⟩
  · exact .inl h
  · exact .inr ⟨id, by omega, h2, by rw [hk _ h1]; exact h3⟩
theorem ap_sls {K : AV → Store → Prop} {t : Tg K} {m : Nat} {σ : Store} {v : AV} {els : List (List AV)} {x : List UInt8} (hs : SlS m σ v els) (hm : m ≤ σ.length) (hb : els.length ≤ 1000000)
    (hK : ∀ v' σ', SlS σ'.length σ' v' (els ++ [[.str x]]) → K v' σ') : ap K t σ 9 1 16 v (.lst [[.str x]]) := by
  rcases hs with ⟨rfl, rfl⟩ | ⟨id, h1, rfl, h2⟩
  · refine ap_new true [[.str x]] rfl (by omega) (by simp) (fun _ => .inl rfl) (by simp) (by simp) ?_
    exact hK _ _ (.inr ⟨σ.length, by simp, rfl, by simp⟩)
  · refine ap_row els [[.str x]] true h2 rfl (by omega) (by simp) (fun _ => .inl rfl) rfl (by simp; omega) (by simp; omega) ?_
    have hlt := (List.getElem?_eq_some_iff.1 h2).1
    exact hK _ _ (.inr ⟨id, by simp; omega, by simp, by rw [List.getElem?_set_self hlt]⟩)

def expandAV (x : Except Nat (List Pc)) : AV := match x with
  | .error e => .tup [.lst [], .int .i64 e]
  | .ok l => .tup [.lst (strEls ((expd [[]] l).map texts)), .int .i64 0]
def SE : List Nat := [11, 29, 30, 31, 32, 33, 34, 35, 36]

theorem expand_parsed {s : List UInt8} {l : List Pc} (h : parse s = .ok l) : szL l ≤ 128 ∧ neL l ∧ cnt 1 l ≤ 64 ∧ (expd [[]] l).length ≤ 64 ∧ ∀ o ∈ expd [[]] l, Glob.Good 128 o := by
  obtain ⟨h1, h2, d, h3, h4, h5⟩ := parse_ok h
  have hsz := (pcs_size _).1 _ _ _ _ h3
  have hc := expd_count l [[]] hsz.2 (by simp) (by simpa using h5)
  refine ⟨by simp at hsz; omega, hsz.2, h5, ?_, fun o ho => (parse_good h o ho).le h1⟩
  rw [hc]; exact h5

theorem Expand_ok (s : List UInt8) (hs : s.length ≤ 9223372036854775807) : PCalls Try.prog n_glob_Expand [.str s] (fun r => r = expandAV (parse s)) := by
  refine pcalls_of_awp hmix c_glob_Expand rfl ?_
  simp [a_glob_Expand]
  refine ac_same (parse_ok_walk s hs) (by simp) ?_
  rintro r rfl
  cases hp : parse s with
  | error e =>
    have he : e ≠ 0 := by
      unfold parse at hp
      repeat' split at hp
      all_goals first | (cases hp; decide) | cases hp
    have he' : ¬ ((e : Int) = 0) := by omega
    simp [parseAV, expandAV, he, he']
  | ok l =>
    obtain ⟨h1, h2, h3, h4, h5⟩ := expand_parsed hp
    simp [parseAV, expandAV]
    refine ac_same (expand_ok (szL l) l (Nat.le_refl _) (by omega) h2 h3) (by simp) ?_
    rintro r rfl
    simp [encA_length]
    generalize hE : expd [[]] l = E at *
    refine lp_startx (fun x f σ => ∃ i : Nat, x = E.length - i ∧ i ≤ E.length ∧ f 21 = .lst (encA E) ∧ f 22 = .int .i64 E.length ∧ f 23 = .int .i64 i ∧ SlS σ.length σ (f 6) (strEls ((E.take i).map texts))) E.length ?_ ?_
    · exact ⟨0, rfl, by omega, by simp, by simp, by simp, .inl ⟨by simp, by simp [strEls]⟩⟩
    rintro x f σ ⟨i, rfl, hi, h21, h22, h23, h6⟩
    simp [h22, h23]
    refine cb_dec (fun hlt => ?_) (fun hge => ?_)
    · have hlt' : i < E.length := by omega
      obtain ⟨o, ho⟩ : ∃ o, E[i]? = some o := ⟨_, List.getElem?_eq_getElem hlt'⟩
      have hmo : o ∈ E := List.mem_of_getElem? ho
      have hgo := h5 o hmo
      have hol : o.length ≤ 1000 := by
        have : o.length ≤ szL l := by
          have := expd_len l [[]] 0 (by simp) o (by rw [hE]; exact hmo)
          omega
        omega
      have hwi : IntKind.i64.wrap ((i : Int) + 1) = (i : Int) + 1 := wrap_i64 (by omega) (by omega)
      simp [h21, h23, encA_get ho, encL_length]
      refine lp_gen (fun f0 => f0 6 = f 6 ∧ f0 9 = .ptr σ.length 0 ∧ f0 21 = .lst (encA E) ∧ f0 22 = .int .i64 E.length ∧ f0 23 = .int .i64 i ∧ f0 27 = .lst (encL o) ∧ f0 28 = .int .i64 o.length ∧ f0 29 = .int .i64 0) (by simp [h21, h22, h23]) ?_
      rintro f0 ⟨z6, z9, z21, z22, z23, z27, z28, z29⟩
      rw [← z6] at h6
      have hels : (strEls ((E.take i).map texts)).length ≤ 64 := by simp [strEls]; omega
      have hnext : strEls ((E.take (i + 1)).map texts) = strEls ((E.take i).map texts) ++ [[.str (texts o)]] := by rw [List.take_add_one, ho]; simp [strEls]
      generalize strEls ((E.take i).map texts) = els at *
      refine lp_startx (fun x f σ' => ∃ k : Nat, x = o.length - k ∧ k ≤ o.length ∧ (∀ t, ¬ t ∈ SE → f t = f0 t) ∧ f 29 = .int .i64 k ∧ BldAt 45 5 (σ.length + 1) σ' σ.length (texts (o.take k)) ∧ SlS σ.length σ' (f0 6) els ∧ σ.length + 1 ≤ σ'.length) o.length ?_ ?_
      · refine ⟨0, rfl, by omega, fun _ _ => rfl, by simpa using z29, ⟨.nilp, .nils, by simp, .inl rfl, .inl ⟨rfl, by simp [texts]⟩⟩, h6.mono (Nat.le_refl _) fun j hj => by rw [List.getElem?_append_left hj], by simp⟩
      clear h6 h21 h22 h23 z6
      rintro x f σ' ⟨k, rfl, hk, hf, h29, hb, h6, hle⟩
      have h27 := (hf 27 (by decide)).trans z27
      have h28 := (hf 28 (by decide)).trans z28
      have h9 := (hf 9 (by decide)).trans z9
      simp [h28, h29]
      refine cb_dec (fun hkl => ?_) (fun hkg => ?_)
      · have hkl' : k < o.length := by omega
        obtain ⟨p, hp⟩ : ∃ p, o[k]? = some p := ⟨_, List.getElem?_eq_getElem hkl'⟩
        obtain ⟨hx, hga⟩ := List.getElem?_eq_some_iff.1 (encL_get hp)
        have he5 : p.enc.length = 5 := rfl
        have hp5 : (∀ (x : AV), x ∈ p.enc → x.one = true) ↔ True := by
          refine iff_true_intro fun x hx => ?_
          simp only [Pc.enc, List.mem_cons, List.not_mem_nil, or_false] at hx
          rcases hx with rfl | rfl | rfl | rfl | rfl <;> rfl
        have ht5 : List.take 5 p.enc = p.enc := rfl
        have ht4 : List.take 1 (List.drop 4 p.enc) = [.str p.text] := rfl
        have hwk : IntKind.i64.wrap ((k : Int) + 1) = (k : Int) + 1 := wrap_i64 (by omega) (by omega)
        have htx : texts (o.take (k + 1)) = texts (o.take k) ++ p.text := by rw [List.take_add_one, hp]; simp [texts]
        have htl : (texts (o.take (k + 1))).length ≤ 128 := by
          have h1 : texts o = texts (o.take (k + 1)) ++ texts (o.drop (k + 1)) := by rw [← texts_append, List.take_append_drop]
          have h2 := hgo.2.2
          rw [h1] at h2
          simp at h2; omega
        rw [htx] at htl
        simp [h9, h27, h28, h29, encL_get hp, hga, he5, hp5, ht5, ht4, encL_length]
        refine ac_eff (writeString_ok (BldAt.more hb) (by simp; omega) (by omega) (by simp at htl ⊢; omega)) ?_
        rintro r σ2 ⟨rfl, hb2, hle2, hk2⟩
        simp [h29, hwk]
        refine nx_intro (o.length - (k + 1)) (by omega) ⟨k + 1, rfl, by omega, fun t ht => ?_, by simp, by rw [htx]; exact hb2, h6.mono (Nat.le_refl _) fun j hj => ?_, by simp at hle2; omega⟩
        · have := hf t ht
          simp only [SE, List.mem_cons, List.not_mem_nil, or_false, not_or] at ht
          simp [ht, this]
        · rw [hk2 j (by omega) (by omega), List.getElem?_append_left (by omega)]
      · have ek : k = o.length := by omega
        subst ek
        rw [List.take_length] at hb
        have h21 := (hf 21 (by decide)).trans z21
        have h22 := (hf 22 (by decide)).trans z22
        have h23 := (hf 23 (by decide)).trans z23
        have h6f := hf 6 (by decide)
        rw [← h6f] at h6
        simp [h9]
        refine ac_eff (string_ok Try.lays169 Try.Builder_Extra_169 hb) ?_
        rintro r σ2 ⟨rfl, hl2, hk2⟩
        simp
        refine ap_sls (h6.mono (Nat.le_refl _) fun j hj => hk2 j (.inl (by omega))) (by omega) ?_ ?_
        · omega
        · intro v' σ3 hs3
          simp [h23, hwi]
          refine nx_intro (E.length - (i + 1)) (by omega) ⟨i + 1, rfl, by omega, by simp [h21], by simp [h22], by simp, ?_⟩
          rw [hnext]; simpa using hs3
    · have ei : i = E.length := by omega
      subst ei
      rw [List.take_length] at h6
      rcases h6 with ⟨q1, q2⟩ | ⟨id, _, q1, q2⟩
      · simp [q1, q2]
      · simp [q1, q2]
end Go.Proofs.Ytfbbpknimppcmaa
