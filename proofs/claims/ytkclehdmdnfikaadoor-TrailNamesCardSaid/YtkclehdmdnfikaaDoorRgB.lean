/- Patterns of one name, as the document has them: whether pieces fit a name. -/
import Derived.Test.YtkclehdmdnfikaaDoorRgA
set_option linter.unusedSimpArgs false
set_option linter.unusedVariables false
set_option linter.constructorNameAsVariable false
set_option maxHeartbeats 8000000
namespace Go.Proofs.YtkclehdmdnfikaaDoor
open Go.Abs Go.Glob
variable {G : Globs}

/-- A table's first k places. -/
def Prow (F : Nat → Bool) (n k : Nat) : List (List AV) := (List.range n).map fun j => [.bool (if j < k then F j else false)]
theorem prow_len (F : Nat → Bool) (n k : Nat) : (Prow F n k).length = n := by simp [Prow]
theorem prow_zero (F : Nat → Bool) (n : Nat) : List.replicate n [AV.bool false] = Prow F n 0 := by
  refine List.ext_getElem (by simp [Prow]) fun i h1 h2 => ?_
  simp [Prow]
theorem prow_get (F : Nat → Bool) {n k j : Nat} (hj : j < n) : (Prow F n k)[j]? = some [.bool (if j < k then F j else false)] := by simp [Prow, hj]
theorem prow_set (F : Nat → Bool) {n k : Nat} (hk : k < n) : (Prow F n k).set k [.bool (F k)] = Prow F n (k + 1) := by
  refine List.ext_getElem (by simp [Prow]) fun i h1 h2 => ?_
  rw [List.getElem_set]
  by_cases h : k = i
  · subst h; simp [Prow]
  · simp only [h, if_false, Prow, List.getElem_map, List.getElem_range]
    by_cases h3 : i < k
    · rw [if_pos h3, if_pos (by omega)]
    · rw [if_neg h3, if_neg (by omega)]
theorem prow_full (F : Nat → Bool) (n : Nat) {j : Nat} (hj : j < n) : (Prow F n n)[j]? = some [.bool (F j)] := by rw [prow_get F hj, if_pos hj]
/-- Which beginnings of a name pieces fit. -/
def Fk (a : List Pc) (name : List UInt8) (k : Nat) : Bool := mt a (name.take k)
theorem fk_init (name : List UInt8) : (Prow (Fk [] name) (name.length + 1) 0).set 0 [.bool true] = Prow (Fk [] name) (name.length + 1) (name.length + 1) := by
  have h1 : [AV.bool true] = [AV.bool (Fk [] name 0)] := by simp [Fk, mt_nil]
  rw [h1, prow_set _ (by omega)]
  refine List.ext_getElem (by simp [Prow]) fun i h1 h2 => ?_
  simp only [Prow, List.length_map, List.length_range] at h1
  simp only [Prow, List.getElem_map, List.getElem_range, h1, if_true]
  by_cases hi : i < 0 + 1
  · rw [if_pos hi]
  · rw [if_neg hi]
    have : (name.take i).isEmpty = false := by
      cases name with
      | nil => simp at h1; omega
      | cons c r =>
        obtain ⟨j, rfl⟩ : ∃ j, i = j + 1 := ⟨i - 1, by omega⟩
        rfl
    simp [Fk, mt_nil, this]
theorem prow_skip (F : Nat → Bool) {n k : Nat} (hk : k < n) (h : F k = false) : Prow F n k = Prow F n (k + 1) := by
  rw [← prow_set F hk, h]
  refine (List.ext_getElem (by simp [Prow]) fun i h1 h2 => ?_)
  rw [List.getElem_set]
  by_cases e : k = i
  · subst e; simp [Prow]
  · simp [e]
theorem fk_end (a : List Pc) (name : List UInt8) : Fk a name name.length = mt a name := by simp [Fk]

theorem rfits_ok (l : List Pc) (name : List UInt8) (hf : flat l) (hk : okL l) (hl : (texts l).length ≤ 100000) (hn : name.length ≤ 100000) : PCalls Tryd.prog n_isobarref15_fits [.str (texts l), .str name] (fun r => r = .bool (mt l name)) := by
  refine pcalls_of_awp hmix c_isobarref15_fits rfl ?_
  have hwN : IntKind.i64.wrap ((name.length : Int) + 1) = ((name.length + 1 : Nat) : Int) := by rw [wrap_i64 (by omega) (by omega)]; omega
  simp [a_isobarref15_fits, hwN]
  refine ms_intro (name.length + 1) (by simp [hwN]) (by simp [hwN]) (by omega) (by omega) (by omega) rfl ?_
  rw [prow_zero (Fk [] name)]
  have i0 := fk_init name
  have i1 := prow_get (Fk [] name) (n := name.length + 1) (k := 0) (j := 0) (by omega)
  have i2 := prow_len (Fk [] name) (name.length + 1) 0
  have i3 : ∀ G : Nat → Bool, ∀ k, (Prow G (name.length + 1) k).length = name.length + 1 := fun G k => prow_len G _ k
  generalize hN : name.length + 1 = N at *
  have hNp : 0 < N := by omega
  obtain ⟨i1a, i1b⟩ := List.getElem?_eq_some_iff.1 i1
  simp [i1, i1b, i2, i0, hNp]
  refine lp_startx (fun x f σ => ∃ (a b : List Pc) (rid : Nat), l = a ++ b ∧ x = b.length ∧ f 0 = .str (texts l) ∧ f 1 = .str name ∧ f 5 = .row rid N ∧ f 6 = .int .i64 (texts a).length ∧ σ[rid]? = some (.row 4 1 (Prow (Fk a name) N N) false)) l.length ?_ ?_
  · exact ⟨[], l, 0, rfl, rfl, by simp, by simp, by simp, by simp [texts], by simp⟩
  rintro x f σ ⟨a, b, rid, rfl, rfl, h0, h1, h5, h6, hrow⟩
  have hrl : rid < σ.length := (List.getElem?_eq_some_iff.1 hrow).1
  have ht : texts (a ++ b) = texts a ++ texts b := texts_append a b
  cases b with
  | nil =>
    have e : texts (a ++ []) = texts a := by simp
    have hnl : ¬ ((texts a).length : Int) < ((texts a).length : Int) := by omega
    have hg := prow_full (Fk a name) N (j := name.length) (by omega)
    have hlt : name.length < N := by omega
    rw [fk_end] at hg
    obtain ⟨hg1, hg2⟩ := List.getElem?_eq_some_iff.1 hg
    simp [h0, h1, h5, h6, hrow, i3, hg, hg2, hlt]
  | cons p b =>
    have hfp : flat (p :: b) := by
      have : ∀ (a : List Pc), flat (a ++ p :: b) → flat (p :: b) := by
        intro a
        induction a with
        | nil => exact fun h => h
        | cons q a ih => intro h; cases q <;> first | exact h.elim | exact ih h
      exact this a hf
    have hkp : okL (p :: b) := by
      have : ∀ (a : List Pc), okL (a ++ p :: b) → okL (p :: b) := by
        intro a
        induction a with
        | nil => exact fun h => h
        | cons q a ih => intro h; cases q <;> simp only [List.cons_append, okL] at h <;> first | exact ih h.2 | exact ih h
      exact this a hk
    have htp : texts (p :: b) = p.text ++ texts b := by simp [texts]
    have hta : texts (a ++ [p]) = texts a ++ p.text := by simp [texts]
    have hab : a ++ p :: b = (a ++ [p]) ++ b := by simp
    rw [htp] at ht
    obtain ⟨c0, u, hpu⟩ : ∃ c0 u, p.text = c0 :: u := by
      cases p with
      | lit c => exact ⟨c, [], rfl⟩
      | q => exact ⟨63, [], rfl⟩
      | star => exact ⟨42, [], rfl⟩
      | cls rs t => simp only [okL] at hkp; obtain ⟨⟨b0, rfl, _⟩, _⟩ := hkp; exact ⟨91, b0, rfl⟩
      | br xs => exact hfp.elim
    rw [hpu] at ht
    have hat : (texts (a ++ p :: b))[(texts a).length]? = some c0 := by rw [ht]; simp
    obtain ⟨hat1, hat2⟩ := List.getElem?_eq_some_iff.1 hat
    have hat1' : ((texts a).length : Int) < ((texts (a ++ p :: b)).length : Int) := by omega
    generalize hT : texts (a ++ p :: b) = T at *
    generalize hA : (texts a).length = A at *
    have hwA : IntKind.i64.wrap ((A : Int) + 1) = (A : Int) + 1 := wrap_i64 (by omega) (by omega)
    have hdrop : T.drop (A + 1) = u ++ texts b := by
      rw [ht, ← hA, List.cons_append, List.drop_append, List.drop_of_length_le (by omega)]
      simp
    simp [h0, h1, h5, h6, hat, hat1, hat1', hat2, hwN]
    refine ms_intro N (by simp) (by simp) (by omega) (by omega) (by omega) rfl ?_
    rw [prow_zero (Fk (a ++ [p]) name)]
    simp
    refine lp_gen (fun f' => f' 0 = .str T ∧ f' 1 = .str name ∧ f' 5 = .row rid N ∧ f' 6 = .int .i64 A ∧ f' 7 = .row σ.length N ∧ f' 8 = .int .i64 0) ⟨by simp [h0], by simp [h1], by simp [h5], by simp [h6], by simp, by simp⟩ ?_
    rintro f0 ⟨u0, u1, u5, u6, u7, u8⟩
    refine lp_startx (fun x f σ' => ∃ (k : Nat), x = N - k ∧ k ≤ N ∧ f 0 = .str T ∧ f 1 = .str name ∧ f 5 = .row rid N ∧ f 6 = .int .i64 A ∧ f 7 = .row σ.length N ∧ f 8 = .int .i64 k ∧ σ' = σ ++ [.row 4 1 (Prow (Fk (a ++ [p]) name) N k) false]) N ?_ ?_
    · exact ⟨0, rfl, by omega, u0, u1, u5, u6, u7, u8, rfl⟩
    rintro x' f1 σ' ⟨k, hx', hkN, w0, w1, w5, w6, w7, w8, rfl⟩
    have hw11 : IntKind.i64.wrap 1 = 1 := wrap_i64 (by omega) (by omega)
    have s1 : ∀ e : Entry, (σ ++ [e])[rid]? = some (.row 4 1 (Prow (Fk a name) N N) false) := fun e => by rw [List.getElem?_append_left hrl]; exact hrow
    have s2 : ∀ e : Entry, (σ ++ [e])[σ.length]? = some e := fun e => by simp
    have s3 : ∀ e e' : Entry, (σ ++ [e]).set σ.length e' = σ ++ [e'] := fun e e' => by simp
    by_cases hkl : k < N
    · have hkl' : (k : Int) ≤ (name.length : Int) := by omega
      have hkl2 : k ≤ name.length := by omega
      have hwk : IntKind.i64.wrap ((k : Int) + 1) = (k : Int) + 1 := wrap_i64 (by omega) (by omega)
      have hwk1 : IntKind.i64.wrap ((k : Int) - 1) = (k : Int) - 1 := wrap_i64 (by omega) (by omega)
      have gE := prow_full (Fk a name) N hkl
      obtain ⟨gE1, gE2⟩ := List.getElem?_eq_some_iff.1 gE
      have gS := prow_set (Fk (a ++ [p]) name) hkl
      have gZ := prow_get (Fk (a ++ [p]) name) (k := k) hkl
      rw [if_neg (Nat.lt_irrefl k)] at gZ
      obtain ⟨gZ1, gZ2⟩ := List.getElem?_eq_some_iff.1 gZ
      have hnext : ∀ {f' : Abs.Frame} {tf : Tg f'} {tI : Tg (fun x f σ' => ∃ (k : Nat), x = N - k ∧ k ≤ N ∧ f 0 = .str T ∧ f 1 = .str name ∧ f 5 = .row rid N ∧ f 6 = .int .i64 A ∧ f 7 = .row σ.length N ∧ f 8 = .int .i64 k ∧ σ' = σ ++ [.row 4 1 (Prow (Fk (a ++ [p]) name) N k) false])} {σ' : Store} (v : Bool), v = Fk (a ++ [p]) name k → f' 0 = .str T → f' 1 = .str name → f' 5 = .row rid N → f' 6 = .int .i64 A → f' 7 = .row σ.length N → f' 8 = .int .i64 ((k : Int) + 1) → σ' = σ ++ [.row 4 1 ((Prow (Fk (a ++ [p]) name) N k).set k [.bool v]) false] → Abs.nx x' _ tI f' tf σ' := by
        intro f' tf tI σ' v hv q0 q1 q5 q6 q7 q8 hs
        subst hv
        rw [gS] at hs
        exact nx_intro (N - (k + 1)) (by omega) ⟨k + 1, rfl, by omega, q0, q1, q5, q6, q7, by simp [q8], hs⟩
      have hskip : ∀ {f' : Abs.Frame} {tf : Tg f'} {tI : Tg (fun x f σ' => ∃ (k : Nat), x = N - k ∧ k ≤ N ∧ f 0 = .str T ∧ f 1 = .str name ∧ f 5 = .row rid N ∧ f 6 = .int .i64 A ∧ f 7 = .row σ.length N ∧ f 8 = .int .i64 k ∧ σ' = σ ++ [.row 4 1 (Prow (Fk (a ++ [p]) name) N k) false])} {σ' : Store}, Fk (a ++ [p]) name k = false → f' 0 = .str T → f' 1 = .str name → f' 5 = .row rid N → f' 6 = .int .i64 A → f' 7 = .row σ.length N → f' 8 = .int .i64 ((k : Int) + 1) → σ' = σ ++ [.row 4 1 (Prow (Fk (a ++ [p]) name) N k) false] → Abs.nx x' _ tI f' tf σ' := by
        intro f' tf tI σ' hv q0 q1 q5 q6 q7 q8 hs
        rw [prow_skip _ hkl hv] at hs
        exact nx_intro (N - (k + 1)) (by omega) ⟨k + 1, rfl, by omega, q0, q1, q5, q6, q7, by simp [q8], hs⟩
      by_cases hps : p = .star
      · subst hps
        have h42 : c0 = 42 := by simp [Pc.text] at hpu; exact hpu.1.symm
        subst h42
        cases hE : Fk a name k with
        | true =>
          rw [hE] at gE gE2
          simp [w0, w1, w5, w6, w7, w8, hkl', hkl2, hkl, hat, hat1, hat2, i3, s1, s2, s3, gE, gE2, gZ, gZ2, hwk, hw11]
          refine hnext true ?_ (by simp [w0]) (by simp [w1]) (by simp [w5]) (by simp [w6]) (by simp [w7]) (by simp) (by simp)
          cases k with
          | zero => simp only [Fk, List.take_zero, mt_star_zero] at hE ⊢; exact hE.symm
          | succ j => simp only [Fk] at hE ⊢; rw [mt_star_succ _ _ _ (by omega), hE]; rfl
        | false =>
          rw [hE] at gE gE2
          cases k with
          | zero =>
            simp [w0, w1, w5, w6, w7, w8, hkl', hkl2, hkl, hat, hat1, hat2, i3, s1, s2, s3, gE, gE2, gZ, gZ2, hwk, hw11]
            refine hnext false ?_ (by simp [w0]) (by simp [w1]) (by simp [w5]) (by simp [w6]) (by simp [w7]) (by simp) (by simp)
            simp only [Fk, List.take_zero, mt_star_zero] at hE ⊢; exact hE.symm
          | succ j =>
            have gP := prow_get (Fk (a ++ [.star]) name) (n := N) (k := j + 1) (j := j) (by omega)
            rw [if_pos (Nat.lt_succ_self j)] at gP
            obtain ⟨gP1, gP2⟩ := List.getElem?_eq_some_iff.1 gP
            have hwj : IntKind.i64.wrap (j : Int) = (j : Int) := wrap_i64 (by omega) (by omega)
            have hjN : j < N := by omega
            have hjp : (0 : Int) < (j : Int) + 1 := by omega
            have hj0 : (0 : Int) ≤ (j : Int) + 1 := by omega
            simp at hkl' hwk
            simp [w0, w1, w5, w6, w7, w8, hkl', hkl2, hkl, hat, hat1, hat2, i3, s1, s2, s3, gE, gE2, gZ, gZ2, hwk, hj0, hwj, gP, gP2, hjN, hjp]
            refine hnext (Fk (a ++ [.star]) name j) ?_ (by simp [w0]) (by simp [w1]) (by simp [w5]) (by simp [w6]) (by simp [w7]) (by simp) (by simp)
            simp only [Fk] at hE ⊢; rw [mt_star_succ _ _ _ (by omega), hE]; simp
      · have h42 : ¬ c0 = 42 := by
          cases p with
          | lit c => simp [Pc.text] at hpu; rw [← hpu.1]; simp only [okL] at hkp; exact (nb_no c hkp.1).2.2.1
          | q => simp [Pc.text] at hpu; rw [← hpu.1]; decide
          | star => exact absurd rfl hps
          | cls rs t => simp only [okL] at hkp; obtain ⟨⟨b0, rfl, _⟩, _⟩ := hkp; simp [Pc.text] at hpu; rw [← hpu.1]; decide
          | br xs => exact hfp.elim
        have h42' : ¬ ((c0.toNat : Int) = 42) := u8_ne (n := 42) rfl h42
        cases k with
        | zero =>
          simp at w8
          simp [w0, w1, w5, w6, w7, w8, hkl', hkl2, hkl, hat, hat1, hat2, h42', hw11]
          exact hskip (by simp only [Fk, List.take_zero]; exact mt_other_zero a hps) (by simp [w0]) (by simp [w1]) (by simp [w5]) (by simp [w6]) (by simp [w7]) (by simp) (by simp)
        | succ j =>
          have hjl : j < name.length := by omega
          obtain ⟨c, hc⟩ : ∃ c, name[j]? = some c := ⟨_, List.getElem?_eq_getElem hjl⟩
          obtain ⟨_, hc2⟩ := List.getElem?_eq_some_iff.1 hc
          have hFj : Fk (a ++ [p]) name (j + 1) = (Fk a name j && p.one c) := mt_other_succ a hps name j c hc
          have gJ := prow_full (Fk a name) N (j := j) (by omega)
          obtain ⟨gJ1, gJ2⟩ := List.getElem?_eq_some_iff.1 gJ
          have hwj : IntKind.i64.wrap (j : Int) = (j : Int) := wrap_i64 (by omega) (by omega)
          have hjN : j < N := by omega
          have hjz : ¬ ((j : Int) + 1 = 0) := by omega
          have hj0 : (0 : Int) ≤ (j : Int) + 1 := by omega
          simp at hkl' hwk w8
          cases hE : Fk a name j with
          | false =>
            rw [hE] at gJ gJ2 hFj
            have hfin : false = Fk (a ++ [p]) name (j + 1) := by rw [hFj]; rfl
            by_cases h91 : c0 = 91
            · subst h91
              simp [w0, w1, w5, w6, w7, w8, hkl', hkl2, hkl, hat, hat1, hat2, h42', hjz, hj0, hwj, hjN, i3, s1, s2, s3, gJ, gJ2, gZ, gZ2, hwk, hw11]
              exact hnext false hfin (by simp [w0]) (by simp [w1]) (by simp [w5]) (by simp [w6]) (by simp [w7]) (by simp) (by simp)
            · have h91' : ¬ ((c0.toNat : Int) = 91) := u8_ne (n := 91) rfl h91
              simp [w0, w1, w5, w6, w7, w8, hkl', hkl2, hkl, hat, hat1, hat2, h42', h91', hjz, hj0, hwj, hjN, i3, s1, s2, s3, gJ, gJ2, gZ, gZ2, hwk, hw11]
              exact hnext false hfin (by simp [w0]) (by simp [w1]) (by simp [w5]) (by simp [w6]) (by simp [w7]) (by simp) (by simp)
          | true =>
            rw [hE] at gJ gJ2 hFj
            have hfin : p.one c = Fk (a ++ [p]) name (j + 1) := by rw [hFj]; rfl
            cases p with
            | star => exact absurd rfl hps
            | br xs => exact hfp.elim
            | q =>
              have e : c0 = 63 := by simp [Pc.text] at hpu; exact hpu.1.symm
              subst e
              simp [w0, w1, w5, w6, w7, w8, hkl', hkl2, hkl, hat, hat1, hat2, h42', hjz, hj0, hwj, hjN, i3, s1, s2, s3, gJ, gJ2, gZ, gZ2, hwk, hw11]
              exact hnext true hfin (by simp [w0]) (by simp [w1]) (by simp [w5]) (by simp [w6]) (by simp [w7]) (by simp) (by simp)
            | lit d =>
              have e : c0 = d := by simp [Pc.text] at hpu; exact hpu.1.symm
              subst e
              simp only [okL] at hkp
              obtain ⟨_, n63, _, n91, _⟩ := nb_no c0 hkp.1
              have h91' : ¬ ((c0.toNat : Int) = 91) := u8_ne (n := 91) rfl n91
              have h63' : ¬ ((c0.toNat : Int) = 63) := u8_ne (n := 63) rfl n63
              have hdd : decide ((c0.toNat : Int) = (c.toNat : Int)) = decide (c0 = c) := decide_eq_decide.2 ⟨fun h => UInt8.toNat_inj.1 (by omega), fun h => by rw [h]⟩
              by_cases hcc : c0 = c
              · subst hcc
                simp [w0, w1, w5, w6, w7, w8, hkl', hkl2, hkl, hat, hat1, hat2, h42', h91', h63', hjz, hj0, hwj, hjN, hjl, hc, hc2, i3, s1, s2, s3, gJ, gJ2, gZ, gZ2, hwk, hw11]
                exact hnext true (by rw [← hfin]; simp [Pc.one]) (by simp [w0]) (by simp [w1]) (by simp [w5]) (by simp [w6]) (by simp [w7]) (by simp) (by simp)
              · have hcc' : ¬ ((c0.toNat : Int) = (c.toNat : Int)) := u8_ne rfl hcc
                have hcc2 : ¬ (c0.toNat = c.toNat) := fun h => hcc (UInt8.toNat_inj.1 h)
                simp [w0, w1, w5, w6, w7, w8, hkl', hkl2, hkl, hat, hat1, hat2, h42', h91', h63', hjz, hj0, hwj, hjN, hjl, hc, hc2, i3, s1, s2, s3, gJ, gJ2, gZ, gZ2, hwk, hcc', hcc2]
                exact hnext false (by rw [← hfin]; simp [Pc.one, hcc]) (by simp [w0]) (by simp [w1]) (by simp [w5]) (by simp [w6]) (by simp [w7]) (by simp) (by simp)
            | cls rs t =>
              simp only [okL] at hkp
              obtain ⟨⟨b0, rfl, hcl⟩, _⟩ := hkp
              simp only [Pc.text, List.cons.injEq] at hpu
              obtain ⟨rfl, rfl⟩ := hpu
              have hcl2 := hcl (b0.length + 1) (texts b) (by omega)
              rw [← hdrop] at hcl2
              have hhas := rhas_ok (G := G) T (A + 1) (b0.length + 1) false rs (texts b) c hcl2 (by omega)
              simp at hhas
              simp [w0, w1, w5, w6, w7, w8, hkl', hkl2, hkl, hat, hat1, hat2, h42', hjz, hj0, hwj, hwA, hjN, hjl, hc, hc2, i3, s1, s2, s3, gJ, gJ2, gZ, gZ2, hwk, hw11]
              refine ac_same hhas (by simp) ?_
              rintro v rfl
              simp [w0, w1, w5, w6, w7, w8, hkl', hkl2, hkl, hat, hat1, hat2, h42', hjz, hj0, hwj, hjN, hjl, hc, hc2, i3, s1, s2, s3, gJ, gJ2, gZ, gZ2, hwk, hw11]
              exact hnext _ hfin (by simp [w0]) (by simp [w1]) (by simp [w5]) (by simp [w6]) (by simp [w7]) (by simp) (by simp [Pc.one])
    · have hke : k = N := by omega
      have hkl' : ¬ (k : Int) ≤ (name.length : Int) := by omega
      have hkl2 : ¬ k ≤ name.length := by omega
      have hidl : σ.length < (σ ++ [Entry.row 4 1 (Prow (Fk (a ++ [p]) name) N k) false]).length := by simp
      subst hke
      have hstep : ∀ {f' : Abs.Frame} {tf : Tg f'} {tI : Tg (fun x f σ => ∃ (a_1 b_1 : List Pc) (rid : Nat), a ++ p :: b = a_1 ++ b_1 ∧ x = b_1.length ∧ f 0 = .str T ∧ f 1 = .str name ∧ f 5 = .row rid k ∧ f 6 = .int .i64 (texts a_1).length ∧ σ[rid]? = some (.row 4 1 (Prow (Fk a_1 name) k k) false))} {σ' : Store}, f' 0 = .str T → f' 1 = .str name → f' 5 = .row σ.length k → f' 6 = .int .i64 ((A : Int) + (p.text.length : Int)) → σ' = σ ++ [.row 4 1 (Prow (Fk (a ++ [p]) name) k k) false] → Abs.nx (p :: b).length _ tI f' tf σ' := by
        intro f' tf tI σ' q0 q1 q5 q6 hs
        subst hs
        exact nx_intro b.length (by simp) ⟨a ++ [p], b, σ.length, hab, rfl, q0, q1, q5, by rw [q6, hta, List.length_append, hA]; simp, by simp⟩
      by_cases h91 : c0 = 91
      · subst h91
        cases p with
        | star => simp [Pc.text] at hpu
        | q => simp [Pc.text] at hpu
        | br xs => exact hfp.elim
        | lit d => simp [Pc.text] at hpu; simp only [okL] at hkp; exact absurd hpu.1 (nb_no d hkp.1).2.2.2.1
        | cls rs t =>
          simp only [okL] at hkp
          obtain ⟨⟨b0, rfl, hcl⟩, _⟩ := hkp
          simp only [Pc.text, List.cons.injEq] at hpu
          obtain ⟨_, rfl⟩ := hpu
          have hcl2 := hcl (b0.length + 1) (texts b) (by omega)
          rw [← hdrop] at hcl2
          have hclass := rclass_ok (G := G) T (A + 1) (b0.length + 1) rs (texts b) hcl2 (by omega)
          have hTl : T.length = A + (b0.length + 1) + (texts b).length := by rw [ht, ← hA]; simp; omega
          have e : ((T.length - (texts b).length : Nat) : Int) = (A : Int) + ((b0.length : Int) + 1) := by omega
          rw [e] at hclass
          simp at hclass
          simp [w0, w1, w5, w6, w7, w8, hkl', hkl2, hat, hat1, hat2, hwA]
          refine ac_same hclass (by simp) ?_
          rintro v rfl
          simp [w7]
          exact hstep (by simp [w0]) (by simp [w1]) (by simp) (by simp [Pc.text]) rfl
      · have h91' : ¬ ((c0.toNat : Int) = 91) := u8_ne (n := 91) rfl h91
        have h1 : p.text.length = 1 := by
          cases p with
          | star => rfl
          | q => rfl
          | br xs => exact hfp.elim
          | lit d => rfl
          | cls rs t => simp only [okL] at hkp; obtain ⟨⟨b0, rfl, hcl⟩, _⟩ := hkp; simp [Pc.text] at hpu; exact absurd hpu.1.symm h91
        simp [w0, w1, w5, w6, w7, w8, hkl', hkl2, hat, hat1, hat2, hwA, h91']
        exact hstep (by simp [w0]) (by simp [w1]) (by simp) (by simp [h1]) rfl
end Go.Proofs.YtkclehdmdnfikaaDoor
