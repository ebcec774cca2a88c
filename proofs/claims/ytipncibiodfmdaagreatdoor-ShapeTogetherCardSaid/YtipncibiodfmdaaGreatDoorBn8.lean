/- Functions of one series: the law that any call answers as the document says. Functions of one series: the law of calls together. -/
import Derived.Test.YtipncibiodfmdaaGreatDoorCodeXs
import Derived.Test.YtipncibiodfmdaaGreatDoorBn1
import Derived.Test.YtipncibiodfmdaaGreatDoorBn2
import Derived.Test.YtipncibiodfmdaaGreatDoorBn3
import Derived.Test.YtipncibiodfmdaaGreatDoorBn4
import Derived.Test.YtipncibiodfmdaaGreatDoorBn5
import Derived.Test.YtipncibiodfmdaaGreatDoorBn6
import Derived.Test.YtipncibiodfmdaaGreatDoorBn7
section
set_option linter.unusedSimpArgs false
set_option linter.unusedVariables false
set_option linter.constructorNameAsVariable false
set_option maxHeartbeats 4000000
namespace Go.Abs
variable [Globs]
/-- A call ahead of which an own row is frozen. -/
theorem ac_frz {P : Program} {K : AV → Store → Prop} {t : Tg K} {σ σ' : Store} {g : FuncId} {args : List AV} (hz : Frz σ σ') (h : acall P σ' K g args) : ac P K t σ g args :=
  .inr (.inr fun base κ Im w vs hs hv => by
    obtain ⟨Im1, hs1, hg1⟩ := frz_ok hs hz
    refine (acall_ok hs1 (hv.grow hg1) h).mono ?_
    rintro e w' ⟨r, σ2, v, κ', Im', rfl, hK, hs2, hg2, hvr⟩
    exact ⟨r, σ2, v, κ', Im', rfl, hK, hs2, hg1.trans hg2, hvr⟩)
end Go.Abs
namespace Go.Shp
open Go.Num Go.Ser Go.Dec
theorem apply_len {call text : List UInt8} {s x : Sr} {args : List N} (h : applyS call s args text = .ok x) (hl : s.vals.length ≤ 2000) : x.vals.length ≤ 2000 := by
  unfold applyS at h
  cases hw : wordOf call with
  | none => rw [hw] at h; cases h
  | some w =>
  rw [hw] at h
  simp only at h
  split at h
  · cases h
  split at h
  · cases h
  split at h
  · cases h
  cases hW : wholeW w s args with
  | none => rw [hW] at h; cases h
  | some n =>
  cases hH : howS text with
  | none => rw [hW, hH] at h; cases h
  | some how =>
  rw [hW, hH] at h
  simp only at h
  split at h
  · cases h
  split at h
  · cases hC : coarserS s n how with
    | none => rw [hC] at h; cases h
    | some y =>
      rw [hC] at h
      simp only at h
      split at h
      · cases h
      · cases h; simp only; omega
  · cases h; simp only [vals_len]; exact hl
end Go.Shp
namespace Go.Proofs.YtipncibiodfmdaaGreatDoor
open Go.Abs Go.Num Go.Ser Go.Dec Go.Shp
variable {G : Globs}
theorem applies_law [GSpc] [GPow] (c : Cl) (hc : ClOk c) (s : Sr) (hs : SrOk s) : PCalls Tryz.prog n_isobarlaw25_ShapeAppliesX [clA c, srA s] (fun r => r = .bool true) := by
  refine pcalls_of_awp hmix c_isobarlaw25_ShapeAppliesX rfl ?_
  have kG := great25_ok (G := G) c.word c.text s.name (.lst (numEls c.args)) (.lst (numEls s.vals)) c.args.length s.vals.length (.inr ⟨_, rfl, rfl⟩) (.inr ⟨_, rfl, rfl⟩) s.start s.step
  have hlen := numEls_len c.args
  rw [clA_eq, srA_eq]
  simp [a_isobarlaw25_ShapeAppliesX]
  refine ac_same alive25_ok (by simp) ?_
  rintro r rfl
  simp
  refine ac_same kG (by simp) ?_
  rintro r rfl
  cases hg : great25 c.word.length c.args.length c.text.length s.vals.length s.name.length with
  | true => simp
  | false =>
    obtain ⟨g1, g2, g3, g4, g5⟩ := great25_no hg
    have kA := sApply_ok (G := G) c.word s hs c.args hc.ar c.text (by omega) (by omega)
    have kB := rsApply_ok (G := G) c.word s hs c.args hc.ar c.text (by omega) (by omega)
    have kC := copy_ok (G := G) s (by omega)
    have kS := sameS_ok (G := G) s (by omega)
    have kN := same_ok (G := G) c.args (by omega)
    rw [srA_eq s] at kA kB kC kS
    simp
    refine ac_same kC (by simp) ?_
    rintro r rfl
    simp [splice]
    refine ap_row [] (numEls c.args) false (by simp) rfl (by decide) (numEls_two _) (fun h => by cases h) rfl ?_ ?_ ?_
    · simp [hlen]; omega
    · simp [hlen]; omega
    obtain ⟨x, e, hx, hxl⟩ : ∃ x e, applyA (applyS c.word s c.args c.text) = .tup [srA x, .int .i64 e] ∧ x.vals.length ≤ 2000 := by
      cases hX : applyS c.word s c.args c.text with
      | error e => exact ⟨noSr, e, rfl, by simp [noSr]⟩
      | ok x => exact ⟨x, 0, rfl, apply_len hX (by omega)⟩
    have kX := sameS_ok (G := G) x (by omega)
    rw [srA_eq x] at kX
    rw [hx, srA_eq x] at kA kB
    simp [hlen]
    refine ac_frz ⟨3, 33, 2, numEls c.args, numEls c.args, rfl, numEls_share _ _, rfl⟩ (.inl ⟨_, _, .cons (.pure _ (by simp)) (.cons (.pure _ (by simp)) (.cons (.row 3 c.args.length 33 2 (numEls c.args) true (by simp) hlen (.inl rfl)) (.cons (.pure _ (by simp)) .nil))), kA, ?_⟩)
    rintro r rfl
    simp [splice]
    refine ac_same kB (by simp) ?_
    rintro r rfl
    simp [splice]
    refine ac_same kX (by simp) ?_
    rintro r rfl
    simp
    refine ac_same kS (by simp) ?_
    rintro r rfl
    simp
    refine ac_pure kN (.cons (.row 3 c.args.length 33 2 (numEls c.args) true (by simp) hlen (.inl rfl)) (.cons (.pure _ (by simp)) .nil)) ?_
    rintro r rfl
    simp
end Go.Proofs.YtipncibiodfmdaaGreatDoor
end
section
set_option linter.unusedSimpArgs false
set_option linter.unusedVariables false
set_option linter.constructorNameAsVariable false
set_option maxHeartbeats 4000000
namespace Go.Shp
open Go.Num Go.Ser Go.Dec Go.Abs Go.Proofs.YtipncibiodfmdaaGreatDoor
theorem rnd_exact (x d : Nat) (hd : 0 < d) : rnd (x * d) d = x := by
  unfold rnd
  rw [Nat.mul_div_cancel _ hd, Nat.mul_mod_left, if_neg (by omega)]
  rfl
theorem tell_of {n : Int} (h1 : -most ≤ n) (h2 : n ≤ most) : tell n = (false, n) := by unfold tell; rw [if_pos ⟨h1, h2⟩]
theorem sgn_mul (v : Int) (P : Nat) (hP : 0 < P) : sgn (decide (v < 0)) (v.natAbs * P) = v * P := by
  unfold sgn
  by_cases h : v < 0
  · rw [if_pos (by simpa using h)]
    have : v = -(v.natAbs : Int) := by omega
    rw [Int.natCast_mul]
    conv => rhs; rw [this]
    rw [Int.neg_mul]
  · rw [if_neg (by simpa using h)]
    have : v = (v.natAbs : Int) := by omega
    rw [Int.natCast_mul]
    conv => rhs; rw [this]
/-- What is scaled by a power of two, and by its inverse. -/
theorem scale_back {v : N} (ho : okN v) {P Q : Nat} (h : P * Q = 1000000) (hn : (mulN v (false, (P : Int) * 1000000)).1 = false) : mulN (mulN v (false, (P : Int) * 1000000)) (false, (Q : Int)) = v := by
  have hP : 0 < P := Nat.pos_of_ne_zero fun h0 => by subst h0; simp at h
  have hQ : 0 < Q := Nat.pos_of_ne_zero fun h0 => by subst h0; simp at h
  have hPm : P ≤ 1000000 := by rw [← h]; exact Nat.le_mul_of_pos_right _ hQ
  have hQm : Q ≤ 1000000 := by rw [← h]; exact Nat.le_mul_of_pos_left _ hP
  have gP : good ((false, (P : Int) * 1000000) : N) = true := good_iff.2 ⟨rfl, by simp only [most]; omega⟩
  have gQ : good ((false, (Q : Int)) : N) = true := good_iff.2 ⟨rfl, by simp only [most]; omega⟩
  cases gv : good v with
  | false => unfold mulN at hn; rw [gv] at hn; simp [nothing] at hn
  | true =>
  obtain ⟨v1, v2⟩ := good_iff.1 gv
  have e1 : mulN v (false, (P : Int) * 1000000) = tell (v.2 * P) := by
    unfold mulN
    rw [gv, gP]
    have b1 : decide ((P : Int) * 1000000 < 0) = false := by simp; omega
    have b2 : ((P : Int) * 1000000).natAbs = P * 1000000 := by omega
    simp only [Bool.and_self, if_true, b1, b2, Bool.bne_false]
    rw [← Nat.mul_assoc, rnd_exact _ _ (by decide), sgn_mul _ _ hP]
  rw [e1] at hn ⊢
  obtain ⟨m, hm⟩ : ∃ m, m = v.2 * (P : Int) := ⟨_, rfl⟩
  rw [← hm] at hn ⊢
  have hr : -most ≤ m ∧ m ≤ most := by
    rcases Classical.em (-most ≤ m ∧ m ≤ most) with h | h
    · exact h
    · unfold tell at hn; rw [if_neg h] at hn; simp [nothing] at hn
  rw [tell_of hr.1 hr.2]
  have gm : good ((false, m) : N) = true := good_iff.2 ⟨rfl, hr.1⟩
  unfold mulN
  rw [gm, gQ]
  have b1 : decide ((Q : Int) < 0) = false := by simp
  have b3 : m.natAbs = v.2.natAbs * P := by rw [hm, Int.natAbs_mul, Int.natAbs_natCast]
  have b4 : decide (m < 0) = decide (v.2 < 0) := by
    have hPi : (0 : Int) < P := by omega
    by_cases h0 : v.2 < 0
    · have := Int.mul_neg_of_neg_of_pos h0 hPi
      simp [h0, hm, this]
    · have := Int.mul_nonneg (a := v.2) (b := (P : Int)) (by omega) (by omega)
      have h2 : ¬ m < 0 := by omega
      simp [h0, h2]
  simp only [Bool.and_self, if_true, b1, Bool.bne_false, Int.natAbs_natCast]
  rw [b3, b4, Nat.mul_assoc, h, rnd_exact _ _ (by decide)]
  have b5 : sgn (decide (v.2 < 0)) v.2.natAbs = v.2 := by
    have := sgn_mul v.2 1 (by decide)
    simpa using this
  rw [b5, tell_of v2 ho.2]
  exact Prod.ext v1.symm rfl
theorem reckon_one {v : N} (h : rightN v = true) : reckon 2 [v] = v := by
  rcases gn_of h with h1 | h1
  · unfold reckon known
    rw [List.filter_cons, if_pos h1]
    rfl
  · rw [h1]; rfl
theorem moving_one {s : Sr} (hs : SrR s) {args : List N} : valsW .movingSum s args 1 = s.vals := by
  apply List.ext_getElem?
  intro i
  by_cases h : i < s.vals.length
  · rw [vals_get _ _ _ _ h]
    simp only [valueW]
    have : (s.vals.take (i + 1)).drop (i + 1 - (1 : Int).toNat) = [s.vals[i]] := by
      rw [List.take_add_one, List.getElem?_eq_getElem h]
      show List.drop (i + 1 - 1) _ = _
      rw [Nat.add_sub_cancel, List.drop_append_of_le_length (by simp; omega), List.drop_eq_nil_of_le (by simp; omega)]
      rfl
    rw [this]
    show some (reckon 2 _) = _
    rw [reckon_one (hs.rs _ (List.getElem_mem h)), List.getElem?_eq_getElem h]
  · rw [List.getElem?_eq_none (by rw [vals_len]; omega), List.getElem?_eq_none (by omega)]
theorem reckon_app (l : List N) {x : N} (h : good x = true) : reckon 2 (l ++ [x]) = if known l = [] then x else addN (reckon 2 l) x := by
  have e : known (l ++ [x]) = known l ++ [x] := by
    unfold known
    rw [List.filter_append, List.filter_cons, if_pos h]; rfl
  unfold reckon
  rw [e]
  cases hk : known l with
  | nil => simp [reckonK]
  | cons k ks => simp [reckonK, List.foldl_append]
/-- Is a value known, and not too large? -/
def midN (v : N) : Bool := !v.1 && decide (v.2 < 1099511627776) && decide (-1099511627776 < v.2)
theorem mid_iff {v : N} : midN v = true ↔ v.1 = false ∧ v.2 < 1099511627776 ∧ -1099511627776 < v.2 := by
  unfold midN
  simp [and_assoc]
theorem mid_good {v : N} (h : midN v = true) : good v = true := by
  obtain ⟨h1, h2, h3⟩ := mid_iff.1 h
  exact good_iff.2 ⟨h1, by simp only [most]; omega⟩
theorem sub_mid {a b : N} (ha : midN a = true) (hb : midN b = true) : subN a b = (false, a.2 - b.2) := by
  obtain ⟨a1, a2, a3⟩ := mid_iff.1 ha
  obtain ⟨b1, b2, b3⟩ := mid_iff.1 hb
  have gn1 : good ((false, -b.2) : N) = true := good_iff.2 ⟨rfl, by simp only [most]; omega⟩
  unfold subN negN
  rw [if_pos (mid_good hb)]
  unfold addN
  rw [mid_good ha, gn1]
  simp only [Bool.and_self, if_true]
  rw [tell_of (by simp only [most]; omega) (by simp only [most]; omega)]
  exact Prod.ext rfl (by simp only; omega)
theorem sub_nothing (a : N) : subN a nothing = nothing := by
  unfold subN negN
  rw [if_neg (by decide)]
  unfold addN
  have : good nothing = false := rfl
  rw [this]; simp
/-- What is derived and integrated is less by the first value. -/
theorem derived_sums {s : Sr} {args : List N} {m : Int} (hm : ∀ v ∈ s.vals, midN v = true) : ∀ k, 1 ≤ k → k < s.vals.length →
    known ((valsW .derivative s args m).take (k + 1)) ≠ [] ∧ reckon 2 ((valsW .derivative s args m).take (k + 1)) = (false, (s.vals.getD k nothing).2 - (s.vals.getD 0 nothing).2) := by
  obtain ⟨D, hD⟩ : ∃ D, D = valsW .derivative s args m := ⟨_, rfl⟩
  have hmid : ∀ i, i < s.vals.length → midN (s.vals.getD i nothing) = true := fun i h => by
    rw [List.getD_eq_getElem?_getD, List.getElem?_eq_getElem h]; exact hm _ (List.getElem_mem h)
  have hg : ∀ i, i < s.vals.length → D[i]? = some (subN (s.vals.getD i nothing) (prevN s.vals i)) := fun i h => by
    rw [hD, vals_get _ _ _ _ h]; rfl
  have h0 : 0 < s.vals.length → D.take 1 = [nothing] := fun h => by
    rw [show 1 = 0 + 1 from rfl, List.take_add_one, hg 0 h]
    simp [prevN, sub_nothing]
  have hx : ∀ k, 1 ≤ k → k < s.vals.length → D[k]? = some (false, (s.vals.getD k nothing).2 - (s.vals.getD (k - 1) nothing).2) := fun k h1 h2 => by
    rw [hg k h2]
    unfold prevN
    rw [if_neg (by omega), sub_mid (hmid k h2) (hmid (k - 1) (by omega))]
  rw [← hD]
  intro k
  induction k with
  | zero => intro h; omega
  | succ k ih =>
    intro _ hk
    have hm1 := mid_iff.1 (hmid (k + 1) hk)
    have hm2 := mid_iff.1 (hmid k (by omega))
    have hm3 := mid_iff.1 (hmid 0 (by omega))
    have e : D.take (k + 1 + 1) = D.take (k + 1) ++ [(false, (s.vals.getD (k + 1) nothing).2 - (s.vals.getD k nothing).2)] := by
      rw [List.take_add_one (i := k + 1), hx (k + 1) (by omega) hk]; rfl
    have gx : good ((false, (s.vals.getD (k + 1) nothing).2 - (s.vals.getD k nothing).2) : N) = true := good_iff.2 ⟨rfl, by simp only [most]; omega⟩
    have kn : known (D.take (k + 1 + 1)) ≠ [] := by
      rw [e]; unfold known
      rw [List.filter_append, List.filter_cons, if_pos gx]
      simp
    refine ⟨kn, ?_⟩
    rw [e, reckon_app _ gx]
    cases k with
    | zero =>
      have : D.take (0 + 1) = [nothing] := h0 (by omega)
      rw [this, if_pos (by rfl)]
    | succ k =>
      obtain ⟨ih1, ih2⟩ := ih (by omega) (by omega)
      rw [if_neg ih1, ih2]
      have g2 : good ((false, (s.vals.getD (k + 1) nothing).2 - (s.vals.getD 0 nothing).2) : N) = true := good_iff.2 ⟨rfl, by simp only [most]; omega⟩
      unfold addN
      rw [g2, gx]
      simp only [Bool.and_self, if_true]
      rw [tell_of (by simp only [most]; omega) (by simp only [most]; omega)]
      exact Prod.ext rfl (by simp only; omega)
theorem derived_back {s d : Sr} {args args' : List N} {m m' : Int} (hd : d.vals = valsW .derivative s args m) (hm : ∀ v ∈ s.vals, midN v = true) {k : Nat} (h1 : 1 ≤ k) (hk : k < s.vals.length) :
    valueW .integral d args' m' k = subN (s.vals.getD k nothing) (s.vals.getD 0 nothing) := by
  have hmid : ∀ i, i < s.vals.length → midN (s.vals.getD i nothing) = true := fun i h => by
    rw [List.getD_eq_getElem?_getD, List.getElem?_eq_getElem h]; exact hm _ (List.getElem_mem h)
  obtain ⟨_, h2⟩ := derived_sums (args := args) (m := m) hm k h1 hk
  simp only [valueW]
  have e : d.vals.getD k nothing = (false, (s.vals.getD k nothing).2 - (s.vals.getD (k - 1) nothing).2) := by
    rw [hd, vals_getD _ _ _ _ hk]
    show subN _ (prevN _ _) = _
    unfold prevN
    rw [if_neg (by omega), sub_mid (hmid k hk) (hmid (k - 1) (by omega))]
  rw [e, if_neg (by simp), hd, h2, sub_mid (hmid k hk) (hmid 0 (by omega))]
end Go.Shp
namespace Go.Proofs.YtipncibiodfmdaaGreatDoor
open Go.Abs Go.Num Go.Ser Go.Dec Go.Shp
variable {G : Globs}
theorem pow_facts {p : Nat} (h : p < 7) : ∃ P Q : Nat, P * Q = 1000000 ∧ 1 ≤ P ∧ P ≤ 64 ∧ 1 ≤ Q ∧ Q ≤ 1000000 ∧ IntKind.i64.wrap (1000000 * 2 ^ min p IntKind.i64.bits) = (P : Int) * 1000000 ∧ Int.fdiv 1000000 (2 ^ min p IntKind.i64.bits) = (Q : Int) := by
  refine ⟨2 ^ p, 1000000 / 2 ^ p, ?_⟩
  have : p = 0 ∨ p = 1 ∨ p = 2 ∨ p = 3 ∨ p = 4 ∨ p = 5 ∨ p = 6 := by omega
  rcases this with rfl | rfl | rfl | rfl | rfl | rfl | rfl <;> decide
end Go.Proofs.YtipncibiodfmdaaGreatDoor
namespace Go.Proofs.YtipncibiodfmdaaGreatDoor
open Go.Abs Go.Num Go.Ser Go.Dec Go.Shp
variable {G : Globs}
theorem together_law [GSpc] [GPow] (s : Sr) (hs : SrOk s) (c : UInt8) : PCalls Tryz.prog n_isobarlaw25_ShapeTogether [srA s, .int .u8 c.toNat] (fun r => r = .bool true) := by
  refine pcalls_of_awp hmix c_isobarlaw25_ShapeTogether rfl ?_
  have kG := great25_ok (G := G) [] [] s.name .nils (.lst (numEls s.vals)) 0 s.vals.length (.inl ⟨rfl, rfl⟩) (.inr ⟨_, rfl, rfl⟩) s.start s.step
  have kR := rsRight_ok (G := G) s hs
  have hlen := numEls_len s.vals
  rw [srA_eq] at kR ⊢
  simp [a_isobarlaw25_ShapeTogether]
  refine ac_same alive25_ok (by simp) ?_
  rintro r rfl
  simp
  refine ac_same kG (by simp) ?_
  rintro r rfl
  cases hg : great25 0 0 0 s.vals.length s.name.length with
  | true => simp [hg]
  | false =>
  obtain ⟨-, -, -, g4, g5⟩ := great25_no hg
  simp [hg]
  refine ac_same kR (by simp) ?_
  rintro r rfl
  cases hr : rightS s with
  | false => simp
  | true =>
  have hSR := right_iff.1 hr
  by_cases hnm : 300 < s.name.length
  · have hnm' : (300 : Int) < (s.name.length : Int) := by omega
    simp [hnm, hnm']
  have hnm' : ¬ (300 : Int) < (s.name.length : Int) := by omega
  obtain ⟨p, hp⟩ : ∃ p : Nat, p = c.toNat % 7 := ⟨_, rfl⟩
  have hp7 : p < 7 := by omega
  have hc8 : c.toNat < 256 := c.toNat_lt
  have e0 : ((c.toNat : Nat) : Int).tmod 7 = (p : Int) := by rw [Int.tmod_eq_emod_of_nonneg (by omega)]; omega
  have e0' : ((c.toNat : Nat) : Int) % 7 = (p : Int) := by omega
  have w8 : IntKind.u8.wrap (p : Int) = (p : Int) := by rw [show IntKind.u8.wrap (p : Int) = (p : Int) % 256 from rfl]; omega
  obtain ⟨P, Q, hPQ, P1, P2, Q1, Q2, hs1, hs2⟩ := pow_facts hp7
  have ok1 : oksN [((false, (P : Int) * 1000000) : N)] := fun n hn => by simp at hn; subst hn; unfold okN; simp only; omega
  have ok2 : oksN [((false, (Q : Int)) : N)] := fun n hn => by simp at hn; subst hn; unfold okN; simp only; omega
  have ok3 : oksN [oneN] := fun n hn => by simp at hn; subst hn; unfold okN oneN; decide
  have ok0 : oksN [] := fun n hn => by simp at hn
  have gd1 : ([((false, (P : Int) * 1000000) : N)]).any (fun n => !good n) = false := by simp [good_iff]; simp only [most]; omega
  have gd2 : ([((false, (Q : Int)) : N)]).any (fun n => !good n) = false := by
    have : good ((false, (Q : Int)) : N) = true := good_iff.2 ⟨rfl, by simp only [most]; omega⟩
    simp [this]
  have gd3 : ([oneN]).any (fun n => !good n) = false := by decide
  -- the five series
  have hA := apply_of (w := .scale) (by decide) hSR ok1 (Nat.le_refl 1) (Nat.le_refl 1) gd1 (n := -1) rfl (by simp [Wd.txt]; omega)
  obtain ⟨a, ha⟩ : ∃ a : Sr, a = ⟨labelS Wd.scale.txt s.name [((false, (P : Int) * 1000000) : N)] [], s.start, s.step, valsW .scale s [((false, (P : Int) * 1000000) : N)] (-1)⟩ := ⟨_, rfl⟩
  rw [← ha] at hA
  obtain ⟨aR, al, -, -⟩ := long_right hs.vs hA (by decide)
  have ao := sr_ok aR (by rw [ha]; exact ok_vals _ hs.vs ok1 _)
  have han : a.name.length ≤ 340 := by
    have := label_len .scale s.name [((false, (P : Int) * 1000000) : N)] ok1
    rw [ha]; simp [Wd.txt] at this ⊢; omega
  have hB := apply_of (w := .scale) (by decide) aR ok2 (Nat.le_refl 1) (Nat.le_refl 1) gd2 (n := -1) rfl (by simp [Wd.txt]; omega)
  have hC := apply_of (w := .movingSum) (by decide) hSR ok3 (Nat.le_refl 1) (Nat.le_refl 1) gd3 (n := 1) (by have := whole_mul 1 1 2000 (by decide) (by decide); simp [wholeW, Wd.bounds, oneN] at this ⊢; rw [this]) (by simp [Wd.txt]; omega)
  rw [moving_one hSR] at hC
  have hD := apply_of (w := .derivative) (by decide) hSR ok0 (Nat.le_refl 0) (Nat.le_refl 0) rfl (n := -1) rfl (by simp [Wd.txt]; omega)
  obtain ⟨d, hd⟩ : ∃ d : Sr, d = ⟨labelS Wd.derivative.txt s.name [] [], s.start, s.step, valsW .derivative s [] (-1)⟩ := ⟨_, rfl⟩
  rw [← hd] at hD
  obtain ⟨dR, dl, -, -⟩ := long_right hs.vs hD (by decide)
  have do' := sr_ok dR (by rw [hd]; exact ok_vals _ hs.vs ok0 _)
  have hdn : d.name.length ≤ 340 := by
    have := label_len .derivative s.name [] ok0
    rw [hd]; simp [Wd.txt] at this ⊢; omega
  have hI := apply_of (w := .integral) (by decide) dR ok0 (Nat.le_refl 0) (Nat.le_refl 0) rfl (n := -1) rfl (by simp [Wd.txt]; omega)
  have k1 := sApply_ok (G := G) Wd.scale.txt s hs [((false, (P : Int) * 1000000) : N)] ok1 [] (by simp) (by decide)
  have k2 := sApply_ok (G := G) Wd.scale.txt a ao [((false, (Q : Int)) : N)] ok2 [] (by simp) (by decide)
  have k3 := sApply_ok (G := G) Wd.movingSum.txt s hs [oneN] ok3 [] (by simp) (by decide)
  have k4 := sApply_ok (G := G) Wd.derivative.txt s hs [] ok0 [] (by simp) (by decide)
  have k5 := sApply_ok (G := G) Wd.integral.txt d do' [] ok0 [] (by simp) (by decide)
  rw [hA] at k1
  rw [hB] at k2
  rw [hC] at k3
  rw [hD] at k4
  rw [hI] at k5
  obtain ⟨L2, hL2⟩ : ∃ L2, L2 = labelS Wd.scale.txt a.name [((false, (Q : Int)) : N)] [] := ⟨_, rfl⟩
  obtain ⟨V2, hV2⟩ : ∃ V, V = valsW .scale a [((false, (Q : Int)) : N)] (-1) := ⟨_, rfl⟩
  obtain ⟨L3, hL3⟩ : ∃ L3, L3 = labelS Wd.movingSum.txt s.name [oneN] [] := ⟨_, rfl⟩
  obtain ⟨L5, hL5⟩ : ∃ L5, L5 = labelS Wd.integral.txt d.name [] [] := ⟨_, rfl⟩
  obtain ⟨V5, hV5⟩ : ∃ V, V = valsW .integral d [] (-1) := ⟨_, rfl⟩
  rw [← hL2, ← hV2] at k2
  rw [← hL3] at k3
  rw [← hL5, ← hV5] at k5
  have hVa := numEls_len a.vals
  have hVl2 : V2.length = s.vals.length := by rw [hV2, vals_len, al]
  have hVe2 := numEls_len V2
  have hVl5 : V5.length = s.vals.length := by rw [hV5, vals_len, dl]
  have hVe5 := numEls_len V5
  have hback : ∀ i y, s.vals[i]? = some y → ∃ z u : N, a.vals[i]? = some z ∧ V2[i]? = some u ∧ (z.1 = false → u = y) := fun i y hy => by
    have hi := (List.getElem?_eq_some_iff.1 hy).1
    have hgy : s.vals.getD i nothing = y := by rw [List.getD_eq_getElem?_getD, hy]; rfl
    have h1 : a.vals[i]? = some (mulN y (false, (P : Int) * 1000000)) := by
      rw [ha]; simp only
      rw [vals_get _ _ _ _ hi]
      simp only [valueW, hgy]; rfl
    have hga : a.vals.getD i nothing = mulN y (false, (P : Int) * 1000000) := by rw [List.getD_eq_getElem?_getD, h1]; rfl
    refine ⟨_, mulN (mulN y (false, (P : Int) * 1000000)) (false, (Q : Int)), h1, ?_, fun hz => scale_back (hs.vs y (List.mem_of_getElem? hy)) hPQ hz⟩
    rw [hV2, vals_get _ _ _ _ (by omega)]
    simp only [valueW, hga]; rfl
  have hder : (s.vals.all midN) = true → ∀ i, 1 ≤ i → i < s.vals.length → V5[i]? = some (subN (s.vals.getD i nothing) (s.vals.getD 0 nothing)) := fun hall i h1 hi => by
    rw [hV5, vals_get _ _ _ _ (by omega)]
    rw [derived_back (s := s) (d := d) (args := []) (m := -1) (by rw [hd]) (List.all_eq_true.1 hall) h1 hi]
  have kS := same_ok (G := G) s.vals (by omega)
  have hen1 : numEls [((false, (P : Int) * 1000000) : N)] = [[.bool false, .int .i64 ((P : Int) * 1000000)]] := rfl
  have hen2 : numEls [((false, (Q : Int)) : N)] = [[.bool false, .int .i64 (Q : Int)]] := rfl
  have hen3 : numEls [oneN] = [[.bool false, .int .i64 1000000]] := rfl
  have hen0 : numEls [] = [] := rfl
  simp only [applyA, srA_eq, hen1, hen2, hen3, hen0, Wd.txt] at k1 k2 k3 k4 k5
  simp [hnm, hnm', e0, e0', w8, hs1, hs2, lay, splice, chunks]
  refine ac_same k1 (by simp) ?_
  rintro r rfl
  simp [lay, splice, chunks]
  refine ac_same k2 (by simp) ?_
  rintro r rfl
  simp [lay, splice, chunks]
  refine ac_same k3 (by simp) ?_
  rintro r rfl
  simp [lay, splice, chunks]
  refine ac_pure k4 (.cons (.pure _ (by simp)) (.cons (.pure _ (by simp)) (.cons .nils (.cons (.pure _ (by simp)) .nil)))) ?_
  rintro r rfl
  simp [lay, splice, chunks]
  refine ac_pure k5 (.cons (.pure _ (by simp)) (.cons (.pure _ (by simp)) (.cons .nils (.cons (.pure _ (by simp)) .nil)))) ?_
  rintro r rfl
  simp [lay, splice, chunks]
  refine ac_same kS (by simp) ?_
  rintro r rfl
  simp [hlen]
  obtain ⟨A, hAll⟩ : ∃ A : Nat → Bool, A = fun k => (decide (0 < s.vals.length) && (s.vals.take k).all midN) := ⟨_, rfl⟩
  have hA0 : A 0 = decide (0 < s.vals.length) := by rw [hAll]; simp
  refine lp_join 0 (fun f σ => f 2 = .ptr 0 0 ∧ f 15 = .ptr 7 0 ∧ f 17 = .bool (A s.vals.length) ∧
    σ = [.var 24 [.str s.name, .int .i64 s.start, .int .i64 s.step, .lst (numEls s.vals)], .var 33 [.bool false, .int .i64 ((P : Int) * 1000000)], .var 33 [.bool false, .int .i64 (Q : Int)], .var 24 [.str a.name, .int .i64 a.start, .int .i64 a.step, .lst (numEls a.vals)], .var 24 [.str L2, .int .i64 a.start, .int .i64 a.step, .lst (numEls V2)], .var 24 [.str L3, .int .i64 s.start, .int .i64 s.step, .lst (numEls s.vals)], .var 24 [.str d.name, .int .i64 d.start, .int .i64 d.step, .lst (numEls d.vals)], .var 24 [.str L5, .int .i64 d.start, .int .i64 d.step, .lst (numEls V5)]]) ?_ ?_
  · rintro f σ ⟨f2, f15, f17, rfl⟩
    obtain ⟨B, hB⟩ : ∃ B, B = A s.vals.length := ⟨_, rfl⟩
    rw [← hB] at f17
    simp [f2, f15, f17]
    refine lp_startx (fun x f σ => ∃ k : Nat, x = s.vals.length - k ∧ f 2 = .ptr 0 0 ∧ f 15 = .ptr 7 0 ∧ f 17 = .bool B ∧ f 19 = .int .i64 k ∧ 1 ≤ k ∧ k ≤ s.vals.length + 1 ∧
      σ = [.var 24 [.str s.name, .int .i64 s.start, .int .i64 s.step, .lst (numEls s.vals)], .var 33 [.bool false, .int .i64 ((P : Int) * 1000000)], .var 33 [.bool false, .int .i64 (Q : Int)], .var 24 [.str a.name, .int .i64 a.start, .int .i64 a.step, .lst (numEls a.vals)], .var 24 [.str L2, .int .i64 a.start, .int .i64 a.step, .lst (numEls V2)], .var 24 [.str L3, .int .i64 s.start, .int .i64 s.step, .lst (numEls s.vals)], .var 24 [.str d.name, .int .i64 d.start, .int .i64 d.step, .lst (numEls d.vals)], .var 24 [.str L5, .int .i64 d.start, .int .i64 d.step, .lst (numEls V5)]]) (s.vals.length - 1) ?_ ?_
    · exact ⟨1, by omega, by simp [f2], by simp [f15], by simp [f17], by simp, by omega, by omega, rfl⟩
    rintro x f σ ⟨k, rfl, f2, f15, f17, f19, hk1, hk, rfl⟩
    by_cases hlt : k < s.vals.length
    · have hlt' : (k : Int) < (s.vals.length : Int) := by omega
      cases hBv : B with
      | false =>
        rw [hBv] at f17
        simp [f2, f15, f17, f19, hlen, hlt, hlt']
      | true =>
        rw [hBv] at f17 hB
        have hall : s.vals.all midN = true := by
          have := hB.symm
          rw [hAll] at this
          simp only [Bool.and_eq_true, List.take_length] at this
          exact this.2
        obtain ⟨y, hy⟩ : ∃ y, s.vals[k]? = some y := ⟨_, List.getElem?_eq_getElem hlt⟩
        obtain ⟨y0, hy0⟩ : ∃ y, s.vals[0]? = some y := ⟨_, List.getElem?_eq_getElem (by omega)⟩
        have hgy : s.vals.getD k nothing = y := by rw [List.getD_eq_getElem?_getD, hy]; rfl
        have hgy0 : s.vals.getD 0 nothing = y0 := by rw [List.getD_eq_getElem?_getD, hy0]; rfl
        have hv := hder hall k hk1 hlt
        rw [hgy, hgy0] at hv
        have kN := rnSub_ok (G := G) y y0 (hs.vs y (List.mem_of_getElem? hy)) (hs.vs y0 (List.mem_of_getElem? hy0))
        obtain ⟨u, hu⟩ : ∃ u, u = subN y y0 := ⟨_, rfl⟩
        rw [← hu] at hv kN
        rw [numA_eq y, numA_eq y0, numA_eq u] at kN
        obtain ⟨hx1, hx2⟩ := List.getElem?_eq_some_iff.1 (numEls_get hy)
        obtain ⟨hz1, hz2⟩ := List.getElem?_eq_some_iff.1 (numEls_get hy0)
        obtain ⟨hv1, hv2⟩ := List.getElem?_eq_some_iff.1 (numEls_get hv)
        have h0l : 0 < s.vals.length := by omega
        have hw : IntKind.i64.wrap ((k : Int) + 1) = (k : Int) + 1 := wrap_i64 (by omega) (by omega)
        simp [f2, f15, f17, f19, hlen, hVe5, hVl5, hlt, hlt', hx1, hx2, hz1, hz2, hv1, hv2, h0l]
        refine qc_same kN (by simp) (by simp) ?_
        simp [f19, hw]
        refine nx_intro (s.vals.length - (k + 1)) (by omega) ⟨k + 1, rfl, by simp [f2], by simp [f15], by simp [f17], by simp, by omega, by omega, rfl⟩
    · have hlt' : ¬ (k : Int) < (s.vals.length : Int) := by omega
      simp [f2, f15, f17, f19, hlen, hlt, hlt']
  · refine lp_startx (fun x f σ => ∃ k : Nat, x = s.vals.length - k ∧ k ≤ s.vals.length ∧ f 2 = .ptr 0 0 ∧ f 7 = .ptr 3 0 ∧ f 9 = .ptr 4 0 ∧ f 15 = .ptr 7 0 ∧ f 17 = .bool (A k) ∧ f 18 = .int .i64 k ∧
      σ = [.var 24 [.str s.name, .int .i64 s.start, .int .i64 s.step, .lst (numEls s.vals)], .var 33 [.bool false, .int .i64 ((P : Int) * 1000000)], .var 33 [.bool false, .int .i64 (Q : Int)], .var 24 [.str a.name, .int .i64 a.start, .int .i64 a.step, .lst (numEls a.vals)], .var 24 [.str L2, .int .i64 a.start, .int .i64 a.step, .lst (numEls V2)], .var 24 [.str L3, .int .i64 s.start, .int .i64 s.step, .lst (numEls s.vals)], .var 24 [.str d.name, .int .i64 d.start, .int .i64 d.step, .lst (numEls d.vals)], .var 24 [.str L5, .int .i64 d.start, .int .i64 d.step, .lst (numEls V5)]]) s.vals.length ?_ ?_
    · exact ⟨0, rfl, by omega, by simp, by simp, by simp, by simp, by simp [hA0], by simp, rfl⟩
    rintro x f σ ⟨k, rfl, hk, f2, f7, f9, f15, f17, f18, rfl⟩
    obtain ⟨B, hB⟩ : ∃ B, B = (A k) := ⟨_, rfl⟩
    rw [← hB] at f17
    by_cases hlt : k < s.vals.length
    · have hlt' : (k : Int) < (s.vals.length : Int) := by omega
      obtain ⟨y, hy⟩ : ∃ y, s.vals[k]? = some y := ⟨_, List.getElem?_eq_getElem hlt⟩
      obtain ⟨z, u, hz, hu, hzu⟩ := hback k y hy
      obtain ⟨hx1, hx2⟩ := List.getElem?_eq_some_iff.1 (numEls_get hy)
      obtain ⟨hz1, hz2⟩ := List.getElem?_eq_some_iff.1 (numEls_get hz)
      obtain ⟨hu1, hu2⟩ := List.getElem?_eq_some_iff.1 (numEls_get hu)
      have hw : IntKind.i64.wrap ((k : Int) + 1) = (k : Int) + 1 := wrap_i64 (by omega) (by omega)
      have hnext : A (k + 1) = (B && midN y) := by
        rw [hB, hAll]
        simp only
        rw [List.take_add_one, hy, List.all_append]
        simp [Bool.and_assoc]
      cases hz0 : z.1 with
      | true =>
        rw [show midN y = (!y.1 && decide (y.2 < 1099511627776) && decide (-1099511627776 < y.2)) from rfl] at hnext
        cases hBv : B with
        | false =>
          rw [hBv] at f17 hnext
          simp at hnext
          simp [f2, f7, f9, f17, f18, hlen, hVa, al, hVe2, hVl2, hlt, hlt', hx1, hx2, hz1, hz2, hz0, hw]
          refine nx_intro (s.vals.length - (k + 1)) (by omega) ⟨k + 1, rfl, by omega, by simp [f2], by simp [f7], by simp [f9], by simp [f15], by simp [hnext], by simp, rfl⟩
        | true =>
          rw [hBv] at f17 hnext
          cases hy1 : y.1 with
          | true =>
            rw [hy1] at hnext hx2
            simp at hnext
            simp [f2, f7, f9, f17, f18, hlen, hVa, al, hVe2, hVl2, hlt, hlt', hx1, hx2, hz1, hz2, hz0, hw, hy1]
            refine nx_intro (s.vals.length - (k + 1)) (by omega) ⟨k + 1, rfl, by omega, by simp [f2], by simp [f7], by simp [f9], by simp [f15], by simp [hnext], by simp, rfl⟩
          | false =>
            rw [hy1] at hnext hx2
            by_cases hb1 : y.2 < 1099511627776
            · by_cases hb2 : -1099511627776 < y.2
              · simp [hb1, hb2] at hnext
                simp [f2, f7, f9, f17, f18, hlen, hVa, al, hVe2, hVl2, hlt, hlt', hx1, hx2, hz1, hz2, hz0, hw, hy1, hb1, hb2]
                refine nx_intro (s.vals.length - (k + 1)) (by omega) ⟨k + 1, rfl, by omega, by simp [f2], by simp [f7], by simp [f9], by simp [f15], by simp [hnext], by simp, rfl⟩
              · simp [hb1, hb2] at hnext
                simp [f2, f7, f9, f17, f18, hlen, hVa, al, hVe2, hVl2, hlt, hlt', hx1, hx2, hz1, hz2, hz0, hw, hy1, hb1, hb2]
                refine nx_intro (s.vals.length - (k + 1)) (by omega) ⟨k + 1, rfl, by omega, by simp [f2], by simp [f7], by simp [f9], by simp [f15], by simp [hnext], by simp, rfl⟩
            · simp [hb1] at hnext
              simp [f2, f7, f9, f17, f18, hlen, hVa, al, hVe2, hVl2, hlt, hlt', hx1, hx2, hz1, hz2, hz0, hw, hy1, hb1]
              refine nx_intro (s.vals.length - (k + 1)) (by omega) ⟨k + 1, rfl, by omega, by simp [f2], by simp [f7], by simp [f9], by simp [f15], by simp [hnext], by simp, rfl⟩
      | false =>
        have huy := (hzu hz0).symm
        subst huy
        rw [show midN y = (!y.1 && decide (y.2 < 1099511627776) && decide (-1099511627776 < y.2)) from rfl] at hnext
        cases hBv : B with
        | false =>
          rw [hBv] at f17 hnext
          simp at hnext
          simp [f2, f7, f9, f17, f18, hlen, hVa, al, hVe2, hVl2, hlt, hlt', hx1, hx2, hz1, hz2, hz0, hu1, hu2, hw]
          refine nx_intro (s.vals.length - (k + 1)) (by omega) ⟨k + 1, rfl, by omega, by simp [f2], by simp [f7], by simp [f9], by simp [f15], by simp [hnext], by simp, rfl⟩
        | true =>
          rw [hBv] at f17 hnext
          cases hy1 : y.1 with
          | true =>
            rw [hy1] at hnext hx2
            simp at hnext
            simp [f2, f7, f9, f17, f18, hlen, hVa, al, hVe2, hVl2, hlt, hlt', hx1, hx2, hz1, hz2, hz0, hu1, hu2, hw, hy1]
            refine nx_intro (s.vals.length - (k + 1)) (by omega) ⟨k + 1, rfl, by omega, by simp [f2], by simp [f7], by simp [f9], by simp [f15], by simp [hnext], by simp, rfl⟩
          | false =>
            rw [hy1] at hnext hx2
            by_cases hb1 : y.2 < 1099511627776
            · by_cases hb2 : -1099511627776 < y.2
              · simp [hb1, hb2] at hnext
                simp [f2, f7, f9, f17, f18, hlen, hVa, al, hVe2, hVl2, hlt, hlt', hx1, hx2, hz1, hz2, hz0, hu1, hu2, hw, hy1, hb1, hb2]
                refine nx_intro (s.vals.length - (k + 1)) (by omega) ⟨k + 1, rfl, by omega, by simp [f2], by simp [f7], by simp [f9], by simp [f15], by simp [hnext], by simp, rfl⟩
              · simp [hb1, hb2] at hnext
                simp [f2, f7, f9, f17, f18, hlen, hVa, al, hVe2, hVl2, hlt, hlt', hx1, hx2, hz1, hz2, hz0, hu1, hu2, hw, hy1, hb1, hb2]
                refine nx_intro (s.vals.length - (k + 1)) (by omega) ⟨k + 1, rfl, by omega, by simp [f2], by simp [f7], by simp [f9], by simp [f15], by simp [hnext], by simp, rfl⟩
            · simp [hb1] at hnext
              simp [f2, f7, f9, f17, f18, hlen, hVa, al, hVe2, hVl2, hlt, hlt', hx1, hx2, hz1, hz2, hz0, hu1, hu2, hw, hy1, hb1]
              refine nx_intro (s.vals.length - (k + 1)) (by omega) ⟨k + 1, rfl, by omega, by simp [f2], by simp [f7], by simp [f9], by simp [f15], by simp [hnext], by simp, rfl⟩
    · have : k = s.vals.length := by omega
      subst this
      simp [f2, f18, hlen]
      exact jn_intro ⟨by simp [f2], by simp [f15], by simp [f17, hB], rfl⟩
end Go.Proofs.YtipncibiodfmdaaGreatDoor
end
