/- Functions of many series: what is aligned hangs not on the order of a list (plain). Functions of many series: sums, averages.. hang not on the order o -/
import Derived.OpenShut
import Derived.Shelf.Vars
import Derived.Handed
import Derived.DataWitness
import Derived.Test.YtdgpnmlialmaaaaGreatDoorBn1
import Derived.Test.YtdgpnmlialmaaaaGreatDoorBn2
import Derived.Test.YtdgpnmlialmaaaaGreatDoorBn3
import Derived.Test.YtdgpnmlialmaaaaGreatDoorBn4
import Derived.Test.YtdgpnmlialmaaaaGreatDoorBn5
import Derived.Test.YtdgpnmlialmaaaaGreatDoorBn6
import Derived.Test.YtdgpnmlialmaaaaGreatDoorBn7
import Derived.Test.YtdgpnmlialmaaaaGreatDoorBn8
import Derived.Test.YtdgpnmlialmaaaaGreatDoorBn9
set_option linter.unusedSimpArgs false
set_option linter.unusedVariables false
set_option linter.constructorNameAsVariable false
section
set_option maxHeartbeats 2000000
namespace Go.Ble
open Go.Num Go.Ser Go.Dec Go.Shp Go.Abs
theorem cm_lcm (a b : Nat) : cm a b = Nat.lcm a b := by
  unfold cm Nat.lcm
  exact Nat.div_mul_right_comm (Nat.gcd_dvd_left a b) b
def lF (st : Nat) (l : List Sr) : Nat := l.foldl (fun x s => cm x s.step.toNat) st
def mF (a : Int) (l : List Sr) : Int := l.foldl (fun x s => min x s.start) a
def xF (b : Int) (l : List Sr) : Int := l.foldl (fun x s => max x (endS s)) b
theorem lF_ge : ∀ (l : List Sr) (st : Nat), 0 < st → (∀ s ∈ l, SrR s) → st ≤ lF st l
  | [], st, _, _ => Nat.le_refl _
  | s :: l, st, h, hR => by
    have hs := hR s (by simp)
    have p0 := hs.p0
    have hc := cm_pos h (b := s.step.toNat) (by omega)
    have h1 : st ≤ cm st s.step.toNat := by rw [cm_lcm] at hc ⊢; exact Nat.le_of_dvd hc (Nat.dvd_lcm_left _ _)
    have := lF_ge l (cm st s.step.toNat) hc fun s hs => hR s (by simp [hs])
    exact Nat.le_trans h1 this
theorem scan_fold : ∀ (l : List Sr) (st : Nat) (a b : Int), 0 < st → st ≤ 86400 → (∀ s ∈ l, SrR s) → scanS st a b l = if lF st l ≤ 86400 then some (lF st l, mF a l, xF b l) else none
  | [], st, a, b, _, h2, _ => by 
    have e1 : lF st [] = st := rfl
    have e2 : mF a [] = a := rfl
    have e3 : xF b [] = b := rfl
    rw [scanS, e1, e2, e3, if_pos h2]
  | s :: l, st, a, b, h1, h2, hR => by
    have hs := hR s (by simp)
    have p0 := hs.p0
    have hc := cm_pos h1 (b := s.step.toNat) (by omega)
    rw [scanS]
    by_cases h : cm st s.step.toNat ≤ 86400
    · rw [if_pos h, scan_fold l _ _ _ hc h fun s hs => hR s (by simp [hs])]
      rfl
    · rw [if_neg h]
      have := lF_ge l (cm st s.step.toNat) hc fun s hs => hR s (by simp [hs])
      rw [if_neg (by show ¬ lF (cm st s.step.toNat) l ≤ 86400; omega)]
theorem lF_perm {l m : List Sr} (h : l.Perm m) (st : Nat) : lF st l = lF st m :=
  h.foldl_eq' (fun x _ y _ z => by simp only [cm_lcm]; rw [Nat.lcm_assoc, Nat.lcm_assoc, Nat.lcm_comm x.step.toNat]) st
theorem xF_perm {l m : List Sr} (h : l.Perm m) (b : Int) : xF b l = xF b m :=
  h.foldl_eq' (fun x _ y _ z => by omega) b
theorem mF_perm {l m : List Sr} (h : l.Perm m) (a : Int) : mF a l = mF a m :=
  h.foldl_eq' (fun x _ y _ z => by omega) a
theorem mF_le : ∀ (l : List Sr) (a : Int), mF a l ≤ a
  | [], a => Int.le_refl _
  | s :: l, a => by
    have := mF_le l (min a s.start)
    show mF (min a s.start) l ≤ a
    omega
theorem mF_mem : ∀ (l : List Sr) (a : Int) (s : Sr), s ∈ l → mF a l ≤ s.start
  | [], a, s, h => by simp at h
  | y :: l, a, s, h => by
    show mF (min a y.start) l ≤ s.start
    rcases List.mem_cons.1 h with rfl | h
    · have := mF_le l (min a s.start); omega
    · exact mF_mem l _ s h
theorem mF_glb : ∀ (l : List Sr) (a c : Int), c ≤ a → (∀ s ∈ l, c ≤ s.start) → c ≤ mF a l
  | [], a, c, h, _ => h
  | y :: l, a, c, h, hs => by
    have := hs y (by simp)
    exact mF_glb l (min a y.start) c (by omega) fun s h => hs s (by simp [h])
theorem mF_any {l : List Sr} {s t : Sr} (hs : s ∈ l) (ht : t ∈ l) : mF s.start l = mF t.start l := by
  have key : ∀ {s t : Sr}, s ∈ l → t ∈ l → mF s.start l ≤ mF t.start l := fun {s t} hs ht => mF_glb l _ _ (mF_mem l _ _ ht) fun y hy => mF_mem l _ _ hy
  have h1 := key hs ht
  have h2 := key ht hs
  omega
theorem any_perm {l m : List Sr} (h : l.Perm m) (p : Sr → Bool) : l.any p = m.any p := by
  have key : ∀ {a b : List Sr}, a.Perm b → a.any p = true → b.any p = true := fun hp ha => by
    obtain ⟨s, hs, h2⟩ := List.any_eq_true.1 ha
    exact List.any_eq_true.2 ⟨s, hp.mem_iff.1 hs, h2⟩
  cases ha : l.any p with
  | true => exact (key h ha).symm
  | false =>
    cases hb : m.any p with
    | false => rfl
    | true => rw [key h.symm hb] at ha; cases ha
/-- What is aligned: the same of both, one by one. -/
theorem al_perm {l m : List Sr} (h : l.Perm m) : (∃ e, e ≠ 0 ∧ alS l = ([], e) ∧ alS m = ([], e)) ∨ (l = [] ∧ m = []) ∨ ∃ (a st b : Int), alS l = (l.map (alG a st b), 0) ∧ alS m = (m.map (alG a st b), 0) := by
  by_cases hany : (l.any fun s => !rightS s) = true
  · refine .inl ⟨1, by omega, ?_, ?_⟩
    · unfold alS; rw [if_pos hany]
    · unfold alS; rw [if_pos (by rw [← any_perm h]; exact hany)]
  have hanyf : (l.any fun s => !rightS s) = false := by simpa using hany
  have hanym : (m.any fun s => !rightS s) = false := by rw [← any_perm h]; exact hanyf
  by_cases h128 : 128 < l.length
  · refine .inl ⟨11, by omega, ?_, ?_⟩
    · unfold alS; rw [if_neg hany, if_pos h128]
    · unfold alS; rw [if_neg (by rw [hanym]; simp), if_pos (by rw [← h.length_eq]; exact h128)]
  by_cases hnil : l = []
  · refine .inr (.inl ⟨hnil, ?_⟩)
    subst hnil
    exact List.eq_nil_of_length_eq_zero h.length_eq.symm
  have hR : ∀ s ∈ l, SrR s := fun s hs => right_iff.1 (by have := List.any_eq_false.1 hanyf s hs; simpa using this)
  have hRm : ∀ s ∈ m, SrR s := fun s hs => hR s (h.mem_iff.2 hs)
  obtain ⟨s0, hs0⟩ : ∃ s0, l[0]? = some s0 := ⟨_, List.getElem?_eq_getElem (List.length_pos_iff.2 hnil)⟩
  obtain ⟨t0, ht0⟩ : ∃ t0, m[0]? = some t0 := ⟨_, List.getElem?_eq_getElem (by rw [← h.length_eq]; exact List.length_pos_iff.2 hnil)⟩
  have e1 : mF s0.start l = mF t0.start m := by
    rw [mF_any (List.mem_of_getElem? hs0) (h.mem_iff.2 (List.mem_of_getElem? ht0)), mF_perm h]
  rw [alS_go hs0 hanyf h128, alS_go ht0 hanym (by rw [← h.length_eq]; exact h128), scan_fold l 1 s0.start 0 (by omega) (by omega) hR, scan_fold m 1 t0.start 0 (by omega) (by omega) hRm, lF_perm h, xF_perm h, e1]
  by_cases hL : lF 1 m ≤ 86400
  · rw [if_pos hL]
    simp only
    split
    · exact .inl ⟨20, by omega, rfl, rfl⟩
    · exact .inr (.inr ⟨_, _, _, rfl, rfl⟩)
  · rw [if_neg hL]
    exact .inl ⟨3, by omega, rfl, rfl⟩
theorem join_len (l : List (List UInt8)) : (Lib.join l [44]).length = (l.map List.length).sum + (l.length - 1) := by
  cases l with
  | nil => rfl
  | cons x r =>
    rw [Lib.join_cons, List.length_append]
    have key : ∀ r : List (List UInt8), (Lib.joinTail [44] r).length = (r.map List.length).sum + r.length := by
      intro r
      induction r with
      | nil => rfl
      | cons y r ih =>
        unfold Lib.joinTail at ih ⊢
        simp only [List.map_cons, List.flatten_cons, List.length_append, List.sum_cons, List.length_cons, List.length_nil] at ih ⊢
        omega
    rw [key]
    simp; omega
theorem nameB_perm {l m : List Sr} (h : l.Perm m) (w : Cw) : (nameB w l []).length = (nameB w m []).length := by
  have e : ∀ l : List Sr, (nameB w l []).length = w.txt.length + 2 + (((l.map (·.name)).map List.length).sum + (l.length - 1)) := fun l => by
    have : prns [] = [] := rfl
    unfold nameB
    rw [this, List.append_nil]
    simp only [List.length_append, join_len, List.length_cons, List.length_nil, List.length_map]
    omega
  rw [e, e, h.length_eq, ((h.map (·.name)).map List.length).sum_nat]
end Go.Ble
end
section
set_option maxHeartbeats 4000000
namespace Go.Ble
open Go.Num Go.Ser Go.Dec Go.Shp Go.Abs
theorem seven_apply {w : Cw} (hw : w ∈ sevenW) (l : List Sr) : applyB w.txt l [] [] =
    if l.any (fun s => !rightS s) = true then ([], 1) else if 128 < l.length then ([], 11) else if l = [] then ([], 0) else match alS l with
      | (a, 0) => if 400 < (nameB w l []).length then ([], 20) else ([oneG (nameB w l []) (valueS w []) a], 0)
      | (_, e) => ([], e) := by
  have htk : w.takes = (0, false) := by
    simp only [sevenW, List.mem_cons, List.mem_nil_iff, or_false] at hw
    rcases hw with rfl | rfl | rfl | rfl | rfl | rfl | rfl <;> rfl
  have hck : checkB w l [] [] = some (0, 0) := by
    simp only [sevenW, List.mem_cons, List.mem_nil_iff, or_false] at hw
    rcases hw with rfl | rfl | rfl | rfl | rfl | rfl | rfl <;> rfl
  have hng : w ≠ .group ∧ w ≠ .percent := by
    simp only [sevenW, List.mem_cons, List.mem_nil_iff, or_false] at hw
    rcases hw with rfl | rfl | rfl | rfl | rfl | rfl | rfl <;> decide
  unfold applyB
  rw [cwOf_txt]
  simp only
  split
  · rfl
  split
  · rfl
  rw [if_neg (by rw [htk]; simp), hck]
  simp only
  split
  · rfl
  rw [if_neg hng.1]
  cases alS l with
  | mk a e =>
    cases e with
    | zero => simp only; rw [if_neg hng.2]
    | succ e => rfl
/-- The same values, but for the names. -/
def SameB (a b : List Sr) : Prop := (a = [] ∧ b = []) ∨ ∃ x y : Sr, a = [x] ∧ b = [y] ∧ x.start = y.start ∧ x.step = y.step ∧ x.vals = y.vals ∧ x.vals.length ≤ 2000
def SmallS (l : List Sr) : Prop := ∀ s ∈ l, ∀ n ∈ s.vals, -1125899906842624 ≤ n.2 ∧ n.2 ≤ 1125899906842624
theorem slice_mem {s : Sr} {a b : Int} {n : N} (h : n ∈ slice s a b) : n ∈ s.vals := List.mem_of_mem_take (List.mem_of_mem_drop h)
theorem slice_len (s : Sr) (a b : Int) : (slice s a b).length ≤ s.vals.length := by
  unfold slice
  rw [List.length_drop, List.length_take]; omega
theorem tog_small {l : List Sr} (hs : SmallS l) (hR : ∀ s ∈ l, SrR s) (ho : ∀ s ∈ l, SrOk s) (a st b : Int) (k : Nat) : Small (togN (l.map (alG a st b)) k) := by
  intro n hn hg
  obtain ⟨x, hx, rfl⟩ := List.mem_map.1 hn
  obtain ⟨y, hy, rfl⟩ := List.mem_map.1 hx
  rw [List.getD_eq_getElem?_getD] at hg ⊢
  cases hv : (alG a st b y).vals[k]? with
  | none => rw [hv] at hg; cases hg
  | some v =>
    rw [hv] at hg
    simp only [Option.getD_some] at hg ⊢
    have hm := List.mem_of_getElem? hv
    unfold alG slots at hm
    simp only [List.mem_map] at hm
    obtain ⟨i, _, rfl⟩ := hm
    have hvl := (hR y hy).vl
    refine avg_small ?_ ?_ ?_ hg
    · have := slice_len y (a + i * st) (a + i * st + st); omega
    · exact fun n hn => okN_most ((ho y hy).vs n (slice_mem hn))
    · exact fun n hn _ => hs y hy n (slice_mem hn)
theorem seven_perm {w : Cw} (hw : w ∈ sevenW) {l m : List Sr} (h : l.Perm m) (hs : SmallS l) (ho : ∀ s ∈ l, SrOk s) :
    (applyB w.txt l [] []).2 = (applyB w.txt m [] []).2 ∧ SameB (applyB w.txt l [] []).1 (applyB w.txt m [] []).1 := by
  have none : ∀ e : Nat, (([], e) : List Sr × Nat).2 = (([], e) : List Sr × Nat).2 ∧ SameB (([], e) : List Sr × Nat).1 (([], e) : List Sr × Nat).1 := fun e => ⟨rfl, .inl ⟨rfl, rfl⟩⟩
  rw [seven_apply hw, seven_apply hw, ← any_perm h, ← h.length_eq]
  by_cases hany : l.any (fun s => !rightS s) = true
  · rw [if_pos hany, if_pos hany]; exact none 1
  rw [if_neg hany, if_neg hany]
  by_cases h128 : 128 < l.length
  · rw [if_pos h128, if_pos h128]; exact none 11
  rw [if_neg h128, if_neg h128]
  by_cases hnil : l = []
  · have hm : m = [] := by subst hnil; exact List.eq_nil_of_length_eq_zero h.length_eq.symm
    rw [if_pos hnil, if_pos hm]; exact none 0
  have hmn : m ≠ [] := fun e => hnil (by subst e; exact List.eq_nil_of_length_eq_zero h.length_eq)
  rw [if_neg hnil, if_neg hmn]
  have hR : ∀ s ∈ l, SrR s := fun s hs => right_iff.1 (by
    cases hr : rightS s with
    | true => rfl
    | false => exact absurd (List.any_eq_true.2 ⟨s, hs, by simp [hr]⟩) hany)
  rcases al_perm h with ⟨e, he, h1, h2⟩ | ⟨h1, _⟩ | ⟨a, st, b, h1, h2⟩
  · rw [h1, h2]
    cases e with
    | zero => exact absurd rfl he
    | succ e => exact none _
  · exact absurd h1 hnil
  · rw [h1, h2, nameB_perm h]
    simp only
    split
    · exact none 20
    · refine ⟨rfl, .inr ⟨_, _, rfl, rfl, ?_⟩⟩
      obtain ⟨s0, l', hl⟩ : ∃ s0 l', l = s0 :: l' := by
        cases l with
        | nil => exact absurd rfl hnil
        | cons s0 l' => exact ⟨s0, l', rfl⟩
      obtain ⟨t0, m', hm⟩ : ∃ t0 m', m = t0 :: m' := by
        cases m with
        | nil => exact absurd rfl hmn
        | cons t0 m' => exact ⟨t0, m', rfl⟩
      have hst : ∀ (x : Sr) (r : List Sr), ((alG a st b x :: r).headD ⟨[], 0, 0, []⟩) = alG a st b x := fun _ _ => rfl
      have hvals : ∀ k, valueS w [] (togN (l.map (alG a st b)) k) = valueS w [] (togN (m.map (alG a st b)) k) := fun k =>
        value_perm hw ((h.map (alG a st b)).map _) (tog_small hs hR ho a st b k) (by rw [togN_len, List.length_map]; omega)
      have hlen : ∀ x y : Sr, (alG a st b x).vals.length = (alG a st b y).vals.length := fun x y => by simp [alG, slots]
      obtain ⟨_, _, _, _, _, har, _⟩ := al_facts ho hnil h1
      unfold oneG
      have e1 : (l.map (alG a st b)).headD ⟨[], 0, 0, []⟩ = alG a st b s0 := by rw [hl]; rfl
      have e2 : (m.map (alG a st b)).headD ⟨[], 0, 0, []⟩ = alG a st b t0 := by rw [hm]; rfl
      simp only [e1, e2]
      refine ⟨rfl, rfl, ?_, ?_⟩
      · rw [hlen s0 t0]
        exact List.map_congr_left fun k _ => hvals k
      · simp only [List.length_map, List.length_range]
        exact (har _ (by rw [hl]; simp)).vl
end Go.Ble
end
section
set_option maxHeartbeats 8000000
namespace Go.Proofs.YtdgpnmlialmaaaaGreatDoor
open Go.Abs Go.Num Go.Ser Go.Ble Go.Dec Go.Shp
variable {G : Globs}
theorem same26_ok {a b : List Sr} (h : SameB a b) : PCalls Tryz.prog n_isobarlaw26_same [serL a, serL b] (fun r => r = .bool true) := by
  refine pcalls_of_awp hmix c_isobarlaw26_same rfl ?_
  rcases h with ⟨rfl, rfl⟩ | ⟨x, y, rfl, rfl, h1, h2, h3, h4⟩
  · simp [a_isobarlaw26_same, serL, serEls]
    refine lp_startx (fun x f σ => f 0 = .lst [] ∧ f 5 = .int .i64 0) 0 ?_ ?_
    · exact ⟨by simp, by simp⟩
    rintro x f σ ⟨f0, f5⟩
    simp [f0, f5]
  · have kS := same_ok (G := G) x.vals (by omega)
    rw [h3] at kS
    simp [a_isobarlaw26_same, serL, serEls, srC]
    refine lp_startx (fun n f σ => ∃ i : Nat, n = 1 - i ∧ i ≤ 1 ∧ f 0 = .lst [[.str x.name, .int .i64 x.start, .int .i64 x.step, .lst (numEls x.vals)]] ∧ f 1 = .lst [[.str y.name, .int .i64 y.start, .int .i64 y.step, .lst (numEls y.vals)]] ∧ f 5 = .int .i64 i) 1 ?_ ?_
    · exact ⟨0, by simp, by simp, by simp, by simp, by simp⟩
    rintro n f σ ⟨i, hn, hi, f0, f1, f5⟩
    have hc : i = 0 ∨ i = 1 := by omega
    rcases hc with rfl | rfl
    · simp [f0, f1, f5, h1, h2, h3]
      refine qc_same kS (by simp) (by simp [rig]) ?_
      simp [f5]
      exact nx_intro 0 (by omega) ⟨1, by simp, by simp, by simp [f0, h1, h2, h3], by simp [f1], by simp; try rfl⟩
    · simp [f0, f1, f5]
theorem ac_frz0 {P : Program} {K : AV → Store → Prop} {t : Tg K} {g : FuncId} {args args' : List AV} {R : AV → Prop} {te size : Nat} {els : List (List AV)} {v : Entry} {b : Bool} (hc : PCalls P g args' R) (hsh : (els.mapM fun (c : List AV) => c.mapM (share1 [Entry.row te size els false, v])) = some els)
    (ha : CoeL [Entry.row te size els true, v] false args args') (hK : ∀ r, R r → K r [Entry.row te size els true, v]) : ac P K t [Entry.row te size els b, v] g args := by
  cases b with
  | true => exact .inl ⟨args', R, ha, hc, hK⟩
  | false => exact ac_frz ⟨0, te, size, els, els, rfl, hsh, rfl⟩ (.inl ⟨args', R, ha, hc, hK⟩)
theorem border_law [GSpc] [GPow] [GMaxL] (l : List Sr) (ho : ∀ s ∈ l, SrOk s) (hl : l.length ≤ 9223372036854775807) (p q : UInt8) : PCalls Tryz.prog n_isobarlaw26_BlendOrder [serL l, .int .u8 p.toNat, .int .u8 q.toNat] (fun r => r = .bool true) := by
  refine pcalls_of_awp hmix c_isobarlaw26_BlendOrder rfl ?_
  have kG := great26_ok (G := G) [] [] .nils 0 (.inl ⟨rfl, rfl⟩) l (by omega)
  have hle := serEls_len l
  unfold serL at kG ⊢
  simp [a_isobarlaw26_BlendOrder]
  refine ac_same alive26_ok (by simp) ?_
  rintro r rfl
  simp [lay, splice]
  refine ac_pure kG (.cons (.agg _ _ rfl (by simp [AV.one]) (fun j h h' => ?_)) (.cons (.pure _ (by simp)) .nil)) ?_
  · match j, h with
    | 0, _ => exact .pure _ (by simp)
    | 1, _ => exact .pure _ (by simp)
    | 2, _ => exact .pure _ (by simp)
  rintro r ⟨b, rfl, hb⟩
  cases b with
  | true => simp
  | false =>
  have hl4 := hb rfl
  by_cases hnil : l = []
  · subst hnil
    simp [serEls]
  have hlp := List.length_pos_iff.2 hnil
  have hl0 : ¬ (l.length : Int) = 0 := by omega
  have hl0' : ¬ l.length = 0 := by omega
  simp [hle, hnil, hl0, hl0']
  refine lp_startx (fun x f σ => ∃ i : Nat, x = l.length - i ∧ i ≤ l.length ∧ SmallS (l.take i) ∧ f 0 = .lst (serEls l) ∧ f 1 = .int .u8 p.toNat ∧ f 2 = .int .u8 q.toNat ∧ f 7 = .int .i64 i ∧ σ = []) l.length ?_ ?_
  · exact ⟨0, by simp, by simp, by intro s hs; simp at hs, by simp, by simp, by simp, by simp, rfl⟩
  rintro x f σ ⟨i, hx, hi, hsm, f0, f1, f2, f7, rfl⟩
  simp [f0, f7, hle]
  refine cb_dec (fun hlt => ?_) (fun hge => ?_)
  · have hlti : i < l.length := by omega
    have hwi : IntKind.i64.wrap ((i : Int) + 1) = ((i + 1 : Nat) : Int) := by rw [wrap_i64 (by omega) (by omega)]; omega
    obtain ⟨y, hy⟩ : ∃ y, l[i]? = some y := ⟨_, List.getElem?_eq_getElem hlti⟩
    have hym := List.mem_of_getElem? hy
    have hse := serEls_get hy
    obtain ⟨hx1, hx2⟩ := List.getElem?_eq_some_iff.1 hse
    have hyl := numEls_len y.vals
    have hyv := (ho y hym).vl
    simp
    refine lp_startx (fun x' f' σ' => ∃ j : Nat, x' = y.vals.length - j ∧ j ≤ y.vals.length ∧ (∀ n ∈ y.vals.take j, -1125899906842624 ≤ n.2 ∧ n.2 ≤ 1125899906842624) ∧ f' 0 = .lst (serEls l) ∧ f' 1 = .int .u8 p.toNat ∧ f' 2 = .int .u8 q.toNat ∧ f' 7 = .int .i64 i ∧ f' 8 = .int .i64 j ∧ σ' = []) y.vals.length ?_ ?_
    · exact ⟨0, by simp, by simp, by intro n hn; simp at hn, by simp [f0], by simp [f1], by simp [f2], by simp [f7], by simp, rfl⟩
    rintro x' f' σ' ⟨j, hx', hj, hbd, g0, g1, g2, g7, g8, rfl⟩
    simp [g0, g7, g8, hse, hx1, hx2, hyl]
    refine cb_dec (fun hlt2 => ?_) (fun hge2 => ?_)
    · have hltj : j < y.vals.length := by omega
      have hwj : IntKind.i64.wrap ((j : Int) + 1) = ((j + 1 : Nat) : Int) := by rw [wrap_i64 (by omega) (by omega)]; omega
      obtain ⟨v, hv⟩ : ∃ v, y.vals[j]? = some v := ⟨_, List.getElem?_eq_getElem hltj⟩
      have hvg := numEls_get hv
      obtain ⟨hv1, hv2⟩ := List.getElem?_eq_some_iff.1 hvg
      by_cases h1 : 1125899906842624 < v.2
      · simp [g0, g7, g8, hse, hx1, hx2, hvg, hv1, hv2, h1]
      · by_cases h2 : v.2 < -1125899906842624
        · simp [g0, g7, g8, hse, hx1, hx2, hvg, hv1, hv2, h1, h2]
        · simp [g0, g7, g8, hse, hx1, hx2, hvg, hv1, hv2, h1, h2, hwj]
          refine nx_intro (y.vals.length - (j + 1)) (by omega) ⟨j + 1, rfl, by omega, fun n hn => ?_, by simp [g0], by simp [g1], by simp [g2], by simp [g7], by simp, rfl⟩
          rw [List.take_add_one, hv] at hn
          rcases List.mem_append.1 hn with hn | hn
          · exact hbd n hn
          · simp at hn; subst hn; omega
    · have hjl : j = y.vals.length := by omega
      rw [hjl, List.take_length] at hbd
      simp [g7, hwi]
      refine nx_intro (l.length - (i + 1)) (by omega) ⟨i + 1, rfl, by omega, fun s hs => ?_, by simp [g0], by simp [g1], by simp [g2], by simp, rfl⟩
      rw [List.take_add_one, hy] at hs
      rcases List.mem_append.1 hs with hs | hs
      · exact hsm s hs
      · simp at hs; subst hs; exact hbd
  have hil : i = l.length := by omega
  rw [hil, List.take_length] at hsm
  obtain ⟨a, ha⟩ : ∃ a, a = p.toNat % l.length := ⟨_, rfl⟩
  obtain ⟨b, hb2⟩ : ∃ b, b = q.toNat % l.length := ⟨_, rfl⟩
  have hal : a < l.length := by rw [ha]; exact Nat.mod_lt _ hlp
  have hbl : b < l.length := by rw [hb2]; exact Nat.mod_lt _ hlp
  have hp : p.toNat < 256 := p.toNat_lt
  have hq : q.toNat < 256 := q.toNat_lt
  have wp : IntKind.i64.wrap (p.toNat : Int) = (p.toNat : Int) := wrap_i64 (by omega) (by omega)
  have wq : IntKind.i64.wrap (q.toNat : Int) = (q.toNat : Int) := wrap_i64 (by omega) (by omega)
  have tp : ((p.toNat : Nat) : Int).tmod (l.length : Int) = (a : Int) := by rw [Int.tmod_eq_emod_of_nonneg (by omega), ha]; omega
  have tq : ((q.toNat : Nat) : Int).tmod (l.length : Int) = (b : Int) := by rw [Int.tmod_eq_emod_of_nonneg (by omega), hb2]; omega
  have hya : l[a]? = some l[a] := List.getElem?_eq_getElem hal
  have hyb : l[b]? = some l[b] := List.getElem?_eq_getElem hbl
  obtain ⟨m, hm⟩ : ∃ m, m = (l.set a l[b]).set b l[a] := ⟨_, rfl⟩
  have hperm : l.Perm m := by rw [hm]; exact (List.set_set_perm hal hbl).symm
  have hml : m.length = l.length := hperm.length_eq.symm
  have hmo : ∀ s ∈ m, SrOk s := fun s hs => ho s (hperm.mem_iff.2 hs)
  obtain ⟨ya, hyae⟩ : ∃ ya, ya = l[a] := ⟨_, rfl⟩
  obtain ⟨yb, hybe⟩ : ∃ yb, yb = l[b] := ⟨_, rfl⟩
  rw [← hyae] at hya hm
  rw [← hybe] at hyb hm
  have hsa := serEls_get hya
  have hsb := serEls_get hyb
  obtain ⟨ha1, ha2⟩ := List.getElem?_eq_some_iff.1 hsa
  obtain ⟨hb1, hb3⟩ := List.getElem?_eq_some_iff.1 hsb
  have hset : ((serEls l).set a [.str yb.name, .int .i64 yb.start, .int .i64 yb.step, .lst (numEls yb.vals)])[b]? = some [.str yb.name, .int .i64 yb.start, .int .i64 yb.step, .lst (numEls yb.vals)] := by
    by_cases hab : a = b
    · subst hab; rw [List.getElem?_set_self ha1]
    · rw [List.getElem?_set_ne hab]; exact hsb
  obtain ⟨hs1, hs2⟩ := List.getElem?_eq_some_iff.1 hset
  have hfin : ((serEls l).set a [.str yb.name, .int .i64 yb.start, .int .i64 yb.step, .lst (numEls yb.vals)]).set b [.str ya.name, .int .i64 ya.start, .int .i64 ya.step, .lst (numEls ya.vals)] = serEls m := by
    rw [hm]; unfold serEls; rw [List.map_set, List.map_set]; rfl
  have hlm : (serEls m).length = l.length := by rw [serEls_len, hml]
  have hP := fun w hw => seven_perm (w := w) hw hperm hsm ho
  have kA0 : ∀ w : Cw, PCalls Tryz.prog n_blend_Apply [.str w.txt, .lst (serEls l), .lst [], .str []] (fun r => r = alA (applyB w.txt l [] [])) := fun w => bApply_ok (G := G) w.txt l [] [] (by omega) ho (by simp) (by intro n h; simp at h)
  have kB0 : ∀ w : Cw, PCalls Tryz.prog n_blend_Apply [.str w.txt, .lst (serEls m), .lst [], .str []] (fun r => r = alA (applyB w.txt m [] [])) := fun w => bApply_ok (G := G) w.txt m [] [] (by omega) hmo (by simp) (by intro n h; simp at h)
  simp
  refine ap_row (bytes := 56) [] (serEls l) false (by simp [lay, splice, chunks]) (by simp [f0]) (by decide) (serEls_four l) (fun h => by cases h) rfl (by rw [hle]; omega) (by rw [hle]; omega) ?_
  simp [f0, f1, f2, hle, hl0, hl0', wp, wq, tp, tq, hal, hbl, hsa, hsb, ha1, ha2, hb1, hb3, hset, hs1, hs2, splice]
  refine lp_startx (fun x f σ => ∃ (i : Nat) (z : Bool), x = 7 - i ∧ i ≤ 7 ∧ f 0 = .lst (serEls l) ∧ f 9 = .row 0 l.length ∧ f 12 = .ptr 1 0 ∧ f 13 = .int .i64 i ∧ σ = [Entry.row 41 4 (serEls m) z, Entry.var 42 [.str Cw.sum.txt, .str Cw.average.txt, .str Cw.least.txt, .str Cw.greatest.txt, .str Cw.count.txt, .str Cw.median.txt, .str Cw.range.txt]]) 7 ?_ ?_
  · exact ⟨0, false, by simp, by simp, by simp [f0], by simp, by simp, by simp, by simp [hfin, Cw.txt, lay, splice]⟩
  clear f0 f1 f2 f7
  rintro x f σ ⟨i, z, hx, hi, f0, f9, f12, f13, rfl⟩
  have fin : ∀ (f : Abs.Frame) (tf : Tg f) tI, i < 7 → f 0 = .lst (serEls l) → f 9 = .row 0 l.length → f 12 = .ptr 1 0 → f 13 = .int .i64 ((i + 1 : Nat) : Int) → nx x (fun x f σ => ∃ (i : Nat) (z : Bool), x = 7 - i ∧ i ≤ 7 ∧ f 0 = .lst (serEls l) ∧ f 9 = .row 0 l.length ∧ f 12 = .ptr 1 0 ∧ f 13 = .int .i64 i ∧ σ = [Entry.row 41 4 (serEls m) z, Entry.var 42 [.str Cw.sum.txt, .str Cw.average.txt, .str Cw.least.txt, .str Cw.greatest.txt, .str Cw.count.txt, .str Cw.median.txt, .str Cw.range.txt]]) tI f tf [Entry.row 41 4 (serEls m) true, Entry.var 42 [.str Cw.sum.txt, .str Cw.average.txt, .str Cw.least.txt, .str Cw.greatest.txt, .str Cw.count.txt, .str Cw.median.txt, .str Cw.range.txt]] := fun f tf tI hlt h0 h9 h12 h13 =>
    nx_intro (7 - (i + 1)) (by omega) ⟨i + 1, true, rfl, by omega, h0, h9, h12, h13, rfl⟩
  by_cases hlt : i < 7
  · have wrap_small : ∀ k : Nat, k ≤ 7 → IntKind.i64.wrap (k : Int) = (k : Int) := fun k hk => wrap_i64 (by omega) (by omega)
    have hcases : i = 0 ∨ i = 1 ∨ i = 2 ∨ i = 3 ∨ i = 4 ∨ i = 5 ∨ i = 6 := by omega
    rcases hcases with rfl | rfl | rfl | rfl | rfl | rfl | rfl
    · obtain ⟨he, hsm2⟩ := hP .sum (by decide)
      have kA := kA0 .sum
      have kB := kB0 .sum
      have kS := same26_ok (G := G) hsm2
      have wk := wrap_small 1 (by omega)
      obtain ⟨X, hX⟩ : ∃ X, X = applyB Cw.sum.txt l [] [] := ⟨_, rfl⟩
      obtain ⟨Y, hY⟩ : ∃ Y, Y = applyB Cw.sum.txt m [] [] := ⟨_, rfl⟩
      rw [← hX] at kA he kS
      rw [← hY] at kB he kS
      unfold alA serL at kA kB
      unfold serL at kS
      simp [f0, f12, f13]
      refine ac_frz0 kA (serEls_share _ _) (.cons (.pure _ (by simp)) (.cons (.pure _ (by simp)) (.cons .nils (.cons (.pure _ (by simp)) .nil)))) ?_
      rintro r rfl
      simp [f9, f12, f13]
      refine ac_pure kB (.cons (.pure _ (by simp)) (.cons (.row 0 l.length 41 4 (serEls m) true (by simp) hlm (.inl rfl)) (.cons .nils (.cons (.pure _ (by simp)) .nil)))) ?_
      rintro r rfl
      simp [he]
      refine ac_same kS (by simp) ?_
      rintro r rfl
      simp [f13, wk]
      exact fin _ _ _ (by omega) (by simp [f0]) (by simp [f9]) (by simp [f12]) (by simp; try rfl)
    · obtain ⟨he, hsm2⟩ := hP .average (by decide)
      have kA := kA0 .average
      have kB := kB0 .average
      have kS := same26_ok (G := G) hsm2
      have wk := wrap_small 2 (by omega)
      obtain ⟨X, hX⟩ : ∃ X, X = applyB Cw.average.txt l [] [] := ⟨_, rfl⟩
      obtain ⟨Y, hY⟩ : ∃ Y, Y = applyB Cw.average.txt m [] [] := ⟨_, rfl⟩
      rw [← hX] at kA he kS
      rw [← hY] at kB he kS
      unfold alA serL at kA kB
      unfold serL at kS
      simp [f0, f12, f13]
      refine ac_frz0 kA (serEls_share _ _) (.cons (.pure _ (by simp)) (.cons (.pure _ (by simp)) (.cons .nils (.cons (.pure _ (by simp)) .nil)))) ?_
      rintro r rfl
      simp [f9, f12, f13]
      refine ac_pure kB (.cons (.pure _ (by simp)) (.cons (.row 0 l.length 41 4 (serEls m) true (by simp) hlm (.inl rfl)) (.cons .nils (.cons (.pure _ (by simp)) .nil)))) ?_
      rintro r rfl
      simp [he]
      refine ac_same kS (by simp) ?_
      rintro r rfl
      simp [f13, wk]
      exact fin _ _ _ (by omega) (by simp [f0]) (by simp [f9]) (by simp [f12]) (by simp; try rfl)
    · obtain ⟨he, hsm2⟩ := hP .least (by decide)
      have kA := kA0 .least
      have kB := kB0 .least
      have kS := same26_ok (G := G) hsm2
      have wk := wrap_small 3 (by omega)
      obtain ⟨X, hX⟩ : ∃ X, X = applyB Cw.least.txt l [] [] := ⟨_, rfl⟩
      obtain ⟨Y, hY⟩ : ∃ Y, Y = applyB Cw.least.txt m [] [] := ⟨_, rfl⟩
      rw [← hX] at kA he kS
      rw [← hY] at kB he kS
      unfold alA serL at kA kB
      unfold serL at kS
      simp [f0, f12, f13]
      refine ac_frz0 kA (serEls_share _ _) (.cons (.pure _ (by simp)) (.cons (.pure _ (by simp)) (.cons .nils (.cons (.pure _ (by simp)) .nil)))) ?_
      rintro r rfl
      simp [f9, f12, f13]
      refine ac_pure kB (.cons (.pure _ (by simp)) (.cons (.row 0 l.length 41 4 (serEls m) true (by simp) hlm (.inl rfl)) (.cons .nils (.cons (.pure _ (by simp)) .nil)))) ?_
      rintro r rfl
      simp [he]
      refine ac_same kS (by simp) ?_
      rintro r rfl
      simp [f13, wk]
      exact fin _ _ _ (by omega) (by simp [f0]) (by simp [f9]) (by simp [f12]) (by simp; try rfl)
    · obtain ⟨he, hsm2⟩ := hP .greatest (by decide)
      have kA := kA0 .greatest
      have kB := kB0 .greatest
      have kS := same26_ok (G := G) hsm2
      have wk := wrap_small 4 (by omega)
      obtain ⟨X, hX⟩ : ∃ X, X = applyB Cw.greatest.txt l [] [] := ⟨_, rfl⟩
      obtain ⟨Y, hY⟩ : ∃ Y, Y = applyB Cw.greatest.txt m [] [] := ⟨_, rfl⟩
      rw [← hX] at kA he kS
      rw [← hY] at kB he kS
      unfold alA serL at kA kB
      unfold serL at kS
      simp [f0, f12, f13]
      refine ac_frz0 kA (serEls_share _ _) (.cons (.pure _ (by simp)) (.cons (.pure _ (by simp)) (.cons .nils (.cons (.pure _ (by simp)) .nil)))) ?_
      rintro r rfl
      simp [f9, f12, f13]
      refine ac_pure kB (.cons (.pure _ (by simp)) (.cons (.row 0 l.length 41 4 (serEls m) true (by simp) hlm (.inl rfl)) (.cons .nils (.cons (.pure _ (by simp)) .nil)))) ?_
      rintro r rfl
      simp [he]
      refine ac_same kS (by simp) ?_
      rintro r rfl
      simp [f13, wk]
      exact fin _ _ _ (by omega) (by simp [f0]) (by simp [f9]) (by simp [f12]) (by simp; try rfl)
    · obtain ⟨he, hsm2⟩ := hP .count (by decide)
      have kA := kA0 .count
      have kB := kB0 .count
      have kS := same26_ok (G := G) hsm2
      have wk := wrap_small 5 (by omega)
      obtain ⟨X, hX⟩ : ∃ X, X = applyB Cw.count.txt l [] [] := ⟨_, rfl⟩
      obtain ⟨Y, hY⟩ : ∃ Y, Y = applyB Cw.count.txt m [] [] := ⟨_, rfl⟩
      rw [← hX] at kA he kS
      rw [← hY] at kB he kS
      unfold alA serL at kA kB
      unfold serL at kS
      simp [f0, f12, f13]
      refine ac_frz0 kA (serEls_share _ _) (.cons (.pure _ (by simp)) (.cons (.pure _ (by simp)) (.cons .nils (.cons (.pure _ (by simp)) .nil)))) ?_
      rintro r rfl
      simp [f9, f12, f13]
      refine ac_pure kB (.cons (.pure _ (by simp)) (.cons (.row 0 l.length 41 4 (serEls m) true (by simp) hlm (.inl rfl)) (.cons .nils (.cons (.pure _ (by simp)) .nil)))) ?_
      rintro r rfl
      simp [he]
      refine ac_same kS (by simp) ?_
      rintro r rfl
      simp [f13, wk]
      exact fin _ _ _ (by omega) (by simp [f0]) (by simp [f9]) (by simp [f12]) (by simp; try rfl)
    · obtain ⟨he, hsm2⟩ := hP .median (by decide)
      have kA := kA0 .median
      have kB := kB0 .median
      have kS := same26_ok (G := G) hsm2
      have wk := wrap_small 6 (by omega)
      obtain ⟨X, hX⟩ : ∃ X, X = applyB Cw.median.txt l [] [] := ⟨_, rfl⟩
      obtain ⟨Y, hY⟩ : ∃ Y, Y = applyB Cw.median.txt m [] [] := ⟨_, rfl⟩
      rw [← hX] at kA he kS
      rw [← hY] at kB he kS
      unfold alA serL at kA kB
      unfold serL at kS
      simp [f0, f12, f13]
      refine ac_frz0 kA (serEls_share _ _) (.cons (.pure _ (by simp)) (.cons (.pure _ (by simp)) (.cons .nils (.cons (.pure _ (by simp)) .nil)))) ?_
      rintro r rfl
      simp [f9, f12, f13]
      refine ac_pure kB (.cons (.pure _ (by simp)) (.cons (.row 0 l.length 41 4 (serEls m) true (by simp) hlm (.inl rfl)) (.cons .nils (.cons (.pure _ (by simp)) .nil)))) ?_
      rintro r rfl
      simp [he]
      refine ac_same kS (by simp) ?_
      rintro r rfl
      simp [f13, wk]
      exact fin _ _ _ (by omega) (by simp [f0]) (by simp [f9]) (by simp [f12]) (by simp; try rfl)
    · obtain ⟨he, hsm2⟩ := hP .range (by decide)
      have kA := kA0 .range
      have kB := kB0 .range
      have kS := same26_ok (G := G) hsm2
      have wk := wrap_small 7 (by omega)
      obtain ⟨X, hX⟩ : ∃ X, X = applyB Cw.range.txt l [] [] := ⟨_, rfl⟩
      obtain ⟨Y, hY⟩ : ∃ Y, Y = applyB Cw.range.txt m [] [] := ⟨_, rfl⟩
      rw [← hX] at kA he kS
      rw [← hY] at kB he kS
      unfold alA serL at kA kB
      unfold serL at kS
      simp [f0, f12, f13]
      refine ac_frz0 kA (serEls_share _ _) (.cons (.pure _ (by simp)) (.cons (.pure _ (by simp)) (.cons .nils (.cons (.pure _ (by simp)) .nil)))) ?_
      rintro r rfl
      simp [f9, f12, f13]
      refine ac_pure kB (.cons (.pure _ (by simp)) (.cons (.row 0 l.length 41 4 (serEls m) true (by simp) hlm (.inl rfl)) (.cons .nils (.cons (.pure _ (by simp)) .nil)))) ?_
      rintro r rfl
      simp [he]
      refine ac_same kS (by simp) ?_
      rintro r rfl
      simp [f13, wk]
      exact fin _ _ _ (by omega) (by simp [f0]) (by simp [f9]) (by simp [f12]) (by simp; try rfl)
  · have hi7 : i = 7 := by omega
    subst hi7
    simp [f13]
end Go.Proofs.YtdgpnmlialmaaaaGreatDoor
end
section
namespace Go.Proofs.YtdgpnmlialmaaaaGreatDoor
open Go.ChangeShapes Go.WideShapes Go.ChangeAt Go.RowKit Go.ChangeMaps Go.Abs Go.Ser
theorem u8_of {n : Int} (h : (Lit.int .u8 n).wf = true) : ∃ c : UInt8, n = c.toNat := by
  have h1 : IntKind.u8.min = 0 := rfl
  have h2 : IntKind.u8.max = 255 := rfl
  simp only [Lit.wf, Bool.and_eq_true, decide_eq_true_eq] at h
  exact ⟨n.toNat.toUInt8, by simp; omega⟩
section
variable {H : Type} {enc : TypeId × Value → H} {w : World} {base : Nat} {spare : Nat → Bool} {held : Bool}
theorem ser_size : Tryz.prog.cellsOf 41 = 4 := by kernel_rfl
theorem str_size4 : Tryz.prog.cellsOf 9 = 1 := by kernel_rfl
theorem int_size4 : Tryz.prog.cellsOf 3 = 1 := by kernel_rfl
theorem nums_size4 : Tryz.prog.cellsOf 22 = 1 := by kernel_rfl
theorem ir_bytes4 {Im : Addr → Prop} {w : World} (s : ByteArray) : IR Im w (.str s.data.toList) (.string s) := by
  have : (.string s : Value) = .string ⟨s.data.toList.toArray⟩ := by cases s; simp
  rw [this]; exact .str _
end
end Go.Proofs.YtdgpnmlialmaaaaGreatDoor
end
section
namespace Go.Proofs.YtdgpnmlialmaaaaGreatDoor
open Go.ChangeShapes Go.WideShapes Go.ChangeAt Go.RowKit Go.ChangeMaps Go.Abs
instance serGlobs : Globs := ⟨[(gPow, Lib.pow10Tab.map (AV.int .u64))]⟩
instance serG : GPow where
  pow := List.Mem.head _
end Go.Proofs.YtdgpnmlialmaaaaGreatDoor
end
section
namespace Go.Proofs.YtdgpnmlialmaaaaGreatDoor
open Go.ChangeShapes Go.WideShapes Go.ChangeAt Go.RowKit Go.ChangeMaps Go.Abs
abbrev gSpace : Nat := 0
abbrev gMx : Nat := 5
abbrev bleGlobs (m : Int) : Globs := ⟨[(gPow, Lib.pow10Tab.map (AV.int .u64)), (gSpace, Lib.asciiSpaceTab.map (AV.int .u8)), (gMx, [AV.int .i64 m])]⟩
theorem bleP (m : Int) : @GPow (bleGlobs m) := @GPow.mk (bleGlobs m) (List.Mem.head _)
theorem bleS (m : Int) : @GSpc (bleGlobs m) := @GSpc.mk (bleGlobs m) (.tail _ (List.Mem.head _))
theorem bleM (m : Int) : @GMaxL (bleGlobs m) := @GMaxL.mk (bleGlobs m) ⟨m, .tail _ (.tail _ (List.Mem.head _))⟩
theorem mx_var {w : World} (h : w.ShapedOpen Tryz.prog) : ∃ m, w.var? Tryz.prog "internal/bytealg.MaxLen" = some #[.int .i64 m] := by
  obtain ⟨cs, hh, hs, -⟩ := h.1 gMx #[.int .i64 0] 3 (of_decide_eq_true (by kernel_rfl)) (by kernel_rfl)
  obtain ⟨m, hm⟩ := Go.Proofs.cell_of_shapedOpen_int (zero := #[.int .i64 0]) (g := gMx) (t := 3) h (of_decide_eq_true (by kernel_rfl)) (by kernel_rfl) rfl (by kernel_rfl) (by kernel_rfl) Tryz.underlying3
  have h1 : cs.size = 1 := hs
  obtain ⟨v, rfl⟩ : ∃ v, cs = #[v] := by
    obtain ⟨l⟩ := cs
    match l, h1 with
    | [v], _ => exact ⟨v, rfl⟩
  have hg : Tryz.prog.globalNamed "internal/bytealg.MaxLen" = some gMx := by kernel_rfl
  simp [World.cell?, hh] at hm
  subst hm
  exact ⟨m, by unfold World.var?; rw [hg]; simp [hh]⟩
theorem gin_ble {l : List (String × DataW Unit)} {w : World} (h : laidMet Tryz.prog l w) (h3 : ("internal/strconv.uint64pow10", Rows.laid_internal_strconv_uint64pow10) ∈ l) (h4 : ("strings.asciiSpace", Rows.laid_strings_asciiSpace) ∈ l) (hs : w.ShapedOpen Tryz.prog) : ∃ m, @GlobsIn (bleGlobs m) w := by
  obtain ⟨m, hm⟩ := mx_var hs
  refine ⟨m, ?_⟩
  letI : Globs := bleGlobs m
  intro p hp
  have hI : ∀ g, (∃ p ∈ (bleGlobs m).tab, g = p.1) → ∀ j, @gIm (bleGlobs m) ⟨g, j, none⟩ := fun g hg j => ⟨rfl, hg⟩
  rcases hp with _ | ⟨_, _ | ⟨_, _ | ⟨_, hp⟩⟩⟩
  · obtain ⟨r, h⟩ := laidAt h h3
    have e : (Rows.laid_internal_strconv_uint64pow10 : DataW Unit) = Lib.tabData .u64 Lib.pow10Tab := by kernel_rfl
    rw [e] at h
    have := Lib.tabIs_of_head (g := gPow) (by kernel_rfl) (by kernel_rfl) Tryz.underlying204 Tryz.underlying74 (by kernel_rfl) (by kernel_rfl) h
    refine gok_one (n := "internal/strconv.uint64pow10") (by kernel_rfl) this (by simp) (by simp [AV.one]) ?_ (hI _ ⟨_, List.Mem.head _, rfl⟩)
    intro j hj
    have hj' : j < Lib.pow10Tab.length := by simpa using hj
    simp [hj']
    exact .int _ _
  · obtain ⟨r, h⟩ := laidAt h h4
    have e : (Rows.laid_strings_asciiSpace : DataW Unit) = Lib.tabData .u8 Lib.asciiSpaceTab := by kernel_rfl
    rw [e] at h
    have := Lib.tabIs_of_head (g := gSpace) (by kernel_rfl) (by kernel_rfl) Tryz.underlying102 Tryz.underlying5 (by kernel_rfl) (by kernel_rfl) h
    refine gok_one (n := "strings.asciiSpace") (by kernel_rfl) this (by simp) (by simp [AV.one]) ?_ (hI _ ⟨_, .tail _ (List.Mem.head _), rfl⟩)
    intro j hj
    have hj' : j < Lib.asciiSpaceTab.length := by simpa using hj
    simp [hj']
    exact .int _ _
  · refine gok_one (n := "internal/bytealg.MaxLen") (by kernel_rfl) hm rfl (by simp [AV.one]) ?_ (hI _ ⟨_, .tail _ (.tail _ (List.Mem.head _)), rfl⟩)
    intro j hj
    have : j = 0 := by simp at hj; omega
    subst this
    exact .int _ _
  · cases hp
/-- So many blocks has the settled world. -/
noncomputable def lowS : Nat := (World.holding Tryz.prog default ⟨#[], #[], []⟩).heap.size
/-- A world that meets the condition: the settled one, the tables laid, and two blocks more for the table of blanks. -/
noncomputable def bleWorld (os : Os) : World :=
  let w0 := World.holding Tryz.prog os ⟨#[.cells #[.slice (some ⟨lowS + 1, 0, none⟩) 7 7, .slice none 0 0, .int .i64 2] 163,
    .cells #[.int .u16 9, .int .u16 13, .int .u16 1, .int .u16 32, .int .u16 133, .int .u16 101, .int .u16 160, .int .u16 5760, .int .u16 5600, .int .u16 8192, .int .u16 8202, .int .u16 1, .int .u16 8232, .int .u16 8233, .int .u16 1, .int .u16 8239, .int .u16 8287, .int .u16 48, .int .u16 12288, .int .u16 12288, .int .u16 1] 166], #[], []⟩
  let put (h : Array Obj) (g : Nat) (cs : Array Value) : Array Obj := h.modify g fun
    | .cells _ t frozen => .cells cs t frozen
    | o => o
  let h := put w0.heap gPow (litCells Rows.laid_internal_strconv_uint64pow10).toArray
  let h := put h gSpace (litCells Rows.laid_strings_asciiSpace).toArray
  let h := put h 1 #[.pointer (some ⟨lowS, 0, none⟩)]
  let h := put h 6 (litCells Rows.laid_math_bits_deBruijn32tab).toArray
  let h := put h 7 (litCells Rows.laid_math_bits_deBruijn64tab).toArray
  let h := put h 8 (litCells Rows.laid_unicode_utf8_first).toArray
  let h := put h 9 (litCells Rows.laid_unicode_utf8_acceptRanges).toArray
  { w0 with heap := h }
noncomputable abbrev bleBlocks : List Nat := [lowS, lowS + 1, gPow, gSpace, 1, 6, 7, 8, 9]
open Go.Ser Go.Num
section
variable {H : Type} {enc : TypeId × Value → H} {w : World} {base : Nat} {spare : Nat → Bool} {held : Bool}
end
end Go.Proofs.YtdgpnmlialmaaaaGreatDoor
end
section
namespace Go
section
variable {H : Type} {enc : TypeId × Value → H}
theorem returns_shaped {a : Assume} {C : Checked} {os : Os} {f : FuncId} {fn : Func} {s : ChangeSpec} {conds : List PathCond} {apart fresh handsOn again : Bool} {X : World → Array Value → Prop}
    (hX : ∀ (w w' : World) (args : Array Value), w.heap = w'.heap → X w args → X w' args) (own : ownKnob C.prog.godebug = none) (started : os.Started) (noInit : C.prog.inits.idxOf? f = none) (hfn : C.prog.funcs[f]? = some fn)
    (witness : ∃ (w : World) (tape : Tape) (i : Input), w.os = os ∧ (w.forCall tape i).Shaped C.prog ∧ i.vars = [] ∧ Input.okWide C.prog (w.forCall tape i) .any w.heap.size f i ∧
      ((s.pre enc C.prog fn conds apart (w.forCall tape i).memory i.args ∧ X (w.forCall tape i).memory i.args) ∧ sizedMet enc C.prog fn (OpenSpec.ofChange s) apart (w.forCall tape i).memory i.args) ∧ a.holds C.prog (lone (Frame.enter C.prog f i.args .normal) [] (w.forCall tape i)))
    (body : ∀ (W : World) (base : Nat) (args : Array Value) (ds gs : List (DataW H)) (before : List MemPlace), W.ShapedOpen C.prog → (∀ (j : Nat) t v, fn.params[j]? = some t → args[j]? = some v → Value.okWide C.prog W .any base t v) →
      DataW.Whole enc C.prog fn.params.toList s.vars apart W args.toList ds gs before → X W args → Calls C.prog f args W fun e W' => ∃ v, e = .returned v ∧ s.post enc C.prog fn apart fresh handsOn again W args v W') :
    ReturnsInHanded a C os f .any (fun w args => (s.pre enc C.prog fn conds apart w args ∧ X w args) ∧ sizedMet enc C.prog fn (OpenSpec.ofChange s) apart w args) (s.post enc C.prog fn apart fresh handsOn again) := by
  apply returnsInHanded_of_calls own started noInit witness
  rintro w tape i - hshape - ⟨-, -, -, g, hg, -, -, -, -, hval⟩ ⟨⟨⟨ds, gs, before, hw, -⟩, hx⟩, -⟩ -
  cases Option.some.inj (hg.symm.trans hfn)
  apply (body (w.forCall tape i) w.heap.size i.args ds gs before hshape hval (DataW.Whole.of_heap (by rfl) hw) (hX _ _ _ (by rfl) hx)).mono
  rintro e W' ⟨v, rfl, hp⟩
  exact ChangeSpec.post_blind hp
end
end Go
end
section
namespace Go
/-- The variables of a world are of their types, references among them. -/
def World.varsRefB (P : Program) (w : World) : Bool :=
  (List.range P.globals.size).all fun g =>
    match ((begin P (fun _ _ => 0) default).world.heap[g]?).bind Obj.row?, w.heap[g]? with
    | none, _ => true
    | some (zero, t), some (.cells cs t' frozen) => decide (t' = t) && decide (frozen = (0, 0)) && cs.size == zero.size && (!P.buildable t || Row.okRefB P w t cs)
    | _, _ => false
theorem World.shaped_ref {P : Program} {w : World} (hv : w.varsRefB P = true)
    (hr : (w.heap.toList.drop P.globals.size).take ((begin P (fun _ _ => 0) default).world.heap.size - P.globals.size) = (begin P (fun _ _ => 0) default).world.heap.toList.drop P.globals.size) : w.Shaped P := by
  constructor
  · intro g zero t hg hz
    have h := List.all_eq_true.1 hv g (List.mem_range.2 hg)
    rw [hz] at h
    split at h
    · rename_i he; cases he
    · rename_i z' t1 cs t' fr he hw
      simp only [Option.some.injEq, Prod.mk.injEq] at he
      obtain ⟨rfl, rfl⟩ := he
      simp only [Bool.and_eq_true, decide_eq_true_eq, beq_iff_eq, Bool.or_eq_true, Bool.not_eq_true'] at h
      obtain ⟨⟨⟨rfl, rfl⟩, hs⟩, hb⟩ := h
      refine ⟨cs, hw, hs, fun hbuild => ?_⟩
      rcases hb with hb | hb
      · rw [hbuild] at hb; cases hb
      · exact Row.ok_of_okRefB hb
    · cases h
  · intro k h1 h2
    have h := congrArg (fun l => l[k - P.globals.size]?) hr
    simp only [List.getElem?_take, List.getElem?_drop, Array.getElem?_toList] at h
    rwa [if_pos (by omega), Nat.add_sub_cancel' h1] at h
section
variable {H : Type} {enc : TypeId × Value → H}
theorem witness_ref {C : Checked} {os : Os} {f : FuncId} {fn : Func} {s : ChangeSpec} {conds : List PathCond} {apart : Bool} {X : World → Array Value → Prop} (w0 : World) (args : Array Value) (fuel : Nat) (hos : w0.os = os)
    (hv : (w0.forCall (fun _ _ => 0) ⟨#[], args, []⟩).varsRefB C.prog = true)
    (hr : ((w0.forCall (fun _ _ => 0) ⟨#[], args, []⟩).heap.toList.drop C.prog.globals.size).take ((begin C.prog (fun _ _ => 0) default).world.heap.size - C.prog.globals.size) = (begin C.prog (fun _ _ => 0) default).world.heap.toList.drop C.prog.globals.size)
    (hok : Input.okWideB C.prog (w0.forCall (fun _ _ => 0) ⟨#[], args, []⟩) f ⟨#[], args, []⟩ = true)
    (hpre : s.preB enc C.prog fn conds apart (w0.forCall (fun _ _ => 0) ⟨#[], args, []⟩).memory args fuel = true)
    (hsz : s.sizedB enc C.prog fn apart (w0.forCall (fun _ _ => 0) ⟨#[], args, []⟩).memory args fuel = true)
    (hx : X (w0.forCall (fun _ _ => 0) ⟨#[], args, []⟩).memory args) :
    ∃ (w : World) (tape : Tape) (i : Input), w.os = os ∧ (w.forCall tape i).Shaped C.prog ∧ i.vars = [] ∧ Input.okWide C.prog (w.forCall tape i) .any w.heap.size f i ∧
      ((s.pre enc C.prog fn conds apart (w.forCall tape i).memory i.args ∧ X (w.forCall tape i).memory i.args) ∧ sizedMet enc C.prog fn (OpenSpec.ofChange s) apart (w.forCall tape i).memory i.args) ∧ ({} : Assume).holds C.prog (lone (Frame.enter C.prog f i.args .normal) [] (w.forCall tape i)) := by
  refine ⟨w0, fun _ _ => 0, ⟨#[], args, []⟩, hos, World.shaped_ref hv hr, (Input.okWide_of_okWideB (base := 0) hok).1, (Input.okWide_of_okWideB hok).2, ⟨⟨ChangeSpec.pre_of_preB hpre, hx⟩, sizedMet_of_sizedB hsz⟩, ?_⟩
  simp only [Assume.holds]
  exact ⟨by simp, by simp, fun _ => Modest.zero, by simp, by simp⟩
end
end Go
end
section
namespace Go.Proofs.YtdgpnmlialmaaaaGreatDoor
open Go.ChangeShapes Go.WideShapes Go.ChangeAt Go.RowKit Go.ChangeMaps Go.Abs Go.Ser Go.Num
section
variable {H : Type} {enc : TypeId × Value → H} {w : World} {base : Nat} {spare : Nat → Bool} {held : Bool}
theorem spot_of {a : Addr} {n : Nat} {cs : List Value} (h : w.cells? base a (n + 1) = some cs) : a.spot = none := by
  unfold World.cells? at h
  split at h
  · obtain ⟨y, _, hy⟩ : ∃ y, cs[0]? = some y ∧ w.cell? (a.add 0) = some y := by
      have hl := Lib.mapM_at h 0 0 (by simp)
      simpa using hl
    have e : a.add 0 = a := by simp [Addr.add]
    rw [e] at hy
    unfold World.cell? at hy
    split at hy
    · split at hy
      · cases hy
      · rename_i hs; simpa using hs
    · cases hy
  · cases h
theorem spot_row {a : Addr} {len cap size : Nat} {elems rest : List (DataW H × List MemPlace)} {n : Nat} {e : TypeId} (hc : cap ≠ 0) (hlen : elems.length = len)
    (hel : ∀ i, i < len → (w.cells? base (a.add (i * (size + 1))) (size + 1)).bind (DataW.trod enc Tryz.prog w base spare held n e) = elems[i]?)
    (hrl : rest.length = cap - len) (hre : ∀ j, j < cap - len → (w.cells? base (a.add ((len + j) * (size + 1))) (size + 1)).bind (DataW.trod enc Tryz.prog w base spare held n e) = rest[j]?) : a.spot = none := by
  have key : ∃ cs, w.cells? base (a.add (0 * (size + 1))) (size + 1) = some cs := by
    rcases Nat.eq_zero_or_pos len with h0 | h0
    · have h1 := hre 0 (by omega)
      obtain ⟨y, hy⟩ : ∃ y, rest[0]? = some y := ⟨_, List.getElem?_eq_getElem (by omega)⟩
      rw [hy, Option.bind_eq_some_iff, h0, Nat.zero_add] at h1
      obtain ⟨cs, hcs, _⟩ := h1
      exact ⟨cs, hcs⟩
    · have h1 := hel 0 h0
      obtain ⟨y, hy⟩ : ∃ y, elems[0]? = some y := ⟨_, List.getElem?_eq_getElem (by omega)⟩
      rw [hy, Option.bind_eq_some_iff] at h1
      obtain ⟨cs, hcs, _⟩ := h1
      exact ⟨cs, hcs⟩
  obtain ⟨cs, hcs⟩ := key
  have e : a.add (0 * (size + 1)) = a := by simp [Addr.add]
  rw [e] at hcs
  exact spot_of hcs
set_option maxRecDepth 100000 in
theorem nums_cells (hsp : ∀ b, spare b = true) {n : Nat} {c : Value} {x : DataW H × List MemPlace} (hf : DataW.trod enc Tryz.prog w base spare held n 22 [c] = some x) :
    ∃ l : List N, oksN l ∧ l.length ≤ 9223372036854775807 ∧ IR (oldIm w) w (.lst (numEls l)) c := by
  rcases DataW.trod_slice Tryz.underlying22 hf with ⟨hcs, hx⟩ | ⟨a, len, cap, elems, rest, n, _, hcs, hx, hb, hl, hm, hlen, hel, hre, _⟩
  · simp only [List.cons.injEq, and_true] at hcs
    subst hcs
    exact ⟨[], fun n hn => by simp at hn, by simp, .lnil none⟩
  · simp only [List.cons.injEq, and_true] at hcs
    subst hcs
    obtain ⟨hrl, hre⟩ := hre (hsp _)
    rw [num_size] at hel hre
    by_cases hcap : cap = 0
    · have : len = 0 := by omega
      subst this; subst hcap
      exact ⟨[], fun n hn => by simp at hn, by simp, .lnil _⟩
    have hspot : a.spot = none := spot_row (size := 1) hcap hlen hel hrl hre
    obtain ⟨b, o, sp⟩ := a
    simp only at hspot
    subst hspot
    have each : ∀ i, i < len → w.cell? ⟨b, o + (i * 2 + 0), none⟩ = some (.bool (cellB w ⟨b, o + (i * 2 + 0), none⟩)) ∧ w.cell? ⟨b, o + (i * 2 + 1), none⟩ = some (.int .i64 (cellI w ⟨b, o + (i * 2 + 1), none⟩)) ∧ (Lit.int .i64 (cellI w ⟨b, o + (i * 2 + 1), none⟩)).wf = true := by
      intro i hi
      have h1 := hel i hi
      obtain ⟨y, hy⟩ : ∃ y, elems[i]? = some y := ⟨_, List.getElem?_eq_getElem (by omega)⟩
      rw [hy, Option.bind_eq_some_iff] at h1
      obtain ⟨cs, hc1, hc2⟩ := h1
      obtain ⟨bb, m, rfl, hw⟩ := num_cells hc2
      unfold World.cells? at hc1
      split at hc1
      · obtain ⟨y0, g0, g0'⟩ : ∃ y0, some (Value.bool bb) = some y0 ∧ w.cell? ((Addr.add ⟨b, o, none⟩ (i * 2)).add 0) = some y0 := by
          have := Lib.mapM_at hc1 0 0 (by simp)
          simpa using this
        obtain ⟨y1, g1, g1'⟩ : ∃ y1, some (Value.int .i64 m) = some y1 ∧ w.cell? ((Addr.add ⟨b, o, none⟩ (i * 2)).add 1) = some y1 := by
          have := Lib.mapM_at hc1 1 1 (by simp)
          simpa using this
        cases g0; cases g1
        have aa : ∀ x y : Nat, Addr.add ⟨b, x, none⟩ y = ⟨b, x + y, none⟩ := fun x y => by unfold Addr.add; split <;> simp_all
        have a0 : (Addr.add ⟨b, o, none⟩ (i * 2)).add 0 = ⟨b, o + (i * 2 + 0), none⟩ := by rw [aa, aa, Nat.add_assoc]
        have a1 : (Addr.add ⟨b, o, none⟩ (i * 2)).add 1 = ⟨b, o + (i * 2 + 1), none⟩ := by rw [aa, aa, Nat.add_assoc]
        rw [a0] at g0'
        rw [a1] at g1'
        have c0 : cellB w ⟨b, o + (i * 2 + 0), none⟩ = bb := by unfold cellB; rw [g0']
        have c1 : cellI w ⟨b, o + (i * 2 + 1), none⟩ = m := by unfold cellI; rw [g1']
        rw [c0, c1]
        exact ⟨g0', g1', hw⟩
      · cases hc1
    refine ⟨(List.range len).map fun i => (cellB w ⟨b, o + (i * 2 + 0), none⟩, cellI w ⟨b, o + (i * 2 + 1), none⟩), ?_, ?_, ?_⟩
    · intro x hx
      simp only [List.mem_map, List.mem_range] at hx
      obtain ⟨i, hi, rfl⟩ := hx
      exact wf_i64 (each i hi).2.2
    · have : cap ≤ 9223372036854775807 := hm
      simp; omega
    · have hnl : (numEls ((List.range len).map fun i => (cellB w ⟨b, o + (i * 2 + 0), none⟩, cellI w ⟨b, o + (i * 2 + 1), none⟩))).length = len := by simp [numEls]
      have hold : ∀ i j v, w.cell? ⟨b, o + (i * 2 + j), none⟩ = some v → oldIm w ⟨b, o + (i * 2 + j), none⟩ := fun i j v h => by
        refine ⟨rfl, ?_⟩
        rcases Nat.lt_or_ge b w.heap.size with h' | h'
        · exact h'
        · simp [World.cell?, Array.getElem?_eq_none h'] at h
      have := IR.lst (Im := oldIm w) (w := w) (numEls ((List.range len).map fun i => (cellB w ⟨b, o + (i * 2 + 0), none⟩, cellI w ⟨b, o + (i * 2 + 1), none⟩))) 2 b o cap
        (fun i j => if j = 0 then .bool (cellB w ⟨b, o + (i * 2 + 0), none⟩) else .int .i64 (cellI w ⟨b, o + (i * 2 + 1), none⟩)) (by rw [hnl]; exact hl) hm
        (numEls_two _)
        (fun c hc x hx => by
          simp only [numEls, List.mem_map] at hc
          obtain ⟨y, _, rfl⟩ := hc
          simp at hx
          rcases hx with rfl | rfl <;> rfl)
        (fun k j hk hj => by
          rw [hnl] at hk
          obtain ⟨e0, e1, _⟩ := each k hk
          match j, hj with
          | 0, _ => exact ⟨hold k 0 _ e0, e0⟩
          | 1, _ => exact ⟨hold k 1 _ e1, e1⟩)
        (fun k j hk hj => by
          have hj2 : j < 2 := by simpa [numEls] using hj
          match j, hj2 with
          | 0, _ => simp [numEls]; exact .bool _
          | 1, _ => simp [numEls]; exact .int _ _)
      rw [hnl] at this
      exact this
set_option maxRecDepth 100000 in
theorem ser_cells (hsp : ∀ b, spare b = true) {n : Nat} {cs : List Value} {y : DataW H × List MemPlace} (hf : DataW.trod enc Tryz.prog w base spare held n 41 cs = some y) :
    ∃ (s : Sr) (c0 c1 c2 c3 : Value), SrOk s ∧ cs = [c0, c1, c2, c3] ∧ IR (oldIm w) w (.str s.name) c0 ∧ IR (oldIm w) w (.int .i64 s.start) c1 ∧ IR (oldIm w) w (.int .i64 s.step) c2 ∧ IR (oldIm w) w (.lst (numEls s.vals)) c3 := by
  obtain ⟨xs, n, rfl, hx, hl, hxl, hall⟩ := DataW.trod_struct Tryz.underlying41 hf
  have hx2 : xs.length = 4 := hxl
  obtain ⟨x0, x1, x2, x3, rfl⟩ : ∃ x0 x1 x2 x3, xs = [x0, x1, x2, x3] := by
    match xs, hx2 with
    | [a, b, c, d], _ => exact ⟨a, b, c, d, rfl⟩
  have hl2 : cs.length = 4 := by rw [hl, ser_size]
  obtain ⟨c0, c1, c2, c3, rfl⟩ : ∃ c0 c1 c2 c3, cs = [c0, c1, c2, c3] := by
    match cs, hl2 with
    | [a, b, c, d], _ => exact ⟨a, b, c, d, rfl⟩
  have h0 : DataW.trod enc Tryz.prog w base spare held n 9 [c0] = some x0 := by simpa [str_size4, Value.cells] using hall 0 _ rfl
  have h1 : DataW.trod enc Tryz.prog w base spare held n 3 [c1] = some x1 := by simpa [int_size4, Value.cells] using hall 1 _ rfl
  have h2 : DataW.trod enc Tryz.prog w base spare held n 3 [c2] = some x2 := by simpa [int_size4, Value.cells] using hall 2 _ rfl
  have h3 : DataW.trod enc Tryz.prog w base spare held n 22 [c3] = some x3 := by simpa [nums_size4, Value.cells] using hall 3 _ rfl
  obtain ⟨s0, e0, _, w0⟩ := DataW.trod_string Tryz.underlying9 h0
  obtain ⟨m1, e1, _, w1⟩ := DataW.trod_int Tryz.underlying3 h1
  obtain ⟨m2, e2, _, w2⟩ := DataW.trod_int Tryz.underlying3 h2
  simp only [List.cons.injEq, and_true] at e0 e1 e2
  subst e0 e1 e2
  obtain ⟨l, wl, wk, hir⟩ := nums_cells hsp h3
  obtain ⟨a1, a2⟩ := wf_i64 w1
  obtain ⟨b1, b2⟩ := wf_i64 w2
  exact ⟨⟨s0.data.toList, m1, m2, l⟩, _, _, _, _, ⟨by rw [Array.length_toList]; exact w0, a1, a2, b1, b2, wk, wl⟩, rfl, ir_bytes4 _, .int _ _, .int _ _, hir⟩
theorem srC_one (s : Sr) : ∀ x ∈ srC s, x.one = true := by simp [srC, AV.one]
set_option maxRecDepth 100000 in
theorem open_sers (hsp : ∀ b, spare b = true) {r : Reach} {b0 : Nat} {v : Value} {d : DataW H} {ps : List MemPlace} (hval : Value.okWide Tryz.prog w r b0 25 v) (hd : DataW.Trod enc Tryz.prog w base spare held 25 v d ps) :
    ∃ l : List Sr, (∀ s ∈ l, SrOk s) ∧ l.length ≤ 9223372036854775807 ∧ IR (oldIm w) w (.lst (l.map srC)) v := by
  obtain ⟨fuel, hf⟩ := hd
  obtain ⟨a0, len, cap, rfl⟩ := okWide_slice Tryz.underlying25 hval
  rcases DataW.trod_slice Tryz.underlying25 hf with ⟨hcs, hx⟩ | ⟨a, len', cap', elems, rest, n, _, hcs, hx, hb, hl, hm, hlen, hel, hre, _⟩
  · simp [Value.cells] at hcs
    obtain ⟨rfl, rfl, rfl⟩ := hcs
    exact ⟨[], by simp, by simp, .lnil none⟩
  · simp [Value.cells] at hcs
    obtain ⟨rfl, rfl, rfl⟩ := hcs
    obtain ⟨hrl, hre⟩ := hre (hsp _)
    rw [ser_size] at hel hre
    by_cases hcap : cap = 0
    · have : len = 0 := by omega
      subst this; subst hcap
      exact ⟨[], by simp, by simp, .lnil _⟩
    have hspot : a.spot = none := spot_row (size := 3) hcap hlen hel hrl hre
    obtain ⟨b, o, sp⟩ := a
    simp only at hspot
    subst hspot
    have aa : ∀ x y : Nat, Addr.add ⟨b, x, none⟩ y = ⟨b, x + y, none⟩ := fun x y => by unfold Addr.add; split <;> simp_all
    have each : ∀ i, ∃ s : Sr, i < len → SrOk s ∧ ∀ j (h : j < (srC s).length), ∃ c, w.cell? ⟨b, o + (i * 4 + j), none⟩ = some c ∧ IR (oldIm w) w (srC s)[j] c := by
      intro i
      by_cases hi : i < len
      · have h1 := hel i hi
        obtain ⟨y, hy⟩ : ∃ y, elems[i]? = some y := ⟨_, List.getElem?_eq_getElem (by omega)⟩
        rw [hy, Option.bind_eq_some_iff] at h1
        obtain ⟨cs, hc1, hc2⟩ := h1
        obtain ⟨s, c0, c1, c2, c3, hs, rfl, i0, i1, i2, i3⟩ := ser_cells hsp hc2
        refine ⟨s, fun _ => ⟨hs, ?_⟩⟩
        unfold World.cells? at hc1
        split at hc1
        · have at' : ∀ j, j < 4 → ∃ c, [c0, c1, c2, c3][j]? = some c ∧ w.cell? ⟨b, o + (i * 4 + j), none⟩ = some c := by
            intro j hj
            obtain ⟨c, e1, e2⟩ := Lib.mapM_at hc1 j j (by simp [hj])
            rw [aa, aa, Nat.add_assoc] at e2
            exact ⟨c, e1, e2⟩
          intro j hj
          have hj' : j < 4 := hj
          obtain ⟨c, e1, e2⟩ := at' j hj'
          refine ⟨c, e2, ?_⟩
          match j, hj' with
          | 0, _ => simp at e1; subst e1; exact i0
          | 1, _ => simp at e1; subst e1; exact i1
          | 2, _ => simp at e1; subst e1; exact i2
          | 3, _ => simp at e1; subst e1; exact i3
        · cases hc1
      · exact ⟨⟨[], 0, 0, []⟩, fun h => absurd h hi⟩
    obtain ⟨f, hfs⟩ := Classical.axiomOfChoice each
    refine ⟨(List.range len).map f, ?_, ?_, ?_⟩
    · intro s hs
      simp only [List.mem_map, List.mem_range] at hs
      obtain ⟨i, hi, rfl⟩ := hs
      exact (hfs i hi).1
    · have : cap ≤ 9223372036854775807 := hm
      simp; omega
    · have hnl : (((List.range len).map f).map srC).length = len := by simp
      have hold : ∀ i j v, w.cell? ⟨b, o + (i * 4 + j), none⟩ = some v → oldIm w ⟨b, o + (i * 4 + j), none⟩ := fun i j v h => by
        refine ⟨rfl, ?_⟩
        rcases Nat.lt_or_ge b w.heap.size with h' | h'
        · exact h'
        · simp [World.cell?, Array.getElem?_eq_none h'] at h
      have := IR.lst (Im := oldIm w) (w := w) (((List.range len).map f).map srC) 4 b o cap
        (fun i j => (w.cell? ⟨b, o + (i * 4 + j), none⟩).getD undef) (by rw [hnl]; exact hl) hm
        (fun c hc => by
          obtain ⟨s, _, rfl⟩ := List.mem_map.1 hc
          rfl)
        (fun c hc x hx => by
          obtain ⟨s, _, rfl⟩ := List.mem_map.1 hc
          exact srC_one s x hx)
        (fun k j hk hj => by
          rw [hnl] at hk
          obtain ⟨c, hc, _⟩ := (hfs k hk).2 j hj
          exact ⟨hold k j _ hc, by rw [hc]; rfl⟩)
        (fun k j hk hj => by
          rw [hnl] at hk
          have e : (((List.range len).map f).map srC)[k] = srC (f k) := by simp
          have hj' : j < (srC (f k)).length := by rw [← e]; exact hj
          obtain ⟨c, hc, hir⟩ := (hfs k hk).2 j hj'
          simp only [hc, Option.getD_some, e]
          exact hir)
      rw [hnl] at this
      exact this
end
end Go.Proofs.YtdgpnmlialmaaaaGreatDoor
end
