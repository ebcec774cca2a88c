/- strings.Builder: WriteString, WriteByte. Numbers over time: lines of values (both). Numbers over time: the document's Print, Row, At. Functions of one -/
import Derived.Test.YtdgpnmlialmaaaaGreatDoorShelf
import Derived.Test.YtdgpnmlialmaaaaGreatDoorLay
import Derived.Test.YtdgpnmlialmaaaaGreatDoorBn1
import Derived.Test.YtdgpnmlialmaaaaGreatDoorBn2
import Derived.Test.YtdgpnmlialmaaaaGreatDoorBn3
import Derived.Test.YtdgpnmlialmaaaaGreatDoorBn4
import Derived.Test.YtdgpnmlialmaaaaGreatDoorBn5
import Derived.Test.YtdgpnmlialmaaaaGreatDoorBn6
set_option linter.unusedSimpArgs false
set_option linter.unusedVariables false
set_option linter.constructorNameAsVariable false
section
namespace Go.Proofs.YtdgpnmlialmaaaaGreatDoor
open Go.Abs
variable {G : Globs}
end Go.Proofs.YtdgpnmlialmaaaaGreatDoor
end
section
set_option maxHeartbeats 4000000
namespace Go.Ser
open Go.Abs Go.Num Go.Dec
end Go.Ser
namespace Go.Proofs.YtdgpnmlialmaaaaGreatDoor
open Go.Abs Go.Num Go.Ser Go.Dec
variable {G : Globs}
end Go.Proofs.YtdgpnmlialmaaaaGreatDoor
end
section
set_option maxHeartbeats 4000000
namespace Go.Proofs.YtdgpnmlialmaaaaGreatDoor
open Go.Abs Go.Num Go.Ser Go.Dec
variable {G : Globs}
/-- A step that yields something where there is room. -/
theorem ob_if {K : AV → Prop} {t : Tg K} {c : Prop} [Decidable c] {v : AV} (h : c) (hK : K v) : ob K t (if c then some v else none) := ⟨v, if_pos h, hK⟩
end Go.Proofs.YtdgpnmlialmaaaaGreatDoor
end
section
set_option maxHeartbeats 4000000
namespace Go.Shp
open Go.Num Go.Ser Go.Dec Go.Abs
def methodA (t : List UInt8) : AV := match methodS t with
  | none => .tup [.int .i64 0, .bool false]
  | some m => .tup [.int .i64 m, .bool true]
theorem tmod6 (v : Int) : v.tmod 1000000 = 0 ↔ v % 1000000 = 0 := by
  rw [← Int.dvd_iff_tmod_eq_zero, Int.dvd_iff_emod_eq_zero]
theorem tdiv6 {v : Int} (h : v % 1000000 = 0) : v.tdiv 1000000 = v / 1000000 := by
  obtain ⟨k, rfl⟩ := Int.dvd_of_emod_eq_zero h
  rw [Int.mul_tdiv_cancel_left _ (by decide), Int.mul_ediv_cancel_left _ (by decide)]
theorem tdiv6_bd {v : Int} (h0 : -9223372036854775808 ≤ v) (h1 : v ≤ 9223372036854775807) : -9223372036854775808 ≤ v.tdiv 1000000 ∧ v.tdiv 1000000 ≤ 9223372036854775807 := by
  rw [Int.tdiv_eq_ediv]
  have hs : Int.sign 1000000 = 1 := by decide
  rw [hs]
  split <;> omega
theorem join_le : ∀ l : List (List UInt8), (Lib.join l [44]).length ≤ (l.map List.length).sum + l.length
  | [] => by simp [Lib.join]
  | x :: r => by
    have h : ∀ r : List (List UInt8), (Lib.joinTail [44] r).length ≤ (r.map List.length).sum + r.length := by
      intro r
      induction r with
      | nil => simp [Lib.joinTail]
      | cons y r ih =>
        unfold Lib.joinTail at ih ⊢
        simp only [List.map_cons, List.flatten_cons, List.length_append, List.sum_cons, List.length_cons, List.length_nil] at ih ⊢
        omega
    have := h r
    rw [Lib.join_cons]
    simp only [List.length_append, List.map_cons, List.sum_cons, List.length_cons]
    omega
theorem prns_sum : ∀ l : List N, oksN l → ((prns l).map List.length).sum ≤ 21 * l.length
  | [], _ => by simp [prns]
  | n :: l, h => by
    have h1 := prn_le21 n.1 (h n (by simp)).1 (h n (by simp)).2
    have h2 := prns_sum l fun x hx => h x (by simp [hx])
    simp only [prns, List.map_cons, List.sum_cons, List.length_cons] at h2 ⊢
    omega
end Go.Shp
namespace Go.Proofs.YtdgpnmlialmaaaaGreatDoor
open Go.Abs Go.Num Go.Ser Go.Dec Go.Shp
variable {G : Globs}
theorem pName_ok (i : Nat) (h0 : 1 ≤ i) (h1 : i ≤ 5) : PCalls Tryz.prog n_rules_Name [.int .i64 i] (fun r => r = .str (nameM i)) := by
  refine pcalls_of_awp hmix c_rules_Name rfl ?_
  have : i = 1 ∨ i = 2 ∨ i = 3 ∨ i = 4 ∨ i = 5 := by omega
  rcases this with rfl | rfl | rfl | rfl | rfl <;> simp [a_rules_Name, nameM]
theorem methodS_at {t : List UInt8} {i : Nat} (h0 : 1 ≤ i) (h1 : i ≤ 5) (he : nameM i = t) : methodS t = some (i : Int) := by
  subst he
  have : i = 1 ∨ i = 2 ∨ i = 3 ∨ i = 4 ∨ i = 5 := by omega
  rcases this with rfl | rfl | rfl | rfl | rfl <;> decide
theorem methodS_none {t : List UInt8} (h : ∀ j, 1 ≤ j → j < 6 → ¬ nameM j = t) : methodS t = none := by
  have h1 := h 1 (by decide) (by decide)
  have h2 := h 2 (by decide) (by decide)
  have h3 := h 3 (by decide) (by decide)
  have h4 := h 4 (by decide) (by decide)
  have h5 := h 5 (by decide) (by decide)
  unfold methodS
  rw [if_neg (Ne.symm h1), if_neg (Ne.symm h2), if_neg (Ne.symm h3), if_neg (Ne.symm h4), if_neg (Ne.symm h5)]
theorem pMethod_ok (t : List UInt8) : PCalls Tryz.prog n_rules_Method [.str t] (fun r => r = methodA t) := by
  refine pcalls_of_awp hmix c_rules_Method rfl ?_
  simp [a_rules_Method]
  refine lp_startx (fun x f σ => ∃ i : Nat, x = 6 - i ∧ 1 ≤ i ∧ i ≤ 6 ∧ f 0 = .str t ∧ f 4 = .int .i64 i ∧ (∀ j, 1 ≤ j → j < i → ¬ nameM j = t) ∧ σ = []) 5 ?_ ?_
  · exact ⟨1, rfl, by omega, by omega, by simp, by simp, fun j h1 h2 => by omega, rfl⟩
  rintro x f σ ⟨i, rfl, h1, h6, f0, f4, hj, rfl⟩
  simp [f4]
  refine cb_dec (fun hlt => ?_) (fun hge => ?_)
  · have h5 : i ≤ 5 := by omega
    have hw : IntKind.i64.wrap ((i : Int) + 1) = (i : Int) + 1 := wrap_i64 (by omega) (by omega)
    simp [f4]
    refine ac_same (pName_ok i h1 h5) (by simp) ?_
    rintro r rfl
    by_cases he : nameM i = t
    · have hm := methodS_at h1 h5 he
      simp [f0, f4, he, methodA, hm]
    · simp [f0, f4, he, hw]
      refine nx_intro (6 - (i + 1)) (by omega) ⟨i + 1, rfl, by omega, by omega, by simp [f0], by simp, fun j g1 g2 => ?_, rfl⟩
      rcases Nat.lt_or_ge j i with h | h
      · exact hj j g1 h
      · have : j = i := by omega
        subst this; exact he
  · have : i = 6 := by omega
    subst this
    have hm := methodS_none hj
    simp [methodA, hm]
end Go.Proofs.YtdgpnmlialmaaaaGreatDoor
end
section
set_option maxHeartbeats 4000000
namespace Go.Proofs.YtdgpnmlialmaaaaGreatDoor
open Go.Abs Go.Num Go.Ser Go.Dec Go.Shp
variable {G : Globs}
theorem txts_len (l : List (List UInt8)) : (txts l).length = l.length := by simp [txts]
theorem prns_take {l : List N} {k : Nat} {n : N} (h : l[k]? = some n) : prns (l.take (k + 1)) = prns (l.take k) ++ [prn n.1 n.2] := by
  rw [List.take_add_one, h]; simp [prns]
theorem prns_length (l : List N) : (prns l).length = l.length := by simp [prns]
end Go.Proofs.YtdgpnmlialmaaaaGreatDoor
end
section
set_option maxHeartbeats 2000000
namespace Go.Proofs.YtdgpnmlialmaaaaGreatDoor
open Go.Abs Go.Num Go.Ser Go.Dec Go.Shp Go.Ble
variable {G : Globs}
/-- Some number lies in the library's variable of how far it looks. -/
class GMaxL [Globs] : Prop where
  mx : ∃ m : Int, (5, [AV.int .i64 m]) ∈ Globs.tab
theorem split_ok [GMaxL] (s : List UInt8) (hs : s.length ≤ 1000000) : PCalls Tryz.prog 142 [.str s, .str [46]] (fun r => r = .lst (txts (dots s))) := by
  intro base κ Im w vs hsr hv
  obtain ⟨v0, v1, rfl⟩ : ∃ v0 v1, vs = [v0, v1] := by
    match vs, hv.1 with
    | [a, b], _ => exact ⟨a, b, rfl⟩
  have e0 := (hv.2 0 (by simp) (by simp)).str_inv
  have e1 := (hv.2 1 (by simp) (by simp)).str_inv
  simp only [List.getElem_cons_zero, List.getElem_cons_succ] at e0 e1
  subst e0 e1
  obtain ⟨m, hm⟩ := GMaxL.mx
  obtain ⟨vals, hcl, hvl⟩ := glob_cell hsr hm
  have hcell : w.cell? ⟨5, 0, none⟩ = some (.int .i64 m) := by
    have g1 := hcl 0 (by simp)
    have g2 := hvl 0 (by simp)
    simp only [List.getElem_cons_zero] at g2
    generalize vals 0 = y at g1 g2
    cases g2
    exact g1
  have hn := dots_length s
  have hc : Lib.countB ⟨s.toArray⟩ ⟨#[46]⟩ + 1 = (dots s).length := by rw [dots_count]
  have hd : (Lib.splitB ⟨#[46]⟩ 0 (Lib.countB ⟨s.toArray⟩ ⟨#[46]⟩) ⟨s.toArray⟩).map Value.string = (dots s).map fun x => Value.string ⟨x.toArray⟩ := by
    have h := Lib.splitB_data ⟨#[46]⟩ 0 (Lib.countB ⟨s.toArray⟩ ⟨#[46]⟩) ⟨s.toArray⟩
    have h2 : (Lib.splitB ⟨#[46]⟩ 0 (Lib.countB ⟨s.toArray⟩ ⟨#[46]⟩) ⟨s.toArray⟩).map (·.data.toList) = dots s := by
      rw [h]; exact split_dots s
    rw [← h2, List.map_map]
    rfl
  refine (Tryz.strings_Split ⟨s.toArray⟩ ⟨#[46]⟩ m w (by show s.toArray.size < _; simp; omega) hcell (by decide)).mono ?_
  rintro e w' ⟨rfl, rfl⟩
  rw [hc, hd]
  obtain ⟨Im', g1, g2, g3⟩ := own_strs (A := w.heap.size) (l := dots s) (t := 9) (fz := (0, 0)) (cur := ((dots s).map fun l => Value.string ⟨l.toArray⟩).toArray) hsr (w' := w.alloc (.cells ((dots s).map fun l => Value.string ⟨l.toArray⟩).toArray 9)) (Go.RowKit.Below.alloc (Go.RowKit.Below.refl _ _) (Nat.le_refl _) _) (by omega) (Nat.le_refl _) (Go.MapKept.heap_alloc w _).1 (by simp)
  exact ⟨_, [], _, κ, Im', rfl, ⟨rfl, rfl⟩, g1, g2, .im _ _ g3⟩
theorem bPiece_ok [GMaxL] (s : List UInt8) (hs : s.length ≤ 1000000) (n : Nat) (hn : n ≤ 9223372036854775807) : PCalls Tryz.prog n_blend_piece [.str s, .int .i64 n] (fun r => r = .str (pieceS s n)) := by
  refine pcalls_of_awp hmix c_blend_piece rfl ?_
  have hl := txts_len (dots s)
  simp [a_blend_piece]
  refine ac_same (split_ok s hs) (by simp) ?_
  rintro r rfl
  unfold pieceS
  rw [List.getD_eq_getElem?_getD]
  by_cases h : (dots s).length ≤ n
  · rw [List.getElem?_eq_none h]
    simp [hl, h]
  · have h' : n < (dots s).length := by omega
    obtain ⟨p, hp⟩ : ∃ p, (dots s)[n]? = some p := ⟨_, List.getElem?_eq_getElem h'⟩
    have hg : (txts (dots s))[n]? = some [.str p] := by simp [txts, hp]
    obtain ⟨h1, h2⟩ := List.getElem?_eq_some_iff.1 hg
    rw [hp]
    simp [hl, h, hg, h1, h2]
end Go.Proofs.YtdgpnmlialmaaaaGreatDoor
end
section
set_option maxHeartbeats 4000000
namespace Go.Ble
open Go.Num Go.Ser Go.Dec Go.Shp
def plainW : List Cw := [.sum, .average, .least, .greatest, .multiply, .diff, .range, .count, .median, .divide, .percent]
def plainT : List UInt8 := [115, 117, 109, 83, 101, 114, 105, 101, 115, 32, 97, 118, 101, 114, 97, 103, 101, 83, 101, 114, 105, 101, 115, 32, 109, 105, 110, 83, 101, 114, 105, 101, 115, 32, 109, 97, 120, 83, 101, 114, 105, 101, 115, 32, 109, 117, 108, 116, 105, 112, 108, 121, 83, 101, 114, 105, 101, 115, 32, 100, 105, 102, 102, 83, 101, 114, 105, 101, 115, 32, 114, 97, 110, 103, 101, 79, 102, 83, 101, 114, 105, 101, 115, 32, 99, 111, 117, 110, 116, 83, 101, 114, 105, 101, 115, 32, 109, 101, 100, 105, 97, 110, 83, 101, 114, 105, 101, 115, 32, 100, 105, 118, 105, 100, 101, 83, 101, 114, 105, 101, 115, 32, 97, 115, 80, 101, 114, 99, 101, 110, 116]
theorem cw_inj {a b : Cw} (h : a.txt = b.txt) : a = b := by
  have h1 := cwOf_txt a
  rw [h, cwOf_txt] at h1
  simpa using h1.symm
theorem mem_cw {w : Cw} {l : List Cw} : w.txt ∈ l.map Cw.txt ↔ w ∈ l := by
  constructor
  · intro h
    obtain ⟨v, hv, he⟩ := List.mem_map.1 h
    rw [← cw_inj he]; exact hv
  · exact fun h => List.mem_map_of_mem h
theorem not_mem_cw {s : List UInt8} (h : cwOf s = none) (l : List Cw) : s ∉ l.map Cw.txt := fun hm => by
  obtain ⟨v, _, he⟩ := List.mem_map.1 hm
  exact cwOf_none h v he.symm
end Go.Ble
namespace Go.Proofs.YtdgpnmlialmaaaaGreatDoor
open Go.Abs Go.Num Go.Ser Go.Dec Go.Shp Go.Ble
variable {G : Globs}
def takesBA (call : List UInt8) : AV := match cwOf call with
  | none => .tup [.int .i64 0, .bool false, .bool false]
  | some w => .tup [.int .i64 w.takes.1, .bool w.takes.2, .bool true]
theorem bTakes_ok [GSpc] (call : List UInt8) : PCalls Tryz.prog n_blend_Takes [.str call] (fun r => r = takesBA call) := by
  refine pcalls_of_awp hmix c_blend_Takes rfl ?_
  have k0 := fields_ok (G := G) plainT (by decide +kernel) (by decide +kernel) (by decide +kernel)
  have e0 : Lib.fields plainT = plainW.map Cw.txt := by decide +kernel
  rw [e0] at k0
  have k1 := containsStr_ok (G := G) (plainW.map Cw.txt) (by decide) call
  unfold takesBA
  cases hw : cwOf call with
  | none =>
    have h1 := not_mem_cw hw plainW
    have h2 := cwOf_none hw .percentile
    have h3 := cwOf_none hw .group
    simp only [Cw.txt] at h2 h3
    rw [decide_eq_false h1] at k1
    unfold plainT at k0
    simp [a_blend_Takes]
    refine ac_same k0 (by simp) ?_
    rintro r rfl
    simp
    refine ac_same k1 (by simp) ?_
    rintro r rfl
    simp [h2, h3]
  | some w =>
    have := cwOf_some hw
    subst this
    simp only [mem_cw] at k1
    unfold plainT at k0
    simp [a_blend_Takes]
    refine ac_same k0 (by simp) ?_
    rintro r rfl
    simp
    refine ac_same k1 (by simp) ?_
    rintro r rfl
    cases w <;> simp [plainW, Cw.txt, Cw.takes]
end Go.Proofs.YtdgpnmlialmaaaaGreatDoor
end
section
set_option maxHeartbeats 4000000
namespace Go.Ble
open Go.Num Go.Ser Go.Dec Go.Shp
theorem cw_len (w : Cw) : w.txt.length ≤ 18 := by cases w <;> decide
theorem sum_names (l : List Sr) (B : Nat) (h : ∀ s ∈ l, s.name.length ≤ B) : ((l.map (·.name)).map List.length).sum ≤ B * l.length := by
  induction l with
  | nil => simp
  | cons s l ih =>
    have h1 := h s (by simp)
    have h2 := ih fun x hx => h x (by simp [hx])
    simp only [List.map_cons, List.sum_cons, List.length_cons, Nat.mul_add, Nat.mul_one] at h2 ⊢
    omega
end Go.Ble
namespace Go.Proofs.YtdgpnmlialmaaaaGreatDoor
open Go.Abs Go.Num Go.Ser Go.Dec Go.Shp Go.Ble
variable {G : Globs}
/-- What 'checked' answers. -/
def checkR (w : Cw) (l : List Sr) (args : List N) (text : List UInt8) (r : AV) : Prop := ∃ a b : Int, r = .tup [.agg [.int .i64 a, .int .i64 b], .bool (checkB w l args text).isSome] ∧ ∀ n m, checkB w l args text = some (n, m) → a = n ∧ b = m
theorem bChecked_ok (w : Cw) (l : List Sr) (args : List N) (text : List UInt8) (ha : oksN args) (h1 : w = .percentile ∨ w = .group → args ≠ []) :
    PCalls Tryz.prog n_blend_checked [.str w.txt, serL l, .lst (numEls args), .str text] (checkR w l args text) := by
  have hle := serEls_len l
  have hsplit : ∀ p : w = .percentile ∨ w = .group, ∃ a t, args = a :: t := fun p => by
    cases args with
    | nil => exact absurd rfl (h1 p)
    | cons a t => exact ⟨a, t, rfl⟩
  have plain : ∀ (h : checkB w l args text = some (0, 0)), (∀ R : AV → Prop, R (.tup [.agg [.int .i64 0, .int .i64 0], .bool true]) → PCalls Tryz.prog n_blend_checked [.str w.txt, serL l, .lst (numEls args), .str text] R) → PCalls Tryz.prog n_blend_checked [.str w.txt, serL l, .lst (numEls args), .str text] (checkR w l args text) := by
    intro h hR
    refine hR _ ⟨0, 0, by rw [h]; rfl, fun n m hnm => ?_⟩
    rw [h] at hnm; cases hnm; exact ⟨rfl, rfl⟩
  by_cases hg : w = .group
  · subst hg
    obtain ⟨a, t, rfl⟩ := hsplit (.inr rfl)
    have hao := ha a (by simp)
    obtain ⟨o1, o2⟩ := hao
    obtain ⟨t1, t2⟩ := tdiv6_bd o1 o2
    have hw : IntKind.i64.wrap (a.2.tdiv 1000000) = a.2.tdiv 1000000 := wrap_i64 t1 t2
    have hm := tmod6 a.2
    have kM := pMethod_ok (G := G) text
    have hcb : checkB .group l (a :: t) text = match methodS text, wholeS a 0 1099511627776 with
      | some m, some n => some (n, m)
      | _, _ => none := rfl
    refine PCalls.mono (R := fun r => r = .tup [.agg [.int .i64 (a.2.tdiv 1000000), .int .i64 ((methodS text).getD 0)], .bool (checkB .group l (a :: t) text).isSome]) ?_ ?_
    · refine pcalls_of_awp hmix c_blend_checked rfl ?_
      unfold methodA at kM
      rw [hcb]
      simp [a_blend_checked, Cw.txt, serL, numEls_cons]
      refine ac_same kM (by cases methodS text <;> simp) ?_
      rintro r rfl
      cases hms : methodS text with
      | none => simp [hw, splice]
      | some m =>
        unfold wholeS
        by_cases h0 : a.2 % 1000000 = 0
        · have hm' := hm.2 h0
          have hd := tdiv6 h0
          rw [hd] at hw
          by_cases hp : 0 ≤ a.2
          · have hp2 : 0 ≤ a.2 / 1000000 := by omega
            by_cases h2 : a.2 / 1000000 ≤ 1099511627776
            · simp [hw, hm', hd, hp, hp2, h0, h2, splice]
            · simp [hw, hm', hd, hp, hp2, h0, h2, splice]
          · have hp2 : ¬ 0 ≤ a.2 / 1000000 := by omega
            simp [hw, hm', hd, hp, hp2, h0, splice]
        · have hm' : ¬ a.2.tmod 1000000 = 0 := fun h => h0 (hm.1 h)
          by_cases hp : 0 ≤ a.2
          · simp [hw, hm', hp, h0, splice]
          · simp [hw, hm', hp, h0, splice]
    · rintro r rfl
      refine ⟨_, _, rfl, fun n m hnm => ?_⟩
      rw [hcb] at hnm
      cases hms : methodS text with
      | none => rw [hms] at hnm; cases hnm
      | some m' =>
        rw [hms] at hnm
        cases hws : wholeS a 0 1099511627776 with
        | none => rw [hws] at hnm; cases hnm
        | some n' =>
          rw [hws] at hnm
          cases hnm
          unfold wholeS at hws
          split at hws
          · rename_i h; cases hws; exact ⟨tdiv6 h.1, rfl⟩
          · cases hws
  by_cases hp : w = .percentile
  · subst hp
    obtain ⟨a, t, rfl⟩ := hsplit (.inl rfl)
    have hcb : checkB .percentile l (a :: t) text = if 0 ≤ a.2 ∧ a.2 ≤ 100000000 then some (0, 0) else none := rfl
    refine PCalls.mono (R := fun r => r = .tup [.agg [.int .i64 0, .int .i64 0], .bool (checkB .percentile l (a :: t) text).isSome]) ?_ ?_
    · refine pcalls_of_awp hmix c_blend_checked rfl ?_
      rw [hcb]
      by_cases q1 : 0 ≤ a.2
      · by_cases q2 : a.2 ≤ 100000000
        · simp [a_blend_checked, Cw.txt, serL, numEls_cons, q1, q2, splice]
        · simp [a_blend_checked, Cw.txt, serL, numEls_cons, q1, q2, splice]
      · simp [a_blend_checked, Cw.txt, serL, numEls_cons, q1, splice]
    · rintro r rfl
      refine ⟨_, _, rfl, fun n m hnm => ?_⟩
      rw [hcb] at hnm
      split at hnm
      · cases hnm; exact ⟨rfl, rfl⟩
      · cases hnm
  by_cases hd : w = .divide
  · subst hd
    have hcb : checkB .divide l args text = if l.length = 2 then some (0, 0) else none := rfl
    refine PCalls.mono (R := fun r => r = .tup [.agg [.int .i64 0, .int .i64 0], .bool (checkB .divide l args text).isSome]) ?_ ?_
    · refine pcalls_of_awp hmix c_blend_checked rfl ?_
      rw [hcb]
      by_cases q1 : l.length = 2
      · simp [a_blend_checked, Cw.txt, serL, hle, q1, splice]
      · have q2 : ¬ (l.length : Int) = 2 := by omega
        simp [a_blend_checked, Cw.txt, serL, hle, q1, q2, splice]
    · rintro r rfl
      refine ⟨_, _, rfl, fun n m hnm => ?_⟩
      rw [hcb] at hnm
      split at hnm
      · cases hnm; exact ⟨rfl, rfl⟩
      · cases hnm
  · refine plain (by cases w <;> simp_all [checkB]) fun R hR => ?_
    refine pcalls_of_awp hmix c_blend_checked rfl ?_
    cases w <;> first | (exfalso; exact hg rfl) | (exfalso; exact hp rfl) | (exfalso; exact hd rfl) | simp [a_blend_checked, Cw.txt, serL, splice, hR]
theorem bLabel_ok [GPow] (w : Cw) (l : List Sr) (args : List N) (hl : l.length ≤ 1000) (hn : ∀ s ∈ l, s.name.length ≤ 100000) (ha : args.length ≤ 1000) (ho : oksN args) :
    PCalls Tryz.prog n_blend_label [.str w.txt, serL l, .lst (numEls args)] (fun r => r = .str (nameB w l args)) := by
  refine pcalls_of_awp hmix c_blend_label rfl ?_
  have hle := serEls_len l
  have hla := numEls_len args
  have hcw := cw_len w
  obtain ⟨c, hc⟩ : ∃ c, c = w.txt := ⟨_, rfl⟩
  unfold nameB
  rw [← hc] at hcw ⊢
  unfold serL
  simp [a_blend_label, hle]
  refine lp_startx (fun x f τ => ∃ (i : Nat) (V : AV), x = l.length - i ∧ i ≤ l.length ∧ f 0 = .str c ∧ f 2 = .lst (numEls args) ∧ f 7 = V ∧ f 12 = .lst (serEls l) ∧ f 13 = .int .i64 l.length ∧ f 14 = .int .i64 i ∧ AccT 9 1 0 τ V (txts ((l.take i).map (·.name)))) l.length ?_ ?_
  · exact ⟨0, .nils, by simp, by simp, by simp, by simp, by simp, by simp, by simp, by simp, accT_nil⟩
  rintro x f τ ⟨i, V, hx, hi, f0, f2, f7, f12, f13, f14, hacc⟩
  simp [f13, f14]
  refine cb_dec (fun hlt => ?_) (fun hge => ?_)
  · have hlti : i < l.length := by omega
    have hwi : IntKind.i64.wrap ((i : Int) + 1) = ((i + 1 : Nat) : Int) := by rw [wrap_i64 (by omega) (by omega)]; omega
    obtain ⟨y, hy⟩ : ∃ y, l[i]? = some y := ⟨_, List.getElem?_eq_getElem hlti⟩
    have hse := serEls_get hy
    obtain ⟨hx1, hx2⟩ := List.getElem?_eq_some_iff.1 hse
    have htl : (txts ((l.take i).map (·.name))).length = i := by rw [txts_len, List.length_map, List.length_take]; omega
    have hst : txts ((l.take i).map (·.name)) ++ [[.str y.name]] = txts ((l.take (i + 1)).map (·.name)) := by rw [List.take_add_one, hy]; simp [txts]
    simp [f7, f12, f14, hse, hx1, hx2, tail_get, tail_set, splice]
    refine ap_acc0 (bytes := 16) (hacc.more [_]) [.str y.name] (by decide) rfl (by rw [htl]; omega) (by rw [htl]; omega) fun V' τ' hacc' hlen hkeep => ?_
    rw [hst] at hacc'
    simp [f14, hwi]
    exact nx_intro (l.length - (i + 1)) (by omega) ⟨i + 1, V', rfl, by omega, by simp [f0], by simp [f2], by simp, by simp [f12], by simp [f13], by simp, hacc'⟩
  · have hil : i = l.length := by omega
    subst hil
    rw [List.take_length] at hacc
    obtain ⟨nm, hnm⟩ : ∃ nm, nm = l.map (·.name) := ⟨_, rfl⟩
    have hnl : nm.length = l.length := by rw [hnm]; simp
    rw [← hnm] at hacc ⊢
    simp [f0, f2, hla]
    refine lp_startx (fun x f τ => ∃ (i : Nat) (V : AV), x = args.length - i ∧ i ≤ args.length ∧ f 0 = .str c ∧ f 7 = V ∧ f 24 = .lst (numEls args) ∧ f 25 = .int .i64 args.length ∧ f 26 = .int .i64 i ∧ AccT 9 1 0 τ V (txts (nm ++ prns (args.take i)))) args.length ?_ ?_
    · exact ⟨0, V, by simp, by simp, by simp [f0], by simp [f7], by simp [f2], by simp [hla], by simp, by simpa [prns] using hacc⟩
    rintro x f τ ⟨i, V, hx, hi, f0, f7, f24, f25, f26, hacc⟩
    simp [f25, f26]
    refine cb_dec (fun hlt => ?_) (fun hge => ?_)
    · have hlti : i < args.length := by omega
      have hwi : IntKind.i64.wrap ((i : Int) + 1) = ((i + 1 : Nat) : Int) := by rw [wrap_i64 (by omega) (by omega)]; omega
      obtain ⟨y, hy⟩ : ∃ y, args[i]? = some y := ⟨_, List.getElem?_eq_getElem hlti⟩
      have hse := numEls_get hy
      obtain ⟨hx1, hx2⟩ := List.getElem?_eq_some_iff.1 hse
      have hyo := ho y (List.mem_of_getElem? hy)
      have kP := dPrint_ok (G := G) y.1 y.2 hyo.1 hyo.2
      have htl : (txts (nm ++ prns (args.take i))).length = l.length + i := by rw [txts_len, List.length_append, prns_length, List.length_take, hnl]; omega
      have hst : txts (nm ++ prns (args.take i)) ++ [[.str (prn y.1 y.2)]] = txts (nm ++ prns (args.take (i + 1))) := by rw [prns_take hy]; simp [txts]
      simp [f7, f24, f26, hse, hx1, hx2, tail_get, tail_set, splice]
      refine ac_same kP (by simp) ?_
      rintro r rfl
      simp [f7]
      refine ap_acc0 (bytes := 16) (hacc.more [_]) [.str (prn y.1 y.2)] (by decide) rfl (by rw [htl]; omega) (by rw [htl]; omega) fun V' τ' hacc' hlen hkeep => ?_
      rw [hst] at hacc'
      simp [f26, hwi]
      exact nx_intro (args.length - (i + 1)) (by omega) ⟨i + 1, V', rfl, by omega, by simp [f0], by simp, by simp [f24], by simp [f25], by simp, hacc'⟩
    · have hil : i = args.length := by omega
      subst hil
      rw [List.take_length] at hacc
      have hj := join_le (nm ++ prns args)
      have hps := prns_sum args ho
      have hns := sum_names l 100000 hn
      rw [← hnm] at hns
      have hpl := prns_length args
      simp only [List.map_append, List.sum_append, List.length_append] at hj
      have kJ := joinC_ok (G := G) (nm ++ prns args) (by omega) (by simp; omega)
      obtain ⟨J, hJ⟩ : ∃ J, J = Lib.join (nm ++ prns args) [44] := ⟨_, rfl⟩
      rw [← hJ] at kJ hj ⊢
      simp [f0, f7]
      refine ob_if (by omega) ?_
      simp [f7]
      refine ac_lent kJ (.cons (hacc.coe0 true) (.cons (.pure _ (by simp [AV.pure])) .nil)) ?_
      rintro r rfl
      refine ⟨by simp, ?_⟩
      simp
      refine ob_if (by omega) ?_
      simp
      refine ob_if (by omega) ?_
      simp
end Go.Proofs.YtdgpnmlialmaaaaGreatDoor
end
section
set_option maxHeartbeats 4000000
namespace Go.Proofs.YtdgpnmlialmaaaaGreatDoor
open Go.Abs Go.Num Go.Ser Go.Ble Go.Dec Go.Shp
variable {G : Globs}
end Go.Proofs.YtdgpnmlialmaaaaGreatDoor
end
section
set_option maxHeartbeats 4000000
namespace Go.Ble
open Go.Num
end Go.Ble
namespace Go.Proofs.YtdgpnmlialmaaaaGreatDoor
open Go.Abs Go.Num Go.Ser Go.Ble Go.Dec Go.Shp
variable {G : Globs}
end Go.Proofs.YtdgpnmlialmaaaaGreatDoor
end
