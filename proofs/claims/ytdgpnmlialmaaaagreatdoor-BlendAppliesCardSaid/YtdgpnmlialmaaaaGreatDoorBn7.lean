/- strings.Builder: WriteString, WriteByte. Numbers over time: lines of values (both). Numbers over time: the document's Print, Row, At. Functions of one -/
import Derived.Test.YtdgpnmlialmaaaaGreatDoorShelf
import Derived.Test.YtdgpnmlialmaaaaGreatDoorLay
import Derived.Test.YtdgpnmlialmaaaaGreatDoorBn1
import Derived.Test.YtdgpnmlialmaaaaGreatDoorBn2
import Derived.Test.YtdgpnmlialmaaaaGreatDoorBn3
import Derived.Test.YtdgpnmlialmaaaaGreatDoorBn4
import Derived.Test.YtdgpnmlialmaaaaGreatDoorBn5
import Derived.Test.YtdgpnmlialmaaaaGreatDoorBn6
set_option linter.unusedSimpArgs false
set_option linter.unusedVariables false
set_option linter.constructorNameAsVariable false
section
namespace Go.Proofs.YtdgpnmlialmaaaaGreatDoor
open Go.Abs
variable {G : Globs}
end Go.Proofs.YtdgpnmlialmaaaaGreatDoor
end
section
set_option maxHeartbeats 4000000
namespace Go.Ser
open Go.Abs Go.Num Go.Dec
end Go.Ser
namespace Go.Proofs.YtdgpnmlialmaaaaGreatDoor
open Go.Abs Go.Num Go.Ser Go.Dec
variable {G : Globs}
end Go.Proofs.YtdgpnmlialmaaaaGreatDoor
end
section
set_option maxHeartbeats 4000000
namespace Go.Proofs.YtdgpnmlialmaaaaGreatDoor
open Go.Abs Go.Num Go.Ser Go.Dec
variable {G : Globs}
/-- A step that yields something where there is room. -/
theorem ob_if {K : AV → Prop} {t : Tg K} {c : Prop} [Decidable c] {v : AV} (h : c) (hK : K v) : ob K t (if c then some v else none) := ⟨v, if_pos h, hK⟩
end Go.Proofs.YtdgpnmlialmaaaaGreatDoor
end
section
set_option maxHeartbeats 4000000
namespace Go.Shp
open Go.Num Go.Ser Go.Dec Go.Abs
def methodA (t : List UInt8) : AV := match methodS t with
  | none => .tup [.int .i64 0, .bool false]
  | some m => .tup [.int .i64 m, .bool true]
theorem tmod6 (v : Int) : v.tmod 1000000 = 0 ↔ v % 1000000 = 0 := by
  rw [← Int.dvd_iff_tmod_eq_zero, Int.dvd_iff_emod_eq_zero]
theorem tdiv6 {v : Int} (h : v % 1000000 = 0) : v.tdiv 1000000 = v / 1000000 := by
  obtain ⟨k, rfl⟩ := Int.dvd_of_emod_eq_zero h
  rw [Int.mul_tdiv_cancel_left _ (by decide), Int.mul_ediv_cancel_left _ (by decide)]
theorem tdiv6_bd {v : Int} (h0 : -9223372036854775808 ≤ v) (h1 : v ≤ 9223372036854775807) : -9223372036854775808 ≤ v.tdiv 1000000 ∧ v.tdiv 1000000 ≤ 9223372036854775807 := by
  rw [Int.tdiv_eq_ediv]
  have hs : Int.sign 1000000 = 1 := by decide
  rw [hs]
  split <;> omega
theorem join_le : ∀ l : List (List UInt8), (Lib.join l [44]).length ≤ (l.map List.length).sum + l.length
  | [] => by simp [Lib.join]
  | x :: r => by
    have h : ∀ r : List (List UInt8), (Lib.joinTail [44] r).length ≤ (r.map List.length).sum + r.length := by
      intro r
      induction r with
      | nil => simp [Lib.joinTail]
      | cons y r ih =>
        unfold Lib.joinTail at ih ⊢
        simp only [List.map_cons, List.flatten_cons, List.length_append, List.sum_cons, List.length_cons, List.length_nil] at ih ⊢
        omega
    have := h r
    rw [Lib.join_cons]
    simp only [List.length_append, List.map_cons, List.sum_cons, List.length_cons]
    omega
theorem prns_sum : ∀ l : List N, oksN l → ((prns l).map List.length).sum ≤ 21 * l.length
  | [], _ => by simp [prns]
  | n :: l, h => by
    have h1 := prn_le21 n.1 (h n (by simp)).1 (h n (by simp)).2
    have h2 := prns_sum l fun x hx => h x (by simp [hx])
    simp only [prns, List.map_cons, List.sum_cons, List.length_cons] at h2 ⊢
    omega
end Go.Shp
namespace Go.Proofs.YtdgpnmlialmaaaaGreatDoor
open Go.Abs Go.Num Go.Ser Go.Dec Go.Shp
variable {G : Globs}
theorem rName_ok (i : Nat) (h0 : 1 ≤ i) (h1 : i ≤ 5) : PCalls Tryz.prog n_isobarref12_Name [.int .i64 i] (fun r => r = .str (nameM i)) := by
  refine pcalls_of_awp hmix c_isobarref12_Name rfl ?_
  have : i = 1 ∨ i = 2 ∨ i = 3 ∨ i = 4 ∨ i = 5 := by omega
  rcases this with rfl | rfl | rfl | rfl | rfl <;> simp [a_isobarref12_Name, nameM]
theorem pName_ok (i : Nat) (h0 : 1 ≤ i) (h1 : i ≤ 5) : PCalls Tryz.prog n_rules_Name [.int .i64 i] (fun r => r = .str (nameM i)) := by
  refine pcalls_of_awp hmix c_rules_Name rfl ?_
  have : i = 1 ∨ i = 2 ∨ i = 3 ∨ i = 4 ∨ i = 5 := by omega
  rcases this with rfl | rfl | rfl | rfl | rfl <;> simp [a_rules_Name, nameM]
theorem methodS_at {t : List UInt8} {i : Nat} (h0 : 1 ≤ i) (h1 : i ≤ 5) (he : nameM i = t) : methodS t = some (i : Int) := by
  subst he
  have : i = 1 ∨ i = 2 ∨ i = 3 ∨ i = 4 ∨ i = 5 := by omega
  rcases this with rfl | rfl | rfl | rfl | rfl <;> decide
theorem methodS_none {t : List UInt8} (h : ∀ j, 1 ≤ j → j < 6 → ¬ nameM j = t) : methodS t = none := by
  have h1 := h 1 (by decide) (by decide)
  have h2 := h 2 (by decide) (by decide)
  have h3 := h 3 (by decide) (by decide)
  have h4 := h 4 (by decide) (by decide)
  have h5 := h 5 (by decide) (by decide)
  unfold methodS
  rw [if_neg (Ne.symm h1), if_neg (Ne.symm h2), if_neg (Ne.symm h3), if_neg (Ne.symm h4), if_neg (Ne.symm h5)]
theorem rMethod_ok (t : List UInt8) : PCalls Tryz.prog n_isobarref12_Method [.str t] (fun r => r = methodA t) := by
  refine pcalls_of_awp hmix c_isobarref12_Method rfl ?_
  simp [a_isobarref12_Method]
  refine lp_startx (fun x f σ => ∃ i : Nat, x = 6 - i ∧ 1 ≤ i ∧ i ≤ 6 ∧ f 0 = .str t ∧ f 4 = .int .i64 i ∧ (∀ j, 1 ≤ j → j < i → ¬ nameM j = t) ∧ σ = []) 5 ?_ ?_
  · exact ⟨1, rfl, by omega, by omega, by simp, by simp, fun j h1 h2 => by omega, rfl⟩
  rintro x f σ ⟨i, rfl, h1, h6, f0, f4, hj, rfl⟩
  simp [f4]
  refine cb_dec (fun hlt => ?_) (fun hge => ?_)
  · have h5 : i ≤ 5 := by omega
    have hw : IntKind.i64.wrap ((i : Int) + 1) = (i : Int) + 1 := wrap_i64 (by omega) (by omega)
    simp [f4]
    refine ac_same (rName_ok i h1 h5) (by simp) ?_
    rintro r rfl
    by_cases he : nameM i = t
    · have hm := methodS_at h1 h5 he
      simp [f0, f4, he, methodA, hm]
    · simp [f0, f4, he, hw]
      refine nx_intro (6 - (i + 1)) (by omega) ⟨i + 1, rfl, by omega, by omega, by simp [f0], by simp, fun j g1 g2 => ?_, rfl⟩
      rcases Nat.lt_or_ge j i with h | h
      · exact hj j g1 h
      · have : j = i := by omega
        subst this; exact he
  · have : i = 6 := by omega
    subst this
    have hm := methodS_none hj
    simp [methodA, hm]
theorem pMethod_ok (t : List UInt8) : PCalls Tryz.prog n_rules_Method [.str t] (fun r => r = methodA t) := by
  refine pcalls_of_awp hmix c_rules_Method rfl ?_
  simp [a_rules_Method]
  refine lp_startx (fun x f σ => ∃ i : Nat, x = 6 - i ∧ 1 ≤ i ∧ i ≤ 6 ∧ f 0 = .str t ∧ f 4 = .int .i64 i ∧ (∀ j, 1 ≤ j → j < i → ¬ nameM j = t) ∧ σ = []) 5 ?_ ?_
  · exact ⟨1, rfl, by omega, by omega, by simp, by simp, fun j h1 h2 => by omega, rfl⟩
  rintro x f σ ⟨i, rfl, h1, h6, f0, f4, hj, rfl⟩
  simp [f4]
  refine cb_dec (fun hlt => ?_) (fun hge => ?_)
  · have h5 : i ≤ 5 := by omega
    have hw : IntKind.i64.wrap ((i : Int) + 1) = (i : Int) + 1 := wrap_i64 (by omega) (by omega)
    simp [f4]
    refine ac_same (pName_ok i h1 h5) (by simp) ?_
    rintro r rfl
    by_cases he : nameM i = t
    · have hm := methodS_at h1 h5 he
      simp [f0, f4, he, methodA, hm]
    · simp [f0, f4, he, hw]
      refine nx_intro (6 - (i + 1)) (by omega) ⟨i + 1, rfl, by omega, by omega, by simp [f0], by simp, fun j g1 g2 => ?_, rfl⟩
      rcases Nat.lt_or_ge j i with h | h
      · exact hj j g1 h
      · have : j = i := by omega
        subst this; exact he
  · have : i = 6 := by omega
    subst this
    have hm := methodS_none hj
    simp [methodA, hm]
/-- What 'whole' answers. -/
def wholeR (n : N) (low high : Int) (r : AV) : Prop := ∃ z : Int, r = .tup [.int .i64 z, .bool (wholeS n low high).isSome] ∧ ∀ m, wholeS n low high = some m → z = m
theorem rWhole25_ok (n : N) (ho : okN n) (hg : good n = true) (low high : Int) : PCalls Tryz.prog n_isobarref25_Whole [numA n, .int .i64 low, .int .i64 high] (wholeR n low high) := by
  have main : PCalls Tryz.prog n_isobarref25_Whole [numA n, .int .i64 low, .int .i64 high] (fun r => r = .tup [.int .i64 (if n.2 % 1000000 = 0 then n.2.tdiv 1000000 else 0), .bool (wholeS n low high).isSome]) := by
    refine pcalls_of_awp hmix c_isobarref25_Whole rfl ?_
    have kr := rnRight_ok (G := G) n ho
    obtain ⟨o1, o2⟩ := ho
    obtain ⟨t1, t2⟩ := tdiv6_bd o1 o2
    have hw : IntKind.i64.wrap (n.2.tdiv 1000000) = n.2.tdiv 1000000 := wrap_i64 t1 t2
    have hm := tmod6 n.2
    have hrg := right_good n
    rw [hg] at hrg
    simp only [Bool.and_eq_true, Bool.not_eq_true'] at hrg
    obtain ⟨r1, r2⟩ := hrg
    rw [r1] at kr
    rw [numA_eq] at kr ⊢
    by_cases h0 : n.2 % 1000000 = 0
    · have hm' := hm.2 h0
      have hd := tdiv6 h0
      rw [if_pos h0]
      by_cases h1 : low ≤ n.2 / 1000000
      · by_cases h2 : n.2 / 1000000 ≤ high
        · have hs : (wholeS n low high).isSome = true := by simp [wholeS, h0, h1, h2]
          rw [hs]
          rw [hd] at hw
          simp [a_isobarref25_Whole]
          refine ac_same kr (by simp) ?_
          rintro r rfl
          simp [hw, hm', hd, h1, h2, r2]
        · have hs : (wholeS n low high).isSome = false := by simp [wholeS, h0, h1, h2]
          rw [hs]
          rw [hd] at hw
          simp [a_isobarref25_Whole]
          refine ac_same kr (by simp) ?_
          rintro r rfl
          simp [hw, hm', hd, h1, h2, r2]
      · have hs : (wholeS n low high).isSome = false := by simp [wholeS, h0, h1]
        rw [hs]
        rw [hd] at hw
        simp [a_isobarref25_Whole]
        refine ac_same kr (by simp) ?_
        rintro r rfl
        simp [hw, hm', hd, h1, r2]
    · have hm' : ¬ n.2.tmod 1000000 = 0 := fun h => h0 (hm.1 h)
      have hs : (wholeS n low high).isSome = false := by simp [wholeS, h0]
      rw [hs, if_neg h0]
      simp [a_isobarref25_Whole]
      refine ac_same kr (by simp) ?_
      rintro r rfl
      simp [hw, hm', r2]
  refine main.mono ?_
  rintro r rfl
  refine ⟨_, rfl, fun m hm => ?_⟩
  unfold wholeS at hm
  split at hm
  · rename_i h; cases hm; rw [if_pos h.1]; exact tdiv6 h.1
  · cases hm
end Go.Proofs.YtdgpnmlialmaaaaGreatDoor
end
section
set_option maxHeartbeats 4000000
namespace Go.Proofs.YtdgpnmlialmaaaaGreatDoor
open Go.Abs Go.Num Go.Ser Go.Dec Go.Shp
variable {G : Globs}
theorem txts_len (l : List (List UInt8)) : (txts l).length = l.length := by simp [txts]
theorem prns_take {l : List N} {k : Nat} {n : N} (h : l[k]? = some n) : prns (l.take (k + 1)) = prns (l.take k) ++ [prn n.1 n.2] := by
  rw [List.take_add_one, h]; simp [prns]
theorem prns_length (l : List N) : (prns l).length = l.length := by simp [prns]
end Go.Proofs.YtdgpnmlialmaaaaGreatDoor
end
section
set_option maxHeartbeats 2000000
namespace Go.Proofs.YtdgpnmlialmaaaaGreatDoor
open Go.Abs Go.Num Go.Ser Go.Dec Go.Shp Go.Ble
variable {G : Globs}
/-- Some number lies in the library's variable of how far it looks. -/
class GMaxL [Globs] : Prop where
  mx : ∃ m : Int, (5, [AV.int .i64 m]) ∈ Globs.tab
theorem split_ok [GMaxL] (s : List UInt8) (hs : s.length ≤ 1000000) : PCalls Tryz.prog 142 [.str s, .str [46]] (fun r => r = .lst (txts (dots s))) := by
  intro base κ Im w vs hsr hv
  obtain ⟨v0, v1, rfl⟩ : ∃ v0 v1, vs = [v0, v1] := by
    match vs, hv.1 with
    | [a, b], _ => exact ⟨a, b, rfl⟩
  have e0 := (hv.2 0 (by simp) (by simp)).str_inv
  have e1 := (hv.2 1 (by simp) (by simp)).str_inv
  simp only [List.getElem_cons_zero, List.getElem_cons_succ] at e0 e1
  subst e0 e1
  obtain ⟨m, hm⟩ := GMaxL.mx
  obtain ⟨vals, hcl, hvl⟩ := glob_cell hsr hm
  have hcell : w.cell? ⟨5, 0, none⟩ = some (.int .i64 m) := by
    have g1 := hcl 0 (by simp)
    have g2 := hvl 0 (by simp)
    simp only [List.getElem_cons_zero] at g2
    generalize vals 0 = y at g1 g2
    cases g2
    exact g1
  have hn := dots_length s
  have hc : Lib.countB ⟨s.toArray⟩ ⟨#[46]⟩ + 1 = (dots s).length := by rw [dots_count]
  have hd : (Lib.splitB ⟨#[46]⟩ 0 (Lib.countB ⟨s.toArray⟩ ⟨#[46]⟩) ⟨s.toArray⟩).map Value.string = (dots s).map fun x => Value.string ⟨x.toArray⟩ := by
    have h := Lib.splitB_data ⟨#[46]⟩ 0 (Lib.countB ⟨s.toArray⟩ ⟨#[46]⟩) ⟨s.toArray⟩
    have h2 : (Lib.splitB ⟨#[46]⟩ 0 (Lib.countB ⟨s.toArray⟩ ⟨#[46]⟩) ⟨s.toArray⟩).map (·.data.toList) = dots s := by
      rw [h]; exact split_dots s
    rw [← h2, List.map_map]
    rfl
  refine (Tryz.strings_Split ⟨s.toArray⟩ ⟨#[46]⟩ m w (by show s.toArray.size < _; simp; omega) hcell (by decide)).mono ?_
  rintro e w' ⟨rfl, rfl⟩
  rw [hc, hd]
  obtain ⟨Im', g1, g2, g3⟩ := own_strs (A := w.heap.size) (l := dots s) (t := 9) (fz := (0, 0)) (cur := ((dots s).map fun l => Value.string ⟨l.toArray⟩).toArray) hsr (w' := w.alloc (.cells ((dots s).map fun l => Value.string ⟨l.toArray⟩).toArray 9)) (Go.RowKit.Below.alloc (Go.RowKit.Below.refl _ _) (Nat.le_refl _) _) (by omega) (Nat.le_refl _) (Go.MapKept.heap_alloc w _).1 (by simp)
  exact ⟨_, [], _, κ, Im', rfl, ⟨rfl, rfl⟩, g1, g2, .im _ _ g3⟩
theorem bPiece_ok [GMaxL] (s : List UInt8) (hs : s.length ≤ 1000000) (n : Nat) (hn : n ≤ 9223372036854775807) : PCalls Tryz.prog n_blend_piece [.str s, .int .i64 n] (fun r => r = .str (pieceS s n)) := by
  refine pcalls_of_awp hmix c_blend_piece rfl ?_
  have hl := txts_len (dots s)
  simp [a_blend_piece]
  refine ac_same (split_ok s hs) (by simp) ?_
  rintro r rfl
  unfold pieceS
  rw [List.getD_eq_getElem?_getD]
  by_cases h : (dots s).length ≤ n
  · rw [List.getElem?_eq_none h]
    simp [hl, h]
  · have h' : n < (dots s).length := by omega
    obtain ⟨p, hp⟩ : ∃ p, (dots s)[n]? = some p := ⟨_, List.getElem?_eq_getElem h'⟩
    have hg : (txts (dots s))[n]? = some [.str p] := by simp [txts, hp]
    obtain ⟨h1, h2⟩ := List.getElem?_eq_some_iff.1 hg
    rw [hp]
    simp [hl, h, hg, h1, h2]
end Go.Proofs.YtdgpnmlialmaaaaGreatDoor
end
section
set_option maxHeartbeats 4000000
namespace Go.Ble
open Go.Num Go.Ser Go.Dec Go.Shp
def plainW : List Cw := [.sum, .average, .least, .greatest, .multiply, .diff, .range, .count, .median, .divide, .percent]
def plainT : List UInt8 := [115, 117, 109, 83, 101, 114, 105, 101, 115, 32, 97, 118, 101, 114, 97, 103, 101, 83, 101, 114, 105, 101, 115, 32, 109, 105, 110, 83, 101, 114, 105, 101, 115, 32, 109, 97, 120, 83, 101, 114, 105, 101, 115, 32, 109, 117, 108, 116, 105, 112, 108, 121, 83, 101, 114, 105, 101, 115, 32, 100, 105, 102, 102, 83, 101, 114, 105, 101, 115, 32, 114, 97, 110, 103, 101, 79, 102, 83, 101, 114, 105, 101, 115, 32, 99, 111, 117, 110, 116, 83, 101, 114, 105, 101, 115, 32, 109, 101, 100, 105, 97, 110, 83, 101, 114, 105, 101, 115, 32, 100, 105, 118, 105, 100, 101, 83, 101, 114, 105, 101, 115, 32, 97, 115, 80, 101, 114, 99, 101, 110, 116]
theorem cw_inj {a b : Cw} (h : a.txt = b.txt) : a = b := by
  have h1 := cwOf_txt a
  rw [h, cwOf_txt] at h1
  simpa using h1.symm
theorem mem_cw {w : Cw} {l : List Cw} : w.txt ∈ l.map Cw.txt ↔ w ∈ l := by
  constructor
  · intro h
    obtain ⟨v, hv, he⟩ := List.mem_map.1 h
    rw [← cw_inj he]; exact hv
  · exact fun h => List.mem_map_of_mem h
theorem not_mem_cw {s : List UInt8} (h : cwOf s = none) (l : List Cw) : s ∉ l.map Cw.txt := fun hm => by
  obtain ⟨v, _, he⟩ := List.mem_map.1 hm
  exact cwOf_none h v he.symm
end Go.Ble
namespace Go.Proofs.YtdgpnmlialmaaaaGreatDoor
open Go.Abs Go.Num Go.Ser Go.Dec Go.Shp Go.Ble
variable {G : Globs}
def takesBA (call : List UInt8) : AV := match cwOf call with
  | none => .tup [.int .i64 0, .bool false, .bool false]
  | some w => .tup [.int .i64 w.takes.1, .bool w.takes.2, .bool true]
theorem bTakes_ok [GSpc] (call : List UInt8) : PCalls Tryz.prog n_blend_Takes [.str call] (fun r => r = takesBA call) := by
  refine pcalls_of_awp hmix c_blend_Takes rfl ?_
  have k0 := fields_ok (G := G) plainT (by decide +kernel) (by decide +kernel) (by decide +kernel)
  have e0 : Lib.fields plainT = plainW.map Cw.txt := by decide +kernel
  rw [e0] at k0
  have k1 := containsStr_ok (G := G) (plainW.map Cw.txt) (by decide) call
  unfold takesBA
  cases hw : cwOf call with
  | none =>
    have h1 := not_mem_cw hw plainW
    have h2 := cwOf_none hw .percentile
    have h3 := cwOf_none hw .group
    simp only [Cw.txt] at h2 h3
    rw [decide_eq_false h1] at k1
    unfold plainT at k0
    simp [a_blend_Takes]
    refine ac_same k0 (by simp) ?_
    rintro r rfl
    simp
    refine ac_same k1 (by simp) ?_
    rintro r rfl
    simp [h2, h3]
  | some w =>
    have := cwOf_some hw
    subst this
    simp only [mem_cw] at k1
    unfold plainT at k0
    simp [a_blend_Takes]
    refine ac_same k0 (by simp) ?_
    rintro r rfl
    simp
    refine ac_same k1 (by simp) ?_
    rintro r rfl
    cases w <;> simp [plainW, Cw.txt, Cw.takes]
theorem rbTakes_ok (call : List UInt8) : PCalls Tryz.prog n_isobarref26_Takes [.str call] (fun r => r = takesBA call) := by
  refine pcalls_of_awp hmix c_isobarref26_Takes rfl ?_
  unfold takesBA
  cases hw : cwOf call with
  | none =>
    have h := fun w => cwOf_none hw w
    have h1 := h .sum; have h2 := h .average; have h3 := h .least; have h4 := h .greatest; have h5 := h .multiply; have h6 := h .diff; have h7 := h .range
    have h8 := h .count; have h9 := h .median; have h10 := h .divide; have h11 := h .percent; have h12 := h .percentile; have h13 := h .group
    simp only [Cw.txt] at h1 h2 h3 h4 h5 h6 h7 h8 h9 h10 h11 h12 h13
    simp [a_isobarref26_Takes, h1, h2, h3, h4, h5, h6, h7, h8, h9, h10, h11, h12, h13]
  | some w =>
    have := cwOf_some hw
    subst this
    cases w <;> simp [a_isobarref26_Takes, Cw.txt, Cw.takes]
end Go.Proofs.YtdgpnmlialmaaaaGreatDoor
end
section
set_option maxHeartbeats 4000000
namespace Go.Ble
open Go.Num Go.Ser Go.Dec Go.Shp
theorem cw_len (w : Cw) : w.txt.length ≤ 18 := by cases w <;> decide
theorem sum_names (l : List Sr) (B : Nat) (h : ∀ s ∈ l, s.name.length ≤ B) : ((l.map (·.name)).map List.length).sum ≤ B * l.length := by
  induction l with
  | nil => simp
  | cons s l ih =>
    have h1 := h s (by simp)
    have h2 := ih fun x hx => h x (by simp [hx])
    simp only [List.map_cons, List.sum_cons, List.length_cons, Nat.mul_add, Nat.mul_one] at h2 ⊢
    omega
end Go.Ble
namespace Go.Proofs.YtdgpnmlialmaaaaGreatDoor
open Go.Abs Go.Num Go.Ser Go.Dec Go.Shp Go.Ble
variable {G : Globs}
/-- What 'checked' answers. -/
def checkR (w : Cw) (l : List Sr) (args : List N) (text : List UInt8) (r : AV) : Prop := ∃ a b : Int, r = .tup [.agg [.int .i64 a, .int .i64 b], .bool (checkB w l args text).isSome] ∧ ∀ n m, checkB w l args text = some (n, m) → a = n ∧ b = m
theorem bChecked_ok (w : Cw) (l : List Sr) (args : List N) (text : List UInt8) (ha : oksN args) (h1 : w = .percentile ∨ w = .group → args ≠ []) :
    PCalls Tryz.prog n_blend_checked [.str w.txt, serL l, .lst (numEls args), .str text] (checkR w l args text) := by
  have hle := serEls_len l
  have hsplit : ∀ p : w = .percentile ∨ w = .group, ∃ a t, args = a :: t := fun p => by
    cases args with
    | nil => exact absurd rfl (h1 p)
    | cons a t => exact ⟨a, t, rfl⟩
  have plain : ∀ (h : checkB w l args text = some (0, 0)), (∀ R : AV → Prop, R (.tup [.agg [.int .i64 0, .int .i64 0], .bool true]) → PCalls Tryz.prog n_blend_checked [.str w.txt, serL l, .lst (numEls args), .str text] R) → PCalls Tryz.prog n_blend_checked [.str w.txt, serL l, .lst (numEls args), .str text] (checkR w l args text) := by
    intro h hR
    refine hR _ ⟨0, 0, by rw [h]; rfl, fun n m hnm => ?_⟩
    rw [h] at hnm; cases hnm; exact ⟨rfl, rfl⟩
  by_cases hg : w = .group
  · subst hg
    obtain ⟨a, t, rfl⟩ := hsplit (.inr rfl)
    have hao := ha a (by simp)
    obtain ⟨o1, o2⟩ := hao
    obtain ⟨t1, t2⟩ := tdiv6_bd o1 o2
    have hw : IntKind.i64.wrap (a.2.tdiv 1000000) = a.2.tdiv 1000000 := wrap_i64 t1 t2
    have hm := tmod6 a.2
    have kM := pMethod_ok (G := G) text
    have hcb : checkB .group l (a :: t) text = match methodS text, wholeS a 0 1099511627776 with
      | some m, some n => some (n, m)
      | _, _ => none := rfl
    refine PCalls.mono (R := fun r => r = .tup [.agg [.int .i64 (a.2.tdiv 1000000), .int .i64 ((methodS text).getD 0)], .bool (checkB .group l (a :: t) text).isSome]) ?_ ?_
    · refine pcalls_of_awp hmix c_blend_checked rfl ?_
      unfold methodA at kM
      rw [hcb]
      simp [a_blend_checked, Cw.txt, serL, numEls_cons]
      refine ac_same kM (by cases methodS text <;> simp) ?_
      rintro r rfl
      cases hms : methodS text with
      | none => simp [hw, splice]
      | some m =>
        unfold wholeS
        by_cases h0 : a.2 % 1000000 = 0
        · have hm' := hm.2 h0
          have hd := tdiv6 h0
          rw [hd] at hw
          by_cases hp : 0 ≤ a.2
          · have hp2 : 0 ≤ a.2 / 1000000 := by omega
            by_cases h2 : a.2 / 1000000 ≤ 1099511627776
            · simp [hw, hm', hd, hp, hp2, h0, h2, splice]
            · simp [hw, hm', hd, hp, hp2, h0, h2, splice]
          · have hp2 : ¬ 0 ≤ a.2 / 1000000 := by omega
            simp [hw, hm', hd, hp, hp2, h0, splice]
        · have hm' : ¬ a.2.tmod 1000000 = 0 := fun h => h0 (hm.1 h)
          by_cases hp : 0 ≤ a.2
          · simp [hw, hm', hp, h0, splice]
          · simp [hw, hm', hp, h0, splice]
    · rintro r rfl
      refine ⟨_, _, rfl, fun n m hnm => ?_⟩
      rw [hcb] at hnm
      cases hms : methodS text with
      | none => rw [hms] at hnm; cases hnm
      | some m' =>
        rw [hms] at hnm
        cases hws : wholeS a 0 1099511627776 with
        | none => rw [hws] at hnm; cases hnm
        | some n' =>
          rw [hws] at hnm
          cases hnm
          unfold wholeS at hws
          split at hws
          · rename_i h; cases hws; exact ⟨tdiv6 h.1, rfl⟩
          · cases hws
  by_cases hp : w = .percentile
  · subst hp
    obtain ⟨a, t, rfl⟩ := hsplit (.inl rfl)
    have hcb : checkB .percentile l (a :: t) text = if 0 ≤ a.2 ∧ a.2 ≤ 100000000 then some (0, 0) else none := rfl
    refine PCalls.mono (R := fun r => r = .tup [.agg [.int .i64 0, .int .i64 0], .bool (checkB .percentile l (a :: t) text).isSome]) ?_ ?_
    · refine pcalls_of_awp hmix c_blend_checked rfl ?_
      rw [hcb]
      by_cases q1 : 0 ≤ a.2
      · by_cases q2 : a.2 ≤ 100000000
        · simp [a_blend_checked, Cw.txt, serL, numEls_cons, q1, q2, splice]
        · simp [a_blend_checked, Cw.txt, serL, numEls_cons, q1, q2, splice]
      · simp [a_blend_checked, Cw.txt, serL, numEls_cons, q1, splice]
    · rintro r rfl
      refine ⟨_, _, rfl, fun n m hnm => ?_⟩
      rw [hcb] at hnm
      split at hnm
      · cases hnm; exact ⟨rfl, rfl⟩
      · cases hnm
  by_cases hd : w = .divide
  · subst hd
    have hcb : checkB .divide l args text = if l.length = 2 then some (0, 0) else none := rfl
    refine PCalls.mono (R := fun r => r = .tup [.agg [.int .i64 0, .int .i64 0], .bool (checkB .divide l args text).isSome]) ?_ ?_
    · refine pcalls_of_awp hmix c_blend_checked rfl ?_
      rw [hcb]
      by_cases q1 : l.length = 2
      · simp [a_blend_checked, Cw.txt, serL, hle, q1, splice]
      · have q2 : ¬ (l.length : Int) = 2 := by omega
        simp [a_blend_checked, Cw.txt, serL, hle, q1, q2, splice]
    · rintro r rfl
      refine ⟨_, _, rfl, fun n m hnm => ?_⟩
      rw [hcb] at hnm
      split at hnm
      · cases hnm; exact ⟨rfl, rfl⟩
      · cases hnm
  · refine plain (by cases w <;> simp_all [checkB]) fun R hR => ?_
    refine pcalls_of_awp hmix c_blend_checked rfl ?_
    cases w <;> first | (exfalso; exact hg rfl) | (exfalso; exact hp rfl) | (exfalso; exact hd rfl) | simp [a_blend_checked, Cw.txt, serL, splice, hR]
theorem bLabel_ok [GPow] (w : Cw) (l : List Sr) (args : List N) (hl : l.length ≤ 1000) (hn : ∀ s ∈ l, s.name.length ≤ 100000) (ha : args.length ≤ 1000) (ho : oksN args) :
    PCalls Tryz.prog n_blend_label [.str w.txt, serL l, .lst (numEls args)] (fun r => r = .str (nameB w l args)) := by
  refine pcalls_of_awp hmix c_blend_label rfl ?_
  have hle := serEls_len l
  have hla := numEls_len args
  have hcw := cw_len w
  obtain ⟨c, hc⟩ : ∃ c, c = w.txt := ⟨_, rfl⟩
  unfold nameB
  rw [← hc] at hcw ⊢
  unfold serL
  simp [a_blend_label, hle]
  refine lp_startx (fun x f τ => ∃ (i : Nat) (V : AV), x = l.length - i ∧ i ≤ l.length ∧ f 0 = .str c ∧ f 2 = .lst (numEls args) ∧ f 7 = V ∧ f 12 = .lst (serEls l) ∧ f 13 = .int .i64 l.length ∧ f 14 = .int .i64 i ∧ AccT 9 1 0 τ V (txts ((l.take i).map (·.name)))) l.length ?_ ?_
  · exact ⟨0, .nils, by simp, by simp, by simp, by simp, by simp, by simp, by simp, by simp, accT_nil⟩
  rintro x f τ ⟨i, V, hx, hi, f0, f2, f7, f12, f13, f14, hacc⟩
  simp [f13, f14]
  refine cb_dec (fun hlt => ?_) (fun hge => ?_)
  · have hlti : i < l.length := by omega
    have hwi : IntKind.i64.wrap ((i : Int) + 1) = ((i + 1 : Nat) : Int) := by rw [wrap_i64 (by omega) (by omega)]; omega
    obtain ⟨y, hy⟩ : ∃ y, l[i]? = some y := ⟨_, List.getElem?_eq_getElem hlti⟩
    have hse := serEls_get hy
    obtain ⟨hx1, hx2⟩ := List.getElem?_eq_some_iff.1 hse
    have htl : (txts ((l.take i).map (·.name))).length = i := by rw [txts_len, List.length_map, List.length_take]; omega
    have hst : txts ((l.take i).map (·.name)) ++ [[.str y.name]] = txts ((l.take (i + 1)).map (·.name)) := by rw [List.take_add_one, hy]; simp [txts]
    simp [f7, f12, f14, hse, hx1, hx2, tail_get, tail_set, splice]
    refine ap_acc0 (bytes := 16) (hacc.more [_]) [.str y.name] (by decide) rfl (by rw [htl]; omega) (by rw [htl]; omega) fun V' τ' hacc' hlen hkeep => ?_
    rw [hst] at hacc'
    simp [f14, hwi]
    exact nx_intro (l.length - (i + 1)) (by omega) ⟨i + 1, V', rfl, by omega, by simp [f0], by simp [f2], by simp, by simp [f12], by simp [f13], by simp, hacc'⟩
  · have hil : i = l.length := by omega
    subst hil
    rw [List.take_length] at hacc
    obtain ⟨nm, hnm⟩ : ∃ nm, nm = l.map (·.name) := ⟨_, rfl⟩
    have hnl : nm.length = l.length := by rw [hnm]; simp
    rw [← hnm] at hacc ⊢
    simp [f0, f2, hla]
    refine lp_startx (fun x f τ => ∃ (i : Nat) (V : AV), x = args.length - i ∧ i ≤ args.length ∧ f 0 = .str c ∧ f 7 = V ∧ f 24 = .lst (numEls args) ∧ f 25 = .int .i64 args.length ∧ f 26 = .int .i64 i ∧ AccT 9 1 0 τ V (txts (nm ++ prns (args.take i)))) args.length ?_ ?_
    · exact ⟨0, V, by simp, by simp, by simp [f0], by simp [f7], by simp [f2], by simp [hla], by simp, by simpa [prns] using hacc⟩
    rintro x f τ ⟨i, V, hx, hi, f0, f7, f24, f25, f26, hacc⟩
    simp [f25, f26]
    refine cb_dec (fun hlt => ?_) (fun hge => ?_)
    · have hlti : i < args.length := by omega
      have hwi : IntKind.i64.wrap ((i : Int) + 1) = ((i + 1 : Nat) : Int) := by rw [wrap_i64 (by omega) (by omega)]; omega
      obtain ⟨y, hy⟩ : ∃ y, args[i]? = some y := ⟨_, List.getElem?_eq_getElem hlti⟩
      have hse := numEls_get hy
      obtain ⟨hx1, hx2⟩ := List.getElem?_eq_some_iff.1 hse
      have hyo := ho y (List.mem_of_getElem? hy)
      have kP := dPrint_ok (G := G) y.1 y.2 hyo.1 hyo.2
      have htl : (txts (nm ++ prns (args.take i))).length = l.length + i := by rw [txts_len, List.length_append, prns_length, List.length_take, hnl]; omega
      have hst : txts (nm ++ prns (args.take i)) ++ [[.str (prn y.1 y.2)]] = txts (nm ++ prns (args.take (i + 1))) := by rw [prns_take hy]; simp [txts]
      simp [f7, f24, f26, hse, hx1, hx2, tail_get, tail_set, splice]
      refine ac_same kP (by simp) ?_
      rintro r rfl
      simp [f7]
      refine ap_acc0 (bytes := 16) (hacc.more [_]) [.str (prn y.1 y.2)] (by decide) rfl (by rw [htl]; omega) (by rw [htl]; omega) fun V' τ' hacc' hlen hkeep => ?_
      rw [hst] at hacc'
      simp [f26, hwi]
      exact nx_intro (args.length - (i + 1)) (by omega) ⟨i + 1, V', rfl, by omega, by simp [f0], by simp, by simp [f24], by simp [f25], by simp, hacc'⟩
    · have hil : i = args.length := by omega
      subst hil
      rw [List.take_length] at hacc
      have hj := join_le (nm ++ prns args)
      have hps := prns_sum args ho
      have hns := sum_names l 100000 hn
      rw [← hnm] at hns
      have hpl := prns_length args
      simp only [List.map_append, List.sum_append, List.length_append] at hj
      have kJ := joinC_ok (G := G) (nm ++ prns args) (by omega) (by simp; omega)
      obtain ⟨J, hJ⟩ : ∃ J, J = Lib.join (nm ++ prns args) [44] := ⟨_, rfl⟩
      rw [← hJ] at kJ hj ⊢
      simp [f0, f7]
      refine ob_if (by omega) ?_
      simp [f7]
      refine ac_lent kJ (.cons (hacc.coe0 true) (.cons (.pure _ (by simp [AV.pure])) .nil)) ?_
      rintro r rfl
      refine ⟨by simp, ?_⟩
      simp
      refine ob_if (by omega) ?_
      simp
      refine ob_if (by omega) ?_
      simp
end Go.Proofs.YtdgpnmlialmaaaaGreatDoor
end
section
set_option maxHeartbeats 4000000
namespace Go.Proofs.YtdgpnmlialmaaaaGreatDoor
open Go.Abs Go.Num Go.Ser Go.Ble Go.Dec Go.Shp
variable {G : Globs}
theorem rMiddle_ok (l : List N) (hok : oksN l) (hl : l.length ≤ 1000000000) : PCalls Tryz.prog n_isobarref26_Middle [.lst (numEls l)] (fun r => r = numA (middleS l)) := by
  refine pcalls_of_awp hmix c_isobarref26_Middle rfl ?_
  have kR := rrising_ok (G := G) l hok hl
  have hko := rising_oks hok
  have hkl : (risingS l).length ≤ l.length := by rw [rising_len]; exact List.length_filter_le _ _
  obtain ⟨R, hR⟩ : ∃ R, R = middleS l := ⟨_, rfl⟩
  rw [← hR]
  unfold middleS at hR
  obtain ⟨k, hk⟩ : ∃ k, k = risingS l := ⟨_, rfl⟩
  rw [← hk] at kR hko hkl hR
  have hlen := numEls_len k
  simp [a_isobarref26_Middle]
  refine ac_same kR (by simp) ?_
  rintro r rfl
  by_cases h0 : k = []
  · rw [if_pos h0] at hR
    have kN := rNothing_ok (G := G)
    rw [numA_eq] at kN
    subst h0
    subst hR
    have e0 : numEls [] = [] := rfl
    simp [e0]
    refine ac_same kN (by simp) ?_
    rintro r rfl
    simp [splice, numA]
  · rw [if_neg h0] at hR
    have hpos : 0 < k.length := List.length_pos_iff.2 h0
    have hne : ¬ (k.length : Int) = 0 := by omega
    have htm : ((k.length : Nat) : Int).tmod 2 = ((k.length % 2 : Nat) : Int) := by rw [Int.tmod_eq_emod_of_nonneg (by omega)]; omega
    have htd : ((k.length : Nat) : Int).tdiv 2 = ((k.length / 2 : Nat) : Int) := by rw [Int.tdiv_eq_ediv_of_nonneg (by omega)]; omega
    obtain ⟨m, hm⟩ : ∃ m, m = k.length / 2 := ⟨_, rfl⟩
    have hmk : m < k.length := by omega
    obtain ⟨y, hy⟩ : ∃ y, k[m]? = some y := ⟨_, List.getElem?_eq_getElem hmk⟩
    have hgy : k.getD m nothing = y := by rw [List.getD_eq_getElem?_getD, hy]; rfl
    obtain ⟨hx1, hx2⟩ := List.getElem?_eq_some_iff.1 (numEls_get hy)
    have wm : IntKind.i64.wrap (m : Int) = (m : Int) := wrap_i64 (by omega) (by omega)
    rw [← hm] at htd hR
    rw [hgy] at hR
    by_cases hodd : k.length % 2 = 1
    · rw [if_pos hodd] at hR
      subst hR
      rw [hodd] at htm
      simp [hlen, hne, h0, htm, htd, wm, hmk, hx1, hx2, splice, numA]
    · rw [if_neg hodd] at hR
      have hev : k.length % 2 = 0 := by omega
      rw [hev] at htm
      obtain ⟨q, hq⟩ : ∃ q, q = m - 1 := ⟨_, rfl⟩
      have hqk : q < k.length := by omega
      have wq : IntKind.i64.wrap ((m : Int) - 1) = (q : Int) := by rw [wrap_i64 (by omega) (by omega)]; omega
      obtain ⟨z, hz⟩ : ∃ z, k[q]? = some z := ⟨_, List.getElem?_eq_getElem hqk⟩
      have hgz : k.getD q nothing = z := by rw [List.getD_eq_getElem?_getD, hz]; rfl
      obtain ⟨hz1, hz2⟩ := List.getElem?_eq_some_iff.1 (numEls_get hz)
      have hyo := hko y (List.mem_of_getElem? hy)
      have hzo := hko z (List.mem_of_getElem? hz)
      rw [← hq, hgz] at hR
      have kA := rnAdd_ok (G := G) z y hzo hyo
      have kI := rInt_ok (G := G) 2 (by decide) (by decide)
      have e2 : tell (2 * 1000000) = tell 2000000 := by decide
      rw [e2] at kI
      have kD := rnDiv_ok (G := G) (addN z y) (tell 2000000) (ok_add _ _) (ok_tell _)
      obtain ⟨s, hs⟩ : ∃ s, s = addN z y := ⟨_, rfl⟩
      obtain ⟨t, ht⟩ : ∃ t, t = tell 2000000 := ⟨_, rfl⟩
      rw [← hs] at kA kD hR
      rw [← ht] at kI kD hR
      rw [← hR] at kD
      rw [numA_eq z, numA_eq y, numA_eq s] at kA
      rw [numA_eq t] at kI
      rw [numA_eq s, numA_eq t, numA_eq R] at kD
      simp [hlen, hne, h0, htm, htd, wm, wq, hmk, hqk, hx1, hx2, hz1, hz2]
      refine qc_same kA (by simp) (by simp) ?_
      simp
      refine qc_same kI (by simp) (by simp) ?_
      simp
      refine qc_same kD (by simp) (by simp) ?_
      simp [splice, numA]
theorem rTogether_ok (l : List Sr) (k : Nat) (hl : l.length ≤ 1000000) (hk : ∀ s ∈ l, k < s.vals.length) (hk2 : k ≤ 1000000) : PCalls Tryz.prog n_isobarref26_together [serL l, .int .i64 k] (fun r => r = .lst (numEls (togN l k))) := by
  refine pcalls_of_awp hmix c_isobarref26_together rfl ?_
  have hle := serEls_len l
  unfold serL
  simp [a_isobarref26_together]
  refine lp_startx (fun x f τ => ∃ (i : Nat) (V : AV), x = l.length - i ∧ i ≤ l.length ∧ f 0 = .lst (serEls l) ∧ f 1 = .int .i64 k ∧ f 5 = V ∧ f 6 = .int .i64 i ∧ AccT 35 2 0 τ V (numEls (togN (l.take i) k))) l.length ?_ ?_
  · exact ⟨0, .nils, by simp, by simp, by simp, by simp, by simp, by simp, accT_nil⟩
  rintro x f τ ⟨i, V, hx, hi, f0, f1, f5, f6, hacc⟩
  simp [f0, f6, hle]
  refine cb_dec (fun hlt => ?_) (fun hge => ?_)
  · have hlti : i < l.length := by omega
    have hwi : IntKind.i64.wrap ((i : Int) + 1) = ((i + 1 : Nat) : Int) := by rw [wrap_i64 (by omega) (by omega)]; omega
    obtain ⟨y, hy⟩ : ∃ y, l[i]? = some y := ⟨_, List.getElem?_eq_getElem hlti⟩
    have hse := serEls_get hy
    obtain ⟨hx1, hx2⟩ := List.getElem?_eq_some_iff.1 hse
    obtain ⟨v, hvv⟩ : ∃ v, y.vals[k]? = some v := ⟨_, List.getElem?_eq_getElem (hk y (List.mem_of_getElem? hy))⟩
    have hvg := numEls_get hvv
    obtain ⟨hv1, hv2⟩ := List.getElem?_eq_some_iff.1 hvg
    have hgd : y.vals.getD k nothing = v := by rw [List.getD_eq_getElem?_getD, hvv]; rfl
    have htl : (numEls (togN (l.take i) k)).length = i := by rw [numEls_len, togN_len, List.length_take]; omega
    simp [f0, f1, f5, f6, hse, hx1, hx2, hvg, hv1, hv2]
    refine ap_acc0 (bytes := 16) hacc [.bool v.1, .int .i64 v.2] (by decide) rfl (by rw [htl]; omega) (by rw [htl]; omega) fun V' τ' hacc' hlen hkeep => ?_
    simp [f6, hwi]
    refine nx_intro (l.length - (i + 1)) (by omega) ⟨i + 1, V', rfl, by omega, by simp [f0], by simp [f1], by simp, by simp, ?_⟩
    rw [togN_take hy, hgd, ← numEls_app1]; exact hacc'
  · have hil : i = l.length := by omega
    subst hil
    rw [List.take_length] at hacc
    have hf := hacc.fin10 0
    have hf2 := hacc.finR0 0
    simp [f5, hf2]
theorem join_take {l : List (List UInt8)} {i : Nat} {y : List UInt8} (h : l[i]? = some y) : Lib.join (l.take (i + 1)) [44] = (if i = 0 then [] else Lib.join (l.take i) [44] ++ [44]) ++ y := by
  have hlt := (List.getElem?_eq_some_iff.1 h).1
  rw [List.take_add_one, h]
  simp only [Option.toList_some]
  rw [join_snoc]
  by_cases h0 : i = 0
  · subst h0; simp
  · rw [if_neg (by intro e; have := congrArg List.length e; rw [List.length_take] at this; change min i l.length = 0 at this; omega), if_neg h0]
    simp
theorem sum_strs (l : List (List UInt8)) (B : Nat) (h : ∀ s ∈ l, s.length ≤ B) : (l.map List.length).sum ≤ B * l.length := by
  induction l with
  | nil => simp
  | cons s l ih =>
    have h1 := h s (by simp)
    have h2 := ih fun x hx => h x (by simp [hx])
    simp only [List.map_cons, List.sum_cons, List.length_cons, Nat.mul_add, Nat.mul_one] at h2 ⊢
    omega
theorem rNames_ok (l : List Sr) (hl : l.length ≤ 1000) (hn : ∀ s ∈ l, s.name.length ≤ 100000) : PCalls Tryz.prog n_isobarref26_names [serL l] (fun r => r = .str (Lib.join (l.map (·.name)) [44])) := by
  refine pcalls_of_awp hmix c_isobarref26_names rfl ?_
  have hle := serEls_len l
  obtain ⟨nm, hnm⟩ : ∃ nm, nm = l.map (·.name) := ⟨_, rfl⟩
  have hnl : nm.length = l.length := by rw [hnm]; simp
  have hnb : ∀ s ∈ nm, s.length ≤ 100000 := fun s hs => by
    rw [hnm] at hs
    obtain ⟨x, hx, rfl⟩ := List.mem_map.1 hs
    exact hn x hx
  rw [← hnm]
  unfold serL
  simp [a_isobarref26_names]
  refine lp_startx (fun x f τ => ∃ (i : Nat) (J : List UInt8), x = l.length - i ∧ i ≤ l.length ∧ J = Lib.join (nm.take i) [44] ∧ f 0 = .lst (serEls l) ∧ f 3 = .str J ∧ f 4 = .int .i64 i) l.length ?_ ?_
  · exact ⟨0, [], by simp, by simp, by simp [Lib.join], by simp, by simp, by simp⟩
  rintro x f τ ⟨i, J, hx, hi, hJ, f0, f3, f4⟩
  simp [f0, f4, hle]
  refine cb_dec (fun hlt => ?_) (fun hge => ?_)
  · have hlti : i < l.length := by omega
    have hwi : IntKind.i64.wrap ((i : Int) + 1) = ((i + 1 : Nat) : Int) := by rw [wrap_i64 (by omega) (by omega)]; omega
    obtain ⟨y, hy⟩ : ∃ y, l[i]? = some y := ⟨_, List.getElem?_eq_getElem hlti⟩
    have hse := serEls_get hy
    obtain ⟨hx1, hx2⟩ := List.getElem?_eq_some_iff.1 hse
    have hyn := hn y (List.mem_of_getElem? hy)
    have hny : nm[i]? = some y.name := by rw [hnm]; simp [hy]
    have hjt := join_take hny
    have hjl := join_le (nm.take i)
    have hns := sum_strs (nm.take i) 100000 (fun s hs => hnb s (List.mem_of_mem_take hs))
    have htl : (nm.take i).length ≤ 1000 := by rw [List.length_take]; omega
    rw [← hJ] at hjl hjt
    have hJl : J.length ≤ 100001000 := by
      have : 100000 * (nm.take i).length ≤ 100000 * 1000 := Nat.mul_le_mul (Nat.le_refl _) htl
      omega
    obtain ⟨Y, hY⟩ : ∃ Y, Y = y.name := ⟨_, rfl⟩
    rw [← hY] at hse hx2 hjt hyn
    obtain ⟨J2, hJ2⟩ : ∃ J2, J2 = Lib.join (nm.take (i + 1)) [44] := ⟨_, rfl⟩
    rw [← hJ2] at hjt
    have fin : ∀ (f' : Abs.Frame) (tf : Tg f') tI (τ' : Store), f' 0 = .lst (serEls l) → f' 3 = .str J2 → f' 4 = .int .i64 ((i + 1 : Nat) : Int) → nx x (fun x f τ => ∃ (i : Nat) (J : List UInt8), x = l.length - i ∧ i ≤ l.length ∧ J = Lib.join (nm.take i) [44] ∧ f 0 = .lst (serEls l) ∧ f 3 = .str J ∧ f 4 = .int .i64 i) tI f' tf τ' := fun f' tf tI τ' h0 h3 h4 =>
      nx_intro (l.length - (i + 1)) (by omega) ⟨i + 1, J2, rfl, by omega, hJ2, h0, h3, h4⟩
    by_cases h0 : i = 0
    · have hJ0 : J = [] := by rw [hJ, h0]; simp [Lib.join]
      have hi0 : ¬ 0 < i := by omega
      rw [if_pos h0] at hjt
      simp at hjt
      subst hJ0
      simp [f0, f3, f4, hi0, hse, hx1, hx2]
      refine ob_if (by omega) ?_
      simp [f4, hwi]
      exact fin _ _ _ _ (by simp [f0]) (by simp [hjt]) (by simp)
    · have h0' : 0 < i := by omega
      rw [if_neg h0] at hjt
      simp [f3, f4, h0, h0']
      refine ob_if (by omega) ?_
      simp [f0, f4, hse, hx1, hx2]
      refine ob_if (by first | omega | (simp; omega)) ?_
      simp [f4, hwi]
      exact fin _ _ _ _ (by simp [f0]) (by simp [hjt]) (by simp)
  · have hil : i = l.length := by omega
    rw [hil, List.take_of_length_le (by omega)] at hJ
    simp [f3, hJ]
end Go.Proofs.YtdgpnmlialmaaaaGreatDoor
end
section
set_option maxHeartbeats 4000000
namespace Go.Ble
open Go.Num
theorem dots_piece {s : List UInt8} {fr i : Nat} (h1 : fr ≤ i) (h2 : s[i]? = some 46) (h3 : 46 ∉ (s.drop fr).take (i - fr)) : dots (s.drop fr) = (s.drop fr).take (i - fr) :: dots (s.drop (i + 1)) := by
  obtain ⟨hl, hv⟩ := List.getElem?_eq_some_iff.1 h2
  have e : s.drop fr = (s.drop fr).take (i - fr) ++ 46 :: s.drop (i + 1) := by
    have e1 : (s.drop fr).drop (i - fr) = 46 :: s.drop (i + 1) := by
      rw [List.drop_drop, show fr + (i - fr) = i by omega, List.drop_eq_getElem_cons hl, hv]
    rw [← e1, List.take_append_drop]
  conv => lhs; rw [e]
  rw [dots_hit h3]
theorem dots_last {s : List UInt8} {fr : Nat} (h1 : fr ≤ s.length) (h3 : 46 ∉ (s.drop fr).take (s.length - fr)) : dots (s.drop fr) = [s.drop fr] := by
  rw [List.take_of_length_le (by rw [List.length_drop]; exact Nat.le_refl _)] at h3
  exact dots_miss h3
theorem take_piece {s : List UInt8} {fr i : Nat} : (s.drop fr).take (i - fr) = (s.take i).drop fr := by rw [List.drop_take]
end Go.Ble
namespace Go.Proofs.YtdgpnmlialmaaaaGreatDoor
open Go.Abs Go.Num Go.Ser Go.Ble Go.Dec Go.Shp
variable {G : Globs}
theorem rPiece_ok (s : List UInt8) (hs : s.length ≤ 1000000) (n : Nat) (hn : n ≤ 9223372036854775807) : PCalls Tryz.prog n_isobarref26_piece [.str s, .int .i64 n] (fun r => r = .str (pieceS s n)) := by
  refine pcalls_of_awp hmix c_isobarref26_piece rfl ?_
  obtain ⟨R, hR⟩ : ∃ R, R = pieceS s n := ⟨_, rfl⟩
  rw [← hR]
  simp [a_isobarref26_piece]
  refine lp_startx (fun x f τ => ∃ i fr k : Nat, x = s.length + 1 - i ∧ i ≤ s.length + 1 ∧ fr ≤ 1000001 ∧ k ≤ 1000001 ∧ (i ≤ s.length → fr ≤ i ∧ k ≤ n ∧ k ≤ i ∧ R = (dots (s.drop fr)).getD (n - k) [] ∧ 46 ∉ (s.drop fr).take (i - fr)) ∧ (i = s.length + 1 → R = []) ∧
    f 0 = .str s ∧ f 1 = .int .i64 n ∧ f 5 = .int .i64 fr ∧ f 6 = .int .i64 k ∧ f 7 = .int .i64 i) (s.length + 1) ?_ ?_
  · exact ⟨0, 0, 0, rfl, by omega, by omega, by omega, fun _ => ⟨by omega, by omega, by omega, by rw [hR]; rfl, by simp⟩, fun h => by omega, by simp, by simp, by simp, by simp, by simp⟩
  rintro x f τ ⟨i, fr, k, hx, hi, hfr1, hk1, hI, hE, f0, f1, f5, f6, f7⟩
  simp [f0, f7]
  refine cb_dec (fun hlt => ?_) (fun hge => ?_)
  · have hile : i ≤ s.length := by omega
    obtain ⟨h1, h2, h3, h4, h5⟩ := hI hile
    have hwi : IntKind.i64.wrap ((i : Int) + 1) = ((i + 1 : Nat) : Int) := by rw [wrap_i64 (by omega) (by omega)]; omega
    have hwk : IntKind.i64.wrap ((k : Int) + 1) = ((k + 1 : Nat) : Int) := by rw [wrap_i64 (by omega) (by omega)]; omega
    by_cases hil : i = s.length
    · have hdl := dots_last (s := s) (fr := fr) (by omega) (by rw [← hil]; exact h5)
      rw [hdl] at h4
      have hsl : s.length ≤ s.length := Nat.le_refl _
      subst hil
      by_cases hkn : k = n
      · subst hkn
        rw [Nat.sub_self] at h4
        have hz : R = s.drop fr := h4
        simp [f0, f1, f5, f6, f7, hz, h1]
      · have hkn' : ¬ (k : Int) = n := by omega
        have hz : R = [] := by
          rw [h4, List.getD_eq_getElem?_getD, List.getElem?_eq_none (by simp; omega)]; rfl
        simp [f0, f1, f5, f6, f7, hkn, hkn', hwi, hwk]
        exact nx_intro 0 (by omega) ⟨s.length + 1, s.length + 1, k + 1, by omega, by omega, by omega, by omega, fun h => by omega, fun _ => hz, by simp [f0], by simp [f1], by simp, by simp, by simp⟩
    · have hlti : i < s.length := by omega
      have hil' : ¬ (i : Int) = s.length := by omega
      obtain ⟨c, hc⟩ : ∃ c, s[i]? = some c := ⟨_, List.getElem?_eq_getElem hlti⟩
      obtain ⟨hc1, hc2⟩ := List.getElem?_eq_some_iff.1 hc
      by_cases h46 : c = 46
      · subst h46
        have hdp := dots_piece h1 hc h5
        rw [hdp] at h4
        by_cases hkn : k = n
        · subst hkn
          rw [Nat.sub_self, take_piece] at h4
          have hz : R = (s.take i).drop fr := h4
          simp [f0, f1, f5, f6, f7, hil, hil', hc, hc1, hc2, hz, h1, hile]
        · have hkn' : ¬ (k : Int) = n := by omega
          have hz : R = (dots (s.drop (i + 1))).getD (n - (k + 1)) [] := by
            rw [h4, show n - k = n - (k + 1) + 1 by omega]; rfl
          simp [f0, f1, f5, f6, f7, hil, hil', hc, hc1, hc2, hkn, hkn', hwi, hwk]
          exact nx_intro (s.length + 1 - (i + 1)) (by omega) ⟨i + 1, i + 1, k + 1, rfl, by omega, by omega, by omega, fun h => ⟨by omega, by omega, by omega, hz, by simp⟩, fun h => by omega, by simp [f0], by simp [f1], by simp, by simp, by simp⟩
      · have h46' : ¬ ((c.toNat : Nat) : Int) = 46 := fun e => h46 (UInt8.toNat_inj.1 (by simpa using (by omega : c.toNat = 46)))
        have h46'' : ¬ c.toNat = 46 := by omega
        have h5' : 46 ∉ (s.drop fr).take (i + 1 - fr) := by
          rw [show i + 1 - fr = i - fr + 1 by omega, List.take_add_one]
          have : (s.drop fr)[i - fr]? = some c := by rw [List.getElem?_drop, show fr + (i - fr) = i by omega, hc]
          rw [this]
          intro hm
          rcases List.mem_append.1 hm with hm | hm
          · exact h5 hm
          · simp at hm; exact h46 hm.symm
        simp [f0, f1, f5, f6, f7, hil, hil', hc, hc1, hc2, h46, h46', h46'', hwi, hwk]
        exact nx_intro (s.length + 1 - (i + 1)) (by omega) ⟨i + 1, fr, k, rfl, by omega, hfr1, hk1, fun h => ⟨by omega, h2, by omega, h4, h5'⟩, fun h => by omega, by simp [f0], by simp [f1], by simp [f5], by simp [f6], by simp⟩
  · simp [hE (by omega)]
theorem rRank_ok (l : List N) (hok : oksN l) (hl : l.length ≤ 1000000000) (n : N) (hno : okN n) : PCalls Tryz.prog n_isobarref26_Rank [.lst (numEls l), numA n] (fun r => r = numA (rankS l n)) := by
  refine pcalls_of_awp hmix c_isobarref26_Rank rfl ?_
  have kR := rrising_ok (G := G) l hok hl
  have hkl : (risingS l).length ≤ l.length := by rw [rising_len]; exact List.length_filter_le _ _
  have kU := rnRight_ok (G := G) n hno
  have kN := rNothing_ok (G := G)
  rw [numA_eq] at kN
  obtain ⟨R, hR0⟩ : ∃ R, R = rankS l n := ⟨_, rfl⟩
  rw [← hR0]
  have hR : R = if risingS l = [] ∨ good n = false then nothing else (risingS l).getD (rankI n.2 (risingS l).length) nothing := hR0
  generalize risingS l = k at *
  have hlen := numEls_len k
  have hrg := right_good n
  rw [numA_eq n] at kU ⊢
  obtain ⟨nl, v⟩ := n
  simp only at *
  simp [a_isobarref26_Rank]
  refine ac_same kR (by simp) ?_
  rintro r rfl
  by_cases h0 : k = []
  · rw [if_pos (.inl h0)] at hR
    subst h0; subst hR
    have e0 : numEls [] = [] := rfl
    simp [e0, splice]
    refine ac_same kN (by simp) ?_
    rintro r rfl
    simp [splice, numA]
  have hpos : 0 < k.length := List.length_pos_iff.2 h0
  have hne : ¬ (k.length : Int) = 0 := by omega
  cases nl with
  | true =>
    have hg : good (true, v) = false := by simp [good]
    rw [if_pos (.inr hg)] at hR
    subst hR
    simp [hlen, hne, h0, splice]
    refine ac_same kN (by simp) ?_
    rintro r rfl
    simp [splice, numA]
  | false =>
  cases hg : good (false, v) with
  | false =>
    have hr : rightN (false, v) = false := by rw [hg] at hrg; simpa using hrg
    rw [hr] at kU
    rw [if_pos (.inr hg)] at hR
    subst hR
    simp [hlen, hne, h0, splice]
    refine ac_same kU (by simp) ?_
    rintro r rfl
    simp
    refine ac_same kN (by simp) ?_
    rintro r rfl
    simp [splice, numA]
  | true =>
  have hr : rightN (false, v) = true := by rw [hg] at hrg; simpa using hrg
  rw [hr] at kU
  rw [if_neg (by rintro (h | h); exact h0 h; rw [hg] at h; cases h)] at hR
  have hget : ∀ i, i < k.length → ∃ y, k[i]? = some y ∧ k.getD i nothing = y := fun i hi => ⟨k[i], List.getElem?_eq_getElem hi, by rw [List.getD_eq_getElem?_getD, List.getElem?_eq_getElem hi]; rfl⟩
  have hv1 : v ≤ 9223372036854775807 := by have := hno.2; simpa using this
  simp [hlen, hne, h0, splice]
  refine ac_same kU (by simp) ?_
  rintro r rfl
  simp
  refine lp_startx (fun x f τ => ∃ i : Nat, x = k.length + 1 - i ∧ 1 ≤ i ∧ i ≤ k.length ∧ (1 < i → 0 < v) ∧ (∀ j, j + 1 < i → (j + 1) * 100000000 < v.toNat * k.length) ∧ f 3 = .ptr 0 0 ∧ f 4 = .ptr 1 0 ∧ f 5 = .lst (numEls k) ∧ f 6 = .int .i64 i ∧
    τ = [.var 35 [.bool false, .int .i64 v], .var 35 [.bool false, .int .i64 0]]) k.length ?_ ?_
  · exact ⟨1, by omega, by omega, by omega, by omega, by omega, by simp, by simp, by simp, by simp, rfl⟩
  rintro x f τ ⟨i, hx, hi1, hi, hvp, hj, f3, f4, f5, f6, rfl⟩
  have hwi : IntKind.i64.wrap ((i : Int) + 1) = ((i + 1 : Nat) : Int) := by rw [wrap_i64 (by omega) (by omega)]; omega
  obtain ⟨q, hq⟩ : ∃ q, q = i - 1 := ⟨_, rfl⟩
  have hwq : IntKind.i64.wrap ((i : Int) - 1) = (q : Int) := by rw [wrap_i64 (by omega) (by omega)]; omega
  have hqk : q < k.length := by omega
  obtain ⟨y, hy, hgy⟩ := hget q hqk
  have hyg := numEls_get hy
  obtain ⟨hy1, hy2⟩ := List.getElem?_eq_some_iff.1 hyg
  simp [f5, f6, hlen]
  refine cb_dec (fun hlt => ?_) (fun hge => ?_)
  · by_cases hv : v ≤ 0
    · have hi0 : q = 0 := by
        have : ¬ 1 < i := fun h => by have := hvp h; omega
        omega
      have hI : rankI v k.length = q := by unfold rankI; rw [if_pos hv, hi0]
      rw [hI, hgy] at hR
      subst hR
      simp [f3, f4, f5, f6, hv, hlen, hwq, hqk, hyg, hy1, hy2, splice, numA]
    · have hv0 : ¬ v ≤ 0 := hv
      obtain ⟨m, hm⟩ : ∃ m : Nat, v = m := ⟨v.toNat, by omega⟩
      subst hm
      have hm1 : m ≤ 9223372036854775807 := by omega
      have hj' : ∀ j, j + 1 < i → (j + 1) * 100000000 < m * k.length := fun j h => by simpa using hj j h
      obtain ⟨X, hX⟩ : ∃ X, X = m * k.length := ⟨_, rfl⟩
      have hXb : X < 340282366920938463463374607431768211456 := by
        have : m * k.length ≤ 9223372036854775807 * 1000000000 := Nat.mul_le_mul hm1 (by omega)
        omega
      have kM := rMul_ok (G := G) m k.length (by omega) (by omega)
      have kL := rLess_ok (G := G) (i * 100000000) X
      rw [← hX] at kM
      have w1 : IntKind.u64.wrap (i : Int) = (i : Int) := wrap_u64 (by omega) (by omega)
      have w2 : IntKind.u64.wrap ((i : Int) * 100000000) = (((i * 100000000 : Nat)) : Int) := by rw [wrap_u64 (by omega) (by omega)]; omega
      have w3 : IntKind.u64.wrap (m : Int) = (m : Int) := wrap_u64 (by omega) (by omega)
      have w4 : IntKind.u64.wrap (k.length : Int) = (k.length : Int) := wrap_u64 (by omega) (by omega)
      have hwA : wA (i * 100000000) = .agg [.int .u64 0, .int .u64 ((i * 100000000 : Nat) : Int)] := by
        unfold wA
        rw [Nat.div_eq_of_lt (by omega), Nat.mod_eq_of_lt (by omega)]
        rfl
      rw [hwA] at kL
      obtain ⟨I8, hI8⟩ : ∃ I8, I8 = i * 100000000 := ⟨_, rfl⟩
      rw [← hI8] at kL w2
      have hm0 : ¬ m = 0 := by omega
      have hm0' : ¬ (m : Int) ≤ 0 := by omega
      obtain ⟨WX, hWX⟩ : ∃ WX, WX = wA X := ⟨_, rfl⟩
      have hWXp : WX.pure = true := by rw [hWX]; simp [wA]
      rw [← hWX] at kM kL
      simp [f3, f4, f5, f6, hm0, hm0', hlen, w1, w2, w3, w4]
      refine ac_same kM (by simp) ?_
      rintro r rfl
      simp
      refine ac_same kL (by simp [hWXp]) ?_
      rintro r rfl
      by_cases hlx : I8 < X
      · simp [hlx, f6, hwi]
        refine nx_intro (k.length + 1 - (i + 1)) (by omega) ⟨i + 1, rfl, by omega, by omega, fun _ => by omega, fun j h => ?_, by simp [f3], by simp [f4], by simp [f5], by simp, rfl⟩
        by_cases h2 : j + 1 < i
        · exact hj j h2
        · have : j + 1 = i := by omega
          rw [this, ← hI8]
          simpa [← hX] using hlx
      · have hI : rankI (m : Int) k.length = q := rankI_first (by omega) (by omega) (by rw [Int.toNat_natCast, ← hX, hq, Nat.sub_add_cancel hi1, ← hI8]; omega) (fun j h => by simpa using hj j (by omega))
        rw [hI, hgy] at hR
        subst hR
        simp [hlx, f3, f4, f5, f6, hlen, hwq, hqk, hyg, hy1, hy2, splice, numA]
  · have hik : i = k.length := by omega
    have hI : rankI v k.length = q := by
      by_cases hv : v ≤ 0
      · have : ¬ 1 < i := fun h => by have := hvp h; omega
        unfold rankI; rw [if_pos hv]; omega
      · have := rankI_last (v := v) (n := k.length) (by omega) hpos (fun j h => hj j (by omega))
        omega
    rw [hI, hgy] at hR
    subst hR
    have hwq' : IntKind.i64.wrap ((k.length : Int) - 1) = (q : Int) := by rw [← hik]; exact hwq
    simp [f4, f5, hlen, hwq', hqk, hyg, hy1, hy2, splice, numA]
end Go.Proofs.YtdgpnmlialmaaaaGreatDoor
end
