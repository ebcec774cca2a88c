/- Lists of paths, as the document has them: Nodes. Tries that hold lists: Insert, Delete, Build, same. Tries: alive; the laws. Tries: the laws TrieBuild -/
import Derived.Test.YtjpjmdjjgfllhaaGreatDoorAbs2
import Derived.ProofKit
import Derived.LaidLaws
import Derived.Handed
import Derived.Carry
import Derived.Lib.LaidTab
import Derived.OpenShut
import Derived.SliceStrings
import Derived.SizedLaws
import Derived.DataWitness
import Derived.Lay
import Derived.Test.YtjpjmdjjgfllhaaGreatDoorBn1
import Derived.Test.YtjpjmdjjgfllhaaGreatDoorBn2
import Derived.Test.YtjpjmdjjgfllhaaGreatDoorBn3
import Derived.Test.YtjpjmdjjgfllhaaGreatDoorBn4
import Derived.Test.YtjpjmdjjgfllhaaGreatDoorBn5
set_option linter.unusedSimpArgs false
set_option linter.unusedVariables false
set_option linter.constructorNameAsVariable false
section
set_option maxHeartbeats 8000000
namespace Go.Proofs.YtjpjmdjjgfllhaaGreatDoor
open Go.Abs Go.Glob Go.Trail Go.Trie
variable {G : Globs}
/-- A list of texts, nil where it is empty. -/
def LV (V : AV) (l : List Tx) : Prop := V = .lst (strEls l) ∨ (V = .nils ∧ l = [])
theorem LV.coe {σ : Store} {V : AV} {l : List Tx} (h : LV V l) (lend : Bool) : Coe σ lend V (.lst (strEls l)) := by
  rcases h with rfl | ⟨rfl, rfl⟩
  · exact .pure _ (by simp [AV.pure])
  · exact .nils
theorem LV.view {σ : Store} {V : AV} {l : List Tx} (h : LV V l) : view σ V = some (strEls l) := by
  rcases h with rfl | ⟨rfl, rfl⟩ <;> rfl
theorem LV.lst {V : AV} {l : List Tx} (h : LV V l) (hne : l ≠ []) : V = .lst (strEls l) := h.resolve_right fun h2 => hne h2.2
end Go.Proofs.YtjpjmdjjgfllhaaGreatDoor
end
section
set_option maxHeartbeats 8000000
namespace Go.Proofs.YtjpjmdjjgfllhaaGreatDoor
open Go.Abs Go.Glob Go.Trail Go.Trie
variable {G : Globs}
/-- A trie that holds a list. -/
structure TAt (σ : Store) (id : Nat) (l : List Tx) (F : Fo) (fp : List Nat) : Prop where
  na : NA σ id [.int .i64 l.length] false F fp
  nd : fp.Nodup
  it : noItr σ = true
  hold : Holds l F
  few : l.length ≤ 64
theorem holds_short {l : List Tx} {F : Fo} (h : Holds l F) : ∀ q ∈ l, q.length ≤ 1000000 := fun q hq => by
  obtain ⟨ms, h1, _⟩ := h.mem.1 hq
  obtain ⟨g1, g2, g3, g4⟩ := path_props h1
  have := join_bound ms g4
  rw [g1] at this; omega
theorem hasT_mem {l : List Tx} {F : Fo} (h : Holds l F) (p : Tx) : hasT false F p = decide (p ∈ l) := by
  rw [Bool.eq_iff_iff, decide_eq_true_eq, h.mem]
  unfold hasT
  cases hp : path p with
  | none => simp
  | some ns => simp
theorem tinsL_ok {σ : Store} {id : Nat} {l : List Tx} {F : Fo} {fp : List Nat} (h : TAt σ id l F fp) (p : Tx) (hp : p.length ≤ 1000000000000000000) : ACalls Tryz.prog n_trie_Trie_Insert [.ptr id 0, .str p] σ (fun r σ' => r = .int .i64 (insP l p).2 ∧ ∃ F' fp', TAt σ' id (insP l p).1 F' fp' ∧ Kept σ σ' ∧ (∀ a, a < σ.length → a ∉ fp → σ'[a]? = σ[a]?) ∧ ∀ a ∈ fp', a ∈ fp ∨ σ.length ≤ a) := by
  refine (tins_ok h.na h.nd h.it p hp).mono ?_
  intro r σ' hR
  unfold InsR at hR
  have same : σ' = σ → ∃ F' fp', TAt σ' id l F' fp' ∧ Kept σ σ' ∧ (∀ a, a < σ.length → a ∉ fp → σ'[a]? = σ[a]?) ∧ ∀ a ∈ fp', a ∈ fp ∨ σ.length ≤ a := by
    rintro rfl
    exact ⟨F, fp, h, Kept.refl _, fun _ _ _ => rfl, fun _ h => .inl h⟩
  cases hpp : path p with
  | none =>
    rw [hpp] at hR
    have e : insP l p = (l, 13) := by simp [insP, hpp]
    rw [e]
    exact ⟨hR.1, same hR.2⟩
  | some ns =>
    rw [hpp] at hR
    simp only at hR
    have hm : p ∈ l ↔ hasN false F ns = true := by
      rw [h.hold.mem]
      constructor
      · rintro ⟨ms, h1, h2⟩
        rw [hpp] at h1; cases h1; exact h2
      · intro h2; exact ⟨ns, hpp, h2⟩
    by_cases hin : p ∈ l
    · rw [if_pos (hm.1 hin)] at hR
      have e : insP l p = (l, 5) := by simp [insP, hpp, hin]
      rw [e]
      exact ⟨hR.1, same hR.2⟩
    · rw [if_neg (fun h => hin (hm.2 h))] at hR
      by_cases h64 : 64 ≤ l.length
      · rw [if_pos h64] at hR
        have e : insP l p = (l, 11) := by simp [insP, hpp, hin, h64]
        rw [e]
        exact ⟨hR.1, same hR.2⟩
      · rw [if_neg h64] at hR
        have e : insP l p = (withP l p, 0) := by simp [insP, hpp, hin, h64]
        rw [e]
        obtain ⟨h1, fp', h2, h3, h4, h5, h6, h7⟩ := hR
        refine ⟨h1, _, fp', ⟨?_, h3, h4, holds_ins h.hold hpp hin, by rw [with_len]; omega⟩, h5, h6, h7⟩
        rw [with_len]; exact h2
theorem tnewL {σ : Store} (hi : noItr σ = true) : TAt (σ ++ [.var 58 [.nilm, .bool false, .int .i64 0]]) σ.length [] .nil [σ.length] :=
  ⟨⟨_, .nilm, [], by simp; rfl, .inl ⟨rfl, rfl, rfl⟩, rfl⟩, by simp, noItr_app hi rfl, holds_nil, by simp⟩
/-- All paths inserted, up to the first one that is refused. -/
def insAll : List Tx → List Tx → List Tx × Nat
  | l, [] => (l, 0)
  | l, p :: ps => if (insP l p).2 = 0 then insAll (insP l p).1 ps else (l, (insP l p).2)
theorem insAll_take {l : List Tx} {i : Nat} {p : Tx} {paths : List Tx} (hp : paths[i]? = some p) (h0 : (insAll l (paths.take i)).2 = 0) : insAll l (paths.take (i + 1)) = if (insP (insAll l (paths.take i)).1 p).2 = 0 then ((insP (insAll l (paths.take i)).1 p).1, 0) else ((insAll l (paths.take i)).1, (insP (insAll l (paths.take i)).1 p).2) := by
  induction paths generalizing l i with
  | nil => simp at hp
  | cons q paths ih =>
    cases i with
    | zero =>
      simp at hp; subst hp
      simp [insAll]
    | succ i =>
      simp only [List.getElem?_cons_succ] at hp
      simp only [List.take_succ_cons, insAll] at h0 ⊢
      by_cases hq : (insP l q).2 = 0
      · simp only [hq, if_true] at h0 ⊢
        exact ih hp h0
      · simp only [hq, if_false] at h0
theorem insAll_stop {l : List Tx} {i : Nat} {paths : List Tx} (h0 : (insAll l (paths.take i)).2 ≠ 0) : insAll l paths = insAll l (paths.take i) := by
  induction paths generalizing l i with
  | nil => simp
  | cons q paths ih =>
    cases i with
    | zero => simp [insAll] at h0
    | succ i =>
      simp only [List.take_succ_cons, insAll] at h0 ⊢
      by_cases hq : (insP l q).2 = 0
      · simp only [hq, if_true] at h0 ⊢
        exact ih h0
      · simp only [hq, if_false]
/-- What Build leaves: the trie lies behind what was there. -/
def BuildR (σ : Store) (paths : List Tx) (r : AV) (σ' : Store) : Prop :=
  if (insAll [] paths).2 = 0 then ∃ id F fp, r = .tup [.ptr id 0, .int .i64 0] ∧ TAt σ' id (insAll [] paths).1 F fp ∧ Kept σ σ' ∧ (∀ a, a < σ.length → σ'[a]? = σ[a]?) ∧ ∀ a ∈ fp, σ.length ≤ a
  else r = .tup [.nilp, .int .i64 (insAll [] paths).2] ∧ σ' = σ
theorem pre_of {σ σ' : Store} (h : ∀ a, a < σ.length → σ'[a]? = σ[a]?) : σ' = σ ++ σ'.drop σ.length := by
  apply List.ext_getElem?
  intro i
  by_cases hi : i < σ.length
  · rw [List.getElem?_append_left hi]; exact h i hi
  · rw [List.getElem?_append_right (by omega), List.getElem?_drop]
    congr 1; omega
theorem tbuild_ok {σ : Store} (hi : noItr σ = true) (paths : List Tx) (hl : paths.length ≤ 1000000) (hq : ∀ (i : Nat) (q : Tx), paths[i]? = some q → (insAll [] (paths.take i)).2 = 0 → q.length ≤ 1000000000000000000) : ACalls Tryz.prog n_trie_Build [.lst (strEls paths)] σ (BuildR σ paths) := by
  refine acalls_of_awp_e hmix c_trie_Build rfl ?_
  simp [a_trie_Build]
  refine ac_eff tnew_ok ?_
  rintro r σ1 ⟨rfl, rfl⟩
  simp [els_len]
  refine lp_startx (fun x f σ' => ∃ (i : Nat) (F : Fo) (fp : List Nat), x = paths.length - i ∧ i ≤ paths.length ∧ f 4 = .ptr σ.length 0 ∧ f 9 = .lst (strEls paths) ∧ f 10 = .int .i64 paths.length ∧ f 11 = .int .i64 i ∧ (insAll [] (paths.take i)).2 = 0 ∧ TAt σ' σ.length (insAll [] (paths.take i)).1 F fp ∧ Kept σ σ' ∧ (∀ a, a < σ.length → σ'[a]? = σ[a]?) ∧ ∀ a ∈ fp, σ.length ≤ a) paths.length
    ⟨0, .nil, [σ.length], by simp, by simp, by simp, by simp, by simp, by simp, by simp [insAll], by simpa [insAll] using tnewL hi, (Kept.refl σ).app (by simp [Entry.under, AV.under]), fun a ha => app_off ha, by simp⟩ ?_
  rintro x f σ' ⟨i, F, fp, hx, hil, f4, f9, f10, f11, h0, hT, hk, hoff, hfp⟩
  by_cases hlt : i < paths.length
  · obtain ⟨p, hp⟩ : ∃ p, paths[i]? = some p := ⟨_, List.getElem?_eq_getElem hlt⟩
    have hse : (strEls paths)[i]? = some [.str p] := by simp [strEls, hp]
    obtain ⟨hx1, hx2⟩ := List.getElem?_eq_some_iff.1 hse
    have hlt' : (i : Int) < (paths.length : Int) := by omega
    have hwi : IntKind.i64.wrap ((i : Int) + 1) = (i : Int) + 1 := wrap_i64 (by omega) (by omega)
    have htk := insAll_take hp h0
    simp [f4, f9, f10, f11, els_len, hlt, hlt', hse, hx2]
    refine ac_eff (tinsL_ok hT p (hq i p hp h0)) ?_
    rintro r σ2 ⟨rfl, F2, fp2, hT2, hk2, hoff2, hfp2⟩
    have hoff3 : ∀ a, a < σ.length → σ2[a]? = σ[a]? := fun a ha => (hoff2 a (Nat.lt_of_lt_of_le ha hk.len) (fun hx => by have := hfp a hx; omega)).trans (hoff a ha)
    by_cases he : (insP (insAll [] (paths.take i)).1 p).2 = 0
    · rw [if_pos he] at htk
      simp [he, f11, hwi]
      refine nx_intro (paths.length - (i + 1)) (by omega) ⟨i + 1, F2, fp2, rfl, by omega, by simp [f4], by simp [f9], by simp [f10], by simp, by rw [htk], by rw [htk]; exact hT2, hk.trans hk2, hoff3, fun a ha => (hfp2 a ha).elim (hfp a) (fun h => Nat.le_trans hk.len h)⟩
    · rw [if_neg he] at htk
      have hst : insAll [] paths = insAll [] (paths.take (i + 1)) := insAll_stop (by rw [htk]; exact he)
      rw [htk] at hst
      have he' : ¬ (((insP (insAll [] (paths.take i)).1 p).2 : Nat) : Int) = 0 := by omega
      simp [he, he']
      refine er_intro σ (.tup [.nilp, .int .i64 (insP (insAll [] (paths.take i)).1 p).2]) (by simp [retAt, evalRes, tupOf]) _ (pre_of hoff3) rfl (fun _ _ h => .inl h) ?_
      unfold BuildR
      rw [hst, if_neg he]
      exact ⟨rfl, rfl⟩
  · have hlt' : ¬ (i : Int) < (paths.length : Int) := by omega
    rw [List.take_of_length_le (by omega)] at h0 hT
    simp [f4, f10, f11, hlt, hlt']
    have hlen := hk.len
    have hidl : σ.length < σ'.length := by
      have := hT.na.lt σ.length (by obtain ⟨_, _, _, _, _, rfl⟩ := hT.na; simp)
      exact this
    refine er_keep σ' (.tup [.ptr σ.length 0, .int .i64 0]) (by simp [evalRes, tupOf, f4]) [] (by simp) hlen (by simp [AV.under, hidl]) hk.und ?_
    unfold BuildR
    rw [if_pos h0]
    exact ⟨σ.length, F, fp, rfl, hT, hk, hoff, hfp⟩
end Go.Proofs.YtjpjmdjjgfllhaaGreatDoor
end
section
set_option maxHeartbeats 8000000
namespace Go.Proofs.YtjpjmdjjgfllhaaGreatDoor
open Go.Abs Go.Glob Go.Trail Go.Trie
variable {G : Globs}
def pAB : Tx := [97, 46, 98]
def pAC : Tx := [97, 46, 99]
def pACD : Tx := [97, 46, 99, 46, 100]
def pStar : Tx := [97, 46, 42]
theorem alive_ins : insAll [] [pAB, pACD, pAC] = ([pAB, pAC, pACD], 0) := by kernel_rfl
theorem alive_find : findR pStar [pAB, pAC, pACD] = .tup [.lst (strEls [pAB, pAC]), .int .i64 0] := by kernel_rfl
theorem alive_nodes : nodesR pStar [pAB, pAC, pACD] = .tup [.lst (hitEls [(pAB, true, false), (pAC, true, true)]), .int .i64 0] := by kernel_rfl
theorem alive17_ok : PCalls Tryz.prog n_isobarlaw17_alive [] (fun r => r = .bool true) := by
  refine pcalls_of_awp hmix c_isobarlaw17_alive rfl ?_
  simp [a_isobarlaw17_alive]
  refine ac_eff (tbuild_ok (σ := []) rfl [pAB, pACD, pAC] (by simp) (fun i q hq _ => by have hq := List.mem_of_getElem? hq; simp at hq; rcases hq with rfl | rfl | rfl <;> simp [pAB, pACD, pAC])) ?_
  intro r σ1 hR
  unfold BuildR at hR
  rw [alive_ins, if_pos rfl] at hR
  obtain ⟨id, F, fp, rfl, hT, -, -, -⟩ := hR
  simp
  refine ac_eff (tfindP_ok hT.na hT.hold (by simp) pStar (by simp [pStar])) ?_
  rintro r σ2 ⟨rfl, rfl⟩
  rw [alive_find]
  simp
  refine ac_eff (tnodes_ok hT.na hT.hold (by simp) pStar (by simp [pStar])) ?_
  rintro r σ3 ⟨rfl, rfl⟩
  rw [alive_nodes]
  simp
  refine ac_same (texts_ok [pAB, pAC] [pAB, pAC] (by simp)) (by simp) ?_
  rintro r rfl
  simp [lay, splice]
  refine ac_same (samehits_ok [(pAB, true, false), (pAC, true, true)] [(pAB, true, false), (pAC, true, true)] (by simp)) (by simp) ?_
  rintro r rfl
  simp
theorem find_up {l : List Tx} {F : Fo} (h : Holds l F) (pat : Tx) : ∃ (A : List Tx) (e : Nat), findR pat l = .tup [.lst (strEls A), .int .i64 e] ∧ Up A ∧ A.length ≤ l.length ∧ ((∃ e', nodes pat = .error e' ∧ e = e' ∧ A = []) ∨ ∃ ps, nodes pat = .ok ps ∧ e = 0 ∧ A = findP (ps.map ftP) l) := by
  unfold findR
  cases hn : nodes pat with
  | error e => exact ⟨[], e, rfl, List.Pairwise.nil, by simp, .inl ⟨e, rfl, rfl, rfl⟩⟩
  | ok ps => exact ⟨_, 0, rfl, filter_up h.up _, List.length_filter_le _ _, .inr ⟨ps, rfl, rfl, rfl⟩⟩
theorem just_law (paths : List Tx) (pat pth : Tx) : PCalls Tryz.prog n_isobarlaw17_TrieJust [.lst (strEls paths), .str pat, .str pth] (fun r => r = .bool true) := by
  refine pcalls_of_awp hmix c_isobarlaw17_TrieJust rfl ?_
  simp [a_isobarlaw17_TrieJust]
  refine ac_same alive17_ok (by simp) ?_
  rintro r rfl
  by_cases h0 : 100 < paths.length
  · have h0' : (100 : Int) < (paths.length : Int) := by omega
    simp [els_len, h0, h0']
  have h0' : ¬ (100 : Int) < (paths.length : Int) := by omega
  by_cases h1 : 2000 < pat.length
  · have h1' : (2000 : Int) < (pat.length : Int) := by omega
    simp [els_len, h0, h0', h1, h1']
  have h1' : ¬ (2000 : Int) < (pat.length : Int) := by omega
  by_cases h2 : 2000 < pth.length
  · have h2' : (2000 : Int) < (pth.length : Int) := by omega
    simp [els_len, h0, h0', h1, h1', h2, h2']
  have h2' : ¬ (2000 : Int) < (pth.length : Int) := by omega
  simp [els_len, h0, h0', h1, h1', h2, h2']
  refine ac_eff tnew_ok ?_
  rintro r σ1 ⟨rfl, rfl⟩
  simp
  refine lp_startx (fun x f σ => ∃ (i : Nat) (l : List Tx) (F : Fo) (fp : List Nat), x = paths.length - i ∧ i ≤ paths.length ∧ f 0 = .lst (strEls paths) ∧ f 1 = .str pat ∧ f 2 = .str pth ∧ f 7 = .ptr 0 0 ∧ f 8 = .int .i64 i ∧ TAt σ 0 l F fp) paths.length ⟨0, [], .nil, [0], by simp, by simp, by simp, by simp, by simp, by simp, by simp, by simpa using tnewL (σ := []) rfl⟩ ?_
  rintro x f σ ⟨i, l, F, fp, hx, hi, f0, f1, f2, f7, f8, hT⟩
  by_cases hlt : i < paths.length
  · obtain ⟨p, hp⟩ : ∃ p, paths[i]? = some p := ⟨_, List.getElem?_eq_getElem hlt⟩
    have hse : (strEls paths)[i]? = some [.str p] := by simp [strEls, hp]
    obtain ⟨hx1, hx2⟩ := List.getElem?_eq_some_iff.1 hse
    have hlt' : (i : Int) < (paths.length : Int) := by omega
    have hwi : IntKind.i64.wrap ((i : Int) + 1) = (i : Int) + 1 := wrap_i64 (by omega) (by omega)
    by_cases hp2 : 2000 < p.length
    · have hp2' : (2000 : Int) < (p.length : Int) := by omega
      simp [f0, f8, els_len, hlt, hlt', hse, hx2, hp2, hp2']
    have hp2' : ¬ (2000 : Int) < (p.length : Int) := by omega
    simp [f0, f7, f8, els_len, hlt, hlt', hse, hx2, hp2, hp2']
    refine ac_eff (tinsL_ok hT p (by omega)) ?_
    rintro r σ2 ⟨rfl, F2, fp2, hT2, -⟩
    simp [f8, hwi]
    refine nx_intro (paths.length - (i + 1)) (by omega) ⟨i + 1, _, F2, fp2, rfl, by omega, by simp [f0], by simp [f1], by simp [f2], by simp [f7], by simp, hT2⟩
  · have hlt' : ¬ (i : Int) < (paths.length : Int) := by omega
    have hfew := hT.few
    have hshort := holds_short hT.hold
    simp [f0, f1, f7, f8, els_len, hlt, hlt']
    refine ac_eff (tfindP_ok hT.na hT.hold (by omega) pat (by omega)) ?_
    rintro r σ2 ⟨rfl, rfl⟩
    obtain ⟨A, e, hA, hup, hAl, hcase⟩ := find_up hT.hold pat
    rw [hA]
    simp
    refine lp_startx (fun x g σ' => ∃ j : Nat, x = A.length + 1 - j ∧ 1 ≤ j ∧ j ≤ A.length + 1 ∧ g 1 = .str pat ∧ g 2 = .str pth ∧ g 7 = .ptr 0 0 ∧ g 9 = .lst (strEls A) ∧ g 10 = .int .i64 e ∧ g 11 = .int .i64 j ∧ σ' = σ2) A.length ⟨1, by simp, by simp, by simp, by simp [f1], by simp [f2], by simp [f7], by simp, by simp, by simp, rfl⟩ ?_
    rintro x g σ' ⟨j, hxj, hj1, hj, g1, g2, g7, g9, g10, g11, rfl⟩
    by_cases hlt3 : j < A.length
    · obtain ⟨a, ha⟩ : ∃ a, A[j - 1]? = some a := ⟨_, List.getElem?_eq_getElem (by omega)⟩
      obtain ⟨b, hb⟩ : ∃ b, A[j]? = some b := ⟨_, List.getElem?_eq_getElem hlt3⟩
      have hsa : (strEls A)[j - 1]? = some [.str a] := by simp [strEls, ha]
      have hsb : (strEls A)[j]? = some [.str b] := by simp [strEls, hb]
      obtain ⟨_, ha2⟩ := List.getElem?_eq_some_iff.1 hsa
      obtain ⟨_, hb2⟩ := List.getElem?_eq_some_iff.1 hsb
      have hlt4 : (j : Int) < (A.length : Int) := by omega
      have hwj : IntKind.i64.wrap ((j : Int) + 1) = (j : Int) + 1 := wrap_i64 (by omega) (by omega)
      have hwm : IntKind.i64.wrap ((j : Int) - 1) = ((j - 1 : Nat) : Int) := by rw [wrap_i64 (by omega) (by omega)]; omega
      have hab : a < b := by
        obtain ⟨q1, rfl⟩ := List.getElem?_eq_some_iff.1 ha
        obtain ⟨q2, rfl⟩ := List.getElem?_eq_some_iff.1 hb
        exact List.pairwise_iff_getElem.1 hup _ _ q1 q2 (by omega)
      have hbl : Op.bytesLess a b = true := by rw [bytesLess_eq]; simpa using hab
      have hjA : j - 1 < A.length := by omega
      simp [g9, g11, els_len, hlt3, hlt4, hwm, hsa, hsb, ha2, hb2, hbl, hwj, hjA]
      refine nx_intro (A.length + 1 - (j + 1)) (by omega) ⟨j + 1, rfl, by omega, by omega, by simp [g1], by simp [g2], by simp [g7], by simp [g9], by simp [g10], by simp, rfl⟩
    · have hlt4 : ¬ (j : Int) < (A.length : Int) := by omega
      simp [g1, g2, g9, g11, els_len, hlt3, hlt4]
      refine ac_same (r16match_ok pat pth (by omega) (by omega)) (by simp) ?_
      rintro r rfl
      rcases hcase with ⟨e', hn, rfl, rfl⟩ | ⟨ps, hn, rfl, rfl⟩
      · rw [hn]
        simp
        by_cases h13 : e = 13
        · subst h13
          simp [g2, g9]
          refine ac_same (r17has_ok [] pth (by simp)) (by simp) ?_
          rintro r rfl
          simp
        · have h13' : ¬ ((e : Nat) : Int) = 13 := by omega
          simp [h13, h13', g2, g9, g10]
          refine ac_same (r17has_ok [] pth (by simp)) (by simp) ?_
          rintro r rfl
          simp
      · rw [hn]
        simp only
        cases hpp : path pth with
        | none =>
          have hno : pth ∉ findP (ps.map ftP) l := fun hm => by
            have := (List.mem_filter.1 hm).2
            simp [mtP, hpp] at this
          simp [g2, g9]
          refine ac_same (r17has_ok (findP (ps.map ftP) l) pth (by omega)) (by simp) ?_
          rintro r rfl
          simp [hno]
        | some ns =>
          have hmt : (decide (ps.length = ns.length) && fitN ps ns) = mtP (ps.map ftP) pth := by simp [mtP, hpp, fitsP_eq]
          simp only [hmt]
          have hmem : pth ∈ findP (ps.map ftP) l ↔ pth ∈ l ∧ mtP (ps.map ftP) pth = true := List.mem_filter
          simp [g2, g9, g10]
          refine ac_same (r17has_ok (findP (ps.map ftP) l) pth (by omega)) (by simp) ?_
          rintro r rfl
          cases hb : mtP (ps.map ftP) pth with
          | false =>
            have hno : pth ∉ findP (ps.map ftP) l := fun hm => by rw [hmem, hb] at hm; cases hm.2
            simp [hno]
          | true =>
            simp [g2, g7]
            refine ac_eff (thas_ok hT.na pth (by omega)) ?_
            rintro r σ3 ⟨rfl, rfl⟩
            rw [hasT_mem hT.hold]
            simp [hmem, hb]
end Go.Proofs.YtjpjmdjjgfllhaaGreatDoor
end
section
set_option maxHeartbeats 8000000
namespace Go.Proofs.YtjpjmdjjgfllhaaGreatDoor
open Go.Abs Go.Glob Go.Trail Go.Trie
variable {G : Globs}
abbrev Act := Bool × Tx
end Go.Proofs.YtjpjmdjjgfllhaaGreatDoor
end
section
namespace Go.Abs
open Go.RowKit
def noKey : Key := fun _ _ => none
/-- The cells of the package's variables. -/
def gIm [Globs] : Addr → Prop := fun a => a.spot = none ∧ ∃ p ∈ Globs.tab, a.block = p.1
/-- The package's variables hold what the table says. -/
def GlobsIn [Globs] (w : World) : Prop := GOK w.heap.size gIm w
end Go.Abs
end
section
namespace Go.Abs
open Go.RowKit
/-- The cells that were there ahead of the call. -/
def oldIm (w : World) : Addr → Prop := fun a => a.spot = none ∧ a.block < w.heap.size
theorem law_calls_old {G : Globs} {P : Program} {f : FuncId} {args : List AV} {vs : List Value} {w : World} (h : PCalls P f args (fun r => r = .bool true)) (hg : GlobsIn w) (hv : IRL (oldIm w) w args vs) : Calls P f vs.toArray w fun e w' => e = .returned (.bool true) ∧ Below w.heap.size w w' := by
  have hG : GOK w.heap.size (oldIm w) w := fun p hp => by
    obtain ⟨h1, h2, h3⟩ := hg p hp
    refine ⟨h1, h2, h3.mono (fun a ha => ?_) (fun _ _ => rfl)⟩
    obtain ⟨ha1, q, hq, ha2⟩ := ha
    exact ⟨ha1, by rw [ha2]; exact (hg q hq).1⟩
  have hS : SRel w.heap.size noKey (oldIm w) [] w := ⟨Nat.le_refl _, fun id n v h => by simp [noKey] at h, fun id e h => by simp at h, fun i j e e' b _ h => by simp at h, fun a h => ⟨h.2, h.1⟩, hG⟩
  refine (h w.heap.size noKey (oldIm w) w vs hS ⟨hv.1, fun j h h' => .im _ _ (hv.2 j h h')⟩).mono ?_
  rintro e w' ⟨r, σ', v, κ', Im', rfl, ⟨_, rfl⟩, _, hg, hr⟩
  exact ⟨by rw [hr.bool_inv], hg.below⟩
theorem iro_nil {Im : Addr → Prop} (w : World) : IRL Im w [] [] := ⟨rfl, fun j h => by simp at h⟩
theorem iro_cons {Im : Addr → Prop} {w : World} {a : AV} {v : Value} {l : List AV} {vs : List Value} (h : IR Im w a v) (hl : IRL Im w l vs) : IRL Im w (a :: l) (v :: vs) := by
  refine ⟨by simp [hl.1], fun j hj hj' => ?_⟩
  cases j with
  | zero => exact h
  | succ j => exact hl.2 j (by simpa using hj) (by simpa using hj')
end Go.Abs
namespace Go.Proofs.YtjpjmdjjgfllhaaGreatDoor
open Go.ChangeShapes Go.WideShapes Go.ChangeAt Go.RowKit Go.ChangeMaps Go.Abs Go.Trie
theorem ir_bytes4 {Im : Addr → Prop} {w : World} (s : ByteArray) : IR Im w (.str s.data.toList) (.string s) := by
  have : (.string s : Value) = .string ⟨s.data.toList.toArray⟩ := by cases s; simp
  rw [this]; exact .str _
section
variable {H : Type} {enc : TypeId × Value → H} {w : World} {base : Nat} {spare : Nat → Bool} {held : Bool}
theorem str_sizeT : Tryz.prog.cellsOf 9 = 1 := by kernel_rfl
theorem hold_of {b x : Nat} {v : Value} (h : w.cell? ⟨b, x, none⟩ = some v) : oldIm w ⟨b, x, none⟩ := by
  refine ⟨rfl, ?_⟩
  rcases Nat.lt_or_ge b w.heap.size with h' | h'
  · exact h'
  · simp [World.cell?, Array.getElem?_eq_none h'] at h
set_option maxRecDepth 100000 in
theorem open_strs {r : Reach} {b0 : Nat} {v : Value} {d : DataW H} {ps : List MemPlace} (hval : Value.okWide Tryz.prog w r b0 22 v) (hd : DataW.Trod enc Tryz.prog w base spare held 22 v d ps) :
    ∃ l : List (List UInt8), l.length ≤ 9223372036854775807 ∧ IR (oldIm w) w (.lst (strEls l)) v := by
  obtain ⟨fuel, hf⟩ := hd
  obtain ⟨a0, len, cap, rfl⟩ := okWide_slice Tryz.underlying22 hval
  rcases Go.ChangeShapes.open_strings Tryz.underlying22 Tryz.underlying9 str_sizeT hf with ⟨hcs, hx⟩ | ⟨a, len', cap', ss, hcs, _, hl, hm, hz, hx, hcell, hsz⟩
  · simp [Value.cells] at hcs
    obtain ⟨rfl, rfl, rfl⟩ := hcs
    exact ⟨[], by simp, .lnil none⟩
  · simp [Value.cells] at hcs
    obtain ⟨rfl, rfl, rfl⟩ := hcs
    have hspot : a.spot = none := by
      simp only [Value.okWide, Tryz.underlying22, Cell.okWide, Cell.ok, World.has] at hval
      exact hval.2.2.2.1
    obtain ⟨b, o, sp⟩ := a
    simp only at hspot
    subst hspot
    have hlen : len ≤ ss.length := by rw [hz]; split <;> omega
    obtain ⟨l, hl'⟩ : ∃ l, l = (ss.take len).map (fun s : ByteArray => s.data.toList) := ⟨_, rfl⟩
    have hll : l.length = len := by rw [hl']; simp; omega
    have hcap : cap ≤ 9223372036854775807 := hm
    have each : ∀ k, k < len → w.cell? ⟨b, o + (k * 1 + 0), none⟩ = some (.string (ss.getD k ByteArray.empty)) ∧ l[k]? = some (ss.getD k ByteArray.empty).data.toList := fun k hk => by
      have h1 := hcell k (by omega)
      have e : Addr.add ⟨b, o, none⟩ k = ⟨b, o + (k * 1 + 0), none⟩ := by unfold Addr.add; split <;> simp_all
      rw [e] at h1
      refine ⟨h1, ?_⟩
      rw [hl', List.getElem?_map, List.getElem?_take_of_lt hk, List.getD]
      have hks : k < ss.length := by omega
      simp [hks]
    refine ⟨l, by omega, ?_⟩
    have hnl : (strEls l).length = len := by simp [strEls, hll]
    have := IR.lst (Im := oldIm w) (w := w) (strEls l) 1 b o cap (fun i _ => .string (ss.getD i ByteArray.empty)) (by rw [hnl]; exact hl) hm
      (fun c hc => by
        simp only [strEls, List.mem_map] at hc
        obtain ⟨x, _, rfl⟩ := hc
        rfl)
      (fun c hc x hx => by
        simp only [strEls, List.mem_map] at hc
        obtain ⟨y, _, rfl⟩ := hc
        simp at hx
        subst hx; rfl)
      (fun k j hk hj => by
        rw [hnl] at hk
        have hj0 : j = 0 := by omega
        subst hj0
        exact ⟨hold_of (each k hk).1, (each k hk).1⟩)
      (fun k j hk hj => by
        rw [hnl] at hk
        have hj0 : j = 0 := by simpa [strEls] using hj
        subst hj0
        obtain ⟨_, e2⟩ := List.getElem?_eq_some_iff.1 (each k hk).2
        simp only [strEls, List.getElem_map, List.getElem_cons_zero, e2]
        exact ir_bytes4 _)
    rw [hnl] at this
    exact this
end
/-- No package variable is looked at. -/
instance noGlobs : Globs := ⟨[]⟩
theorem no_globs (w : World) : GlobsIn w := fun p hp => by cases hp
end Go.Proofs.YtjpjmdjjgfllhaaGreatDoor
end
section
namespace Go
section
variable {H : Type} {enc : TypeId × Value → H}
/-- .. and how great what was handed in is. -/
theorem returns_shaped_sz {a : Assume} {C : Checked} {os : Os} {f : FuncId} {fn : Func} {s : ChangeSpec} {conds : List PathCond} {apart fresh handsOn again : Bool} {X : World → Array Value → Prop}
    (hX : ∀ (w w' : World) (args : Array Value), w.heap = w'.heap → X w args → X w' args) (own : ownKnob C.prog.godebug = none) (started : os.Started) (noInit : C.prog.inits.idxOf? f = none) (hfn : C.prog.funcs[f]? = some fn)
    (witness : ∃ (w : World) (tape : Tape) (i : Input), w.os = os ∧ (w.forCall tape i).Shaped C.prog ∧ i.vars = [] ∧ Input.okWide C.prog (w.forCall tape i) .any w.heap.size f i ∧
      ((s.pre enc C.prog fn conds apart (w.forCall tape i).memory i.args ∧ X (w.forCall tape i).memory i.args) ∧ sizedMet enc C.prog fn (OpenSpec.ofChange s) apart (w.forCall tape i).memory i.args) ∧ a.holds C.prog (lone (Frame.enter C.prog f i.args .normal) [] (w.forCall tape i)))
    (body : ∀ (W : World) (base : Nat) (args : Array Value) (ds gs : List (DataW H)) (before : List MemPlace), W.ShapedOpen C.prog → (∀ (j : Nat) t v, fn.params[j]? = some t → args[j]? = some v → Value.okWide C.prog W .any base t v) →
      DataW.Whole enc C.prog fn.params.toList s.vars apart W args.toList ds gs before → X W args → (DataW.weightsEach C.prog (fn.params.toList ++ (OpenSpec.ofChange s).bare.plain.varTypes C.prog) (ds ++ gs)).all (· ≤ reachBytes) = true → Calls C.prog f args W fun e W' => ∃ v, e = .returned v ∧ s.post enc C.prog fn apart fresh handsOn again W args v W') :
    ReturnsInHanded a C os f .any (fun w args => (s.pre enc C.prog fn conds apart w args ∧ X w args) ∧ sizedMet enc C.prog fn (OpenSpec.ofChange s) apart w args) (s.post enc C.prog fn apart fresh handsOn again) := by
  apply returnsInHanded_of_calls own started noInit witness
  rintro w tape i - hshape - ⟨-, -, -, g, hg, -, -, -, -, hval⟩ ⟨⟨⟨ds, gs, before, hw, -⟩, hx⟩, hz⟩ -
  cases Option.some.inj (hg.symm.trans hfn)
  apply (body (w.forCall tape i) w.heap.size i.args ds gs before hshape hval (DataW.Whole.of_heap (by rfl) hw) (hX _ _ _ (by rfl) hx) (hz.weights hw)).mono
  rintro e W' ⟨v, rfl, hp⟩
  exact ChangeSpec.post_blind hp
end
end Go
end
section
namespace Go
section
variable {H : Type} {enc : TypeId × Value → H}
theorem witness_zip {C : Checked} {os : Os} {f : FuncId} {fn : Func} {s : ChangeSpec} {conds : List PathCond} {apart : Bool} {X : World → Array Value → Prop} (w0 : World) (args : Array Value) (fuel : Nat) (hos : w0.os = os)
    (hv : (w0.forCall (fun _ _ => 0) ⟨#[], args, []⟩).variablesZipB C.prog = true)
    (hr : ((w0.forCall (fun _ _ => 0) ⟨#[], args, []⟩).heap.toList.drop C.prog.globals.size).take ((begin C.prog (fun _ _ => 0) default).world.heap.size - C.prog.globals.size) = (begin C.prog (fun _ _ => 0) default).world.heap.toList.drop C.prog.globals.size)
    (hok : Input.okWideB C.prog (w0.forCall (fun _ _ => 0) ⟨#[], args, []⟩) f ⟨#[], args, []⟩ = true)
    (hpre : s.preB enc C.prog fn conds apart (w0.forCall (fun _ _ => 0) ⟨#[], args, []⟩).memory args fuel = true)
    (hsz : s.sizedB enc C.prog fn apart (w0.forCall (fun _ _ => 0) ⟨#[], args, []⟩).memory args fuel = true)
    (hx : X (w0.forCall (fun _ _ => 0) ⟨#[], args, []⟩).memory args) :
    ∃ (w : World) (tape : Tape) (i : Input), w.os = os ∧ (w.forCall tape i).Shaped C.prog ∧ i.vars = [] ∧ Input.okWide C.prog (w.forCall tape i) .any w.heap.size f i ∧
      ((s.pre enc C.prog fn conds apart (w.forCall tape i).memory i.args ∧ X (w.forCall tape i).memory i.args) ∧ sizedMet enc C.prog fn (OpenSpec.ofChange s) apart (w.forCall tape i).memory i.args) ∧ ({} : Assume).holds C.prog (lone (Frame.enter C.prog f i.args .normal) [] (w.forCall tape i)) := by
  refine ⟨w0, fun _ _ => 0, ⟨#[], args, []⟩, hos, World.shaped_of_ZipB hv hr, (Input.okWide_of_okWideB (base := 0) hok).1, (Input.okWide_of_okWideB hok).2, ⟨⟨ChangeSpec.pre_of_preB hpre, hx⟩, sizedMet_of_sizedB hsz⟩, ?_⟩
  simp only [Assume.holds]
  exact ⟨by simp, by simp, fun _ => Modest.zero, by simp, by simp⟩
end
end Go
end
