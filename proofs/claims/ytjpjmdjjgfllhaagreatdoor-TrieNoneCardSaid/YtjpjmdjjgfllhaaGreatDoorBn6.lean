/- Lists of paths, as the document has them: Nodes. Tries that hold lists: Insert, Delete, Build, same. Tries: alive; the laws. Tries: the laws TrieBuild -/
import Derived.Test.YtjpjmdjjgfllhaaGreatDoorAbs2
import Derived.ProofKit
import Derived.LaidLaws
import Derived.Handed
import Derived.Carry
import Derived.Lib.LaidTab
import Derived.OpenShut
import Derived.SliceStrings
import Derived.SizedLaws
import Derived.DataWitness
import Derived.Lay
import Derived.Test.YtjpjmdjjgfllhaaGreatDoorBn1
import Derived.Test.YtjpjmdjjgfllhaaGreatDoorBn2
import Derived.Test.YtjpjmdjjgfllhaaGreatDoorBn3
import Derived.Test.YtjpjmdjjgfllhaaGreatDoorBn4
import Derived.Test.YtjpjmdjjgfllhaaGreatDoorBn5
set_option linter.unusedSimpArgs false
set_option linter.unusedVariables false
set_option linter.constructorNameAsVariable false
section
set_option maxHeartbeats 8000000
namespace Go.Proofs.YtjpjmdjjgfllhaaGreatDoor
open Go.Abs Go.Glob Go.Trail Go.Trie
variable {G : Globs}
/-- A list of texts, nil where it is empty. -/
def LV (V : AV) (l : List Tx) : Prop := V = .lst (strEls l) ∨ (V = .nils ∧ l = [])
theorem LV.coe {σ : Store} {V : AV} {l : List Tx} (h : LV V l) (lend : Bool) : Coe σ lend V (.lst (strEls l)) := by
  rcases h with rfl | ⟨rfl, rfl⟩
  · exact .pure _ (by simp [AV.pure])
  · exact .nils
theorem LV.view {σ : Store} {V : AV} {l : List Tx} (h : LV V l) : view σ V = some (strEls l) := by
  rcases h with rfl | ⟨rfl, rfl⟩ <;> rfl
theorem LV.lst {V : AV} {l : List Tx} (h : LV V l) (hne : l ≠ []) : V = .lst (strEls l) := h.resolve_right fun h2 => hne h2.2
end Go.Proofs.YtjpjmdjjgfllhaaGreatDoor
end
section
set_option maxHeartbeats 8000000
namespace Go.Proofs.YtjpjmdjjgfllhaaGreatDoor
open Go.Abs Go.Glob Go.Trail Go.Trie
variable {G : Globs}
/-- A trie that holds a list. -/
structure TAt (σ : Store) (id : Nat) (l : List Tx) (F : Fo) (fp : List Nat) : Prop where
  na : NA σ id [.int .i64 l.length] false F fp
  nd : fp.Nodup
  it : noItr σ = true
  hold : Holds l F
  few : l.length ≤ 64
theorem tinsL_ok {σ : Store} {id : Nat} {l : List Tx} {F : Fo} {fp : List Nat} (h : TAt σ id l F fp) (p : Tx) (hp : p.length ≤ 1000000000000000000) : ACalls Tryz.prog n_trie_Trie_Insert [.ptr id 0, .str p] σ (fun r σ' => r = .int .i64 (insP l p).2 ∧ ∃ F' fp', TAt σ' id (insP l p).1 F' fp' ∧ Kept σ σ' ∧ (∀ a, a < σ.length → a ∉ fp → σ'[a]? = σ[a]?) ∧ ∀ a ∈ fp', a ∈ fp ∨ σ.length ≤ a) := by
  refine (tins_ok h.na h.nd h.it p hp).mono ?_
  intro r σ' hR
  unfold InsR at hR
  have same : σ' = σ → ∃ F' fp', TAt σ' id l F' fp' ∧ Kept σ σ' ∧ (∀ a, a < σ.length → a ∉ fp → σ'[a]? = σ[a]?) ∧ ∀ a ∈ fp', a ∈ fp ∨ σ.length ≤ a := by
    rintro rfl
    exact ⟨F, fp, h, Kept.refl _, fun _ _ _ => rfl, fun _ h => .inl h⟩
  cases hpp : path p with
  | none =>
    rw [hpp] at hR
    have e : insP l p = (l, 13) := by simp [insP, hpp]
    rw [e]
    exact ⟨hR.1, same hR.2⟩
  | some ns =>
    rw [hpp] at hR
    simp only at hR
    have hm : p ∈ l ↔ hasN false F ns = true := by
      rw [h.hold.mem]
      constructor
      · rintro ⟨ms, h1, h2⟩
        rw [hpp] at h1; cases h1; exact h2
      · intro h2; exact ⟨ns, hpp, h2⟩
    by_cases hin : p ∈ l
    · rw [if_pos (hm.1 hin)] at hR
      have e : insP l p = (l, 5) := by simp [insP, hpp, hin]
      rw [e]
      exact ⟨hR.1, same hR.2⟩
    · rw [if_neg (fun h => hin (hm.2 h))] at hR
      by_cases h64 : 64 ≤ l.length
      · rw [if_pos h64] at hR
        have e : insP l p = (l, 11) := by simp [insP, hpp, hin, h64]
        rw [e]
        exact ⟨hR.1, same hR.2⟩
      · rw [if_neg h64] at hR
        have e : insP l p = (withP l p, 0) := by simp [insP, hpp, hin, h64]
        rw [e]
        obtain ⟨h1, fp', h2, h3, h4, h5, h6, h7⟩ := hR
        refine ⟨h1, _, fp', ⟨?_, h3, h4, holds_ins h.hold hpp hin, by rw [with_len]; omega⟩, h5, h6, h7⟩
        rw [with_len]; exact h2
theorem tnewL {σ : Store} (hi : noItr σ = true) : TAt (σ ++ [.var 58 [.nilm, .bool false, .int .i64 0]]) σ.length [] .nil [σ.length] :=
  ⟨⟨_, .nilm, [], by simp; rfl, .inl ⟨rfl, rfl, rfl⟩, rfl⟩, by simp, noItr_app hi rfl, holds_nil, by simp⟩
/-- All paths inserted, up to the first one that is refused. -/
def insAll : List Tx → List Tx → List Tx × Nat
  | l, [] => (l, 0)
  | l, p :: ps => if (insP l p).2 = 0 then insAll (insP l p).1 ps else (l, (insP l p).2)
theorem insAll_take {l : List Tx} {i : Nat} {p : Tx} {paths : List Tx} (hp : paths[i]? = some p) (h0 : (insAll l (paths.take i)).2 = 0) : insAll l (paths.take (i + 1)) = if (insP (insAll l (paths.take i)).1 p).2 = 0 then ((insP (insAll l (paths.take i)).1 p).1, 0) else ((insAll l (paths.take i)).1, (insP (insAll l (paths.take i)).1 p).2) := by
  induction paths generalizing l i with
  | nil => simp at hp
  | cons q paths ih =>
    cases i with
    | zero =>
      simp at hp; subst hp
      simp [insAll]
    | succ i =>
      simp only [List.getElem?_cons_succ] at hp
      simp only [List.take_succ_cons, insAll] at h0 ⊢
      by_cases hq : (insP l q).2 = 0
      · simp only [hq, if_true] at h0 ⊢
        exact ih hp h0
      · simp only [hq, if_false] at h0
theorem insAll_stop {l : List Tx} {i : Nat} {paths : List Tx} (h0 : (insAll l (paths.take i)).2 ≠ 0) : insAll l paths = insAll l (paths.take i) := by
  induction paths generalizing l i with
  | nil => simp
  | cons q paths ih =>
    cases i with
    | zero => simp [insAll] at h0
    | succ i =>
      simp only [List.take_succ_cons, insAll] at h0 ⊢
      by_cases hq : (insP l q).2 = 0
      · simp only [hq, if_true] at h0 ⊢
        exact ih h0
      · simp only [hq, if_false]
/-- What Build leaves: the trie lies behind what was there. -/
def BuildR (σ : Store) (paths : List Tx) (r : AV) (σ' : Store) : Prop :=
  if (insAll [] paths).2 = 0 then ∃ id F fp, r = .tup [.ptr id 0, .int .i64 0] ∧ TAt σ' id (insAll [] paths).1 F fp ∧ Kept σ σ' ∧ (∀ a, a < σ.length → σ'[a]? = σ[a]?) ∧ ∀ a ∈ fp, σ.length ≤ a
  else r = .tup [.nilp, .int .i64 (insAll [] paths).2] ∧ σ' = σ
theorem pre_of {σ σ' : Store} (h : ∀ a, a < σ.length → σ'[a]? = σ[a]?) : σ' = σ ++ σ'.drop σ.length := by
  apply List.ext_getElem?
  intro i
  by_cases hi : i < σ.length
  · rw [List.getElem?_append_left hi]; exact h i hi
  · rw [List.getElem?_append_right (by omega), List.getElem?_drop]
    congr 1; omega
theorem tbuild_ok {σ : Store} (hi : noItr σ = true) (paths : List Tx) (hl : paths.length ≤ 1000000) (hq : ∀ (i : Nat) (q : Tx), paths[i]? = some q → (insAll [] (paths.take i)).2 = 0 → q.length ≤ 1000000000000000000) : ACalls Tryz.prog n_trie_Build [.lst (strEls paths)] σ (BuildR σ paths) := by
  refine acalls_of_awp_e hmix c_trie_Build rfl ?_
  simp [a_trie_Build]
  refine ac_eff tnew_ok ?_
  rintro r σ1 ⟨rfl, rfl⟩
  simp [els_len]
  refine lp_startx (fun x f σ' => ∃ (i : Nat) (F : Fo) (fp : List Nat), x = paths.length - i ∧ i ≤ paths.length ∧ f 4 = .ptr σ.length 0 ∧ f 9 = .lst (strEls paths) ∧ f 10 = .int .i64 paths.length ∧ f 11 = .int .i64 i ∧ (insAll [] (paths.take i)).2 = 0 ∧ TAt σ' σ.length (insAll [] (paths.take i)).1 F fp ∧ Kept σ σ' ∧ (∀ a, a < σ.length → σ'[a]? = σ[a]?) ∧ ∀ a ∈ fp, σ.length ≤ a) paths.length
    ⟨0, .nil, [σ.length], by simp, by simp, by simp, by simp, by simp, by simp, by simp [insAll], by simpa [insAll] using tnewL hi, (Kept.refl σ).app (by simp [Entry.under, AV.under]), fun a ha => app_off ha, by simp⟩ ?_
  rintro x f σ' ⟨i, F, fp, hx, hil, f4, f9, f10, f11, h0, hT, hk, hoff, hfp⟩
  by_cases hlt : i < paths.length
  · obtain ⟨p, hp⟩ : ∃ p, paths[i]? = some p := ⟨_, List.getElem?_eq_getElem hlt⟩
    have hse : (strEls paths)[i]? = some [.str p] := by simp [strEls, hp]
    obtain ⟨hx1, hx2⟩ := List.getElem?_eq_some_iff.1 hse
    have hlt' : (i : Int) < (paths.length : Int) := by omega
    have hwi : IntKind.i64.wrap ((i : Int) + 1) = (i : Int) + 1 := wrap_i64 (by omega) (by omega)
    have htk := insAll_take hp h0
    simp [f4, f9, f10, f11, els_len, hlt, hlt', hse, hx2]
    refine ac_eff (tinsL_ok hT p (hq i p hp h0)) ?_
    rintro r σ2 ⟨rfl, F2, fp2, hT2, hk2, hoff2, hfp2⟩
    have hoff3 : ∀ a, a < σ.length → σ2[a]? = σ[a]? := fun a ha => (hoff2 a (Nat.lt_of_lt_of_le ha hk.len) (fun hx => by have := hfp a hx; omega)).trans (hoff a ha)
    by_cases he : (insP (insAll [] (paths.take i)).1 p).2 = 0
    · rw [if_pos he] at htk
      simp [he, f11, hwi]
      refine nx_intro (paths.length - (i + 1)) (by omega) ⟨i + 1, F2, fp2, rfl, by omega, by simp [f4], by simp [f9], by simp [f10], by simp, by rw [htk], by rw [htk]; exact hT2, hk.trans hk2, hoff3, fun a ha => (hfp2 a ha).elim (hfp a) (fun h => Nat.le_trans hk.len h)⟩
    · rw [if_neg he] at htk
      have hst : insAll [] paths = insAll [] (paths.take (i + 1)) := insAll_stop (by rw [htk]; exact he)
      rw [htk] at hst
      have he' : ¬ (((insP (insAll [] (paths.take i)).1 p).2 : Nat) : Int) = 0 := by omega
      simp [he, he']
      refine er_intro σ (.tup [.nilp, .int .i64 (insP (insAll [] (paths.take i)).1 p).2]) (by simp [retAt, evalRes, tupOf]) _ (pre_of hoff3) rfl (fun _ _ h => .inl h) ?_
      unfold BuildR
      rw [hst, if_neg he]
      exact ⟨rfl, rfl⟩
  · have hlt' : ¬ (i : Int) < (paths.length : Int) := by omega
    rw [List.take_of_length_le (by omega)] at h0 hT
    simp [f4, f10, f11, hlt, hlt']
    have hlen := hk.len
    have hidl : σ.length < σ'.length := by
      have := hT.na.lt σ.length (by obtain ⟨_, _, _, _, _, rfl⟩ := hT.na; simp)
      exact this
    refine er_keep σ' (.tup [.ptr σ.length 0, .int .i64 0]) (by simp [evalRes, tupOf, f4]) [] (by simp) hlen (by simp [AV.under, hidl]) hk.und ?_
    unfold BuildR
    rw [if_pos h0]
    exact ⟨σ.length, F, fp, rfl, hT, hk, hoff, hfp⟩
end Go.Proofs.YtjpjmdjjgfllhaaGreatDoor
end
section
set_option maxHeartbeats 8000000
namespace Go.Proofs.YtjpjmdjjgfllhaaGreatDoor
open Go.Abs Go.Glob Go.Trail Go.Trie
variable {G : Globs}
theorem tins_nil {σ : Store} (p : Tx) : ACalls Tryz.prog n_trie_Trie_Insert [.nilp, .str p] σ (fun r σ' => r = .int .i64 1 ∧ σ' = σ) := by
  refine acalls_of_awp_e hmix c_trie_Trie_Insert rfl ?_
  simp [a_trie_Trie_Insert]
  exact er_intro σ (.int .i64 1) (by simp [retAt, evalRes, tupOf]) [] (by simp) rfl (fun _ _ h => .inl h) ⟨rfl, rfl⟩
theorem tdel_nil {σ : Store} (p : Tx) (hp : p.length ≤ 1000000000000000000) : ACalls Tryz.prog n_trie_Trie_Delete [.nilp, .str p] σ (fun r σ' => r = .int .i64 (delP [] p).2 ∧ σ' = σ) := by
  refine acalls_of_awp_e hmix c_trie_Trie_Delete rfl ?_
  simp [a_trie_Trie_Delete]
  refine ac_same (split_ok p hp) (by simp) ?_
  rintro r rfl
  cases hpp : path p with
  | none =>
    simp [pathAV]
    exact er_intro σ (.int .i64 13) (by simp [retAt, evalRes, tupOf]) [] (by simp) rfl (fun _ _ h => .inl h) ⟨by simp [delP, hpp], rfl⟩
  | some ns =>
    simp [pathAV]
    refine ac_eff (thas_nil p hp) ?_
    rintro r σ' ⟨rfl, rfl⟩
    simp
    exact er_intro σ' (.int .i64 15) (by simp [retAt, evalRes, tupOf]) [] (by simp) rfl (fun _ _ h => .inl h) ⟨by simp [delP, hpp], rfl⟩
def pAB : Tx := [97, 46, 98]
def pAC : Tx := [97, 46, 99]
def pACD : Tx := [97, 46, 99, 46, 100]
def pStar : Tx := [97, 46, 42]
theorem alive_ins : insAll [] [pAB, pACD, pAC] = ([pAB, pAC, pACD], 0) := by kernel_rfl
theorem alive_find : findR pStar [pAB, pAC, pACD] = .tup [.lst (strEls [pAB, pAC]), .int .i64 0] := by kernel_rfl
theorem alive_nodes : nodesR pStar [pAB, pAC, pACD] = .tup [.lst (hitEls [(pAB, true, false), (pAC, true, true)]), .int .i64 0] := by kernel_rfl
theorem alive17_ok : PCalls Tryz.prog n_isobarlaw17_alive [] (fun r => r = .bool true) := by
  refine pcalls_of_awp hmix c_isobarlaw17_alive rfl ?_
  simp [a_isobarlaw17_alive]
  refine ac_eff (tbuild_ok (σ := []) rfl [pAB, pACD, pAC] (by simp) (fun i q hq _ => by have hq := List.mem_of_getElem? hq; simp at hq; rcases hq with rfl | rfl | rfl <;> simp [pAB, pACD, pAC])) ?_
  intro r σ1 hR
  unfold BuildR at hR
  rw [alive_ins, if_pos rfl] at hR
  obtain ⟨id, F, fp, rfl, hT, -, -, -⟩ := hR
  simp
  refine ac_eff (tfindP_ok hT.na hT.hold (by simp) pStar (by simp [pStar])) ?_
  rintro r σ2 ⟨rfl, rfl⟩
  rw [alive_find]
  simp
  refine ac_eff (tnodes_ok hT.na hT.hold (by simp) pStar (by simp [pStar])) ?_
  rintro r σ3 ⟨rfl, rfl⟩
  rw [alive_nodes]
  simp
  refine ac_same (texts_ok [pAB, pAC] [pAB, pAC] (by simp)) (by simp) ?_
  rintro r rfl
  simp [lay, splice]
  refine ac_same (samehits_ok [(pAB, true, false), (pAC, true, true)] [(pAB, true, false), (pAC, true, true)] (by simp)) (by simp) ?_
  rintro r rfl
  simp
theorem none_law (pat pth : Tx) : PCalls Tryz.prog n_isobarlaw17_TrieNone [.str pat, .str pth] (fun r => r = .bool true) := by
  refine pcalls_of_awp hmix c_isobarlaw17_TrieNone rfl ?_
  simp [a_isobarlaw17_TrieNone]
  refine ac_same alive17_ok (by simp) ?_
  rintro r rfl
  by_cases h1 : 2000 < pat.length
  · have h1' : (2000 : Int) < (pat.length : Int) := by omega
    simp [h1, h1']
  have h1' : ¬ (2000 : Int) < (pat.length : Int) := by omega
  by_cases h2 : 2000 < pth.length
  · have h2' : (2000 : Int) < (pth.length : Int) := by omega
    simp [h1, h1', h2, h2']
  have h2' : ¬ (2000 : Int) < (pth.length : Int) := by omega
  simp [h1, h1', h2, h2']
  refine ac_eff (tins_nil pth) ?_
  rintro r σ1 ⟨rfl, rfl⟩
  simp
  refine ac_eff (thas_nil pth (by omega)) ?_
  rintro r σ1 ⟨rfl, rfl⟩
  simp
  refine ac_eff tlen_nil ?_
  rintro r σ1 ⟨rfl, rfl⟩
  simp
  refine ac_eff tpaths_nil ?_
  rintro r σ1 ⟨rfl, rfl⟩
  simp
  refine ac_pure (r17delete_ok [] pth (by simp) (by omega)) (.cons .nils (.cons (.pure _ (by simp [AV.pure])) .nil)) ?_
  rintro r rfl
  simp
  refine ac_eff (tfindP_nil pat (by omega)) ?_
  rintro r σ1 ⟨rfl, rfl⟩
  obtain ⟨e, he⟩ : ∃ e : Nat, nilR pat = .tup [.lst [], .int .i64 e] ∧ ∃ L, nodesAV (nodes pat) = .tup [L, .int .i64 e] := by
    unfold nilR
    cases nodes pat with
    | error e => exact ⟨e, rfl, _, rfl⟩
    | ok ps => exact ⟨0, rfl, _, rfl⟩
  obtain ⟨he, L, hL⟩ := he
  rw [he]
  simp
  refine ac_eff (tnodes_nil pat (by omega)) ?_
  rintro r σ1 ⟨rfl, rfl⟩
  rw [he]
  simp
  refine ac_same (r16nodes_ok pat (by omega)) (by simp) ?_
  rintro r rfl
  rw [hL]
  simp
  refine ac_eff (tdel_nil pth (by omega)) ?_
  rintro r σ1 ⟨rfl, rfl⟩
  simp
end Go.Proofs.YtjpjmdjjgfllhaaGreatDoor
end
section
set_option maxHeartbeats 8000000
namespace Go.Proofs.YtjpjmdjjgfllhaaGreatDoor
open Go.Abs Go.Glob Go.Trail Go.Trie
variable {G : Globs}
abbrev Act := Bool × Tx
end Go.Proofs.YtjpjmdjjgfllhaaGreatDoor
end
section
namespace Go.Abs
open Go.RowKit
def noKey : Key := fun _ _ => none
/-- The cells of the package's variables. -/
def gIm [Globs] : Addr → Prop := fun a => a.spot = none ∧ ∃ p ∈ Globs.tab, a.block = p.1
/-- The package's variables hold what the table says. -/
def GlobsIn [Globs] (w : World) : Prop := GOK w.heap.size gIm w
end Go.Abs
end
section
namespace Go.Abs
open Go.RowKit
/-- The cells that were there ahead of the call. -/
def oldIm (w : World) : Addr → Prop := fun a => a.spot = none ∧ a.block < w.heap.size
theorem law_calls_old {G : Globs} {P : Program} {f : FuncId} {args : List AV} {vs : List Value} {w : World} (h : PCalls P f args (fun r => r = .bool true)) (hg : GlobsIn w) (hv : IRL (oldIm w) w args vs) : Calls P f vs.toArray w fun e w' => e = .returned (.bool true) ∧ Below w.heap.size w w' := by
  have hG : GOK w.heap.size (oldIm w) w := fun p hp => by
    obtain ⟨h1, h2, h3⟩ := hg p hp
    refine ⟨h1, h2, h3.mono (fun a ha => ?_) (fun _ _ => rfl)⟩
    obtain ⟨ha1, q, hq, ha2⟩ := ha
    exact ⟨ha1, by rw [ha2]; exact (hg q hq).1⟩
  have hS : SRel w.heap.size noKey (oldIm w) [] w := ⟨Nat.le_refl _, fun id n v h => by simp [noKey] at h, fun id e h => by simp at h, fun i j e e' b _ h => by simp at h, fun a h => ⟨h.2, h.1⟩, hG⟩
  refine (h w.heap.size noKey (oldIm w) w vs hS ⟨hv.1, fun j h h' => .im _ _ (hv.2 j h h')⟩).mono ?_
  rintro e w' ⟨r, σ', v, κ', Im', rfl, ⟨_, rfl⟩, _, hg, hr⟩
  exact ⟨by rw [hr.bool_inv], hg.below⟩
theorem iro_nil {Im : Addr → Prop} (w : World) : IRL Im w [] [] := ⟨rfl, fun j h => by simp at h⟩
theorem iro_cons {Im : Addr → Prop} {w : World} {a : AV} {v : Value} {l : List AV} {vs : List Value} (h : IR Im w a v) (hl : IRL Im w l vs) : IRL Im w (a :: l) (v :: vs) := by
  refine ⟨by simp [hl.1], fun j hj hj' => ?_⟩
  cases j with
  | zero => exact h
  | succ j => exact hl.2 j (by simpa using hj) (by simpa using hj')
end Go.Abs
namespace Go.Proofs.YtjpjmdjjgfllhaaGreatDoor
open Go.ChangeShapes Go.WideShapes Go.ChangeAt Go.RowKit Go.ChangeMaps Go.Abs Go.Trie
theorem ir_bytes4 {Im : Addr → Prop} {w : World} (s : ByteArray) : IR Im w (.str s.data.toList) (.string s) := by
  have : (.string s : Value) = .string ⟨s.data.toList.toArray⟩ := by cases s; simp
  rw [this]; exact .str _
section
variable {H : Type} {enc : TypeId × Value → H} {w : World} {base : Nat} {spare : Nat → Bool} {held : Bool}
end
/-- No package variable is looked at. -/
instance noGlobs : Globs := ⟨[]⟩
theorem no_globs (w : World) : GlobsIn w := fun p hp => by cases hp
end Go.Proofs.YtjpjmdjjgfllhaaGreatDoor
end
section
namespace Go
section
variable {H : Type} {enc : TypeId × Value → H}
/-- .. and how great what was handed in is. -/
theorem returns_shaped_sz {a : Assume} {C : Checked} {os : Os} {f : FuncId} {fn : Func} {s : ChangeSpec} {conds : List PathCond} {apart fresh handsOn again : Bool} {X : World → Array Value → Prop}
    (hX : ∀ (w w' : World) (args : Array Value), w.heap = w'.heap → X w args → X w' args) (own : ownKnob C.prog.godebug = none) (started : os.Started) (noInit : C.prog.inits.idxOf? f = none) (hfn : C.prog.funcs[f]? = some fn)
    (witness : ∃ (w : World) (tape : Tape) (i : Input), w.os = os ∧ (w.forCall tape i).Shaped C.prog ∧ i.vars = [] ∧ Input.okWide C.prog (w.forCall tape i) .any w.heap.size f i ∧
      ((s.pre enc C.prog fn conds apart (w.forCall tape i).memory i.args ∧ X (w.forCall tape i).memory i.args) ∧ sizedMet enc C.prog fn (OpenSpec.ofChange s) apart (w.forCall tape i).memory i.args) ∧ a.holds C.prog (lone (Frame.enter C.prog f i.args .normal) [] (w.forCall tape i)))
    (body : ∀ (W : World) (base : Nat) (args : Array Value) (ds gs : List (DataW H)) (before : List MemPlace), W.ShapedOpen C.prog → (∀ (j : Nat) t v, fn.params[j]? = some t → args[j]? = some v → Value.okWide C.prog W .any base t v) →
      DataW.Whole enc C.prog fn.params.toList s.vars apart W args.toList ds gs before → X W args → (DataW.weightsEach C.prog (fn.params.toList ++ (OpenSpec.ofChange s).bare.plain.varTypes C.prog) (ds ++ gs)).all (· ≤ reachBytes) = true → Calls C.prog f args W fun e W' => ∃ v, e = .returned v ∧ s.post enc C.prog fn apart fresh handsOn again W args v W') :
    ReturnsInHanded a C os f .any (fun w args => (s.pre enc C.prog fn conds apart w args ∧ X w args) ∧ sizedMet enc C.prog fn (OpenSpec.ofChange s) apart w args) (s.post enc C.prog fn apart fresh handsOn again) := by
  apply returnsInHanded_of_calls own started noInit witness
  rintro w tape i - hshape - ⟨-, -, -, g, hg, -, -, -, -, hval⟩ ⟨⟨⟨ds, gs, before, hw, -⟩, hx⟩, hz⟩ -
  cases Option.some.inj (hg.symm.trans hfn)
  apply (body (w.forCall tape i) w.heap.size i.args ds gs before hshape hval (DataW.Whole.of_heap (by rfl) hw) (hX _ _ _ (by rfl) hx) (hz.weights hw)).mono
  rintro e W' ⟨v, rfl, hp⟩
  exact ChangeSpec.post_blind hp
end
end Go
end
section
namespace Go
section
variable {H : Type} {enc : TypeId × Value → H}
theorem witness_zip {C : Checked} {os : Os} {f : FuncId} {fn : Func} {s : ChangeSpec} {conds : List PathCond} {apart : Bool} {X : World → Array Value → Prop} (w0 : World) (args : Array Value) (fuel : Nat) (hos : w0.os = os)
    (hv : (w0.forCall (fun _ _ => 0) ⟨#[], args, []⟩).variablesZipB C.prog = true)
    (hr : ((w0.forCall (fun _ _ => 0) ⟨#[], args, []⟩).heap.toList.drop C.prog.globals.size).take ((begin C.prog (fun _ _ => 0) default).world.heap.size - C.prog.globals.size) = (begin C.prog (fun _ _ => 0) default).world.heap.toList.drop C.prog.globals.size)
    (hok : Input.okWideB C.prog (w0.forCall (fun _ _ => 0) ⟨#[], args, []⟩) f ⟨#[], args, []⟩ = true)
    (hpre : s.preB enc C.prog fn conds apart (w0.forCall (fun _ _ => 0) ⟨#[], args, []⟩).memory args fuel = true)
    (hsz : s.sizedB enc C.prog fn apart (w0.forCall (fun _ _ => 0) ⟨#[], args, []⟩).memory args fuel = true)
    (hx : X (w0.forCall (fun _ _ => 0) ⟨#[], args, []⟩).memory args) :
    ∃ (w : World) (tape : Tape) (i : Input), w.os = os ∧ (w.forCall tape i).Shaped C.prog ∧ i.vars = [] ∧ Input.okWide C.prog (w.forCall tape i) .any w.heap.size f i ∧
      ((s.pre enc C.prog fn conds apart (w.forCall tape i).memory i.args ∧ X (w.forCall tape i).memory i.args) ∧ sizedMet enc C.prog fn (OpenSpec.ofChange s) apart (w.forCall tape i).memory i.args) ∧ ({} : Assume).holds C.prog (lone (Frame.enter C.prog f i.args .normal) [] (w.forCall tape i)) := by
  refine ⟨w0, fun _ _ => 0, ⟨#[], args, []⟩, hos, World.shaped_of_ZipB hv hr, (Input.okWide_of_okWideB (base := 0) hok).1, (Input.okWide_of_okWideB hok).2, ⟨⟨ChangeSpec.pre_of_preB hpre, hx⟩, sizedMet_of_sizedB hsz⟩, ?_⟩
  simp only [Assume.holds]
  exact ⟨by simp, by simp, fun _ => Modest.zero, by simp, by simp⟩
end
end Go
end
