/- Lists of paths, as the document has them: Nodes. Tries that hold lists: Insert, Delete, Build, same. Tries: alive; the laws. Tries: the laws TrieBuild -/
import Derived.Test.YtjpjmdjjgfllhaaGreatDoorAbs2
import Derived.ProofKit
import Derived.LaidLaws
import Derived.Handed
import Derived.Carry
import Derived.Lib.LaidTab
import Derived.OpenShut
import Derived.SliceStrings
import Derived.SizedLaws
import Derived.DataWitness
import Derived.Lay
import Derived.Test.YtjpjmdjjgfllhaaGreatDoorBn1
import Derived.Test.YtjpjmdjjgfllhaaGreatDoorBn2
import Derived.Test.YtjpjmdjjgfllhaaGreatDoorBn3
import Derived.Test.YtjpjmdjjgfllhaaGreatDoorBn4
import Derived.Test.YtjpjmdjjgfllhaaGreatDoorBn5
set_option linter.unusedSimpArgs false
set_option linter.unusedVariables false
set_option linter.constructorNameAsVariable false
section
set_option maxHeartbeats 8000000
namespace Go.Proofs.YtjpjmdjjgfllhaaGreatDoor
open Go.Abs Go.Glob Go.Trail Go.Trie
variable {G : Globs}
/-- A list of texts, nil where it is empty. -/
def LV (V : AV) (l : List Tx) : Prop := V = .lst (strEls l) ∨ (V = .nils ∧ l = [])
theorem LV.coe {σ : Store} {V : AV} {l : List Tx} (h : LV V l) (lend : Bool) : Coe σ lend V (.lst (strEls l)) := by
  rcases h with rfl | ⟨rfl, rfl⟩
  · exact .pure _ (by simp [AV.pure])
  · exact .nils
theorem LV.view {σ : Store} {V : AV} {l : List Tx} (h : LV V l) : view σ V = some (strEls l) := by
  rcases h with rfl | ⟨rfl, rfl⟩ <;> rfl
theorem LV.lst {V : AV} {l : List Tx} (h : LV V l) (hne : l ≠ []) : V = .lst (strEls l) := h.resolve_right fun h2 => hne h2.2
theorem take_any {l : List Tx} {k : Nat} {x : Tx} (hx : l[k]? = some x) (p : Tx → Bool) : (l.take (k + 1)).any p = ((l.take k).any p || p x) := by
  rw [List.take_add_one, hx]; simp
theorem r17nodes_ok (l : List Tx) (pat : Tx) (hl : l.length ≤ 1000) (hs : pat.length ≤ 1000000) (hq : ∀ q ∈ l, q.length ≤ 1000000) : PCalls Tryz.prog n_isobarref17_Nodes [.lst (strEls l), .str pat] (fun r => r = nodesR pat l) := by
  refine pcalls_of_awp hmix c_isobarref17_Nodes rfl ?_
  simp [a_isobarref17_Nodes]
  refine ac_same (r16nodes_ok pat hs) (by simp) ?_
  rintro r rfl
  cases hn : nodes pat with
  | error e =>
    have := nodes_pos hn
    simp [nodesAV, this, nodesR, hn]
  | ok ps =>
    obtain ⟨hsp, h8⟩ := nodes_ok_sp hn
    have hps : 1 ≤ ps.length := by
      have : ps ≠ [] := by rw [hsp]; exact sp_ne pat
      exact List.length_pos_iff.2 this
    obtain ⟨m0, hm0⟩ : ∃ m0 : Tx → Bool, m0 = mtP (ps.map ftP) := ⟨_, rfl⟩
    obtain ⟨H, hH⟩ : ∃ H, H = headsP ps.length l := ⟨_, rfl⟩
    have hR : nodesR pat l = .tup [.lst (hitEls ((H.filter m0).map (hitOf l))), .int .i64 0] := by simp [nodesR, hn, nodesP, hm0, hH]
    have hHl : H.length ≤ 1000 := by rw [hH]; have := fold_len ps.length l []; simp only [List.length_nil] at this; unfold headsP; omega
    have hHq : ∀ h ∈ H, h.length ≤ 1000000 := fun h hh => by
      rw [hH] at hh
      obtain ⟨x, hx, ns, h1, h2, rfl⟩ := mem_heads.1 hh
      have h3 := join_len ns ps.length
      rw [(path_props h1).1] at h3
      have := hq x hx; omega
    rw [hR]
    simp [nodesAV]
    refine lp_startx (fun x f σ => ∃ i : Nat, x = l.length - i ∧ i ≤ l.length ∧ f 0 = .lst (strEls l) ∧ f 1 = .str pat ∧ f 6 = .lst (strEls ps) ∧ LV (f 8) ((l.take i).foldl (headsF ps.length) []) ∧ f 9 = .int .i64 i ∧ σ = []) l.length ⟨0, by simp, by simp, by simp, by simp, by simp, .inr ⟨by simp, by simp⟩, by simp, rfl⟩ ?_
    rintro x f σ ⟨i, hx, hi, h0, h1, h6, h8v, h9, rfl⟩
    by_cases hlt : i < l.length
    · obtain ⟨q, hq1⟩ : ∃ q, l[i]? = some q := ⟨_, List.getElem?_eq_getElem hlt⟩
      have hse : (strEls l)[i]? = some [.str q] := by simp [strEls, hq1]
      obtain ⟨hx1, hx2⟩ := List.getElem?_eq_some_iff.1 hse
      have hlt' : (i : Int) < (l.length : Int) := by omega
      have hwi : IntKind.i64.wrap ((i : Int) + 1) = (i : Int) + 1 := wrap_i64 (by omega) (by omega)
      have htk : (l.take (i + 1)).foldl (headsF ps.length) [] = headsF ps.length ((l.take i).foldl (headsF ps.length) []) q := by rw [List.take_add_one, hq1]; simp
      obtain ⟨Hi, hHi⟩ : ∃ Hi, Hi = (l.take i).foldl (headsF ps.length) [] := ⟨_, rfl⟩
      rw [← hHi] at h8v htk
      have hHil : Hi.length ≤ 1000 := by
        have := fold_len ps.length (l.take i) []
        rw [← hHi] at this
        simp at this; omega
      have hql := hq q (List.mem_of_getElem? hq1)
      simp [h0, h1, h6, h9, els_len, hlt, hlt', hse, hx2]
      refine ac_same (r16head_ok q ps.length (by omega) (by omega) (by omega)) (by simp) ?_
      rintro r rfl
      cases hp : path q with
      | none =>
        have hf : headsF ps.length Hi q = Hi := by simp [headsF, hp]
        simp [h9, hwi]
        refine nx_intro (l.length - (i + 1)) (by omega) ⟨i + 1, rfl, by omega, by simp [h0], by simp [h1], by simp [h6], by rw [htk, hf]; simpa using h8v, by simp, rfl⟩
      | some ns =>
        by_cases hk : ns.length < ps.length
        · have hf : headsF ps.length Hi q = Hi := by simp [headsF, hp, hk]
          have hk2 : ((ps.length : Int) < 1 ∨ (ps.length : Int) > (ns.length : Int)) := .inr (by omega)
          have hk3 : (ns.length : Int) < (ps.length : Int) := by omega
          simp only [if_pos hk2]
          simp [h9, hwi]
          refine nx_intro (l.length - (i + 1)) (by omega) ⟨i + 1, rfl, by omega, by simp [h0], by simp [h1], by simp [h6], by rw [htk, hf]; simpa using h8v, by simp, rfl⟩
        · have hk2 : ¬ ((ps.length : Int) < 1 ∨ (ps.length : Int) > (ns.length : Int)) := by omega
          simp only [if_neg hk2, Int.toNat_natCast]
          simp [h9]
          refine ac_pure (r17has_ok Hi (join (ns.take ps.length)) (by omega)) (.cons (h8v.coe false) (.cons (.pure _ (by simp [AV.pure])) .nil)) ?_
          rintro r rfl
          by_cases hm : join (ns.take ps.length) ∈ Hi
          · have hf : headsF ps.length Hi q = Hi := by simp [headsF, hp, hk, hm]
            simp [hm, h9, hwi]
            refine nx_intro (l.length - (i + 1)) (by omega) ⟨i + 1, rfl, by omega, by simp [h0], by simp [h1], by simp [h6], by rw [htk, hf]; simpa using h8v, by simp, rfl⟩
          · have hf : headsF ps.length Hi q = withP Hi (join (ns.take ps.length)) := by simp [headsF, hp, hk, hm]
            simp [hm]
            refine ac_pure (r17with_ok Hi (join (ns.take ps.length)) (by omega)) (.cons (h8v.coe false) (.cons (.pure _ (by simp [AV.pure])) .nil)) ?_
            rintro r rfl
            simp [h9, hwi]
            refine nx_intro (l.length - (i + 1)) (by omega) ⟨i + 1, rfl, by omega, by simp [h0], by simp [h1], by simp [h6], .inl (by rw [htk, hf]; simp), by simp, rfl⟩
    · have hil : i = l.length := by omega
      subst hil
      rw [List.take_length] at h8v
      have hHe : l.foldl (headsF ps.length) [] = H := by rw [hH]; rfl
      rw [hHe] at h8v
      simp [h0, h9, els_len]
      refine lp_startx (fun x f σ => ∃ j : Nat, x = H.length - j ∧ j ≤ H.length ∧ f 0 = .lst (strEls l) ∧ f 1 = .str pat ∧ LV (f 8) H ∧ AccI 53 3 σ (f 12) (hitEls (((H.take j).filter m0).map (hitOf l))) ∧ f 13 = .int .i64 j) H.length ⟨0, by simp, by simp, by simp [h0], by simp [h1], by simpa using h8v, .inl ⟨rfl, by simp⟩, by simp⟩ ?_
      rintro x f σ ⟨j, hx, hj, f0, f1, f8, f12, f13⟩
      have hvw := f8.view (σ := σ)
      by_cases hlt2 : j < H.length
      · have f8' := f8.lst (by rintro rfl; simp at hlt2)
        obtain ⟨h, hh⟩ : ∃ h, H[j]? = some h := ⟨_, List.getElem?_eq_getElem hlt2⟩
        have hse : (strEls H)[j]? = some [.str h] := by simp [strEls, hh]
        obtain ⟨hx1, hx2⟩ := List.getElem?_eq_some_iff.1 hse
        have hlt' : (j : Int) < (H.length : Int) := by omega
        have hwi : IntKind.i64.wrap ((j : Int) + 1) = (j : Int) + 1 := wrap_i64 (by omega) (by omega)
        have htk : H.take (j + 1) = H.take j ++ [h] := by rw [List.take_add_one, hh]; rfl
        have hhl := hHq h (List.mem_of_getElem? hh)
        have hal : ((H.take j).filter m0).length ≤ j := Nat.le_trans (List.length_filter_le _ _) (by simp; omega)
        simp [f0, f1, f8', f13, els_len, hlt2, hlt', hse, hx2]
        refine ac_same (r16match_mt hn h hs hhl) (by simp) ?_
        rintro r ⟨e, rfl⟩
        rw [← hm0]
        cases hm : m0 h with
        | false =>
          simp [f13, hwi]
          refine nx_intro (H.length - (j + 1)) (by omega) ⟨j + 1, rfl, by omega, by simp [f0], by simp [f1], by simpa using f8, ?_, by simp⟩
          rw [htk, List.filter_append]
          simpa [hm] using f12
        | true =>
          simp [f0, f1, f8', f13, els_len, hlt2, hlt', hse, hx2]
          refine qc_same (r17has_ok l h (by omega)) (by simp) (by simp [rig]) ?_
          obtain ⟨q, hqq⟩ : ∃ q, q = σ.length := ⟨_, rfl⟩
          obtain ⟨bl, hbl⟩ : ∃ bl : Bool, bl = decide (h ∈ l) := ⟨_, rfl⟩
          simp [← hbl, lay, splice, putAt]
          refine lp_startx (fun x g σ' => ∃ k : Nat, x = l.length - k ∧ k ≤ l.length ∧ g 0 = .lst (strEls l) ∧ g 1 = .str pat ∧ g 8 = .lst (strEls H) ∧ g 12 = f 12 ∧ g 13 = .int .i64 j ∧ g 16 = .ptr q 0 ∧ g 17 = .int .i64 k ∧ σ' = σ ++ [.var 53 [.str h, .bool bl, .bool ((l.take k).any (below h))]]) l.length ⟨0, by simp, by simp, by simp [f0], by simp [f1], by simp [f8'], by simp, by simp [f13], by simp [hqq], by simp, by simp⟩ ?_
          rintro x g σ' ⟨k, hxk, hk, g0, g1, g8, g12, g13, g16, g17, rfl⟩
          by_cases hlt3 : k < l.length
          · obtain ⟨y, hy⟩ : ∃ y, l[k]? = some y := ⟨_, List.getElem?_eq_getElem hlt3⟩
            have hsy : (strEls l)[k]? = some [.str y] := by simp [strEls, hy]
            obtain ⟨hy1, hy2⟩ := List.getElem?_eq_some_iff.1 hsy
            have hlt4 : (k : Int) < (l.length : Int) := by omega
            have hwk : IntKind.i64.wrap ((k : Int) + 1) = (k : Int) + 1 := wrap_i64 (by omega) (by omega)
            have hta := take_any hy (below h)
            have hyl := hq y (List.mem_of_getElem? hy)
            have hfin : ∀ (g' : Abs.Frame) (b : Bool), b = ((l.take k).any (below h) || below h y) → g' 0 = .lst (strEls l) → g' 1 = .str pat → g' 8 = .lst (strEls H) → g' 12 = f 12 → g' 13 = .int .i64 j → g' 16 = .ptr q 0 → g' 17 = .int .i64 ((k : Int) + 1) → ∃ k' : Nat, l.length - (k + 1) = l.length - k' ∧ k' ≤ l.length ∧ g' 0 = .lst (strEls l) ∧ g' 1 = .str pat ∧ g' 8 = .lst (strEls H) ∧ g' 12 = f 12 ∧ g' 13 = .int .i64 j ∧ g' 16 = .ptr q 0 ∧ g' 17 = .int .i64 k' ∧ (σ ++ [Entry.var 53 [.str h, .bool bl, .bool b]]) = σ ++ [.var 53 [.str h, .bool bl, .bool ((l.take k').any (below h))]] := by
              rintro g' b rfl k0 k1 k8 k12 k13 k16 k17
              exact ⟨k + 1, rfl, by omega, k0, k1, k8, k12, k13, k16, by simpa using k17, by rw [hta]⟩
            cases hb : (l.take k).any (below h) with
            | true =>
              rw [hb] at hfin
              simp [g0, g1, g8, g13, g16, g17, els_len, hlt3, hlt4, hsy, hy2, hlt2, hse, hx2, cellsAt, hqq, putAt, splice, hwk]
              refine nx_intro (l.length - (k + 1)) (by omega) (hfin _ true (by simp) (by simp [g0]) (by simp [g1]) (by simp [g8]) (by simp [g12]) (by simp [g13]) (by simp [g16]) (by simp))
            | false =>
              rw [hb] at hfin
              by_cases c1 : h.length < y.length
              · have c1' : (h.length : Int) < (y.length : Int) := by omega
                have c1l : h.length ≤ y.length := by omega
                by_cases c2 : y.take h.length = h
                · obtain ⟨c, hc⟩ : ∃ c, y[h.length]? = some c := ⟨_, List.getElem?_eq_getElem c1⟩
                  obtain ⟨_, hc2⟩ := List.getElem?_eq_some_iff.1 hc
                  by_cases c3 : c = 46
                  · have hbv : below h y = true := by simp [below, c1, c2, hc, hc2, c3]
                    simp [g0, g1, g8, g13, g16, g17, els_len, hlt3, hlt4, hsy, hy2, hlt2, hse, hx2, cellsAt, hqq, putAt, splice, hwk, c1, c1', c1l, c2, hc, hc2, c3]
                    refine nx_intro (l.length - (k + 1)) (by omega) (hfin _ true (by simp [hbv]) (by simp [g0]) (by simp [g1]) (by simp [g8]) (by simp [g12]) (by simp [g13]) (by simp [g16]) (by simp))
                  · have c3' : ¬ ((c.toNat : Int) = 46) := fun e => c3 (UInt8.toNat_inj.1 (show c.toNat = 46 by omega))
                    have hbv : below h y = false := by simp [below, c1, c2, hc, hc2, c3]
                    simp [g0, g1, g8, g13, g16, g17, els_len, hlt3, hlt4, hsy, hy2, hlt2, hse, hx2, cellsAt, hqq, putAt, splice, hwk, c1, c1', c1l, c2, hc, hc2, c3, c3']
                    refine nx_intro (l.length - (k + 1)) (by omega) (hfin _ false (by simp [hbv]) (by simp [g0]) (by simp [g1]) (by simp [g8]) (by simp [g12]) (by simp [g13]) (by simp [g16]) (by simp))
                · have hbv : below h y = false := by simp [below, c2]
                  simp [g0, g1, g8, g13, g16, g17, els_len, hlt3, hlt4, hsy, hy2, hlt2, hse, hx2, cellsAt, hqq, putAt, splice, hwk, c1, c1', c1l, c2]
                  refine nx_intro (l.length - (k + 1)) (by omega) (hfin _ false (by simp [hbv]) (by simp [g0]) (by simp [g1]) (by simp [g8]) (by simp [g12]) (by simp [g13]) (by simp [g16]) (by simp))
              · have c1' : ¬ (h.length : Int) < (y.length : Int) := by omega
                have hbv : below h y = false := by simp [below, c1]
                simp [g0, g1, g8, g13, g16, g17, els_len, hlt3, hlt4, hsy, hy2, hlt2, hse, hx2, cellsAt, hqq, putAt, splice, hwk, c1, c1']
                refine nx_intro (l.length - (k + 1)) (by omega) (hfin _ false (by simp [hbv]) (by simp [g0]) (by simp [g1]) (by simp [g8]) (by simp [g12]) (by simp [g13]) (by simp [g16]) (by simp))
          · have hlt4 : ¬ (k : Int) < (l.length : Int) := by omega
            have hfull : (l.take k).any (below h) = l.any (below h) := by rw [List.take_of_length_le (by omega)]
            rw [hfull]
            have hacc2 : AccI 53 3 (σ ++ [.var 53 [.str h, .bool bl, .bool (l.any (below h))]]) (f 12) (hitEls (((H.take j).filter m0).map (hitOf l))) := f12.keep fun i e he _ => get_app he
            simp [g0, g12, g16, g17, els_len, hlt3, hlt4, cellsAt, hqq, boxOp]
            refine ap_accI (bytes := 24) hacc2 [.str h, .bool bl, .bool (l.any (below h))] (by decide) rfl (by rw [hitEls_app1 _ (h, bl, l.any (below h))]; exact hitEls_pure _) (by rw [hitEls_len, List.length_map]; omega) (by rw [hitEls_len, List.length_map]; omega) fun v' σ' hv hk hs _ => ?_
            simp [g13, hwi]
            refine nx_intro (H.length - (j + 1)) (by omega) ⟨j + 1, rfl, by omega, by simp [g0], by simp [g1], by simp [g8]; exact Or.inl rfl, ?_, by simp⟩
            rw [htk, List.filter_append]
            rw [hitEls_app1 _ (h, bl, l.any (below h)), hbl] at hv
            simpa [hm, hitOf] using hv
      · have hjl : j = H.length := by omega
        subst hjl
        rw [List.take_length] at f12
        simp [f8, f13, hvw, els_len]
        rw [f12.finT]
        simp
end Go.Proofs.YtjpjmdjjgfllhaaGreatDoor
end
section
set_option maxHeartbeats 8000000
namespace Go.Proofs.YtjpjmdjjgfllhaaGreatDoor
open Go.Abs Go.Glob Go.Trail Go.Trie
variable {G : Globs}
/-- A trie that holds a list. -/
structure TAt (σ : Store) (id : Nat) (l : List Tx) (F : Fo) (fp : List Nat) : Prop where
  na : NA σ id [.int .i64 l.length] false F fp
  nd : fp.Nodup
  it : noItr σ = true
  hold : Holds l F
  few : l.length ≤ 64
theorem holds_short {l : List Tx} {F : Fo} (h : Holds l F) : ∀ q ∈ l, q.length ≤ 1000000 := fun q hq => by
  obtain ⟨ms, h1, _⟩ := h.mem.1 hq
  obtain ⟨g1, g2, g3, g4⟩ := path_props h1
  have := join_bound ms g4
  rw [g1] at this; omega
theorem hasT_mem {l : List Tx} {F : Fo} (h : Holds l F) (p : Tx) : hasT false F p = decide (p ∈ l) := by
  rw [Bool.eq_iff_iff, decide_eq_true_eq, h.mem]
  unfold hasT
  cases hp : path p with
  | none => simp
  | some ns => simp
theorem tinsL_ok {σ : Store} {id : Nat} {l : List Tx} {F : Fo} {fp : List Nat} (h : TAt σ id l F fp) (p : Tx) (hp : p.length ≤ 1000000000000000000) : ACalls Tryz.prog n_trie_Trie_Insert [.ptr id 0, .str p] σ (fun r σ' => r = .int .i64 (insP l p).2 ∧ ∃ F' fp', TAt σ' id (insP l p).1 F' fp' ∧ Kept σ σ' ∧ (∀ a, a < σ.length → a ∉ fp → σ'[a]? = σ[a]?) ∧ ∀ a ∈ fp', a ∈ fp ∨ σ.length ≤ a) := by
  refine (tins_ok h.na h.nd h.it p hp).mono ?_
  intro r σ' hR
  unfold InsR at hR
  have same : σ' = σ → ∃ F' fp', TAt σ' id l F' fp' ∧ Kept σ σ' ∧ (∀ a, a < σ.length → a ∉ fp → σ'[a]? = σ[a]?) ∧ ∀ a ∈ fp', a ∈ fp ∨ σ.length ≤ a := by
    rintro rfl
    exact ⟨F, fp, h, Kept.refl _, fun _ _ _ => rfl, fun _ h => .inl h⟩
  cases hpp : path p with
  | none =>
    rw [hpp] at hR
    have e : insP l p = (l, 13) := by simp [insP, hpp]
    rw [e]
    exact ⟨hR.1, same hR.2⟩
  | some ns =>
    rw [hpp] at hR
    simp only at hR
    have hm : p ∈ l ↔ hasN false F ns = true := by
      rw [h.hold.mem]
      constructor
      · rintro ⟨ms, h1, h2⟩
        rw [hpp] at h1; cases h1; exact h2
      · intro h2; exact ⟨ns, hpp, h2⟩
    by_cases hin : p ∈ l
    · rw [if_pos (hm.1 hin)] at hR
      have e : insP l p = (l, 5) := by simp [insP, hpp, hin]
      rw [e]
      exact ⟨hR.1, same hR.2⟩
    · rw [if_neg (fun h => hin (hm.2 h))] at hR
      by_cases h64 : 64 ≤ l.length
      · rw [if_pos h64] at hR
        have e : insP l p = (l, 11) := by simp [insP, hpp, hin, h64]
        rw [e]
        exact ⟨hR.1, same hR.2⟩
      · rw [if_neg h64] at hR
        have e : insP l p = (withP l p, 0) := by simp [insP, hpp, hin, h64]
        rw [e]
        obtain ⟨h1, fp', h2, h3, h4, h5, h6, h7⟩ := hR
        refine ⟨h1, _, fp', ⟨?_, h3, h4, holds_ins h.hold hpp hin, by rw [with_len]; omega⟩, h5, h6, h7⟩
        rw [with_len]; exact h2
theorem tdelL_ok {σ : Store} {id : Nat} {l : List Tx} {F : Fo} {fp : List Nat} (h : TAt σ id l F fp) (p : Tx) (hp : p.length ≤ 1000000000000000000) : ACalls Tryz.prog n_trie_Trie_Delete [.ptr id 0, .str p] σ (fun r σ' => r = .int .i64 (delP l p).2 ∧ ∃ F' fp', TAt σ' id (delP l p).1 F' fp' ∧ Kept σ σ' ∧ (∀ a, a < σ.length → a ∉ fp → σ'[a]? = σ[a]?) ∧ ∀ a ∈ fp', a ∈ fp ∨ σ.length ≤ a) := by
  refine (tdel_ok h.na h.nd h.it p hp (by have := h.few; omega)).mono ?_
  intro r σ' hR
  unfold DelR at hR
  have same : σ' = σ → ∃ F' fp', TAt σ' id l F' fp' ∧ Kept σ σ' ∧ (∀ a, a < σ.length → a ∉ fp → σ'[a]? = σ[a]?) ∧ ∀ a ∈ fp', a ∈ fp ∨ σ.length ≤ a := by
    rintro rfl
    exact ⟨F, fp, h, Kept.refl _, fun _ _ _ => rfl, fun _ h => .inl h⟩
  cases hpp : path p with
  | none =>
    rw [hpp] at hR
    have e : delP l p = (l, 13) := by simp [delP, hpp]
    rw [e]
    exact ⟨hR.1, same hR.2⟩
  | some ns =>
    rw [hpp] at hR
    simp only at hR
    have hm : p ∈ l ↔ hasN false F ns = true := by
      rw [h.hold.mem]
      constructor
      · rintro ⟨ms, h1, h2⟩
        rw [hpp] at h1; cases h1; exact h2
      · intro h2; exact ⟨ns, hpp, h2⟩
    by_cases hin : p ∈ l
    · rw [if_pos (hm.1 hin)] at hR
      have e : delP l p = (l.filter (· ≠ p), 0) := by simp [delP, hpp, hin]
      rw [e]
      obtain ⟨h1, fp', h2, h3, h4, h5, h6, h7, h8⟩ := hR
      have hlen := (perm_filter_ne (up_nodup h.hold.up) hin).length_eq
      simp only [List.length_cons] at hlen
      have hfew := h.few
      refine ⟨h1, _, fp', ⟨?_, h3, h4, holds_del h.hold hpp hin, (by show (l.filter (· ≠ p)).length ≤ 64; omega)⟩, h5, fun a _ ha => h7 a ha, fun a ha => .inl (h8 a ha)⟩
      have e2 : ((l.filter (· ≠ p)).length : Int) = (l.length : Int) - 1 := by omega
      show NA σ' id [.int .i64 ((l.filter (· ≠ p)).length : Int)] false _ fp'
      rw [e2]; exact h2
    · rw [if_neg (fun h => hin (hm.2 h))] at hR
      have e : delP l p = (l, 15) := by simp [delP, hpp, hin]
      rw [e]
      exact ⟨hR.1, same hR.2⟩
theorem tnewL {σ : Store} (hi : noItr σ = true) : TAt (σ ++ [.var 58 [.nilm, .bool false, .int .i64 0]]) σ.length [] .nil [σ.length] :=
  ⟨⟨_, .nilm, [], by simp; rfl, .inl ⟨rfl, rfl, rfl⟩, rfl⟩, by simp, noItr_app hi rfl, holds_nil, by simp⟩
/-- All paths inserted, up to the first one that is refused. -/
def insAll : List Tx → List Tx → List Tx × Nat
  | l, [] => (l, 0)
  | l, p :: ps => if (insP l p).2 = 0 then insAll (insP l p).1 ps else (l, (insP l p).2)
theorem insAll_take {l : List Tx} {i : Nat} {p : Tx} {paths : List Tx} (hp : paths[i]? = some p) (h0 : (insAll l (paths.take i)).2 = 0) : insAll l (paths.take (i + 1)) = if (insP (insAll l (paths.take i)).1 p).2 = 0 then ((insP (insAll l (paths.take i)).1 p).1, 0) else ((insAll l (paths.take i)).1, (insP (insAll l (paths.take i)).1 p).2) := by
  induction paths generalizing l i with
  | nil => simp at hp
  | cons q paths ih =>
    cases i with
    | zero =>
      simp at hp; subst hp
      simp [insAll]
    | succ i =>
      simp only [List.getElem?_cons_succ] at hp
      simp only [List.take_succ_cons, insAll] at h0 ⊢
      by_cases hq : (insP l q).2 = 0
      · simp only [hq, if_true] at h0 ⊢
        exact ih hp h0
      · simp only [hq, if_false] at h0
theorem insAll_stop {l : List Tx} {i : Nat} {paths : List Tx} (h0 : (insAll l (paths.take i)).2 ≠ 0) : insAll l paths = insAll l (paths.take i) := by
  induction paths generalizing l i with
  | nil => simp
  | cons q paths ih =>
    cases i with
    | zero => simp [insAll] at h0
    | succ i =>
      simp only [List.take_succ_cons, insAll] at h0 ⊢
      by_cases hq : (insP l q).2 = 0
      · simp only [hq, if_true] at h0 ⊢
        exact ih h0
      · simp only [hq, if_false]
/-- What Build leaves: the trie lies behind what was there. -/
def BuildR (σ : Store) (paths : List Tx) (r : AV) (σ' : Store) : Prop :=
  if (insAll [] paths).2 = 0 then ∃ id F fp, r = .tup [.ptr id 0, .int .i64 0] ∧ TAt σ' id (insAll [] paths).1 F fp ∧ Kept σ σ' ∧ (∀ a, a < σ.length → σ'[a]? = σ[a]?) ∧ ∀ a ∈ fp, σ.length ≤ a
  else r = .tup [.nilp, .int .i64 (insAll [] paths).2] ∧ σ' = σ
theorem pre_of {σ σ' : Store} (h : ∀ a, a < σ.length → σ'[a]? = σ[a]?) : σ' = σ ++ σ'.drop σ.length := by
  apply List.ext_getElem?
  intro i
  by_cases hi : i < σ.length
  · rw [List.getElem?_append_left hi]; exact h i hi
  · rw [List.getElem?_append_right (by omega), List.getElem?_drop]
    congr 1; omega
theorem tbuild_ok {σ : Store} (hi : noItr σ = true) (paths : List Tx) (hl : paths.length ≤ 1000000) (hq : ∀ (i : Nat) (q : Tx), paths[i]? = some q → (insAll [] (paths.take i)).2 = 0 → q.length ≤ 1000000000000000000) : ACalls Tryz.prog n_trie_Build [.lst (strEls paths)] σ (BuildR σ paths) := by
  refine acalls_of_awp_e hmix c_trie_Build rfl ?_
  simp [a_trie_Build]
  refine ac_eff tnew_ok ?_
  rintro r σ1 ⟨rfl, rfl⟩
  simp [els_len]
  refine lp_startx (fun x f σ' => ∃ (i : Nat) (F : Fo) (fp : List Nat), x = paths.length - i ∧ i ≤ paths.length ∧ f 4 = .ptr σ.length 0 ∧ f 9 = .lst (strEls paths) ∧ f 10 = .int .i64 paths.length ∧ f 11 = .int .i64 i ∧ (insAll [] (paths.take i)).2 = 0 ∧ TAt σ' σ.length (insAll [] (paths.take i)).1 F fp ∧ Kept σ σ' ∧ (∀ a, a < σ.length → σ'[a]? = σ[a]?) ∧ ∀ a ∈ fp, σ.length ≤ a) paths.length
    ⟨0, .nil, [σ.length], by simp, by simp, by simp, by simp, by simp, by simp, by simp [insAll], by simpa [insAll] using tnewL hi, (Kept.refl σ).app (by simp [Entry.under, AV.under]), fun a ha => app_off ha, by simp⟩ ?_
  rintro x f σ' ⟨i, F, fp, hx, hil, f4, f9, f10, f11, h0, hT, hk, hoff, hfp⟩
  by_cases hlt : i < paths.length
  · obtain ⟨p, hp⟩ : ∃ p, paths[i]? = some p := ⟨_, List.getElem?_eq_getElem hlt⟩
    have hse : (strEls paths)[i]? = some [.str p] := by simp [strEls, hp]
    obtain ⟨hx1, hx2⟩ := List.getElem?_eq_some_iff.1 hse
    have hlt' : (i : Int) < (paths.length : Int) := by omega
    have hwi : IntKind.i64.wrap ((i : Int) + 1) = (i : Int) + 1 := wrap_i64 (by omega) (by omega)
    have htk := insAll_take hp h0
    simp [f4, f9, f10, f11, els_len, hlt, hlt', hse, hx2]
    refine ac_eff (tinsL_ok hT p (hq i p hp h0)) ?_
    rintro r σ2 ⟨rfl, F2, fp2, hT2, hk2, hoff2, hfp2⟩
    have hoff3 : ∀ a, a < σ.length → σ2[a]? = σ[a]? := fun a ha => (hoff2 a (Nat.lt_of_lt_of_le ha hk.len) (fun hx => by have := hfp a hx; omega)).trans (hoff a ha)
    by_cases he : (insP (insAll [] (paths.take i)).1 p).2 = 0
    · rw [if_pos he] at htk
      simp [he, f11, hwi]
      refine nx_intro (paths.length - (i + 1)) (by omega) ⟨i + 1, F2, fp2, rfl, by omega, by simp [f4], by simp [f9], by simp [f10], by simp, by rw [htk], by rw [htk]; exact hT2, hk.trans hk2, hoff3, fun a ha => (hfp2 a ha).elim (hfp a) (fun h => Nat.le_trans hk.len h)⟩
    · rw [if_neg he] at htk
      have hst : insAll [] paths = insAll [] (paths.take (i + 1)) := insAll_stop (by rw [htk]; exact he)
      rw [htk] at hst
      have he' : ¬ (((insP (insAll [] (paths.take i)).1 p).2 : Nat) : Int) = 0 := by omega
      simp [he, he']
      refine er_intro σ (.tup [.nilp, .int .i64 (insP (insAll [] (paths.take i)).1 p).2]) (by simp [retAt, evalRes, tupOf]) _ (pre_of hoff3) rfl (fun _ _ h => .inl h) ?_
      unfold BuildR
      rw [hst, if_neg he]
      exact ⟨rfl, rfl⟩
  · have hlt' : ¬ (i : Int) < (paths.length : Int) := by omega
    rw [List.take_of_length_le (by omega)] at h0 hT
    simp [f4, f10, f11, hlt, hlt']
    have hlen := hk.len
    have hidl : σ.length < σ'.length := by
      have := hT.na.lt σ.length (by obtain ⟨_, _, _, _, _, rfl⟩ := hT.na; simp)
      exact this
    refine er_keep σ' (.tup [.ptr σ.length 0, .int .i64 0]) (by simp [evalRes, tupOf, f4]) [] (by simp) hlen (by simp [AV.under, hidl]) hk.und ?_
    unfold BuildR
    rw [if_pos h0]
    exact ⟨σ.length, F, fp, rfl, hT, hk, hoff, hfp⟩
/-- A trie tells what a list does. -/
theorem same_ok {σ : Store} {id : Nat} {l : List Tx} {F : Fo} {fp : List Nat} {V : AV} (h : TAt σ id l F fp) (hV : LV V l) (pat : Tx) (hp : pat.length ≤ 1000000) : ACalls Tryz.prog n_isobarlaw17_same [.ptr id 0, V, .str pat] σ (fun r σ' => r = .bool true ∧ σ' = σ) := by
  refine acalls_of_awp_e hmix c_isobarlaw17_same rfl ?_
  have hfew := h.few
  have hshort := holds_short h.hold
  simp [a_isobarlaw17_same]
  refine ac_eff (tfindP_ok h.na h.hold (by omega) pat hp) ?_
  rintro r σ1 ⟨rfl, rfl⟩
  have hcoe : ∀ {σ : Store} (s : Tx), CoeL σ false [V, .str s] [.lst (strEls l), .str s] := fun s => .cons (hV.coe false) (.cons (.pure _ (by simp [AV.pure])) .nil)
  have hFp : ∃ A e, findR pat l = .tup [.lst (strEls A), .int .i64 (e : Nat)] ∧ A.length ≤ 1000 := by
    unfold findR
    cases nodes pat with
    | error e => exact ⟨[], e, rfl, by simp⟩
    | ok ps => exact ⟨_, 0, rfl, Nat.le_trans (List.length_filter_le _ _) (by omega)⟩
  obtain ⟨A, e, hA, hAl⟩ := hFp
  have hNp : ∃ B e, nodesR pat l = .tup [.lst (hitEls B), .int .i64 (e : Nat)] ∧ B.length ≤ 1000 := by
    unfold nodesR
    cases nodes pat with
    | error e => exact ⟨[], e, rfl, by simp⟩
    | ok ps => exact ⟨_, 0, rfl, Nat.le_trans (nodesP_len _ _) (by omega)⟩
  obtain ⟨B, e2, hB, hBl⟩ := hNp
  rw [hA]
  simp
  refine ac_pure (r17find_ok l pat (by omega) hp hshort) (hcoe pat) ?_
  rintro r rfl
  rw [hA]
  simp
  refine ac_eff (tnodes_ok h.na h.hold (by omega) pat hp) ?_
  rintro r σ2 ⟨rfl, rfl⟩
  rw [hB]
  simp
  refine ac_pure (r17nodes_ok l pat (by omega) hp hshort) (hcoe pat) ?_
  rintro r rfl
  rw [hB]
  simp
  refine ac_eff (tpaths_ok h.na h.hold (by omega)) ?_
  rintro r σ3 ⟨rfl, rfl⟩
  simp
  refine ac_pure (texts_ok l l (by omega)) (.cons (.pure _ (by simp [AV.pure])) (.cons (hV.coe false) .nil)) ?_
  rintro r rfl
  simp
  refine ac_eff (tlen_ok h.na) ?_
  rintro r σ4 ⟨rfl, rfl⟩
  have hvw := hV.view (σ := σ4)
  simp [hvw, els_len]
  refine ac_same (texts_ok A A (by omega)) (by simp) ?_
  rintro r rfl
  simp
  refine ac_same (samehits_ok B B (by omega)) (by simp) ?_
  rintro r rfl
  simp
  exact er_intro σ4 (.bool true) (by simp [retAt, evalRes, tupOf]) [] (by simp) rfl (fun _ _ h => .inl h) ⟨rfl, rfl⟩
end Go.Proofs.YtjpjmdjjgfllhaaGreatDoor
end
section
set_option maxHeartbeats 8000000
namespace Go.Proofs.YtjpjmdjjgfllhaaGreatDoor
open Go.Abs Go.Glob Go.Trail Go.Trie
variable {G : Globs}
def pAB : Tx := [97, 46, 98]
def pAC : Tx := [97, 46, 99]
def pACD : Tx := [97, 46, 99, 46, 100]
def pStar : Tx := [97, 46, 42]
theorem alive_ins : insAll [] [pAB, pACD, pAC] = ([pAB, pAC, pACD], 0) := by kernel_rfl
theorem alive_find : findR pStar [pAB, pAC, pACD] = .tup [.lst (strEls [pAB, pAC]), .int .i64 0] := by kernel_rfl
theorem alive_nodes : nodesR pStar [pAB, pAC, pACD] = .tup [.lst (hitEls [(pAB, true, false), (pAC, true, true)]), .int .i64 0] := by kernel_rfl
theorem alive17_ok : PCalls Tryz.prog n_isobarlaw17_alive [] (fun r => r = .bool true) := by
  refine pcalls_of_awp hmix c_isobarlaw17_alive rfl ?_
  simp [a_isobarlaw17_alive]
  refine ac_eff (tbuild_ok (σ := []) rfl [pAB, pACD, pAC] (by simp) (fun i q hq _ => by have hq := List.mem_of_getElem? hq; simp at hq; rcases hq with rfl | rfl | rfl <;> simp [pAB, pACD, pAC])) ?_
  intro r σ1 hR
  unfold BuildR at hR
  rw [alive_ins, if_pos rfl] at hR
  obtain ⟨id, F, fp, rfl, hT, -, -, -⟩ := hR
  simp
  refine ac_eff (tfindP_ok hT.na hT.hold (by simp) pStar (by simp [pStar])) ?_
  rintro r σ2 ⟨rfl, rfl⟩
  rw [alive_find]
  simp
  refine ac_eff (tnodes_ok hT.na hT.hold (by simp) pStar (by simp [pStar])) ?_
  rintro r σ3 ⟨rfl, rfl⟩
  rw [alive_nodes]
  simp
  refine ac_same (texts_ok [pAB, pAC] [pAB, pAC] (by simp)) (by simp) ?_
  rintro r rfl
  simp [lay, splice]
  refine ac_same (samehits_ok [(pAB, true, false), (pAC, true, true)] [(pAB, true, false), (pAC, true, true)] (by simp)) (by simp) ?_
  rintro r rfl
  simp
end Go.Proofs.YtjpjmdjjgfllhaaGreatDoor
end
section
set_option maxHeartbeats 8000000
namespace Go.Proofs.YtjpjmdjjgfllhaaGreatDoor
open Go.Abs Go.Glob Go.Trail Go.Trie
variable {G : Globs}
abbrev Act := Bool × Tx
def actEls (l : List Act) : List (List AV) := l.map fun a => [.bool a.1, .str a.2]
theorem actEls_len (l : List Act) : (actEls l).length = l.length := by simp [actEls]
theorem great17_ok (l : List Act) (hl : l.length ≤ 9223372036854775807) : PCalls Tryz.prog n_isobarlaw17_great [.lst (actEls l)] (fun r => ∃ b, r = .bool b ∧ (b = false → l.length ≤ 200 ∧ ∀ a ∈ l, a.2.length ≤ 8000)) := by
  refine pcalls_of_awp hmix c_isobarlaw17_great rfl ?_
  simp [a_isobarlaw17_great]
  refine lp_startx (fun x f σ => ∃ (i n : Nat), x = l.length - i ∧ i ≤ l.length ∧ n ≤ 20000 ∧ (∀ a ∈ l.take i, min a.2.length 10000 ≤ n) ∧ f 0 = .lst (actEls l) ∧ f 3 = .int .i64 n ∧ f 4 = .int .i64 i ∧ σ = []) l.length ⟨0, 0, by simp, by simp, by simp, by simp, by simp, by simp, by simp, rfl⟩ ?_
  rintro x f σ ⟨i, n, hx, hi, hn, hall, f0, f3, f4, rfl⟩
  by_cases hgo : i < l.length ∧ n ≤ 8000
  · obtain ⟨hlt, hn8⟩ := hgo
    obtain ⟨a, ha⟩ : ∃ a, l[i]? = some a := ⟨_, List.getElem?_eq_getElem hlt⟩
    have hse : (actEls l)[i]? = some [.bool a.1, .str a.2] := by simp [actEls, ha]
    obtain ⟨hx1, hx2⟩ := List.getElem?_eq_some_iff.1 hse
    have hlt' : (i : Int) < (l.length : Int) := by omega
    have hn8' : (n : Int) ≤ 8000 := by omega
    have hwi : IntKind.i64.wrap ((i : Int) + 1) = (i : Int) + 1 := wrap_i64 (by omega) (by omega)
    obtain ⟨c, hc⟩ : ∃ c : Nat, c = min a.2.length 10000 := ⟨_, rfl⟩
    have hc2 : c ≤ 10000 := by omega
    have hmin : (if (10000 : Int) < (a.2.length : Int) then (10000 : Int) else (a.2.length : Int)) = (c : Int) := by split <;> omega
    have hw1 : IntKind.i64.wrap (1 + (c : Int)) = 1 + (c : Int) := wrap_i64 (by omega) (by omega)
    have hw2 : IntKind.i64.wrap ((n : Int) + (1 + (c : Int))) = ((n + (1 + c) : Nat) : Int) := by rw [wrap_i64 (by omega) (by omega)]; omega
    simp [f0, f3, f4, actEls_len, hlt, hlt', hn8, hn8', hse, hx2, hmin, hw1, hw2, hwi]
    refine nx_intro (l.length - (i + 1)) (by omega) ⟨i + 1, n + (1 + c), rfl, by omega, by omega, ?_, by simp [f0], by simp, by simp, rfl⟩
    intro y hy
    rw [List.take_add_one, ha] at hy
    simp only [Option.toList_some, List.mem_append, List.mem_singleton] at hy
    rcases hy with hy | rfl
    · have := hall y hy; omega
    · omega
  · by_cases hn8 : 8000 < n
    · have hn8' : (8000 : Int) < (n : Int) := by omega
      have hn9 : ¬ (n : Int) ≤ 8000 := by omega
      have hn9' : ¬ n ≤ 8000 := by omega
      by_cases hlt : i < l.length
      · have hlt' : (i : Int) < (l.length : Int) := by omega
        simp [f0, f3, f4, actEls_len, hlt, hlt', hn8, hn8', hn9, hn9']
      · have hlt' : ¬ (i : Int) < (l.length : Int) := by omega
        simp [f0, f3, f4, actEls_len, hlt, hlt', hn8, hn8', hn9, hn9']
    · have hn8' : ¬ (8000 : Int) < (n : Int) := by omega
      have hlt : ¬ i < l.length := fun h => hgo ⟨h, by omega⟩
      have hlt' : ¬ (i : Int) < (l.length : Int) := by omega
      rw [List.take_of_length_le (by omega)] at hall
      have hsm : ∀ a ∈ l, a.2.length ≤ 8000 := fun a ha => by have := hall a ha; omega
      by_cases h2 : 200 < l.length
      · have h2' : (200 : Int) < (l.length : Int) := by omega
        simp [f0, f3, f4, actEls_len, hlt, hlt', hn8, hn8', h2, h2']
      · have h2' : ¬ (200 : Int) < (l.length : Int) := by omega
        simp [f0, f3, f4, actEls_len, hlt, hlt', hn8, hn8', h2, h2']
        exact ⟨by omega, fun b h => hsm (false, b) h, fun b h => hsm (true, b) h⟩
theorem plays_law (l : List Act) (pat pth : Tx) (hl : l.length ≤ 9223372036854775807) (hp : pth.length ≤ 1000000000000000000) : PCalls Tryz.prog n_isobarlaw17_TriePlays [.lst (actEls l), .str pat, .str pth] (fun r => r = .bool true) := by
  refine pcalls_of_awp hmix c_isobarlaw17_TriePlays rfl ?_
  simp [a_isobarlaw17_TriePlays]
  refine ac_same alive17_ok (by simp) ?_
  rintro r rfl
  simp
  refine ac_same (great17_ok l hl) (by simp) ?_
  rintro r ⟨b, rfl, hb⟩
  cases b with
  | true => simp
  | false =>
    obtain ⟨h200, hq8⟩ := hb rfl
    by_cases h1 : 2000 < pat.length
    · have h1' : (2000 : Int) < (pat.length : Int) := by omega
      simp [h1, h1']
    have h1' : ¬ (2000 : Int) < (pat.length : Int) := by omega
    simp [h1, h1']
    refine ac_eff tnew_ok ?_
    rintro r σ1 ⟨rfl, rfl⟩
    simp
    refine lp_startx (fun x f σ => ∃ (i : Nat) (m : List Tx) (F : Fo) (fp : List Nat), x = l.length - i ∧ i ≤ l.length ∧ f 0 = .lst (actEls l) ∧ f 1 = .str pat ∧ f 2 = .str pth ∧ f 7 = .ptr 0 0 ∧ LV (f 8) m ∧ f 9 = .int .i64 i ∧ TAt σ 0 m F fp) l.length ⟨0, [], .nil, [0], by simp, by simp, by simp, by simp, by simp, by simp, .inr ⟨by simp, rfl⟩, by simp, by simpa using tnewL (σ := []) rfl⟩ ?_
    rintro x f σ ⟨i, m, F, fp, hx, hi, f0, f1, f2, f7, f8, f9, hT⟩
    have hfew := hT.few
    by_cases hlt : i < l.length
    · obtain ⟨a, ha⟩ : ∃ a, l[i]? = some a := ⟨_, List.getElem?_eq_getElem hlt⟩
      have hse : (actEls l)[i]? = some [.bool a.1, .str a.2] := by simp [actEls, ha]
      obtain ⟨hx1, hx2⟩ := List.getElem?_eq_some_iff.1 hse
      have hlt' : (i : Int) < (l.length : Int) := by omega
      have hwi : IntKind.i64.wrap ((i : Int) + 1) = (i : Int) + 1 := wrap_i64 (by omega) (by omega)
      have hal := hq8 a (List.mem_of_getElem? ha)
      cases hd : a.1 with
      | true =>
        rw [hd] at hse hx2
        simp [f0, f7, f9, actEls_len, hlt, hlt', hse, hx2]
        refine ac_eff (tdelL_ok hT a.2 (by omega)) ?_
        rintro r σ2 ⟨rfl, F2, fp2, hT2, -⟩
        simp [f0, f9, hse, hx2, hlt, actEls_len]
        refine ac_pure (r17delete_ok m a.2 (by omega) (by omega)) (.cons (f8.coe false) (.cons (.pure _ (by simp [AV.pure])) .nil)) ?_
        rintro r rfl
        simp [f9, hwi]
        refine nx_intro (l.length - (i + 1)) (by omega) ⟨i + 1, _, F2, fp2, rfl, by omega, by simp [f0], by simp [f1], by simp [f2], by simp [f7], .inl (by simp), by simp, hT2⟩
      | false =>
        rw [hd] at hse hx2
        simp [f0, f7, f9, actEls_len, hlt, hlt', hse, hx2]
        refine ac_eff (tinsL_ok hT a.2 (by omega)) ?_
        rintro r σ2 ⟨rfl, F2, fp2, hT2, -⟩
        simp [f0, f9, hse, hx2, hlt, actEls_len]
        refine ac_pure (r17insert_ok m a.2 (by omega) (by omega)) (.cons (f8.coe false) (.cons (.pure _ (by simp [AV.pure])) .nil)) ?_
        rintro r rfl
        simp [f9, hwi]
        refine nx_intro (l.length - (i + 1)) (by omega) ⟨i + 1, _, F2, fp2, rfl, by omega, by simp [f0], by simp [f1], by simp [f2], by simp [f7], .inl (by simp), by simp, hT2⟩
    · have hlt' : ¬ (i : Int) < (l.length : Int) := by omega
      simp [f0, f1, f7, f9, actEls_len, hlt, hlt']
      refine ac_eff (same_ok hT f8 pat (by omega)) ?_
      rintro r σ2 ⟨rfl, rfl⟩
      simp [f2, f7]
      refine ac_eff (thas_ok hT.na pth hp) ?_
      rintro r σ3 ⟨rfl, rfl⟩
      simp [f2]
      refine ac_pure (r17has_ok m pth (by omega)) (.cons (f8.coe false) (.cons (.pure _ (by simp [AV.pure])) .nil)) ?_
      rintro r rfl
      rw [hasT_mem hT.hold]
      simp
end Go.Proofs.YtjpjmdjjgfllhaaGreatDoor
end
section
namespace Go.Abs
open Go.RowKit
def noKey : Key := fun _ _ => none
/-- The cells of the package's variables. -/
def gIm [Globs] : Addr → Prop := fun a => a.spot = none ∧ ∃ p ∈ Globs.tab, a.block = p.1
/-- The package's variables hold what the table says. -/
def GlobsIn [Globs] (w : World) : Prop := GOK w.heap.size gIm w
end Go.Abs
end
section
namespace Go.Abs
open Go.RowKit
/-- The cells that were there ahead of the call. -/
def oldIm (w : World) : Addr → Prop := fun a => a.spot = none ∧ a.block < w.heap.size
theorem law_calls_old {G : Globs} {P : Program} {f : FuncId} {args : List AV} {vs : List Value} {w : World} (h : PCalls P f args (fun r => r = .bool true)) (hg : GlobsIn w) (hv : IRL (oldIm w) w args vs) : Calls P f vs.toArray w fun e w' => e = .returned (.bool true) ∧ Below w.heap.size w w' := by
  have hG : GOK w.heap.size (oldIm w) w := fun p hp => by
    obtain ⟨h1, h2, h3⟩ := hg p hp
    refine ⟨h1, h2, h3.mono (fun a ha => ?_) (fun _ _ => rfl)⟩
    obtain ⟨ha1, q, hq, ha2⟩ := ha
    exact ⟨ha1, by rw [ha2]; exact (hg q hq).1⟩
  have hS : SRel w.heap.size noKey (oldIm w) [] w := ⟨Nat.le_refl _, fun id n v h => by simp [noKey] at h, fun id e h => by simp at h, fun i j e e' b _ h => by simp at h, fun a h => ⟨h.2, h.1⟩, hG⟩
  refine (h w.heap.size noKey (oldIm w) w vs hS ⟨hv.1, fun j h h' => .im _ _ (hv.2 j h h')⟩).mono ?_
  rintro e w' ⟨r, σ', v, κ', Im', rfl, ⟨_, rfl⟩, _, hg, hr⟩
  exact ⟨by rw [hr.bool_inv], hg.below⟩
theorem iro_nil {Im : Addr → Prop} (w : World) : IRL Im w [] [] := ⟨rfl, fun j h => by simp at h⟩
theorem iro_cons {Im : Addr → Prop} {w : World} {a : AV} {v : Value} {l : List AV} {vs : List Value} (h : IR Im w a v) (hl : IRL Im w l vs) : IRL Im w (a :: l) (v :: vs) := by
  refine ⟨by simp [hl.1], fun j hj hj' => ?_⟩
  cases j with
  | zero => exact h
  | succ j => exact hl.2 j (by simpa using hj) (by simpa using hj')
end Go.Abs
namespace Go.Proofs.YtjpjmdjjgfllhaaGreatDoor
open Go.ChangeShapes Go.WideShapes Go.ChangeAt Go.RowKit Go.ChangeMaps Go.Abs Go.Trie
theorem ir_bytes4 {Im : Addr → Prop} {w : World} (s : ByteArray) : IR Im w (.str s.data.toList) (.string s) := by
  have : (.string s : Value) = .string ⟨s.data.toList.toArray⟩ := by cases s; simp
  rw [this]; exact .str _
section
variable {H : Type} {enc : TypeId × Value → H} {w : World} {base : Nat} {spare : Nat → Bool} {held : Bool}
theorem str_sizeT : Tryz.prog.cellsOf 9 = 1 := by kernel_rfl
theorem bool_sizeT : Tryz.prog.cellsOf 4 = 1 := by kernel_rfl
theorem hold_of {b x : Nat} {v : Value} (h : w.cell? ⟨b, x, none⟩ = some v) : oldIm w ⟨b, x, none⟩ := by
  refine ⟨rfl, ?_⟩
  rcases Nat.lt_or_ge b w.heap.size with h' | h'
  · exact h'
  · simp [World.cell?, Array.getElem?_eq_none h'] at h
theorem act_size : Tryz.prog.cellsOf 43 = 2 := by kernel_rfl
set_option maxRecDepth 100000 in
theorem act_cells {n : Nat} {cs : List Value} {y : DataW H × List MemPlace} (hf : DataW.trod enc Tryz.prog w base spare held n 43 cs = some y) : ∃ (b : Bool) (s : ByteArray), cs = [.bool b, .string s] := by
  obtain ⟨xs, n, rfl, hx, hl, hxl, hall⟩ := DataW.trod_struct Tryz.underlying43 hf
  have hx2 : xs.length = 2 := hxl
  obtain ⟨x0, x1, rfl⟩ : ∃ x0 x1, xs = [x0, x1] := by
    match xs, hx2 with
    | [a, b], _ => exact ⟨a, b, rfl⟩
  have hl2 : cs.length = 2 := by rw [hl, act_size]
  obtain ⟨c0, c1, rfl⟩ : ∃ c0 c1, cs = [c0, c1] := by
    match cs, hl2 with
    | [a, b], _ => exact ⟨a, b, rfl⟩
  have h0 : DataW.trod enc Tryz.prog w base spare held n 4 [c0] = some x0 := by simpa [bool_sizeT, Value.cells] using hall 0 _ rfl
  have h1 : DataW.trod enc Tryz.prog w base spare held n 9 [c1] = some x1 := by simpa [str_sizeT, Value.cells] using hall 1 _ rfl
  obtain ⟨b, e0, _⟩ := DataW.trod_bool Tryz.underlying4 h0
  obtain ⟨m, e1, _, hw⟩ := DataW.trod_string Tryz.underlying9 h1
  simp only [List.cons.injEq, and_true] at e0 e1
  subst e0 e1
  exact ⟨b, m, rfl⟩
def cellBA (w : World) (a : Addr) : Bool := match w.cell? a with | some (.bool b) => b | _ => false
def cellSA (w : World) (a : Addr) : ByteArray := match w.cell? a with | some (.string s) => s | _ => ByteArray.empty
set_option maxRecDepth 100000 in
theorem open_acts {r : Reach} {b0 : Nat} {v : Value} {d : DataW H} {ps : List MemPlace} (hval : Value.okWide Tryz.prog w r b0 40 v) (hd : DataW.Trod enc Tryz.prog w base spare held 40 v d ps) :
    ∃ l : List (Bool × List UInt8), l.length ≤ 9223372036854775807 ∧ IR (oldIm w) w (.lst (actEls l)) v := by
  obtain ⟨fuel, hf⟩ := hd
  obtain ⟨a0, len, cap, rfl⟩ := okWide_slice Tryz.underlying40 hval
  rcases DataW.trod_slice Tryz.underlying40 hf with ⟨hcs, hx⟩ | ⟨a, len', cap', elems, rest, n, _, hcs, hx, hb, hl, hm, hlen, hel, _⟩
  · simp [Value.cells] at hcs
    obtain ⟨rfl, rfl, rfl⟩ := hcs
    exact ⟨[], by simp, .lnil none⟩
  · simp [Value.cells] at hcs
    obtain ⟨rfl, rfl, rfl⟩ := hcs
    have hspot : a.spot = none := by
      simp only [Value.okWide, Tryz.underlying40, Cell.okWide, Cell.ok, World.has] at hval
      exact hval.2.2.2.1
    obtain ⟨b, o, sp⟩ := a
    simp only at hspot
    subst hspot
    rw [act_size] at hel
    have each : ∀ i, i < len → w.cell? ⟨b, o + (i * 2 + 0), none⟩ = some (.bool (cellBA w ⟨b, o + (i * 2 + 0), none⟩)) ∧ w.cell? ⟨b, o + (i * 2 + 1), none⟩ = some (.string (cellSA w ⟨b, o + (i * 2 + 1), none⟩)) := by
      intro i hi
      have h1 := hel i hi
      obtain ⟨y, hy⟩ : ∃ y, elems[i]? = some y := ⟨_, List.getElem?_eq_getElem (by omega)⟩
      rw [hy, Option.bind_eq_some_iff] at h1
      obtain ⟨cs, hc1, hc2⟩ := h1
      obtain ⟨bb, m, rfl⟩ := act_cells hc2
      unfold World.cells? at hc1
      split at hc1
      · obtain ⟨y0, g0, g0'⟩ : ∃ y0, some (Value.bool bb) = some y0 ∧ w.cell? ((Addr.add ⟨b, o, none⟩ (i * 2)).add 0) = some y0 := by
          have := Lib.mapM_at hc1 0 0 (by simp)
          simpa using this
        obtain ⟨y1, g1, g1'⟩ : ∃ y1, some (Value.string m) = some y1 ∧ w.cell? ((Addr.add ⟨b, o, none⟩ (i * 2)).add 1) = some y1 := by
          have := Lib.mapM_at hc1 1 1 (by simp)
          simpa using this
        cases g0; cases g1
        have aa : ∀ x y : Nat, Addr.add ⟨b, x, none⟩ y = ⟨b, x + y, none⟩ := fun x y => by unfold Addr.add; split <;> simp_all
        have a0 : (Addr.add ⟨b, o, none⟩ (i * 2)).add 0 = ⟨b, o + (i * 2 + 0), none⟩ := by rw [aa, aa, Nat.add_assoc]
        have a1 : (Addr.add ⟨b, o, none⟩ (i * 2)).add 1 = ⟨b, o + (i * 2 + 1), none⟩ := by rw [aa, aa, Nat.add_assoc]
        rw [a0] at g0'
        rw [a1] at g1'
        have c0 : cellBA w ⟨b, o + (i * 2 + 0), none⟩ = bb := by unfold cellBA; rw [g0']
        have c1 : cellSA w ⟨b, o + (i * 2 + 1), none⟩ = m := by unfold cellSA; rw [g1']
        rw [c0, c1]
        exact ⟨g0', g1'⟩
      · cases hc1
    refine ⟨(List.range len).map fun i => (cellBA w ⟨b, o + (i * 2 + 0), none⟩, (cellSA w ⟨b, o + (i * 2 + 1), none⟩).data.toList), ?_, ?_⟩
    · have : cap ≤ 9223372036854775807 := hm
      simp; omega
    · have hnl : (actEls ((List.range len).map fun i => (cellBA w ⟨b, o + (i * 2 + 0), none⟩, (cellSA w ⟨b, o + (i * 2 + 1), none⟩).data.toList))).length = len := by simp [actEls]
      have := IR.lst (Im := oldIm w) (w := w) (actEls ((List.range len).map fun i => (cellBA w ⟨b, o + (i * 2 + 0), none⟩, (cellSA w ⟨b, o + (i * 2 + 1), none⟩).data.toList))) 2 b o cap
        (fun i j => if j = 0 then .bool (cellBA w ⟨b, o + (i * 2 + 0), none⟩) else .string (cellSA w ⟨b, o + (i * 2 + 1), none⟩)) (by rw [hnl]; exact hl) hm
        (fun c hc => by
          simp only [actEls, List.mem_map] at hc
          obtain ⟨x, _, rfl⟩ := hc
          rfl)
        (fun c hc x hx => by
          simp only [actEls, List.mem_map] at hc
          obtain ⟨y, _, rfl⟩ := hc
          simp at hx
          rcases hx with rfl | rfl <;> rfl)
        (fun k j hk hj => by
          rw [hnl] at hk
          obtain ⟨e0, e1⟩ := each k hk
          match j, hj with
          | 0, _ => exact ⟨hold_of e0, e0⟩
          | 1, _ => exact ⟨hold_of e1, e1⟩)
        (fun k j hk hj => by
          have hj2 : j < 2 := by simpa [actEls] using hj
          match j, hj2 with
          | 0, _ => simp [actEls]; exact .bool _
          | 1, _ => simp [actEls]; exact ir_bytes4 _)
      rw [hnl] at this
      exact this
end
/-- No package variable is looked at. -/
instance noGlobs : Globs := ⟨[]⟩
theorem no_globs (w : World) : GlobsIn w := fun p hp => by cases hp
end Go.Proofs.YtjpjmdjjgfllhaaGreatDoor
end
section
namespace Go
section
variable {H : Type} {enc : TypeId × Value → H}
/-- .. and how great what was handed in is. -/
theorem returns_shaped_sz {a : Assume} {C : Checked} {os : Os} {f : FuncId} {fn : Func} {s : ChangeSpec} {conds : List PathCond} {apart fresh handsOn again : Bool} {X : World → Array Value → Prop}
    (hX : ∀ (w w' : World) (args : Array Value), w.heap = w'.heap → X w args → X w' args) (own : ownKnob C.prog.godebug = none) (started : os.Started) (noInit : C.prog.inits.idxOf? f = none) (hfn : C.prog.funcs[f]? = some fn)
    (witness : ∃ (w : World) (tape : Tape) (i : Input), w.os = os ∧ (w.forCall tape i).Shaped C.prog ∧ i.vars = [] ∧ Input.okWide C.prog (w.forCall tape i) .any w.heap.size f i ∧
      ((s.pre enc C.prog fn conds apart (w.forCall tape i).memory i.args ∧ X (w.forCall tape i).memory i.args) ∧ sizedMet enc C.prog fn (OpenSpec.ofChange s) apart (w.forCall tape i).memory i.args) ∧ a.holds C.prog (lone (Frame.enter C.prog f i.args .normal) [] (w.forCall tape i)))
    (body : ∀ (W : World) (base : Nat) (args : Array Value) (ds gs : List (DataW H)) (before : List MemPlace), W.ShapedOpen C.prog → (∀ (j : Nat) t v, fn.params[j]? = some t → args[j]? = some v → Value.okWide C.prog W .any base t v) →
      DataW.Whole enc C.prog fn.params.toList s.vars apart W args.toList ds gs before → X W args → (DataW.weightsEach C.prog (fn.params.toList ++ (OpenSpec.ofChange s).bare.plain.varTypes C.prog) (ds ++ gs)).all (· ≤ reachBytes) = true → Calls C.prog f args W fun e W' => ∃ v, e = .returned v ∧ s.post enc C.prog fn apart fresh handsOn again W args v W') :
    ReturnsInHanded a C os f .any (fun w args => (s.pre enc C.prog fn conds apart w args ∧ X w args) ∧ sizedMet enc C.prog fn (OpenSpec.ofChange s) apart w args) (s.post enc C.prog fn apart fresh handsOn again) := by
  apply returnsInHanded_of_calls own started noInit witness
  rintro w tape i - hshape - ⟨-, -, -, g, hg, -, -, -, -, hval⟩ ⟨⟨⟨ds, gs, before, hw, -⟩, hx⟩, hz⟩ -
  cases Option.some.inj (hg.symm.trans hfn)
  apply (body (w.forCall tape i) w.heap.size i.args ds gs before hshape hval (DataW.Whole.of_heap (by rfl) hw) (hX _ _ _ (by rfl) hx) (hz.weights hw)).mono
  rintro e W' ⟨v, rfl, hp⟩
  exact ChangeSpec.post_blind hp
end
end Go
end
section
namespace Go
section
variable {H : Type} {enc : TypeId × Value → H}
theorem witness_zip {C : Checked} {os : Os} {f : FuncId} {fn : Func} {s : ChangeSpec} {conds : List PathCond} {apart : Bool} {X : World → Array Value → Prop} (w0 : World) (args : Array Value) (fuel : Nat) (hos : w0.os = os)
    (hv : (w0.forCall (fun _ _ => 0) ⟨#[], args, []⟩).variablesZipB C.prog = true)
    (hr : ((w0.forCall (fun _ _ => 0) ⟨#[], args, []⟩).heap.toList.drop C.prog.globals.size).take ((begin C.prog (fun _ _ => 0) default).world.heap.size - C.prog.globals.size) = (begin C.prog (fun _ _ => 0) default).world.heap.toList.drop C.prog.globals.size)
    (hok : Input.okWideB C.prog (w0.forCall (fun _ _ => 0) ⟨#[], args, []⟩) f ⟨#[], args, []⟩ = true)
    (hpre : s.preB enc C.prog fn conds apart (w0.forCall (fun _ _ => 0) ⟨#[], args, []⟩).memory args fuel = true)
    (hsz : s.sizedB enc C.prog fn apart (w0.forCall (fun _ _ => 0) ⟨#[], args, []⟩).memory args fuel = true)
    (hx : X (w0.forCall (fun _ _ => 0) ⟨#[], args, []⟩).memory args) :
    ∃ (w : World) (tape : Tape) (i : Input), w.os = os ∧ (w.forCall tape i).Shaped C.prog ∧ i.vars = [] ∧ Input.okWide C.prog (w.forCall tape i) .any w.heap.size f i ∧
      ((s.pre enc C.prog fn conds apart (w.forCall tape i).memory i.args ∧ X (w.forCall tape i).memory i.args) ∧ sizedMet enc C.prog fn (OpenSpec.ofChange s) apart (w.forCall tape i).memory i.args) ∧ ({} : Assume).holds C.prog (lone (Frame.enter C.prog f i.args .normal) [] (w.forCall tape i)) := by
  refine ⟨w0, fun _ _ => 0, ⟨#[], args, []⟩, hos, World.shaped_of_ZipB hv hr, (Input.okWide_of_okWideB (base := 0) hok).1, (Input.okWide_of_okWideB hok).2, ⟨⟨ChangeSpec.pre_of_preB hpre, hx⟩, sizedMet_of_sizedB hsz⟩, ?_⟩
  simp only [Assume.holds]
  exact ⟨by simp, by simp, fun _ => Modest.zero, by simp, by simp⟩
end
end Go
end
