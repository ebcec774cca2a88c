/- Patterns of one name: parsing. -/
import Derived.Test.YtkclehdmdnfikaaDoorGlF
import Derived.Test.YtkclehdmdnfikaaDoorGrow
import Derived.Test.YtkclehdmdnfikaaDoorBld
import Derived.Test.YtkclehdmdnfikaaDoorLay
set_option linter.unusedSimpArgs false
set_option linter.unusedVariables false
set_option linter.constructorNameAsVariable false
namespace Go.Proofs.YtkclehdmdnfikaaDoor
open Go.Abs Go.Glob
variable {G : Globs}

def parseAV (x : Except Nat (List Pc)) : AV := match x with
  | .error e => .tup [.lst [], .int .i64 e]
  | .ok l => .tup [.lst (encL l), .int .i64 0]

theorem parse_ok_walk (s : List UInt8) (hs : s.length ≤ 9223372036854775807) : PCalls Tryd.prog n_glob_parse [.str s] (fun r => r = parseAV (parse s)) := by
  refine pcalls_of_awp hmix c_glob_parse rfl ?_
  simp [a_glob_parse]
  by_cases h128 : 128 < s.length
  · have h128' : (128 : Int) < s.length := by omega
    simp [h128, h128', parse, parseAV]
  · have h128' : ¬ (128 : Int) < s.length := by omega
    simp [h128, h128']
    have hP := pieces_ok (G := G) (s.length - 0) [PV s 0 false 0 0] 0 s 0 0 0 (2 * s.length + 2) (by simp) (by omega) rfl (by omega) (by omega) (by omega) (by omega) (by omega)
    simp only [List.set_cons_zero, List.drop_zero] at hP
    have hP' := hP
    simp only [PV] at hP'
    refine ac_eff hP' ?_
    rintro r σ' hr
    unfold PieceR at hr
    unfold parse
    rw [if_neg h128]
    cases hp : pcs (2 * s.length + 2) s with
    | none =>
      rw [hp] at hr
      obtain ⟨els, k, dp, hk, rfl, rfl⟩ := hr
      simp [PV, parseAV]
    | some v =>
      obtain ⟨l, r', d⟩ := v
      rw [hp] at hr
      obtain ⟨rfl, rfl⟩ := hr
      simp [PV]
      have hsz := (pcs_size _).1 _ _ _ _ hp
      have hrl : r'.length ≤ s.length := by omega
      by_cases h0 : s = []
      · simp [h0, parseAV]
      have h0' : s ≠ [] := h0
      by_cases hr0 : r' = []
      · subst hr0
        simp [h0]
        by_cases hd : 4 < d
        · have hd' : (4 : Int) < (d : Int) := by omega
          simp [h0, hd, hd', parseAV]
        · have hd' : ¬ (4 : Int) < (d : Int) := by omega
          simp [hd, hd']
          refine ac_same (count_ok (szL l) l (Nat.le_refl _) (by omega)) (by simp) ?_
          rintro r rfl
          by_cases hc : 64 < cnt 1 l
          · have hc' : (64 : Int) < (cnt 1 l : Nat) := by omega
            simp [h0, hd, hc, hc', parseAV]
          · have hc' : ¬ (64 : Int) < (cnt 1 l : Nat) := by omega
            simp [h0, hd, hc, hc', parseAV]
      · have hl : 0 < r'.length := List.length_pos_iff.2 hr0
        have hlt : s.length - r'.length < s.length := by omega
        simp [h0, hr0, hlt, parseAV]

theorem view_more {σ t : Store} {x : AV} {m : List (List AV)} (h : view σ x = some m) : view (σ ++ t) x = some m := by
  cases x <;> simp only [view] at h ⊢ <;> try exact h
  all_goals
    split at h
    · rename_i he
      have hlt := (List.getElem?_eq_some_iff.1 he).1
      rw [List.getElem?_append_left hlt, he]
      exact h
    · cases h

theorem grow_ok {σ : Store} {n : Nat} (hn : n ≤ 1000000000) : ACalls Tryd.prog n_slices_Grow_glob_piece_glob_piece [.nils, .int .i64 n] σ (fun r σ' => r = .row σ.length 0 ∧ σ' = σ ++ [.row 126 5 [] true]) := by
  have hk : (Tryd.prog.info? (Tryd.laysGP_ren.t 25)).map (fun i => (i.size, i.bytes, i.zero.map fun z => z.cells.size)) = some (5, 80, some 5) := by kernel_rfl
  obtain ⟨i0, hi0, hk⟩ := Option.map_eq_some_iff.1 hk
  simp only [Prod.mk.injEq] at hk
  obtain ⟨h1, h3, hk⟩ := hk
  obtain ⟨z, hz, h2⟩ := Option.map_eq_some_iff.1 hk
  have := grow_nil_ok (G := G) (σ := σ) Tryd.laysGP i0 z hi0 hz (by omega) (by omega) true (n := n) (by rw [h3]; omega) (by omega)
  rw [h1] at this
  exact this

theorem concat_ok {σ : Store} {rid e : Nat} {x y : AV} {mx my : List (List AV)} (hrow : σ[rid]? = some (.row e 1 [[x], [y]] false)) (hx : view σ x = some mx) (hy : view σ y = some my) (hxp : ∀ c ∈ mx, c.length = 5 ∧ ∀ v ∈ c, v.pure = true) (hyp : ∀ c ∈ my, c.length = 5 ∧ ∀ v ∈ c, v.pure = true)
    (hxl : mx.length ≤ 1000000) (hyl : my.length ≤ 1000000) :
    ACalls Tryd.prog n_slices_Concat_glob_piece_glob_piece [.row rid 2] σ (fun r σ' => r = .row σ.length (mx.length + my.length) ∧ σ' = σ ++ [.row 126 5 (mx ++ my) true]) := by
  refine acalls_of_awp_e hmix c_slices_Concat_glob_piece_glob_piece rfl ?_
  simp [a_slices_Concat_glob_piece_glob_piece, hrow]
  let L : Nat → Nat := fun i => if i = 0 then 0 else if i = 1 then mx.length else mx.length + my.length
  let A : Nat → List (List AV) := fun i => if i = 0 then [] else if i = 1 then mx else mx ++ my
  refine lp_startx (fun n f σ' => ∃ i : Nat, n = 2 - i ∧ i ≤ 2 ∧ f 0 = .row rid 2 ∧ f 9 = .row rid 2 ∧ f 10 = .int .i64 2 ∧ f 11 = .int .i64 i ∧ f 3 = .int .i64 (L i) ∧ σ = σ') 2 ⟨0, rfl, by omega, by simp, by simp, by simp, by simp, by simp [L], rfl⟩ ?_
  rintro n f σ' ⟨i, rfl, hi, h0, h9, h10, h11, h3, rfl⟩
  have hi3 : i = 0 ∨ i = 1 ∨ i = 2 := by omega
  rcases hi3 with rfl | rfl | rfl
  · have hw : IntKind.i64.wrap (mx.length : Int) = mx.length := wrap_i64 (by omega) (by omega)
    have hn : ¬ ((mx.length : Int) < 0) := by omega
    simp [h9, h10, h11, h3, hrow, hx, L, hw, hn]
    exact nx_intro 1 (by omega) ⟨1, rfl, by omega, by simp [h0], by simp [h9], by simp [h10], by simp [wrap_i64], by simp [L], rfl⟩
  · have hw : IntKind.i64.wrap ((mx.length : Int) + my.length) = (mx.length : Int) + my.length := wrap_i64 (by omega) (by omega)
    have hn : ¬ ((mx.length : Int) + my.length < 0) := by omega
    simp [h9, h10, h11, h3, hrow, hy, L, hw, hn]
    exact nx_intro 0 (by omega) ⟨2, rfl, by omega, by simp [h0], by simp [h9], by simp [h10], by simp [wrap_i64], by simp [L], rfl⟩
  · simp [h9, h10, h11, h3, L]
    have hg := grow_ok (G := G) (σ := σ) (n := mx.length + my.length) (by omega)
    simp only [Int.natCast_add] at hg
    refine ac_eff hg ?_
    rintro r σ' ⟨rfl, rfl⟩
    have hlt := (List.getElem?_eq_some_iff.1 hrow).1
    have hrow' : ∀ t : Store, (σ ++ t)[rid]? = some (.row e 1 [[x], [y]] false) := fun t => by rw [List.getElem?_append_left hlt]; exact hrow
    simp [h0, hrow']
    clear h9 h10 h11 h3
    refine lp_startx (fun n f σ' => ∃ i : Nat, n = 2 - i ∧ i ≤ 2 ∧ f 25 = .row rid 2 ∧ f 26 = .int .i64 2 ∧ f 27 = .int .i64 i ∧ f 6 = .row σ.length (A i).length ∧ σ' = σ ++ [.row 126 5 (A i) true]) 2 ⟨0, rfl, by omega, by simp [h0], by simp, by simp, by simp [A], by simp [A]⟩ ?_
    rintro n f σ' ⟨i, rfl, hi, h25, h26, h27, h6, rfl⟩
    have hi3 : i = 0 ∨ i = 1 ∨ i = 2 := by omega
    have hx' : ∀ t, view (σ ++ t) x = some mx := fun t => view_more hx
    have hy' : ∀ t, view (σ ++ t) y = some my := fun t => view_more hy
    rcases hi3 with rfl | rfl | rfl
    · simp [h25, h26, h27, h6, hrow', A]
      refine ap_row [] mx true (by simp) (hx' _) (by omega) (fun c hc => (hxp c hc).1) (fun _ => .inr fun c hc v hv => (hxp c hc).2 v hv) rfl (by omega) (by omega) ?_
      simp [h25, h26, h27]
      exact nx_intro 1 (by omega) ⟨1, rfl, by omega, by simp [h25], by simp [h26], by simp [wrap_i64], by simp [A], by simp [A]⟩
    · simp [h25, h26, h27, h6, hrow', A]
      refine ap_row mx my true (by simp) (hy' _) (by omega) (fun c hc => (hyp c hc).1) (fun _ => .inr fun c hc v hv => (hyp c hc).2 v hv) rfl (by omega) (by omega) ?_
      simp [h25, h26, h27]
      exact nx_intro 0 (by omega) ⟨2, rfl, by omega, by simp [h25], by simp [h26], by simp [wrap_i64], by simp [A], by simp [A]⟩
    · simp [h25, h26, h27, h6, hrow', A]
      have hv : A 2 = mx ++ my := by simp [A]
      refine er_keep (σ ++ [.row 126 5 (mx ++ my) true]) (.row σ.length (mx.length + my.length)) ?_ [] (by simp) (by simp) (by simp) (fun i x hx => ?_) ⟨rfl, rfl⟩
      · simp
      · by_cases hlt2 : i < σ.length
        · rw [List.getElem?_append_left hlt2] at hx; exact .inl hx
        · right
          have hi2 : i = σ.length := by have := (List.getElem?_eq_some_iff.1 hx).1; simp at this; omega
          subst hi2
          simp at hx
          subst hx
          simp only [Entry.under, List.all_eq_true, List.mem_append]
          rintro c (hc | hc) v hv
          · exact pure_under _ ((hxp c hc).2 v hv)
          · exact pure_under _ ((hyp c hc).2 v hv)
end Go.Proofs.YtkclehdmdnfikaaDoor
