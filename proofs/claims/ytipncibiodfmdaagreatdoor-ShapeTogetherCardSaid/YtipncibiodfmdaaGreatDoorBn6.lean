/- Functions of one series: differences, rises (the program). Functions of one series: sums, moving calls, what is kept, what is delayed (the program). Functions of one series: what is kept, what is delayed (the program). Functions of one series: what is delayed (the program). Functions of one series: what becomes of a value by itself (the program). Functions of one series: which function a call is, and its whole number (the program). Functions of one series: a call's whole number and method; calls that look at more than one value (the program). Functions of one series: a call of a series (the program). Numbers over time: the document's Coarser, and the law. Numbers over time: the law of Coarser. -/
import Derived.Test.YtipncibiodfmdaaGreatDoorBn1
import Derived.Test.YtipncibiodfmdaaGreatDoorBn2
import Derived.Test.YtipncibiodfmdaaGreatDoorBn3
import Derived.Test.YtipncibiodfmdaaGreatDoorBn4
import Derived.Test.YtipncibiodfmdaaGreatDoorBn5
section
set_option linter.unusedSimpArgs false
set_option linter.unusedVariables false
set_option linter.constructorNameAsVariable false
set_option maxHeartbeats 4000000
namespace Go.Shp
open Go.Num Go.Ser Go.Dec Go.Abs
/-- A list whose first k elements are laid anew. -/
def mix (n : Nat) (F H : Nat → N) (k : Nat) : List N := (List.range n).map fun i => if i < k then F i else H i
theorem mix_len (n : Nat) (F H : Nat → N) (k : Nat) : (mix n F H k).length = n := by simp [mix]
theorem mix_at {n : Nat} (F H : Nat → N) {k : Nat} (h : k < n) : (mix n F H k)[k]? = some (H k) := by simp [mix, h]
theorem mix_set {n : Nat} (F H : Nat → N) {k : Nat} (h : k < n) : (mix n F H k).set k (F k) = mix n F H (k + 1) := by
  apply List.ext_getElem
  · simp [mix]
  intro i h1 h2
  simp only [mix, List.getElem_set, List.getElem_map, List.getElem_range]
  by_cases he : k = i
  · subst he; simp
  · rw [if_neg he]
    by_cases hl : i < k
    · rw [if_pos hl, if_pos (by omega)]
    · rw [if_neg hl, if_neg (by omega)]
theorem mix_end {n : Nat} (F H : Nat → N) : mix n F H n = (List.range n).map F := by
  unfold mix
  apply List.map_congr_left
  intro i hi
  rw [if_pos (List.mem_range.1 hi)]
theorem mix_zero (n : Nat) (F H : Nat → N) : mix n F H 0 = (List.range n).map H := by simp [mix]
theorem map_get (l : List N) : ((List.range l.length).map fun i => l.getD i nothing) = l := by
  apply List.ext_getElem
  · simp
  intro i h1 h2
  simp [List.getD, h2]
theorem prevN_ok {l : List N} (h : oksN l) (i : Nat) : okN (prevN l i) := by
  unfold prevN
  split
  · exact ok_nothing
  · rw [List.getD_eq_getElem?_getD]
    cases hy : l[i - 1]? with
    | none => exact ok_nothing
    | some y => exact h y (List.mem_of_getElem? hy)
end Go.Shp
namespace Go.Proofs.YtipncibiodfmdaaGreatDoor
open Go.Abs Go.Num Go.Ser Go.Dec Go.Shp
variable {G : Globs}
theorem numEls_repl (n : Nat) : List.replicate n [AV.bool false, AV.int .i64 0] = numEls ((List.range n).map fun _ => zeroN) := by
  apply List.ext_getElem
  · simp [numEls]
  intro i h1 h2
  simp [numEls, zeroN]
theorem shNothing_ok : PCalls Tryz.prog n_shape_nothing [] (fun r => r = numA nothing) := by
  refine pcalls_of_awp hmix c_shape_nothing rfl ?_
  simp [a_shape_nothing, numA, nothing]
/-- A function value of two numbers. -/
def TwoV [Globs] (σ : Store) (V : AV) (g : N → N → N) : Prop := ∃ (gid : Nat) (caps caps' : List AV), V = .fn (.func gid) [] caps ∧ hasBody Tryz.prog gid = true ∧ (∀ t : Store, CoeL (σ ++ t) true caps caps') ∧ ∀ a b, okN a → okN b → PCalls Tryz.prog gid ([numA a, numA b] ++ caps') (fun r => r = numA (g a b))
theorem diffs_ok (σ : Store) (l : List N) (V : AV) (g : N → N → N) (hl : l.length ≤ 100000) (ho : oksN l) (hV : TwoV σ V g) :
    ACalls Tryz.prog n_shape_differences [.lst (numEls l), V] σ (fun r σ' => r = .row σ.length l.length ∧ σ' = σ ++ [.row 33 2 (numEls ((List.range l.length).map fun i => g (l.getD i nothing) (prevN l i))) false]) := by
  refine acalls_of_awp_e hmix c_shape_differences rfl ?_
  obtain ⟨gid, caps, caps', rfl, hb, hco, hc⟩ := hV
  have hlen := numEls_len l
  obtain ⟨F, hF⟩ : ∃ F : Nat → N, F = fun i => g (l.getD i nothing) (prevN l i) := ⟨_, rfl⟩
  rw [← hF]
  simp [a_shape_differences, hlen]
  refine ms_intro l.length rfl rfl (by omega) (by omega) (by decide) rfl ?_
  rw [numEls_repl]
  simp
  refine ac_same shNothing_ok (by simp) ?_
  rintro r rfl
  simp [numA, splice, nothing]
  refine lp_startx (fun n f σ' => ∃ (k : Nat) (t : Store), n = l.length - k ∧ k ≤ l.length ∧ f 1 = .fn (.func gid) [] caps ∧ f 5 = .row σ.length l.length ∧ f 6 = .ptr (σ.length + 1) 0 ∧ f 13 = .lst (numEls l) ∧ f 14 = .int .i64 l.length ∧ f 15 = .int .i64 k ∧
    σ' = σ ++ .row 33 2 (numEls (mix l.length F (fun _ => zeroN) k)) false :: .var 33 [.bool (prevN l k).1, .int .i64 (prevN l k).2] :: t) l.length ?_ ?_
  · exact ⟨0, [], rfl, by omega, by simp, by simp, by simp, by simp, by simp [hlen], by simp, by simp [mix_zero, prevN, nothing]⟩
  rintro n f σ' ⟨k, t, rfl, hk, f1, f5, f6, f13, f14, f15, rfl⟩
  simp [f14, f15]
  refine cb_dec (fun hlt => ?_) (fun hge => ?_)
  · have hlt' : k < l.length := by omega
    obtain ⟨y, hy⟩ : ∃ y, l[k]? = some y := ⟨_, List.getElem?_eq_getElem hlt'⟩
    have hse := numEls_get hy
    obtain ⟨hx1, hx2⟩ := List.getElem?_eq_some_iff.1 hse
    have hyo := ho y (List.mem_of_getElem? hy)
    have hpo := prevN_ok ho k
    have hw : IntKind.i64.wrap ((k : Int) + 1) = (k : Int) + 1 := wrap_i64 (by omega) (by omega)
    have hgy : l.getD k nothing = y := by rw [List.getD_eq_getElem?_getD, hy]; rfl
    have hnx : prevN l (k + 1) = y := by unfold prevN; rw [if_neg (by omega)]; simpa using hgy
    have hFk : F k = g y (prevN l k) := by rw [hF]; simp only [hgy]
    have hml := mix_len l.length F (fun _ => zeroN) k
    have hma := numEls_get (mix_at F (fun _ => zeroN) hlt')
    have hms := mix_set F (fun _ => zeroN) hlt'
    obtain ⟨M, hM⟩ : ∃ M, M = mix l.length F (fun _ => zeroN) k := ⟨_, rfl⟩
    rw [← hM] at hml hma hms
    rw [← hM]
    obtain ⟨p, hp⟩ : ∃ p, p = prevN l k := ⟨_, rfl⟩
    rw [← hp] at hpo hFk
    rw [← hp]
    have hMl : (numEls M).length = l.length := by rw [numEls_len, hml]
    obtain ⟨hm1, hm2⟩ := List.getElem?_eq_some_iff.1 hma
    simp [f1, f5, f6, f13, f15, hlen, hx1, hx2, hlt']
    refine cv_fn hb ?_
    refine ac_lent (hc y p hyo hpo) (.cons (.pure _ (by simp)) (.cons (.pure _ (by simp)) (hco _))) ?_
    rintro r rfl
    refine ⟨by simp [numA], ?_⟩
    rw [← hFk, numA_eq]
    simp [f6, f15, hw, hMl, hm2, hml, hma, hlt', splice]
    refine nx_intro (l.length - (k + 1)) (by omega) ⟨k + 1, t ++ [.var 33 [.bool y.1, .int .i64 y.2]], rfl, by omega, by simp [f1], by simp [f5], by simp [f6], by simp [f13], by simp [f14], by simp, ?_⟩
    rw [hnx, ← hms, numEls_set]
  · have : k = l.length := by omega
    subst this
    simp [f5, mix_end]
    refine er_keep (σ ++ [.row 33 2 (numEls ((List.range l.length).map F)) false]) (.row σ.length l.length) (by simp [tupOf]) (.var 33 [.bool (prevN l l.length).1, .int .i64 (prevN l l.length).2] :: t) (by simp [mix_end]) (by simp) (by simp [AV.under]) (fun i e he => ?_) ⟨rfl, rfl⟩
    by_cases hi : i < σ.length
    · rw [List.getElem?_append_left hi] at he; exact .inl he
    · right
      rw [List.getElem?_append_right (by omega)] at he
      have h0 : i - σ.length = 0 := by have := (List.getElem?_eq_some_iff.1 he).1; simp at this; omega
      rw [h0] at he
      simp at he; subst he
      exact row_under (numEls_pure _)
theorem one_tell : tell (1 * 1000000) = oneN := by decide
theorem rise1_ok (args : List N) (ho : oksN args) (v p : N) (hv : okN v) (hp : okN p) : PCalls Tryz.prog n_shape_rise_1 [numA v, numA p, .rptr [.lst (numEls args)]] (fun r => r = numA (riseN v p args)) := by
  refine pcalls_of_awp hmix c_shape_rise_1 rfl ?_
  have kS := fSub_ok (G := G) v p hv hp
  have kI := fInt_ok (G := G) 1 (by decide) (by decide)
  rw [one_tell] at kI
  obtain ⟨d, hd⟩ : ∃ d, d = subN v p := ⟨_, rfl⟩
  rw [← hd] at kS
  obtain ⟨R, hR⟩ : ∃ R, R = riseN v p args := ⟨_, rfl⟩
  rw [← hR]
  unfold riseN at hR
  rw [← hd] at hR
  rw [numA_eq v, numA_eq p] at kS ⊢
  have hlen := numEls_len args
  simp [a_shape_rise_1]
  refine ac_same kS (by simp) ?_
  rintro r rfl
  rw [numA_eq d]
  cases hd1 : d.1 with
  | true =>
    rw [if_pos (.inl hd1)] at hR
    subst hR
    simp [splice, hd1, numA]
  | false =>
    by_cases hd2 : 0 ≤ d.2
    · rw [if_pos (.inr hd2)] at hR
      subst hR
      simp [splice, hd1, hd2, numA]
    · rw [if_neg (by rw [hd1]; simp [hd2])] at hR
      simp [splice, hd2, hlen]
      cases args with
      | nil =>
        simp only at hR
        subst hR
        simp
        refine ac_same shNothing_ok (by simp) ?_
        rintro r rfl
        simp [numA, splice]
      | cons a rest =>
        simp only at hR
        have hao := ho a (by simp)
        have kC := fCmp_ok (G := G) v a
        have kA := fSub_ok (G := G) a p hao hp
        have kB := fAdd_ok (G := G) (subN a p) v (ok_sub a p) hv
        have kD := fAdd_ok (G := G) (addN (subN a p) v) oneN (ok_add _ _) (by unfold okN oneN; decide)
        obtain ⟨x, hx⟩ : ∃ x, x = subN a p := ⟨_, rfl⟩
        rw [← hx] at kA kB kD
        obtain ⟨y, hy⟩ : ∃ y, y = addN x v := ⟨_, rfl⟩
        rw [← hy] at kB kD
        obtain ⟨z, hz⟩ : ∃ z, z = addN y oneN := ⟨_, rfl⟩
        rw [← hz] at kD
        have he : addN (addN (subN a p) v) oneN = z := by rw [← hx, ← hy, ← hz]
        rw [he] at hR
        obtain ⟨c, hc⟩ : ∃ c, c = cmpN v a := ⟨_, rfl⟩
        rw [← hc] at kC hR
        rw [numA_eq v, numA_eq a] at kC
        rw [numA_eq a, numA_eq p, numA_eq x] at kA
        rw [numA_eq x, numA_eq v, numA_eq y] at kB
        rw [numA_eq y, numA_eq oneN, numA_eq z] at kD
        rw [numA_eq oneN] at kI
        simp [numEls_cons]
        refine qc_same kC (by simp) (by simp) ?_
        by_cases hc0 : c ≤ 0
        · rw [if_pos hc0] at hR
          subst hR
          simp [hc0, numEls_cons]
          refine qc_same kA (by simp) (by simp) ?_
          simp
          refine qc_same kB (by simp) (by simp) ?_
          simp
          refine qc_same kI (by simp) (by simp) ?_
          simp
          refine qc_same kD (by simp) (by simp) ?_
          simp [splice, numA]
        · rw [if_neg hc0] at hR
          subst hR
          simp [hc0]
          refine ac_same shNothing_ok (by simp) ?_
          rintro r rfl
          simp [numA, splice]
theorem rise_ok (σ : Store) (args : List N) : ACalls Tryz.prog n_shape_rise [.lst (numEls args)] σ (fun r σ' => r = .fn (.func n_shape_rise_1) [] [.ptr σ.length 0] ∧ σ' = σ ++ [.var 22 [.lst (numEls args)]]) := by
  refine acalls_of_awp_e hmix c_shape_rise rfl ?_
  simp [a_shape_rise]
  refine er_keep (σ ++ [.var 22 [.lst (numEls args)]]) (.fn (.func n_shape_rise_1) [] [.ptr σ.length 0]) (by simp [tupOf]) [] (by simp) (by simp) (by simp [AV.under]) (fun i e he => ?_) ⟨rfl, rfl⟩
  by_cases hi : i < σ.length
  · rw [List.getElem?_append_left hi] at he; exact .inl he
  · right
    rw [List.getElem?_append_right (by omega)] at he
    have h0 : i - σ.length = 0 := by have := (List.getElem?_eq_some_iff.1 he).1; simp at this; omega
    rw [h0] at he
    simp at he; subst he
    simp [Entry.under, AV.under]
theorem two_sub (σ : Store) : TwoV σ (.fn (.func n_fixed_Sub) [] []) subN :=
  ⟨n_fixed_Sub, [], [], rfl, b_fixed_Sub, fun t => .nil, fun a b ha hb => by simpa using fSub_ok (G := G) a b ha hb⟩
theorem two_rise (σ : Store) (args : List N) (ho : oksN args) : TwoV (σ ++ [.var 22 [.lst (numEls args)]]) (.fn (.func n_shape_rise_1) [] [.ptr σ.length 0]) (fun v p => riseN v p args) :=
  ⟨n_shape_rise_1, [.ptr σ.length 0], [.rptr [.lst (numEls args)]], rfl, b_shape_rise_1, fun t => .cons (coe_ptr (t := 22) (by simp) (by simp) (by simp)) .nil, fun a b ha hb => rise1_ok args ho a b ha hb⟩
theorem set_app2 {σ t : Store} {id : Nat} (h : id < σ.length) (e e' : Entry) : (σ.set id e ++ t).set id e' = σ.set id e' ++ t := by
  rw [List.set_append_left _ _ (by simpa using h), List.set_set]
theorem perSecond_ok (σ : Store) (id : Nat) (l : List N) (step : Int) (hl : l.length ≤ 100000) (ho : oksN l) (hs0 : -9223372036854775808 ≤ step) (hs1 : step ≤ 9223372036854775807) (hent : σ[id]? = some (.row 33 2 (numEls l) false)) :
    ACalls Tryz.prog n_shape_perSecond [.row id l.length, .int .i64 step] σ (fun r σ' => r = .row id l.length ∧ σ' = σ.set id (.row 33 2 (numEls (l.map fun v => divN v (tell (step * 1000000)))) false)) := by
  refine acalls_of_awp_e hmix c_shape_perSecond rfl ?_
  have hlen := numEls_len l
  have hid := (List.getElem?_eq_some_iff.1 hent).1
  obtain ⟨F, hF⟩ : ∃ F : Nat → N, F = fun i => divN (l.getD i nothing) (tell (step * 1000000)) := ⟨_, rfl⟩
  obtain ⟨H, hH⟩ : ∃ H : Nat → N, H = fun i => l.getD i nothing := ⟨_, rfl⟩
  have h0 : mix l.length F H 0 = l := by rw [mix_zero, hH]; exact map_get l
  have hend : mix l.length F H l.length = l.map fun v => divN v (tell (step * 1000000)) := by
    rw [mix_end, hF]
    conv => rhs; rw [← map_get l, List.map_map]
    rfl
  simp [a_shape_perSecond, hent, hlen]
  refine lp_startx (fun n f σ' => ∃ (k : Nat) (t : Store), n = l.length - k ∧ k ≤ l.length ∧ f 0 = .row id l.length ∧ f 1 = .int .i64 step ∧ f 7 = .row id l.length ∧ f 8 = .int .i64 l.length ∧ f 9 = .int .i64 k ∧
    σ' = σ.set id (.row 33 2 (numEls (mix l.length F H k)) false) ++ t) l.length ?_ ?_
  · refine ⟨0, [], rfl, by omega, by simp, by simp, by simp, by simp, by simp, ?_⟩
    rw [h0, List.append_nil]
    obtain ⟨h1, h2⟩ := List.getElem?_eq_some_iff.1 hent
    rw [← h2, List.set_getElem_self]
  rintro n f σ' ⟨k, t, rfl, hk, f0, f1, f7, f8, f9, rfl⟩
  simp [f8, f9]
  refine cb_dec (fun hlt => ?_) (fun hge => ?_)
  · have hlt' : k < l.length := by omega
    obtain ⟨y, hy⟩ : ∃ y, l[k]? = some y := ⟨_, List.getElem?_eq_getElem hlt'⟩
    have hyo := ho y (List.mem_of_getElem? hy)
    have hw : IntKind.i64.wrap ((k : Int) + 1) = (k : Int) + 1 := wrap_i64 (by omega) (by omega)
    have hgy : l.getD k nothing = y := by rw [List.getD_eq_getElem?_getD, hy]; rfl
    have kI := fInt_ok (G := G) step hs0 hs1
    have kD := fDiv_ok (G := G) y (tell (step * 1000000)) hyo (ok_tell _)
    have hFk : F k = divN y (tell (step * 1000000)) := by rw [hF]; simp only [hgy]
    have hml := mix_len l.length F H k
    have hma := numEls_get (mix_at F H hlt')
    have hms := mix_set F H hlt'
    have hHk : H k = y := by rw [hH]; exact hgy
    rw [hHk] at hma
    obtain ⟨M, hM⟩ : ∃ M, M = mix l.length F H k := ⟨_, rfl⟩
    rw [← hM] at hml hma hms
    rw [← hM]
    obtain ⟨s, hs⟩ : ∃ s, s = tell (step * 1000000) := ⟨_, rfl⟩
    rw [← hs] at kI kD hFk
    rw [← hFk] at kD
    have hMl : (numEls M).length = l.length := by rw [numEls_len, hml]
    obtain ⟨hm1, hm2⟩ := List.getElem?_eq_some_iff.1 hma
    have g1 : ∀ (e : Entry) (t : Store), (σ.set id e ++ t)[id]? = some e := fun e t => by rw [List.getElem?_append_left (by simpa using hid), List.getElem?_set_self hid]
    have g2 := fun e e' t => set_app2 (σ := σ) (t := t) hid e e'
    rw [numA_eq s] at kI
    rw [numA_eq y, numA_eq s, numA_eq (F k)] at kD
    simp [f0, f1, f7, f9, g1, g2, hMl, hm2, hma, hlt', hml]
    refine qc_same kI (by simp) (by simp) ?_
    simp
    refine qc_same kD (by simp) (by simp) ?_
    simp [f0, f9, hw, hMl, hm2, hma, hlt', hml, g1, g2, splice]
    refine nx_intro (l.length - (k + 1)) (by omega) ⟨k + 1, t ++ [.var 33 [.bool y.1, .int .i64 y.2]], rfl, by omega, by simp [f0], by simp [f1], by simp [f7], by simp [f8], by simp, ?_⟩
    rw [← hms, numEls_set]
  · have : k = l.length := by omega
    subst this
    simp [f0]
    refine er_keep (σ.set id (.row 33 2 (numEls (l.map fun v => divN v (tell (step * 1000000)))) false)) (.row id l.length) (by simp [tupOf, f0]) t (by rw [hend]) (by simp) (by simp [AV.under, hid]) (fun i e he => ?_) ⟨rfl, rfl⟩
    by_cases hi : i = id
    · subst hi
      rw [List.getElem?_set_self hid] at he
      simp at he; subst he
      right
      exact row_under (numEls_pure _)
    · rw [List.getElem?_set_ne (Ne.symm hi)] at he; exact .inl he
end Go.Proofs.YtipncibiodfmdaaGreatDoor
end
section
set_option linter.unusedSimpArgs false
set_option linter.unusedVariables false
set_option linter.constructorNameAsVariable false
set_option maxHeartbeats 4000000
namespace Go.Shp
open Go.Num Go.Ser Go.Dec Go.Abs
/-- The sum of all known values so far. -/
def sumTo (l : List N) (k : Nat) : N := (known (l.take k)).foldl addN zeroN
theorem sumTo_ok (l : List N) (k : Nat) : okN (sumTo l k) := by
  unfold sumTo
  have : ∀ (l : List N) (a : N), okN a → okN (l.foldl addN a) := by
    intro l
    induction l with
    | nil => intro a h; exact h
    | cons b l ih => intro a _; rw [List.foldl_cons]; exact ih _ (ok_add _ _)
  exact this _ _ (by unfold okN zeroN; decide)
theorem sumTo_step {l : List N} {k : Nat} {y : N} (h : l[k]? = some y) : sumTo l (k + 1) = if good y = true then addN (sumTo l k) y else sumTo l k := by
  unfold sumTo
  rw [List.take_add_one, h]
  unfold known
  rw [List.filter_append, List.foldl_append]
  by_cases hg : good y = true
  · rw [if_pos hg]; simp [hg]
  · rw [if_neg hg]; simp [hg]
theorem add_zero {k : N} (h : good k = true) (ho : okN k) : addN zeroN k = k := by
  have hz : good zeroN = true := by decide
  obtain ⟨h1, h2⟩ := good_iff.1 h
  unfold addN
  rw [hz, h]
  simp only [Bool.and_self, if_true]
  unfold tell
  have h3 := ho.2
  simp only [most] at h2 ⊢
  rw [if_pos (by simp only [zeroN]; constructor <;> omega)]
  exact Prod.ext h1.symm (by simp [zeroN])
/-- A sum so far is what the values so far make. -/
theorem sumTo_reckon {l : List N} (ho : oksN l) {k : Nat} {y : N} (h : l[k]? = some y) (hg : good y = true) : sumTo l (k + 1) = reckon 2 (l.take (k + 1)) := by
  have hmem : y ∈ known (l.take (k + 1)) := by
    unfold known
    refine List.mem_filter.2 ⟨?_, hg⟩
    rw [List.take_add_one, h]; simp
  have hk := known_good (l.take (k + 1))
  have hko : oksN (known (l.take (k + 1))) := fun n hn => ho n (List.mem_of_mem_take (List.mem_filter.1 hn).1)
  unfold sumTo reckon
  generalize known (l.take (k + 1)) = K at *
  cases K with
  | nil => cases hmem
  | cons a ks =>
    rw [List.foldl_cons, add_zero (hk a (by simp)) (hko a (by simp))]
    simp [reckonK]
theorem right_null {n : N} (h : rightN n = true) (h1 : n.1 = true) : n = nothing := by
  unfold rightN at h
  rw [if_pos h1] at h
  exact Prod.ext h1 (show n.2 = 0 by simpa using h)
end Go.Shp
namespace Go.Proofs.YtipncibiodfmdaaGreatDoor
open Go.Abs Go.Num Go.Ser Go.Dec Go.Shp
variable {G : Globs}
theorem right_there {n : N} (h : rightN n = true) (h1 : n.1 = false) : good n = true := by
  have := right_good n
  rw [h, h1] at this
  simpa using this.symm
theorem integral_ok (l : List N) (hl : l.length ≤ 100000) (ho : oksN l) (hr : ∀ n ∈ l, rightN n = true) :
    PCalls Tryz.prog n_shape_integral [.lst (numEls l)] (fun r => r = .lst (numEls ((List.range l.length).map fun i => if (l.getD i nothing).1 then l.getD i nothing else reckon 2 (l.take (i + 1))))) := by
  refine pcalls_of_awp hmix c_shape_integral rfl ?_
  have hlen := numEls_len l
  obtain ⟨F, hF⟩ : ∃ F : Nat → N, F = fun i => if (l.getD i nothing).1 then l.getD i nothing else reckon 2 (l.take (i + 1)) := ⟨_, rfl⟩
  rw [← hF]
  have kZ := fInt_ok (G := G) 0 (by decide) (by decide)
  have hz : tell (0 * 1000000) = zeroN := by decide
  rw [hz, numA_eq] at kZ
  simp [a_shape_integral, hlen]
  refine ms_intro l.length rfl rfl (by omega) (by omega) (by decide) rfl ?_
  rw [numEls_repl]
  simp
  refine ac_same kZ (by simp) ?_
  rintro r rfl
  simp [splice]
  refine lp_startx (fun n f σ' => ∃ (k : Nat) (t : Store), n = l.length - k ∧ k ≤ l.length ∧ f 3 = .row 0 l.length ∧ f 4 = .ptr 1 0 ∧ f 11 = .lst (numEls l) ∧ f 12 = .int .i64 l.length ∧ f 13 = .int .i64 k ∧
    σ' = .row 33 2 (numEls (mix l.length F (fun _ => zeroN) k)) false :: .var 33 [.bool (sumTo l k).1, .int .i64 (sumTo l k).2] :: t) l.length ?_ ?_
  · exact ⟨0, [], rfl, by omega, by simp, by simp, by simp, by simp [hlen], by simp, by simp [mix_zero, sumTo, known]⟩
  rintro n f σ' ⟨k, t, rfl, hk, f3, f4, f11, f12, f13, rfl⟩
  simp [f12, f13]
  refine cb_dec (fun hlt => ?_) (fun hge => ?_)
  · have hlt' : k < l.length := by omega
    obtain ⟨y, hy⟩ : ∃ y, l[k]? = some y := ⟨_, List.getElem?_eq_getElem hlt'⟩
    have hse := numEls_get hy
    obtain ⟨hx1, hx2⟩ := List.getElem?_eq_some_iff.1 hse
    have hyo := ho y (List.mem_of_getElem? hy)
    have hyr := hr y (List.mem_of_getElem? hy)
    have hw : IntKind.i64.wrap ((k : Int) + 1) = (k : Int) + 1 := wrap_i64 (by omega) (by omega)
    have hgy : l.getD k nothing = y := by rw [List.getD_eq_getElem?_getD, hy]; rfl
    have hml := mix_len l.length F (fun _ => zeroN) k
    have hma := numEls_get (mix_at F (fun _ => zeroN) hlt')
    have hms := mix_set F (fun _ => zeroN) hlt'
    have hss := sumTo_step hy
    have hso := sumTo_ok l k
    obtain ⟨M, hM⟩ : ∃ M, M = mix l.length F (fun _ => zeroN) k := ⟨_, rfl⟩
    rw [← hM] at hml hma hms
    rw [← hM]
    have hMl : (numEls M).length = l.length := by rw [numEls_len, hml]
    obtain ⟨hm1, hm2⟩ := List.getElem?_eq_some_iff.1 hma
    cases hy1 : y.1 with
    | true =>
      have hFk : F k = y := by rw [hF]; simp only [hgy, hy1, if_true]
      have hng : ¬ good y = true := fun h => by have := (good_iff.1 h).1; rw [hy1] at this; cases this
      rw [if_neg hng] at hss
      simp [f3, f4, f11, f12, f13, hlen, hx1, hx2, hlt', hMl, hm2, hma, hml, splice, hy1, hw]
      refine nx_intro (l.length - (k + 1)) (by omega) ⟨k + 1, t ++ [.var 33 [.bool y.1, .int .i64 y.2]], rfl, by omega, by simp [f3], by simp [f4], by simp [f11], by simp [f12], by simp, ?_⟩
      rw [hss, ← hms, hFk, ← numEls_set, hy1]
    | false =>
      have hg := right_there hyr hy1
      rw [if_pos hg] at hss
      have kA := fAdd_ok (G := G) (sumTo l k) y hso hyo
      rw [← hss] at kA
      have hFk : F k = sumTo l (k + 1) := by rw [hF]; simp only [hgy, hy1, Bool.false_eq_true, if_false]; exact (sumTo_reckon ho hy hg).symm
      obtain ⟨s, hs⟩ : ∃ s, s = sumTo l k := ⟨_, rfl⟩
      obtain ⟨s', hs'⟩ : ∃ s', s' = sumTo l (k + 1) := ⟨_, rfl⟩
      rw [← hs, ← hs'] at kA
      rw [← hs'] at hFk
      rw [← hs]
      rw [numA_eq s, numA_eq y, numA_eq s'] at kA
      rw [hy1] at kA
      simp [f3, f4, f11, f12, f13, hlen, hx1, hx2, hlt', hMl, hm2, hma, hml, splice, hy1, hw]
      refine ac_same kA (by simp) ?_
      rintro r rfl
      simp [f3, f4, f11, f12, f13, hlen, hx1, hx2, hlt', hMl, hm2, hma, hml, splice, hy1, hw]
      refine nx_intro (l.length - (k + 1)) (by omega) ⟨k + 1, t ++ [.var 33 [.bool y.1, .int .i64 y.2]], rfl, by omega, by simp [f3], by simp [f4], by simp [f11], by simp [f12], by simp, ?_⟩
      rw [← hs', ← hms, hFk, ← numEls_set, hy1]
  · have : k = l.length := by omega
    subst this
    have hfz := numEls_fz (.row 33 2 (numEls (mix l.length F (fun _ => zeroN) l.length)) false :: .var 33 [.bool (sumTo l l.length).1, .int .i64 (sumTo l l.length).2] :: t) 0 1 (mix l.length F (fun _ => zeroN) l.length)
    rw [mix_end] at *
    simp [f3, hfz, numEls_len]
theorem moving_ok (l : List N) (n way : Int) (hl : l.length ≤ 100000) (ho : oksN l) (hn0 : 1 ≤ n) (hn1 : n ≤ 2000) :
    PCalls Tryz.prog n_shape_moving [.lst (numEls l), .int .i64 n, .int .i64 way] (fun r => r = .lst (numEls ((List.range l.length).map fun i => reckon way ((l.take (i + 1)).drop (i + 1 - n.toNat))))) := by
  refine pcalls_of_awp hmix c_shape_moving rfl ?_
  have hlen := numEls_len l
  obtain ⟨F, hF⟩ : ∃ F : Nat → N, F = fun i => reckon way ((l.take (i + 1)).drop (i + 1 - n.toNat)) := ⟨_, rfl⟩
  rw [← hF]
  simp [a_shape_moving, hlen]
  refine ms_intro l.length rfl rfl (by omega) (by omega) (by decide) rfl ?_
  rw [numEls_repl]
  simp
  refine lp_startx (fun x f σ' => ∃ (k : Nat), x = l.length - k ∧ k ≤ l.length ∧ f 0 = .lst (numEls l) ∧ f 1 = .int .i64 n ∧ f 2 = .int .i64 way ∧ f 7 = .row 0 l.length ∧ f 13 = .int .i64 l.length ∧ f 14 = .int .i64 k ∧
    σ' = [.row 33 2 (numEls (mix l.length F (fun _ => zeroN) k)) false]) l.length ?_ ?_
  · exact ⟨0, rfl, by omega, by simp, by simp, by simp, by simp, by simp [hlen], by simp, by simp [mix_zero]⟩
  rintro x f σ' ⟨k, rfl, hk, f0, f1, f2, f7, f13, f14, rfl⟩
  simp [f13, f14]
  refine cb_dec (fun hlt => ?_) (fun hge => ?_)
  · have hlt' : k < l.length := by omega
    have hw : IntKind.i64.wrap ((k : Int) + 1) = (k : Int) + 1 := wrap_i64 (by omega) (by omega)
    have hw2 : IntKind.i64.wrap ((k : Int) + 1 - n) = (k : Int) + 1 - n := wrap_i64 (by omega) (by omega)
    have hml := mix_len l.length F (fun _ => zeroN) k
    have hma := numEls_get (mix_at F (fun _ => zeroN) hlt')
    have hms := mix_set F (fun _ => zeroN) hlt'
    obtain ⟨M, hM⟩ : ∃ M, M = mix l.length F (fun _ => zeroN) k := ⟨_, rfl⟩
    rw [← hM] at hml hma hms
    rw [← hM]
    have hMl : (numEls M).length = l.length := by rw [numEls_len, hml]
    obtain ⟨hm1, hm2⟩ := List.getElem?_eq_some_iff.1 hma
    obtain ⟨d, hd⟩ : ∃ d : Nat, d = k + 1 - n.toNat := ⟨_, rfl⟩
    have hmx : (if n < (k : Int) + 1 then (k : Int) + 1 - n else 0) = (d : Int) := by split <;> omega
    have hso : oksN ((l.take (k + 1)).drop d) := fun x hx => ho x (List.mem_of_mem_take (List.mem_of_mem_drop hx))
    have kR := reckon_ok (G := G) way ((l.take (k + 1)).drop d) hso (by simp; omega)
    have hFk : F k = reckon way ((l.take (k + 1)).drop d) := by rw [hF, hd]
    rw [← hFk, numA_eq (F k)] at kR
    rw [← numEls_drop, ← numEls_take] at kR
    have htwo := numEls_two l
    have hd1 : (d : Int) ≤ (k : Int) + 1 := by omega
    have hd2 : (0 : Int) ≤ (k : Int) + 1 := by omega
    have hd3 : k + 1 ≤ l.length := by omega
    have hd4 : d ≤ k + 1 := by omega
    simp [f0, f1, f2, f7, f13, f14, hw, hw2, hmx, hlen, hlt', hMl, hm2, hma, hml, splice, hd1, hd2, hd3, hd4, if_pos htwo]
    refine ac_same kR (by simp) ?_
    rintro r rfl
    simp [f7, f14, hw, hlt', hMl, hm2, hma, hml, splice]
    refine nx_intro (l.length - (k + 1)) (by omega) ⟨k + 1, rfl, by omega, by simp [f0], by simp [f1], by simp [f2], by simp [f7], by simp [f13], by simp, ?_⟩
    rw [← hms, numEls_set]
  · have : k = l.length := by omega
    subst this
    have hfz := numEls_fz [.row 33 2 (numEls (mix l.length F (fun _ => zeroN) l.length)) false] 0 1 (mix l.length F (fun _ => zeroN) l.length)
    rw [mix_end] at *
    simp [f7, hfz, numEls_len]
end Go.Proofs.YtipncibiodfmdaaGreatDoor
end
section
set_option linter.unusedSimpArgs false
set_option linter.unusedVariables false
set_option linter.constructorNameAsVariable false
set_option maxHeartbeats 4000000
namespace Go.Shp
open Go.Num Go.Ser Go.Dec Go.Abs
theorem mix_skip {n : Nat} {F H : Nat → N} {a b : Nat} (hab : a ≤ b) (h : ∀ t, a ≤ t → t < b → t < n → F t = H t) : mix n F H b = mix n F H a := by
  unfold mix
  apply List.map_congr_left
  intro i hi
  have hin := List.mem_range.1 hi
  by_cases h1 : i < a
  · rw [if_pos h1, if_pos (by omega)]
  · rw [if_neg h1]
    split
    · exact h i (by omega) (by assumption) hin
    · rfl
theorem mix_ge {n : Nat} {F H : Nat → N} {k : Nat} (h : n ≤ k) : mix n F H k = (List.range n).map F := by
  unfold mix
  apply List.map_congr_left
  intro i hi
  rw [if_pos (by have := List.mem_range.1 hi; omega)]
theorem lastK_null {l : List N} {t : Nat} (h : (l.getD t nothing).1 = true) : lastK l (t + 1) = lastK l t := by
  show (if (l.getD t nothing).1 = true then _ else _) = _
  rw [if_pos h]
theorem lastK_there {l : List N} {t : Nat} (h : (l.getD t nothing).1 = false) : lastK l (t + 1) = some t := by
  show (if (l.getD t nothing).1 = true then _ else _) = _
  rw [if_neg (by rw [h]; decide)]
theorem lastK_run {l : List N} {a : Nat} : ∀ (d : Nat), (∀ x, a ≤ x → x < a + d → (l.getD x nothing).1 = true) → lastK l (a + d) = lastK l a
  | 0, _ => rfl
  | d + 1, h => by
    rw [← Nat.add_assoc, lastK_null (h (a + d) (by omega) (by omega))]
    exact lastK_run d fun x h1 h2 => h x h1 (by omega)
theorem getD_some {l : List N} {t : Nat} (h : t < l.length) : l.getD t nothing = l[t] := by
  rw [List.getD_eq_getElem?_getD, List.getElem?_eq_getElem h]; rfl
theorem nextK_run {l : List N} : ∀ (d a : Nat), (∀ x, a ≤ x → x < a + d → (l.getD x nothing).1 = true) → a + d ≤ l.length → (a + d = l.length ∨ (l.getD (a + d) nothing).1 = false) → nextK l a = a + d
  | 0, a, _, hle, he => by
    unfold nextK
    simp only [Nat.add_zero] at hle he ⊢
    rcases Nat.lt_or_ge a l.length with h | h
    · have he : (l.getD a nothing).1 = false := by
        rcases he with he | he
        · omega
        · exact he
      rw [getD_some h] at he
      rw [List.drop_eq_getElem_cons h, List.takeWhile_cons, he]
      simp
    · rw [List.drop_of_length_le h]; simp
  | d + 1, a, hr, hle, he => by
    have ha : a < l.length := by omega
    have h0 := hr a (Nat.le_refl _) (by omega)
    have ih := nextK_run d (a + 1) (fun x h1 h2 => hr x (by omega) (by omega)) (by omega) (by rw [show a + 1 + d = a + (d + 1) by omega]; exact he)
    unfold nextK at ih ⊢
    rw [getD_some ha] at h0
    rw [List.drop_eq_getElem_cons ha, List.takeWhile_cons, if_pos h0, List.length_cons]
    omega
/-- Of a run of nothings from a on, behind which e stands: what is kept. -/
theorem keptN_run {l : List N} {a e t : Nat} {m : Int} (hr : ∀ x, a ≤ x → x < e → (l.getD x nothing).1 = true) (hat : a ≤ t) (hte : t < e) (hle : e ≤ l.length) (he : e = l.length ∨ (l.getD e nothing).1 = false) (hp : ∀ j, a = j + 1 → (l.getD j nothing).1 = false) :
    keptN l t m = if a = 0 ∨ (0 ≤ m ∧ m < (e : Int) - a) then nothing else l.getD (a - 1) nothing := by
  have h1 : lastK l t = lastK l a := by
    have := lastK_run (l := l) (a := a) (t - a) fun x h1 h2 => hr x h1 (by omega)
    rwa [show a + (t - a) = t by omega] at this
  have h2 : nextK l t = e := by
    have := nextK_run (l := l) (e - t) t (fun x h1 h2 => hr x (by omega) (by omega)) (by omega) (by rw [show t + (e - t) = e by omega]; exact he)
    rwa [show t + (e - t) = e by omega] at this
  unfold keptN
  rw [h1, h2]
  cases a with
  | zero => simp [lastK]
  | succ j =>
    rw [lastK_there (hp j rfl)]
    simp only [Nat.add_sub_cancel]
    have e1 : (e : Int) - j - 1 = (e : Int) - ((j + 1 : Nat) : Int) := by omega
    rw [e1]
    by_cases hc : 0 ≤ m ∧ m < (e : Int) - ((j + 1 : Nat) : Int)
    · rw [if_pos hc, if_pos (.inr hc)]
    · rw [if_neg hc, if_neg (by rintro (h | h); · omega
                                · exact hc h)]
end Go.Shp
namespace Go.Proofs.YtipncibiodfmdaaGreatDoor
open Go.Abs Go.Num Go.Ser Go.Dec Go.Shp
variable {G : Globs}
theorem keep_ok (l : List N) (m : Int) (hl : l.length ≤ 100000) (ho : oksN l) (hr : ∀ n ∈ l, rightN n = true) (hm0 : -9223372036854775808 ≤ m) (hm1 : m ≤ 9223372036854775807) :
    PCalls Tryz.prog n_shape_keep [.lst (numEls l), .int .i64 m] (fun r => r = .lst (numEls ((List.range l.length).map fun i => if (l.getD i nothing).1 then keptN l i m else l.getD i nothing))) := by
  refine pcalls_of_awp hmix c_shape_keep rfl ?_
  have hlen := numEls_len l
  by_cases hne : l = []
  · subst hne
    simp [a_shape_keep, numEls]
    refine ac_same clone_nil (by simp) ?_
    rintro r rfl
    simp
    refine lp_startx (fun x f σ => x = 0 ∧ f 0 = .lst [] ∧ f 5 = .lst [] ∧ f 6 = .int .i64 0 ∧ σ = []) 0 ⟨rfl, by simp, by simp, by simp, rfl⟩ ?_
    rintro x f σ ⟨rfl, f0, f5, f6, rfl⟩
    simp [f0, f5, f6]
  obtain ⟨F, hF⟩ : ∃ F : Nat → N, F = fun i => if (l.getD i nothing).1 then keptN l i m else l.getD i nothing := ⟨_, rfl⟩
  obtain ⟨H, hH⟩ : ∃ H : Nat → N, H = fun i => l.getD i nothing := ⟨_, rfl⟩
  rw [← hF]
  have h0 : mix l.length F H 0 = l := by rw [mix_zero, hH]; exact map_get l
  simp [a_shape_keep]
  refine ac_eff (clone_cons l hne (by omega)) ?_
  rintro r σ' ⟨rfl, rfl⟩
  simp
  refine lp_startx (fun x f σ => ∃ i : Nat, x = l.length + 1 - i ∧ i ≤ l.length + 1 ∧ (∀ j, i = j + 1 → j < l.length → (l.getD j nothing).1 = false) ∧ f 0 = .lst (numEls l) ∧ f 1 = .int .i64 m ∧ f 5 = .row 0 l.length ∧ f 6 = .int .i64 i ∧
    σ = [.row 33 2 (numEls (mix l.length F H i)) false]) (l.length + 1) ?_ ?_
  · exact ⟨0, rfl, by omega, fun j h => by omega, by simp, by simp, by simp, by simp, by rw [h0]⟩
  rintro x f σ ⟨i, rfl, hi, hprev, f0, f1, f5, f6, rfl⟩
  simp [f0, f6, hlen]
  refine cb_dec (fun hlt => ?_) (fun hge => ?_)
  · have hlt' : i < l.length := by omega
    obtain ⟨y, hy⟩ : ∃ y, l[i]? = some y := ⟨_, List.getElem?_eq_getElem hlt'⟩
    have hse := numEls_get hy
    obtain ⟨hx1, hx2⟩ := List.getElem?_eq_some_iff.1 hse
    have hw : IntKind.i64.wrap ((i : Int) + 1) = (i : Int) + 1 := wrap_i64 (by omega) (by omega)
    have hgy : l.getD i nothing = y := by rw [List.getD_eq_getElem?_getD, hy]; rfl
    have hstep1 : F i = H i → mix l.length F H (i + 1) = mix l.length F H i := fun hFH => mix_skip (by omega) fun t h1 h2 _ => by
      have : t = i := by omega
      subst this; exact hFH
    cases hy1 : y.1 with
    | false =>
      have hFH : F i = H i := by rw [hF, hH]; simp only [hgy, hy1, Bool.false_eq_true, if_false]
      have hpv : ∀ j, i + 1 = j + 1 → j < l.length → (l.getD j nothing).1 = false := fun j hj _ => by
        have : j = i := by omega
        subst this; rw [hgy]; exact hy1
      simp [f0, f6, hlen, hx1, hx2, hlt', hy1, hw]
      refine nx_intro (l.length + 1 - (i + 1)) (by omega) ⟨i + 1, rfl, by omega, hpv, by simp [f0], by simp [f1], by simp [f5], by simp, ?_⟩
      rw [hstep1 hFH]
    | true =>
      simp [f0, f6, hlen, hx1, hx2, hlt', hy1]
      refine lp_join 2 (fun g σ => ∃ e : Nat, i < e ∧ e ≤ l.length ∧ (∀ x, i ≤ x → x < e → (l.getD x nothing).1 = true) ∧ (e = l.length ∨ (l.getD e nothing).1 = false) ∧ g 0 = .lst (numEls l) ∧ g 1 = .int .i64 m ∧ g 5 = .row 0 l.length ∧ g 6 = .int .i64 e ∧ g 7 = .int .i64 i ∧
        σ = [.row 33 2 (numEls (mix l.length F H i)) false]) ?_ ?_
      · rintro g σ ⟨e, hie, hel, hrun, hend, g0, g1, g5, g6, g7, rfl⟩
        have hkt := fun t h1 h2 => keptN_run (l := l) (a := i) (e := e) (t := t) (m := m) hrun h1 h2 hel hend fun j hj => hprev j hj (by omega)
        have hwe : IntKind.i64.wrap ((e : Int) + 1) = (e : Int) + 1 := wrap_i64 (by omega) (by omega)
        have hws : IntKind.i64.wrap ((e : Int) - i) = (e : Int) - i := wrap_i64 (by omega) (by omega)
        have hnext : ∀ j, e + 1 = j + 1 → j < l.length → (l.getD j nothing).1 = false := fun j hj hjl => by
          have : j = e := by omega
          subst this
          rcases hend with h | h
          · omega
          · exact h
        have hFe : e < l.length → F e = H e := fun h => by
          have h2 := hnext e rfl h
          rw [hF, hH]; simp only [h2, Bool.false_eq_true, if_false]
        have hFr : ∀ t, i ≤ t → t < e → F t = keptN l t m := fun t h1 h2 => by rw [hF]; simp only [hrun t h1 h2, if_true]
        have hHr : ∀ t, i ≤ t → t < e → H t = nothing := fun t h1 h2 => by
          have ht : t < l.length := by omega
          have h3 := hrun t h1 h2
          rw [hH]
          simp only
          rw [getD_some ht] at h3 ⊢
          exact right_null (hr _ (List.getElem_mem ht)) h3
        by_cases hc : i = 0 ∨ (0 ≤ m ∧ m < (e : Int) - i)
        · have hmx : mix l.length F H (e + 1) = mix l.length F H i := mix_skip (by omega) fun t h1 h2 h3 => by
            by_cases hte : t < e
            · rw [hFr t h1 hte, hkt t h1 hte, if_pos hc, hHr t h1 hte]
            · have : t = e := by omega
              subst this; exact hFe h3
          by_cases hi0 : i = 0
          · have hi0' : (i : Int) = 0 := by omega
            simp [g0, g1, g5, g6, g7, hi0, hwe]
            refine nx_intro (l.length + 1 - (e + 1)) (by omega) ⟨e + 1, rfl, by omega, hnext, by simp [g0], by simp [g1], by simp [g5], by simp, ?_⟩
            rw [hmx, hi0]
          · have hc2 : 0 ≤ m ∧ m < (e : Int) - i := hc.resolve_left hi0
            simp [g0, g1, g5, g6, g7, hi0, hwe, hws, hc2.1, hc2.2]
            refine nx_intro (l.length + 1 - (e + 1)) (by omega) ⟨e + 1, rfl, by omega, hnext, by simp [g0], by simp [g1], by simp [g5], by simp, ?_⟩
            rw [hmx]
        · have hi0 : ¬ i = 0 := fun h => hc (.inl h)
          have hm2 : ¬ 0 ≤ m ∨ (0 ≤ m ∧ ¬ m < (e : Int) - i) := by
            by_cases h : 0 ≤ m
            · exact .inr ⟨h, fun h2 => hc (.inr ⟨h, h2⟩)⟩
            · exact .inl h
          have hwi : IntKind.i64.wrap ((i : Int) - 1) = ((i - 1 : Nat) : Int) := by rw [wrap_i64 (by omega) (by omega)]; omega
          obtain ⟨q, hq⟩ : ∃ q, q = i - 1 := ⟨_, rfl⟩
          rw [← hq] at hwi
          have hql : q < l.length := by omega
          obtain ⟨z, hz⟩ : ∃ z, l[q]? = some z := ⟨_, List.getElem?_eq_getElem hql⟩
          have hgz : l.getD q nothing = z := by rw [List.getD_eq_getElem?_getD, hz]; rfl
          have hzs := numEls_get hz
          obtain ⟨hz1, hz2⟩ := List.getElem?_eq_some_iff.1 hzs
          have hFk : ∀ t, i ≤ t → t < e → F t = z := fun t h1 h2 => by rw [hFr t h1 h2, hkt t h1 h2, if_neg hc, ← hq, hgz]
          rcases hm2 with hm2 | ⟨hm2, hm3⟩
          case' inl => simp [g0, g1, g5, g6, g7, hi0, hwe, hws, hm2]
          case' inr => simp [g0, g1, g5, g6, g7, hi0, hwe, hws, hm2, hm3]
          all_goals
            refine lp_startx (fun x h σ => ∃ k : Nat, x = e - k ∧ i ≤ k ∧ k ≤ e ∧ h 0 = .lst (numEls l) ∧ h 1 = .int .i64 m ∧ h 5 = .row 0 l.length ∧ h 6 = .int .i64 e ∧ h 7 = .int .i64 i ∧ h 8 = .int .i64 k ∧
              σ = [.row 33 2 (numEls (mix l.length F H k)) false]) (e - i) ?_ ?_
            · exact ⟨i, rfl, Nat.le_refl _, by omega, by simp [g0], by simp [g1], by simp [g5], by simp [g6], by simp [g7], by simp [g7], rfl⟩
            rintro x h σ ⟨k, rfl, hik, hke, h0, h1, h5, h6, h7, h8, rfl⟩
            simp [h6, h8]
            refine cb_dec (fun hlk => ?_) (fun hgk => ?_)
            · have hke' : k < e := by omega
              have hkl : k < l.length := by omega
              have hwk : IntKind.i64.wrap ((k : Int) + 1) = (k : Int) + 1 := wrap_i64 (by omega) (by omega)
              have hml := mix_len l.length F H k
              have hma := numEls_get (mix_at F H hkl)
              have hms := mix_set F H hkl
              rw [hFk k hik hke'] at hms
              obtain ⟨M, hM⟩ : ∃ M, M = mix l.length F H k := ⟨_, rfl⟩
              rw [← hM] at hml hma hms
              rw [← hM]
              have hMl : (numEls M).length = l.length := by rw [numEls_len, hml]
              obtain ⟨hm1, hm2⟩ := List.getElem?_eq_some_iff.1 hma
              simp [h0, h5, h7, h8, hlen, hwi, hql, hz1, hz2, hkl, hMl, hm2, hma, hml, splice, hwk]
              refine nx_intro (e - (k + 1)) (by omega) ⟨k + 1, rfl, by omega, by omega, by simp [h0], by simp [h1], by simp [h5], by simp [h6], by simp [h7], by simp, ?_⟩
              rw [← hms, numEls_set]
            · have : k = e := by omega
              subst this
              simp [h6, hwe]
              refine nx_intro (l.length + 1 - (k + 1)) (by omega) ⟨k + 1, rfl, by omega, hnext, by simp [h0], by simp [h1], by simp [h5], by simp, ?_⟩
              rw [mix_skip (a := k) (b := k + 1) (by omega) fun t h1 h2 h3 => by
                have : t = k := by omega
                subst this; exact hFe h3]
      · refine lp_startx (fun x g σ => ∃ e : Nat, x = l.length - e ∧ i ≤ e ∧ e ≤ l.length ∧ (∀ x, i ≤ x → x < e → (l.getD x nothing).1 = true) ∧ g 0 = .lst (numEls l) ∧ g 1 = .int .i64 m ∧ g 5 = .row 0 l.length ∧ g 6 = .int .i64 e ∧ g 7 = .int .i64 i ∧
          σ = [.row 33 2 (numEls (mix l.length F H i)) false]) (l.length - i) ?_ ?_
        · exact ⟨i, rfl, Nat.le_refl _, by omega, fun x h1 h2 => by omega, by simp [f0], by simp [f1], by simp [f5], by simp [f6], by simp, rfl⟩
        rintro x g σ ⟨e, rfl, hie, hel, hrun, g0, g1, g5, g6, g7, rfl⟩
        by_cases hlt2 : e < l.length
        · have hlt2' : (e : Int) < (l.length : Int) := by omega
          obtain ⟨z, hz⟩ : ∃ z, l[e]? = some z := ⟨_, List.getElem?_eq_getElem hlt2⟩
          have hgz : l.getD e nothing = z := by rw [List.getD_eq_getElem?_getD, hz]; rfl
          have hzs := numEls_get hz
          obtain ⟨hz1, hz2⟩ := List.getElem?_eq_some_iff.1 hzs
          have hwe : IntKind.i64.wrap ((e : Int) + 1) = (e : Int) + 1 := wrap_i64 (by omega) (by omega)
          cases hze : z.1 with
          | true =>
            simp [g0, g6, hlen, hlt2, hlt2', hz1, hz2, hze, hwe]
            refine nx_intro (l.length - (e + 1)) (by omega) ⟨e + 1, rfl, by omega, by omega, fun x h1 h2 => ?_, by simp [g0], by simp [g1], by simp [g5], by simp, by simp [g7], rfl⟩
            by_cases hxe : x = e
            · subst hxe; rw [hgz]; exact hze
            · exact hrun x h1 (by omega)
          | false =>
            have hie2 : i < e := by
              rcases Nat.lt_or_ge i e with h | h
              · exact h
              · have : i = e := by omega
                subst this
                rw [hgy] at hgz
                rw [hgz, hze] at hy1; cases hy1
            simp [g0, g6, hlen, hlt2, hlt2', hz1, hz2, hze]
            exact jn_intro ⟨e, hie2, hel, hrun, .inr (by rw [hgz]; exact hze), by simp [g0], by simp [g1], by simp [g5], by simp [g6], by simp [g7], rfl⟩
        · have : e = l.length := by omega
          subst this
          simp [g0, g6, hlen]
          exact jn_intro ⟨l.length, by omega, Nat.le_refl _, hrun, .inl rfl, by simp [g0], by simp [g1], by simp [g5], by simp [g6], by simp [g7], rfl⟩
  · have : l.length ≤ i := by omega
    have hfz := numEls_fz [.row 33 2 (numEls (mix l.length F H i)) false] 0 1 (mix l.length F H i)
    rw [mix_ge this] at *
    simp [f5, hfz, numEls_len]
end Go.Proofs.YtipncibiodfmdaaGreatDoor
end
section
set_option linter.unusedSimpArgs false
set_option linter.unusedVariables false
set_option linter.constructorNameAsVariable false
set_option maxHeartbeats 4000000
namespace Go.Shp
open Go.Num Go.Ser Go.Dec Go.Abs
/-- What is delayed, the first k values laid. -/
def dly (l : List N) (n : Int) (k : Nat) : List N := (List.range l.length).map fun (p : Nat) => if 0 ≤ (p : Int) - n ∧ (p : Int) - n < k then l.getD ((p : Int) - n).toNat nothing else nothing
theorem dly_len (l : List N) (n : Int) (k : Nat) : (dly l n k).length = l.length := by simp [dly]
theorem dly_end (l : List N) (n : Int) : dly l n l.length = (List.range l.length).map fun i => aheadN l i n := by
  unfold dly aheadN
  apply List.map_congr_left
  intro i _
  by_cases h : (i : Int) < n ∨ n ≤ (i : Int) - l.length
  · rw [if_pos h, if_neg (by omega)]
  · rw [if_neg h, if_pos (by omega)]
theorem dly_zero (l : List N) (n : Int) : dly l n 0 = List.replicate l.length nothing := by
  apply List.ext_getElem
  · simp [dly]
  intro i h1 h2
  simp only [dly, List.getElem_map, List.getElem_range, List.getElem_replicate]
  rw [if_neg (by omega)]
theorem dly_set {l : List N} {n : Int} {k t : Nat} (hk : k < l.length) (ht : (t : Int) = k + n) (hl : t < l.length) : (dly l n k).set t (l.getD k nothing) = dly l n (k + 1) := by
  apply List.ext_getElem
  · simp [dly]
  intro i h1 h2
  simp only [dly, List.getElem_set, List.getElem_map, List.getElem_range]
  by_cases he : t = i
  · subst he
    rw [if_pos rfl, if_pos (by omega)]
    congr 1; omega
  · rw [if_neg he]
    by_cases h : 0 ≤ (i : Int) - n ∧ (i : Int) - n < k
    · rw [if_pos h, if_pos (by omega)]
    · rw [if_neg h, if_neg (by omega)]
theorem dly_skip {l : List N} {n : Int} {k : Nat} (h : ¬ (0 ≤ (k : Int) + n ∧ (k : Int) + n < l.length)) : dly l n (k + 1) = dly l n k := by
  unfold dly
  apply List.map_congr_left
  intro i hi
  have := List.mem_range.1 hi
  by_cases h2 : 0 ≤ (i : Int) - n ∧ (i : Int) - n < k
  · rw [if_pos h2, if_pos (by omega)]
  · rw [if_neg h2, if_neg (by omega)]
end Go.Shp
namespace Go.Proofs.YtipncibiodfmdaaGreatDoor
open Go.Abs Go.Num Go.Ser Go.Dec Go.Shp
variable {G : Globs}
theorem mulU_ok (x y : Nat) (hx : x < 18446744073709551616) (hy : y < 18446744073709551616) : PCalls Tryz.prog n_math_bits_Mul [.int .u64 x, .int .u64 y] (fun r => r = .tup [.int .u64 ((x * y / 18446744073709551616 : Nat) : Int), .int .u64 ((x * y % 18446744073709551616 : Nat) : Int)]) := by
  refine pcalls_of_awp hmix c_math_bits_Mul rfl ?_
  have hw1 : IntKind.u64.wrap ((x * y / 18446744073709551616 : Nat) : Int) = ((x * y / 18446744073709551616 : Nat) : Int) := by
    rw [wrap_u]
    have : x * y / 18446744073709551616 < 18446744073709551616 := by
      have h1 : x * y ≤ x * 18446744073709551615 := Nat.mul_le_mul_left x (by omega)
      omega
    omega
  have hw2 : IntKind.u64.wrap ((x * y % 18446744073709551616 : Nat) : Int) = ((x * y % 18446744073709551616 : Nat) : Int) := by rw [wrap_u]; omega
  obtain ⟨h, hh⟩ : ∃ h, h = x * y / 18446744073709551616 := ⟨_, rfl⟩
  obtain ⟨l, hl⟩ : ∃ l, l = x * y % 18446744073709551616 := ⟨_, rfl⟩
  have kM := mul64_ok (G := G) x y hx hy
  rw [← hh, ← hl] at kM ⊢
  rw [← hh] at hw1
  rw [← hl] at hw2
  have wx : IntKind.u64.wrap (x : Int) = (x : Int) := by rw [wrap_u]; omega
  have wy : IntKind.u64.wrap (y : Int) = (y : Int) := by rw [wrap_u]; omega
  simp [a_math_bits_Mul, wx, wy]
  refine ac_same kM (by simp) ?_
  rintro r rfl
  simp [hw1, hw2]
def repR (n k : Nat) : List (List AV) := List.replicate k [AV.bool true, AV.int .i64 0] ++ List.replicate (n - k) [AV.bool false, AV.int .i64 0]
theorem repR_len {n k : Nat} (h : k ≤ n) : (repR n k).length = n := by simp [repR]; omega
theorem repR_take (n k : Nat) : (repR n k).take k = List.replicate k [AV.bool true, AV.int .i64 0] := by
  unfold repR
  exact List.take_left' (by simp)
theorem repR_step {n k : Nat} (h : k ≤ n) : (repR n k).take k ++ (List.replicate k [AV.bool true, AV.int .i64 0]).take (n - k) ++ (repR n k).drop (k + min k (n - k)) = repR n (k + min k (n - k)) := by
  rw [repR_take, List.take_replicate]
  unfold repR
  rw [List.drop_append]
  simp only [List.length_replicate]
  rw [show k + min k (n - k) - k = min k (n - k) by omega, List.drop_replicate, List.drop_replicate, show k - (k + min k (n - k)) = 0 by omega, List.replicate_zero, List.nil_append, Nat.min_comm (n - k) k, List.replicate_append_replicate]
  congr 2
  omega
theorem repR_zero (n : Nat) : List.replicate n [AV.bool false, AV.int .i64 0] = repR n 0 := by simp [repR]
theorem repR_one (n : Nat) : [[AV.bool true, AV.int .i64 0]].take n ++ (repR n 0).drop (min 1 n) = repR n (min 1 n) := by
  cases n with
  | zero => simp [repR]
  | succ n => simp [repR, List.replicate_succ]
theorem repR_end (n : Nat) : repR n n = numEls (List.replicate n nothing) := by simp [repR, numEls, nothing]
theorem repeat_ok (n : Nat) (hn : n ≤ 100000) : ACalls Tryz.prog n_slices_Repeat_api_Num_api_Num [.lst [[.bool true, .int .i64 0]], .int .i64 n] [] (fun r σ' => r = .row 0 n ∧ σ' = [.row 33 2 (numEls (List.replicate n nothing)) false]) := by
  refine acalls_of_awp_e hmix c_slices_Repeat_api_Num_api_Num rfl ?_
  have kM := mulU_ok (G := G) 1 n (by decide) (by omega)
  have e1 : 1 * n / 18446744073709551616 = 0 := by omega
  have e2 : 1 * n % 18446744073709551616 = n := by omega
  rw [e1, e2] at kM
  have w1 : IntKind.u64.wrap (n : Int) = (n : Int) := by rw [wrap_u]; omega
  have w2 : IntKind.i64.wrap (n : Int) = (n : Int) := wrap_i64 (by omega) (by omega)
  have w3 : IntKind.u64.wrap 1 = 1 := by decide
  have h0 : ¬ (n : Int) < 0 := by omega
  have h9 : ¬ (9223372036854775807 : Int) < (n : Int) := by omega
  have h9' : ¬ 9223372036854775807 < n := by omega
  simp [a_slices_Repeat_api_Num_api_Num, h0, w1, w3]
  refine ac_same kM (by simp) ?_
  rintro r rfl
  simp [h9, h9', w2]
  refine ms_intro n rfl rfl (by omega) (by omega) (by decide) rfl ?_
  rw [repR_zero]
  have hl0 := repR_len (n := n) (Nat.zero_le n)
  simp
  refine cp_intro [[.bool true, .int .i64 0]] (min 1 n) (σ' := [.row 33 2 (repR n (min 1 n)) false]) rfl (by simp) (by decide) ?_ ?_
  · simp [cpyAt, hl0]
    have := repR_one n
    simpa using this
  simp
  refine lp_startx (fun x f σ => ∃ k : Nat, x = n - k ∧ k ≤ n ∧ (1 ≤ k ∨ n = 0) ∧ f 7 = .row 0 n ∧ f 8 = .int .i64 k ∧ σ = [.row 33 2 (repR n k) false]) (n - min 1 n) ?_ ?_
  · exact ⟨min 1 n, rfl, by omega, by omega, by simp, by simp, rfl⟩
  rintro x f σ ⟨k, rfl, hk, hk1, f7, f8, rfl⟩
  have hl := repR_len hk
  simp [f7, f8, hl]
  refine cb_dec (fun hlt => ?_) (fun hge => ?_)
  · have hlt' : k < n := by omega
    have hn0 : 0 < n := by omega
    have hm : 1 ≤ min k (n - k) := by omega
    obtain ⟨d, hd⟩ : ∃ d, d = min k (n - k) := ⟨_, rfl⟩
    have hw : IntKind.i64.wrap ((k : Int) + d) = ((k + d : Nat) : Int) := by rw [wrap_i64 (by omega) (by omega)]; omega
    have hkn : k ≤ n := by omega
    simp [f7, f8, hl, hn0, hkn]
    refine cp_intro (List.replicate k [.bool true, .int .i64 0]) d (σ' := [.row 33 2 (repR n (k + d)) false]) ?_ (by simp) (by decide) ?_ ?_
    · simp [hl, repR_take]
    · have := repR_step hkn
      rw [← hd] at this
      simp only [cpyAt, List.getElem?_cons_zero, hl, List.length_replicate]
      rw [if_pos ⟨trivial, trivial, trivial, hkn, Nat.le_refl _⟩]
      simp only [← hd, List.set_cons_zero]
      rw [this]
    simp [hw]
    refine nx_intro (n - (k + d)) (by omega) ⟨k + d, rfl, by omega, by omega, by simp [f7], by simp, rfl⟩
  · have : k = n := by omega
    subst this
    simp [f7, repR_end]
    refine er_keep [.row 33 2 (numEls (List.replicate k nothing)) false] (.row 0 k) (by simp [tupOf, f7]) [] (by simp) (by simp) (by simp [AV.under]) (fun i e he => ?_) ⟨rfl, rfl⟩
    right
    match i, he with
    | 0, he =>
      simp only [List.getElem?_cons_zero, Option.some.injEq] at he
      subst he
      exact row_under (numEls_pure _)
    | i + 1, he => simp at he
theorem delay_ok (l : List N) (n : Int) (hl : l.length ≤ 100000) (ho : oksN l) (hn0 : -1125899906842624 ≤ n) (hn1 : n ≤ 1125899906842624) :
    PCalls Tryz.prog n_shape_delay [.lst (numEls l), .int .i64 n] (fun r => r = .lst (numEls ((List.range l.length).map fun i => aheadN l i n))) := by
  refine pcalls_of_awp hmix c_shape_delay rfl ?_
  have hlen := numEls_len l
  rw [← dly_end]
  simp [a_shape_delay]
  refine ac_same shNothing_ok (by simp) ?_
  rintro r rfl
  simp [numA, nothing, lay, splice, chunks, hlen]
  refine ac_eff (repeat_ok l.length hl) ?_
  rintro r σ' ⟨rfl, rfl⟩
  simp [hlen]
  refine lp_startx (fun x f σ => ∃ (k : Nat) (t : Store), x = l.length - k ∧ k ≤ l.length ∧ f 0 = .lst (numEls l) ∧ f 1 = .int .i64 n ∧ f 5 = .row 0 l.length ∧ f 14 = .lst (numEls l) ∧ f 15 = .int .i64 l.length ∧ f 16 = .int .i64 k ∧
    σ = .row 33 2 (numEls (dly l n k)) false :: t) l.length ?_ ?_
  · exact ⟨0, [], rfl, by omega, by simp, by simp, by simp, by simp, by simp [hlen], by simp, by rw [dly_zero]⟩
  rintro x f σ ⟨k, t, rfl, hk, f0, f1, f5, f14, f15, f16, rfl⟩
  simp [f15, f16]
  refine cb_dec (fun hlt => ?_) (fun hge => ?_)
  · have hlt' : k < l.length := by omega
    obtain ⟨y, hy⟩ : ∃ y, l[k]? = some y := ⟨_, List.getElem?_eq_getElem hlt'⟩
    have hse := numEls_get hy
    obtain ⟨hx1, hx2⟩ := List.getElem?_eq_some_iff.1 hse
    have hw : IntKind.i64.wrap ((k : Int) + 1) = (k : Int) + 1 := wrap_i64 (by omega) (by omega)
    have hw2 : IntKind.i64.wrap ((k : Int) + n) = (k : Int) + n := wrap_i64 (by omega) (by omega)
    have hgy : l.getD k nothing = y := by rw [List.getD_eq_getElem?_getD, hy]; rfl
    by_cases h0 : 0 ≤ (k : Int) + n
    · by_cases h1 : (k : Int) + n < l.length
      · obtain ⟨p, hp⟩ := Int.eq_ofNat_of_zero_le h0
        have hpl : p < l.length := by omega
        have hst := dly_set (l := l) (n := n) hlt' hp.symm hpl
        rw [hgy] at hst
        have hdl := dly_len l n k
        obtain ⟨M, hM⟩ : ∃ M, M = dly l n k := ⟨_, rfl⟩
        rw [← hM] at hst hdl
        rw [← hM]
        obtain ⟨z, hz⟩ : ∃ z, M[p]? = some z := ⟨_, List.getElem?_eq_getElem (by omega)⟩
        have hma := numEls_get hz
        have hMl : (numEls M).length = l.length := by rw [numEls_len, hdl]
        obtain ⟨hm1, hm2⟩ := List.getElem?_eq_some_iff.1 hma
        have hpl' : (p : Int) < (l.length : Int) := by omega
        have hp0 : (0 : Int) ≤ (p : Int) := by omega
        rw [hp] at hw2
        simp [f0, f1, f5, f14, f16, hlen, hx1, hx2, hlt', hp, hw2, hw, hpl, hpl', hMl, hm2, hma, splice]
        refine nx_intro (l.length - (k + 1)) (by omega) ⟨k + 1, t ++ [.var 33 [.bool y.1, .int .i64 y.2]], rfl, by omega, by simp [f0], by simp [f1], by simp [f5], by simp [f14], by simp [f15], by simp, ?_⟩
        rw [← hst, ← numEls_set]
      · have hsk := dly_skip (l := l) (n := n) (k := k) (by omega)
        simp [f0, f1, f5, f14, f16, hlen, hx1, hx2, hlt', hw2, hw, h0, h1]
        refine nx_intro (l.length - (k + 1)) (by omega) ⟨k + 1, t ++ [.var 33 [.bool y.1, .int .i64 y.2]], rfl, by omega, by simp [f0], by simp [f1], by simp [f5], by simp [f14], by simp [f15], by simp, ?_⟩
        rw [hsk]
    · have hsk := dly_skip (l := l) (n := n) (k := k) (by omega)
      simp [f0, f1, f5, f14, f16, hlen, hx1, hx2, hlt', hw2, hw, h0]
      refine nx_intro (l.length - (k + 1)) (by omega) ⟨k + 1, t ++ [.var 33 [.bool y.1, .int .i64 y.2]], rfl, by omega, by simp [f0], by simp [f1], by simp [f5], by simp [f14], by simp [f15], by simp, ?_⟩
      rw [hsk]
  · have : k = l.length := by omega
    subst this
    have hfz := numEls_fz (.row 33 2 (numEls (dly l n l.length)) false :: t) 0 1 (dly l n l.length)
    simp [f5, hfz, numEls_len, dly_len]
end Go.Proofs.YtipncibiodfmdaaGreatDoor
end
section
set_option linter.unusedSimpArgs false
set_option linter.unusedVariables false
set_option linter.constructorNameAsVariable false
set_option maxHeartbeats 4000000
namespace Go.Shp
open Go.Num Go.Ser Go.Dec Go.Abs
def aloneW : List Wd := [.absolute, .negate, .squareRoot, .invert, .scale, .offset, .isNonNull, .transformNull, .removeAboveValue, .removeBelowValue, .clamp, .round]
/-- What becomes of a value by itself. -/
def oneF (w : Wd) (args : List N) (n : Int) (v : N) : N := match w with
  | .absolute => absN v
  | .negate => negN v
  | .squareRoot => rootN v
  | .invert => divN oneN v
  | .scale => mulN v (argN args 0)
  | .offset => addN v (argN args 0)
  | .isNonNull => if v.1 then zeroN else oneN
  | .transformNull => if v.1 then (if args = [] then zeroN else argN args 0) else v
  | .removeAboveValue => if 0 < cmpN v (argN args 0) then nothing else v
  | .removeBelowValue => if cmpN v (argN args 0) < 0 then nothing else v
  | .clamp => if v.1 then v else if cmpN v (argN args 0) < 0 then argN args 0 else if 0 < cmpN v (argN args 1) then argN args 1 else v
  | .round => roundN v n
  | _ => v
theorem oneF_value {w : Wd} (h : w ∈ aloneW) (s : Sr) (args : List N) (n : Int) (i : Nat) : valueW w s args n i = oneF w args n (s.vals.getD i nothing) := by
  revert h
  cases w <;> simp [aloneW, valueW, oneF]
end Go.Shp
namespace Go.Proofs.YtipncibiodfmdaaGreatDoor
open Go.Abs Go.Num Go.Ser Go.Dec Go.Shp
variable {G : Globs}
theorem kOne : PCalls Tryz.prog n_fixed_Int [.int .i64 1] (fun r => r = .agg [.bool false, .int .i64 1000000]) := by
  have kI := fInt_ok (G := G) 1 (by decide) (by decide)
  rw [one_tell] at kI
  exact kI
theorem kZero : PCalls Tryz.prog n_fixed_Int [.int .i64 0] (fun r => r = .agg [.bool false, .int .i64 0]) := by
  have kI := fInt_ok (G := G) 0 (by decide) (by decide)
  have hz : tell (0 * 1000000) = zeroN := by decide
  rw [hz] at kI
  exact kI
theorem alone1_ok (v : N) (hv : okN v) : PCalls Tryz.prog n_shape_alone_1 [numA v] (fun r => r = numA (divN oneN v)) := by
  refine pcalls_of_awp hmix c_shape_alone_1 rfl ?_
  have k := fDiv_ok (G := G) oneN v (by unfold okN oneN; decide) hv
  obtain ⟨R, hR⟩ : ∃ R, R = divN oneN v := ⟨_, rfl⟩
  rw [← hR] at k ⊢
  rw [numA_eq oneN, numA_eq v, numA_eq R] at k
  rw [numA_eq v]
  simp [a_shape_alone_1]
  refine qc_same kOne (by simp) (by simp) ?_
  simp
  refine qc_same k (by simp) (by simp) ?_
  simp [splice, numA]
theorem alone2_ok (a : N) (rest : List N) (ha : okN a) (v : N) (hv : okN v) : PCalls Tryz.prog n_shape_alone_2 [numA v, .rptr [.lst (numEls (a :: rest))]] (fun r => r = numA (mulN v a)) := by
  refine pcalls_of_awp hmix c_shape_alone_2 rfl ?_
  have k := fMul_ok (G := G) v a hv ha
  obtain ⟨R, hR⟩ : ∃ R, R = mulN v a := ⟨_, rfl⟩
  rw [← hR] at k ⊢
  rw [numA_eq v, numA_eq a, numA_eq R] at k
  rw [numA_eq v, numEls_cons]
  simp [a_shape_alone_2]
  refine qc_same k (by simp) (by simp) ?_
  simp [splice, numA]
theorem alone3_ok (a : N) (rest : List N) (ha : okN a) (v : N) (hv : okN v) : PCalls Tryz.prog n_shape_alone_3 [numA v, .rptr [.lst (numEls (a :: rest))]] (fun r => r = numA (addN v a)) := by
  refine pcalls_of_awp hmix c_shape_alone_3 rfl ?_
  have k := fAdd_ok (G := G) v a hv ha
  obtain ⟨R, hR⟩ : ∃ R, R = addN v a := ⟨_, rfl⟩
  rw [← hR] at k ⊢
  rw [numA_eq v, numA_eq a, numA_eq R] at k
  rw [numA_eq v, numEls_cons]
  simp [a_shape_alone_3]
  refine qc_same k (by simp) (by simp) ?_
  simp [splice, numA]
theorem alone4_ok (v : N) : PCalls Tryz.prog n_shape_alone_4 [numA v] (fun r => r = numA (if v.1 then zeroN else oneN)) := by
  refine pcalls_of_awp hmix c_shape_alone_4 rfl ?_
  rw [numA_eq v]
  cases h : v.1 with
  | true =>
    simp [a_shape_alone_4]
    refine ac_same kZero (by simp) ?_
    rintro r rfl
    simp [splice, numA, zeroN]
  | false =>
    simp [a_shape_alone_4]
    refine ac_same kOne (by simp) ?_
    rintro r rfl
    simp [splice, numA, oneN]
theorem alone5_ok (d v : N) : PCalls Tryz.prog n_shape_alone_5 [numA v, .rptr [.bool d.1, .int .i64 d.2]] (fun r => r = numA (if v.1 then d else v)) := by
  refine pcalls_of_awp hmix c_shape_alone_5 rfl ?_
  rw [numA_eq v]
  cases h : v.1 with
  | true => simp [a_shape_alone_5, splice, numA]
  | false => simp [a_shape_alone_5, splice, numA, h]
theorem alone6_ok (a : N) (rest : List N) (v : N) : PCalls Tryz.prog n_shape_alone_6 [numA v, .rptr [.lst (numEls (a :: rest))]] (fun r => r = .bool (decide (0 < cmpN v a))) := by
  refine pcalls_of_awp hmix c_shape_alone_6 rfl ?_
  have k := fCmp_ok (G := G) v a
  rw [numA_eq v, numA_eq a] at k
  rw [numA_eq v, numEls_cons]
  simp [a_shape_alone_6]
  refine qc_same k (by simp) (by simp) ?_
  simp
theorem alone7_ok (a : N) (rest : List N) (v : N) : PCalls Tryz.prog n_shape_alone_7 [numA v, .rptr [.lst (numEls (a :: rest))]] (fun r => r = .bool (decide (cmpN v a < 0))) := by
  refine pcalls_of_awp hmix c_shape_alone_7 rfl ?_
  have k := fCmp_ok (G := G) v a
  rw [numA_eq v, numA_eq a] at k
  rw [numA_eq v, numEls_cons]
  simp [a_shape_alone_7]
  refine qc_same k (by simp) (by simp) ?_
  simp
theorem clamp_ok (v a b : N) : PCalls Tryz.prog n_shape_clamp [numA v, numA a, numA b] (fun r => r = numA (if v.1 then v else if cmpN v a < 0 then a else if 0 < cmpN v b then b else v)) := by
  refine pcalls_of_awp hmix c_shape_clamp rfl ?_
  have k1 := fCmp_ok (G := G) v a
  have k2 := fCmp_ok (G := G) v b
  obtain ⟨c, hc⟩ : ∃ c, c = cmpN v a := ⟨_, rfl⟩
  obtain ⟨d, hd⟩ : ∃ d, d = cmpN v b := ⟨_, rfl⟩
  rw [← hc] at k1 ⊢
  rw [← hd] at k2 ⊢
  rw [numA_eq v, numA_eq a] at k1
  rw [numA_eq v, numA_eq b] at k2
  rw [numA_eq v, numA_eq a, numA_eq b]
  cases h : v.1 with
  | true => simp [a_shape_clamp, splice, numA, h]
  | false =>
    rw [h] at k1 k2
    simp [a_shape_clamp]
    refine ac_same k1 (by simp) ?_
    rintro r rfl
    by_cases h1 : c < 0
    · simp [h1, splice, numA]
    · simp [h1]
      refine ac_same k2 (by simp) ?_
      rintro r rfl
      by_cases h2 : 0 < d
      · simp [h1, h2, splice, numA]
      · simp [h1, h2, splice, numA, h]
theorem alone8_ok (a b : N) (rest : List N) (v : N) : PCalls Tryz.prog n_shape_alone_8 [numA v, .rptr [.lst (numEls (a :: b :: rest))]] (fun r => r = numA (if v.1 then v else if cmpN v a < 0 then a else if 0 < cmpN v b then b else v)) := by
  refine pcalls_of_awp hmix c_shape_alone_8 rfl ?_
  have k := clamp_ok (G := G) v a b
  obtain ⟨R, hR⟩ : ∃ R, R = (if v.1 then v else if cmpN v a < 0 then a else if 0 < cmpN v b then b else v) := ⟨_, rfl⟩
  rw [← hR] at k ⊢
  rw [numA_eq v, numA_eq a, numA_eq b, numA_eq R] at k
  rw [numA_eq v, numEls_cons, numEls_cons]
  simp [a_shape_alone_8]
  refine qc_same k (by simp) (by simp) ?_
  simp [splice, numA]
theorem alone9_ok (d : Int) (v : N) (hv : okN v) : PCalls Tryz.prog n_shape_alone_9 [numA v, .rptr [.int .i64 d]] (fun r => r = numA (roundN v d)) := by
  refine pcalls_of_awp hmix c_shape_alone_9 rfl ?_
  have k := fRound_ok (G := G) v hv d
  obtain ⟨R, hR⟩ : ∃ R, R = roundN v d := ⟨_, rfl⟩
  rw [← hR] at k ⊢
  rw [numA_eq v, numA_eq R] at k
  rw [numA_eq v]
  simp [a_shape_alone_9]
  refine ac_same k (by simp) ?_
  rintro r rfl
  simp [splice, numA]
theorem unless1_ok (gid : Nat) (caps : List AV) (hb : hasBody Tryz.prog gid = true) (v : N) (b : Bool) (hcp : caps.all AV.pure = true) (hc : PCalls Tryz.prog gid ([numA v] ++ caps) (fun r => r = .bool b)) : PCalls Tryz.prog n_shape_unless_1 [numA v, .rptr [.fn (.func gid) [] caps]] (fun r => r = numA (if b then nothing else v)) := by
  refine pcalls_of_awp hmix c_shape_unless_1 rfl ?_
  rw [numA_eq v] at hc ⊢
  simp [a_shape_unless_1]
  refine cv_fn hb ?_
  refine ac_same hc (by simpa using hcp) ?_
  rintro r rfl
  cases b with
  | true =>
    simp
    refine ac_same shNothing_ok (by simp) ?_
    rintro r rfl
    simp [splice, numA]
  | false => simp [splice, numA]
theorem unless_ok (σ : Store) (V : AV) (h1 : V.one = true) (h2 : V.cells = [V]) (h3 : V.under (σ.length + 1) = true) : ACalls Tryz.prog n_shape_unless [V] σ (fun r σ' => r = .fn (.func n_shape_unless_1) [] [.ptr σ.length 0] ∧ σ' = σ ++ [.var 70 [V]]) := by
  refine acalls_of_awp_e hmix c_shape_unless rfl ?_
  simp [a_shape_unless, boxOp, h1, h2]
  refine er_keep (σ ++ [.var 70 [V]]) (.fn (.func n_shape_unless_1) [] [.ptr σ.length 0]) (by simp [tupOf]) [] (by simp) (by simp) (by simp [AV.under]) (fun i e he => ?_) ⟨rfl, rfl⟩
  by_cases hi : i < σ.length
  · rw [List.getElem?_append_left hi] at he; exact .inl he
  · right
    rw [List.getElem?_append_right (by omega)] at he
    have h0 : i - σ.length = 0 := by have := (List.getElem?_eq_some_iff.1 he).1; simp at this; omega
    rw [h0] at he
    simp at he; subst he
    simp [Entry.under, h3]
/-- A function value of one number. -/
def OneV [Globs] (m : Nat) (σ : Store) (V : AV) (g : N → N) : Prop := ∃ (gid : Nat) (caps caps' : List AV), V = .fn (.func gid) [] caps ∧ hasBody Tryz.prog gid = true ∧ (∀ τ : Store, (∀ i, m ≤ i → i < σ.length → τ[i]? = σ[i]?) → CoeL τ true caps caps') ∧ ∀ a, okN a → PCalls Tryz.prog gid ([numA a] ++ caps') (fun r => r = numA (g a))
end Go.Proofs.YtipncibiodfmdaaGreatDoor
end
section
set_option linter.unusedSimpArgs false
set_option linter.unusedVariables false
set_option linter.constructorNameAsVariable false
set_option maxHeartbeats 4000000
namespace Go.Proofs.YtipncibiodfmdaaGreatDoor
open Go.Abs Go.Num Go.Ser Go.Dec Go.Shp
variable {G : Globs}
/-- What 'alone' asks of its arguments. -/
def aloneOk (w : Wd) (args : List N) (n : Int) : Prop := w.takes.1 ≤ args.length ∧ args.length ≤ w.takes.2 ∧ (w = .round → ∀ a r, args = a :: r → wholeS a 0 6 = some n)
theorem under_app (σ t : Store) (h : ∀ e ∈ t, e.under (σ.length + t.length) = true) : ∀ (i : Nat) (e : Entry), (σ ++ t)[i]? = some e → σ[i]? = some e ∨ e.under (σ ++ t).length = true := by
  intro i e he
  by_cases hi : i < σ.length
  · rw [List.getElem?_append_left hi] at he; exact .inl he
  · right
    rw [List.getElem?_append_right (by omega)] at he
    rw [List.length_append]
    exact h e (List.mem_of_getElem? he)
theorem alone_ok (w : Wd) (hw : w ∈ aloneW) (args : List N) (ho : oksN args) (n : Int) (hA : aloneOk w args n) (σ : Store) :
    ACalls Tryz.prog n_shape_alone [.str w.txt, .lst (numEls args)] σ (fun r σ' => (∃ t, σ' = σ ++ t) ∧ OneV σ.length σ' r (oneF w args n)) := by
  obtain ⟨hA1, hA2, hA3⟩ := hA
  have arg1 : w.takes = (1, 1) → ∃ a, args = [a] := fun h => by
    rw [h] at hA1 hA2
    match args, hA1, hA2 with
    | [a], _, _ => exact ⟨a, rfl⟩
  have arg2 : w.takes = (2, 2) → ∃ a b, args = [a, b] := fun h => by
    rw [h] at hA1 hA2
    match args, hA1, hA2 with
    | [a, b], _, _ => exact ⟨a, b, rfl⟩
  refine acalls_of_awp_e hmix c_shape_alone rfl ?_
  have hbox : Entry.under (σ.length + 1) (.var 22 [.lst (numEls args)]) = true := by simp [Entry.under, AV.under]
  have u1 := under_app σ [.var 22 [.lst (numEls args)]] (by simp; exact hbox)
  have fin0 : ∀ (g : Nat) (f : Abs.Frame) (tf : Tg f) (R : AV → Store → Prop) (t : Tg R), f 4 = .fn (.func g) [] [] → R (.fn (.func g) [] []) (σ ++ [.var 22 [.lst (numEls args)]]) → er σ R t [(4, none)] f tf (σ ++ [.var 22 [.lst (numEls args)]]) := by
    intro g f tf R t h4 hR
    exact er_keep (σ ++ [.var 22 [.lst (numEls args)]]) (.fn (.func g) [] []) (by simp [tupOf, h4]) [] (by simp) (by simp) (by simp [AV.under]) u1 hR
  have fin1 : ∀ (g : Nat) (f : Abs.Frame) (tf : Tg f) (R : AV → Store → Prop) (t : Tg R), f 4 = .fn (.func g) [] [.ptr σ.length 0] → R (.fn (.func g) [] [.ptr σ.length 0]) (σ ++ [.var 22 [.lst (numEls args)]]) → er σ R t [(4, none)] f tf (σ ++ [.var 22 [.lst (numEls args)]]) := by
    intro g f tf R t h4 hR
    exact er_keep (σ ++ [.var 22 [.lst (numEls args)]]) (.fn (.func g) [] [.ptr σ.length 0]) (by simp [tupOf, h4]) [] (by simp) (by simp) (by simp [AV.under]) u1 hR
  have coe1 : ∀ τ : Store, (∀ i, σ.length ≤ i → i < (σ ++ [Entry.var 22 [.lst (numEls args)]]).length → τ[i]? = (σ ++ [Entry.var 22 [.lst (numEls args)]])[i]?) → CoeL τ true [.ptr σ.length 0] [.rptr [.lst (numEls args)]] := fun τ h => .cons (coe_ptr (t := 22) (by rw [h _ (Nat.le_refl _) (by simp)]; simp) (by simp) (by simp)) .nil
  cases w <;> first | (exfalso; revert hw; decide) | skip
  case absolute =>
    simp [a_shape_alone, Wd.txt]
    exact fin0 n_fixed_Abs _ _ _ _ (by simp) ⟨⟨_, rfl⟩, n_fixed_Abs, [], [], rfl, b_fixed_Abs, fun τ _ => .nil, fun a ha => by simpa [oneF] using fAbs_ok (G := G) a ha⟩
  case negate =>
    simp [a_shape_alone, Wd.txt]
    exact fin0 n_fixed_Neg _ _ _ _ (by simp) ⟨⟨_, rfl⟩, n_fixed_Neg, [], [], rfl, b_fixed_Neg, fun τ _ => .nil, fun a ha => by simpa [oneF] using fNeg_ok (G := G) a ha⟩
  case squareRoot =>
    simp [a_shape_alone, Wd.txt]
    exact fin0 n_fixed_Root _ _ _ _ (by simp) ⟨⟨_, rfl⟩, n_fixed_Root, [], [], rfl, b_fixed_Root, fun τ _ => .nil, fun a ha => by simpa [oneF] using fRoot_ok (G := G) a ha⟩
  case invert =>
    simp [a_shape_alone, Wd.txt]
    exact fin0 n_shape_alone_1 _ _ _ _ (by simp) ⟨⟨_, rfl⟩, n_shape_alone_1, [], [], rfl, b_shape_alone_1, fun τ _ => .nil, fun a ha => by simpa [oneF] using alone1_ok (G := G) a ha⟩
  case isNonNull =>
    simp [a_shape_alone, Wd.txt]
    exact fin0 n_shape_alone_4 _ _ _ _ (by simp) ⟨⟨_, rfl⟩, n_shape_alone_4, [], [], rfl, b_shape_alone_4, fun τ _ => .nil, fun a ha => by simpa [oneF] using alone4_ok (G := G) a⟩
  case scale =>
    obtain ⟨a, rfl⟩ := arg1 rfl
    simp [a_shape_alone, Wd.txt]
    exact fin1 n_shape_alone_2 _ _ _ _ (by simp) ⟨⟨_, rfl⟩, n_shape_alone_2, _, _, rfl, b_shape_alone_2, coe1, fun v hv => by simpa [oneF, argN] using alone2_ok (G := G) a [] (ho a (by simp)) v hv⟩
  case offset =>
    obtain ⟨a, rfl⟩ := arg1 rfl
    simp [a_shape_alone, Wd.txt]
    exact fin1 n_shape_alone_3 _ _ _ _ (by simp) ⟨⟨_, rfl⟩, n_shape_alone_3, _, _, rfl, b_shape_alone_3, coe1, fun v hv => by simpa [oneF, argN] using alone3_ok (G := G) a [] (ho a (by simp)) v hv⟩
  case clamp =>
    obtain ⟨a, b, rfl⟩ := arg2 rfl
    simp [a_shape_alone, Wd.txt]
    exact fin1 n_shape_alone_8 _ _ _ _ (by simp) ⟨⟨_, rfl⟩, n_shape_alone_8, _, _, rfl, b_shape_alone_8, coe1, fun v hv => by simpa [oneF, argN] using alone8_ok (G := G) a b [] v⟩
  case transformNull =>
    simp [a_shape_alone, Wd.txt]
    refine ac_same kZero (by simp) ?_
    rintro r rfl
    have hlen := numEls_len args
    have key : ∀ d : N, oneF .transformNull args n = (fun v => if v.1 then d else v) → ∀ (f : Abs.Frame) (tf : Tg f) (R : AV → Store → Prop) (t : Tg R), (R = fun r σ' => (∃ t, σ' = σ ++ t) ∧ OneV σ.length σ' r (oneF .transformNull args n)) → f 4 = .fn (.func n_shape_alone_5) [] [.ptr (σ.length + 1) 0] →
        er σ R t [(4, none)] f tf (σ ++ [.var 22 [.lst (numEls args)], .var 33 [.bool d.1, .int .i64 d.2]]) := by
      rintro d hd f tf R t rfl h4
      refine er_keep (σ ++ [.var 22 [.lst (numEls args)], .var 33 [.bool d.1, .int .i64 d.2]]) (.fn (.func n_shape_alone_5) [] [.ptr (σ.length + 1) 0]) (by simp [tupOf, h4]) [] (by simp) (by simp) (by simp [AV.under]) (under_app σ _ (by simp [Entry.under, AV.under])) ⟨⟨_, rfl⟩, n_shape_alone_5, _, _, rfl, b_shape_alone_5, fun τ h => .cons (coe_ptr (t := 33) (cells := [.bool d.1, .int .i64 d.2]) (by rw [h _ (by omega) (by simp)]; simp) (by simp) (by simp)) .nil, fun v hv => ?_⟩
      rw [hd]
      simpa using alone5_ok (G := G) d v
    cases args with
    | nil =>
      simp [splice, numEls]
      exact key zeroN (by funext v; simp [oneF]) _ _ _ _ rfl (by simp)
    | cons a rest =>
      simp only [List.length_cons] at hlen
      simp [splice, numEls_cons]
      have hk := key a (by funext v; simp [oneF, argN])
      rw [numEls_cons] at hk
      exact hk _ _ _ _ rfl (by simp)
  case removeAboveValue =>
    obtain ⟨a, rfl⟩ := arg1 rfl
    simp [a_shape_alone, Wd.txt]
    refine ac_eff (unless_ok (σ ++ [.var 22 [.lst (numEls [a])]]) (.fn (.func n_shape_alone_6) [] [.ptr σ.length 0]) rfl rfl (by simp [AV.under]; omega)) ?_
    rintro r σ' ⟨rfl, rfl⟩
    simp
    refine er_keep (σ ++ [.var 22 [.lst (numEls [a])], .var 70 [.fn (.func n_shape_alone_6) [] [.ptr σ.length 0]]]) (.fn (.func n_shape_unless_1) [] [.ptr (σ.length + 1) 0]) (by simp [tupOf]) [] (by simp) (by simp) (by simp [AV.under]) (under_app σ _ (by simp [Entry.under, AV.under])) ⟨⟨_, rfl⟩, n_shape_unless_1, _, [.rptr [.fn (.func n_shape_alone_6) [] [.rptr [.lst (numEls [a])]]]], rfl, b_shape_unless_1, fun τ h => .cons ?_ .nil, fun v hv => ?_⟩
    · exact Coe.ptr (σ.length + 1) 0 70 [.fn (.func n_shape_alone_6) [] [.ptr σ.length 0]] [.fn (.func n_shape_alone_6) [] [.rptr [.lst (numEls [a])]]] (by rw [h _ (by omega) (by simp)]; simp) rfl (by simp) rfl (fun j hj hj' => by
        have : j = 0 := by simp at hj; omega
        subst this
        exact coe_fn1 (coe_ptr (t := 22) (by rw [h _ (Nat.le_refl _) (by simp)]; simp) (by simp) (by simp))) (by simp)
    · have := unless1_ok (G := G) n_shape_alone_6 [.rptr [.lst (numEls [a])]] b_shape_alone_6 v _ (by simp) (alone6_ok (G := G) a [] v)
      simpa [oneF, argN] using this
  case removeBelowValue =>
    obtain ⟨a, rfl⟩ := arg1 rfl
    simp [a_shape_alone, Wd.txt]
    refine ac_eff (unless_ok (σ ++ [.var 22 [.lst (numEls [a])]]) (.fn (.func n_shape_alone_7) [] [.ptr σ.length 0]) rfl rfl (by simp [AV.under]; omega)) ?_
    rintro r σ' ⟨rfl, rfl⟩
    simp
    refine er_keep (σ ++ [.var 22 [.lst (numEls [a])], .var 70 [.fn (.func n_shape_alone_7) [] [.ptr σ.length 0]]]) (.fn (.func n_shape_unless_1) [] [.ptr (σ.length + 1) 0]) (by simp [tupOf]) [] (by simp) (by simp) (by simp [AV.under]) (under_app σ _ (by simp [Entry.under, AV.under])) ⟨⟨_, rfl⟩, n_shape_unless_1, _, [.rptr [.fn (.func n_shape_alone_7) [] [.rptr [.lst (numEls [a])]]]], rfl, b_shape_unless_1, fun τ h => .cons ?_ .nil, fun v hv => ?_⟩
    · exact Coe.ptr (σ.length + 1) 0 70 [.fn (.func n_shape_alone_7) [] [.ptr σ.length 0]] [.fn (.func n_shape_alone_7) [] [.rptr [.lst (numEls [a])]]] (by rw [h _ (by omega) (by simp)]; simp) rfl (by simp) rfl (fun j hj hj' => by
        have : j = 0 := by simp at hj; omega
        subst this
        exact coe_fn1 (coe_ptr (t := 22) (by rw [h _ (Nat.le_refl _) (by simp)]; simp) (by simp) (by simp))) (by simp)
    · have := unless1_ok (G := G) n_shape_alone_7 [.rptr [.lst (numEls [a])]] b_shape_alone_7 v _ (by simp) (alone7_ok (G := G) a [] v)
      simpa [oneF, argN] using this
  case round =>
    obtain ⟨a, rfl⟩ := arg1 rfl
    have kW := pWhole_ok (G := G) a (ho a (by simp)) 0 6
    rw [numA_eq a] at kW
    simp [a_shape_alone, Wd.txt, numEls]
    refine ac_same kW (by simp) ?_
    rintro r ⟨z, rfl, hz⟩
    have hzn := hz n (hA3 rfl a [] rfl)
    subst hzn
    simp [splice]
    refine er_keep (σ ++ [.var 22 [.lst [[.bool a.1, .int .i64 a.2]]], .var 3 [.int .i64 z]]) (.fn (.func n_shape_alone_9) [] [.ptr (σ.length + 1) 0]) (by simp [tupOf]) [] (by simp) (by simp) (by simp [AV.under]) (under_app σ _ (by simp [Entry.under, AV.under])) ⟨⟨_, rfl⟩, n_shape_alone_9, _, _, rfl, b_shape_alone_9, fun τ h => .cons (coe_ptr (t := 3) (cells := [.int .i64 z]) (by rw [h _ (by omega) (by simp)]; simp) (by simp) (by simp)) .nil, fun v hv => ?_⟩
    simpa [oneF] using alone9_ok (G := G) z v hv
theorem alone_nil_ok (w : Wd) (hw : ¬ w ∈ aloneW) (args : List N) : PCalls Tryz.prog n_shape_alone [.str w.txt, .lst (numEls args)] (fun r => r = .nilf) := by
  refine pcalls_of_awp hmix c_shape_alone rfl ?_
  cases w <;> first | (exfalso; revert hw; decide) | simp [a_shape_alone, Wd.txt]
end Go.Proofs.YtipncibiodfmdaaGreatDoor
end
section
set_option linter.unusedSimpArgs false
set_option linter.unusedVariables false
set_option linter.constructorNameAsVariable false
set_option maxHeartbeats 4000000
namespace Go.Proofs.YtipncibiodfmdaaGreatDoor
open Go.Abs Go.Num Go.Ser Go.Dec Go.Shp
variable {G : Globs}
def boundsA (w : Wd) : AV := match w.bounds with
  | none => .tup [.int .i64 0, .int .i64 0, .bool false]
  | some (a, b) => .tup [.int .i64 a, .int .i64 b, .bool true]
theorem bounds_ok (w : Wd) : PCalls Tryz.prog n_shape_bounds [.str w.txt] (fun r => r = boundsA w) := by
  refine pcalls_of_awp hmix c_shape_bounds rfl ?_
  cases w <;> simp [a_shape_bounds, Wd.txt, boundsA, Wd.bounds]
def checkedA (w : Wd) (s : Sr) (args : List N) (text : List UInt8) : AV := match wholeW w s args, howS text with
  | some n, some h => .tup [.int .i64 n, .int .i64 h, .int .i64 0]
  | _, _ => .tup [.int .i64 0, .int .i64 0, .int .i64 1]
theorem sum_txt (w : Wd) : w.txt = [115, 117, 109, 109, 97, 114, 105, 122, 101] ↔ w = .summarize := by
  constructor
  · intro h
    exact txt_inj (b := .summarize) h
  · rintro rfl; rfl
theorem wholeS_bd {a : N} {lo hi m : Int} (h : wholeS a lo hi = some m) : lo ≤ m ∧ m ≤ hi := by
  unfold wholeS at h
  split at h
  · rename_i h1; cases h; exact h1.2
  · cases h
theorem methodA_how (t : List UInt8) (h : ¬ t = []) : howS t = methodS t := by unfold howS; rw [if_neg h]
theorem checked_ok (w : Wd) (s : Sr) (hs : SrR s) (args : List N) (ho : oksN args) (text : List UInt8) :
    PCalls Tryz.prog n_shape_checked [.str w.txt, srA s, .lst (numEls args), .str text] (fun r => r = checkedA w s args text) := by
  refine pcalls_of_awp hmix c_shape_checked rfl ?_
  have kB := bounds_ok (G := G) w
  have kM := pMethod_ok (G := G) text
  have hlen := numEls_len args
  have hst := sum_txt w
  have hp0 := hs.p0
  rw [srA_eq s]
  obtain ⟨C, hC⟩ : ∃ C, C = checkedA w s args text := ⟨_, rfl⟩
  rw [← hC]
  unfold boundsA at kB
  simp [a_shape_checked]
  refine ac_same kB (by simp) ?_
  rintro r rfl
  cases hb : w.bounds with
  | none =>
    have hW : wholeW w s args = some (-1) := by simp [wholeW, hb]
    simp
    by_cases ht : text = []
    · have hC2 : C = .tup [.int .i64 (-1), .int .i64 2, .int .i64 0] := by rw [hC, checkedA, hW, howS, if_pos ht]
      subst ht
      simp [hC2]
    · have hh := methodA_how text ht
      simp [ht]
      refine ac_same kM (by simp) ?_
      rintro r rfl
      unfold methodA
      cases hm : methodS text with
      | none =>
        have hC2 : C = .tup [.int .i64 0, .int .i64 0, .int .i64 1] := by rw [hC, checkedA, hW, hh, hm]
        simp [hC2]
      | some h =>
        have hC2 : C = .tup [.int .i64 (-1), .int .i64 h, .int .i64 0] := by rw [hC, checkedA, hW, hh, hm]
        simp [hC2]
  | some lh =>
    obtain ⟨lo, hi⟩ := lh
    cases args with
    | nil =>
      have hW : wholeW w s [] = some (-1) := by simp [wholeW, hb]
      simp [numEls]
      by_cases ht : text = []
      · have hC2 : C = .tup [.int .i64 (-1), .int .i64 2, .int .i64 0] := by rw [hC, checkedA, hW, howS, if_pos ht]
        subst ht
        simp [hC2]
      · have hh := methodA_how text ht
        simp [ht]
        refine ac_same kM (by simp) ?_
        rintro r rfl
        unfold methodA
        cases hm : methodS text with
        | none =>
          have hC2 : C = .tup [.int .i64 0, .int .i64 0, .int .i64 1] := by rw [hC, checkedA, hW, hh, hm]
          simp [hC2]
        | some h =>
          have hC2 : C = .tup [.int .i64 (-1), .int .i64 h, .int .i64 0] := by rw [hC, checkedA, hW, hh, hm]
          simp [hC2]
    | cons a rest =>
      have kW := pWhole_ok (G := G) a (ho a (by simp)) lo hi
      rw [numA_eq a] at kW
      have hl1 : (0 : Int) < (rest.length : Int) + 1 := by omega
      simp only [List.length_cons] at hlen
      simp [numEls_cons, numEls_len, hl1]
      refine ac_same kW (by simp) ?_
      rintro r ⟨z, rfl, hz⟩
      cases hS : wholeS a lo hi with
      | none =>
        have hW : wholeW w s (a :: rest) = none := by simp [wholeW, hb, hS]
        have hC2 : C = .tup [.int .i64 0, .int .i64 0, .int .i64 1] := by rw [hC, checkedA, hW]
        simp [hC2]
      | some m =>
        have hzm := hz m hS
        subst hzm
        by_cases hsu : w = .summarize
        · subst hsu
          have hlo : lo = 1 ∧ hi = 86400 := by
            have : (some (1, 86400) : Option (Int × Int)) = some (lo, hi) := hb
            simp only [Option.some.injEq, Prod.mk.injEq] at this
            exact ⟨this.1.symm, this.2.symm⟩
          obtain ⟨rfl, rfl⟩ := hlo
          obtain ⟨z1, z2⟩ := wholeS_bd hS
          have htm : z.tmod s.step = z % s.step := Int.tmod_eq_emod_of_nonneg (by omega)
          have hnn : 0 ≤ z % s.step := Int.emod_nonneg _ (by omega)
          have hps : ¬ s.step = 0 := by omega
          by_cases h0 : z % s.step = 0
          · have hW : wholeW .summarize s (a :: rest) = some z := by simp [wholeW, hb, hS, h0]
            simp [Wd.txt, hps, htm, h0]
            by_cases ht : text = []
            · have hC2 : C = .tup [.int .i64 z, .int .i64 2, .int .i64 0] := by rw [hC, checkedA, hW, howS, if_pos ht]
              subst ht
              simp [hC2]
            · have hh := methodA_how text ht
              simp [ht]
              refine ac_same kM (by simp) ?_
              rintro r rfl
              unfold methodA
              cases hm : methodS text with
              | none =>
                have hC2 : C = .tup [.int .i64 0, .int .i64 0, .int .i64 1] := by rw [hC, checkedA, hW, hh, hm]
                simp [hC2]
              | some h =>
                have hC2 : C = .tup [.int .i64 z, .int .i64 h, .int .i64 0] := by rw [hC, checkedA, hW, hh, hm]
                simp [hC2]
          · have hpos : 0 < z % s.step := by omega
            have hW : wholeW .summarize s (a :: rest) = none := by simp [wholeW, hb, hS, h0]
            have hC2 : C = .tup [.int .i64 0, .int .i64 0, .int .i64 1] := by rw [hC, checkedA, hW]
            simp [Wd.txt, hps, htm, hpos, hC2]
        · have hns : ¬ w.txt = [115, 117, 109, 109, 97, 114, 105, 122, 101] := fun h => hsu (hst.1 h)
          have hW : wholeW w s (a :: rest) = some z := by simp [wholeW, hb, hS, hsu]
          simp [hns]
          by_cases ht : text = []
          · have hC2 : C = .tup [.int .i64 z, .int .i64 2, .int .i64 0] := by rw [hC, checkedA, hW, howS, if_pos ht]
            subst ht
            simp [hC2]
          · have hh := methodA_how text ht
            simp [ht]
            refine ac_same kM (by simp) ?_
            rintro r rfl
            unfold methodA
            cases hm : methodS text with
            | none =>
              have hC2 : C = .tup [.int .i64 0, .int .i64 0, .int .i64 1] := by rw [hC, checkedA, hW, hh, hm]
              simp [hC2]
            | some h =>
              have hC2 : C = .tup [.int .i64 z, .int .i64 h, .int .i64 0] := by rw [hC, checkedA, hW, hh, hm]
              simp [hC2]
theorem vals_eq {w : Wd} {s : Sr} {args : List N} {n : Int} {F : Nat → N} (h : ∀ i, valueW w s args n i = F i) : valsW w s args n = (List.range s.vals.length).map F := by
  unfold valsW
  exact List.map_congr_left fun i _ => h i
theorem ok_rise (v p : N) (args : List N) : okN (riseN v p args) := by
  unfold riseN
  split
  · exact ok_sub _ _
  · split
    · split
      · exact ok_add _ _
      · exact ok_nothing
    · exact ok_nothing
theorem many_ok (w : Wd) (hw : ¬ w ∈ aloneW) (hns : ¬ w = .summarize) (s : Sr) (h : SrOk s) (hR : SrR s) (args : List N) (ho : oksN args) (n : Int) (hb : ∀ lo hi, w.bounds = some (lo, hi) → n = -1 ∨ (lo ≤ n ∧ n ≤ hi)) (ha : w.takes.1 ≤ args.length) (hn : w.takes.1 = 1 → ¬ n = -1 ∨ w = .delay) :
    PCalls Tryz.prog n_shape_many [.str w.txt, srA s, .lst (numEls args), .int .i64 n] (fun r => r = .lst (numEls (valsW w s args n))) := by
  refine pcalls_of_awp hmix c_shape_many rfl ?_
  have hvl := hR.vl
  have hp0 := hR.p0
  have hp1 := hR.p1
  have hll : s.vals.length ≤ 100000 := by omega
  rw [srA_eq s]
  have hbox : ∀ σ : Store, σ = [.var 24 [.str s.name, .int .i64 s.start, .int .i64 s.step, .lst (numEls s.vals)]] → σ.length = 1 := fun σ h => by rw [h]; rfl
  cases w <;> first | (exfalso; revert hw; decide) | (exfalso; exact hns rfl) | skip
  case derivative =>
    rw [vals_eq (F := fun i => subN (s.vals.getD i nothing) (prevN s.vals i)) fun i => rfl]
    simp [a_shape_many, Wd.txt]
    refine ac_eff (diffs_ok _ s.vals _ subN hll h.vs (two_sub _)) ?_
    rintro r σ' ⟨rfl, rfl⟩
    have hfz := fun σ m l => numEls_fz σ m 1 l
    simp [hfz, numEls_len]
  case nonNegativeDerivative =>
    rw [vals_eq (F := fun i => riseN (s.vals.getD i nothing) (prevN s.vals i) args) fun i => rfl]
    simp [a_shape_many, Wd.txt]
    refine ac_eff (rise_ok _ args) ?_
    rintro r σ' ⟨rfl, rfl⟩
    simp
    refine ac_eff (diffs_ok _ s.vals _ (fun v p => riseN v p args) hll h.vs (two_rise [.var 24 [.str s.name, .int .i64 s.start, .int .i64 s.step, .lst (numEls s.vals)]] args ho)) ?_
    rintro r σ' ⟨rfl, rfl⟩
    have hfz := fun σ m l => numEls_fz σ m 1 l
    simp [hfz, numEls_len]
  case perSecond =>
    rw [vals_eq (F := fun i => divN (riseN (s.vals.getD i nothing) (prevN s.vals i) args) (tell (s.step * 1000000))) fun i => rfl]
    obtain ⟨L, hL⟩ : ∃ L, L = (List.range s.vals.length).map fun i => riseN (s.vals.getD i nothing) (prevN s.vals i) args := ⟨_, rfl⟩
    have hLl : L.length = s.vals.length := by rw [hL]; simp
    have hLo : oksN L := fun x hx => by
      rw [hL] at hx
      obtain ⟨i, _, rfl⟩ := List.mem_map.1 hx
      exact ok_rise _ _ _
    have hLm : (L.map fun v => divN v (tell (s.step * 1000000))) = (List.range s.vals.length).map fun i => divN (riseN (s.vals.getD i nothing) (prevN s.vals i) args) (tell (s.step * 1000000)) := by
      rw [hL, List.map_map]; rfl
    rw [← hLm]
    have kD := diffs_ok (G := G) [.var 24 [.str s.name, .int .i64 s.start, .int .i64 s.step, .lst (numEls s.vals)], .var 22 [.lst (numEls args)]] s.vals _ (fun v p => riseN v p args) hll h.vs (two_rise [.var 24 [.str s.name, .int .i64 s.start, .int .i64 s.step, .lst (numEls s.vals)]] args ho)
    rw [← hL] at kD
    have kP := perSecond_ok (G := G) [.var 24 [.str s.name, .int .i64 s.start, .int .i64 s.step, .lst (numEls s.vals)], .var 22 [.lst (numEls args)], .row 33 2 (numEls L) false] 2 L s.step (by omega) hLo (by omega) (by omega) rfl
    rw [hLl] at kP
    have hfz := fun σ m l => numEls_fz σ m 1 l
    simp [a_shape_many, Wd.txt]
    refine ⟨?_, ?_, ?_⟩
    all_goals
      refine ac_eff (rise_ok _ args) ?_
      rintro r σ' ⟨rfl, rfl⟩
      simp
      refine ac_eff kD ?_
      rintro r σ' ⟨rfl, rfl⟩
      simp
      refine ac_eff kP ?_
      rintro r σ' ⟨rfl, rfl⟩
      simp [hfz, numEls_len, hLl]
  case integral =>
    rw [vals_eq (F := fun i => if (s.vals.getD i nothing).1 then s.vals.getD i nothing else reckon 2 (s.vals.take (i + 1))) fun i => rfl]
    simp [a_shape_many, Wd.txt]
    refine ac_same (integral_ok s.vals hll h.vs hR.rs) (by simp) ?_
    rintro r rfl
    simp
  case keepLastValue =>
    rw [vals_eq (F := fun i => if (s.vals.getD i nothing).1 then keptN s.vals i n else s.vals.getD i nothing) fun i => rfl]
    have hn := hb _ _ rfl
    simp [a_shape_many, Wd.txt]
    refine ac_same (keep_ok s.vals n hll h.vs hR.rs (by omega) (by omega)) (by simp) ?_
    rintro r rfl
    simp
  case delay =>
    rw [vals_eq (F := fun i => aheadN s.vals i n) fun i => rfl]
    have hn := hb _ _ rfl
    simp [a_shape_many, Wd.txt]
    refine ac_same (delay_ok s.vals n hll h.vs (by omega) (by omega)) (by simp) ?_
    rintro r rfl
    simp
  all_goals
    have hn2 := hb _ _ rfl
    have hn3 := hn rfl
    have hn1 : 1 ≤ n ∧ n ≤ 2000 := by
      rcases hn3 with h3 | h3
      · omega
      · cases h3
    have kM := fun way => moving_ok (G := G) s.vals n way hll h.vs hn1.1 hn1.2
    simp [a_shape_many, Wd.txt]
    refine ac_same (kM _) (by simp) ?_
    rintro r rfl
    simp
    first | rfl | (congr 1)
end Go.Proofs.YtipncibiodfmdaaGreatDoor
end
section
set_option linter.unusedSimpArgs false
set_option linter.unusedVariables false
set_option linter.constructorNameAsVariable false
set_option maxHeartbeats 4000000
namespace Go.Proofs.YtipncibiodfmdaaGreatDoor
open Go.Abs Go.Num Go.Ser Go.Dec Go.Shp
variable {G : Globs}
def noSr : Sr := ⟨[], 0, 0, []⟩
def applyA : Except Int Sr → AV
  | .error e => .tup [srA noSr, .int .i64 e]
  | .ok x => .tup [srA x, .int .i64 0]
/-- Numbers that have come so far, in a row beyond m. -/
def NlS (m : Nat) (σ : Store) (v : AV) (l : List N) : Prop := (v = .nils ∧ l = []) ∨ ∃ id, m ≤ id ∧ v = .row id l.length ∧ σ[id]? = some (.row 33 2 (numEls l) true)
theorem NlS.one {m : Nat} {σ : Store} {v : AV} {l : List N} (h : NlS m σ v l) : v.one = true ∧ v.cells = [v] := by
  rcases h with ⟨rfl, _⟩ | ⟨id, _, rfl, _⟩ <;> exact ⟨rfl, rfl⟩
theorem NlS.mono {m : Nat} {σ σ' : Store} {v : AV} {l : List N} (h : NlS m σ v l) (hk : ∀ id, m ≤ id → id < σ.length → σ'[id]? = σ[id]?) : NlS m σ' v l := by
  rcases h with h | ⟨id, h1, h2, h3⟩
  · exact .inl h
  · exact .inr ⟨id, h1, h2, by rw [hk _ h1 (List.getElem?_eq_some_iff.1 h3).1]; exact h3⟩
theorem NlS.fin {m k : Nat} {σ : Store} {v : AV} {l : List N} (h : NlS m σ v l) : fin1 σ k v = some (.lst (numEls l)) := by
  rcases h with ⟨rfl, rfl⟩ | ⟨id, _, rfl, h3⟩
  · rfl
  · simp [fin1, fz, h3, numEls_len]
theorem ap_nls {K : AV → Store → Prop} {t : Tg K} {m : Nat} {σ : Store} {v : AV} {l : List N} (hs : NlS m σ v l) (hm : m ≤ σ.length) (hb : l.length ≤ 1000000) (x : N)
    (hK : ∀ v' σ', NlS m σ' v' (l ++ [x]) → σ.length ≤ σ'.length → (∀ i, i < m → σ'[i]? = σ[i]?) → K v' σ') : ap K t σ 33 2 16 v (.lst [[.bool x.1, .int .i64 x.2]]) := by
  rcases hs with ⟨rfl, rfl⟩ | ⟨id, h1, rfl, h2⟩
  · refine ap_new true [[.bool x.1, .int .i64 x.2]] rfl (by omega) (by simp) (fun _ => .inl rfl) (by simp) (by simp) ?_
    exact hK _ _ (.inr ⟨σ.length, hm, rfl, by simp [numEls]⟩) (by simp) fun i hi => List.getElem?_append_left (by omega)
  · refine ap_row (numEls l) [[.bool x.1, .int .i64 x.2]] true h2 rfl (by omega) (by simp) (fun _ => .inl rfl) (numEls_len l) (by simp; omega) (by simp; omega) ?_
    have hlt := (List.getElem?_eq_some_iff.1 h2).1
    exact hK _ _ (.inr ⟨id, h1, by simp, by rw [List.getElem?_set_self hlt]; simp [numEls]⟩) (by simp) fun i hi => List.getElem?_set_ne (by omega)
theorem there25_ok (n : N) : PCalls Tryz.prog n_shape_there [numA n] (fun r => r = .bool (good n)) := by
  refine pcalls_of_awp hmix c_shape_there rfl ?_
  have k := fRight_ok (G := G) n
  have hg := right_good n
  rw [numA_eq] at k ⊢
  cases h : n.1 with
  | true =>
    rw [h] at hg
    simp [a_shape_there, ← hg]
  | false =>
    rw [h] at hg k
    simp [a_shape_there]
    refine ac_same k (by simp) ?_
    rintro r rfl
    simp [← hg]
theorem apply1_ok (n : N) : PCalls Tryz.prog n_shape_Apply_1 [numA n] (fun r => r = .bool (!good n)) := by
  refine pcalls_of_awp hmix c_shape_Apply_1 rfl ?_
  have k := there25_ok (G := G) n
  rw [numA_eq] at k ⊢
  simp [a_shape_Apply_1]
  refine ac_same k (by simp) ?_
  rintro r rfl
  simp
theorem txt_len (w : Wd) : w.txt.length ≤ 100 := by cases w <;> decide
/-- What a call's whole number is, where it has been found. -/
theorem whole_bounds {w : Wd} {s : Sr} {args : List N} {n : Int} (h : wholeW w s args = some n) (lo hi : Int) (hb : w.bounds = some (lo, hi)) : (n = -1 ∧ args = []) ∨ (lo ≤ n ∧ n ≤ hi ∧ ∃ a r, args = a :: r ∧ wholeS a lo hi = some n) := by
  unfold wholeW at h
  rw [hb] at h
  cases args with
  | nil => simp at h; exact .inl ⟨h.symm, rfl⟩
  | cons a r =>
    simp only at h
    cases hS : wholeS a lo hi with
    | none => rw [hS] at h; simp at h
    | some m =>
      rw [hS] at h
      simp only at h
      split at h
      · cases h
      · cases h
        obtain ⟨b1, b2⟩ := wholeS_bd hS
        exact .inr ⟨b1, b2, a, r, rfl, hS⟩
theorem whole_none {w : Wd} {s : Sr} {args : List N} {n : Int} (h : wholeW w s args = some n) (hb : w.bounds = none) : n = -1 := by
  unfold wholeW at h
  rw [hb] at h
  cases args <;> simp at h <;> exact h.symm
theorem how_bd {t : List UInt8} {h : Int} (hh : howS t = some h) : 1 ≤ h ∧ h ≤ 5 ∧ t.length ≤ 100 := by
  unfold howS methodS at hh
  repeat' split at hh
  all_goals first | (cases hh; done) | (cases hh; subst_vars; decide)
theorem sApply_ok [GSpc] [GPow] (call : List UInt8) (s : Sr) (h : SrOk s) (args : List N) (ho : oksN args) (text : List UInt8) (hal : args.length ≤ 1000) (htl : text.length ≤ 100000) :
    PCalls Tryz.prog n_shape_Apply [.str call, srA s, .lst (numEls args), .str text] (fun r => r = applyA (applyS call s args text)) := by
  refine pcalls_of_awp hmix c_shape_Apply rfl ?_
  have kT := sTakes_ok (G := G) call
  unfold takesA at kT
  have kR := sRight_ok (G := G) s h
  have hlen := numEls_len args
  obtain ⟨R, hR⟩ : ∃ R, R = applyS call s args text := ⟨_, rfl⟩
  rw [← hR]
  unfold applyS at hR
  have kRs := kR
  rw [srA_eq s] at kR ⊢
  cases hw : wordOf call with
  | none =>
    rw [hw] at kT hR
    simp only at hR
    subst hR
    simp [a_shape_Apply]
    refine ac_same kT (by simp) ?_
    rintro r rfl
    simp [applyA, noSr, srA_eq, numEls, splice]
  | some w =>
    have hcw := wordOf_some hw
    subst hcw
    rw [hw] at kT hR
    simp only at kT hR
    simp [a_shape_Apply]
    refine ac_same kT (by simp) ?_
    rintro r rfl
    simp
    refine ac_same kR (by simp) ?_
    rintro r rfl
    cases hr : rightS s with
    | false =>
      rw [if_pos hr] at hR
      subst hR
      simp [applyA, noSr, srA_eq, numEls, splice]
    | true =>
      rw [if_neg (by rw [hr]; decide)] at hR
      have hSR := right_iff.1 hr
      by_cases h1 : args.length < w.takes.1
      · rw [if_pos (.inl h1)] at hR
        subst hR
        simp [hlen, h1, applyA, noSr, srA_eq, numEls, splice]
      by_cases h2 : w.takes.2 < args.length
      · rw [if_pos (.inr (.inl h2))] at hR
        subst hR
        simp [hlen, h1, h2, applyA, noSr, srA_eq, numEls, splice]
      have hsum := sum_txt w
      by_cases h3 : text ≠ [] ∧ w ≠ .summarize
      · rw [if_pos (.inr (.inr h3))] at hR
        subst hR
        have hns : ¬ w.txt = [115, 117, 109, 109, 97, 114, 105, 122, 101] := fun h => h3.2 (hsum.1 h)
        simp [hlen, h1, h2, h3.1, hns, applyA, noSr, srA_eq, numEls, splice]
      rw [if_neg (by rintro (h | h | h); exact h1 h; exact h2 h; exact h3 h)] at hR
      have h3' : text = [] ∨ (¬ text = [] ∧ w = .summarize) := by
        by_cases a : text = []
        · exact .inl a
        · by_cases b : w = .summarize
          · exact .inr ⟨a, b⟩
          · exact absurd ⟨a, b⟩ h3
      have kC := contains_ok (G := G) args (by omega) (fun n => !good n) n_shape_Apply_1 b_shape_Apply_1 (fun n _ => apply1_ok n)
      have kH := checked_ok (G := G) w s hSR args ho text
      have kL := sLabel_ok (G := G) w.txt s.name args text (by have := txt_len w; omega) (by have := hSR.nm; omega) hal htl ho
      rw [srA_eq s] at kH
      obtain ⟨b, hb⟩ : ∃ b, b = args.any fun n => !good n := ⟨_, rfl⟩
      rw [← hb] at kC hR
      rcases h3' with h3' | ⟨h3', h3w⟩
      case' inl => simp [hlen, h1, h2, h3']
      case' inr =>
        have hwt := eq_true (hsum.2 h3w)
        simp [hlen, h1, h2, h3', hwt]
      all_goals
        refine ac_same kC (by simp) ?_
        rintro r rfl
        cases b with
        | true =>
          rw [if_pos rfl] at hR
          subst hR
          simp [applyA, noSr, srA_eq, numEls, splice]
        | false =>
        rw [if_neg (by decide)] at hR
        simp
        refine ac_same kH (by simp) ?_
        rintro r rfl
        unfold checkedA
        cases hW : wholeW w s args with
        | none =>
          rw [hW] at hR
          simp only at hR
          subst hR
          simp [applyA, noSr, srA_eq, numEls, splice]
        | some n =>
        cases hH : howS text with
        | none =>
          rw [hW, hH] at hR
          simp only at hR
          subst hR
          simp [applyA, noSr, srA_eq, numEls, splice]
        | some how =>
        rw [hW, hH] at hR
        simp only at hR
        obtain ⟨L, hL⟩ : ∃ L, L = labelS w.txt s.name args text := ⟨_, rfl⟩
        rw [← hL] at kL hR
        simp
        refine ac_same kL (by simp) ?_
        rintro r rfl
        by_cases hlong : 400 < L.length
        · have hlong' : (400 : Int) < (L.length : Int) := by omega
          rw [if_pos hlong] at hR
          subst hR
          simp [hlong, hlong', applyA, noSr, srA_eq, numEls, splice]
        have hlong' : ¬ (400 : Int) < (L.length : Int) := by omega
        rw [if_neg hlong] at hR
        have hnb : -9223372036854775808 ≤ n ∧ n ≤ 9223372036854775807 := by
          cases hbw : w.bounds with
          | none => have := whole_none hW hbw; omega
          | some lh =>
            obtain ⟨lo, hi⟩ := lh
            have hbb : -1125899906842624 ≤ lo ∧ hi ≤ 1125899906842624 := by
              revert hbw; cases w <;> simp [Wd.bounds] <;> omega
            rcases whole_bounds hW lo hi hbw with ⟨h, _⟩ | ⟨h, h', _⟩ <;> omega
        by_cases hsm : w = .summarize
        · rw [if_pos hsm] at hR
          have hwt2 := eq_true (hsum.2 hsm)
          have kCo := coarser_ok (G := G) s h n how hnb.1 hnb.2
          rw [srA_eq s] at kCo
          simp [hlong, hlong', hwt2]
          refine ac_same kCo (by simp) ?_
          rintro r rfl
          cases hcs : coarserS s n how with
          | none =>
            rw [hcs] at hR
            simp only at hR
            subst hR
            simp [coarserA, applyA, noSr, srA_eq, numEls, splice]
          | some x =>
            rw [hcs] at hR
            simp only at hR
            by_cases hx : 2000 < x.vals.length
            · have hx' : (2000 : Int) < (x.vals.length : Int) := by omega
              rw [if_pos hx] at hR
              subst hR
              simp [coarserA, applyA, noSr, srA_eq, numEls_len, splice, hx, hx']
              simp [numEls]
            · have hx' : ¬ (2000 : Int) < (x.vals.length : Int) := by omega
              rw [if_neg hx] at hR
              subst hR
              simp [coarserA, applyA, noSr, srA_eq, numEls_len, splice, hx, hx']
        rw [if_neg hsm] at hR
        have hwf : (w.txt = [115, 117, 109, 109, 97, 114, 105, 122, 101]) = False := eq_false fun h => hsm (hsum.1 h)
        have hvl := hSR.vl
        simp [hlong, hlong', hwf, splice]
        by_cases ha : w ∈ aloneW
        · have hA : aloneOk w args n := ⟨by omega, by omega, fun hw2 a r har => by
            subst hw2
            rcases whole_bounds hW 0 6 rfl with ⟨_, h2⟩ | ⟨_, _, a', r', h2, h3⟩
            · rw [har] at h2; cases h2
            · rw [har] at h2; cases h2; exact h3⟩
          refine ac_eff (alone_ok w ha args ho n hA _) ?_
          rintro r σ' ⟨⟨t, rfl⟩, gid, caps, caps', rfl, hbd, hco, hc⟩
          obtain ⟨F, hF⟩ : ∃ F : Nat → N, F = fun i => oneF w args n (s.vals.getD i nothing) := ⟨_, rfl⟩
          have hV : valsW w s args n = (List.range s.vals.length).map F := by
            rw [hF]; exact List.map_congr_left fun i _ => oneF_value ha s args n i
          obtain ⟨σ1, hσ1⟩ : ∃ σ1 : Store, σ1 = .var 24 [.str s.name, .int .i64 s.start, .int .i64 s.step, .lst (numEls s.vals)] :: .var 24 [.str [], .int .i64 0, .int .i64 0, .nils] :: .var 24 [.str L, .int .i64 s.start, .int .i64 s.step, .nils] :: t := ⟨_, rfl⟩
          have hσl : 3 ≤ σ1.length := by rw [hσ1]; simp
          have hco2 : ∀ τ : Store, (∀ i, 3 ≤ i → i < σ1.length → τ[i]? = σ1[i]?) → CoeL τ true caps caps' := by
            rw [hσ1]; exact hco
          rw [hV] at hR
          simp [numEls_len]
          refine lp_startx (fun x f σ => ∃ (k : Nat) (V : AV), x = s.vals.length - k ∧ k ≤ s.vals.length ∧ f 8 = .ptr 1 0 ∧ f 19 = .ptr 2 0 ∧ f 20 = .fn (.func gid) [] caps ∧ f 118 = .lst (numEls s.vals) ∧ f 119 = .int .i64 s.vals.length ∧ f 120 = .int .i64 k ∧
            σ[1]? = some (.var 24 [.str [], .int .i64 0, .int .i64 0, .nils]) ∧ σ[2]? = some (.var 24 [.str L, .int .i64 s.start, .int .i64 s.step, V]) ∧ NlS σ1.length σ V ((List.range k).map F) ∧ σ1.length ≤ σ.length ∧ ∀ i, 3 ≤ i → i < σ1.length → σ[i]? = σ1[i]?) s.vals.length ?_ ?_
          · refine ⟨0, .nils, rfl, by omega, by simp, by simp, by simp, by simp, by simp [numEls_len], by simp, by simp, by simp, .inl ⟨rfl, rfl⟩, by rw [hσ1]; simp, fun i _ _ => by rw [hσ1]⟩
          rintro x f σ ⟨k, V, rfl, hk, f8, f19, f20, f118, f119, f120, s1, s2, hN, hle, hpre⟩
          have hV1 := hN.one
          simp [f119, f120]
          refine cb_dec (fun hlt => ?_) (fun hge => ?_)
          · have hlt' : k < s.vals.length := by omega
            obtain ⟨y, hy⟩ : ∃ y, s.vals[k]? = some y := ⟨_, List.getElem?_eq_getElem hlt'⟩
            have hse := numEls_get hy
            obtain ⟨hx1, hx2⟩ := List.getElem?_eq_some_iff.1 hse
            have hyo := h.vs y (List.mem_of_getElem? hy)
            have hgy : s.vals.getD k nothing = y := by rw [List.getD_eq_getElem?_getD, hy]; rfl
            have hFk : F k = oneF w args n y := by rw [hF]; simp only [hgy]
            have hw1 : IntKind.i64.wrap ((k : Int) + 1) = (k : Int) + 1 := wrap_i64 (by omega) (by omega)
            have a2 : ∀ e : Entry, (σ ++ [e])[2]? = some (.var 24 [.str L, .int .i64 s.start, .int .i64 s.step, V]) := fun e => by rw [List.getElem?_append_left (by omega)]; exact s2
            have hcy := hc y hyo
            rw [← hFk, numA_eq y, numA_eq (F k)] at hcy
            simp [f8, f19, f20, f118, f120, hx1, hx2, hlt', a2, hV1, numEls_len]
            refine qv_fn hbd ?_
            refine qc_lent hcy (.cons (.pure _ (by simp)) (hco2 _ fun i h1 h2 => by rw [List.getElem?_append_left (by omega)]; exact hpre i h1 h2)) (by simp) ?_
            simp
            refine ap_nls (hN.mono fun id _ hid => List.getElem?_append_left hid) (by simp; omega) (by simp; omega) (F k) ?_
            intro v' σ2 hN2 hle2 hpre2
            have hv1 := hN2.one
            have b1 : σ2[1]? = some (.var 24 [.str [], .int .i64 0, .int .i64 0, .nils]) := by rw [hpre2 1 (by omega), List.getElem?_append_left (by omega)]; exact s1
            have b2 : σ2[2]? = some (.var 24 [.str L, .int .i64 s.start, .int .i64 s.step, V]) := by rw [hpre2 2 (by omega)]; exact a2 _
            have hlen2 : σ1.length ≤ σ2.length := by simp at hle2; omega
            simp [f19, f120, b2, hv1, splice, hw1]
            refine nx_intro (s.vals.length - (k + 1)) (by omega) ⟨k + 1, v', rfl, by omega, by simp [f8], by simp [f19], by simp [f20], by simp [f118], by simp [f119], by simp, ?_, ?_, ?_, by simp; omega, fun i h1 h2 => ?_⟩
            · rw [List.getElem?_set_ne (by omega)]; exact b1
            · rw [List.getElem?_set_self (by omega)]
            · have : (List.range (k + 1)).map F = (List.range k).map F ++ [F k] := by rw [List.range_succ, List.map_append]; rfl
              rw [this]
              exact hN2.mono fun id h1 h2 => List.getElem?_set_ne (by omega)
            · rw [List.getElem?_set_ne (by omega), hpre2 i h2, List.getElem?_append_left (by omega)]
              exact hpre i h1 h2
          · have : k = s.vals.length := by omega
            subst this
            subst hR
            have hfin : ∀ (k : Nat) (σ' : Store), (∀ id, σ1.length ≤ id → σ'[id]? = σ[id]?) → fin1 σ' k V = some (.lst (numEls ((List.range s.vals.length).map F))) := fun k σ' hk => (hN.mono fun id h1 _ => hk id h1).fin
            have hset : ∀ e : Entry, (List.set σ 1 e)[1]? = some e := fun e => List.getElem?_set_self (by omega)
            simp [f8, f19, s1, s2, hV1, splice, hset]
            rw [hfin 0 _ fun id h1 => List.getElem?_set_ne (by omega)]
            simp [applyA, srA_eq]
        · subst hR
          refine ac_same (alone_nil_ok w ha args) (by simp) ?_
          rintro r rfl
          have kM := many_ok (G := G) w ha hsm s h hSR args ho n (fun lo hi hbw => by
            rcases whole_bounds hW lo hi hbw with ⟨h, _⟩ | ⟨h, h', _⟩
            · exact .inl h
            · exact .inr ⟨h, h'⟩) (by omega) (fun ht => by
            cases hbw : w.bounds with
            | none => exfalso; revert ha hsm ht hbw; cases w <;> simp [aloneW, Wd.takes, Wd.bounds]
            | some lh =>
              obtain ⟨lo, hi⟩ := lh
              rcases whole_bounds hW lo hi hbw with ⟨_, h2⟩ | ⟨h2, _⟩
              · rw [h2, ht] at h1; simp at h1
              · by_cases hd : w = .delay
                · exact .inr hd
                · left
                  have : 1 ≤ lo := by
                    revert ha hsm ht hbw hd; cases w <;> simp [aloneW, Wd.takes, Wd.bounds] <;> omega
                  omega)
          rw [srA_eq s] at kM
          simp
          refine ac_same kM (by simp) ?_
          rintro r rfl
          simp [splice, applyA, srA_eq]
end Go.Proofs.YtipncibiodfmdaaGreatDoor
end
section
set_option linter.unusedSimpArgs false
set_option linter.unusedVariables false
set_option linter.constructorNameAsVariable false
set_option maxHeartbeats 4000000
namespace Go.Proofs.YtipncibiodfmdaaGreatDoor
open Go.Abs Go.Num Go.Ser
variable {G : Globs}
theorem rsCoarser_ok (s : Sr) (h : SrOk s) (step way : Int) (h0 : -9223372036854775808 ≤ step) (h1 : step ≤ 9223372036854775807) : PCalls Tryz.prog n_isobarref24_Coarser [srA s, .int .i64 step, .int .i64 way] (fun r => r = coarserA (coarserS s step way)) := by
  refine pcalls_of_awp hmix c_isobarref24_Coarser rfl ?_
  have kR := rsRight_ok (G := G) s h
  have kE := rsEnd_ok (G := G) s h
  rw [srA_eq s] at kR kE ⊢
  simp [a_isobarref24_Coarser]
  refine ac_same kR (by simp) ?_
  rintro r rfl
  cases hr : rightS s with
  | false =>
    have e : coarserS s step way = none := by unfold coarserS; rw [if_neg]; simp [hr]
    rw [e]; simp [coarserA, srA, srC, numEls]
  | true =>
    have hR := right_iff.1 hr
    have hp0 := hR.p0
    have hp1 := hR.p1
    have hs0 := hR.s0
    have hs1 := hR.s1
    obtain ⟨e1, e2, e3, e4⟩ := end_bd hR
    have hps : ¬ s.step = 0 := by omega
    rw [if_pos hr] at kE
    by_cases c3 : step < 1
    · have e : coarserS s step way = none := by unfold coarserS; rw [if_neg]; omega
      rw [e]; simp [c3, coarserA, srA, srC, numEls]
    by_cases c4 : 86400 < step
    · have e : coarserS s step way = none := by unfold coarserS; rw [if_neg]; omega
      rw [e]; simp [c3, c4, coarserA, srA, srC, numEls]
    have htm : step.tmod s.step = step % s.step := tmod_pos (by omega)
    by_cases hm : step % s.step = 0
    · by_cases c1 : way < 1
      · have e : coarserS s step way = none := by unfold coarserS; rw [if_neg]; omega
        rw [e]; simp [c1, c3, c4, htm, hps, hm, coarserA, srA, srC, numEls]
      by_cases c2 : 5 < way
      · have e : coarserS s step way = none := by unfold coarserS; rw [if_neg]; omega
        rw [e]; simp [c1, c2, c3, c4, htm, hps, hm, coarserA, srA, srC, numEls]
      have e : coarserS s step way = some ⟨s.name, s.start - s.start % step, step, if s.vals = [] then [] else slots s (s.start - s.start % step) step way (countN (s.start - s.start % step) (endS s) step)⟩ := by
        unfold coarserS; rw [if_pos]; exact ⟨by omega, by omega, by omega, by omega, hr, hm⟩
      rw [e]
      have hst0 : ¬ step = 0 := by omega
      have hq0 : 0 ≤ s.start % step := Int.emod_nonneg _ hst0
      have hq1 : s.start % step < step := Int.emod_lt_of_pos _ (by omega)
      have hq2 : s.start % step ≤ s.start := by
        obtain ⟨a, ha⟩ := Int.eq_ofNat_of_zero_le hs0
        obtain ⟨b, hb⟩ := Int.eq_ofNat_of_zero_le (show 0 ≤ step by omega)
        rw [ha, hb, u_mod]
        have := Nat.mod_le a b
        omega
      have htm2 : s.start.tmod step = s.start % step := tmod_pos hs0
      obtain ⟨st, hst⟩ : ∃ st, st = s.start - s.start % step := ⟨_, rfl⟩
      have hw : IntKind.i64.wrap (s.start - s.start % step) = st := by rw [hst]; exact wrap_i64 (by omega) (by omega)
      have hlen := numEls_len s.vals
      rw [← hst]
      obtain ⟨c, hc⟩ : ∃ c, c = if s.vals = [] then 0 else countN st (endS s) step := ⟨_, rfl⟩
      have hcb : c ≤ 1000000000 := by
        rw [hc]
        split
        · omega
        · rcases Nat.eq_zero_or_pos (countN st (endS s) step) with h0 | h0
          · omega
          · have h5 := (count_iff (a := st) (b := endS s) (step := step) (by omega) (countN st (endS s) step - 1)).1 (by omega)
            have h6 : ((countN st (endS s) step - 1 : Nat) : Int) * 1 ≤ ((countN st (endS s) step - 1 : Nat) : Int) * step := Int.mul_le_mul_of_nonneg_left (by omega) (Int.natCast_nonneg _)
            omega
      have hvc : (if s.vals = [] then [] else slots s st step way (countN st (endS s) step)) = slots s st step way c := by
        rw [hc]
        split
        · rfl
        · rfl
      rw [hvc]
      simp [c1, c2, c3, c4, htm, hps, hm, hst0, htm2, hw]
      refine lp_startx (fun x f σ => ∃ (i : Nat), x = c - i ∧ i ≤ c ∧ f 1 = .int .i64 step ∧ f 2 = .int .i64 way ∧ f 3 = .ptr 0 0 ∧ f 6 = .ptr 1 0 ∧ f 8 = .ptr 2 0 ∧ f 9 = .int .i64 (st + i * step) ∧
        σ = [.var 24 [.str s.name, .int .i64 s.start, .int .i64 s.step, .lst (numEls s.vals)], .var 24 [.str [], .int .i64 0, .int .i64 0, .nils],
          .var 24 [.str s.name, .int .i64 st, .int .i64 step, rowV 3 (numEls (slots s st step way i))]] ++ rowE 33 2 (numEls (slots s st step way i)) true) c ?_ ?_
      · exact ⟨0, by simp, by simp, by simp, by simp, by simp, by simp, by simp, by simp, by simp [slots, numEls, rowV_nil, rowE_nil, splice]⟩
      rintro x f σ ⟨i, hx, hi, f1, f2, f3, f6, f8, f9, rfl⟩
      have hmul : 0 ≤ (i : Int) * step := Int.mul_nonneg (Int.natCast_nonneg _) (by omega)
      have fin : i = c → PPost (fun r => r = coarserA (some ⟨s.name, st, step, slots s st step way c⟩)) (.mk _) [(6, some (true, 4)), (7, none)] .ret f ([.var 24 [.str s.name, .int .i64 s.start, .int .i64 s.step, .lst (numEls s.vals)], .var 24 [.str [], .int .i64 0, .int .i64 0, .nils],
          .var 24 [.str s.name, .int .i64 st, .int .i64 step, rowV 3 (numEls (slots s st step way i))]] ++ rowE 33 2 (numEls (slots s st step way i)) true) → True := fun _ _ => trivial
      have hfin := fin1_acc_at (pre := [.var 24 [.str s.name, .int .i64 s.start, .int .i64 s.step, .lst (numEls s.vals)], .var 24 [.str s.name, .int .i64 st, .int .i64 step, rowV 3 (numEls (slots s st step way c))], .var 24 [.str s.name, .int .i64 st, .int .i64 step, rowV 3 (numEls (slots s st step way c))]]) (n := 3) rfl (e := 33) (size := 2) (l := numEls (slots s st step way c)) (m := 0)
      simp only [List.cons_append, List.nil_append] at hfin
      simp [f3, f9]
      refine ac_same kE (by simp) ?_
      rintro r rfl
      by_cases hte : st + (i : Int) * step < endS s
      · by_cases hv : s.vals = []
        · have hl0 : (numEls s.vals).length = 0 := by rw [hlen, hv]; rfl
          have hic : i = c := by rw [if_pos hv] at hc; omega
          subst hic
          simp [hte, f3, hl0, f6, f8, hfin, coarserA, srA, srC]
        · rw [if_neg hv] at hc
          have hiff := count_iff (a := st) (b := endS s) (step := step) (by omega) i
          rw [← hc] at hiff
          have hlt' : i < c := hiff.2 hte
          have hvl : 0 < s.vals.length := by
            rcases Nat.eq_zero_or_pos s.vals.length with h | h
            · exact absurd (List.length_eq_zero_iff.1 h) hv
            · exact h
          have hvl' : 0 < (numEls s.vals).length := by omega
          have hvl'' : (0 : Int) < (s.vals.length : Int) := by omega
          obtain ⟨t, ht⟩ : ∃ t, t = st + i * step := ⟨_, rfl⟩
          rw [← ht] at f9 hte
          have hwt : IntKind.i64.wrap (t + step) = t + step := wrap_i64 (by omega) (by omega)
          have hnext : t + step = st + ((i + 1 : Nat) : Int) * step := by
            rw [ht]; push_cast; rw [Int.add_mul, Int.one_mul]; omega
          have kB := between_ok (G := G) s hR t (t + step)
          rw [srA_eq s] at kB
          have hslo := slice_ok (s := s) h.vs t (t + step)
          have hsll := slice_len s t (t + step)
          have kK := rReckon_ok (G := G) way (slice s t (t + step)) hslo (by have := hR.vl; omega)
          rw [numA_eq] at kK
          have hstp := slot_step s st step way i
          rw [← ht] at hstp ⊢
          obtain ⟨z, hz⟩ : ∃ z, z = reckon way (slice s t (t + step)) := ⟨_, rfl⟩
          rw [← hz] at hstp kK
          have hne : ¬ numEls s.vals = [] := fun h => by rw [h] at hvl'; simp at hvl'
          simp [hte, f1, f2, f3, f8, f9, hlen, hvl, hvl', hvl'', hwt, hne]
          refine qc_any kB (by simp) ?_
          simp [f2]
          refine qc_same kK (by simp) (by simp) ?_
          simp
          refine ap_acc_at (pre := [_, _, _]) (n := 3) (size := 2) (bytes := 16) rfl (numEls (slots s st step way i)) [[.bool z.1, .int .i64 z.2]] true (by decide) (by simp) (by simp) ?_ ?_ ?_
          · rw [numEls_len, slots_len]; simp; omega
          · rw [numEls_len, slots_len]; simp; omega
          have hst3 : numEls (slots s st step way i) ++ [[AV.bool z.1, AV.int .i64 z.2]] = numEls (slots s st step way (i + 1)) := by rw [hstp, numEls_app]; rfl
          rw [hst3]
          simp [f1, f8, f9, hwt]
          refine nx_intro (c - (i + 1)) (by omega) ⟨i + 1, rfl, by omega, by simp [f1], by simp [f2], by simp [f3], by simp [f6], by simp [f8], by simp [hnext], by simp [splice]⟩
      · have hic : i = c := by
          by_cases hv : s.vals = []
          · rw [if_pos hv] at hc; omega
          · rw [if_neg hv] at hc
            have hiff := count_iff (a := st) (b := endS s) (step := step) (by omega) i
            rw [← hc] at hiff
            rcases Nat.lt_or_ge i c with h | h
            · exact absurd (hiff.1 h) hte
            · omega
        subst hic
        simp [hte, f6, f8, hfin, coarserA, srA, srC]
    · have e : coarserS s step way = none := by unfold coarserS; rw [if_neg]; exact fun h => hm h.2.2.2.2.2
      rw [e]; simp [c3, c4, htm, hps, hm, coarserA, srA, srC, numEls]
end Go.Proofs.YtipncibiodfmdaaGreatDoor
end
section
set_option linter.unusedSimpArgs false
set_option linter.unusedVariables false
set_option linter.constructorNameAsVariable false
set_option maxHeartbeats 4000000
namespace Go.Ser
open Go.Num
/-- A number that counts, or nothing. -/
def gn (n : N) : Prop := good n = true ∨ n = nothing
theorem gn_right {n : N} (h : gn n) : rightN n = true := by
  rcases h with h | rfl
  · obtain ⟨h1, h2⟩ := good_iff.1 h
    simp [rightN, h1, h2]
  · rfl
theorem gn_tell (s : Int) : gn (tell s) := by
  unfold tell
  split
  · rename_i h; exact .inl (good_iff.2 ⟨rfl, h.1⟩)
  · exact .inr rfl
theorem gn_add (a b : N) : gn (addN a b) := by
  unfold addN; split
  · exact gn_tell _
  · exact .inr rfl
theorem gn_div (a b : N) : gn (divN a b) := by
  unfold divN; split
  · exact gn_tell _
  · exact .inr rfl
theorem gn_less (a b : N) : gn (lessN a b) := by
  unfold lessN; repeat' split
  all_goals first | exact .inl (by assumption) | exact .inr rfl
theorem gn_more (a b : N) : gn (moreN a b) := by
  unfold moreN; repeat' split
  all_goals first | exact .inl (by assumption) | exact .inr rfl
theorem gn_fold {op : N → N → N} (h : ∀ a b, gn (op a b)) : ∀ (l : List N) (k : N), gn k → gn (l.foldl op k)
  | [], k, hk => hk
  | n :: l, k, hk => by rw [List.foldl_cons]; exact gn_fold h l _ (h k n)
theorem gn_reckon (way : Int) (l : List N) : gn (reckon way l) := by
  have hk := known_good l
  unfold reckon
  generalize known l = K at *
  cases K with
  | nil => exact .inr rfl
  | cons k ks =>
    have hkk : gn k := .inl (hk k (by simp))
    simp only
    unfold reckonK
    repeat' split
    · exact gn_div _ _
    · exact gn_fold gn_add _ _ hkk
    · exact gn_fold gn_less _ _ hkk
    · exact gn_fold gn_more _ _ hkk
    · exact .inl (hk _ (List.getLast_mem _))
    · exact .inr rfl
end Go.Ser
namespace Go.Proofs.YtipncibiodfmdaaGreatDoor
open Go.Abs Go.Num Go.Ser
variable {G : Globs}
theorem copy_ok (s : Sr) (hl : s.vals.length ≤ 1000000) : PCalls Tryz.prog n_isobarref24_Copy [srA s] (fun r => r = srA s) := by
  refine pcalls_of_awp hmix c_isobarref24_Copy rfl ?_
  rw [srA_eq s]
  have hlen := numEls_len s.vals
  simp [a_isobarref24_Copy]
  refine ap_row [] (numEls s.vals) false (by simp) rfl (by decide) (numEls_two _) (fun h => by cases h) rfl ?_ ?_ ?_
  · simp [hlen]; omega
  · simp [hlen]; omega
  simp [hlen]
  have hfz := numEls_fz [Entry.var 24 [AV.str s.name, AV.int IntKind.i64 s.start, AV.int IntKind.i64 s.step, AV.row 2 s.vals.length], Entry.var 24 [AV.str s.name, AV.int IntKind.i64 s.start, AV.int IntKind.i64 s.step, AV.row 2 s.vals.length], Entry.row 33 2 (numEls s.vals) false] 0 1 s.vals
  simp [fin1, hlen, hfz]
end Go.Proofs.YtipncibiodfmdaaGreatDoor
end
