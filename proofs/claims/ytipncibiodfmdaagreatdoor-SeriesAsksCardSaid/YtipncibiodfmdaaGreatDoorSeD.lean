/- Numbers over time: the document's Reckon; the fixed fact. -/
import Derived.Test.YtipncibiodfmdaaGreatDoorSeC
set_option linter.unusedSimpArgs false
set_option linter.unusedVariables false
set_option linter.constructorNameAsVariable false
set_option maxHeartbeats 4000000
namespace Go.Abs
theorem all_join {G : Globs} {P : Program} {ls : List (List AIns)} {Q : AExit → Frame → Store → Prop} {f : Frame} {σ : Store} (J : Frame → Store → Prop) (hJ : ∀ f σ, J f σ → Q .normal f σ) (h : ∀ l ∈ ls, awpOps P (fun f σ => jn J (.mk _) f (.mk f) σ) l f σ) : awp P (.all ls) Q f σ := by
  intro l hl
  have h1 : awp P (.ops l) (fun e f σ => match e with | .normal => jn J (.mk _) f (.mk f) σ | _ => False) f σ := h l hl
  exact awp_mono (c := .ops l) (Q' := Q) (fun e f σ h0 => by
    cases e with
    | normal => exact hJ _ _ h0
    | exit id => exact h0.elim
    | ret => exact h0.elim) h1
end Go.Abs
namespace Go.Num
theorem fold_from (two : N → N → N) (z k : N) (ks : List N) (h : two z k = k) : (k :: ks).foldl two z = ks.foldl two k := by rw [List.foldl_cons, h]
end Go.Num
namespace Go.Proofs.YtipncibiodfmdaaGreatDoor
open Go.Abs Go.Num Go.Ser
variable {G : Globs}
/-- The store of Reckon: three variables, in whatever order they were laid. -/
def RS (σ : Store) (a b c : Nat) (x y z : N) : Prop := σ.length = 4 ∧ σ[0]? = some (.var 33 [.bool false, .int .i64 0]) ∧ 0 < a ∧ a < 4 ∧ 0 < b ∧ b < 4 ∧ 0 < c ∧ c < 4 ∧ a ≠ b ∧ a ≠ c ∧ b ≠ c ∧
  σ[a]? = some (.var 33 [.bool x.1, .int .i64 x.2]) ∧ σ[b]? = some (.var 33 [.bool y.1, .int .i64 y.2]) ∧ σ[c]? = some (.var 33 [.bool z.1, .int .i64 z.2])
theorem rReckon_ok (way : Int) (l : List N) (hok : oksN l) (hl : l.length ≤ 1000000000) : PCalls Tryz.prog n_isobarref24_Reckon [.int .i64 way, .lst (numEls l)] (fun r => r = numA (reckon way l)) := by
  refine pcalls_of_awp hmix c_isobarref24_Reckon rfl ?_
  simp [a_isobarref24_Reckon]
  refine ac_same (rKnown_ok l hok hl) (by simp) ?_
  rintro r rfl
  have hko : oksN (known l) := fun n hn => hok n (List.mem_filter.1 hn).1
  have hkl : (known l).length ≤ l.length := List.length_filter_le _ _
  have hkg := known_good l
  unfold reckon
  generalize known l = K at *
  cases K with
  | nil =>
    simp [numEls]
    refine ac_same rNothing_ok (by simp) ?_
    rintro r rfl
    simp [numA, nothing]
  | cons k ks =>
    have hlen := numEls_len ks
    simp only [List.length_cons] at hkl
    have hk := hko k (by simp)
    have hkgk := hkg k (by simp)
    have hks : oksN ks := fun n hn => hko n (by simp [hn])
    have hn0 : ¬ ((ks.length : Int) + 1 = 0) := by omega
    rw [numEls_cons]
    by_cases w0 : way < 1
    · have e : reckonK way k ks = nothing := by
        unfold reckonK
        repeat' split
        all_goals first | omega | rfl
      simp [hlen, hn0, w0, e]
      refine ac_same rNothing_ok (by simp) ?_
      rintro r rfl
      simp [numA, nothing, e]
    by_cases w6 : 5 < way
    · have e : reckonK way k ks = nothing := by
        unfold reckonK
        repeat' split
        all_goals first | omega | rfl
      simp [hlen, hn0, w0, w6, e]
      refine ac_same rNothing_ok (by simp) ?_
      rintro r rfl
      simp [numA, nothing, e]
    simp [-awp_all_cons, -awp_all_nil, hlen, hn0, w0, w6]
    have kO := rOf_ok (G := G) 0 (by decide) (by decide)
    rw [tell_zero, numA_eq] at kO
    have hms : (numEls (k :: ks)).length = ks.length + 1 := by rw [numEls_len]; rfl
    refine all_join (fun f σ => f 0 = .int .i64 way ∧ f 4 = .ptr 0 0 ∧ f 5 = .lst (numEls (k :: ks)) ∧ ∃ a b c, f 6 = .ptr a 0 ∧ f 7 = .ptr b 0 ∧ f 8 = .ptr c 0 ∧ RS σ a b c (false, 0) k k) ?_ ?_
    · rintro f σ ⟨f0, f4, f5, a, b, c, f6, f7, f8, hRS⟩
      simp
      refine lp_startx (fun x f σ => ∃ (i : Nat) (S L M : N), x = ks.length + 1 - i ∧ i ≤ ks.length + 1 ∧ f 0 = .int .i64 way ∧ f 4 = .ptr 0 0 ∧ f 5 = .lst (numEls (k :: ks)) ∧ f 6 = .ptr a 0 ∧ f 7 = .ptr b 0 ∧ f 8 = .ptr c 0 ∧ f 9 = .int .i64 i ∧ okN S ∧ okN L ∧ okN M ∧
        S = ((k :: ks).take i).foldl addN (tell 0) ∧ L = ((k :: ks).take i).foldl lessN k ∧ M = ((k :: ks).take i).foldl moreN k ∧ RS σ a b c S L M) (ks.length + 1) ?_ ?_
      · exact ⟨0, (false, 0), k, k, by omega, by omega, by simp [f0], by simp [f4], by simp [f5], by simp [f6], by simp [f7], by simp [f8], by simp, by simp [okN], hk, hk, rfl, rfl, rfl, hRS⟩
      clear f0 f4 f5 f6 f7 f8 hRS
      rintro x f σ ⟨i, S, L, M, hx, hi, f0, f4, f5, f6, f7, f8, f9, oS, oL, oM, hS, hL, hM, r1, r2, a0, a4, b0, b4, c0, c4, ab, ac, bc, ra, rb, rc⟩
      obtain ⟨ha, ra'⟩ := List.getElem?_eq_some_iff.1 ra
      obtain ⟨hb, rb'⟩ := List.getElem?_eq_some_iff.1 rb
      obtain ⟨hc, rc'⟩ := List.getElem?_eq_some_iff.1 rc
      obtain ⟨h0l, r2'⟩ := List.getElem?_eq_some_iff.1 r2
      simp [f5, f9, hms]
      refine cb_dec (fun hlt => ?_) (fun hge => ?_)
      · have hlt' : i < ks.length + 1 := by omega
        have hwi : IntKind.i64.wrap ((i : Int) + 1) = ((i + 1 : Nat) : Int) := by rw [wrap_i64 (by omega) (by omega)]; omega
        obtain ⟨n, hn⟩ : ∃ n, (k :: ks)[i]? = some n := ⟨_, List.getElem?_eq_getElem (by simpa using hlt')⟩
        have hno := hko n (List.mem_of_getElem? hn)
        have hse := numEls_get hn
        obtain ⟨hx1, hx2⟩ := List.getElem?_eq_some_iff.1 hse
        have k1 := rnAdd_ok (G := G) S n oS hno
        have k2 := rnLess_ok (G := G) L n oL hno
        have k3 := rnMore_ok (G := G) M n oM hno
        simp only [numA_eq] at k1 k2 k3
        have st : ∀ (two : N → N → N) (z : N), ((k :: ks).take (i + 1)).foldl two z = two (((k :: ks).take i).foldl two z) n := fun two z => by
          rw [List.take_add_one, hn, List.foldl_append]; rfl
        have ba := Ne.symm ab
        have ca := Ne.symm ac
        have cb' := Ne.symm bc
        simp [f5, f6, f9, ra, hse, hx1, hx2]
        refine qc_same k1 (by simp) (by simp) ?_
        simp [f5, f6, f7, f9, ra, rb, ra', rb', hse, hx1, hx2, ab, ba, ha]
        refine qc_same k2 (by simp) (by simp) ?_
        simp [f5, f7, f8, f9, ra, rb, rc, ra', rb', rc', hse, hx1, hx2, ab, ba, ac, ca, bc, cb', ha, hb, hc]
        refine qc_same k3 (by simp) (by simp) ?_
        simp [f5, f8, f9, ra, rb, rc, ra', rb', rc', hse, hx1, hx2, ab, ba, ac, ca, bc, cb', ha, hb, hc, hwi]
        refine nx_intro (ks.length + 1 - (i + 1)) (by omega) ⟨i + 1, addN S n, lessN L n, moreN M n, rfl, by omega, by simp [f0], by simp [f4], by simp [f5], by simp [f6], by simp [f7], by simp [f8], by simp, ok_add _ _, ok_less oL hno, ok_more oM hno, by rw [st, hS], by rw [st, hL], by rw [st, hM], ?_⟩
        have a0' : a ≠ 0 := by omega
        have b0' : b ≠ 0 := by omega
        have c0' : c ≠ 0 := by omega
        refine ⟨by simp [r1], by simp [r2, a0', b0', c0', a0'.symm, b0'.symm, c0'.symm], a0, a4, b0, b4, c0, c4, ab, ac, bc, ?_, ?_, ?_⟩
        · simp [splice, ab, ba, ac, ca, bc, cb', ha, hb, hc]
        · simp [splice, ab, ba, ac, ca, bc, cb', ha, hb, hc]
        · simp [splice, ab, ba, ac, ca, bc, cb', ha, hb, hc]
      · have hil : i = ks.length + 1 := by omega
        have htk : (k :: ks).take i = k :: ks := List.take_of_length_le (by simp; omega)
        rw [htk] at hS hL hM
        have eS : S = ks.foldl addN k := by rw [hS]; exact fold_from addN _ k ks (add_zero hkgk hk.2)
        have eL : L = ks.foldl lessN k := by rw [hL]; exact fold_from lessN _ k ks (less_self k hkgk)
        have eM : M = ks.foldl moreN k := by rw [hM]; exact fold_from moreN _ k ks (more_self k hkgk)
        unfold reckonK
        by_cases w1 : way = 1
        · subst w1
          have kI := rInt_ok (G := G) ((ks.length : Int) + 1) (by omega) (by omega)
          have kD := rnDiv_ok (G := G) S (tell (((ks.length : Int) + 1) * 1000000)) oS (ok_tell _)
          rw [← eS]
          simp only [numA_eq] at kI kD
          simp [f0, f5, f6, ra, hms]
          refine qc_same kI (by simp) (by simp) ?_
          simp [f6, ra]
          refine qc_same kD (by simp) (by simp) ?_
          simp [f4, r2, r2', h0l, numA]
        · by_cases w2 : way = 2
          · subst w2
            rw [← eS]
            simp [f0, f4, f6, ra, r2, r2', h0l, numA]
          · by_cases w3 : way = 3
            · subst w3
              rw [← eL]
              simp [f0, f4, f7, rb, r2, r2', h0l, numA]
            · by_cases w4 : way = 4
              · subst w4
                rw [← eM]
                simp [f0, f4, f8, rc, r2, r2', h0l, numA]
              · have w5 : way = 5 := by omega
                subst w5
                obtain ⟨z, hz⟩ : ∃ z, z = (k :: ks).getLast (by simp) := ⟨_, rfl⟩
                have hz1 : (k :: ks)[ks.length]? = some z := by
                  rw [hz, List.getLast_eq_getElem, List.getElem?_eq_getElem (by simp)]; simp
                have hz2 := numEls_get hz1
                obtain ⟨hy1, hy2⟩ := List.getElem?_eq_some_iff.1 hz2
                have hw : IntKind.i64.wrap (ks.length : Int) = ks.length := wrap_i64 (by omega) (by omega)
                rw [← hz]
                simp [f0, f4, f5, r2, r2', h0l, hms, hw, hz2, hy2, numA]
    · intro l hl
      have hgt : (numEls (k :: ks))[0]? = some [.bool k.1, .int .i64 k.2] := by simp [numEls_cons]
      simp only [List.mem_cons, List.not_mem_nil, or_false] at hl
      rcases hl with rfl | rfl | rfl | rfl | rfl | rfl
      · simp
        refine qc_same kO (by simp) (by simp) ?_
        simp
        refine jn_intro ⟨by simp, by simp, by simp [numEls_cons], 1, 2, 3, by simp, by simp, by simp, by simp, by simp [splice], by decide, by decide, by decide, by decide, by decide, by decide, by decide, by decide, by decide, by simp [splice], by simp [splice], by simp [splice]⟩
      · simp
        refine qc_same kO (by simp) (by simp) ?_
        simp
        refine jn_intro ⟨by simp, by simp, by simp [numEls_cons], 2, 1, 3, by simp, by simp, by simp, by simp, by simp [splice], by decide, by decide, by decide, by decide, by decide, by decide, by decide, by decide, by decide, by simp [splice], by simp [splice], by simp [splice]⟩
      · simp
        refine qc_same kO (by simp) (by simp) ?_
        simp
        refine jn_intro ⟨by simp, by simp, by simp [numEls_cons], 3, 1, 2, by simp, by simp, by simp, by simp, by simp [splice], by decide, by decide, by decide, by decide, by decide, by decide, by decide, by decide, by decide, by simp [splice], by simp [splice], by simp [splice]⟩
      · simp
        refine qc_same kO (by simp) (by simp) ?_
        simp
        refine jn_intro ⟨by simp, by simp, by simp [numEls_cons], 1, 3, 2, by simp, by simp, by simp, by simp, by simp [splice], by decide, by decide, by decide, by decide, by decide, by decide, by decide, by decide, by decide, by simp [splice], by simp [splice], by simp [splice]⟩
      · simp
        refine qc_same kO (by simp) (by simp) ?_
        simp
        refine jn_intro ⟨by simp, by simp, by simp [numEls_cons], 2, 3, 1, by simp, by simp, by simp, by simp, by simp [splice], by decide, by decide, by decide, by decide, by decide, by decide, by decide, by decide, by decide, by simp [splice], by simp [splice], by simp [splice]⟩
      · simp
        refine qc_same kO (by simp) (by simp) ?_
        simp
        refine jn_intro ⟨by simp, by simp, by simp [numEls_cons], 3, 2, 1, by simp, by simp, by simp, by simp, by simp [splice], by decide, by decide, by decide, by decide, by decide, by decide, by decide, by decide, by decide, by simp [splice], by simp [splice], by simp [splice]⟩
end Go.Proofs.YtipncibiodfmdaaGreatDoor
