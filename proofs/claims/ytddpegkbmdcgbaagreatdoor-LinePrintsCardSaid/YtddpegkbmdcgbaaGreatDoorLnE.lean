/- Points as lines: the document's Words, Parse, Print, Stamp; the laws of what any line says, and of what is printed. -/
import Derived.Test.YtddpegkbmdcgbaaGreatDoorLnC
import Derived.Test.YtddpegkbmdcgbaaGreatDoorDcO
set_option linter.unusedSimpArgs false
set_option linter.unusedVariables false
set_option linter.constructorNameAsVariable false
set_option maxHeartbeats 4000000
namespace Go.Proofs.YtddpegkbmdcgbaaGreatDoor
open Go.Abs Go.Glob Go.Line Go.Dec Go.Trail
variable {G : Globs}

def WInv (s : List UInt8) (x : Nat) (f : Abs.Frame) (σ : Store) : Prop := ∃ (i : Nat) (out : List (List UInt8)), x = s.length + 1 - i ∧ i ≤ s.length + 1 ∧ out.length ≤ i ∧
  ((i = s.length + 1 ∧ flds [] s = out) ∨ (i ≤ s.length ∧ ((f 4 = .int .i64 (-1) ∧ flds [] s = out ++ flds [] (s.drop i)) ∨ ∃ a : Nat, f 4 = .int .i64 a ∧ a < i ∧ flds [] s = out ++ flds ((s.take i).drop a) (s.drop i)))) ∧ f 0 = .str s ∧ AccW 9 1 σ (f 3) (txtW out) ∧ f 5 = .int .i64 i
theorem accW_view {e : TypeId} {size : Nat} {σ : Store} {v : AV} {l : List (List AV)} (h : AccW e size σ v l) : view σ v = some l := by
  rcases h with ⟨h1, h2⟩ | ⟨h1, rid, h2, he⟩
  · rw [h2, h1]; rfl
  · rw [h2]; simp [view, he]
theorem rwords_ok (t : List UInt8) (ht : t.length ≤ 1000000000000) : PCalls Tryz.prog n_isobarref18_Words [.str t] (fun r => r = .lst (txtW (words t))) := by
  refine pcalls_of_awp hmix c_isobarref18_Words rfl ?_
  simp [a_isobarref18_Words]
  by_cases hlast : t.getLast? = some 13
  · obtain ⟨S, rfl⟩ := List.getLast?_eq_some_iff.1 hlast
    have hW : words (S ++ [13]) = flds [] S := by unfold words cutCR; rw [if_pos hlast]; simp
    simp at ht
    have hw1 : IntKind.i64.wrap ((S.length : Int) + 1 - 1) = (S.length : Int) := by rw [wrap_i64 (by omega) (by omega)]; omega
    have hw2 : IntKind.i64.wrap (S.length : Int) = (S.length : Int) := wrap_i64 (by omega) (by omega)
    have hp1 : (0 : Int) < (S.length : Int) + 1 := by omega
    have hle : (S.length : Int) ≤ (S.length : Int) + 1 := by omega
    simp [hw1, hw2, hp1, hle]
    refine lp_startx (WInv S) (S.length + 1) ?_ ?_
    · exact ⟨0, [], by simp, by simp, by simp, .inr ⟨by simp, .inl ⟨by simp, by simp⟩⟩, by simp, .inl ⟨rfl, by simp⟩, by simp⟩
    rintro x f σ ⟨i, out, hx, hi, ho, hinv, h0, h3, h5⟩
    have htl : (txtW out).length = out.length := by simp [txtW]
    by_cases hil : i ≤ S.length
    · obtain ⟨_, hst⟩ := hinv.resolve_left (fun h => by omega)
      have hil' : (i : Int) ≤ (S.length : Int) := by omega
      have hwi : IntKind.i64.wrap ((i : Int) + 1) = (i : Int) + 1 := wrap_i64 (by omega) (by omega)
      by_cases hie : i = S.length
      · subst hie
        rcases hst with ⟨h4, hfl⟩ | ⟨a, h4, ha, hfl⟩
        · simp [h0, h4, h5, hil, hil', hwi]
          refine nx_intro 0 (by omega) ⟨S.length + 1, out, by omega, by omega, by omega, .inl ⟨rfl, by rw [hfl]; simp [flds]⟩, by simp [h0], by simpa using h3, by simp⟩
        · have hai : (a : Int) ≤ (S.length : Int) := by omega
          have hai2 : a ≤ S.length := by omega
          have hne : ¬ (S.take S.length).drop a = [] := by
            intro he
            have := congrArg List.length he
            simp at this; omega
          simp [h0, h4, h5, hil, hil', hwi, hai, hai2]
          refine ap_accW h3 _ (by omega) rfl (by rw [htl]; omega) (by rw [htl]; omega) ?_
          intro v' σ' hacc
          simp [h5, hwi]
          refine nx_intro 0 (by omega) ⟨S.length + 1, out ++ [S.drop a], by omega, by omega, by simp; omega, .inl ⟨rfl, ?_⟩, by simp [h0], by simpa [txtW] using hacc, by simp⟩
          rw [hfl, List.drop_length, flds, if_neg hne]; simp
      · have hlt : i < S.length := by omega
        obtain ⟨c, hc⟩ : ∃ c, S[i]? = some c := ⟨_, List.getElem?_eq_getElem hlt⟩
        obtain ⟨_, hc2⟩ := List.getElem?_eq_some_iff.1 hc
        have hd := drop_cons hc
        have hne : ¬ (i : Int) = (S.length : Int) := by omega
        have hgapq : gapB c = true → ∀ (K : Prop), (c = 32 → K) → (¬ c = 32 → c = 9 → K) → K := fun hg K k1 k2 => by
          simp only [gapB, Bool.or_eq_true, beq_iff_eq] at hg
          by_cases h32 : c = 32
          · exact k1 h32
          · exact k2 h32 (hg.resolve_left h32)
        by_cases hg : gapB c = true
        · rcases hst with ⟨h4, hfl⟩ | ⟨a, h4, ha, hfl⟩
          · have hfl2 : flds [] S = out ++ flds [] (S.drop (i + 1)) := by rw [hfl, hd, flds_gap hg]; simp
            refine hgapq hg _ (fun e => ?_) (fun e1 e => ?_)
            · subst e
              simp [h0, h4, h5, hil, hil', hne, hie, hc, hc2, hwi]
              refine nx_intro (S.length + 1 - (i + 1)) (by omega) ⟨i + 1, out, by omega, by omega, by omega, .inr ⟨by omega, .inl ⟨by simp [h4], hfl2⟩⟩, by simp [h0], by simpa using h3, by simp⟩
            · subst e
              simp [h0, h4, h5, hil, hil', hne, hie, hc, hc2, hwi]
              refine nx_intro (S.length + 1 - (i + 1)) (by omega) ⟨i + 1, out, by omega, by omega, by omega, .inr ⟨by omega, .inl ⟨by simp [h4], hfl2⟩⟩, by simp [h0], by simpa using h3, by simp⟩
          · have hai : (a : Int) ≤ (i : Int) := by omega
            have hai2 : a ≤ i := by omega
            have hnn : ¬ (S.take i).drop a = [] := by
              intro he
              have := congrArg List.length he
              simp at this; omega
            have hfl2 : flds [] S = (out ++ [(S.take i).drop a]) ++ flds [] (S.drop (i + 1)) := by rw [hfl, hd, flds_gap hg, if_neg hnn]; simp
            refine hgapq hg _ (fun e => ?_) (fun e1 e => ?_)
            · subst e
              simp [h0, h4, h5, hil, hil', hne, hie, hc, hc2, hwi, hai, hai2]
              refine ap_accW h3 _ (by omega) rfl (by rw [htl]; omega) (by rw [htl]; omega) ?_
              intro v' σ' hacc
              simp [h5, hwi]
              refine nx_intro (S.length + 1 - (i + 1)) (by omega) ⟨i + 1, out ++ [(S.take i).drop a], by omega, by omega, by simp; omega, .inr ⟨by omega, .inl ⟨by simp, hfl2⟩⟩, by simp [h0], by simpa [txtW] using hacc, by simp⟩
            · subst e
              simp [h0, h4, h5, hil, hil', hne, hie, hc, hc2, hwi, hai, hai2]
              refine ap_accW h3 _ (by omega) rfl (by rw [htl]; omega) (by rw [htl]; omega) ?_
              intro v' σ' hacc
              simp [h5, hwi]
              refine nx_intro (S.length + 1 - (i + 1)) (by omega) ⟨i + 1, out ++ [(S.take i).drop a], by omega, by omega, by simp; omega, .inr ⟨by omega, .inl ⟨by simp, hfl2⟩⟩, by simp [h0], by simpa [txtW] using hacc, by simp⟩
        · have h32 : ¬ c = 32 := fun e => hg (by rw [e]; rfl)
          have h9 : ¬ c = 9 := fun e => hg (by rw [e]; rfl)
          have h32' : ¬ ((c.toNat : Int) = 32) := fun e => h32 (UInt8.toNat_inj.1 (show c.toNat = 32 by omega))
          have h9' : ¬ ((c.toNat : Int) = 9) := fun e => h9 (UInt8.toNat_inj.1 (show c.toNat = 9 by omega))
          rcases hst with ⟨h4, hfl⟩ | ⟨a, h4, ha, hfl⟩
          · have hfl2 : flds [] S = out ++ flds ((S.take (i + 1)).drop i) (S.drop (i + 1)) := by
              have e0 : (S.take i).drop i = [] := List.drop_of_length_le (by rw [List.length_take]; omega)
              rw [hfl, hd, flds, if_neg hg, take_snoc hc (Nat.le_refl _), e0]
            simp [h0, h4, h5, hil, hil', hne, hie, hc, hc2, hwi, h32', h9']
            refine nx_intro (S.length + 1 - (i + 1)) (by omega) ⟨i + 1, out, by omega, by omega, by omega, .inr ⟨by omega, .inr ⟨i, by simp, by omega, hfl2⟩⟩, by simp [h0], by simpa using h3, by simp⟩
          · have ha0 : ¬ (a : Int) < 0 := by omega
            have hfl2 : flds [] S = out ++ flds ((S.take (i + 1)).drop a) (S.drop (i + 1)) := by
              rw [hfl, hd, flds, if_neg hg, take_snoc hc (by omega)]
            simp [h0, h4, h5, hil, hil', hne, hie, hc, hc2, hwi, h32', h9', ha0]
            refine nx_intro (S.length + 1 - (i + 1)) (by omega) ⟨i + 1, out, by omega, by omega, by omega, .inr ⟨by omega, .inr ⟨a, by simp [h4], by omega, hfl2⟩⟩, by simp [h0], by simpa using h3, by simp⟩
    · obtain ⟨hie, hfl⟩ := hinv.resolve_right (fun h => by omega)
      have hil' : ¬ (i : Int) ≤ (S.length : Int) := by omega
      rw [hW, hfl]
      rcases h3 with ⟨h1, h2⟩ | ⟨h1, rid, h2, hr⟩
      · rw [h1]
        simp [h0, h2, h5, hil, hil']
      · simp [h0, h2, h5, hil, hil', view, hr, htl]
  · have hW : words t = flds [] t := by unfold words cutCR; rw [if_neg hlast]
    by_cases h00 : t = []
    · subst h00
      simp
      refine lp_gen (fun f' => f' 0 = .str [] ∧ f' 3 = .nils ∧ f' 4 = .int .i64 (-1) ∧ f' 5 = .int .i64 0) ⟨by simp, by simp, by simp, by simp⟩ ?_
      rintro f0 ⟨u0, u3, u4, u5⟩
      obtain ⟨S, hS⟩ : ∃ S : List UInt8, S = [] := ⟨_, rfl⟩
      have hW : words [] = flds [] S := by rw [hS]; exact hW
      have ht : S.length ≤ 1000000000000 := by rw [hS]; exact ht
      have u0 : f0 0 = .str S := by rw [hS]; exact u0
      refine lp_startx (WInv S) (S.length + 1) ?_ ?_
      · exact ⟨0, [], by simp, by simp, by simp, .inr ⟨by simp, .inl ⟨u4, by simp⟩⟩, u0, .inl ⟨rfl, u3⟩, u5⟩
      rintro x f σ ⟨i, out, hx, hi, ho, hinv, h0, h3, h5⟩
      have htl : (txtW out).length = out.length := by simp [txtW]
      by_cases hil : i ≤ S.length
      · obtain ⟨_, hst⟩ := hinv.resolve_left (fun h => by omega)
        have hil' : (i : Int) ≤ (S.length : Int) := by omega
        have hwi : IntKind.i64.wrap ((i : Int) + 1) = (i : Int) + 1 := wrap_i64 (by omega) (by omega)
        by_cases hie : i = S.length
        · subst hie
          rcases hst with ⟨h4, hfl⟩ | ⟨a, h4, ha, hfl⟩
          · simp [h0, h4, h5, hil, hil', hwi]
            refine nx_intro 0 (by omega) ⟨S.length + 1, out, by omega, by omega, by omega, .inl ⟨rfl, by rw [hfl]; simp [flds]⟩, by simp [h0], by simpa using h3, by simp⟩
          · have hai : (a : Int) ≤ (S.length : Int) := by omega
            have hai2 : a ≤ S.length := by omega
            have hne : ¬ (S.take S.length).drop a = [] := by
              intro he
              have := congrArg List.length he
              simp at this; omega
            simp [h0, h4, h5, hil, hil', hwi, hai, hai2]
            refine ap_accW h3 _ (by omega) rfl (by rw [htl]; omega) (by rw [htl]; omega) ?_
            intro v' σ' hacc
            simp [h5, hwi]
            refine nx_intro 0 (by omega) ⟨S.length + 1, out ++ [S.drop a], by omega, by omega, by simp; omega, .inl ⟨rfl, ?_⟩, by simp [h0], by simpa [txtW] using hacc, by simp⟩
            rw [hfl, List.drop_length, flds, if_neg hne]; simp
        · have hlt : i < S.length := by omega
          obtain ⟨c, hc⟩ : ∃ c, S[i]? = some c := ⟨_, List.getElem?_eq_getElem hlt⟩
          obtain ⟨_, hc2⟩ := List.getElem?_eq_some_iff.1 hc
          have hd := drop_cons hc
          have hne : ¬ (i : Int) = (S.length : Int) := by omega
          have hgapq : gapB c = true → ∀ (K : Prop), (c = 32 → K) → (¬ c = 32 → c = 9 → K) → K := fun hg K k1 k2 => by
            simp only [gapB, Bool.or_eq_true, beq_iff_eq] at hg
            by_cases h32 : c = 32
            · exact k1 h32
            · exact k2 h32 (hg.resolve_left h32)
          by_cases hg : gapB c = true
          · rcases hst with ⟨h4, hfl⟩ | ⟨a, h4, ha, hfl⟩
            · have hfl2 : flds [] S = out ++ flds [] (S.drop (i + 1)) := by rw [hfl, hd, flds_gap hg]; simp
              refine hgapq hg _ (fun e => ?_) (fun e1 e => ?_)
              · subst e
                simp [h0, h4, h5, hil, hil', hne, hie, hc, hc2, hwi]
                refine nx_intro (S.length + 1 - (i + 1)) (by omega) ⟨i + 1, out, by omega, by omega, by omega, .inr ⟨by omega, .inl ⟨by simp [h4], hfl2⟩⟩, by simp [h0], by simpa using h3, by simp⟩
              · subst e
                simp [h0, h4, h5, hil, hil', hne, hie, hc, hc2, hwi]
                refine nx_intro (S.length + 1 - (i + 1)) (by omega) ⟨i + 1, out, by omega, by omega, by omega, .inr ⟨by omega, .inl ⟨by simp [h4], hfl2⟩⟩, by simp [h0], by simpa using h3, by simp⟩
            · have hai : (a : Int) ≤ (i : Int) := by omega
              have hai2 : a ≤ i := by omega
              have hnn : ¬ (S.take i).drop a = [] := by
                intro he
                have := congrArg List.length he
                simp at this; omega
              have hfl2 : flds [] S = (out ++ [(S.take i).drop a]) ++ flds [] (S.drop (i + 1)) := by rw [hfl, hd, flds_gap hg, if_neg hnn]; simp
              refine hgapq hg _ (fun e => ?_) (fun e1 e => ?_)
              · subst e
                simp [h0, h4, h5, hil, hil', hne, hie, hc, hc2, hwi, hai, hai2]
                refine ap_accW h3 _ (by omega) rfl (by rw [htl]; omega) (by rw [htl]; omega) ?_
                intro v' σ' hacc
                simp [h5, hwi]
                refine nx_intro (S.length + 1 - (i + 1)) (by omega) ⟨i + 1, out ++ [(S.take i).drop a], by omega, by omega, by simp; omega, .inr ⟨by omega, .inl ⟨by simp, hfl2⟩⟩, by simp [h0], by simpa [txtW] using hacc, by simp⟩
              · subst e
                simp [h0, h4, h5, hil, hil', hne, hie, hc, hc2, hwi, hai, hai2]
                refine ap_accW h3 _ (by omega) rfl (by rw [htl]; omega) (by rw [htl]; omega) ?_
                intro v' σ' hacc
                simp [h5, hwi]
                refine nx_intro (S.length + 1 - (i + 1)) (by omega) ⟨i + 1, out ++ [(S.take i).drop a], by omega, by omega, by simp; omega, .inr ⟨by omega, .inl ⟨by simp, hfl2⟩⟩, by simp [h0], by simpa [txtW] using hacc, by simp⟩
          · have h32 : ¬ c = 32 := fun e => hg (by rw [e]; rfl)
            have h9 : ¬ c = 9 := fun e => hg (by rw [e]; rfl)
            have h32' : ¬ ((c.toNat : Int) = 32) := fun e => h32 (UInt8.toNat_inj.1 (show c.toNat = 32 by omega))
            have h9' : ¬ ((c.toNat : Int) = 9) := fun e => h9 (UInt8.toNat_inj.1 (show c.toNat = 9 by omega))
            rcases hst with ⟨h4, hfl⟩ | ⟨a, h4, ha, hfl⟩
            · have hfl2 : flds [] S = out ++ flds ((S.take (i + 1)).drop i) (S.drop (i + 1)) := by
                have e0 : (S.take i).drop i = [] := List.drop_of_length_le (by rw [List.length_take]; omega)
                rw [hfl, hd, flds, if_neg hg, take_snoc hc (Nat.le_refl _), e0]
              simp [h0, h4, h5, hil, hil', hne, hie, hc, hc2, hwi, h32', h9']
              refine nx_intro (S.length + 1 - (i + 1)) (by omega) ⟨i + 1, out, by omega, by omega, by omega, .inr ⟨by omega, .inr ⟨i, by simp, by omega, hfl2⟩⟩, by simp [h0], by simpa using h3, by simp⟩
            · have ha0 : ¬ (a : Int) < 0 := by omega
              have hfl2 : flds [] S = out ++ flds ((S.take (i + 1)).drop a) (S.drop (i + 1)) := by
                rw [hfl, hd, flds, if_neg hg, take_snoc hc (by omega)]
              simp [h0, h4, h5, hil, hil', hne, hie, hc, hc2, hwi, h32', h9', ha0]
              refine nx_intro (S.length + 1 - (i + 1)) (by omega) ⟨i + 1, out, by omega, by omega, by omega, .inr ⟨by omega, .inr ⟨a, by simp [h4], by omega, hfl2⟩⟩, by simp [h0], by simpa using h3, by simp⟩
      · obtain ⟨hie, hfl⟩ := hinv.resolve_right (fun h => by omega)
        have hil' : ¬ (i : Int) ≤ (S.length : Int) := by omega
        rw [hW, hfl]
        rcases h3 with ⟨h1, h2⟩ | ⟨h1, rid, h2, hr⟩
        · rw [h1]
          simp [h0, h2, h5, hil, hil']
        · simp [h0, h2, h5, hil, hil', view, hr, htl]
    · obtain ⟨u, d, rfl⟩ : ∃ u d, t = u ++ [d] := ⟨t.dropLast, t.getLast h00, (List.dropLast_concat_getLast h00).symm⟩
      have hd13 : ¬ d = 13 := fun e => hlast (by rw [e]; simp)
      have hd13' : ¬ ((d.toNat : Int) = 13) := fun e => hd13 (UInt8.toNat_inj.1 (show d.toNat = 13 by omega))
      simp at ht
      have hw1 : IntKind.i64.wrap ((u.length : Int) + 1 - 1) = (u.length : Int) := by rw [wrap_i64 (by omega) (by omega)]; omega
      have hw2 : IntKind.i64.wrap (u.length : Int) = (u.length : Int) := wrap_i64 (by omega) (by omega)
      have hp1 : (0 : Int) < (u.length : Int) + 1 := by omega
      simp [hw1, hw2, hp1, hd13']
      obtain ⟨S, hS⟩ : ∃ S : List UInt8, S = u ++ [d] := ⟨_, rfl⟩
      have hSl : S.length = u.length + 1 := by rw [hS]; simp
      rw [← hS]
      rw [← hS] at hW
      refine lp_startx (WInv S) (S.length + 1) ?_ ?_
      · exact ⟨0, [], by simp, by simp, by simp, .inr ⟨by simp, .inl ⟨by simp, by simp⟩⟩, by simp, .inl ⟨rfl, by simp⟩, by simp⟩
      rintro x f σ ⟨i, out, hx, hi, ho, hinv, h0, h3, h5⟩
      have htl : (txtW out).length = out.length := by simp [txtW]
      by_cases hil : i ≤ S.length
      · obtain ⟨_, hst⟩ := hinv.resolve_left (fun h => by omega)
        have hil' : (i : Int) ≤ (S.length : Int) := by omega
        have hwi : IntKind.i64.wrap ((i : Int) + 1) = (i : Int) + 1 := wrap_i64 (by omega) (by omega)
        by_cases hie : i = S.length
        · subst hie
          rcases hst with ⟨h4, hfl⟩ | ⟨a, h4, ha, hfl⟩
          · simp [h0, h4, h5, hil, hil', hwi]
            refine nx_intro 0 (by omega) ⟨S.length + 1, out, by omega, by omega, by omega, .inl ⟨rfl, by rw [hfl]; simp [flds]⟩, by simp [h0], by simpa using h3, by simp⟩
          · have hai : (a : Int) ≤ (S.length : Int) := by omega
            have hai2 : a ≤ S.length := by omega
            have hne : ¬ (S.take S.length).drop a = [] := by
              intro he
              have := congrArg List.length he
              simp at this; omega
            simp [h0, h4, h5, hil, hil', hwi, hai, hai2]
            refine ap_accW h3 _ (by omega) rfl (by rw [htl]; omega) (by rw [htl]; omega) ?_
            intro v' σ' hacc
            simp [h5, hwi]
            refine nx_intro 0 (by omega) ⟨S.length + 1, out ++ [S.drop a], by omega, by omega, by simp; omega, .inl ⟨rfl, ?_⟩, by simp [h0], by simpa [txtW] using hacc, by simp⟩
            rw [hfl, List.drop_length, flds, if_neg hne]; simp
        · have hlt : i < S.length := by omega
          obtain ⟨c, hc⟩ : ∃ c, S[i]? = some c := ⟨_, List.getElem?_eq_getElem hlt⟩
          obtain ⟨_, hc2⟩ := List.getElem?_eq_some_iff.1 hc
          have hd := drop_cons hc
          have hne : ¬ (i : Int) = (S.length : Int) := by omega
          have hgapq : gapB c = true → ∀ (K : Prop), (c = 32 → K) → (¬ c = 32 → c = 9 → K) → K := fun hg K k1 k2 => by
            simp only [gapB, Bool.or_eq_true, beq_iff_eq] at hg
            by_cases h32 : c = 32
            · exact k1 h32
            · exact k2 h32 (hg.resolve_left h32)
          by_cases hg : gapB c = true
          · rcases hst with ⟨h4, hfl⟩ | ⟨a, h4, ha, hfl⟩
            · have hfl2 : flds [] S = out ++ flds [] (S.drop (i + 1)) := by rw [hfl, hd, flds_gap hg]; simp
              refine hgapq hg _ (fun e => ?_) (fun e1 e => ?_)
              · subst e
                simp [h0, h4, h5, hil, hil', hne, hie, hc, hc2, hwi]
                refine nx_intro (S.length + 1 - (i + 1)) (by omega) ⟨i + 1, out, by omega, by omega, by omega, .inr ⟨by omega, .inl ⟨by simp [h4], hfl2⟩⟩, by simp [h0], by simpa using h3, by simp⟩
              · subst e
                simp [h0, h4, h5, hil, hil', hne, hie, hc, hc2, hwi]
                refine nx_intro (S.length + 1 - (i + 1)) (by omega) ⟨i + 1, out, by omega, by omega, by omega, .inr ⟨by omega, .inl ⟨by simp [h4], hfl2⟩⟩, by simp [h0], by simpa using h3, by simp⟩
            · have hai : (a : Int) ≤ (i : Int) := by omega
              have hai2 : a ≤ i := by omega
              have hnn : ¬ (S.take i).drop a = [] := by
                intro he
                have := congrArg List.length he
                simp at this; omega
              have hfl2 : flds [] S = (out ++ [(S.take i).drop a]) ++ flds [] (S.drop (i + 1)) := by rw [hfl, hd, flds_gap hg, if_neg hnn]; simp
              refine hgapq hg _ (fun e => ?_) (fun e1 e => ?_)
              · subst e
                simp [h0, h4, h5, hil, hil', hne, hie, hc, hc2, hwi, hai, hai2]
                refine ap_accW h3 _ (by omega) rfl (by rw [htl]; omega) (by rw [htl]; omega) ?_
                intro v' σ' hacc
                simp [h5, hwi]
                refine nx_intro (S.length + 1 - (i + 1)) (by omega) ⟨i + 1, out ++ [(S.take i).drop a], by omega, by omega, by simp; omega, .inr ⟨by omega, .inl ⟨by simp, hfl2⟩⟩, by simp [h0], by simpa [txtW] using hacc, by simp⟩
              · subst e
                simp [h0, h4, h5, hil, hil', hne, hie, hc, hc2, hwi, hai, hai2]
                refine ap_accW h3 _ (by omega) rfl (by rw [htl]; omega) (by rw [htl]; omega) ?_
                intro v' σ' hacc
                simp [h5, hwi]
                refine nx_intro (S.length + 1 - (i + 1)) (by omega) ⟨i + 1, out ++ [(S.take i).drop a], by omega, by omega, by simp; omega, .inr ⟨by omega, .inl ⟨by simp, hfl2⟩⟩, by simp [h0], by simpa [txtW] using hacc, by simp⟩
          · have h32 : ¬ c = 32 := fun e => hg (by rw [e]; rfl)
            have h9 : ¬ c = 9 := fun e => hg (by rw [e]; rfl)
            have h32' : ¬ ((c.toNat : Int) = 32) := fun e => h32 (UInt8.toNat_inj.1 (show c.toNat = 32 by omega))
            have h9' : ¬ ((c.toNat : Int) = 9) := fun e => h9 (UInt8.toNat_inj.1 (show c.toNat = 9 by omega))
            rcases hst with ⟨h4, hfl⟩ | ⟨a, h4, ha, hfl⟩
            · have hfl2 : flds [] S = out ++ flds ((S.take (i + 1)).drop i) (S.drop (i + 1)) := by
                have e0 : (S.take i).drop i = [] := List.drop_of_length_le (by rw [List.length_take]; omega)
                rw [hfl, hd, flds, if_neg hg, take_snoc hc (Nat.le_refl _), e0]
              simp [h0, h4, h5, hil, hil', hne, hie, hc, hc2, hwi, h32', h9']
              refine nx_intro (S.length + 1 - (i + 1)) (by omega) ⟨i + 1, out, by omega, by omega, by omega, .inr ⟨by omega, .inr ⟨i, by simp, by omega, hfl2⟩⟩, by simp [h0], by simpa using h3, by simp⟩
            · have ha0 : ¬ (a : Int) < 0 := by omega
              have hfl2 : flds [] S = out ++ flds ((S.take (i + 1)).drop a) (S.drop (i + 1)) := by
                rw [hfl, hd, flds, if_neg hg, take_snoc hc (by omega)]
              simp [h0, h4, h5, hil, hil', hne, hie, hc, hc2, hwi, h32', h9', ha0]
              refine nx_intro (S.length + 1 - (i + 1)) (by omega) ⟨i + 1, out, by omega, by omega, by omega, .inr ⟨by omega, .inr ⟨a, by simp [h4], by omega, hfl2⟩⟩, by simp [h0], by simpa using h3, by simp⟩
      · obtain ⟨hie, hfl⟩ := hinv.resolve_right (fun h => by omega)
        have hil' : ¬ (i : Int) ≤ (S.length : Int) := by omega
        rw [hW, hfl]
        rcases h3 with ⟨h1, h2⟩ | ⟨h1, rid, h2, hr⟩
        · rw [h1]
          simp [h0, h2, h5, hil, hil']
        · simp [h0, h2, h5, hil, hil', view, hr, htl]
end Go.Proofs.YtddpegkbmdcgbaaGreatDoor
