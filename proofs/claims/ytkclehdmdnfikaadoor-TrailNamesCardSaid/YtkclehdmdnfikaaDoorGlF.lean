/- Patterns of one name: pieces. -/
import Derived.Test.YtkclehdmdnfikaaDoorGlE
set_option linter.unusedSimpArgs false
set_option linter.unusedVariables false
set_option linter.constructorNameAsVariable false
namespace Go.Proofs.YtkclehdmdnfikaaDoor
open Go.Abs Go.Glob
variable {G : Globs}

def PInv (σ : Store) (id : Nat) (text : List UInt8) (at_ : Nat) (depth deepest : Int) (n : Nat) (x : Nat) (f : Abs.Frame) (σ' : Store) : Prop :=
  ∃ (k : Nat) (bad : Bool) (dp : Int) (acc : List (List AV)), x = (if bad then 0 else text.length - k + 1) ∧ k ≤ text.length ∧ (∀ c ∈ acc, c.length = 5) ∧
    (bad = true → pcs n (text.drop at_) = none) ∧
    (bad = false → at_ ≤ k ∧ acc.length ≤ k ∧ ∃ (ps : List Pc) (d0 m : Nat), acc = encL ps ∧ 2 * (text.length - k) + 1 ≤ m ∧ dp = max deepest (depth + (d0 : Nat)) ∧ pcs n (text.drop at_) = ((pcs m (text.drop k)).map fun y => (ps ++ y.1, y.2.1, max d0 y.2.2))) ∧
    f 0 = .ptr id 0 ∧ f 2 = .nils ∧ f 3 = rowV σ.length acc ∧ σ' = σ.set id (PV text k bad depth dp) ++ rowE 126 5 acc true

theorem pieces_of (L : Nat) (hB : ∀ L', L' < L → BracesAt L') : PiecesAt L := by
  intro σ id text at_ depth deepest n hid h1 hL h3 hd0 hdm hdd hn
  refine acalls_of_awp_e hmix c_glob_parser_pieces rfl ?_
  have g0 := @set_get σ id hid
  have g00 := @set_get' σ id hid
  have q0 := @set_set σ id hid
  have hset : ∀ e X, (σ ++ X).set id e = σ.set id e ++ X := fun e X => (set_app e hid).symm
  simp [a_glob_parser_pieces]
  refine lp_startx (PInv σ id text at_ depth deepest n) (text.length - at_ + 1) ?_ ?_
  · refine ⟨at_, false, deepest, [], by simp, h1, by simp, by simp, fun _ => ⟨Nat.le_refl _, by simp, [], 0, n, by simp [encL], hn, by omega, by simp⟩, by simp, by simp, by simp [rowV], by simp [rowE]⟩
  rintro x f σ' ⟨k, bad, dp, acc, rfl, hk2, h5, hbad, hgood, h0, h2, h3', rfl⟩
  have hend : ∀ {f' : Abs.Frame} {tf : Tg f'} (σ' : Store), f' 2 = rowV σ.length acc → PieceR σ id text depth deepest (pcs n (text.drop at_)) (.lst acc) (σ.set id (PV text k bad depth dp)) → σ' = σ.set id (PV text k bad depth dp) ++ rowE 126 5 acc true →
      er (σ.set id (PV text at_ false depth deepest)) (PieceR σ id text depth deepest (pcs n (text.drop at_))) (.mk _) a_glob_parser_pieces.res f' tf σ' := by
    intro f' tf σ' hf hR hσ'
    subst hσ'
    refine er_set id (PV text k bad depth dp) (.lst acc) (rowE 126 5 acc true) ?_ rfl (PV_under _ _ _ _ _ _) hR
    have : fin1 (σ.set id (PV text k bad depth dp) ++ rowE 126 5 acc true) σ.length (rowV σ.length acc) = some (.lst acc) := fin1_acc_at (by simp)
    simp [retAt, a_glob_parser_pieces, hf, this]
  simp [h0, h2, g0, g00, q0, PV]
  cases bad with
  | true =>
    simp [h0, h2, g0, g00, q0, PV]
    refine hend _ (by simp [h3']) ?_ rfl
    rw [hbad rfl]
    exact ⟨acc, k, dp, hk2, rfl, rfl⟩
  | false =>
    clear hbad
    obtain ⟨hk1, hal, ps, d0, m, hacc, hm, rfl, hpcs⟩ := hgood rfl
    clear hgood
    have hap : ∀ {K : AV → Store → Prop} {t : Tg K} {e : Entry} (y : List AV), y.length = 5 → K (rowV σ.length (acc ++ [y])) (σ.set id e ++ rowE 126 5 (acc ++ [y]) true) →
        ap K t (σ.set id e ++ rowE 126 5 acc true) 126 5 80 (rowV σ.length acc) (.lst [y]) := by
      intro K t e y hy hK
      exact ap_acc_at (by simp) acc [y] true (by omega) (by simpa using hy) (by simp) (by simp; omega) (by simp; omega) hK
    simp [h0, h2, g0, g00, q0, PV]
    obtain ⟨m, rfl⟩ : ∃ j, m = j + 1 := ⟨m - 1, by omega⟩
    by_cases hlt : k < text.length
    · obtain ⟨c, hc⟩ : ∃ c, text[k]? = some c := ⟨_, List.getElem?_eq_getElem hlt⟩
      have hd := drop_cons hc
      rw [hd] at hpcs
      refine ac_lent (peek_some text k c _ _ _ hc) (.cons (coe_ptr (g0 _ _) (by simp) rfl) .nil) ?_
      rintro r rfl
      refine ⟨by simp, ?_⟩
      have hwk : IntKind.i64.wrap ((k : Int) + 1) = (k : Int) + 1 := wrap_i64 (by omega) (by omega)
      have hcb : ∀ b : UInt8, ((c.toNat : Int) = (b.toNat : Int)) ↔ c = b := fun b => ⟨fun h => UInt8.toNat_inj.1 (by omega), fun h => by rw [h]⟩
      by_cases hst : c = 44 ∨ c = 125
      · rw [pcs_stop hst] at hpcs
        have hdone : PieceR σ id text depth deepest (pcs n (text.drop at_)) (.lst acc) (σ.set id (PV text k false depth (max deepest (depth + (d0 : Nat))))) := by
          rw [hpcs]
          have e : text.length - (c :: text.drop (k + 1)).length = k := by simp; omega
          refine ⟨by simp [hacc], ?_⟩
          simp only [e]
          simp
        rcases hst with rfl | rfl
        · simp [h0, h2, g0, g00, q0, PV]
          exact hend _ (by simp [h3']) hdone rfl
        · simp [h0, h2, g0, g00, q0, PV]
          exact hend _ (by simp [h3']) hdone rfl
      · have hn1 : ¬ ((c.toNat : Int) = 44) := fun h => hst (.inl (UInt8.toNat_inj.1 (show c.toNat = 44 by omega)))
        have hn2 : ¬ ((c.toNat : Int) = 125) := fun h => hst (.inr (UInt8.toNat_inj.1 (show c.toNat = 125 by omega)))
        have hnext : ∀ {f' : Abs.Frame} {tf : Tg f'} {tI : Tg (PInv σ id text at_ depth deepest n)} {σ' : Store} (p : Pc) (k' d' : Nat), k + 1 ≤ k' → k' ≤ text.length →
            pcs n (text.drop at_) = ((pcs m (text.drop k')).map fun y => ((ps ++ [p]) ++ y.1, y.2.1, max (max d0 d') y.2.2)) → f' 0 = .ptr id 0 → f' 2 = .nils → f' 3 = rowV σ.length (acc ++ [p.enc]) →
            σ' = σ.set id (PV text k' false depth (max deepest (depth + (max d0 d' : Nat)))) ++ rowE 126 5 (acc ++ [p.enc]) true → nx (text.length - k + 1) (PInv σ id text at_ depth deepest n) tI f' tf σ' := by
          intro f' tf tI σ' p k' d' hk hk' hp hf0 hf2 hf3 hs
          refine nx_intro (text.length - k' + 1) (by simp; omega) ⟨k', false, _, acc ++ [p.enc], rfl, hk', ?_, nofun, fun _ => ⟨by omega, by simp; omega, ps ++ [p], max d0 d', m, by simp [encL_map, hacc], by omega, rfl, hp⟩, hf0, hf2, hf3, hs⟩
          intro x hx
          rcases List.mem_append.1 hx with hx | hx
          · exact h5 x hx
          · simp only [List.mem_singleton] at hx; subst hx; rfl
        have hstop : ∀ {f' : Abs.Frame} {tf : Tg f'} {tI : Tg (PInv σ id text at_ depth deepest n)} {σ' : Store} (k' : Nat) (dp : Int) (acc' : List (List AV)), k' ≤ text.length → (∀ c ∈ acc', c.length = 5) →
            pcs n (text.drop at_) = none → f' 0 = .ptr id 0 → f' 2 = .nils → f' 3 = rowV σ.length acc' →
            σ' = σ.set id (PV text k' true depth dp) ++ rowE 126 5 acc' true → nx (text.length - k + 1) (PInv σ id text at_ depth deepest n) tI f' tf σ' := by
          intro f' tf tI σ' k' dp acc' hk' h5' hp hf0 hf2 hf3 hs
          exact nx_intro 0 (by omega) ⟨k', true, dp, acc', rfl, hk', h5', fun _ => hp, nofun, hf0, hf2, hf3, hs⟩
        have h5a : ∀ y : List AV, y.length = 5 → ∀ c ∈ acc ++ [y], c.length = 5 := by
          intro y hy x hx
          rcases List.mem_append.1 hx with hx | hx
          · exact h5 x hx
          · simp only [List.mem_singleton] at hx; subst hx; exact hy
        clear hend
        by_cases c63 : c = 63
        · subst c63
          rw [pcs_q] at hpcs
          simp [h0, h2, h3', g0, g00, q0, PV, hwk, hn1, hn2]
          refine hap _ (by rfl) ?_
          simp [h0, h2, h3', g0, g00, q0, PV, hwk, hn1, hn2]
          refine hnext .q (k + 1) 0 (by omega) (by omega) ?_ (by simp [h0]) (by simp [h2]) (by simp [enc_q]) (by simp [PV, enc_q])
          rw [hpcs]; cases pcs m (text.drop (k + 1)) <;> simp
        by_cases c42 : c = 42
        · subst c42
          rw [pcs_star] at hpcs
          simp [h0, h2, h3', g0, g00, q0, PV, hwk, hn1, hn2]
          refine hap _ (by rfl) ?_
          simp [h0, h2, h3', g0, g00, q0, PV, hwk, hn1, hn2]
          refine hnext .star (k + 1) 0 (by omega) (by omega) ?_ (by simp [h0]) (by simp [h2]) (by simp [enc_star]) (by simp [PV, enc_star])
          rw [hpcs]; cases pcs m (text.drop (k + 1)) <;> simp
        have n63 : ¬ ((c.toNat : Int) = 63) := fun h => c63 (UInt8.toNat_inj.1 (show c.toNat = 63 by omega))
        have n42 : ¬ ((c.toNat : Int) = 42) := fun h => c42 (UInt8.toNat_inj.1 (show c.toNat = 42 by omega))
        by_cases c91 : c = 91
        · subst c91
          rw [pcs_cls] at hpcs
          simp [h0, h2, h3', g0, g00, q0, PV, hwk, hn1, hn2]
          have hcl := class_ok (G := G) (σ := σ ++ rowE 126 5 acc true) (id := id) (by simp; omega) text (k + 1) depth (max deepest (depth + (d0 : Nat))) (by omega) (by omega) h3 m (by omega)
          rw [hset] at hcl
          simp only [PV, Int.natCast_add, Int.cast_ofNat_Int] at hcl
          refine ac_eff hcl ?_
          rintro r σ' hr
          cases hc : cls m false (text.drop (k + 1)) with
          | none =>
            rw [hc] at hr
            obtain ⟨rs, k', hk', rfl, rfl⟩ := hr
            simp [h0, h2, h3', g0, g00, q0, PV, hwk, hn1, hn2, hset, enc_cls, n63, n42]
            refine hap _ (by rfl) ?_
            simp [h0, h2, h3', g0, g00, q0, PV, hwk, hn1, hn2, hset, enc_cls]
            refine hstop k' (max deepest (depth + (d0 : Nat))) (acc ++ [(Pc.cls rs []).enc]) hk' (h5a _ rfl) ?_ (by simp [h0]) (by simp [h2]) (by simp [enc_cls]) (by simp [PV, enc_cls])
            rw [hpcs, hc]; rfl
          | some v =>
            obtain ⟨rs, r'⟩ := v
            rw [hc] at hr hpcs
            obtain ⟨rfl, rfl⟩ := hr
            obtain ⟨hdr, hrl⟩ := cls_drop hc
            simp [h0, h2, h3', g0, g00, q0, PV, hwk, hn1, hn2, hset, enc_cls, n63, n42]
            refine hap _ (by rfl) ?_
            simp [h0, h2, h3', g0, g00, q0, PV, hwk, hn1, hn2, hset, enc_cls]
            refine hnext (.cls rs ((text.drop k).take (text.length - (k + 1) + 1 - r'.length))) (text.length - r'.length) 0 (by omega) (by omega) ?_ (by simp [h0]) (by simp [h2]) (by simp [enc_cls]) (by simp [PV, enc_cls])
            rw [hpcs, hdr]
            simp only [Option.bind_some, List.length_drop]
            rw [← hd]
            cases pcs m r' <;> simp
        have n91 : ¬ ((c.toNat : Int) = 91) := fun h => c91 (UInt8.toNat_inj.1 (show c.toNat = 91 by omega))
        by_cases c123 : c = 123
        · subst c123
          rw [pcs_br] at hpcs
          simp [h0, h2, h3', g0, g00, q0, PV, hwk, hn1, hn2, hset]
          have hcl := hB (text.length - (k + 1)) (by omega) (σ ++ rowE 126 5 acc true) id text (k + 1) depth (max deepest (depth + (d0 : Nat))) m (by simp; omega) (by omega) rfl h3 hd0 (by omega) (by omega) (by omega)
          rw [hset] at hcl
          simp only [PV, Int.natCast_add, Int.cast_ofNat_Int] at hcl
          refine ac_eff hcl ?_
          rintro r σ' hr
          unfold BraceR at hr
          cases hc : alts m (text.drop (k + 1)) with
          | none =>
            rw [hc] at hr
            obtain ⟨els, k', dp, hk', rfl, rfl⟩ := hr
            simp [h0, h2, h3', g0, g00, q0, PV, hwk, hn1, hn2, hset]
            refine hap _ (by rfl) ?_
            simp [h0, h2, h3', g0, g00, q0, PV, hwk, hn1, hn2, hset]
            refine hstop k' dp (acc ++ [[.int .i64 4, .int .u8 0, .lst [], .lst els, .str []]]) hk' (h5a _ rfl) ?_ (by simp [h0]) (by simp [h2]) (by simp) (by simp [PV])
            rw [hpcs, hc]; rfl
          | some v =>
            obtain ⟨xs, r', d⟩ := v
            rw [hc] at hr hpcs
            obtain ⟨rfl, rfl⟩ := hr
            obtain ⟨hdr, hrl⟩ := alts_drop hc
            simp [h0, h2, h3', g0, g00, q0, PV, hwk, hn1, hn2, hset, enc_br, hset]
            refine hap _ (by rfl) ?_
            simp [h0, h2, h3', g0, g00, q0, PV, hwk, hn1, hn2, hset, enc_br]
            refine hnext (.br xs) (text.length - r'.length) (d + 1) (by omega) (by omega) ?_ (by simp [h0]) (by simp [h2]) (by simp [enc_br]) ?_
            · rw [hpcs, hdr]
              simp only [Option.bind_some]
              cases pcs m r' <;> simp [Nat.max_assoc]
            · have e : max (max deepest (depth + (d0 : Int))) (depth + ((d : Int) + 1)) = max deepest (depth + max (d0 : Int) ((d : Int) + 1)) := by omega
              have e2 : ((max d0 (d + 1) : Nat) : Int) = max (d0 : Int) ((d : Int) + 1) := by omega
              simp [PV, enc_br, e, e2]
        have n123 : ¬ ((c.toNat : Int) = 123) := fun h => c123 (UInt8.toNat_inj.1 (show c.toNat = 123 by omega))
        simp [h0, h2, h3', g0, g00, q0, PV, hwk, hn1, hn2, n63, n42, n91, n123]
        refine ac_same (byte_ok c) (by simp) ?_
        rintro r rfl
        by_cases hnb : nb c = true
        · rw [pcs_lit hnb] at hpcs
          have hck : List.drop k (List.take (k + 1) text) = [c] := by
            rw [List.drop_take, hd]; simp
          have hw0 : IntKind.i64.wrap (k : Int) = k := wrap_i64 (by omega) (by omega)
          have f1 : (0 : Int) ≤ (k : Int) + 1 := by omega
          have f3 : k + 1 ≤ text.length := by omega
          simp [h0, h2, h3', g0, g00, q0, PV, hwk, hn1, hn2, hnb, hw0, f1, f3, hck]
          refine hap _ (by rfl) ?_
          simp [h0, h2, h3', g0, g00, q0, PV, hwk, hn1, hn2]
          refine hnext (.lit c) (k + 1) 0 (by omega) (by omega) ?_ (by simp [h0]) (by simp [h2]) (by simp [enc_lit]) (by simp [PV, enc_lit])
          rw [hpcs]; cases pcs m (text.drop (k + 1)) <;> simp
        · simp only [Bool.not_eq_true] at hnb
          rw [pcs_no hst c63 c42 c91 c123 hnb] at hpcs
          simp [h0, h2, h3', g0, g00, q0, PV, hwk, hn1, hn2, hnb]
          exact hstop (k + 1) (max deepest (depth + (d0 : Nat))) acc (by omega) h5 hpcs (by simp [h0]) (by simp [h2]) (by simp [h3']) (by simp [PV])
    · refine ac_lent (peek_none text k _ _ _ (by omega)) (.cons (coe_ptr (g0 _ _) (by simp) rfl) .nil) ?_
      rintro r rfl
      refine ⟨by simp, ?_⟩
      simp [h0, h2, g0, g00, q0, PV]
      refine hend _ (by simp [h3']) ?_ rfl
      rw [List.drop_eq_nil_of_le (show text.length ≤ k by omega), pcs_end] at hpcs
      rw [hpcs]
      have e : text.length = k := by omega
      refine ⟨by simp [hacc], ?_⟩
      simp [e]

theorem pieces_ok : ∀ L, PiecesAt L := by
  intro L
  induction L using Nat.strongRecOn with
  | _ L ih => exact pieces_of L fun L' hL' => braces_of L' fun L'' hL'' => ih L'' (by omega)
end Go.Proofs.YtkclehdmdnfikaaDoor
