/- Patterns of one name: pieces, and braces. -/
import Derived.Test.YtkclehdmdnfikaaDoorGlD
set_option linter.unusedSimpArgs false
set_option linter.unusedVariables false
set_option linter.constructorNameAsVariable false
namespace Go.Proofs.YtkclehdmdnfikaaDoor
open Go.Abs Go.Glob
variable {G : Globs}

def PieceR (σ : Store) (id : Nat) (text : List UInt8) (depth deepest : Int) (x : Option (List Pc × List UInt8 × Nat)) (r : AV) (σ' : Store) : Prop :=
  match x with
  | some (l, r', d) => r = .lst (encL l) ∧ σ' = σ.set id (PV text (text.length - r'.length) false depth (max deepest (depth + d)))
  | none => ∃ els k dp, k ≤ text.length ∧ r = .lst els ∧ σ' = σ.set id (PV text k true depth dp)
def BraceR (σ : Store) (id : Nat) (text : List UInt8) (depth deepest : Int) (x : Option (List (List Pc) × List UInt8 × Nat)) (r : AV) (σ' : Store) : Prop :=
  match x with
  | some (l, r', d) => r = .agg (Pc.br l).enc ∧ σ' = σ.set id (PV text (text.length - r'.length) false depth (max deepest (depth + (d + 1 : Nat))))
  | none => ∃ els k dp, k ≤ text.length ∧ r = .agg [.int .i64 4, .int .u8 0, .lst [], .lst els, .str []] ∧ σ' = σ.set id (PV text k true depth dp)

def PiecesAt [Globs] (L : Nat) : Prop := ∀ (σ : Store) (id : Nat) (text : List UInt8) (at_ : Nat) (depth deepest : Int) (n : Nat), id < σ.length → at_ ≤ text.length → text.length - at_ = L → text.length ≤ 1000000 → 0 ≤ depth → depth + (text.length - at_ : Nat) ≤ 2000000 → depth ≤ deepest → 2 * (text.length - at_) + 1 ≤ n →
  ACalls Tryd.prog n_glob_parser_pieces [.ptr id 0] (σ.set id (PV text at_ false depth deepest)) (PieceR σ id text depth deepest (pcs n (text.drop at_)))
def BracesAt [Globs] (L : Nat) : Prop := ∀ (σ : Store) (id : Nat) (text : List UInt8) (at_ : Nat) (depth deepest : Int) (n : Nat), id < σ.length → at_ ≤ text.length → text.length - at_ = L → text.length ≤ 1000000 → 0 ≤ depth → depth + 1 + (text.length - at_ : Nat) ≤ 2000000 → depth ≤ deepest → 2 * (text.length - at_) + 2 ≤ n →
  ACalls Tryd.prog n_glob_parser_braces [.ptr id 0] (σ.set id (PV text at_ false depth deepest)) (BraceR σ id text depth deepest (alts n (text.drop at_)))

theorem get_2 {σ : Store} (id : Nat) (e a b c : Entry) (l : Store) : (σ.set id e ++ a :: b :: c :: l)[σ.length + 2]? = some c := by
  rw [List.getElem?_append_right (by simp)]; simp
theorem set_2 {σ : Store} (id : Nat) (e a b c c' : Entry) (l : Store) : (σ.set id e ++ a :: b :: c :: l).set (σ.length + 2) c' = σ.set id e ++ a :: b :: c' :: l := by
  rw [List.set_append_right _ _ (by simp)]; simp

theorem braces_of (L : Nat) (hP : ∀ L', L' ≤ L → PiecesAt L') : BracesAt L := by
  intro σ id text at_ depth deepest n hid h1 hL h3 hd0 hdm hdd hn
  refine acalls_of_awp_de hmix c_glob_parser_braces rfl ?_
  have g0 := @set_get σ id hid
  have g00 := @set_get' σ id hid
  have q0 := @set_set σ id hid
  have hw1 : IntKind.i64.wrap (depth + 1) = depth + 1 := wrap_i64 (by omega) (by omega)
  simp [a_glob_parser_braces, g0, g00, PV, hw1, get_0, get_1, set_0, set_1, get_2, set_2, q0]
  refine edm_intro n_glob_parser_braces_1 [.ptr σ.length 0] (by simp) b_glob_parser_braces_1 ?_
  simp
  refine lp_startx (fun x f σ' => ∃ (k : Nat) (xs : List (List Pc)) (d0 m : Nat), x = text.length - k ∧ at_ ≤ k ∧ k ≤ text.length ∧ 2 * (text.length - k) + 2 ≤ m ∧ xs.length ≤ k ∧
    alts n (text.drop at_) = ((alts m (text.drop k)).map fun y => (xs ++ y.1, y.2.1, max d0 y.2.2)) ∧ f 1 = .ptr σ.length 0 ∧ f 2 = .ptr (σ.length + 1) 0 ∧ f 3 = .ptr (σ.length + 2) 0 ∧
    σ' = σ.set id (PV text k false (depth + 1) (max deepest (depth + 1 + (d0 : Nat)))) ++ .var 118 [.ptr id 0] :: .var 126 [.int .i64 0, .int .u8 0, .nils, .nils, .str []] :: .var 126 [.int .i64 4, .int .u8 0, .nils, rowV (σ.length + 3) (encA xs), .str []] :: rowE 84 1 (encA xs) true) (text.length - at_) ?_ ?_
  · refine ⟨at_, [], 0, n, rfl, Nat.le_refl _, h1, hn, by simp, ?_, by simp, by simp, by simp, ?_⟩
    · simp
    · have : (max deepest (depth + 1)) = (if deepest < depth + 1 then depth + 1 else deepest) := by
        rw [Int.max_def]; split <;> split <;> omega
      simp [PV, encA, rowV, rowE, this]
  rintro x f σ' ⟨k, xs, d0, m, rfl, hk1, hk2, hm, hxk, halts, h1', h2', h3', rfl⟩
  have hst : ∀ e a b c l, σ.set id e ++ a :: b :: c :: l = (σ.set id e ++ [a, b, c]) ++ l := fun e a b c l => by simp
  have hxl : ∀ xs, (encA xs).length = xs.length := encA_length
  have hap : ∀ {K : AV → Store → Prop} {t : Tg K} {e a b c : Entry} (y : List (List AV)), K (rowV (σ.length + 3) (encA xs ++ [[.lst y]])) (σ.set id e ++ a :: b :: c :: rowE 84 1 (encA xs ++ [[.lst y]]) true) →
      ap K t (σ.set id e ++ a :: b :: c :: rowE 84 1 (encA xs) true) 84 1 24 (rowV (σ.length + 3) (encA xs)) (.lst [[.lst y]]) := by
    intro K t e a b c y hK
    rw [hst] at hK
    rw [hst]
    exact ap_acc_at (by simp) (encA xs) [[.lst y]] true (by omega) (by simp) (by simp) (by simp [hxl]; omega) (by simp [hxl]; omega) hK
  have hfin : ∀ e a b c (l : List (List AV)), fin1 (σ.set id e ++ a :: b :: c :: rowE 84 1 l true) σ.length (rowV (σ.length + 3) l) = some (.lst l) := fun e a b c l => by
    rw [hst]; exact fin1_acc_at (by simp)
  -- the function's end
  have hend : ∀ {f' : Abs.Frame} {tf : Tg f'} (k' : Nat) (bad : Bool) (dp : Int) (c1 : Entry) (l : List (List AV)) (σ' : Store), f' 2 = .ptr (σ.length + 1) 0 →
      BraceR σ id text depth deepest (alts n (text.drop at_)) (.agg [.int .i64 4, .int .u8 0, .lst [], .lst l, .str []]) (σ.set id (PV text k' bad depth dp)) →
      σ' = σ.set id (PV text k' bad (depth + 1) dp) ++ .var 118 [.ptr id 0] :: .var 126 [.int .i64 4, .int .u8 0, .nils, rowV (σ.length + 3) l, .str []] :: c1 :: rowE 84 1 l true →
      edp Tryd.prog n_glob_parser_braces_1 [.ptr σ.length 0] (σ.set id (PV text at_ false depth deepest)) (BraceR σ id text depth deepest (alts n (text.drop at_))) (.mk _) a_glob_parser_braces.res f' tf σ' := by
    intro f' tf k' bad dp c1 l σ' hf2 hR hσ'
    subst hσ'
    refine edp_of hmix c_glob_parser_braces_1 rfl ?_
    have hw2 : IntKind.i64.wrap depth = depth := wrap_i64 (by omega) (by omega)
    simp [a_glob_parser_braces_1, g0, q0, PV, get_0, hw2]
    rw [set_app _ hid, set_app _ hid]
    refine er_set' id (PV text k' bad depth dp) (.tup []) (by simp [retAt]) rfl (PV_under _ _ _ _ _ _) ?_
    rw [← set_app _ hid]
    refine er_set id (PV text k' bad depth dp) (.agg [.int .i64 4, .int .u8 0, .lst [], .lst l, .str []]) (.var 118 [.ptr id 0] :: .var 126 [.int .i64 4, .int .u8 0, .nils, rowV (σ.length + 3) l, .str []] :: c1 :: rowE 84 1 l true) ?_ rfl (PV_under _ _ _ _ _ _) hR
    simp [retAt, a_glob_parser_braces, hf2, get_1, hfin]
  obtain ⟨m, rfl⟩ : ∃ j, m = j + 1 := ⟨m - 1, by omega⟩
  rw [alts_step] at halts
  have hset : ∀ e X, (σ ++ X).set id e = σ.set id e ++ X := fun e X => (set_app e hid).symm
  have hcall : ∀ (X : Store), ACalls Tryd.prog n_glob_parser_pieces [.ptr id 0] (σ.set id (PV text k false (depth + 1) (max deepest (depth + 1 + (d0 : Nat)))) ++ X) (fun r σ' => match pcs m (text.drop k) with
      | some (l, r', d) => r = .lst (encL l) ∧ σ' = σ.set id (PV text (text.length - r'.length) false (depth + 1) (max (max deepest (depth + 1 + (d0 : Nat))) (depth + 1 + (d : Nat)))) ++ X
      | none => ∃ els k dp, k ≤ text.length ∧ r = .lst els ∧ σ' = σ.set id (PV text k true (depth + 1) dp) ++ X) := by
    intro X
    have := hP (text.length - k) (by omega) (σ ++ X) id text k (depth + 1) (max deepest (depth + 1 + (d0 : Nat))) m (by simp; omega) hk2 rfl h3 (by omega) (by omega) (by omega) (by omega)
    rw [hset] at this
    refine this.mono ?_
    intro r σ' h
    unfold PieceR at h
    cases hpc : pcs m (text.drop k) with
    | none =>
      rw [hpc] at h
      obtain ⟨els, k, dp, hk, hr, hs⟩ := h
      exact ⟨els, k, dp, hk, hr, by rw [hs, hset]⟩
    | some v =>
      rw [hpc] at h
      exact ⟨h.1, by rw [h.2, hset]⟩
  simp [h1', h2', h3', g0, q0, PV, get_0, get_1, set_0, set_1, get_2, set_2]
  refine ⟨?_, ?_⟩
  all_goals
    try simp [h1', h2', h3', g0, q0, PV, get_0, get_1, set_0, set_1, get_2, set_2]
    refine ac_eff (hcall _) ?_
    rintro r σ' hr
    cases hpc : pcs m (text.drop k) with
    | none =>
      rw [hpc] at hr
      obtain ⟨els, k', dp, hk', rfl, rfl⟩ := hr
      simp [h1', h2', h3', g0, q0, PV, get_0, get_1, set_0, set_1, get_2, set_2]
      refine hap els ?_
      simp [h1', h2', h3', g0, q0, PV, get_0, get_1, set_0, set_1, get_2, set_2]
      by_cases hlt : k' < text.length
      · obtain ⟨c, hc⟩ : ∃ c, text[k']? = some c := ⟨_, List.getElem?_eq_getElem hlt⟩
        refine ac_lent (peek_some text k' c _ _ _ hc) (.cons (coe_ptr (g0 _ _) (by simp) rfl) .nil) ?_
        rintro r rfl
        refine ⟨by simp, ?_⟩
        simp [h1', h2', h3', g0, q0, PV, get_0, get_1, set_0, set_1, get_2, set_2]
        refine hend k' true dp (.var 126 [.int .i64 4, .int .u8 0, .nils, rowV (σ.length + 3) (encA xs ++ [[.lst els]]), .str []]) (encA xs ++ [[.lst els]]) _ (by simp [h2']) ?_ rfl
        rw [halts, hpc]
        exact ⟨_, k', dp, hk', rfl, rfl⟩
      · refine ac_lent (peek_none text k' _ _ _ (by omega)) (.cons (coe_ptr (g0 _ _) (by simp) rfl) .nil) ?_
        rintro r rfl
        refine ⟨by simp, ?_⟩
        simp [h1', h2', h3', g0, q0, PV, get_0, get_1, set_0, set_1, get_2, set_2]
        refine hend k' true dp (.var 126 [.int .i64 4, .int .u8 0, .nils, rowV (σ.length + 3) (encA xs ++ [[.lst els]]), .str []]) (encA xs ++ [[.lst els]]) _ (by simp [h2']) ?_ rfl
        rw [halts, hpc]
        exact ⟨_, k', dp, hk', rfl, rfl⟩
    | some v =>
      obtain ⟨l, r', d⟩ := v
      rw [hpc] at hr
      obtain ⟨rfl, rfl⟩ := hr
      obtain ⟨hdr, hrl⟩ := pcs_drop hpc
      have hencA : encA xs ++ [[.lst (encL l)]] = encA (xs ++ [l]) := by simp [encA_map]
      have hmax : max (max deepest (depth + 1 + (d0 : Nat))) (depth + 1 + (d : Nat)) = max deepest (depth + 1 + (max d0 d : Nat)) := by omega
      rw [hpc] at halts
      simp only [Option.bind_some] at halts
      simp [h1', h2', h3', g0, q0, PV, get_0, get_1, set_0, set_1, get_2, set_2]
      refine hap (encL l) ?_
      rw [hencA]
      simp [h1', h2', h3', g0, q0, PV, get_0, get_1, set_0, set_1, get_2, set_2]
      cases r' with
      | nil =>
        refine ac_lent (peek_none text text.length _ _ _ (Nat.le_refl _)) (.cons (coe_ptr (g0 _ _) (by simp) rfl) .nil) ?_
        rintro r rfl
        refine ⟨by simp, ?_⟩
        simp [h1', h2', h3', g0, q0, PV, get_0, get_1, set_0, set_1, get_2, set_2]
        refine hend text.length true _ (.var 126 [.int .i64 4, .int .u8 0, .nils, rowV (σ.length + 3) (encA (xs ++ [l])), .str []]) (encA (xs ++ [l])) _ (by simp [h2']) ?_ rfl
        rw [halts]
        exact ⟨_, text.length, _, Nat.le_refl _, rfl, rfl⟩
      | cons c r' =>
        simp only [List.length_cons] at hdr hrl
        have hc : text[text.length - (r'.length + 1)]? = some c := by
          have := congrArg (fun l => l[0]?) hdr
          simpa using this
        have hk3 : text.length - (r'.length + 1) < text.length := by omega
        have hk4 : text.length - (r'.length + 1) + 1 = text.length - r'.length := by omega
        refine ac_lent (peek_some text (text.length - (r'.length + 1)) c _ _ _ hc) (.cons (coe_ptr (g0 _ _) (by simp) rfl) .nil) ?_
        rintro r rfl
        refine ⟨by simp, ?_⟩
        have hw3 : IntKind.i64.wrap (((text.length - (r'.length + 1) : Nat) : Int) + 1) = ((text.length - r'.length : Nat) : Int) := by rw [wrap_i64 (by omega) (by omega)]; omega
        simp [h1', h2', h3', g0, q0, PV, get_0, get_1, set_0, set_1, get_2, set_2, hw3]
        by_cases h125 : c = 125
        · have h125' : (c.toNat : Int) = 125 := by rw [h125]; rfl
          simp only [if_pos h125] at halts
          simp [h1', h2', h3', g0, q0, PV, get_0, get_1, set_0, set_1, get_2, set_2, h125']
          refine hend (text.length - r'.length) false _ (.var 126 [.int .i64 4, .int .u8 0, .nils, rowV (σ.length + 3) (encA (xs ++ [l])), .str []]) (encA (xs ++ [l])) _ (by simp [h2']) ?_ rfl
          rw [halts]
          refine ⟨by simp [Pc.enc, Pc.kind, Pc.low, Pc.rs, Pc.alts, Pc.text, encR], ?_⟩
          have e : max deepest (depth + 1 + max (d0 : Int) (d : Int)) = max deepest (depth + (max d0 d + 1 : Nat)) := by omega
          rw [e]
        · have h125' : ¬ (c.toNat : Int) = 125 := fun hx => h125 (UInt8.toNat_inj.1 (show c.toNat = 125 by omega))
          simp only [if_neg h125] at halts
          simp [h1', h2', h3', g0, q0, PV, get_0, get_1, set_0, set_1, get_2, set_2, h125']
          refine nx_intro (text.length - (text.length - r'.length)) (by omega) ⟨text.length - r'.length, xs ++ [l], max d0 d, m, rfl, by omega, by omega, by omega, by simp; omega, ?_, by simp [h1'], by simp [h2'], by simp [h3'], ?_⟩
          · have hdr2 : text.drop (text.length - r'.length) = r' := by
              have := congrArg (List.drop 1) hdr
              rw [List.drop_drop, hk4] at this
              simpa using this
            rw [halts, hdr2]
            cases alts m r' <;> simp [Nat.max_assoc]
          · have e : ((max d0 d : Nat) : Int) = max (d0 : Int) (d : Int) := by omega
            rw [e]
end Go.Proofs.YtkclehdmdnfikaaDoor
