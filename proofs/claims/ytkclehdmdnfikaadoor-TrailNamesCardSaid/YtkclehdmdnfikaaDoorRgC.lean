/- Patterns of one name, as the document has them: their form. -/
import Derived.Test.YtkclehdmdnfikaaDoorRgB
set_option linter.unusedSimpArgs false
set_option linter.unusedVariables false
set_option linter.constructorNameAsVariable false
set_option maxHeartbeats 8000000
namespace Go.Glob
theorem alts_some {n : Nat} {s : List UInt8} {xs : List (List Pc)} {r : List UInt8} {d : Nat} (h : alts n s = some (xs, r, d)) :
    ∃ m a c t d1, n = m + 1 ∧ pcs m s = some (a, c :: t, d1) ∧ ((c = 125 ∧ xs = [a] ∧ r = t ∧ d = d1) ∨ (c ≠ 125 ∧ ∃ as' d2, alts m t = some (as', r, d2) ∧ xs = a :: as' ∧ d = max d1 d2)) := by
  cases n with
  | zero => simp [alts] at h
  | succ m =>
    rw [alts_step] at h
    cases hp : pcs m s with
    | none => rw [hp] at h; cases h
    | some v =>
      obtain ⟨a, r1, d1⟩ := v
      rw [hp] at h
      simp only [Option.bind_some] at h
      cases r1 with
      | nil => cases h
      | cons c t =>
        simp only at h
        by_cases hc : c = 125
        · rw [if_pos hc] at h
          cases h
          exact ⟨m, a, c, _, _, rfl, hp, .inl ⟨hc, rfl, rfl, rfl⟩⟩
        · rw [if_neg hc] at h
          cases ha : alts m t with
          | none => rw [ha] at h; cases h
          | some w =>
            obtain ⟨as', r2, d2⟩ := w
            rw [ha] at h
            cases h
            exact ⟨m, a, c, t, d1, rfl, hp, .inr ⟨hc, as', d2, ha, rfl, rfl⟩⟩
theorem pcs_some {n : Nat} {s : List UInt8} {l : List Pc} {r : List UInt8} {d : Nat} (h : pcs n s = some (l, r, d)) : (s = [] ∧ l = [] ∧ r = [] ∧ d = 0) ∨ ∃ m c t, n = m + 1 ∧ s = c :: t ∧
    (((c = 44 ∨ c = 125) ∧ l = [] ∧ r = c :: t ∧ d = 0) ∨ (¬ (c = 44 ∨ c = 125) ∧
      ((c = 63 ∧ ∃ l', pcs m t = some (l', r, d) ∧ l = .q :: l') ∨
       (c = 42 ∧ ∃ l', pcs m t = some (l', r, d) ∧ l = .star :: l') ∨
       (nb c = true ∧ ∃ l', pcs m t = some (l', r, d) ∧ l = .lit c :: l') ∨
       (c = 91 ∧ ∃ rs r1 l', cls m false t = some (rs, r1) ∧ pcs m r1 = some (l', r, d) ∧ l = .cls rs ((c :: t).take (t.length + 1 - r1.length)) :: l') ∨
       (c = 123 ∧ ∃ xs r1 d1 l' d2, alts m t = some (xs, r1, d1) ∧ pcs m r1 = some (l', r, d2) ∧ l = .br xs :: l' ∧ d = max (d1 + 1) d2)))) := by
  cases n with
  | zero => simp [pcs] at h
  | succ m =>
    cases s with
    | nil => rw [pcs_end] at h; cases h; exact .inl ⟨rfl, rfl, rfl, rfl⟩
    | cons c t =>
      refine .inr ⟨m, c, t, rfl, rfl, ?_⟩
      by_cases hst : c = 44 ∨ c = 125
      · rw [pcs_stop hst] at h
        cases h
        exact .inl ⟨hst, rfl, rfl, rfl⟩
      refine .inr ⟨hst, ?_⟩
      by_cases h63 : c = 63
      · subst h63
        rw [pcs_q] at h
        cases hp : pcs m t with
        | none => rw [hp] at h; cases h
        | some v => obtain ⟨l', r', d'⟩ := v; rw [hp] at h; cases h; exact .inl ⟨rfl, _, rfl, rfl⟩
      by_cases h42 : c = 42
      · subst h42
        rw [pcs_star] at h
        cases hp : pcs m t with
        | none => rw [hp] at h; cases h
        | some v => obtain ⟨l', r', d'⟩ := v; rw [hp] at h; cases h; exact .inr (.inl ⟨rfl, _, rfl, rfl⟩)
      by_cases h91 : c = 91
      · subst h91
        rw [pcs_cls] at h
        cases hc : cls m false t with
        | none => rw [hc] at h; cases h
        | some u =>
          obtain ⟨rs, r1⟩ := u
          rw [hc] at h
          simp only [Option.bind_some] at h
          cases hp : pcs m r1 with
          | none => rw [hp] at h; cases h
          | some v => obtain ⟨l', r', d'⟩ := v; rw [hp] at h; cases h; exact .inr (.inr (.inr (.inl ⟨rfl, rs, r1, _, rfl, hp, rfl⟩)))
      by_cases h123 : c = 123
      · subst h123
        rw [pcs_br] at h
        cases ha : alts m t with
        | none => rw [ha] at h; cases h
        | some u =>
          obtain ⟨xs, r1, d1⟩ := u
          rw [ha] at h
          simp only [Option.bind_some] at h
          cases hp : pcs m r1 with
          | none => rw [hp] at h; cases h
          | some v => obtain ⟨l', r', d'⟩ := v; rw [hp] at h; cases h; exact .inr (.inr (.inr (.inr ⟨rfl, xs, r1, d1, _, _, rfl, hp, rfl, rfl⟩)))
      cases hn : nb c with
      | false => rw [pcs_no hst h63 h42 h91 h123 hn] at h; cases h
      | true =>
        rw [pcs_lit hn] at h
        cases hp : pcs m t with
        | none => rw [hp] at h; cases h
        | some v => obtain ⟨l', r', d'⟩ := v; rw [hp] at h; cases h; exact .inr (.inr (.inl ⟨rfl, _, rfl, rfl⟩))
/-- Where what is left stands. -/
theorem left_at {p r : List UInt8} {k m : Nat} {l : List Pc} {d : Nat} (h : pcs m (p.drop k) = some (l, r, d)) (hk : k ≤ p.length) : p.drop (p.length - r.length) = r ∧ k ≤ p.length - r.length ∧ r.length ≤ p.length := by
  obtain ⟨h1, h2⟩ := pcs_drop h
  exact ⟨h1, by omega, by omega⟩
end Go.Glob
namespace Go.Proofs.YtkclehdmdnfikaaDoor
open Go.Abs Go.Glob
variable {G : Globs}

theorem rform_ok : ∀ (L : Nat) (p : List UInt8) (i m : Nat) (l : List Pc) (r : List UInt8) (d : Nat), p.length - i ≤ L → i ≤ p.length → p.length ≤ 1000000 → d ≤ 1000000 → pcs m (p.drop i) = some (l, r, d) →
    PCalls Tryd.prog n_isobarref15_form [.str p, .int .i64 i] (fun v => v = .tup [.int .i64 (p.length - r.length : Nat), .int .i64 d, .int .i64 (cnt 1 l)]) := by
  intro L
  induction L with
  | zero =>
    intro p i m l r d hL hi hp hdl h
    have he : p.drop i = [] := List.drop_of_length_le (by omega)
    rw [he] at h
    rcases pcs_some h with ⟨_, rfl, rfl, rfl⟩ | ⟨_, _, _, _, h2, _⟩
    · refine pcalls_of_awp hmix c_isobarref15_form rfl ?_
      simp [a_isobarref15_form]
      refine lp_startx (fun x f σ => f 0 = .str p ∧ f 1 = .int .i64 i ∧ f 7 = .int .i64 0 ∧ f 8 = .int .i64 1 ∧ σ = []) 0 ⟨by simp, by simp, by simp, by simp, rfl⟩ ?_
      rintro x f σ ⟨h0, h1, h7, h8, rfl⟩
      have hlt : ¬ (i : Int) < (p.length : Int) := by omega
      have hlt' : ¬ i < p.length := by omega
      have e : i = p.length := by omega
      simp [h0, h1, h7, h8, hlt, hlt', cnt]
      omega
    · cases h2
  | succ L ih =>
    intro p i m l r d hL hi hp hdl h
    refine pcalls_of_awp hmix c_isobarref15_form rfl ?_
    simp [a_isobarref15_form]
    refine lp_startx (fun x f σ => ∃ (k m' : Nat) (l2 : List Pc) (d1 d2 n1 : Nat), x = p.length - k ∧ i ≤ k ∧ k ≤ p.length ∧ pcs m' (p.drop k) = some (l2, r, d2) ∧ d = max d1 d2 ∧ n1 ≤ 65 ∧ cnt 1 l = cnt n1 l2 ∧ f 0 = .str p ∧ f 1 = .int .i64 k ∧ f 7 = .int .i64 d1 ∧ f 8 = .int .i64 n1 ∧ σ = []) (p.length - i) ?_ ?_
    · exact ⟨i, m, l, 0, d, 1, rfl, Nat.le_refl _, hi, h, by omega, by omega, rfl, by simp, by simp, by simp, by simp, rfl⟩
    rintro x f σ ⟨k, m', l2, d1, d2, n1, hx, hik, hkl, hpc, hd, hn1, hcnt, h0, h1, h7, h8, rfl⟩
    obtain ⟨lf1, lf2, lf3⟩ := left_at hpc hkl
    rcases pcs_some hpc with ⟨he, rfl, rfl, rfl⟩ | ⟨m', c, t, rfl, hdk, hcase⟩
    · have hke : p.length ≤ k := by have := congrArg List.length he; simp at this; omega
      have hlt : ¬ (k : Int) < (p.length : Int) := by omega
      have hlt' : ¬ k < p.length := by omega
      have hkp : k = p.length := by omega
      have hcn : cnt 1 l = n1 := by rw [hcnt]; simp [cnt]
      have hdd : d = d1 := by omega
      simp [h0, h1, h7, h8, hlt, hlt', hcn, hdd]
      omega
    · obtain ⟨hc, hdk1, hlt⟩ := drop_one hdk
      obtain ⟨_, hc2⟩ := List.getElem?_eq_some_iff.1 hc
      have hlt' : (k : Int) < (p.length : Int) := by omega
      have hwk : IntKind.i64.wrap ((k : Int) + 1) = (k : Int) + 1 := wrap_i64 (by omega) (by omega)
      rcases hcase with ⟨hst, rfl, rfl, rfl⟩ | ⟨hst, hcase⟩
      · have hcn : cnt 1 l = n1 := by rw [hcnt]; simp [cnt]
        have hdd : d = d1 := by omega
        have hr : ((p.length - (c :: t).length : Nat) : Int) = (k : Int) := by
          have : (c :: t).length = p.length - k := by rw [← hdk]; simp
          omega
        rw [hr]
        rcases hst with rfl | rfl
        · simp [h0, h1, h7, h8, hlt, hlt', hc, hc2, hcn, hdd]
        · simp [h0, h1, h7, h8, hlt, hlt', hc, hc2, hcn, hdd]
      · have n44 : ¬ ((c.toNat : Int) = 44) := u8_ne (n := 44) rfl (fun h => hst (.inl h))
        have n125 : ¬ ((c.toNat : Int) = 125) := u8_ne (n := 125) rfl (fun h => hst (.inr h))
        have hone : ∀ {f' : Abs.Frame} {tf : Tg f'} {tI} {σ' : Store} (l' : List Pc), pcs m' t = some (l', r, d2) → cnt n1 l2 = cnt n1 l' → f' 0 = .str p → f' 1 = .int .i64 ((k : Int) + 1) → f' 7 = .int .i64 d1 → f' 8 = .int .i64 n1 → σ' = [] → Abs.nx x (fun x f σ => ∃ (k m' : Nat) (l2 : List Pc) (d1 d2 n1 : Nat), x = p.length - k ∧ i ≤ k ∧ k ≤ p.length ∧ pcs m' (p.drop k) = some (l2, r, d2) ∧ d = max d1 d2 ∧ n1 ≤ 65 ∧ cnt 1 l = cnt n1 l2 ∧ f 0 = .str p ∧ f 1 = .int .i64 k ∧ f 7 = .int .i64 d1 ∧ f 8 = .int .i64 n1 ∧ σ = []) tI f' tf σ' := by
          intro f' tf tI σ' l' hp' hcn q0 q1 q7 q8 hs
          exact nx_intro (p.length - (k + 1)) (by omega) ⟨k + 1, m', l', d1, d2, n1, rfl, by omega, by omega, by rw [hdk1]; exact hp', hd, hn1, by rw [hcnt, hcn], q0, by simp [q1], q7, q8, hs⟩
        simp [h0, h1, h7, h8, hlt, hlt', hc, hc2, n44, n125]
        refine ac_same (refByte_ok c) (by simp) ?_
        rintro v rfl
        rcases hcase with ⟨rfl, l', hp', rfl⟩ | ⟨rfl, l', hp', rfl⟩ | ⟨hnb, l', hp', rfl⟩ | ⟨rfl, rs, r1, l', hcl, hp', rfl⟩ | ⟨rfl, xs, r1, da, l', d3, hal, hp', rfl, rfl⟩
        · have e : nb 63 = false := by decide
          simp [h0, h1, h7, h8, hlt, hlt', hc, hc2, e, hwk]
          exact hone l' hp' (by simp [cnt]) (by simp [h0]) (by simp) (by simp [h7]) (by simp [h8]) rfl
        · have e : nb 42 = false := by decide
          simp [h0, h1, h7, h8, hlt, hlt', hc, hc2, e, hwk]
          exact hone l' hp' (by simp [cnt]) (by simp [h0]) (by simp) (by simp [h7]) (by simp [h8]) rfl
        · simp [h0, h1, h7, h8, hlt, hlt', hc, hc2, hnb, hwk]
          exact hone l' hp' (by simp [cnt]) (by simp [h0]) (by simp) (by simp [h7]) (by simp [h8]) rfl
        · have e : nb 91 = false := by decide
          simp [h0, h1, h7, h8, hlt, hlt', hc, hc2, e, hwk]
          rw [← hdk1] at hcl
          have hclass := rclass_ok (G := G) p (k + 1) m' rs r1 hcl hp
          obtain ⟨cd1, cd2⟩ := cls_drop hcl
          have hge : ¬ ((p.length - r1.length : Nat) : Int) < 0 := by omega
          simp only [Int.natCast_add, Int.cast_ofNat_Int] at hclass
          generalize hE : p.length - r1.length = E at *
          refine ac_same hclass (by simp) ?_
          rintro v rfl
          simp [h0, h7, h8, hge]
          refine nx_intro (p.length - E) (by omega) ⟨E, m', l', d1, d2, n1, rfl, by omega, by omega, by rw [cd1]; exact hp', hd, hn1, by rw [hcnt]; simp [cnt], by simp [h0], by simp, by simp [h7], by simp [h8], rfl⟩
        · have e : nb 123 = false := by decide
          simp [h0, h1, h7, h8, hlt, hlt', hc, hc2, e, hwk]
          have hal0 : alts m' (p.drop (k + 1)) = some (xs, r1, da) := by rw [hdk1]; exact hal
          refine lp_gen (fun f' => f' 0 = .str p ∧ f' 1 = .int .i64 k ∧ f' 7 = .int .i64 d1 ∧ f' 8 = .int .i64 n1 ∧ f' 9 = .int .i64 0) ⟨by simp [h0], by simp [h1], by simp [h7], by simp [h8], by simp⟩ ?_
          rintro f0 ⟨u0, u1, u7, u8, u9⟩
          refine lp_startx (fun x f σ => ∃ (q m2 : Nat) (as2 : List (List Pc)) (da2 D S : Nat), x = p.length - q ∧ k ≤ q ∧ q < p.length ∧ alts m2 (p.drop (q + 1)) = some (as2, r1, da2) ∧ max d1 (da + 1) = max D (da2 + 1) ∧ S ≤ 65 ∧ cntA 0 xs = cntA S as2 ∧ f 0 = .str p ∧ f 1 = .int .i64 q ∧ f 7 = .int .i64 D ∧ f 8 = .int .i64 n1 ∧ f 9 = .int .i64 S ∧ σ = []) (p.length - k) ?_ ?_
          · exact ⟨k, m', xs, da, d1, 0, rfl, Nat.le_refl _, hlt, hal0, rfl, by omega, rfl, u0, u1, u7, u8, by simp [u9], rfl⟩
          rintro x' f1 σ' ⟨q, m2, as2, da2, D, S, hx', hkq, hql, ha2, hD, hS, hcA, w0, w1, w7, w8, w9, rfl⟩
          obtain ⟨m3, a, c', t', da1, rfl, hpa, hcase2⟩ := alts_some ha2
          obtain ⟨e1, e2, e3⟩ := left_at hpa (by omega)
          have hE1 : p.length - (c' :: t').length < p.length := by simp only [List.length_cons] at e3 ⊢; omega
          have hda1 : da1 ≤ da2 := by
            rcases hcase2 with ⟨_, _, _, h⟩ | ⟨_, as', d2', _, _, h⟩ <;> omega
          have hih := ih p (q + 1) m3 a (c' :: t') da1 (by omega) (by omega) hp (by omega) hpa
          simp only [Int.natCast_add, Int.cast_ofNat_Int] at hih
          have hca := cnt_le a 1 (by omega)
          generalize hE : p.length - (c' :: t').length = E at *
          obtain ⟨hcE, hdE, _⟩ := drop_one e1
          obtain ⟨_, hcE2⟩ := List.getElem?_eq_some_iff.1 hcE
          have hE0 : ¬ (E : Int) < 0 := by omega
          have hEl : ¬ (p.length : Int) ≤ (E : Int) := by omega
          have hEl' : ¬ p.length ≤ E := by omega
          have hwq : IntKind.i64.wrap ((q : Int) + 1) = (q : Int) + 1 := wrap_i64 (by omega) (by omega)
          have hwE : IntKind.i64.wrap ((E : Int) + 1) = (E : Int) + 1 := wrap_i64 (by omega) (by omega)
          have hwd : IntKind.i64.wrap ((da1 : Int) + 1) = (da1 : Int) + 1 := wrap_i64 (by omega) (by omega)
          have hwS : IntKind.i64.wrap ((S : Int) + (cnt 1 a : Int)) = (S : Int) + (cnt 1 a : Int) := wrap_i64 (by omega) (by omega)
          generalize hCN : cnt 1 a = C at *
          have hinn : ∀ {f' : Abs.Frame} {tf : Tg f'} {tI} {σ' : Store} (D' S' : Nat), ¬ c' = 125 → D' = max D (da1 + 1) → S' = min 65 (S + C) → f' 0 = .str p → f' 1 = .int .i64 E → f' 7 = .int .i64 D' → f' 8 = .int .i64 n1 → f' 9 = .int .i64 S' → σ' = [] → Abs.nx x' (fun x f σ => ∃ (q m2 : Nat) (as2 : List (List Pc)) (da2 D S : Nat), x = p.length - q ∧ k ≤ q ∧ q < p.length ∧ alts m2 (p.drop (q + 1)) = some (as2, r1, da2) ∧ max d1 (da + 1) = max D (da2 + 1) ∧ S ≤ 65 ∧ cntA 0 xs = cntA S as2 ∧ f 0 = .str p ∧ f 1 = .int .i64 q ∧ f 7 = .int .i64 D ∧ f 8 = .int .i64 n1 ∧ f 9 = .int .i64 S ∧ σ = []) tI f' tf σ' := by
            intro f' tf tI σ' D' S' hc' hD' hS' q0 q1 q7 q8 q9 hs
            rcases hcase2 with ⟨h, _⟩ | ⟨_, as', d2', ha', rfl, rfl⟩
            · exact absurd h hc'
            · exact nx_intro (p.length - E) (by omega) ⟨E, m3, as', d2', D', S', rfl, by omega, by omega, by rw [hdE]; exact ha', by omega, by omega, by rw [hcA]; simp [cntA, hCN, hS'], q0, q1, q7, q8, q9, hs⟩
          have hout : ∀ {f' : Abs.Frame} {tf : Tg f'} {tI} {σ' : Store} (D' S' N' : Nat), c' = 125 → D' = max D (da1 + 1) → S' = min 65 (S + C) → N' = min 65 (n1 * S') → f' 0 = .str p → f' 1 = .int .i64 ((E : Int) + 1) → f' 7 = .int .i64 D' → f' 8 = .int .i64 N' → σ' = [] → Abs.nx x (fun x f σ => ∃ (k m' : Nat) (l2 : List Pc) (d1 d2 n1 : Nat), x = p.length - k ∧ i ≤ k ∧ k ≤ p.length ∧ pcs m' (p.drop k) = some (l2, r, d2) ∧ d = max d1 d2 ∧ n1 ≤ 65 ∧ cnt 1 l = cnt n1 l2 ∧ f 0 = .str p ∧ f 1 = .int .i64 k ∧ f 7 = .int .i64 d1 ∧ f 8 = .int .i64 n1 ∧ σ = []) tI f' tf σ' := by
            intro f' tf tI σ' D' S' N' hc' hD' hS' hN' q0 q1 q7 q8 hs
            rcases hcase2 with ⟨_, rfl, rfl, rfl⟩ | ⟨h, _⟩
            · exact nx_intro (p.length - (E + 1)) (by omega) ⟨E + 1, m', l', D', d3, N', rfl, by omega, by omega, by rw [hdE]; exact hp', by omega, by omega, by rw [hcnt]; simp [cnt, hcA, cntA, hCN, hN', hS'], q0, by simp [q1], q7, q8, hs⟩
            · exact absurd hc' h
          simp [w0, w1, w7, w8, w9, hwq]
          refine ac_same hih (by simp) ?_
          rintro v rfl
          by_cases hDm : D ≤ da1
          · have hDi : (D : Int) < (da1 : Int) + 1 := by omega
            by_cases hSm : S + C < 65
            · have hSi : (S : Int) + (C : Int) < 65 := by omega
              have hMu : IntKind.i64.wrap ((n1 : Int) * ((S : Int) + (C : Int))) = (n1 : Int) * ((S : Int) + (C : Int)) := by
                have hb1 : n1 * (S + C) ≤ 65 * 65 := Nat.mul_le_mul hn1 (by omega)
                have hb2 : ((n1 * (S + C) : Nat) : Int) = (n1 : Int) * ((S : Int) + (C : Int)) := by push_cast; rfl
                rw [← hb2]; exact wrap_i64 (by omega) (by omega)
              by_cases h125 : c' = 125
              · have h125i : (c'.toNat : Int) = 125 := by rw [h125]; rfl
                by_cases hM : n1 * (S + C) < 65
                · have hMi : (n1 : Int) * ((S : Int) + (C : Int)) < 65 := by (have hb2 : ((n1 * (S + C) : Nat) : Int) = (n1 : Int) * ((S : Int) + (C : Int)) := by push_cast; rfl); omega
                  simp [w0, w1, w7, w8, w9, hE0, hEl, hEl', hwd, hwS, hDm, hDi, hSm, hSi, hcE, hcE2, hE1, h125, hwE, hMu, hM, hMi]
                  refine hout (da1 + 1) (S + C) (n1 * (S + C)) h125 (by omega) (by omega) (by omega) (by simp [w0]) (by simp) (by simp [w7]) (by simp [w8]) rfl
                · have hMi : ¬ (n1 : Int) * ((S : Int) + (C : Int)) < 65 := by (have hb2 : ((n1 * (S + C) : Nat) : Int) = (n1 : Int) * ((S : Int) + (C : Int)) := by push_cast; rfl); omega
                  simp [w0, w1, w7, w8, w9, hE0, hEl, hEl', hwd, hwS, hDm, hDi, hSm, hSi, hcE, hcE2, hE1, h125, hwE, hMu, hM, hMi]
                  refine hout (da1 + 1) (S + C) 65 h125 (by omega) (by omega) (by omega) (by simp [w0]) (by simp) (by simp [w7]) (by simp [w8]) rfl
              · have h125i : ¬ (c'.toNat : Int) = 125 := u8_ne (n := 125) rfl h125
                simp [w0, w1, w7, w8, w9, hE0, hEl, hEl', hwd, hwS, hDm, hDi, hSm, hSi, hcE, hcE2, hE1, h125, h125i]
                refine hinn (da1 + 1) (S + C) h125 (by omega) (by omega) (by simp [w0]) (by simp) (by simp [w7]) (by simp [w8]) (by simp) rfl
            · have hSi : ¬ (S : Int) + (C : Int) < 65 := by omega
              have hMu : IntKind.i64.wrap ((n1 : Int) * 65) = (n1 : Int) * 65 := by
                have hb1 : n1 * (65) ≤ 65 * 65 := Nat.mul_le_mul hn1 (by omega)
                have hb2 : ((n1 * (65) : Nat) : Int) = (n1 : Int) * 65 := by push_cast; rfl
                rw [← hb2]; exact wrap_i64 (by omega) (by omega)
              by_cases h125 : c' = 125
              · have h125i : (c'.toNat : Int) = 125 := by rw [h125]; rfl
                by_cases hM : n1 * (65) < 65
                · have hMi : (n1 : Int) * 65 < 65 := by (have hb2 : ((n1 * (65) : Nat) : Int) = (n1 : Int) * 65 := by push_cast; rfl); omega
                  simp [w0, w1, w7, w8, w9, hE0, hEl, hEl', hwd, hwS, hDm, hDi, hSm, hSi, hcE, hcE2, hE1, h125, hwE, hMu, hM, hMi]
                  refine hout (da1 + 1) (65) (n1 * (65)) h125 (by omega) (by omega) (by omega) (by simp [w0]) (by simp) (by simp [w7]) (by simp [w8]) rfl
                · have hMi : ¬ (n1 : Int) * 65 < 65 := by (have hb2 : ((n1 * (65) : Nat) : Int) = (n1 : Int) * 65 := by push_cast; rfl); omega
                  simp [w0, w1, w7, w8, w9, hE0, hEl, hEl', hwd, hwS, hDm, hDi, hSm, hSi, hcE, hcE2, hE1, h125, hwE, hMu, hM, hMi]
                  refine hout (da1 + 1) (65) 65 h125 (by omega) (by omega) (by omega) (by simp [w0]) (by simp) (by simp [w7]) (by simp [w8]) rfl
              · have h125i : ¬ (c'.toNat : Int) = 125 := u8_ne (n := 125) rfl h125
                simp [w0, w1, w7, w8, w9, hE0, hEl, hEl', hwd, hwS, hDm, hDi, hSm, hSi, hcE, hcE2, hE1, h125, h125i]
                refine hinn (da1 + 1) (65) h125 (by omega) (by omega) (by simp [w0]) (by simp) (by simp [w7]) (by simp [w8]) (by simp) rfl
          · have hDi : ¬ (D : Int) < (da1 : Int) + 1 := by omega
            by_cases hSm : S + C < 65
            · have hSi : (S : Int) + (C : Int) < 65 := by omega
              have hMu : IntKind.i64.wrap ((n1 : Int) * ((S : Int) + (C : Int))) = (n1 : Int) * ((S : Int) + (C : Int)) := by
                have hb1 : n1 * (S + C) ≤ 65 * 65 := Nat.mul_le_mul hn1 (by omega)
                have hb2 : ((n1 * (S + C) : Nat) : Int) = (n1 : Int) * ((S : Int) + (C : Int)) := by push_cast; rfl
                rw [← hb2]; exact wrap_i64 (by omega) (by omega)
              by_cases h125 : c' = 125
              · have h125i : (c'.toNat : Int) = 125 := by rw [h125]; rfl
                by_cases hM : n1 * (S + C) < 65
                · have hMi : (n1 : Int) * ((S : Int) + (C : Int)) < 65 := by (have hb2 : ((n1 * (S + C) : Nat) : Int) = (n1 : Int) * ((S : Int) + (C : Int)) := by push_cast; rfl); omega
                  simp [w0, w1, w7, w8, w9, hE0, hEl, hEl', hwd, hwS, hDm, hDi, hSm, hSi, hcE, hcE2, hE1, h125, hwE, hMu, hM, hMi]
                  refine hout (D) (S + C) (n1 * (S + C)) h125 (by omega) (by omega) (by omega) (by simp [w0]) (by simp) (by simp [w7]) (by simp [w8]) rfl
                · have hMi : ¬ (n1 : Int) * ((S : Int) + (C : Int)) < 65 := by (have hb2 : ((n1 * (S + C) : Nat) : Int) = (n1 : Int) * ((S : Int) + (C : Int)) := by push_cast; rfl); omega
                  simp [w0, w1, w7, w8, w9, hE0, hEl, hEl', hwd, hwS, hDm, hDi, hSm, hSi, hcE, hcE2, hE1, h125, hwE, hMu, hM, hMi]
                  refine hout (D) (S + C) 65 h125 (by omega) (by omega) (by omega) (by simp [w0]) (by simp) (by simp [w7]) (by simp [w8]) rfl
              · have h125i : ¬ (c'.toNat : Int) = 125 := u8_ne (n := 125) rfl h125
                simp [w0, w1, w7, w8, w9, hE0, hEl, hEl', hwd, hwS, hDm, hDi, hSm, hSi, hcE, hcE2, hE1, h125, h125i]
                refine hinn (D) (S + C) h125 (by omega) (by omega) (by simp [w0]) (by simp) (by simp [w7]) (by simp [w8]) (by simp) rfl
            · have hSi : ¬ (S : Int) + (C : Int) < 65 := by omega
              have hMu : IntKind.i64.wrap ((n1 : Int) * 65) = (n1 : Int) * 65 := by
                have hb1 : n1 * (65) ≤ 65 * 65 := Nat.mul_le_mul hn1 (by omega)
                have hb2 : ((n1 * (65) : Nat) : Int) = (n1 : Int) * 65 := by push_cast; rfl
                rw [← hb2]; exact wrap_i64 (by omega) (by omega)
              by_cases h125 : c' = 125
              · have h125i : (c'.toNat : Int) = 125 := by rw [h125]; rfl
                by_cases hM : n1 * (65) < 65
                · have hMi : (n1 : Int) * 65 < 65 := by (have hb2 : ((n1 * (65) : Nat) : Int) = (n1 : Int) * 65 := by push_cast; rfl); omega
                  simp [w0, w1, w7, w8, w9, hE0, hEl, hEl', hwd, hwS, hDm, hDi, hSm, hSi, hcE, hcE2, hE1, h125, hwE, hMu, hM, hMi]
                  refine hout (D) (65) (n1 * (65)) h125 (by omega) (by omega) (by omega) (by simp [w0]) (by simp) (by simp [w7]) (by simp [w8]) rfl
                · have hMi : ¬ (n1 : Int) * 65 < 65 := by (have hb2 : ((n1 * (65) : Nat) : Int) = (n1 : Int) * 65 := by push_cast; rfl); omega
                  simp [w0, w1, w7, w8, w9, hE0, hEl, hEl', hwd, hwS, hDm, hDi, hSm, hSi, hcE, hcE2, hE1, h125, hwE, hMu, hM, hMi]
                  refine hout (D) (65) 65 h125 (by omega) (by omega) (by omega) (by simp [w0]) (by simp) (by simp [w7]) (by simp [w8]) rfl
              · have h125i : ¬ (c'.toNat : Int) = 125 := u8_ne (n := 125) rfl h125
                simp [w0, w1, w7, w8, w9, hE0, hEl, hEl', hwd, hwS, hDm, hDi, hSm, hSi, hcE, hcE2, hE1, h125, h125i]
                refine hinn (D) (65) h125 (by omega) (by omega) (by simp [w0]) (by simp) (by simp [w7]) (by simp [w8]) (by simp) rfl
end Go.Proofs.YtkclehdmdnfikaaDoor
