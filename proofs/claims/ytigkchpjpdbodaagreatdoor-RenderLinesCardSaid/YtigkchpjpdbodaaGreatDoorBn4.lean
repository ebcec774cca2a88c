/- Targets: what the parser's functions leave (the contract of argument and call, by levels left). Targets: the parser's argument and call (the program), -/
import Derived.Lib.Bytealg
import Derived.Test.YtigkchpjpdbodaaGreatDoorAbs2
import Derived.Shelf.Spec.SlicesGrow
import Derived.Test.YtigkchpjpdbodaaGreatDoorLay
import Derived.Test.YtigkchpjpdbodaaGreatDoorBn1
import Derived.Test.YtigkchpjpdbodaaGreatDoorBn2
import Derived.Test.YtigkchpjpdbodaaGreatDoorBn3
set_option linter.unusedSimpArgs false
set_option linter.unusedVariables false
set_option linter.constructorNameAsVariable false
section
set_option maxHeartbeats 4000000
namespace Go.Tgt
/-- Tokens as the splitting yields them: of their lengths, and numbers that are. -/
structure TkOk (t : List Tok.Tk) : Prop where
  few : t.length ≤ 256
  txt : ∀ x ∈ t, x.text.length ≤ 1024
  num : ∀ x ∈ t, x.kind = 2 → Tok.isNum x.text = true
/-- Behind a call's bracket. -/
def callP (lv : Nat) (word : List UInt8) (t : List Tok.Tk) (l : List Nd) : Except Nat (List Nd × List Tok.Tk) := match t with
  | [] => .error 17
  | z :: r => if z.kind = 5 then .ok (l ++ [⟨4, word, 0, []⟩], r) else argsP (argP lv) word t.length [] t l
end Go.Tgt
namespace Go.Proofs.YtigkchpjpdbodaaGreatDoor
open Go.Abs Go.Tgt
variable {G : Globs}
/-- What such a step answers, and leaves. -/
def StepR (σ : Store) (id : Nat) (t : List Tok.Tk) (k : Nat) (V : AV) (n : Nat) (x : Except Nat (List Nd × List Tok.Tk)) (r : AV) (σ' : Store) : Prop := match x with
  | .error e => r = .int .i64 e ∧ Kept σ σ'
  | .ok (l', t') => r = .int .i64 0 ∧ ∃ k', k < k' ∧ k' ≤ t.length ∧ t' = t.drop k' ∧ l'.length ≤ k' ∧ ParR σ σ' id t k' V n l'
def ArgAt [Globs] (lv : Nat) : Prop := ∀ (σ : Store) (id : Nat) (t : List Tok.Tk) (k : Nat) (V : AV) (l : List Nd), TkOk t → σ[id]? = some (parE t k V) → AccI 97 4 σ V (ndEls l) → k ≤ t.length → l.length ≤ k → lv ≤ 12 →
  ACalls Tryz.prog n_target_parser_argument [.ptr id 0, .int .i64 (13 - (lv : Int))] σ (StepR σ id t k V l.length (argP lv (t.drop k) l))
def CallAt [Globs] (lv : Nat) : Prop := ∀ (σ : Store) (id : Nat) (t : List Tok.Tk) (k : Nat) (V : AV) (l : List Nd) (word : List UInt8), TkOk t → word.length ≤ 1024 → σ[id]? = some (parE t k V) → AccI 97 4 σ V (ndEls l) → k ≤ t.length → l.length + 2 ≤ k → lv ≤ 12 →
  ACalls Tryz.prog n_target_parser_call [.ptr id 0, .str word, .int .i64 (12 - (lv : Int))] σ (StepR σ id t k V l.length (callP lv word (t.drop k) l))
end Go.Proofs.YtigkchpjpdbodaaGreatDoor
end
section
set_option maxHeartbeats 4000000
namespace Go.Abs
variable [Globs]
/-- A call that writes, of arguments some of which it only reads. -/
theorem ac_coe {P : Program} {K : AV → Store → Prop} {t : Tg K} {σ : Store} {g : FuncId} {args : List AV} (args' : List AV) (hl : args.length = args'.length) (hc : ∀ j (h : j < args.length) (h' : j < args'.length), args[j] = args'[j] ∨ Coe σ false args[j] args'[j]) (h : ACalls P g args' σ K) : ac P K t σ g args :=
  .inr (.inr fun base κ Im w vs hs hv => h base κ Im w vs hs ⟨by rw [← hl, hv.1], fun j hj hj' => by
    rcases hc j (by omega) hj with he | he
    · rw [← he]; exact hv.2 j (by omega) hj'
    · have e : Lent w Im false = Im := by funext a; simp [Lent]
      have := coe_ok hs he (hv.2 j (by omega) hj')
      rw [e] at this
      exact .im _ _ this⟩)
/-- .. of two arguments. -/
theorem ac_coe2 {P : Program} {K : AV → Store → Prop} {t : Tg K} {σ : Store} {g : FuncId} {a b b' : AV} {R : AV → Store → Prop} (hb : Coe σ false b b') (h : ACalls P g [a, b'] σ R) (hK : ∀ r σ', R r σ' → K r σ') : ac P K t σ g [a, b] :=
  ac_coe [a, b'] rfl (fun j h h' => by
    match j, h with
    | 0, _ => exact .inl rfl
    | 1, _ => exact .inr hb) (h.mono hK)
end Go.Abs
namespace Go.Proofs.YtigkchpjpdbodaaGreatDoor
open Go.Abs Go.Tgt
variable {G : Globs}
theorem drop_nil_of {α : Type} {t : List α} {k : Nat} (h : t[k]? = none) : t.drop k = [] := by
  rw [List.drop_eq_nil_iff]; simpa using h
theorem drop_cons_of {α : Type} {t : List α} {k : Nat} {x : α} (h : t[k]? = some x) : t.drop k = x :: t.drop (k + 1) := by
  obtain ⟨h1, rfl⟩ := List.getElem?_eq_some_iff.1 h
  exact List.drop_eq_getElem_cons h1
theorem er_stay {σ₀ : Store} {R : AV → Store → Prop} {t : Tg R} {res : List (Nat × Option (Bool × Nat))} {f : Abs.Frame} {tf : Tg f} {σ : Store} (r : AV) (hr : (res.mapM (evalRes σ f)).map tupOf = some r) (hk : Kept σ₀ σ) (hru : r.under σ.length = true) (hR : R r σ) : er σ₀ R t res f tf σ :=
  er_keep σ r hr [] (by simp) hk.len hru hk.und hR
theorem step_err {σ σ' : Store} {id : Nat} {t : List Tok.Tk} {k : Nat} {V : AV} {n : Nat} {x : Except Nat (List Nd × List Tok.Tk)} {e : Nat} (hx : x = .error e) (hk : Kept σ σ') : StepR σ id t k V n x (.int .i64 (e : Int)) σ' := by
  subst hx; exact ⟨rfl, hk⟩
theorem arg_zero [GDec] : ArgAt 0 := by
  intro σ id t k V l ht h ha hk hlk hlv
  have h256 := ht.few
  refine acalls_of_awp_e hmix c_target_parser_argument rfl ?_
  simp [a_target_parser_argument]
  refine ac_lent (peek_okT t (by omega) k 0 (by omega) (by omega) _) (.cons (coe_par h ha) (.cons (.pure _ (by simp [AV.pure])) .nil)) ?_
  rintro r rfl
  simp only [Nat.add_zero]
  cases hx : t[k]? with
  | none =>
    have hka : kindAt t k = 0 := by simp [kindAt, hx]
    have hd := drop_nil_of hx
    simp [hka]
    exact er_stay (.int .i64 17) (by simp [tupOf]) (Kept.refl σ) (by simp [AV.under]) (step_err (e := 17) (by rw [hd]; rfl) (Kept.refl σ))
  | some x =>
    have hka : kindAt t k = x.kind := by simp [kindAt, hx]
    have hd := drop_cons_of hx
    simp [hka]
    by_cases hb : x.kind = 1 ∨ x.kind = 2 ∨ x.kind = 3
    · have hb' := hb
      have he : argP 0 (t.drop k) l = .error 19 := by rw [hd, argP, if_neg (fun h => h hb)]
      rcases hb with hb | hb | hb <;> simp [hb] <;>
        exact er_stay (.int .i64 19) (by simp [tupOf]) (Kept.refl σ) (by simp [AV.under]) (step_err (e := 19) he (Kept.refl σ))
    · have he : argP 0 (t.drop k) l = .error 17 := by rw [hd, argP, if_pos hb]
      simp only [not_or] at hb
      simp [hb.1, hb.2.1, hb.2.2]
      exact er_stay (.int .i64 17) (by simp [tupOf]) (Kept.refl σ) (by simp [AV.under]) (step_err (e := 17) he (Kept.refl σ))
/-- A step behind another that only moved the place (and laid new things). -/
theorem ParR.after {σ σ1 σ2 : Store} {id : Nat} {t : List Tok.Tk} {k k1 : Nat} {V : AV} {n : Nat} {l' : List Nd} (hk : Kept σ σ1) (hs : ∀ (i : Nat) (e : Entry), σ[i]? = some e → i ≠ id → σ1[i]? = some e) (h : ParR σ1 σ2 id t k V n l') : ParR σ σ2 id t k V n l' := by
  obtain ⟨V', h1, h2, h3, h4, h5⟩ := h
  exact ⟨V', h1, h2, hk.trans h3, fun i e he hi hv => h4 i e (hs i e he hi) hi hv, fun i m hm hi => h5 i m hm (Nat.lt_of_lt_of_le hi hk.len)⟩
/-- .. and one behind another. -/
theorem ParR.trans {σ σ1 σ2 : Store} {id : Nat} {t : List Tok.Tk} {k k1 : Nat} {V V1 : AV} {n n1 : Nat} {l' : List Nd} (hk : Kept σ σ1) (hs : ∀ (i : Nat) (e : Entry), σ[i]? = some e → i ≠ id → V ≠ .row i n → σ1[i]? = some e) (hv1 : ∀ (i m : Nat), V1 = .row i m → i < σ.length → V = .row i n) (h : ParR σ1 σ2 id t k V1 n1 l') : ParR σ σ2 id t k V n l' := by
  obtain ⟨V', h1, h2, h3, h4, h5⟩ := h
  refine ⟨V', h1, h2, hk.trans h3, fun i e he hi hv => ?_, fun i m hm hi => ?_⟩
  · have hlt := (List.getElem?_eq_some_iff.1 he).1
    exact h4 i e (hs i e he hi hv) hi fun e => hv (hv1 i _ e hlt)
  · exact hv1 i _ (h5 i m hm (Nat.lt_of_lt_of_le hi hk.len)) hi
/-- The store where the place has moved on. -/
theorem moved0 {σ : Store} {id : Nat} {t : List Tok.Tk} {k : Nat} {V : AV} {l : List Nd} (h : σ[id]? = some (parE t k V)) (ha : AccI 97 4 σ V (ndEls l)) (k1 : Nat) :
    ∃ σ1, σ.set id (parE t k1 V) = σ1 ∧ σ1[id]? = some (parE t k1 V) ∧ AccI 97 4 σ1 V (ndEls l) ∧ Kept σ σ1 ∧ ∀ (i : Nat) (e : Entry), σ[i]? = some e → i ≠ id → σ1[i]? = some e := by
  have hid := (List.getElem?_eq_some_iff.1 h).1
  have hne := par_ne h ha
  have hks : ∀ (i : Nat) (e : Entry), σ[i]? = some e → i ≠ id → (σ.set id (parE t k1 V))[i]? = some e := fun i e he hi => by
    rw [List.getElem?_set_ne (fun e => hi e.symm)]; exact he
  refine ⟨_, rfl, by rw [List.getElem?_set_self hid], ha.keep fun i e he hv => hks i e he ?_, (Kept.refl σ).set id (parE_under ha.under), hks⟩
  rintro rfl
  exact hne hv
theorem ParR.kept {σ σ' : Store} {id : Nat} {t : List Tok.Tk} {k : Nat} {V : AV} {n : Nat} {l' : List Nd} (h : ParR σ σ' id t k V n l') : Kept σ σ' := by
  obtain ⟨V', _, _, h3, _⟩ := h
  exact h3
theorem StepR.after {σ σ1 σ2 : Store} {id : Nat} {t : List Tok.Tk} {k k1 : Nat} {V : AV} {n : Nat} {x : Except Nat (List Nd × List Tok.Tk)} {r : AV} (hkk : k ≤ k1) (hk : Kept σ σ1) (hs : ∀ (i : Nat) (e : Entry), σ[i]? = some e → i ≠ id → σ1[i]? = some e) (h : StepR σ1 id t k1 V n x r σ2) : StepR σ id t k V n x r σ2 ∧ Kept σ σ2 ∧ ∃ z : Int, r = .int .i64 z := by
  cases x with
  | error e =>
    obtain ⟨rfl, h2⟩ := h
    exact ⟨⟨rfl, hk.trans h2⟩, hk.trans h2, _, rfl⟩
  | ok y =>
    obtain ⟨rfl, k', h1, h2, h3, h4, h5⟩ := h
    have h5' := h5.after (k1 := k) hk hs
    exact ⟨⟨rfl, k', by omega, h2, h3, h4, h5'⟩, h5'.kept, _, rfl⟩
theorem ndA_coe {σ : Store} (k : Int) (s : List UInt8) (n : Int) : Coe σ false (.agg [.int .i64 k, .str s, .int .i64 n, .nils]) (ndA ⟨k, s, n, []⟩) := by
  refine .agg _ _ rfl (by simp [ndC, AV.one]) fun j hj hj' => ?_
  match j, hj with
  | 0, _ => exact .pure _ (by simp [AV.pure])
  | 1, _ => exact .pure _ (by simp [AV.pure])
  | 2, _ => exact .pure _ (by simp [AV.pure])
  | 3, _ => exact .nils
/-- The store where the place has moved on, and a thing been laid. -/
theorem moved {σ : Store} {id : Nat} {t : List Tok.Tk} {k : Nat} {V : AV} {l : List Nd} (h : σ[id]? = some (parE t k V)) (ha : AccI 97 4 σ V (ndEls l)) (k1 : Nat) (B : Entry) (hB : ∀ m, B.under m = true) :
    ∃ σ1, (σ ++ [B]).set id (parE t k1 V) = σ1 ∧ σ1[id]? = some (parE t k1 V) ∧ σ1[σ.length]? = some B ∧ AccI 97 4 σ1 V (ndEls l) ∧ Kept σ σ1 ∧ ∀ (i : Nat) (e : Entry), σ[i]? = some e → i ≠ id → σ1[i]? = some e := by
  have hid := (List.getElem?_eq_some_iff.1 h).1
  have hne := par_ne h ha
  have hks : ∀ (i : Nat) (e : Entry), σ[i]? = some e → i ≠ id → ((σ ++ [B]).set id (parE t k1 V))[i]? = some e := fun i e he hi => by
    rw [List.getElem?_set_ne (fun e => hi e.symm)]; exact get_more he
  refine ⟨_, rfl, by rw [List.getElem?_set_self (by simp; omega)], by rw [List.getElem?_set_ne (by omega)]; simp, ha.keep fun i e he hv => hks i e he ?_, ((Kept.refl σ).app (hB _)).set id (parE_under (under_le (by simp) _ ha.under)), hks⟩
  rintro rfl
  exact hne hv
theorem arg_succ [GDec] (lv : Nat) (hcall : CallAt lv) : ArgAt (lv + 1) := by
  intro σ id t k V l ht h ha hk hlk hlv
  have h256 := ht.few
  refine acalls_of_awp_e hmix c_target_parser_argument rfl ?_
  have hdep : IntKind.i64.wrap (13 - ((lv + 1 : Nat) : Int)) = 12 - (lv : Int) := by rw [wrap_i64 (by omega) (by omega)]; omega
  have hdep2 : (13 - ((lv + 1 : Nat) : Int)) = 12 - (lv : Int) := by omega
  rw [hdep2]
  have hgt : ¬ (12 < 12 - (lv : Int)) := by omega
  simp [a_target_parser_argument]
  refine ac_lent (peek_okT t (by omega) k 0 (by omega) (by omega) _) (.cons (coe_par h ha) (.cons (.pure _ (by simp [AV.pure])) .nil)) ?_
  rintro r rfl
  simp only [Nat.add_zero]
  cases hx : t[k]? with
  | none =>
    have hka : kindAt t k = 0 := by simp [kindAt, hx]
    have hd := drop_nil_of hx
    simp [hka]
    exact er_stay (.int .i64 17) (by simp [tupOf]) (Kept.refl σ) (by simp [AV.under]) (step_err (e := 17) (by rw [hd]; cases lv <;> rfl) (Kept.refl σ))
  | some x =>
    have hka : kindAt t k = x.kind := by simp [kindAt, hx]
    have hd := drop_cons_of hx
    simp [hka]
    by_cases hb : x.kind = 1 ∨ x.kind = 2 ∨ x.kind = 3
    · have hb' := hb
      have hid := (List.getElem?_eq_some_iff.1 h).1
      have hgx := tkEls_get' hx
      have h' : σ[id]? = some (.var 91 [.lst (tkEls t), .int .i64 k, V]) := h
      have hlt := (List.getElem?_eq_some_iff.1 hx).1
      have hel := tkEls_len' t
      have hwk : IntKind.i64.wrap ((k : Int) + 1) = ((k + 1 : Nat) : Int) := by rw [wrap_i64 (by omega) (by omega)]; omega
      obtain ⟨hg1, hg2⟩ := List.getElem?_eq_some_iff.1 hgx
      have hm : ∀ e : Entry, (σ ++ [e])[id]? = some (.var 91 [.lst (tkEls t), .int .i64 k, V]) := fun e => get_more h'
      have hls : ∀ e : Entry, (σ ++ [e])[σ.length]? = some e := fun e => by simp
      obtain ⟨σ1, e1, hp1, hB1, ha1, hk1, hs1⟩ := moved h ha (k + 1) (.var 130 [.int .i64 x.kind, .str x.text, .int .i64 x.place]) (fun m => by simp [Entry.under, AV.under])
      have hp1' : σ1[id]? = some (.var 91 [.lst (tkEls t), .int .i64 ((k : Int) + 1), V]) := hp1
      have e1' : (σ ++ [Entry.var 130 [.int .i64 x.kind, .str x.text, .int .i64 x.place]]).set id (.var 91 [.lst (tkEls t), .int .i64 ((k : Int) + 1), V]) = σ1 := e1
      rcases hb with hb | hb | hb
      · simp [hb, hgt, hgx, hg2, hm, h', hlt, hel, hwk, splice, boxOp]
        rw [hb] at e1' hB1
        obtain ⟨hB0, hB2⟩ := List.getElem?_eq_some_iff.1 hB1
        simp [e1', hp1', hB1, hB2]
        refine ac_lent (peek_okT t (by omega) (k + 1) 0 (by omega) (by omega) _) (.cons (coe_par hp1 ha1) (.cons (.pure _ (by simp [AV.pure])) .nil)) ?_
        rintro r rfl
        simp only [Nat.add_zero]
        by_cases hy4 : kindAt t (k + 1) = 4
        · obtain ⟨y, hy, hy4⟩ : ∃ y, t[k + 1]? = some y ∧ y.kind = 4 := by
            cases hy : t[k + 1]? with
            | none => simp [kindAt, hy] at hy4
            | some y => exact ⟨y, rfl, by simpa [kindAt, hy] using hy4⟩
          have hlt2 := (List.getElem?_eq_some_iff.1 hy).1
          have hka2 : kindAt t (k + 1) = 4 := by simpa [kindAt, hy] using hy4
          have hwk2 : IntKind.i64.wrap ((k : Int) + 1 + 1) = (k : Int) + 1 + 1 := wrap_i64 (by omega) (by omega)
          obtain ⟨σ2, e2, hp2, ha2, hk2, hs2⟩ := moved0 hp1 ha1 (k + 2)
          have e2' : σ1.set id (.var 91 [.lst (tkEls t), .int .i64 ((k : Int) + 1 + 1), V]) = σ2 := e2
          have hne2 : σ.length ≠ id := by omega
          have hB3 := hs2 _ _ hB1 hne2
          obtain ⟨hB4, hB5⟩ := List.getElem?_eq_some_iff.1 hB3
          simp [hka2, hp1', hB1, hB2, hwk2, e2', hB3, hB5]
          refine ac_eff (hcall σ2 id t (k + 2) V l x.text ht (ht.txt x (List.mem_of_getElem? hx)) hp2 ha2 (by omega) (by omega) (by omega)) ?_
          intro r σ' hr
          have he : argP (lv + 1) (t.drop k) l = callP lv x.text (t.drop (k + 2)) l := by
            rw [hd, drop_cons_of hy]; unfold argP callP; simp [hb, hy4]
            cases t.drop (k + 1 + 1) with
            | nil => rfl
            | cons z r => rfl
          rw [he]
          obtain ⟨h1, h2, z, rfl⟩ := hr.after (k := k) (by omega) (hk1.trans hk2) fun i e he hi => hs2 i e (hs1 i e he hi) hi
          simp
          exact er_stay (.int .i64 z) (by simp [tupOf]) h2 (by simp [AV.under]) h1
        · simp [hy4, hp1', hB1, hB2]
          refine ac_coe2 (ndA_coe 1 x.text 0) (put_okT σ1 id t (k + 1) V l ⟨1, x.text, 0, []⟩ hp1 ha1 (by omega)) ?_
          rintro r σ' ⟨rfl, hP⟩
          simp
          have hP' := hP.after (k1 := k) hk1 hs1
          refine er_stay (.int .i64 0) (by simp [tupOf]) (ParR.kept hP') (by simp [AV.under]) ?_
          have he : argP (lv + 1) (t.drop k) l = .ok (l ++ [⟨1, x.text, 0, []⟩], t.drop (k + 1)) := by
            rw [hd]; unfold argP; simp [hb]
            cases hy : t[k + 1]? with
            | none => rw [drop_nil_of hy]
            | some y =>
              have : y.kind ≠ 4 := by simpa [kindAt, hy] using hy4
              rw [drop_cons_of hy]; simp [this]
          rw [he]
          exact ⟨rfl, k + 1, by omega, by omega, rfl, by simp; omega, hP'⟩
      · simp [hb, hgt, hgx, hg2, hm, h', hlt, hel, hwk, splice, boxOp]
        rw [hb] at e1' hB1
        obtain ⟨hB0, hB2⟩ := List.getElem?_eq_some_iff.1 hB1
        simp [e1', hp1', hB1, hB2]
        have hnum := ht.num x (List.mem_of_getElem? hx) hb
        have htx := ht.txt x (List.mem_of_getElem? hx)
        obtain ⟨v, hv⟩ : ∃ v, Dec.parse x.text = .ok v := by
          cases hpp : Dec.parse x.text with
          | ok v => exact ⟨v, rfl⟩
          | error e => simp [Tok.isNum, hpp] at hnum
        have hdp := dParse_ok (G := G) x.text (by omega)
        refine ac_lent hdp (.cons (.pure _ (by simp [AV.pure])) .nil) ?_
        rintro r rfl
        rw [hv, numAV]
        simp [rig, boxOp]
        have hC : ∀ m, (Entry.var 23 [.bool false, .int .i64 v]).under m = true := fun m => by simp [Entry.under, AV.under]
        refine ac_coe2 (ndA_coe 2 [] v) (put_okT (σ1 ++ [.var 23 [.bool false, .int .i64 v]]) id t (k + 1) V l ⟨2, [], v, []⟩ (get_more hp1) (ha1.keep fun i e he _ => get_more he) (by omega)) ?_
        rintro r σ' ⟨rfl, hP⟩
        simp
        have hP' := hP.after (k1 := k) (hk1.app (hC _)) fun i e he hi => get_more (hs1 i e he hi)
        refine er_stay (.int .i64 0) (by simp [tupOf]) (ParR.kept hP') (by simp [AV.under]) ?_
        have he : argP (lv + 1) (t.drop k) l = .ok (l ++ [⟨2, [], v, []⟩], t.drop (k + 1)) := by rw [hd]; unfold argP; simp [hb, numOf, hv]
        rw [he]
        exact ⟨rfl, k + 1, by omega, by omega, rfl, by simp; omega, hP'⟩
      · simp [hb, hgt, hgx, hg2, hm, h', hlt, hel, hwk, splice, boxOp]
        rw [hb] at e1' hB1
        obtain ⟨hB0, hB2⟩ := List.getElem?_eq_some_iff.1 hB1
        simp [e1', hp1', hB1, hB2]
        refine ac_coe2 (ndA_coe 3 x.text 0) (put_okT σ1 id t (k + 1) V l ⟨3, x.text, 0, []⟩ hp1 ha1 (by omega)) ?_
        rintro r σ' ⟨rfl, hP⟩
        simp
        have hP' := hP.after (k1 := k) hk1 hs1
        refine er_stay (.int .i64 0) (by simp [tupOf]) (ParR.kept hP') (by simp [AV.under]) ?_
        have he : argP (lv + 1) (t.drop k) l = .ok (l ++ [⟨3, x.text, 0, []⟩], t.drop (k + 1)) := by rw [hd]; unfold argP; simp [hb]
        rw [he]
        exact ⟨rfl, k + 1, by omega, by omega, rfl, by simp; omega, hP'⟩
    · have he : argP (lv + 1) (t.drop k) l = .error 17 := by rw [hd]; unfold argP; exact if_pos hb
      simp only [not_or] at hb
      simp [hb.1, hb.2.1, hb.2.2]
      exact er_stay (.int .i64 17) (by simp [tupOf]) (Kept.refl σ) (by simp [AV.under]) (step_err (e := 17) he (Kept.refl σ))
theorem intEls_len (l : List Int) : (intEls l).length = l.length := by simp [intEls]
theorem intEls_app1 (l : List Int) (n : Int) : intEls l ++ [[.int .i64 n]] = intEls (l ++ [n]) := by simp [intEls]
theorem intEls_pure (l : List Int) : ∀ c ∈ intEls l, ∀ a ∈ c, a.pure = true := by
  intro c hc a ha
  obtain ⟨n, _, rfl⟩ := List.mem_map.1 hc
  simp only [List.mem_cons, List.mem_nil_iff, or_false] at ha
  subst ha; simp [AV.pure]
theorem argP_nil (lv : Nat) (l : List Nd) : argP lv [] l = .error 17 := by cases lv <;> rfl
theorem argsP_eq {sub : List Tok.Tk → List Nd → Except Nat (List Nd × List Tok.Tk)} (h0 : ∀ l, sub [] l = .error 17) (word : List UInt8) (F : Nat) (args : List Int) (t : List Tok.Tk) (l : List Nd) (hF : t.length ≤ F) :
    argsP sub word F args t l = match sub t l with
    | .error e => .error e
    | .ok (l', t') => match t' with
      | [] => .error 17
      | y :: r =>
        if y.kind = 5 then .ok (l' ++ [⟨4, word, 0, args ++ [(l'.length : Int) - 1]⟩], r)
        else if y.kind = 6 then (if args.length + 1 = 16 then .error 11 else argsP sub word (F - 1) (args ++ [(l'.length : Int) - 1]) r l')
        else .error 17 := by
  cases F with
  | zero =>
    have : t = [] := List.length_eq_zero_iff.1 (by omega)
    subst this
    rw [h0]; rfl
  | succ F => rfl
theorem argsP_ne {sub : List Tok.Tk → List Nd → Except Nat (List Nd × List Tok.Tk)} (hs : ∀ t l e, sub t l = .error e → e ≠ 0) (word : List UInt8) : ∀ (F : Nat) (args : List Int) (t : List Tok.Tk) (l : List Nd) (e : Nat), argsP sub word F args t l = .error e → e ≠ 0
  | 0, args, t, l, e, h => by cases h; decide
  | F + 1, args, t, l, e, h => by
    rw [argsP] at h
    cases hx : sub t l with
    | error e' => rw [hx] at h; cases h; exact hs _ _ _ hx
    | ok y =>
      obtain ⟨l', t'⟩ := y
      rw [hx] at h
      cases t' with
      | nil => cases h; decide
      | cons y r =>
        simp only at h
        split at h
        · cases h
        · split at h
          · split at h
            · cases h; decide
            · exact argsP_ne hs word F _ _ _ _ h
          · cases h; decide
theorem argP_ne : ∀ (lv : Nat) (t : List Tok.Tk) (l : List Nd) (e : Nat), argP lv t l = .error e → e ≠ 0
  | 0, [], l, e, h => by cases h; decide
  | lv + 1, [], l, e, h => by cases h; decide
  | 0, x :: r, l, e, h => by
    unfold argP at h
    split at h <;> cases h <;> decide
  | lv + 1, x :: r, l, e, h => by
    unfold argP at h
    have ih := argP_ne lv
    repeat' split at h
    all_goals first | (cases h; done) | (cases h; decide) | (cases (by assumption : lv + 1 = _ + 1); exact argsP_ne ih _ _ _ _ _ _ h)
theorem rowI_ne {te te' size size' : Nat} {σ : Store} {v v' : AV} {l l' : List (List AV)} (h : AccI te size σ v l) (h' : AccI te' size' σ v' l') (hs : size ≠ size') : ∀ i, v = .row i l.length → v' ≠ .row i l'.length := by
  rintro i rfl rfl
  rcases h with ⟨_, h⟩ | ⟨_, id, h, h3⟩
  · cases h
  · cases h
    rcases h' with ⟨_, h'⟩ | ⟨_, id', h', h3'⟩
    · cases h'
    · cases h'
      rw [h3] at h3'
      cases h3'
      exact hs rfl
theorem accI_row {te size : Nat} {σ : Store} {v : AV} {l : List (List AV)} {i m : Nat} (h : AccI te size σ v l) (hm : v = .row i m) : m = l.length := by
  subst hm
  rcases h with ⟨_, h⟩ | ⟨_, rid, h, _⟩
  · cases h
  · cases h; rfl
theorem varI_ne {te size : Nat} {σ : Store} {v : AV} {l : List (List AV)} {i t : Nat} {c : List AV} (h : AccI te size σ v l) (hv : σ[i]? = some (.var t c)) : v ≠ .row i l.length := by
  rintro rfl
  rcases h with ⟨_, h⟩ | ⟨_, id, h, h3⟩
  · cases h
  · cases h
    rw [hv] at h3
    cases h3
theorem ndA_coeV {σ : Store} {Va : AV} {args : List Int} (k : Int) (s : List UInt8) (n : Int) (h : AccI 3 1 σ Va (intEls args)) : Coe σ false (.agg [.int .i64 k, .str s, .int .i64 n, Va]) (ndA ⟨k, s, n, args⟩) := by
  refine .agg _ _ rfl (by simp [ndC, AV.one, h.one.1]) fun j hj hj' => ?_
  match j, hj with
  | 0, _ => exact .pure _ (by simp [AV.pure])
  | 1, _ => exact .pure _ (by simp [AV.pure])
  | 2, _ => exact .pure _ (by simp [AV.pure])
  | 3, _ => exact h.coe false
theorem call_ok [GDec] (lv : Nat) (harg : ArgAt lv) : CallAt lv := by
  intro σ id t k V l word ht hw h ha hk hlk hlv
  have h256 := ht.few
  have hid := (List.getElem?_eq_some_iff.1 h).1
  have hel := tkEls_len' t
  refine acalls_of_awp_e hmix c_target_parser_call rfl ?_
  have hdep : IntKind.i64.wrap (12 - (lv : Int) + 1) = 13 - (lv : Int) := by rw [wrap_i64 (by omega) (by omega)]; omega
  have hwk : IntKind.i64.wrap ((k : Int) + 1) = ((k + 1 : Nat) : Int) := by rw [wrap_i64 (by omega) (by omega)]; omega
  obtain ⟨B, hB⟩ : ∃ B : Entry, B = .var 97 [.int .i64 4, .str word, .int .i64 0, .nils] := ⟨_, rfl⟩
  have hBu : ∀ m, B.under m = true := fun m => by rw [hB]; simp [Entry.under, AV.under]
  obtain ⟨σa, ea⟩ : ∃ σa, σa = σ ++ [B] := ⟨_, rfl⟩
  have hpa : σa[id]? = some (parE t k V) := by rw [ea]; exact get_more h
  have hBa : σa[σ.length]? = some B := by rw [ea]; simp
  have haa : AccI 97 4 σa V (ndEls l) := ha.keep fun i e he _ => by rw [ea]; exact get_more he
  have hka : Kept σ σa := by rw [ea]; exact (Kept.refl σ).app (hBu _)
  have hsa : ∀ (i : Nat) (e : Entry), σ[i]? = some e → i ≠ id → σa[i]? = some e := fun i e he _ => by rw [ea]; exact get_more he
  have hpa' : σa[id]? = some (.var 91 [.lst (tkEls t), .int .i64 k, V]) := hpa
  simp [a_target_parser_call, boxOp]
  simp only [← hB, ← ea]
  refine ac_lent (peek_okT t (by omega) k 0 (by omega) (by omega) _) (.cons (coe_par hpa haa) (.cons (.pure _ (by simp [AV.pure])) .nil)) ?_
  rintro r rfl
  simp only [Nat.add_zero]
  by_cases h5 : kindAt t k = 5
  · obtain ⟨y, hy, hy5⟩ : ∃ y, t[k]? = some y ∧ y.kind = 5 := by
      cases hy : t[k]? with
      | none => simp [kindAt, hy] at h5
      | some y => exact ⟨y, rfl, by simpa [kindAt, hy] using h5⟩
    have hlt := (List.getElem?_eq_some_iff.1 hy).1
    obtain ⟨σ1, e1, hp1, ha1, hk1, hs1⟩ := moved0 hpa haa (k + 1)
    have e1' : σa.set id (.var 91 [.lst (tkEls t), .int .i64 ((k : Int) + 1), V]) = σ1 := e1
    have hB1 : σ1[σ.length]? = some B := hs1 _ _ hBa (by omega)
    rw [hB] at hB1
    obtain ⟨hB2, hB3⟩ := List.getElem?_eq_some_iff.1 hB1
    have hp1' : σ1[id]? = some (.var 91 [.lst (tkEls t), .int .i64 ((k : Int) + 1), V]) := hp1
    simp [h5, hpa', hwk, splice]
    simp [e1', hp1', hB1, hB2, hB3]
    refine ac_coe2 (ndA_coe 4 word 0) (put_okT σ1 id t (k + 1) V l ⟨4, word, 0, []⟩ hp1 ha1 (by omega)) ?_
    rintro r σ' ⟨rfl, hP⟩
    simp
    have hP' := hP.after (k1 := k) (hka.trans hk1) fun i e he hi => hs1 i e (hsa i e he hi) hi
    refine er_stay (.int .i64 0) (by simp [tupOf]) (ParR.kept hP') (by simp [AV.under]) ?_
    have he : callP lv word (t.drop k) l = .ok (l ++ [⟨4, word, 0, []⟩], t.drop (k + 1)) := by
      rw [drop_cons_of hy]; unfold callP; simp [hy5]
    rw [he]
    exact ⟨rfl, k + 1, by omega, by omega, rfl, by simp; omega, hP'⟩
  · have hc0 : callP lv word (t.drop k) l = argsP (argP lv) word (t.drop k).length [] (t.drop k) l := by
      cases hd : t.drop k with
      | nil => rfl
      | cons y r =>
        have hy : t[k]? = some y := by
          have := congrArg (fun l => l[0]?) hd
          simpa using this
        have : y.kind ≠ 5 := by simpa [kindAt, hy] using h5
        simp [callP, this]
    simp [h5]
    refine lp_startx (fun x f σ' => ∃ (kk : Nat) (V' : AV) (l' : List Nd) (args : List Int) (Va : AV) (F : Nat), x = t.length - kk ∧ f 0 = .ptr id 0 ∧ f 1 = .str word ∧ f 2 = .int .i64 (12 - (lv : Int)) ∧ f 7 = .ptr σ.length 0 ∧ σ'[id]? = some (parE t kk V') ∧ AccI 97 4 σ' V' (ndEls l') ∧ σ'[σ.length]? = some (.var 97 [.int .i64 4, .str word, .int .i64 0, Va]) ∧ AccI 3 1 σ' Va (intEls args) ∧ Kept σ σ' ∧ (∀ (i : Nat) (e : Entry), σ[i]? = some e → i ≠ id → V ≠ .row i l.length → σ'[i]? = some e) ∧ (∀ (i m : Nat), V' = .row i m → i < σ.length → V = .row i l.length) ∧ (∀ (i m : Nat), Va = .row i m → σ.length ≤ i) ∧ k ≤ kk ∧ kk ≤ t.length ∧ l'.length ≤ kk ∧ args.length < 16 ∧ (t.drop kk).length ≤ F ∧ callP lv word (t.drop k) l = argsP (argP lv) word F args (t.drop kk) l') (t.length - k) ?_ ?_
    · exact ⟨k, V, l, [], .nils, (t.drop k).length, rfl, by simp, by simp, by simp, by simp, hpa, haa, by rw [hBa, hB], accI_nil, hka, fun i e he hi _ => hsa i e he hi, fun i m hm _ => by rw [hm, accI_row ha hm, ndEls_len], nofun, by omega, hk, by omega, by simp, Nat.le_refl _, hc0⟩
    rintro x f σ1 ⟨kk, V1, l1, args, Va, F, hx, h0, h1, h2, h7, hp1, ha1, hB1, hv1, hk1, hs1, hr1, hn1, hkk, hkt, hl1, har, hF, hcp⟩
    have hid1 := (List.getElem?_eq_some_iff.1 hp1).1
    have hne : σ.length ≠ id := by omega
    simp [h0, h1, h2, h7, hdep]
    refine ac_eff (harg σ1 id t kk V1 l1 ht hp1 ha1 hkt hl1 (by omega)) ?_
    intro r σ2 hr
    rw [argsP_eq (argP_nil lv) word F args _ _ hF] at hcp
    cases hx2 : argP lv (t.drop kk) l1 with
    | error e =>
      rw [hx2] at hr hcp
      obtain ⟨rfl, hk2⟩ := hr
      have he0 := argP_ne lv _ _ _ hx2
      have he0' : ¬ (e : Int) = 0 := by omega
      simp [he0, he0']
      exact er_stay (.int .i64 e) (by simp [tupOf]) (hk1.trans hk2) (by simp [AV.under]) (step_err hcp (hk1.trans hk2))
    | ok y =>
      obtain ⟨l2, t2⟩ := y
      rw [hx2] at hr hcp
      obtain ⟨rfl, k2, hkk2, hk2t, rfl, hl2, V2, hp2, ha2, hK2, hs2, hv2⟩ := hr
      simp only at hcp
      have hq1 := varI_ne ha1 hB1
      rw [ndEls_len] at hq1
      have hB2 := hs2 _ _ hB1 hne hq1
      have hvq : AccI 3 1 σ2 Va (intEls args) := hv1.keep fun i e he hv => hs2 i e he (by rintro rfl; exact varI_ne hv1 hp1 hv) (by have := rowI_ne hv1 ha1 (by decide) i hv; rwa [ndEls_len] at this)
      have hlen2 := ndEls_len l2
      have hview2 := ha2.view
      have hone2 := ha2.one
      have honea := hvq.one
      have hwl : IntKind.i64.wrap ((l2.length : Int) - 1) = (l2.length : Int) - 1 := wrap_i64 (by omega) (by omega)
      obtain ⟨hB2a, hB2b⟩ := List.getElem?_eq_some_iff.1 hB2
      have hp2' : σ2[id]? = some (.var 91 [.lst (tkEls t), .int .i64 k2, V2]) := hp2
      simp [h0, h7, hB2, hB2b, hp2', hview2, hlen2, hwl, honea, hone2]
      refine ap_accI (bytes := 8) hvq [.int .i64 ((l2.length : Int) - 1)] (by decide) rfl (by rw [intEls_app1]; exact intEls_pure _) (by rw [intEls_len]; omega) (by rw [intEls_len]; omega) fun Va' σ3 hv3 hk3 hs3 hsame3 => ?_
      rw [intEls_app1] at hv3
      have hp3 := hs3 id _ hp2 (varI_ne hvq hp2)
      have hB3 := hs3 σ.length _ hB2 (varI_ne hvq hB2)
      have ha3 : AccI 97 4 σ3 V2 (ndEls l2) := ha2.keep fun i e he hv => hs3 i e he (rowI_ne ha2 hvq (by decide) i hv)
      have hone3 := hv3.one
      obtain ⟨σ4, e4⟩ : ∃ σ4, σ3.set σ.length (.var 97 [.int .i64 4, .str word, .int .i64 0, Va']) = σ4 := ⟨_, rfl⟩
      have hm3 := (List.getElem?_eq_some_iff.1 hB3).1
      have hks4 : ∀ (i : Nat) (e : Entry), σ3[i]? = some e → i ≠ σ.length → σ4[i]? = some e := fun i e he hi => by
        rw [← e4, List.getElem?_set_ne (fun e => hi e.symm)]; exact he
      have hp4 := hks4 _ _ hp3 (fun e => hne e.symm)
      have hB4 : σ4[σ.length]? = some (.var 97 [.int .i64 4, .str word, .int .i64 0, Va']) := by rw [← e4, List.getElem?_set_self hm3]
      have ha4 : AccI 97 4 σ4 V2 (ndEls l2) := ha3.keep fun i e he hv => hks4 i e he (by rintro rfl; exact varI_ne ha3 hB3 hv)
      have hv4 : AccI 3 1 σ4 Va' (intEls (args ++ [(l2.length : Int) - 1])) := hv3.keep fun i e he hv => hks4 i e he (by rintro rfl; exact varI_ne hv3 hB3 hv)
      have hk4 : Kept σ3 σ4 := by rw [← e4]; exact (Kept.refl σ3).set _ (by simp [Entry.under, AV.under, hv3.under])
      have hkA : Kept σ σ4 := (hk1.trans hK2).trans (hk3.trans hk4)
      have hsA : ∀ (i : Nat) (e : Entry), σ[i]? = some e → i ≠ id → V ≠ .row i l.length → σ4[i]? = some e := fun i e he hi hv => by
        have hlt := (List.getElem?_eq_some_iff.1 he).1
        have q1 := hs1 i e he hi hv
        have q2 := hs2 i e q1 hi (fun h => hv (hr1 i _ h hlt))
        have q3 := hs3 i e q2 (fun h => by have := hn1 i _ h; omega)
        exact hks4 i e q3 (by omega)
      have hrA : ∀ (i m : Nat), V2 = .row i m → i < σ.length → V = .row i l.length := fun i m hm hi => hr1 i _ (hv2 i m hm (Nat.lt_of_lt_of_le hi hk1.len)) hi
      have hnA : ∀ (i m : Nat), Va' = .row i m → σ.length ≤ i := fun i m hm => by
        by_cases hi : i < σ2.length
        · exact hn1 i _ (hsame3 i m hm hi)
        · have := (hk1.trans hK2).len; omega
      obtain ⟨hB3a, hB3b⟩ := List.getElem?_eq_some_iff.1 hB3
      simp [h0, h7, hB3, hB3b, splice, hone3]
      simp only [e4]
      refine ac_lent (peek_okT t (by omega) k2 0 (by omega) (by omega) _) (.cons (coe_par hp4 ha4) (.cons (.pure _ (by simp [AV.pure])) .nil)) ?_
      rintro r rfl
      simp only [Nat.add_zero]
      cases hy : t[k2]? with
      | none =>
        have hka2 : kindAt t k2 = 0 := by simp [kindAt, hy]
        rw [drop_nil_of hy] at hcp
        simp [hka2]
        exact er_stay (.int .i64 17) (by simp [tupOf]) hkA (by simp [AV.under]) (step_err (e := 17) hcp hkA)
      | some y =>
        have hka2 : kindAt t k2 = y.kind := by simp [kindAt, hy]
        rw [drop_cons_of hy] at hcp
        simp only at hcp
        have hlt2 := (List.getElem?_eq_some_iff.1 hy).1
        have hwk2 : IntKind.i64.wrap ((k2 : Int) + 1) = (k2 : Int) + 1 := wrap_i64 (by omega) (by omega)
        have hp4' : σ4[id]? = some (.var 91 [.lst (tkEls t), .int .i64 k2, V2]) := hp4
        obtain ⟨hB4a, hB4b⟩ := List.getElem?_eq_some_iff.1 hB4
        obtain ⟨σ5, e5, hp5, ha5, hk5, hs5⟩ := moved0 hp4 ha4 (k2 + 1)
        have e5' : σ4.set id (.var 91 [.lst (tkEls t), .int .i64 ((k2 : Int) + 1), V2]) = σ5 := e5
        have hB5 := hs5 _ _ hB4 hne
        obtain ⟨hB5a, hB5b⟩ := List.getElem?_eq_some_iff.1 hB5
        have hp5' : σ5[id]? = some (.var 91 [.lst (tkEls t), .int .i64 ((k2 : Int) + 1), V2]) := hp5
        have hv5 : AccI 3 1 σ5 Va' (intEls (args ++ [(l2.length : Int) - 1])) := hv4.keep fun i e he hv => hs5 i e he (by rintro rfl; exact varI_ne hv4 hp4 hv)
        have hkB : Kept σ σ5 := hkA.trans hk5
        have hsB : ∀ (i : Nat) (e : Entry), σ[i]? = some e → i ≠ id → V ≠ .row i l.length → σ5[i]? = some e := fun i e he hi hv => hs5 i e (hsA i e he hi hv) hi
        have hviewa := hv4.view
        have hila := intEls_len (args ++ [(l2.length : Int) - 1])
        simp only [List.length_append, List.length_singleton] at hila
        by_cases y5 : y.kind = 5
        · rw [if_pos y5] at hcp
          simp [h0, h7, hka2, y5, hp4', hwk2, splice]
          simp [h0, h7, e5', hp5', hB5, hB5b]
          refine ac_coe2 (ndA_coeV 4 word 0 hv5) (put_okT σ5 id t (k2 + 1) V2 l2 ⟨4, word, 0, args ++ [(l2.length : Int) - 1]⟩ hp5 ha5 (by omega)) ?_
          rintro r σ6 ⟨rfl, hP⟩
          simp
          have hP' := hP.trans (k1 := k) hkB hsB hrA
          refine er_stay (.int .i64 0) (by simp [tupOf]) (ParR.kept hP') (by simp [AV.under]) ?_
          rw [hcp]
          exact ⟨rfl, k2 + 1, by omega, by omega, rfl, by simp; omega, hP'⟩
        · rw [if_neg y5] at hcp
          by_cases y6 : y.kind = 6
          · rw [if_pos y6] at hcp
            by_cases h16 : args.length + 1 = 16
            · have h16' : (args.length : Int) + 1 = 16 := by omega
              rw [if_pos h16] at hcp
              simp [h0, h7, hka2, y5, y6, hB4, hB4b, hviewa, hila, h16, h16']
              exact er_stay (.int .i64 11) (by simp [tupOf]) hkA (by simp [AV.under]) (step_err (e := 11) hcp hkA)
            · have h16' : ¬ (args.length : Int) + 1 = 16 := by omega
              have h16'' : ¬ args.length = 15 := by omega
              rw [if_neg h16] at hcp
              simp [h0, h7, hka2, y5, y6, hB4, hB4b, hviewa, hila, h16, h16', h16'', hp4', hwk2, splice]
              simp only [e5']
              refine nx_intro (t.length - (k2 + 1)) (by omega) ⟨k2 + 1, V2, l2, args ++ [(l2.length : Int) - 1], Va', F - 1, rfl, by simp [h0], by simp [h1], by simp [h2], by simp [h7], hp5, ha5, hB5, hv5, hkB, hsB, hrA, hnA, by omega, by omega, by omega, by simp; omega, ?_, hcp⟩
              simp at hF ⊢; omega
          · rw [if_neg y6] at hcp
            simp [h0, h7, hka2, y5, y6]
            exact er_stay (.int .i64 17) (by simp [tupOf]) hkA (by simp [AV.under]) (step_err (e := 17) hcp hkA)
theorem arg_at [GDec] : ∀ lv, ArgAt lv
  | 0 => arg_zero
  | lv + 1 => arg_succ lv (call_ok lv (arg_at lv))
end Go.Proofs.YtigkchpjpdbodaaGreatDoor
end
section
namespace Go.Trail
open Go.Glob
/-- A text's pieces between points. -/
def sp : List UInt8 → List (List UInt8)
  | [] => [[]]
  | c :: s => if c = 46 then [] :: sp s else match sp s with
    | p :: ps => (c :: p) :: ps
    | [] => [[c]]
/-- .. the first n of them, and the rest. -/
def cutN : Nat → List UInt8 → List (List UInt8)
  | 0, s => [s]
  | n + 1, s => if Lib.indexByte s 46 = -1 then [s] else s.take (Lib.indexByte s 46).toNat :: cutN n (s.drop ((Lib.indexByte s 46).toNat + 1))
theorem sp_ne (s : List UInt8) : sp s ≠ [] := by
  cases s with
  | nil => simp [sp]
  | cons c s =>
    simp only [sp]
    split
    · simp
    · split <;> simp
theorem sp_cons {c : UInt8} (h : c ≠ 46) (s : List UInt8) : ∃ p ps, sp s = p :: ps ∧ sp (c :: s) = (c :: p) :: ps := by
  cases hs : sp s with
  | nil => exact absurd hs (sp_ne s)
  | cons p ps => exact ⟨p, ps, rfl, by simp [sp, h, hs]⟩
/-- Where the first point stands. -/
theorem sp_index : ∀ (s : List UInt8), (Lib.indexByte s 46 = -1 ∧ sp s = [s]) ∨ (∃ m : Nat, Lib.indexByte s 46 = m ∧ m < s.length ∧ sp s = s.take m :: sp (s.drop (m + 1)))
  | [] => .inl ⟨rfl, rfl⟩
  | c :: s => by
    by_cases hc : c = 46
    · subst hc
      exact .inr ⟨0, by simp [Lib.indexByte], by simp, by simp [sp]⟩
    · obtain ⟨p, ps, h1, h2⟩ := sp_cons hc s
      have hb : (c == 46) = false := by simpa using hc
      rcases sp_index s with ⟨g1, g2⟩ | ⟨m, g1, g2, g3⟩
      · refine .inl ⟨by simp [Lib.indexByte, hb, g1], ?_⟩
        rw [h1] at g2
        simp only [List.cons.injEq] at g2
        rw [h2, g2.1, g2.2]
      · refine .inr ⟨m + 1, ?_, by simp; omega, ?_⟩
        · simp only [Lib.indexByte, hb, g1]
          have : ¬ ((m : Int) == -1) = true := by simp
          rw [if_neg this]; simp
        · rw [h1] at g3
          simp only [List.cons.injEq] at g3
          rw [h2, g3.1, g3.2]; simp
theorem cutN_eq : ∀ (n : Nat) (s : List UInt8), (sp s).length ≤ n + 1 → cutN n s = sp s
  | 0, s, h => by
    rcases sp_index s with ⟨_, g⟩ | ⟨m, _, _, g⟩
    · simp [cutN, g]
    · rw [g] at h
      have := List.length_pos_iff.2 (sp_ne (s.drop (m + 1)))
      rw [List.length_cons] at h; omega
  | n + 1, s, h => by
    rcases sp_index s with ⟨g1, g⟩ | ⟨m, g1, _, g⟩
    · simp [cutN, g, g1]
    · rw [g] at h
      have hne : ¬ ((m : Int) = -1) := by omega
      simp only [cutN, g1, if_neg hne, g]
      rw [show ((m : Int)).toNat = m from rfl, cutN_eq n _ (by simpa using h)]
theorem cutN_long : ∀ (n : Nat) (s : List UInt8), n + 1 ≤ (sp s).length → (cutN n s).length = n + 1
  | 0, s, h => rfl
  | n + 1, s, h => by
    rcases sp_index s with ⟨g1, g⟩ | ⟨m, g1, _, g⟩
    · rw [g] at h; simp at h
    · rw [g] at h
      have hne : ¬ ((m : Int) = -1) := by omega
      simp only [cutN, g1, if_neg hne]
      rw [List.length_cons, show ((m : Int)).toNat = m from rfl, cutN_long n _ (by simpa using h)]
/-- A name. -/
def nameB (s : List UInt8) : Bool := decide (s.length ≤ 32) && (s.all nb && !s.isEmpty)
/-- A path's names, or none. -/
def path (s : List UInt8) : Option (List (List UInt8)) := if (sp s).length ≤ 8 ∧ (sp s).all nameB = true then some (sp s) else none
/-- Names with points between. -/
def join : List (List UInt8) → List UInt8
  | [] => []
  | [p] => p
  | p :: ps => p ++ 46 :: join ps
end Go.Trail
end
section
namespace Go.Proofs.YtigkchpjpdbodaaGreatDoor
open Go.Abs Go.Glob Go.Trail
variable {G : Globs}
/-- strings.Index, at a point. -/
theorem index_ok (s : List UInt8) : PCalls Tryz.prog 153 [.str s, .str [46]] (fun r => r = .int .i64 (Lib.indexByte s 46)) := by
  intro base κ Im w vs hs hv
  obtain ⟨v0, v1, rfl⟩ : ∃ v0 v1, vs = [v0, v1] := by
    match vs, hv.1 with
    | [a, b], _ => exact ⟨a, b, rfl⟩
  have e0 := (hv.2 0 (by simp) (by simp)).str_inv
  have e1 := (hv.2 1 (by simp) (by simp)).str_inv
  simp only [List.getElem_cons_zero, List.getElem_cons_succ] at e0 e1
  subst e0; subst e1
  refine (Tryz.strings_Index_one ⟨s.toArray⟩ 46 w).mono ?_
  rintro e w' ⟨rfl, rfl⟩
  exact ⟨_, [], _, κ, Im, rfl, ⟨rfl, rfl⟩, hs, Grow.refl _ _ _ _, .im _ _ (.int .i64 (Lib.indexByte s 46))⟩
theorem strEls_append (a b : List (List UInt8)) : strEls (a ++ b) = strEls a ++ strEls b := by simp [strEls]
theorem strEls_share (σ : Store) (l : List (List UInt8)) : ((strEls l).mapM fun (c : List AV) => c.mapM (share1 σ)) = some (strEls l) := by
  induction l with
  | nil => rfl
  | cons a l ih =>
    simp only [strEls, List.map_cons] at ih ⊢
    rw [List.mapM_cons, ih]
    simp [share1]
theorem genSplit_ok (s : List UInt8) (hs : s.length ≤ 1000000000000000000) : PCalls Tryz.prog n_strings_genSplit [.str s, .str [46], .int .i64 0, .int .i64 9] (fun r => r = .lst (strEls (cutN 8 s))) := by
  refine pcalls_of_awp hmix c_strings_genSplit rfl ?_
  have hw1 : IntKind.i64.wrap ((s.length : Int) + 1) = (s.length : Int) + 1 := wrap_i64 (by omega) (by omega)
  simp [a_strings_genSplit, hw1]
  obtain ⟨N, hN, hN1, hN2⟩ : ∃ N : Nat, N + 1 = min 9 (s.length + 1) ∧ N ≤ 8 ∧ N ≤ s.length := ⟨min 8 s.length, by omega, by omega, by omega⟩
  have hmm : (if (s.length : Int) + 1 < 9 then (s.length : Int) + 1 else 9) = ((N + 1 : Nat) : Int) := by split <;> omega
  simp only [hmm]
  refine ms_intro (N + 1) rfl rfl (by omega) (by omega) (by omega) rfl ?_
  have hw2 : IntKind.i64.wrap (((N + 1 : Nat) : Int) - 1) = N := by rw [wrap_i64 (by omega) (by omega)]; omega
  have hw3 : IntKind.i64.wrap (N : Int) = N := wrap_i64 (by omega) (by omega)
  simp [hw2]
  have hcut0 : ∀ k, cutN k [] = [[]] := fun k => by cases k <;> simp [cutN, Lib.indexByte]
  refine lp_startx (fun x f σ => ∃ (i : Nat) (done : List (List UInt8)) (s' : List UInt8), x = N - i ∧ i ≤ N ∧ done.length = i ∧ f 0 = .str s' ∧ f 1 = .str [46] ∧ f 2 = .int .i64 0 ∧ f 3 = .int .i64 N ∧ f 9 = .row 0 (N + 1) ∧ f 10 = .int .i64 i ∧ i + s'.length ≤ s.length ∧
    cutN 8 s = done ++ cutN (8 - i) s' ∧ σ = [.row 9 1 (strEls (done ++ List.replicate (N + 1 - i) [])) false]) N ?_ ?_
  · exact ⟨0, [], s, rfl, by omega, rfl, by simp, by simp, by simp, by simp [hmm, hw2, hw3], by simp, by simp, by omega, by simp, by simp [strEls]⟩
  rintro x f σ ⟨i, done, s', rfl, hi, hdl, h0, h1, h2, h3, h9, h10, hsl, hcut, rfl⟩
  have hwi : IntKind.i64.wrap ((i : Int) + 1) = (i : Int) + 1 := wrap_i64 (by omega) (by omega)
  have hlenL : (strEls (done ++ List.replicate (N + 1 - i) [])).length = N + 1 := by simp [strEls]; omega
  have hlenL2 : (strEls (done ++ s' :: List.replicate (N - i) [])).length = N + 1 := by simp [strEls]; omega
  have hiN : i < N + 1 := by omega
  have hL : ∀ x : List UInt8, (strEls (done ++ List.replicate (N + 1 - i) [])).set i [.str x] = strEls (done ++ x :: List.replicate (N - i) []) := fun x => by
    have e : N + 1 - i = (N - i) + 1 := by omega
    rw [e, List.replicate_succ]
    simp only [strEls, List.map_append, List.map_cons]
    rw [List.set_append_right _ _ (by simp; omega)]
    simp [hdl]
  have hget : (strEls (done ++ List.replicate (N + 1 - i) []))[i]? = some [.str []] := by
    have e : N + 1 - i = (N - i) + 1 := by omega
    rw [e, List.replicate_succ]
    simp only [strEls, List.map_append, List.map_cons]
    rw [List.getElem?_append_right (by simp; omega)]
    simp [hdl]
  obtain ⟨hgx, hgy⟩ := List.getElem?_eq_some_iff.1 hget
  have hp1 : (0 : Int) ≤ (i : Int) + 1 := by omega
  have hi1 : i + 1 ≤ N + 1 := by omega
  have hlen1 : ∀ c ∈ strEls (done ++ s' :: List.replicate (N - i) []), c.length = 1 := fun c hc => by
    simp only [strEls, List.mem_map] at hc
    obtain ⟨x, _, rfl⟩ := hc; rfl
  have htake : List.take (i + 1) (strEls (done ++ s' :: List.replicate (N - i) [])) = strEls (done ++ [s']) := by
    have e : strEls (done ++ s' :: List.replicate (N - i) []) = strEls (done ++ [s']) ++ strEls (List.replicate (N - i) []) := by rw [← strEls_append]; simp
    rw [e, List.take_append_of_le_length (by simp [strEls]; omega), List.take_of_length_le (by simp [strEls]; omega)]
  simp [h3, h10]
  refine cb_dec (fun hlt => ?_) (fun hge => ?_)
  · have hlt' : i < N := by omega
    simp [h0, h1]
    refine ac_same (index_ok s') (by simp) ?_
    rintro r rfl
    simp
    rcases sp_index s' with ⟨g1, g2⟩ | ⟨m, g1, g2, g3⟩
    · have hend : cutN 8 s = done ++ [s'] := by
        rw [hcut]
        obtain ⟨k, hk⟩ : ∃ k, 8 - i = k + 1 := ⟨7 - i, by omega⟩
        rw [hk]; simp [cutN, g1]
      simp [g1]
      simp [h0, h2, h9, h10, hlenL, hiN, hget, hgy, hL, hwi]
      refine gh_frz (σ' := [.row 9 1 (strEls (done ++ s' :: List.replicate (N - i) [])) true]) ⟨0, 9, 1, strEls (done ++ s' :: List.replicate (N - i) []), _, rfl, strEls_share _ _, rfl⟩ ?_
      simp [h0, h2, h9, h10, hlenL2, hwi, hlen1, hp1, hi1]
      rw [hend, htake]
    · have hm0 : ¬ ((m : Int) < 0) := by omega
      have hwm : IntKind.i64.wrap (m : Int) = m := wrap_i64 (by omega) (by omega)
      have hwm1 : IntKind.i64.wrap ((m : Int) + 1) = (m : Int) + 1 := wrap_i64 (by omega) (by omega)
      have hml : m ≤ s'.length := by omega
      have hml1 : m + 1 ≤ s'.length := by omega
      have hmp : (0 : Int) ≤ (m : Int) + 1 := by omega
      simp [g1, hm0]
      refine gh_skip ?_
      simp [h0, h1, h2, h9, h10, hlenL, hiN, hget, hgy, hL, hwm, hml]
      refine gh_skip ?_
      simp [h0, h1, h2, h9, h10, hwm1, hmp, hml1, hwi]
      refine nx_intro (N - (i + 1)) (by omega) ⟨i + 1, done ++ [s'.take m], s'.drop (m + 1), rfl, by omega, by simp [hdl], by simp, by simp [h1], by simp [h2], by simp [h3], by simp [h9], by simp, by simp; omega, ?_, ?_⟩
      · rw [hcut]
        obtain ⟨k, hk⟩ : ∃ k, 8 - i = k + 1 := ⟨7 - i, by omega⟩
        have hne : ¬ ((m : Int) = -1) := by omega
        rw [hk, show 8 - (i + 1) = k by omega]
        simp [cutN, g1, hne]
      · have e : N + 1 - (i + 1) = N - i := by omega
        simp [e]
  · have hend : cutN 8 s = done ++ [s'] := by
      have ei : i = N := by omega
      subst ei
      rw [hcut]
      by_cases h8 : i = 8
      · rw [h8]; rfl
      · have : s' = [] := List.eq_nil_of_length_eq_zero (by omega)
        rw [this, hcut0]
    simp [h0, h2, h9, h10, hlenL, hiN, hget, hgy, hL, hwi]
    refine gh_frz (σ' := [.row 9 1 (strEls (done ++ s' :: List.replicate (N - i) [])) true]) ⟨0, 9, 1, strEls (done ++ s' :: List.replicate (N - i) []), _, rfl, strEls_share _ _, rfl⟩ ?_
    simp [h0, h2, h9, h10, hlenL2, hwi, hlen1, hp1, hi1]
    rw [hend, htake]
theorem splitN_ok (s : List UInt8) (hs : s.length ≤ 1000000000000000000) : PCalls Tryz.prog n_strings_SplitN [.str s, .str [46], .int .i64 9] (fun r => r = .lst (strEls (cutN 8 s))) := by
  refine pcalls_of_awp hmix c_strings_SplitN rfl ?_
  simp [a_strings_SplitN]
  refine ac_same (genSplit_ok s hs) (by simp) ?_
  rintro r rfl
  simp
theorem cut_le (s : List UInt8) : (cutN 8 s).length ≤ 8 ↔ (sp s).length ≤ 8 := by
  constructor
  · intro h
    refine Nat.le_of_not_lt fun hx => ?_
    have := cutN_long 8 s (by omega)
    omega
  · intro h
    rw [cutN_eq 8 s (by omega)]; exact h
theorem cut_ok (s : List UInt8) (hs : s.length ≤ 1000000000000000000) : PCalls Tryz.prog n_trail_cut [.str s] (fun r => r = .tup [.lst (strEls (cutN 8 s)), .bool (decide ((cutN 8 s).length ≤ 8))]) := by
  refine pcalls_of_awp hmix c_trail_cut rfl ?_
  simp [a_trail_cut]
  refine ac_same (splitN_ok s hs) (by simp) ?_
  rintro r rfl
  have e : (strEls (cutN 8 s)).length = (cutN 8 s).length := by simp [strEls]
  simp [e]
  all_goals try exact ⟨fun h => by omega, fun h => by omega⟩
theorem sp_mem_len : ∀ (s : List UInt8), ∀ p ∈ sp s, p.length ≤ s.length
  | [], p, h => by simp [sp] at h; simp [h]
  | c :: s, p, h => by
    have ih := sp_mem_len s
    by_cases hc : c = 46
    · subst hc
      simp only [sp, if_true, List.mem_cons] at h
      rcases h with rfl | h
      · simp
      · have := ih p h; simp; omega
    · obtain ⟨q, ps, h1, h2⟩ := sp_cons hc s
      rw [h2] at h
      rw [h1] at ih
      rcases List.mem_cons.1 h with rfl | h
      · have := ih q (by simp); simp; omega
      · have := ih p (by simp [h]); simp; omega
end Go.Proofs.YtigkchpjpdbodaaGreatDoor
end
section
namespace Go.Proofs.YtigkchpjpdbodaaGreatDoor
open Go.Abs Go.Glob
variable {G : Globs}
def PieceR (σ : Store) (id : Nat) (text : List UInt8) (depth deepest : Int) (x : Option (List Pc × List UInt8 × Nat)) (r : AV) (σ' : Store) : Prop :=
  match x with
  | some (l, r', d) => r = .lst (encL l) ∧ σ' = σ.set id (PV text (text.length - r'.length) false depth (max deepest (depth + d)))
  | none => ∃ els k dp, k ≤ text.length ∧ r = .lst els ∧ σ' = σ.set id (PV text k true depth dp)
def BraceR (σ : Store) (id : Nat) (text : List UInt8) (depth deepest : Int) (x : Option (List (List Pc) × List UInt8 × Nat)) (r : AV) (σ' : Store) : Prop :=
  match x with
  | some (l, r', d) => r = .agg (Pc.br l).enc ∧ σ' = σ.set id (PV text (text.length - r'.length) false depth (max deepest (depth + (d + 1 : Nat))))
  | none => ∃ els k dp, k ≤ text.length ∧ r = .agg [.int .i64 4, .int .u8 0, .lst [], .lst els, .str []] ∧ σ' = σ.set id (PV text k true depth dp)
def PiecesAt [Globs] (L : Nat) : Prop := ∀ (σ : Store) (id : Nat) (text : List UInt8) (at_ : Nat) (depth deepest : Int) (n : Nat), id < σ.length → at_ ≤ text.length → text.length - at_ = L → text.length ≤ 1000000 → 0 ≤ depth → depth + (text.length - at_ : Nat) ≤ 2000000 → depth ≤ deepest → 2 * (text.length - at_) + 1 ≤ n →
  ACalls Tryz.prog n_glob_parser_pieces [.ptr id 0] (σ.set id (PV text at_ false depth deepest)) (PieceR σ id text depth deepest (pcs n (text.drop at_)))
def BracesAt [Globs] (L : Nat) : Prop := ∀ (σ : Store) (id : Nat) (text : List UInt8) (at_ : Nat) (depth deepest : Int) (n : Nat), id < σ.length → at_ ≤ text.length → text.length - at_ = L → text.length ≤ 1000000 → 0 ≤ depth → depth + 1 + (text.length - at_ : Nat) ≤ 2000000 → depth ≤ deepest → 2 * (text.length - at_) + 2 ≤ n →
  ACalls Tryz.prog n_glob_parser_braces [.ptr id 0] (σ.set id (PV text at_ false depth deepest)) (BraceR σ id text depth deepest (alts n (text.drop at_)))
theorem get_2 {σ : Store} (id : Nat) (e a b c : Entry) (l : Store) : (σ.set id e ++ a :: b :: c :: l)[σ.length + 2]? = some c := by
  rw [List.getElem?_append_right (by simp)]; simp
theorem set_2 {σ : Store} (id : Nat) (e a b c c' : Entry) (l : Store) : (σ.set id e ++ a :: b :: c :: l).set (σ.length + 2) c' = σ.set id e ++ a :: b :: c' :: l := by
  rw [List.set_append_right _ _ (by simp)]; simp
theorem braces_of (L : Nat) (hP : ∀ L', L' ≤ L → PiecesAt L') : BracesAt L := by
  intro σ id text at_ depth deepest n hid h1 hL h3 hd0 hdm hdd hn
  refine acalls_of_awp_de hmix c_glob_parser_braces rfl ?_
  have g0 := @set_get σ id hid
  have g00 := @set_get' σ id hid
  have q0 := @set_set σ id hid
  have hw1 : IntKind.i64.wrap (depth + 1) = depth + 1 := wrap_i64 (by omega) (by omega)
  simp [a_glob_parser_braces, g0, g00, PV, hw1, get_0, get_1, set_0, set_1, get_2, set_2, q0]
  refine edm_intro n_glob_parser_braces_1 [.ptr σ.length 0] (by simp) b_glob_parser_braces_1 ?_
  simp
  refine lp_startx (fun x f σ' => ∃ (k : Nat) (xs : List (List Pc)) (d0 m : Nat), x = text.length - k ∧ at_ ≤ k ∧ k ≤ text.length ∧ 2 * (text.length - k) + 2 ≤ m ∧ xs.length ≤ k ∧
    alts n (text.drop at_) = ((alts m (text.drop k)).map fun y => (xs ++ y.1, y.2.1, max d0 y.2.2)) ∧ f 1 = .ptr σ.length 0 ∧ f 2 = .ptr (σ.length + 1) 0 ∧ f 3 = .ptr (σ.length + 2) 0 ∧
    σ' = σ.set id (PV text k false (depth + 1) (max deepest (depth + 1 + (d0 : Nat)))) ++ .var 358 [.ptr id 0] :: .var 366 [.int .i64 0, .int .u8 0, .nils, .nils, .str []] :: .var 366 [.int .i64 4, .int .u8 0, .nils, rowV (σ.length + 3) (encA xs), .str []] :: rowE 280 1 (encA xs) true) (text.length - at_) ?_ ?_
  · refine ⟨at_, [], 0, n, rfl, Nat.le_refl _, h1, hn, by simp, ?_, by simp, by simp, by simp, ?_⟩
    · simp
    · have : (max deepest (depth + 1)) = (if deepest < depth + 1 then depth + 1 else deepest) := by
        rw [Int.max_def]; split <;> split <;> omega
      simp [PV, encA, rowV, rowE, this]
  rintro x f σ' ⟨k, xs, d0, m, rfl, hk1, hk2, hm, hxk, halts, h1', h2', h3', rfl⟩
  have hst : ∀ e a b c l, σ.set id e ++ a :: b :: c :: l = (σ.set id e ++ [a, b, c]) ++ l := fun e a b c l => by simp
  have hxl : ∀ xs, (encA xs).length = xs.length := encA_length
  have hap : ∀ {K : AV → Store → Prop} {t : Tg K} {e a b c : Entry} (y : List (List AV)), K (rowV (σ.length + 3) (encA xs ++ [[.lst y]])) (σ.set id e ++ a :: b :: c :: rowE 280 1 (encA xs ++ [[.lst y]]) true) →
      ap K t (σ.set id e ++ a :: b :: c :: rowE 280 1 (encA xs) true) 280 1 24 (rowV (σ.length + 3) (encA xs)) (.lst [[.lst y]]) := by
    intro K t e a b c y hK
    rw [hst] at hK
    rw [hst]
    exact ap_acc_at (by simp) (encA xs) [[.lst y]] true (by omega) (by simp) (by simp) (by simp [hxl]; omega) (by simp [hxl]; omega) hK
  have hfin : ∀ e a b c (l : List (List AV)), fin1 (σ.set id e ++ a :: b :: c :: rowE 280 1 l true) σ.length (rowV (σ.length + 3) l) = some (.lst l) := fun e a b c l => by
    rw [hst]; exact fin1_acc_at (by simp)
  -- the function's end
  have hend : ∀ {f' : Abs.Frame} {tf : Tg f'} (k' : Nat) (bad : Bool) (dp : Int) (c1 : Entry) (l : List (List AV)) (σ' : Store), f' 2 = .ptr (σ.length + 1) 0 →
      BraceR σ id text depth deepest (alts n (text.drop at_)) (.agg [.int .i64 4, .int .u8 0, .lst [], .lst l, .str []]) (σ.set id (PV text k' bad depth dp)) →
      σ' = σ.set id (PV text k' bad (depth + 1) dp) ++ .var 358 [.ptr id 0] :: .var 366 [.int .i64 4, .int .u8 0, .nils, rowV (σ.length + 3) l, .str []] :: c1 :: rowE 280 1 l true →
      edp Tryz.prog n_glob_parser_braces_1 [.ptr σ.length 0] (σ.set id (PV text at_ false depth deepest)) (BraceR σ id text depth deepest (alts n (text.drop at_))) (.mk _) a_glob_parser_braces.res f' tf σ' := by
    intro f' tf k' bad dp c1 l σ' hf2 hR hσ'
    subst hσ'
    refine edp_of hmix c_glob_parser_braces_1 rfl ?_
    have hw2 : IntKind.i64.wrap depth = depth := wrap_i64 (by omega) (by omega)
    simp [a_glob_parser_braces_1, g0, q0, PV, get_0, hw2]
    rw [set_app _ hid, set_app _ hid]
    refine er_set' id (PV text k' bad depth dp) (.tup []) (by simp [retAt]) rfl (PV_under _ _ _ _ _ _) ?_
    rw [← set_app _ hid]
    refine er_set id (PV text k' bad depth dp) (.agg [.int .i64 4, .int .u8 0, .lst [], .lst l, .str []]) (.var 358 [.ptr id 0] :: .var 366 [.int .i64 4, .int .u8 0, .nils, rowV (σ.length + 3) l, .str []] :: c1 :: rowE 280 1 l true) ?_ rfl (PV_under _ _ _ _ _ _) hR
    simp [retAt, a_glob_parser_braces, hf2, get_1, hfin]
  obtain ⟨m, rfl⟩ : ∃ j, m = j + 1 := ⟨m - 1, by omega⟩
  rw [alts_step] at halts
  have hset : ∀ e X, (σ ++ X).set id e = σ.set id e ++ X := fun e X => (set_app e hid).symm
  have hcall : ∀ (X : Store), ACalls Tryz.prog n_glob_parser_pieces [.ptr id 0] (σ.set id (PV text k false (depth + 1) (max deepest (depth + 1 + (d0 : Nat)))) ++ X) (fun r σ' => match pcs m (text.drop k) with
      | some (l, r', d) => r = .lst (encL l) ∧ σ' = σ.set id (PV text (text.length - r'.length) false (depth + 1) (max (max deepest (depth + 1 + (d0 : Nat))) (depth + 1 + (d : Nat)))) ++ X
      | none => ∃ els k dp, k ≤ text.length ∧ r = .lst els ∧ σ' = σ.set id (PV text k true (depth + 1) dp) ++ X) := by
    intro X
    have := hP (text.length - k) (by omega) (σ ++ X) id text k (depth + 1) (max deepest (depth + 1 + (d0 : Nat))) m (by simp; omega) hk2 rfl h3 (by omega) (by omega) (by omega) (by omega)
    rw [hset] at this
    refine this.mono ?_
    intro r σ' h
    unfold PieceR at h
    cases hpc : pcs m (text.drop k) with
    | none =>
      rw [hpc] at h
      obtain ⟨els, k, dp, hk, hr, hs⟩ := h
      exact ⟨els, k, dp, hk, hr, by rw [hs, hset]⟩
    | some v =>
      rw [hpc] at h
      exact ⟨h.1, by rw [h.2, hset]⟩
  simp [h1', h2', h3', g0, q0, PV, get_0, get_1, set_0, set_1, get_2, set_2]
  refine ⟨?_, ?_⟩
  all_goals
    try simp [h1', h2', h3', g0, q0, PV, get_0, get_1, set_0, set_1, get_2, set_2]
    refine ac_eff (hcall _) ?_
    rintro r σ' hr
    cases hpc : pcs m (text.drop k) with
    | none =>
      rw [hpc] at hr
      obtain ⟨els, k', dp, hk', rfl, rfl⟩ := hr
      simp [h1', h2', h3', g0, q0, PV, get_0, get_1, set_0, set_1, get_2, set_2]
      refine hap els ?_
      simp [h1', h2', h3', g0, q0, PV, get_0, get_1, set_0, set_1, get_2, set_2]
      by_cases hlt : k' < text.length
      · obtain ⟨c, hc⟩ : ∃ c, text[k']? = some c := ⟨_, List.getElem?_eq_getElem hlt⟩
        refine ac_lent (peek_some text k' c _ _ _ hc) (.cons (coe_ptr (g0 _ _) (by simp) rfl) .nil) ?_
        rintro r rfl
        refine ⟨by simp, ?_⟩
        simp [h1', h2', h3', g0, q0, PV, get_0, get_1, set_0, set_1, get_2, set_2]
        refine hend k' true dp (.var 366 [.int .i64 4, .int .u8 0, .nils, rowV (σ.length + 3) (encA xs ++ [[.lst els]]), .str []]) (encA xs ++ [[.lst els]]) _ (by simp [h2']) ?_ rfl
        rw [halts, hpc]
        exact ⟨_, k', dp, hk', rfl, rfl⟩
      · refine ac_lent (peek_none text k' _ _ _ (by omega)) (.cons (coe_ptr (g0 _ _) (by simp) rfl) .nil) ?_
        rintro r rfl
        refine ⟨by simp, ?_⟩
        simp [h1', h2', h3', g0, q0, PV, get_0, get_1, set_0, set_1, get_2, set_2]
        refine hend k' true dp (.var 366 [.int .i64 4, .int .u8 0, .nils, rowV (σ.length + 3) (encA xs ++ [[.lst els]]), .str []]) (encA xs ++ [[.lst els]]) _ (by simp [h2']) ?_ rfl
        rw [halts, hpc]
        exact ⟨_, k', dp, hk', rfl, rfl⟩
    | some v =>
      obtain ⟨l, r', d⟩ := v
      rw [hpc] at hr
      obtain ⟨rfl, rfl⟩ := hr
      obtain ⟨hdr, hrl⟩ := pcs_drop hpc
      have hencA : encA xs ++ [[.lst (encL l)]] = encA (xs ++ [l]) := by simp [encA_map]
      have hmax : max (max deepest (depth + 1 + (d0 : Nat))) (depth + 1 + (d : Nat)) = max deepest (depth + 1 + (max d0 d : Nat)) := by omega
      rw [hpc] at halts
      simp only [Option.bind_some] at halts
      simp [h1', h2', h3', g0, q0, PV, get_0, get_1, set_0, set_1, get_2, set_2]
      refine hap (encL l) ?_
      rw [hencA]
      simp [h1', h2', h3', g0, q0, PV, get_0, get_1, set_0, set_1, get_2, set_2]
      cases r' with
      | nil =>
        refine ac_lent (peek_none text text.length _ _ _ (Nat.le_refl _)) (.cons (coe_ptr (g0 _ _) (by simp) rfl) .nil) ?_
        rintro r rfl
        refine ⟨by simp, ?_⟩
        simp [h1', h2', h3', g0, q0, PV, get_0, get_1, set_0, set_1, get_2, set_2]
        refine hend text.length true _ (.var 366 [.int .i64 4, .int .u8 0, .nils, rowV (σ.length + 3) (encA (xs ++ [l])), .str []]) (encA (xs ++ [l])) _ (by simp [h2']) ?_ rfl
        rw [halts]
        exact ⟨_, text.length, _, Nat.le_refl _, rfl, rfl⟩
      | cons c r' =>
        simp only [List.length_cons] at hdr hrl
        have hc : text[text.length - (r'.length + 1)]? = some c := by
          have := congrArg (fun l => l[0]?) hdr
          simpa using this
        have hk3 : text.length - (r'.length + 1) < text.length := by omega
        have hk4 : text.length - (r'.length + 1) + 1 = text.length - r'.length := by omega
        refine ac_lent (peek_some text (text.length - (r'.length + 1)) c _ _ _ hc) (.cons (coe_ptr (g0 _ _) (by simp) rfl) .nil) ?_
        rintro r rfl
        refine ⟨by simp, ?_⟩
        have hw3 : IntKind.i64.wrap (((text.length - (r'.length + 1) : Nat) : Int) + 1) = ((text.length - r'.length : Nat) : Int) := by rw [wrap_i64 (by omega) (by omega)]; omega
        simp [h1', h2', h3', g0, q0, PV, get_0, get_1, set_0, set_1, get_2, set_2, hw3]
        by_cases h125 : c = 125
        · have h125' : (c.toNat : Int) = 125 := by rw [h125]; rfl
          simp only [if_pos h125] at halts
          simp [h1', h2', h3', g0, q0, PV, get_0, get_1, set_0, set_1, get_2, set_2, h125']
          refine hend (text.length - r'.length) false _ (.var 366 [.int .i64 4, .int .u8 0, .nils, rowV (σ.length + 3) (encA (xs ++ [l])), .str []]) (encA (xs ++ [l])) _ (by simp [h2']) ?_ rfl
          rw [halts]
          refine ⟨by simp [Pc.enc, Pc.kind, Pc.low, Pc.rs, Pc.alts, Pc.text, encRg], ?_⟩
          have e : max deepest (depth + 1 + max (d0 : Int) (d : Int)) = max deepest (depth + (max d0 d + 1 : Nat)) := by omega
          rw [e]
        · have h125' : ¬ (c.toNat : Int) = 125 := fun hx => h125 (UInt8.toNat_inj.1 (show c.toNat = 125 by omega))
          simp only [if_neg h125] at halts
          simp [h1', h2', h3', g0, q0, PV, get_0, get_1, set_0, set_1, get_2, set_2, h125']
          refine nx_intro (text.length - (text.length - r'.length)) (by omega) ⟨text.length - r'.length, xs ++ [l], max d0 d, m, rfl, by omega, by omega, by omega, by simp; omega, ?_, by simp [h1'], by simp [h2'], by simp [h3'], ?_⟩
          · have hdr2 : text.drop (text.length - r'.length) = r' := by
              have := congrArg (List.drop 1) hdr
              rw [List.drop_drop, hk4] at this
              simpa using this
            rw [halts, hdr2]
            cases alts m r' <;> simp [Nat.max_assoc]
          · have e : ((max d0 d : Nat) : Int) = max (d0 : Int) (d : Int) := by omega
            rw [e]
end Go.Proofs.YtigkchpjpdbodaaGreatDoor
end
section
namespace Go.Proofs.YtigkchpjpdbodaaGreatDoor
open Go.Abs Go.Glob
variable {G : Globs}
def PInv (σ : Store) (id : Nat) (text : List UInt8) (at_ : Nat) (depth deepest : Int) (n : Nat) (x : Nat) (f : Abs.Frame) (σ' : Store) : Prop :=
  ∃ (k : Nat) (bad : Bool) (dp : Int) (acc : List (List AV)), x = (if bad then 0 else text.length - k + 1) ∧ k ≤ text.length ∧ (∀ c ∈ acc, c.length = 5) ∧
    (bad = true → pcs n (text.drop at_) = none) ∧
    (bad = false → at_ ≤ k ∧ acc.length ≤ k ∧ ∃ (ps : List Pc) (d0 m : Nat), acc = encL ps ∧ 2 * (text.length - k) + 1 ≤ m ∧ dp = max deepest (depth + (d0 : Nat)) ∧ pcs n (text.drop at_) = ((pcs m (text.drop k)).map fun y => (ps ++ y.1, y.2.1, max d0 y.2.2))) ∧
    f 0 = .ptr id 0 ∧ f 2 = .nils ∧ f 3 = rowV σ.length acc ∧ σ' = σ.set id (PV text k bad depth dp) ++ rowE 366 5 acc true
theorem pieces_of (L : Nat) (hB : ∀ L', L' < L → BracesAt L') : PiecesAt L := by
  intro σ id text at_ depth deepest n hid h1 hL h3 hd0 hdm hdd hn
  refine acalls_of_awp_e hmix c_glob_parser_pieces rfl ?_
  have g0 := @set_get σ id hid
  have g00 := @set_get' σ id hid
  have q0 := @set_set σ id hid
  have hset : ∀ e X, (σ ++ X).set id e = σ.set id e ++ X := fun e X => (set_app e hid).symm
  simp [a_glob_parser_pieces]
  refine lp_startx (PInv σ id text at_ depth deepest n) (text.length - at_ + 1) ?_ ?_
  · refine ⟨at_, false, deepest, [], by simp, h1, by simp, by simp, fun _ => ⟨Nat.le_refl _, by simp, [], 0, n, by simp [encL], hn, by omega, by simp⟩, by simp, by simp, by simp [rowV], by simp [rowE]⟩
  rintro x f σ' ⟨k, bad, dp, acc, rfl, hk2, h5, hbad, hgood, h0, h2, h3', rfl⟩
  have hend : ∀ {f' : Abs.Frame} {tf : Tg f'} (σ' : Store), f' 2 = rowV σ.length acc → PieceR σ id text depth deepest (pcs n (text.drop at_)) (.lst acc) (σ.set id (PV text k bad depth dp)) → σ' = σ.set id (PV text k bad depth dp) ++ rowE 366 5 acc true →
      er (σ.set id (PV text at_ false depth deepest)) (PieceR σ id text depth deepest (pcs n (text.drop at_))) (.mk _) a_glob_parser_pieces.res f' tf σ' := by
    intro f' tf σ' hf hR hσ'
    subst hσ'
    refine er_set id (PV text k bad depth dp) (.lst acc) (rowE 366 5 acc true) ?_ rfl (PV_under _ _ _ _ _ _) hR
    have : fin1 (σ.set id (PV text k bad depth dp) ++ rowE 366 5 acc true) σ.length (rowV σ.length acc) = some (.lst acc) := fin1_acc_at (by simp)
    simp [retAt, a_glob_parser_pieces, hf, this]
  simp [h0, h2, g0, g00, q0, PV]
  cases bad with
  | true =>
    simp [h0, h2, g0, g00, q0, PV]
    refine hend _ (by simp [h3']) ?_ rfl
    rw [hbad rfl]
    exact ⟨acc, k, dp, hk2, rfl, rfl⟩
  | false =>
    clear hbad
    obtain ⟨hk1, hal, ps, d0, m, hacc, hm, rfl, hpcs⟩ := hgood rfl
    clear hgood
    have hap : ∀ {K : AV → Store → Prop} {t : Tg K} {e : Entry} (y : List AV), y.length = 5 → K (rowV σ.length (acc ++ [y])) (σ.set id e ++ rowE 366 5 (acc ++ [y]) true) →
        ap K t (σ.set id e ++ rowE 366 5 acc true) 366 5 80 (rowV σ.length acc) (.lst [y]) := by
      intro K t e y hy hK
      exact ap_acc_at (by simp) acc [y] true (by omega) (by simpa using hy) (by simp) (by simp; omega) (by simp; omega) hK
    simp [h0, h2, g0, g00, q0, PV]
    obtain ⟨m, rfl⟩ : ∃ j, m = j + 1 := ⟨m - 1, by omega⟩
    by_cases hlt : k < text.length
    · obtain ⟨c, hc⟩ : ∃ c, text[k]? = some c := ⟨_, List.getElem?_eq_getElem hlt⟩
      have hd := drop_cons hc
      rw [hd] at hpcs
      refine ac_lent (peek_some text k c _ _ _ hc) (.cons (coe_ptr (g0 _ _) (by simp) rfl) .nil) ?_
      rintro r rfl
      refine ⟨by simp, ?_⟩
      have hwk : IntKind.i64.wrap ((k : Int) + 1) = (k : Int) + 1 := wrap_i64 (by omega) (by omega)
      have hcb : ∀ b : UInt8, ((c.toNat : Int) = (b.toNat : Int)) ↔ c = b := fun b => ⟨fun h => UInt8.toNat_inj.1 (by omega), fun h => by rw [h]⟩
      by_cases hst : c = 44 ∨ c = 125
      · rw [pcs_stop hst] at hpcs
        have hdone : PieceR σ id text depth deepest (pcs n (text.drop at_)) (.lst acc) (σ.set id (PV text k false depth (max deepest (depth + (d0 : Nat))))) := by
          rw [hpcs]
          have e : text.length - (c :: text.drop (k + 1)).length = k := by simp; omega
          refine ⟨by simp [hacc], ?_⟩
          simp only [e]
          simp
        rcases hst with rfl | rfl
        · simp [h0, h2, g0, g00, q0, PV]
          exact hend _ (by simp [h3']) hdone rfl
        · simp [h0, h2, g0, g00, q0, PV]
          exact hend _ (by simp [h3']) hdone rfl
      · have hn1 : ¬ ((c.toNat : Int) = 44) := fun h => hst (.inl (UInt8.toNat_inj.1 (show c.toNat = 44 by omega)))
        have hn2 : ¬ ((c.toNat : Int) = 125) := fun h => hst (.inr (UInt8.toNat_inj.1 (show c.toNat = 125 by omega)))
        have hnext : ∀ {f' : Abs.Frame} {tf : Tg f'} {tI : Tg (PInv σ id text at_ depth deepest n)} {σ' : Store} (p : Pc) (k' d' : Nat), k + 1 ≤ k' → k' ≤ text.length →
            pcs n (text.drop at_) = ((pcs m (text.drop k')).map fun y => ((ps ++ [p]) ++ y.1, y.2.1, max (max d0 d') y.2.2)) → f' 0 = .ptr id 0 → f' 2 = .nils → f' 3 = rowV σ.length (acc ++ [p.enc]) →
            σ' = σ.set id (PV text k' false depth (max deepest (depth + (max d0 d' : Nat)))) ++ rowE 366 5 (acc ++ [p.enc]) true → nx (text.length - k + 1) (PInv σ id text at_ depth deepest n) tI f' tf σ' := by
          intro f' tf tI σ' p k' d' hk hk' hp hf0 hf2 hf3 hs
          refine nx_intro (text.length - k' + 1) (by simp; omega) ⟨k', false, _, acc ++ [p.enc], rfl, hk', ?_, nofun, fun _ => ⟨by omega, by simp; omega, ps ++ [p], max d0 d', m, by simp [encL_map, hacc], by omega, rfl, hp⟩, hf0, hf2, hf3, hs⟩
          intro x hx
          rcases List.mem_append.1 hx with hx | hx
          · exact h5 x hx
          · simp only [List.mem_singleton] at hx; subst hx; rfl
        have hstop : ∀ {f' : Abs.Frame} {tf : Tg f'} {tI : Tg (PInv σ id text at_ depth deepest n)} {σ' : Store} (k' : Nat) (dp : Int) (acc' : List (List AV)), k' ≤ text.length → (∀ c ∈ acc', c.length = 5) →
            pcs n (text.drop at_) = none → f' 0 = .ptr id 0 → f' 2 = .nils → f' 3 = rowV σ.length acc' →
            σ' = σ.set id (PV text k' true depth dp) ++ rowE 366 5 acc' true → nx (text.length - k + 1) (PInv σ id text at_ depth deepest n) tI f' tf σ' := by
          intro f' tf tI σ' k' dp acc' hk' h5' hp hf0 hf2 hf3 hs
          exact nx_intro 0 (by omega) ⟨k', true, dp, acc', rfl, hk', h5', fun _ => hp, nofun, hf0, hf2, hf3, hs⟩
        have h5a : ∀ y : List AV, y.length = 5 → ∀ c ∈ acc ++ [y], c.length = 5 := by
          intro y hy x hx
          rcases List.mem_append.1 hx with hx | hx
          · exact h5 x hx
          · simp only [List.mem_singleton] at hx; subst hx; exact hy
        clear hend
        by_cases c63 : c = 63
        · subst c63
          rw [pcs_q] at hpcs
          simp [h0, h2, h3', g0, g00, q0, PV, hwk, hn1, hn2]
          refine hap _ (by rfl) ?_
          simp [h0, h2, h3', g0, g00, q0, PV, hwk, hn1, hn2]
          refine hnext .q (k + 1) 0 (by omega) (by omega) ?_ (by simp [h0]) (by simp [h2]) (by simp [enc_q]) (by simp [PV, enc_q])
          rw [hpcs]; cases pcs m (text.drop (k + 1)) <;> simp
        by_cases c42 : c = 42
        · subst c42
          rw [pcs_star] at hpcs
          simp [h0, h2, h3', g0, g00, q0, PV, hwk, hn1, hn2]
          refine hap _ (by rfl) ?_
          simp [h0, h2, h3', g0, g00, q0, PV, hwk, hn1, hn2]
          refine hnext .star (k + 1) 0 (by omega) (by omega) ?_ (by simp [h0]) (by simp [h2]) (by simp [enc_star]) (by simp [PV, enc_star])
          rw [hpcs]; cases pcs m (text.drop (k + 1)) <;> simp
        have n63 : ¬ ((c.toNat : Int) = 63) := fun h => c63 (UInt8.toNat_inj.1 (show c.toNat = 63 by omega))
        have n42 : ¬ ((c.toNat : Int) = 42) := fun h => c42 (UInt8.toNat_inj.1 (show c.toNat = 42 by omega))
        by_cases c91 : c = 91
        · subst c91
          rw [pcs_cls] at hpcs
          simp [h0, h2, h3', g0, g00, q0, PV, hwk, hn1, hn2]
          have hcl := class_ok (G := G) (σ := σ ++ rowE 366 5 acc true) (id := id) (by simp; omega) text (k + 1) depth (max deepest (depth + (d0 : Nat))) (by omega) (by omega) h3 m (by omega)
          rw [hset] at hcl
          simp only [PV, Int.natCast_add, Int.cast_ofNat_Int] at hcl
          refine ac_eff hcl ?_
          rintro r σ' hr
          cases hc : cls m false (text.drop (k + 1)) with
          | none =>
            rw [hc] at hr
            obtain ⟨rs, k', hk', rfl, rfl⟩ := hr
            simp [h0, h2, h3', g0, g00, q0, PV, hwk, hn1, hn2, hset, enc_cls, n63, n42]
            refine hap _ (by rfl) ?_
            simp [h0, h2, h3', g0, g00, q0, PV, hwk, hn1, hn2, hset, enc_cls]
            refine hstop k' (max deepest (depth + (d0 : Nat))) (acc ++ [(Pc.cls rs []).enc]) hk' (h5a _ rfl) ?_ (by simp [h0]) (by simp [h2]) (by simp [enc_cls]) (by simp [PV, enc_cls])
            rw [hpcs, hc]; rfl
          | some v =>
            obtain ⟨rs, r'⟩ := v
            rw [hc] at hr hpcs
            obtain ⟨rfl, rfl⟩ := hr
            obtain ⟨hdr, hrl⟩ := cls_drop hc
            simp [h0, h2, h3', g0, g00, q0, PV, hwk, hn1, hn2, hset, enc_cls, n63, n42]
            refine hap _ (by rfl) ?_
            simp [h0, h2, h3', g0, g00, q0, PV, hwk, hn1, hn2, hset, enc_cls]
            refine hnext (.cls rs ((text.drop k).take (text.length - (k + 1) + 1 - r'.length))) (text.length - r'.length) 0 (by omega) (by omega) ?_ (by simp [h0]) (by simp [h2]) (by simp [enc_cls]) (by simp [PV, enc_cls])
            rw [hpcs, hdr]
            simp only [Option.bind_some, List.length_drop]
            rw [← hd]
            cases pcs m r' <;> simp
        have n91 : ¬ ((c.toNat : Int) = 91) := fun h => c91 (UInt8.toNat_inj.1 (show c.toNat = 91 by omega))
        by_cases c123 : c = 123
        · subst c123
          rw [pcs_br] at hpcs
          simp [h0, h2, h3', g0, g00, q0, PV, hwk, hn1, hn2, hset]
          have hcl := hB (text.length - (k + 1)) (by omega) (σ ++ rowE 366 5 acc true) id text (k + 1) depth (max deepest (depth + (d0 : Nat))) m (by simp; omega) (by omega) rfl h3 hd0 (by omega) (by omega) (by omega)
          rw [hset] at hcl
          simp only [PV, Int.natCast_add, Int.cast_ofNat_Int] at hcl
          refine ac_eff hcl ?_
          rintro r σ' hr
          unfold BraceR at hr
          cases hc : alts m (text.drop (k + 1)) with
          | none =>
            rw [hc] at hr
            obtain ⟨els, k', dp, hk', rfl, rfl⟩ := hr
            simp [h0, h2, h3', g0, g00, q0, PV, hwk, hn1, hn2, hset]
            refine hap _ (by rfl) ?_
            simp [h0, h2, h3', g0, g00, q0, PV, hwk, hn1, hn2, hset]
            refine hstop k' dp (acc ++ [[.int .i64 4, .int .u8 0, .lst [], .lst els, .str []]]) hk' (h5a _ rfl) ?_ (by simp [h0]) (by simp [h2]) (by simp) (by simp [PV])
            rw [hpcs, hc]; rfl
          | some v =>
            obtain ⟨xs, r', d⟩ := v
            rw [hc] at hr hpcs
            obtain ⟨rfl, rfl⟩ := hr
            obtain ⟨hdr, hrl⟩ := alts_drop hc
            simp [h0, h2, h3', g0, g00, q0, PV, hwk, hn1, hn2, hset, enc_br, hset]
            refine hap _ (by rfl) ?_
            simp [h0, h2, h3', g0, g00, q0, PV, hwk, hn1, hn2, hset, enc_br]
            refine hnext (.br xs) (text.length - r'.length) (d + 1) (by omega) (by omega) ?_ (by simp [h0]) (by simp [h2]) (by simp [enc_br]) ?_
            · rw [hpcs, hdr]
              simp only [Option.bind_some]
              cases pcs m r' <;> simp [Nat.max_assoc]
            · have e : max (max deepest (depth + (d0 : Int))) (depth + ((d : Int) + 1)) = max deepest (depth + max (d0 : Int) ((d : Int) + 1)) := by omega
              have e2 : ((max d0 (d + 1) : Nat) : Int) = max (d0 : Int) ((d : Int) + 1) := by omega
              simp [PV, enc_br, e, e2]
        have n123 : ¬ ((c.toNat : Int) = 123) := fun h => c123 (UInt8.toNat_inj.1 (show c.toNat = 123 by omega))
        simp [h0, h2, h3', g0, g00, q0, PV, hwk, hn1, hn2, n63, n42, n91, n123]
        refine ac_same (byte_ok c) (by simp) ?_
        rintro r rfl
        by_cases hnb : nb c = true
        · rw [pcs_lit hnb] at hpcs
          have hck : List.drop k (List.take (k + 1) text) = [c] := by
            rw [List.drop_take, hd]; simp
          have hw0 : IntKind.i64.wrap (k : Int) = k := wrap_i64 (by omega) (by omega)
          have f1 : (0 : Int) ≤ (k : Int) + 1 := by omega
          have f3 : k + 1 ≤ text.length := by omega
          simp [h0, h2, h3', g0, g00, q0, PV, hwk, hn1, hn2, hnb, hw0, f1, f3, hck]
          refine hap _ (by rfl) ?_
          simp [h0, h2, h3', g0, g00, q0, PV, hwk, hn1, hn2]
          refine hnext (.lit c) (k + 1) 0 (by omega) (by omega) ?_ (by simp [h0]) (by simp [h2]) (by simp [enc_lit]) (by simp [PV, enc_lit])
          rw [hpcs]; cases pcs m (text.drop (k + 1)) <;> simp
        · simp only [Bool.not_eq_true] at hnb
          rw [pcs_no hst c63 c42 c91 c123 hnb] at hpcs
          simp [h0, h2, h3', g0, g00, q0, PV, hwk, hn1, hn2, hnb]
          exact hstop (k + 1) (max deepest (depth + (d0 : Nat))) acc (by omega) h5 hpcs (by simp [h0]) (by simp [h2]) (by simp [h3']) (by simp [PV])
    · refine ac_lent (peek_none text k _ _ _ (by omega)) (.cons (coe_ptr (g0 _ _) (by simp) rfl) .nil) ?_
      rintro r rfl
      refine ⟨by simp, ?_⟩
      simp [h0, h2, g0, g00, q0, PV]
      refine hend _ (by simp [h3']) ?_ rfl
      rw [List.drop_eq_nil_of_le (show text.length ≤ k by omega), pcs_end] at hpcs
      rw [hpcs]
      have e : text.length = k := by omega
      refine ⟨by simp [hacc], ?_⟩
      simp [e]
theorem pieces_ok : ∀ L, PiecesAt L := by
  intro L
  induction L using Nat.strongRecOn with
  | _ L ih => exact pieces_of L fun L' hL' => braces_of L' fun L'' hL'' => ih L'' (by omega)
end Go.Proofs.YtigkchpjpdbodaaGreatDoor
end
section
namespace Go.Abs
open Go.RowKit Go.Proofs Go.Shelf
variable {G : Globs}
section
variable {P : Program} {ρ : Ren} {σ : Store}
end
end Go.Abs
end
section
namespace Go.Proofs.YtigkchpjpdbodaaGreatDoor
open Go.Abs Go.Glob
variable {G : Globs}
def parseAV (x : Except Nat (List Pc)) : AV := match x with
  | .error e => .tup [.lst [], .int .i64 e]
  | .ok l => .tup [.lst (encL l), .int .i64 0]
theorem parse_ok_walk (s : List UInt8) (hs : s.length ≤ 9223372036854775807) : PCalls Tryz.prog n_glob_parse [.str s] (fun r => r = parseAV (parse s)) := by
  refine pcalls_of_awp hmix c_glob_parse rfl ?_
  simp [a_glob_parse]
  by_cases h128 : 128 < s.length
  · have h128' : (128 : Int) < s.length := by omega
    simp [h128, h128', parse, parseAV]
  · have h128' : ¬ (128 : Int) < s.length := by omega
    simp [h128, h128']
    have hP := pieces_ok (G := G) (s.length - 0) [PV s 0 false 0 0] 0 s 0 0 0 (2 * s.length + 2) (by simp) (by omega) rfl (by omega) (by omega) (by omega) (by omega) (by omega)
    simp only [List.set_cons_zero, List.drop_zero] at hP
    have hP' := hP
    simp only [PV] at hP'
    refine ac_eff hP' ?_
    rintro r σ' hr
    unfold PieceR at hr
    unfold parse
    rw [if_neg h128]
    cases hp : pcs (2 * s.length + 2) s with
    | none =>
      rw [hp] at hr
      obtain ⟨els, k, dp, hk, rfl, rfl⟩ := hr
      simp [PV, parseAV]
    | some v =>
      obtain ⟨l, r', d⟩ := v
      rw [hp] at hr
      obtain ⟨rfl, rfl⟩ := hr
      simp [PV]
      have hsz := (pcs_size _).1 _ _ _ _ hp
      have hrl : r'.length ≤ s.length := by omega
      by_cases h0 : s = []
      · simp [h0, parseAV]
      have h0' : s ≠ [] := h0
      by_cases hr0 : r' = []
      · subst hr0
        simp [h0]
        by_cases hd : 4 < d
        · have hd' : (4 : Int) < (d : Int) := by omega
          simp [h0, hd, hd', parseAV]
        · have hd' : ¬ (4 : Int) < (d : Int) := by omega
          simp [hd, hd']
          refine ac_same (count_ok (szL l) l (Nat.le_refl _) (by omega)) (by simp) ?_
          rintro r rfl
          by_cases hc : 64 < cnt 1 l
          · have hc' : (64 : Int) < (cnt 1 l : Nat) := by omega
            simp [h0, hd, hc, hc', parseAV]
          · have hc' : ¬ (64 : Int) < (cnt 1 l : Nat) := by omega
            simp [h0, hd, hc, hc', parseAV]
      · have hl : 0 < r'.length := List.length_pos_iff.2 hr0
        have hlt : s.length - r'.length < s.length := by omega
        simp [h0, hr0, hlt, parseAV]
theorem view_more {σ t : Store} {x : AV} {m : List (List AV)} (h : view σ x = some m) : view (σ ++ t) x = some m := by
  cases x <;> simp only [view] at h ⊢ <;> try exact h
  all_goals
    split at h
    · rename_i he
      have hlt := (List.getElem?_eq_some_iff.1 he).1
      rw [List.getElem?_append_left hlt, he]
      exact h
    · cases h
end Go.Proofs.YtigkchpjpdbodaaGreatDoor
end
section
namespace Go.Proofs.YtigkchpjpdbodaaGreatDoor
open Go.Abs Go.Glob
variable {G : Globs}
/-- Rows that lie each for itself. -/
structure RowsAt (σ : Store) (els : List (List AV)) (out : List (List Pc)) : Prop where
  len : els.length = out.length
  at_ : ∀ (j : Nat) (o : List Pc), out[j]? = some o → (els[j]? = some [.nils] ∧ o = []) ∨ ∃ id, els[j]? = some [.row id o.length] ∧ σ[id]? = some (.row 366 5 (encL o) true)
  dist : ∀ (i j id n m : Nat), els[i]? = some [.row id n] → els[j]? = some [.row id m] → i = j
theorem RowsAt.mono {σ σ' : Store} {els : List (List AV)} {out : List (List Pc)} (h : RowsAt σ els out) (hk : ∀ (id : Nat) (l : List (List AV)), σ[id]? = some (.row 366 5 l true) → σ'[id]? = some (.row 366 5 l true)) : RowsAt σ' els out :=
  ⟨h.len, fun j o ho => (h.at_ j o ho).imp id fun ⟨id, h1, h2⟩ => ⟨id, h1, hk _ _ h2⟩, h.dist⟩
theorem RowsAt.nil (σ : Store) : RowsAt σ [] [] := ⟨rfl, fun j o h => by simp at h, fun i j id n m h => by simp at h⟩
theorem RowsAt.ent {σ : Store} {els : List (List AV)} {out : List (List Pc)} (h : RowsAt σ els out) {i id n : Nat} (he : els[i]? = some [.row id n]) : ∃ o, out[i]? = some o ∧ n = o.length ∧ σ[id]? = some (.row 366 5 (encL o) true) := by
  have hlt := (List.getElem?_eq_some_iff.1 he).1
  have hlt' : i < out.length := by rw [← h.len]; exact hlt
  obtain ⟨o, ho⟩ : ∃ o, out[i]? = some o := ⟨_, List.getElem?_eq_getElem hlt'⟩
  rcases h.at_ i o ho with ⟨h1, _⟩ | ⟨id', h1, h2⟩
  · rw [he] at h1; simp at h1
  · rw [he] at h1
    simp only [Option.some.injEq, List.cons.injEq, AV.row.injEq, and_true] at h1
    obtain ⟨rfl, rfl⟩ := h1
    exact ⟨o, ho, rfl, h2⟩
/-- One laid anew. -/
theorem RowsAt.put {σ σ' : Store} {els : List (List AV)} {out : List (List Pc)} (h : RowsAt σ els out) {j id : Nat} {o : List Pc} {n : Nat} (hj : j < out.length) (hn : n = o.length) (hid : σ'[id]? = some (.row 366 5 (encL o) true))
    (hother : ∀ (i : Nat) (id' n : Nat) (l : List (List AV)), i ≠ j → els[i]? = some [.row id' n] → σ[id']? = some (.row 366 5 l true) → id' ≠ id ∧ σ'[id']? = some (.row 366 5 l true)) : RowsAt σ' (els.set j [.row id n]) (out.set j o) := by
  subst hn
  have hl := h.len
  refine ⟨by simp [hl], fun i x hx => ?_, fun a b id' n m h1 h2 => ?_⟩
  · by_cases hij : i = j
    · subst hij
      rw [List.getElem?_set_self hj] at hx
      simp only [Option.some.injEq] at hx; subst hx
      rw [List.getElem?_set_self (by omega)]
      exact .inr ⟨id, rfl, hid⟩
    · rw [List.getElem?_set_ne (Ne.symm hij)] at hx ⊢
      rcases h.at_ i x hx with h1 | ⟨id', h1, h2⟩
      · exact .inl h1
      · exact .inr ⟨id', h1, (hother i id' _ _ hij h1 h2).2⟩
  · by_cases ha : a = j <;> by_cases hb : b = j
    · omega
    · subst ha
      rw [List.getElem?_set_self (by omega)] at h1
      rw [List.getElem?_set_ne (Ne.symm hb)] at h2
      simp at h1
      obtain ⟨o', _, _, h3⟩ := h.ent h2
      exact absurd h1.1.symm (hother b id' m _ hb h2 h3).1
    · subst hb
      rw [List.getElem?_set_self (by omega)] at h2
      rw [List.getElem?_set_ne (Ne.symm ha)] at h1
      simp at h2
      obtain ⟨o', _, _, h3⟩ := h.ent h1
      exact absurd h2.1.symm (hother a id' n _ ha h1 h3).1
    · rw [List.getElem?_set_ne (Ne.symm ha)] at h1
      rw [List.getElem?_set_ne (Ne.symm hb)] at h2
      exact h.dist _ _ _ _ _ h1 h2
theorem mapM_at {α β : Type} (f : α → Option β) : ∀ (l : List α) (m : List β), l.length = m.length → (∀ (j : Nat) (b : β), m[j]? = some b → ∃ a, l[j]? = some a ∧ f a = some b) → l.mapM f = some m
  | [], [], _, _ => rfl
  | [], _ :: _, h, _ => by simp at h
  | _ :: _, [], h, _ => by simp at h
  | a :: l, b :: m, h, hj => by
    rw [List.mapM_cons]
    obtain ⟨a', h1, h2⟩ := hj 0 b rfl
    simp at h1; subst h1
    have := mapM_at f l m (by simpa using h) (fun j x hx => by simpa using hj (j + 1) x (by simpa using hx))
    simp [h2, this]
theorem RowsAt.fz {σ : Store} {els : List (List AV)} {out : List (List Pc)} (h : RowsAt σ els out) (m k : Nat) : els.mapM (fun (c : List AV) => c.mapM (Abs.fz σ m (k + 1))) = some (encA out) := by
  refine mapM_at _ _ _ (by rw [h.len, encA_length]) fun j b hb => ?_
  rw [encA_map, List.getElem?_map] at hb
  obtain ⟨o, ho, rfl⟩ := Option.map_eq_some_iff.1 hb
  rcases h.at_ j o ho with ⟨h1, rfl⟩ | ⟨id, h1, h2⟩
  · exact ⟨_, h1, by simp [Abs.fz, encL]⟩
  · exact ⟨_, h1, by simp [Abs.fz, h2, encL_length]⟩
/-- The slice of what has come so far. -/
def Sl (σ₀ σ : Store) (v : AV) (els : List (List AV)) : Prop := (v = .nils ∧ els = []) ∨ ∃ id, σ₀.length ≤ id ∧ v = .row id els.length ∧ σ[id]? = some (.row 280 1 els false)
def Keep (σ₀ σ : Store) : Prop := ∀ (id : Nat) (e : Entry), σ₀[id]? = some e → σ[id]? = some e
theorem Keep.refl (σ : Store) : Keep σ σ := fun _ _ h => h
theorem Keep.more {σ₀ σ t : Store} (h : Keep σ₀ σ) : Keep σ₀ (σ ++ t) := fun id e he => by
  have := h id e he
  rw [List.getElem?_append_left (List.getElem?_eq_some_iff.1 this).1]; exact this
theorem Keep.set {σ₀ σ : Store} (h : Keep σ₀ σ) {id : Nat} (hid : σ₀.length ≤ id) (e : Entry) : Keep σ₀ (σ.set id e) := fun i x hx => by
  have hlt := (List.getElem?_eq_some_iff.1 hx).1
  rw [List.getElem?_set_ne (by omega)]; exact h i x hx
theorem Sl.more {σ₀ σ t : Store} {v : AV} {els : List (List AV)} (h : Sl σ₀ σ v els) : Sl σ₀ (σ ++ t) v els := by
  rcases h with h | ⟨id, h1, h2, h3⟩
  · exact .inl h
  · exact .inr ⟨id, h1, h2, by rw [List.getElem?_append_left (List.getElem?_eq_some_iff.1 h3).1]; exact h3⟩
end Go.Proofs.YtigkchpjpdbodaaGreatDoor
end
section
namespace Go.Proofs.YtigkchpjpdbodaaGreatDoor
open Go.Abs Go.Glob
variable {G : Globs}
end Go.Proofs.YtigkchpjpdbodaaGreatDoor
end
