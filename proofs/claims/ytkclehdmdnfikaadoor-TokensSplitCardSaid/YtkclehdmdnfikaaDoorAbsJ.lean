/- Abstract machine, part 10: all operations that only read, together. -/
import Derived.Test.YtkclehdmdnfikaaDoorAbsI
set_option linter.unusedSimpArgs false
set_option linter.unusedVariables false
set_option linter.constructorNameAsVariable false
namespace Go.Abs
open Go.RowKit
variable {G : Globs}
section
variable {P : Program} {κ : Key} {Im : Addr → Prop} {w : World}

theorem VR.add {b o n : Nat} : (⟨b, o, none⟩ : Addr).add n = ⟨b, o + n, none⟩ := Addr.add_mid b o n

theorem rptr_drop {l : List AV} {b o : Nat} {vals : Nat → Value} (hone : ∀ c ∈ l, c.one = true) (hc : ∀ j, j < l.length → Im ⟨b, o + j, none⟩ ∧ w.cell? ⟨b, o + j, none⟩ = some (vals j)) (hv : ∀ j (h : j < l.length), IR Im w (l[j]) (vals j)) (n : Nat) :
    IR Im w (.rptr (l.drop n)) (.pointer (some ⟨b, o + n, none⟩)) :=
  .rptr (l.drop n) b (o + n) (fun j => vals (n + j)) (fun c h => hone c (List.mem_of_mem_drop h))
    (fun j hj => by
      have := hc (n + j) (by simp at hj; omega)
      rw [show o + n + j = o + (n + j) from by omega]; exact this)
    (fun j hj => by rw [List.getElem_drop]; exact hv (n + j) (by simp at hj; omega))

theorem call_builtin {o : Oper} {a : Act} {b : Builtin} {c : Call} {f : Value} (ho : o.op = .call c) (hb : c.callee = .builtin b) (h : (builtin b c.argTypes o.type (c.args.map fun | .const _ => true | _ => false) (c.args.map a.eval)).run P w = .ok (.value f) w) :
    (execOp a.eval o).run P w = .ok (.value f) w := by
  simp only [execOp, ho, resolve, hb, Sem.run_bind, Sem.run_pure, Result.andThen_ok, invoke]
  exact h

theorem list_array {α : Type} {a : Array α} {l : List α} (h : a.toList = l) : a = l.toArray := by rw [← h]

theorem ok_builtin {o : Oper} {c : Call} {b : Builtin} {args : List Opd} {ao : AOp} {base : Nat} {σ : Store} {f : Frame} {a : Act} {r : AV} (ho : o.op = .call c) (hb : c.callee = .builtin b) (hargs : c.args.toList.mapM opd = some args)
    (hc : compBuiltin P b c.argTypes.toList args = some ao) (hs : SRel base κ Im σ w) (hf : FRel κ Im w f a) (h : pstep σ f ao = some r) : PureOK P κ Im w o a r := by
  have hv := opds_ok (κ := κ) (Im := Im) (w := w) hf hargs
  unfold compBuiltin at hc
  split at hc
  · rename_i t x hts
    have ht : c.argTypes = #[t] := list_array hts
    obtain ⟨u, hu⟩ : ∃ u, c.args.toList.map a.eval = [u] := by
      have := hv.1; simp only [List.length_map, List.length_cons, List.length_nil] at this
      match hq : c.args.toList.map a.eval, hv.1 with
      | [u], _ => exact ⟨u, rfl⟩
    rw [hu] at hv
    have hx : VR κ Im w (x.ev f) u := hv.2 0 (by simp) (by simp)
    have hargs' : c.args.map a.eval = #[u] := by apply list_array; simpa using hu
    split at hc
    · rename_i hty
      simp only [Option.some.injEq] at hc; subst hc
      simp only [pstep] at h
      split at h
      case h_2 => cases h
      rename_i l hl
      simp only [Option.some.injEq] at h; subst h
      rw [hl] at hx
      cases hx.str_inv
      refine ⟨.int .i64 l.length, call_builtin ho hb ?_, .im _ _ (.int _ _)⟩
      simp [builtin, Builtin.len_, ht, hargs', run_underlying hty, goInt]
      rfl
    · rename_i e hty
      simp only [Option.some.injEq] at hc; subst hc
      simp only [pstep, Option.map_eq_some_iff] at h
      obtain ⟨l, hl, rfl⟩ := h
      obtain ⟨b', cap, rfl, _⟩ := view_len hs hx hl
      refine ⟨.int .i64 l.length, call_builtin ho hb ?_, .im _ _ (.int _ _)⟩
      simp [builtin, Builtin.len_, ht, hargs', run_underlying hty, goInt]
    · rename_i n e hty
      simp only [Option.some.injEq] at hc; subst hc
      simp only [pstep, ev_c, Option.some.injEq] at h; subst h
      refine ⟨.int .i64 n, call_builtin ho hb ?_, .im _ _ (.int _ _)⟩
      simp [builtin, Builtin.len_, ht, hargs', run_underlying hty, goInt]
    · cases hc
  · rename_i t1 t2 x y hts
    simp only [Option.some.injEq] at hc; subst hc
    obtain ⟨u, v, hu⟩ : ∃ u v, c.args.toList.map a.eval = [u, v] := by
      match hq : c.args.toList.map a.eval, hv.1 with
      | [u, v], _ => exact ⟨u, v, rfl⟩
    rw [hu] at hv
    have hx : VR κ Im w (x.ev f) u := hv.2 0 (by simp) (by simp)
    have hy : VR κ Im w (y.ev f) v := hv.2 1 (by simp) (by simp)
    have hargs' : c.args.map a.eval = #[u, v] := by apply list_array; simpa using hu
    simp only [pstep] at h
    split at h
    case h_2 => cases h
    rename_i k p k' q hp hq
    split at h
    case isFalse => cases h
    rename_i hk; subst hk
    simp only [Option.some.injEq, Bool.false_eq_true, if_false] at h; subst h
    rw [hp] at hx; rw [hq] at hy
    cases hx.int_inv; cases hy.int_inv
    refine ⟨_, call_builtin ho hb ?_, .im _ _ (.int _ _)⟩
    simp [builtin, Builtin.min_, hargs', Builtin.min2]
  · rename_i t1 t2 x y hts
    simp only [Option.some.injEq] at hc; subst hc
    obtain ⟨u, v, hu⟩ : ∃ u v, c.args.toList.map a.eval = [u, v] := by
      match hq : c.args.toList.map a.eval, hv.1 with
      | [u, v], _ => exact ⟨u, v, rfl⟩
    rw [hu] at hv
    have hx : VR κ Im w (x.ev f) u := hv.2 0 (by simp) (by simp)
    have hy : VR κ Im w (y.ev f) v := hv.2 1 (by simp) (by simp)
    have hargs' : c.args.map a.eval = #[u, v] := by apply list_array; simpa using hu
    simp only [pstep] at h
    split at h
    case h_2 => cases h
    rename_i k p k' q hp hq
    split at h
    case isFalse => cases h
    rename_i hk; subst hk
    simp only [Option.some.injEq, if_true] at h; subst h
    rw [hp] at hx; rw [hq] at hy
    cases hx.int_inv; cases hy.int_inv
    refine ⟨_, call_builtin ho hb ?_, .im _ _ (.int _ _)⟩
    simp [builtin, Builtin.max_, hargs', Builtin.max2]
  · (repeat' (split at hc)) <;> first
      | (cases hc; done)
      | (simp only [Option.some.injEq] at hc; subst hc; simp [pstep] at h)
  · cases hc

theorem pstep0_ok {o : Oper} {ao : AOp} {base : Nat} {σ : Store} {f : Frame} {a : Act} {r : AV} (hc : compOp0 P o = some ao) (hs : SRel base κ Im σ w) (hf : FRel κ Im w f a) (h : pstep σ f ao = some r) : PureOK P κ Im w o a r := by
  unfold compOp0 at hc
  split at hc
  case h_1 x ho | h_2 x ho => -- move, assign
    simp only [Option.map_eq_some_iff] at hc
    obtain ⟨x', hx, rfl⟩ := hc
    simp only [pstep, Option.some.injEq] at h; subst h
    exact ⟨_, by simp [execOp, ho], opd_ok hx hf⟩
  case h_3 c p q ho => -- pick
    simp only [Option.bind_eq_bind, Option.bind_eq_some_iff, Option.pure_def, Option.some.injEq] at hc
    obtain ⟨c', hc', p', hp, q', hq, rfl⟩ := hc
    simp only [pstep] at h
    split at h
    case h_2 => cases h
    rename_i b hb
    simp only [Option.some.injEq] at h; subst h
    have := opd_ok hc' hf
    rw [hb] at this
    have hcv := this.bool_inv
    refine ⟨if b then a.eval p else a.eval q, ?_, ?_⟩
    · simp [execOp, ho, hcv, asBool]
    · cases b
      · exact opd_ok hq hf
      · exact opd_ok hp hf
  case h_4 => simp only [Option.bind_eq_bind, Option.bind_eq_some_iff, Option.map_eq_some_iff, Option.pure_def, Option.some.injEq] at hc; obtain ⟨_, _, rfl⟩ := hc; simp [pstep] at h
  case h_5 => simp only [Option.bind_eq_bind, Option.bind_eq_some_iff, Option.map_eq_some_iff, Option.pure_def, Option.some.injEq] at hc; obtain ⟨_, _, rfl⟩ := hc; simp [pstep] at h
  case h_6 t parts ho => -- build
    split at hc
    · rename_i fs hu
      simp only [Option.bind_eq_bind, Option.bind_eq_some_iff, Option.map_eq_some_iff, Option.pure_def, Option.some.injEq] at hc
      obtain ⟨z, hz, pl, hpl, ps, hps, rfl⟩ := hc
      exact ok_build ho hz hps (fun zv hzv l cells hfl => by
        simp only [Option.bind_eq_some_iff] at hzv
        obtain ⟨i, hi, hiz⟩ := hzv
        simp only [Program.built, hi, hu, hiz, hpl]
        exact hfl) hf h
    · rename_i n e hu
      simp only [Option.bind_eq_bind, Option.bind_eq_some_iff, Option.map_eq_some_iff, Option.pure_def, Option.some.injEq] at hc
      obtain ⟨z, hz, sz, hsz, ps, hps, rfl⟩ := hc
      obtain ⟨ie, hie, rfl⟩ := sizeOf?_ok hsz
      exact ok_build ho hz hps (fun zv hzv l cells hfl => by
        simp only [Option.bind_eq_some_iff] at hzv
        obtain ⟨i, hi, hiz⟩ := hzv
        simp only [Program.built, hi, hu, hiz, hie]
        exact hfl) hf h
    · cases hc
  case h_7 =>
    split at hc
    · simp only [Option.bind_eq_bind, Option.bind_eq_some_iff, Option.pure_def] at hc
      obtain ⟨_, _, _, _, hc⟩ := hc
      split at hc
      · simp only [Option.bind_eq_some_iff, Option.some.injEq] at hc
        obtain ⟨_, _, rfl⟩ := hc; simp [pstep] at h
      · cases hc
    · cases hc
  case h_8 t x ho => -- load
    simp only [Option.bind_eq_bind, Option.bind_eq_some_iff, Option.map_eq_some_iff, Option.pure_def, Option.some.injEq] at hc
    obtain ⟨ag, ha, size, hsz, x', hx, rfl⟩ := hc
    exact ok_load ho ha hsz hx hs hf h
  case h_9 => simp only [Option.bind_eq_bind, Option.bind_eq_some_iff, Option.map_eq_some_iff, Option.pure_def, Option.some.injEq] at hc; obtain ⟨_, _, _, _, _, _, rfl⟩ := hc; simp [pstep] at h
  case h_10 x ho => -- nilCheck
    simp only [Option.bind_eq_bind, Option.bind_eq_some_iff, Option.map_eq_some_iff, Option.pure_def, Option.some.injEq] at hc
    obtain ⟨x', hx, rfl⟩ := hc
    have hv := opd_ok (κ := κ) (Im := Im) (w := w) hx hf
    simp only [pstep] at h
    split at h
    · rename_i id off he
      simp only [Option.some.injEq] at h; subst h
      rw [he] at hv
      obtain ⟨b, hb, _⟩ := hv.ptr_inv
      exact ⟨a.eval x, by simp [execOp, ho, hb], hv⟩
    · rename_i l he
      simp only [Option.some.injEq] at h; subst h
      rw [he] at hv
      obtain ⟨b, o', vals, hb, _⟩ := hv.rptr_inv
      exact ⟨a.eval x, by simp [execOp, ho, hb], hv⟩
    · rename_i he
      simp only [Option.some.injEq] at h; subst h
      rw [he] at hv
      obtain ⟨b, cap, hb, _⟩ := hv.rowp_inv
      exact ⟨a.eval x, by simp [execOp, ho, hb], hv⟩
    · rename_i he
      simp only [Option.some.injEq] at h; subst h
      rw [he] at hv
      have hb := hv.gp_inv
      exact ⟨a.eval x, by simp [execOp, ho, hb], hv⟩
    · rename_i he
      simp only [Option.some.injEq] at h; subst h
      rw [he] at hv
      obtain ⟨vs, us, hb, _⟩ := hv.fn_inv
      exact ⟨a.eval x, by simp [execOp, ho, hb], hv⟩
    · cases h
  case h_11 op t x y yt ho => -- binOp
    have hbin : ∀ op' x' y', opd x = some x' → opd y = some y' → pstep σ f (.bin op' x' y') = some r → op' = op → PureOK P κ Im w o a r := by
      intro op' x' y' hx hy hp he
      subst he
      simp only [pstep] at hp
      obtain ⟨v, hv, hr⟩ := abin_ok (P := P) (t := t) (xo := x) (yo := y) (opd_ok hx hf) (opd_ok hy hf) hp
      refine ⟨v, ?_, hr⟩
      simp only [execOp, ho]
      rw [Sem.run_bind]
      simp only [hv, Result.andThen_ok, Sem.run_pure]
    have hbeq : ∀ neg x' y', P.underlying t = some .bool → opd x = some x' → opd y = some y' → pstep σ f (.beq neg x' y') = some r → (if neg then BinOp.neq else BinOp.eql) = op → PureOK P κ Im w o a r := by
      intro neg x' y' hu hx hy hp he
      have h1 := opd_ok (κ := κ) (Im := Im) (w := w) hx hf
      have h2 := opd_ok (κ := κ) (Im := Im) (w := w) hy hf
      simp only [pstep] at hp
      split at hp
      case h_2 => cases hp
      rename_i p q hp1 hq1
      rw [hp1] at h1; rw [hq1] at h2
      simp only [Option.some.injEq] at hp; subst hp
      have e1 := h1.bool_inv
      have e2 := h2.bool_inv
      refine ⟨_, ?_, .im _ _ (.bool _)⟩
      have hg : ∀ op, (eqGuard op t x y (.bool p) (.bool q)).run P w = .ok () w := by
        intro op
        unfold eqGuard; cases op <;> simp <;> rfl
      subst he
      cases neg
      · simp [execOp, ho, e1, e2, hg, binOp, run_equal_bool hu]
      · simp [execOp, ho, e1, e2, hg, binOp, run_equal_bool hu, bne]
    have heqs : ∀ neg ks x' y', flatKinds P t = some ks → opd x = some x' → opd y = some y' → pstep σ f (.eqs neg ks x' y') = some r → (if neg then BinOp.neq else BinOp.eql) = op → PureOK P κ Im w o a r := by
      intro neg ks x' y' hu hx hy hp he
      have h1 := opd_ok (κ := κ) (Im := Im) (w := w) hx hf
      have h2 := opd_ok (κ := κ) (Im := Im) (w := w) hy hf
      simp only [pstep] at hp
      split at hp
      case h_2 => cases hp
      rename_i p q hp1 hq1
      rw [hp1] at h1; rw [hq1] at h2
      simp only [Option.map_eq_some_iff] at hp
      obtain ⟨b, hb, rfl⟩ := hp
      obtain ⟨xs, e1, hxs, _⟩ := h1.agg_inv
      obtain ⟨ys, e2, hys, _⟩ := h2.agg_inv
      obtain ⟨h3, h4⟩ := run_eqs_ok hu hxs hys hb
      refine ⟨_, ?_, .im _ _ (.bool _)⟩
      subst he
      cases neg
      · simp [execOp, ho, e1, e2, h4, binOp, h3]
      · simp [execOp, ho, e1, e2, h4, binOp, h3]
    split at hc
    · rename_i hu
      split at hc
      · simp only [Option.bind_eq_bind, Option.bind_eq_some_iff, Option.pure_def, Option.some.injEq] at hc
        obtain ⟨x', hx, y', hy, rfl⟩ := hc
        exact hbeq false x' y' hu hx hy h rfl
      · simp only [Option.bind_eq_bind, Option.bind_eq_some_iff, Option.pure_def, Option.some.injEq] at hc
        obtain ⟨x', hx, y', hy, rfl⟩ := hc
        exact hbeq true x' y' hu hx hy h rfl
      · cases hc
    all_goals try (split at hc)
    all_goals first | (cases hc; done) | skip
    all_goals (simp only [Option.bind_eq_bind, Option.bind_eq_some_iff, Option.pure_def, Option.some.injEq] at hc)
    all_goals first
      | (obtain ⟨x', hx, y', hy, rfl⟩ := hc; exact hbin _ x' y' hx hy h rfl)
      | (obtain ⟨ks, hk, x', hx, y', hy, rfl⟩ := hc; first | exact heqs false ks x' y' hk hx hy h rfl | exact heqs true ks x' y' hk hx hy h rfl)
  case h_12 t x ho => -- not
    simp only [Option.bind_eq_bind, Option.bind_eq_some_iff, Option.map_eq_some_iff, Option.pure_def, Option.some.injEq] at hc
    obtain ⟨x', hx, rfl⟩ := hc
    have hv := opd_ok (κ := κ) (Im := Im) (w := w) hx hf
    simp only [pstep] at h
    split at h
    case h_2 => cases h
    rename_i b he
    rw [he] at hv
    have e := hv.bool_inv
    simp only [Option.some.injEq] at h; subst h
    exact ⟨_, by simp [execOp, ho, e, Op.unary], .im _ _ (.bool _)⟩
  case h_13 t x ho => -- neg
    simp only [Option.bind_eq_bind, Option.bind_eq_some_iff, Option.map_eq_some_iff, Option.pure_def, Option.some.injEq] at hc
    obtain ⟨x', hx, rfl⟩ := hc
    have hv := opd_ok (κ := κ) (Im := Im) (w := w) hx hf
    simp only [pstep] at h
    split at h
    case h_2 => cases h
    rename_i k n he
    rw [he] at hv
    have e := hv.int_inv
    simp only [Option.some.injEq] at h; subst h
    exact ⟨_, by simp [execOp, ho, e, Op.unary, Op.intArith], .im _ _ (.int _ _)⟩
  case h_14 s t x ho => -- convert
    split at hc
    case h_2 => cases hc
    rename_i k k' hu1 hu2
    simp only [Option.map_eq_some_iff] at hc
    obtain ⟨x', hx, rfl⟩ := hc
    have hv := opd_ok (κ := κ) (Im := Im) (w := w) hx hf
    simp only [pstep] at h
    split at h
    case h_2 => cases h
    rename_i k2 n he
    rw [he] at hv
    have e := hv.int_inv
    simp only [Option.some.injEq] at h; subst h
    exact ⟨_, by simp [execOp, ho, e, convert, run_underlying hu1, run_underlying hu2, Conv.intToInt], .im _ _ (.int _ _)⟩
  case h_15 t x ho => -- makeInterface
    split at hc
    · cases hc
    · rename_i d hni hu
      simp only [Option.map_eq_some_iff] at hc
      obtain ⟨x', hx, rfl⟩ := hc
      simp only [pstep, Option.some.injEq] at h; subst h
      refine ⟨.iface t (a.eval x), ?_, .iface _ _ _ (opd_ok hx hf)⟩
      have hcn : P.concrete t = true := by
        unfold Program.concrete
        rw [hu]
        cases d <;> first | rfl | exact absurd rfl (hni _)
      simp [execOp, ho, run_makeInterface w t _ hcn]
    · cases hc
  case h_16 fn first captured ho => -- makeFunc
    simp only [Option.bind_eq_bind, Option.bind_eq_some_iff, Option.map_eq_some_iff, Option.pure_def, Option.some.injEq] at hc
    obtain ⟨l, hl, m, hm, rfl⟩ := hc
    simp only [pstep, Option.some.injEq] at h; subst h
    have h1 := opds_ok (κ := κ) (Im := Im) (w := w) hf hl
    have h2 := opds_ok (κ := κ) (Im := Im) (w := w) hf hm
    refine ⟨.func fn (first.map a.eval) (captured.map a.eval), by simp [execOp, ho, Instr.makeFunc], ?_⟩
    have e1 : first.map a.eval = (first.toList.map a.eval).toArray := list_array (by rw [Array.toList_map])
    have e2 : captured.map a.eval = (captured.toList.map a.eval).toArray := list_array (by rw [Array.toList_map])
    rw [e1, e2]
    exact .fn _ _ _ _ _ h1.1 h2.1 h1.2 h2.2
  case h_17 => -- makeSlice
    split at hc
    · simp only [Option.bind_eq_bind, Option.bind_eq_some_iff, Option.pure_def] at hc
      obtain ⟨_, _, _, _, hc⟩ := hc
      split at hc
      · simp only [Option.bind_eq_some_iff, Option.some.injEq] at hc
        obtain ⟨_, _, _, _, rfl⟩ := hc; simp [pstep] at h
      · cases hc
    · cases hc
  case h_18 t x lo hi ho => -- slice
    split at hc
    · rename_i hu
      simp only [Option.bind_eq_bind, Option.bind_eq_some_iff, Option.pure_def, Option.some.injEq] at hc
      obtain ⟨x', hx, lo', hlo, hi', hhi, rfl⟩ := hc
      have hv := opd_ok (κ := κ) (Im := Im) (w := w) hx hf
      simp only [pstep] at h
      split at h
      case h_2 => cases h
      rename_i l he
      rw [he] at hv
      have e := hv.str_inv
      simp only [Option.bind_eq_some_iff, Option.map_eq_some_iff] at h
      obtain ⟨hh, hhb, ll, hlb, rfl⟩ := h
      obtain ⟨hb, hle1, hle2⟩ := run_sliceBounds_ok (P := P) (isSlice := false) (optOpd_ok (κ := κ) (Im := Im) (w := w) hf hlo) (optOpd_ok (κ := κ) (Im := Im) (w := w) hf hhi) (Nat.le_refl _) hhb hlb
      refine ⟨_, ?_, .im _ _ (.str _)⟩
      have hsz : (ByteArray.mk l.toArray).size = l.length := by simp [ByteArray.size]
      simp only [execOp, ho, e, Option.map_none, Instr.sliceAt, Sem.run_bind, run_underlying hu, Result.andThen_ok, Instr.slice, Option.isSome_none, Bool.false_eq_true, if_false, hsz, hb, Sem.run_pure, Sem.run_ite]
      congr 3
      ext1
      simp [ByteArray.data_extract, List.drop_take]
    · rename_i e hu
      simp only [Option.bind_eq_bind, Option.bind_eq_some_iff, Option.pure_def, Option.some.injEq] at hc
      obtain ⟨size, hsz, x', hx, lo', hlo, hi', hhi, rfl⟩ := hc
      have hv := opd_ok (κ := κ) (Im := Im) (w := w) hx hf
      have hlo' := optOpd_ok (κ := κ) (Im := Im) (w := w) hf hlo
      have hhi' := optOpd_ok (κ := κ) (Im := Im) (w := w) hf hhi
      simp only [pstep] at h
      split at h
      · rename_i he
        rw [he] at hv
        have ev := hv.nils_inv
        simp only [Option.bind_eq_some_iff, Option.map_eq_some_iff] at h
        obtain ⟨hh, hhb, ll, hlb, rfl⟩ := h
        obtain ⟨hb, hle1, hle2⟩ := run_sliceBounds_ok (P := P) (isSlice := true) hlo' hhi' (Nat.le_refl 0) hhb hlb
        refine ⟨.slice none 0 0, ?_, .im _ _ .nils⟩
        have := run_slice_list none 0 0 ll hh size hu hsz hb
        simp only [execOp, ho, ev, Option.map_none, Sem.run_bind, this, Result.andThen_ok, Sem.run_pure]
        have h0 : hh = 0 := by omega
        have h1 : ll = 0 := by omega
        simp [h0, h1]
      · rename_i l he
        rw [he] at hv
        split at h
        case isFalse => cases h
        rename_i hall
        simp only [Option.bind_eq_some_iff, Option.map_eq_some_iff] at h
        obtain ⟨hh, hhb, ll, hlb, rfl⟩ := h
        rcases hv.lst_inv with ⟨ev, rfl⟩ | ⟨size', b, o', cap, vals, ev, h1, h2, h3, h4, h5, h6⟩
        · obtain ⟨hb, hle1, hle2⟩ := run_sliceBounds_ok (P := P) (isSlice := true) hlo' hhi' (Nat.le_refl 0) hhb hlb
          refine ⟨.slice none 0 0, ?_, .im _ _ (by simpa using IR.lnil)⟩
          have := run_slice_list none 0 0 ll hh size hu hsz hb
          simp only [execOp, ho, ev, Option.map_none, Sem.run_bind, this, Result.andThen_ok, Sem.run_pure]
          have h0 : hh = 0 := by omega
          have h1 : ll = 0 := by omega
          simp [h0, h1]
        · obtain ⟨hb, hle1, hle2⟩ := run_sliceBounds_ok (P := P) (isSlice := true) hlo' hhi' h1 hhb hlb
          have hrun := run_slice_list (some ⟨b, o', none⟩) l.length cap ll hh size hu hsz hb
          refine ⟨_, by simp only [execOp, ho, ev, Option.map_none, Sem.run_bind, hrun, Result.andThen_ok, Sem.run_pure]; rfl, .im _ _ ?_⟩
          by_cases hl0 : l = []
          · subst hl0
            have h0 : hh = 0 := by simp at hle2; exact hle2
            have h1' : ll = 0 := by omega
            subst h0; subst h1'
            have := lst_part (w := w) (Im := Im) h1 h2 h3 h4 h5 h6 0 0 (Nat.le_refl _) (Nat.le_refl _)
            simpa using this
          · have hsz' : size' = size := by
              cases l with
              | nil => exact absurd rfl hl0
              | cons c l => rw [← h3 c (by simp), hall c (by simp)]
            subst hsz'
            exact lst_part h1 h2 h3 h4 h5 h6 ll hh hle1 hle2
      · rename_i id n he
        rw [he] at hv
        split at h
        case h_3 => cases h
        case h_2 =>
          rename_i e' size' els hent
          split at h
          case isFalse => cases h
          rename_i hcond
          obtain ⟨rfl, rfl, hpos⟩ := hcond
          simp only [Option.bind_eq_some_iff, Option.map_eq_some_iff] at h
          obtain ⟨hh, hhb, ll, hlb, rfl⟩ := h
          obtain ⟨g, cap, ev, hk⟩ := hv.row_inv
          obtain ⟨v', xs, hv', hown, _, _, hlen, _, _, _⟩ := hs.ent _ _ hent
          rw [ev] at hk
          rw [hk] at hv'; cases hv'
          rcases hown.2 with ⟨q1, q2⟩ | ⟨g', cap', cur, q1, _, _, hle, hmx, _⟩
          · omega
          · simp only [Value.slice.injEq] at q1
            obtain ⟨rfl, _, rfl⟩ := q1
            obtain ⟨hb, hle1, hle2⟩ := run_sliceBounds_ok (P := P) (isSlice := true) hlo' hhi' hle hhb hlb
            have hrun := run_slice_list (some ⟨g', 0, none⟩) els.length cap ll hh size' hu hsz hb
            refine ⟨_, by simp only [execOp, ho, ev, Option.map_none, Sem.run_bind, hrun, Result.andThen_ok, Sem.run_pure]; rfl, ?_⟩
            by_cases hcl : cap = ll
            · rw [if_pos hcl]
              exact .sub id els.length size' ll hh g' cap _ _ hk hle1 hle2 (fun h => by omega) (by omega) (by omega) rfl
            · rw [if_neg hcl]
              exact .sub id els.length size' ll hh g' cap _ _ hk hle1 hle2 (fun h => by simp [VR.add]) (by omega) (by omega) (by simp [VR.add])
        rename_i e' size' els hent
        split at h
        case isFalse => cases h
        rename_i hcond
        obtain ⟨rfl, rfl⟩ := hcond
        simp only [Option.bind_eq_some_iff, Option.map_eq_some_iff] at h
        obtain ⟨hh, hhb, ll, hlb, rfl⟩ := h
        obtain ⟨g, cap, ev, hk⟩ := hv.row_inv
        have hir := row_lst hs hent hk
        obtain ⟨v', xs, hv', hown, _, _, hlen, _, _, _⟩ := hs.ent _ _ hent
        rw [ev] at hir hk
        rw [hk] at hv'; cases hv'
        rcases (VR.im (κ := κ) _ _ hir).lst_inv with ⟨ev', he0⟩ | ⟨size2, b, o', cap2, vals, ev', h1, h2, h3, h4, h5, h6⟩
        · simp only [Value.slice.injEq] at ev'
          obtain ⟨rfl, _, rfl⟩ := ev'
          subst he0
          obtain ⟨hb, hle1, hle2⟩ := run_sliceBounds_ok (P := P) (isSlice := true) hlo' hhi' (Nat.le_refl 0) hhb hlb
          refine ⟨.slice none 0 0, ?_, .im _ _ (by simpa using IR.lnil)⟩
          have := run_slice_list none 0 0 ll hh size' hu hsz hb
          simp only [execOp, ho, ev, Option.map_none, Sem.run_bind, List.length_nil, this, Result.andThen_ok, Sem.run_pure]
          have h0 : hh = 0 := by omega
          have h1 : ll = 0 := by omega
          simp [h0, h1]
        · simp only [Value.slice.injEq] at ev'
          obtain ⟨rfl, _, rfl⟩ := ev'
          obtain ⟨hb, hle1, hle2⟩ := run_sliceBounds_ok (P := P) (isSlice := true) hlo' hhi' h1 hhb hlb
          have hrun := run_slice_list (some ⟨b, o', none⟩) els.length cap ll hh size' hu hsz hb
          refine ⟨_, by simp only [execOp, ho, ev, Option.map_none, Sem.run_bind, hrun, Result.andThen_ok, Sem.run_pure]; rfl, .im _ _ ?_⟩
          by_cases hl0 : els = []
          · subst hl0
            have h0 : hh = 0 := by simp at hle2; exact hle2
            have h1' : ll = 0 := by omega
            subst h0; subst h1'
            have := lst_part (w := w) (Im := Im) h1 h2 h3 h4 h5 h6 0 0 (Nat.le_refl _) (Nat.le_refl _)
            simpa using this
          · have hsz' : size2 = size' := by
              obtain ⟨c, hc⟩ := List.exists_mem_of_ne_nil _ hl0
              rw [← h3 c hc, hlen c hc]
            subst hsz'
            exact lst_part h1 h2 h3 h4 h5 h6 ll hh hle1 hle2
      · rename_i id n sz l0 h0 he
        rw [he] at hv
        split at h
        case isFalse => cases h
        rename_i hcond
        subst hcond
        simp only [Option.bind_eq_some_iff, Option.map_eq_some_iff] at h
        obtain ⟨hh, hhb, ll, hlb, rfl⟩ := h
        obtain ⟨b, cap, ad, c, ev, hk, k1, k2, k3, k4, k5, k6⟩ := hv.sub_inv
        obtain ⟨hb, hle1, hle2⟩ := run_sliceBounds_ok (P := P) (isSlice := true) hlo' hhi' k4 hhb hlb
        have hrun := run_slice_list (some ad) (h0 - l0) c ll hh sz hu hsz hb
        refine ⟨_, by simp only [execOp, ho, ev, Option.map_none, Sem.run_bind, hrun, Result.andThen_ok, Sem.run_pure]; rfl, ?_⟩
        rw [show hh - ll = l0 + hh - (l0 + ll) by omega]
        by_cases hcl : c = ll
        · rw [if_pos hcl]
          exact .sub id n sz (l0 + ll) (l0 + hh) b cap _ _ hk (by omega) (by omega) (fun h => by omega) (by omega) (by omega) k6
        · rw [if_neg hcl]
          refine .sub id n sz (l0 + ll) (l0 + hh) b cap _ _ hk (by omega) (by omega) (fun h => ?_) (by omega) (by omega) (by cases ad; simp only at k6; subst k6; simp [VR.add])
          rw [k3 (by omega), Nat.add_mul]; exact VR.add
      · rename_i id off n sz he
        rw [he] at hv
        split at h
        case isFalse => cases h
        rename_i hcond
        subst hcond
        simp only [Option.bind_eq_some_iff, Option.map_eq_some_iff] at h
        obtain ⟨hh, hhb, ll, hlb, rfl⟩ := h
        obtain ⟨b, ad, c, ev, hk, k3, k4, k5, k6⟩ := hv.asl_inv
        obtain ⟨hb, hle1, hle2⟩ := run_sliceBounds_ok (P := P) (isSlice := true) hlo' hhi' k4 hhb hlb
        have hrun := run_slice_list (some ad) n c ll hh sz hu hsz hb
        refine ⟨_, by simp only [execOp, ho, ev, Option.map_none, Sem.run_bind, hrun, Result.andThen_ok, Sem.run_pure]; rfl, ?_⟩
        by_cases hcl : c = ll
        · rw [if_pos hcl]
          exact .asl id (off + ll * sz) (hh - ll) sz b _ _ hk (fun h => by omega) (by omega) (by omega) k6
        · rw [if_neg hcl]
          refine .asl id (off + ll * sz) (hh - ll) sz b _ _ hk (fun h => ?_) (by omega) (by omega) (by cases ad; simp only at k6; subst k6; simp [VR.add])
          rw [k3 (by omega)]; exact VR.add
      · cases h
    · cases hc
  case h_19 t x i ho => -- fieldAddr
    split at hc
    case h_2 => cases hc
    rename_i fs hu
    simp only [Option.bind_eq_bind, Option.bind_eq_some_iff, Option.pure_def] at hc
    obtain ⟨fd, hfd, size, hsz, hc⟩ := hc
    split at hc
    case isTrue => cases hc
    rename_i hne
    simp only [Option.bind_eq_some_iff, Option.some.injEq] at hc
    obtain ⟨x', hx, rfl⟩ := hc
    have hv := opd_ok (κ := κ) (Im := Im) (w := w) hx hf
    have key : ∀ (b off : Nat), a.eval x = .pointer (some ⟨b, off, none⟩) → (execOp a.eval o).run P w = .ok (.value (.pointer (some ⟨b, off + fd.offset, none⟩))) w := by
      intro b off he
      simp [execOp, ho, he, Instr.fieldAt, run_underlying hu, hfd, Instr.sureAddr, fieldPlace, run_sizeOf? hsz, hne, VR.add]
    simp only [pstep] at h
    split at h
    · rename_i id off he
      simp only [Option.some.injEq] at h; subst h
      rw [he] at hv
      obtain ⟨b, hb, hk⟩ := hv.ptr_inv
      exact ⟨_, key _ _ hb, .ptr _ _ _ hk⟩
    · rename_i l he
      split at h
      case isFalse => cases h
      simp only [Option.some.injEq] at h; subst h
      rw [he] at hv
      obtain ⟨b, o', vals, hb, h1, h2, h3⟩ := hv.rptr_inv
      exact ⟨_, key _ _ hb, .im _ _ (rptr_drop h1 h2 h3 _)⟩
    · rename_i he
      simp only [Option.some.injEq] at h; subst h
      rw [he] at hv
      obtain ⟨b, cap, hb, hk⟩ := hv.rowp_inv
      refine ⟨_, key _ _ hb, ?_⟩
      rw [Nat.add_assoc]
      exact .rowp _ _ _ _ _ _ _ hk
    · rename_i g o' he
      simp only [Option.some.injEq] at h; subst h
      rw [he] at hv
      exact ⟨_, key _ _ hv.gp_inv, .im _ _ (.gp _ _)⟩
    · cases h
  case h_20 t x i ho => -- field
    split at hc
    case h_2 => cases hc
    rename_i fs hu
    simp only [Option.bind_eq_bind, Option.bind_eq_some_iff, Option.pure_def, Option.some.injEq] at hc
    obtain ⟨fd, hfd, size, hsz, ag, ha, x', hx, rfl⟩ := hc
    have hv := opd_ok (κ := κ) (Im := Im) (w := w) hx hf
    simp only [pstep] at h
    split at h
    case h_2 => cases h
    rename_i l he
    split at h
    case isFalse => cases h
    rw [he] at hv
    obtain ⟨vs, ev, hl, hone⟩ := hv.agg_inv
    obtain ⟨v, h1, h2⟩ := part_ok ha hsz hl hone h
    exact ⟨v, by simp [execOp, ho, ev, Instr.field, run_underlying hu, hfd, asAgg, h1], h2⟩
  case h_21 t x i ho => -- indexAddr
    split at hc
    · rename_i e hu
      simp only [Option.bind_eq_bind, Option.bind_eq_some_iff, Option.pure_def, Option.some.injEq] at hc
      obtain ⟨size, hsz, x', hx, i', hi, rfl⟩ := hc
      have hv := opd_ok (κ := κ) (Im := Im) (w := w) hx hf
      have hvi := opd_ok (κ := κ) (Im := Im) (w := w) hi hf
      have key : ∀ (b off : Nat) k (n len cap : Nat), a.eval x = .slice (some ⟨b, off, none⟩) len cap → a.eval i = .int k (n : Int) → n < len → (execOp a.eval o).run P w = .ok (.value (.pointer (some ⟨b, off + n * size, none⟩))) w := by
        intro b off k n len cap he hei hlt
        simp [execOp, ho, he, hei, Instr.indexAt, asIntOf, run_underlying hu, run_sizeOf? hsz, hlt, VR.add]
      simp only [pstep] at h
      split at h
      · rename_i n l hn he
        obtain ⟨k, hk⟩ := natOf_ok hvi hn
        rw [he] at hv
        simp only [Option.bind_eq_some_iff] at h
        obtain ⟨c, hcl, h⟩ := h
        split at h
        case isFalse => cases h
        rename_i hlen
        simp only [Option.some.injEq] at h; subst h
        obtain ⟨hlt, rfl⟩ := List.getElem?_eq_some_iff.1 hcl
        rcases hv.lst_inv with ⟨_, rfl⟩ | ⟨size', b, o', cap, vals, ev, h1, h2, h3, h4, h5, h6⟩
        · simp at hlt
        · have hsz' : size' = size := by rw [← h3 _ (List.getElem_mem hlt), hlen]
          subst hsz'
          refine ⟨_, key _ _ _ _ _ _ ev hk hlt, .im _ _ (.rptr _ _ _ (vals n) (fun c hc => h4 _ (List.getElem_mem hlt) c hc) (fun j hj => ?_) (fun j hj => h6 n j hlt hj))⟩
          have := h5 n j hlt (by omega)
          rw [Nat.add_assoc]; exact this
      · rename_i n id m hn he
        obtain ⟨k, hk⟩ := natOf_ok hvi hn
        rw [he] at hv
        split at h
        case h_2 => cases h
        rename_i e' size' els im hent
        split at h
        case isFalse => cases h
        rename_i hcond
        obtain ⟨rfl, rfl, hlt⟩ := hcond
        simp only [Option.some.injEq] at h; subst h
        obtain ⟨g, cap, ev, hkk⟩ := hv.row_inv
        obtain ⟨v', xs, hv', hown, _⟩ := hs.ent _ _ hent
        rw [ev] at hkk
        rw [hkk] at hv'; cases hv'
        rcases hown.2 with ⟨h1, h2⟩ | ⟨b, cap', cur, h1, _⟩
        · omega
        · simp only [Value.slice.injEq] at h1
          obtain ⟨rfl, _, rfl⟩ := h1
          have := key _ _ _ _ _ _ ev hk hlt
          rw [Nat.zero_add] at this
          exact ⟨_, this, by have := VR.rowp (κ := κ) (Im := Im) (w := w) id els.length size' n 0 b cap hkk; simpa using this⟩
      · rename_i n id m sz l0 h0 hn he
        obtain ⟨k, hk⟩ := natOf_ok hvi hn
        rw [he] at hv
        split at h
        case isFalse => cases h
        rename_i hcond
        obtain ⟨rfl, hlt⟩ := hcond
        simp only [Option.some.injEq] at h; subst h
        obtain ⟨b, cap, ad, c, ev, hkk, k1, k2, k3, k4, _⟩ := hv.sub_inv
        rw [k3 (by omega)] at ev
        have := key _ _ _ _ _ _ ev hk (by omega)
        rw [← Nat.add_mul] at this
        exact ⟨_, this, by have := VR.rowp (κ := κ) (Im := Im) (w := w) id m sz (l0 + n) 0 b cap hkk; simpa using this⟩
      · rename_i n id off m sz hn he
        obtain ⟨k, hk⟩ := natOf_ok hvi hn
        rw [he] at hv
        split at h
        case isFalse => cases h
        rename_i hcond
        obtain ⟨rfl, hlt⟩ := hcond
        simp only [Option.some.injEq] at h; subst h
        obtain ⟨b, ad, c, ev, hkk, k3, k4, _⟩ := hv.asl_inv
        rw [k3 (by omega)] at ev
        exact ⟨_, key _ _ _ _ _ _ ev hk hlt, .ptr _ _ _ hkk⟩
      · cases h
    · rename_i m e hu
      simp only [Option.bind_eq_bind, Option.bind_eq_some_iff, Option.pure_def, Option.some.injEq] at hc
      obtain ⟨size, hsz, x', hx, i', hi, rfl⟩ := hc
      have hv := opd_ok (κ := κ) (Im := Im) (w := w) hx hf
      have hvi := opd_ok (κ := κ) (Im := Im) (w := w) hi hf
      have key : ∀ (b off : Nat) k (n : Nat), a.eval x = .pointer (some ⟨b, off, none⟩) → a.eval i = .int k (n : Int) → n < m → (execOp a.eval o).run P w = .ok (.value (.pointer (some ⟨b, off + n * size, none⟩))) w := by
        intro b off k n he hei hlt
        simp [execOp, ho, he, hei, Instr.indexAt, Instr.sureAddr, asIntOf, run_underlying hu, run_sizeOf? hsz, hlt, VR.add]
      simp only [pstep] at h
      split at h
      · rename_i n id off hn he
        obtain ⟨k, hk⟩ := natOf_ok hvi hn
        split at h
        case isFalse => cases h
        rename_i hlt
        simp only [Option.some.injEq] at h; subst h
        rw [he] at hv
        obtain ⟨b, hb, hkk⟩ := hv.ptr_inv
        exact ⟨_, key _ _ _ _ hb hk hlt, .ptr _ _ _ hkk⟩
      · rename_i n l hn he
        obtain ⟨k, hk⟩ := natOf_ok hvi hn
        split at h
        case isFalse => cases h
        rename_i hlt
        simp only [Option.some.injEq] at h; subst h
        rw [he] at hv
        obtain ⟨b, o', vals, hb, h1, h2, h3⟩ := hv.rptr_inv
        exact ⟨_, key _ _ _ _ hb hk hlt.1, .im _ _ (rptr_drop h1 h2 h3 _)⟩
      · rename_i n id n' s' k' o' hn he
        obtain ⟨k, hk⟩ := natOf_ok hvi hn
        split at h
        case isFalse => cases h
        rename_i hlt
        simp only [Option.some.injEq] at h; subst h
        rw [he] at hv
        obtain ⟨b, cap, hb, hkk⟩ := hv.rowp_inv
        refine ⟨_, key _ _ _ _ hb hk hlt, ?_⟩
        rw [Nat.add_assoc]
        exact .rowp _ _ _ _ _ _ _ hkk
      · rename_i n g o' hn he
        obtain ⟨k, hk⟩ := natOf_ok hvi hn
        split at h
        case isFalse => cases h
        rename_i hlt
        simp only [Option.some.injEq] at h; subst h
        rw [he] at hv
        exact ⟨_, key _ _ _ _ hv.gp_inv hk hlt, .im _ _ (.gp _ _)⟩
      · cases h
    · cases hc
  case h_22 t x i ho => -- index
    split at hc
    · rename_i hu
      simp only [Option.bind_eq_bind, Option.bind_eq_some_iff, Option.pure_def, Option.some.injEq] at hc
      obtain ⟨x', hx, i', hi, rfl⟩ := hc
      have hv := opd_ok (κ := κ) (Im := Im) (w := w) hx hf
      have hvi := opd_ok (κ := κ) (Im := Im) (w := w) hi hf
      simp only [pstep] at h
      split at h
      case h_2 => cases h
      rename_i n l hn he
      obtain ⟨k, hk⟩ := natOf_ok hvi hn
      rw [he] at hv
      have ev := hv.str_inv
      simp only [Option.map_eq_some_iff] at h
      obtain ⟨c, hcl, rfl⟩ := h
      obtain ⟨hlt, rfl⟩ := List.getElem?_eq_some_iff.1 hcl
      refine ⟨_, ?_, .im _ _ (.int _ _)⟩
      have hb : (ByteArray.mk l.toArray)[n]? = some l[n] := by
        show (if h : n < (ByteArray.mk l.toArray).size then some _ else none) = _
        rw [dif_pos (by simpa [ByteArray.size] using hlt)]
        rfl
      simp [execOp, ho, ev, hk, Instr.index, asIntOf, run_underlying hu, hb]
    · rename_i m e hu
      simp only [Option.bind_eq_bind, Option.bind_eq_some_iff, Option.pure_def, Option.some.injEq] at hc
      obtain ⟨size, hsz, ag, ha, x', hx, i', hi, rfl⟩ := hc
      have hv := opd_ok (κ := κ) (Im := Im) (w := w) hx hf
      have hvi := opd_ok (κ := κ) (Im := Im) (w := w) hi hf
      simp only [pstep] at h
      split at h
      case h_2 => cases h
      rename_i n l hn he
      obtain ⟨k, hk⟩ := natOf_ok hvi hn
      split at h
      case isFalse => cases h
      rename_i hlt
      rw [he] at hv
      obtain ⟨vs, ev, hl, hone⟩ := hv.agg_inv
      obtain ⟨v, h1, h2⟩ := part_ok ha hsz hl hone h
      exact ⟨v, by simp [execOp, ho, ev, hk, Instr.index, asIntOf, run_underlying hu, hlt.1, run_sizeOf? hsz, h1], h2⟩
    · cases hc
  case h_23 x i ho => -- extract
    simp only [Option.bind_eq_bind, Option.bind_eq_some_iff, Option.pure_def, Option.some.injEq] at hc
    obtain ⟨x', hx, rfl⟩ := hc
    have hv := opd_ok (κ := κ) (Im := Im) (w := w) hx hf
    simp only [pstep] at h
    split at h
    case h_2 => cases h
    rename_i l he
    rw [he] at hv
    obtain ⟨vs, ev, hl⟩ := hv.tup_inv
    obtain ⟨u, hu, hur⟩ := hl.get? h
    exact ⟨u, by simp [execOp, ho, ev, Instr.extract, hu], hur⟩
  case h_24 c ho => -- call
    split at hc
    · split at hc
      · split at hc
        · simp only [Option.bind_eq_bind, Option.bind_eq_some_iff, Option.pure_def, Option.some.injEq] at hc
          obtain ⟨_, _, rfl⟩ := hc; simp [pstep] at h
        · cases hc
      · cases hc
    · simp only [Option.bind_eq_bind, Option.bind_eq_some_iff, Option.pure_def, Option.some.injEq] at hc
      obtain ⟨_, _, rfl⟩ := hc; simp [pstep] at h
    · rename_i b hb
      simp only [Option.bind_eq_bind, Option.bind_eq_some_iff] at hc
      obtain ⟨args, hargs, hc⟩ := hc
      exact ok_builtin ho hb hargs hc hs hf h
    · cases hc
  case h_25 => cases hc
end
end Go.Abs
