/- Abstract machine, part 14c: further operations do what the abstract ones say. -/
import Derived.Test.YtkclehdmdnfikaaDoorAbsX
set_option linter.unusedSimpArgs false
set_option linter.unusedVariables false
set_option linter.constructorNameAsVariable false
namespace Go.Abs
open Go.RowKit
variable {G : Globs}
section
variable {P : Program} {base : Nat} {κ : Key} {Im : Addr → Prop} {w : World} {σ : Store}

theorem bytesOf_ok : ∀ {l : List (List AV)} {s : List UInt8} {vs : List Value}, bytesOf l = some s → VRL κ Im w l.flatten vs → ∃ ns : List Int, vs = ns.map (Value.int .u8) ∧ ∀ r : ByteArray, ns.foldl (fun r n => r.push (UInt8.ofNat n.toNat)) r = ⟨(r.data.toList ++ s).toArray⟩
  | [], s, vs, h, hv => by
    simp only [bytesOf, Option.some.injEq] at h; subst h
    obtain rfl : vs = [] := List.eq_nil_of_length_eq_zero (by simpa using hv.1.symm)
    exact ⟨[], rfl, fun r => by cases r; simp⟩
  | c :: l, s, vs, h, hv => by
    unfold bytesOf at h
    split at h
    · rename_i heq; cases heq
    · rename_i n l' heq
      simp only [List.cons.injEq] at heq
      obtain ⟨rfl, rfl⟩ := heq
      simp only [Option.map_eq_some_iff] at h
      obtain ⟨s', hs', rfl⟩ := h
      match vs, hv with
      | [], hv => simp [VRL] at hv
      | v :: vs, hv =>
        have h0 := hv.2 0 (by simp) (by simp)
        simp only [List.flatten_cons, List.cons_append, List.nil_append, List.getElem_cons_zero] at h0
        cases h0.int_inv
        obtain ⟨ns, rfl, h2⟩ := bytesOf_ok hs' (vs := vs) ⟨by simpa using hv.1, fun j hj hj' => by
          have := hv.2 (j + 1) (by simpa using hj) (by simpa using hj')
          simpa using this⟩
        refine ⟨n :: ns, rfl, fun r => ?_⟩
        simp only [List.foldl_cons, h2]
        cases r; simp
    · cases h

theorem chunks_length (size : Nat) : ∀ (n : Nat) (l : List AV), (chunks n size l).length = n
  | 0, l => rfl
  | n + 1, l => by simp [chunks, chunks_length size n]
theorem chunks_get (size : Nat) : ∀ (n : Nat) (l : List AV) (k : Nat) (h : k < (chunks n size l).length), (chunks n size l)[k] = (l.drop (k * size)).take size
  | 0, l, k, h => by simp [chunks] at h
  | n + 1, l, 0, h => by simp [chunks]
  | n + 1, l, k + 1, h => by
    simp only [chunks, List.getElem_cons_succ]
    rw [chunks_get size n (l.drop size) k (by simpa [chunks] using h), List.drop_drop, Nat.add_mul, Nat.one_mul, Nat.add_comm]

/-- A slice of an array whose cells never change. -/
theorem aslc_lst {cells : List AV} {b o len size ll hh c : Nat} {vals : Nat → Value} (hpos : 0 < size) (hone : ∀ c ∈ cells, c.one = true) (hc : ∀ j, j < cells.length → Im ⟨b, o + j, none⟩ ∧ w.cell? ⟨b, o + j, none⟩ = some (vals j)) (hv : ∀ j (h : j < cells.length), IR Im w (cells[j]) (vals j))
    (hle : len * size ≤ cells.length) (h1 : ll ≤ hh) (h2 : hh ≤ len) (hcap : hh - ll ≤ c) (hmax : c ≤ maxLen) (ad : Addr) (had : ll < hh → ad = ⟨b, o + ll * size, none⟩) (hsp : ad.spot = none) :
    IR Im w (.lst (((chunks len size (cells.take (len * size))).take hh).drop ll)) (.slice (some ad) (hh - ll) c) := by
  have hl : (((chunks len size (cells.take (len * size))).take hh).drop ll).length = hh - ll := by simp [chunks_length]; omega
  have hcl : (cells.take (len * size)).length = len * size := by simp; omega
  obtain ⟨c1, c2, c3⟩ := chunks_ok len size _ hcl
  by_cases hlt : ll < hh
  · have hm1 := Nat.mul_le_mul_right size h2
    rw [had hlt, ← hl]
    refine .lst _ size b (o + ll * size) c (fun k j => vals ((ll + k) * size + j)) (by omega) hmax (fun c hc => c2 c (List.mem_of_mem_take (List.mem_of_mem_drop hc))) (fun c hc x hx => ?_) (fun k j hk hj => ?_) (fun k j hk hj => ?_)
    · refine hone x (List.mem_of_mem_take (?_ : x ∈ cells.take (len * size)))
      rw [← c3]; exact List.mem_flatten.2 ⟨c, List.mem_of_mem_take (List.mem_of_mem_drop hc), hx⟩
    · have hmul : (ll + k + 1) * size ≤ len * size := Nat.mul_le_mul_right _ (by omega)
      rw [Nat.add_mul, Nat.one_mul] at hmul
      have := hc ((ll + k) * size + j) (by omega)
      rw [Nat.add_mul] at this
      rw [show o + ll * size + (k * size + j) = o + (ll * size + k * size + j) by omega, Nat.add_mul]
      exact this
    · have hmul : (ll + k + 1) * size ≤ len * size := Nat.mul_le_mul_right _ (by omega)
      rw [Nat.add_mul, Nat.one_mul] at hmul
      have hjs : j < size := by
        have := c2 _ (List.mem_of_mem_take (List.mem_of_mem_drop (List.getElem_mem hk)))
        omega
      have := hv ((ll + k) * size + j) (by omega)
      have e : (((chunks len size (cells.take (len * size))).take hh).drop ll)[k][j] = cells[(ll + k) * size + j]'(by omega) := by
        simp only [List.getElem_drop, List.getElem_take, chunks_get]
      rw [e]; exact this
  · have he : ((chunks len size (cells.take (len * size))).take hh).drop ll = [] := List.eq_nil_of_length_eq_zero (by omega)
    have had : ad = ⟨ad.block, ad.off, none⟩ := by cases ad; simp only at hsp; subst hsp; rfl
    rw [he, had, show hh - ll = 0 by omega]
    exact IR.lst (Im := Im) (w := w) [] 0 ad.block ad.off c (fun _ _ => undef) (by simp) hmax (by simp) (by simp) (fun k j hk => by simp at hk) (fun k j hk => by simp at hk)

theorem xstep_ok {o : Oper} {ao : AOp} {f : Frame} {a : Act} {r : AV} (hc : compX P o = some ao) (hs : SRel base κ Im σ w) (hf : FRel κ Im w f a) (h : pstep σ f ao = some r) : PureOK P κ Im w o a r := by
  unfold compX at hc
  split at hc
  case h_1 op t x y yt ho =>
    split at hc
    · rename_i k n z hn
      simp only [Option.map_eq_some_iff] at hc
      obtain ⟨z', hz, rfl⟩ := hc
      simp only [pstep, xstep, Option.map_eq_some_iff] at h
      obtain ⟨b, hb, rfl⟩ := h
      have := isnil_ok (a := a) hn (opd_ok hz hf) hb
      refine ⟨_, ?_, .im _ _ (.bool _)⟩
      simp only [execOp, ho]
      rw [Sem.run_bind]
      simp only [this, Result.andThen_ok, Sem.run_pure]
    · split at hc
      case h_2 => cases hc
      have hbit : ∀ op' x' y', opd x = some x' → opd y = some y' → pstep σ f (.px (.bit op' x' y')) = some r → op' = op → PureOK P κ Im w o a r := by
        intro op' x' y' hx hy hp he
        subst he
        simp only [pstep, xstep] at hp
        obtain ⟨v, hv, hr⟩ := bitStep_ok (P := P) (t := t) (xo := x) (yo := y) (opd_ok hx hf) (opd_ok hy hf) hp
        refine ⟨v, ?_, hr⟩
        simp only [execOp, ho]
        rw [Sem.run_bind]
        simp only [hv, Result.andThen_ok, Sem.run_pure]
      split at hc <;> first
        | (cases hc; done)
        | (simp only [Option.bind_eq_bind, Option.bind_eq_some_iff, Option.pure_def, Option.some.injEq] at hc
           obtain ⟨x', hx, y', hy, rfl⟩ := hc
           exact hbit _ x' y' hx hy h rfl)
  case h_2 t x ho =>
    simp only [Option.map_eq_some_iff] at hc
    obtain ⟨x', hx, rfl⟩ := hc
    simp only [pstep, xstep] at h
    obtain ⟨v, hv, hr⟩ := invStep_ok (P := P) (opd_ok hx hf) h
    exact ⟨v, by simp [execOp, ho, hv], hr⟩
  case h_3 s t x ho =>
    split at hc
    · split at hc
      · simp only [Option.map_eq_some_iff] at hc
        obtain ⟨x', hx, rfl⟩ := hc
        simp [pstep] at h
      · cases hc
    · rename_i e hu1 hu2
      split at hc
      case h_2 => cases hc
      rename_i i he hi
      split at hc
      case isFalse => cases hc
      rename_i hsz
      simp only [Option.map_eq_some_iff] at hc
      obtain ⟨x', hx, rfl⟩ := hc
      simp only [pstep, xstep, Option.map_eq_some_iff, Option.bind_eq_some_iff] at h
      obtain ⟨s', ⟨l, hl, hb⟩, rfl⟩ := h
      have hv := opd_ok (κ := κ) (Im := Im) (w := w) hx hf
      have hlen : ∀ (l : List (List AV)) (s : List UInt8), bytesOf l = some s → ∀ c ∈ l, c.length = 1 := by
        intro l
        induction l with
        | nil => intro s _ c hc; simp at hc
        | cons c0 l ih =>
          intro s h c hc
          unfold bytesOf at h
          split at h
          · rename_i heq; cases heq
          · rename_i heq
            simp only [List.cons.injEq] at heq
            obtain ⟨rfl, rfl⟩ := heq
            simp only [Option.map_eq_some_iff] at h
            obtain ⟨s1, h1, _⟩ := h
            rcases List.mem_cons.1 hc with rfl | hc
            · rfl
            · exact ih _ h1 _ hc
          · cases h
      rcases source_view hs hv hl (hlen _ _ hb) (by omega) with ⟨hx0, rfl⟩ | ⟨ad, c, news, hx0, g1, g2, g3, _⟩
      · simp only [bytesOf, Option.some.injEq] at hb; subst hb
        refine ⟨.string ⟨#[]⟩, ?_, .im _ _ (.str [])⟩
        simp only [execOp, ho, hx0, Sem.run_bind, run_convert_bytes_string w s t e _ _ _ hu1 he hu2, Conv.bytesToString, Sem.run_pure, Result.andThen_ok]
        rfl
      · obtain ⟨ns, rfl, h2⟩ := bytesOf_ok hb g3
        have hld := run_loadCells_list (P := P) w ad _ g2
        rw [g1, Nat.mul_one] at hld
        have hrun := run_bytesToString (P := P) w ad l.length c ns (by rw [hld])
        refine ⟨_, ?_, .im _ _ (.str s')⟩
        simp only [execOp, ho, hx0, Sem.run_bind, run_convert_bytes_string w s t e _ _ _ hu1 he hu2, hrun, Sem.run_pure, Result.andThen_ok, h2]
        rfl
    · cases hc
  case h_4 t x lo hi ho =>
    split at hc
    case h_2 => cases hc
    rename_i n e hu
    simp only [Option.bind_eq_bind, Option.bind_eq_some_iff, Option.pure_def] at hc
    obtain ⟨sz, hsz, hc⟩ := hc
    split at hc
    case isFalse => cases hc
    rename_i hcond
    simp only [Option.bind_eq_some_iff, Option.some.injEq] at hc
    obtain ⟨x', hx, lo', hlo, hi', hhi, rfl⟩ := hc
    have hv := opd_ok (κ := κ) (Im := Im) (w := w) hx hf
    have hlo' := optOpd_ok (κ := κ) (Im := Im) (w := w) hf hlo
    have hhi' := optOpd_ok (κ := κ) (Im := Im) (w := w) hf hhi
    have hrun : ∀ (b off ll hh : Nat), a.eval x = .pointer (some ⟨b, off, none⟩) → bound (hi'.map (·.ev f)) n n = some hh → bound (lo'.map (·.ev f)) 0 hh = some ll → ll ≤ hh ∧ hh ≤ n ∧ ∃ ad, (execOp a.eval o).run P w = .ok (.value (.slice (some ad) (hh - ll) (n - ll))) w ∧ (ll < hh → ad = ⟨b, off + ll * sz, none⟩) ∧ ad.spot = none := by
      intro b off ll hh he h1 h2
      obtain ⟨hb, hle1, hle2⟩ := run_sliceBounds_ok (P := P) (isSlice := false) hlo' hhi' (Nat.le_refl n) h1 h2
      refine ⟨hle1, hle2, if n = ll then ⟨b, off, none⟩ else ⟨b, off + ll * sz, none⟩, ?_, fun hlt => by rw [if_neg (by omega)], by split <;> rfl⟩
      simp only [execOp, ho, he, Option.map_none, Instr.sliceAt, Sem.run_bind, run_underlying hu, Result.andThen_ok, Instr.sureAddr, Sem.run_pure, hb, run_sizeOf? hsz, VR.add]
    simp only [pstep, xstep, aslcStep] at h
    split at h
    · rename_i id off he
      rw [he] at hv
      simp only [Option.bind_eq_some_iff, Option.map_eq_some_iff] at h
      obtain ⟨hh, hhb, ll, hlb, rfl⟩ := h
      obtain ⟨b, hb, hk⟩ := hv.ptr_inv
      obtain ⟨q1, q2, ad, q3, q4, q5⟩ := hrun b off ll hh hb hhb hlb
      exact ⟨_, q3, .asl id (off + ll * sz) (hh - ll) sz b ad (n - ll) hk (fun h => q4 (by omega)) (by omega) (by simp only [maxLen]; omega) q5⟩
    · rename_i cells he
      rw [he] at hv
      split at h
      case isFalse => cases h
      rename_i hle
      simp only [Option.bind_eq_some_iff, Option.map_eq_some_iff] at h
      obtain ⟨hh, hhb, ll, hlb, rfl⟩ := h
      obtain ⟨b, o', vals, hb, h1, h2, h3⟩ := hv.rptr_inv
      obtain ⟨q1, q2, ad, q3, q4, q5⟩ := hrun b o' ll hh hb hhb hlb
      exact ⟨_, q3, .im _ _ (aslc_lst hcond.1 h1 h2 h3 hle q1 q2 (by omega) (by simp only [maxLen]; omega) ad q4 q5)⟩
    · rename_i g off he
      rw [he] at hv
      split at h
      case h_2 => cases h
      rename_i cells hl
      split at h
      case isFalse => cases h
      rename_i hle
      simp only [Option.bind_eq_some_iff, Option.map_eq_some_iff] at h
      obtain ⟨hh, hhb, ll, hlb, rfl⟩ := h
      obtain ⟨b, o', vals, hb, h1, h2, h3⟩ := (VR.im (κ := κ) _ _ (hs.glob _ (lookup_mem hl)).2.2).rptr_inv
      simp only [Value.pointer.injEq, Option.some.injEq, Addr.mk.injEq, and_true] at hb
      obtain ⟨rfl, rfl⟩ := hb
      obtain ⟨q1, q2, ad, q3, q4, q5⟩ := hrun g off ll hh hv.gp_inv hhb hlb
      obtain ⟨b', o'', vals', hb', g1, g2, g3⟩ := (VR.im (κ := κ) _ _ (rptr_drop h1 h2 h3 off)).rptr_inv
      simp only [Value.pointer.injEq, Option.some.injEq, Addr.mk.injEq, and_true, Nat.zero_add] at hb'
      obtain ⟨rfl, rfl⟩ := hb'
      exact ⟨_, q3, .im _ _ (aslc_lst hcond.1 g1 g2 g3 (by simp; omega) q1 q2 (by omega) (by simp only [maxLen]; omega) ad q4 q5)⟩
    · cases h
  case h_5 => simp only [Option.some.injEq] at hc; subst hc; simp [pstep] at h
  case h_6 | h_7 =>
    split at hc
    · simp only [Option.bind_eq_bind, Option.bind_eq_some_iff, Option.pure_def, Option.some.injEq] at hc
      obtain ⟨_, _, _, _, _, _, _, _, rfl⟩ := hc
      simp [pstep] at h
    · cases hc
  case h_8 t x k ok ho =>
    split at hc
    case h_2 => cases hc
    rename_i kt e ht
    simp only [Option.bind_eq_bind, Option.bind_eq_some_iff, Option.pure_def, Option.some.injEq] at hc
    obtain ⟨kind, hk, i, hi, zv, hz, ZV, hZ, x', hx, k', hkk, rfl⟩ := hc
    simp only [pstep, xstep, Option.bind_eq_some_iff] at h
    obtain ⟨kv, hkv, h⟩ := h
    obtain ⟨v, hrun, hr⟩ := run_lookup_ok ht hk hi hz hZ hs (opd_ok hx hf) (opd_ok hkk hf) hkv h
    exact ⟨v, by simp [execOp, ho, hrun], hr⟩
  case h_9 c ho =>
    split at hc
    · rename_i hcal
      split at hc
      case h_2 => cases hc
      rename_i t x hts hargs
      split at hc
      case h_2 => cases hc
      rename_i kt e ht
      simp only [Option.map_eq_some_iff] at hc
      obtain ⟨x', hx, rfl⟩ := hc
      simp only [pstep, xstep, Option.map_eq_some_iff] at h
      obtain ⟨kv, hkv, rfl⟩ := h
      have e1 : c.argTypes = #[t] := list_array hts
      have e2 : c.args.map a.eval = #[a.eval x] := by apply list_array; rw [Array.toList_map, hargs]; rfl
      refine ⟨.int .i64 kv.length, call_builtin ho hcal ?_, .im _ _ (.int _ _)⟩
      rcases mapView_ok hs (opd_ok hx hf) hkv with ⟨hx0, rfl⟩ | ⟨b, es, clock, hx0, hb, hme⟩
      · simp [builtin, Builtin.len_, e1, e2, hx0, run_underlying ht, goInt]
      · have : es.size = kv.length := by simpa using hme.1
        simp [builtin, Builtin.len_, e1, e2, hx0, run_underlying ht, MapKept.run_getObj_map hb, goInt, this]
    · split at hc
      case h_2 => cases hc
      split at hc
      case h_2 => cases hc
      simp only [Option.bind_eq_bind, Option.bind_eq_some_iff, Option.pure_def] at hc
      obtain ⟨i, _, z, _, hc⟩ := hc
      split at hc
      case isFalse => cases hc
      simp only [Option.bind_eq_some_iff, Option.some.injEq] at hc
      obtain ⟨_, _, rfl⟩ := hc
      simp [pstep] at h
    · cases hc
  case h_10 => cases hc
end
end Go.Abs
