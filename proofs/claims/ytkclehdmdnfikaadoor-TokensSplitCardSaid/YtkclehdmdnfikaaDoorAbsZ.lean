/- Abstract machine, part 14d: further operations that make or write memory. -/
import Derived.Test.YtkclehdmdnfikaaDoorAbsY
import Derived.Lib.AtoiErrMem
set_option linter.unusedSimpArgs false
set_option linter.unusedVariables false
set_option linter.constructorNameAsVariable false
namespace Go.Abs
open Go.RowKit
variable {G : Globs}
section
variable {P : Program} {base : Nat} {κ : Key} {Im : Addr → Prop} {w : World} {σ : Store}

theorem eff_mkmap {o : Oper} {t : TypeId} {a : Act} {K : AV → Store → Prop} (ho : o.op = .makeMap t none) (hs : SRel base κ Im σ w) (h : K (.map σ.length) (σ ++ [.mp []])) : EffOK P base κ Im w o a K := by
  have hfree : ∀ m v, κ σ.length m = some v → False := fun m v h => by obtain ⟨e, h1, _⟩ := hs.dom _ _ _ h; simp at h1
  have hκ := Key.with_new hfree 0 (.map (some w.heap.size))
  have hh : ∀ k, k < w.heap.size → (w.alloc (.map #[] 0)).heap[k]? = w.heap[k]? := fun k hk => Below.heap_alloc w _ k hk
  have hc : ∀ a, Im a → (w.alloc (.map #[] 0)).cell? a = w.cell? a := fun a ha => World.cell?_of_block (hh _ (hs.imlt a ha).1)
  refine ⟨_, w.alloc (.map #[] 0), κ.with σ.length 0 (.map (some w.heap.size)), Im, .map σ.length, _, .inl (by simp [execOp, ho, Instr.makeMap]), h, .map _ _ (Key.with_same _ _ _ _), ?_, ⟨hκ, fun _ h => h, hc, fun _ h => .inl h, (Below.refl _ _).alloc hs.hb _⟩⟩
  refine hs.push (.mp []) hκ (fun i n v h => ?_) (fun _ h => h) (fun _ h => .inl h) (by simp) hh ?_ (fun b hb => ?_)
  · unfold Key.with at h
    split at h
    · rename_i hc; exact .inr ⟨hc.1, by rw [hc.2]; exact Nat.zero_le _⟩
    · exact .inl h
  · exact ⟨w.heap.size, #[], 0, Key.with_same _ _ _ _, hs.hb, heap_alloc_new w _, rfl, fun j h => by simp at h, fun a ha he => by have := (hs.imlt a ha).1; omega⟩
  · simp [Entry.block, Key.with] at hb; omega

theorem sameBits_refl {kind : Nat} {X Y : AV} {x : Value} (hx : VR κ Im w X x) (h : eq1 kind X Y = some true) (n : Nat) : Instr.sameBits (n + 1) x x = true := by
  unfold eq1 at h
  split at h
  · cases hx.int_inv; simp [Instr.sameBits]
  · cases hx.str_inv; simp [Instr.sameBits, MapKept.bytes_beq]
  · cases hx.bool_inv; simp [Instr.sameBits]
  · cases h

theorem mapFind_same {kind : Nat} {X : AV} : ∀ {kv : List (AV × AV)} {i j : Nat} {a : AV}, mapFind kind X kv i = some (some (j, a)) → ∃ Y, eq1 kind X Y = some true
  | [], i, j, a, h => by simp [mapFind] at h
  | (k', v') :: kv, i, j, a, h => by
    simp only [mapFind] at h
    split at h
    · rename_i he; exact ⟨_, he⟩
    · exact mapFind_same h
    · cases h

theorem eff_mset {o : Oper} {t kt e : TypeId} {kind : Nat} {m k v : Operand} {m' k' v' : Opd} {f : Frame} {a : Act} {K : AV → Store → Prop} {id : Nat} {kv kv' : List (AV × AV)} (ho : o.op = .mapUpdate t m k v ∨ o.op = .insert t m k v) (ht : P.underlying t = some (.map kt e)) (hk : keyKind P kt = some kind)
    (hm : opd m = some m') (hkk : opd k = some k') (hv : opd v = some v') (hs : SRel base κ Im σ w) (hf : FRel κ Im w f a) (hX : m'.ev f = .map id) (hent : σ[id]? = some (.mp kv)) (hpure : (k'.ev f).pure = true) (hput : mapPut kind (k'.ev f) (v'.ev f) kv = some kv')
    (h : K .junk (σ.set id (.mp kv'))) : EffOK P base κ Im w o a K := by
  obtain ⟨d, hd⟩ : ∃ d, P.underlying kt = some d := by
    unfold keyKind at hk; split at hk <;> first | (cases hk; done) | exact ⟨_, by assumption⟩
  have hmv := opd_ok (κ := κ) (Im := Im) (w := w) hm hf
  have hkv := opd_ok (κ := κ) (Im := Im) (w := w) hkk hf
  have hvv := opd_ok (κ := κ) (Im := Im) (w := w) hv hf
  rw [hX] at hmv
  obtain ⟨b, hb, hκ⟩ := hmv.map_inv
  obtain ⟨b', es, clock, hκ', hbase, hheap, hsz, hes, him⟩ := hs.ent _ _ hent
  rw [hb, hκ'] at hκ; cases hκ
  have hme : MEnt κ Im w kv es.toList := ⟨by simpa using hsz, fun j hj hj' => hes j hj (by simpa using hj')⟩
  have hexec : ∀ w', (Instr.mapUpdate t (.map (some b)) (a.eval k) (a.eval v)).run P w = .ok () w' → (execOp a.eval o).run P w = .ok .skip w' := by
    intro w' hr
    rcases ho with ho | ho <;> simp [execOp, ho, hb, hr]
  -- the step, once the new entries are known
  have key : ∀ (es' : Array MapEntry) (clock' : Nat), (Instr.mapUpdate t (.map (some b)) (a.eval k) (a.eval v)).run P w = .ok () { w with heap := w.heap.setIfInBounds b (.map es' clock') } → es'.size = kv'.length →
      (∀ j (h : j < kv'.length) (h' : j < es'.size), IR Im w (kv'[j]).1 (es'[j]).key ∧ VR κ Im w (kv'[j]).2 (es'[j]).val) → EffOK P base κ Im w o a K := by
    intro es' clock' hr hsz' hes'
    obtain ⟨g1, g2⟩ := MapKept.heap_set (o' := .map es' clock') hheap
    have hcell : ∀ ad, Im ad → ({ w with heap := w.heap.setIfInBounds b (.map es' clock') } : World).cell? ad = w.cell? ad := fun ad ha => World.cell?_of_block (g2 _ (him ad ha))
    refine ⟨undef, _, κ, Im, .junk, _, .inr ⟨hexec _ hr, rfl⟩, h, .im _ _ (.junk _), ?_, ⟨fun _ _ _ h => h, fun _ h => h, hcell, fun _ h => .inl h, ⟨rfl, rfl, rfl, by simp, fun k hk => g2 k (by omega)⟩⟩⟩
    refine hs.set hent _ (fun _ _ _ h => h) (fun _ _ _ h => .inl h) (Nat.le_refl _) (fun _ h => h) hcell (fun _ h => .inl h) (by simp) (fun k _ hk => g2 k (fun he => hk (by simp [Entry.block, hκ', he]))) ?_ (fun b' hb' => .inr (by simpa [Entry.block, hκ'] using hb'))
    exact ⟨b, es', clock', hκ', hbase, g1, hsz', fun j hj hj' => ⟨(hes' j hj hj').1.mono (fun _ h => h) hcell, (hes' j hj hj').2.mono (fun _ _ _ h => h) (fun _ h => h) hcell⟩, him⟩
  unfold mapPut at hput
  simp only [Option.map_eq_some_iff] at hput
  obtain ⟨q, hq, hput⟩ := hput
  have hfind := mapFind_ok hk hd hkv hme hq
  rcases q with _ | ⟨j, x⟩
  · simp only at hput; subst hput
    refine key (es.push { key := a.eval k, val := a.eval v, born := clock }) (clock + 1) ?_ (by simp [hsz]) (fun j hj hj' => ?_)
    · simp only [Instr.mapUpdate, Sem.run_bind, run_underlying ht, Result.andThen_ok, MapKept.run_getObj_map hheap, checkKey_ok hk, Instr.findKey, run_underlying hd, hfind, Sem.run_pure, MapKept.run_setObj_map _ hheap]
    · by_cases hjl : j < kv.length
      · have := hes j hjl (by omega)
        rw [List.getElem_append_left hjl, Array.getElem_push_lt (by omega)]
        exact this
      · have hje : j = kv.length := by simp at hj; omega
        subst hje
        have hje2 : kv.length = es.size := hsz.symm
        rw [List.getElem_append_right (by omega)]
        simp only [Nat.sub_self, List.getElem_cons_zero]
        have e2 : (es.push { key := a.eval k, val := a.eval v, born := clock })[kv.length] = { key := a.eval k, val := a.eval v, born := clock } := by
          simp only [hje2, Array.getElem_push_eq]
        rw [e2]
        exact ⟨hkv.pure hpure, hvv⟩
  · simp only at hput; subst hput
    obtain ⟨u, h1, h2, h3, h4, h5, h6⟩ := hfind
    obtain ⟨Y, hY⟩ := mapFind_same hq
    have hbits := sameBits_refl hkv hY 9999
    have hje : j < es.size := by simpa using h4
    have hkey : (((es[j]?).map (·.key)).getD (a.eval k)) = a.eval k := by
      rw [Array.getElem?_eq_getElem hje]
      simpa using h6
    refine key (es.modify j fun e => { e with key := a.eval k, val := a.eval v }) clock ?_ (by simp [hsz]) (fun i hi hi' => ?_)
    · simp only [Instr.mapUpdate, Sem.run_bind, run_underlying ht, Result.andThen_ok, MapKept.run_getObj_map hheap, checkKey_ok hk, Instr.findKey, run_underlying hd, h1, Sem.run_pure, hkey, Instr.keyThatStays, hbits, if_true, MapKept.run_setObj_map _ hheap]
    · simp only [List.length_set] at hi
      have hii : i < es.size := by omega
      rw [Array.getElem_modify]
      by_cases hij : j = i
      · subst hij
        simp only [if_true, List.getElem_set_self]
        exact ⟨hkv.pure hpure, hvv⟩
      · rw [if_neg hij, List.getElem_set_ne hij]
        exact hes i hi hii

/-- A text's bytes, as a list. -/
theorem eff_tobytes {o : Oper} {s t e : TypeId} {x : Operand} {x' : Opd} {f : Frame} {a : Act} {K : AV → Store → Prop} {r : AV} (ho : o.op = .convert s t x) (hu1 : P.underlying s = some .string) (hu2 : P.underlying t = some (.slice e)) (he : P.underlying e = some (.int .u8)) (hx : opd x = some x') (hs : SRel base κ Im σ w) (hf : FRel κ Im w f a)
    (hr : bytesStep (x'.ev f) = some r) (h : K r σ) : EffOK P base κ Im w o a K := by
  have hv := opd_ok (κ := κ) (Im := Im) (w := w) hx hf
  unfold bytesStep at hr
  split at hr
  case h_2 => cases hr
  rename_i l hl
  split at hr
  case isFalse => cases hr
  rename_i hle
  simp only [Option.some.injEq] at hr; subst hr
  rw [hl] at hv
  have hval := hv.str_inv
  have hrun := Lib.run_convert_string_bytes (P := P) w s t e ⟨l.toArray⟩ hu1 hu2 he
  have hsize : (ByteArray.mk l.toArray).size = l.length := by simp [ByteArray.size]
  rw [hsize] at hrun
  let Im' : Addr → Prop := fun ad => Im ad ∨ (ad.block = w.heap.size ∧ ad.spot = none ∧ ad.off < l.length)
  have hold : ∀ k, k < w.heap.size → (Lib.bytesWorld w e ⟨l.toArray⟩).heap[k]? = w.heap[k]? := Lib.bytesWorld_at_old w e _
  have hc : ∀ ad, Im ad → (Lib.bytesWorld w e ⟨l.toArray⟩).cell? ad = w.cell? ad := fun ad ha => World.cell?_of_block (hold _ (hs.imlt ad ha).1)
  have hir : IR Im' (Lib.bytesWorld w e ⟨l.toArray⟩) (.lst (l.map fun b => [.int .u8 b.toNat])) (.slice (some ⟨w.heap.size, 0, none⟩) (l.map fun b => [AV.int .u8 (b.toNat : Int)]).length (grownCap w l.length 0 e)) := by
    refine .lst _ 1 w.heap.size 0 _ (fun k j => .int .u8 (l.getD k 0).toNat) (by simpa using grownCap_ge w l.length 0 e) (grownCap_le_maxLen _ _ _ _ (by simp only [maxLen]; omega)) (fun c hc => ?_) (fun c hc y hy => ?_) (fun k j hk hj => ?_) (fun k j hk hj => ?_)
    · simp only [List.mem_map] at hc; obtain ⟨b, _, rfl⟩ := hc; rfl
    · simp only [List.mem_map] at hc; obtain ⟨b, _, rfl⟩ := hc
      simp only [List.mem_singleton] at hy; subst hy; rfl
    · obtain rfl : j = 0 := by omega
      simp only [List.length_map] at hk
      refine ⟨.inr ⟨rfl, rfl, by show 0 + (k * 1 + 0) < l.length; omega⟩, ?_⟩
      have := Lib.bytesWorld_cell w e ⟨l.toArray⟩ k (by simpa [ByteArray.size] using hk)
      simpa using this
    · simp only [List.length_map] at hk
      simp only [List.getElem_map, List.length_cons, List.length_nil] at hj ⊢
      obtain rfl : j = 0 := by omega
      simp only [List.getElem_cons_zero]
      have e1 : l.getD k 0 = l[k] := by simp [hk]
      rw [e1]
      exact .int _ _
  rw [List.length_map] at hir
  refine ⟨_, _, κ, Im', _, σ, .inl (by simp only [execOp, ho, hval, Sem.run_bind, hrun, Result.andThen_ok, Sem.run_pure]), h, .im _ _ hir, ?_, ⟨fun _ _ _ h => h, fun _ h => .inl h, hc, fun ad h => ?_, ?_⟩⟩
  · refine hs.world (fun _ h => .inl h) (fun ad h => ?_) (by rw [Lib.bytesWorld_size]; omega) hold
    rcases h with h | ⟨h1, h2, _⟩
    · exact .inl h
    · exact .inr ⟨by omega, by rw [Lib.bytesWorld_size]; omega, h2⟩
  · rcases h with h | ⟨h1, _⟩
    · exact .inl h
    · exact .inr (by rw [h1]; exact hs.hb)
  · exact (Lib.bytesWorld_below w e _).mono hs.hb

theorem eff_clr {o : Oper} {c : Call} {t e : TypeId} {x : Operand} {x' : Opd} {i : TypeInfo} {z : List AV} {f : Frame} {a : Act} {K : AV → Store → Prop} {σ' : Store} (ho : o.op = .call c) (hb : c.callee = .builtin .clear) (hts : c.argTypes.toList = [t]) (hargs : c.args.toList = [x]) (ht : P.underlying t = some (.slice e)) (hi : P.info? e = some i) (hz : zeroOf P e = some z)
    (hzl : z.length = i.size) (hpos : 0 < i.size) (hx : opd x = some x') (hs : SRel base κ Im σ w) (hf : FRel κ Im w f a) (hclr : clrAt σ i.size z (x'.ev f) = some σ') (h : K (.tup []) σ') : EffOK P base κ Im w o a K := by
  obtain ⟨i', zv, hi', hzv, hm⟩ := zeroOf_ok hz
  rw [hi] at hi'; cases hi'
  obtain ⟨hzr, hzo, _⟩ := mapM_const1 (Im := Im) (w := w) hm
  have hzs : zv.cells.size = i.size := by rw [← hzl, hzr.1]; simp
  have hvx := opd_ok (κ := κ) (Im := Im) (w := w) hx hf
  have e1 : c.argTypes = #[t] := list_array hts
  have e2 : c.args.map a.eval = #[a.eval x] := by apply list_array; rw [Array.toList_map, hargs]; rfl
  have hzero : (zeroValue e).run P w = .ok zv w := by simp [zeroValue, typeInfo, hi, hzv]
  have hexec : ∀ w', (Builtin.clear_ #[t] o.type #[a.eval x]).run P w = .ok (.tuple #[]) w' → (execOp a.eval o).run P w = .ok (.value (.tuple #[])) w' := by
    intro w' hr
    simp only [execOp, ho, resolve, hb, Sem.run_bind, Sem.run_pure, Result.andThen_ok, invoke, builtin, e1, e2, hr]
  have htup : ∀ κ' Im' w', VR κ' Im' w' (.tup []) (.tuple #[]) := fun κ' Im' w' => .tup [] [] rfl (fun j h => by simp at h)
  have hnone : ∀ g c, a.eval x = .slice g 0 c → (Builtin.clear_ #[t] o.type #[a.eval x]).run P w = .ok (.tuple #[]) w := by
    intro g c he
    cases g <;> simp [Builtin.clear_, he, run_underlying ht]
  have stay : ∀ g c, a.eval x = .slice g 0 c → σ' = σ → EffOK P base κ Im w o a K := by
    rintro g c he rfl
    exact ⟨_, w, κ, Im, _, _, .inl (hexec _ (hnone g c he)), h, htup _ _ _, hs, Grow.refl _ _ _ _⟩
  have core : ∀ (id ty lo hi' b cap c : Nat) (els : List (List AV)), σ[id]? = some (.row ty i.size els false) → κ id els.length = some (.slice (some ⟨b, 0, none⟩) els.length cap) → lo ≤ hi' → hi' ≤ els.length → a.eval x = .slice (some ⟨b, lo * i.size, none⟩) (hi' - lo) c → lo < hi' →
      σ' = σ.set id (.row ty i.size (els.take lo ++ List.replicate (hi' - lo) z ++ els.drop hi') false) → EffOK P base κ Im w o a K := by
    intro id ty lo hh b cap c els hent hk h1 h2 hval hlt hσ
    obtain ⟨v, xs, hv, hown, hvr, _, hlens, hones, hir, him⟩ := hs.ent _ _ hent
    rw [hk] at hv; cases hv
    rcases hown.2 with ⟨h1', _⟩ | ⟨g, cap', cur, hvv, hbase, hheap, hlecap, hmax, hcur, htake⟩
    · cases h1'
    simp only [Value.slice.injEq, Option.some.injEq, Addr.mk.injEq] at hvv
    obtain ⟨⟨rfl, _⟩, _, rfl⟩ := hvv
    obtain ⟨him1, him2⟩ := him b rfl
    have hzc : (Builtin.zeroCells zv.cells (hh - lo)).toList = (List.replicate (hh - lo) zv.cells.toList).flatten := made_flat zv.cells (by omega) (hh - lo)
    generalize hvs : (Builtin.zeroCells zv.cells (hh - lo)).toList = vs at *
    have hvl : VRL κ Im w (List.replicate (hh - lo) z).flatten vs := by rw [hzc]; exact (VRL.ofIR hzr).replicate _
    have hz1 : ∀ c ∈ (List.replicate (hh - lo) z).flatten, c.one = true := fun c hc => by
      obtain ⟨l, hl, hcl⟩ := List.mem_flatten.1 hc
      rw [(List.mem_replicate.1 hl).2] at hcl
      exact hzo c hcl
    have hlenvs : vs.length = (hh - lo) * i.size := by rw [← hvl.1]; simp [hzl]
    have hm1 := Nat.mul_le_mul_right i.size h1
    have hm2 := Nat.mul_le_mul_right i.size h2
    have hm3 := Nat.mul_le_mul_right i.size hlecap
    have hsub : (hh - lo) * i.size = hh * i.size - lo * i.size := Nat.sub_mul _ _ _
    have hend : lo * i.size + vs.length = hh * i.size := by omega
    have hthere := there_of_row (off := lo * i.size) (n := vs.length) hheap (by omega)
    have hst := run_storeCells_cells (P := P) b (lo * i.size) vs 0 w (fun j hj => by simpa using (hthere j hj).1) (fun j hj => by simpa using (hthere j hj).2) (one_cells hvl hz1)
    rw [Nat.add_zero] at hst
    have hrun : (Builtin.clear_ #[t] o.type #[a.eval x]).run P w = .ok (.tuple #[]) (w.setCells b (lo * i.size) vs) := by
      obtain ⟨n1, hn1⟩ : ∃ n1, hh - lo = n1 + 1 := ⟨hh - lo - 1, by omega⟩
      have hvs' : (Builtin.zeroCells zv.cells (n1 + 1)).toList = vs := by rw [← hvs, hn1]
      rw [hval, hn1]
      simp [Builtin.clear_, run_underlying ht, hzero, hvs', hst]
    obtain ⟨cs', g1, g2, g3, g4, g5, g6, g7⟩ := setCells_heap b vs (lo * i.size) w cur ty hheap (by omega)
    have hcell : ∀ ad, Im ad → (w.setCells b (lo * i.size) vs).cell? ad = w.cell? ad := by
      intro ad hIm
      by_cases hab : ad.block = b
      · exact absurd (him1 ad hIm hab).1 (by simp)
      · exact World.cell?_of_block (g3 _ hab)
    have hlen' : (els.take lo ++ List.replicate (hh - lo) z ++ els.drop hh).length = els.length := by simp; omega
    have hblk : (Entry.row ty i.size els false).block κ id = some b := by simp [Entry.block, hk, Value.ownBlock]
    have hblk' : (Entry.row ty i.size (els.take lo ++ List.replicate (hh - lo) z ++ els.drop hh) false).block κ id = some b := by simp only [Entry.block, hlen', hk, Option.bind_some, Value.ownBlock]
    refine ⟨_, _, κ, Im, _, σ', .inl (hexec _ hrun), h, htup _ _ _, ?_, ⟨fun _ _ _ h => h, fun _ h => h, hcell, fun _ h => .inl h, ⟨g5, g6, g7, by omega, fun k hk' => g3 k (by omega)⟩⟩⟩
    rw [hσ]
    have hxs : xs = cur.toList.take (els.length * i.size) := htake.symm
    have hnew : cs'.toList.take (els.length * i.size) = xs.take (lo * i.size) ++ vs ++ xs.drop (lo * i.size + vs.length) := by
      rw [g2, hxs]
      have hA : (cur.toList.take (lo * i.size)).length = lo * i.size := by rw [List.length_take]; simp; omega
      rw [List.append_assoc, List.take_append, List.take_of_length_le (by omega), List.take_append, List.take_of_length_le (l := vs) (by omega), hA]
      rw [List.take_take, List.drop_take]
      rw [Nat.min_eq_left (by omega)]
      rw [List.append_assoc]
      congr 3
      omega
    have hflat : (els.take lo ++ List.replicate (hh - lo) z ++ els.drop hh).flatten = splice els.flatten (lo * i.size) (List.replicate (hh - lo) z).flatten := by
      have hq : (List.replicate (hh - lo) z).flatten.length = vs.length := hvl.1
      simp only [splice, List.flatten_append, flatten_take _ _ hlens, flatten_drop _ _ hlens, hq, hend]
    refine hs.set hent _ (fun _ _ _ h => h) (fun _ _ _ h => .inl h) (by simp only [Entry.ver, hlen', Nat.le_refl]) (fun _ h => h) hcell (fun _ h => .inl h) (by omega) (fun k _ hk' => g3 k (fun he => hk' (by rw [he]; exact hblk))) ?_ (fun b' hb' => .inr (by rw [hblk'] at hb'; rw [hblk]; exact hb'))
    refine ⟨_, cs'.toList.take (els.length * i.size), by rw [hlen']; exact hk, ⟨?_, .inr ⟨b, cap, cs', by rw [hlen'], hbase, g1, by rw [hlen']; exact hlecap, hmax, ?_, by rw [hlen']⟩⟩, ?_, hpos, ?_, ?_, fun h => by simp at h, fun g hg => ?_⟩
    · rw [hlen', List.length_take]
      have := congrArg List.length g2
      simp only [List.length_append, List.length_take, List.length_drop, Array.length_toList] at this
      simp only [Array.length_toList]; omega
    · have := congrArg List.length g2
      simp only [List.length_append, List.length_take, List.length_drop, Array.length_toList] at this
      omega
    · rw [hflat, hnew]
      have := VRL.splice (lo * i.size) hvr hvl
      exact ⟨this.1, fun j h h' => (this.2 j h h').mono (fun _ _ _ h => h) (fun _ h => h) hcell⟩
    · intro c' hc'
      simp only [List.mem_append] at hc'
      rcases hc' with (hc' | hc') | hc'
      · exact hlens _ (List.mem_of_mem_take hc')
      · rw [(List.mem_replicate.1 hc').2, hzl]
      · exact hlens _ (List.mem_of_mem_drop hc')
    · intro c' hc' y hy
      simp only [List.mem_append] at hc'
      rcases hc' with (hc' | hc') | hc'
      · exact hones _ (List.mem_of_mem_take hc') y hy
      · rw [(List.mem_replicate.1 hc').2] at hy; exact hzo y hy
      · exact hones _ (List.mem_of_mem_drop hc') y hy
    · rw [hlen']; exact him g hg
  unfold clrAt at hclr
  split at hclr
  · rename_i he
    rw [he] at hvx
    simp only [Option.some.injEq] at hclr
    exact stay _ _ hvx.nils_inv hclr.symm
  · rename_i he
    rw [he] at hvx
    simp only [Option.some.injEq] at hclr
    rcases hvx.lst_inv with ⟨hv, _⟩ | ⟨size, b, o, cap, vals, hv, _⟩
    · exact stay _ _ hv hclr.symm
    · exact stay _ _ hv hclr.symm
  · rename_i id n he
    rw [he] at hvx
    split at hclr
    case h_2 => cases hclr
    rename_i ty size' els hent
    split at hclr
    case isFalse => cases hclr
    rename_i hcond
    obtain ⟨hn, hsz⟩ := hcond
    simp only [Option.some.injEq] at hclr
    subst hn; subst hsz
    obtain ⟨g, cap, hv, hk⟩ := hvx.row_inv
    by_cases h0 : els.length = 0
    · have : els = [] := List.eq_nil_of_length_eq_zero h0
      subst this
      refine stay g cap (by simpa using hv) ?_
      rw [← hclr]
      obtain ⟨hlt, hee⟩ := List.getElem?_eq_some_iff.1 hent
      simp only [List.length_nil, List.replicate_zero]
      rw [← hee, List.set_getElem_self]
    · obtain ⟨v, xs, hv', hown, _⟩ := hs.ent _ _ hent
      rw [hk] at hv'; cases hv'
      rw [hv] at hk hown
      rcases hown.2 with ⟨_, q2⟩ | ⟨g', cap', cur, q1, _⟩
      · omega
      · simp only [Value.slice.injEq] at q1
        obtain ⟨rfl, _, rfl⟩ := q1
        refine core id ty 0 els.length g' cap cap els hent hk (Nat.zero_le _) (Nat.le_refl _) (by simpa using hv) (by omega) ?_
        rw [← hclr]; simp
  · rename_i id n sz lo hh he
    rw [he] at hvx
    split at hclr
    case h_2 => cases hclr
    rename_i ty size' els hent
    split at hclr
    case isFalse => cases hclr
    rename_i hcond
    obtain ⟨hn, hsz, hsz2, k1, k2⟩ := hcond
    simp only [Option.some.injEq] at hclr
    subst hn; subst hsz; subst hsz2
    obtain ⟨b, cap, ad, c', hv, hk, _, _, k3, k4, _⟩ := hvx.sub_inv
    by_cases h0 : lo = hh
    · subst h0
      refine stay _ c' (by simpa using hv) ?_
      rw [← hclr]
      obtain ⟨hlt, hee⟩ := List.getElem?_eq_some_iff.1 hent
      simp only [Nat.sub_self, List.replicate_zero, List.append_nil, List.take_append_drop]
      rw [← hee, List.set_getElem_self]
    · have hlt : lo < hh := by omega
      rw [k3 hlt] at hv
      exact core id ty lo hh b cap c' els hent hk k1 k2 hv hlt hclr.symm
  · cases hclr
end
end Go.Abs
