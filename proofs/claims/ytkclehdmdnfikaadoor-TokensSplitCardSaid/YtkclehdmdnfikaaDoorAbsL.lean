/- Abstract machine, part 12: the operations that write or make memory. -/
import Derived.Test.YtkclehdmdnfikaaDoorAbsK
set_option linter.unusedSimpArgs false
set_option linter.unusedVariables false
set_option linter.constructorNameAsVariable false
namespace Go.Abs
open Go.RowKit
variable {G : Globs}
section
variable {P : Program} {base : Nat} {κ : Key} {Im : Addr → Prop} {w : World} {σ : Store}

/-- What is to be shown of an operation that writes or makes memory. -/
def EffOK [Globs] (P : Program) (base : Nat) (κ : Key) (Im : Addr → Prop) (w : World) (o : Oper) (a : Act) (K : AV → Store → Prop) : Prop :=
  ∃ v w' κ' Im' r σ', ((execOp a.eval o).run P w = .ok (.value v) w' ∨ ((execOp a.eval o).run P w = .ok .skip w' ∧ v = undef)) ∧ K r σ' ∧ VR κ' Im' w' r v ∧ SRel base κ' Im' σ' w' ∧ Grow base κ Im w κ' Im' w'

def Key.with (κ : Key) (id n : Nat) (v : Value) : Key := fun i m => if i = id ∧ m = n then some v else κ i m
theorem Key.with_same (κ : Key) (id n : Nat) (v : Value) : κ.with id n v id n = some v := by simp [Key.with]
theorem Key.with_new {κ : Key} {id : Nat} (h : ∀ m v, κ id m = some v → False) (n : Nat) (v : Value) : ∀ i m u, κ i m = some u → κ.with id n v i m = some u := by
  intro i m u hu
  unfold Key.with
  split
  · rename_i hc; obtain ⟨rfl, rfl⟩ := hc; exact (h _ _ hu).elim
  · exact hu

/-- A new variable. -/
theorem new_var {cells : List AV} {cs : Array Value} (t : TypeId) (hs : SRel base κ Im σ w) (hv : VRL κ Im w cells cs.toList) (hone : ∀ c ∈ cells, c.one = true) :
    ∃ κ', VR κ' Im (w.alloc (.cells cs t)) (.ptr σ.length 0) (.pointer (some ⟨w.heap.size, 0, none⟩)) ∧ SRel base κ' Im (σ ++ [.var t cells]) (w.alloc (.cells cs t)) ∧ Grow base κ Im w κ' Im (w.alloc (.cells cs t)) := by
  have hfree : ∀ m v, κ σ.length m = some v → False := fun m v h => by obtain ⟨e, h1, _⟩ := hs.dom _ _ _ h; simp at h1
  have hκ := Key.with_new hfree 0 (.pointer (some ⟨w.heap.size, 0, none⟩))
  have hh : ∀ k, k < w.heap.size → (w.alloc (.cells cs t)).heap[k]? = w.heap[k]? := fun k hk => Below.heap_alloc w _ k hk
  have hc : ∀ a, Im a → (w.alloc (.cells cs t)).cell? a = w.cell? a := fun a ha => World.cell?_of_block (hh _ (hs.imlt a ha).1)
  refine ⟨κ.with σ.length 0 (.pointer (some ⟨w.heap.size, 0, none⟩)), .ptr _ _ _ (Key.with_same _ _ _ _), ?_, ⟨hκ, fun _ h => h, hc, fun _ h => .inl h, (Below.refl _ _).alloc hs.hb _⟩⟩
  refine hs.push (.var t cells) hκ (fun i n v h => ?_) (fun _ h => h) (fun _ h => .inl h) (by simp) hh ?_ (fun b hb => ?_)
  · unfold Key.with at h
    split at h
    · rename_i hc; exact .inr ⟨hc.1, by rw [hc.2]; exact Nat.zero_le _⟩
    · exact .inl h
  · exact ⟨w.heap.size, cs, Key.with_same _ _ _ _, hs.hb, heap_alloc_new w _, ⟨hv.1, fun j h h' => (hv.2 j h h').mono hκ (fun _ h => h) hc⟩, hone, fun a ha he => by have := (hs.imlt a ha).1; omega⟩
  · simp [Entry.block, Key.with] at hb; omega

theorem eff_alloc {o : Oper} {t : TypeId} {z : List AV} {a : Act} {K : AV → Store → Prop} (ho : o.op = .alloc t) (hz : zeroOf P t = some z) (hs : SRel base κ Im σ w) (h : K (.ptr σ.length 0) (σ ++ [.var t z])) : EffOK P base κ Im w o a K := by
  obtain ⟨i, zv, hi, hzv, hm⟩ := zeroOf_ok hz
  obtain ⟨hzr, hzo, _⟩ := mapM_const1 (Im := Im) (w := w) hm
  obtain ⟨κ', h1, h2, h3⟩ := new_var (cs := zv.cells) t hs (VRL.ofIR hzr) hzo
  refine ⟨_, _, κ', Im, _, _, .inl ?_, h, h1, h2, h3⟩
  simp [execOp, ho, Instr.alloc, zeroValue, typeInfo, hi, hzv, newVar, newRow]

theorem eff_box {o : Oper} {t : TypeId} {x : Operand} {x' : Opd} {f : Frame} {a : Act} {K : AV → Store → Prop} (ho : o.op = .box t x) (hx : opd x = some x') (hs : SRel base κ Im σ w) (hf : FRel κ Im w f a)
    (hone : ∀ c ∈ (x'.ev f).cells, c.one = true) (h : K (.ptr σ.length 0) (σ ++ [.var t (x'.ev f).cells])) : EffOK P base κ Im w o a K := by
  obtain ⟨κ', h1, h2, h3⟩ := new_var (cs := (a.eval x).cells) t hs ((opd_ok hx hf).oneCells hone) hone
  refine ⟨_, _, κ', Im, _, _, .inl ?_, h, h1, h2, h3⟩
  simp [execOp, ho, Instr.box, newVar, newRow]

theorem VRL.splice {cells vs : List AV} {us ws : List Value} (off : Nat) (h : VRL κ Im w cells us) (h' : VRL κ Im w vs ws) : VRL κ Im w (splice cells off vs) (us.take off ++ ws ++ us.drop (off + ws.length)) := splice_eq cells vs us ws off h h'

theorem setCells_heap (b : Nat) : ∀ (vs : List Value) (off : Nat) (w : World) (cs : Array Value) (t : TypeId), w.heap[b]? = some (.cells cs t (0, 0)) → off + vs.length ≤ cs.size →
    ∃ cs' : Array Value, (w.setCells b off vs).heap[b]? = some (.cells cs' t (0, 0)) ∧ cs'.toList = cs.toList.take off ++ vs ++ cs.toList.drop (off + vs.length) ∧ (∀ k, k ≠ b → (w.setCells b off vs).heap[k]? = w.heap[k]?) ∧
      (w.setCells b off vs).heap.size = w.heap.size ∧ (w.setCells b off vs).os = w.os ∧ (w.setCells b off vs).tape = w.tape ∧ (w.setCells b off vs).output = w.output := by
  intro vs
  induction vs with
  | nil => intro off w cs t h _; exact ⟨cs, by simpa [World.setCells] using h, by simp, by simp [World.setCells], by simp [World.setCells], rfl, rfl, rfl⟩
  | cons v vs ih =>
    intro off w cs t h hle
    simp only [List.length_cons] at hle
    have h1 := heap_setCell_same w b off cs t v h
    obtain ⟨cs', h2, h3, h4, h5, h6, h7, h8⟩ := ih (off + 1) (w.setCell ⟨b, off, none⟩ v) (cs.setIfInBounds off v) t h1 (by simp; omega)
    have hlt : off < cs.toList.length := by simp; omega
    have e : cs.toList.set off v = cs.toList.take off ++ v :: cs.toList.drop (off + 1) := by rw [List.set_eq_take_append_cons_drop, if_pos hlt]
    have hl : (cs.toList.take off).length = off := by rw [List.length_take]; omega
    refine ⟨cs', by simpa [World.setCells] using h2, ?_, fun k hk => ?_, ?_, ?_, ?_, ?_⟩
    · rw [h3, Array.toList_setIfInBounds, e]
      have e1 : List.take (off + 1) (cs.toList.take off ++ v :: cs.toList.drop (off + 1)) = cs.toList.take off ++ [v] := by
        rw [show off + 1 = (cs.toList.take off).length + 1 from by rw [hl], List.take_append, List.take_of_length_le (by omega)]
        simp
      have e2 : List.drop (off + 1 + vs.length) (cs.toList.take off ++ v :: cs.toList.drop (off + 1)) = cs.toList.drop (off + (v :: vs).length) := by
        rw [show off + 1 + vs.length = (cs.toList.take off).length + (1 + vs.length) from by rw [hl]; omega, List.drop_append]
        have : (cs.toList.take off).drop ((cs.toList.take off).length + (1 + vs.length)) = [] := List.drop_eq_nil_of_le (by omega)
        rw [this, Nat.add_sub_cancel_left, Nat.add_comm 1, List.drop_succ_cons, List.drop_drop]
        simp only [List.nil_append, List.length_cons]
        congr 1; omega
      rw [e1, e2]; simp
    · have := h4 k hk
      simp only [World.setCells]
      rw [this, heap_setCell_other w ⟨b, off, none⟩ k v hk]
    · simp only [World.setCells]; rw [h5]; simp [World.setCell]
    · simp only [World.setCells]; rw [h6]; rfl
    · simp only [World.setCells]; rw [h7]; rfl
    · simp only [World.setCells]; rw [h8]; rfl

theorem one_cell {a : AV} {v : Value} (h : VR κ Im w a v) (hone : a.one = true) : v.oneCell' = true := h.oneCell hone

theorem one_cells {l : List AV} {vs : List Value} (h : VRL κ Im w l vs) (hone : ∀ c ∈ l, c.one = true) : ∀ u ∈ vs, u.oneCell' = true := by
  intro u hu
  obtain ⟨j, hj, rfl⟩ := List.mem_iff_getElem.1 hu
  have hj' : j < l.length := by rw [h.1]; exact hj
  exact (h.2 j hj' hj).oneCell (hone _ (List.getElem_mem hj'))

theorem splice_one {cells vs : List AV} {off : Nat} (h : ∀ c ∈ cells, c.one = true) (h' : ∀ c ∈ vs, c.one = true) : ∀ c ∈ splice cells off vs, c.one = true := by
  intro c hc
  simp only [splice, List.mem_append] at hc
  rcases hc with (hc | hc) | hc
  · exact h c (List.mem_of_mem_take hc)
  · exact h' c hc
  · exact h c (List.mem_of_mem_drop hc)

/-- A store of as many cells as the variable has. -/
theorem run_store_ok {t : TypeId} {size b off : Nat} {x : Value} (hsz : sizeOf? P t = some size) (hlen : x.cells.size = size) (h1 : ∀ u ∈ x.cells.toList, u.oneCell' = true) (ht : w.there b off size) :
    (Instr.storeAt t (.pointer (some ⟨b, off, none⟩)) x).run P w = .ok () (w.setCells b off x.cells.toList) := by
  have := run_storeCells_cells (P := P) b off x.cells.toList 0 w (fun j hj => by simpa using (ht j (by simpa [hlen] using hj)).1) (fun j hj => by simpa using (ht j (by simpa [hlen] using hj)).2) h1
  simp only [Nat.add_zero] at this
  simp [Instr.storeAt, Instr.sureAddr, storeVar, run_sizeOf? hsz, hlen, this]

theorem there_of_row {b : Nat} {cs : Array Value} {t : TypeId} {off n : Nat} (h : w.heap[b]? = some (.cells cs t (0, 0))) (hle : off + n ≤ cs.size) : w.there b off n := fun j hj => by
  refine ⟨?_, by simp [World.frozen?, h]⟩
  rw [cell_of_row w b (off + j) cs t (0, 0) h]
  simp; omega

theorem flatten_splice {size : Nat} : ∀ (els : List (List AV)) (k : Nat) (c vs : List AV) (off : Nat), (∀ c ∈ els, c.length = size) → els[k]? = some c → off + vs.length ≤ size →
    (els.set k (splice c off vs)).flatten = splice els.flatten (k * size + off) vs := by
  intro els
  induction els with
  | nil => intro k c vs off _ h; simp at h
  | cons e els ih =>
    intro k c vs off hl hk hle
    have he : e.length = size := hl e (by simp)
    cases k with
    | zero =>
      simp at hk; subst hk
      simp only [List.set_cons_zero, List.flatten_cons, Nat.zero_mul, Nat.zero_add, splice]
      rw [List.take_append_of_le_length (by omega), List.drop_append_of_le_length (by omega)]
      simp
    | succ k =>
      have e1 : (k + 1) * size + off = e.length + (k * size + off) := by rw [he, Nat.add_mul]; omega
      rw [List.set_cons_succ, List.flatten_cons, ih k c vs off (fun c h => hl c (by simp [h])) (by simpa using hk) hle, List.flatten_cons, e1]
      have t1 : ∀ m, List.take (e.length + m) (e ++ els.flatten) = e ++ els.flatten.take m := fun m => by
        rw [List.take_append, List.take_of_length_le (by omega), Nat.add_sub_cancel_left]
      have t2 : ∀ m, List.drop (e.length + m) (e ++ els.flatten) = els.flatten.drop m := fun m => by
        rw [List.drop_append, List.drop_of_length_le (by omega), Nat.add_sub_cancel_left, List.nil_append]
      simp only [splice]
      rw [t1, Nat.add_assoc e.length, t2]
      simp

theorem eff_store {o : Oper} {t : TypeId} {x y : Operand} {x' y' : Opd} {size : Nat} {f : Frame} {a : Act} {K : AV → Store → Prop} {σ' : Store} (ho : o.op = .store t x y) (hsz : sizeOf? P t = some size) (hx : opd x = some x') (hy : opd y = some y')
    (hs : SRel base κ Im σ w) (hf : FRel κ Im w f a) (hlen : (y'.ev f).cells.length = size) (hone : ∀ c ∈ (y'.ev f).cells, c.one = true) (hput : putAt σ (x'.ev f) (y'.ev f).cells = some σ') (h : K .junk σ') : EffOK P base κ Im w o a K := by
  have hvx := opd_ok (κ := κ) (Im := Im) (w := w) hx hf
  have hvy := (opd_ok (κ := κ) (Im := Im) (w := w) hy hf).oneCells hone
  have h1 := one_cells hvy hone
  have hcl : (a.eval y).cells.size = size := by rw [← hlen, hvy.1]; simp
  generalize hX : x'.ev f = X at *
  generalize hV : (y'.ev f).cells = vs at *
  -- the step, once the block is known
  have key : ∀ (id : Nat) (old e : Entry) (b off : Nat) (cs : Array Value) (ty : TypeId), a.eval x = .pointer (some ⟨b, off, none⟩) → σ[id]? = some old → old.block κ id = some b → w.heap[b]? = some (.cells cs ty (0, 0)) → off + size ≤ cs.size → base ≤ b →
      (∀ a, Im a → a.block = b → a.off < off ∨ off + size ≤ a.off) → σ' = σ.set id e → e.block κ id = some b → old.ver ≤ e.ver →
      (∀ w' cs', w'.heap[b]? = some (.cells cs' ty (0, 0)) → cs'.toList = cs.toList.take off ++ (a.eval y).cells.toList ++ cs.toList.drop (off + (a.eval y).cells.toList.length) → (∀ a, Im a → w'.cell? a = w.cell? a) → EOK κ Im base w' id e) → EffOK P base κ Im w o a K := by
    intro id old e b off cs ty hpx hold hblk hheap hle hbase him hσ heb hver hE
    have hrun := run_store_ok (P := P) (x := a.eval y) hsz hcl h1 (there_of_row hheap hle)
    obtain ⟨cs', g1, g2, g3, g4, g5, g6, g7⟩ := setCells_heap b (a.eval y).cells.toList off w cs ty hheap (by simp [hcl]; exact hle)
    have hcell : ∀ ad, Im ad → (w.setCells b off (a.eval y).cells.toList).cell? ad = w.cell? ad := by
      intro ad hIm
      by_cases hab : ad.block = b
      · have hsp := (hs.imlt ad hIm).2
        refine World.cell?_setCells_out b _ off w ad (fun _ _ => ?_)
        have := him ad hIm hab
        simp [hcl]; exact this
      · exact World.cell?_of_block (g3 _ hab)
    refine ⟨undef, _, κ, Im, .junk, σ', .inr ⟨by simp [execOp, ho, hpx, hrun], rfl⟩, h, .im _ _ (.junk _), ?_, ⟨fun _ _ _ h => h, fun _ h => h, hcell, fun _ h => .inl h, ?_⟩⟩
    · rw [hσ]
      refine hs.set hold e (fun _ _ _ h => h) (fun _ _ _ h => .inl h) hver (fun _ h => h) hcell (fun _ h => .inl h) (by omega) (fun k _ hk => g3 k (fun he => hk (by rw [he]; exact hblk))) (hE _ cs' g1 g2 hcell) (fun b' hb' => .inr (by rw [heb] at hb'; rw [hblk]; exact hb'))
    · exact ⟨g5, g6, g7, by omega, fun k hk => g3 k (by omega)⟩
  cases X with
  | ptr id off =>
    obtain ⟨b, hb, hk⟩ := hvx.ptr_inv
    simp only [putAt] at hput
    split at hput
    case h_2 => cases hput
    rename_i ty cells hent
    split at hput
    case isFalse => cases hput
    rename_i hle
    simp only [Option.some.injEq] at hput
    obtain ⟨b', cs, hk', hbase, hheap, hvr, hones, him⟩ := hs.ent _ _ hent
    rw [hk] at hk'; cases hk'
    have hcs : cells.length = cs.size := by simpa using hvr.1
    refine key id _ _ b off cs ty hb hent (by simp [Entry.block, hk]) hheap (by omega) hbase (fun ad hi he => absurd he (him ad hi)) hput.symm (by simp [Entry.block, hk]) (Nat.le_refl _) (fun w' cs' g1 g2 hcell => ?_)
    refine ⟨b, cs', hk, hbase, g1, ?_, splice_one hones hone, him⟩
    rw [g2]
    have := VRL.splice off hvr hvy
    exact ⟨this.1, fun j h h' => (this.2 j h h').mono (fun _ _ _ h => h) (fun _ h => h) hcell⟩
  | rowp id n₀ sz k off =>
    obtain ⟨b, cap, hb, hk⟩ := hvx.rowp_inv
    simp only [putAt] at hput
    split at hput
    case h_2 => cases hput
    rename_i e size' els hent
    split at hput
    case isFalse => cases hput
    rename_i hcond
    obtain ⟨rfl, rfl, hle⟩ := hcond
    split at hput
    case h_2 => cases hput
    rename_i c hc
    simp only [Option.some.injEq] at hput
    obtain ⟨v, xs, hv, hown, hvr, hpos, hlens, hones, hir, him⟩ := hs.ent _ _ hent
    rw [hk] at hv; cases hv
    obtain ⟨hkl, hce⟩ := List.getElem?_eq_some_iff.1 hc
    rcases hown.2 with ⟨h1', _⟩ | ⟨g, cap', cur, hvv, hbase, hheap, hlecap, hmax, hcur, htake⟩
    · cases h1'
    simp only [Value.slice.injEq, Option.some.injEq, Addr.mk.injEq] at hvv
    obtain ⟨⟨rfl, _⟩, _, rfl⟩ := hvv
    obtain ⟨him1, him2⟩ := him b rfl
    have hmul : (k + 1) * size' ≤ els.length * size' := Nat.mul_le_mul_right _ hkl
    have hmul2 : els.length * size' ≤ cap * size' := Nat.mul_le_mul_right _ hlecap
    rw [Nat.add_mul] at hmul
    have hfl : els.flatten.length = els.length * size' := by rw [hvr.1, hown.1]
    refine key id _ _ b (k * size' + off) cur e hb hent (by simp [Entry.block, hk, Value.ownBlock]) hheap (by omega) hbase (fun ad hi he => ?_) hput.symm (by simp [Entry.block, hk, Value.ownBlock]) (by simp [Entry.ver]) (fun w' cs' g1 g2 hcell => ?_)
    · have := (him1 ad hi he).1; simp at this
    · have hset : (els.set k (splice c off vs)).length = els.length := by simp
      have hxs : xs = cur.toList.take (els.length * size') := htake.symm
      have hvl : vs.length = (a.eval y).cells.toList.length := hvy.1
      have hnew : cs'.toList.take (els.length * size') = xs.take (k * size' + off) ++ (a.eval y).cells.toList ++ xs.drop (k * size' + off + (a.eval y).cells.toList.length) := by
        rw [g2, hxs]
        have hA : (cur.toList.take (k * size' + off)).length = k * size' + off := by rw [List.length_take]; simp; omega
        rw [List.append_assoc, List.take_append, List.take_of_length_le (by omega), List.take_append, List.take_of_length_le (l := (a.eval y).cells.toList) (by omega), hA]
        rw [List.take_take, List.drop_take]
        rw [Nat.min_eq_left (by omega)]
        rw [List.append_assoc]
        congr 3
        omega
      refine ⟨_, cs'.toList.take (els.length * size'), by rw [hset]; exact hk, ⟨?_, .inr ⟨b, cap, cs', by rw [hset], hbase, g1, by rw [hset]; exact hlecap, hmax, ?_, by rw [hset]⟩⟩, ?_, hpos, ?_, ?_, fun h => by simp at h, fun g hg => ?_⟩
      · rw [hset, List.length_take]
        have := congrArg List.length g2
        simp only [List.length_append, List.length_take, List.length_drop, Array.length_toList] at this
        simp only [Array.length_toList]; omega
      · have := congrArg List.length g2
        simp only [List.length_append, List.length_take, List.length_drop, Array.length_toList] at this
        omega
      · rw [flatten_splice els k c vs off hlens hc hle]
        have := VRL.splice (k * size' + off) hvr hvy
        rw [hnew]
        exact ⟨this.1, fun j h h' => (this.2 j h h').mono (fun _ _ _ h => h) (fun _ h => h) hcell⟩
      · intro c' hc'
        rcases List.mem_or_eq_of_mem_set hc' with h | rfl
        · exact hlens _ h
        · have := hlens c (by rw [← hce]; exact List.getElem_mem hkl)
          simp only [splice, List.length_append, List.length_take, List.length_drop]; omega
      · intro c' hc' x hx
        rcases List.mem_or_eq_of_mem_set hc' with h | rfl
        · exact hones _ h x hx
        · exact splice_one (hones c (by rw [← hce]; exact List.getElem_mem hkl)) hone x hx
      · rw [hset]
        exact him g hg
  | _ => simp [putAt] at hput
end
end Go.Abs
