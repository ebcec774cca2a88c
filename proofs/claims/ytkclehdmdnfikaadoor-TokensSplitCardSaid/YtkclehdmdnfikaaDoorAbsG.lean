/- Abstract machine, part 7: an operation that only reads does what the abstract one says. -/
import Derived.Test.YtkclehdmdnfikaaDoorAbsF
set_option linter.unusedSimpArgs false
set_option linter.unusedVariables false
set_option linter.constructorNameAsVariable false
namespace Go.Abs
open Go.RowKit
variable {G : Globs}
section
variable {P : Program} {κ : Key} {Im : Addr → Prop} {w : World}

/-- What is to be shown of an operation that only reads. -/
def PureOK (P : Program) (κ : Key) (Im : Addr → Prop) (w : World) (o : Oper) (a : Act) (r : AV) : Prop :=
  ∃ v, (execOp a.eval o).run P w = .ok (.value v) w ∧ VR κ Im w r v

theorem natOf_ok {X : AV} {x : Value} {n : Nat} (hx : VR κ Im w X x) (h : natOf X = some n) : ∃ k, x = .int k (n : Int) := by
  cases X <;> simp [natOf] at h
  rename_i k m
  obtain ⟨h0, rfl⟩ := h
  cases hx.int_inv
  exact ⟨k, by rw [Int.toNat_of_nonneg h0]⟩

theorem oneOf_ok {ag : Bool} {l : List AV} {r : AV} {vs : List Value} (hl : VRL κ Im w l vs) (hone : ∀ c ∈ l, c.one = true) (h : oneOf ag l = some r) :
    (ag = true → VR κ Im w r (.agg vs.toArray)) ∧ (ag = false → ∃ v, vs = [v] ∧ VR κ Im w r v) := by
  unfold oneOf at h
  cases ag
  · simp only [Bool.false_eq_true, if_false] at h
    refine ⟨fun h => by simp at h, fun _ => ?_⟩
    split at h
    · rename_i v
      simp at h; subst h
      obtain ⟨hlen, hv⟩ := hl
      match vs, hlen with
      | [u], _ => exact ⟨u, rfl, hv 0 (by simp) (by simp)⟩
    · cases h
  · simp only [if_true, Option.some.injEq] at h; subst h
    exact ⟨fun _ => .agg _ _ hone hl.1 hl.2, fun h => by simp at h⟩

theorem part_ok {t : TypeId} {ag : Bool} {size off : Nat} {l : List AV} {vs : List Value} {r : AV} (ha : aggOf P t = some ag) (hsz : sizeOf? P t = some size) (hl : VRL κ Im w l vs) (hone : ∀ c ∈ l, c.one = true)
    (h : oneOf ag ((l.drop off).take size) = some r) : ∃ v, (part t vs.toArray off).run P w = .ok v w ∧ VR κ Im w r v := by
  have hsub := ((hl.drop off).take size)
  have hlen := hl.1
  obtain ⟨h1, h2⟩ := oneOf_ok hsub (fun c hc => hone c (List.mem_of_mem_drop (List.mem_of_mem_take hc))) h
  unfold part
  simp only [Sem.run_bind, run_isAgg? ha, Result.andThen_ok]
  cases ag
  · obtain ⟨v, hv, hr⟩ := h2 rfl
    refine ⟨v, ?_, hr⟩
    have : vs[off]? = some v := by
      have h0 : ((vs.drop off).take size)[0]? = some v := by rw [hv]; rfl
      rw [List.getElem?_take] at h0
      split at h0
      · rw [List.getElem?_drop] at h0; simpa using h0
      · cases h0
    simp [this]
  · refine ⟨_, ?_, h1 rfl⟩
    simp only [if_true, Sem.run_bind, run_sizeOf? hsz, Result.andThen_ok, Sem.run_pure]
    congr 2
    apply Array.ext'
    simp

theorem ok_load {o : Oper} {t : TypeId} {x : Operand} {x' : Opd} {ag : Bool} {size : Nat} {base : Nat} {σ : Store} {f : Frame} {a : Act} {r : AV} (ho : o.op = .load t x) (ha : aggOf P t = some ag) (hsz : sizeOf? P t = some size) (hx : opd x = some x')
    (hs : SRel base κ Im σ w) (hf : FRel κ Im w f a) (h : pstep σ f (.load ag size x') = some r) : PureOK P κ Im w o a r := by
  simp only [pstep, Option.bind_eq_some_iff] at h
  obtain ⟨l, hl, hr⟩ := h
  obtain ⟨b, off, cs, hp, hrange, hvr, hlen, hone⟩ := cellsAt_ok hs (opd_ok hx hf) hl
  obtain ⟨h1, h2⟩ := oneOf_ok hvr hone hr
  obtain ⟨i, hi, hin⟩ := sizeOf?_ok hsz
  have hcl : cs.length = size := by rw [← hvr.1, hlen]
  cases ag
  · obtain ⟨v, rfl, hv⟩ := h2 rfl
    refine ⟨v, ?_, hv⟩
    have hc := hrange 0 v rfl
    simp only [Nat.add_zero] at hc
    simp [execOp, ho, hp, Instr.loadAt, Instr.sureAddr, loadVar, run_isAgg? ha, hc]
  · obtain ⟨d, hd, hrow⟩ := aggOf_true ha
    refine ⟨_, ?_, h1 rfl⟩
    simp only [execOp, ho, hp, Sem.run_bind, run_loadAt_mid w b off t cs d hrange hd hrow (by rw [hi]; simp [hin, hcl]), Result.andThen_ok, Sem.run_pure]

theorem splice_eq (cells vs : List AV) (us ws : List Value) (off : Nat) (h : VRL κ Im w cells us) (h' : VRL κ Im w vs ws) :
    VRL κ Im w (splice cells off vs) (us.take off ++ ws ++ us.drop (off + ws.length)) := by
  unfold splice
  rw [← h'.1]
  exact ((h.take off).append h').append (h.drop _)

theorem foldl_set (ws : List Value) (cs : Array Value) (off : Nat) (hle : off + ws.length ≤ cs.size) :
    (ws.toArray.zipIdx.foldl (fun cs (c, j) => cs.setIfInBounds (off + j) c) cs).toList = cs.toList.take off ++ ws ++ cs.toList.drop (off + ws.length) := by
  have key : ∀ (ws : List Value) (n : Nat) (cs : Array Value), off + n + ws.length ≤ cs.size →
      ((ws.zipIdx n).foldl (fun (cs : Array Value) (p : Value × Nat) => cs.setIfInBounds (off + p.2) p.1) cs).toList = cs.toList.take (off + n) ++ ws ++ cs.toList.drop (off + n + ws.length) := by
    intro ws
    induction ws with
    | nil => intro n cs h; simp
    | cons c ws ih =>
      intro n cs h
      rw [List.zipIdx_cons, List.foldl_cons, ih (n + 1) _ (by simp at h ⊢; omega)]
      have hlt : off + n < cs.toList.length := by simp at h ⊢; omega
      simp only [Array.toList_setIfInBounds]
      have e : cs.toList.set (off + n) c = cs.toList.take (off + n) ++ c :: cs.toList.drop (off + n + 1) := by
        rw [List.set_eq_take_append_cons_drop, if_pos hlt]
      have hl : (cs.toList.take (off + n)).length = off + n := by rw [List.length_take]; omega
      rw [e]
      have h1 : List.take (off + (n + 1)) (cs.toList.take (off + n) ++ c :: cs.toList.drop (off + n + 1)) = cs.toList.take (off + n) ++ [c] := by
        rw [show off + (n + 1) = (cs.toList.take (off + n)).length + 1 from by rw [hl]; omega, List.take_append, List.take_of_length_le (by omega)]
        simp
      have h2 : List.drop (off + (n + 1) + ws.length) (cs.toList.take (off + n) ++ c :: cs.toList.drop (off + n + 1)) = cs.toList.drop (off + n + (c :: ws).length) := by
        rw [show off + (n + 1) + ws.length = (cs.toList.take (off + n)).length + (1 + ws.length) from by rw [hl]; omega, List.drop_append]
        have : (cs.toList.take (off + n)).drop ((cs.toList.take (off + n)).length + (1 + ws.length)) = [] := List.drop_eq_nil_of_le (by omega)
        rw [this, Nat.add_sub_cancel_left, Nat.add_comm 1, List.drop_succ_cons, List.drop_drop]
        simp only [List.nil_append, List.length_cons]
        congr 1; omega
      rw [h1, h2]; simp
  have := key ws 0 cs (by simpa using hle)
  simpa using this

/-- 'fill' lays the parts over the zero cells. -/
theorem fill_ok (place : Nat → Option (Nat × Nat)) : ∀ (ps : List (Nat × Value)) (qs : List (Nat × List AV)) (cells : List AV) (cs : Array Value), VRL κ Im w cells cs.toList → ps.length = qs.length →
    (∀ j (h : j < ps.length) (h' : j < qs.length), ∃ n, place ps[j].1 = some (qs[j].1, n) ∧ n = qs[j].2.length ∧ VRL κ Im w qs[j].2 ps[j].2.cells.toList ∧ qs[j].1 + n ≤ cells.length) →
    ∃ cs' : Array Value, Instr.fill place cs ps = some cs' ∧ VRL κ Im w (lay cells qs) cs'.toList ∧ cs'.size = cs.size := by
  intro ps
  induction ps with
  | nil =>
    intro qs cells cs hv hl _
    have : qs = [] := List.eq_nil_of_length_eq_zero hl.symm
    subst this
    exact ⟨cs, rfl, hv, rfl⟩
  | cons p ps ih =>
    intro qs cells cs hv hl hp
    match qs, hl with
    | q :: qs, hl =>
      obtain ⟨n, hpl, hn, hvr, hle⟩ := hp 0 (by simp) (by simp)
      obtain ⟨i, v⟩ := p
      obtain ⟨off, vs⟩ := q
      simp only [List.getElem_cons_zero] at hpl hn hvr hle
      have hsz : v.cells.size = n := by rw [hn]; simpa using hvr.1.symm
      have hcl := hv.1
      have hsz2 : cells.length = cs.size := by simpa using hcl
      simp only [Instr.fill, hpl, hsz, ne_eq, not_true, false_or, lay]
      rw [if_neg (by simp; omega)]
      have hset := foldl_set v.cells.toList cs off (by simp; omega)
      have hset' : (v.cells.zipIdx.foldl (fun cs (c, j) => cs.setIfInBounds (off + j) c) cs).toList = cs.toList.take off ++ v.cells.toList ++ cs.toList.drop (off + v.cells.toList.length) := by
        simpa using hset
      have hsp := splice_eq cells vs cs.toList v.cells.toList off hv hvr
      rw [← hset'] at hsp
      obtain ⟨cs', h1, h2, h3⟩ := ih qs (splice cells off vs) _ hsp (by simpa using hl) (fun j h h' => by
        obtain ⟨n', a, b, c, d⟩ := hp (j + 1) (by simpa using h) (by simpa using h')
        refine ⟨n', by simpa using a, by simpa using b, by simpa using c, ?_⟩
        have : (splice cells off vs).length = cells.length := by
          simp only [splice, List.length_append, List.length_take, List.length_drop]; omega
        rw [this]; simpa using d)
      refine ⟨cs', h1, h2, h3.trans ?_⟩
      rw [← Array.length_toList, hset']
      simp; omega

theorem mapM_some {α β : Type} {g : α → Option β} : ∀ {l : List α} {m : List β}, l.mapM g = some m → l.length = m.length ∧ ∀ j (h : j < l.length) (h' : j < m.length), g l[j] = some m[j]
  | [], m, h => by simp at h; subst h; exact ⟨rfl, fun j h => by simp at h⟩
  | a :: l, m, h => by
    rw [List.mapM_cons] at h
    simp only [Option.bind_eq_bind, Option.bind_eq_some_iff, Option.pure_def, Option.some.injEq] at h
    obtain ⟨b, hb, m', hm', rfl⟩ := h
    obtain ⟨h1, h2⟩ := mapM_some hm'
    refine ⟨by simp [h1], fun j h h' => ?_⟩
    cases j with
    | zero => exact hb
    | succ j => exact h2 j (by simpa using h) (by simpa using h')

theorem one_of_const {vs : List Value} {l : List AV} (h : vs.mapM const1 = some l) : ∀ c ∈ l, c.one = true := (mapM_const1 (Im := fun _ => False) (w := default) h).2.1

theorem lay_one : ∀ (ps : List (Nat × List AV)) (cells : List AV), (∀ c ∈ cells, c.one = true) → (∀ p ∈ ps, ∀ c ∈ p.2, c.one = true) → ∀ c ∈ lay cells ps, c.one = true
  | [], cells, h, _ => h
  | p :: ps, cells, h, hp => by
    refine lay_one ps _ (fun c hc => ?_) (fun q hq => hp q (by simp [hq]))
    simp only [splice, List.mem_append] at hc
    rcases hc with (hc | hc) | hc
    · exact h c (List.mem_of_mem_take hc)
    · exact hp p (by simp) c hc
    · exact h c (List.mem_of_mem_drop hc)

theorem agg_cells {a : AV} {v : Value} (h : VR κ Im w a v) (hone : ∀ c ∈ a.cells, c.one = true) : VRL κ Im w a.cells v.cells.toList := h.oneCells hone
end
end Go.Abs
