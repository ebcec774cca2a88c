/- A lift whose contract may use that the world is shaped as the program's package variables say. A witness world whose package variables hold references -/
import Derived.Handed
import Derived.DataWitness
import Derived.Test.YtdgpnmlialmaaaaGreatDoorBn1
import Derived.Test.YtdgpnmlialmaaaaGreatDoorBn2
import Derived.Test.YtdgpnmlialmaaaaGreatDoorBn3
import Derived.Test.YtdgpnmlialmaaaaGreatDoorBn4
import Derived.Test.YtdgpnmlialmaaaaGreatDoorBn5
import Derived.Test.YtdgpnmlialmaaaaGreatDoorBn6
import Derived.Test.YtdgpnmlialmaaaaGreatDoorBn7
import Derived.Test.YtdgpnmlialmaaaaGreatDoorBn8
import Derived.Test.YtdgpnmlialmaaaaGreatDoorBn9
set_option linter.unusedSimpArgs false
set_option linter.unusedVariables false
set_option linter.constructorNameAsVariable false
section
namespace Go
section
variable {H : Type} {enc : TypeId × Value → H}
/-- .. and how great what was handed in is. -/
theorem returns_shaped_sz {a : Assume} {C : Checked} {os : Os} {f : FuncId} {fn : Func} {s : ChangeSpec} {conds : List PathCond} {apart fresh handsOn again : Bool} {X : World → Array Value → Prop}
    (hX : ∀ (w w' : World) (args : Array Value), w.heap = w'.heap → X w args → X w' args) (own : ownKnob C.prog.godebug = none) (started : os.Started) (noInit : C.prog.inits.idxOf? f = none) (hfn : C.prog.funcs[f]? = some fn)
    (witness : ∃ (w : World) (tape : Tape) (i : Input), w.os = os ∧ (w.forCall tape i).Shaped C.prog ∧ i.vars = [] ∧ Input.okWide C.prog (w.forCall tape i) .any w.heap.size f i ∧
      ((s.pre enc C.prog fn conds apart (w.forCall tape i).memory i.args ∧ X (w.forCall tape i).memory i.args) ∧ sizedMet enc C.prog fn (OpenSpec.ofChange s) apart (w.forCall tape i).memory i.args) ∧ a.holds C.prog (lone (Frame.enter C.prog f i.args .normal) [] (w.forCall tape i)))
    (body : ∀ (W : World) (base : Nat) (args : Array Value) (ds gs : List (DataW H)) (before : List MemPlace), W.ShapedOpen C.prog → (∀ (j : Nat) t v, fn.params[j]? = some t → args[j]? = some v → Value.okWide C.prog W .any base t v) →
      DataW.Whole enc C.prog fn.params.toList s.vars apart W args.toList ds gs before → X W args → (DataW.weightsEach C.prog (fn.params.toList ++ (OpenSpec.ofChange s).bare.plain.varTypes C.prog) (ds ++ gs)).all (· ≤ reachBytes) = true → Calls C.prog f args W fun e W' => ∃ v, e = .returned v ∧ s.post enc C.prog fn apart fresh handsOn again W args v W') :
    ReturnsInHanded a C os f .any (fun w args => (s.pre enc C.prog fn conds apart w args ∧ X w args) ∧ sizedMet enc C.prog fn (OpenSpec.ofChange s) apart w args) (s.post enc C.prog fn apart fresh handsOn again) := by
  apply returnsInHanded_of_calls own started noInit witness
  rintro w tape i - hshape - ⟨-, -, -, g, hg, -, -, -, -, hval⟩ ⟨⟨⟨ds, gs, before, hw, -⟩, hx⟩, hz⟩ -
  cases Option.some.inj (hg.symm.trans hfn)
  apply (body (w.forCall tape i) w.heap.size i.args ds gs before hshape hval (DataW.Whole.of_heap (by rfl) hw) (hX _ _ _ (by rfl) hx) (hz.weights hw)).mono
  rintro e W' ⟨v, rfl, hp⟩
  exact ChangeSpec.post_blind hp
end
end Go
end
section
namespace Go
/-- The variables of a world are of their types, references among them. -/
def World.varsRefB (P : Program) (w : World) : Bool :=
  (List.range P.globals.size).all fun g =>
    match ((begin P (fun _ _ => 0) default).world.heap[g]?).bind Obj.row?, w.heap[g]? with
    | none, _ => true
    | some (zero, t), some (.cells cs t' frozen) => decide (t' = t) && decide (frozen = (0, 0)) && cs.size == zero.size && (!P.buildable t || Row.okRefB P w t cs)
    | _, _ => false
theorem World.shaped_ref {P : Program} {w : World} (hv : w.varsRefB P = true)
    (hr : (w.heap.toList.drop P.globals.size).take ((begin P (fun _ _ => 0) default).world.heap.size - P.globals.size) = (begin P (fun _ _ => 0) default).world.heap.toList.drop P.globals.size) : w.Shaped P := by
  constructor
  · intro g zero t hg hz
    have h := List.all_eq_true.1 hv g (List.mem_range.2 hg)
    rw [hz] at h
    split at h
    · rename_i he; cases he
    · rename_i z' t1 cs t' fr he hw
      simp only [Option.some.injEq, Prod.mk.injEq] at he
      obtain ⟨rfl, rfl⟩ := he
      simp only [Bool.and_eq_true, decide_eq_true_eq, beq_iff_eq, Bool.or_eq_true, Bool.not_eq_true'] at h
      obtain ⟨⟨⟨rfl, rfl⟩, hs⟩, hb⟩ := h
      refine ⟨cs, hw, hs, fun hbuild => ?_⟩
      rcases hb with hb | hb
      · rw [hbuild] at hb; cases hb
      · exact Row.ok_of_okRefB hb
    · cases h
  · intro k h1 h2
    have h := congrArg (fun l => l[k - P.globals.size]?) hr
    simp only [List.getElem?_take, List.getElem?_drop, Array.getElem?_toList] at h
    rwa [if_pos (by omega), Nat.add_sub_cancel' h1] at h
section
variable {H : Type} {enc : TypeId × Value → H}
theorem witness_ref {C : Checked} {os : Os} {f : FuncId} {fn : Func} {s : ChangeSpec} {conds : List PathCond} {apart : Bool} {X : World → Array Value → Prop} (w0 : World) (args : Array Value) (fuel : Nat) (hos : w0.os = os)
    (hv : (w0.forCall (fun _ _ => 0) ⟨#[], args, []⟩).varsRefB C.prog = true)
    (hr : ((w0.forCall (fun _ _ => 0) ⟨#[], args, []⟩).heap.toList.drop C.prog.globals.size).take ((begin C.prog (fun _ _ => 0) default).world.heap.size - C.prog.globals.size) = (begin C.prog (fun _ _ => 0) default).world.heap.toList.drop C.prog.globals.size)
    (hok : Input.okWideB C.prog (w0.forCall (fun _ _ => 0) ⟨#[], args, []⟩) f ⟨#[], args, []⟩ = true)
    (hpre : s.preB enc C.prog fn conds apart (w0.forCall (fun _ _ => 0) ⟨#[], args, []⟩).memory args fuel = true)
    (hsz : s.sizedB enc C.prog fn apart (w0.forCall (fun _ _ => 0) ⟨#[], args, []⟩).memory args fuel = true)
    (hx : X (w0.forCall (fun _ _ => 0) ⟨#[], args, []⟩).memory args) :
    ∃ (w : World) (tape : Tape) (i : Input), w.os = os ∧ (w.forCall tape i).Shaped C.prog ∧ i.vars = [] ∧ Input.okWide C.prog (w.forCall tape i) .any w.heap.size f i ∧
      ((s.pre enc C.prog fn conds apart (w.forCall tape i).memory i.args ∧ X (w.forCall tape i).memory i.args) ∧ sizedMet enc C.prog fn (OpenSpec.ofChange s) apart (w.forCall tape i).memory i.args) ∧ ({} : Assume).holds C.prog (lone (Frame.enter C.prog f i.args .normal) [] (w.forCall tape i)) := by
  refine ⟨w0, fun _ _ => 0, ⟨#[], args, []⟩, hos, World.shaped_ref hv hr, (Input.okWide_of_okWideB (base := 0) hok).1, (Input.okWide_of_okWideB hok).2, ⟨⟨ChangeSpec.pre_of_preB hpre, hx⟩, sizedMet_of_sizedB hsz⟩, ?_⟩
  simp only [Assume.holds]
  exact ⟨by simp, by simp, fun _ => Modest.zero, by simp, by simp⟩
end
end Go
end
section
namespace Go.Proofs.YtdgpnmlialmaaaaGreatDoor
open Go.ChangeShapes Go.WideShapes Go.ChangeAt Go.RowKit Go.ChangeMaps Go.Abs Go.Ser Go.Num
section
variable {H : Type} {enc : TypeId × Value → H} {w : World} {base : Nat} {spare : Nat → Bool} {held : Bool}
theorem spot_of {a : Addr} {n : Nat} {cs : List Value} (h : w.cells? base a (n + 1) = some cs) : a.spot = none := by
  unfold World.cells? at h
  split at h
  · obtain ⟨y, _, hy⟩ : ∃ y, cs[0]? = some y ∧ w.cell? (a.add 0) = some y := by
      have hl := Lib.mapM_at h 0 0 (by simp)
      simpa using hl
    have e : a.add 0 = a := by simp [Addr.add]
    rw [e] at hy
    unfold World.cell? at hy
    split at hy
    · split at hy
      · cases hy
      · rename_i hs; simpa using hs
    · cases hy
  · cases h
theorem spot_row {a : Addr} {len cap size : Nat} {elems rest : List (DataW H × List MemPlace)} {n : Nat} {e : TypeId} (hc : cap ≠ 0) (hlen : elems.length = len)
    (hel : ∀ i, i < len → (w.cells? base (a.add (i * (size + 1))) (size + 1)).bind (DataW.trod enc Tryz.prog w base spare held n e) = elems[i]?)
    (hrl : rest.length = cap - len) (hre : ∀ j, j < cap - len → (w.cells? base (a.add ((len + j) * (size + 1))) (size + 1)).bind (DataW.trod enc Tryz.prog w base spare held n e) = rest[j]?) : a.spot = none := by
  have key : ∃ cs, w.cells? base (a.add (0 * (size + 1))) (size + 1) = some cs := by
    rcases Nat.eq_zero_or_pos len with h0 | h0
    · have h1 := hre 0 (by omega)
      obtain ⟨y, hy⟩ : ∃ y, rest[0]? = some y := ⟨_, List.getElem?_eq_getElem (by omega)⟩
      rw [hy, Option.bind_eq_some_iff, h0, Nat.zero_add] at h1
      obtain ⟨cs, hcs, _⟩ := h1
      exact ⟨cs, hcs⟩
    · have h1 := hel 0 h0
      obtain ⟨y, hy⟩ : ∃ y, elems[0]? = some y := ⟨_, List.getElem?_eq_getElem (by omega)⟩
      rw [hy, Option.bind_eq_some_iff] at h1
      obtain ⟨cs, hcs, _⟩ := h1
      exact ⟨cs, hcs⟩
  obtain ⟨cs, hcs⟩ := key
  have e : a.add (0 * (size + 1)) = a := by simp [Addr.add]
  rw [e] at hcs
  exact spot_of hcs
set_option maxRecDepth 100000 in
theorem nums_cells (hsp : ∀ b, spare b = true) {n : Nat} {c : Value} {x : DataW H × List MemPlace} (hf : DataW.trod enc Tryz.prog w base spare held n 22 [c] = some x) :
    ∃ l : List N, oksN l ∧ l.length ≤ 9223372036854775807 ∧ IR (oldIm w) w (.lst (numEls l)) c := by
  rcases DataW.trod_slice Tryz.underlying22 hf with ⟨hcs, hx⟩ | ⟨a, len, cap, elems, rest, n, _, hcs, hx, hb, hl, hm, hlen, hel, hre, _⟩
  · simp only [List.cons.injEq, and_true] at hcs
    subst hcs
    exact ⟨[], fun n hn => by simp at hn, by simp, .lnil none⟩
  · simp only [List.cons.injEq, and_true] at hcs
    subst hcs
    obtain ⟨hrl, hre⟩ := hre (hsp _)
    rw [num_size] at hel hre
    by_cases hcap : cap = 0
    · have : len = 0 := by omega
      subst this; subst hcap
      exact ⟨[], fun n hn => by simp at hn, by simp, .lnil _⟩
    have hspot : a.spot = none := spot_row (size := 1) hcap hlen hel hrl hre
    obtain ⟨b, o, sp⟩ := a
    simp only at hspot
    subst hspot
    have each : ∀ i, i < len → w.cell? ⟨b, o + (i * 2 + 0), none⟩ = some (.bool (cellB w ⟨b, o + (i * 2 + 0), none⟩)) ∧ w.cell? ⟨b, o + (i * 2 + 1), none⟩ = some (.int .i64 (cellI w ⟨b, o + (i * 2 + 1), none⟩)) ∧ (Lit.int .i64 (cellI w ⟨b, o + (i * 2 + 1), none⟩)).wf = true := by
      intro i hi
      have h1 := hel i hi
      obtain ⟨y, hy⟩ : ∃ y, elems[i]? = some y := ⟨_, List.getElem?_eq_getElem (by omega)⟩
      rw [hy, Option.bind_eq_some_iff] at h1
      obtain ⟨cs, hc1, hc2⟩ := h1
      obtain ⟨bb, m, rfl, hw⟩ := num_cells hc2
      unfold World.cells? at hc1
      split at hc1
      · obtain ⟨y0, g0, g0'⟩ : ∃ y0, some (Value.bool bb) = some y0 ∧ w.cell? ((Addr.add ⟨b, o, none⟩ (i * 2)).add 0) = some y0 := by
          have := Lib.mapM_at hc1 0 0 (by simp)
          simpa using this
        obtain ⟨y1, g1, g1'⟩ : ∃ y1, some (Value.int .i64 m) = some y1 ∧ w.cell? ((Addr.add ⟨b, o, none⟩ (i * 2)).add 1) = some y1 := by
          have := Lib.mapM_at hc1 1 1 (by simp)
          simpa using this
        cases g0; cases g1
        have aa : ∀ x y : Nat, Addr.add ⟨b, x, none⟩ y = ⟨b, x + y, none⟩ := fun x y => by unfold Addr.add; split <;> simp_all
        have a0 : (Addr.add ⟨b, o, none⟩ (i * 2)).add 0 = ⟨b, o + (i * 2 + 0), none⟩ := by rw [aa, aa, Nat.add_assoc]
        have a1 : (Addr.add ⟨b, o, none⟩ (i * 2)).add 1 = ⟨b, o + (i * 2 + 1), none⟩ := by rw [aa, aa, Nat.add_assoc]
        rw [a0] at g0'
        rw [a1] at g1'
        have c0 : cellB w ⟨b, o + (i * 2 + 0), none⟩ = bb := by unfold cellB; rw [g0']
        have c1 : cellI w ⟨b, o + (i * 2 + 1), none⟩ = m := by unfold cellI; rw [g1']
        rw [c0, c1]
        exact ⟨g0', g1', hw⟩
      · cases hc1
    refine ⟨(List.range len).map fun i => (cellB w ⟨b, o + (i * 2 + 0), none⟩, cellI w ⟨b, o + (i * 2 + 1), none⟩), ?_, ?_, ?_⟩
    · intro x hx
      simp only [List.mem_map, List.mem_range] at hx
      obtain ⟨i, hi, rfl⟩ := hx
      exact wf_i64 (each i hi).2.2
    · have : cap ≤ 9223372036854775807 := hm
      simp; omega
    · have hnl : (numEls ((List.range len).map fun i => (cellB w ⟨b, o + (i * 2 + 0), none⟩, cellI w ⟨b, o + (i * 2 + 1), none⟩))).length = len := by simp [numEls]
      have hold : ∀ i j v, w.cell? ⟨b, o + (i * 2 + j), none⟩ = some v → oldIm w ⟨b, o + (i * 2 + j), none⟩ := fun i j v h => by
        refine ⟨rfl, ?_⟩
        rcases Nat.lt_or_ge b w.heap.size with h' | h'
        · exact h'
        · simp [World.cell?, Array.getElem?_eq_none h'] at h
      have := IR.lst (Im := oldIm w) (w := w) (numEls ((List.range len).map fun i => (cellB w ⟨b, o + (i * 2 + 0), none⟩, cellI w ⟨b, o + (i * 2 + 1), none⟩))) 2 b o cap
        (fun i j => if j = 0 then .bool (cellB w ⟨b, o + (i * 2 + 0), none⟩) else .int .i64 (cellI w ⟨b, o + (i * 2 + 1), none⟩)) (by rw [hnl]; exact hl) hm
        (numEls_two _)
        (fun c hc x hx => by
          simp only [numEls, List.mem_map] at hc
          obtain ⟨y, _, rfl⟩ := hc
          simp at hx
          rcases hx with rfl | rfl <;> rfl)
        (fun k j hk hj => by
          rw [hnl] at hk
          obtain ⟨e0, e1, _⟩ := each k hk
          match j, hj with
          | 0, _ => exact ⟨hold k 0 _ e0, e0⟩
          | 1, _ => exact ⟨hold k 1 _ e1, e1⟩)
        (fun k j hk hj => by
          have hj2 : j < 2 := by simpa [numEls] using hj
          match j, hj2 with
          | 0, _ => simp [numEls]; exact .bool _
          | 1, _ => simp [numEls]; exact .int _ _)
      rw [hnl] at this
      exact this
set_option maxRecDepth 100000 in
theorem ser_cells (hsp : ∀ b, spare b = true) {n : Nat} {cs : List Value} {y : DataW H × List MemPlace} (hf : DataW.trod enc Tryz.prog w base spare held n 41 cs = some y) :
    ∃ (s : Sr) (c0 c1 c2 c3 : Value), SrOk s ∧ cs = [c0, c1, c2, c3] ∧ IR (oldIm w) w (.str s.name) c0 ∧ IR (oldIm w) w (.int .i64 s.start) c1 ∧ IR (oldIm w) w (.int .i64 s.step) c2 ∧ IR (oldIm w) w (.lst (numEls s.vals)) c3 := by
  obtain ⟨xs, n, rfl, hx, hl, hxl, hall⟩ := DataW.trod_struct Tryz.underlying41 hf
  have hx2 : xs.length = 4 := hxl
  obtain ⟨x0, x1, x2, x3, rfl⟩ : ∃ x0 x1 x2 x3, xs = [x0, x1, x2, x3] := by
    match xs, hx2 with
    | [a, b, c, d], _ => exact ⟨a, b, c, d, rfl⟩
  have hl2 : cs.length = 4 := by rw [hl, ser_size]
  obtain ⟨c0, c1, c2, c3, rfl⟩ : ∃ c0 c1 c2 c3, cs = [c0, c1, c2, c3] := by
    match cs, hl2 with
    | [a, b, c, d], _ => exact ⟨a, b, c, d, rfl⟩
  have h0 : DataW.trod enc Tryz.prog w base spare held n 9 [c0] = some x0 := by simpa [str_size4, Value.cells] using hall 0 _ rfl
  have h1 : DataW.trod enc Tryz.prog w base spare held n 3 [c1] = some x1 := by simpa [int_size4, Value.cells] using hall 1 _ rfl
  have h2 : DataW.trod enc Tryz.prog w base spare held n 3 [c2] = some x2 := by simpa [int_size4, Value.cells] using hall 2 _ rfl
  have h3 : DataW.trod enc Tryz.prog w base spare held n 22 [c3] = some x3 := by simpa [nums_size4, Value.cells] using hall 3 _ rfl
  obtain ⟨s0, e0, _, w0⟩ := DataW.trod_string Tryz.underlying9 h0
  obtain ⟨m1, e1, _, w1⟩ := DataW.trod_int Tryz.underlying3 h1
  obtain ⟨m2, e2, _, w2⟩ := DataW.trod_int Tryz.underlying3 h2
  simp only [List.cons.injEq, and_true] at e0 e1 e2
  subst e0 e1 e2
  obtain ⟨l, wl, wk, hir⟩ := nums_cells hsp h3
  obtain ⟨a1, a2⟩ := wf_i64 w1
  obtain ⟨b1, b2⟩ := wf_i64 w2
  exact ⟨⟨s0.data.toList, m1, m2, l⟩, _, _, _, _, ⟨by rw [Array.length_toList]; exact w0, a1, a2, b1, b2, wk, wl⟩, rfl, ir_bytes4 _, .int _ _, .int _ _, hir⟩
theorem srC_one (s : Sr) : ∀ x ∈ srC s, x.one = true := by simp [srC, AV.one]
set_option maxRecDepth 100000 in
theorem open_sers (hsp : ∀ b, spare b = true) {r : Reach} {b0 : Nat} {v : Value} {d : DataW H} {ps : List MemPlace} (hval : Value.okWide Tryz.prog w r b0 25 v) (hd : DataW.Trod enc Tryz.prog w base spare held 25 v d ps) :
    ∃ l : List Sr, (∀ s ∈ l, SrOk s) ∧ l.length ≤ 9223372036854775807 ∧ IR (oldIm w) w (.lst (l.map srC)) v := by
  obtain ⟨fuel, hf⟩ := hd
  obtain ⟨a0, len, cap, rfl⟩ := okWide_slice Tryz.underlying25 hval
  rcases DataW.trod_slice Tryz.underlying25 hf with ⟨hcs, hx⟩ | ⟨a, len', cap', elems, rest, n, _, hcs, hx, hb, hl, hm, hlen, hel, hre, _⟩
  · simp [Value.cells] at hcs
    obtain ⟨rfl, rfl, rfl⟩ := hcs
    exact ⟨[], by simp, by simp, .lnil none⟩
  · simp [Value.cells] at hcs
    obtain ⟨rfl, rfl, rfl⟩ := hcs
    obtain ⟨hrl, hre⟩ := hre (hsp _)
    rw [ser_size] at hel hre
    by_cases hcap : cap = 0
    · have : len = 0 := by omega
      subst this; subst hcap
      exact ⟨[], by simp, by simp, .lnil _⟩
    have hspot : a.spot = none := spot_row (size := 3) hcap hlen hel hrl hre
    obtain ⟨b, o, sp⟩ := a
    simp only at hspot
    subst hspot
    have aa : ∀ x y : Nat, Addr.add ⟨b, x, none⟩ y = ⟨b, x + y, none⟩ := fun x y => by unfold Addr.add; split <;> simp_all
    have each : ∀ i, ∃ s : Sr, i < len → SrOk s ∧ ∀ j (h : j < (srC s).length), ∃ c, w.cell? ⟨b, o + (i * 4 + j), none⟩ = some c ∧ IR (oldIm w) w (srC s)[j] c := by
      intro i
      by_cases hi : i < len
      · have h1 := hel i hi
        obtain ⟨y, hy⟩ : ∃ y, elems[i]? = some y := ⟨_, List.getElem?_eq_getElem (by omega)⟩
        rw [hy, Option.bind_eq_some_iff] at h1
        obtain ⟨cs, hc1, hc2⟩ := h1
        obtain ⟨s, c0, c1, c2, c3, hs, rfl, i0, i1, i2, i3⟩ := ser_cells hsp hc2
        refine ⟨s, fun _ => ⟨hs, ?_⟩⟩
        unfold World.cells? at hc1
        split at hc1
        · have at' : ∀ j, j < 4 → ∃ c, [c0, c1, c2, c3][j]? = some c ∧ w.cell? ⟨b, o + (i * 4 + j), none⟩ = some c := by
            intro j hj
            obtain ⟨c, e1, e2⟩ := Lib.mapM_at hc1 j j (by simp [hj])
            rw [aa, aa, Nat.add_assoc] at e2
            exact ⟨c, e1, e2⟩
          intro j hj
          have hj' : j < 4 := hj
          obtain ⟨c, e1, e2⟩ := at' j hj'
          refine ⟨c, e2, ?_⟩
          match j, hj' with
          | 0, _ => simp at e1; subst e1; exact i0
          | 1, _ => simp at e1; subst e1; exact i1
          | 2, _ => simp at e1; subst e1; exact i2
          | 3, _ => simp at e1; subst e1; exact i3
        · cases hc1
      · exact ⟨⟨[], 0, 0, []⟩, fun h => absurd h hi⟩
    obtain ⟨f, hfs⟩ := Classical.axiomOfChoice each
    refine ⟨(List.range len).map f, ?_, ?_, ?_⟩
    · intro s hs
      simp only [List.mem_map, List.mem_range] at hs
      obtain ⟨i, hi, rfl⟩ := hs
      exact (hfs i hi).1
    · have : cap ≤ 9223372036854775807 := hm
      simp; omega
    · have hnl : (((List.range len).map f).map srC).length = len := by simp
      have hold : ∀ i j v, w.cell? ⟨b, o + (i * 4 + j), none⟩ = some v → oldIm w ⟨b, o + (i * 4 + j), none⟩ := fun i j v h => by
        refine ⟨rfl, ?_⟩
        rcases Nat.lt_or_ge b w.heap.size with h' | h'
        · exact h'
        · simp [World.cell?, Array.getElem?_eq_none h'] at h
      have := IR.lst (Im := oldIm w) (w := w) (((List.range len).map f).map srC) 4 b o cap
        (fun i j => (w.cell? ⟨b, o + (i * 4 + j), none⟩).getD undef) (by rw [hnl]; exact hl) hm
        (fun c hc => by
          obtain ⟨s, _, rfl⟩ := List.mem_map.1 hc
          rfl)
        (fun c hc x hx => by
          obtain ⟨s, _, rfl⟩ := List.mem_map.1 hc
          exact srC_one s x hx)
        (fun k j hk hj => by
          rw [hnl] at hk
          obtain ⟨c, hc, _⟩ := (hfs k hk).2 j hj
          exact ⟨hold k j _ hc, by rw [hc]; rfl⟩)
        (fun k j hk hj => by
          rw [hnl] at hk
          have e : (((List.range len).map f).map srC)[k] = srC (f k) := by simp
          have hj' : j < (srC (f k)).length := by rw [← e]; exact hj
          obtain ⟨c, hc, hir⟩ := (hfs k hk).2 j hj'
          simp only [hc, Option.getD_some, e]
          exact hir)
      rw [hnl] at this
      exact this
end
end Go.Proofs.YtdgpnmlialmaaaaGreatDoor
end
