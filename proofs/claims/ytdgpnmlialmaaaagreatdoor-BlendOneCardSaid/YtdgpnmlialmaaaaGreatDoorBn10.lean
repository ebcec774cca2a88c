/- The package's variables that blend reads: what the row's condition says, and a world that meets it; a call as argument. A lift whose contract may use that the world is shaped as the program's package variables say. A witness world whose package variables hold references. Functions of many series: of a list of one series the calls have its values. -/
import Derived.Shelf.Vars
import Derived.Handed
import Derived.DataWitness
import Derived.Test.YtdgpnmlialmaaaaGreatDoorBn1
import Derived.Test.YtdgpnmlialmaaaaGreatDoorBn2
import Derived.Test.YtdgpnmlialmaaaaGreatDoorBn3
import Derived.Test.YtdgpnmlialmaaaaGreatDoorBn4
import Derived.Test.YtdgpnmlialmaaaaGreatDoorBn5
import Derived.Test.YtdgpnmlialmaaaaGreatDoorBn6
import Derived.Test.YtdgpnmlialmaaaaGreatDoorBn7
import Derived.Test.YtdgpnmlialmaaaaGreatDoorBn8
import Derived.Test.YtdgpnmlialmaaaaGreatDoorBn9
section
set_option linter.unusedSimpArgs false
set_option linter.unusedVariables false
set_option linter.constructorNameAsVariable false
namespace Go.Proofs.YtdgpnmlialmaaaaGreatDoor
open Go.ChangeShapes Go.WideShapes Go.ChangeAt Go.RowKit Go.ChangeMaps Go.Abs
abbrev gSpace : Nat := 0
abbrev gMx : Nat := 5
abbrev bleGlobs (m : Int) : Globs := ⟨[(gPow, Lib.pow10Tab.map (AV.int .u64)), (gSpace, Lib.asciiSpaceTab.map (AV.int .u8)), (gMx, [AV.int .i64 m])]⟩
theorem bleP (m : Int) : @GPow (bleGlobs m) := @GPow.mk (bleGlobs m) (List.Mem.head _)
theorem bleS (m : Int) : @GSpc (bleGlobs m) := @GSpc.mk (bleGlobs m) (.tail _ (List.Mem.head _))
theorem bleM (m : Int) : @GMaxL (bleGlobs m) := @GMaxL.mk (bleGlobs m) ⟨m, .tail _ (.tail _ (List.Mem.head _))⟩
theorem mx_var {w : World} (h : w.ShapedOpen Tryz.prog) : ∃ m, w.var? Tryz.prog "internal/bytealg.MaxLen" = some #[.int .i64 m] := by
  obtain ⟨cs, hh, hs, -⟩ := h.1 gMx #[.int .i64 0] 3 (of_decide_eq_true (by kernel_rfl)) (by kernel_rfl)
  obtain ⟨m, hm⟩ := Go.Proofs.cell_of_shapedOpen_int (zero := #[.int .i64 0]) (g := gMx) (t := 3) h (of_decide_eq_true (by kernel_rfl)) (by kernel_rfl) rfl (by kernel_rfl) (by kernel_rfl) Tryz.underlying3
  have h1 : cs.size = 1 := hs
  obtain ⟨v, rfl⟩ : ∃ v, cs = #[v] := by
    obtain ⟨l⟩ := cs
    match l, h1 with
    | [v], _ => exact ⟨v, rfl⟩
  have hg : Tryz.prog.globalNamed "internal/bytealg.MaxLen" = some gMx := by kernel_rfl
  simp [World.cell?, hh] at hm
  subst hm
  exact ⟨m, by unfold World.var?; rw [hg]; simp [hh]⟩
theorem gin_ble {l : List (String × DataW Unit)} {w : World} (h : laidMet Tryz.prog l w) (h3 : ("internal/strconv.uint64pow10", Rows.laid_internal_strconv_uint64pow10) ∈ l) (h4 : ("strings.asciiSpace", Rows.laid_strings_asciiSpace) ∈ l) (hs : w.ShapedOpen Tryz.prog) : ∃ m, @GlobsIn (bleGlobs m) w := by
  obtain ⟨m, hm⟩ := mx_var hs
  refine ⟨m, ?_⟩
  letI : Globs := bleGlobs m
  intro p hp
  have hI : ∀ g, (∃ p ∈ (bleGlobs m).tab, g = p.1) → ∀ j, @gIm (bleGlobs m) ⟨g, j, none⟩ := fun g hg j => ⟨rfl, hg⟩
  rcases hp with _ | ⟨_, _ | ⟨_, _ | ⟨_, hp⟩⟩⟩
  · obtain ⟨r, h⟩ := laidAt h h3
    have e : (Rows.laid_internal_strconv_uint64pow10 : DataW Unit) = Lib.tabData .u64 Lib.pow10Tab := by kernel_rfl
    rw [e] at h
    have := Lib.tabIs_of_head (g := gPow) (by kernel_rfl) (by kernel_rfl) Tryz.underlying204 Tryz.underlying74 (by kernel_rfl) (by kernel_rfl) h
    refine gok_one (n := "internal/strconv.uint64pow10") (by kernel_rfl) this (by simp) (by simp [AV.one]) ?_ (hI _ ⟨_, List.Mem.head _, rfl⟩)
    intro j hj
    have hj' : j < Lib.pow10Tab.length := by simpa using hj
    simp [hj']
    exact .int _ _
  · obtain ⟨r, h⟩ := laidAt h h4
    have e : (Rows.laid_strings_asciiSpace : DataW Unit) = Lib.tabData .u8 Lib.asciiSpaceTab := by kernel_rfl
    rw [e] at h
    have := Lib.tabIs_of_head (g := gSpace) (by kernel_rfl) (by kernel_rfl) Tryz.underlying102 Tryz.underlying5 (by kernel_rfl) (by kernel_rfl) h
    refine gok_one (n := "strings.asciiSpace") (by kernel_rfl) this (by simp) (by simp [AV.one]) ?_ (hI _ ⟨_, .tail _ (List.Mem.head _), rfl⟩)
    intro j hj
    have hj' : j < Lib.asciiSpaceTab.length := by simpa using hj
    simp [hj']
    exact .int _ _
  · refine gok_one (n := "internal/bytealg.MaxLen") (by kernel_rfl) hm rfl (by simp [AV.one]) ?_ (hI _ ⟨_, .tail _ (.tail _ (List.Mem.head _)), rfl⟩)
    intro j hj
    have : j = 0 := by simp at hj; omega
    subst this
    exact .int _ _
  · cases hp
/-- So many blocks has the settled world. -/
noncomputable def lowS : Nat := (World.holding Tryz.prog default ⟨#[], #[], []⟩).heap.size
/-- A world that meets the condition: the settled one, the tables laid, and two blocks more for the table of blanks. -/
noncomputable def bleWorld (os : Os) : World :=
  let w0 := World.holding Tryz.prog os ⟨#[.cells #[.slice (some ⟨lowS + 1, 0, none⟩) 7 7, .slice none 0 0, .int .i64 2] 163,
    .cells #[.int .u16 9, .int .u16 13, .int .u16 1, .int .u16 32, .int .u16 133, .int .u16 101, .int .u16 160, .int .u16 5760, .int .u16 5600, .int .u16 8192, .int .u16 8202, .int .u16 1, .int .u16 8232, .int .u16 8233, .int .u16 1, .int .u16 8239, .int .u16 8287, .int .u16 48, .int .u16 12288, .int .u16 12288, .int .u16 1] 166], #[], []⟩
  let put (h : Array Obj) (g : Nat) (cs : Array Value) : Array Obj := h.modify g fun
    | .cells _ t frozen => .cells cs t frozen
    | o => o
  let h := put w0.heap gPow (litCells Rows.laid_internal_strconv_uint64pow10).toArray
  let h := put h gSpace (litCells Rows.laid_strings_asciiSpace).toArray
  let h := put h 1 #[.pointer (some ⟨lowS, 0, none⟩)]
  let h := put h 6 (litCells Rows.laid_math_bits_deBruijn32tab).toArray
  let h := put h 7 (litCells Rows.laid_math_bits_deBruijn64tab).toArray
  let h := put h 8 (litCells Rows.laid_unicode_utf8_first).toArray
  let h := put h 9 (litCells Rows.laid_unicode_utf8_acceptRanges).toArray
  { w0 with heap := h }
noncomputable abbrev bleBlocks : List Nat := [lowS, lowS + 1, gPow, gSpace, 1, 6, 7, 8, 9]
open Go.Ser Go.Num
section
variable {H : Type} {enc : TypeId × Value → H} {w : World} {base : Nat} {spare : Nat → Bool} {held : Bool}
end
theorem ir_numB {Im : Addr → Prop} {w : World} (b : Bool) (n : Int) : IR Im w (numA (b, n)) (.agg #[.bool b, .int .i64 n]) :=
  .agg _ [_, _] (by simp [AV.one]) rfl fun j hj hj' => by
    match j, hj with
    | 0, _ => exact .bool _
    | 1, _ => exact .int _ _
end Go.Proofs.YtdgpnmlialmaaaaGreatDoor
end
section
namespace Go
section
variable {H : Type} {enc : TypeId × Value → H}
theorem returns_shaped {a : Assume} {C : Checked} {os : Os} {f : FuncId} {fn : Func} {s : ChangeSpec} {conds : List PathCond} {apart fresh handsOn again : Bool} {X : World → Array Value → Prop}
    (hX : ∀ (w w' : World) (args : Array Value), w.heap = w'.heap → X w args → X w' args) (own : ownKnob C.prog.godebug = none) (started : os.Started) (noInit : C.prog.inits.idxOf? f = none) (hfn : C.prog.funcs[f]? = some fn)
    (witness : ∃ (w : World) (tape : Tape) (i : Input), w.os = os ∧ (w.forCall tape i).Shaped C.prog ∧ i.vars = [] ∧ Input.okWide C.prog (w.forCall tape i) .any w.heap.size f i ∧
      ((s.pre enc C.prog fn conds apart (w.forCall tape i).memory i.args ∧ X (w.forCall tape i).memory i.args) ∧ sizedMet enc C.prog fn (OpenSpec.ofChange s) apart (w.forCall tape i).memory i.args) ∧ a.holds C.prog (lone (Frame.enter C.prog f i.args .normal) [] (w.forCall tape i)))
    (body : ∀ (W : World) (base : Nat) (args : Array Value) (ds gs : List (DataW H)) (before : List MemPlace), W.ShapedOpen C.prog → (∀ (j : Nat) t v, fn.params[j]? = some t → args[j]? = some v → Value.okWide C.prog W .any base t v) →
      DataW.Whole enc C.prog fn.params.toList s.vars apart W args.toList ds gs before → X W args → Calls C.prog f args W fun e W' => ∃ v, e = .returned v ∧ s.post enc C.prog fn apart fresh handsOn again W args v W') :
    ReturnsInHanded a C os f .any (fun w args => (s.pre enc C.prog fn conds apart w args ∧ X w args) ∧ sizedMet enc C.prog fn (OpenSpec.ofChange s) apart w args) (s.post enc C.prog fn apart fresh handsOn again) := by
  apply returnsInHanded_of_calls own started noInit witness
  rintro w tape i - hshape - ⟨-, -, -, g, hg, -, -, -, -, hval⟩ ⟨⟨⟨ds, gs, before, hw, -⟩, hx⟩, -⟩ -
  cases Option.some.inj (hg.symm.trans hfn)
  apply (body (w.forCall tape i) w.heap.size i.args ds gs before hshape hval (DataW.Whole.of_heap (by rfl) hw) (hX _ _ _ (by rfl) hx)).mono
  rintro e W' ⟨v, rfl, hp⟩
  exact ChangeSpec.post_blind hp
end
end Go
end
section
namespace Go
/-- The variables of a world are of their types, references among them. -/
def World.varsRefB (P : Program) (w : World) : Bool :=
  (List.range P.globals.size).all fun g =>
    match ((begin P (fun _ _ => 0) default).world.heap[g]?).bind Obj.row?, w.heap[g]? with
    | none, _ => true
    | some (zero, t), some (.cells cs t' frozen) => decide (t' = t) && decide (frozen = (0, 0)) && cs.size == zero.size && (!P.buildable t || Row.okRefB P w t cs)
    | _, _ => false
theorem World.shaped_ref {P : Program} {w : World} (hv : w.varsRefB P = true)
    (hr : (w.heap.toList.drop P.globals.size).take ((begin P (fun _ _ => 0) default).world.heap.size - P.globals.size) = (begin P (fun _ _ => 0) default).world.heap.toList.drop P.globals.size) : w.Shaped P := by
  constructor
  · intro g zero t hg hz
    have h := List.all_eq_true.1 hv g (List.mem_range.2 hg)
    rw [hz] at h
    split at h
    · rename_i he; cases he
    · rename_i z' t1 cs t' fr he hw
      simp only [Option.some.injEq, Prod.mk.injEq] at he
      obtain ⟨rfl, rfl⟩ := he
      simp only [Bool.and_eq_true, decide_eq_true_eq, beq_iff_eq, Bool.or_eq_true, Bool.not_eq_true'] at h
      obtain ⟨⟨⟨rfl, rfl⟩, hs⟩, hb⟩ := h
      refine ⟨cs, hw, hs, fun hbuild => ?_⟩
      rcases hb with hb | hb
      · rw [hbuild] at hb; cases hb
      · exact Row.ok_of_okRefB hb
    · cases h
  · intro k h1 h2
    have h := congrArg (fun l => l[k - P.globals.size]?) hr
    simp only [List.getElem?_take, List.getElem?_drop, Array.getElem?_toList] at h
    rwa [if_pos (by omega), Nat.add_sub_cancel' h1] at h
section
variable {H : Type} {enc : TypeId × Value → H}
theorem witness_ref {C : Checked} {os : Os} {f : FuncId} {fn : Func} {s : ChangeSpec} {conds : List PathCond} {apart : Bool} {X : World → Array Value → Prop} (w0 : World) (args : Array Value) (fuel : Nat) (hos : w0.os = os)
    (hv : (w0.forCall (fun _ _ => 0) ⟨#[], args, []⟩).varsRefB C.prog = true)
    (hr : ((w0.forCall (fun _ _ => 0) ⟨#[], args, []⟩).heap.toList.drop C.prog.globals.size).take ((begin C.prog (fun _ _ => 0) default).world.heap.size - C.prog.globals.size) = (begin C.prog (fun _ _ => 0) default).world.heap.toList.drop C.prog.globals.size)
    (hok : Input.okWideB C.prog (w0.forCall (fun _ _ => 0) ⟨#[], args, []⟩) f ⟨#[], args, []⟩ = true)
    (hpre : s.preB enc C.prog fn conds apart (w0.forCall (fun _ _ => 0) ⟨#[], args, []⟩).memory args fuel = true)
    (hsz : s.sizedB enc C.prog fn apart (w0.forCall (fun _ _ => 0) ⟨#[], args, []⟩).memory args fuel = true)
    (hx : X (w0.forCall (fun _ _ => 0) ⟨#[], args, []⟩).memory args) :
    ∃ (w : World) (tape : Tape) (i : Input), w.os = os ∧ (w.forCall tape i).Shaped C.prog ∧ i.vars = [] ∧ Input.okWide C.prog (w.forCall tape i) .any w.heap.size f i ∧
      ((s.pre enc C.prog fn conds apart (w.forCall tape i).memory i.args ∧ X (w.forCall tape i).memory i.args) ∧ sizedMet enc C.prog fn (OpenSpec.ofChange s) apart (w.forCall tape i).memory i.args) ∧ ({} : Assume).holds C.prog (lone (Frame.enter C.prog f i.args .normal) [] (w.forCall tape i)) := by
  refine ⟨w0, fun _ _ => 0, ⟨#[], args, []⟩, hos, World.shaped_ref hv hr, (Input.okWide_of_okWideB (base := 0) hok).1, (Input.okWide_of_okWideB hok).2, ⟨⟨ChangeSpec.pre_of_preB hpre, hx⟩, sizedMet_of_sizedB hsz⟩, ?_⟩
  simp only [Assume.holds]
  exact ⟨by simp, by simp, fun _ => Modest.zero, by simp, by simp⟩
end
end Go
end
section
set_option linter.unusedSimpArgs false
set_option linter.unusedVariables false
set_option linter.constructorNameAsVariable false
set_option maxHeartbeats 4000000
namespace Go.Ble
open Go.Num Go.Ser Go.Dec Go.Shp Go.Abs
theorem gn_ofB {v : N} (h : rightN v = true) : gn v := by
  unfold gn
  by_cases hv : v.1 = true
  · right
    have h2 : v.2 = 0 := by
      unfold rightN at h
      rw [hv] at h
      simpa using h
    exact Prod.ext hv h2
  · left
    unfold rightN at h
    simp only [Bool.not_eq_true] at hv
    rw [hv] at h
    unfold good
    rw [hv]
    simpa using h
theorem known_one {x : N} (h : gn x) : known [x] = if good x = true then [x] else [] := by
  unfold known
  split
  · rename_i hg; rw [List.filter_cons_of_pos hg]; rfl
  · rename_i hg; rw [List.filter_cons_of_neg hg]; rfl
theorem value_one {w : Cw} (hw : w ∈ [Cw.sum, .average, .least, .greatest, .multiply, .diff, .median]) {x : N} (h : gn x) (hm : x.2 ≤ Num.most) : valueS w [] [x] = x := by
  have hk := known_one h
  by_cases hg : good x = true
  · rw [if_pos hg] at hk
    have hr : risingS [x] = [x] := (rising_eq (by rw [hk]) (by simp)).symm
    simp only [List.mem_cons, List.mem_nil_iff, or_false] at hw
    rcases hw with rfl | rfl | rfl | rfl | rfl | rfl | rfl
    · show reckon 2 [x] = x
      unfold reckon; rw [hk]; rfl
    · exact reckon1_one h hm
    · show reckon 3 [x] = x
      unfold reckon; rw [hk]; rfl
    · show reckon 4 [x] = x
      unfold reckon; rw [hk]; rfl
    · show productS [x] = x
      unfold productS; rw [hk]; rfl
    · rfl
    · show middleS [x] = x
      unfold middleS; rw [hr]; simp
  · have hx : x = nothing := h.resolve_left hg
    rw [if_neg hg] at hk
    have hr : risingS [x] = [] := (rising_eq (by rw [hk]) (by simp)).symm
    simp only [List.mem_cons, List.mem_nil_iff, or_false] at hw
    rcases hw with rfl | rfl | rfl | rfl | rfl | rfl | rfl
    · show reckon 2 [x] = x
      rw [reckon_none hk, hx]
    · exact reckon1_one h hm
    · show reckon 3 [x] = x
      rw [reckon_none hk, hx]
    · show reckon 4 [x] = x
      rw [reckon_none hk, hx]
    · show productS [x] = x
      unfold productS; rw [hk, hx]
    · rfl
    · show middleS [x] = x
      unfold middleS; rw [hr, if_pos rfl, hx]
theorem al_one {s : Sr} (hR : SrR s) (hO : SrOk s) (h0 : s.start % s.step = 0) : alS [s] = ([], 20) ∨ alS [s] = ([s], 0) := by
  have hright : rightS s = true := right_iff.2 hR
  have hany : ([s].any fun s => !rightS s) = false := by simp [hright]
  have hp0 := hR.p0
  have hp1 := hR.p1
  have hs0 := hR.s0
  have hvl := hR.vl
  rw [alS_go (l := [s]) (s0 := s) rfl hany (by simp)]
  have hst : ((s.step.toNat : Nat) : Int) = s.step := Int.toNat_of_nonneg (by omega)
  have hcm : cm 1 s.step.toNat = s.step.toNat := cm_one
  have hend : 0 ≤ endS s := by
    unfold endS
    have : 0 ≤ s.step * (s.vals.length : Int) := Int.mul_nonneg (by omega) (by omega)
    omega
  have hsc : scanS 1 s.start 0 [s] = some (s.step.toNat, s.start, endS s) := by
    rw [scanS, hcm, if_pos (by omega), scanS]
    simp only [Int.min_self]
    rw [show max 0 (endS s) = endS s by omega]
  rw [hsc]
  simp only [hst]
  obtain ⟨q, hq⟩ : ∃ q, q = s.start / s.step := ⟨_, rfl⟩
  have hsq : s.start = q * s.step := by
    have := Int.mul_ediv_add_emod s.start s.step
    rw [h0, ← hq, Int.mul_comm] at this
    omega
  have he : endS s = (q + s.vals.length) * s.step := by
    unfold endS
    rw [Int.add_mul, ← hsq, Int.mul_comm s.step]
  have hra : (endS s + s.step - 1) / s.step * s.step = endS s := by rw [he]; exact round_again (by omega)
  rw [hra, h0, Int.sub_zero]
  have hdiff : endS s - s.start = s.vals.length * s.step := by rw [he, hsq, Int.add_mul]; omega
  have hdiv : (endS s - s.start) / s.step = s.vals.length := by rw [hdiff]; exact Int.mul_ediv_cancel _ (by omega)
  rw [hdiv]
  split
  · exact .inl rfl
  · right
    have hc : countN s.start (endS s) s.step = s.vals.length := by
      unfold countN
      rw [hdiff, show (s.vals.length : Int) * s.step + s.step - 1 = s.step - 1 + s.vals.length * s.step by omega, Int.add_mul_ediv_right _ _ (by omega), Int.ediv_eq_zero_of_lt (by omega) (by omega)]
      simp
    simp only [List.map_cons, List.map_nil, alG, hc]
    have hsl := slots_again (nm := s.name) (a := s.start) (st := s.step) (V := s.vals) (by omega) (fun x hx => ⟨gn_ofB (hR.rs x hx), hO.vs x hx⟩)
    have hss : (⟨s.name, s.start, s.step, s.vals⟩ : Sr) = s := rfl
    rw [hss] at hsl
    rw [hsl]
theorem one_apply {w : Cw} (hw : w ∈ [Cw.sum, .average, .least, .greatest, .multiply, .diff, .median]) {s : Sr} (hR : SrR s) (hO : SrOk s) (h0 : s.start % s.step = 0) :
    applyB w.txt [s] [] [] = ([], 20) ∨ ∃ nm, applyB w.txt [s] [] [] = ([⟨nm, s.start, s.step, s.vals⟩], 0) := by
  have hright : rightS s = true := right_iff.2 hR
  have hany : ¬ ([s].any fun s => !rightS s) = true := by simp [hright]
  have htk : w.takes = (0, false) := by
    simp only [List.mem_cons, List.mem_nil_iff, or_false] at hw
    rcases hw with rfl | rfl | rfl | rfl | rfl | rfl | rfl <;> rfl
  have hck : checkB w [s] [] [] = some (0, 0) := by
    simp only [List.mem_cons, List.mem_nil_iff, or_false] at hw
    rcases hw with rfl | rfl | rfl | rfl | rfl | rfl | rfl <;> rfl
  have hng : w ≠ .group ∧ w ≠ .percent := by
    simp only [List.mem_cons, List.mem_nil_iff, or_false] at hw
    rcases hw with rfl | rfl | rfl | rfl | rfl | rfl | rfl <;> decide
  unfold applyB
  rw [cwOf_txt]
  simp only
  rw [if_neg hany, if_neg (by simp), if_neg (by rw [htk]; simp), hck]
  simp only
  rw [if_neg (by simp), if_neg hng.1]
  rcases al_one hR hO h0 with h | h
  · rw [h]; exact .inl rfl
  · rw [h]
    simp only
    rw [if_neg hng.2]
    split
    · exact .inl rfl
    · right
      refine ⟨nameB w [s] [], ?_⟩
      have hv : (List.range s.vals.length).map (fun k => valueS w [] (togN [s] k)) = s.vals := by
        apply List.ext_getElem (by simp)
        intro i h1 h2
        simp only [List.getElem_map, List.getElem_range, togN, List.map_cons, List.map_nil]
        have hmem : s.vals[i] ∈ s.vals := List.getElem_mem h2
        rw [show s.vals.getD i nothing = s.vals[i] by rw [List.getD_eq_getElem?_getD, List.getElem?_eq_getElem h2]; rfl]
        exact value_one hw (gn_ofB (hR.rs _ hmem)) (okN_most (hO.vs _ hmem))
      unfold oneG
      simp only [List.headD_cons]
      rw [hv]
end Go.Ble
namespace Go.Proofs.YtdgpnmlialmaaaaGreatDoor
open Go.Abs Go.Num Go.Ser Go.Ble Go.Dec Go.Shp
variable {G : Globs}
theorem bone_law [GSpc] [GPow] [GMaxL] (s : Sr) (hO : SrOk s) : PCalls Tryz.prog n_isobarlaw26_BlendOne [srA s] (fun r => r = .bool true) := by
  refine pcalls_of_awp hmix c_isobarlaw26_BlendOne rfl ?_
  have kG := great26_ok (G := G) [] [] .nils 0 (.inl ⟨rfl, rfl⟩) [s] (by simp)
  have kR := rsRight_ok (G := G) s hO
  have hlen := numEls_len s.vals
  rw [srA_eq] at kR ⊢
  unfold serL serEls at kG
  simp only [List.map_cons, List.map_nil, srC] at kG
  simp [a_isobarlaw26_BlendOne]
  refine ac_same alive26_ok (by simp) ?_
  rintro r rfl
  simp [lay, splice, chunks]
  refine ac_pure kG (.cons (.agg _ _ rfl (by simp [AV.one]) (fun j h h' => ?_)) (.cons (.pure _ (by simp)) .nil)) ?_
  · match j, h with
    | 0, _ => exact .pure _ (by simp)
    | 1, _ => exact .pure _ (by simp)
    | 2, _ => exact .pure _ (by simp)
  rintro r ⟨b, rfl, -⟩
  cases b with
  | true => simp
  | false =>
  simp
  refine ac_same kR (by simp) ?_
  rintro r rfl
  cases hr : rightS s with
  | false => simp
  | true =>
  have hR := right_iff.1 hr
  by_cases hn : 300 < s.name.length
  · have hn' : (300 : Int) < s.name.length := by omega
    simp [hn, hn']
  have hn' : ¬ (300 : Int) < s.name.length := by omega
  have hp0 := hR.p0
  have hs0 := hR.s0
  have hst : ¬ s.step = 0 := by omega
  have htm : s.start.tmod s.step = s.start % s.step := Int.tmod_eq_emod_of_nonneg hs0
  by_cases h0 : s.start % s.step = 0
  rotate_left
  · simp [hn, hn', hst, htm, h0]
  have kA0 : ∀ w ∈ [Cw.sum, .average, .least, .greatest, .multiply, .diff, .median], PCalls Tryz.prog n_blend_Apply [.str w.txt, .lst [[.str s.name, .int .i64 s.start, .int .i64 s.step, .lst (numEls s.vals)]], .lst [], .str []] (fun r => r = alA (applyB w.txt [s] [] [])) := fun w hw => by
    have := bApply_ok (G := G) w.txt [s] [] [] (by simp) (by simpa using hO) (by simp) (by intro n h; simp at h)
    exact this
  have kR2 := fun w hw => one_apply (w := w) hw hR hO h0
  have kS := same_ok (G := G) s.vals (by have := hR.vl; omega)
  simp [hn, hn', hst, htm, h0, splice]
  refine lp_startx (fun x f σ => ∃ i : Nat, x = 7 - i ∧ i ≤ 7 ∧ f 1 = .ptr 0 0 ∧ f 3 = .ptr 1 0 ∧ f 4 = .int .i64 i ∧ σ = [.var 41 [.str s.name, .int .i64 s.start, .int .i64 s.step, .lst (numEls s.vals)],
    .var 42 [.str Cw.sum.txt, .str Cw.average.txt, .str Cw.least.txt, .str Cw.greatest.txt, .str Cw.multiply.txt, .str Cw.diff.txt, .str Cw.median.txt]]) 7 ?_ ?_
  · exact ⟨0, by simp, by simp, by simp, by simp, by simp, by simp [Cw.txt, lay, splice]⟩
  rintro x f σ ⟨i, hx, hi, f1, f3, f4, rfl⟩
  have fin : ∀ (f' : Abs.Frame) (tf : Tg f') tI, i < 7 → f' 1 = .ptr 0 0 → f' 3 = .ptr 1 0 → f' 4 = .int .i64 ((i + 1 : Nat) : Int) → nx x (fun x f σ => ∃ i : Nat, x = 7 - i ∧ i ≤ 7 ∧ f 1 = .ptr 0 0 ∧ f 3 = .ptr 1 0 ∧ f 4 = .int .i64 i ∧ σ = [.var 41 [.str s.name, .int .i64 s.start, .int .i64 s.step, .lst (numEls s.vals)],
    .var 42 [.str Cw.sum.txt, .str Cw.average.txt, .str Cw.least.txt, .str Cw.greatest.txt, .str Cw.multiply.txt, .str Cw.diff.txt, .str Cw.median.txt]]) tI f' tf [.var 41 [.str s.name, .int .i64 s.start, .int .i64 s.step, .lst (numEls s.vals)],
    .var 42 [.str Cw.sum.txt, .str Cw.average.txt, .str Cw.least.txt, .str Cw.greatest.txt, .str Cw.multiply.txt, .str Cw.diff.txt, .str Cw.median.txt]] := fun f' tf tI hlt h1 h3 h4 =>
    nx_intro (7 - (i + 1)) (by omega) ⟨i + 1, rfl, by omega, h1, h3, h4, rfl⟩
  by_cases hlt : i < 7
  · have wrap_small : ∀ k : Nat, k ≤ 7 → IntKind.i64.wrap (k : Int) = (k : Int) := fun k hk => wrap_i64 (by omega) (by omega)
    have hcases : i = 0 ∨ i = 1 ∨ i = 2 ∨ i = 3 ∨ i = 4 ∨ i = 5 ∨ i = 6 := by omega
    rcases hcases with rfl | rfl | rfl | rfl | rfl | rfl | rfl
    · have kA := kA0 .sum (by decide)
      have wk := wrap_small 1 (by omega)
      rcases kR2 .sum (by decide) with hz | ⟨nm, hz⟩
      · rw [hz] at kA
        simp only [alA, serL, serEls, List.map_nil] at kA
        simp [f1, f3, f4]
        refine ⟨false, _, _, .cons (.pure _ (by simp)) (.cons (.pure _ (by simp)) (.cons .nils (.cons (.pure _ (by simp)) .nil))), kA, (fun h => by cases h), ?_⟩
        simp [f1, f3, f4, wk]
        exact fin _ _ _ (by omega) (by simp [f1]) (by simp [f3]) (by simp; try rfl)
      · rw [hz] at kA
        simp only [alA, serL, serEls, srC, List.map_cons, List.map_nil] at kA
        simp [f1, f3, f4]
        refine ⟨false, _, _, .cons (.pure _ (by simp)) (.cons (.pure _ (by simp)) (.cons .nils (.cons (.pure _ (by simp)) .nil))), kA, (fun h => by cases h), ?_⟩
        simp [f1, f3, f4, wk]
        refine qc_same kS (by simp) (by simp [rig]) ?_
        simp [f1, f3, f4, wk]
        exact fin _ _ _ (by omega) (by simp [f1]) (by simp [f3]) (by simp; try rfl)
    · have kA := kA0 .average (by decide)
      have wk := wrap_small 2 (by omega)
      rcases kR2 .average (by decide) with hz | ⟨nm, hz⟩
      · rw [hz] at kA
        simp only [alA, serL, serEls, List.map_nil] at kA
        simp [f1, f3, f4]
        refine ⟨false, _, _, .cons (.pure _ (by simp)) (.cons (.pure _ (by simp)) (.cons .nils (.cons (.pure _ (by simp)) .nil))), kA, (fun h => by cases h), ?_⟩
        simp [f1, f3, f4, wk]
        exact fin _ _ _ (by omega) (by simp [f1]) (by simp [f3]) (by simp; try rfl)
      · rw [hz] at kA
        simp only [alA, serL, serEls, srC, List.map_cons, List.map_nil] at kA
        simp [f1, f3, f4]
        refine ⟨false, _, _, .cons (.pure _ (by simp)) (.cons (.pure _ (by simp)) (.cons .nils (.cons (.pure _ (by simp)) .nil))), kA, (fun h => by cases h), ?_⟩
        simp [f1, f3, f4, wk]
        refine qc_same kS (by simp) (by simp [rig]) ?_
        simp [f1, f3, f4, wk]
        exact fin _ _ _ (by omega) (by simp [f1]) (by simp [f3]) (by simp; try rfl)
    · have kA := kA0 .least (by decide)
      have wk := wrap_small 3 (by omega)
      rcases kR2 .least (by decide) with hz | ⟨nm, hz⟩
      · rw [hz] at kA
        simp only [alA, serL, serEls, List.map_nil] at kA
        simp [f1, f3, f4]
        refine ⟨false, _, _, .cons (.pure _ (by simp)) (.cons (.pure _ (by simp)) (.cons .nils (.cons (.pure _ (by simp)) .nil))), kA, (fun h => by cases h), ?_⟩
        simp [f1, f3, f4, wk]
        exact fin _ _ _ (by omega) (by simp [f1]) (by simp [f3]) (by simp; try rfl)
      · rw [hz] at kA
        simp only [alA, serL, serEls, srC, List.map_cons, List.map_nil] at kA
        simp [f1, f3, f4]
        refine ⟨false, _, _, .cons (.pure _ (by simp)) (.cons (.pure _ (by simp)) (.cons .nils (.cons (.pure _ (by simp)) .nil))), kA, (fun h => by cases h), ?_⟩
        simp [f1, f3, f4, wk]
        refine qc_same kS (by simp) (by simp [rig]) ?_
        simp [f1, f3, f4, wk]
        exact fin _ _ _ (by omega) (by simp [f1]) (by simp [f3]) (by simp; try rfl)
    · have kA := kA0 .greatest (by decide)
      have wk := wrap_small 4 (by omega)
      rcases kR2 .greatest (by decide) with hz | ⟨nm, hz⟩
      · rw [hz] at kA
        simp only [alA, serL, serEls, List.map_nil] at kA
        simp [f1, f3, f4]
        refine ⟨false, _, _, .cons (.pure _ (by simp)) (.cons (.pure _ (by simp)) (.cons .nils (.cons (.pure _ (by simp)) .nil))), kA, (fun h => by cases h), ?_⟩
        simp [f1, f3, f4, wk]
        exact fin _ _ _ (by omega) (by simp [f1]) (by simp [f3]) (by simp; try rfl)
      · rw [hz] at kA
        simp only [alA, serL, serEls, srC, List.map_cons, List.map_nil] at kA
        simp [f1, f3, f4]
        refine ⟨false, _, _, .cons (.pure _ (by simp)) (.cons (.pure _ (by simp)) (.cons .nils (.cons (.pure _ (by simp)) .nil))), kA, (fun h => by cases h), ?_⟩
        simp [f1, f3, f4, wk]
        refine qc_same kS (by simp) (by simp [rig]) ?_
        simp [f1, f3, f4, wk]
        exact fin _ _ _ (by omega) (by simp [f1]) (by simp [f3]) (by simp; try rfl)
    · have kA := kA0 .multiply (by decide)
      have wk := wrap_small 5 (by omega)
      rcases kR2 .multiply (by decide) with hz | ⟨nm, hz⟩
      · rw [hz] at kA
        simp only [alA, serL, serEls, List.map_nil] at kA
        simp [f1, f3, f4]
        refine ⟨false, _, _, .cons (.pure _ (by simp)) (.cons (.pure _ (by simp)) (.cons .nils (.cons (.pure _ (by simp)) .nil))), kA, (fun h => by cases h), ?_⟩
        simp [f1, f3, f4, wk]
        exact fin _ _ _ (by omega) (by simp [f1]) (by simp [f3]) (by simp; try rfl)
      · rw [hz] at kA
        simp only [alA, serL, serEls, srC, List.map_cons, List.map_nil] at kA
        simp [f1, f3, f4]
        refine ⟨false, _, _, .cons (.pure _ (by simp)) (.cons (.pure _ (by simp)) (.cons .nils (.cons (.pure _ (by simp)) .nil))), kA, (fun h => by cases h), ?_⟩
        simp [f1, f3, f4, wk]
        refine qc_same kS (by simp) (by simp [rig]) ?_
        simp [f1, f3, f4, wk]
        exact fin _ _ _ (by omega) (by simp [f1]) (by simp [f3]) (by simp; try rfl)
    · have kA := kA0 .diff (by decide)
      have wk := wrap_small 6 (by omega)
      rcases kR2 .diff (by decide) with hz | ⟨nm, hz⟩
      · rw [hz] at kA
        simp only [alA, serL, serEls, List.map_nil] at kA
        simp [f1, f3, f4]
        refine ⟨false, _, _, .cons (.pure _ (by simp)) (.cons (.pure _ (by simp)) (.cons .nils (.cons (.pure _ (by simp)) .nil))), kA, (fun h => by cases h), ?_⟩
        simp [f1, f3, f4, wk]
        exact fin _ _ _ (by omega) (by simp [f1]) (by simp [f3]) (by simp; try rfl)
      · rw [hz] at kA
        simp only [alA, serL, serEls, srC, List.map_cons, List.map_nil] at kA
        simp [f1, f3, f4]
        refine ⟨false, _, _, .cons (.pure _ (by simp)) (.cons (.pure _ (by simp)) (.cons .nils (.cons (.pure _ (by simp)) .nil))), kA, (fun h => by cases h), ?_⟩
        simp [f1, f3, f4, wk]
        refine qc_same kS (by simp) (by simp [rig]) ?_
        simp [f1, f3, f4, wk]
        exact fin _ _ _ (by omega) (by simp [f1]) (by simp [f3]) (by simp; try rfl)
    · have kA := kA0 .median (by decide)
      have wk := wrap_small 7 (by omega)
      rcases kR2 .median (by decide) with hz | ⟨nm, hz⟩
      · rw [hz] at kA
        simp only [alA, serL, serEls, List.map_nil] at kA
        simp [f1, f3, f4]
        refine ⟨false, _, _, .cons (.pure _ (by simp)) (.cons (.pure _ (by simp)) (.cons .nils (.cons (.pure _ (by simp)) .nil))), kA, (fun h => by cases h), ?_⟩
        simp [f1, f3, f4, wk]
        exact fin _ _ _ (by omega) (by simp [f1]) (by simp [f3]) (by simp; try rfl)
      · rw [hz] at kA
        simp only [alA, serL, serEls, srC, List.map_cons, List.map_nil] at kA
        simp [f1, f3, f4]
        refine ⟨false, _, _, .cons (.pure _ (by simp)) (.cons (.pure _ (by simp)) (.cons .nils (.cons (.pure _ (by simp)) .nil))), kA, (fun h => by cases h), ?_⟩
        simp [f1, f3, f4, wk]
        refine qc_same kS (by simp) (by simp [rig]) ?_
        simp [f1, f3, f4, wk]
        exact fin _ _ _ (by omega) (by simp [f1]) (by simp [f3]) (by simp; try rfl)
  · have hi7 : i = 7 := by omega
    subst hi7
    simp [f4]
end Go.Proofs.YtdgpnmlialmaaaaGreatDoor
end
