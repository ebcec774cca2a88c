/- Functions of one series: the fixed fact; the law of labels. A series as an argument of a law. The package's variables that shape reads: what the row's condition says, and a world that meets it; a call as argument. A call as an argument of a law. A witness world whose package variables hold references. Functions of one series: what comes of a call is a series as it must be; the law of lengths. Functions of one series: the law of delays. Functions of one series: the document's parts. Functions of one series: the document's value at a place. Functions of one series: the document's call. -/
import Derived.OpenShut
import Derived.Handed
import Derived.DataWitness
import Derived.Test.YtipncibiodfmdaaGreatDoorBn1
import Derived.Test.YtipncibiodfmdaaGreatDoorBn2
import Derived.Test.YtipncibiodfmdaaGreatDoorBn3
import Derived.Test.YtipncibiodfmdaaGreatDoorBn4
import Derived.Test.YtipncibiodfmdaaGreatDoorBn5
import Derived.Test.YtipncibiodfmdaaGreatDoorBn6
section
set_option linter.unusedSimpArgs false
set_option linter.unusedVariables false
set_option linter.constructorNameAsVariable false
set_option maxHeartbeats 4000000
namespace Go.Proofs.YtipncibiodfmdaaGreatDoor
open Go.Abs Go.Num Go.Ser Go.Dec Go.Shp
variable {G : Globs}
def ofS (l : List Int) : Sr := ⟨[97], 0, 60, l.map fun v => (false, v * 1000000)⟩
theorem of_ok (l : List Int) (hl : l.length ≤ 1000) (hb : ∀ v ∈ l, -1000 ≤ v ∧ v ≤ 1000) : PCalls Tryz.prog n_isobarlaw25_of [.lst (l.map fun v => [.int .i64 v])] (fun r => r = srA (ofS l)) := by
  refine pcalls_of_awp hmix c_isobarlaw25_of rfl ?_
  simp [a_isobarlaw25_of, splice]
  refine lp_startx (fun x f σ => ∃ (k : Nat) (V : AV), x = l.length - k ∧ k ≤ l.length ∧ f 0 = .lst (l.map fun v => [.int .i64 v]) ∧ f 2 = .ptr 0 0 ∧ f 3 = .ptr 1 0 ∧ f 4 = .int .i64 k ∧
    σ[0]? = some (.var 24 [.str [], .int .i64 0, .int .i64 0, .nils]) ∧ σ[1]? = some (.var 24 [.str [97], .int .i64 0, .int .i64 60, V]) ∧ NlS 2 σ V ((l.take k).map fun v => (false, v * 1000000)) ∧ 2 ≤ σ.length) l.length ?_ ?_
  · exact ⟨0, .nils, rfl, by omega, by simp, by simp, by simp, by simp, by simp, by simp, .inl ⟨rfl, by simp⟩, by simp⟩
  rintro x f σ ⟨k, V, rfl, hk, f0, f2, f3, f4, s0, s1, hN, h2⟩
  have hV1 := hN.one
  simp [f0, f4]
  refine cb_dec (fun hlt => ?_) (fun hge => ?_)
  · have hlt' : k < l.length := by omega
    obtain ⟨y, hy⟩ : ∃ y, l[k]? = some y := ⟨_, List.getElem?_eq_getElem hlt'⟩
    have hyb := hb y (List.mem_of_getElem? hy)
    have hw : IntKind.i64.wrap ((k : Int) + 1) = (k : Int) + 1 := wrap_i64 (by omega) (by omega)
    have hw2 : IntKind.i64.wrap (y * 1000000) = y * 1000000 := wrap_i64 (by omega) (by omega)
    obtain ⟨hx1, hx2⟩ := List.getElem?_eq_some_iff.1 hy
    simp [f0, f3, f4, s1, hx1, hx2, hV1, hw2, splice]
    refine ap_nls hN h2 (by simp; omega) (false, y * 1000000) ?_
    intro v' σ2 hN2 hle2 hpre2
    have hv1 := hN2.one
    have b0 := (hpre2 0 (by omega)).trans s0
    have b1 := (hpre2 1 (by omega)).trans s1
    simp [f3, f4, b1, hv1, splice, hw]
    refine nx_intro (l.length - (k + 1)) (by omega) ⟨k + 1, v', rfl, by omega, by simp [f0], by simp [f2], by simp [f3], by simp, ?_, ?_, ?_, by simp; omega⟩
    · rw [List.getElem?_set_ne (by omega)]; exact b0
    · rw [List.getElem?_set_self (by omega)]
    · have : ((l.take (k + 1)).map fun v => ((false, v * 1000000) : N)) = ((l.take k).map fun v => (false, v * 1000000)) ++ [(false, y * 1000000)] := by
        rw [List.take_add_one, hy]; simp
      rw [this]
      exact hN2.mono fun id h1 h2 => List.getElem?_set_ne (by omega)
  · have : k = l.length := by omega
    subst this
    rw [List.take_length] at hN
    have hset : ∀ e : Entry, (List.set σ 0 e)[0]? = some e := fun e => List.getElem?_set_self (by omega)
    have hfin : ∀ (k : Nat) (σ' : Store), (∀ id, 2 ≤ id → σ'[id]? = σ[id]?) → fin1 σ' k V = some (.lst (numEls (l.map fun v => (false, v * 1000000)))) := fun k σ' hk => (hN.mono fun id h1 _ => hk id h1).fin
    simp [f2, f3, s0, s1, hV1, splice, hset]
    rw [hfin 0 _ fun id h1 => List.getElem?_set_ne (by omega)]
    simp [srA_eq, ofS]
theorem ofS_ok (l : List Int) (hl : l.length ≤ 1000) (hb : ∀ v ∈ l, -1000 ≤ v ∧ v ≤ 1000) : SrOk (ofS l) :=
  ⟨by simp [ofS], by simp [ofS], by simp [ofS], by simp [ofS], by simp [ofS], by simp [ofS]; omega, fun n hn => by
    simp only [ofS, List.mem_map] at hn
    obtain ⟨v, hv, rfl⟩ := hn
    have := hb v hv
    unfold okN; simp only; omega⟩
theorem alive25_ok [GSpc] [GPow] : PCalls Tryz.prog n_isobarlaw25_alive [] (fun r => r = .bool true) := by
  refine pcalls_of_awp hmix c_isobarlaw25_alive rfl ?_
  have o1 := of_ok (G := G) [1, 2, 3] (by decide) (by decide)
  have o2 := of_ok (G := G) [1, 4] (by decide) (by decide)
  have o3 := of_ok (G := G) [1, 3, 5] (by decide) (by decide)
  have k1 := sApply_ok (G := G) Wd.movingSum.txt (ofS [1, 2, 3]) (ofS_ok _ (by decide) (by decide)) [(false, 2000000)] (by unfold oksN okN; decide) [] (by decide) (by decide)
  have k2 := sApply_ok (G := G) Wd.derivative.txt (ofS [1, 4]) (ofS_ok _ (by decide) (by decide)) [] (by unfold oksN okN; decide) [] (by decide) (by decide)
  have e1 : applyS Wd.movingSum.txt (ofS [1, 2, 3]) [(false, 2000000)] [] = .ok ⟨[109, 111, 118, 105, 110, 103, 83, 117, 109, 40, 97, 44, 50, 41], 0, 60, [(false, 1000000), (false, 3000000), (false, 5000000)]⟩ := by kernel_rfl
  have e2 : applyS Wd.derivative.txt (ofS [1, 4]) [] [] = .ok ⟨[100, 101, 114, 105, 118, 97, 116, 105, 118, 101, 40, 97, 41], 0, 60, [(true, 0), (false, 3000000)]⟩ := by kernel_rfl
  rw [e1] at k1
  rw [e2] at k2
  have kS := same_ok (G := G) [(false, 1000000), (false, 3000000), (false, 5000000)] (by decide)
  simp only [applyA, srA_eq, ofS, numEls, Wd.txt, List.map_cons, List.map_nil, Int.reduceMul] at k1 k2 o1 o2 o3 kS
  simp [a_isobarlaw25_alive, lay, splice, chunks]
  refine ac_same o1 (by simp) ?_
  rintro r rfl
  simp [lay, splice, chunks]
  refine ac_same k1 (by simp) ?_
  rintro r rfl
  simp [lay, splice, chunks]
  refine ac_same o2 (by simp) ?_
  rintro r rfl
  simp
  refine ac_pure k2 (.cons (.pure _ (by simp)) (.cons (.pure _ (by simp)) (.cons .nils (.cons (.pure _ (by simp)) .nil)))) ?_
  rintro r rfl
  simp [lay, splice, chunks]
  refine qc_any o3 (by simp) ?_
  simp
  refine qc_same kS (by simp) (by simp) ?_
  simp
/-- A call: its word, its numbers, its text. -/
structure Cl where
  word : List UInt8
  args : List N
  text : List UInt8
structure ClOk (c : Cl) : Prop where
  wd : c.word.length ≤ 9223372036854775807
  al : c.args.length ≤ 9223372036854775807
  ar : oksN c.args
  tx : c.text.length ≤ 9223372036854775807
def clC (c : Cl) : List AV := [.str c.word, .lst (numEls c.args), .str c.text]
def clA (c : Cl) : AV := .agg (clC c)
theorem clA_eq (c : Cl) : clA c = .agg [.str c.word, .lst (numEls c.args), .str c.text] := rfl
def great25 (nw na nt nv nn : Nat) : Bool := decide (20 < na) || decide (1000 < nw) || decide (1000 < nt) || decide (400 < nv) || decide (1000 < nn)
theorem great25_ok (word text name : List UInt8) (A V : AV) (na nv : Nat) (hA : (A = .nils ∧ na = 0) ∨ ∃ l, A = .lst (numEls l) ∧ na = l.length) (hV : (V = .nils ∧ nv = 0) ∨ ∃ l, V = .lst (numEls l) ∧ nv = l.length) (st sp : Int) :
    PCalls Tryz.prog n_isobarlaw25_great [.agg [.str word, A, .str text], .agg [.str name, .int .i64 st, .int .i64 sp, V]] (fun r => r = .bool (great25 word.length na text.length nv name.length)) := by
  refine pcalls_of_awp hmix c_isobarlaw25_great rfl ?_
  obtain ⟨B, hB⟩ : ∃ B, B = great25 word.length na text.length nv name.length := ⟨_, rfl⟩
  rw [← hB]
  unfold great25 at hB
  have hA1 : A.one = true ∧ A.cells = [A] := by rcases hA with ⟨rfl, _⟩ | ⟨l, rfl, _⟩ <;> exact ⟨rfl, rfl⟩
  have hV1 : V.one = true ∧ V.cells = [V] := by rcases hV with ⟨rfl, _⟩ | ⟨l, rfl, _⟩ <;> exact ⟨rfl, rfl⟩
  have hAv : ∀ σ, (view σ A).map (fun l => AV.int .i64 l.length) = some (.int .i64 na) := fun σ => by
    rcases hA with ⟨rfl, rfl⟩ | ⟨l, rfl, rfl⟩ <;> simp [numEls_len]
  have hVv : ∀ σ, (view σ V).map (fun l => AV.int .i64 l.length) = some (.int .i64 nv) := fun σ => by
    rcases hV with ⟨rfl, rfl⟩ | ⟨l, rfl, rfl⟩ <;> simp [numEls_len]
  by_cases h1 : 20 < na
  · have h1' : (20 : Int) < (na : Int) := by omega
    simp [a_isobarlaw25_great, boxOp, hA1, hV1, hAv, hVv, h1, h1', hB]
  have h1' : ¬ (20 : Int) < (na : Int) := by omega
  by_cases h2 : 1000 < word.length
  · have h2' : (1000 : Int) < (word.length : Int) := by omega
    simp [a_isobarlaw25_great, boxOp, hA1, hV1, hAv, hVv, h1, h1', h2, h2', hB]
  have h2' : ¬ (1000 : Int) < (word.length : Int) := by omega
  by_cases h3 : 1000 < text.length
  · have h3' : (1000 : Int) < (text.length : Int) := by omega
    simp [a_isobarlaw25_great, boxOp, hA1, hV1, hAv, hVv, h1, h1', h2, h2', h3, h3', hB]
  have h3' : ¬ (1000 : Int) < (text.length : Int) := by omega
  by_cases h4 : 400 < nv
  · have h4' : (400 : Int) < (nv : Int) := by omega
    simp [a_isobarlaw25_great, boxOp, hA1, hV1, hAv, hVv, h1, h1', h2, h2', h3, h3', h4, h4', hB]
  have h4' : ¬ (400 : Int) < (nv : Int) := by omega
  by_cases h5 : 1000 < name.length
  · have h5' : (1000 : Int) < (name.length : Int) := by omega
    simp [a_isobarlaw25_great, boxOp, hA1, hV1, hAv, hVv, h1, h1', h2, h2', h3, h3', h4, h4', h5, h5', hB]
  have h5' : ¬ (1000 : Int) < (name.length : Int) := by omega
  simp [a_isobarlaw25_great, boxOp, hA1, hV1, hAv, hVv, h1, h1', h2, h2', h3, h3', h4, h4', h5, h5', hB]
theorem great25_no {a b c d e : Nat} (h : great25 a b c d e = false) : a ≤ 1000 ∧ b ≤ 20 ∧ c ≤ 1000 ∧ d ≤ 400 ∧ e ≤ 1000 := by
  unfold great25 at h
  simp only [Bool.or_eq_false_iff, decide_eq_false_iff_not] at h
  omega
end Go.Proofs.YtipncibiodfmdaaGreatDoor
end
section
set_option linter.unusedSimpArgs false
set_option linter.unusedVariables false
set_option linter.constructorNameAsVariable false
namespace Go.Proofs.YtipncibiodfmdaaGreatDoor
open Go.ChangeShapes Go.WideShapes Go.ChangeAt Go.RowKit Go.ChangeMaps Go.Abs Go.Ser
theorem u8_of {n : Int} (h : (Lit.int .u8 n).wf = true) : ∃ c : UInt8, n = c.toNat := by
  have h1 : IntKind.u8.min = 0 := rfl
  have h2 : IntKind.u8.max = 255 := rfl
  simp only [Lit.wf, Bool.and_eq_true, decide_eq_true_eq] at h
  exact ⟨n.toNat.toUInt8, by simp; omega⟩
section
variable {H : Type} {enc : TypeId × Value → H} {w : World} {base : Nat} {spare : Nat → Bool} {held : Bool}
theorem ser_size : Tryz.prog.cellsOf 24 = 4 := by kernel_rfl
theorem ser_types : Tryz.prog.cellTypes Tryz.prog.depth 24 = some [9, 3, 3, 22] := by kernel_rfl
theorem str_size4 : Tryz.prog.cellsOf 9 = 1 := by kernel_rfl
theorem int_size4 : Tryz.prog.cellsOf 3 = 1 := by kernel_rfl
theorem nums_size4 : Tryz.prog.cellsOf 22 = 1 := by kernel_rfl
theorem ir_bytes4 {Im : Addr → Prop} {w : World} (s : ByteArray) : IR Im w (.str s.data.toList) (.string s) := by
  have : (.string s : Value) = .string ⟨s.data.toList.toArray⟩ := by cases s; simp
  rw [this]; exact .str _
set_option maxRecDepth 100000 in
theorem open_ser {r : Reach} {b0 : Nat} {v : Value} {d : DataW H} {ps : List MemPlace} (hval : Value.okWide Tryz.prog w r b0 24 v) (hd : DataW.Trod enc Tryz.prog w base spare held 24 v d ps) :
    ∃ s : Sr, SrOk s ∧ IR (oldIm w) w (srA s) v := by
  have hval' := hval
  simp only [Value.okWide, Tryz.underlying24] at hval'
  obtain ⟨cs, rfl, hsz, ts, hts, _, hcell⟩ := hval'
  rw [ser_types] at hts
  simp only [Option.some.injEq] at hts
  subst hts
  obtain ⟨fuel, hf⟩ := hd
  obtain ⟨xs, n, rfl, hx, hl, hxl, hall⟩ := DataW.trod_struct Tryz.underlying24 hf
  have hx2 : xs.length = 4 := hxl
  obtain ⟨x0, x1, x2, x3, rfl⟩ : ∃ x0 x1 x2 x3, xs = [x0, x1, x2, x3] := by
    match xs, hx2 with
    | [a, b, c, d], _ => exact ⟨a, b, c, d, rfl⟩
  have hl2 : cs.size = 4 := by rw [hsz, ser_size]
  obtain ⟨c0, c1, c2, c3, rfl⟩ : ∃ c0 c1 c2 c3, cs = #[c0, c1, c2, c3] := by
    obtain ⟨l⟩ := cs
    match l, hl2 with
    | [a, b, c, d], _ => exact ⟨a, b, c, d, rfl⟩
  have h0 : DataW.trod enc Tryz.prog w base spare held n 9 [c0] = some x0 := by simpa [str_size4, Value.cells] using hall 0 _ rfl
  have h1 : DataW.trod enc Tryz.prog w base spare held n 3 [c1] = some x1 := by simpa [int_size4, Value.cells] using hall 1 _ rfl
  have h2 : DataW.trod enc Tryz.prog w base spare held n 3 [c2] = some x2 := by simpa [int_size4, Value.cells] using hall 2 _ rfl
  have h3 : DataW.trod enc Tryz.prog w base spare held n 22 [c3] = some x3 := by simpa [nums_size4, Value.cells] using hall 3 _ rfl
  obtain ⟨s0, e0, _, w0⟩ := DataW.trod_string Tryz.underlying9 h0
  obtain ⟨m1, e1, _, w1⟩ := DataW.trod_int Tryz.underlying3 h1
  obtain ⟨m2, e2, _, w2⟩ := DataW.trod_int Tryz.underlying3 h2
  simp only [List.cons.injEq, and_true] at e0 e1 e2
  subst e0 e1 e2
  obtain ⟨u, hu, hck⟩ := hcell 3 c3 rfl
  have hu2 : u = 22 := by simpa using hu.symm
  subst hu2
  have hval3 : Value.okWide Tryz.prog w r b0 22 c3 := by simp only [Value.okWide, Tryz.underlying22]; exact hck
  have hcs : c3.cells = #[c3] := by
    rcases DataW.trod_slice Tryz.underlying22 h3 with ⟨hc, _⟩ | ⟨a, len, cap, elems, rest, n', _, hc, _⟩
    · simp only [List.cons.injEq, and_true] at hc; subst hc; rfl
    · simp only [List.cons.injEq, and_true] at hc; subst hc; rfl
  have hd3 : DataW.Trod enc Tryz.prog w base spare held 22 c3 x3.1 x3.2 := ⟨n, by rw [hcs]; exact h3⟩
  obtain ⟨l, wl, wk, hir⟩ := open_nums hval3 hd3
  obtain ⟨a1, a2⟩ := wf_i64 w1
  obtain ⟨b1, b2⟩ := wf_i64 w2
  refine ⟨⟨s0.data.toList, m1, m2, l⟩, ⟨by rw [Array.length_toList]; exact w0, a1, a2, b1, b2, wk, wl⟩, ?_⟩
  exact .agg _ [_, _, _, _] (by simp [srC, AV.one]) rfl fun j hj hj' => by
    match j, hj with
    | 0, _ => exact ir_bytes4 _
    | 1, _ => exact .int _ _
    | 2, _ => exact .int _ _
    | 3, _ => exact hir
end
end Go.Proofs.YtipncibiodfmdaaGreatDoor
end
section
set_option linter.unusedSimpArgs false
set_option linter.unusedVariables false
set_option linter.constructorNameAsVariable false
namespace Go.Proofs.YtipncibiodfmdaaGreatDoor
open Go.ChangeShapes Go.WideShapes Go.ChangeAt Go.RowKit Go.ChangeMaps Go.Abs
abbrev gSpace : Nat := 0
instance shpGlobs : Globs := ⟨[(gPow, Lib.pow10Tab.map (AV.int .u64)), (gSpace, Lib.asciiSpaceTab.map (AV.int .u8))]⟩
instance shpP : GPow where
  pow := List.Mem.head _
instance shpS : GSpc where
  spc := .tail _ (List.Mem.head _)
theorem gin_shp {l : List (String × DataW Unit)} {w : World} (h : laidMet Tryz.prog l w) (h3 : ("internal/strconv.uint64pow10", Rows.laid_internal_strconv_uint64pow10) ∈ l) (h4 : ("strings.asciiSpace", Rows.laid_strings_asciiSpace) ∈ l) : GlobsIn w := by
  intro p hp
  have hI : ∀ g, (∃ p ∈ Globs.tab, g = p.1) → ∀ j, gIm ⟨g, j, none⟩ := fun g hg j => ⟨rfl, hg⟩
  rcases hp with _ | ⟨_, _ | ⟨_, hp⟩⟩
  · obtain ⟨r, h⟩ := laidAt h h3
    have e : (Rows.laid_internal_strconv_uint64pow10 : DataW Unit) = Lib.tabData .u64 Lib.pow10Tab := by kernel_rfl
    rw [e] at h
    have := Lib.tabIs_of_head (g := gPow) (by kernel_rfl) (by kernel_rfl) Tryz.underlying176 Tryz.underlying56 (by kernel_rfl) (by kernel_rfl) h
    refine gok_one (n := "internal/strconv.uint64pow10") (by kernel_rfl) this (by simp) (by simp [AV.one]) ?_ (hI _ ⟨_, List.Mem.head _, rfl⟩)
    intro j hj
    have hj' : j < Lib.pow10Tab.length := by simpa using hj
    simp [hj']
    exact .int _ _
  · obtain ⟨r, h⟩ := laidAt h h4
    have e : (Rows.laid_strings_asciiSpace : DataW Unit) = Lib.tabData .u8 Lib.asciiSpaceTab := by kernel_rfl
    rw [e] at h
    have := Lib.tabIs_of_head (g := gSpace) (by kernel_rfl) (by kernel_rfl) Tryz.underlying140 Tryz.underlying5 (by kernel_rfl) (by kernel_rfl) h
    refine gok_one (n := "strings.asciiSpace") (by kernel_rfl) this (by simp) (by simp [AV.one]) ?_ (hI _ ⟨_, .tail _ (List.Mem.head _), rfl⟩)
    intro j hj
    have hj' : j < Lib.asciiSpaceTab.length := by simpa using hj
    simp [hj']
    exact .int _ _
  · cases hp
/-- So many blocks has the settled world. -/
noncomputable def lowS : Nat := (World.holding Tryz.prog default ⟨#[], #[], []⟩).heap.size
/-- A world that meets the condition: the settled one, the tables laid, and two blocks more for the table of blanks. -/
noncomputable def shpWorld (os : Os) : World :=
  let w0 := World.holding Tryz.prog os ⟨#[.cells #[.slice (some ⟨lowS + 1, 0, none⟩) 7 7, .slice none 0 0, .int .i64 2] 190,
    .cells #[.int .u16 9, .int .u16 13, .int .u16 1, .int .u16 32, .int .u16 133, .int .u16 101, .int .u16 160, .int .u16 5760, .int .u16 5600, .int .u16 8192, .int .u16 8202, .int .u16 1, .int .u16 8232, .int .u16 8233, .int .u16 1, .int .u16 8239, .int .u16 8287, .int .u16 48, .int .u16 12288, .int .u16 12288, .int .u16 1] 193], #[], []⟩
  let put (h : Array Obj) (g : Nat) (cs : Array Value) : Array Obj := h.modify g fun
    | .cells _ t frozen => .cells cs t frozen
    | o => o
  let h := put w0.heap gPow (litCells Rows.laid_internal_strconv_uint64pow10).toArray
  let h := put h gSpace (litCells Rows.laid_strings_asciiSpace).toArray
  let h := put h 1 #[.pointer (some ⟨lowS, 0, none⟩)]
  let h := put h 6 (litCells Rows.laid_math_bits_deBruijn32tab).toArray
  let h := put h 7 (litCells Rows.laid_math_bits_deBruijn64tab).toArray
  let h := put h 4 (litCells Rows.laid_unicode_utf8_first).toArray
  let h := put h 5 (litCells Rows.laid_unicode_utf8_acceptRanges).toArray
  { w0 with heap := h }
noncomputable abbrev shpBlocks : List Nat := [lowS, lowS + 1, gPow, gSpace, 1, 6, 7, 4, 5]
end Go.Proofs.YtipncibiodfmdaaGreatDoor
end
section
set_option linter.unusedSimpArgs false
set_option linter.unusedVariables false
set_option linter.constructorNameAsVariable false
namespace Go.Proofs.YtipncibiodfmdaaGreatDoor
open Go.ChangeShapes Go.WideShapes Go.ChangeAt Go.RowKit Go.ChangeMaps Go.Abs Go.Ser Go.Num
section
variable {H : Type} {enc : TypeId × Value → H} {w : World} {base : Nat} {spare : Nat → Bool} {held : Bool}
theorem call_size : Tryz.prog.cellsOf 40 = 3 := by kernel_rfl
theorem call_types : Tryz.prog.cellTypes Tryz.prog.depth 40 = some [9, 22, 9] := by kernel_rfl
set_option maxRecDepth 100000 in
theorem open_call {r : Reach} {b0 : Nat} {v : Value} {d : DataW H} {ps : List MemPlace} (hval : Value.okWide Tryz.prog w r b0 40 v) (hd : DataW.Trod enc Tryz.prog w base spare held 40 v d ps) :
    ∃ c : Cl, ClOk c ∧ IR (oldIm w) w (clA c) v := by
  have hval' := hval
  simp only [Value.okWide, Tryz.underlying40] at hval'
  obtain ⟨cs, rfl, hsz, ts, hts, _, hcell⟩ := hval'
  rw [call_types] at hts
  simp only [Option.some.injEq] at hts
  subst hts
  obtain ⟨fuel, hf⟩ := hd
  obtain ⟨xs, n, rfl, hx, hl, hxl, hall⟩ := DataW.trod_struct Tryz.underlying40 hf
  have hx2 : xs.length = 3 := hxl
  obtain ⟨x0, x1, x2, rfl⟩ : ∃ x0 x1 x2, xs = [x0, x1, x2] := by
    match xs, hx2 with
    | [a, b, c], _ => exact ⟨a, b, c, rfl⟩
  have hl2 : cs.size = 3 := by rw [hsz, call_size]
  obtain ⟨c0, c1, c2, rfl⟩ : ∃ c0 c1 c2, cs = #[c0, c1, c2] := by
    obtain ⟨l⟩ := cs
    match l, hl2 with
    | [a, b, c], _ => exact ⟨a, b, c, rfl⟩
  have h0 : DataW.trod enc Tryz.prog w base spare held n 9 [c0] = some x0 := by simpa [str_size4, Value.cells] using hall 0 _ rfl
  have h1 : DataW.trod enc Tryz.prog w base spare held n 22 [c1] = some x1 := by simpa [nums_size4, Value.cells] using hall 1 _ rfl
  have h2 : DataW.trod enc Tryz.prog w base spare held n 9 [c2] = some x2 := by simpa [str_size4, Value.cells] using hall 2 _ rfl
  obtain ⟨s0, e0, _, w0⟩ := DataW.trod_string Tryz.underlying9 h0
  obtain ⟨s2, e2, _, w2⟩ := DataW.trod_string Tryz.underlying9 h2
  simp only [List.cons.injEq, and_true] at e0 e2
  subst e0 e2
  obtain ⟨u, hu, hck⟩ := hcell 1 c1 rfl
  have hu2 : u = 22 := by simpa using hu.symm
  subst hu2
  have hval1 : Value.okWide Tryz.prog w r b0 22 c1 := by simp only [Value.okWide, Tryz.underlying22]; exact hck
  have hcs : c1.cells = #[c1] := by
    rcases DataW.trod_slice Tryz.underlying22 h1 with ⟨hc, _⟩ | ⟨a, len, cap, elems, rest, n', _, hc, _⟩
    · simp only [List.cons.injEq, and_true] at hc; subst hc; rfl
    · simp only [List.cons.injEq, and_true] at hc; subst hc; rfl
  have hd1 : DataW.Trod enc Tryz.prog w base spare held 22 c1 x1.1 x1.2 := ⟨n, by rw [hcs]; exact h1⟩
  obtain ⟨l, wl, wk, hir⟩ := open_nums hval1 hd1
  refine ⟨⟨s0.data.toList, l, s2.data.toList⟩, ⟨by rw [Array.length_toList]; exact w0, wk, wl, by rw [Array.length_toList]; exact w2⟩, ?_⟩
  exact .agg _ [_, _, _] (by simp [clC, AV.one]) rfl fun j hj hj' => by
    match j, hj with
    | 0, _ => exact ir_bytes4 _
    | 1, _ => exact hir
    | 2, _ => exact ir_bytes4 _
end
end Go.Proofs.YtipncibiodfmdaaGreatDoor
end
section
namespace Go
/-- The variables of a world are of their types, references among them. -/
def World.varsRefB (P : Program) (w : World) : Bool :=
  (List.range P.globals.size).all fun g =>
    match ((begin P (fun _ _ => 0) default).world.heap[g]?).bind Obj.row?, w.heap[g]? with
    | none, _ => true
    | some (zero, t), some (.cells cs t' frozen) => decide (t' = t) && decide (frozen = (0, 0)) && cs.size == zero.size && (!P.buildable t || Row.okRefB P w t cs)
    | _, _ => false
theorem World.shaped_ref {P : Program} {w : World} (hv : w.varsRefB P = true)
    (hr : (w.heap.toList.drop P.globals.size).take ((begin P (fun _ _ => 0) default).world.heap.size - P.globals.size) = (begin P (fun _ _ => 0) default).world.heap.toList.drop P.globals.size) : w.Shaped P := by
  constructor
  · intro g zero t hg hz
    have h := List.all_eq_true.1 hv g (List.mem_range.2 hg)
    rw [hz] at h
    split at h
    · rename_i he; cases he
    · rename_i z' t1 cs t' fr he hw
      simp only [Option.some.injEq, Prod.mk.injEq] at he
      obtain ⟨rfl, rfl⟩ := he
      simp only [Bool.and_eq_true, decide_eq_true_eq, beq_iff_eq, Bool.or_eq_true, Bool.not_eq_true'] at h
      obtain ⟨⟨⟨rfl, rfl⟩, hs⟩, hb⟩ := h
      refine ⟨cs, hw, hs, fun hbuild => ?_⟩
      rcases hb with hb | hb
      · rw [hbuild] at hb; cases hb
      · exact Row.ok_of_okRefB hb
    · cases h
  · intro k h1 h2
    have h := congrArg (fun l => l[k - P.globals.size]?) hr
    simp only [List.getElem?_take, List.getElem?_drop, Array.getElem?_toList] at h
    rwa [if_pos (by omega), Nat.add_sub_cancel' h1] at h
section
variable {H : Type} {enc : TypeId × Value → H}
theorem witness_ref {C : Checked} {os : Os} {f : FuncId} {fn : Func} {s : ChangeSpec} {conds : List PathCond} {apart : Bool} {X : World → Array Value → Prop} (w0 : World) (args : Array Value) (fuel : Nat) (hos : w0.os = os)
    (hv : (w0.forCall (fun _ _ => 0) ⟨#[], args, []⟩).varsRefB C.prog = true)
    (hr : ((w0.forCall (fun _ _ => 0) ⟨#[], args, []⟩).heap.toList.drop C.prog.globals.size).take ((begin C.prog (fun _ _ => 0) default).world.heap.size - C.prog.globals.size) = (begin C.prog (fun _ _ => 0) default).world.heap.toList.drop C.prog.globals.size)
    (hok : Input.okWideB C.prog (w0.forCall (fun _ _ => 0) ⟨#[], args, []⟩) f ⟨#[], args, []⟩ = true)
    (hpre : s.preB enc C.prog fn conds apart (w0.forCall (fun _ _ => 0) ⟨#[], args, []⟩).memory args fuel = true)
    (hsz : s.sizedB enc C.prog fn apart (w0.forCall (fun _ _ => 0) ⟨#[], args, []⟩).memory args fuel = true)
    (hx : X (w0.forCall (fun _ _ => 0) ⟨#[], args, []⟩).memory args) :
    ∃ (w : World) (tape : Tape) (i : Input), w.os = os ∧ (w.forCall tape i).Shaped C.prog ∧ i.vars = [] ∧ Input.okWide C.prog (w.forCall tape i) .any w.heap.size f i ∧
      ((s.pre enc C.prog fn conds apart (w.forCall tape i).memory i.args ∧ X (w.forCall tape i).memory i.args) ∧ sizedMet enc C.prog fn (OpenSpec.ofChange s) apart (w.forCall tape i).memory i.args) ∧ ({} : Assume).holds C.prog (lone (Frame.enter C.prog f i.args .normal) [] (w.forCall tape i)) := by
  refine ⟨w0, fun _ _ => 0, ⟨#[], args, []⟩, hos, World.shaped_ref hv hr, (Input.okWide_of_okWideB (base := 0) hok).1, (Input.okWide_of_okWideB hok).2, ⟨⟨ChangeSpec.pre_of_preB hpre, hx⟩, sizedMet_of_sizedB hsz⟩, ?_⟩
  simp only [Assume.holds]
  exact ⟨by simp, by simp, fun _ => Modest.zero, by simp, by simp⟩
end
end Go
end
section
set_option linter.unusedSimpArgs false
set_option linter.unusedVariables false
set_option linter.constructorNameAsVariable false
set_option maxHeartbeats 4000000
namespace Go.Shp
open Go.Num Go.Ser Go.Dec Go.Abs Go.Proofs.YtipncibiodfmdaaGreatDoor
theorem gn_neg (a : N) (h : okN a) : gn (negN a) := by
  unfold negN
  split
  · rename_i hg
    obtain ⟨_, h2⟩ := good_iff.1 hg
    have := h.2
    simp only [most] at h2
    exact .inl (good_iff.2 ⟨rfl, by simp only [most]; omega⟩)
  · exact .inr rfl
theorem gn_sub (a b : N) : gn (subN a b) := gn_add _ _
theorem gn_abs (a : N) (h : okN a) : gn (absN a) := by
  unfold absN
  split
  · exact .inl (good_iff.2 ⟨rfl, by simp only [most]; omega⟩)
  · exact .inr rfl
theorem gn_mul (a b : N) : gn (mulN a b) := by
  unfold mulN; split
  · exact gn_tell _
  · exact .inr rfl
theorem gn_root (a : N) : gn (rootN a) := by
  unfold rootN; split
  · exact gn_tell _
  · exact .inr rfl
theorem gn_round (a : N) (d : Int) : gn (roundN a d) := by
  unfold roundN; split
  · exact gn_tell _
  · exact .inr rfl
theorem gn_rise (v p : N) (args : List N) : gn (riseN v p args) := by
  unfold riseN
  split
  · exact gn_sub _ _
  · split
    · split
      · exact gn_add _ _
      · exact .inr rfl
    · exact .inr rfl
theorem gn_of {n : N} (h : rightN n = true) : gn n := by
  cases h1 : n.1 with
  | true => exact .inr (right_null h h1)
  | false => exact .inl (right_there h h1)
theorem gn_getD {l : List N} (h : ∀ n ∈ l, rightN n = true) (i : Nat) : gn (l.getD i nothing) := by
  rw [List.getD_eq_getElem?_getD]
  cases hy : l[i]? with
  | none => exact .inr rfl
  | some y => exact gn_of (h y (List.mem_of_getElem? hy))
theorem gn_arg {args : List N} (h : args.any (fun n => !good n) = false) (k : Nat) : gn (argN args k) := by
  unfold argN
  rw [List.getD_eq_getElem?_getD]
  cases hy : args[k]? with
  | none => exact .inr rfl
  | some y =>
    left
    have := List.any_eq_false.1 h y (List.mem_of_getElem? hy)
    simpa using this
theorem gn_value (w : Wd) {s : Sr} (hs : SrR s) (ho : oksN s.vals) {args : List N} (ha : args.any (fun n => !good n) = false) (n : Int) (i : Nat) : gn (valueW w s args n i) := by
  have hv := gn_getD hs.rs i
  have hvo : okN (s.vals.getD i nothing) := by
    rw [List.getD_eq_getElem?_getD]
    cases hy : s.vals[i]? with
    | none => exact ok_nothing
    | some y => exact ho y (List.mem_of_getElem? hy)
  have a0 := gn_arg ha 0
  have a1 := gn_arg ha 1
  have gz : gn zeroN := .inl (by decide)
  have go : gn oneN := .inl (by decide)
  cases w <;> simp only [valueW]
  case absolute => exact gn_abs _ hvo
  case negate => exact gn_neg _ hvo
  case squareRoot => exact gn_root _
  case invert => exact gn_div _ _
  case derivative => exact gn_sub _ _
  case integral => split; exact hv; exact gn_reckon _ _
  case isNonNull => split; exact gz; exact go
  case nonNegativeDerivative => exact gn_rise _ _ _
  case perSecond => exact gn_div _ _
  case keepLastValue =>
    split
    · unfold keptN
      split
      · exact .inr rfl
      · split
        · exact .inr rfl
        · exact gn_getD hs.rs _
    · exact hv
  case transformNull =>
    split
    · split
      · exact gz
      · exact a0
    · exact hv
  case scale => exact gn_mul _ _
  case offset => exact gn_add _ _
  case delay =>
    unfold aheadN
    split
    · exact .inr rfl
    · exact gn_getD hs.rs _
  case removeAboveValue => split; exact .inr rfl; exact hv
  case removeBelowValue => split; exact .inr rfl; exact hv
  case round => exact gn_round _ _
  case clamp =>
    split
    · exact hv
    · split
      · exact a0
      · split
        · exact a1
        · exact hv
  all_goals exact gn_reckon _ _
theorem ok_getD {l : List N} (h : oksN l) (i : Nat) : okN (l.getD i nothing) := by
  rw [List.getD_eq_getElem?_getD]
  cases hy : l[i]? with
  | none => exact ok_nothing
  | some y => exact h y (List.mem_of_getElem? hy)
theorem ok_value (w : Wd) {s : Sr} (ho : oksN s.vals) {args : List N} (ha : oksN args) (n : Int) (i : Nat) : okN (valueW w s args n i) := by
  have hv := ok_getD ho i
  have a0 : okN (argN args 0) := ok_getD ha 0
  have a1 : okN (argN args 1) := ok_getD ha 1
  have oz : okN zeroN := by unfold okN zeroN; decide
  have oo : okN oneN := by unfold okN oneN; decide
  have ort : ∀ k, oksN (s.vals.take k) := fun k x hx => ho x (List.mem_of_mem_take hx)
  cases w <;> simp only [valueW]
  case absolute => exact ok_abs _ hv
  case negate => exact ok_neg _ hv
  case squareRoot => exact ok_root _
  case invert => exact ok_div _ _
  case derivative => exact ok_sub _ _
  case integral => split; exact hv; exact reckon_oks _ (ort _)
  case isNonNull => split; exact oz; exact oo
  case nonNegativeDerivative => exact ok_rise _ _ _
  case perSecond => exact ok_div _ _
  case keepLastValue =>
    split
    · unfold keptN
      split
      · exact ok_nothing
      · split
        · exact ok_nothing
        · exact ok_getD ho _
    · exact hv
  case transformNull =>
    split
    · split
      · exact oz
      · exact a0
    · exact hv
  case scale => exact ok_mul _ _
  case offset => exact ok_add _ _
  case delay =>
    unfold aheadN
    split
    · exact ok_nothing
    · exact ok_getD ho _
  case removeAboveValue => split; exact ok_nothing; exact hv
  case removeBelowValue => split; exact ok_nothing; exact hv
  case round => exact ok_round _ _
  case clamp =>
    split
    · exact hv
    · split
      · exact a0
      · split
        · exact a1
        · exact hv
  all_goals exact reckon_oks _ fun x hx => ort _ x (List.mem_of_mem_drop hx)
theorem ok_vals (w : Wd) {s : Sr} (ho : oksN s.vals) {args : List N} (ha : oksN args) (n : Int) : oksN (valsW w s args n) := fun v hv => by
  obtain ⟨i, _, rfl⟩ := List.mem_map.1 hv
  exact ok_value w ho ha n i
theorem vals_len (w : Wd) (s : Sr) (args : List N) (n : Int) : (valsW w s args n).length = s.vals.length := by simp [valsW]
/-- What comes of a call but summarize. -/
theorem apply_long {call : List UInt8} {s x : Sr} (ho : oksN s.vals) {args : List N} {text : List UInt8} (h : applyS call s args text = .ok x) (hns : ¬ call = Wd.summarize.txt) : ∃ w n, call = w.txt ∧ SrR s ∧ x = ⟨labelS call s.name args text, s.start, s.step, valsW w s args n⟩ ∧ x.name.length ≤ 400 ∧ args.any (fun n => !good n) = false := by
  unfold applyS at h
  split at h
  · cases h
  rename_i w hw
  have hcw := wordOf_some hw
  split at h
  · cases h
  rename_i hr
  split at h
  · cases h
  split at h
  · cases h
  rename_i ha
  split at h
  · rename_i n how _ _
    simp only at h
    split at h
    · cases h
    rename_i hl
    split at h
    · rename_i hsm
      exact absurd (hsm ▸ hcw) hns
    · cases h
      exact ⟨w, n, hcw, right_iff.1 (by simpa using hr), rfl, by simp only; omega, by simpa using ha⟩
  · cases h
theorem long_right {call : List UInt8} {s x : Sr} (ho : oksN s.vals) {args : List N} {text : List UInt8} (h : applyS call s args text = .ok x) (hns : ¬ call = Wd.summarize.txt) : SrR x ∧ x.vals.length = s.vals.length ∧ x.start = s.start ∧ x.step = s.step := by
  obtain ⟨w, n, _, hs, rfl, hl, ha⟩ := apply_long ho h hns
  refine ⟨⟨hl, by rw [vals_len]; exact hs.vl, hs.p0, hs.p1, hs.s0, hs.s1, fun v hv => ?_⟩, vals_len _ _ _ _, rfl, rfl⟩
  obtain ⟨i, _, rfl⟩ := List.mem_map.1 hv
  exact gn_right (gn_value w hs ho ha n i)
theorem sr_ok {s : Sr} (h : SrR s) (ho : oksN s.vals) : SrOk s := by
  have := h.nm
  have := h.s0
  have := h.s1
  have := h.p0
  have := h.p1
  have := h.vl
  exact ⟨by omega, by omega, by omega, by omega, by omega, by omega, ho⟩
end Go.Shp
namespace Go.Proofs.YtipncibiodfmdaaGreatDoor
open Go.Abs Go.Num Go.Ser Go.Dec Go.Shp
variable {G : Globs}
end Go.Proofs.YtipncibiodfmdaaGreatDoor
end
section
set_option linter.unusedSimpArgs false
set_option linter.unusedVariables false
set_option linter.constructorNameAsVariable false
set_option maxHeartbeats 4000000
namespace Go.Shp
open Go.Num Go.Ser Go.Dec Go.Abs Go.Proofs.YtipncibiodfmdaaGreatDoor
theorem label_len (w : Wd) (name : List UInt8) (args : List N) (ho : oksN args) : (labelS w.txt name args []).length ≤ w.txt.length + 3 + name.length + 22 * args.length := by
  have h1 := join_le (name :: prns args)
  have h2 := prns_sum args ho
  have h3 := prns_length args
  simp only [List.map_cons, List.sum_cons, List.length_cons] at h1
  simp [labelS]
  omega
theorem apply_of {w : Wd} (hns : ¬ w = .summarize) {s : Sr} (hs : SrR s) {args : List N} (ho : oksN args) (h1 : w.takes.1 ≤ args.length) (h2 : args.length ≤ w.takes.2) (hg : args.any (fun n => !good n) = false) {n : Int} (hw : wholeW w s args = some n) (hl : w.txt.length + 3 + s.name.length + 22 * args.length ≤ 400) :
    applyS w.txt s args [] = .ok ⟨labelS w.txt s.name args [], s.start, s.step, valsW w s args n⟩ := by
  have hll := label_len w s.name args ho
  unfold applyS
  rw [wordOf_txt]
  simp only
  rw [if_neg (by rw [right_iff.2 hs]; decide), if_neg (by rintro (h | h | h); omega; omega; exact h.1 rfl), if_neg (by rw [hg]; decide), hw]
  simp only [howS, if_true]
  rw [if_neg (by omega), if_neg hns]
theorem whole_mul (k lo hi : Int) (h1 : lo ≤ k) (h2 : k ≤ hi) : wholeS (false, k * 1000000) lo hi = some k := by
  unfold wholeS
  simp only
  rw [Int.mul_ediv_cancel _ (by decide), if_pos ⟨by simp, h1, h2⟩]
theorem vals_get (w : Wd) (s : Sr) (args : List N) (n : Int) {i : Nat} (h : i < s.vals.length) : (valsW w s args n)[i]? = some (valueW w s args n i) := by simp [valsW, h]
theorem vals_getD (w : Wd) (s : Sr) (args : List N) (n : Int) {i : Nat} (h : i < s.vals.length) : (valsW w s args n).getD i nothing = valueW w s args n i := by
  rw [List.getD_eq_getElem?_getD, vals_get w s args n h]; rfl
end Go.Shp
namespace Go.Proofs.YtipncibiodfmdaaGreatDoor
open Go.Abs Go.Num Go.Ser Go.Dec Go.Shp
variable {G : Globs}
end Go.Proofs.YtipncibiodfmdaaGreatDoor
end
section
set_option linter.unusedSimpArgs false
set_option linter.unusedVariables false
set_option linter.constructorNameAsVariable false
set_option maxHeartbeats 4000000
namespace Go.Shp
open Go.Num Go.Ser Go.Dec Go.Abs Go.Proofs.YtipncibiodfmdaaGreatDoor
theorem ahead_prev {l : List N} {i : Nat} (hi : i < l.length) : aheadN l i 1 = prevN l i := by
  unfold aheadN prevN
  by_cases h : i = 0
  · rw [if_pos h, if_pos (by omega)]
  · rw [if_neg h, if_neg (by omega)]
    congr 1; omega
end Go.Shp
namespace Go.Proofs.YtipncibiodfmdaaGreatDoor
open Go.Abs Go.Num Go.Ser Go.Dec Go.Shp
variable {G : Globs}
theorem rAhead_ok (l : List N) (i : Nat) (n : Int) (hi : i < l.length) (hl : l.length ≤ 100000) (h0 : -1125899906842624 ≤ n) (h1 : n ≤ 1125899906842624) :
    PCalls Tryz.prog n_isobarref25_ahead [.lst (numEls l), .int .i64 i, .int .i64 n] (fun r => r = numA (aheadN l i n)) := by
  refine pcalls_of_awp hmix c_isobarref25_ahead rfl ?_
  have hlen := numEls_len l
  have kN := rNothing_ok (G := G)
  rw [numA_eq] at kN
  have w1 : IntKind.i64.wrap ((i : Int) - l.length) = (i : Int) - l.length := wrap_i64 (by omega) (by omega)
  have w2 : IntKind.i64.wrap ((i : Int) - n) = (i : Int) - n := wrap_i64 (by omega) (by omega)
  by_cases hc : (i : Int) < n ∨ n ≤ (i : Int) - l.length
  · have e : aheadN l i n = nothing := by unfold aheadN; rw [if_pos hc]
    rw [e]
    by_cases hc1 : (i : Int) < n
    · simp [a_isobarref25_ahead, hc1]
      refine ac_same kN (by simp) ?_
      rintro r rfl
      simp [splice, numA]
    · have hc2 : n ≤ (i : Int) - l.length := hc.resolve_left hc1
      simp [a_isobarref25_ahead, hc1, hlen, w1, hc2]
      refine ac_same kN (by simp) ?_
      rintro r rfl
      simp [splice, numA]
  · have hc1 : ¬ (i : Int) < n := fun h => hc (.inl h)
    have hc2 : ¬ n ≤ (i : Int) - l.length := fun h => hc (.inr h)
    obtain ⟨j, hj⟩ : ∃ j : Nat, (i : Int) - n = j := ⟨((i : Int) - n).toNat, by omega⟩
    have hjl : j < l.length := by omega
    have w3 : IntKind.i64.wrap (j : Int) = j := wrap_i64 (by omega) (by omega)
    have e : aheadN l i n = l.getD j nothing := by unfold aheadN; rw [if_neg hc, hj]; rfl
    obtain ⟨y, hy⟩ : ∃ y, l[j]? = some y := ⟨_, List.getElem?_eq_getElem hjl⟩
    have hgy : l.getD j nothing = y := by rw [List.getD_eq_getElem?_getD, hy]; rfl
    have hse := numEls_get hy
    obtain ⟨hx1, hx2⟩ := List.getElem?_eq_some_iff.1 hse
    rw [e, hgy]
    simp [a_isobarref25_ahead, hc1, hlen, w1, hc2, w2, w3, hj, hjl, hx1, hx2, splice, numA]
theorem rRise_ok (v p : N) (args : List N) (hv : okN v) (hp : okN p) (ha : oksN args) (hl : args.length ≤ 1) :
    PCalls Tryz.prog n_isobarref25_rise [numA v, numA p, .lst (numEls args)] (fun r => r = numA (riseN v p args)) := by
  refine pcalls_of_awp hmix c_isobarref25_rise rfl ?_
  have kN := rNothing_ok (G := G)
  have kI := rInt_ok (G := G) 1 (by decide) (by decide)
  have e1 : tell (1 * 1000000) = oneN := by decide
  rw [e1, numA_eq] at kI
  have kS := rnSub_ok (G := G) v p hv hp
  rw [numA_eq] at kN
  obtain ⟨d, hd⟩ : ∃ d, d = subN v p := ⟨_, rfl⟩
  obtain ⟨R, hR⟩ : ∃ R, R = riseN v p args := ⟨_, rfl⟩
  rw [← hR]
  unfold riseN at hR
  rw [← hd] at kS hR
  rw [numA_eq v, numA_eq p, numA_eq d] at kS
  rw [numA_eq v, numA_eq p]
  simp [a_isobarref25_rise, splice]
  refine ac_same kS (by simp) ?_
  rintro r rfl
  cases hd1 : d.1 with
  | true =>
    have hR2 : R = d := by rw [hR, if_pos (.inl hd1)]
    simp [splice, numA, hd1, hR2]
  | false =>
  by_cases hd2 : 0 ≤ d.2
  · have hR2 : R = d := by rw [hR, if_pos (.inr hd2)]
    simp [splice, numA, hd1, hd2, hR2]
  have hnn : ¬ (d.1 = true ∨ 0 ≤ d.2) := by rw [hd1]; rintro (h | h); cases h; exact hd2 h
  rw [if_neg hnn] at hR
  match args, ha, hl, hR with
  | [], _, _, hR =>
    simp only at hR
    subst hR
    simp [splice, hd1, hd2, numEls]
    refine ac_same kN (by simp) ?_
    rintro r rfl
    simp [splice, numA]
  | [a], ha, _, hR =>
    simp only at hR
    have hao := ha a (by simp)
    have kC := rnCmp_ok (G := G) v a hv hao
    have kB := rnSub_ok (G := G) a p hao hp
    have kA := rnAdd_ok (G := G) (subN a p) v (ok_sub a p) hv
    have kE := rnAdd_ok (G := G) (addN (subN a p) v) oneN (ok_add _ _) (by unfold okN oneN; decide)
    obtain ⟨c, hc⟩ : ∃ c, c = cmpN v a := ⟨_, rfl⟩
    rw [← hc] at kC hR
    obtain ⟨x1, hx1⟩ : ∃ x, x = subN a p := ⟨_, rfl⟩
    rw [← hx1] at kB kA kE hR
    obtain ⟨x2, hx2⟩ : ∃ x, x = addN x1 v := ⟨_, rfl⟩
    rw [← hx2] at kA kE hR
    obtain ⟨x3, hx3⟩ : ∃ x, x = addN x2 oneN := ⟨_, rfl⟩
    rw [← hx3] at kE hR
    rw [numA_eq v, numA_eq a] at kC
    rw [numA_eq a, numA_eq p, numA_eq x1] at kB
    rw [numA_eq x1, numA_eq v, numA_eq x2] at kA
    rw [numA_eq x2, numA_eq oneN, numA_eq x3] at kE
    simp [splice, hd1, hd2, numEls]
    refine qc_same kC (by simp) (by simp) ?_
    by_cases hc0 : c ≤ 0
    · rw [if_pos hc0] at hR
      subst hR
      simp [hc0]
      refine qc_same kB (by simp) (by simp) ?_
      simp
      refine qc_same kA (by simp) (by simp) ?_
      simp
      refine qc_same kI (by simp) (by simp) ?_
      simp
      refine qc_same kE (by simp) (by simp) ?_
      simp [splice, numA]
    · rw [if_neg hc0] at hR
      subst hR
      simp [hc0]
      refine ac_same kN (by simp) ?_
      rintro r rfl
      simp [splice, numA]
  | _ :: _ :: _, _, hl, _ => simp at hl
theorem rWay_ok (w : Wd) (hw : w ∈ [Wd.movingAverage, .movingSum, .movingMin, .movingMax]) : PCalls Tryz.prog n_isobarref25_way [.str w.txt] (fun r => r = .int .i64 w.way) := by
  refine pcalls_of_awp hmix c_isobarref25_way rfl ?_
  simp only [List.mem_cons, List.not_mem_nil, or_false] at hw
  rcases hw with rfl | rfl | rfl | rfl <;> simp [a_isobarref25_way, Wd.txt, Wd.way]
theorem rKept_ok (l : List N) (i : Nat) (m : Int) (hi : i < l.length) (hl : l.length ≤ 100000) (hn : (l.getD i nothing).1 = true) (h0 : -9223372036854775808 ≤ m) (h1 : m ≤ 9223372036854775807) :
    PCalls Tryz.prog n_isobarref25_kept [.lst (numEls l), .int .i64 i, .int .i64 m] (fun r => r = numA (keptN l i m)) := by
  refine pcalls_of_awp hmix c_isobarref25_kept rfl ?_
  have hlen := numEls_len l
  have kN := rNothing_ok (G := G)
  rw [numA_eq] at kN
  obtain ⟨R, hR⟩ : ∃ R, R = keptN l i m := ⟨_, rfl⟩
  rw [← hR]
  unfold keptN at hR
  simp [a_isobarref25_kept, splice]
  refine lp_join 0 (fun f σ => ∃ j : Nat, j ≤ i + 1 ∧ lastK l i = lastK l j ∧ (j = 0 ∨ ∃ q, j = q + 1 ∧ (l.getD q nothing).1 = false) ∧ f 0 = .lst (numEls l) ∧ f 1 = .int .i64 i ∧ f 2 = .int .i64 m ∧ f 6 = .ptr 0 0 ∧ f 7 = .int .i64 ((j : Int) - 1) ∧ σ = [.var 33 [.bool false, .int .i64 0]]) ?_ ?_
  · rintro f σ ⟨j, hj, hlk, hend, f0, f1, f2, f6, f7, rfl⟩
    simp [f0, f1, f2, f6, f7]
    refine lp_join 2 (fun g σ => g 0 = .lst (numEls l) ∧ g 2 = .int .i64 m ∧ g 6 = .ptr 0 0 ∧ g 7 = .int .i64 ((j : Int) - 1) ∧ g 8 = .int .i64 (nextK l i) ∧ σ = [.var 33 [.bool false, .int .i64 0]]) ?_ ?_
    · rintro g σ ⟨g0, g2, g6, g7, g8, rfl⟩
      have hnb : nextK l i ≤ l.length := by
        unfold nextK
        have := List.takeWhile_sublist (l := l.drop i) (fun n : N => n.1)
        have := this.length_le
        simp at this; omega
      obtain ⟨e, he⟩ : ∃ e, e = nextK l i := ⟨_, rfl⟩
      rw [hlk, ← he] at hR
      rw [← he] at g8 hnb
      rcases hend with rfl | ⟨q, rfl, hq⟩
      · have e1 : lastK l 0 = none := rfl
        rw [e1] at hR
        simp only at hR
        subst hR
        simp at g7
        simp [g0, g2, g6, g7, g8]
        refine ac_same kN (by simp) ?_
        rintro r rfl
        simp [g6, splice, numA]
      · rw [lastK_there hq] at hR
        simp only at hR
        have hql : q < l.length := by omega
        obtain ⟨z, hz⟩ : ∃ z, l[q]? = some z := ⟨_, List.getElem?_eq_getElem hql⟩
        have hgz : l.getD q nothing = z := by rw [List.getD_eq_getElem?_getD, hz]; rfl
        have hzs := numEls_get hz
        obtain ⟨hz1, hz2⟩ := List.getElem?_eq_some_iff.1 hzs
        have w1 : IntKind.i64.wrap ((e : Int) - q) = (e : Int) - q := wrap_i64 (by omega) (by omega)
        have w2 : IntKind.i64.wrap ((e : Int) - q - 1) = (e : Int) - q - 1 := wrap_i64 (by omega) (by omega)
        have hq1 : (((q + 1 : Nat) : Int) - 1) = q := by omega
        rw [hq1] at g7
        have hq0 : ¬ ((q : Int) < 0) := by omega
        rw [hgz] at hR
        by_cases hc : 0 ≤ m ∧ m < (e : Int) - q - 1
        · rw [if_pos hc] at hR
          subst hR
          simp [g0, g2, g6, g7, g8, hq0, w1, w2, hc.1, hc.2]
          refine ac_same kN (by simp) ?_
          rintro r rfl
          simp [g6, splice, numA]
        · rw [if_neg hc] at hR
          subst hR
          by_cases hm0 : 0 ≤ m
          · have hm1 : ¬ m < (e : Int) - q - 1 := fun h => hc ⟨hm0, h⟩
            simp [g0, g2, g6, g7, g8, hq0, w1, w2, hm0, hm1, hz1, hz2, hql, splice, numA]
          · simp [g0, g2, g6, g7, g8, hq0, w1, w2, hm0, hz1, hz2, hql, splice, numA]
    · refine lp_startx (fun x g σ => ∃ e : Nat, x = l.length - e ∧ i ≤ e ∧ e ≤ l.length ∧ (∀ x, i ≤ x → x < e → (l.getD x nothing).1 = true) ∧ g 0 = .lst (numEls l) ∧ g 2 = .int .i64 m ∧ g 6 = .ptr 0 0 ∧ g 7 = .int .i64 ((j : Int) - 1) ∧ g 8 = .int .i64 e ∧ σ = [.var 33 [.bool false, .int .i64 0]]) (l.length - i) ?_ ?_
      · exact ⟨i, rfl, Nat.le_refl _, by omega, fun x h1 h2 => by omega, by simp [f0], by simp [f2], by simp [f6], by simp [f7], by simp, rfl⟩
      rintro x g σ ⟨e, rfl, hie, hel, hrun, g0, g2, g6, g7, g8, rfl⟩
      by_cases hlt2 : e < l.length
      · have hlt2' : (e : Int) < (l.length : Int) := by omega
        obtain ⟨z, hz⟩ : ∃ z, l[e]? = some z := ⟨_, List.getElem?_eq_getElem hlt2⟩
        have hgz : l.getD e nothing = z := by rw [List.getD_eq_getElem?_getD, hz]; rfl
        have hzs := numEls_get hz
        obtain ⟨hz1, hz2⟩ := List.getElem?_eq_some_iff.1 hzs
        have hwe : IntKind.i64.wrap ((e : Int) + 1) = (e : Int) + 1 := wrap_i64 (by omega) (by omega)
        cases hze : z.1 with
        | true =>
          simp [g0, g8, hlen, hlt2, hlt2', hz1, hz2, hze, hwe]
          refine nx_intro (l.length - (e + 1)) (by omega) ⟨e + 1, rfl, by omega, by omega, fun x h1 h2 => ?_, by simp [g0], by simp [g2], by simp [g6], by simp [g7], by simp, rfl⟩
          by_cases hxe : x = e
          · subst hxe; rw [hgz]; exact hze
          · exact hrun x h1 (by omega)
        | false =>
          have hnx := nextK_run (l := l) (e - i) i (fun x h1 h2 => hrun x h1 (by omega)) (by omega) (by rw [show i + (e - i) = e by omega]; exact .inr (by rw [hgz]; exact hze))
          rw [show i + (e - i) = e by omega] at hnx
          simp [g0, g8, hlen, hlt2, hlt2', hz1, hz2, hze]
          exact jn_intro ⟨by simp [g0], by simp [g2], by simp [g6], by simp [g7], by simp [g8, hnx], rfl⟩
      · have : e = l.length := by omega
        subst this
        have hnx := nextK_run (l := l) (l.length - i) i (fun x h1 h2 => hrun x h1 (by omega)) (by omega) (.inl (by omega))
        rw [show i + (l.length - i) = l.length by omega] at hnx
        simp [g0, g8, hlen]
        exact jn_intro ⟨by simp [g0], by simp [g2], by simp [g6], by simp [g7], by simp [g8, hnx], rfl⟩
  · refine lp_startx (fun x f σ => ∃ j : Nat, x = j ∧ j ≤ i + 1 ∧ lastK l i = lastK l j ∧ f 0 = .lst (numEls l) ∧ f 1 = .int .i64 i ∧ f 2 = .int .i64 m ∧ f 6 = .ptr 0 0 ∧ f 7 = .int .i64 ((j : Int) - 1) ∧ σ = [.var 33 [.bool false, .int .i64 0]]) (i + 1) ?_ ?_
    · exact ⟨i + 1, rfl, Nat.le_refl _, (lastK_null hn).symm, by simp, by simp, by simp, by simp, by simp, rfl⟩
    rintro j f σ ⟨j', rfl, hj, hlk, f0, f1, f2, f6, f7, rfl⟩
    cases j with
    | zero =>
      simp [f0, f7]
      exact jn_intro ⟨0, by omega, hlk, .inl rfl, by simp [f0], by simp [f1], by simp [f2], by simp [f6], by simp [f7], rfl⟩
    | succ q =>
      have hq1 : (((q + 1 : Nat) : Int) - 1) = q := by omega
      rw [hq1] at f7
      have hql : q < l.length := by omega
      obtain ⟨z, hz⟩ : ∃ z, l[q]? = some z := ⟨_, List.getElem?_eq_getElem hql⟩
      have hgz : l.getD q nothing = z := by rw [List.getD_eq_getElem?_getD, hz]; rfl
      have hzs := numEls_get hz
      obtain ⟨hz1, hz2⟩ := List.getElem?_eq_some_iff.1 hzs
      have w1 : IntKind.i64.wrap ((q : Int) - 1) = (q : Int) - 1 := wrap_i64 (by omega) (by omega)
      cases hzn : z.1 with
      | true =>
        simp [f0, f7, hlen, hql, hz1, hz2, hzn, w1]
        refine nx_intro q (by omega) ⟨q, rfl, by omega, by rw [hlk, lastK_null (by rw [hgz]; exact hzn)], by simp [f0], by simp [f1], by simp [f2], by simp [f6], by simp, rfl⟩
      | false =>
        simp [f0, f7, hlen, hql, hz1, hz2, hzn]
        exact jn_intro ⟨q + 1, hj, hlk, .inr ⟨q, rfl, by rw [hgz]; exact hzn⟩, by simp [f0], by simp [f1], by simp [f2], by simp [f6], by simp [f7], rfl⟩
end Go.Proofs.YtipncibiodfmdaaGreatDoor
end
section
set_option linter.unusedSimpArgs false
set_option linter.unusedVariables false
set_option linter.constructorNameAsVariable false
set_option maxHeartbeats 8000000
namespace Go.Proofs.YtipncibiodfmdaaGreatDoor
open Go.Abs Go.Num Go.Ser Go.Dec Go.Shp
variable {G : Globs}
theorem rOne : PCalls Tryz.prog n_isobarref02_Int [.int .i64 1] (fun r => r = .agg [.bool false, .int .i64 1000000]) := by
  have kI := rInt_ok (G := G) 1 (by decide) (by decide)
  have e1 : tell (1 * 1000000) = oneN := by decide
  rw [e1] at kI
  exact kI
theorem rZero : PCalls Tryz.prog n_isobarref02_Int [.int .i64 0] (fun r => r = .agg [.bool false, .int .i64 0]) := by
  have kI := rInt_ok (G := G) 0 (by decide) (by decide)
  have hz : tell (0 * 1000000) = zeroN := by decide
  rw [hz] at kI
  exact kI
theorem rValue_ok (w : Wd) (hns : w ≠ .summarize) (s : Sr) (h : SrOk s) (hR : SrR s) (args : List N) (ho : oksN args) (h1 : w.takes.1 ≤ args.length) (h2 : args.length ≤ w.takes.2) (n : Int) (hW : wholeW w s args = some n) (i : Nat) (hi : i < s.vals.length) :
    PCalls Tryz.prog n_isobarref25_value [.str w.txt, srA s, .lst (numEls args), .int .i64 i, .int .i64 n] (fun r => r = numA (valueW w s args n i)) := by
  refine pcalls_of_awp hmix c_isobarref25_value rfl ?_
  have hlen := numEls_len s.vals
  have hvl := hR.vl
  obtain ⟨v, hy⟩ : ∃ v, s.vals[i]? = some v := ⟨_, List.getElem?_eq_getElem hi⟩
  have hgy : s.vals.getD i nothing = v := by rw [List.getD_eq_getElem?_getD, hy]; rfl
  have hvo := h.vs v (List.mem_of_getElem? hy)
  have hse := numEls_get hy
  obtain ⟨hx1, hx2⟩ := List.getElem?_eq_some_iff.1 hse
  have kP := rAhead_ok (G := G) s.vals i 1 hi (by omega) (by decide) (by decide)
  rw [ahead_prev hi] at kP
  have hpo : okN (prevN s.vals i) := by
    unfold prevN
    split
    · exact ok_nothing
    · rw [List.getD_eq_getElem?_getD]
      cases hz : s.vals[i - 1]? with
      | none => exact ok_nothing
      | some z => exact h.vs z (List.mem_of_getElem? hz)
  obtain ⟨p, hp⟩ : ∃ p, p = prevN s.vals i := ⟨_, rfl⟩
  rw [← hp] at kP hpo
  rw [numA_eq p] at kP
  have w1 : IntKind.i64.wrap ((i : Int) + 1) = (i : Int) + 1 := wrap_i64 (by omega) (by omega)
  have hnb : -1125899906842624 ≤ n ∧ n ≤ 1125899906842624 := by
    cases hbw : w.bounds with
    | none => have := whole_none hW hbw; omega
    | some lh =>
      obtain ⟨lo, hi⟩ := lh
      have hb : -1125899906842624 ≤ lo ∧ hi ≤ 1125899906842624 := by
        revert hbw; cases w <;> simp [Wd.bounds] <;> omega
      rcases whole_bounds hW lo hi hbw with ⟨h, _⟩ | ⟨h, h', _⟩ <;> omega
  rw [srA_eq s]
  obtain ⟨R, hRd⟩ : ∃ R, R = valueW w s args n i := ⟨_, rfl⟩
  rw [← hRd]
  simp only [valueW, hgy, ← hp] at hRd
  have h2l := numEls_two s.vals
  cases w
  case absolute =>
    simp only at hRd
    have k := rnAbs_ok (G := G) v hvo
    rw [← hRd, numA_eq v, numA_eq R] at k
    simp [a_isobarref25_value, Wd.txt, hlen, hx1, hx2, hi, splice]
    refine ⟨?_, ?_⟩
    all_goals
      refine qc_same kP (by simp) (by simp) ?_
      simp [hlen, hx1, hx2, hi, splice]
      refine ac_same k (by simp) ?_
      rintro r rfl
      simp [splice, numA]
  case negate =>
    simp only at hRd
    have k := rnNeg_ok (G := G) v hvo
    rw [← hRd, numA_eq v, numA_eq R] at k
    simp [a_isobarref25_value, Wd.txt, hlen, hx1, hx2, hi, splice]
    refine ⟨?_, ?_⟩
    all_goals
      refine qc_same kP (by simp) (by simp) ?_
      simp [hlen, hx1, hx2, hi, splice]
      refine ac_same k (by simp) ?_
      rintro r rfl
      simp [splice, numA]
  case squareRoot =>
    simp only at hRd
    have k := rnRoot_ok (G := G) v hvo
    rw [← hRd, numA_eq v, numA_eq R] at k
    simp [a_isobarref25_value, Wd.txt, hlen, hx1, hx2, hi, splice]
    refine ⟨?_, ?_⟩
    all_goals
      refine qc_same kP (by simp) (by simp) ?_
      simp [hlen, hx1, hx2, hi, splice]
      refine ac_same k (by simp) ?_
      rintro r rfl
      simp [splice, numA]
  case derivative =>
    simp only at hRd
    have k := rnSub_ok (G := G) v p hvo hpo
    rw [← hRd, numA_eq v, numA_eq p, numA_eq R] at k
    simp [a_isobarref25_value, Wd.txt, hlen, hx1, hx2, hi, splice]
    refine ⟨?_, ?_⟩
    all_goals
      refine qc_same kP (by simp) (by simp) ?_
      simp [hlen, hx1, hx2, hi, splice]
      refine ac_same k (by simp) ?_
      rintro r rfl
      simp [splice, numA]
  case round =>
    simp only at hRd
    have k := rnRound_ok (G := G) v hvo n
    rw [← hRd, numA_eq v, numA_eq R] at k
    simp [a_isobarref25_value, Wd.txt, hlen, hx1, hx2, hi, splice]
    refine ⟨?_, ?_⟩
    all_goals
      refine qc_same kP (by simp) (by simp) ?_
      simp [hlen, hx1, hx2, hi, splice]
      refine ac_same k (by simp) ?_
      rintro r rfl
      simp [splice, numA]
  case invert =>
    simp only at hRd
    have k := rnDiv_ok (G := G) oneN v (by unfold okN oneN; decide) hvo
    rw [← hRd, numA_eq oneN, numA_eq v, numA_eq R] at k
    simp [a_isobarref25_value, Wd.txt, hlen, hx1, hx2, hi, splice]
    refine ⟨?_, ?_⟩
    all_goals
      refine qc_same kP (by simp) (by simp) ?_
      simp [hlen, hx1, hx2, hi, splice]
      refine qc_same rOne (by simp) (by simp) ?_
      simp
      refine qc_same k (by simp) (by simp) ?_
      simp [splice, numA]
  case scale =>
    simp only at hRd
    obtain ⟨a, rfl⟩ : ∃ a, args = [a] := by
      match args, h1, h2 with
      | [a], _, _ => exact ⟨a, rfl⟩
    have hao := ho a (by simp)
    have ea : argN [a] 0 = a := rfl
    have k := rnMul_ok (G := G) v a hvo hao
    rw [ea] at hRd
    rw [← hRd, numA_eq v, numA_eq a, numA_eq R] at k
    simp [a_isobarref25_value, Wd.txt, hlen, hx1, hx2, hi, splice]
    refine ⟨?_, ?_⟩
    all_goals
      refine qc_same kP (by simp) (by simp) ?_
      simp [hlen, hx1, hx2, hi, splice, numEls_cons]
      refine qc_same k (by simp) (by simp) ?_
      simp [splice, numA]
  case offset =>
    simp only at hRd
    obtain ⟨a, rfl⟩ : ∃ a, args = [a] := by
      match args, h1, h2 with
      | [a], _, _ => exact ⟨a, rfl⟩
    have hao := ho a (by simp)
    have ea : argN [a] 0 = a := rfl
    have k := rnAdd_ok (G := G) v a hvo hao
    rw [ea] at hRd
    rw [← hRd, numA_eq v, numA_eq a, numA_eq R] at k
    simp [a_isobarref25_value, Wd.txt, hlen, hx1, hx2, hi, splice]
    refine ⟨?_, ?_⟩
    all_goals
      refine qc_same kP (by simp) (by simp) ?_
      simp [hlen, hx1, hx2, hi, splice, numEls_cons]
      refine qc_same k (by simp) (by simp) ?_
      simp [splice, numA]
  case nonNegativeDerivative =>
    simp only at hRd
    have k := rRise_ok (G := G) v p args hvo hpo ho h2
    rw [← hRd, numA_eq v, numA_eq p, numA_eq R] at k
    simp [a_isobarref25_value, Wd.txt, hlen, hx1, hx2, hi, splice]
    refine ⟨?_, ?_⟩
    all_goals
      refine qc_same kP (by simp) (by simp) ?_
      simp [hlen, hx1, hx2, hi, splice]
      refine ac_same k (by simp) ?_
      rintro r rfl
      simp [splice, numA]
  case perSecond =>
    simp only at hRd
    have k := rRise_ok (G := G) v p args hvo hpo ho h2
    obtain ⟨q, hq⟩ : ∃ q, q = riseN v p args := ⟨_, rfl⟩
    have hp1 := hR.p1
    have hp0 := hR.p0
    have kI := rInt_ok (G := G) s.step (by omega) (by omega)
    obtain ⟨t, ht⟩ : ∃ t, t = tell (s.step * 1000000) := ⟨_, rfl⟩
    have hqo : okN q := by rw [hq]; exact ok_rise v p args
    have hto : okN t := by rw [ht]; exact ok_tell _
    have kD := rnDiv_ok (G := G) q t hqo hto
    rw [← hq, ← ht] at hRd
    rw [← hq, numA_eq v, numA_eq p, numA_eq q] at k
    rw [← ht, numA_eq t] at kI
    rw [← hRd, numA_eq q, numA_eq t, numA_eq R] at kD
    simp [a_isobarref25_value, Wd.txt, hlen, hx1, hx2, hi, splice]
    refine ⟨?_, ?_⟩
    all_goals
      refine qc_same kP (by simp) (by simp) ?_
      simp [hlen, hx1, hx2, hi, splice]
      refine qc_same k (by simp) (by simp) ?_
      simp
      refine qc_same kI (by simp) (by simp) ?_
      simp
      refine qc_same kD (by simp) (by simp) ?_
      simp [splice, numA]
  case integral =>
    simp only at hRd
    have kr := rReckon_ok (G := G) 2 (s.vals.take (i + 1)) (fun x hx => h.vs x (List.mem_of_mem_take hx)) (by simp; omega)
    have hle : (i : Int) + 1 ≤ s.vals.length := by omega
    have hle2 : i + 1 ≤ s.vals.length := by omega
    have ht1 : ((i : Int) + 1).toNat = i + 1 := by omega
    have hge : (0 : Int) ≤ (i : Int) + 1 := by omega
    simp [a_isobarref25_value, Wd.txt, hlen, hx1, hx2, hi, splice]
    refine ⟨?_, ?_⟩
    all_goals
      refine qc_same kP (by simp) (by simp) ?_
      simp [hlen, hx1, hx2, hi, splice, w1]
      cases hv1 : v.1 with
      | true =>
        have hR2 : R = v := by rw [hRd, if_pos hv1]
        simp [splice, numA, hR2, hv1]
      | false =>
        have hR2 : R = reckon 2 (s.vals.take (i + 1)) := by rw [hRd, if_neg (by rw [hv1]; decide)]
        rw [← hR2, numA_eq R] at kr
        simp [hv1, w1, hlen, hle, hle2, ht1, hge, if_pos h2l, numEls_take]
        refine ac_same kr (by simp) ?_
        rintro r rfl
        simp [splice, numA]
  case keepLastValue =>
    simp only at hRd
    simp [a_isobarref25_value, Wd.txt, hlen, hx1, hx2, hi, splice]
    refine ⟨?_, ?_⟩
    all_goals
      refine qc_same kP (by simp) (by simp) ?_
      simp [hlen, hx1, hx2, hi, splice]
      cases hv1 : v.1 with
      | false =>
        have hR2 : R = v := by rw [hRd, if_neg (by rw [hv1]; decide)]
        simp [splice, numA, hR2, hv1]
      | true =>
        have hR2 : R = keptN s.vals i n := by rw [hRd, if_pos hv1]
        have kk := rKept_ok (G := G) s.vals i n hi (by omega) (by rw [hgy]; exact hv1) (by omega) (by omega)
        rw [← hR2, numA_eq R] at kk
        simp [hv1]
        refine ac_same kk (by simp) ?_
        rintro r rfl
        simp [splice, numA]
  case transformNull =>
    simp only at hRd
    simp [a_isobarref25_value, Wd.txt, hlen, hx1, hx2, hi, splice]
    refine ⟨?_, ?_⟩
    all_goals
      refine qc_same kP (by simp) (by simp) ?_
      simp [hlen, hx1, hx2, hi, splice]
      cases hv1 : v.1 with
      | false =>
        have hR2 : R = v := by rw [hRd, if_neg (by rw [hv1]; decide)]
        simp [splice, numA, hR2, hv1]
      | true =>
        rw [if_pos hv1] at hRd
        cases args with
        | nil =>
          have hR2 : R = zeroN := by rw [hRd, if_pos rfl]
          simp [hv1, numEls]
          refine ac_same rZero (by simp) ?_
          rintro r rfl
          simp [splice, numA, hR2, zeroN]
        | cons a rest =>
          have hR2 : R = a := by rw [hRd, if_neg (by simp)]; rfl
          have hl1 : ¬ ((rest.length : Int) + 1 = 0) := by omega
          simp [hv1, numEls_cons, numEls_len, hl1, hR2, splice, numA]
  case isNonNull =>
    simp only at hRd
    simp [a_isobarref25_value, Wd.txt, hlen, hx1, hx2, hi, splice]
    refine ⟨?_, ?_⟩
    all_goals
      refine qc_same kP (by simp) (by simp) ?_
      simp [hlen, hx1, hx2, hi, splice]
      cases hv1 : v.1 with
      | true =>
        have hR2 : R = zeroN := by rw [hRd, if_pos hv1]
        simp [hv1]
        refine ac_same rZero (by simp) ?_
        rintro r rfl
        simp [splice, numA, hR2, zeroN]
      | false =>
        have hR2 : R = oneN := by rw [hRd, if_neg (by rw [hv1]; decide)]
        simp [hv1]
        refine ac_same rOne (by simp) ?_
        rintro r rfl
        simp [splice, numA, hR2, oneN]
  case delay =>
    simp only at hRd
    have k := rAhead_ok (G := G) s.vals i n hi (by omega) hnb.1 hnb.2
    rw [← hRd, numA_eq R] at k
    simp [a_isobarref25_value, Wd.txt, hlen, hx1, hx2, hi, splice]
    refine ⟨?_, ?_⟩
    all_goals
      refine qc_same kP (by simp) (by simp) ?_
      simp [hlen, hx1, hx2, hi, splice]
      refine ac_same k (by simp) ?_
      rintro r rfl
      simp [splice, numA]
  case removeAboveValue =>
    simp only at hRd
    obtain ⟨a, rfl⟩ : ∃ a, args = [a] := by
      match args, h1, h2 with
      | [a], _, _ => exact ⟨a, rfl⟩
    have hao := ho a (by simp)
    have ea : argN [a] 0 = a := rfl
    have k := rnCmp_ok (G := G) v a hvo hao
    obtain ⟨c, hc⟩ : ∃ c, c = cmpN v a := ⟨_, rfl⟩
    rw [ea, ← hc] at hRd
    rw [← hc, numA_eq v, numA_eq a] at k
    have kN := rNothing_ok (G := G)
    rw [numA_eq] at kN
    simp [a_isobarref25_value, Wd.txt, hlen, hx1, hx2, hi, splice]
    refine ⟨?_, ?_⟩
    all_goals
      refine qc_same kP (by simp) (by simp) ?_
      simp [hlen, hx1, hx2, hi, splice, numEls_cons]
      refine qc_same k (by simp) (by simp) ?_
      by_cases h0 : 0 < c
      · rw [if_pos h0] at hRd
        simp [h0]
        refine ac_same kN (by simp) ?_
        rintro r rfl
        simp [splice, numA, hRd]
      · rw [if_neg h0] at hRd
        simp [h0, splice, numA, hRd]
  case removeBelowValue =>
    simp only at hRd
    obtain ⟨a, rfl⟩ : ∃ a, args = [a] := by
      match args, h1, h2 with
      | [a], _, _ => exact ⟨a, rfl⟩
    have hao := ho a (by simp)
    have ea : argN [a] 0 = a := rfl
    have k := rnCmp_ok (G := G) v a hvo hao
    obtain ⟨c, hc⟩ : ∃ c, c = cmpN v a := ⟨_, rfl⟩
    rw [ea, ← hc] at hRd
    rw [← hc, numA_eq v, numA_eq a] at k
    have kN := rNothing_ok (G := G)
    rw [numA_eq] at kN
    simp [a_isobarref25_value, Wd.txt, hlen, hx1, hx2, hi, splice]
    refine ⟨?_, ?_⟩
    all_goals
      refine qc_same kP (by simp) (by simp) ?_
      simp [hlen, hx1, hx2, hi, splice, numEls_cons]
      refine qc_same k (by simp) (by simp) ?_
      by_cases h0 : c < 0
      · rw [if_pos h0] at hRd
        simp [h0]
        refine ac_same kN (by simp) ?_
        rintro r rfl
        simp [splice, numA, hRd]
      · rw [if_neg h0] at hRd
        simp [h0, splice, numA, hRd]
  case clamp =>
    simp only at hRd
    obtain ⟨a, b, rfl⟩ : ∃ a b, args = [a, b] := by
      match args, h1, h2 with
      | [a, b], _, _ => exact ⟨a, b, rfl⟩
    have hao := ho a (by simp)
    have hbo := ho b (by simp)
    have ea : argN [a, b] 0 = a := rfl
    have eb : argN [a, b] 1 = b := rfl
    have k := rnCmp_ok (G := G) v a hvo hao
    have k2 := rnCmp_ok (G := G) v b hvo hbo
    obtain ⟨c, hc⟩ : ∃ c, c = cmpN v a := ⟨_, rfl⟩
    obtain ⟨d, hd⟩ : ∃ d, d = cmpN v b := ⟨_, rfl⟩
    rw [ea, eb, ← hc, ← hd] at hRd
    rw [← hc, numA_eq v, numA_eq a] at k
    rw [← hd, numA_eq v, numA_eq b] at k2
    simp [a_isobarref25_value, Wd.txt, hlen, hx1, hx2, hi, splice]
    refine ⟨?_, ?_⟩
    all_goals
      refine qc_same kP (by simp) (by simp) ?_
      simp [hlen, hx1, hx2, hi, splice, numEls_cons]
      cases hv1 : v.1 with
      | true =>
        have hR2 : R = v := by rw [hRd, if_pos hv1]
        simp [splice, numA, hR2, hv1]
      | false =>
        rw [if_neg (by rw [hv1]; decide)] at hRd
        rw [hv1] at k k2
        simp [hv1, numEls_cons]
        refine qc_same k (by simp) (by simp) ?_
        by_cases h0 : c < 0
        · rw [if_pos h0] at hRd
          simp [h0, splice, numA, hRd, numEls_cons]
        · rw [if_neg h0] at hRd
          simp [h0, numEls_cons]
          refine qc_same k2 (by simp) (by simp) ?_
          by_cases h3 : 0 < d
          · rw [if_pos h3] at hRd
            simp [h3, splice, numA, hRd, numEls_cons]
          · rw [if_neg h3] at hRd
            simp [h3, splice, numA, hRd, hv1]
  case movingAverage =>
    simp only at hRd
    have hn1 : 1 ≤ n ∧ n ≤ 2000 := by
      rcases whole_bounds hW 1 2000 rfl with ⟨_, h⟩ | ⟨h, h', _⟩
      · subst h; simp [Wd.takes] at h1
      · exact ⟨h, h'⟩
    have kw := rWay_ok (G := G) .movingAverage (by simp)
    simp only [Wd.txt, Wd.way] at kw
    obtain ⟨d, hd⟩ : ∃ d, d = i + 1 - n.toNat := ⟨_, rfl⟩
    have kr := rReckon_ok (G := G) (Wd.way .movingAverage) ((s.vals.take (i + 1)).drop d) (fun x hx => h.vs x (List.mem_of_mem_take (List.mem_of_mem_drop hx))) (by simp; omega)
    simp only [Wd.way] at kr hRd
    rw [← hd] at hRd
    rw [← hRd, numA_eq R] at kr
    have w2 : IntKind.i64.wrap ((i : Int) + 1 - n) = (i : Int) + 1 - n := wrap_i64 (by omega) (by omega)
    have hmx : (if n < (i : Int) + 1 then (i : Int) + 1 - n else 0) = (d : Int) := by split <;> omega
    have hmx2 : max (0 : Int) ((i : Int) + 1 - n) = (d : Int) := by omega
    have hle : (i : Int) + 1 ≤ s.vals.length := by omega
    have hle2 : i + 1 ≤ s.vals.length := by omega
    have hdl : (d : Int) ≤ (i : Int) + 1 := by omega
    have hdl2 : d ≤ i + 1 := by omega
    have ht1 : ((i : Int) + 1).toNat = i + 1 := by omega
    have hge : (0 : Int) ≤ (i : Int) + 1 := by omega
    simp [a_isobarref25_value, Wd.txt, hlen, hx1, hx2, hi, splice]
    refine ⟨?_, ?_⟩
    all_goals
      refine qc_same kP (by simp) (by simp) ?_
      simp [hlen, hx1, hx2, hi, splice, w1, w2]
      refine qc_same kw (by simp) (by simp) ?_
      simp [w1, w2, hmx, hmx2, hlen, hle, hle2, hdl, hdl2, ht1, hge, if_pos h2l, numEls_take, numEls_drop]
      refine qc_same kr (by simp) (by simp) ?_
      simp [splice, numA]
  case movingSum =>
    simp only at hRd
    have hn1 : 1 ≤ n ∧ n ≤ 2000 := by
      rcases whole_bounds hW 1 2000 rfl with ⟨_, h⟩ | ⟨h, h', _⟩
      · subst h; simp [Wd.takes] at h1
      · exact ⟨h, h'⟩
    have kw := rWay_ok (G := G) .movingSum (by simp)
    simp only [Wd.txt, Wd.way] at kw
    obtain ⟨d, hd⟩ : ∃ d, d = i + 1 - n.toNat := ⟨_, rfl⟩
    have kr := rReckon_ok (G := G) (Wd.way .movingSum) ((s.vals.take (i + 1)).drop d) (fun x hx => h.vs x (List.mem_of_mem_take (List.mem_of_mem_drop hx))) (by simp; omega)
    simp only [Wd.way] at kr hRd
    rw [← hd] at hRd
    rw [← hRd, numA_eq R] at kr
    have w2 : IntKind.i64.wrap ((i : Int) + 1 - n) = (i : Int) + 1 - n := wrap_i64 (by omega) (by omega)
    have hmx : (if n < (i : Int) + 1 then (i : Int) + 1 - n else 0) = (d : Int) := by split <;> omega
    have hmx2 : max (0 : Int) ((i : Int) + 1 - n) = (d : Int) := by omega
    have hle : (i : Int) + 1 ≤ s.vals.length := by omega
    have hle2 : i + 1 ≤ s.vals.length := by omega
    have hdl : (d : Int) ≤ (i : Int) + 1 := by omega
    have hdl2 : d ≤ i + 1 := by omega
    have ht1 : ((i : Int) + 1).toNat = i + 1 := by omega
    have hge : (0 : Int) ≤ (i : Int) + 1 := by omega
    simp [a_isobarref25_value, Wd.txt, hlen, hx1, hx2, hi, splice]
    refine ⟨?_, ?_⟩
    all_goals
      refine qc_same kP (by simp) (by simp) ?_
      simp [hlen, hx1, hx2, hi, splice, w1, w2]
      refine qc_same kw (by simp) (by simp) ?_
      simp [w1, w2, hmx, hmx2, hlen, hle, hle2, hdl, hdl2, ht1, hge, if_pos h2l, numEls_take, numEls_drop]
      refine qc_same kr (by simp) (by simp) ?_
      simp [splice, numA]
  case movingMin =>
    simp only at hRd
    have hn1 : 1 ≤ n ∧ n ≤ 2000 := by
      rcases whole_bounds hW 1 2000 rfl with ⟨_, h⟩ | ⟨h, h', _⟩
      · subst h; simp [Wd.takes] at h1
      · exact ⟨h, h'⟩
    have kw := rWay_ok (G := G) .movingMin (by simp)
    simp only [Wd.txt, Wd.way] at kw
    obtain ⟨d, hd⟩ : ∃ d, d = i + 1 - n.toNat := ⟨_, rfl⟩
    have kr := rReckon_ok (G := G) (Wd.way .movingMin) ((s.vals.take (i + 1)).drop d) (fun x hx => h.vs x (List.mem_of_mem_take (List.mem_of_mem_drop hx))) (by simp; omega)
    simp only [Wd.way] at kr hRd
    rw [← hd] at hRd
    rw [← hRd, numA_eq R] at kr
    have w2 : IntKind.i64.wrap ((i : Int) + 1 - n) = (i : Int) + 1 - n := wrap_i64 (by omega) (by omega)
    have hmx : (if n < (i : Int) + 1 then (i : Int) + 1 - n else 0) = (d : Int) := by split <;> omega
    have hmx2 : max (0 : Int) ((i : Int) + 1 - n) = (d : Int) := by omega
    have hle : (i : Int) + 1 ≤ s.vals.length := by omega
    have hle2 : i + 1 ≤ s.vals.length := by omega
    have hdl : (d : Int) ≤ (i : Int) + 1 := by omega
    have hdl2 : d ≤ i + 1 := by omega
    have ht1 : ((i : Int) + 1).toNat = i + 1 := by omega
    have hge : (0 : Int) ≤ (i : Int) + 1 := by omega
    simp [a_isobarref25_value, Wd.txt, hlen, hx1, hx2, hi, splice]
    refine ⟨?_, ?_⟩
    all_goals
      refine qc_same kP (by simp) (by simp) ?_
      simp [hlen, hx1, hx2, hi, splice, w1, w2]
      refine qc_same kw (by simp) (by simp) ?_
      simp [w1, w2, hmx, hmx2, hlen, hle, hle2, hdl, hdl2, ht1, hge, if_pos h2l, numEls_take, numEls_drop]
      refine qc_same kr (by simp) (by simp) ?_
      simp [splice, numA]
  case movingMax =>
    simp only at hRd
    have hn1 : 1 ≤ n ∧ n ≤ 2000 := by
      rcases whole_bounds hW 1 2000 rfl with ⟨_, h⟩ | ⟨h, h', _⟩
      · subst h; simp [Wd.takes] at h1
      · exact ⟨h, h'⟩
    have kw := rWay_ok (G := G) .movingMax (by simp)
    simp only [Wd.txt, Wd.way] at kw
    obtain ⟨d, hd⟩ : ∃ d, d = i + 1 - n.toNat := ⟨_, rfl⟩
    have kr := rReckon_ok (G := G) (Wd.way .movingMax) ((s.vals.take (i + 1)).drop d) (fun x hx => h.vs x (List.mem_of_mem_take (List.mem_of_mem_drop hx))) (by simp; omega)
    simp only [Wd.way] at kr hRd
    rw [← hd] at hRd
    rw [← hRd, numA_eq R] at kr
    have w2 : IntKind.i64.wrap ((i : Int) + 1 - n) = (i : Int) + 1 - n := wrap_i64 (by omega) (by omega)
    have hmx : (if n < (i : Int) + 1 then (i : Int) + 1 - n else 0) = (d : Int) := by split <;> omega
    have hmx2 : max (0 : Int) ((i : Int) + 1 - n) = (d : Int) := by omega
    have hle : (i : Int) + 1 ≤ s.vals.length := by omega
    have hle2 : i + 1 ≤ s.vals.length := by omega
    have hdl : (d : Int) ≤ (i : Int) + 1 := by omega
    have hdl2 : d ≤ i + 1 := by omega
    have ht1 : ((i : Int) + 1).toNat = i + 1 := by omega
    have hge : (0 : Int) ≤ (i : Int) + 1 := by omega
    simp [a_isobarref25_value, Wd.txt, hlen, hx1, hx2, hi, splice]
    refine ⟨?_, ?_⟩
    all_goals
      refine qc_same kP (by simp) (by simp) ?_
      simp [hlen, hx1, hx2, hi, splice, w1, w2]
      refine qc_same kw (by simp) (by simp) ?_
      simp [w1, w2, hmx, hmx2, hlen, hle, hle2, hdl, hdl2, ht1, hge, if_pos h2l, numEls_take, numEls_drop]
      refine qc_same kr (by simp) (by simp) ?_
      simp [splice, numA]
  case summarize => exact absurd rfl hns
end Go.Proofs.YtipncibiodfmdaaGreatDoor
end
section
set_option linter.unusedSimpArgs false
set_option linter.unusedVariables false
set_option linter.constructorNameAsVariable false
set_option maxHeartbeats 8000000
namespace Go.Abs
variable {G : Globs}
/-- What a block that is left at its end alone hands on. -/
def joinN (J : Frame → Store → Prop) (tJ : Tg J) : AExit → Frame → Store → Prop
  | .normal, f, σ => jn J tJ f (.mk f) σ
  | _, _, _ => False
theorem joinN_normal {J : Frame → Store → Prop} {tJ : Tg J} {f : Frame} {σ : Store} : joinN J tJ .normal f σ = jn J tJ f (.mk f) σ := rfl
attribute [simp ↓] joinN_normal
theorem bk_join {P : Program} {c : ACode} {id : Nat} {Q : AExit → Frame → Store → Prop} {f : Frame} {σ : Store} (J : Frame → Store → Prop) (hJ : ∀ f σ, J f σ → Q .normal f σ) (h : awp P (.block id c) (joinN J (.mk _)) f σ) : awp P (.block id c) Q f σ := by
  refine awp_mono (c := .block id c) (fun e f σ h0 => ?_) h
  cases e with
  | normal => exact hJ _ _ h0
  | exit _ => exact h0.elim
  | ret => exact h0.elim
end Go.Abs
namespace Go.Proofs.YtipncibiodfmdaaGreatDoor
open Go.Abs Go.Num Go.Ser Go.Dec Go.Shp
variable {G : Globs}
theorem numEls_nil : numEls [] = [] := rfl
theorem rsApply_ok (call : List UInt8) (s : Sr) (h : SrOk s) (args : List N) (ho : oksN args) (text : List UInt8) (hal : args.length ≤ 1000) (htl : text.length ≤ 100000) :
    PCalls Tryz.prog n_isobarref25_Apply [.str call, srA s, .lst (numEls args), .str text] (fun r => r = applyA (applyS call s args text)) := by
  refine pcalls_of_awp hmix c_isobarref25_Apply rfl ?_
  have kT := rTakes_ok (G := G) call
  unfold takesA at kT
  have kR := rsRight_ok (G := G) s h
  have hlen := numEls_len args
  obtain ⟨R, hR⟩ : ∃ R, R = applyS call s args text := ⟨_, rfl⟩
  rw [← hR]
  unfold applyS at hR
  have kRs := kR
  rw [srA_eq s] at kR ⊢
  cases hw : wordOf call with
  | none =>
    rw [hw] at kT hR
    simp only at hR
    subst hR
    simp [a_isobarref25_Apply, splice]
    refine ac_same kT (by simp) ?_
    rintro r rfl
    simp [applyA, noSr, srA_eq, numEls_nil, splice]
  | some w =>
    have hcw := wordOf_some hw
    subst hcw
    rw [hw] at kT hR
    simp only at kT hR
    simp [a_isobarref25_Apply, splice]
    refine ac_same kT (by simp) ?_
    rintro r rfl
    simp
    refine ac_same kR (by simp) ?_
    rintro r rfl
    cases hr : rightS s with
    | false =>
      rw [if_pos hr] at hR
      subst hR
      simp [applyA, noSr, srA_eq, numEls_nil, splice]
    | true =>
      rw [if_neg (by rw [hr]; decide)] at hR
      have hSR := right_iff.1 hr
      by_cases h1 : args.length < w.takes.1
      · rw [if_pos (.inl h1)] at hR
        subst hR
        simp [hlen, h1, applyA, noSr, srA_eq, numEls_nil, splice]
      by_cases h2 : w.takes.2 < args.length
      · rw [if_pos (.inr (.inl h2))] at hR
        subst hR
        simp [hlen, h1, h2, applyA, noSr, srA_eq, numEls_nil, splice]
      have hsum := sum_txt w
      by_cases h3 : text ≠ [] ∧ w ≠ .summarize
      · rw [if_pos (.inr (.inr h3))] at hR
        subst hR
        have hns : ¬ w.txt = [115, 117, 109, 109, 97, 114, 105, 122, 101] := fun h => h3.2 (hsum.1 h)
        simp [hlen, h1, h2, h3.1, hns, applyA, noSr, srA_eq, numEls_nil, splice]
      rw [if_neg (by rintro (h | h | h); exact h1 h; exact h2 h; exact h3 h)] at hR
      have h3' : text = [] ∨ (¬ text = [] ∧ w = .summarize) := by
        by_cases a : text = []
        · exact .inl a
        · by_cases b : w = .summarize
          · exact .inr ⟨a, b⟩
          · exact absurd ⟨a, b⟩ h3
      rcases h3' with h3' | ⟨h3', h3w⟩
      case' inl => simp [hlen, h1, h2, h3']
      case' inr =>
        have hwt := eq_true (hsum.2 h3w)
        simp [hlen, h1, h2, h3', hwt]
      all_goals
        refine lp_startx (fun x f σ => ∃ k : Nat, x = args.length - k ∧ k ≤ args.length ∧ (∀ a ∈ args.take k, good a = true) ∧ f 0 = .str w.txt ∧ f 2 = .lst (numEls args) ∧ f 3 = .str text ∧ f 5 = .ptr 0 0 ∧ f 8 = .ptr 1 0 ∧ f 13 = .int .i64 k ∧
          σ = [.var 24 [.str s.name, .int .i64 s.start, .int .i64 s.step, .lst (numEls s.vals)], .var 24 [.str [], .int .i64 0, .int .i64 0, .nils]]) args.length ?_ ?_
        · exact ⟨0, rfl, by omega, fun a ha => by simp at ha, by simp, by simp, by simp [h3'], by simp, by simp, by simp, rfl⟩
        rintro x f σ ⟨k, rfl, hk, hgk, f0, f2, f3, f5, f8, f13, rfl⟩
        simp [f2, f13, hlen]
        refine cb_dec (fun hlt => ?_) (fun hge => ?_)
        · have hlt' : k < args.length := by omega
          obtain ⟨y, hy⟩ : ∃ y, args[k]? = some y := ⟨_, List.getElem?_eq_getElem hlt'⟩
          have hse := numEls_get hy
          obtain ⟨hx1, hx2⟩ := List.getElem?_eq_some_iff.1 hse
          have hyo := ho y (List.mem_of_getElem? hy)
          have kr := rnRight_ok (G := G) y hyo
          have hrg := right_good y
          have hwk : IntKind.i64.wrap ((k : Int) + 1) = (k : Int) + 1 := wrap_i64 (by omega) (by omega)
          rw [numA_eq y] at kr
          cases hgd : good y with
          | false =>
            have hany : (args.any fun n => !good n) = true := List.any_eq_true.2 ⟨y, List.mem_of_getElem? hy, by simp [hgd]⟩
            rw [hany, if_pos rfl] at hR
            subst hR
            cases hy1 : y.1 with
            | true =>
              simp [f2, f8, f13, hlen, hx1, hx2, hlt', hy1, applyA, noSr, srA_eq, numEls_nil, splice]
            | false =>
              have hr0 : rightN y = false := by
                rw [hy1, hgd] at hrg
                simpa using hrg
              rw [hr0, hy1] at kr
              simp [f2, f8, f13, hlen, hx1, hx2, hlt', hy1]
              refine ac_same kr (by simp) ?_
              rintro r rfl
              simp [f2, f8, f13, applyA, noSr, srA_eq, numEls_nil, splice]
          | true =>
            rw [hgd] at hrg
            simp only [Bool.and_eq_true, Bool.not_eq_true'] at hrg
            obtain ⟨hr1, hy1⟩ := hrg
            rw [hr1, hy1] at kr
            simp [f2, f13, hlen, hx1, hx2, hlt', hy1]
            refine ac_same kr (by simp) ?_
            rintro r rfl
            simp [f13, hwk]
            refine nx_intro (args.length - (k + 1)) (by omega) ⟨k + 1, rfl, by omega, fun a ha => ?_, by simp [f0], by simp [f2], by simp [f3], by simp [f5], by simp [f8], by simp, rfl⟩
            rw [List.take_add_one, hy] at ha
            rcases List.mem_append.1 ha with ha | ha
            · exact hgk a ha
            · simp at ha; subst ha; exact hgd
        · have : k = args.length := by omega
          subst this
          rw [List.take_length] at hgk
          have hany : (args.any fun n => !good n) = false := List.any_eq_false.2 fun n hn => by simp [hgk n hn]
          rw [hany, if_neg (by decide)] at hR
          have kL := rLabel_ok (G := G) w.txt s.name args text (by have := txt_len w; omega) (by have := hSR.nm; omega) hal htl ho
          obtain ⟨L, hL⟩ : ∃ L, L = labelS w.txt s.name args text := ⟨_, rfl⟩
          rw [← hL] at kL hR
          have hp0 := hSR.p0
          by_cases hsm : w = .summarize
          · subst hsm
            have h1' : 1 ≤ args.length := by simp only [Wd.takes] at h1; omega
            have h2' : args.length ≤ 1 := by simp only [Wd.takes] at h2; omega
            obtain ⟨a, rfl⟩ : ∃ a, args = [a] := by
              match args, h1', h2' with
              | [a], _, _ => exact ⟨a, rfl⟩
            have hao := ho a (by simp)
            have hga := hgk a (by simp)
            have kw := rWhole25_ok (G := G) a hao hga 1 86400
            rw [numA_eq a] at kw
            have hWd : wholeW .summarize s [a] = match wholeS a 1 86400 with | some n => (if n % s.step ≠ 0 then none else some n) | none => none := by
              unfold wholeW
              simp only [Wd.bounds, true_and]
              cases wholeS a 1 86400 <;> rfl
            simp only [Wd.txt] at kL f0
            have kM := rMethod_ok (G := G) text
            unfold methodA at kM
            simp [f0, f2, f3, f5, f8, Wd.txt, numEls_cons, numEls_nil]
            refine ac_same kw (by simp) ?_
            rintro r ⟨z, rfl, hz⟩
            cases hwS : wholeS a 1 86400 with
            | none =>
              rw [hwS] at hWd
              rw [hWd] at hR
              simp only at hR
              subst hR
              simp [f0, f2, f3, f5, f8, applyA, noSr, srA_eq, numEls_nil, splice]
            | some m =>
              have hzm := hz m hwS
              subst hzm
              obtain ⟨b1, b2⟩ := wholeS_bd hwS
              rw [hwS] at hWd
              simp only at hWd
              have hst : s.step ≠ 0 := by omega
              have htm : z.tmod s.step = z % s.step := Int.tmod_eq_emod_of_nonneg (by omega)
              have hm1 := Int.emod_nonneg z hst
              have hm2 := Int.emod_lt_of_pos z (b := s.step) (by omega)
              have hp1 := hSR.p1
              have hwr : IntKind.i64.wrap (z % s.step) = z % s.step := wrap_i64 (by omega) (by omega)
              by_cases hd : z % s.step = 0
              · rw [if_neg (by simp [hd])] at hWd
                rw [hWd] at hR
                simp [f0, f2, f3, f5, f8, hst, htm, hwr, hd]
                by_cases ht : text = []
                · have hH : howS text = some 2 := by rw [ht]; rfl
                  rw [hH] at hR
                  simp only at hR
                  simp [f0, f2, f3, f5, f8, ht]
                  rw [ht] at kL
                  simp only [numEls_cons, numEls_nil] at kL
                  refine qc_same kL (by simp) (by simp) ?_
                  by_cases hlong : 400 < L.length
                  · have hlong' : (400 : Int) < (L.length : Int) := by omega
                    rw [if_pos hlong] at hR
                    subst hR
                    simp [f0, f2, f3, f5, f8, hlong, hlong', applyA, noSr, srA_eq, numEls_nil, splice]
                  have hlong' : ¬ (400 : Int) < (L.length : Int) := by omega
                  rw [if_neg hlong, if_pos trivial] at hR
                  have hbd := how_bd hH
                  have kCo := rsCoarser_ok (G := G) s h z (2) (by omega) (by omega)
                  obtain ⟨x, hx⟩ : ∃ x, coarserS s z (2) = some x := by
                    unfold coarserS
                    rw [if_pos ⟨hbd.1, hbd.2.1, b1, b2, hr, hd⟩]
                    exact ⟨_, rfl⟩
                  rw [hx] at hR kCo
                  simp only [coarserA] at hR kCo
                  rw [srA_eq s, srA_eq x] at kCo
                  simp [f0, f2, f3, f5, f8, Wd.txt, hlong, hlong', splice]
                  refine ac_same kCo (by simp) ?_
                  rintro r rfl
                  by_cases hx2 : 2000 < x.vals.length
                  · have hx' : (2000 : Int) < (x.vals.length : Int) := by omega
                    rw [if_pos hx2] at hR
                    subst hR
                    simp [f8, numEls_len, hx2, hx', applyA, noSr, srA_eq, numEls_nil, splice]
                  · have hx' : ¬ (2000 : Int) < (x.vals.length : Int) := by omega
                    rw [if_neg hx2] at hR
                    subst hR
                    simp [f8, numEls_len, hx2, hx', applyA, srA_eq, splice]
                · have hHm : howS text = methodS text := by unfold howS; rw [if_neg ht]
                  simp [f0, f2, f3, f5, f8, ht]
                  refine ac_same kM (by simp) ?_
                  rintro r rfl
                  cases hM : methodS text with
                  | none =>
                    rw [hHm, hM] at hR
                    simp only at hR
                    subst hR
                    simp [f0, f2, f3, f5, f8, applyA, noSr, srA_eq, numEls_nil, splice]
                  | some how =>
                    have hH : howS text = some how := by rw [hHm, hM]
                    rw [hH] at hR
                    simp only at hR
                    simp [f0, f2, f3, f5, f8, ht]
                    simp only [numEls_cons, numEls_nil] at kL
                    refine qc_same kL (by simp) (by simp) ?_
                    by_cases hlong : 400 < L.length
                    · have hlong' : (400 : Int) < (L.length : Int) := by omega
                      rw [if_pos hlong] at hR
                      subst hR
                      simp [f0, f2, f3, f5, f8, hlong, hlong', applyA, noSr, srA_eq, numEls_nil, splice]
                    have hlong' : ¬ (400 : Int) < (L.length : Int) := by omega
                    rw [if_neg hlong, if_pos trivial] at hR
                    have hbd := how_bd hH
                    have kCo := rsCoarser_ok (G := G) s h z (how) (by omega) (by omega)
                    obtain ⟨x, hx⟩ : ∃ x, coarserS s z (how) = some x := by
                      unfold coarserS
                      rw [if_pos ⟨hbd.1, hbd.2.1, b1, b2, hr, hd⟩]
                      exact ⟨_, rfl⟩
                    rw [hx] at hR kCo
                    simp only [coarserA] at hR kCo
                    rw [srA_eq s, srA_eq x] at kCo
                    simp [f0, f2, f3, f5, f8, Wd.txt, hlong, hlong', splice]
                    refine ac_same kCo (by simp) ?_
                    rintro r rfl
                    by_cases hx2 : 2000 < x.vals.length
                    · have hx' : (2000 : Int) < (x.vals.length : Int) := by omega
                      rw [if_pos hx2] at hR
                      subst hR
                      simp [f8, numEls_len, hx2, hx', applyA, noSr, srA_eq, numEls_nil, splice]
                    · have hx' : ¬ (2000 : Int) < (x.vals.length : Int) := by omega
                      rw [if_neg hx2] at hR
                      subst hR
                      simp [f8, numEls_len, hx2, hx', applyA, srA_eq, splice]
              · rw [if_pos (by simp [hd])] at hWd
                rw [hWd] at hR
                simp only at hR
                subst hR
                simp [f0, f2, f3, f5, f8, hst, htm, hwr, hd, applyA, noSr, srA_eq, numEls_nil, splice]
          · have hns : ¬ w.txt = [115, 117, 109, 109, 97, 114, 105, 122, 101] := fun h => hsm (hsum.1 h)
            have h3' : text = [] := by
              by_cases a : text = []
              · exact a
              · exact absurd ⟨a, hsm⟩ h3
            by_cases hz : args.length = 0
            · have hz' : args = [] := List.eq_nil_of_length_eq_zero hz
              have hW : wholeW w s args = some (-1) := by rw [hz']; unfold wholeW; cases w.bounds <;> rfl
              have hzi : (args.length : Int) = 0 := by omega
              simp [f0, f2, f3, f5, f8, hlen, hz, hzi, h3']
              rw [h3'] at kL
              have hn14 : wholeW w s args = some (-1) := hW
              rw [hn14, h3', howS, if_pos rfl] at hR
              simp only at hR
              refine qc_same kL (by simp) (by simp) ?_
              by_cases hlong : 400 < L.length
              · have hlong' : (400 : Int) < (L.length : Int) := by omega
                rw [if_pos hlong] at hR
                subst hR
                simp [f0, f2, f3, f5, f8, hlong, hlong', applyA, noSr, srA_eq, numEls_nil, splice]
              have hlong' : ¬ (400 : Int) < (L.length : Int) := by omega
              rw [if_neg hlong, if_neg hsm] at hR
              simp [f0, f2, f3, f5, f8, hz, hlong, hlong', hns, splice]
              obtain ⟨F, hF⟩ : ∃ F : Nat → N, F = valueW w s args (-1) := ⟨_, rfl⟩
              have hV : valsW w s args (-1) = (List.range s.vals.length).map F := by rw [hF]; rfl
              rw [hV] at hR
              refine lp_startx (fun x f σ => ∃ (k : Nat) (V : AV), x = s.vals.length - k ∧ k ≤ s.vals.length ∧ f 0 = .str w.txt ∧ f 2 = .lst (numEls args) ∧ f 5 = .ptr 0 0 ∧ f 8 = .ptr 1 0 ∧ f 14 = .int .i64 (-1) ∧ f 19 = .ptr 2 0 ∧ f 22 = .int .i64 k ∧
                σ[0]? = some (.var 24 [.str s.name, .int .i64 s.start, .int .i64 s.step, .lst (numEls s.vals)]) ∧ σ[1]? = some (.var 24 [.str [], .int .i64 0, .int .i64 0, .nils]) ∧ σ[2]? = some (.var 24 [.str L, .int .i64 s.start, .int .i64 s.step, V]) ∧ NlS 3 σ V ((List.range k).map F) ∧ 3 ≤ σ.length) s.vals.length ?_ ?_
              · exact ⟨0, .nils, rfl, by omega, by simp [f0], by simp [f2], by simp [f5], by simp [f8], by simp [hz], by simp, by simp, by simp, by simp, by simp, .inl ⟨rfl, rfl⟩, by simp⟩
              rintro x f σ ⟨k, V, rfl, hk, f0, f2, f5, f8, f14, f19, f22, s0, s1, s2, hN, h3l⟩
              have hV1 := hN.one
              have hvlen := numEls_len s.vals
              have hvl := hSR.vl
              simp [f5, f22, s0, hvlen]
              refine cb_dec (fun hlt => ?_) (fun hge => ?_)
              · have hlt' : k < s.vals.length := by omega
                have hw1 : IntKind.i64.wrap ((k : Int) + 1) = (k : Int) + 1 := wrap_i64 (by omega) (by omega)
                have kv := rValue_ok (G := G) w hsm s h hSR args ho (by omega) (by omega) (-1) hW k hlt'
                have hFk : valueW w s args (-1) k = F k := by rw [hF]
                rw [hFk, srA_eq s, numA_eq (F k)] at kv
                simp [f0, f2, f5, f14, f19, f22, s0, s2, hV1, splice]
                refine qc_same kv (by simp) (by simp) ?_
                simp [f19, s2, hV1]
                refine ap_nls hN (by omega) (by simp; omega) (F k) ?_
                intro v' σ2 hN2 hle2 hpre2
                have hv1 := hN2.one
                have b0 := (hpre2 0 (by omega)).trans s0
                have b1 := (hpre2 1 (by omega)).trans s1
                have b2 := (hpre2 2 (by omega)).trans s2
                simp [f19, f22, b2, hv1, splice, hw1]
                refine nx_intro (s.vals.length - (k + 1)) (by omega) ⟨k + 1, v', rfl, by omega, by simp [f0], by simp [f2], by simp [f5], by simp [f8], by simp [f14], by simp [f19], by simp, ?_, ?_, ?_, ?_, by simp; omega⟩
                · rw [List.getElem?_set_ne (by omega)]; exact b0
                · rw [List.getElem?_set_ne (by omega)]; exact b1
                · rw [List.getElem?_set_self (by omega)]
                · have : (List.range (k + 1)).map F = (List.range k).map F ++ [F k] := by rw [List.range_succ, List.map_append]; rfl
                  rw [this]
                  exact hN2.mono fun id h1 h2 => List.getElem?_set_ne (by omega)
              · have : k = s.vals.length := by omega
                subst this
                subst hR
                have hfin : ∀ (k : Nat) (σ' : Store), (∀ id, 3 ≤ id → σ'[id]? = σ[id]?) → fin1 σ' k V = some (.lst (numEls ((List.range s.vals.length).map F))) := fun k σ' hk => (hN.mono fun id h1 _ => hk id h1).fin
                have hset : ∀ e : Entry, (List.set σ 1 e)[1]? = some e := fun e => List.getElem?_set_self (by omega)
                simp [f8, f19, s1, s2, hV1, splice, hset]
                rw [hfin 0 _ fun id h1 => List.getElem?_set_ne (by omega)]
                simp [applyA, srA_eq]
            · have hz0 : 0 < args.length := by omega
              have hz1 : (0 : Int) < (args.length : Int) := by omega
              obtain ⟨a, rest, hargs⟩ : ∃ a rest, args = a :: rest := by
                cases args with
                | nil => simp at hz
                | cons a rest => exact ⟨a, rest, rfl⟩
              have ha0 : args[0]? = some a := by rw [hargs]; rfl
              have hse := numEls_get ha0
              obtain ⟨hx1, hx2⟩ := List.getElem?_eq_some_iff.1 hse
              have hao := ho a (by rw [hargs]; simp)
              have hga := hgk a (by rw [hargs]; simp)
              simp [f0, f2, f3, f5, f8, hlen, hz0, hz1, -awp_block]
              refine bk_join (fun g σ => ∃ z : Int, (∀ n, wholeW w s args = some n → z = n) ∧ g 0 = .str w.txt ∧ g 2 = .lst (numEls args) ∧ g 3 = .str text ∧ g 5 = .ptr 0 0 ∧ g 8 = .ptr 1 0 ∧ g 14 = .int .i64 z ∧ g 15 = .bool (wholeW w s args).isSome ∧
                  σ = [.var 24 [.str s.name, .int .i64 s.start, .int .i64 s.step, .lst (numEls s.vals)], .var 24 [.str [], .int .i64 0, .int .i64 0, .nils]]) ?_ ?_
              · rintro f σ ⟨z, hz2, f0, f2, f3, f5, f8, f14, f15, rfl⟩
                cases hW : wholeW w s args with
                | none =>
                  rw [hW] at f15 hR
                  simp only at hR
                  subst hR
                  simp [f0, f2, f3, f5, f8, f14, f15, applyA, noSr, srA_eq, numEls_nil, splice]
                | some n =>
                  have hzn := hz2 n hW
                  subst hzn
                  rw [hW] at f15
                  simp [f0, f2, f3, f5, f8, f14, f15, h3']
                  rw [h3'] at kL
                  have hn14 : wholeW w s args = some (z) := hW
                  rw [hn14, h3', howS, if_pos rfl] at hR
                  simp only at hR
                  refine qc_same kL (by simp) (by simp) ?_
                  by_cases hlong : 400 < L.length
                  · have hlong' : (400 : Int) < (L.length : Int) := by omega
                    rw [if_pos hlong] at hR
                    subst hR
                    simp [f0, f2, f3, f5, f8, hlong, hlong', applyA, noSr, srA_eq, numEls_nil, splice]
                  have hlong' : ¬ (400 : Int) < (L.length : Int) := by omega
                  rw [if_neg hlong, if_neg hsm] at hR
                  simp [f0, f2, f3, f5, f8, f14, hlong, hlong', hns, splice]
                  obtain ⟨F, hF⟩ : ∃ F : Nat → N, F = valueW w s args (z) := ⟨_, rfl⟩
                  have hV : valsW w s args (z) = (List.range s.vals.length).map F := by rw [hF]; rfl
                  rw [hV] at hR
                  refine lp_startx (fun x f σ => ∃ (k : Nat) (V : AV), x = s.vals.length - k ∧ k ≤ s.vals.length ∧ f 0 = .str w.txt ∧ f 2 = .lst (numEls args) ∧ f 5 = .ptr 0 0 ∧ f 8 = .ptr 1 0 ∧ f 14 = .int .i64 (z) ∧ f 19 = .ptr 2 0 ∧ f 22 = .int .i64 k ∧
                    σ[0]? = some (.var 24 [.str s.name, .int .i64 s.start, .int .i64 s.step, .lst (numEls s.vals)]) ∧ σ[1]? = some (.var 24 [.str [], .int .i64 0, .int .i64 0, .nils]) ∧ σ[2]? = some (.var 24 [.str L, .int .i64 s.start, .int .i64 s.step, V]) ∧ NlS 3 σ V ((List.range k).map F) ∧ 3 ≤ σ.length) s.vals.length ?_ ?_
                  · exact ⟨0, .nils, rfl, by omega, by simp [f0], by simp [f2], by simp [f5], by simp [f8], by simp [f14], by simp, by simp, by simp, by simp, by simp, .inl ⟨rfl, rfl⟩, by simp⟩
                  rintro x f σ ⟨k, V, rfl, hk, f0, f2, f5, f8, f14, f19, f22, s0, s1, s2, hN, h3l⟩
                  have hV1 := hN.one
                  have hvlen := numEls_len s.vals
                  have hvl := hSR.vl
                  simp [f5, f22, s0, hvlen]
                  refine cb_dec (fun hlt => ?_) (fun hge => ?_)
                  · have hlt' : k < s.vals.length := by omega
                    have hw1 : IntKind.i64.wrap ((k : Int) + 1) = (k : Int) + 1 := wrap_i64 (by omega) (by omega)
                    have kv := rValue_ok (G := G) w hsm s h hSR args ho (by omega) (by omega) (z) hW k hlt'
                    have hFk : valueW w s args (z) k = F k := by rw [hF]
                    rw [hFk, srA_eq s, numA_eq (F k)] at kv
                    simp [f0, f2, f5, f14, f19, f22, s0, s2, hV1, splice]
                    refine qc_same kv (by simp) (by simp) ?_
                    simp [f19, s2, hV1]
                    refine ap_nls hN (by omega) (by simp; omega) (F k) ?_
                    intro v' σ2 hN2 hle2 hpre2
                    have hv1 := hN2.one
                    have b0 := (hpre2 0 (by omega)).trans s0
                    have b1 := (hpre2 1 (by omega)).trans s1
                    have b2 := (hpre2 2 (by omega)).trans s2
                    simp [f19, f22, b2, hv1, splice, hw1]
                    refine nx_intro (s.vals.length - (k + 1)) (by omega) ⟨k + 1, v', rfl, by omega, by simp [f0], by simp [f2], by simp [f5], by simp [f8], by simp [f14], by simp [f19], by simp, ?_, ?_, ?_, ?_, by simp; omega⟩
                    · rw [List.getElem?_set_ne (by omega)]; exact b0
                    · rw [List.getElem?_set_ne (by omega)]; exact b1
                    · rw [List.getElem?_set_self (by omega)]
                    · have : (List.range (k + 1)).map F = (List.range k).map F ++ [F k] := by rw [List.range_succ, List.map_append]; rfl
                      rw [this]
                      exact hN2.mono fun id h1 h2 => List.getElem?_set_ne (by omega)
                  · have : k = s.vals.length := by omega
                    subst this
                    subst hR
                    have hfin : ∀ (k : Nat) (σ' : Store), (∀ id, 3 ≤ id → σ'[id]? = σ[id]?) → fin1 σ' k V = some (.lst (numEls ((List.range s.vals.length).map F))) := fun k σ' hk => (hN.mono fun id h1 _ => hk id h1).fin
                    have hset : ∀ e : Entry, (List.set σ 1 e)[1]? = some e := fun e => List.getElem?_set_self (by omega)
                    simp [f8, f19, s1, s2, hV1, splice, hset]
                    rw [hfin 0 _ fun id h1 => List.getElem?_set_ne (by omega)]
                    simp [applyA, srA_eq]
              · cases w
                case absolute =>
                  have hW : wholeW .absolute s args = some (-1) := by unfold wholeW; rfl
                  simp [f0, f2, f3, f5, f8, Wd.txt]
                  exact jn_intro ⟨-1, fun n h => by rw [hW] at h; cases h; rfl, by simp [f0, Wd.txt], by simp [f2], by simp [f3], by simp [f5], by simp [f8], by simp, by simp [hW], rfl⟩
                case negate =>
                  have hW : wholeW .negate s args = some (-1) := by unfold wholeW; rfl
                  simp [f0, f2, f3, f5, f8, Wd.txt]
                  exact jn_intro ⟨-1, fun n h => by rw [hW] at h; cases h; rfl, by simp [f0, Wd.txt], by simp [f2], by simp [f3], by simp [f5], by simp [f8], by simp, by simp [hW], rfl⟩
                case squareRoot =>
                  have hW : wholeW .squareRoot s args = some (-1) := by unfold wholeW; rfl
                  simp [f0, f2, f3, f5, f8, Wd.txt]
                  exact jn_intro ⟨-1, fun n h => by rw [hW] at h; cases h; rfl, by simp [f0, Wd.txt], by simp [f2], by simp [f3], by simp [f5], by simp [f8], by simp, by simp [hW], rfl⟩
                case invert =>
                  have hW : wholeW .invert s args = some (-1) := by unfold wholeW; rfl
                  simp [f0, f2, f3, f5, f8, Wd.txt]
                  exact jn_intro ⟨-1, fun n h => by rw [hW] at h; cases h; rfl, by simp [f0, Wd.txt], by simp [f2], by simp [f3], by simp [f5], by simp [f8], by simp, by simp [hW], rfl⟩
                case derivative =>
                  have hW : wholeW .derivative s args = some (-1) := by unfold wholeW; rfl
                  simp [f0, f2, f3, f5, f8, Wd.txt]
                  exact jn_intro ⟨-1, fun n h => by rw [hW] at h; cases h; rfl, by simp [f0, Wd.txt], by simp [f2], by simp [f3], by simp [f5], by simp [f8], by simp, by simp [hW], rfl⟩
                case integral =>
                  have hW : wholeW .integral s args = some (-1) := by unfold wholeW; rfl
                  simp [f0, f2, f3, f5, f8, Wd.txt]
                  exact jn_intro ⟨-1, fun n h => by rw [hW] at h; cases h; rfl, by simp [f0, Wd.txt], by simp [f2], by simp [f3], by simp [f5], by simp [f8], by simp, by simp [hW], rfl⟩
                case isNonNull =>
                  have hW : wholeW .isNonNull s args = some (-1) := by unfold wholeW; rfl
                  simp [f0, f2, f3, f5, f8, Wd.txt]
                  exact jn_intro ⟨-1, fun n h => by rw [hW] at h; cases h; rfl, by simp [f0, Wd.txt], by simp [f2], by simp [f3], by simp [f5], by simp [f8], by simp, by simp [hW], rfl⟩
                case nonNegativeDerivative =>
                  have hW : wholeW .nonNegativeDerivative s args = some (-1) := by unfold wholeW; rfl
                  simp [f0, f2, f3, f5, f8, Wd.txt]
                  exact jn_intro ⟨-1, fun n h => by rw [hW] at h; cases h; rfl, by simp [f0, Wd.txt], by simp [f2], by simp [f3], by simp [f5], by simp [f8], by simp, by simp [hW], rfl⟩
                case perSecond =>
                  have hW : wholeW .perSecond s args = some (-1) := by unfold wholeW; rfl
                  simp [f0, f2, f3, f5, f8, Wd.txt]
                  exact jn_intro ⟨-1, fun n h => by rw [hW] at h; cases h; rfl, by simp [f0, Wd.txt], by simp [f2], by simp [f3], by simp [f5], by simp [f8], by simp, by simp [hW], rfl⟩
                case transformNull =>
                  have hW : wholeW .transformNull s args = some (-1) := by unfold wholeW; rfl
                  simp [f0, f2, f3, f5, f8, Wd.txt]
                  exact jn_intro ⟨-1, fun n h => by rw [hW] at h; cases h; rfl, by simp [f0, Wd.txt], by simp [f2], by simp [f3], by simp [f5], by simp [f8], by simp, by simp [hW], rfl⟩
                case scale =>
                  have hW : wholeW .scale s args = some (-1) := by unfold wholeW; rfl
                  simp [f0, f2, f3, f5, f8, Wd.txt]
                  exact jn_intro ⟨-1, fun n h => by rw [hW] at h; cases h; rfl, by simp [f0, Wd.txt], by simp [f2], by simp [f3], by simp [f5], by simp [f8], by simp, by simp [hW], rfl⟩
                case offset =>
                  have hW : wholeW .offset s args = some (-1) := by unfold wholeW; rfl
                  simp [f0, f2, f3, f5, f8, Wd.txt]
                  exact jn_intro ⟨-1, fun n h => by rw [hW] at h; cases h; rfl, by simp [f0, Wd.txt], by simp [f2], by simp [f3], by simp [f5], by simp [f8], by simp, by simp [hW], rfl⟩
                case removeAboveValue =>
                  have hW : wholeW .removeAboveValue s args = some (-1) := by unfold wholeW; rfl
                  simp [f0, f2, f3, f5, f8, Wd.txt]
                  exact jn_intro ⟨-1, fun n h => by rw [hW] at h; cases h; rfl, by simp [f0, Wd.txt], by simp [f2], by simp [f3], by simp [f5], by simp [f8], by simp, by simp [hW], rfl⟩
                case removeBelowValue =>
                  have hW : wholeW .removeBelowValue s args = some (-1) := by unfold wholeW; rfl
                  simp [f0, f2, f3, f5, f8, Wd.txt]
                  exact jn_intro ⟨-1, fun n h => by rw [hW] at h; cases h; rfl, by simp [f0, Wd.txt], by simp [f2], by simp [f3], by simp [f5], by simp [f8], by simp, by simp [hW], rfl⟩
                case clamp =>
                  have hW : wholeW .clamp s args = some (-1) := by unfold wholeW; rfl
                  simp [f0, f2, f3, f5, f8, Wd.txt]
                  exact jn_intro ⟨-1, fun n h => by rw [hW] at h; cases h; rfl, by simp [f0, Wd.txt], by simp [f2], by simp [f3], by simp [f5], by simp [f8], by simp, by simp [hW], rfl⟩
                case keepLastValue =>
                  have kw := rWhole25_ok (G := G) a hao hga 0 1125899906842624
                  have hW : wholeW .keepLastValue s args = wholeS a 0 1125899906842624 := by
                    rw [hargs]
                    unfold wholeW
                    simp only [Wd.bounds]
                    cases wholeS a 0 1125899906842624 <;> simp
                  rw [numA_eq a] at kw
                  simp [f0, f2, f3, f5, f8, Wd.txt, hlen, hz0, hz1, hx1, hx2]
                  refine ac_same kw (by simp) ?_
                  rintro r ⟨z, rfl, hz⟩
                  simp
                  exact jn_intro ⟨z, fun n h => by rw [hW] at h; exact hz n h, by simp [f0, Wd.txt], by simp [f2], by simp [f3], by simp [f5], by simp [f8], by simp, by simp [hW], rfl⟩
                case delay =>
                  have kw := rWhole25_ok (G := G) a hao hga (-1125899906842624) 1125899906842624
                  have hW : wholeW .delay s args = wholeS a (-1125899906842624) 1125899906842624 := by
                    rw [hargs]
                    unfold wholeW
                    simp only [Wd.bounds]
                    cases wholeS a (-1125899906842624) 1125899906842624 <;> simp
                  rw [numA_eq a] at kw
                  simp [f0, f2, f3, f5, f8, Wd.txt, hlen, hz0, hz1, hx1, hx2]
                  refine ac_same kw (by simp) ?_
                  rintro r ⟨z, rfl, hz⟩
                  simp
                  exact jn_intro ⟨z, fun n h => by rw [hW] at h; exact hz n h, by simp [f0, Wd.txt], by simp [f2], by simp [f3], by simp [f5], by simp [f8], by simp, by simp [hW], rfl⟩
                case movingAverage =>
                  have kw := rWhole25_ok (G := G) a hao hga 1 2000
                  have hW : wholeW .movingAverage s args = wholeS a 1 2000 := by
                    rw [hargs]
                    unfold wholeW
                    simp only [Wd.bounds]
                    cases wholeS a 1 2000 <;> simp
                  rw [numA_eq a] at kw
                  simp [f0, f2, f3, f5, f8, Wd.txt, hlen, hz0, hz1, hx1, hx2]
                  refine ac_same kw (by simp) ?_
                  rintro r ⟨z, rfl, hz⟩
                  simp
                  exact jn_intro ⟨z, fun n h => by rw [hW] at h; exact hz n h, by simp [f0, Wd.txt], by simp [f2], by simp [f3], by simp [f5], by simp [f8], by simp, by simp [hW], rfl⟩
                case movingSum =>
                  have kw := rWhole25_ok (G := G) a hao hga 1 2000
                  have hW : wholeW .movingSum s args = wholeS a 1 2000 := by
                    rw [hargs]
                    unfold wholeW
                    simp only [Wd.bounds]
                    cases wholeS a 1 2000 <;> simp
                  rw [numA_eq a] at kw
                  simp [f0, f2, f3, f5, f8, Wd.txt, hlen, hz0, hz1, hx1, hx2]
                  refine ac_same kw (by simp) ?_
                  rintro r ⟨z, rfl, hz⟩
                  simp
                  exact jn_intro ⟨z, fun n h => by rw [hW] at h; exact hz n h, by simp [f0, Wd.txt], by simp [f2], by simp [f3], by simp [f5], by simp [f8], by simp, by simp [hW], rfl⟩
                case movingMin =>
                  have kw := rWhole25_ok (G := G) a hao hga 1 2000
                  have hW : wholeW .movingMin s args = wholeS a 1 2000 := by
                    rw [hargs]
                    unfold wholeW
                    simp only [Wd.bounds]
                    cases wholeS a 1 2000 <;> simp
                  rw [numA_eq a] at kw
                  simp [f0, f2, f3, f5, f8, Wd.txt, hlen, hz0, hz1, hx1, hx2]
                  refine ac_same kw (by simp) ?_
                  rintro r ⟨z, rfl, hz⟩
                  simp
                  exact jn_intro ⟨z, fun n h => by rw [hW] at h; exact hz n h, by simp [f0, Wd.txt], by simp [f2], by simp [f3], by simp [f5], by simp [f8], by simp, by simp [hW], rfl⟩
                case movingMax =>
                  have kw := rWhole25_ok (G := G) a hao hga 1 2000
                  have hW : wholeW .movingMax s args = wholeS a 1 2000 := by
                    rw [hargs]
                    unfold wholeW
                    simp only [Wd.bounds]
                    cases wholeS a 1 2000 <;> simp
                  rw [numA_eq a] at kw
                  simp [f0, f2, f3, f5, f8, Wd.txt, hlen, hz0, hz1, hx1, hx2]
                  refine ac_same kw (by simp) ?_
                  rintro r ⟨z, rfl, hz⟩
                  simp
                  exact jn_intro ⟨z, fun n h => by rw [hW] at h; exact hz n h, by simp [f0, Wd.txt], by simp [f2], by simp [f3], by simp [f5], by simp [f8], by simp, by simp [hW], rfl⟩
                case round =>
                  have kw := rWhole25_ok (G := G) a hao hga 0 6
                  have hW : wholeW .round s args = wholeS a 0 6 := by
                    rw [hargs]
                    unfold wholeW
                    simp only [Wd.bounds]
                    cases wholeS a 0 6 <;> simp
                  rw [numA_eq a] at kw
                  simp [f0, f2, f3, f5, f8, Wd.txt, hlen, hz0, hz1, hx1, hx2]
                  refine ac_same kw (by simp) ?_
                  rintro r ⟨z, rfl, hz⟩
                  simp
                  exact jn_intro ⟨z, fun n h => by rw [hW] at h; exact hz n h, by simp [f0, Wd.txt], by simp [f2], by simp [f3], by simp [f5], by simp [f8], by simp, by simp [hW], rfl⟩
                case summarize => exact absurd rfl hsm
end Go.Proofs.YtipncibiodfmdaaGreatDoor
end
