/- Functions of one series: the fixed fact; the law of labels. A series as an argument of a law. The package's variables that shape reads: what the row's condition says, and a world that meets it; a call as argument. A call as an argument of a law. A witness world whose package variables hold references. Functions of one series: what comes of a call is a series as it must be; the law of lengths. Functions of one series: the law of delays. -/
import Derived.OpenShut
import Derived.Handed
import Derived.DataWitness
import Derived.Test.YtipncibiodfmdaaGreatDoorBn1
import Derived.Test.YtipncibiodfmdaaGreatDoorBn2
import Derived.Test.YtipncibiodfmdaaGreatDoorBn3
import Derived.Test.YtipncibiodfmdaaGreatDoorBn4
import Derived.Test.YtipncibiodfmdaaGreatDoorBn5
import Derived.Test.YtipncibiodfmdaaGreatDoorBn6
section
set_option linter.unusedSimpArgs false
set_option linter.unusedVariables false
set_option linter.constructorNameAsVariable false
set_option maxHeartbeats 4000000
namespace Go.Proofs.YtipncibiodfmdaaGreatDoor
open Go.Abs Go.Num Go.Ser Go.Dec Go.Shp
variable {G : Globs}
def ofS (l : List Int) : Sr := ⟨[97], 0, 60, l.map fun v => (false, v * 1000000)⟩
theorem of_ok (l : List Int) (hl : l.length ≤ 1000) (hb : ∀ v ∈ l, -1000 ≤ v ∧ v ≤ 1000) : PCalls Tryz.prog n_isobarlaw25_of [.lst (l.map fun v => [.int .i64 v])] (fun r => r = srA (ofS l)) := by
  refine pcalls_of_awp hmix c_isobarlaw25_of rfl ?_
  simp [a_isobarlaw25_of, splice]
  refine lp_startx (fun x f σ => ∃ (k : Nat) (V : AV), x = l.length - k ∧ k ≤ l.length ∧ f 0 = .lst (l.map fun v => [.int .i64 v]) ∧ f 2 = .ptr 0 0 ∧ f 3 = .ptr 1 0 ∧ f 4 = .int .i64 k ∧
    σ[0]? = some (.var 24 [.str [], .int .i64 0, .int .i64 0, .nils]) ∧ σ[1]? = some (.var 24 [.str [97], .int .i64 0, .int .i64 60, V]) ∧ NlS 2 σ V ((l.take k).map fun v => (false, v * 1000000)) ∧ 2 ≤ σ.length) l.length ?_ ?_
  · exact ⟨0, .nils, rfl, by omega, by simp, by simp, by simp, by simp, by simp, by simp, .inl ⟨rfl, by simp⟩, by simp⟩
  rintro x f σ ⟨k, V, rfl, hk, f0, f2, f3, f4, s0, s1, hN, h2⟩
  have hV1 := hN.one
  simp [f0, f4]
  refine cb_dec (fun hlt => ?_) (fun hge => ?_)
  · have hlt' : k < l.length := by omega
    obtain ⟨y, hy⟩ : ∃ y, l[k]? = some y := ⟨_, List.getElem?_eq_getElem hlt'⟩
    have hyb := hb y (List.mem_of_getElem? hy)
    have hw : IntKind.i64.wrap ((k : Int) + 1) = (k : Int) + 1 := wrap_i64 (by omega) (by omega)
    have hw2 : IntKind.i64.wrap (y * 1000000) = y * 1000000 := wrap_i64 (by omega) (by omega)
    obtain ⟨hx1, hx2⟩ := List.getElem?_eq_some_iff.1 hy
    simp [f0, f3, f4, s1, hx1, hx2, hV1, hw2, splice]
    refine ap_nls hN h2 (by simp; omega) (false, y * 1000000) ?_
    intro v' σ2 hN2 hle2 hpre2
    have hv1 := hN2.one
    have b0 := (hpre2 0 (by omega)).trans s0
    have b1 := (hpre2 1 (by omega)).trans s1
    simp [f3, f4, b1, hv1, splice, hw]
    refine nx_intro (l.length - (k + 1)) (by omega) ⟨k + 1, v', rfl, by omega, by simp [f0], by simp [f2], by simp [f3], by simp, ?_, ?_, ?_, by simp; omega⟩
    · rw [List.getElem?_set_ne (by omega)]; exact b0
    · rw [List.getElem?_set_self (by omega)]
    · have : ((l.take (k + 1)).map fun v => ((false, v * 1000000) : N)) = ((l.take k).map fun v => (false, v * 1000000)) ++ [(false, y * 1000000)] := by
        rw [List.take_add_one, hy]; simp
      rw [this]
      exact hN2.mono fun id h1 h2 => List.getElem?_set_ne (by omega)
  · have : k = l.length := by omega
    subst this
    rw [List.take_length] at hN
    have hset : ∀ e : Entry, (List.set σ 0 e)[0]? = some e := fun e => List.getElem?_set_self (by omega)
    have hfin : ∀ (k : Nat) (σ' : Store), (∀ id, 2 ≤ id → σ'[id]? = σ[id]?) → fin1 σ' k V = some (.lst (numEls (l.map fun v => (false, v * 1000000)))) := fun k σ' hk => (hN.mono fun id h1 _ => hk id h1).fin
    simp [f2, f3, s0, s1, hV1, splice, hset]
    rw [hfin 0 _ fun id h1 => List.getElem?_set_ne (by omega)]
    simp [srA_eq, ofS]
theorem ofS_ok (l : List Int) (hl : l.length ≤ 1000) (hb : ∀ v ∈ l, -1000 ≤ v ∧ v ≤ 1000) : SrOk (ofS l) :=
  ⟨by simp [ofS], by simp [ofS], by simp [ofS], by simp [ofS], by simp [ofS], by simp [ofS]; omega, fun n hn => by
    simp only [ofS, List.mem_map] at hn
    obtain ⟨v, hv, rfl⟩ := hn
    have := hb v hv
    unfold okN; simp only; omega⟩
theorem alive25_ok [GSpc] [GPow] : PCalls Tryz.prog n_isobarlaw25_alive [] (fun r => r = .bool true) := by
  refine pcalls_of_awp hmix c_isobarlaw25_alive rfl ?_
  have o1 := of_ok (G := G) [1, 2, 3] (by decide) (by decide)
  have o2 := of_ok (G := G) [1, 4] (by decide) (by decide)
  have o3 := of_ok (G := G) [1, 3, 5] (by decide) (by decide)
  have k1 := sApply_ok (G := G) Wd.movingSum.txt (ofS [1, 2, 3]) (ofS_ok _ (by decide) (by decide)) [(false, 2000000)] (by unfold oksN okN; decide) [] (by decide) (by decide)
  have k2 := sApply_ok (G := G) Wd.derivative.txt (ofS [1, 4]) (ofS_ok _ (by decide) (by decide)) [] (by unfold oksN okN; decide) [] (by decide) (by decide)
  have e1 : applyS Wd.movingSum.txt (ofS [1, 2, 3]) [(false, 2000000)] [] = .ok ⟨[109, 111, 118, 105, 110, 103, 83, 117, 109, 40, 97, 44, 50, 41], 0, 60, [(false, 1000000), (false, 3000000), (false, 5000000)]⟩ := by kernel_rfl
  have e2 : applyS Wd.derivative.txt (ofS [1, 4]) [] [] = .ok ⟨[100, 101, 114, 105, 118, 97, 116, 105, 118, 101, 40, 97, 41], 0, 60, [(true, 0), (false, 3000000)]⟩ := by kernel_rfl
  rw [e1] at k1
  rw [e2] at k2
  have kS := same_ok (G := G) [(false, 1000000), (false, 3000000), (false, 5000000)] (by decide)
  simp only [applyA, srA_eq, ofS, numEls, Wd.txt, List.map_cons, List.map_nil, Int.reduceMul] at k1 k2 o1 o2 o3 kS
  simp [a_isobarlaw25_alive, lay, splice, chunks]
  refine ac_same o1 (by simp) ?_
  rintro r rfl
  simp [lay, splice, chunks]
  refine ac_same k1 (by simp) ?_
  rintro r rfl
  simp [lay, splice, chunks]
  refine ac_same o2 (by simp) ?_
  rintro r rfl
  simp
  refine ac_pure k2 (.cons (.pure _ (by simp)) (.cons (.pure _ (by simp)) (.cons .nils (.cons (.pure _ (by simp)) .nil)))) ?_
  rintro r rfl
  simp [lay, splice, chunks]
  refine qc_any o3 (by simp) ?_
  simp
  refine qc_same kS (by simp) (by simp) ?_
  simp
/-- A call: its word, its numbers, its text. -/
structure Cl where
  word : List UInt8
  args : List N
  text : List UInt8
structure ClOk (c : Cl) : Prop where
  wd : c.word.length ≤ 9223372036854775807
  al : c.args.length ≤ 9223372036854775807
  ar : oksN c.args
  tx : c.text.length ≤ 9223372036854775807
def clC (c : Cl) : List AV := [.str c.word, .lst (numEls c.args), .str c.text]
def clA (c : Cl) : AV := .agg (clC c)
theorem clA_eq (c : Cl) : clA c = .agg [.str c.word, .lst (numEls c.args), .str c.text] := rfl
def great25 (nw na nt nv nn : Nat) : Bool := decide (20 < na) || decide (1000 < nw) || decide (1000 < nt) || decide (400 < nv) || decide (1000 < nn)
theorem great25_ok (word text name : List UInt8) (A V : AV) (na nv : Nat) (hA : (A = .nils ∧ na = 0) ∨ ∃ l, A = .lst (numEls l) ∧ na = l.length) (hV : (V = .nils ∧ nv = 0) ∨ ∃ l, V = .lst (numEls l) ∧ nv = l.length) (st sp : Int) :
    PCalls Tryz.prog n_isobarlaw25_great [.agg [.str word, A, .str text], .agg [.str name, .int .i64 st, .int .i64 sp, V]] (fun r => r = .bool (great25 word.length na text.length nv name.length)) := by
  refine pcalls_of_awp hmix c_isobarlaw25_great rfl ?_
  obtain ⟨B, hB⟩ : ∃ B, B = great25 word.length na text.length nv name.length := ⟨_, rfl⟩
  rw [← hB]
  unfold great25 at hB
  have hA1 : A.one = true ∧ A.cells = [A] := by rcases hA with ⟨rfl, _⟩ | ⟨l, rfl, _⟩ <;> exact ⟨rfl, rfl⟩
  have hV1 : V.one = true ∧ V.cells = [V] := by rcases hV with ⟨rfl, _⟩ | ⟨l, rfl, _⟩ <;> exact ⟨rfl, rfl⟩
  have hAv : ∀ σ, (view σ A).map (fun l => AV.int .i64 l.length) = some (.int .i64 na) := fun σ => by
    rcases hA with ⟨rfl, rfl⟩ | ⟨l, rfl, rfl⟩ <;> simp [numEls_len]
  have hVv : ∀ σ, (view σ V).map (fun l => AV.int .i64 l.length) = some (.int .i64 nv) := fun σ => by
    rcases hV with ⟨rfl, rfl⟩ | ⟨l, rfl, rfl⟩ <;> simp [numEls_len]
  by_cases h1 : 20 < na
  · have h1' : (20 : Int) < (na : Int) := by omega
    simp [a_isobarlaw25_great, boxOp, hA1, hV1, hAv, hVv, h1, h1', hB]
  have h1' : ¬ (20 : Int) < (na : Int) := by omega
  by_cases h2 : 1000 < word.length
  · have h2' : (1000 : Int) < (word.length : Int) := by omega
    simp [a_isobarlaw25_great, boxOp, hA1, hV1, hAv, hVv, h1, h1', h2, h2', hB]
  have h2' : ¬ (1000 : Int) < (word.length : Int) := by omega
  by_cases h3 : 1000 < text.length
  · have h3' : (1000 : Int) < (text.length : Int) := by omega
    simp [a_isobarlaw25_great, boxOp, hA1, hV1, hAv, hVv, h1, h1', h2, h2', h3, h3', hB]
  have h3' : ¬ (1000 : Int) < (text.length : Int) := by omega
  by_cases h4 : 400 < nv
  · have h4' : (400 : Int) < (nv : Int) := by omega
    simp [a_isobarlaw25_great, boxOp, hA1, hV1, hAv, hVv, h1, h1', h2, h2', h3, h3', h4, h4', hB]
  have h4' : ¬ (400 : Int) < (nv : Int) := by omega
  by_cases h5 : 1000 < name.length
  · have h5' : (1000 : Int) < (name.length : Int) := by omega
    simp [a_isobarlaw25_great, boxOp, hA1, hV1, hAv, hVv, h1, h1', h2, h2', h3, h3', h4, h4', h5, h5', hB]
  have h5' : ¬ (1000 : Int) < (name.length : Int) := by omega
  simp [a_isobarlaw25_great, boxOp, hA1, hV1, hAv, hVv, h1, h1', h2, h2', h3, h3', h4, h4', h5, h5', hB]
theorem great25_no {a b c d e : Nat} (h : great25 a b c d e = false) : a ≤ 1000 ∧ b ≤ 20 ∧ c ≤ 1000 ∧ d ≤ 400 ∧ e ≤ 1000 := by
  unfold great25 at h
  simp only [Bool.or_eq_false_iff, decide_eq_false_iff_not] at h
  omega
theorem labels_law [GSpc] [GPow] (c : Cl) (hc : ClOk c) (name : List UInt8) : PCalls Tryz.prog n_isobarlaw25_ShapeLabels [clA c, .str name] (fun r => r = .bool true) := by
  refine pcalls_of_awp hmix c_isobarlaw25_ShapeLabels rfl ?_
  have kG := great25_ok (G := G) c.word c.text name (.lst (numEls c.args)) .nils c.args.length 0 (.inr ⟨_, rfl, rfl⟩) (.inl ⟨rfl, rfl⟩) 0 0
  rw [clA_eq]
  simp [a_isobarlaw25_ShapeLabels]
  refine ac_same alive25_ok (by simp) ?_
  rintro r rfl
  simp [splice]
  refine ac_same kG (by simp) ?_
  rintro r rfl
  cases hg : great25 c.word.length c.args.length c.text.length 0 name.length with
  | true => simp
  | false =>
    obtain ⟨g1, g2, g3, g4, g5⟩ := great25_no hg
    have kT := sTakes_ok (G := G) c.word
    have kT' := rTakes_ok (G := G) c.word
    have kL := sLabel_ok (G := G) c.word name c.args c.text (by omega) (by omega) (by omega) (by omega) hc.ar
    have kL' := rLabel_ok (G := G) c.word name c.args c.text (by omega) (by omega) (by omega) (by omega) hc.ar
    obtain ⟨a, b, d, ht⟩ : ∃ a b d, takesA c.word = .tup [.int .i64 a, .int .i64 b, .bool d] := by
      unfold takesA
      split <;> exact ⟨_, _, _, rfl⟩
    rw [ht] at kT kT'
    simp
    refine ac_same kT (by simp) ?_
    rintro r rfl
    simp
    refine ac_same kT' (by simp) ?_
    rintro r rfl
    simp
    refine qc_same kL (by simp) (by simp) ?_
    simp
    refine qc_same kL' (by simp) (by simp) ?_
    simp
end Go.Proofs.YtipncibiodfmdaaGreatDoor
end
section
set_option linter.unusedSimpArgs false
set_option linter.unusedVariables false
set_option linter.constructorNameAsVariable false
namespace Go.Proofs.YtipncibiodfmdaaGreatDoor
open Go.ChangeShapes Go.WideShapes Go.ChangeAt Go.RowKit Go.ChangeMaps Go.Abs Go.Ser
theorem u8_of {n : Int} (h : (Lit.int .u8 n).wf = true) : ∃ c : UInt8, n = c.toNat := by
  have h1 : IntKind.u8.min = 0 := rfl
  have h2 : IntKind.u8.max = 255 := rfl
  simp only [Lit.wf, Bool.and_eq_true, decide_eq_true_eq] at h
  exact ⟨n.toNat.toUInt8, by simp; omega⟩
section
variable {H : Type} {enc : TypeId × Value → H} {w : World} {base : Nat} {spare : Nat → Bool} {held : Bool}
theorem ser_size : Tryz.prog.cellsOf 24 = 4 := by kernel_rfl
theorem ser_types : Tryz.prog.cellTypes Tryz.prog.depth 24 = some [9, 3, 3, 22] := by kernel_rfl
theorem str_size4 : Tryz.prog.cellsOf 9 = 1 := by kernel_rfl
theorem int_size4 : Tryz.prog.cellsOf 3 = 1 := by kernel_rfl
theorem nums_size4 : Tryz.prog.cellsOf 22 = 1 := by kernel_rfl
theorem ir_bytes4 {Im : Addr → Prop} {w : World} (s : ByteArray) : IR Im w (.str s.data.toList) (.string s) := by
  have : (.string s : Value) = .string ⟨s.data.toList.toArray⟩ := by cases s; simp
  rw [this]; exact .str _
set_option maxRecDepth 100000 in
theorem open_ser {r : Reach} {b0 : Nat} {v : Value} {d : DataW H} {ps : List MemPlace} (hval : Value.okWide Tryz.prog w r b0 24 v) (hd : DataW.Trod enc Tryz.prog w base spare held 24 v d ps) :
    ∃ s : Sr, SrOk s ∧ IR (oldIm w) w (srA s) v := by
  have hval' := hval
  simp only [Value.okWide, Tryz.underlying24] at hval'
  obtain ⟨cs, rfl, hsz, ts, hts, _, hcell⟩ := hval'
  rw [ser_types] at hts
  simp only [Option.some.injEq] at hts
  subst hts
  obtain ⟨fuel, hf⟩ := hd
  obtain ⟨xs, n, rfl, hx, hl, hxl, hall⟩ := DataW.trod_struct Tryz.underlying24 hf
  have hx2 : xs.length = 4 := hxl
  obtain ⟨x0, x1, x2, x3, rfl⟩ : ∃ x0 x1 x2 x3, xs = [x0, x1, x2, x3] := by
    match xs, hx2 with
    | [a, b, c, d], _ => exact ⟨a, b, c, d, rfl⟩
  have hl2 : cs.size = 4 := by rw [hsz, ser_size]
  obtain ⟨c0, c1, c2, c3, rfl⟩ : ∃ c0 c1 c2 c3, cs = #[c0, c1, c2, c3] := by
    obtain ⟨l⟩ := cs
    match l, hl2 with
    | [a, b, c, d], _ => exact ⟨a, b, c, d, rfl⟩
  have h0 : DataW.trod enc Tryz.prog w base spare held n 9 [c0] = some x0 := by simpa [str_size4, Value.cells] using hall 0 _ rfl
  have h1 : DataW.trod enc Tryz.prog w base spare held n 3 [c1] = some x1 := by simpa [int_size4, Value.cells] using hall 1 _ rfl
  have h2 : DataW.trod enc Tryz.prog w base spare held n 3 [c2] = some x2 := by simpa [int_size4, Value.cells] using hall 2 _ rfl
  have h3 : DataW.trod enc Tryz.prog w base spare held n 22 [c3] = some x3 := by simpa [nums_size4, Value.cells] using hall 3 _ rfl
  obtain ⟨s0, e0, _, w0⟩ := DataW.trod_string Tryz.underlying9 h0
  obtain ⟨m1, e1, _, w1⟩ := DataW.trod_int Tryz.underlying3 h1
  obtain ⟨m2, e2, _, w2⟩ := DataW.trod_int Tryz.underlying3 h2
  simp only [List.cons.injEq, and_true] at e0 e1 e2
  subst e0 e1 e2
  obtain ⟨u, hu, hck⟩ := hcell 3 c3 rfl
  have hu2 : u = 22 := by simpa using hu.symm
  subst hu2
  have hval3 : Value.okWide Tryz.prog w r b0 22 c3 := by simp only [Value.okWide, Tryz.underlying22]; exact hck
  have hcs : c3.cells = #[c3] := by
    rcases DataW.trod_slice Tryz.underlying22 h3 with ⟨hc, _⟩ | ⟨a, len, cap, elems, rest, n', _, hc, _⟩
    · simp only [List.cons.injEq, and_true] at hc; subst hc; rfl
    · simp only [List.cons.injEq, and_true] at hc; subst hc; rfl
  have hd3 : DataW.Trod enc Tryz.prog w base spare held 22 c3 x3.1 x3.2 := ⟨n, by rw [hcs]; exact h3⟩
  obtain ⟨l, wl, wk, hir⟩ := open_nums hval3 hd3
  obtain ⟨a1, a2⟩ := wf_i64 w1
  obtain ⟨b1, b2⟩ := wf_i64 w2
  refine ⟨⟨s0.data.toList, m1, m2, l⟩, ⟨by rw [Array.length_toList]; exact w0, a1, a2, b1, b2, wk, wl⟩, ?_⟩
  exact .agg _ [_, _, _, _] (by simp [srC, AV.one]) rfl fun j hj hj' => by
    match j, hj with
    | 0, _ => exact ir_bytes4 _
    | 1, _ => exact .int _ _
    | 2, _ => exact .int _ _
    | 3, _ => exact hir
end
end Go.Proofs.YtipncibiodfmdaaGreatDoor
end
section
set_option linter.unusedSimpArgs false
set_option linter.unusedVariables false
set_option linter.constructorNameAsVariable false
namespace Go.Proofs.YtipncibiodfmdaaGreatDoor
open Go.ChangeShapes Go.WideShapes Go.ChangeAt Go.RowKit Go.ChangeMaps Go.Abs
abbrev gSpace : Nat := 0
instance shpGlobs : Globs := ⟨[(gPow, Lib.pow10Tab.map (AV.int .u64)), (gSpace, Lib.asciiSpaceTab.map (AV.int .u8))]⟩
instance shpP : GPow where
  pow := List.Mem.head _
instance shpS : GSpc where
  spc := .tail _ (List.Mem.head _)
theorem gin_shp {l : List (String × DataW Unit)} {w : World} (h : laidMet Tryz.prog l w) (h3 : ("internal/strconv.uint64pow10", Rows.laid_internal_strconv_uint64pow10) ∈ l) (h4 : ("strings.asciiSpace", Rows.laid_strings_asciiSpace) ∈ l) : GlobsIn w := by
  intro p hp
  have hI : ∀ g, (∃ p ∈ Globs.tab, g = p.1) → ∀ j, gIm ⟨g, j, none⟩ := fun g hg j => ⟨rfl, hg⟩
  rcases hp with _ | ⟨_, _ | ⟨_, hp⟩⟩
  · obtain ⟨r, h⟩ := laidAt h h3
    have e : (Rows.laid_internal_strconv_uint64pow10 : DataW Unit) = Lib.tabData .u64 Lib.pow10Tab := by kernel_rfl
    rw [e] at h
    have := Lib.tabIs_of_head (g := gPow) (by kernel_rfl) (by kernel_rfl) Tryz.underlying176 Tryz.underlying56 (by kernel_rfl) (by kernel_rfl) h
    refine gok_one (n := "internal/strconv.uint64pow10") (by kernel_rfl) this (by simp) (by simp [AV.one]) ?_ (hI _ ⟨_, List.Mem.head _, rfl⟩)
    intro j hj
    have hj' : j < Lib.pow10Tab.length := by simpa using hj
    simp [hj']
    exact .int _ _
  · obtain ⟨r, h⟩ := laidAt h h4
    have e : (Rows.laid_strings_asciiSpace : DataW Unit) = Lib.tabData .u8 Lib.asciiSpaceTab := by kernel_rfl
    rw [e] at h
    have := Lib.tabIs_of_head (g := gSpace) (by kernel_rfl) (by kernel_rfl) Tryz.underlying140 Tryz.underlying5 (by kernel_rfl) (by kernel_rfl) h
    refine gok_one (n := "strings.asciiSpace") (by kernel_rfl) this (by simp) (by simp [AV.one]) ?_ (hI _ ⟨_, .tail _ (List.Mem.head _), rfl⟩)
    intro j hj
    have hj' : j < Lib.asciiSpaceTab.length := by simpa using hj
    simp [hj']
    exact .int _ _
  · cases hp
/-- So many blocks has the settled world. -/
noncomputable def lowS : Nat := (World.holding Tryz.prog default ⟨#[], #[], []⟩).heap.size
/-- A world that meets the condition: the settled one, the tables laid, and two blocks more for the table of blanks. -/
noncomputable def shpWorld (os : Os) : World :=
  let w0 := World.holding Tryz.prog os ⟨#[.cells #[.slice (some ⟨lowS + 1, 0, none⟩) 7 7, .slice none 0 0, .int .i64 2] 190,
    .cells #[.int .u16 9, .int .u16 13, .int .u16 1, .int .u16 32, .int .u16 133, .int .u16 101, .int .u16 160, .int .u16 5760, .int .u16 5600, .int .u16 8192, .int .u16 8202, .int .u16 1, .int .u16 8232, .int .u16 8233, .int .u16 1, .int .u16 8239, .int .u16 8287, .int .u16 48, .int .u16 12288, .int .u16 12288, .int .u16 1] 193], #[], []⟩
  let put (h : Array Obj) (g : Nat) (cs : Array Value) : Array Obj := h.modify g fun
    | .cells _ t frozen => .cells cs t frozen
    | o => o
  let h := put w0.heap gPow (litCells Rows.laid_internal_strconv_uint64pow10).toArray
  let h := put h gSpace (litCells Rows.laid_strings_asciiSpace).toArray
  let h := put h 1 #[.pointer (some ⟨lowS, 0, none⟩)]
  let h := put h 6 (litCells Rows.laid_math_bits_deBruijn32tab).toArray
  let h := put h 7 (litCells Rows.laid_math_bits_deBruijn64tab).toArray
  let h := put h 4 (litCells Rows.laid_unicode_utf8_first).toArray
  let h := put h 5 (litCells Rows.laid_unicode_utf8_acceptRanges).toArray
  { w0 with heap := h }
noncomputable abbrev shpBlocks : List Nat := [lowS, lowS + 1, gPow, gSpace, 1, 6, 7, 4, 5]
end Go.Proofs.YtipncibiodfmdaaGreatDoor
end
section
set_option linter.unusedSimpArgs false
set_option linter.unusedVariables false
set_option linter.constructorNameAsVariable false
namespace Go.Proofs.YtipncibiodfmdaaGreatDoor
open Go.ChangeShapes Go.WideShapes Go.ChangeAt Go.RowKit Go.ChangeMaps Go.Abs Go.Ser Go.Num
section
variable {H : Type} {enc : TypeId × Value → H} {w : World} {base : Nat} {spare : Nat → Bool} {held : Bool}
theorem call_size : Tryz.prog.cellsOf 40 = 3 := by kernel_rfl
theorem call_types : Tryz.prog.cellTypes Tryz.prog.depth 40 = some [9, 22, 9] := by kernel_rfl
set_option maxRecDepth 100000 in
theorem open_call {r : Reach} {b0 : Nat} {v : Value} {d : DataW H} {ps : List MemPlace} (hval : Value.okWide Tryz.prog w r b0 40 v) (hd : DataW.Trod enc Tryz.prog w base spare held 40 v d ps) :
    ∃ c : Cl, ClOk c ∧ IR (oldIm w) w (clA c) v := by
  have hval' := hval
  simp only [Value.okWide, Tryz.underlying40] at hval'
  obtain ⟨cs, rfl, hsz, ts, hts, _, hcell⟩ := hval'
  rw [call_types] at hts
  simp only [Option.some.injEq] at hts
  subst hts
  obtain ⟨fuel, hf⟩ := hd
  obtain ⟨xs, n, rfl, hx, hl, hxl, hall⟩ := DataW.trod_struct Tryz.underlying40 hf
  have hx2 : xs.length = 3 := hxl
  obtain ⟨x0, x1, x2, rfl⟩ : ∃ x0 x1 x2, xs = [x0, x1, x2] := by
    match xs, hx2 with
    | [a, b, c], _ => exact ⟨a, b, c, rfl⟩
  have hl2 : cs.size = 3 := by rw [hsz, call_size]
  obtain ⟨c0, c1, c2, rfl⟩ : ∃ c0 c1 c2, cs = #[c0, c1, c2] := by
    obtain ⟨l⟩ := cs
    match l, hl2 with
    | [a, b, c], _ => exact ⟨a, b, c, rfl⟩
  have h0 : DataW.trod enc Tryz.prog w base spare held n 9 [c0] = some x0 := by simpa [str_size4, Value.cells] using hall 0 _ rfl
  have h1 : DataW.trod enc Tryz.prog w base spare held n 22 [c1] = some x1 := by simpa [nums_size4, Value.cells] using hall 1 _ rfl
  have h2 : DataW.trod enc Tryz.prog w base spare held n 9 [c2] = some x2 := by simpa [str_size4, Value.cells] using hall 2 _ rfl
  obtain ⟨s0, e0, _, w0⟩ := DataW.trod_string Tryz.underlying9 h0
  obtain ⟨s2, e2, _, w2⟩ := DataW.trod_string Tryz.underlying9 h2
  simp only [List.cons.injEq, and_true] at e0 e2
  subst e0 e2
  obtain ⟨u, hu, hck⟩ := hcell 1 c1 rfl
  have hu2 : u = 22 := by simpa using hu.symm
  subst hu2
  have hval1 : Value.okWide Tryz.prog w r b0 22 c1 := by simp only [Value.okWide, Tryz.underlying22]; exact hck
  have hcs : c1.cells = #[c1] := by
    rcases DataW.trod_slice Tryz.underlying22 h1 with ⟨hc, _⟩ | ⟨a, len, cap, elems, rest, n', _, hc, _⟩
    · simp only [List.cons.injEq, and_true] at hc; subst hc; rfl
    · simp only [List.cons.injEq, and_true] at hc; subst hc; rfl
  have hd1 : DataW.Trod enc Tryz.prog w base spare held 22 c1 x1.1 x1.2 := ⟨n, by rw [hcs]; exact h1⟩
  obtain ⟨l, wl, wk, hir⟩ := open_nums hval1 hd1
  refine ⟨⟨s0.data.toList, l, s2.data.toList⟩, ⟨by rw [Array.length_toList]; exact w0, wk, wl, by rw [Array.length_toList]; exact w2⟩, ?_⟩
  exact .agg _ [_, _, _] (by simp [clC, AV.one]) rfl fun j hj hj' => by
    match j, hj with
    | 0, _ => exact ir_bytes4 _
    | 1, _ => exact hir
    | 2, _ => exact ir_bytes4 _
end
end Go.Proofs.YtipncibiodfmdaaGreatDoor
end
section
namespace Go
/-- The variables of a world are of their types, references among them. -/
def World.varsRefB (P : Program) (w : World) : Bool :=
  (List.range P.globals.size).all fun g =>
    match ((begin P (fun _ _ => 0) default).world.heap[g]?).bind Obj.row?, w.heap[g]? with
    | none, _ => true
    | some (zero, t), some (.cells cs t' frozen) => decide (t' = t) && decide (frozen = (0, 0)) && cs.size == zero.size && (!P.buildable t || Row.okRefB P w t cs)
    | _, _ => false
theorem World.shaped_ref {P : Program} {w : World} (hv : w.varsRefB P = true)
    (hr : (w.heap.toList.drop P.globals.size).take ((begin P (fun _ _ => 0) default).world.heap.size - P.globals.size) = (begin P (fun _ _ => 0) default).world.heap.toList.drop P.globals.size) : w.Shaped P := by
  constructor
  · intro g zero t hg hz
    have h := List.all_eq_true.1 hv g (List.mem_range.2 hg)
    rw [hz] at h
    split at h
    · rename_i he; cases he
    · rename_i z' t1 cs t' fr he hw
      simp only [Option.some.injEq, Prod.mk.injEq] at he
      obtain ⟨rfl, rfl⟩ := he
      simp only [Bool.and_eq_true, decide_eq_true_eq, beq_iff_eq, Bool.or_eq_true, Bool.not_eq_true'] at h
      obtain ⟨⟨⟨rfl, rfl⟩, hs⟩, hb⟩ := h
      refine ⟨cs, hw, hs, fun hbuild => ?_⟩
      rcases hb with hb | hb
      · rw [hbuild] at hb; cases hb
      · exact Row.ok_of_okRefB hb
    · cases h
  · intro k h1 h2
    have h := congrArg (fun l => l[k - P.globals.size]?) hr
    simp only [List.getElem?_take, List.getElem?_drop, Array.getElem?_toList] at h
    rwa [if_pos (by omega), Nat.add_sub_cancel' h1] at h
section
variable {H : Type} {enc : TypeId × Value → H}
theorem witness_ref {C : Checked} {os : Os} {f : FuncId} {fn : Func} {s : ChangeSpec} {conds : List PathCond} {apart : Bool} {X : World → Array Value → Prop} (w0 : World) (args : Array Value) (fuel : Nat) (hos : w0.os = os)
    (hv : (w0.forCall (fun _ _ => 0) ⟨#[], args, []⟩).varsRefB C.prog = true)
    (hr : ((w0.forCall (fun _ _ => 0) ⟨#[], args, []⟩).heap.toList.drop C.prog.globals.size).take ((begin C.prog (fun _ _ => 0) default).world.heap.size - C.prog.globals.size) = (begin C.prog (fun _ _ => 0) default).world.heap.toList.drop C.prog.globals.size)
    (hok : Input.okWideB C.prog (w0.forCall (fun _ _ => 0) ⟨#[], args, []⟩) f ⟨#[], args, []⟩ = true)
    (hpre : s.preB enc C.prog fn conds apart (w0.forCall (fun _ _ => 0) ⟨#[], args, []⟩).memory args fuel = true)
    (hsz : s.sizedB enc C.prog fn apart (w0.forCall (fun _ _ => 0) ⟨#[], args, []⟩).memory args fuel = true)
    (hx : X (w0.forCall (fun _ _ => 0) ⟨#[], args, []⟩).memory args) :
    ∃ (w : World) (tape : Tape) (i : Input), w.os = os ∧ (w.forCall tape i).Shaped C.prog ∧ i.vars = [] ∧ Input.okWide C.prog (w.forCall tape i) .any w.heap.size f i ∧
      ((s.pre enc C.prog fn conds apart (w.forCall tape i).memory i.args ∧ X (w.forCall tape i).memory i.args) ∧ sizedMet enc C.prog fn (OpenSpec.ofChange s) apart (w.forCall tape i).memory i.args) ∧ ({} : Assume).holds C.prog (lone (Frame.enter C.prog f i.args .normal) [] (w.forCall tape i)) := by
  refine ⟨w0, fun _ _ => 0, ⟨#[], args, []⟩, hos, World.shaped_ref hv hr, (Input.okWide_of_okWideB (base := 0) hok).1, (Input.okWide_of_okWideB hok).2, ⟨⟨ChangeSpec.pre_of_preB hpre, hx⟩, sizedMet_of_sizedB hsz⟩, ?_⟩
  simp only [Assume.holds]
  exact ⟨by simp, by simp, fun _ => Modest.zero, by simp, by simp⟩
end
end Go
end
section
set_option linter.unusedSimpArgs false
set_option linter.unusedVariables false
set_option linter.constructorNameAsVariable false
set_option maxHeartbeats 4000000
namespace Go.Shp
open Go.Num Go.Ser Go.Dec Go.Abs Go.Proofs.YtipncibiodfmdaaGreatDoor
theorem gn_neg (a : N) (h : okN a) : gn (negN a) := by
  unfold negN
  split
  · rename_i hg
    obtain ⟨_, h2⟩ := good_iff.1 hg
    have := h.2
    simp only [most] at h2
    exact .inl (good_iff.2 ⟨rfl, by simp only [most]; omega⟩)
  · exact .inr rfl
theorem gn_sub (a b : N) : gn (subN a b) := gn_add _ _
theorem gn_abs (a : N) (h : okN a) : gn (absN a) := by
  unfold absN
  split
  · exact .inl (good_iff.2 ⟨rfl, by simp only [most]; omega⟩)
  · exact .inr rfl
theorem gn_mul (a b : N) : gn (mulN a b) := by
  unfold mulN; split
  · exact gn_tell _
  · exact .inr rfl
theorem gn_root (a : N) : gn (rootN a) := by
  unfold rootN; split
  · exact gn_tell _
  · exact .inr rfl
theorem gn_round (a : N) (d : Int) : gn (roundN a d) := by
  unfold roundN; split
  · exact gn_tell _
  · exact .inr rfl
theorem gn_rise (v p : N) (args : List N) : gn (riseN v p args) := by
  unfold riseN
  split
  · exact gn_sub _ _
  · split
    · split
      · exact gn_add _ _
      · exact .inr rfl
    · exact .inr rfl
theorem gn_of {n : N} (h : rightN n = true) : gn n := by
  cases h1 : n.1 with
  | true => exact .inr (right_null h h1)
  | false => exact .inl (right_there h h1)
theorem gn_getD {l : List N} (h : ∀ n ∈ l, rightN n = true) (i : Nat) : gn (l.getD i nothing) := by
  rw [List.getD_eq_getElem?_getD]
  cases hy : l[i]? with
  | none => exact .inr rfl
  | some y => exact gn_of (h y (List.mem_of_getElem? hy))
theorem gn_arg {args : List N} (h : args.any (fun n => !good n) = false) (k : Nat) : gn (argN args k) := by
  unfold argN
  rw [List.getD_eq_getElem?_getD]
  cases hy : args[k]? with
  | none => exact .inr rfl
  | some y =>
    left
    have := List.any_eq_false.1 h y (List.mem_of_getElem? hy)
    simpa using this
theorem gn_value (w : Wd) {s : Sr} (hs : SrR s) (ho : oksN s.vals) {args : List N} (ha : args.any (fun n => !good n) = false) (n : Int) (i : Nat) : gn (valueW w s args n i) := by
  have hv := gn_getD hs.rs i
  have hvo : okN (s.vals.getD i nothing) := by
    rw [List.getD_eq_getElem?_getD]
    cases hy : s.vals[i]? with
    | none => exact ok_nothing
    | some y => exact ho y (List.mem_of_getElem? hy)
  have a0 := gn_arg ha 0
  have a1 := gn_arg ha 1
  have gz : gn zeroN := .inl (by decide)
  have go : gn oneN := .inl (by decide)
  cases w <;> simp only [valueW]
  case absolute => exact gn_abs _ hvo
  case negate => exact gn_neg _ hvo
  case squareRoot => exact gn_root _
  case invert => exact gn_div _ _
  case derivative => exact gn_sub _ _
  case integral => split; exact hv; exact gn_reckon _ _
  case isNonNull => split; exact gz; exact go
  case nonNegativeDerivative => exact gn_rise _ _ _
  case perSecond => exact gn_div _ _
  case keepLastValue =>
    split
    · unfold keptN
      split
      · exact .inr rfl
      · split
        · exact .inr rfl
        · exact gn_getD hs.rs _
    · exact hv
  case transformNull =>
    split
    · split
      · exact gz
      · exact a0
    · exact hv
  case scale => exact gn_mul _ _
  case offset => exact gn_add _ _
  case delay =>
    unfold aheadN
    split
    · exact .inr rfl
    · exact gn_getD hs.rs _
  case removeAboveValue => split; exact .inr rfl; exact hv
  case removeBelowValue => split; exact .inr rfl; exact hv
  case round => exact gn_round _ _
  case clamp =>
    split
    · exact hv
    · split
      · exact a0
      · split
        · exact a1
        · exact hv
  all_goals exact gn_reckon _ _
theorem ok_getD {l : List N} (h : oksN l) (i : Nat) : okN (l.getD i nothing) := by
  rw [List.getD_eq_getElem?_getD]
  cases hy : l[i]? with
  | none => exact ok_nothing
  | some y => exact h y (List.mem_of_getElem? hy)
theorem ok_value (w : Wd) {s : Sr} (ho : oksN s.vals) {args : List N} (ha : oksN args) (n : Int) (i : Nat) : okN (valueW w s args n i) := by
  have hv := ok_getD ho i
  have a0 : okN (argN args 0) := ok_getD ha 0
  have a1 : okN (argN args 1) := ok_getD ha 1
  have oz : okN zeroN := by unfold okN zeroN; decide
  have oo : okN oneN := by unfold okN oneN; decide
  have ort : ∀ k, oksN (s.vals.take k) := fun k x hx => ho x (List.mem_of_mem_take hx)
  cases w <;> simp only [valueW]
  case absolute => exact ok_abs _ hv
  case negate => exact ok_neg _ hv
  case squareRoot => exact ok_root _
  case invert => exact ok_div _ _
  case derivative => exact ok_sub _ _
  case integral => split; exact hv; exact reckon_oks _ (ort _)
  case isNonNull => split; exact oz; exact oo
  case nonNegativeDerivative => exact ok_rise _ _ _
  case perSecond => exact ok_div _ _
  case keepLastValue =>
    split
    · unfold keptN
      split
      · exact ok_nothing
      · split
        · exact ok_nothing
        · exact ok_getD ho _
    · exact hv
  case transformNull =>
    split
    · split
      · exact oz
      · exact a0
    · exact hv
  case scale => exact ok_mul _ _
  case offset => exact ok_add _ _
  case delay =>
    unfold aheadN
    split
    · exact ok_nothing
    · exact ok_getD ho _
  case removeAboveValue => split; exact ok_nothing; exact hv
  case removeBelowValue => split; exact ok_nothing; exact hv
  case round => exact ok_round _ _
  case clamp =>
    split
    · exact hv
    · split
      · exact a0
      · split
        · exact a1
        · exact hv
  all_goals exact reckon_oks _ fun x hx => ort _ x (List.mem_of_mem_drop hx)
theorem ok_vals (w : Wd) {s : Sr} (ho : oksN s.vals) {args : List N} (ha : oksN args) (n : Int) : oksN (valsW w s args n) := fun v hv => by
  obtain ⟨i, _, rfl⟩ := List.mem_map.1 hv
  exact ok_value w ho ha n i
theorem vals_len (w : Wd) (s : Sr) (args : List N) (n : Int) : (valsW w s args n).length = s.vals.length := by simp [valsW]
/-- What comes of a call but summarize. -/
theorem apply_long {call : List UInt8} {s x : Sr} (ho : oksN s.vals) {args : List N} {text : List UInt8} (h : applyS call s args text = .ok x) (hns : ¬ call = Wd.summarize.txt) : ∃ w n, call = w.txt ∧ SrR s ∧ x = ⟨labelS call s.name args text, s.start, s.step, valsW w s args n⟩ ∧ x.name.length ≤ 400 ∧ args.any (fun n => !good n) = false := by
  unfold applyS at h
  split at h
  · cases h
  rename_i w hw
  have hcw := wordOf_some hw
  split at h
  · cases h
  rename_i hr
  split at h
  · cases h
  split at h
  · cases h
  rename_i ha
  split at h
  · rename_i n how _ _
    simp only at h
    split at h
    · cases h
    rename_i hl
    split at h
    · rename_i hsm
      exact absurd (hsm ▸ hcw) hns
    · cases h
      exact ⟨w, n, hcw, right_iff.1 (by simpa using hr), rfl, by simp only; omega, by simpa using ha⟩
  · cases h
theorem long_right {call : List UInt8} {s x : Sr} (ho : oksN s.vals) {args : List N} {text : List UInt8} (h : applyS call s args text = .ok x) (hns : ¬ call = Wd.summarize.txt) : SrR x ∧ x.vals.length = s.vals.length ∧ x.start = s.start ∧ x.step = s.step := by
  obtain ⟨w, n, _, hs, rfl, hl, ha⟩ := apply_long ho h hns
  refine ⟨⟨hl, by rw [vals_len]; exact hs.vl, hs.p0, hs.p1, hs.s0, hs.s1, fun v hv => ?_⟩, vals_len _ _ _ _, rfl, rfl⟩
  obtain ⟨i, _, rfl⟩ := List.mem_map.1 hv
  exact gn_right (gn_value w hs ho ha n i)
theorem apply_err {call : List UInt8} {s : Sr} {args : List N} {text : List UInt8} {e : Int} (h : applyS call s args text = .error e) : e ≠ 0 := by
  have key : ∀ a : Int, a ≠ 0 → (Except.error a : Except Int Sr) = .error e → e ≠ 0 := fun a ha he => by cases he; exact ha
  unfold applyS at h
  split at h
  · exact key _ (by decide) h
  split at h
  · exact key _ (by decide) h
  split at h
  · exact key _ (by decide) h
  split at h
  · exact key _ (by decide) h
  split at h
  · simp only at h
    split at h
    · exact key _ (by decide) h
    split at h
    · split at h
      · split at h
        · exact key _ (by decide) h
        · cases h
      · exact key _ (by decide) h
    · cases h
  · exact key _ (by decide) h
theorem sr_ok {s : Sr} (h : SrR s) (ho : oksN s.vals) : SrOk s := by
  have := h.nm
  have := h.s0
  have := h.s1
  have := h.p0
  have := h.p1
  have := h.vl
  exact ⟨by omega, by omega, by omega, by omega, by omega, by omega, ho⟩
end Go.Shp
namespace Go.Proofs.YtipncibiodfmdaaGreatDoor
open Go.Abs Go.Num Go.Ser Go.Dec Go.Shp
variable {G : Globs}
theorem long_law [GSpc] [GPow] (c : Cl) (hc : ClOk c) (s : Sr) (hs : SrOk s) : PCalls Tryz.prog n_isobarlaw25_ShapeLong [clA c, srA s] (fun r => r = .bool true) := by
  refine pcalls_of_awp hmix c_isobarlaw25_ShapeLong rfl ?_
  have kG := great25_ok (G := G) c.word c.text s.name (.lst (numEls c.args)) (.lst (numEls s.vals)) c.args.length s.vals.length (.inr ⟨_, rfl, rfl⟩) (.inr ⟨_, rfl, rfl⟩) s.start s.step
  have hlen := numEls_len s.vals
  rw [clA_eq, srA_eq]
  simp [a_isobarlaw25_ShapeLong]
  refine ac_same alive25_ok (by simp) ?_
  rintro r rfl
  simp
  refine ac_same kG (by simp) ?_
  rintro r rfl
  cases hg : great25 c.word.length c.args.length c.text.length s.vals.length s.name.length with
  | true => simp
  | false =>
    obtain ⟨g1, g2, g3, g4, g5⟩ := great25_no hg
    by_cases hsm : c.word = Wd.summarize.txt
    · have h1 := eq_true hsm
      simp only [Wd.txt] at h1
      simp [h1]
    have h1 := eq_false hsm
    simp only [Wd.txt] at h1
    have kA := sApply_ok (G := G) c.word s hs c.args hc.ar c.text (by omega) (by omega)
    rw [srA_eq s] at kA
    simp [h1]
    refine ac_same kA (by simp) ?_
    rintro r rfl
    cases hR : applyS c.word s c.args c.text with
    | error e =>
      have he := apply_err hR
      simp [applyA, noSr, srA_eq, numEls, splice, he]
    | ok x =>
      obtain ⟨l1, l2, l3, l4⟩ := long_right hs.vs hR hsm
      have hxo : SrOk x := by
        obtain ⟨w, n, _, _, rfl, _, _⟩ := apply_long hs.vs hR hsm
        exact sr_ok l1 (ok_vals w hs.vs hc.ar n)
      have kR := rsRight_ok (G := G) x hxo
      rw [right_iff.2 l1, srA_eq x] at kR
      simp [applyA, srA_eq, splice, numEls_len, l2, l3, l4]
      rw [l3, l4] at kR
      refine ac_same kR (by simp) ?_
      rintro r rfl
      simp
end Go.Proofs.YtipncibiodfmdaaGreatDoor
end
section
set_option linter.unusedSimpArgs false
set_option linter.unusedVariables false
set_option linter.constructorNameAsVariable false
set_option maxHeartbeats 4000000
namespace Go.Shp
open Go.Num Go.Ser Go.Dec Go.Abs Go.Proofs.YtipncibiodfmdaaGreatDoor
theorem label_len (w : Wd) (name : List UInt8) (args : List N) (ho : oksN args) : (labelS w.txt name args []).length ≤ w.txt.length + 3 + name.length + 22 * args.length := by
  have h1 := join_le (name :: prns args)
  have h2 := prns_sum args ho
  have h3 := prns_length args
  simp only [List.map_cons, List.sum_cons, List.length_cons] at h1
  simp [labelS]
  omega
theorem apply_of {w : Wd} (hns : ¬ w = .summarize) {s : Sr} (hs : SrR s) {args : List N} (ho : oksN args) (h1 : w.takes.1 ≤ args.length) (h2 : args.length ≤ w.takes.2) (hg : args.any (fun n => !good n) = false) {n : Int} (hw : wholeW w s args = some n) (hl : w.txt.length + 3 + s.name.length + 22 * args.length ≤ 400) :
    applyS w.txt s args [] = .ok ⟨labelS w.txt s.name args [], s.start, s.step, valsW w s args n⟩ := by
  have hll := label_len w s.name args ho
  unfold applyS
  rw [wordOf_txt]
  simp only
  rw [if_neg (by rw [right_iff.2 hs]; decide), if_neg (by rintro (h | h | h); omega; omega; exact h.1 rfl), if_neg (by rw [hg]; decide), hw]
  simp only [howS, if_true]
  rw [if_neg (by omega), if_neg hns]
theorem whole_mul (k lo hi : Int) (h1 : lo ≤ k) (h2 : k ≤ hi) : wholeS (false, k * 1000000) lo hi = some k := by
  unfold wholeS
  simp only
  rw [Int.mul_ediv_cancel _ (by decide), if_pos ⟨by simp, h1, h2⟩]
theorem vals_get (w : Wd) (s : Sr) (args : List N) (n : Int) {i : Nat} (h : i < s.vals.length) : (valsW w s args n)[i]? = some (valueW w s args n i) := by simp [valsW, h]
theorem vals_getD (w : Wd) (s : Sr) (args : List N) (n : Int) {i : Nat} (h : i < s.vals.length) : (valsW w s args n).getD i nothing = valueW w s args n i := by
  rw [List.getD_eq_getElem?_getD, vals_get w s args n h]; rfl
/-- What is delayed, and delayed back. -/
theorem delay_back {s a : Sr} {args args' : List N} {b : Nat} (ha : a.vals = valsW .delay s args b) {i : Nat} (hi : i < s.vals.length) : valueW .delay a args' (-(b : Int)) i = if i + b < s.vals.length then s.vals.getD i nothing else nothing := by
  have hl : a.vals.length = s.vals.length := by rw [ha, vals_len]
  simp only [valueW]
  unfold aheadN
  by_cases h : i + b < s.vals.length
  · rw [if_pos h, if_neg (by omega)]
    have e : ((i : Int) - -(b : Int)).toNat = i + b := by omega
    rw [e, ha, vals_getD _ _ _ _ h]
    simp only [valueW]
    unfold aheadN
    rw [if_neg (by omega)]
    congr 1; omega
  · rw [if_neg h, if_pos (by omega)]
end Go.Shp
namespace Go.Proofs.YtipncibiodfmdaaGreatDoor
open Go.Abs Go.Num Go.Ser Go.Dec Go.Shp
variable {G : Globs}
theorem delays_law [GSpc] [GPow] (s : Sr) (hs : SrOk s) (c : UInt8) : PCalls Tryz.prog n_isobarlaw25_ShapeDelays [srA s, .int .u8 c.toNat] (fun r => r = .bool true) := by
  refine pcalls_of_awp hmix c_isobarlaw25_ShapeDelays rfl ?_
  have kG := great25_ok (G := G) [] [] s.name .nils (.lst (numEls s.vals)) 0 s.vals.length (.inl ⟨rfl, rfl⟩) (.inr ⟨_, rfl, rfl⟩) s.start s.step
  have kR := rsRight_ok (G := G) s hs
  have hlen := numEls_len s.vals
  rw [srA_eq] at kR ⊢
  simp [a_isobarlaw25_ShapeDelays]
  refine ac_same alive25_ok (by simp) ?_
  rintro r rfl
  simp
  refine ac_same kG (by simp) ?_
  rintro r rfl
  cases hg : great25 0 0 0 s.vals.length s.name.length with
  | true => simp [hg]
  | false =>
  obtain ⟨-, -, -, g4, g5⟩ := great25_no hg
  simp [hg]
  refine ac_same kR (by simp) ?_
  rintro r rfl
  cases hr : rightS s with
  | false => simp
  | true =>
  have hSR := right_iff.1 hr
  by_cases hnm : 300 < s.name.length
  · have hnm' : (300 : Int) < (s.name.length : Int) := by omega
    simp [hnm, hnm']
  have hnm' : ¬ (300 : Int) < (s.name.length : Int) := by omega
  obtain ⟨b, hb⟩ : ∃ b : Nat, b = c.toNat % 12 := ⟨_, rfl⟩
  have hb12 : b < 12 := by omega
  have hc8 : c.toNat < 256 := c.toNat_lt
  have w0 : IntKind.i64.wrap (c.toNat : Int) = (c.toNat : Int) := wrap_i64 (by omega) (by omega)
  have e0 : ((c.toNat : Nat) : Int).tmod 12 = (b : Int) := by rw [Int.tmod_eq_emod_of_nonneg (by omega)]; omega
  have e0' : ((c.toNat : Nat) : Int) % 12 = (b : Int) := by omega
  have w1 : IntKind.i64.wrap ((b : Int) * 1000000) = (b : Int) * 1000000 := wrap_i64 (by omega) (by omega)
  have w2 : IntKind.i64.wrap (0 - (b : Int)) = -(b : Int) := by rw [wrap_i64 (by omega) (by omega)]; omega
  have w2' : IntKind.i64.wrap (-(b : Int)) = -(b : Int) := wrap_i64 (by omega) (by omega)
  have w3 : IntKind.i64.wrap (-(b : Int) * 1000000) = -(b : Int) * 1000000 := wrap_i64 (by omega) (by omega)
  have w3' : IntKind.i64.wrap (-((b : Int) * 1000000)) = -(b : Int) * 1000000 := by rw [wrap_i64 (by omega) (by omega)]; omega
  have ok1 : oksN [((false, (b : Int) * 1000000) : N)] := fun n hn => by simp at hn; subst hn; unfold okN; simp only; omega
  have ok2 : oksN [((false, -(b : Int) * 1000000) : N)] := fun n hn => by simp at hn; subst hn; unfold okN; simp only; omega
  have gd1 : ([((false, (b : Int) * 1000000) : N)]).any (fun n => !good n) = false := by simp [good_iff]; simp only [most]; omega
  have gd2 : ([((false, -(b : Int) * 1000000) : N)]).any (fun n => !good n) = false := by simp [good_iff]; simp only [most]; omega
  have hA := apply_of (w := .delay) (by decide) hSR ok1 (Nat.le_refl 1) (Nat.le_refl 1) gd1 (n := b) (by simp [wholeW, Wd.bounds, whole_mul (b : Int) (-1125899906842624) 1125899906842624 (by omega) (by omega)]) (by simp [Wd.txt]; omega)
  obtain ⟨a, ha⟩ : ∃ a : Sr, a = ⟨labelS Wd.delay.txt s.name [((false, (b : Int) * 1000000) : N)] [], s.start, s.step, valsW .delay s [((false, (b : Int) * 1000000) : N)] b⟩ := ⟨_, rfl⟩
  rw [← ha] at hA
  obtain ⟨aR, al, -, -⟩ := long_right hs.vs hA (by decide)
  have ao := sr_ok aR (by rw [ha]; exact ok_vals _ hs.vs ok1 _)
  have han : a.name.length ≤ 330 := by
    have := label_len .delay s.name [((false, (b : Int) * 1000000) : N)] ok1
    rw [ha]; simp [Wd.txt] at this ⊢; omega
  have hB := apply_of (w := .delay) (by decide) aR ok2 (Nat.le_refl 1) (Nat.le_refl 1) gd2 (n := -(b : Int)) (by simp [wholeW, Wd.bounds, whole_mul (-(b : Int)) (-1125899906842624) 1125899906842624 (by omega) (by omega)]) (by simp [Wd.txt]; omega)
  have k1 := sApply_ok (G := G) Wd.delay.txt s hs [((false, (b : Int) * 1000000) : N)] ok1 [] (by simp) (by decide)
  have k2 := sApply_ok (G := G) Wd.delay.txt a ao [((false, -(b : Int) * 1000000) : N)] ok2 [] (by simp) (by decide)
  rw [hA] at k1
  rw [hB] at k2
  obtain ⟨L2, hL2⟩ : ∃ L2, L2 = labelS Wd.delay.txt a.name [((false, -(b : Int) * 1000000) : N)] [] := ⟨_, rfl⟩
  obtain ⟨V, hV⟩ : ∃ V, V = valsW .delay a [((false, -(b : Int) * 1000000) : N)] (-(b : Int)) := ⟨_, rfl⟩
  rw [← hL2, ← hV] at k2
  have hVl : V.length = s.vals.length := by rw [hV, vals_len, al]
  have hVe := numEls_len V
  have hVi : ∀ i, i < s.vals.length → V[i]? = some (if i + b < s.vals.length then s.vals.getD i nothing else nothing) := fun i hi => by
    rw [hV, vals_get _ _ _ _ (by omega)]
    rw [delay_back (s := s) (a := a) (args := [((false, (b : Int) * 1000000) : N)]) (b := b) (by rw [ha]) hi]
  have hen1 : numEls [((false, (b : Int) * 1000000) : N)] = [[.bool false, .int .i64 ((b : Int) * 1000000)]] := rfl
  have hen2 : numEls [((false, -(b : Int) * 1000000) : N)] = [[.bool false, .int .i64 (-(b : Int) * 1000000)]] := rfl
  simp only [applyA, srA_eq, hen1, hen2, Wd.txt] at k1 k2
  simp [hnm, hnm', w0, e0, e0', w1, lay, splice, chunks]
  refine ac_same k1 (by simp) ?_
  rintro r rfl
  simp [w2, w2', w3, w3', lay, splice, chunks]
  refine ac_same k2 (by simp) ?_
  rintro r rfl
  simp [hVe, hVl, hlen, splice]
  refine lp_startx (fun x f σ => ∃ k : Nat, x = s.vals.length - k ∧ k ≤ s.vals.length ∧ f 2 = .ptr 0 0 ∧ f 5 = .int .i64 b ∧ f 8 = .ptr 2 0 ∧ f 10 = .int .i64 k ∧
    σ = [.var 24 [.str s.name, .int .i64 s.start, .int .i64 s.step, .lst (numEls s.vals)], .var 24 [.str a.name, .int .i64 a.start, .int .i64 a.step, .lst (numEls a.vals)], .var 24 [.str L2, .int .i64 a.start, .int .i64 a.step, .lst (numEls V)]]) s.vals.length ?_ ?_
  · exact ⟨0, rfl, by omega, by simp, by simp, by simp, by simp, rfl⟩
  rintro x f σ ⟨k, rfl, hk, f2, f5, f8, f10, rfl⟩
  simp [f2, f10, hlen]
  refine cb_dec (fun hlt => ?_) (fun hge => ?_)
  · have hlt' : k < s.vals.length := by omega
    obtain ⟨y, hy⟩ : ∃ y, s.vals[k]? = some y := ⟨_, List.getElem?_eq_getElem hlt'⟩
    have hse := numEls_get hy
    obtain ⟨hx1, hx2⟩ := List.getElem?_eq_some_iff.1 hse
    have hgy : s.vals.getD k nothing = y := by rw [List.getD_eq_getElem?_getD, hy]; rfl
    have hv := hVi k hlt'
    rw [hgy] at hv
    have hw : IntKind.i64.wrap ((k : Int) + 1) = (k : Int) + 1 := wrap_i64 (by omega) (by omega)
    have hwb : IntKind.i64.wrap ((k : Int) + b) = (k : Int) + b := wrap_i64 (by omega) (by omega)
    by_cases hkb : k + b < s.vals.length
    · have hkb' : (k : Int) + b < (s.vals.length : Int) := by omega
      have hkb2 : ¬ (s.vals.length : Int) ≤ (k : Int) + b := by omega
      rw [if_pos hkb] at hv
      have hve := numEls_get hv
      obtain ⟨hv1, hv2⟩ := List.getElem?_eq_some_iff.1 hve
      simp [f2, f5, f8, f10, hlen, hVe, hVl, hx1, hx2, hv1, hv2, hlt', hwb, hkb, hkb', hkb2, hw]
      refine nx_intro (s.vals.length - (k + 1)) (by omega) ⟨k + 1, rfl, by omega, by simp [f2], by simp [f5], by simp [f8], by simp, rfl⟩
    · have hkb' : ¬ (k : Int) + b < (s.vals.length : Int) := by omega
      have hkb2 : (s.vals.length : Int) ≤ (k : Int) + b := by omega
      rw [if_neg hkb] at hv
      have hve := numEls_get hv
      obtain ⟨hv1, hv2⟩ := List.getElem?_eq_some_iff.1 hve
      have hn1 : (nothing : N).1 = true := rfl
      rw [hn1] at hv2
      simp [f2, f5, f8, f10, hlen, hVe, hVl, hx1, hx2, hv1, hv2, hlt', hwb, hkb, hkb', hkb2, hw]
      refine nx_intro (s.vals.length - (k + 1)) (by omega) ⟨k + 1, rfl, by omega, by simp [f2], by simp [f5], by simp [f8], by simp, rfl⟩
  · simp
end Go.Proofs.YtipncibiodfmdaaGreatDoor
end
