/- A witness world whose package variables hold references, great tables among them. The package's variables that Decimal and Tokens read: what the row's -/
import Derived.Handed
import Derived.DataWitness
import Derived.Lay
import Derived.Test.YtigkchpjpdbodaaGreatDoorRows
import Derived.ProofKit
import Derived.LaidLaws
import Derived.Lib.LaidIn
import Derived.Lib.LaidU8
import Derived.Stop.LaidErr
import Derived.Test.YtigkchpjpdbodaaGreatDoorBn1
import Derived.Test.YtigkchpjpdbodaaGreatDoorBn2
import Derived.Test.YtigkchpjpdbodaaGreatDoorBn3
import Derived.Test.YtigkchpjpdbodaaGreatDoorBn4
import Derived.Test.YtigkchpjpdbodaaGreatDoorBn5
import Derived.Test.YtigkchpjpdbodaaGreatDoorBn6
set_option linter.unusedSimpArgs false
set_option linter.unusedVariables false
set_option linter.constructorNameAsVariable false
section
namespace Go
section
variable {H : Type} {enc : TypeId × Value → H}
theorem witness_zip {C : Checked} {os : Os} {f : FuncId} {fn : Func} {s : ChangeSpec} {conds : List PathCond} {apart : Bool} {X : World → Array Value → Prop} (w0 : World) (args : Array Value) (fuel : Nat) (hos : w0.os = os)
    (hv : (w0.forCall (fun _ _ => 0) ⟨#[], args, []⟩).variablesZipB C.prog = true)
    (hr : ((w0.forCall (fun _ _ => 0) ⟨#[], args, []⟩).heap.toList.drop C.prog.globals.size).take ((begin C.prog (fun _ _ => 0) default).world.heap.size - C.prog.globals.size) = (begin C.prog (fun _ _ => 0) default).world.heap.toList.drop C.prog.globals.size)
    (hok : Input.okWideB C.prog (w0.forCall (fun _ _ => 0) ⟨#[], args, []⟩) f ⟨#[], args, []⟩ = true)
    (hpre : s.preB enc C.prog fn conds apart (w0.forCall (fun _ _ => 0) ⟨#[], args, []⟩).memory args fuel = true)
    (hsz : s.sizedB enc C.prog fn apart (w0.forCall (fun _ _ => 0) ⟨#[], args, []⟩).memory args fuel = true)
    (hx : X (w0.forCall (fun _ _ => 0) ⟨#[], args, []⟩).memory args) :
    ∃ (w : World) (tape : Tape) (i : Input), w.os = os ∧ (w.forCall tape i).Shaped C.prog ∧ i.vars = [] ∧ Input.okWide C.prog (w.forCall tape i) .any w.heap.size f i ∧
      ((s.pre enc C.prog fn conds apart (w.forCall tape i).memory i.args ∧ X (w.forCall tape i).memory i.args) ∧ sizedMet enc C.prog fn (OpenSpec.ofChange s) apart (w.forCall tape i).memory i.args) ∧ ({} : Assume).holds C.prog (lone (Frame.enter C.prog f i.args .normal) [] (w.forCall tape i)) := by
  refine ⟨w0, fun _ _ => 0, ⟨#[], args, []⟩, hos, World.shaped_of_ZipB hv hr, (Input.okWide_of_okWideB (base := 0) hok).1, (Input.okWide_of_okWideB hok).2, ⟨⟨ChangeSpec.pre_of_preB hpre, hx⟩, sizedMet_of_sizedB hsz⟩, ?_⟩
  simp only [Assume.holds]
  exact ⟨by simp, by simp, fun _ => Modest.zero, by simp, by simp⟩
end
end Go
end
section
namespace Go.Proofs.YtigkchpjpdbodaaGreatDoor
open Go.ChangeShapes Go.WideShapes Go.ChangeAt Go.RowKit Go.ChangeMaps Go.Abs
theorem laidAt {P : Program} {w : World} {n : String} {d : DataW Unit} : ∀ {l : List (String × DataW Unit)}, laidMet P l w → (n, d) ∈ l → ∃ r, laidMet P ((n, d) :: r) w
  | [], _, hm => by cases hm
  | x :: l, h, hm => by
    rcases List.mem_cons.1 hm with e | e
    · subst e; exact ⟨l, h⟩
    · exact laidAt h.tail e
theorem gok_one {P : Program} {w : World} {n : String} {g : Nat} {cs : Array Value} {avs : List AV} {Im : Addr → Prop} (hg : P.globalNamed n = some g) (hv : w.var? P n = some cs) (hlen : cs.size = avs.length)
    (hone : ∀ c ∈ avs, c.one = true) (hr : ∀ j (h : j < avs.length), IR Im w (avs[j]) ((cs[j]?).getD (.bool false))) (hIm : ∀ j, Im ⟨g, j, none⟩) :
    g < w.heap.size ∧ (∃ cs t fz, w.heap[g]? = some (.cells cs t fz) ∧ cs.size = avs.length) ∧ IR Im w (.rptr avs) (.pointer (some ⟨g, 0, none⟩)) := by
  have h0 : ∃ t fz, w.heap[g]? = some (.cells cs t fz) := by
    unfold World.var? at hv
    simp only [hg, Option.bind_some] at hv
    split at hv
    · rename_i c t fz hh
      cases hv
      exact ⟨t, fz, hh⟩
    · cases hv
  obtain ⟨t, fz, hh⟩ := h0
  refine ⟨?_, ⟨cs, t, fz, hh, hlen⟩, ?_⟩
  · rcases Nat.lt_or_ge g w.heap.size with h | h
    · exact h
    · rw [Array.getElem?_eq_none h] at hh; cases hh
  · refine .rptr avs g 0 (fun j => (cs[j]?).getD (.bool false)) hone (fun j hj => ⟨?_, ?_⟩) hr
    · simpa using hIm j
    · have : j < cs.size := by omega
      simp [World.cell?, hh, this]
theorem starE : "*" ++ "errors.errorString" = "*errors.errorString" := by decide
theorem Tryz.rowErr (u : TypeId) (h : Tryz.prog.typeName? 3 u = some "*errors.errorString") : u = 418 :=
  typeName_ptr_named (nm := "errors.errorString") (by rw [starE]; kernel_rfl) (by kernel_rfl) (by decide) u (by rw [starE]; exact h)
abbrev gSyn : Nat := 7
abbrev gRng : Nat := 8
abbrev gPow : Nat := 6
instance decGlobs : Globs := ⟨[(gSyn, [.iface 418 .junk]), (gRng, [.iface 418 .junk]), (gPow, Lib.pow10Tab.map (AV.int .u64))]⟩
instance decG : GDec where
  syn := List.Mem.head _
  rng := .tail _ (List.Mem.head _)
  pow := .tail _ (.tail _ (List.Mem.head _))
end Go.Proofs.YtigkchpjpdbodaaGreatDoor
end
section
namespace Go.Proofs.YtigkchpjpdbodaaGreatDoor
open Go.ChangeShapes Go.WideShapes Go.ChangeAt Go.RowKit Go.ChangeMaps Go.Abs
section
variable {H : Type} {enc : TypeId × Value → H} {w : World} {base : Nat} {spare : Nat → Bool} {held : Bool}
theorem num_size : Tryz.prog.cellsOf 23 = 2 := by kernel_rfl
theorem bool_size : Tryz.prog.cellsOf 4 = 1 := by kernel_rfl
theorem i64_size : Tryz.prog.cellsOf 2 = 1 := by kernel_rfl
set_option maxRecDepth 100000 in
theorem open_num {r : Reach} {b0 : Nat} {v : Value} {d : DataW H} {ps : List MemPlace} (hval : Value.okWide Tryz.prog w r b0 23 v) (hd : DataW.Trod enc Tryz.prog w base spare held 23 v d ps) :
    ∃ (b : Bool) (n : Int), v = .agg #[.bool b, .int .i64 n] ∧ d = .agg [.lit (.bool b), .lit (.int .i64 n)] ∧ ps = [] ∧ (Lit.int .i64 n).wf = true := by
  obtain ⟨cs, rfl, hsz⟩ := okWide_struct Tryz.underlying23 hval
  obtain ⟨fuel, hf⟩ := hd
  obtain ⟨xs, n, rfl, hx, hl, hxl, hall⟩ := DataW.trod_struct Tryz.underlying23 hf
  have hx2 : xs.length = 2 := hxl
  obtain ⟨x0, x1, rfl⟩ : ∃ x0 x1, xs = [x0, x1] := by
    match xs, hx2 with
    | [a, b], _ => exact ⟨a, b, rfl⟩
  have hl2 : cs.size = 2 := by rw [hsz, num_size]
  obtain ⟨c0, c1, rfl⟩ : ∃ c0 c1, cs = #[c0, c1] := by
    obtain ⟨l⟩ := cs
    match l, hl2 with
    | [a, b], _ => exact ⟨a, b, rfl⟩
  have h0 : DataW.trod enc Tryz.prog w base spare held n 4 [c0] = some x0 := by simpa [bool_size, Value.cells] using hall 0 _ rfl
  have h1 : DataW.trod enc Tryz.prog w base spare held n 2 [c1] = some x1 := by simpa [i64_size, Value.cells] using hall 1 _ rfl
  obtain ⟨b, e0, e0'⟩ := DataW.trod_bool Tryz.underlying4 h0
  obtain ⟨m, e1, e1', hw⟩ := DataW.trod_int Tryz.underlying2 h1
  simp only [List.cons.injEq, and_true] at e0 e1
  subst e0 e1 e0' e1'
  simp only [Prod.mk.injEq] at hx
  exact ⟨b, m, rfl, hx.1, hx.2, hw⟩
end
theorem wf_i64 {n : Int} (h : (Lit.int .i64 n).wf = true) : -9223372036854775808 ≤ n ∧ n ≤ 9223372036854775807 := by
  simp only [Lit.wf, Bool.and_eq_true, decide_eq_true_eq] at h
  have h1 : IntKind.i64.min = -9223372036854775808 := rfl
  have h2 : IntKind.i64.max = 9223372036854775807 := rfl
  omega
end Go.Proofs.YtigkchpjpdbodaaGreatDoor
end
section
namespace Go.Abs
open Go.RowKit
/-- The cells that were there ahead of the call. -/
def oldIm (w : World) : Addr → Prop := fun a => a.spot = none ∧ a.block < w.heap.size
theorem law_calls_old {G : Globs} {P : Program} {f : FuncId} {args : List AV} {vs : List Value} {w : World} (h : PCalls P f args (fun r => r = .bool true)) (hg : GlobsIn w) (hv : IRL (oldIm w) w args vs) : Calls P f vs.toArray w fun e w' => e = .returned (.bool true) ∧ Below w.heap.size w w' := by
  have hG : GOK w.heap.size (oldIm w) w := fun p hp => by
    obtain ⟨h1, h2, h3⟩ := hg p hp
    refine ⟨h1, h2, h3.mono (fun a ha => ?_) (fun _ _ => rfl)⟩
    obtain ⟨ha1, q, hq, ha2⟩ := ha
    exact ⟨ha1, by rw [ha2]; exact (hg q hq).1⟩
  have hS : SRel w.heap.size noKey (oldIm w) [] w := ⟨Nat.le_refl _, fun id n v h => by simp [noKey] at h, fun id e h => by simp at h, fun i j e e' b _ h => by simp at h, fun a h => ⟨h.2, h.1⟩, hG⟩
  refine (h w.heap.size noKey (oldIm w) w vs hS ⟨hv.1, fun j h h' => .im _ _ (hv.2 j h h')⟩).mono ?_
  rintro e w' ⟨r, σ', v, κ', Im', rfl, ⟨_, rfl⟩, _, hg, hr⟩
  exact ⟨by rw [hr.bool_inv], hg.below⟩
theorem iro_nil {Im : Addr → Prop} (w : World) : IRL Im w [] [] := ⟨rfl, fun j h => by simp at h⟩
theorem iro_cons {Im : Addr → Prop} {w : World} {a : AV} {v : Value} {l : List AV} {vs : List Value} (h : IR Im w a v) (hl : IRL Im w l vs) : IRL Im w (a :: l) (v :: vs) := by
  refine ⟨by simp [hl.1], fun j hj hj' => ?_⟩
  cases j with
  | zero => exact h
  | succ j => exact hl.2 j (by simpa using hj) (by simpa using hj')
end Go.Abs
namespace Go.Proofs.YtigkchpjpdbodaaGreatDoor
open Go.ChangeShapes Go.WideShapes Go.ChangeAt Go.RowKit Go.ChangeMaps Go.Abs
section
variable {H : Type} {enc : TypeId × Value → H} {w : World} {base : Nat} {spare : Nat → Bool} {held : Bool}
end
end Go.Proofs.YtigkchpjpdbodaaGreatDoor
end
section
namespace Go.Proofs.YtigkchpjpdbodaaGreatDoor
open Go.Abs
theorem u16_of {n : Int} (h : (Lit.int .u16 n).wf = true) : ∃ k : Nat, n = k ∧ k ≤ 65535 := by
  have h1 : IntKind.u16.min = 0 := rfl
  have h2 : IntKind.u16.max = 65535 := rfl
  simp only [Lit.wf, Bool.and_eq_true, decide_eq_true_eq] at h
  exact ⟨n.toNat, by omega, by omega⟩
theorem ir_numR {Im : Addr → Prop} {w : World} (b : Bool) (n : Int) : IR Im w (.agg [.bool b, .int .i64 n]) (.agg #[.bool b, .int .i64 n]) :=
  .agg _ [_, _] (by simp [AV.one]) rfl fun j hj hj' => by
    match j, hj with
    | 0, _ => exact .bool _
    | 1, _ => exact .int _ _
end Go.Proofs.YtigkchpjpdbodaaGreatDoor
end
section
namespace Go.Proofs.YtigkchpjpdbodaaGreatDoor
open Go.ChangeShapes Go.WideShapes Go.ChangeAt Go.RowKit Go.ChangeMaps Go.Abs
abbrev gSpace : Nat := 1
abbrev gFam : Nat := 0
instance tgGlobs : Globs := ⟨[(gSyn, [.iface 418 .junk]), (gRng, [.iface 418 .junk]), (gPow, Lib.pow10Tab.map (AV.int .u64)), (gSpace, Lib.asciiSpaceTab.map (AV.int .u8)), (gFam, famCells)]⟩
instance tgG : GDec where
  syn := List.Mem.head _
  rng := .tail _ (List.Mem.head _)
  pow := .tail _ (.tail _ (List.Mem.head _))
instance tgS : GSpcT where
  spc := .tail _ (.tail _ (.tail _ (List.Mem.head _)))
instance tgF : GFam where
  fam := rfl
/-- (over tgGlobs) -/
theorem one_errT {n : String} {g : Nat} {text : List UInt8} {l : List (String × DataW Unit)} {w : World} (h : laidMet Tryz.prog l w) (hm : (n, .iface "*errors.errorString" (.ptr (.agg [.lit (.string text)]))) ∈ l)
    (hg : Tryz.prog.globalNamed n = some g) (ht : (Tryz.prog.globals[g]?).map (·.type) = some 76) (hrow : ∀ u, Tryz.prog.typeName? 3 u = some "*errors.errorString" → u = 418) (hI : ∀ j, gIm ⟨g, j, none⟩) :
    g < w.heap.size ∧ (∃ cs t fz, w.heap[g]? = some (.cells cs t fz) ∧ cs.size = [AV.iface 418 .junk].length) ∧ IR gIm w (.rptr [.iface 418 .junk]) (.pointer (some ⟨g, 0, none⟩)) := by
  obtain ⟨r, h⟩ := laidAt h hm
  obtain ⟨a, s, hv, _⟩ := laid_sentinel h hg ht Tryz.underlying76 hrow Tryz.underlying418 Tryz.underlying420 rfl rfl Tryz.underlying9 (by kernel_rfl) (by kernel_rfl)
  refine gok_one hg hv rfl (by simp [AV.one]) ?_ hI
  intro j hj
  match j, hj with
  | 0, _ => exact .iface _ _ _ (.junk _)
/-- (over tgGlobs) -/
theorem array_len {fuel : Nat} {P : Program} {w : World} {base : Nat} {sp : Nat → Bool} {held : Bool} {t e : TypeId} {n : Nat} {cs : List Value} {ds : List (DataW Unit)} {p : List MemPlace} (ht : P.underlying t = some (.array n e))
    (h : DataW.trod (fun _ => ()) P w base sp held fuel t cs = some (.agg ds, p)) : cs.length = P.cellsOf t := by
  cases fuel with
  | zero => simp [DataW.trod] at h
  | succ fuel =>
    simp only [DataW.trod, ht] at h
    split at h
    · rename_i hc
      simpa using hc
    · cases h
/-- A struct of two texts. -/
theorem strs_of_struct {fuel : Nat} {P : Program} {w : World} {base : Nat} {sp : Nat → Bool} {held : Bool} {t s : TypeId} {fs : Array Field} {cs : List Value} {a b : List UInt8} {p : List MemPlace} (ht : P.underlying t = some (.struct fs)) (hsz : fs.size = 2)
    (hs : P.underlying s = some .string) (hc : P.cellsOf s = 1) (h0 : ∃ f, fs[0]? = some f ∧ f.type = s ∧ f.offset = 0) (h1 : ∃ f, fs[1]? = some f ∧ f.type = s ∧ f.offset = 1) (hct : P.cellsOf t = 2)
    (h : DataW.trod (fun _ => ()) P w base sp held fuel t cs = some (.agg [.lit (.string a), .lit (.string b)], p)) : cs = [.string ⟨a.toArray⟩, .string ⟨b.toArray⟩] := by
  obtain ⟨xs, n, rfl, hx, hl, hxl, hall⟩ := DataW.trod_struct ht h
  have hxs : xs.map (·.1) = [.lit (.string a), .lit (.string b)] := by
    have := congrArg Prod.fst hx
    simpa using this.symm
  rw [hct] at hl
  obtain ⟨c0, c1, rfl⟩ : ∃ c0 c1, cs = [c0, c1] := by
    match cs, hl with
    | [x, y], _ => exact ⟨x, y, rfl⟩
  rw [hsz] at hxl
  obtain ⟨x0, x1, rfl⟩ : ∃ x0 x1, xs = [x0, x1] := by
    match xs, hxl with
    | [x, y], _ => exact ⟨x, y, rfl⟩
  obtain ⟨f0, g0, t0, o0⟩ := h0
  obtain ⟨f1, g1, t1, o1⟩ := h1
  have k0 := hall 0 f0 g0
  have k1 := hall 1 f1 g1
  rw [t0, o0, hc] at k0
  rw [t1, o1, hc] at k1
  obtain ⟨s0, e0, y0, _⟩ := DataW.trod_string hs k0
  obtain ⟨s1, e1, y1, _⟩ := DataW.trod_string hs k1
  simp at e0 e1
  subst e0 e1
  subst y0 y1
  simp at hxs
  obtain ⟨rfl, rfl⟩ := hxs
  rfl
theorem fam_len {w : World} {cs : Array Value} {fuel : Nat} {p : List MemPlace} (h : DataW.trod (fun _ => ()) Tryz.prog w 0 (fun _ => true) false fuel 244 cs.toList = some (Rows.laid_isobar_target_families, p)) :
    cs.toList.length = 22 ∧ ∀ i, i < 11 → ∃ q, Go.Tgt.famT[i]? = some q ∧ (cs.toList.drop (i * 2)).take 2 = [.string ⟨q.1.toArray⟩, .string ⟨q.2.toArray⟩] := by
  have hu : Tryz.prog.underlying 244 = some (.array 11 243) := by kernel_rfl
  have hce : Tryz.prog.cellsOf 243 = 2 := by kernel_rfl
  have e : (Rows.laid_isobar_target_families : DataW Unit) = .agg (Go.Tgt.famT.map fun q => .agg [.lit (.string q.1), .lit (.string q.2)]) := by kernel_rfl
  rw [e] at h
  refine ⟨by rw [array_len hu h]; kernel_rfl, fun i hi => ?_⟩
  obtain ⟨fuel', d, q, hdi, he⟩ := Lib.array_elem hu h i hi
  obtain ⟨f, hf⟩ : ∃ f, Go.Tgt.famT[i]? = some f := ⟨_, List.getElem?_eq_getElem (by have : Go.Tgt.famT.length = 11 := rfl; omega)⟩
  rw [List.getElem?_map, hf] at hdi
  simp only [Option.map_some, Option.some.injEq] at hdi
  subst hdi
  rw [hce] at he
  exact ⟨f, hf, strs_of_struct (s := 9) Tryz.underlying243 rfl Tryz.underlying9 (by kernel_rfl) ⟨_, rfl, rfl, rfl⟩ ⟨_, rfl, rfl, rfl⟩ hce he⟩
theorem gin_tg {l : List (String × DataW Unit)} {w : World} (h : laidMet Tryz.prog l w) (h1 : ("strconv.ErrSyntax", Rows.laid_strconv_ErrSyntax) ∈ l) (h2 : ("strconv.ErrRange", Rows.laid_strconv_ErrRange) ∈ l) (h3 : ("internal/strconv.uint64pow10", Rows.laid_internal_strconv_uint64pow10) ∈ l)
    (h4 : ("strings.asciiSpace", Rows.laid_strings_asciiSpace) ∈ l) (h5 : ("isobar/target.families", Rows.laid_isobar_target_families) ∈ l) : GlobsIn w := by
  intro p hp
  have hrow : ∀ u, Tryz.prog.typeName? 3 u = some "*errors.errorString" → u = 418 := Tryz.rowErr
  have hI : ∀ g, (∃ p ∈ Globs.tab, g = p.1) → ∀ j, gIm ⟨g, j, none⟩ := fun g hg j => ⟨rfl, hg⟩
  rcases hp with _ | ⟨_, _ | ⟨_, _ | ⟨_, _ | ⟨_, _ | ⟨_, hp⟩⟩⟩⟩⟩
  · exact one_errT h h1 (by kernel_rfl) (by kernel_rfl) hrow (hI _ ⟨_, List.Mem.head _, rfl⟩)
  · exact one_errT h h2 (by kernel_rfl) (by kernel_rfl) hrow (hI _ ⟨_, .tail _ (List.Mem.head _), rfl⟩)
  · obtain ⟨r, h⟩ := laidAt h h3
    have e : (Rows.laid_internal_strconv_uint64pow10 : DataW Unit) = Lib.tabData .u64 Lib.pow10Tab := by kernel_rfl
    rw [e] at h
    have := Lib.tabIs_of_head (g := gPow) (by kernel_rfl) (by kernel_rfl) Tryz.underlying374 Tryz.underlying83 (by kernel_rfl) (by kernel_rfl) h
    refine gok_one (n := "internal/strconv.uint64pow10") (by kernel_rfl) this (by simp) (by simp [AV.one]) ?_ (hI _ ⟨_, .tail _ (.tail _ (List.Mem.head _)), rfl⟩)
    intro j hj
    have hj' : j < Lib.pow10Tab.length := by simpa using hj
    simp [hj']
    exact .int _ _
  · obtain ⟨r, h⟩ := laidAt h h4
    have e : (Rows.laid_strings_asciiSpace : DataW Unit) = Lib.tabData .u8 Lib.asciiSpaceTab := by kernel_rfl
    rw [e] at h
    have := Lib.tabIs_of_head (g := gSpace) (by kernel_rfl) (by kernel_rfl) Tryz.underlying254 Tryz.underlying5 (by kernel_rfl) (by kernel_rfl) h
    refine gok_one (n := "strings.asciiSpace") (by kernel_rfl) this (by simp) (by simp [AV.one]) ?_ (hI _ ⟨_, .tail _ (.tail _ (.tail _ (List.Mem.head _))), rfl⟩)
    intro j hj
    have hj' : j < Lib.asciiSpaceTab.length := by simpa using hj
    simp [hj']
    exact .int _ _
  · obtain ⟨g, t, cs, fuel, p, hg, hty, hvar, hd⟩ := Lib.laidMet.reads h h5
    obtain rfl := Option.some.inj ((show Tryz.prog.globalNamed "isobar/target.families" = some gFam by kernel_rfl).symm.trans hg)
    obtain rfl := Option.some.inj ((show (Tryz.prog.globals[gFam]?).map (·.type) = some 244 by kernel_rfl).symm.trans hty)
    obtain ⟨hl, hel⟩ := fam_len hd
    refine gok_one (n := "isobar/target.families") (by kernel_rfl) hvar (by rw [← Array.length_toList, hl]; rfl) (by intro c hc; obtain ⟨q, _, hq⟩ := List.mem_flatMap.1 hc; simp at hq; rcases hq with rfl | rfl <;> rfl) ?_ (hI _ ⟨_, .tail _ (.tail _ (.tail _ (.tail _ (List.Mem.head _)))), rfl⟩)
    intro j hj
    have hj22 : j < 22 := hj
    obtain ⟨q, hq, hcs⟩ := hel (j / 2) (by omega)
    have hav := cells_at Go.Tgt.famT (j / 2) q hq
    have hr : j % 2 = 0 ∨ j % 2 = 1 := by omega
    have e1 : cs[j]? = (List.take 2 (cs.toList.drop (j / 2 * 2)))[j % 2]? := by
      rw [List.getElem?_take, if_pos (by omega), List.getElem?_drop, Array.getElem?_toList]; congr 1; omega
    have e2 : famCells[j]? = (List.take 2 (famCells.drop (j / 2 * 2)))[j % 2]? := by
      rw [List.getElem?_take, if_pos (by omega), List.getElem?_drop]; congr 1; omega
    have e3 : (List.take 2 (famCells.drop (j / 2 * 2))) = [.str q.1, .str q.2] := hav
    rw [e3] at e2
    rw [hcs] at e1
    have hg2 : famCells[j] = ([AV.str q.1, AV.str q.2][j % 2]?).getD .nils := by rw [← e2, List.getElem?_eq_getElem hj]; rfl
    show IR gIm w famCells[j] _
    rw [hg2, e1]
    rcases hr with hr | hr <;> rw [hr]
    · exact .str _
    · exact .str _
  · cases hp
/-- A table of texts, as cells. -/
def strCells : DataW Unit → List Value
  | .agg l => l.flatMap fun
    | .agg l2 => l2.flatMap fun
      | .lit (.string s) => [.string ⟨s.toArray⟩]
      | _ => []
    | _ => []
  | _ => []
end Go.Proofs.YtigkchpjpdbodaaGreatDoor
end
