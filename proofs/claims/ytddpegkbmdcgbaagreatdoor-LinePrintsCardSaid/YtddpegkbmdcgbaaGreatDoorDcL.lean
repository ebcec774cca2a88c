/- The package's variables that Decimal and Tokens read: what the row's condition says, and a world that meets it. -/
import Derived.Test.YtddpegkbmdcgbaaGreatDoorDcA
import Derived.Test.YtddpegkbmdcgbaaGreatDoorLift
import Derived.Test.YtddpegkbmdcgbaaGreatDoorRows
import Derived.ProofKit
import Derived.LaidLaws
import Derived.Lib.LaidIn
import Derived.Lib.LaidU8
import Derived.Stop.LaidErr
set_option linter.unusedSimpArgs false
set_option linter.unusedVariables false
set_option linter.constructorNameAsVariable false
namespace Go.Proofs.YtddpegkbmdcgbaaGreatDoor
open Go.ChangeShapes Go.WideShapes Go.ChangeAt Go.RowKit Go.ChangeMaps Go.Abs

theorem laidAt {P : Program} {w : World} {n : String} {d : DataW Unit} : ∀ {l : List (String × DataW Unit)}, laidMet P l w → (n, d) ∈ l → ∃ r, laidMet P ((n, d) :: r) w
  | [], _, hm => by cases hm
  | x :: l, h, hm => by
    rcases List.mem_cons.1 hm with e | e
    · subst e; exact ⟨l, h⟩
    · exact laidAt h.tail e

theorem gok_one {P : Program} {w : World} {n : String} {g : Nat} {cs : Array Value} {avs : List AV} {Im : Addr → Prop} (hg : P.globalNamed n = some g) (hv : w.var? P n = some cs) (hlen : cs.size = avs.length)
    (hone : ∀ c ∈ avs, c.one = true) (hr : ∀ j (h : j < avs.length), IR Im w (avs[j]) ((cs[j]?).getD (.bool false))) (hIm : ∀ j, Im ⟨g, j, none⟩) :
    g < w.heap.size ∧ (∃ cs t fz, w.heap[g]? = some (.cells cs t fz) ∧ cs.size = avs.length) ∧ IR Im w (.rptr avs) (.pointer (some ⟨g, 0, none⟩)) := by
  have h0 : ∃ t fz, w.heap[g]? = some (.cells cs t fz) := by
    unfold World.var? at hv
    simp only [hg, Option.bind_some] at hv
    split at hv
    · rename_i c t fz hh
      cases hv
      exact ⟨t, fz, hh⟩
    · cases hv
  obtain ⟨t, fz, hh⟩ := h0
  refine ⟨?_, ⟨cs, t, fz, hh, hlen⟩, ?_⟩
  · rcases Nat.lt_or_ge g w.heap.size with h | h
    · exact h
    · rw [Array.getElem?_eq_none h] at hh; cases hh
  · refine .rptr avs g 0 (fun j => (cs[j]?).getD (.bool false)) hone (fun j hj => ⟨?_, ?_⟩) hr
    · simpa using hIm j
    · have : j < cs.size := by omega
      simp [World.cell?, hh, this]

theorem starE : "*" ++ "errors.errorString" = "*errors.errorString" := by decide
theorem Tryz.rowErr (u : TypeId) (h : Tryz.prog.typeName? 3 u = some "*errors.errorString") : u = 116 :=
  typeName_ptr_named (nm := "errors.errorString") (by rw [starE]; kernel_rfl) (by kernel_rfl) (by decide) u (by rw [starE]; exact h)

abbrev gSyn : Nat := 0
abbrev gRng : Nat := 1
abbrev gPow : Nat := 2
instance decGlobs : Globs := ⟨[(gSyn, [.iface 116 .junk]), (gRng, [.iface 116 .junk]), (gPow, Lib.pow10Tab.map (AV.int .u64))]⟩
instance decG : GDec where
  syn := List.Mem.head _
  rng := .tail _ (List.Mem.head _)
  pow := .tail _ (.tail _ (List.Mem.head _))

theorem one_err {n : String} {g : Nat} {text : List UInt8} {l : List (String × DataW Unit)} {w : World} (h : laidMet Tryz.prog l w) (hm : (n, .iface "*errors.errorString" (.ptr (.agg [.lit (.string text)]))) ∈ l)
    (hg : Tryz.prog.globalNamed n = some g) (ht : (Tryz.prog.globals[g]?).map (·.type) = some 57) (hrow : ∀ u, Tryz.prog.typeName? 3 u = some "*errors.errorString" → u = 116) (hI : ∀ j, gIm ⟨g, j, none⟩) :
    g < w.heap.size ∧ (∃ cs t fz, w.heap[g]? = some (.cells cs t fz) ∧ cs.size = [AV.iface 116 .junk].length) ∧ IR gIm w (.rptr [.iface 116 .junk]) (.pointer (some ⟨g, 0, none⟩)) := by
  obtain ⟨r, h⟩ := laidAt h hm
  obtain ⟨a, s, hv, _⟩ := laid_sentinel h hg ht Tryz.underlying57 hrow Tryz.underlying116 Tryz.underlying118 rfl rfl Tryz.underlying9 (by kernel_rfl) (by kernel_rfl)
  refine gok_one hg hv rfl (by simp [AV.one]) ?_ hI
  intro j hj
  match j, hj with
  | 0, _ => exact .iface _ _ _ (.junk _)

theorem gin_dec {l : List (String × DataW Unit)} {w : World} (h : laidMet Tryz.prog l w) (h1 : ("strconv.ErrSyntax", Rows.laid_strconv_ErrSyntax) ∈ l) (h2 : ("strconv.ErrRange", Rows.laid_strconv_ErrRange) ∈ l) (h3 : ("internal/strconv.uint64pow10", Rows.laid_internal_strconv_uint64pow10) ∈ l) : GlobsIn w := by
  intro p hp
  have hrow : ∀ u, Tryz.prog.typeName? 3 u = some "*errors.errorString" → u = 116 := Tryz.rowErr
  have hI : ∀ g, (∃ p ∈ Globs.tab, g = p.1) → ∀ j, gIm ⟨g, j, none⟩ := fun g hg j => ⟨rfl, hg⟩
  rcases hp with _ | ⟨_, _ | ⟨_, _ | ⟨_, hp⟩⟩⟩
  · exact one_err h h1 (by kernel_rfl) (by kernel_rfl) hrow (hI _ ⟨_, List.Mem.head _, rfl⟩)
  · exact one_err h h2 (by kernel_rfl) (by kernel_rfl) hrow (hI _ ⟨_, .tail _ (List.Mem.head _), rfl⟩)
  · obtain ⟨r, h⟩ := laidAt h h3
    have e : (Rows.laid_internal_strconv_uint64pow10 : DataW Unit) = Lib.tabData .u64 Lib.pow10Tab := by kernel_rfl
    rw [e] at h
    have := Lib.tabIs_of_head (g := gPow) (by kernel_rfl) (by kernel_rfl) Tryz.underlying107 Tryz.underlying49 (by kernel_rfl) (by kernel_rfl) h
    refine gok_one (n := "internal/strconv.uint64pow10") (by kernel_rfl) this (by simp) (by simp [AV.one]) ?_ (hI _ ⟨_, .tail _ (.tail _ (List.Mem.head _)), rfl⟩)
    intro j hj
    have hj' : j < Lib.pow10Tab.length := by simpa using hj
    simp [hj']
    exact .int _ _
  · cases hp

def litCells : DataW Unit → List Value
  | .agg l => l.flatMap fun
    | .lit (.int k z) => [.int k z]
    | .agg l2 => l2.flatMap fun
      | .lit (.int k z) => [.int k z]
      | _ => []
    | _ => []
  | _ => []

/-- So many blocks has the settled world. -/
noncomputable def lowD : Nat := (World.holding Tryz.prog default ⟨#[], #[], []⟩).heap.size
/-- A world that meets the condition: the settled one, the tables laid, and two blocks more for the errors' texts. -/
noncomputable def decWorld (os : Os) : World :=
  let w0 := World.holding Tryz.prog os ⟨#[.cells #[.string ⟨#[105, 110, 118, 97, 108, 105, 100, 32, 115, 121, 110, 116, 97, 120]⟩] 118, .cells #[.string ⟨#[118, 97, 108, 117, 101, 32, 111, 117, 116, 32, 111, 102, 32, 114, 97, 110, 103, 101]⟩] 118], #[], []⟩
  let put (h : Array Obj) (g : Nat) (cs : Array Value) : Array Obj := h.modify g fun
    | .cells _ t frozen => .cells cs t frozen
    | o => o
  let h := put w0.heap gSyn #[.iface 116 (.pointer (some ⟨lowD, 0, none⟩))]
  let h := put h gRng #[.iface 116 (.pointer (some ⟨lowD + 1, 0, none⟩))]
  let h := put h gPow (litCells Rows.laid_internal_strconv_uint64pow10).toArray
  let h := put h 3 (litCells Rows.laid_math_bits_deBruijn32tab).toArray
  let h := put h 4 (litCells Rows.laid_math_bits_deBruijn64tab).toArray
  let h := put h 5 (litCells Rows.laid_unicode_utf8_first).toArray
  let h := put h 6 (litCells Rows.laid_unicode_utf8_acceptRanges).toArray
  { w0 with heap := h }
noncomputable abbrev decBlocks : List Nat := [lowD, lowD + 1, gSyn, gRng, gPow, 3, 4, 5, 6]
end Go.Proofs.YtddpegkbmdcgbaaGreatDoor
