/- The package's variables that Series reads: what the row's condition says, and a world that meets it. -/
import Derived.Test.YtipncibiodfmdaaGreatDoorDcQ
set_option linter.unusedSimpArgs false
set_option linter.unusedVariables false
set_option linter.constructorNameAsVariable false
namespace Go.Proofs.YtipncibiodfmdaaGreatDoor
open Go.ChangeShapes Go.WideShapes Go.ChangeAt Go.RowKit Go.ChangeMaps Go.Abs
instance serGlobs : Globs := ⟨[(gPow, Lib.pow10Tab.map (AV.int .u64))]⟩
instance serG : GPow where
  pow := List.Mem.head _
theorem gin_ser {l : List (String × DataW Unit)} {w : World} (h : laidMet Tryz.prog l w) (h3 : ("internal/strconv.uint64pow10", Rows.laid_internal_strconv_uint64pow10) ∈ l) : GlobsIn w := by
  intro p hp
  have hI : ∀ g, (∃ p ∈ Globs.tab, g = p.1) → ∀ j, gIm ⟨g, j, none⟩ := fun g hg j => ⟨rfl, hg⟩
  rcases hp with _ | ⟨_, hp⟩
  · obtain ⟨r, h⟩ := laidAt h h3
    have e : (Rows.laid_internal_strconv_uint64pow10 : DataW Unit) = Lib.tabData .u64 Lib.pow10Tab := by kernel_rfl
    rw [e] at h
    have := Lib.tabIs_of_head (g := gPow) (by kernel_rfl) (by kernel_rfl) Tryz.underlying176 Tryz.underlying56 (by kernel_rfl) (by kernel_rfl) h
    refine gok_one (n := "internal/strconv.uint64pow10") (by kernel_rfl) this (by simp) (by simp [AV.one]) ?_ (hI _ ⟨_, List.Mem.head _, rfl⟩)
    intro j hj
    have hj' : j < Lib.pow10Tab.length := by simpa using hj
    simp [hj']
    exact .int _ _
  · cases hp
/-- A world that meets the condition: the settled one, the tables laid. -/
noncomputable def serWorld (os : Os) : World :=
  let w0 := World.holding Tryz.prog os ⟨#[], #[], []⟩
  let put (h : Array Obj) (g : Nat) (cs : Array Value) : Array Obj := h.modify g fun
    | .cells _ t frozen => .cells cs t frozen
    | o => o
  let h := put w0.heap gPow (litCells Rows.laid_internal_strconv_uint64pow10).toArray
  let h := put h 6 (litCells Rows.laid_math_bits_deBruijn32tab).toArray
  let h := put h 7 (litCells Rows.laid_math_bits_deBruijn64tab).toArray
  let h := put h 4 (litCells Rows.laid_unicode_utf8_first).toArray
  let h := put h 5 (litCells Rows.laid_unicode_utf8_acceptRanges).toArray
  { w0 with heap := h }
noncomputable abbrev serBlocks : List Nat := [gPow, 6, 7, 4, 5]
end Go.Proofs.YtipncibiodfmdaaGreatDoor
