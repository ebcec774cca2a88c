/- The package's variables that Decimal and Tokens read: what the row's condition says, and a world that meets it. -/
import Derived.Test.YtipncibiodfmdaaGreatDoorDcA
import Derived.Test.YtipncibiodfmdaaGreatDoorLift
import Derived.Test.YtipncibiodfmdaaGreatDoorRows
import Derived.ProofKit
import Derived.LaidLaws
import Derived.Lib.LaidIn
import Derived.Lib.LaidU8
import Derived.Stop.LaidErr
set_option linter.unusedSimpArgs false
set_option linter.unusedVariables false
set_option linter.constructorNameAsVariable false
namespace Go.Proofs.YtipncibiodfmdaaGreatDoor
open Go.ChangeShapes Go.WideShapes Go.ChangeAt Go.RowKit Go.ChangeMaps Go.Abs

theorem laidAt {P : Program} {w : World} {n : String} {d : DataW Unit} : ∀ {l : List (String × DataW Unit)}, laidMet P l w → (n, d) ∈ l → ∃ r, laidMet P ((n, d) :: r) w
  | [], _, hm => by cases hm
  | x :: l, h, hm => by
    rcases List.mem_cons.1 hm with e | e
    · subst e; exact ⟨l, h⟩
    · exact laidAt h.tail e

theorem gok_one {P : Program} {w : World} {n : String} {g : Nat} {cs : Array Value} {avs : List AV} {Im : Addr → Prop} (hg : P.globalNamed n = some g) (hv : w.var? P n = some cs) (hlen : cs.size = avs.length)
    (hone : ∀ c ∈ avs, c.one = true) (hr : ∀ j (h : j < avs.length), IR Im w (avs[j]) ((cs[j]?).getD (.bool false))) (hIm : ∀ j, Im ⟨g, j, none⟩) :
    g < w.heap.size ∧ (∃ cs t fz, w.heap[g]? = some (.cells cs t fz) ∧ cs.size = avs.length) ∧ IR Im w (.rptr avs) (.pointer (some ⟨g, 0, none⟩)) := by
  have h0 : ∃ t fz, w.heap[g]? = some (.cells cs t fz) := by
    unfold World.var? at hv
    simp only [hg, Option.bind_some] at hv
    split at hv
    · rename_i c t fz hh
      cases hv
      exact ⟨t, fz, hh⟩
    · cases hv
  obtain ⟨t, fz, hh⟩ := h0
  refine ⟨?_, ⟨cs, t, fz, hh, hlen⟩, ?_⟩
  · rcases Nat.lt_or_ge g w.heap.size with h | h
    · exact h
    · rw [Array.getElem?_eq_none h] at hh; cases hh
  · refine .rptr avs g 0 (fun j => (cs[j]?).getD (.bool false)) hone (fun j hj => ⟨?_, ?_⟩) hr
    · simpa using hIm j
    · have : j < cs.size := by omega
      simp [World.cell?, hh, this]

theorem starE : "*" ++ "errors.errorString" = "*errors.errorString" := by decide
theorem Tryz.rowErr (u : TypeId) (h : Tryz.prog.typeName? 3 u = some "*errors.errorString") : u = 205 :=
  typeName_ptr_named (nm := "errors.errorString") (by rw [starE]; kernel_rfl) (by kernel_rfl) (by decide) u (by rw [starE]; exact h)

abbrev gPow : Nat := 2
def litCells : DataW Unit → List Value
  | .agg l => l.flatMap fun
    | .lit (.int k z) => [.int k z]
    | .agg l2 => l2.flatMap fun
      | .lit (.int k z) => [.int k z]
      | _ => []
    | _ => []
  | _ => []

/-- So many blocks has the settled world. -/
noncomputable def lowD : Nat := (World.holding Tryz.prog default ⟨#[], #[], []⟩).heap.size
end Go.Proofs.YtipncibiodfmdaaGreatDoor
