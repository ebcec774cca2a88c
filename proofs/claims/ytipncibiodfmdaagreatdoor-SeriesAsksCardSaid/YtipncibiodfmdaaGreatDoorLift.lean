/- From a contract over the abstract machine to a call of the model, for a law that touches no entry and answers true. -/
import Derived.Test.YtipncibiodfmdaaGreatDoorAbs2
set_option linter.unusedSimpArgs false
set_option linter.unusedVariables false
set_option linter.constructorNameAsVariable false
namespace Go.Abs
open Go.RowKit

def noKey : Key := fun _ _ => none
def noIm : Addr → Prop := fun _ => False
/-- The cells of the package's variables. -/
def gIm [Globs] : Addr → Prop := fun a => a.spot = none ∧ ∃ p ∈ Globs.tab, a.block = p.1
/-- The package's variables hold what the table says. -/
def GlobsIn [Globs] (w : World) : Prop := GOK w.heap.size gIm w
theorem srel_empty {G : Globs} {w : World} (hg : GlobsIn w) : SRel w.heap.size noKey gIm [] w :=
  ⟨Nat.le_refl _, fun id n v h => by simp [noKey] at h, fun id e h => by simp at h, fun i j e e' b _ h => by simp at h, fun a h => by
    obtain ⟨h1, p, hp, h2⟩ := h
    exact ⟨by rw [h2]; exact (hg p hp).1, h1⟩, hg⟩

theorem law_calls {G : Globs} {P : Program} {f : FuncId} {args : List AV} {vs : List Value} {w : World} (h : PCalls P f args (fun r => r = .bool true)) (hg : GlobsIn w) (hv : IRL noIm w args vs) : Calls P f vs.toArray w fun e w' => e = .returned (.bool true) ∧ Below w.heap.size w w' := by
  refine (h w.heap.size noKey gIm w vs (srel_empty hg) ⟨hv.1, fun j h h' => .im _ _ ((hv.2 j h h').mono (fun _ h => h.elim) (fun _ h => h.elim))⟩).mono ?_
  rintro e w' ⟨r, σ', v, κ', Im', rfl, ⟨_, rfl⟩, _, hg, hr⟩
  exact ⟨by rw [hr.bool_inv], hg.below⟩

theorem irl_nil (w : World) : IRL noIm w [] [] := ⟨rfl, fun j h => by simp at h⟩
theorem irl_cons {w : World} {a : AV} {v : Value} {l : List AV} {vs : List Value} (h : IR noIm w a v) (hl : IRL noIm w l vs) : IRL noIm w (a :: l) (v :: vs) := by
  refine ⟨by simp [hl.1], fun j hj hj' => ?_⟩
  cases j with
  | zero => exact h
  | succ j => exact hl.2 j (by simpa using hj) (by simpa using hj')
theorem ir_str (w : World) (s : ByteArray) : IR noIm w (.str s.data.toList) (.string s) := by
  have : (.string s : Value) = .string ⟨s.data.toList.toArray⟩ := by cases s; simp
  rw [this]; exact .str _
end Go.Abs
