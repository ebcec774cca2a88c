/- Numbers over time: the document's Reckon; the fixed fact. -/
import Derived.Test.YtjkajkhomklikaaDoorSeC
set_option linter.unusedSimpArgs false
set_option linter.unusedVariables false
set_option linter.constructorNameAsVariable false
set_option maxHeartbeats 4000000
namespace Go.Abs
theorem all_join {G : Globs} {P : Program} {ls : List (List AIns)} {Q : AExit → Frame → Store → Prop} {f : Frame} {σ : Store} (J : Frame → Store → Prop) (hJ : ∀ f σ, J f σ → Q .normal f σ) (h : ∀ l ∈ ls, awpOps P (fun f σ => jn J (.mk _) f (.mk f) σ) l f σ) : awp P (.all ls) Q f σ := by
  intro l hl
  have h1 : awp P (.ops l) (fun e f σ => match e with | .normal => jn J (.mk _) f (.mk f) σ | _ => False) f σ := h l hl
  exact awp_mono (c := .ops l) (Q' := Q) (fun e f σ h0 => by
    cases e with
    | normal => exact hJ _ _ h0
    | exit id => exact h0.elim
    | ret => exact h0.elim) h1
end Go.Abs
namespace Go.Num
theorem fold_from (two : N → N → N) (z k : N) (ks : List N) (h : two z k = k) : (k :: ks).foldl two z = ks.foldl two k := by rw [List.foldl_cons, h]
end Go.Num
namespace Go.Proofs.YtjkajkhomklikaaDoor
open Go.Abs Go.Num Go.Ser
variable {G : Globs}
/-- The store of Reckon: three variables, in whatever order they were laid. -/
def RS (σ : Store) (a b c : Nat) (x y z : N) : Prop := σ.length = 4 ∧ σ[0]? = some (.var 31 [.bool false, .int .i64 0]) ∧ 0 < a ∧ a < 4 ∧ 0 < b ∧ b < 4 ∧ 0 < c ∧ c < 4 ∧ a ≠ b ∧ a ≠ c ∧ b ≠ c ∧
  σ[a]? = some (.var 31 [.bool x.1, .int .i64 x.2]) ∧ σ[b]? = some (.var 31 [.bool y.1, .int .i64 y.2]) ∧ σ[c]? = some (.var 31 [.bool z.1, .int .i64 z.2])
end Go.Proofs.YtjkajkhomklikaaDoor
