/- A list of tokens as an argument, as the laws' walks name it. -/
import Derived.Test.YtkclehdmdnfikaaDoorTkL
import Derived.Test.YtkclehdmdnfikaaDoorTkR
set_option linter.unusedSimpArgs false
set_option linter.unusedVariables false
namespace Go.Proofs.YtkclehdmdnfikaaDoor
open Go.Abs Go.Tok
theorem toks_arg {Im : Addr → Prop} {w : World} {v : Value} {l : List TokC} (h1 : ∀ x ∈ l, (-9223372036854775808 ≤ x.kind ∧ x.kind ≤ 9223372036854775807) ∧ (-9223372036854775808 ≤ x.place ∧ x.place ≤ 9223372036854775807) ∧ x.text.size ≤ maxLen) (h2 : l.length ≤ 9223372036854775807) (h3 : IR Im w (.lst (tokEls l)) v) :
    ∃ m : List TkA, m.length ≤ 9223372036854775807 ∧ (∀ x ∈ m, x.2.1.length ≤ 9223372036854775807) ∧ IR Im w (.lst (tkA m)) v := by
  refine ⟨l.map fun x => (x.kind, x.text.data.toList, x.place), by simpa using h2, ?_, ?_⟩
  · intro x hx
    simp only [List.mem_map] at hx
    obtain ⟨y, hy, rfl⟩ := hx
    have := (h1 y hy).2.2
    have e : maxLen = 9223372036854775807 := rfl
    rw [e] at this
    show y.text.data.toList.length ≤ _
    rw [Array.length_toList]
    exact this
  · have e : tkA (l.map fun x => (x.kind, x.text.data.toList, x.place)) = tokEls l := by simp [tkA, tokEls]
    rw [e]; exact h3
end Go.Proofs.YtkclehdmdnfikaaDoor
