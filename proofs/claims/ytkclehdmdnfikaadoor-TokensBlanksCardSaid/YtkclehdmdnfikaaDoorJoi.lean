/- strings.Join at a separator of one byte. -/
import Derived.Test.YtkclehdmdnfikaaDoorCode
import Derived.Test.YtkclehdmdnfikaaDoorShelf
import Derived.Test.YtkclehdmdnfikaaDoorAbs2
import Derived.ProofKit
set_option linter.unusedSimpArgs false
set_option linter.unusedVariables false
set_option linter.constructorNameAsVariable false
namespace Go.Joi
theorem tail_snoc (sep : List UInt8) (r : List (List UInt8)) (x : List UInt8) : Lib.joinTail sep (r ++ [x]) = Lib.joinTail sep r ++ (sep ++ x) := by simp [Lib.joinTail]
theorem join_snoc (sep : List UInt8) (m : List (List UInt8)) (x : List UInt8) : Lib.join (m ++ [x]) sep = if m = [] then x else Lib.join m sep ++ (sep ++ x) := by
  cases m with
  | nil => simp [Lib.join_one]
  | cons p r => rw [List.cons_append, Lib.join_cons, Lib.join_cons, tail_snoc]; simp
def sum (m : List (List UInt8)) : Nat := (m.map List.length).sum
theorem join_len (c : UInt8) (m : List (List UInt8)) : (Lib.join m [c]).length ≤ sum m + m.length := by
  cases m with
  | nil => simp [Lib.join_nil]
  | cons p r =>
    have ht : ∀ (r : List (List UInt8)), (Lib.joinTail [c] r).length = sum r + r.length := by
      intro r
      induction r with
      | nil => simp [Lib.joinTail, sum]
      | cons y r ih =>
        simp only [Lib.joinTail, List.map_cons, List.flatten_cons, List.length_append, List.length_cons, List.length_nil, sum, List.sum_cons] at ih ⊢
        omega
    rw [Lib.join_cons, List.length_append, ht]
    simp only [sum, List.map_cons, List.sum_cons, List.length_cons]
    omega
end Go.Joi
namespace Go.Abs
def txt1 (l : List (List UInt8)) : List (List AV) := l.map fun s => [.str s]
end Go.Abs
namespace Go.Proofs.YtkclehdmdnfikaaDoor
open Go.Abs
variable {G : Globs}

theorem join1_ok (c : UInt8) (l : List (List UInt8)) (hl : (Lib.join l [c]).length ≤ 140737488355328) (hk : l.length ≤ 140737488355328) : PCalls Tryd.prog 48 [.lst (txt1 l), .str [c]] (fun r => r = .str (Lib.join l [c])) := by
  intro base κ Im w vs hs hv
  obtain ⟨v0, v1, rfl⟩ : ∃ v0 v1, vs = [v0, v1] := by
    match vs, hv.1 with
    | [a, b], _ => exact ⟨a, b, rfl⟩
  have e0 := (hv.2 0 (by simp) (by simp)).lst_inv
  have e1 := (hv.2 1 (by simp) (by simp)).str_inv
  simp only [List.getElem_cons_zero, List.getElem_cons_succ] at e0 e1
  subst e1
  have hel : (txt1 l).length = l.length := by simp [txt1]
  rcases e0 with ⟨rfl, h0⟩ | ⟨size, b, o, cap, vals, rfl, h1, h2, h3, h4, h5, h6⟩
  · have hl0 : l = [] := by simpa [txt1] using h0
    subst hl0
    refine (Tryd.strings_Join_none none 0 ⟨#[c]⟩ w).mono ?_
    rintro e w' ⟨rfl, rfl⟩
    exact ⟨_, [], _, κ, Im, rfl, ⟨rfl, rfl⟩, hs, Grow.refl _ _ _ _, .im _ _ (.str [])⟩
  · cases hln : l with
    | nil =>
      subst hln
      refine (Tryd.strings_Join_none _ cap ⟨#[c]⟩ w).mono ?_
      rintro e w' ⟨rfl, rfl⟩
      exact ⟨_, [], _, κ, Im, rfl, ⟨rfl, rfl⟩, hs, Grow.refl _ _ _ _, .im _ _ (.str [])⟩
    | cons p0 ps0 =>
      have hpos : 0 < l.length := by simp [hln]
      rw [← hln]
      have hsz : size = 1 := by
        have := h3 [.str p0] (by simp [txt1, hln])
        simpa using this.symm
      subst hsz
      rw [hel] at h1 h5
      have hval : ∀ k (hk : k < l.length), vals k 0 = .string ⟨(l[k]).toArray⟩ := fun k hk => by
        have := h6 k 0 (by simpa [txt1] using hk) (by simp [txt1])
        simp only [txt1, List.getElem_map, List.getElem_cons_zero] at this
        generalize vals k 0 = v at this ⊢
        cases this; rfl
      have hcell := fun k (hk : k < l.length) => h5 k 0 hk (by omega)
      have hbk : b < w.heap.size := (hs.imlt _ (hcell 0 hpos).1).1
      have hdat : (l.map fun s => (⟨s.toArray⟩ : ByteArray)).map (·.data.toList) = l := by simp [List.map_map, Function.comp_def]
      have hj : Lib.join ((l.map fun s => (⟨s.toArray⟩ : ByteArray)).map (·.data.toList)) (⟨#[c]⟩ : ByteArray).data.toList = Lib.join l [c] := by rw [hdat]
      have := Tryd.strings_Join b o cap (l.map fun s => (⟨s.toArray⟩ : ByteArray)) ⟨#[c]⟩ w (fun j x hx => by
          simp only [List.getElem?_map, Option.map_eq_some_iff] at hx
          obtain ⟨s, hs', rfl⟩ := hx
          obtain ⟨hj1, rfl⟩ := List.getElem?_eq_some_iff.1 hs'
          have := (hcell j hj1).2
          rw [hval j hj1] at this
          simpa using this) hbk (by simpa using hk) (by simpa using h1) (by rw [hj]; exact hl)
      rw [hj] at this
      simp only [List.length_map] at this
      rw [hel]
      refine this.mono ?_
      rintro e w' ⟨rfl, hb⟩
      obtain ⟨g1, g2⟩ := srel_grow hs hb
      exact ⟨_, [], _, κ, Im, rfl, ⟨rfl, rfl⟩, g1, g2, .im _ _ (.str (Lib.join l [c]))⟩
end Go.Proofs.YtkclehdmdnfikaaDoor
