/- Patterns of one name: plain laws of what the functions compute. A target as a tree, in plain Lean: calls and their kinds, parsing, checking, printing. -/
import Derived.Lib.FieldsP
import Derived.Test.YtalfhchbmhoagaaGreatDoorAbs2
import Derived.Test.YtalfhchbmhoagaaGreatDoorCode
import Derived.Test.YtalfhchbmhoagaaGreatDoorShelf
import Derived.Lib.IndexAny
import Derived.Lib.Itoa
import Derived.Lib.ItoaMem
import Derived.Lib.ItoaLen
import Derived.Test.YtalfhchbmhoagaaGreatDoorBn1
set_option linter.unusedSimpArgs false
set_option linter.unusedVariables false
set_option linter.constructorNameAsVariable false
section
namespace Go.Glob
def Stops (x : List UInt8) : Prop := x = [] ∨ ∃ c t, x = c :: t ∧ (c = 44 ∨ c = 125)
theorem rng_two (d h : UInt8) (t x y : List UInt8) : (rng (d :: h :: t ++ x) = none ↔ rng (d :: h :: t ++ y) = none) := by
 simp only [rng, List.cons_append]
 split <;> simp
theorem cls_one {m : Nat} {d : UInt8} {v : List (UInt8 × UInt8) × List UInt8} (h : cls m true [d] = some v) : d = 93 := by
 cases m with
 | zero => simp [cls] at h
 | succ m =>
  unfold cls at h
  split at h
  ·rename_i h1; exact h1.1
  ·split at h
   ·cases h
   ·simp only [rng] at h
    cases m <;> simp [cls] at h
theorem cls_local : ∀ (n : Nat) (ne : Bool) (s : List UInt8) (rs : List (UInt8 × UInt8)) (r : List UInt8), cls n ne s = some (rs, r) →
  ∃ b, s = b ++ r ∧ ∀ m x, n ≤ m ∨ b.length < m → cls m ne (b ++ x) = some (rs, x) := by
 intro n
 induction n with
 | zero => intro ne s rs r h; simp [cls] at h
 | succ n ih =>
  intro ne s rs r h
  cases s with
  | nil => simp [cls] at h
  | cons c s =>
   unfold cls at h
   split at h
   ·rename_i h1
    simp only [Option.some.injEq, Prod.mk.injEq] at h
    obtain ⟨rfl, rfl⟩ := h
    refine ⟨[c], rfl, fun m x hm => ?_⟩
    obtain ⟨m, rfl⟩ : ∃ k, m = k + 1 := ⟨m - 1, by simp at hm; omega⟩
    simp [cls, h1]
   ·rename_i h1
    split at h
    ·cases h
    ·rename_i h2
     split at h
     ·rename_i hh s' hr
      split at h
      ·cases h
      ·rename_i h3
       simp only [Option.map_eq_some_iff, Prod.mk.injEq] at h
       obtain ⟨v, hv, rfl, rfl⟩ := h
       obtain ⟨b, rfl, hb⟩ := ih true s' v.1 v.2 hv
       obtain ⟨d, rfl, hd⟩ : ∃ d, s = d :: hh :: (b ++ v.2) ∧ d = 45 ∧ nb hh = true := by
        match s, hr with
        | d :: h' :: t, hr =>
         simp only [rng] at hr
         split at hr
         ·rename_i hc; simp only [Option.some.injEq, Prod.mk.injEq] at hr; obtain ⟨rfl, rfl⟩ := hr; exact ⟨d, rfl, hc⟩
         ·cases hr
       refine ⟨c :: d :: hh :: b, by simp, fun m x hm => ?_⟩
       obtain ⟨m, rfl⟩ : ∃ k, m = k + 1 := ⟨m - 1, by simp at hm; omega⟩
       have e := hb m x (by simp at hm; omega)
       simp only [List.cons_append]
       unfold cls
       rw [if_neg h1, if_neg h2]
       simp only [rng, hd, and_self, if_true, if_neg h3, e, Option.map_some]
     ·rename_i hr
      simp only [Option.map_eq_some_iff, Prod.mk.injEq] at h
      obtain ⟨v, hv, rfl, rfl⟩ := h
      obtain ⟨b, rfl, hb⟩ := ih true s v.1 v.2 hv
      refine ⟨c :: b, by simp, fun m x hm => ?_⟩
      obtain ⟨m, rfl⟩ : ∃ k, m = k + 1 := ⟨m - 1, by simp at hm; omega⟩
      have e := hb m x (by simp at hm; omega)
      have hrx : rng (b ++ x) = none := by
       match b, hb, hr with
       | [], hb, _ =>
        have := hb 1 [] (.inr (by simp))
        simp [cls] at this
       | [d], hb, _ =>
        have := hb 2 [] (.inr (by simp))
        have := cls_one this
        subst this
        cases x <;> simp [rng]
       | d :: h :: t, hb, hr => exact (rng_two d h t v.2 x).1 hr
      simp only [List.cons_append]
      unfold cls
      rw [if_neg h1, if_neg h2]
      simp only [hrx, e, Option.map_some]
theorem cls_step {m : Nat} {ne : Bool} {c : UInt8} {s : List UInt8} (h93 : ¬ (c = 93 ∧ ne = true)) (hn : nb c = true) : cls (m + 1) ne (c :: s) = match rng s with
  | some (h, s') => if h < c then none else (cls m true s').map fun x => ((c, h) :: x.1, x.2)
  | none => (cls m true s).map fun x => ((c, c) :: x.1, x.2) := by
 simp only [cls]
 rw [if_neg h93, if_neg (by simp [hn])]
 rfl
theorem cls_no {m : Nat} {ne : Bool} {c : UInt8} {s : List UInt8} (h93 : ¬ (c = 93 ∧ ne = true)) (hn : nb c = false) : cls (m + 1) ne (c :: s) = none := by
 simp only [cls]
 rw [if_neg h93, if_pos hn]
mutual
def okL : List Pc → Prop
 | [] => True
 | .lit c :: l => nb c = true ∧ okL l
 | .q :: l => okL l
 | .star :: l => okL l
 | .cls rs t :: l => (∃ b, t = 91 :: b ∧ ∀ m x, b.length < m → cls m false (b ++ x) = some (rs, x)) ∧ okL l
 | .br as_ :: l => okA as_ ∧ okL l
def okA : List (List Pc) → Prop
 | [] => True
 | a :: as_ => okL a ∧ okA as_
end
mutual
def srcL : List Pc → Nat
 | [] => 0
 | .lit _ :: l => 1 + srcL l
 | .q :: l => 1 + srcL l
 | .star :: l => 1 + srcL l
 | .cls _ t :: l => t.length + srcL l
 | .br as_ :: l => srcA as_ + srcL l
def srcA : List (List Pc) → Nat
 | [] => 0
 | a :: as_ => srcL a + srcA as_
end
theorem nb_no (c : UInt8) (h : nb c = true) : ¬ (c = 44 ∨ c = 125) ∧ c ≠ 63 ∧ c ≠ 42 ∧ c ≠ 91 ∧ c ≠ 123 := by
 refine ⟨?_, ?_, ?_, ?_, ?_⟩
 ·rintro (rfl | rfl) <;> exact absurd h (by decide)
 all_goals (rintro rfl; exact absurd h (by decide))
theorem pcs_end (m : Nat) : pcs (m + 1) [] = some ([], [], 0) := by simp [pcs]
theorem pcs_stop {m : Nat} {c : UInt8} {s : List UInt8} (h : c = 44 ∨ c = 125) : pcs (m + 1) (c :: s) = some ([], c :: s, 0) := by
 unfold pcs; rw [if_pos h]
theorem pcs_q {m : Nat} {s : List UInt8} : pcs (m + 1) (63 :: s) = (pcs m s).map fun x => (.q :: x.1, x.2) := by
 conv => lhs; unfold pcs
 rw [if_neg (by decide), if_pos rfl]
theorem pcs_star {m : Nat} {s : List UInt8} : pcs (m + 1) (42 :: s) = (pcs m s).map fun x => (.star :: x.1, x.2) := by
 conv => lhs; unfold pcs
 rw [if_neg (by decide), if_neg (by decide), if_pos rfl]
theorem pcs_cls {m : Nat} {s : List UInt8} : pcs (m + 1) (91 :: s) = (cls m false s).bind fun x => (pcs m x.2).map fun y => (.cls x.1 ((91 :: s).take (s.length + 1 - x.2.length)) :: y.1, y.2) := by
 conv => lhs; unfold pcs
 rw [if_neg (by decide), if_neg (by decide), if_neg (by decide), if_pos rfl]
theorem pcs_br {m : Nat} {s : List UInt8} : pcs (m + 1) (123 :: s) = (alts m s).bind fun x => (pcs m x.2.1).map fun y => (.br x.1 :: y.1, y.2.1, max (x.2.2 + 1) y.2.2) := by
 conv => lhs; unfold pcs
 rw [if_neg (by decide), if_neg (by decide), if_neg (by decide), if_neg (by decide), if_pos rfl]
theorem pcs_lit {m : Nat} {c : UInt8} {s : List UInt8} (h : nb c = true) : pcs (m + 1) (c :: s) = (pcs m s).map fun x => (.lit c :: x.1, x.2) := by
 obtain ⟨h1, h2, h3, h4, h5⟩ := nb_no c h
 conv => lhs; unfold pcs
 rw [if_neg h1, if_neg h2, if_neg h3, if_neg h4, if_neg h5, if_pos h]
theorem pcs_no {m : Nat} {c : UInt8} {s : List UInt8} (h1 : ¬ (c = 44 ∨ c = 125)) (h2 : c ≠ 63) (h3 : c ≠ 42) (h4 : c ≠ 91) (h5 : c ≠ 123) (h : nb c = false) : pcs (m + 1) (c :: s) = none := by
 unfold pcs
 rw [if_neg h1, if_neg h2, if_neg h3, if_neg h4, if_neg h5, if_neg (by simp [h])]
theorem alts_step {m : Nat} {s : List UInt8} : alts (m + 1) s = (pcs m s).bind fun x => match x.2.1 with
  | [] => none
  | c :: r => if c = 125 then some ([x.1], r, x.2.2) else (alts m r).map fun y => (x.1 :: y.1, y.2.1, max x.2.2 y.2.2) := by
 conv => lhs; unfold alts
 rfl
theorem pcs_local : ∀ (n : Nat), (∀ (s : List UInt8) (l : List Pc) (r : List UInt8) (d : Nat), pcs n s = some (l, r, d) →
   Stops r ∧ okL l ∧ srcL l + r.length ≤ s.length ∧ ∃ b, s = b ++ r ∧ ∀ m x, n ≤ m → Stops x → pcs m (b ++ x) = some (l, x, d)) ∧
  (∀ (s : List UInt8) (l : List (List Pc)) (r : List UInt8) (d : Nat), alts n s = some (l, r, d) →
   okA l ∧ srcA l + r.length ≤ s.length ∧ ∃ b, s = b ++ r ∧ ∀ m x, n ≤ m → alts m (b ++ x) = some (l, x, d)) := by
 intro n
 induction n with
 | zero => exact ⟨fun s l r d h => by simp [pcs] at h, fun s l r d h => by simp [alts] at h⟩
 | succ n ih =>
  obtain ⟨ihp, iha⟩ := ih
  have hsucc : ∀ {m : Nat}, n + 1 ≤ m → ∃ k, m = k + 1 ∧ n ≤ k := fun {m} hm => ⟨m - 1, by omega, by omega⟩
  refine ⟨fun s l r d h => ?_, fun s l r d h => ?_⟩
  ·cases s with
   | nil =>
    simp only [pcs, Option.some.injEq, Prod.mk.injEq] at h
    obtain ⟨rfl, rfl, rfl⟩ := h
    refine ⟨.inl rfl, by simp [okL], by simp [srcL], [], rfl, fun m x hm hx => ?_⟩
    obtain ⟨m, rfl, hm'⟩ := hsucc hm
    rcases hx with rfl | ⟨c, t, rfl, hc⟩
    ·simp [pcs]
    ·simp [pcs, hc]
   | cons c s =>
    unfold pcs at h
    split at h
    ·rename_i h1
     simp only [Option.some.injEq, Prod.mk.injEq] at h
     obtain ⟨rfl, rfl, rfl⟩ := h
     refine ⟨.inr ⟨c, s, rfl, h1⟩, by simp [okL], by simp [srcL], [], rfl, fun m x hm hx => ?_⟩
     obtain ⟨m, rfl, hm'⟩ := hsucc hm
     rcases hx with rfl | ⟨c, t, rfl, hc⟩
     ·simp [pcs]
     ·simp [pcs, hc]
    rename_i h1
    split at h
    ·rename_i h2
     simp only [Option.map_eq_some_iff, Prod.mk.injEq] at h
     obtain ⟨⟨l', r', d'⟩, hv, rfl, rfl, rfl⟩ := h
     obtain ⟨g1, g2, g3, b, rfl, g4⟩ := ihp _ _ _ _ hv
     refine ⟨g1, by simpa [okL] using g2, by simp [srcL] at g3 ⊢; omega, c :: b, rfl, fun m x hm hx => ?_⟩
     obtain ⟨m, rfl, hm'⟩ := hsucc hm
     simp only [List.cons_append]
     unfold pcs
     rw [if_neg h1, if_pos h2, g4 m x hm' hx]; rfl
    rename_i h2
    split at h
    ·rename_i h3
     simp only [Option.map_eq_some_iff, Prod.mk.injEq] at h
     obtain ⟨⟨l', r', d'⟩, hv, rfl, rfl, rfl⟩ := h
     obtain ⟨g1, g2, g3, b, rfl, g4⟩ := ihp _ _ _ _ hv
     refine ⟨g1, by simpa [okL] using g2, by simp [srcL] at g3 ⊢; omega, c :: b, rfl, fun m x hm hx => ?_⟩
     obtain ⟨m, rfl, hm'⟩ := hsucc hm
     simp only [List.cons_append]
     unfold pcs
     rw [if_neg h1, if_neg h2, if_pos h3, g4 m x hm' hx]; rfl
    rename_i h3
    split at h
    ·rename_i h4
     simp only [Option.bind_eq_some_iff, Option.map_eq_some_iff, Prod.mk.injEq] at h
     obtain ⟨⟨rs, r1⟩, hc, ⟨l', r', d'⟩, hv, rfl, rfl, rfl⟩ := h
     obtain ⟨b1, rfl, hb1⟩ := cls_local _ _ _ _ _ hc
     obtain ⟨g1, g2, g3, b, e, g4⟩ := ihp _ _ _ _ hv
     dsimp only at e
     subst e
     have ht : ((c :: (b1 ++ (b ++ r))).take ((b1 ++ (b ++ r)).length + 1 - (b ++ r).length)) = c :: b1 := by
      have : (b1 ++ (b ++ r)).length + 1 - (b ++ r).length = b1.length + 1 := by simp; omega
      rw [this, List.take_succ_cons, List.take_left]
     have h4' := h4
     refine ⟨g1, ?_, ?_, c :: (b1 ++ b), by simp, fun m x hm hx => ?_⟩
     ·simp only [okL]; exact ⟨⟨b1, by rw [ht, h4], fun m x hm => hb1 m x (.inr hm)⟩, g2⟩
     ·simp only [srcL]; rw [ht]; simp at g3 ⊢; omega
     ·obtain ⟨m, rfl, hm'⟩ := hsucc hm
      simp only [List.cons_append, List.append_assoc]
      unfold pcs
      rw [if_neg h1, if_neg h2, if_neg h3, if_pos h4, hb1 m (b ++ x) (.inl hm')]
      simp only [Option.bind_some, g4 m x hm' hx, Option.map_some, Option.some.injEq, Prod.mk.injEq, List.cons.injEq, Pc.cls.injEq, true_and, and_true]
      have e1 : (b1 ++ (b ++ x)).length + 1 - (b ++ x).length = b1.length + 1 := by simp; omega
      rw [ht, e1, List.take_succ_cons, List.take_left]
    rename_i h4
    split at h
    ·rename_i h5
     simp only [Option.bind_eq_some_iff, Option.map_eq_some_iff, Prod.mk.injEq] at h
     obtain ⟨⟨as_, r1, d1⟩, hc, ⟨l', r', d'⟩, hv, rfl, rfl, rfl⟩ := h
     obtain ⟨a1, a2, b1, rfl, hb1⟩ := iha _ _ _ _ hc
     obtain ⟨g1, g2, g3, b, e, g4⟩ := ihp _ _ _ _ hv
     dsimp only at e
     subst e
     refine ⟨g1, ?_, ?_, c :: (b1 ++ b), by simp, fun m x hm hx => ?_⟩
     ·simp only [okL]; exact ⟨a1, g2⟩
     ·simp only [srcL]; simp at g3 a2 ⊢; omega
     ·obtain ⟨m, rfl, hm'⟩ := hsucc hm
      simp only [List.cons_append, List.append_assoc]
      unfold pcs
      rw [if_neg h1, if_neg h2, if_neg h3, if_neg h4, if_pos h5, hb1 m (b ++ x) hm']
      simp only [Option.bind_some, g4 m x hm' hx, Option.map_some]
    rename_i h5
    split at h
    ·rename_i h6
     simp only [Option.map_eq_some_iff, Prod.mk.injEq] at h
     obtain ⟨⟨l', r', d'⟩, hv, rfl, rfl, rfl⟩ := h
     obtain ⟨g1, g2, g3, b, rfl, g4⟩ := ihp _ _ _ _ hv
     refine ⟨g1, ?_, by simp [srcL] at g3 ⊢; omega, c :: b, rfl, fun m x hm hx => ?_⟩
     ·simp only [okL]; exact ⟨h6, g2⟩
     obtain ⟨m, rfl, hm'⟩ := hsucc hm
     simp only [List.cons_append]
     unfold pcs
     rw [if_neg h1, if_neg h2, if_neg h3, if_neg h4, if_neg h5, if_pos h6, g4 m x hm' hx]; rfl
    ·cases h
  ·unfold alts at h
   simp only [Option.bind_eq_some_iff] at h
   obtain ⟨⟨l', r', d'⟩, hv, h⟩ := h
   obtain ⟨g1, g2, g3, b, rfl, g4⟩ := ihp _ _ _ _ hv
   dsimp only at h
   split at h
   ·cases h
   ·rename_i c r0
    split at h
    ·rename_i h1
     simp only [Option.some.injEq, Prod.mk.injEq] at h
     obtain ⟨rfl, rfl, rfl⟩ := h
     refine ⟨?_, ?_, b ++ [c], by simp, fun m x hm => ?_⟩
     ·simp only [okA]; exact ⟨g2, trivial⟩
     ·simp [srcA] at g3 ⊢; omega
     ·obtain ⟨m, rfl, hm'⟩ := hsucc hm
      unfold alts
      rw [List.append_assoc, List.singleton_append, g4 m _ hm' (.inr ⟨c, x, rfl, .inr h1⟩)]
      simp [h1]
    ·rename_i h1
     simp only [Option.map_eq_some_iff, Prod.mk.injEq] at h
     obtain ⟨⟨as_, r2, d2⟩, hw, rfl, rfl, rfl⟩ := h
     obtain ⟨a1, a2, b2, rfl, hb2⟩ := iha _ _ _ _ hw
     have hc : c = 44 ∨ c = 125 := by
      rcases g1 with g1 | ⟨c', t, e, hc⟩
      ·cases g1
      ·simp only [List.cons.injEq] at e; obtain ⟨rfl, rfl⟩ := e; exact hc
     refine ⟨?_, ?_, b ++ c :: b2, by simp, fun m x hm => ?_⟩
     ·simp only [okA]; exact ⟨g2, a1⟩
     ·simp [srcA] at g3 a2 ⊢; omega
     ·obtain ⟨m, rfl, hm'⟩ := hsucc hm
      unfold alts
      rw [List.append_assoc, List.cons_append, g4 m _ hm' (.inr ⟨c, _, rfl, hc⟩)]
      simp only [Option.bind_some, if_neg h1, hb2 m x hm', Option.map_some]
def flat : List Pc → Prop
 | [] => True
 | .br _ :: _ => False
 | .lit _ :: l => flat l
 | .q :: l => flat l
 | .star :: l => flat l
 | .cls _ _ :: l => flat l
theorem flat_append : ∀ {l m : List Pc}, flat l → flat m → flat (l ++ m)
 | [], _, _, h => h
 | .br _ :: _, _, h, _ => h.elim
 | .lit _ :: l, m, h, h' => flat_append (l := l) (m := m) h h'
 | .q :: l, m, h, h' => flat_append (l := l) (m := m) h h'
 | .star :: l, m, h, h' => flat_append (l := l) (m := m) h h'
 | .cls _ _ :: l, m, h, h' => flat_append (l := l) (m := m) h h'
theorem okL_append : ∀ {l m : List Pc}, okL l → okL m → okL (l ++ m)
 | [], _, _, h => h
 | .br _ :: l, m, h, h' => by simp only [List.cons_append, okL] at h ⊢; exact ⟨h.1, okL_append h.2 h'⟩
 | .lit _ :: l, m, h, h' => by simp only [List.cons_append, okL] at h ⊢; exact ⟨h.1, okL_append h.2 h'⟩
 | .q :: l, m, h, h' => by simp only [List.cons_append, okL] at h ⊢; exact okL_append h h'
 | .star :: l, m, h, h' => by simp only [List.cons_append, okL] at h ⊢; exact okL_append h h'
 | .cls _ _ :: l, m, h, h' => by simp only [List.cons_append, okL] at h ⊢; exact ⟨h.1, okL_append h.2 h'⟩
theorem texts_append (l m : List Pc) : texts (l ++ m) = texts l ++ texts m := by simp [texts]
def Good (n : Nat) (l : List Pc) : Prop := flat l ∧ okL l ∧ (texts l).length ≤ n
theorem Good.app {a b : Nat} {l m : List Pc} (h : Good a l) (h' : Good b m) : Good (a + b) (l ++ m) :=
 ⟨flat_append h.1 h'.1, okL_append h.2.1 h'.2.1, by rw [texts_append, List.length_append]; exact Nat.add_le_add h.2.2 h'.2.2⟩
theorem Good.le {a b : Nat} {l : List Pc} (h : Good a l) (hab : a ≤ b) : Good b l := ⟨h.1, h.2.1, Nat.le_trans h.2.2 hab⟩
theorem mt_star (l : List Pc) (s : List UInt8) : mt (.star :: l) s = (mt l s || match s with | [] => false | _ :: s' => mt (.star :: l) s') := by
 cases s <;> simp [mt, tls]
theorem mt_other {p : Pc} (hp : p ≠ .star) (l : List Pc) (c : UInt8) (s : List UInt8) : mt (p :: l) (c :: s) = (p.one c && mt l s) := by
 cases p <;> first | exact absurd rfl hp | rfl
theorem mt_other_nil {p : Pc} (hp : p ≠ .star) (l : List Pc) : mt (p :: l) [] = false := by
 cases p <;> first | exact absurd rfl hp | rfl
def starless (l : List Pc) : Prop := ∀ p ∈ l, p ≠ .star
theorem mt_skip : ∀ (M R : List Pc) (s : List UInt8), starless M → mt (M ++ R) s = true → M.length ≤ s.length ∧ mt R (s.drop M.length) = true
 | [], R, s, _, h => by simpa using h
 | p :: M, R, [], hM, h => by
  rw [List.cons_append, mt_other_nil (hM p (by simp))] at h
  cases h
 | p :: M, R, c :: s, hM, h => by
  rw [List.cons_append, mt_other (hM p (by simp)), Bool.and_eq_true] at h
  have := mt_skip M R s (fun x hx => hM x (by simp [hx])) h.2
  exact ⟨by simp; omega, by simpa using this.2⟩
structure Fit (l : List Pc) (name : List UInt8) (at_ k : Nat) (back : Option Nat) (from_ : Nat) : Prop where
 hat : at_ ≤ l.length
 hk : k ≤ name.length
 hfk : from_ ≤ k
 f0 : back = none → mt l name = mt (l.drop at_) (name.drop k)
 f1 : ∀ b, back = some b → b < at_ ∧ l[b]? = some .star ∧ k - from_ = at_ - b - 1 ∧ starless ((l.take at_).drop (b + 1)) ∧
  mt l name = (mt (l.drop at_) (name.drop k) || (decide (from_ < name.length) && mt (l.drop b) (name.drop (from_ + 1))))
theorem drop_cons {α : Type} {l : List α} {i : Nat} {a : α} (h : l[i]? = some a) : l.drop i = a :: l.drop (i + 1) := by
 obtain ⟨hlt, rfl⟩ := List.getElem?_eq_some_iff.1 h
 exact List.drop_eq_getElem_cons hlt
theorem Fit.step {l : List Pc} {name : List UInt8} {at_ k : Nat} {back : Option Nat} {from_ : Nat} {p : Pc} {c : UInt8} (h : Fit l name at_ k back from_) (hp : l[at_]? = some p) (hs : p ≠ .star) (hc : name[k]? = some c) (ho : p.one c = true) :
  Fit l name (at_ + 1) (k + 1) back from_ := by
 have h1 := (List.getElem?_eq_some_iff.1 hp).1
 have h2 := (List.getElem?_eq_some_iff.1 hc).1
 have e : mt (l.drop at_) (name.drop k) = mt (l.drop (at_ + 1)) (name.drop (k + 1)) := by
  rw [drop_cons hp, drop_cons hc, mt_other hs, ho, Bool.true_and]
 refine ⟨by omega, by omega, by have := h.hfk; omega, fun hn => by rw [← e]; exact h.f0 hn, fun b hb => ?_⟩
 obtain ⟨g1, g2, g3, g4, g5⟩ := h.f1 b hb
 refine ⟨by omega, g2, by have := h.hfk; omega, fun x hq => ?_, by rw [← e]; exact g5⟩
 have : l.take (at_ + 1) = l.take at_ ++ [p] := by rw [List.take_add_one, hp]; rfl
 rw [this, List.drop_append_of_le_length (by simp; omega)] at hq
 rcases List.mem_append.1 hq with hq | hq
 ·exact g4 x hq
 ·simp only [List.mem_singleton] at hq; subst hq; exact hs
def Stuck (l : List Pc) (name : List UInt8) (at_ k : Nat) : Prop := ∃ c, name[k]? = some c ∧ (l[at_]? = none ∨ ∃ p, l[at_]? = some p ∧ p ≠ .star ∧ p.one c = false)
theorem Stuck.mt {l : List Pc} {name : List UInt8} {at_ k : Nat} (h : Stuck l name at_ k) : Glob.mt (l.drop at_) (name.drop k) = false := by
 obtain ⟨c, hc, h⟩ := h
 rw [drop_cons hc]
 rcases h with h | ⟨p, hp, hs, ho⟩
 ·rw [List.drop_eq_nil_of_le (List.getElem?_eq_none_iff.1 h)]; rfl
 ·rw [drop_cons hp, mt_other hs, ho, Bool.false_and]
theorem Fit.back {l : List Pc} {name : List UInt8} {at_ k : Nat} {b from_ : Nat} (h : Fit l name at_ k (some b) from_) (hs : Stuck l name at_ k) : Fit l name (b + 1) (from_ + 1) (some b) (from_ + 1) := by
 obtain ⟨g1, g2, g3, g4, g5⟩ := h.f1 b rfl
 have hk : k < name.length := by obtain ⟨c, hc, _⟩ := hs; exact (List.getElem?_eq_some_iff.1 hc).1
 have hfk := h.hfk
 have hat := h.hat
 refine ⟨by omega, by omega, Nat.le_refl _, nofun, fun b' hb' => ?_⟩
 cases hb'
 refine ⟨by omega, g2, by omega, fun p hp => ?_, ?_⟩
 ·rw [List.drop_eq_nil_of_le (by rw [List.length_take]; exact Nat.min_le_left _ _)] at hp; cases hp
 ·rw [g5, hs.mt, Bool.false_or]
  have hfr : decide (from_ < name.length) = true := by simp; omega
  rw [hfr, Bool.true_and, drop_cons g2, mt_star]
  congr 1
  by_cases hf : from_ + 1 < name.length
  ·rw [List.drop_eq_getElem_cons hf]; simp [hf]
  ·rw [List.drop_eq_nil_of_le (by omega)]; simp [hf]
theorem Fit.done {l : List Pc} {name : List UInt8} {at_ from_ : Nat} {back : Option Nat} (h : Fit l name at_ name.length back from_) : mt l name = mt (l.drop at_) [] := by
 have e0 : name.drop name.length = [] := List.drop_eq_nil_of_le (Nat.le_refl _)
 cases hb : back with
 | none => rw [h.f0 hb, e0]
 | some b =>
  obtain ⟨g1, g2, g3, g4, g5⟩ := h.f1 b hb
  rw [g5, e0]
  cases hy : (decide (from_ < name.length) && mt (l.drop b) (name.drop (from_ + 1))) with
  | false => rw [Bool.or_false]
  | true =>
   exfalso
   simp only [Bool.and_eq_true, decide_eq_true_eq] at hy
   obtain ⟨hfr, hy⟩ := hy
   rw [drop_cons g2] at hy
   simp only [mt, List.any_eq_true] at hy
   obtain ⟨t, ht, hy⟩ := hy
   have htl : t.length ≤ (name.drop (from_ + 1)).length := by
    clear hy
    generalize name.drop (from_ + 1) = s at ht
    induction s with
    | nil => simp [tls] at ht; simp [ht]
    | cons c s ih =>
     simp only [tls, List.mem_cons] at ht
     rcases ht with rfl | ht
     ·simp
     ·have := ih ht; simp; omega
   have es : l.drop (b + 1) = (l.take at_).drop (b + 1) ++ l.drop at_ := by
    have : l.drop (b + 1) = ((l.take at_) ++ l.drop at_).drop (b + 1) := by rw [List.take_append_drop]
    rw [this, List.drop_append_of_le_length (by have := h.hat; simp; omega)]
   rw [es] at hy
   obtain ⟨m1, m2⟩ := mt_skip _ _ _ g4 hy
   have hat := h.hat
   simp at m1 htl
   omega
theorem suffix_drop {text b r : List UInt8} {k : Nat} (h : text.drop k = b ++ r) : text.drop (text.length - r.length) = r ∧ r.length + b.length = text.length - k := by
 have h1 := congrArg List.length h
 simp only [List.length_drop, List.length_append] at h1
 refine ⟨?_, by omega⟩
 by_cases hk : k ≤ text.length
 ·have : text.drop (text.length - r.length) = (text.drop k).drop b.length := by
   rw [List.drop_drop]; congr 1; omega
  rw [this, h, List.drop_left]
 ·have : r = [] := List.eq_nil_of_length_eq_zero (by omega)
  subst this; simp
theorem pcs_drop {m k : Nat} {text : List UInt8} {l : List Pc} {r : List UInt8} {d : Nat} (h : pcs m (text.drop k) = some (l, r, d)) : text.drop (text.length - r.length) = r ∧ r.length ≤ text.length - k := by
 obtain ⟨_, _, _, b, hb, _⟩ := (pcs_local _).1 _ _ _ _ h
 have := suffix_drop hb
 exact ⟨this.1, by omega⟩
theorem alts_drop {m k : Nat} {text : List UInt8} {l : List (List Pc)} {r : List UInt8} {d : Nat} (h : alts m (text.drop k) = some (l, r, d)) : text.drop (text.length - r.length) = r ∧ r.length ≤ text.length - k := by
 obtain ⟨_, _, b, hb, _⟩ := (pcs_local _).2 _ _ _ _ h
 have := suffix_drop hb
 exact ⟨this.1, by omega⟩
theorem cls_drop {m k : Nat} {text : List UInt8} {ne : Bool} {l : List (UInt8 × UInt8)} {r : List UInt8} (h : cls m ne (text.drop k) = some (l, r)) : text.drop (text.length - r.length) = r ∧ r.length ≤ text.length - k := by
 obtain ⟨b, hb, _⟩ := cls_local _ _ _ _ _ h
 have := suffix_drop hb
 exact ⟨this.1, by omega⟩
end Go.Glob
end
section
namespace Go.Tgt
def famT : List (List UInt8 × List UInt8) := [
 ([83], [97, 98, 115, 111, 108, 117, 116, 101, 32, 110, 101, 103, 97, 116, 101, 32, 105, 110, 118, 101, 114, 116, 32, 115, 113, 117, 97, 114, 101, 82, 111, 111, 116, 32, 100, 101, 114, 105, 118, 97, 116, 105, 118, 101, 32, 105, 110, 116, 101, 103, 114, 97, 108, 32, 105, 115, 78, 111, 110, 78, 117, 108, 108, 32, 97, 115, 80, 101, 114, 99, 101, 110, 116, 32, 115, 111, 114, 116, 66, 121, 78, 97, 109, 101, 32, 115, 111, 114, 116, 66, 121, 84, 111, 116, 97, 108, 32, 115, 111, 114, 116, 66, 121, 77, 97, 120, 105, 109, 97, 32, 115, 111, 114, 116, 66, 121, 77, 105, 110, 105, 109, 97]),
 ([83, 78], [115, 99, 97, 108, 101, 32, 111, 102, 102, 115, 101, 116, 32, 100, 101, 108, 97, 121, 32, 109, 111, 118, 105, 110, 103, 65, 118, 101, 114, 97, 103, 101, 32, 109, 111, 118, 105, 110, 103, 83, 117, 109, 32, 109, 111, 118, 105, 110, 103, 77, 105, 110, 32, 109, 111, 118, 105, 110, 103, 77, 97, 120, 32, 114, 101, 109, 111, 118, 101, 65, 98, 111, 118, 101, 86, 97, 108, 117, 101, 32, 114, 101, 109, 111, 118, 101, 66, 101, 108, 111, 119, 86, 97, 108, 117, 101, 32, 114, 111, 117, 110, 100, 32, 112, 101, 114, 99, 101, 110, 116, 105, 108, 101, 79, 102, 83, 101, 114, 105, 101, 115, 32, 108, 105, 109, 105, 116, 32, 104, 105, 103, 104, 101, 115, 116, 77, 97, 120, 32, 104, 105, 103, 104, 101, 115, 116, 65, 118, 101, 114, 97, 103, 101, 32, 104, 105, 103, 104, 101, 115, 116, 67, 117, 114, 114, 101, 110, 116, 32, 108, 111, 119, 101, 115, 116, 65, 118, 101, 114, 97, 103, 101, 32, 108, 111, 119, 101, 115, 116, 67, 117, 114, 114, 101, 110, 116, 32, 97, 118, 101, 114, 97, 103, 101, 65, 98, 111, 118, 101, 32, 97, 118, 101, 114, 97, 103, 101, 66, 101, 108, 111, 119, 32, 109, 97, 120, 105, 109, 117, 109, 65, 98, 111, 118, 101, 32, 109, 97, 120, 105, 109, 117, 109, 66, 101, 108, 111, 119, 32, 109, 105, 110, 105, 109, 117, 109, 65, 98, 111, 118, 101, 32, 109, 105, 110, 105, 109, 117, 109, 66, 101, 108, 111, 119, 32, 99, 117, 114, 114, 101, 110, 116, 65, 98, 111, 118, 101, 32, 99, 117, 114, 114, 101, 110, 116, 66, 101, 108, 111, 119, 32, 116, 105, 109, 101, 83, 104, 105, 102, 116]),
 ([83, 110], [110, 111, 110, 78, 101, 103, 97, 116, 105, 118, 101, 68, 101, 114, 105, 118, 97, 116, 105, 118, 101, 32, 112, 101, 114, 83, 101, 99, 111, 110, 100, 32, 107, 101, 101, 112, 76, 97, 115, 116, 86, 97, 108, 117, 101, 32, 116, 114, 97, 110, 115, 102, 111, 114, 109, 78, 117, 108, 108]),
 ([83, 78, 78], [99, 108, 97, 109, 112]),
 ([83, 78, 116], [115, 117, 109, 109, 97, 114, 105, 122, 101]),
 ([83, 43], [115, 117, 109, 83, 101, 114, 105, 101, 115, 32, 97, 118, 101, 114, 97, 103, 101, 83, 101, 114, 105, 101, 115, 32, 109, 105, 110, 83, 101, 114, 105, 101, 115, 32, 109, 97, 120, 83, 101, 114, 105, 101, 115, 32, 109, 117, 108, 116, 105, 112, 108, 121, 83, 101, 114, 105, 101, 115, 32, 100, 105, 102, 102, 83, 101, 114, 105, 101, 115, 32, 114, 97, 110, 103, 101, 79, 102, 83, 101, 114, 105, 101, 115, 32, 99, 111, 117, 110, 116, 83, 101, 114, 105, 101, 115, 32, 109, 101, 100, 105, 97, 110, 83, 101, 114, 105, 101, 115, 32, 103, 114, 111, 117, 112]),
 ([83, 83], [100, 105, 118, 105, 100, 101, 83, 101, 114, 105, 101, 115]),
 ([83, 78, 84], [103, 114, 111, 117, 112, 66, 121, 78, 111, 100, 101]),
 ([83, 84], [103, 114, 101, 112, 32, 101, 120, 99, 108, 117, 100, 101, 32, 97, 108, 105, 97, 115]),
 ([83, 78, 43], [97, 108, 105, 97, 115, 66, 121, 78, 111, 100, 101]),
 ([78], [99, 111, 110, 115, 116, 97, 110, 116, 76, 105, 110, 101])]
def kindsS (call : List UInt8) : Option (List UInt8) := (famT.find? fun p => decide (call ∈ Lib.fields p.2)).map (·.1)
structure Nd where
 kind : Int
 text : List UInt8
 num : Int
 args : List Int
def letterS (n : Nd) : UInt8 := if n.kind = 2 then 78 else if n.kind = 3 then 84 else 83
def fitS : Nat → List UInt8 → List UInt8 → Bool
 | _, [], args => args.isEmpty
 | 0, _, _ => false
 | n + 1, k :: ks, args =>
  match args with
  | [] => decide (97 ≤ k) && fitS n ks []
  | a :: as_ =>
   if a ≠ (if 97 ≤ k then k - 32 else k) then false
   else match ks with
    | [] => as_.isEmpty
    | c :: ks' => if c = 43 then (as_.isEmpty || fitS n (k :: c :: ks') as_) else fitS n (c :: ks') as_
def fitK (kinds args : List UInt8) : Bool := fitS (kinds.length + args.length + 1) kinds args
def argsP (sub : List Tok.Tk → List Nd → Except Nat (List Nd × List Tok.Tk)) (word : List UInt8) : Nat → List Int → List Tok.Tk → List Nd → Except Nat (List Nd × List Tok.Tk)
 | 0, _, _, _ => .error 17
 | n + 1, args, t, l => match sub t l with
  | .error e => .error e
  | .ok (l', t') => match t' with
   | [] => .error 17
   | y :: r =>
    if y.kind = 5 then .ok (l' ++ [⟨4, word, 0, args ++ [(l'.length : Int) - 1]⟩], r)
    else if y.kind = 6 then (if args.length + 1 = 16 then .error 11 else argsP sub word n (args ++ [(l'.length : Int) - 1]) r l')
    else .error 17
def numOf (t : List UInt8) : Int := match Dec.parse t with
 | .ok v => v
 | .error _ => 0
def argP : Nat → List Tok.Tk → List Nd → Except Nat (List Nd × List Tok.Tk)
 | lv, [], l => .error 17
 | lv, x :: r, l =>
  if ¬ (x.kind = 1 ∨ x.kind = 2 ∨ x.kind = 3) then .error 17
  else match lv with
   | 0 => .error 19
   | lv + 1 =>
    if x.kind = 2 then .ok (l ++ [⟨2, [], numOf x.text, []⟩], r)
    else if x.kind = 3 then .ok (l ++ [⟨3, x.text, 0, []⟩], r)
    else match r with
     | [] => .ok (l ++ [⟨1, x.text, 0, []⟩], r)
     | y :: r' =>
      if y.kind ≠ 4 then .ok (l ++ [⟨1, x.text, 0, []⟩], r)
      else match r' with
       | [] => .error 17
       | z :: r'' => if z.kind = 5 then .ok (l ++ [⟨4, x.text, 0, []⟩], r'') else argsP (argP lv) x.text r'.length [] r' l
def nodeS (nodeE : List UInt8 → Nat) (l : List Nd) (n : Nd) : Nat :=
 if n.kind = 1 then nodeE n.text
 else if n.kind = 4 then match kindsS n.text with
  | none => 15
  | some k => if fitK k (n.args.map fun a => letterS (l.getD a.toNat ⟨0, [], 0, []⟩)) = true then 0 else 18
 else 0
def checkS (nodeE : List UInt8 → Nat) (l : List Nd) : List Nd → Nat
 | [] => 0
 | n :: r => if nodeS nodeE l n = 0 then checkS nodeE l r else nodeS nodeE l n
def parseS (nodeE : List UInt8 → Nat) (s : List UInt8) : Except Nat (List Nd) := match Tok.split s with
 | .error e => .error e
 | .ok t => match t with
  | [] => .error 17
  | x :: _ => if x.kind ≠ 1 then .error 17 else match argP 12 t [] with
   | .error e => .error e
   | .ok (l, r) => if r ≠ [] then .error 17 else if checkS nodeE l l = 0 then .ok l else .error (checkS nodeE l l)
theorem isE (r : List UInt8) : r.isEmpty = decide (r = []) := by cases r <;> simp
theorem fit_S (args : List UInt8) : fitK [83] args = decide (args = [83]) := by
 cases args with
 | nil => rfl
 | cons a r => simp [fitK, fitS]; by_cases h : a = 83 <;> simp [h, isE]
theorem fit_N (args : List UInt8) : fitK [78] args = decide (args = [78]) := by
 cases args with
 | nil => rfl
 | cons a r => simp [fitK, fitS]; by_cases h : a = 78 <;> simp [h, isE]
theorem fit_SN (args : List UInt8) : fitK [83, 78] args = decide (args = [83, 78]) := by
 match args with
 | [] => rfl
 | [a] => simp [fitK, fitS]
 | a :: b :: r => simp [fitK, fitS]; by_cases h : a = 83 <;> by_cases h2 : b = 78 <;> simp [h, h2, isE]
theorem fit_Sn (args : List UInt8) : fitK [83, 110] args = (decide (args = [83]) || decide (args = [83, 78])) := by
 match args with
 | [] => rfl
 | [a] => simp [fitK, fitS]
 | a :: b :: r => simp [fitK, fitS]; by_cases h : a = 83 <;> by_cases h2 : b = 78 <;> simp [h, h2, isE]
theorem fit_SS (args : List UInt8) : fitK [83, 83] args = decide (args = [83, 83]) := by
 match args with
 | [] => rfl
 | [a] => simp [fitK, fitS]
 | a :: b :: r => simp [fitK, fitS]; by_cases h : a = 83 <;> by_cases h2 : b = 83 <;> simp [h, h2, isE]
theorem fit_ST (args : List UInt8) : fitK [83, 84] args = decide (args = [83, 84]) := by
 match args with
 | [] => rfl
 | [a] => simp [fitK, fitS]
 | a :: b :: r => simp [fitK, fitS]; by_cases h : a = 83 <;> by_cases h2 : b = 84 <;> simp [h, h2, isE]
theorem fit_SNN (args : List UInt8) : fitK [83, 78, 78] args = decide (args = [83, 78, 78]) := by
 match args with
 | [] => rfl
 | [a] => simp [fitK, fitS]
 | [a, b] => simp [fitK, fitS]
 | a :: b :: c :: r => simp [fitK, fitS]; by_cases h : a = 83 <;> by_cases h2 : b = 78 <;> by_cases h3 : c = 78 <;> simp [h, h2, h3, isE]
theorem fit_SNT (args : List UInt8) : fitK [83, 78, 84] args = decide (args = [83, 78, 84]) := by
 match args with
 | [] => rfl
 | [a] => simp [fitK, fitS]
 | [a, b] => simp [fitK, fitS]
 | a :: b :: c :: r => simp [fitK, fitS]; by_cases h : a = 83 <;> by_cases h2 : b = 78 <;> by_cases h3 : c = 84 <;> simp [h, h2, h3, isE]
theorem fit_SNt (args : List UInt8) : fitK [83, 78, 116] args = (decide (args = [83, 78]) || decide (args = [83, 78, 84])) := by
 match args with
 | [] => rfl
 | [a] => simp [fitK, fitS]
 | [a, b] => simp [fitK, fitS] <;> (try (by_cases h : a = 83 <;> by_cases h2 : b = 78 <;> simp [h, h2, isE]))
 | a :: b :: c :: r => simp [fitK, fitS]; by_cases h : a = 83 <;> by_cases h2 : b = 78 <;> by_cases h3 : c = 84 <;> simp [h, h2, h3, isE]
theorem fit_more (c : UInt8) (hc : ¬ 97 ≤ c) : ∀ (n : Nat) (args : List UInt8), args.length < n → fitS n [c, 43] args = (!args.isEmpty && args.all fun a => a == c)
 | 0, _, h => by omega
 | n + 1, [], _ => by simp [fitS, hc]
 | n + 1, a :: r, h => by
  have ih := fit_more c hc n r (by simp at h; omega)
  simp only [fitS, if_neg hc]
  by_cases ha : a = c
  ·subst ha
   simp only [ne_eq, not_true, if_false, if_true, ih]
   cases r <;> simp
  ·simp [ha]
theorem fit_Sp (args : List UInt8) : fitK [83, 43] args = (!args.isEmpty && args.all fun a => a == 83) := fit_more 83 (by decide) _ args (by simp; omega)
theorem fit_step (n : Nat) (k c : UInt8) (ks : List UInt8) (a : UInt8) (as_ : List UInt8) (hk : ¬ 97 ≤ k) (hc : c ≠ 43) : fitS (n + 1) (k :: c :: ks) (a :: as_) = if a ≠ k then false else fitS n (c :: ks) as_ := by
 rw [fitS]
 simp only [if_neg hk, if_neg hc]
theorem fit_SNp (args : List UInt8) : fitK [83, 78, 43] args = match args with
  | [] => false
  | a :: r => a == 83 && (!r.isEmpty && r.all fun a => a == 78) := by
 cases args with
 | nil => rfl
 | cons a r =>
  have := fit_more 78 (by decide) (r.length + 4) r (by omega)
  unfold fitK
  rw [show [83, 78, (43 : UInt8)].length + (a :: r).length + 1 = (r.length + 4) + 1 by simp; omega, fit_step _ _ _ _ _ _ (by decide) (by decide)]
  by_cases ha : a = 83
  ·subst ha
   rw [if_neg (by simp), this]; rfl
  ·rw [if_pos ha]
   have : (a == 83) = false := by simpa using ha
   simp only [this, Bool.false_and]
end Go.Tgt
end
section
namespace Go.Abs
def AccT (e size lo : Nat) (τ : Store) (v : AV) (l : List (List AV)) : Prop := (l = [] ∧ v = .nils) ∨ (l ≠ [] ∧ ∃ p, v = .row (lo + p) l.length ∧ τ[p]? = some (.row e size l true))
theorem AccT.more {e size lo : Nat} {τ : Store} {v : AV} {l : List (List AV)} (h : AccT e size lo τ v l) (x : Store) : AccT e size lo (τ ++ x) v l := by
 rcases h with h | ⟨h1, p, h2, h3⟩
 ·exact .inl h
 ·exact .inr ⟨h1, p, h2, by rw [List.getElem?_append_left (List.getElem?_eq_some_iff.1 h3).1]; exact h3⟩
theorem AccT.get {e size : Nat} {σ τ : Store} {v : AV} {l : List (List AV)} (h : AccT e size σ.length τ v l) : (l = [] ∧ v = .nils) ∨ (l ≠ [] ∧ ∃ id, σ.length ≤ id ∧ v = .row id l.length ∧ (σ ++ τ)[id]? = some (.row e size l true)) := by
 rcases h with h | ⟨h1, p, h2, h3⟩
 ·exact .inl h
 ·exact .inr ⟨h1, _, by omega, h2, by rw [List.getElem?_append_right (by omega), Nat.add_sub_cancel_left]; exact h3⟩
theorem AccT.coe {e size : Nat} {σ τ : Store} {v : AV} {l : List (List AV)} (h : AccT e size σ.length τ v l) (lend : Bool) : Coe (σ ++ τ) lend v (.lst l) := by
 rcases h.get with ⟨rfl, rfl⟩ | ⟨h1, id, _, rfl, h3⟩
 ·exact .nils
 ·exact .row id _ e size l true h3 rfl (.inl rfl)
theorem AccT.fin1 {e size : Nat} {σ τ : Store} {v : AV} {l : List (List AV)} (h : AccT e size σ.length τ v l) (m : Nat) : fin1 (σ ++ τ) m v = some (.lst l) := by
 rcases h.get with ⟨rfl, rfl⟩ | ⟨h1, id, _, rfl, h3⟩
 ·rfl
 ·simp [Abs.fin1, fz, h3]
theorem AccT.view {e size : Nat} {σ τ : Store} {v : AV} {l : List (List AV)} (h : AccT e size σ.length τ v l) : view (σ ++ τ) v = some l := by
 rcases h.get with ⟨rfl, rfl⟩ | ⟨h1, id, _, rfl, h3⟩
 ·rfl
 ·simp [Abs.view, h3]
theorem AccT.share {e size : Nat} {σ τ : Store} {v : AV} {l : List (List AV)} (h : AccT e size σ.length τ v l) : share1 (σ ++ τ) v = some (.lst l) := by
 rcases h.get with ⟨rfl, rfl⟩ | ⟨h1, id, _, rfl, h3⟩
 ·rfl
 ·simp [share1, h3]
theorem AccT.under {e size lo : Nat} {τ : Store} {v : AV} {l : List (List AV)} (h : AccT e size lo τ v l) {m : Nat} (hm : lo + τ.length ≤ m) : v.under m = true := by
 rcases h with ⟨_, rfl⟩ | ⟨_, p, rfl, h3⟩
 ·simp [AV.under]
 ·have := (List.getElem?_eq_some_iff.1 h3).1
  simp [AV.under]; omega
theorem AccT.finT {e size : Nat} {σ τ : Store} {v : AV} {l : List (List AV)} (h : AccT e size σ.length τ v l) (m : Nat) : Abs.finT (σ ++ τ) m v = some (.lst l) := by
 have h1 := h.fin1 m
 rcases h.get with ⟨_, rfl⟩ | ⟨_, id, _, rfl, _⟩ <;> exact h1
def joinB (J : Frame → Store → Prop) (_ : Tg J) (Q : AExit → Frame → Store → Prop) : AExit → Frame → Store → Prop
 | .normal, f, σ => jn J (.mk J) f (.mk f) σ
 | e, f, σ => Q e f σ
theorem joinB_normal {J : Frame → Store → Prop} {t : Tg J} {Q : AExit → Frame → Store → Prop} {f : Frame} {σ : Store} : joinB J t Q .normal f σ = jn J (.mk J) f (.mk f) σ := rfl
theorem joinB_ret {J : Frame → Store → Prop} {t : Tg J} {Q : AExit → Frame → Store → Prop} {f : Frame} {σ : Store} : joinB J t Q .ret f σ = Q .ret f σ := rfl
theorem joinB_exit {J : Frame → Store → Prop} {t : Tg J} {Q : AExit → Frame → Store → Prop} {f : Frame} {σ : Store} {i : Nat} : joinB J t Q (.exit i) f σ = Q (.exit i) f σ := rfl
attribute [simp ↓] joinB_normal joinB_ret joinB_exit
end Go.Abs
end
section
namespace Go.Abs
theorem under_le {m m' : Nat} (h : m ≤ m') : ∀ (v : AV), v.under m = true → v.under m' = true
 | .ptr id _, hv => by simp [AV.under] at hv ⊢; omega
 | .row id _, hv => by simp [AV.under] at hv ⊢; omega
 | .rowp id _ _ _ _, hv => by simp [AV.under] at hv ⊢; omega
 | .map id, hv => by simp [AV.under] at hv ⊢; omega
 | .sub id _ _ _ _, hv => by simp [AV.under] at hv ⊢; omega
 | .asl id _ _ _, hv => by simp [AV.under] at hv ⊢; omega
 | .fn g a b, hv => by
  simp only [AV.under, Bool.and_eq_true, List.all_eq_true] at hv ⊢
  exact ⟨fun x hx => under_le h x.1 (hv.1 x hx), fun x hx => under_le h x.1 (hv.2 x hx)⟩
 | .iface t v, hv => by
  simp only [AV.under] at hv ⊢
  exact under_le h v hv
 | .agg l, hv => by
  simp only [AV.under, List.all_eq_true] at hv ⊢
  exact fun x hx => under_le h x.1 (hv x hx)
 | .tup l, hv => by
  simp only [AV.under, List.all_eq_true] at hv ⊢
  exact fun x hx => under_le h x.1 (hv x hx)
 | .junk, _ => by simp [AV.under]
 | .int _ _, _ => by simp [AV.under]
 | .bool _, _ => by simp [AV.under]
 | .str _, _ => by simp [AV.under]
 | .flt _ _, _ => by simp [AV.under]
 | .nilp, _ => by simp [AV.under]
 | .rptr _, _ => by simp [AV.under]
 | .nils, _ => by simp [AV.under]
 | .lst _, _ => by simp [AV.under]
 | .nilm, _ => by simp [AV.under]
 | .nilf, _ => by simp [AV.under]
 | .nili, _ => by simp [AV.under]
 | .any _, _ => by simp [AV.under]
 | .gp _ _, _ => by simp [AV.under]
termination_by v _ => SizeOf.sizeOf v
decreasing_by
 all_goals simp_wf
 all_goals (first | omega | (have := List.sizeOf_lt_of_mem x.2; omega))
theorem eunder_le {m m' : Nat} (h : m ≤ m') : ∀ (e : Entry), e.under m = true → e.under m' = true
 | .dead _, _ => rfl
 | .var _ cells, he => by
  simp only [Entry.under, List.all_eq_true] at he ⊢
  exact fun x hx => under_le h x (he x hx)
 | .row _ _ els _, he => by
  simp only [Entry.under, List.all_eq_true] at he ⊢
  exact fun c hc x hx => under_le h x (he c hc x hx)
 | .mp kv, he => by
  simp only [Entry.under, List.all_eq_true] at he ⊢
  exact fun x hx => under_le h x.2 (he x hx)
structure Kept (σ₀ σ : Store) : Prop where
 len : σ₀.length ≤ σ.length
 und : ∀ (i : Nat) (e : Entry), σ[i]? = some e → σ₀[i]? = some e ∨ e.under σ.length = true
theorem Kept.refl (σ : Store) : Kept σ σ := ⟨Nat.le_refl _, fun _ _ h => .inl h⟩
theorem Kept.app {σ₀ σ : Store} (h : Kept σ₀ σ) {x : Entry} (hx : x.under (σ.length + 1) = true) : Kept σ₀ (σ ++ [x]) :=
 ⟨by have := h.len; simp; omega, fun i e he => by
  by_cases hi : i < σ.length
  ·rw [List.getElem?_append_left hi] at he
   exact (h.und i e he).imp id fun h2 => eunder_le (by simp) e h2
  ·rw [List.getElem?_append_right (by omega)] at he
   have := List.mem_of_getElem? he
   simp at this; subst this
   exact .inr (by simpa using hx)⟩
theorem Kept.set {σ₀ σ : Store} (h : Kept σ₀ σ) (i : Nat) {x : Entry} (hx : x.under σ.length = true) : Kept σ₀ (σ.set i x) :=
 ⟨by have := h.len; simpa using this, fun j e he => by
  by_cases hij : i = j
  ·subst hij
   by_cases hl : i < σ.length
   ·rw [List.getElem?_set_self hl] at he
    simp at he; subst he
    exact .inr (by simpa using hx)
   ·rw [List.getElem?_eq_none (by simp; omega)] at he; cases he
  ·rw [List.getElem?_set_ne hij] at he
   exact (h.und j e he).imp id fun h2 => by simpa using h2⟩
theorem Kept.trans {σ₀ σ₁ σ₂ : Store} (h : Kept σ₀ σ₁) (h' : Kept σ₁ σ₂) : Kept σ₀ σ₂ :=
 ⟨Nat.le_trans h.len h'.len, fun i e he => by
  rcases h'.und i e he with h1 | h1
  ·exact (h.und i e h1).imp id fun h2 => eunder_le h'.len e h2
  ·exact .inr h1⟩
def AccI (te size : Nat) (σ : Store) (v : AV) (l : List (List AV)) : Prop := (l = [] ∧ v = .nils) ∨ (l ≠ [] ∧ ∃ id, v = .row id l.length ∧ σ[id]? = some (.row te size l true))
theorem accI_nil {te size : Nat} {σ : Store} : AccI te size σ .nils [] := .inl ⟨rfl, rfl⟩
theorem AccI.keep {te size : Nat} {σ σ' : Store} {v : AV} {l : List (List AV)} (h : AccI te size σ v l) (hk : ∀ (i : Nat) (e : Entry), σ[i]? = some e → v = .row i l.length → σ'[i]? = some e) : AccI te size σ' v l := by
 rcases h with h | ⟨h1, id, h2, h3⟩
 ·exact .inl h
 ·exact .inr ⟨h1, id, h2, hk id _ h3 h2⟩
theorem AccI.view {te size : Nat} {σ : Store} {v : AV} {l : List (List AV)} (h : AccI te size σ v l) : view σ v = some l := by
 rcases h with ⟨rfl, rfl⟩ | ⟨h1, id, rfl, h3⟩
 ·rfl
 ·simp [Abs.view, h3]
theorem AccI.share {te size : Nat} {σ : Store} {v : AV} {l : List (List AV)} (h : AccI te size σ v l) : share1 σ v = some (.lst l) := by
 rcases h with ⟨rfl, rfl⟩ | ⟨h1, id, rfl, h3⟩
 ·rfl
 ·simp [share1, h3]
theorem AccI.coe {te size : Nat} {σ : Store} {v : AV} {l : List (List AV)} (h : AccI te size σ v l) (lend : Bool) : Coe σ lend v (.lst l) := by
 rcases h with ⟨rfl, rfl⟩ | ⟨h1, id, rfl, h3⟩
 ·exact .nils
 ·exact .row id _ te size l true h3 rfl (.inl rfl)
theorem AccI.fin1 {te size : Nat} {σ : Store} {v : AV} {l : List (List AV)} (h : AccI te size σ v l) (m : Nat) : Abs.fin1 σ m v = some (.lst l) := by
 rcases h with ⟨rfl, rfl⟩ | ⟨h1, id, rfl, h3⟩
 ·rfl
 ·simp [Abs.fin1, fz, h3]
theorem AccI.under {te size : Nat} {σ : Store} {v : AV} {l : List (List AV)} (h : AccI te size σ v l) : v.under σ.length = true := by
 rcases h with ⟨_, rfl⟩ | ⟨_, id, rfl, h3⟩
 ·simp [AV.under]
 ·have := (List.getElem?_eq_some_iff.1 h3).1
  simp [AV.under]; omega
theorem AccI.one {te size : Nat} {σ : Store} {v : AV} {l : List (List AV)} (h : AccI te size σ v l) : v.one = true ∧ v.cells = [v] := by
 rcases h with ⟨_, rfl⟩ | ⟨_, id, rfl, _⟩ <;> exact ⟨rfl, rfl⟩
theorem pure_underS (m : Nat) : ∀ (v : AV), v.pure = true → v.under m = true
 | .ptr _ _, hv => by simp [AV.pure] at hv
 | .row _ _, hv => by simp [AV.pure] at hv
 | .rowp _ _ _ _ _, hv => by simp [AV.pure] at hv
 | .map _, hv => by simp [AV.pure] at hv
 | .sub _ _ _ _ _, hv => by simp [AV.pure] at hv
 | .asl _ _ _ _, hv => by simp [AV.pure] at hv
 | .fn g a b, hv => by
  simp only [AV.pure, AV.under, Bool.and_eq_true, List.all_eq_true] at hv ⊢
  exact ⟨fun x hx => pure_underS m x.1 (hv.1 x hx), fun x hx => pure_underS m x.1 (hv.2 x hx)⟩
 | .iface t v, hv => by
  simp only [AV.pure, AV.under] at hv ⊢
  exact pure_underS m v hv
 | .agg l, hv => by
  simp only [AV.pure, AV.under, List.all_eq_true] at hv ⊢
  exact fun x hx => pure_underS m x.1 (hv x hx)
 | .tup l, hv => by
  simp only [AV.pure, AV.under, List.all_eq_true] at hv ⊢
  exact fun x hx => pure_underS m x.1 (hv x hx)
 | .junk, _ => by simp [AV.under]
 | .int _ _, _ => by simp [AV.under]
 | .bool _, _ => by simp [AV.under]
 | .str _, _ => by simp [AV.under]
 | .flt _ _, _ => by simp [AV.under]
 | .nilp, _ => by simp [AV.under]
 | .rptr _, _ => by simp [AV.under]
 | .nils, _ => by simp [AV.under]
 | .lst _, _ => by simp [AV.under]
 | .nilm, _ => by simp [AV.under]
 | .nilf, _ => by simp [AV.under]
 | .nili, _ => by simp [AV.under]
 | .any _, _ => by simp [AV.under]
 | .gp _ _, _ => by simp [AV.under]
termination_by v _ => SizeOf.sizeOf v
decreasing_by
 all_goals simp_wf
 all_goals (first | omega | (have := List.sizeOf_lt_of_mem x.2; omega))
theorem pure_under' {v : AV} (h : v.pure = true) (m : Nat) : v.under m = true := pure_underS m v h
theorem ap_accI {K : AV → Store → Prop} {t : Tg K} {te size bytes : Nat} {σ : Store} {v : AV} {l : List (List AV)} (h : AccI te size σ v l) (x : List AV) (hs : 0 < size) (hx : x.length = size) (hp : ∀ c ∈ l ++ [x], ∀ a ∈ c, a.pure = true) (hb : (l.length + 1) * bytes ≤ 140737488355328) (h63 : l.length + 1 ≤ 9223372036854775807)
  (hK : ∀ v' σ', AccI te size σ' v' (l ++ [x]) → Kept σ σ' → (∀ (i : Nat) (e : Entry), σ[i]? = some e → v ≠ .row i l.length → σ'[i]? = some e) → (∀ (i m : Nat), v' = .row i m → i < σ.length → v = .row i l.length) → K v' σ') : ap K t σ te size bytes v (.lst [x]) := by
 have hu : ∀ m, (Entry.row te size (l ++ [x]) true).under m = true := fun m => by
  simp only [Entry.under, List.all_eq_true]
  exact fun c hc a ha => pure_under' (hp c hc a ha) m
 rcases h with ⟨rfl, rfl⟩ | ⟨h1, id, rfl, h3⟩
 ·refine ap_new true [x] rfl hs (by simp [hx]) (fun _ => .inl rfl) (by simpa using hb) (by simp) ?_
  exact hK (.row σ.length 1) (σ ++ [.row te size [x] true]) (.inr ⟨by simp, σ.length, by simp, by simp⟩) ((Kept.refl σ).app (hu _)) (fun i e he _ => by rw [List.getElem?_append_left (List.getElem?_eq_some_iff.1 he).1]; exact he) fun i m hm hi => by cases hm; omega
 ·have hlt := (List.getElem?_eq_some_iff.1 h3).1
  refine ap_row l [x] true h3 rfl hs (by simp [hx]) (fun _ => .inl rfl) rfl (by simpa using hb) (by simpa using h63) ?_
  exact hK (.row id (l.length + 1)) (σ.set id (.row te size (l ++ [x]) true)) (.inr ⟨by simp, id, by simp, by simp [hlt]⟩) ((Kept.refl σ).set id (hu _)) (fun i e he hv => by
   have hne : id ≠ i := fun e => hv (by rw [e])
   rw [List.getElem?_set_ne hne]; exact he) fun i m hm _ => by cases hm; rfl
end Go.Abs
end
section
namespace Go.Proofs.YtalfhchbmhoagaaGreatDoor
open Go.Abs Go.Glob
variable {G : Globs}
theorem indexByte_ok (s : List UInt8) (c : UInt8) : PCalls Tryz.prog 61 [.str s, .int .u8 c.toNat] (fun r => r = .int .i64 (Lib.indexByte s c)) := by
 intro base κ Im w vs hs hv
 obtain ⟨v0, v1, rfl⟩ : ∃ v0 v1, vs = [v0, v1] := by
  match vs, hv.1 with
  | [a, b], _ => exact ⟨a, b, rfl⟩
 have e0 := (hv.2 0 (by simp) (by simp)).str_inv
 have e1 := (hv.2 1 (by simp) (by simp)).int_inv
 simp only [List.getElem_cons_zero, List.getElem_cons_succ] at e0 e1
 subst e0; subst e1
 refine (Tryz.strings_IndexByte ⟨s.toArray⟩ c.toNat w).mono ?_
 rintro e w' ⟨rfl, rfl⟩
 exact ⟨_, [], _, κ, Im, rfl, ⟨rfl, rfl⟩, hs, Grow.refl _ _ _ _, .im _ _ (by simpa using IR.int (Im := Im) (w := w') .i64 (Lib.indexByte s c))⟩
theorem nb_index (c : UInt8) : nb c = ((97 ≤ c && c ≤ 122) || (65 ≤ c && c ≤ 90) || (48 ≤ c && c ≤ 57) || decide (0 ≤ Lib.indexByte [95, 45, 58, 37, 35, 64, 43, 61] c)) := by
 unfold nb
 rw [Lib.contains_iff_indexByte]
theorem byte_ok (c : UInt8) : PCalls Tryz.prog n_glob_Byte [.int .u8 c.toNat] (fun r => r = .bool (nb c)) := by
 refine pcalls_of_awp hmix c_glob_Byte rfl ?_
 simp [a_glob_Byte]
 repeat' (first
  | (refine gd_dt (fun _ => ?_) (fun _ => ?_))
  | (refine cb_dec (fun _ => ?_) (fun _ => ?_))
  | (refine ac_same (indexByte_ok _ _) (by simp) ?_; rintro r rfl)
  | simp [*])
 all_goals (simp [nb_index, UInt8.le_iff_toNat_le]; omega)
theorem peek_some (s : List UInt8) (k : Nat) (c : UInt8) (bad depth deepest : AV) (h : s[k]? = some c) : PCalls Tryz.prog n_glob_parser_peek [.rptr [.str s, .int .i64 k, bad, depth, deepest]] (fun r => r = .tup [.int .u8 c.toNat, .bool true]) := by
 refine pcalls_of_awp hmix c_glob_parser_peek rfl ?_
 have hk : k < s.length := (List.getElem?_eq_some_iff.1 h).1
 simp [a_glob_parser_peek]
 refine cb_dec (fun hh => by omega) (fun _ => ?_)
 simp [h]
theorem peek_none (s : List UInt8) (k : Nat) (bad depth deepest : AV) (h : s.length ≤ k) : PCalls Tryz.prog n_glob_parser_peek [.rptr [.str s, .int .i64 k, bad, depth, deepest]] (fun r => r = .tup [.int .u8 0, .bool false]) := by
 refine pcalls_of_awp hmix c_glob_parser_peek rfl ?_
 simp [a_glob_parser_peek, h]
def strEls (l : List (List UInt8)) : List (List AV) := l.map fun s => [.str s]
end Go.Proofs.YtalfhchbmhoagaaGreatDoor
end
section
namespace Go.Glob
open Go.Abs
mutual
def encL : List Pc → List (List AV)
 | [] => []
 | .lit c :: l => [.int .i64 0, .int .u8 c.toNat, .lst [], .lst [], .str [c]] :: encL l
 | .q :: l => [.int .i64 1, .int .u8 0, .lst [], .lst [], .str [63]] :: encL l
 | .star :: l => [.int .i64 2, .int .u8 0, .lst [], .lst [], .str [42]] :: encL l
 | .cls rs t :: l => [.int .i64 3, .int .u8 0, .lst (rs.map fun r => [.int .u8 r.1.toNat, .int .u8 r.2.toNat]), .lst [], .str t] :: encL l
 | .br xs :: l => [.int .i64 4, .int .u8 0, .lst [], .lst (encA xs), .str []] :: encL l
def encA : List (List Pc) → List (List AV)
 | [] => []
 | a :: xs => [.lst (encL a)] :: encA xs
end
def Pc.kind : Pc → Nat
 | .lit _ => 0
 | .q => 1
 | .star => 2
 | .cls _ _ => 3
 | .br _ => 4
def Pc.low : Pc → UInt8
 | .lit c => c
 | _ => 0
def Pc.rs : Pc → List (UInt8 × UInt8)
 | .cls rs _ => rs
 | _ => []
def Pc.alts : Pc → List (List Pc)
 | .br xs => xs
 | _ => []
def encRg (rs : List (UInt8 × UInt8)) : List (List AV) := rs.map fun r => [.int .u8 r.1.toNat, .int .u8 r.2.toNat]
def Pc.enc (p : Pc) : List AV := [.int .i64 p.kind, .int .u8 p.low.toNat, .lst (encRg p.rs), .lst (encA p.alts), .str p.text]
theorem encL_cons (p : Pc) (l : List Pc) : encL (p :: l) = p.enc :: encL l := by
 cases p <;> simp [encL, Pc.enc, Pc.kind, Pc.low, Pc.rs, Pc.alts, Pc.text, encRg, encA]
theorem encL_map : ∀ l, encL l = l.map Pc.enc
 | [] => by simp [encL]
 | p :: l => by rw [encL_cons, encL_map l]; rfl
theorem encA_map : ∀ xs, encA xs = xs.map fun a => [AV.lst (encL a)]
 | [] => by simp [encA]
 | a :: xs => by simp [encA, encA_map xs]
theorem encL_length (l : List Pc) : (encL l).length = l.length := by simp [encL_map]
theorem encA_length (l : List (List Pc)) : (encA l).length = l.length := by simp [encA_map]
theorem encL_get {l : List Pc} {i : Nat} {p : Pc} (h : l[i]? = some p) : (encL l)[i]? = some p.enc := by simp [encL_map, h]
theorem encA_get {l : List (List Pc)} {i : Nat} {a : List Pc} (h : l[i]? = some a) : (encA l)[i]? = some [.lst (encL a)] := by simp [encA_map, h]
theorem enc_q : Pc.q.enc = [.int .i64 1, .int .u8 0, .lst [], .lst [], .str [63]] := by simp [Pc.enc, Pc.kind, Pc.low, Pc.rs, Pc.alts, Pc.text, encRg, encA]
theorem enc_star : Pc.star.enc = [.int .i64 2, .int .u8 0, .lst [], .lst [], .str [42]] := by simp [Pc.enc, Pc.kind, Pc.low, Pc.rs, Pc.alts, Pc.text, encRg, encA]
theorem enc_lit (c : UInt8) : (Pc.lit c).enc = [.int .i64 0, .int .u8 c.toNat, .lst [], .lst [], .str [c]] := by simp [Pc.enc, Pc.kind, Pc.low, Pc.rs, Pc.alts, Pc.text, encRg, encA]
theorem enc_cls (rs : List (UInt8 × UInt8)) (t : List UInt8) : (Pc.cls rs t).enc = [.int .i64 3, .int .u8 0, .lst (encRg rs), .lst [], .str t] := by simp [Pc.enc, Pc.kind, Pc.low, Pc.rs, Pc.alts, Pc.text, encA]
theorem enc_br (xs : List (List Pc)) : (Pc.br xs).enc = [.int .i64 4, .int .u8 0, .lst [], .lst (encA xs), .str []] := by simp [Pc.enc, Pc.kind, Pc.low, Pc.rs, Pc.alts, Pc.text, encRg]
end Go.Glob
namespace Go.Proofs.YtalfhchbmhoagaaGreatDoor
open Go.Abs Go.Glob
variable {G : Globs}
end Go.Proofs.YtalfhchbmhoagaaGreatDoor
end
section
namespace Go.Glob
mutual
def szL : List Pc → Nat
 | [] => 0
 | .lit _ :: l => 1 + szL l
 | .q :: l => 1 + szL l
 | .star :: l => 1 + szL l
 | .cls _ _ :: l => 1 + szL l
 | .br xs :: l => 1 + szA xs + szL l
def szA : List (List Pc) → Nat
 | [] => 0
 | a :: xs => 1 + szL a + szA xs
end
theorem szL_length : ∀ l, l.length ≤ szL l
 | [] => Nat.zero_le _
 | p :: l => by have := szL_length l; cases p <;> simp [szL] <;> omega
theorem szA_length : ∀ l, l.length ≤ szA l
 | [] => Nat.zero_le _
 | p :: l => by have := szA_length l; simp [szA]; omega
theorem szA_mem : ∀ {xs : List (List Pc)} {a : List Pc}, a ∈ xs → szL a < szA xs
 | b :: xs, a, h => by
  simp only [szA]
  rcases List.mem_cons.1 h with rfl | h
  ·omega
  ·have := szA_mem h; omega
theorem szL_mem : ∀ {l : List Pc} {xs : List (List Pc)}, Pc.br xs ∈ l → szA xs < szL l
 | p :: l, xs, h => by
  rcases List.mem_cons.1 h with rfl | h
  ·simp [szL]; omega
  ·have := szL_mem h
   cases p <;> simp [szL] <;> omega
mutual
theorem cnt_le : ∀ (l : List Pc) (n : Nat), n ≤ 65 → cnt n l ≤ 65
 | [], n, h => by simpa [cnt] using h
 | .br xs :: l, n, _ => by simp only [cnt]; exact cnt_le l _ (Nat.min_le_left _ _)
 | .lit _ :: l, n, h => by simp only [cnt]; exact cnt_le l n h
 | .q :: l, n, h => by simp only [cnt]; exact cnt_le l n h
 | .star :: l, n, h => by simp only [cnt]; exact cnt_le l n h
 | .cls _ _ :: l, n, h => by simp only [cnt]; exact cnt_le l n h
theorem cntA_le : ∀ (l : List (List Pc)) (n : Nat), n ≤ 65 → cntA n l ≤ 65
 | [], n, h => by simpa [cntA] using h
 | a :: l, n, _ => by simp only [cntA]; exact cntA_le l _ (Nat.min_le_left _ _)
end
theorem cnt_other {p : Pc} (h : p.kind ≠ 4) (n : Nat) (l : List Pc) : cnt n (p :: l) = cnt n l := by
 cases p <;> simp_all [cnt, Pc.kind]
theorem kind4 {p : Pc} (h : p.kind = 4) : p = .br p.alts := by
 cases p <;> simp_all [Pc.kind, Pc.alts]
mutual
def neL : List Pc → Prop
 | [] => True
 | .lit _ :: l => neL l
 | .q :: l => neL l
 | .star :: l => neL l
 | .cls _ _ :: l => neL l
 | .br xs :: l => xs ≠ [] ∧ neA xs ∧ neL l
def neA : List (List Pc) → Prop
 | [] => True
 | a :: xs => neL a ∧ neA xs
end
theorem pcs_size : ∀ (n : Nat), (∀ (s : List UInt8) (l : List Pc) (r : List UInt8) (d : Nat), pcs n s = some (l, r, d) → szL l + r.length ≤ s.length ∧ neL l) ∧
  (∀ (s : List UInt8) (l : List (List Pc)) (r : List UInt8) (d : Nat), alts n s = some (l, r, d) → szA l + r.length ≤ s.length ∧ l ≠ [] ∧ neA l) := by
 intro n
 induction n with
 | zero => exact ⟨fun s l r d h => by simp [pcs] at h, fun s l r d h => by simp [alts] at h⟩
 | succ n ih =>
  obtain ⟨ihp, iha⟩ := ih
  refine ⟨fun s l r d h => ?_, fun s l r d h => ?_⟩
  ·cases s with
   | nil =>
    simp only [pcs, Option.some.injEq, Prod.mk.injEq] at h
    obtain ⟨rfl, rfl, rfl⟩ := h
    simp [szL, neL]
   | cons c s =>
    by_cases h1 : c = 44 ∨ c = 125
    ·rw [pcs_stop h1] at h
     simp only [Option.some.injEq, Prod.mk.injEq] at h
     obtain ⟨rfl, rfl, rfl⟩ := h
     simp [szL, neL]
    by_cases h2 : c = 63
    ·subst h2
     rw [pcs_q] at h
     simp only [Option.map_eq_some_iff, Prod.mk.injEq] at h
     obtain ⟨⟨l', r', d'⟩, hv, rfl, rfl, rfl⟩ := h
     have := ihp _ _ _ _ hv
     simp only [szL, neL, List.length_cons]; exact ⟨by omega, this.2⟩
    by_cases h3 : c = 42
    ·subst h3
     rw [pcs_star] at h
     simp only [Option.map_eq_some_iff, Prod.mk.injEq] at h
     obtain ⟨⟨l', r', d'⟩, hv, rfl, rfl, rfl⟩ := h
     have := ihp _ _ _ _ hv
     simp only [szL, neL, List.length_cons]; exact ⟨by omega, this.2⟩
    by_cases h4 : c = 91
    ·subst h4
     rw [pcs_cls] at h
     simp only [Option.bind_eq_some_iff, Option.map_eq_some_iff, Prod.mk.injEq] at h
     obtain ⟨⟨rs, r1⟩, hc, ⟨l', r', d'⟩, hv, rfl, rfl, rfl⟩ := h
     have := ihp _ _ _ _ hv
     obtain ⟨b, rfl, _⟩ := cls_local _ _ _ _ _ hc
     simp only [szL, neL, List.length_cons, List.length_append] at this ⊢; exact ⟨by omega, this.2⟩
    by_cases h5 : c = 123
    ·subst h5
     rw [pcs_br] at h
     simp only [Option.bind_eq_some_iff, Option.map_eq_some_iff, Prod.mk.injEq] at h
     obtain ⟨⟨xs, r1, d1⟩, hc, ⟨l', r', d'⟩, hv, rfl, rfl, rfl⟩ := h
     have h1 := ihp _ _ _ _ hv
     have h2 := iha _ _ _ _ hc
     simp only [szL, neL, List.length_cons] at h1 h2 ⊢; exact ⟨by omega, h2.2.1, h2.2.2, h1.2⟩
    by_cases h6 : nb c = true
    ·rw [pcs_lit h6] at h
     simp only [Option.map_eq_some_iff, Prod.mk.injEq] at h
     obtain ⟨⟨l', r', d'⟩, hv, rfl, rfl, rfl⟩ := h
     have := ihp _ _ _ _ hv
     simp only [szL, neL, List.length_cons]; exact ⟨by omega, this.2⟩
    ·rw [pcs_no h1 h2 h3 h4 h5 (by simpa using h6)] at h
     cases h
  ·rw [alts_step] at h
   simp only [Option.bind_eq_some_iff] at h
   obtain ⟨⟨l', r', d'⟩, hv, h⟩ := h
   have h1 := ihp _ _ _ _ hv
   dsimp only at h
   split at h
   ·cases h
   ·split at h
    ·simp only [Option.some.injEq, Prod.mk.injEq] at h
     obtain ⟨rfl, rfl, rfl⟩ := h
     simp only [szA, neA, List.length_cons] at h1 ⊢
     exact ⟨by omega, by simp, h1.2, trivial⟩
    ·simp only [Option.map_eq_some_iff, Prod.mk.injEq] at h
     obtain ⟨⟨xs, r2, d2⟩, hw, rfl, rfl, rfl⟩ := h
     have h2 := iha _ _ _ _ hw
     simp only [szA, neA, List.length_cons] at h1 h2 ⊢
     exact ⟨by omega, by simp, h1.2, h2.2.2⟩
end Go.Glob
namespace Go.Proofs.YtalfhchbmhoagaaGreatDoor
open Go.Abs Go.Glob
variable {G : Globs}
theorem count_ok : ∀ (N : Nat) (l : List Pc), szL l ≤ N → N ≤ 1000000000000 → PCalls Tryz.prog n_glob_count [.lst (encL l)] (fun r => r = .int .i64 (cnt 1 l)) := by
 intro N
 induction N using Nat.strongRecOn with
 | _ N ih =>
 intro l hl hN
 have hll := szL_length l
 refine pcalls_of_awp hmix c_glob_count rfl ?_
 simp [a_glob_count, encL_length]
 refine lp_start (fun n f σ => ∃ i acc : Nat, n = l.length - i ∧ i ≤ l.length ∧ f 9 = .lst (encL l) ∧ f 10 = .int .i64 l.length ∧ f 11 = .int .i64 i ∧ f 3 = .int .i64 acc ∧ acc ≤ 65 ∧ cnt acc (l.drop i) = cnt 1 l) l.length ⟨0, 1, by simp⟩ ?_
 rintro n f σ ⟨i, acc, rfl, hi, h9, h10, h11, h3, hacc, hc⟩
 simp [h10, h11]
 refine cb_dec (fun hlt => ?_) (fun hge => ?_)
 ·have hlt' : i < l.length := by omega
  obtain ⟨p, hp⟩ : ∃ p, l[i]? = some p := ⟨_, List.getElem?_eq_getElem hlt'⟩
  have hm : p ∈ l := List.mem_of_getElem? hp
  have hdrop := drop_cons hp
  simp [h9, h11, encL_get hp, Pc.enc]
  by_cases hk : p.kind = 4
  ·have hp4 := kind4 hk
   have hsz := szL_mem (hp4 ▸ hm)
   have hal := szA_length p.alts
   simp [hk, encA_length]
   refine lp_start (fun n f σ => ∃ k sum : Nat, n = p.alts.length - k ∧ k ≤ p.alts.length ∧ f 9 = .lst (encL l) ∧ f 10 = .int .i64 l.length ∧ f 11 = .int .i64 i ∧ f 3 = .int .i64 acc ∧ f 19 = .lst (encA p.alts) ∧ f 20 = .int .i64 p.alts.length ∧ f 21 = .int .i64 k ∧ f 6 = .int .i64 sum ∧ sum ≤ 65 ∧ cntA sum (p.alts.drop k) = cntA 0 p.alts) p.alts.length ⟨0, 0, by simp [h9, h10, h11, h3]⟩ ?_
   clear h9 h10 h11 h3
   rintro n f σ ⟨k, sum, rfl, hk, h9, h10, h11, h3, h19, h20, h21, h6, hsum, hcs⟩
   simp [h20, h21]
   refine cb_dec (fun hlt => ?_) (fun hge => ?_)
   ·have hlt2 : k < p.alts.length := by omega
    obtain ⟨a, ha⟩ : ∃ a, p.alts[k]? = some a := ⟨_, List.getElem?_eq_getElem hlt2⟩
    have ham : a ∈ p.alts := List.mem_of_getElem? ha
    have has := szA_mem ham
    have hd2 := drop_cons ha
    have hcl := cnt_le a 1 (by omega)
    simp [h19, h21, h6, encA_get ha]
    refine ac_same (ih (szL a) (by omega) a (Nat.le_refl _) (by omega)) (by simp) ?_
    rintro r rfl
    simp [h21, h9, h10, h11, h3, h19, h20]
    rw [hd2] at hcs
    simp only [cntA] at hcs
    refine ⟨_, ?_, k + 1, rfl, by omega, by rw [wrap_i64 (by omega) (by omega)]; simp, min 65 (sum + cnt 1 a), ?_, Nat.min_le_left _ _, hcs⟩
    ·omega
    ·rw [wrap_i64 (by omega) (by omega)]
     split <;> omega
   ·have e : p.alts.drop k = [] := List.drop_eq_nil_of_le (by omega)
    rw [e] at hcs
    simp only [cntA] at hcs
    have hb : (acc : Int) * sum ≤ 65 * 65 := by
     have : acc * sum ≤ 65 * 65 := Nat.mul_le_mul hacc hsum
     exact_mod_cast this
    have hb0 : (0 : Int) ≤ (acc : Int) * sum := by exact_mod_cast Nat.zero_le (acc * sum)
    simp [h3, h6, h9, h10, h11]
    rw [hdrop, hp4] at hc
    simp only [cnt] at hc
    rw [← hcs] at hc
    refine ⟨_, ?_, i + 1, rfl, by omega, by rw [wrap_i64 (by omega) (by omega)]; simp, min 65 (acc * sum), ?_, Nat.min_le_left _ _, hc⟩
    ·omega
    ·rw [wrap_i64 (by omega) (by omega)]
     have : ((acc * sum : Nat) : Int) = (acc : Int) * sum := by simp
     split <;> omega
  ·have hk1 : ¬ ((p.kind : Int) = 4) := by omega
   simp [hk1, h9, h10, h11, h3]
   rw [hdrop, cnt_other hk] at hc
   refine ⟨_, ?_, i + 1, rfl, by omega, by rw [wrap_i64 (by omega) (by omega)]; simp, acc, rfl, hacc, hc⟩
   omega
 ·have e : l.drop i = [] := List.drop_eq_nil_of_le (by omega)
  rw [e] at hc
  simp [h3]
  simp [cnt] at hc
  rw [hc]
end Go.Proofs.YtalfhchbmhoagaaGreatDoor
end
section
namespace Go.Proofs.YtalfhchbmhoagaaGreatDoor
open Go.Abs Go.Glob
variable {G : Globs}
def PV (text : List UInt8) (k : Nat) (bad : Bool) (depth deepest : Int) : Entry := .var 208 [.str text, .int .i64 k, .bool bad, .int .i64 depth, .int .i64 deepest]
theorem PV_under (text : List UInt8) (k : Nat) (bad : Bool) (depth deepest : Int) (m : Nat) : (PV text k bad depth deepest).under m = true := by simp [PV, Entry.under]
theorem set_get {σ : Store} {id : Nat} (hid : id < σ.length) (e : Entry) (l : Store) : (σ.set id e ++ l)[id]? = some e := by
 rw [List.getElem?_append_left (by simpa using hid)]; simp [hid]
theorem set_get' {σ : Store} {id : Nat} (hid : id < σ.length) (e : Entry) : (σ.set id e)[id]? = some e := by simp [hid]
theorem set_set {σ : Store} {id : Nat} (hid : id < σ.length) (e e' : Entry) (l : Store) : (σ.set id e ++ l).set id e' = σ.set id e' ++ l := by
 rw [List.set_append_left _ _ (by simpa using hid), List.set_set]
theorem get_0 {σ : Store} (id : Nat) (e a : Entry) (l : Store) : (σ.set id e ++ a :: l)[σ.length]? = some a := by
 rw [List.getElem?_append_right (by simp)]; simp
theorem get_1 {σ : Store} (id : Nat) (e a b : Entry) (l : Store) : (σ.set id e ++ a :: b :: l)[σ.length + 1]? = some b := by
 rw [List.getElem?_append_right (by simp)]; simp
theorem set_0 {σ : Store} (id : Nat) (e a a' : Entry) (l : Store) : (σ.set id e ++ a :: l).set σ.length a' = σ.set id e ++ a' :: l := by
 rw [List.set_append_right _ _ (by simp)]; simp
theorem set_1 {σ : Store} (id : Nat) (e a b b' : Entry) (l : Store) : (σ.set id e ++ a :: b :: l).set (σ.length + 1) b' = σ.set id e ++ a :: b' :: l := by
 rw [List.set_append_right _ _ (by simp)]; simp
theorem class_ok {σ : Store} {id : Nat} (hid : id < σ.length) (text : List UInt8) (at_ : Nat) (depth deepest : Int) (h1 : 1 ≤ at_) (h2 : at_ ≤ text.length) (h3 : text.length ≤ 1000000) (n : Nat) (hn : text.length - at_ < n) :
  ACalls Tryz.prog n_glob_parser_class [.ptr id 0] (σ.set id (PV text at_ false depth deepest)) (fun r σ' =>
   match cls n false (text.drop at_) with
   | some (rs, r') => r = .agg (Pc.cls rs ((text.drop (at_ - 1)).take (text.length - at_ + 1 - r'.length))).enc ∧ σ' = σ.set id (PV text (text.length - r'.length) false depth deepest)
   | none => ∃ rs k, k ≤ text.length ∧ r = .agg (Pc.cls rs []).enc ∧ σ' = σ.set id (PV text k true depth deepest)) := by
 refine acalls_of_awp_e hmix c_glob_parser_class rfl ?_
 have g0 := @set_get σ id hid
 have g00 := @set_get' σ id hid
 have q0 := @set_set σ id hid
 have hw1 : IntKind.i64.wrap ((at_ : Int) - 1) = (at_ : Int) - 1 := wrap_i64 (by omega) (by omega)
 simp [a_glob_parser_class, g0, g00, PV, hw1, get_0, get_1, set_0, set_1]
 refine lp_startx (fun x f σ' => ∃ (k : Nat) (rs : List (UInt8 × UInt8)) (m : Nat), x = text.length - k ∧ at_ ≤ k ∧ k ≤ text.length ∧ text.length - k < m ∧ rs.length ≤ k ∧
  cls n false (text.drop at_) = ((cls m (!rs.isEmpty) (text.drop k)).map fun x => (rs ++ x.1, x.2)) ∧ f 0 = .ptr id 0 ∧ f 2 = .ptr σ.length 0 ∧ f 3 = .int .i64 ((at_ : Int) - 1) ∧ f 4 = .ptr (σ.length + 1) 0 ∧
  σ' = σ.set id (PV text k false depth deepest) ++ .var 230 [.int .i64 0, .int .u8 0, .nils, .nils, .str []] :: .var 230 [.int .i64 3, .int .u8 0, rowV (σ.length + 2) (encRg rs), .nils, .str []] :: rowE 236 2 (encRg rs) true) (text.length - at_) ?_ ?_
 ·refine ⟨at_, [], n, rfl, Nat.le_refl _, h2, hn, by simp, ?_, ?_⟩
  ·simp
  ·simp [PV, encRg, rowV, rowE]
 ·rintro x f σ' ⟨k, rs, m, rfl, hk1, hk2, hm, hrk, hcls, h0, h2, h3', h4, rfl⟩
  have hview : ∀ e a b, view (σ.set id e ++ a :: b :: rowE 236 2 (encRg rs) true) (rowV (σ.length + 2) (encRg rs)) = some (encRg rs) := fun e a b => by
   have := view_acc (σ := σ.set id e ++ [a, b]) (e := 236) (size := 2) (l := encRg rs) (im := true)
   simpa using this
  have hfin : ∀ e a b, fin1 (σ.set id e ++ a :: b :: rowE 236 2 (encRg rs) true) σ.length (rowV (σ.length + 2) (encRg rs)) = some (.lst (encRg rs)) := fun e a b => by
   have := fin1_acc (σ := σ.set id e ++ [a, b]) (e := 236) (size := 2) (l := encRg rs) (m := σ.length)
   simpa using this
  simp [h0]
  by_cases hlt : k < text.length
  ·have hlt' : k < text.length := hlt
   obtain ⟨c, hc⟩ : ∃ c, text[k]? = some c := ⟨_, List.getElem?_eq_getElem hlt⟩
   have hd := drop_cons hc
   have hrs : (encRg rs).length = rs.length := by simp [encRg]
   obtain ⟨m, rfl⟩ : ∃ j, m = j + 1 := ⟨m - 1, by omega⟩
   refine ac_lent (peek_some text k c _ _ _ hc) (.cons (coe_ptr (g0 _ _) (by simp) rfl) .nil) ?_
   rintro r rfl
   refine ⟨by simp, ?_⟩
   have hwk : IntKind.i64.wrap ((k : Int) + 1) = (k : Int) + 1 := wrap_i64 (by omega) (by omega)
   have hw2 : IntKind.i64.wrap ((k : Int) + 1 + 1) = (k : Int) + 1 + 1 := wrap_i64 (by omega) (by omega)
   have ht2 : ((k : Int) + 1 + 1).toNat = k + 1 + 1 := by omega
   have hp1 : (0 : Int) ≤ (k : Int) + 1 := by omega
   have hp2 : (0 : Int) ≤ (k : Int) + 1 + 1 := by omega
   have hw3 : IntKind.i64.wrap ((k : Int) + 1 + 2) = (k : Int) + 3 := by rw [wrap_i64 (by omega) (by omega)]; omega
   rw [hd] at hcls
   by_cases hc1 : c = 93 ∧ rs ≠ []
   ·obtain ⟨rfl, hr0⟩ := hc1
    have hpos : 0 < rs.length := List.length_pos_iff.2 hr0
    have f1 : (0 : Int) ≤ (k : Int) + 1 := by omega
    have f2 : (1 : Int) ≤ (at_ : Int) := by omega
    have f3 : k + 1 ≤ text.length := by omega
    have f4 : at_ ≤ k + 1 + 1 := by omega
    simp [h0, g0, q0, PV, h4, h2, h3', get_1, set_0, get_0, set_1, hview, hrs, hpos, hwk, f1, f2, f3, f4]
    refine er_set id (PV text (k + 1) false depth deepest) (.agg (Pc.cls rs ((text.drop (at_ - 1)).take (text.length - at_ + 1 - (text.length - (k + 1))))).enc) (.var 230 [.int .i64 3, .int .u8 0, rowV (σ.length + 2) (encRg rs), .nils, .str ((text.take (k + 1)).drop (at_ - 1))] :: .var 230 [.int .i64 3, .int .u8 0, rowV (σ.length + 2) (encRg rs), .nils, .str ((text.take (k + 1)).drop (at_ - 1))] :: rowE 236 2 (encRg rs) true) ?_ ?_ ?_ ?_
    ·simp [retAt, a_glob_parser_class, h2, get_0, hfin, Pc.enc, Pc.kind, Pc.low, Pc.rs, Pc.alts, Pc.text, encA]
     rw [List.drop_take]
     congr 1
     omega
    ·rfl
    ·exact PV_under _ _ _ _ _ _
    ·rw [hcls]
     have : (!rs.isEmpty) = true := by simpa using hr0
     simp only [cls, this, and_self, if_true, Option.map_some, List.append_nil, List.length_drop]
     have e : text.length - (text.length - (k + 1)) = k + 1 := by omega
     simp [PV, e]
   ·have hst : ∀ e a b l, σ.set id e ++ a :: b :: l = (σ.set id e ++ [a, b]) ++ l := fun e a b l => by simp
    have hap : ∀ {K : AV → Store → Prop} {t : Tg K} {e a b : Entry} (c h : UInt8), K (rowV (σ.length + 2) (encRg (rs ++ [(c, h)]))) (σ.set id e ++ a :: b :: rowE 236 2 (encRg (rs ++ [(c, h)])) true) →
      ap K t (σ.set id e ++ a :: b :: rowE 236 2 (encRg rs) true) 236 2 2 (rowV (σ.length + 2) (encRg rs)) (.lst [[.int .u8 c.toNat, .int .u8 h.toNat]]) := by
     intro K t e a b c h hK
     have e1 : encRg (rs ++ [(c, h)]) = encRg rs ++ [[.int .u8 c.toNat, .int .u8 h.toNat]] := by simp [encRg]
     rw [hst, e1] at hK
     rw [hst]
     exact ap_acc_at (by simp) (encRg rs) [[.int .u8 c.toNat, .int .u8 h.toNat]] true (by omega) (by simp) (by simp) (by simp [hrs]; omega) (by simp [hrs]; omega) hK
    have hne : ¬ (c = 93 ∧ (!rs.isEmpty) = true) := fun h => hc1 ⟨h.1, by simpa using h.2⟩
    by_cases h93 : c = 93
    ·have hr0 : rs = [] := Classical.byContradiction fun h => hc1 ⟨h93, h⟩
     subst hr0
     have hnb : nb c = false := by rw [h93]; decide
     subst h93
     simp [h0, g0, q0, PV, h4, h2, h3', get_1, set_0, get_0, set_1, hview, hrs]
     refine ac_same (byte_ok 93) (by simp) ?_
     rintro r rfl
     simp [h0, g0, q0, PV, h4, h2, h3', get_1, set_0, get_0, set_1, hnb]
     refine er_set id (PV text k true depth deepest) (.agg (Pc.cls [] []).enc) (.var 230 [.int .i64 3, .int .u8 0, rowV (σ.length + 2) (encRg []), .nils, .str []] :: .var 230 [.int .i64 3, .int .u8 0, rowV (σ.length + 2) (encRg []), .nils, .str []] :: rowE 236 2 (encRg []) true) ?_ ?_ ?_ ?_
     ·simp [retAt, a_glob_parser_class, h2, get_0, hfin, Pc.enc, Pc.kind, Pc.low, Pc.rs, Pc.alts, Pc.text, encA]
     ·rfl
     ·exact PV_under _ _ _ _ _ _
     ·rw [hcls, cls_no hne hnb]
      exact ⟨[], k, hk2, rfl, rfl⟩
    ·have h93' : ¬ ((c.toNat : Int) = 93) := fun h => h93 (UInt8.toNat_inj.1 (show c.toNat = 93 by omega))
     simp [h0, g0, q0, PV, h4, h2, h3', get_1, set_0, get_0, set_1, hview, hrs, h93']
     refine ac_same (byte_ok c) (by simp) ?_
     rintro r rfl
     by_cases hnb : nb c = true
     ·simp [h0, g0, q0, PV, h4, h2, h3', get_1, set_0, get_0, set_1, hnb, hwk, hw2, hw3, hp1, hp2, ht2]
      by_cases hk2' : k + 2 < text.length
      ·obtain ⟨d, hdd⟩ : ∃ d, text[k + 1]? = some d := ⟨_, List.getElem?_eq_getElem (by omega)⟩
       obtain ⟨h, hhh⟩ : ∃ h, text[k + 1 + 1]? = some h := ⟨_, List.getElem?_eq_getElem (by omega)⟩
       have hd2 : text.drop (k + 1) = d :: h :: text.drop (k + 3) := by rw [drop_cons hdd, drop_cons hhh]
       have hk3 : (k : Int) + 1 + 1 < text.length := by omega
       simp [h0, g0, q0, PV, h4, h2, h3', get_1, set_0, get_0, set_1, hnb, hwk, hw2, hw3, hp1, hp2, ht2, hk3, hdd]
       by_cases h45 : d = 45
       ·have h45' : (d.toNat : Int) = 45 := by rw [h45]; rfl
        simp [h0, g0, q0, PV, h4, h2, h3', get_1, set_0, get_0, set_1, hnb, hwk, hw2, hw3, hp1, hp2, ht2, h45', hhh]
        refine qc_same (byte_ok h) (by simp) (by simp) ?_
        by_cases hnh : nb h = true
        ·have hr : rng (text.drop (k + 1)) = some (h, text.drop (k + 3)) := by rw [hd2]; simp [rng, h45, hnh]
         simp [h0, g0, q0, PV, h4, h2, h3', get_1, set_0, get_0, set_1, hnb, hwk, hw2, hw3, hp1, hp2, ht2, h45', hnh, hhh]
         by_cases hlt2 : h < c
         ·have hlt3 : h.toNat < c.toNat := UInt8.lt_iff_toNat_lt.1 hlt2
          have hlt3' : (h.toNat : Int) < c.toNat := by omega
          simp [h0, g0, q0, PV, h4, h2, h3', get_1, set_0, get_0, set_1, hnb, hwk, hw2, hw3, hp1, hp2, ht2, h45', hhh, hlt3, hlt3']
          refine er_set id (PV text (k + 3) true depth deepest) (.agg (Pc.cls rs []).enc) (.var 230 [.int .i64 3, .int .u8 0, rowV (σ.length + 2) (encRg rs), .nils, .str []] :: .var 230 [.int .i64 3, .int .u8 0, rowV (σ.length + 2) (encRg rs), .nils, .str []] :: rowE 236 2 (encRg rs) true) ?_ ?_ ?_ ?_
          ·simp [retAt, a_glob_parser_class, h2, get_0, hfin, Pc.enc, Pc.kind, Pc.low, Pc.rs, Pc.alts, Pc.text, encA]
          ·simp [PV]
          ·exact PV_under _ _ _ _ _ _
          ·rw [hcls, cls_step hne hnb, hr]
           simp only [if_pos hlt2]
           exact ⟨rs, k + 3, by omega, rfl, rfl⟩
         ·have hlt3 : ¬ h.toNat < c.toNat := fun hx => hlt2 (UInt8.lt_iff_toNat_lt.2 hx)
          have hlt3' : ¬ (h.toNat : Int) < c.toNat := by omega
          simp [h0, g0, q0, PV, h4, h2, h3', get_1, set_0, get_0, set_1, hnb, hwk, hw2, hw3, hp1, hp2, ht2, h45', hhh, hlt3, hlt3']
          refine hap c h ?_
          simp [h0, g0, q0, PV, h4, h2, h3', get_1, set_0, get_0, set_1, hnb, hwk, hw2, hw3, hp1, hp2, ht2, h45']
          refine nx_intro (text.length - (k + 3)) (by omega) ⟨k + 3, rs ++ [(c, h)], m, rfl, by omega, by omega, by omega, by simp; omega, ?_, by simp [h0], by simp [h2], by simp [h3'], by simp [h4], by simp [PV]⟩
          rw [hcls, cls_step hne hnb, hr]
          have hq : (!(rs ++ [(c, h)]).isEmpty) = true := by simp
          rw [hq]
          simp only [if_neg hlt2]
          cases cls m true (text.drop (k + 3)) <;> simp
        ·have hr : rng (text.drop (k + 1)) = none := by rw [hd2]; simp [rng, hnh]
         simp [h0, g0, q0, PV, h4, h2, h3', get_1, set_0, get_0, set_1, hnb, hwk, hw2, hw3, hp1, hp2, ht2, h45', hnh]
         refine hap c c ?_
         simp [h0, g0, q0, PV, h4, h2, h3', get_1, set_0, get_0, set_1, hnb, hwk, hw2, hw3, hp1, hp2, ht2, h45']
         refine nx_intro (text.length - (k + 1)) (by omega) ⟨k + 1, rs ++ [(c, c)], m, rfl, by omega, by omega, by omega, by simp; omega, ?_, by simp [h0], by simp [h2], by simp [h3'], by simp [h4], by simp [PV]⟩
         rw [hcls, cls_step hne hnb, hr]
         have hq : (!(rs ++ [(c, c)]).isEmpty) = true := by simp
         rw [hq]
         cases cls m true (text.drop (k + 1)) <;> simp
       ·have h45' : ¬ (d.toNat : Int) = 45 := fun hx => h45 (UInt8.toNat_inj.1 (show d.toNat = 45 by omega))
        have hr : rng (text.drop (k + 1)) = none := by rw [hd2]; simp [rng, h45]
        simp [h0, g0, q0, PV, h4, h2, h3', get_1, set_0, get_0, set_1, hnb, hwk, hw2, hw3, hp1, hp2, ht2, h45']
        refine hap c c ?_
        simp [h0, g0, q0, PV, h4, h2, h3', get_1, set_0, get_0, set_1, hnb, hwk, hw2, hw3, hp1, hp2, ht2]
        refine nx_intro (text.length - (k + 1)) (by omega) ⟨k + 1, rs ++ [(c, c)], m, rfl, by omega, by omega, by omega, by simp; omega, ?_, by simp [h0], by simp [h2], by simp [h3'], by simp [h4], by simp [PV]⟩
        rw [hcls, cls_step hne hnb, hr]
        have hq : (!(rs ++ [(c, c)]).isEmpty) = true := by simp
        rw [hq]
        cases cls m true (text.drop (k + 1)) <;> simp
      ·have hr : rng (text.drop (k + 1)) = none := by
        have hl : (text.drop (k + 1)).length ≤ 1 := by simp; omega
        match text.drop (k + 1), hl with
        | [], _ => rfl
        | [_], _ => rfl
       have hk3 : ¬ (k : Int) + 1 + 1 < text.length := by omega
       simp [h0, g0, q0, PV, h4, h2, h3', get_1, set_0, get_0, set_1, hnb, hwk, hw2, hw3, hp1, hp2, ht2, hk3]
       refine hap c c ?_
       simp [h0, g0, q0, PV, h4, h2, h3', get_1, set_0, get_0, set_1, hnb, hwk, hw2, hw3, hp1, hp2, ht2]
       refine nx_intro (text.length - (k + 1)) (by omega) ⟨k + 1, rs ++ [(c, c)], m, rfl, by omega, by omega, by omega, by simp; omega, ?_, by simp [h0], by simp [h2], by simp [h3'], by simp [h4], by simp [PV]⟩
       rw [hcls, cls_step hne hnb, hr]
       have hq : (!(rs ++ [(c, c)]).isEmpty) = true := by simp
       rw [hq]
       cases cls m true (text.drop (k + 1)) <;> simp
     ·simp only [Bool.not_eq_true] at hnb
      simp [h0, g0, q0, PV, h4, h2, h3', get_1, set_0, get_0, set_1, hnb]
      refine er_set id (PV text k true depth deepest) (.agg (Pc.cls rs []).enc) (.var 230 [.int .i64 3, .int .u8 0, rowV (σ.length + 2) (encRg rs), .nils, .str []] :: .var 230 [.int .i64 3, .int .u8 0, rowV (σ.length + 2) (encRg rs), .nils, .str []] :: rowE 236 2 (encRg rs) true) ?_ ?_ ?_ ?_
      ·simp [retAt, a_glob_parser_class, h2, get_0, hfin, Pc.enc, Pc.kind, Pc.low, Pc.rs, Pc.alts, Pc.text, encA]
      ·rfl
      ·exact PV_under _ _ _ _ _ _
      ·rw [hcls, cls_no hne hnb]
       exact ⟨rs, k, hk2, rfl, rfl⟩
  ·refine ac_lent (peek_none text k _ _ _ (by omega)) (.cons (coe_ptr (g0 _ _) (by simp) rfl) .nil) ?_
   rintro r rfl
   refine ⟨by simp, ?_⟩
   simp [h0, g0, q0, PV, h4, h2, get_1, set_0, get_0]
   refine er_set id (PV text k true depth deepest) (.agg (Pc.cls rs []).enc) (.var 230 [.int .i64 3, .int .u8 0, rowV (σ.length + 2) (encRg rs), .nils, .str []] :: .var 230 [.int .i64 3, .int .u8 0, rowV (σ.length + 2) (encRg rs), .nils, .str []] :: rowE 236 2 (encRg rs) true) ?_ ?_ ?_ ?_
   ·simp [retAt, a_glob_parser_class, h2, get_0, hfin, Pc.enc, Pc.kind, Pc.low, Pc.rs, Pc.alts, Pc.text, encA]
   ·rfl
   ·exact PV_under _ _ _ _ _ _
   ·obtain ⟨m, rfl⟩ : ∃ j, m = j + 1 := ⟨m - 1, by omega⟩
    rw [hcls, List.drop_eq_nil_of_le (by omega)]
    exact ⟨rs, k, hk2, rfl, rfl⟩
end Go.Proofs.YtalfhchbmhoagaaGreatDoor
end
section
namespace Go.Proofs.YtalfhchbmhoagaaGreatDoor
open Go.Abs Go.Dec
variable {G : Globs}
end Go.Proofs.YtalfhchbmhoagaaGreatDoor
end
