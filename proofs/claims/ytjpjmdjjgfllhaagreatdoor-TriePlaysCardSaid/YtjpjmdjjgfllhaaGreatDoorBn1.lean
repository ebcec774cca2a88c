/- Patterns of one name, in plain Lean: what the program's functions compute. Patterns of one name: plain laws of what the functions compute. Patterns of -/
import Derived.WalkKit
import Derived.Test.YtjpjmdjjgfllhaaGreatDoorCode
import Derived.Test.YtjpjmdjjgfllhaaGreatDoorShelf
import Derived.Test.YtjpjmdjjgfllhaaGreatDoorAbs2
import Derived.Lib.IndexAny
import Derived.Shelf.Spec.SlicesGrow
set_option linter.unusedSimpArgs false
set_option linter.unusedVariables false
set_option linter.constructorNameAsVariable false
section
namespace Go.Glob
/-- A name byte. -/
def nb (c : UInt8) : Bool := (97 ≤ c && c ≤ 122) || (65 ≤ c && c ≤ 90) || (48 ≤ c && c ≤ 57) || [95, 45, 58, 37, 35, 64, 43, 61].contains c
/-- A dash and a name byte behind it. -/
def rng : List UInt8 → Option (UInt8 × List UInt8)
  | d :: h :: s => if d = 45 ∧ nb h = true then some (h, s) else none
  | _ => none
/-- A class, behind its bracket: its ranges, and what stands behind it. -/
def cls : Nat → Bool → List UInt8 → Option (List (UInt8 × UInt8) × List UInt8)
  | 0, _, _ => none
  | _ + 1, _, [] => none
  | n + 1, ne, c :: s =>
    if c = 93 ∧ ne = true then some ([], s)
    else if nb c = false then none
    else match rng s with
      | some (h, s') => if h < c then none else (cls n true s').map fun x => ((c, h) :: x.1, x.2)
      | none => (cls n true s).map fun x => ((c, c) :: x.1, x.2)
inductive Pc where
  | lit (c : UInt8)
  | q
  | star
  | cls (rs : List (UInt8 × UInt8)) (text : List UInt8)
  | br (as_ : List (List Pc))
def stop (c : UInt8) : Bool := c = 44 || c = 125
mutual
/-- Pieces, up to a comma, a brace that shuts, or the end: the pieces, what stands behind them, how deep braces stand in them. -/
def pcs : Nat → List UInt8 → Option (List Pc × List UInt8 × Nat)
  | 0, _ => none
  | _ + 1, [] => some ([], [], 0)
  | n + 1, c :: s =>
    if c = 44 ∨ c = 125 then some ([], c :: s, 0)
    else if c = 63 then (pcs n s).map fun x => (.q :: x.1, x.2)
    else if c = 42 then (pcs n s).map fun x => (.star :: x.1, x.2)
    else if c = 91 then (cls n false s).bind fun x => (pcs n x.2).map fun y => (.cls x.1 ((c :: s).take (s.length + 1 - x.2.length)) :: y.1, y.2)
    else if c = 123 then (alts n s).bind fun x => (pcs n x.2.1).map fun y => (.br x.1 :: y.1, y.2.1, max (x.2.2 + 1) y.2.2)
    else if nb c = true then (pcs n s).map fun x => (.lit c :: x.1, x.2)
    else none
/-- Alternatives, behind their brace. -/
def alts : Nat → List UInt8 → Option (List (List Pc) × List UInt8 × Nat)
  | 0, _ => none
  | n + 1, s => (pcs n s).bind fun x => match x.2.1 with
    | [] => none
    | c :: r => if c = 125 then some ([x.1], r, x.2.2) else (alts n r).map fun y => (x.1 :: y.1, y.2.1, max x.2.2 y.2.2)
end
mutual
/-- How many patterns pieces come to, 65 at most. -/
def cnt : Nat → List Pc → Nat
  | n, [] => n
  | n, .br as_ :: l => cnt (min 65 (n * cntA 0 as_)) l
  | n, .lit _ :: l => cnt n l
  | n, .q :: l => cnt n l
  | n, .star :: l => cnt n l
  | n, .cls _ _ :: l => cnt n l
def cntA : Nat → List (List Pc) → Nat
  | n, [] => n
  | n, a :: as_ => cntA (min 65 (n + cnt 1 a)) as_
end
mutual
/-- The lists of pieces without braces that come of pieces. -/
def expd : List (List Pc) → List Pc → List (List Pc)
  | out, [] => out
  | out, .br as_ :: l => expd (out.flatMap fun h => (expdA as_).map (h ++ ·)) l
  | out, .lit c :: l => expd (out.map (· ++ [.lit c])) l
  | out, .q :: l => expd (out.map (· ++ [.q])) l
  | out, .star :: l => expd (out.map (· ++ [.star])) l
  | out, .cls r t :: l => expd (out.map (· ++ [.cls r t])) l
def expdA : List (List Pc) → List (List Pc)
  | [] => []
  | a :: as_ => expd [[]] a ++ expdA as_
end
def Pc.text : Pc → List UInt8
  | .lit c => [c]
  | .q => [63]
  | .star => [42]
  | .cls _ t => t
  | .br _ => []
def texts (l : List Pc) : List UInt8 := l.flatMap Pc.text
/-- Does a piece fit a byte? -/
def Pc.one : Pc → UInt8 → Bool
  | .q, _ => true
  | .lit l, c => decide (l = c)
  | .cls rs _, c => rs.any fun r => r.1 ≤ c && c ≤ r.2
  | .star, _ => false
  | .br _, _ => false
def tls {α : Type} : List α → List (List α)
  | [] => [[]]
  | a :: s => (a :: s) :: tls s
/-- Do pieces fit a name? -/
def mt : List Pc → List UInt8 → Bool
  | [], s => s.isEmpty
  | .star :: l, s => (tls s).any (mt l)
  | .lit _ :: _, [] => false
  | .q :: _, [] => false
  | .cls _ _ :: _, [] => false
  | .br _ :: _, [] => false
  | .lit p :: l, c :: s => (Pc.lit p).one c && mt l s
  | .q :: l, c :: s => Pc.q.one c && mt l s
  | .cls r t :: l, c :: s => (Pc.cls r t).one c && mt l s
  | .br a :: l, c :: s => (Pc.br a).one c && mt l s
/-- A pattern's pieces, or an error. -/
def parse (s : List UInt8) : Except Nat (List Pc) :=
  if 128 < s.length then .error 12
  else match pcs (2 * s.length + 2) s with
    | some (l, r, d) => if s = [] ∨ r ≠ [] then .error 10 else if 4 < d then .error 19 else if 64 < cnt 1 l then .error 11 else .ok l
    | none => .error 10
end Go.Glob
end
section
namespace Go.Glob
def Stops (x : List UInt8) : Prop := x = [] ∨ ∃ c t, x = c :: t ∧ (c = 44 ∨ c = 125)
theorem rng_two (d h : UInt8) (t x y : List UInt8) : (rng (d :: h :: t ++ x) = none ↔ rng (d :: h :: t ++ y) = none) := by
  simp only [rng, List.cons_append]
  split <;> simp
theorem cls_one {m : Nat} {d : UInt8} {v : List (UInt8 × UInt8) × List UInt8} (h : cls m true [d] = some v) : d = 93 := by
  cases m with
  | zero => simp [cls] at h
  | succ m =>
    unfold cls at h
    split at h
    · rename_i h1; exact h1.1
    · split at h
      · cases h
      · simp only [rng] at h
        cases m <;> simp [cls] at h
/-- A class is read as_ far as_ it goes. -/
theorem cls_local : ∀ (n : Nat) (ne : Bool) (s : List UInt8) (rs : List (UInt8 × UInt8)) (r : List UInt8), cls n ne s = some (rs, r) →
    ∃ b, s = b ++ r ∧ ∀ m x, n ≤ m ∨ b.length < m → cls m ne (b ++ x) = some (rs, x) := by
  intro n
  induction n with
  | zero => intro ne s rs r h; simp [cls] at h
  | succ n ih =>
    intro ne s rs r h
    cases s with
    | nil => simp [cls] at h
    | cons c s =>
      unfold cls at h
      split at h
      · rename_i h1
        simp only [Option.some.injEq, Prod.mk.injEq] at h
        obtain ⟨rfl, rfl⟩ := h
        refine ⟨[c], rfl, fun m x hm => ?_⟩
        obtain ⟨m, rfl⟩ : ∃ k, m = k + 1 := ⟨m - 1, by simp at hm; omega⟩
        simp [cls, h1]
      · rename_i h1
        split at h
        · cases h
        · rename_i h2
          split at h
          · rename_i hh s' hr
            split at h
            · cases h
            · rename_i h3
              simp only [Option.map_eq_some_iff, Prod.mk.injEq] at h
              obtain ⟨v, hv, rfl, rfl⟩ := h
              obtain ⟨b, rfl, hb⟩ := ih true s' v.1 v.2 hv
              obtain ⟨d, rfl, hd⟩ : ∃ d, s = d :: hh :: (b ++ v.2) ∧ d = 45 ∧ nb hh = true := by
                match s, hr with
                | d :: h' :: t, hr =>
                  simp only [rng] at hr
                  split at hr
                  · rename_i hc; simp only [Option.some.injEq, Prod.mk.injEq] at hr; obtain ⟨rfl, rfl⟩ := hr; exact ⟨d, rfl, hc⟩
                  · cases hr
              refine ⟨c :: d :: hh :: b, by simp, fun m x hm => ?_⟩
              obtain ⟨m, rfl⟩ : ∃ k, m = k + 1 := ⟨m - 1, by simp at hm; omega⟩
              have e := hb m x (by simp at hm; omega)
              simp only [List.cons_append]
              unfold cls
              rw [if_neg h1, if_neg h2]
              simp only [rng, hd, and_self, if_true, if_neg h3, e, Option.map_some]
          · rename_i hr
            simp only [Option.map_eq_some_iff, Prod.mk.injEq] at h
            obtain ⟨v, hv, rfl, rfl⟩ := h
            obtain ⟨b, rfl, hb⟩ := ih true s v.1 v.2 hv
            refine ⟨c :: b, by simp, fun m x hm => ?_⟩
            obtain ⟨m, rfl⟩ : ∃ k, m = k + 1 := ⟨m - 1, by simp at hm; omega⟩
            have e := hb m x (by simp at hm; omega)
            have hrx : rng (b ++ x) = none := by
              match b, hb, hr with
              | [], hb, _ =>
                have := hb 1 [] (.inr (by simp))
                simp [cls] at this
              | [d], hb, _ =>
                have := hb 2 [] (.inr (by simp))
                have := cls_one this
                subst this
                cases x <;> simp [rng]
              | d :: h :: t, hb, hr => exact (rng_two d h t v.2 x).1 hr
            simp only [List.cons_append]
            unfold cls
            rw [if_neg h1, if_neg h2]
            simp only [hrx, e, Option.map_some]
theorem cls_step {m : Nat} {ne : Bool} {c : UInt8} {s : List UInt8} (h93 : ¬ (c = 93 ∧ ne = true)) (hn : nb c = true) : cls (m + 1) ne (c :: s) = match rng s with
    | some (h, s') => if h < c then none else (cls m true s').map fun x => ((c, h) :: x.1, x.2)
    | none => (cls m true s).map fun x => ((c, c) :: x.1, x.2) := by
  simp only [cls]
  rw [if_neg h93, if_neg (by simp [hn])]
  all_goals rfl
theorem cls_no {m : Nat} {ne : Bool} {c : UInt8} {s : List UInt8} (h93 : ¬ (c = 93 ∧ ne = true)) (hn : nb c = false) : cls (m + 1) ne (c :: s) = none := by
  simp only [cls]
  rw [if_neg h93, if_pos hn]
mutual
/-- Pieces that may have been read: name bytes; classes whose text says them. -/
def okL : List Pc → Prop
  | [] => True
  | .lit c :: l => nb c = true ∧ okL l
  | .q :: l => okL l
  | .star :: l => okL l
  | .cls rs t :: l => (∃ b, t = 91 :: b ∧ ∀ m x, b.length < m → cls m false (b ++ x) = some (rs, x)) ∧ okL l
  | .br as_ :: l => okA as_ ∧ okL l
def okA : List (List Pc) → Prop
  | [] => True
  | a :: as_ => okL a ∧ okA as_
end
mutual
/-- How long a text pieces come of, at least. -/
def srcL : List Pc → Nat
  | [] => 0
  | .lit _ :: l => 1 + srcL l
  | .q :: l => 1 + srcL l
  | .star :: l => 1 + srcL l
  | .cls _ t :: l => t.length + srcL l
  | .br as_ :: l => srcA as_ + srcL l
def srcA : List (List Pc) → Nat
  | [] => 0
  | a :: as_ => srcL a + srcA as_
end
theorem nb_no (c : UInt8) (h : nb c = true) : ¬ (c = 44 ∨ c = 125) ∧ c ≠ 63 ∧ c ≠ 42 ∧ c ≠ 91 ∧ c ≠ 123 := by
  refine ⟨?_, ?_, ?_, ?_, ?_⟩
  · rintro (rfl | rfl) <;> exact absurd h (by decide)
  all_goals (rintro rfl; exact absurd h (by decide))
theorem pcs_end (m : Nat) : pcs (m + 1) [] = some ([], [], 0) := by simp [pcs]
theorem pcs_stop {m : Nat} {c : UInt8} {s : List UInt8} (h : c = 44 ∨ c = 125) : pcs (m + 1) (c :: s) = some ([], c :: s, 0) := by
  unfold pcs; rw [if_pos h]
theorem pcs_q {m : Nat} {s : List UInt8} : pcs (m + 1) (63 :: s) = (pcs m s).map fun x => (.q :: x.1, x.2) := by
  conv => lhs; unfold pcs
  rw [if_neg (by decide), if_pos rfl]
theorem pcs_star {m : Nat} {s : List UInt8} : pcs (m + 1) (42 :: s) = (pcs m s).map fun x => (.star :: x.1, x.2) := by
  conv => lhs; unfold pcs
  rw [if_neg (by decide), if_neg (by decide), if_pos rfl]
theorem pcs_cls {m : Nat} {s : List UInt8} : pcs (m + 1) (91 :: s) = (cls m false s).bind fun x => (pcs m x.2).map fun y => (.cls x.1 ((91 :: s).take (s.length + 1 - x.2.length)) :: y.1, y.2) := by
  conv => lhs; unfold pcs
  rw [if_neg (by decide), if_neg (by decide), if_neg (by decide), if_pos rfl]
theorem pcs_br {m : Nat} {s : List UInt8} : pcs (m + 1) (123 :: s) = (alts m s).bind fun x => (pcs m x.2.1).map fun y => (.br x.1 :: y.1, y.2.1, max (x.2.2 + 1) y.2.2) := by
  conv => lhs; unfold pcs
  rw [if_neg (by decide), if_neg (by decide), if_neg (by decide), if_neg (by decide), if_pos rfl]
theorem pcs_lit {m : Nat} {c : UInt8} {s : List UInt8} (h : nb c = true) : pcs (m + 1) (c :: s) = (pcs m s).map fun x => (.lit c :: x.1, x.2) := by
  obtain ⟨h1, h2, h3, h4, h5⟩ := nb_no c h
  conv => lhs; unfold pcs
  rw [if_neg h1, if_neg h2, if_neg h3, if_neg h4, if_neg h5, if_pos h]
theorem pcs_no {m : Nat} {c : UInt8} {s : List UInt8} (h1 : ¬ (c = 44 ∨ c = 125)) (h2 : c ≠ 63) (h3 : c ≠ 42) (h4 : c ≠ 91) (h5 : c ≠ 123) (h : nb c = false) : pcs (m + 1) (c :: s) = none := by
  unfold pcs
  rw [if_neg h1, if_neg h2, if_neg h3, if_neg h4, if_neg h5, if_neg (by simp [h])]
theorem alts_step {m : Nat} {s : List UInt8} : alts (m + 1) s = (pcs m s).bind fun x => match x.2.1 with
    | [] => none
    | c :: r => if c = 125 then some ([x.1], r, x.2.2) else (alts m r).map fun y => (x.1 :: y.1, y.2.1, max x.2.2 y.2.2) := by
  conv => lhs; unfold alts
  all_goals rfl
theorem pcs_local : ∀ (n : Nat), (∀ (s : List UInt8) (l : List Pc) (r : List UInt8) (d : Nat), pcs n s = some (l, r, d) →
      Stops r ∧ okL l ∧ srcL l + r.length ≤ s.length ∧ ∃ b, s = b ++ r ∧ ∀ m x, n ≤ m → Stops x → pcs m (b ++ x) = some (l, x, d)) ∧
    (∀ (s : List UInt8) (l : List (List Pc)) (r : List UInt8) (d : Nat), alts n s = some (l, r, d) →
      okA l ∧ srcA l + r.length ≤ s.length ∧ ∃ b, s = b ++ r ∧ ∀ m x, n ≤ m → alts m (b ++ x) = some (l, x, d)) := by
  intro n
  induction n with
  | zero => exact ⟨fun s l r d h => by simp [pcs] at h, fun s l r d h => by simp [alts] at h⟩
  | succ n ih =>
    obtain ⟨ihp, iha⟩ := ih
    have hsucc : ∀ {m : Nat}, n + 1 ≤ m → ∃ k, m = k + 1 ∧ n ≤ k := fun {m} hm => ⟨m - 1, by omega, by omega⟩
    refine ⟨fun s l r d h => ?_, fun s l r d h => ?_⟩
    · cases s with
      | nil =>
        simp only [pcs, Option.some.injEq, Prod.mk.injEq] at h
        obtain ⟨rfl, rfl, rfl⟩ := h
        refine ⟨.inl rfl, by simp [okL], by simp [srcL], [], rfl, fun m x hm hx => ?_⟩
        obtain ⟨m, rfl, hm'⟩ := hsucc hm
        rcases hx with rfl | ⟨c, t, rfl, hc⟩
        · simp [pcs]
        · simp [pcs, hc]
      | cons c s =>
        unfold pcs at h
        split at h
        · rename_i h1
          simp only [Option.some.injEq, Prod.mk.injEq] at h
          obtain ⟨rfl, rfl, rfl⟩ := h
          refine ⟨.inr ⟨c, s, rfl, h1⟩, by simp [okL], by simp [srcL], [], rfl, fun m x hm hx => ?_⟩
          obtain ⟨m, rfl, hm'⟩ := hsucc hm
          rcases hx with rfl | ⟨c, t, rfl, hc⟩
          · simp [pcs]
          · simp [pcs, hc]
        rename_i h1
        split at h
        · rename_i h2
          simp only [Option.map_eq_some_iff, Prod.mk.injEq] at h
          obtain ⟨⟨l', r', d'⟩, hv, rfl, rfl, rfl⟩ := h
          obtain ⟨g1, g2, g3, b, rfl, g4⟩ := ihp _ _ _ _ hv
          refine ⟨g1, by simpa [okL] using g2, by simp [srcL] at g3 ⊢; omega, c :: b, rfl, fun m x hm hx => ?_⟩
          obtain ⟨m, rfl, hm'⟩ := hsucc hm
          simp only [List.cons_append]
          unfold pcs
          rw [if_neg h1, if_pos h2, g4 m x hm' hx]; rfl
        rename_i h2
        split at h
        · rename_i h3
          simp only [Option.map_eq_some_iff, Prod.mk.injEq] at h
          obtain ⟨⟨l', r', d'⟩, hv, rfl, rfl, rfl⟩ := h
          obtain ⟨g1, g2, g3, b, rfl, g4⟩ := ihp _ _ _ _ hv
          refine ⟨g1, by simpa [okL] using g2, by simp [srcL] at g3 ⊢; omega, c :: b, rfl, fun m x hm hx => ?_⟩
          obtain ⟨m, rfl, hm'⟩ := hsucc hm
          simp only [List.cons_append]
          unfold pcs
          rw [if_neg h1, if_neg h2, if_pos h3, g4 m x hm' hx]; rfl
        rename_i h3
        split at h
        · rename_i h4
          simp only [Option.bind_eq_some_iff, Option.map_eq_some_iff, Prod.mk.injEq] at h
          obtain ⟨⟨rs, r1⟩, hc, ⟨l', r', d'⟩, hv, rfl, rfl, rfl⟩ := h
          obtain ⟨b1, rfl, hb1⟩ := cls_local _ _ _ _ _ hc
          obtain ⟨g1, g2, g3, b, e, g4⟩ := ihp _ _ _ _ hv
          dsimp only at e
          subst e
          have ht : ((c :: (b1 ++ (b ++ r))).take ((b1 ++ (b ++ r)).length + 1 - (b ++ r).length)) = c :: b1 := by
            have : (b1 ++ (b ++ r)).length + 1 - (b ++ r).length = b1.length + 1 := by simp; omega
            rw [this, List.take_succ_cons, List.take_left]
          have h4' := h4
          refine ⟨g1, ?_, ?_, c :: (b1 ++ b), by simp, fun m x hm hx => ?_⟩
          · simp only [okL]; exact ⟨⟨b1, by rw [ht, h4], fun m x hm => hb1 m x (.inr hm)⟩, g2⟩
          · simp only [srcL]; rw [ht]; simp at g3 ⊢; omega
          · obtain ⟨m, rfl, hm'⟩ := hsucc hm
            simp only [List.cons_append, List.append_assoc]
            unfold pcs
            rw [if_neg h1, if_neg h2, if_neg h3, if_pos h4, hb1 m (b ++ x) (.inl hm')]
            simp only [Option.bind_some, g4 m x hm' hx, Option.map_some, Option.some.injEq, Prod.mk.injEq, List.cons.injEq, Pc.cls.injEq, true_and, and_true]
            have e1 : (b1 ++ (b ++ x)).length + 1 - (b ++ x).length = b1.length + 1 := by simp; omega
            rw [ht, e1, List.take_succ_cons, List.take_left]
        rename_i h4
        split at h
        · rename_i h5
          simp only [Option.bind_eq_some_iff, Option.map_eq_some_iff, Prod.mk.injEq] at h
          obtain ⟨⟨as_, r1, d1⟩, hc, ⟨l', r', d'⟩, hv, rfl, rfl, rfl⟩ := h
          obtain ⟨a1, a2, b1, rfl, hb1⟩ := iha _ _ _ _ hc
          obtain ⟨g1, g2, g3, b, e, g4⟩ := ihp _ _ _ _ hv
          dsimp only at e
          subst e
          refine ⟨g1, ?_, ?_, c :: (b1 ++ b), by simp, fun m x hm hx => ?_⟩
          · simp only [okL]; exact ⟨a1, g2⟩
          · simp only [srcL]; simp at g3 a2 ⊢; omega
          · obtain ⟨m, rfl, hm'⟩ := hsucc hm
            simp only [List.cons_append, List.append_assoc]
            unfold pcs
            rw [if_neg h1, if_neg h2, if_neg h3, if_neg h4, if_pos h5, hb1 m (b ++ x) hm']
            simp only [Option.bind_some, g4 m x hm' hx, Option.map_some]
        rename_i h5
        split at h
        · rename_i h6
          simp only [Option.map_eq_some_iff, Prod.mk.injEq] at h
          obtain ⟨⟨l', r', d'⟩, hv, rfl, rfl, rfl⟩ := h
          obtain ⟨g1, g2, g3, b, rfl, g4⟩ := ihp _ _ _ _ hv
          refine ⟨g1, ?_, by simp [srcL] at g3 ⊢; omega, c :: b, rfl, fun m x hm hx => ?_⟩
          · simp only [okL]; exact ⟨h6, g2⟩
          obtain ⟨m, rfl, hm'⟩ := hsucc hm
          simp only [List.cons_append]
          unfold pcs
          rw [if_neg h1, if_neg h2, if_neg h3, if_neg h4, if_neg h5, if_pos h6, g4 m x hm' hx]; rfl
        · cases h
    · unfold alts at h
      simp only [Option.bind_eq_some_iff] at h
      obtain ⟨⟨l', r', d'⟩, hv, h⟩ := h
      obtain ⟨g1, g2, g3, b, rfl, g4⟩ := ihp _ _ _ _ hv
      dsimp only at h
      split at h
      · cases h
      · rename_i c r0
        split at h
        · rename_i h1
          simp only [Option.some.injEq, Prod.mk.injEq] at h
          obtain ⟨rfl, rfl, rfl⟩ := h
          refine ⟨?_, ?_, b ++ [c], by simp, fun m x hm => ?_⟩
          · simp only [okA]; exact ⟨g2, trivial⟩
          · simp [srcA] at g3 ⊢; omega
          · obtain ⟨m, rfl, hm'⟩ := hsucc hm
            unfold alts
            rw [List.append_assoc, List.singleton_append, g4 m _ hm' (.inr ⟨c, x, rfl, .inr h1⟩)]
            simp [h1]
        · rename_i h1
          simp only [Option.map_eq_some_iff, Prod.mk.injEq] at h
          obtain ⟨⟨as_, r2, d2⟩, hw, rfl, rfl, rfl⟩ := h
          obtain ⟨a1, a2, b2, rfl, hb2⟩ := iha _ _ _ _ hw
          have hc : c = 44 ∨ c = 125 := by
            rcases g1 with g1 | ⟨c', t, e, hc⟩
            · cases g1
            · simp only [List.cons.injEq] at e; obtain ⟨rfl, rfl⟩ := e; exact hc
          refine ⟨?_, ?_, b ++ c :: b2, by simp, fun m x hm => ?_⟩
          · simp only [okA]; exact ⟨g2, a1⟩
          · simp [srcA] at g3 a2 ⊢; omega
          · obtain ⟨m, rfl, hm'⟩ := hsucc hm
            unfold alts
            rw [List.append_assoc, List.cons_append, g4 m _ hm' (.inr ⟨c, _, rfl, hc⟩)]
            simp only [Option.bind_some, if_neg h1, hb2 m x hm', Option.map_some]
theorem cls_fits {n : Nat} {ne : Bool} {s : List UInt8} {rs : List (UInt8 × UInt8)} {r : List UInt8} (h : cls n ne s = some (rs, r)) {m : Nat} (hm : s.length < m) : cls m ne s = some (rs, r) := by
  obtain ⟨b, rfl, hb⟩ := cls_local _ _ _ _ _ h
  exact hb m r (.inr (by simp at hm; omega))
/-- Pieces without braces. -/
def flat : List Pc → Prop
  | [] => True
  | .br _ :: _ => False
  | .lit _ :: l => flat l
  | .q :: l => flat l
  | .star :: l => flat l
  | .cls _ _ :: l => flat l
theorem flat_append : ∀ {l m : List Pc}, flat l → flat m → flat (l ++ m)
  | [], _, _, h => h
  | .br _ :: _, _, h, _ => h.elim
  | .lit _ :: l, m, h, h' => flat_append (l := l) (m := m) h h'
  | .q :: l, m, h, h' => flat_append (l := l) (m := m) h h'
  | .star :: l, m, h, h' => flat_append (l := l) (m := m) h h'
  | .cls _ _ :: l, m, h, h' => flat_append (l := l) (m := m) h h'
theorem okL_append : ∀ {l m : List Pc}, okL l → okL m → okL (l ++ m)
  | [], _, _, h => h
  | .br _ :: l, m, h, h' => by simp only [List.cons_append, okL] at h ⊢; exact ⟨h.1, okL_append h.2 h'⟩
  | .lit _ :: l, m, h, h' => by simp only [List.cons_append, okL] at h ⊢; exact ⟨h.1, okL_append h.2 h'⟩
  | .q :: l, m, h, h' => by simp only [List.cons_append, okL] at h ⊢; exact okL_append h h'
  | .star :: l, m, h, h' => by simp only [List.cons_append, okL] at h ⊢; exact okL_append h h'
  | .cls _ _ :: l, m, h, h' => by simp only [List.cons_append, okL] at h ⊢; exact ⟨h.1, okL_append h.2 h'⟩
theorem texts_append (l m : List Pc) : texts (l ++ m) = texts l ++ texts m := by simp [texts]
/-- What an expansion is like: no braces, pieces as_ they must be, of at most n bytes. -/
def Good (n : Nat) (l : List Pc) : Prop := flat l ∧ okL l ∧ (texts l).length ≤ n
theorem Good.app {a b : Nat} {l m : List Pc} (h : Good a l) (h' : Good b m) : Good (a + b) (l ++ m) :=
  ⟨flat_append h.1 h'.1, okL_append h.2.1 h'.2.1, by rw [texts_append, List.length_append]; exact Nat.add_le_add h.2.2 h'.2.2⟩
theorem Good.le {a b : Nat} {l : List Pc} (h : Good a l) (hab : a ≤ b) : Good b l := ⟨h.1, h.2.1, Nat.le_trans h.2.2 hab⟩
mutual
theorem expd_good : ∀ (l : List Pc) (out : List (List Pc)) (k : Nat), okL l → (∀ o ∈ out, Good k o) → ∀ o ∈ expd out l, Good (k + srcL l) o
  | [], out, k, _, ho => by simpa [expd, srcL] using ho
  | .br as_ :: l, out, k, hl, ho => by
    simp only [expd, srcL]
    simp only [okL] at hl
    have := expd_good l (out.flatMap fun h => (expdA as_).map (h ++ ·)) (k + srcA as_) hl.2 (fun o h => by
      obtain ⟨x, hx, hz⟩ := List.mem_flatMap.1 h
      obtain ⟨y, hy, rfl⟩ := List.mem_map.1 hz
      exact (ho x hx).app (expdA_good as_ hl.1 y hy))
    simpa [Nat.add_assoc] using this
  | .lit c :: l, out, k, hl, ho => by
    simp only [expd, srcL]
    simp only [okL] at hl
    have := expd_good l (out.map (· ++ [.lit c])) (k + 1) hl.2 (fun o h => by
      obtain ⟨x, hx, rfl⟩ := List.mem_map.1 h
      exact (ho x hx).app ⟨trivial, by simp [okL, hl.1], by simp [texts, Pc.text]⟩)
    simpa [Nat.add_assoc] using this
  | .q :: l, out, k, hl, ho => by
    simp only [expd, srcL]
    simp only [okL] at hl
    have := expd_good l (out.map (· ++ [.q])) (k + 1) hl (fun o h => by
      obtain ⟨x, hx, rfl⟩ := List.mem_map.1 h
      exact (ho x hx).app ⟨trivial, by simp [okL], by simp [texts, Pc.text]⟩)
    simpa [Nat.add_assoc] using this
  | .star :: l, out, k, hl, ho => by
    simp only [expd, srcL]
    simp only [okL] at hl
    have := expd_good l (out.map (· ++ [.star])) (k + 1) hl (fun o h => by
      obtain ⟨x, hx, rfl⟩ := List.mem_map.1 h
      exact (ho x hx).app ⟨trivial, by simp [okL], by simp [texts, Pc.text]⟩)
    simpa [Nat.add_assoc] using this
  | .cls r t :: l, out, k, hl, ho => by
    simp only [expd, srcL]
    simp only [okL] at hl
    have := expd_good l (out.map (· ++ [.cls r t])) (k + t.length) hl.2 (fun o h => by
      obtain ⟨x, hx, rfl⟩ := List.mem_map.1 h
      exact (ho x hx).app ⟨trivial, by simp only [okL]; exact ⟨hl.1, trivial⟩, by simp [texts, Pc.text]⟩)
    simpa [Nat.add_assoc] using this
theorem expdA_good : ∀ (as_ : List (List Pc)), okA as_ → ∀ o ∈ expdA as_, Good (srcA as_) o
  | [], _ => by simp [expdA]
  | a :: as_, h => by
    simp only [okA] at h
    intro o ho
    simp only [expdA, List.mem_append] at ho
    simp only [srcA]
    rcases ho with ho | ho
    · have := expd_good a [[]] 0 h.1 (fun o ho => by
        simp only [List.mem_singleton] at ho; subst ho; exact ⟨trivial, by simp [okL], by simp [texts]⟩) o ho
      exact this.le (by omega)
    · exact (expdA_good as_ h.2 o ho).le (by omega)
end
/-- A pattern that may be. -/
theorem parse_ok {s : List UInt8} {l : List Pc} (h : parse s = .ok l) : s.length ≤ 128 ∧ s ≠ [] ∧ ∃ d, pcs (2 * s.length + 2) s = some (l, [], d) ∧ d ≤ 4 ∧ cnt 1 l ≤ 64 := by
  unfold parse at h
  split at h
  · cases h
  rename_i h1
  split at h
  · rename_i l' r d hp
    split at h
    · cases h
    rename_i h2
    split at h
    · cases h
    rename_i h3
    split at h
    · cases h
    rename_i h4
    simp only [Except.ok.injEq] at h
    subst h
    simp only [not_or, ne_eq, Decidable.not_not] at h2
    obtain ⟨h2, rfl⟩ := h2
    exact ⟨by omega, h2, d, hp, by omega, by omega⟩
  · cases h
theorem parse_good {s : List UInt8} {l : List Pc} (h : parse s = .ok l) : ∀ o ∈ expd [[]] l, Good s.length o := by
  obtain ⟨h1, h2, d, h3, _⟩ := parse_ok h
  obtain ⟨_, g1, g2, _⟩ := (pcs_local _).1 _ _ _ _ h3
  intro o ho
  have := expd_good l [[]] 0 g1 (fun o ho => by
    simp only [List.mem_singleton] at ho; subst ho; exact ⟨trivial, by simp [okL], by simp [texts]⟩) o ho
  exact this.le (by simp at g2; omega)
theorem mt_star (l : List Pc) (s : List UInt8) : mt (.star :: l) s = (mt l s || match s with | [] => false | _ :: s' => mt (.star :: l) s') := by
  cases s <;> simp [mt, tls]
theorem mt_other {p : Pc} (hp : p ≠ .star) (l : List Pc) (c : UInt8) (s : List UInt8) : mt (p :: l) (c :: s) = (p.one c && mt l s) := by
  cases p <;> first | exact absurd rfl hp | rfl
theorem mt_other_nil {p : Pc} (hp : p ≠ .star) (l : List Pc) : mt (p :: l) [] = false := by
  cases p <;> first | exact absurd rfl hp | rfl
theorem mt_nil (s : List UInt8) : mt [] s = s.isEmpty := by simp [mt]
def starless (l : List Pc) : Prop := ∀ p ∈ l, p ≠ .star
theorem mt_skip : ∀ (M R : List Pc) (s : List UInt8), starless M → mt (M ++ R) s = true → M.length ≤ s.length ∧ mt R (s.drop M.length) = true
  | [], R, s, _, h => by simpa using h
  | p :: M, R, [], hM, h => by
    rw [List.cons_append, mt_other_nil (hM p (by simp))] at h
    cases h
  | p :: M, R, c :: s, hM, h => by
    rw [List.cons_append, mt_other (hM p (by simp)), Bool.and_eq_true] at h
    have := mt_skip M R s (fun x hx => hM x (by simp [hx])) h.2
    exact ⟨by simp; omega, by simpa using this.2⟩
theorem star_drop (R : List Pc) : ∀ (s : List UInt8) (i : Nat), mt (.star :: R) (s.drop i) = true → mt (.star :: R) s = true
  | s, 0, h => h
  | [], i + 1, h => by simpa using h
  | c :: s, i + 1, h => by
    rw [mt_star]
    simp only [List.drop_succ_cons] at h
    simp [star_drop R s i h]
theorem star_le (R : List Pc) (s : List UInt8) {i j : Nat} (hij : i ≤ j) (h : mt (.star :: R) (s.drop j) = true) : mt (.star :: R) (s.drop i) = true := by
  have e : s.drop j = (s.drop i).drop (j - i) := by rw [List.drop_drop]; congr 1; omega
  rw [e] at h
  exact star_drop R _ _ h
/-- What the search for a fit keeps. -/
structure Fit (l : List Pc) (name : List UInt8) (at_ k : Nat) (back : Option Nat) (from_ : Nat) : Prop where
  hat : at_ ≤ l.length
  hk : k ≤ name.length
  hfk : from_ ≤ k
  f0 : back = none → mt l name = mt (l.drop at_) (name.drop k)
  f1 : ∀ b, back = some b → b < at_ ∧ l[b]? = some .star ∧ k - from_ = at_ - b - 1 ∧ starless ((l.take at_).drop (b + 1)) ∧
    mt l name = (mt (l.drop at_) (name.drop k) || (decide (from_ < name.length) && mt (l.drop b) (name.drop (from_ + 1))))
theorem Fit.init (l : List Pc) (name : List UInt8) : Fit l name 0 0 none 0 :=
  ⟨Nat.zero_le _, Nat.zero_le _, Nat.le_refl _, fun _ => rfl, fun b h => by cases h⟩
theorem drop_cons {α : Type} {l : List α} {i : Nat} {a : α} (h : l[i]? = some a) : l.drop i = a :: l.drop (i + 1) := by
  obtain ⟨hlt, rfl⟩ := List.getElem?_eq_some_iff.1 h
  exact List.drop_eq_getElem_cons hlt
/-- The piece that stands is a star. -/
theorem Fit.atStar {l : List Pc} {name : List UInt8} {at_ k : Nat} {back : Option Nat} {from_ : Nat} (h : Fit l name at_ k back from_) (hs : l[at_]? = some .star) : Fit l name (at_ + 1) k (some at_) k := by
  have hlt := (List.getElem?_eq_some_iff.1 hs).1
  have hd := drop_cons hs
  have e1 : mt (l.drop at_) (name.drop k) = (mt (l.drop (at_ + 1)) (name.drop k) || (decide (k < name.length) && mt (l.drop at_) (name.drop (k + 1)))) := by
    rw [hd, mt_star]
    congr 1
    by_cases hk : k < name.length
    · rw [List.drop_eq_getElem_cons hk]; simp [hk]
    · rw [List.drop_eq_nil_of_le (by omega)]; simp [hk]
  refine ⟨by omega, h.hk, Nat.le_refl _, nofun, fun b hb => ?_⟩
  cases hb
  refine ⟨by omega, hs, by omega, fun p hp => ?_, ?_⟩
  · rw [List.drop_eq_nil_of_le (by rw [List.length_take]; exact Nat.min_le_left _ _)] at hp; cases hp
  · rw [← e1]
    cases hb : back with
    | none => exact h.f0 hb
    | some b =>
      obtain ⟨g1, g2, g3, g4, g5⟩ := h.f1 b hb
      rw [g5]
      cases hx : mt (l.drop at_) (name.drop k) with
      | true => rfl
      | false =>
        rw [Bool.false_or]
        cases hy : (decide (from_ < name.length) && mt (l.drop b) (name.drop (from_ + 1))) with
        | false => rfl
        | true =>
          exfalso
          simp only [Bool.and_eq_true, decide_eq_true_eq] at hy
          obtain ⟨hfr, hy⟩ := hy
          rw [drop_cons g2] at hy
          simp only [mt, List.any_eq_true] at hy
          obtain ⟨t, ht, hy⟩ := hy
          obtain ⟨j, rfl⟩ : ∃ j, t = (name.drop (from_ + 1)).drop j := by
            clear hy
            generalize name.drop (from_ + 1) = s at ht
            induction s with
            | nil => simp [tls] at ht; exact ⟨0, by simp [ht]⟩
            | cons c s ih =>
              simp only [tls, List.mem_cons] at ht
              rcases ht with rfl | ht
              · exact ⟨0, rfl⟩
              · obtain ⟨j, rfl⟩ := ih ht; exact ⟨j + 1, rfl⟩
          have es : l.drop (b + 1) = (l.take at_).drop (b + 1) ++ l.drop at_ := by
            have : l.drop (b + 1) = ((l.take at_) ++ l.drop at_).drop (b + 1) := by rw [List.take_append_drop]
            rw [this, List.drop_append_of_le_length (by simp; omega)]
          rw [es] at hy
          obtain ⟨m1, m2⟩ := mt_skip _ _ _ g4 hy
          rw [List.drop_drop, List.drop_drop, hd] at m2
          have := star_le _ name (i := k) (by simp; omega) m2
          rw [← hd, hx] at this
          cases this
/-- The piece that stands fits the byte that stands. -/
theorem Fit.step {l : List Pc} {name : List UInt8} {at_ k : Nat} {back : Option Nat} {from_ : Nat} {p : Pc} {c : UInt8} (h : Fit l name at_ k back from_) (hp : l[at_]? = some p) (hs : p ≠ .star) (hc : name[k]? = some c) (ho : p.one c = true) :
    Fit l name (at_ + 1) (k + 1) back from_ := by
  have h1 := (List.getElem?_eq_some_iff.1 hp).1
  have h2 := (List.getElem?_eq_some_iff.1 hc).1
  have e : mt (l.drop at_) (name.drop k) = mt (l.drop (at_ + 1)) (name.drop (k + 1)) := by
    rw [drop_cons hp, drop_cons hc, mt_other hs, ho, Bool.true_and]
  refine ⟨by omega, by omega, by have := h.hfk; omega, fun hn => by rw [← e]; exact h.f0 hn, fun b hb => ?_⟩
  obtain ⟨g1, g2, g3, g4, g5⟩ := h.f1 b hb
  refine ⟨by omega, g2, by have := h.hfk; omega, fun x hq => ?_, by rw [← e]; exact g5⟩
  have : l.take (at_ + 1) = l.take at_ ++ [p] := by rw [List.take_add_one, hp]; rfl
  rw [this, List.drop_append_of_le_length (by simp; omega)] at hq
  rcases List.mem_append.1 hq with hq | hq
  · exact g4 x hq
  · simp only [List.mem_singleton] at hq; subst hq; exact hs
/-- Nothing fits here. -/
def Stuck (l : List Pc) (name : List UInt8) (at_ k : Nat) : Prop := ∃ c, name[k]? = some c ∧ (l[at_]? = none ∨ ∃ p, l[at_]? = some p ∧ p ≠ .star ∧ p.one c = false)
theorem Stuck.mt {l : List Pc} {name : List UInt8} {at_ k : Nat} (h : Stuck l name at_ k) : Glob.mt (l.drop at_) (name.drop k) = false := by
  obtain ⟨c, hc, h⟩ := h
  rw [drop_cons hc]
  rcases h with h | ⟨p, hp, hs, ho⟩
  · rw [List.drop_eq_nil_of_le (List.getElem?_eq_none_iff.1 h)]; rfl
  · rw [drop_cons hp, mt_other hs, ho, Bool.false_and]
/-- The last star takes one byte more. -/
theorem Fit.back {l : List Pc} {name : List UInt8} {at_ k : Nat} {b from_ : Nat} (h : Fit l name at_ k (some b) from_) (hs : Stuck l name at_ k) : Fit l name (b + 1) (from_ + 1) (some b) (from_ + 1) := by
  obtain ⟨g1, g2, g3, g4, g5⟩ := h.f1 b rfl
  have hk : k < name.length := by obtain ⟨c, hc, _⟩ := hs; exact (List.getElem?_eq_some_iff.1 hc).1
  have hfk := h.hfk
  have hat := h.hat
  refine ⟨by omega, by omega, Nat.le_refl _, nofun, fun b' hb' => ?_⟩
  cases hb'
  refine ⟨by omega, g2, by omega, fun p hp => ?_, ?_⟩
  · rw [List.drop_eq_nil_of_le (by rw [List.length_take]; exact Nat.min_le_left _ _)] at hp; cases hp
  · rw [g5, hs.mt, Bool.false_or]
    have hfr : decide (from_ < name.length) = true := by simp; omega
    rw [hfr, Bool.true_and, drop_cons g2, mt_star]
    congr 1
    by_cases hf : from_ + 1 < name.length
    · rw [List.drop_eq_getElem_cons hf]; simp [hf]
    · rw [List.drop_eq_nil_of_le (by omega)]; simp [hf]
theorem Fit.no {l : List Pc} {name : List UInt8} {at_ k from_ : Nat} (h : Fit l name at_ k none from_) (hs : Stuck l name at_ k) : mt l name = false := by
  rw [h.f0 rfl, hs.mt]
theorem Fit.done {l : List Pc} {name : List UInt8} {at_ from_ : Nat} {back : Option Nat} (h : Fit l name at_ name.length back from_) : mt l name = mt (l.drop at_) [] := by
  have e0 : name.drop name.length = [] := List.drop_eq_nil_of_le (Nat.le_refl _)
  cases hb : back with
  | none => rw [h.f0 hb, e0]
  | some b =>
    obtain ⟨g1, g2, g3, g4, g5⟩ := h.f1 b hb
    rw [g5, e0]
    cases hy : (decide (from_ < name.length) && mt (l.drop b) (name.drop (from_ + 1))) with
    | false => rw [Bool.or_false]
    | true =>
      exfalso
      simp only [Bool.and_eq_true, decide_eq_true_eq] at hy
      obtain ⟨hfr, hy⟩ := hy
      rw [drop_cons g2] at hy
      simp only [mt, List.any_eq_true] at hy
      obtain ⟨t, ht, hy⟩ := hy
      have htl : t.length ≤ (name.drop (from_ + 1)).length := by
        clear hy
        generalize name.drop (from_ + 1) = s at ht
        induction s with
        | nil => simp [tls] at ht; simp [ht]
        | cons c s ih =>
          simp only [tls, List.mem_cons] at ht
          rcases ht with rfl | ht
          · simp
          · have := ih ht; simp; omega
      have es : l.drop (b + 1) = (l.take at_).drop (b + 1) ++ l.drop at_ := by
        have : l.drop (b + 1) = ((l.take at_) ++ l.drop at_).drop (b + 1) := by rw [List.take_append_drop]
        rw [this, List.drop_append_of_le_length (by have := h.hat; simp; omega)]
      rw [es] at hy
      obtain ⟨m1, m2⟩ := mt_skip _ _ _ g4 hy
      have hat := h.hat
      simp at m1 htl
      omega
theorem mt_any : ∀ (s : List UInt8), mt [.star] s = true
  | [] => rfl
  | _ :: s => by rw [mt_star]; simp [mt_any s]
theorem suffix_drop {text b r : List UInt8} {k : Nat} (h : text.drop k = b ++ r) : text.drop (text.length - r.length) = r ∧ r.length + b.length = text.length - k := by
  have h1 := congrArg List.length h
  simp only [List.length_drop, List.length_append] at h1
  refine ⟨?_, by omega⟩
  by_cases hk : k ≤ text.length
  · have : text.drop (text.length - r.length) = (text.drop k).drop b.length := by
      rw [List.drop_drop]; congr 1; omega
    rw [this, h, List.drop_left]
  · have : r = [] := List.eq_nil_of_length_eq_zero (by omega)
    subst this; simp
theorem pcs_drop {m k : Nat} {text : List UInt8} {l : List Pc} {r : List UInt8} {d : Nat} (h : pcs m (text.drop k) = some (l, r, d)) : text.drop (text.length - r.length) = r ∧ r.length ≤ text.length - k := by
  obtain ⟨_, _, _, b, hb, _⟩ := (pcs_local _).1 _ _ _ _ h
  have := suffix_drop hb
  exact ⟨this.1, by omega⟩
theorem alts_drop {m k : Nat} {text : List UInt8} {l : List (List Pc)} {r : List UInt8} {d : Nat} (h : alts m (text.drop k) = some (l, r, d)) : text.drop (text.length - r.length) = r ∧ r.length ≤ text.length - k := by
  obtain ⟨_, _, b, hb, _⟩ := (pcs_local _).2 _ _ _ _ h
  have := suffix_drop hb
  exact ⟨this.1, by omega⟩
theorem cls_drop {m k : Nat} {text : List UInt8} {ne : Bool} {l : List (UInt8 × UInt8)} {r : List UInt8} (h : cls m ne (text.drop k) = some (l, r)) : text.drop (text.length - r.length) = r ∧ r.length ≤ text.length - k := by
  obtain ⟨b, hb, _⟩ := cls_local _ _ _ _ _ h
  have := suffix_drop hb
  exact ⟨this.1, by omega⟩
end Go.Glob
end
section
namespace Go.Proofs.YtjpjmdjjgfllhaaGreatDoor
open Go.Abs Go.Glob
variable {G : Globs}
/-- strings.IndexByte. -/
theorem indexByte_ok (s : List UInt8) (c : UInt8) : PCalls Tryz.prog 122 [.str s, .int .u8 c.toNat] (fun r => r = .int .i64 (Lib.indexByte s c)) := by
  intro base κ Im w vs hs hv
  obtain ⟨v0, v1, rfl⟩ : ∃ v0 v1, vs = [v0, v1] := by
    match vs, hv.1 with
    | [a, b], _ => exact ⟨a, b, rfl⟩
  have e0 := (hv.2 0 (by simp) (by simp)).str_inv
  have e1 := (hv.2 1 (by simp) (by simp)).int_inv
  simp only [List.getElem_cons_zero, List.getElem_cons_succ] at e0 e1
  subst e0; subst e1
  refine (Tryz.strings_IndexByte ⟨s.toArray⟩ c.toNat w).mono ?_
  rintro e w' ⟨rfl, rfl⟩
  exact ⟨_, [], _, κ, Im, rfl, ⟨rfl, rfl⟩, hs, Grow.refl _ _ _ _, .im _ _ (by simpa using IR.int (Im := Im) (w := w') .i64 (Lib.indexByte s c))⟩
theorem nb_index (c : UInt8) : nb c = ((97 ≤ c && c ≤ 122) || (65 ≤ c && c ≤ 90) || (48 ≤ c && c ≤ 57) || decide (0 ≤ Lib.indexByte [95, 45, 58, 37, 35, 64, 43, 61] c)) := by
  unfold nb
  rw [Lib.contains_iff_indexByte]
theorem byte_ok (c : UInt8) : PCalls Tryz.prog n_glob_Byte [.int .u8 c.toNat] (fun r => r = .bool (nb c)) := by
  refine pcalls_of_awp hmix c_glob_Byte rfl ?_
  simp [a_glob_Byte]
  repeat' (first
    | (refine gd_dt (fun _ => ?_) (fun _ => ?_))
    | (refine cb_dec (fun _ => ?_) (fun _ => ?_))
    | (refine ac_same (indexByte_ok _ _) (by simp) ?_; rintro r rfl)
    | simp [*])
  all_goals (simp [nb_index, UInt8.le_iff_toNat_le]; omega)
theorem refByte_ok (c : UInt8) : PCalls Tryz.prog n_isobarref15_Byte [.int .u8 c.toNat] (fun r => r = .bool (nb c)) := by
  refine pcalls_of_awp hmix c_isobarref15_Byte rfl ?_
  simp [a_isobarref15_Byte]
  repeat' (first
    | (refine gd_dt (fun _ => ?_) (fun _ => ?_))
    | (refine gd_df (fun _ => ?_) (fun _ => ?_))
    | (refine cb_dec (fun _ => ?_) (fun _ => ?_))
    | (refine lp_start (fun n f σ => ∃ i : Nat, n = 8 - i ∧ i ≤ 8 ∧ f 0 = .int .u8 c.toNat ∧ f 3 = .str [95, 45, 58, 37, 35, 64, 43, 61] ∧ f 4 = .int .i64 i ∧ (¬ c ∈ ([95, 45, 58, 37, 35, 64, 43, 61] : List UInt8).take i) ∧ σ = []) 8 ?_ ?_)
    | simp [*])
  all_goals try (exact ⟨0, by simp⟩)
  all_goals try (simp [nb, UInt8.le_iff_toNat_le]; omega)
  all_goals
    rintro n f σ ⟨i, rfl, hi, h0, h3, h4, hall, rfl⟩
    simp [h0, h3, h4]
    refine cb_dec (fun hlt => ?_) (fun hge => ?_)
    · have hlt' : i < ([95, 45, 58, 37, 35, 64, 43, 61] : List UInt8).length := by simp; omega
      simp [h0, h3, h4, List.getElem?_eq_getElem hlt']
      refine cb_dec (fun hc => ?_) (fun hc => ?_)
      · simp
        have : ([95, 45, 58, 37, 35, 64, 43, 61] : List UInt8)[i] = c := UInt8.toNat_inj.1 (by exact_mod_cast hc)
        have := List.getElem_mem hlt'
        simp_all [nb]
      · simp [h0, h3, h4]
        refine ⟨_, ?_, i + 1, rfl, by omega, by rw [wrap_i64 (by omega) (by omega)]; simp, ?_⟩
        · omega
        · rw [List.take_add_one, List.getElem?_eq_getElem hlt']
          simp only [Option.toList_some, List.mem_append, List.mem_singleton, not_or]
          exact ⟨hall, fun h => hc (by rw [h])⟩
    · have e : i = 8 := by omega
      subst e
      simp
      simp at hall
      simp [nb, UInt8.le_iff_toNat_le, hall]
      omega
theorem peek_some (s : List UInt8) (k : Nat) (c : UInt8) (bad depth deepest : AV) (h : s[k]? = some c) : PCalls Tryz.prog n_glob_parser_peek [.rptr [.str s, .int .i64 k, bad, depth, deepest]] (fun r => r = .tup [.int .u8 c.toNat, .bool true]) := by
  refine pcalls_of_awp hmix c_glob_parser_peek rfl ?_
  have hk : k < s.length := (List.getElem?_eq_some_iff.1 h).1
  simp [a_glob_parser_peek]
  refine cb_dec (fun hh => by omega) (fun _ => ?_)
  simp [h]
theorem peek_none (s : List UInt8) (k : Nat) (bad depth deepest : AV) (h : s.length ≤ k) : PCalls Tryz.prog n_glob_parser_peek [.rptr [.str s, .int .i64 k, bad, depth, deepest]] (fun r => r = .tup [.int .u8 0, .bool false]) := by
  refine pcalls_of_awp hmix c_glob_parser_peek rfl ?_
  simp [a_glob_parser_peek, h]
/-- A list of texts. -/
def strEls (l : List (List UInt8)) : List (List AV) := l.map fun s => [.str s]
theorem texts_ok (l m : List (List UInt8)) (hl : l.length ≤ 9223372036854775807) : PCalls Tryz.prog n_isobarref06_Texts [.lst (strEls l), .lst (strEls m)] (fun r => r = .bool (decide (l = m))) := by
  refine pcalls_of_awp hmix c_isobarref06_Texts rfl ?_
  have key : ∀ (l m : List (List UInt8)), l.length = m.length → ∀ i, i < l.length → (strEls l)[i]? = some [.str (l.getD i [])] := fun l m _ i hi => by simp [strEls, List.getElem?_eq_getElem hi]
  have e1 : ∀ l, (strEls l).length = l.length := fun l => by simp [strEls]
  simp [a_isobarref06_Texts, e1]
  refine cb_intro (fun h => ?_) (fun h => ?_)
  · simp
    simp at h
    intro hlm; rw [hlm] at h; exact absurd rfl h
  have hlm : l.length = m.length := by simp at h; omega
  simp
  refine lp_intro (fun n f σ => ∃ i : Nat, n = l.length - i ∧ i ≤ l.length ∧ f 0 = .lst (strEls l) ∧ f 1 = .lst (strEls m) ∧ f 5 = .int .i64 i ∧ (l.take i = m.take i) ∧ σ = []) l.length ?_ ?_
  · exact ⟨0, by simp⟩
  rintro n f σ ⟨i, rfl, hi, h0, h1, h5, hall, rfl⟩
  simp [h0, h1, h5, e1]
  refine cb_dec (fun hlt => ?_) (fun hge => ?_)
  · have hlt' : i < l.length := by omega
    simp [h0, h1, h5, key l m hlm i hlt', key m l hlm.symm i (by omega)]
    refine cb_intro (fun h => ?_) (fun h => ?_)
    · simp
      simp at h
      rintro rfl; exact h rfl
    · simp [h0, h1, h5]
      refine ⟨_, ?_, i + 1, rfl, by omega, by rw [wrap_i64 (by omega) (by omega)]; simp, ?_⟩
      · omega
      · simp [List.getElem?_eq_getElem hlt', List.getElem?_eq_getElem (show i < m.length by omega)] at h
        rw [List.take_add_one, List.take_add_one, hall, List.getElem?_eq_getElem hlt', List.getElem?_eq_getElem (show i < m.length by omega), h]
  · have el : l.take i = l := List.take_of_length_le (by omega)
    have em : m.take i = m := List.take_of_length_le (by omega)
    rw [el, em] at hall
    subst hall
    simp
end Go.Proofs.YtjpjmdjjgfllhaaGreatDoor
end
section
namespace Go.Glob
open Go.Abs
mutual
def encL : List Pc → List (List AV)
  | [] => []
  | .lit c :: l => [.int .i64 0, .int .u8 c.toNat, .lst [], .lst [], .str [c]] :: encL l
  | .q :: l => [.int .i64 1, .int .u8 0, .lst [], .lst [], .str [63]] :: encL l
  | .star :: l => [.int .i64 2, .int .u8 0, .lst [], .lst [], .str [42]] :: encL l
  | .cls rs t :: l => [.int .i64 3, .int .u8 0, .lst (rs.map fun r => [.int .u8 r.1.toNat, .int .u8 r.2.toNat]), .lst [], .str t] :: encL l
  | .br xs :: l => [.int .i64 4, .int .u8 0, .lst [], .lst (encA xs), .str []] :: encL l
def encA : List (List Pc) → List (List AV)
  | [] => []
  | a :: xs => [.lst (encL a)] :: encA xs
end
def Pc.kind : Pc → Nat
  | .lit _ => 0
  | .q => 1
  | .star => 2
  | .cls _ _ => 3
  | .br _ => 4
def Pc.low : Pc → UInt8
  | .lit c => c
  | _ => 0
def Pc.rs : Pc → List (UInt8 × UInt8)
  | .cls rs _ => rs
  | _ => []
def Pc.alts : Pc → List (List Pc)
  | .br xs => xs
  | _ => []
def encRg (rs : List (UInt8 × UInt8)) : List (List AV) := rs.map fun r => [.int .u8 r.1.toNat, .int .u8 r.2.toNat]
def Pc.enc (p : Pc) : List AV := [.int .i64 p.kind, .int .u8 p.low.toNat, .lst (encRg p.rs), .lst (encA p.alts), .str p.text]
theorem encL_cons (p : Pc) (l : List Pc) : encL (p :: l) = p.enc :: encL l := by
  cases p <;> simp [encL, Pc.enc, Pc.kind, Pc.low, Pc.rs, Pc.alts, Pc.text, encRg, encA]
theorem encL_map : ∀ l, encL l = l.map Pc.enc
  | [] => by simp [encL]
  | p :: l => by rw [encL_cons, encL_map l]; rfl
theorem encA_map : ∀ xs, encA xs = xs.map fun a => [AV.lst (encL a)]
  | [] => by simp [encA]
  | a :: xs => by simp [encA, encA_map xs]
theorem encL_length (l : List Pc) : (encL l).length = l.length := by simp [encL_map]
theorem encA_length (l : List (List Pc)) : (encA l).length = l.length := by simp [encA_map]
theorem encL_get {l : List Pc} {i : Nat} {p : Pc} (h : l[i]? = some p) : (encL l)[i]? = some p.enc := by simp [encL_map, h]
theorem encA_get {l : List (List Pc)} {i : Nat} {a : List Pc} (h : l[i]? = some a) : (encA l)[i]? = some [.lst (encL a)] := by simp [encA_map, h]
theorem enc_q : Pc.q.enc = [.int .i64 1, .int .u8 0, .lst [], .lst [], .str [63]] := by simp [Pc.enc, Pc.kind, Pc.low, Pc.rs, Pc.alts, Pc.text, encRg, encA]
theorem enc_star : Pc.star.enc = [.int .i64 2, .int .u8 0, .lst [], .lst [], .str [42]] := by simp [Pc.enc, Pc.kind, Pc.low, Pc.rs, Pc.alts, Pc.text, encRg, encA]
theorem enc_lit (c : UInt8) : (Pc.lit c).enc = [.int .i64 0, .int .u8 c.toNat, .lst [], .lst [], .str [c]] := by simp [Pc.enc, Pc.kind, Pc.low, Pc.rs, Pc.alts, Pc.text, encRg, encA]
theorem enc_cls (rs : List (UInt8 × UInt8)) (t : List UInt8) : (Pc.cls rs t).enc = [.int .i64 3, .int .u8 0, .lst (encRg rs), .lst [], .str t] := by simp [Pc.enc, Pc.kind, Pc.low, Pc.rs, Pc.alts, Pc.text, encA]
theorem enc_br (xs : List (List Pc)) : (Pc.br xs).enc = [.int .i64 4, .int .u8 0, .lst [], .lst (encA xs), .str []] := by simp [Pc.enc, Pc.kind, Pc.low, Pc.rs, Pc.alts, Pc.text, encRg]
end Go.Glob
namespace Go.Proofs.YtjpjmdjjgfllhaaGreatDoor
open Go.Abs Go.Glob
variable {G : Globs}
theorem one1_ok (r : UInt8 × UInt8) (c : UInt8) : PCalls Tryz.prog n_glob_piece_one_1 [.agg [.int .u8 r.1.toNat, .int .u8 r.2.toNat], .rptr [.int .u8 c.toNat]] (fun x => x = .bool (r.1 ≤ c && c ≤ r.2)) := by
  refine pcalls_of_awp hmix c_glob_piece_one_1 rfl ?_
  simp [a_glob_piece_one_1]
  refine gd_dt (fun h => ?_) (fun h => ?_)
  · have h' : r.1 ≤ c := UInt8.le_iff_toNat_le.2 (by omega)
    simp [h, h']
    simp [UInt8.le_iff_toNat_le]
  · have h' : ¬ r.1 ≤ c := fun h1 => h (by have := UInt8.le_iff_toNat_le.1 h1; omega)
    simp [h, h']
/-- The place of the first element of which a test holds. -/
def firstAt {α : Type} (p : α → Bool) : List α → Int
  | [] => -1
  | a :: l => if p a then 0 else if firstAt p l = -1 then -1 else firstAt p l + 1
theorem firstAt_ge {α : Type} (p : α → Bool) : ∀ l, -1 ≤ firstAt p l
  | [] => by simp [firstAt]
  | a :: l => by
    have := firstAt_ge p l
    simp only [firstAt]
    split
    · omega
    · split <;> omega
theorem firstAt_any {α : Type} (p : α → Bool) : ∀ l : List α, decide (0 ≤ firstAt p l) = l.any p
  | [] => by simp [firstAt]
  | a :: l => by
    have h1 := firstAt_any p l
    have h2 := firstAt_ge p l
    simp only [firstAt, List.any_cons, ← h1]
    by_cases h : p a = true
    · simp [h]
    · simp only [Bool.not_eq_true] at h
      simp only [h, Bool.false_or, Bool.false_eq_true, if_false]
      congr 1
      apply propext
      split <;> omega
theorem firstAt_some {α : Type} (p : α → Bool) : ∀ (l : List α) (i : Nat) (a : α), l[i]? = some a → p a = true → (∀ x ∈ l.take i, p x = false) → firstAt p l = i
  | [], i, a, h, _, _ => by simp at h
  | b :: l, 0, a, h, hp, _ => by simp at h; subst h; simp [firstAt, hp]
  | b :: l, i + 1, a, h, hp, hf => by
    have hb := hf b (by simp)
    have := firstAt_some p l i a (by simpa using h) hp (fun x hx => hf x (by simp [hx]))
    simp [firstAt, hb, this]
theorem firstAt_none {α : Type} (p : α → Bool) : ∀ (l : List α), (∀ x ∈ l, p x = false) → firstAt p l = -1
  | [], _ => rfl
  | b :: l, h => by
    have hb := h b (by simp)
    have := firstAt_none p l (fun x hx => h x (by simp [hx]))
    simp [firstAt, hb, this]
theorem index2_ok {l : List (List AV)} {g : FuncId} {cap : List AV} {p : List AV → Bool} (hlen : l.length ≤ 9223372036854775807) (hs : ∀ c ∈ l, c.length = 2) (hb : hasBody Tryz.prog g = true) (hp : l.all (fun c => c.all AV.pure) = true) (hcap : cap.all AV.pure = true)
    (hc : ∀ c ∈ l, PCalls Tryz.prog g ([.agg c] ++ cap) (fun r => r = .bool (p c))) :
    PCalls Tryz.prog n_slices_IndexFunc_2_byte_2_byte [.lst l, .fn (.func g) [] cap] (fun r => r = .int .i64 (firstAt p l)) := by
  refine pcalls_of_awp hmix c_slices_IndexFunc_2_byte_2_byte rfl ?_
  simp [a_slices_IndexFunc_2_byte_2_byte]
  refine lp_start (fun n f σ => ∃ i : Nat, n = l.length - i ∧ i ≤ l.length ∧ f 0 = .lst l ∧ f 1 = .fn (.func g) [] cap ∧ f 7 = .int .i64 l.length ∧ f 8 = .int .i64 i ∧ (∀ x ∈ l.take i, p x = false) ∧ σ = []) l.length ⟨0, by simp⟩ ?_
  rintro n f σ ⟨i, rfl, hi, h0, h1, h7, h8, hall, rfl⟩
  simp [h0, h7, h8]
  refine cb_dec (fun hlt => ?_) (fun hge => ?_)
  · have hlt' : i < l.length := by omega
    have hm := List.getElem_mem hlt'
    have hsz := hs _ hm
    simp [h0, h1, h8, List.getElem?_eq_getElem hlt', hsz]
    rw [show List.take 2 l[i] = l[i] from List.take_of_length_le (by omega)]
    refine cv_fn hb (ac_same (hc _ hm) ?_ ?_)
    · have h2 : ∀ x ∈ l[i], x.pure = true := List.all_eq_true.1 (List.all_eq_true.1 hp _ hm)
      have h3 := List.all_eq_true.1 hcap
      simp only [List.nil_append, List.cons_append, List.all_cons, AV.pure, Bool.and_eq_true, List.all_eq_true, List.mem_attach, forall_const, Subtype.forall]
      exact ⟨h2, h3⟩
    · rintro r rfl
      simp
      refine cb_intro (fun h => ?_) (fun h => ?_)
      · simp
        exact (firstAt_some p l i _ (List.getElem?_eq_getElem hlt') h hall).symm
      · simp [h0, h1, h7, h8]
        refine ⟨_, ?_, i + 1, rfl, by omega, by rw [wrap_i64 (by omega) (by omega)]; simp, ?_⟩
        · omega
        · intro x hx
          rw [List.take_add_one, List.getElem?_eq_getElem hlt'] at hx
          simp only [Option.toList_some, List.mem_append, List.mem_singleton] at hx
          rcases hx with hx | rfl
          · exact hall x hx
          · exact h
  · have e : l.take i = l := List.take_of_length_le (by omega)
    rw [e] at hall
    simp [firstAt_none p l hall]
theorem contains2_ok {l : List (List AV)} {g : FuncId} {cap : List AV} {p : List AV → Bool} (hlen : l.length ≤ 9223372036854775807) (hs : ∀ c ∈ l, c.length = 2) (hb : hasBody Tryz.prog g = true) (hp : l.all (fun c => c.all AV.pure) = true) (hcap : cap.all AV.pure = true)
    (hc : ∀ c ∈ l, PCalls Tryz.prog g ([.agg c] ++ cap) (fun r => r = .bool (p c))) :
    PCalls Tryz.prog n_slices_ContainsFunc_2_byte_2_byte [.lst l, .fn (.func g) [] cap] (fun r => r = .bool (l.any p)) := by
  refine pcalls_of_awp hmix c_slices_ContainsFunc_2_byte_2_byte rfl ?_
  simp [a_slices_ContainsFunc_2_byte_2_byte]
  refine ac_same (index2_ok hlen hs hb hp hcap hc) ?_ ?_
  · have h3 := List.all_eq_true.1 hcap
    simpa using h3
  · rintro r rfl
    simp [← firstAt_any]
theorem index1_ok {l : List (List AV)} {g : FuncId} {cap : List AV} {p : AV → Bool} (hlen : l.length ≤ 9223372036854775807) (hb : hasBody Tryz.prog g = true) (hp : l.all (fun c => c.all AV.pure) = true) (hcap : cap.all AV.pure = true)
    (hc : ∀ c ∈ l, ∃ x, c = [x] ∧ PCalls Tryz.prog g ([x] ++ cap) (fun r => r = .bool (p x))) :
    PCalls Tryz.prog n_slices_IndexFunc_glob_piece_glob_piece [.lst l, .fn (.func g) [] cap] (fun r => r = .int .i64 (firstAt (fun c => p (c.headD .junk)) l)) := by
  refine pcalls_of_awp hmix c_slices_IndexFunc_glob_piece_glob_piece rfl ?_
  simp [a_slices_IndexFunc_glob_piece_glob_piece]
  refine lp_start (fun n f σ => ∃ i : Nat, n = l.length - i ∧ i ≤ l.length ∧ f 0 = .lst l ∧ f 1 = .fn (.func g) [] cap ∧ f 7 = .int .i64 l.length ∧ f 8 = .int .i64 i ∧ (∀ x ∈ l.take i, p (x.headD .junk) = false) ∧ σ = []) l.length ⟨0, by simp⟩ ?_
  rintro n f σ ⟨i, rfl, hi, h0, h1, h7, h8, hall, rfl⟩
  simp [h7, h8]
  refine cb_dec (fun hlt => ?_) (fun hge => ?_)
  · have hlt' : i < l.length := by omega
    have hm := List.getElem_mem hlt'
    obtain ⟨x, hx, hcx⟩ := hc _ hm
    simp [h0, h1, h8, List.getElem?_eq_getElem hlt', hx]
    refine cv_fn hb (ac_same hcx ?_ ?_)
    · have h2 : ∀ y ∈ l[i], y.pure = true := List.all_eq_true.1 (List.all_eq_true.1 hp _ hm)
      have h3 := List.all_eq_true.1 hcap
      simp only [List.nil_append, List.cons_append, List.all_cons, Bool.and_eq_true, List.all_eq_true]
      exact ⟨h2 x (by rw [hx]; simp), h3⟩
    · rintro r rfl
      simp
      have hpx : p (l[i].headD .junk) = p x := by rw [hx]; rfl
      refine cb_intro (fun h => ?_) (fun h => ?_)
      · simp
        simpa using (firstAt_some _ l i _ (List.getElem?_eq_getElem hlt') (hpx.trans h) hall).symm
      · simp [h0, h1, h7, h8]
        refine ⟨_, ?_, i + 1, rfl, by omega, by rw [wrap_i64 (by omega) (by omega)]; simp, ?_⟩
        · omega
        · intro y hy
          rw [List.take_add_one, List.getElem?_eq_getElem hlt'] at hy
          simp only [Option.toList_some, List.mem_append, List.mem_singleton] at hy
          rcases hy with hy | rfl
          · have := hall y hy
            simpa using this
          · simpa using hpx.trans h
  · have e : l.take i = l := List.take_of_length_le (by omega)
    rw [e] at hall
    have := firstAt_none (fun c => p (c.headD .junk)) l hall
    simp at this
    simp [this]
theorem contains1_ok {l : List (List AV)} {g : FuncId} {cap : List AV} {p : AV → Bool} (hlen : l.length ≤ 9223372036854775807) (hb : hasBody Tryz.prog g = true) (hp : l.all (fun c => c.all AV.pure) = true) (hcap : cap.all AV.pure = true)
    (hc : ∀ c ∈ l, ∃ x, c = [x] ∧ PCalls Tryz.prog g ([x] ++ cap) (fun r => r = .bool (p x))) :
    PCalls Tryz.prog n_slices_ContainsFunc_glob_piece_glob_piece [.lst l, .fn (.func g) [] cap] (fun r => r = .bool (l.any fun c => p (c.headD .junk))) := by
  refine pcalls_of_awp hmix c_slices_ContainsFunc_glob_piece_glob_piece rfl ?_
  simp [a_slices_ContainsFunc_glob_piece_glob_piece]
  refine ac_same (index1_ok hlen hb hp hcap hc) ?_ ?_
  · have h3 := List.all_eq_true.1 hcap
    simpa using h3
  · rintro r rfl
    simp [← firstAt_any]
theorem one_ok (p : Pc) (c : UInt8) (hlen : p.rs.length ≤ 9223372036854775807) : PCalls Tryz.prog n_glob_piece_one [.agg p.enc, .int .u8 c.toNat] (fun r => r = .bool (p.one c)) := by
  refine pcalls_of_awp hmix c_glob_piece_one rfl ?_
  have hrs : (encRg p.rs).length = p.rs.length := by simp [encRg]
  have hR : PCalls Tryz.prog n_slices_ContainsFunc_2_byte_2_byte [.lst (encRg p.rs), .fn (.func n_glob_piece_one_1) [] [.rptr [.int .u8 c.toNat]]] (fun r => r = .bool (p.rs.any fun r => r.1 ≤ c && c ≤ r.2)) := by
    have hp : ∀ r : UInt8 × UInt8, (fun (l : List AV) => match l with | [.int _ a, .int _ b] => decide (a ≤ c.toNat) && decide (c.toNat ≤ b) | _ => false) [.int .u8 r.1.toNat, .int .u8 r.2.toNat] = (decide (r.1 ≤ c) && decide (c ≤ r.2)) := fun r => by
      simp [UInt8.le_iff_toNat_le]
    refine PCalls.mono (contains2_ok (p := fun (l : List AV) => match l with | [.int _ a, .int _ b] => decide (a ≤ c.toNat) && decide (c.toNat ≤ b) | _ => false) (by omega) ?_ b_glob_piece_one_1 ?_ ?_ ?_) ?_
    · intro x hx; simp [encRg] at hx; obtain ⟨a, b, _, rfl⟩ := hx; rfl
    · simp [encRg]
    · simp
    · intro x hx
      simp only [encRg, List.mem_map] at hx
      obtain ⟨r, _, rfl⟩ := hx
      have := one1_ok (G := G) r c
      simp only [← hp] at this
      exact this
    · rintro r rfl
      simp only [encRg, List.any_map]
      congr 2
      funext r
      exact hp r
  simp [a_glob_piece_one, Pc.enc]
  cases p with
  | lit l =>
    simp [Pc.kind, Pc.low, Pc.one]
    exact ⟨fun h => UInt8.toNat_inj.1 (by omega), fun h => by rw [h]⟩
  | q => simp [Pc.kind, Pc.one]
  | star =>
    simp [Pc.kind]
    refine ac_lent hR ?_ ?_
    · exact .cons (.pure _ (by simp)) (.cons (coe_fn1 (coe_ptr rfl (by simp) rfl)) .nil)
    · rintro r rfl; simp [Pc.one, Pc.rs]
  | cls rs t =>
    simp [Pc.kind]
    refine ac_lent hR ?_ ?_
    · exact .cons (.pure _ (by simp)) (.cons (coe_fn1 (coe_ptr rfl (by simp) rfl)) .nil)
    · rintro r rfl; simp [Pc.one, Pc.rs]
  | br xs =>
    simp [Pc.kind]
    refine ac_lent hR ?_ ?_
    · exact .cons (.pure _ (by simp)) (.cons (coe_fn1 (coe_ptr rfl (by simp) rfl)) .nil)
    · rintro r rfl; simp [Pc.one, Pc.rs]
end Go.Proofs.YtjpjmdjjgfllhaaGreatDoor
end
section
namespace Go.Glob
mutual
/-- How many pieces and alternatives there are. -/
def szL : List Pc → Nat
  | [] => 0
  | .lit _ :: l => 1 + szL l
  | .q :: l => 1 + szL l
  | .star :: l => 1 + szL l
  | .cls _ _ :: l => 1 + szL l
  | .br xs :: l => 1 + szA xs + szL l
def szA : List (List Pc) → Nat
  | [] => 0
  | a :: xs => 1 + szL a + szA xs
end
theorem szL_length : ∀ l, l.length ≤ szL l
  | [] => Nat.zero_le _
  | p :: l => by have := szL_length l; cases p <;> simp [szL] <;> omega
theorem szA_length : ∀ l, l.length ≤ szA l
  | [] => Nat.zero_le _
  | p :: l => by have := szA_length l; simp [szA]; omega
theorem szA_mem : ∀ {xs : List (List Pc)} {a : List Pc}, a ∈ xs → szL a < szA xs
  | b :: xs, a, h => by
    simp only [szA]
    rcases List.mem_cons.1 h with rfl | h
    · omega
    · have := szA_mem h; omega
theorem szL_mem : ∀ {l : List Pc} {xs : List (List Pc)}, Pc.br xs ∈ l → szA xs < szL l
  | p :: l, xs, h => by
    rcases List.mem_cons.1 h with rfl | h
    · simp [szL]; omega
    · have := szL_mem h
      cases p <;> simp [szL] <;> omega
mutual
theorem cnt_le : ∀ (l : List Pc) (n : Nat), n ≤ 65 → cnt n l ≤ 65
  | [], n, h => by simpa [cnt] using h
  | .br xs :: l, n, _ => by simp only [cnt]; exact cnt_le l _ (Nat.min_le_left _ _)
  | .lit _ :: l, n, h => by simp only [cnt]; exact cnt_le l n h
  | .q :: l, n, h => by simp only [cnt]; exact cnt_le l n h
  | .star :: l, n, h => by simp only [cnt]; exact cnt_le l n h
  | .cls _ _ :: l, n, h => by simp only [cnt]; exact cnt_le l n h
theorem cntA_le : ∀ (l : List (List Pc)) (n : Nat), n ≤ 65 → cntA n l ≤ 65
  | [], n, h => by simpa [cntA] using h
  | a :: l, n, _ => by simp only [cntA]; exact cntA_le l _ (Nat.min_le_left _ _)
end
theorem cnt_other {p : Pc} (h : p.kind ≠ 4) (n : Nat) (l : List Pc) : cnt n (p :: l) = cnt n l := by
  cases p <;> simp_all [cnt, Pc.kind]
theorem kind4 {p : Pc} (h : p.kind = 4) : p = .br p.alts := by
  cases p <;> simp_all [Pc.kind, Pc.alts]
theorem kind2 {p : Pc} : p.kind = 2 ↔ p = .star := by
  cases p <;> simp [Pc.kind]
mutual
/-- Braces have alternatives. -/
def neL : List Pc → Prop
  | [] => True
  | .lit _ :: l => neL l
  | .q :: l => neL l
  | .star :: l => neL l
  | .cls _ _ :: l => neL l
  | .br xs :: l => xs ≠ [] ∧ neA xs ∧ neL l
def neA : List (List Pc) → Prop
  | [] => True
  | a :: xs => neL a ∧ neA xs
end
theorem neA_mem : ∀ {xs : List (List Pc)} {a : List Pc}, neA xs → a ∈ xs → neL a
  | b :: xs, a, h, hm => by
    simp only [neA] at h
    rcases List.mem_cons.1 hm with rfl | hm
    · exact h.1
    · exact neA_mem h.2 hm
theorem neL_drop : ∀ {l : List Pc} (i : Nat), neL l → neL (l.drop i)
  | l, 0, h => h
  | [], i + 1, h => by simpa using h
  | p :: l, i + 1, h => by
    have : neL l := by cases p <;> simp only [neL] at h <;> first | exact h | exact h.2.2
    exact neL_drop i this
theorem neL_mem : ∀ {l : List Pc} {xs : List (List Pc)}, neL l → Pc.br xs ∈ l → xs ≠ [] ∧ neA xs
  | p :: l, xs, h, hm => by
    rcases List.mem_cons.1 hm with rfl | hm
    · simp only [neL] at h; exact ⟨h.1, h.2.1⟩
    · have : neL l := by cases p <;> simp only [neL] at h <;> first | exact h | exact h.2.2
      exact neL_mem this hm
theorem pcs_size : ∀ (n : Nat), (∀ (s : List UInt8) (l : List Pc) (r : List UInt8) (d : Nat), pcs n s = some (l, r, d) → szL l + r.length ≤ s.length ∧ neL l) ∧
    (∀ (s : List UInt8) (l : List (List Pc)) (r : List UInt8) (d : Nat), alts n s = some (l, r, d) → szA l + r.length ≤ s.length ∧ l ≠ [] ∧ neA l) := by
  intro n
  induction n with
  | zero => exact ⟨fun s l r d h => by simp [pcs] at h, fun s l r d h => by simp [alts] at h⟩
  | succ n ih =>
    obtain ⟨ihp, iha⟩ := ih
    refine ⟨fun s l r d h => ?_, fun s l r d h => ?_⟩
    · cases s with
      | nil =>
        simp only [pcs, Option.some.injEq, Prod.mk.injEq] at h
        obtain ⟨rfl, rfl, rfl⟩ := h
        simp [szL, neL]
      | cons c s =>
        by_cases h1 : c = 44 ∨ c = 125
        · rw [pcs_stop h1] at h
          simp only [Option.some.injEq, Prod.mk.injEq] at h
          obtain ⟨rfl, rfl, rfl⟩ := h
          simp [szL, neL]
        by_cases h2 : c = 63
        · subst h2
          rw [pcs_q] at h
          simp only [Option.map_eq_some_iff, Prod.mk.injEq] at h
          obtain ⟨⟨l', r', d'⟩, hv, rfl, rfl, rfl⟩ := h
          have := ihp _ _ _ _ hv
          simp only [szL, neL, List.length_cons]; exact ⟨by omega, this.2⟩
        by_cases h3 : c = 42
        · subst h3
          rw [pcs_star] at h
          simp only [Option.map_eq_some_iff, Prod.mk.injEq] at h
          obtain ⟨⟨l', r', d'⟩, hv, rfl, rfl, rfl⟩ := h
          have := ihp _ _ _ _ hv
          simp only [szL, neL, List.length_cons]; exact ⟨by omega, this.2⟩
        by_cases h4 : c = 91
        · subst h4
          rw [pcs_cls] at h
          simp only [Option.bind_eq_some_iff, Option.map_eq_some_iff, Prod.mk.injEq] at h
          obtain ⟨⟨rs, r1⟩, hc, ⟨l', r', d'⟩, hv, rfl, rfl, rfl⟩ := h
          have := ihp _ _ _ _ hv
          obtain ⟨b, rfl, _⟩ := cls_local _ _ _ _ _ hc
          simp only [szL, neL, List.length_cons, List.length_append] at this ⊢; exact ⟨by omega, this.2⟩
        by_cases h5 : c = 123
        · subst h5
          rw [pcs_br] at h
          simp only [Option.bind_eq_some_iff, Option.map_eq_some_iff, Prod.mk.injEq] at h
          obtain ⟨⟨xs, r1, d1⟩, hc, ⟨l', r', d'⟩, hv, rfl, rfl, rfl⟩ := h
          have h1 := ihp _ _ _ _ hv
          have h2 := iha _ _ _ _ hc
          simp only [szL, neL, List.length_cons] at h1 h2 ⊢; exact ⟨by omega, h2.2.1, h2.2.2, h1.2⟩
        by_cases h6 : nb c = true
        · rw [pcs_lit h6] at h
          simp only [Option.map_eq_some_iff, Prod.mk.injEq] at h
          obtain ⟨⟨l', r', d'⟩, hv, rfl, rfl, rfl⟩ := h
          have := ihp _ _ _ _ hv
          simp only [szL, neL, List.length_cons]; exact ⟨by omega, this.2⟩
        · rw [pcs_no h1 h2 h3 h4 h5 (by simpa using h6)] at h
          cases h
    · rw [alts_step] at h
      simp only [Option.bind_eq_some_iff] at h
      obtain ⟨⟨l', r', d'⟩, hv, h⟩ := h
      have h1 := ihp _ _ _ _ hv
      dsimp only at h
      split at h
      · cases h
      · split at h
        · simp only [Option.some.injEq, Prod.mk.injEq] at h
          obtain ⟨rfl, rfl, rfl⟩ := h
          simp only [szA, neA, List.length_cons] at h1 ⊢
          exact ⟨by omega, by simp, h1.2, trivial⟩
        · simp only [Option.map_eq_some_iff, Prod.mk.injEq] at h
          obtain ⟨⟨xs, r2, d2⟩, hw, rfl, rfl, rfl⟩ := h
          have h2 := iha _ _ _ _ hw
          simp only [szA, neA, List.length_cons] at h1 h2 ⊢
          exact ⟨by omega, by simp, h1.2, h2.2.2⟩
mutual
theorem cnt_ge : ∀ (l : List Pc) (n : Nat), neL l → 1 ≤ n → n ≤ 65 → n ≤ cnt n l
  | [], n, _, _, _ => by simp [cnt]
  | .br xs :: l, n, h, h1, h2 => by
    simp only [neL] at h
    have hx := cntA_ge xs 0 h.2.1 (by omega)
    have hp : 1 ≤ cntA 0 xs := by have := List.length_pos_iff.2 h.1; omega
    simp only [cnt]
    have hm : n ≤ n * cntA 0 xs := by have := Nat.mul_le_mul_left n hp; omega
    have := cnt_ge l (min 65 (n * cntA 0 xs)) h.2.2 (by omega) (Nat.min_le_left _ _)
    omega
  | .lit _ :: l, n, h, h1, h2 => by simp only [cnt]; exact cnt_ge l n (by simpa [neL] using h) h1 h2
  | .q :: l, n, h, h1, h2 => by simp only [cnt]; exact cnt_ge l n (by simpa [neL] using h) h1 h2
  | .star :: l, n, h, h1, h2 => by simp only [cnt]; exact cnt_ge l n (by simpa [neL] using h) h1 h2
  | .cls _ _ :: l, n, h, h1, h2 => by simp only [cnt]; exact cnt_ge l n (by simpa [neL] using h) h1 h2
/-- .. as many as there are alternatives, at least, or 65. -/
theorem cntA_ge : ∀ (l : List (List Pc)) (n : Nat), neA l → n ≤ 65 → min 65 (n + l.length) ≤ cntA n l
  | [], n, _, _ => by simp [cntA]; omega
  | a :: l, n, h, h1 => by
    simp only [neA] at h
    have hc := cnt_ge a 1 h.1 (by omega) (by omega)
    have := cntA_ge l (min 65 (n + cnt 1 a)) h.2 (Nat.min_le_left _ _)
    simp only [cntA, List.length_cons]
    omega
end
mutual
theorem expd_count : ∀ (l : List Pc) (out : List (List Pc)), neL l → 1 ≤ out.length → cnt out.length l ≤ 64 → (expd out l).length = cnt out.length l
  | [], out, _, _, _ => by simp [expd, cnt]
  | .br xs :: l, out, h, h1, hc => by
    simp only [neL] at h
    simp only [cnt] at hc ⊢
    simp only [expd]
    have hx := cntA_ge xs 0 h.2.1 (by omega)
    have hp : 1 ≤ cntA 0 xs := by have := List.length_pos_iff.2 h.1; omega
    have hm : out.length ≤ out.length * cntA 0 xs := by have := Nat.mul_le_mul_left out.length hp; omega
    have hg := cnt_ge l (min 65 (out.length * cntA 0 xs)) h.2.2 (by omega) (Nat.min_le_left _ _)
    have hm2 : cntA 0 xs ≤ out.length * cntA 0 xs := by have := Nat.mul_le_mul_right (cntA 0 xs) h1; omega
    have hA := expdA_count xs 0 h.2.1 (by omega)
    have hl : (out.flatMap fun h => (expdA xs).map (h ++ ·)).length = out.length * cntA 0 xs := by
      rw [List.length_flatMap]
      simp only [List.length_map]
      have : ∀ (o : List (List Pc)), (o.map fun _ => (expdA xs).length).sum = o.length * (expdA xs).length := fun o => by
        induction o with
        | nil => simp
        | cons a o ih => simp only [List.map_cons, List.sum_cons, List.length_cons, ih]; rw [Nat.add_mul]; omega
      rw [this]; congr 1; omega
    have hmin : min 65 (out.length * cntA 0 xs) = out.length * cntA 0 xs := by omega
    rw [hmin] at hc hg ⊢
    have := expd_count l (out.flatMap fun h => (expdA xs).map (h ++ ·)) h.2.2 (by omega) (by rw [hl]; exact hc)
    rw [this, hl]
  | .lit c :: l, out, h, h1, hc => by
    simp only [cnt] at hc ⊢; simp only [expd]
    have := expd_count l (out.map (· ++ [.lit c])) (by simpa [neL] using h) (by simpa using h1) (by simpa using hc)
    simpa using this
  | .q :: l, out, h, h1, hc => by
    simp only [cnt] at hc ⊢; simp only [expd]
    have := expd_count l (out.map (· ++ [.q])) (by simpa [neL] using h) (by simpa using h1) (by simpa using hc)
    simpa using this
  | .star :: l, out, h, h1, hc => by
    simp only [cnt] at hc ⊢; simp only [expd]
    have := expd_count l (out.map (· ++ [.star])) (by simpa [neL] using h) (by simpa using h1) (by simpa using hc)
    simpa using this
  | .cls r t :: l, out, h, h1, hc => by
    simp only [cnt] at hc ⊢; simp only [expd]
    have := expd_count l (out.map (· ++ [.cls r t])) (by simpa [neL] using h) (by simpa using h1) (by simpa using hc)
    simpa using this
theorem expdA_count : ∀ (l : List (List Pc)) (n : Nat), neA l → cntA n l ≤ 64 → n + (expdA l).length = cntA n l
  | [], n, _, _ => by simp [expdA, cntA]
  | a :: l, n, h, hc => by
    simp only [neA] at h
    simp only [cntA] at hc ⊢
    simp only [expdA, List.length_append]
    have hg := cntA_ge l (min 65 (n + cnt 1 a)) h.2 (Nat.min_le_left _ _)
    have hmin : min 65 (n + cnt 1 a) = n + cnt 1 a := by omega
    rw [hmin] at hc hg ⊢
    have h1 := expd_count a [[]] h.1 (by simp) (by simp; omega)
    have h2 := expdA_count l (n + cnt 1 a) h.2 hc
    simp only [List.length_singleton] at h1
    omega
end
theorem cntA_mem : ∀ {l : List (List Pc)} {n : Nat} {a : List Pc}, neA l → cntA n l ≤ 64 → a ∈ l → cnt 1 a ≤ 64
  | b :: l, n, a, h, hc, hm => by
    simp only [neA] at h
    simp only [cntA] at hc
    have hg := cntA_ge l (min 65 (n + cnt 1 b)) h.2 (Nat.min_le_left _ _)
    rcases List.mem_cons.1 hm with rfl | hm
    · omega
    · exact cntA_mem h.2 hc hm
mutual
theorem expd_len : ∀ (l : List Pc) (out : List (List Pc)) (k : Nat), (∀ o ∈ out, o.length ≤ k) → ∀ o ∈ expd out l, o.length ≤ k + szL l
  | [], out, k, h => by simpa [expd, szL] using h
  | .br xs :: l, out, k, h => by
    simp only [expd, szL]
    intro o ho
    have := expd_len l (out.flatMap fun h => (expdA xs).map (h ++ ·)) (k + szA xs) (fun o ho => by
      obtain ⟨x, hx, hz⟩ := List.mem_flatMap.1 ho
      obtain ⟨y, hy, rfl⟩ := List.mem_map.1 hz
      have h1 := h x hx
      have h2 := expdA_len xs y hy
      simp; omega) o ho
    omega
  | .lit c :: l, out, k, h => by
    simp only [expd, szL]
    intro o ho
    have := expd_len l (out.map (· ++ [.lit c])) (k + 1) (fun o ho => by obtain ⟨x, hx, rfl⟩ := List.mem_map.1 ho; have := h x hx; simp; omega) o ho
    omega
  | .q :: l, out, k, h => by
    simp only [expd, szL]
    intro o ho
    have := expd_len l (out.map (· ++ [.q])) (k + 1) (fun o ho => by obtain ⟨x, hx, rfl⟩ := List.mem_map.1 ho; have := h x hx; simp; omega) o ho
    omega
  | .star :: l, out, k, h => by
    simp only [expd, szL]
    intro o ho
    have := expd_len l (out.map (· ++ [.star])) (k + 1) (fun o ho => by obtain ⟨x, hx, rfl⟩ := List.mem_map.1 ho; have := h x hx; simp; omega) o ho
    omega
  | .cls r t :: l, out, k, h => by
    simp only [expd, szL]
    intro o ho
    have := expd_len l (out.map (· ++ [.cls r t])) (k + 1) (fun o ho => by obtain ⟨x, hx, rfl⟩ := List.mem_map.1 ho; have := h x hx; simp; omega) o ho
    omega
theorem expdA_len : ∀ (l : List (List Pc)), ∀ o ∈ expdA l, o.length ≤ szA l
  | [] => by simp [expdA]
  | a :: l => by
    intro o ho
    simp only [expdA, List.mem_append] at ho
    simp only [szA]
    rcases ho with ho | ho
    · have := expd_len a [[]] 0 (by simp) o ho; omega
    · have := expdA_len l o ho; omega
end
theorem expd_cons_br (out : List (List Pc)) (xs : List (List Pc)) (l : List Pc) : expd out (.br xs :: l) = expd (out.flatMap fun h => (expdA xs).map (h ++ ·)) l := by simp [expd]
theorem expd_cons_other {p : Pc} (h : p.kind ≠ 4) (out : List (List Pc)) (l : List Pc) : expd out (p :: l) = expd (out.map (· ++ [p])) l := by
  cases p <;> first | exact absurd rfl h | simp [expd]
theorem expdA_append : ∀ (l m : List (List Pc)), expdA (l ++ m) = expdA l ++ expdA m
  | [], m => by simp [expdA]
  | a :: l, m => by simp [expdA, expdA_append l m]
end Go.Glob
namespace Go.Proofs.YtjpjmdjjgfllhaaGreatDoor
open Go.Abs Go.Glob
variable {G : Globs}
theorem count_ok : ∀ (N : Nat) (l : List Pc), szL l ≤ N → N ≤ 1000000000000 → PCalls Tryz.prog n_glob_count [.lst (encL l)] (fun r => r = .int .i64 (cnt 1 l)) := by
  intro N
  induction N using Nat.strongRecOn with
  | _ N ih =>
  intro l hl hN
  have hll := szL_length l
  refine pcalls_of_awp hmix c_glob_count rfl ?_
  simp [a_glob_count, encL_length]
  refine lp_start (fun n f σ => ∃ i acc : Nat, n = l.length - i ∧ i ≤ l.length ∧ f 9 = .lst (encL l) ∧ f 10 = .int .i64 l.length ∧ f 11 = .int .i64 i ∧ f 3 = .int .i64 acc ∧ acc ≤ 65 ∧ cnt acc (l.drop i) = cnt 1 l) l.length ⟨0, 1, by simp⟩ ?_
  rintro n f σ ⟨i, acc, rfl, hi, h9, h10, h11, h3, hacc, hc⟩
  simp [h10, h11]
  refine cb_dec (fun hlt => ?_) (fun hge => ?_)
  · have hlt' : i < l.length := by omega
    obtain ⟨p, hp⟩ : ∃ p, l[i]? = some p := ⟨_, List.getElem?_eq_getElem hlt'⟩
    have hm : p ∈ l := List.mem_of_getElem? hp
    have hdrop := drop_cons hp
    simp [h9, h11, encL_get hp, Pc.enc]
    by_cases hk : p.kind = 4
    · have hp4 := kind4 hk
      have hsz := szL_mem (hp4 ▸ hm)
      have hal := szA_length p.alts
      simp [hk, encA_length]
      refine lp_start (fun n f σ => ∃ k sum : Nat, n = p.alts.length - k ∧ k ≤ p.alts.length ∧ f 9 = .lst (encL l) ∧ f 10 = .int .i64 l.length ∧ f 11 = .int .i64 i ∧ f 3 = .int .i64 acc ∧ f 19 = .lst (encA p.alts) ∧ f 20 = .int .i64 p.alts.length ∧ f 21 = .int .i64 k ∧ f 6 = .int .i64 sum ∧ sum ≤ 65 ∧ cntA sum (p.alts.drop k) = cntA 0 p.alts) p.alts.length ⟨0, 0, by simp [h9, h10, h11, h3]⟩ ?_
      clear h9 h10 h11 h3
      rintro n f σ ⟨k, sum, rfl, hk, h9, h10, h11, h3, h19, h20, h21, h6, hsum, hcs⟩
      simp [h20, h21]
      refine cb_dec (fun hlt => ?_) (fun hge => ?_)
      · have hlt2 : k < p.alts.length := by omega
        obtain ⟨a, ha⟩ : ∃ a, p.alts[k]? = some a := ⟨_, List.getElem?_eq_getElem hlt2⟩
        have ham : a ∈ p.alts := List.mem_of_getElem? ha
        have has := szA_mem ham
        have hd2 := drop_cons ha
        have hcl := cnt_le a 1 (by omega)
        simp [h19, h21, h6, encA_get ha]
        refine ac_same (ih (szL a) (by omega) a (Nat.le_refl _) (by omega)) (by simp) ?_
        rintro r rfl
        simp [h21, h9, h10, h11, h3, h19, h20]
        rw [hd2] at hcs
        simp only [cntA] at hcs
        refine ⟨_, ?_, k + 1, rfl, by omega, by rw [wrap_i64 (by omega) (by omega)]; simp, min 65 (sum + cnt 1 a), ?_, Nat.min_le_left _ _, hcs⟩
        · omega
        · rw [wrap_i64 (by omega) (by omega)]
          split <;> omega
      · have e : p.alts.drop k = [] := List.drop_eq_nil_of_le (by omega)
        rw [e] at hcs
        simp only [cntA] at hcs
        have hb : (acc : Int) * sum ≤ 65 * 65 := by
          have : acc * sum ≤ 65 * 65 := Nat.mul_le_mul hacc hsum
          exact_mod_cast this
        have hb0 : (0 : Int) ≤ (acc : Int) * sum := by exact_mod_cast Nat.zero_le (acc * sum)
        simp [h3, h6, h9, h10, h11]
        rw [hdrop, hp4] at hc
        simp only [cnt] at hc
        rw [← hcs] at hc
        refine ⟨_, ?_, i + 1, rfl, by omega, by rw [wrap_i64 (by omega) (by omega)]; simp, min 65 (acc * sum), ?_, Nat.min_le_left _ _, hc⟩
        · omega
        · rw [wrap_i64 (by omega) (by omega)]
          have : ((acc * sum : Nat) : Int) = (acc : Int) * sum := by simp
          split <;> omega
    · have hk1 : ¬ ((p.kind : Int) = 4) := by omega
      simp [hk1, h9, h10, h11, h3]
      rw [hdrop, cnt_other hk] at hc
      refine ⟨_, ?_, i + 1, rfl, by omega, by rw [wrap_i64 (by omega) (by omega)]; simp, acc, rfl, hacc, hc⟩
      omega
  · have e : l.drop i = [] := List.drop_eq_nil_of_le (by omega)
    rw [e] at hc
    simp [h3]
    simp [cnt] at hc
    rw [hc]
theorem fits_ok (l : List Pc) (name : List UInt8) (hl : l.length ≤ 1000000000) (hn : name.length ≤ 1000000000) (hr : ∀ p ∈ l, p.rs.length ≤ 1000000000) :
    PCalls Tryz.prog n_glob_fits [.lst (encL l), .str name] (fun r => r = .bool (mt l name)) := by
  refine pcalls_of_awp hmix c_glob_fits rfl ?_
  simp [a_glob_fits]
  refine lp_start (fun n f σ => ∃ (at_ k : Nat) (back : Option Nat) (from_ : Nat), n = (name.length - from_) * (name.length + l.length + 2) + ((name.length - k) + (l.length - at_)) ∧ Fit l name at_ k back from_ ∧ f 0 = .lst (encL l) ∧ f 1 = .str name ∧ f 5 = .int .i64 at_ ∧ f 6 = .int .i64 k ∧
    f 7 = .int .i64 (match back with | none => -1 | some b => (b : Int)) ∧ f 8 = .int .i64 from_ ∧ σ = []) (name.length * (name.length + l.length + 2) + (name.length + l.length)) ⟨0, 0, none, 0, by simp, Fit.init _ _, by simp⟩ ?_
  rintro n f σ ⟨at_, k, back, from_, rfl, hfit, h0, h1, h5, h6, h7, h8, rfl⟩
  have hat := hfit.hat
  have hk := hfit.hk
  have hfk := hfit.hfk
  simp [h1, h6]
  refine cb_dec (fun hlt => ?_) (fun hge => ?_)
  · have hlt' : k < name.length := by omega
    have hc : name[k]? = some name[k] := List.getElem?_eq_getElem hlt'
    have hmul : ∀ a b : Nat, a ≤ b → a * (name.length + l.length + 2) ≤ b * (name.length + l.length + 2) := fun a b h => Nat.mul_le_mul_right _ h
    simp [h0, h5, encL_length]
    by_cases ha : at_ < l.length
    · obtain ⟨p, hp⟩ : ∃ p, l[at_]? = some p := ⟨_, List.getElem?_eq_getElem ha⟩
      have hm : p ∈ l := List.mem_of_getElem? hp
      have hge := encL_get hp
      obtain ⟨hx, hga⟩ := List.getElem?_eq_some_iff.1 hge
      by_cases hs : p.kind = 2
      · have hps := kind2.1 hs
        subst hps
        simp [ha, h0, h1, h5, h6, hge, encL_length, hga, Pc.enc, hs]
        refine ⟨_, ?_, at_ + 1, k, some at_, k, rfl, hfit.atStar hp, by rw [wrap_i64 (by omega) (by omega)]; simp, rfl, rfl, rfl⟩
        have := hmul (name.length - k) (name.length - from_) (by omega)
        omega
      · have hps : p ≠ .star := fun h => hs (kind2.2 h)
        have hs : ¬ ((p.kind : Int) = 2) := by omega
        simp [ha, h0, h1, h5, h6, h8, hge, encL_length, hga, Pc.enc, hs, hc]
        refine qc_same (one_ok p _ (by have := hr p hm; omega)) ?_ ?_ ?_
        · simp
        · simp
        simp
        refine cb_intro (fun h => ?_) (fun h => ?_)
        · simp [h0, h1, h5, h6, h7, h8]
          refine ⟨_, ?_, at_ + 1, k + 1, back, from_, rfl, hfit.step hp hps hc h, by rw [wrap_i64 (by omega) (by omega)]; simp, by rw [wrap_i64 (by omega) (by omega)]; simp, rfl, rfl⟩
          omega
        · have hst : Stuck l name at_ k := ⟨_, hc, .inr ⟨p, hp, hps, h⟩⟩
          cases back with
          | none =>
            simp [h7, hfit.no hst]
          | some b =>
            have hb := (hfit.f1 b rfl).1
            have h7' : f 7 = .int .i64 (b : Int) := h7
            simp [h0, h1, h7', h8]
            refine ⟨_, ?_, b + 1, from_ + 1, some b, from_ + 1, rfl, hfit.back hst, by rw [wrap_i64 (by omega) (by omega)]; simp, by rw [wrap_i64 (by omega) (by omega)]; simp, rfl, by rw [wrap_i64 (by omega) (by omega)]; simp⟩
            have e : name.length - from_ = (name.length - (from_ + 1)) + 1 := by omega
            rw [e, Nat.add_mul]
            omega
    · have ha' : ¬ at_ < l.length := ha
      simp [ha, h0, h5, encL_length]
      have hst : Stuck l name at_ k := ⟨_, hc, .inl (List.getElem?_eq_none (by omega))⟩
      cases back with
      | none =>
        simp [h7, hfit.no hst]
      | some b =>
        have hb := (hfit.f1 b rfl).1
        have h7' : f 7 = .int .i64 (b : Int) := h7
        simp [h0, h1, h7', h8]
        refine ⟨_, ?_, b + 1, from_ + 1, some b, from_ + 1, rfl, hfit.back hst, by rw [wrap_i64 (by omega) (by omega)]; simp, by rw [wrap_i64 (by omega) (by omega)]; simp, rfl, by rw [wrap_i64 (by omega) (by omega)]; simp⟩
        have e : name.length - from_ = (name.length - (from_ + 1)) + 1 := by omega
        rw [e, Nat.add_mul]
        omega
  · have ek : k = name.length := by omega
    subst ek
    have hd := hfit.done
    clear hfit h7 h6 h8
    simp
    refine lp_start (fun n f σ => ∃ i : Nat, n = l.length - i ∧ i ≤ l.length ∧ f 0 = .lst (encL l) ∧ f 5 = .int .i64 i ∧ mt l name = mt (l.drop i) [] ∧ σ = []) (l.length - at_) ⟨at_, by simp [h0, h5, hat, hd]⟩ ?_
    clear h0 h1 h5
    rintro n f σ ⟨i, rfl, hi, h0, h5, hmt, rfl⟩
    simp [h0, h5, encL_length]
    by_cases ha : i < l.length
    · obtain ⟨p, hp⟩ : ∃ p, l[i]? = some p := ⟨_, List.getElem?_eq_getElem ha⟩
      have hge := encL_get hp
      obtain ⟨hx, hga⟩ := List.getElem?_eq_some_iff.1 hge
      rw [drop_cons hp] at hmt
      by_cases hs : p.kind = 2
      · have hps := kind2.1 hs
        subst hps
        simp [ha, h0, h5, hge, encL_length, hga, Pc.enc, hs]
        refine ⟨_, ?_, i + 1, rfl, by omega, by rw [wrap_i64 (by omega) (by omega)]; simp, ?_⟩
        · omega
        · rw [hmt, mt_star]; simp
      · have hps : p ≠ .star := fun h => hs (kind2.2 h)
        have hs : ¬ ((p.kind : Int) = 2) := by omega
        simp [ha, h0, h5, hge, encL_length, hga, Pc.enc, hs]
        rw [hmt, mt_other_nil hps]
        simp
        omega
    · have e : l.drop i = [] := List.drop_eq_nil_of_le (by omega)
      rw [e] at hmt
      simp [ha, h0, h5, encL_length]
      rw [hmt]
      simp [mt_nil]
      omega
end Go.Proofs.YtjpjmdjjgfllhaaGreatDoor
end
section
namespace Go.Proofs.YtjpjmdjjgfllhaaGreatDoor
open Go.Abs Go.Glob
variable {G : Globs}
/-- A parser. -/
def PV (text : List UInt8) (k : Nat) (bad : Bool) (depth deepest : Int) : Entry := .var 144 [.str text, .int .i64 k, .bool bad, .int .i64 depth, .int .i64 deepest]
theorem PV_under (text : List UInt8) (k : Nat) (bad : Bool) (depth deepest : Int) (m : Nat) : (PV text k bad depth deepest).under m = true := by simp [PV, Entry.under]
theorem set_get {σ : Store} {id : Nat} (hid : id < σ.length) (e : Entry) (l : Store) : (σ.set id e ++ l)[id]? = some e := by
  rw [List.getElem?_append_left (by simpa using hid)]; simp [hid]
theorem set_get' {σ : Store} {id : Nat} (hid : id < σ.length) (e : Entry) : (σ.set id e)[id]? = some e := by simp [hid]
theorem set_set {σ : Store} {id : Nat} (hid : id < σ.length) (e e' : Entry) (l : Store) : (σ.set id e ++ l).set id e' = σ.set id e' ++ l := by
  rw [List.set_append_left _ _ (by simpa using hid), List.set_set]
theorem get_0 {σ : Store} (id : Nat) (e a : Entry) (l : Store) : (σ.set id e ++ a :: l)[σ.length]? = some a := by
  rw [List.getElem?_append_right (by simp)]; simp
theorem get_1 {σ : Store} (id : Nat) (e a b : Entry) (l : Store) : (σ.set id e ++ a :: b :: l)[σ.length + 1]? = some b := by
  rw [List.getElem?_append_right (by simp)]; simp
theorem set_0 {σ : Store} (id : Nat) (e a a' : Entry) (l : Store) : (σ.set id e ++ a :: l).set σ.length a' = σ.set id e ++ a' :: l := by
  rw [List.set_append_right _ _ (by simp)]; simp
theorem set_1 {σ : Store} (id : Nat) (e a b b' : Entry) (l : Store) : (σ.set id e ++ a :: b :: l).set (σ.length + 1) b' = σ.set id e ++ a :: b' :: l := by
  rw [List.set_append_right _ _ (by simp)]; simp
theorem class_ok {σ : Store} {id : Nat} (hid : id < σ.length) (text : List UInt8) (at_ : Nat) (depth deepest : Int) (h1 : 1 ≤ at_) (h2 : at_ ≤ text.length) (h3 : text.length ≤ 1000000) (n : Nat) (hn : text.length - at_ < n) :
    ACalls Tryz.prog n_glob_parser_class [.ptr id 0] (σ.set id (PV text at_ false depth deepest)) (fun r σ' =>
      match cls n false (text.drop at_) with
      | some (rs, r') => r = .agg (Pc.cls rs ((text.drop (at_ - 1)).take (text.length - at_ + 1 - r'.length))).enc ∧ σ' = σ.set id (PV text (text.length - r'.length) false depth deepest)
      | none => ∃ rs k, k ≤ text.length ∧ r = .agg (Pc.cls rs []).enc ∧ σ' = σ.set id (PV text k true depth deepest)) := by
  refine acalls_of_awp_e hmix c_glob_parser_class rfl ?_
  have g0 := @set_get σ id hid
  have g00 := @set_get' σ id hid
  have q0 := @set_set σ id hid
  have hw1 : IntKind.i64.wrap ((at_ : Int) - 1) = (at_ : Int) - 1 := wrap_i64 (by omega) (by omega)
  simp [a_glob_parser_class, g0, g00, PV, hw1, get_0, get_1, set_0, set_1]
  refine lp_startx (fun x f σ' => ∃ (k : Nat) (rs : List (UInt8 × UInt8)) (m : Nat), x = text.length - k ∧ at_ ≤ k ∧ k ≤ text.length ∧ text.length - k < m ∧ rs.length ≤ k ∧
    cls n false (text.drop at_) = ((cls m (!rs.isEmpty) (text.drop k)).map fun x => (rs ++ x.1, x.2)) ∧ f 0 = .ptr id 0 ∧ f 2 = .ptr σ.length 0 ∧ f 3 = .int .i64 ((at_ : Int) - 1) ∧ f 4 = .ptr (σ.length + 1) 0 ∧
    σ' = σ.set id (PV text k false depth deepest) ++ .var 150 [.int .i64 0, .int .u8 0, .nils, .nils, .str []] :: .var 150 [.int .i64 3, .int .u8 0, rowV (σ.length + 2) (encRg rs), .nils, .str []] :: rowE 164 2 (encRg rs) true) (text.length - at_) ?_ ?_
  · refine ⟨at_, [], n, rfl, Nat.le_refl _, h2, hn, by simp, ?_, ?_⟩
    · simp
    · simp [PV, encRg, rowV, rowE]
  · rintro x f σ' ⟨k, rs, m, rfl, hk1, hk2, hm, hrk, hcls, h0, h2, h3', h4, rfl⟩
    have hview : ∀ e a b, view (σ.set id e ++ a :: b :: rowE 164 2 (encRg rs) true) (rowV (σ.length + 2) (encRg rs)) = some (encRg rs) := fun e a b => by
      have := view_acc (σ := σ.set id e ++ [a, b]) (e := 164) (size := 2) (l := encRg rs) (im := true)
      simpa using this
    have hfin : ∀ e a b, fin1 (σ.set id e ++ a :: b :: rowE 164 2 (encRg rs) true) σ.length (rowV (σ.length + 2) (encRg rs)) = some (.lst (encRg rs)) := fun e a b => by
      have := fin1_acc (σ := σ.set id e ++ [a, b]) (e := 164) (size := 2) (l := encRg rs) (m := σ.length)
      simpa using this
    simp [h0]
    by_cases hlt : k < text.length
    · have hlt' : k < text.length := hlt
      obtain ⟨c, hc⟩ : ∃ c, text[k]? = some c := ⟨_, List.getElem?_eq_getElem hlt⟩
      have hd := drop_cons hc
      have hrs : (encRg rs).length = rs.length := by simp [encRg]
      obtain ⟨m, rfl⟩ : ∃ j, m = j + 1 := ⟨m - 1, by omega⟩
      refine ac_lent (peek_some text k c _ _ _ hc) (.cons (coe_ptr (g0 _ _) (by simp) rfl) .nil) ?_
      rintro r rfl
      refine ⟨by simp, ?_⟩
      have hwk : IntKind.i64.wrap ((k : Int) + 1) = (k : Int) + 1 := wrap_i64 (by omega) (by omega)
      have hw2 : IntKind.i64.wrap ((k : Int) + 1 + 1) = (k : Int) + 1 + 1 := wrap_i64 (by omega) (by omega)
      have ht2 : ((k : Int) + 1 + 1).toNat = k + 1 + 1 := by omega
      have hp1 : (0 : Int) ≤ (k : Int) + 1 := by omega
      have hp2 : (0 : Int) ≤ (k : Int) + 1 + 1 := by omega
      have hw3 : IntKind.i64.wrap ((k : Int) + 1 + 2) = (k : Int) + 3 := by rw [wrap_i64 (by omega) (by omega)]; omega
      rw [hd] at hcls
      by_cases hc1 : c = 93 ∧ rs ≠ []
      · obtain ⟨rfl, hr0⟩ := hc1
        have hpos : 0 < rs.length := List.length_pos_iff.2 hr0
        have f1 : (0 : Int) ≤ (k : Int) + 1 := by omega
        have f2 : (1 : Int) ≤ (at_ : Int) := by omega
        have f3 : k + 1 ≤ text.length := by omega
        have f4 : at_ ≤ k + 1 + 1 := by omega
        simp [h0, g0, q0, PV, h4, h2, h3', get_1, set_0, get_0, set_1, hview, hrs, hpos, hwk, f1, f2, f3, f4]
        refine er_set id (PV text (k + 1) false depth deepest) (.agg (Pc.cls rs ((text.drop (at_ - 1)).take (text.length - at_ + 1 - (text.length - (k + 1))))).enc) (.var 150 [.int .i64 3, .int .u8 0, rowV (σ.length + 2) (encRg rs), .nils, .str ((text.take (k + 1)).drop (at_ - 1))] :: .var 150 [.int .i64 3, .int .u8 0, rowV (σ.length + 2) (encRg rs), .nils, .str ((text.take (k + 1)).drop (at_ - 1))] :: rowE 164 2 (encRg rs) true) ?_ ?_ ?_ ?_
        · simp [retAt, a_glob_parser_class, h2, get_0, hfin, Pc.enc, Pc.kind, Pc.low, Pc.rs, Pc.alts, Pc.text, encA]
          rw [List.drop_take]
          congr 1
          omega
        · rfl
        · exact PV_under _ _ _ _ _ _
        · rw [hcls]
          have : (!rs.isEmpty) = true := by simpa using hr0
          simp only [cls, this, and_self, if_true, Option.map_some, List.append_nil, List.length_drop]
          have e : text.length - (text.length - (k + 1)) = k + 1 := by omega
          simp [PV, e]
      · have hst : ∀ e a b l, σ.set id e ++ a :: b :: l = (σ.set id e ++ [a, b]) ++ l := fun e a b l => by simp
        have hap : ∀ {K : AV → Store → Prop} {t : Tg K} {e a b : Entry} (c h : UInt8), K (rowV (σ.length + 2) (encRg (rs ++ [(c, h)]))) (σ.set id e ++ a :: b :: rowE 164 2 (encRg (rs ++ [(c, h)])) true) →
            ap K t (σ.set id e ++ a :: b :: rowE 164 2 (encRg rs) true) 164 2 2 (rowV (σ.length + 2) (encRg rs)) (.lst [[.int .u8 c.toNat, .int .u8 h.toNat]]) := by
          intro K t e a b c h hK
          have e1 : encRg (rs ++ [(c, h)]) = encRg rs ++ [[.int .u8 c.toNat, .int .u8 h.toNat]] := by simp [encRg]
          rw [hst, e1] at hK
          rw [hst]
          exact ap_acc_at (by simp) (encRg rs) [[.int .u8 c.toNat, .int .u8 h.toNat]] true (by omega) (by simp) (by simp) (by simp [hrs]; omega) (by simp [hrs]; omega) hK
        have hne : ¬ (c = 93 ∧ (!rs.isEmpty) = true) := fun h => hc1 ⟨h.1, by simpa using h.2⟩
        by_cases h93 : c = 93
        · have hr0 : rs = [] := Classical.byContradiction fun h => hc1 ⟨h93, h⟩
          subst hr0
          have hnb : nb c = false := by rw [h93]; decide
          subst h93
          simp [h0, g0, q0, PV, h4, h2, h3', get_1, set_0, get_0, set_1, hview, hrs]
          refine ac_same (byte_ok 93) (by simp) ?_
          rintro r rfl
          simp [h0, g0, q0, PV, h4, h2, h3', get_1, set_0, get_0, set_1, hnb]
          refine er_set id (PV text k true depth deepest) (.agg (Pc.cls [] []).enc) (.var 150 [.int .i64 3, .int .u8 0, rowV (σ.length + 2) (encRg []), .nils, .str []] :: .var 150 [.int .i64 3, .int .u8 0, rowV (σ.length + 2) (encRg []), .nils, .str []] :: rowE 164 2 (encRg []) true) ?_ ?_ ?_ ?_
          · simp [retAt, a_glob_parser_class, h2, get_0, hfin, Pc.enc, Pc.kind, Pc.low, Pc.rs, Pc.alts, Pc.text, encA]
          · rfl
          · exact PV_under _ _ _ _ _ _
          · rw [hcls, cls_no hne hnb]
            exact ⟨[], k, hk2, rfl, rfl⟩
        · have h93' : ¬ ((c.toNat : Int) = 93) := fun h => h93 (UInt8.toNat_inj.1 (show c.toNat = 93 by omega))
          simp [h0, g0, q0, PV, h4, h2, h3', get_1, set_0, get_0, set_1, hview, hrs, h93']
          refine ac_same (byte_ok c) (by simp) ?_
          rintro r rfl
          by_cases hnb : nb c = true
          · simp [h0, g0, q0, PV, h4, h2, h3', get_1, set_0, get_0, set_1, hnb, hwk, hw2, hw3, hp1, hp2, ht2]
            by_cases hk2' : k + 2 < text.length
            · obtain ⟨d, hdd⟩ : ∃ d, text[k + 1]? = some d := ⟨_, List.getElem?_eq_getElem (by omega)⟩
              obtain ⟨h, hhh⟩ : ∃ h, text[k + 1 + 1]? = some h := ⟨_, List.getElem?_eq_getElem (by omega)⟩
              have hd2 : text.drop (k + 1) = d :: h :: text.drop (k + 3) := by rw [drop_cons hdd, drop_cons hhh]
              have hk3 : (k : Int) + 1 + 1 < text.length := by omega
              simp [h0, g0, q0, PV, h4, h2, h3', get_1, set_0, get_0, set_1, hnb, hwk, hw2, hw3, hp1, hp2, ht2, hk3, hdd]
              by_cases h45 : d = 45
              · have h45' : (d.toNat : Int) = 45 := by rw [h45]; rfl
                simp [h0, g0, q0, PV, h4, h2, h3', get_1, set_0, get_0, set_1, hnb, hwk, hw2, hw3, hp1, hp2, ht2, h45', hhh]
                refine qc_same (byte_ok h) (by simp) (by simp) ?_
                by_cases hnh : nb h = true
                · have hr : rng (text.drop (k + 1)) = some (h, text.drop (k + 3)) := by rw [hd2]; simp [rng, h45, hnh]
                  simp [h0, g0, q0, PV, h4, h2, h3', get_1, set_0, get_0, set_1, hnb, hwk, hw2, hw3, hp1, hp2, ht2, h45', hnh, hhh]
                  by_cases hlt2 : h < c
                  · have hlt3 : h.toNat < c.toNat := UInt8.lt_iff_toNat_lt.1 hlt2
                    have hlt3' : (h.toNat : Int) < c.toNat := by omega
                    simp [h0, g0, q0, PV, h4, h2, h3', get_1, set_0, get_0, set_1, hnb, hwk, hw2, hw3, hp1, hp2, ht2, h45', hhh, hlt3, hlt3']
                    refine er_set id (PV text (k + 3) true depth deepest) (.agg (Pc.cls rs []).enc) (.var 150 [.int .i64 3, .int .u8 0, rowV (σ.length + 2) (encRg rs), .nils, .str []] :: .var 150 [.int .i64 3, .int .u8 0, rowV (σ.length + 2) (encRg rs), .nils, .str []] :: rowE 164 2 (encRg rs) true) ?_ ?_ ?_ ?_
                    · simp [retAt, a_glob_parser_class, h2, get_0, hfin, Pc.enc, Pc.kind, Pc.low, Pc.rs, Pc.alts, Pc.text, encA]
                    · simp [PV]
                    · exact PV_under _ _ _ _ _ _
                    · rw [hcls, cls_step hne hnb, hr]
                      simp only [if_pos hlt2]
                      exact ⟨rs, k + 3, by omega, rfl, rfl⟩
                  · have hlt3 : ¬ h.toNat < c.toNat := fun hx => hlt2 (UInt8.lt_iff_toNat_lt.2 hx)
                    have hlt3' : ¬ (h.toNat : Int) < c.toNat := by omega
                    simp [h0, g0, q0, PV, h4, h2, h3', get_1, set_0, get_0, set_1, hnb, hwk, hw2, hw3, hp1, hp2, ht2, h45', hhh, hlt3, hlt3']
                    refine hap c h ?_
                    simp [h0, g0, q0, PV, h4, h2, h3', get_1, set_0, get_0, set_1, hnb, hwk, hw2, hw3, hp1, hp2, ht2, h45']
                    refine nx_intro (text.length - (k + 3)) (by omega) ⟨k + 3, rs ++ [(c, h)], m, rfl, by omega, by omega, by omega, by simp; omega, ?_, by simp [h0], by simp [h2], by simp [h3'], by simp [h4], by simp [PV]⟩
                    rw [hcls, cls_step hne hnb, hr]
                    have hq : (!(rs ++ [(c, h)]).isEmpty) = true := by simp
                    rw [hq]
                    simp only [if_neg hlt2]
                    cases cls m true (text.drop (k + 3)) <;> simp
                · have hr : rng (text.drop (k + 1)) = none := by rw [hd2]; simp [rng, hnh]
                  simp [h0, g0, q0, PV, h4, h2, h3', get_1, set_0, get_0, set_1, hnb, hwk, hw2, hw3, hp1, hp2, ht2, h45', hnh]
                  refine hap c c ?_
                  simp [h0, g0, q0, PV, h4, h2, h3', get_1, set_0, get_0, set_1, hnb, hwk, hw2, hw3, hp1, hp2, ht2, h45']
                  refine nx_intro (text.length - (k + 1)) (by omega) ⟨k + 1, rs ++ [(c, c)], m, rfl, by omega, by omega, by omega, by simp; omega, ?_, by simp [h0], by simp [h2], by simp [h3'], by simp [h4], by simp [PV]⟩
                  rw [hcls, cls_step hne hnb, hr]
                  have hq : (!(rs ++ [(c, c)]).isEmpty) = true := by simp
                  rw [hq]
                  cases cls m true (text.drop (k + 1)) <;> simp
              · have h45' : ¬ (d.toNat : Int) = 45 := fun hx => h45 (UInt8.toNat_inj.1 (show d.toNat = 45 by omega))
                have hr : rng (text.drop (k + 1)) = none := by rw [hd2]; simp [rng, h45]
                simp [h0, g0, q0, PV, h4, h2, h3', get_1, set_0, get_0, set_1, hnb, hwk, hw2, hw3, hp1, hp2, ht2, h45']
                refine hap c c ?_
                simp [h0, g0, q0, PV, h4, h2, h3', get_1, set_0, get_0, set_1, hnb, hwk, hw2, hw3, hp1, hp2, ht2]
                refine nx_intro (text.length - (k + 1)) (by omega) ⟨k + 1, rs ++ [(c, c)], m, rfl, by omega, by omega, by omega, by simp; omega, ?_, by simp [h0], by simp [h2], by simp [h3'], by simp [h4], by simp [PV]⟩
                rw [hcls, cls_step hne hnb, hr]
                have hq : (!(rs ++ [(c, c)]).isEmpty) = true := by simp
                rw [hq]
                cases cls m true (text.drop (k + 1)) <;> simp
            · have hr : rng (text.drop (k + 1)) = none := by
                have hl : (text.drop (k + 1)).length ≤ 1 := by simp; omega
                match text.drop (k + 1), hl with
                | [], _ => rfl
                | [_], _ => rfl
              have hk3 : ¬ (k : Int) + 1 + 1 < text.length := by omega
              simp [h0, g0, q0, PV, h4, h2, h3', get_1, set_0, get_0, set_1, hnb, hwk, hw2, hw3, hp1, hp2, ht2, hk3]
              refine hap c c ?_
              simp [h0, g0, q0, PV, h4, h2, h3', get_1, set_0, get_0, set_1, hnb, hwk, hw2, hw3, hp1, hp2, ht2]
              refine nx_intro (text.length - (k + 1)) (by omega) ⟨k + 1, rs ++ [(c, c)], m, rfl, by omega, by omega, by omega, by simp; omega, ?_, by simp [h0], by simp [h2], by simp [h3'], by simp [h4], by simp [PV]⟩
              rw [hcls, cls_step hne hnb, hr]
              have hq : (!(rs ++ [(c, c)]).isEmpty) = true := by simp
              rw [hq]
              cases cls m true (text.drop (k + 1)) <;> simp
          · simp only [Bool.not_eq_true] at hnb
            simp [h0, g0, q0, PV, h4, h2, h3', get_1, set_0, get_0, set_1, hnb]
            refine er_set id (PV text k true depth deepest) (.agg (Pc.cls rs []).enc) (.var 150 [.int .i64 3, .int .u8 0, rowV (σ.length + 2) (encRg rs), .nils, .str []] :: .var 150 [.int .i64 3, .int .u8 0, rowV (σ.length + 2) (encRg rs), .nils, .str []] :: rowE 164 2 (encRg rs) true) ?_ ?_ ?_ ?_
            · simp [retAt, a_glob_parser_class, h2, get_0, hfin, Pc.enc, Pc.kind, Pc.low, Pc.rs, Pc.alts, Pc.text, encA]
            · rfl
            · exact PV_under _ _ _ _ _ _
            · rw [hcls, cls_no hne hnb]
              exact ⟨rs, k, hk2, rfl, rfl⟩
    · refine ac_lent (peek_none text k _ _ _ (by omega)) (.cons (coe_ptr (g0 _ _) (by simp) rfl) .nil) ?_
      rintro r rfl
      refine ⟨by simp, ?_⟩
      simp [h0, g0, q0, PV, h4, h2, get_1, set_0, get_0]
      refine er_set id (PV text k true depth deepest) (.agg (Pc.cls rs []).enc) (.var 150 [.int .i64 3, .int .u8 0, rowV (σ.length + 2) (encRg rs), .nils, .str []] :: .var 150 [.int .i64 3, .int .u8 0, rowV (σ.length + 2) (encRg rs), .nils, .str []] :: rowE 164 2 (encRg rs) true) ?_ ?_ ?_ ?_
      · simp [retAt, a_glob_parser_class, h2, get_0, hfin, Pc.enc, Pc.kind, Pc.low, Pc.rs, Pc.alts, Pc.text, encA]
      · rfl
      · exact PV_under _ _ _ _ _ _
      · obtain ⟨m, rfl⟩ : ∃ j, m = j + 1 := ⟨m - 1, by omega⟩
        rw [hcls, List.drop_eq_nil_of_le (by omega)]
        exact ⟨rs, k, hk2, rfl, rfl⟩
end Go.Proofs.YtjpjmdjjgfllhaaGreatDoor
end
section
namespace Go.Proofs.YtjpjmdjjgfllhaaGreatDoor
open Go.Abs Go.Glob
variable {G : Globs}
def PieceR (σ : Store) (id : Nat) (text : List UInt8) (depth deepest : Int) (x : Option (List Pc × List UInt8 × Nat)) (r : AV) (σ' : Store) : Prop :=
  match x with
  | some (l, r', d) => r = .lst (encL l) ∧ σ' = σ.set id (PV text (text.length - r'.length) false depth (max deepest (depth + d)))
  | none => ∃ els k dp, k ≤ text.length ∧ r = .lst els ∧ σ' = σ.set id (PV text k true depth dp)
def BraceR (σ : Store) (id : Nat) (text : List UInt8) (depth deepest : Int) (x : Option (List (List Pc) × List UInt8 × Nat)) (r : AV) (σ' : Store) : Prop :=
  match x with
  | some (l, r', d) => r = .agg (Pc.br l).enc ∧ σ' = σ.set id (PV text (text.length - r'.length) false depth (max deepest (depth + (d + 1 : Nat))))
  | none => ∃ els k dp, k ≤ text.length ∧ r = .agg [.int .i64 4, .int .u8 0, .lst [], .lst els, .str []] ∧ σ' = σ.set id (PV text k true depth dp)
def PiecesAt [Globs] (L : Nat) : Prop := ∀ (σ : Store) (id : Nat) (text : List UInt8) (at_ : Nat) (depth deepest : Int) (n : Nat), id < σ.length → at_ ≤ text.length → text.length - at_ = L → text.length ≤ 1000000 → 0 ≤ depth → depth + (text.length - at_ : Nat) ≤ 2000000 → depth ≤ deepest → 2 * (text.length - at_) + 1 ≤ n →
  ACalls Tryz.prog n_glob_parser_pieces [.ptr id 0] (σ.set id (PV text at_ false depth deepest)) (PieceR σ id text depth deepest (pcs n (text.drop at_)))
def BracesAt [Globs] (L : Nat) : Prop := ∀ (σ : Store) (id : Nat) (text : List UInt8) (at_ : Nat) (depth deepest : Int) (n : Nat), id < σ.length → at_ ≤ text.length → text.length - at_ = L → text.length ≤ 1000000 → 0 ≤ depth → depth + 1 + (text.length - at_ : Nat) ≤ 2000000 → depth ≤ deepest → 2 * (text.length - at_) + 2 ≤ n →
  ACalls Tryz.prog n_glob_parser_braces [.ptr id 0] (σ.set id (PV text at_ false depth deepest)) (BraceR σ id text depth deepest (alts n (text.drop at_)))
theorem get_2 {σ : Store} (id : Nat) (e a b c : Entry) (l : Store) : (σ.set id e ++ a :: b :: c :: l)[σ.length + 2]? = some c := by
  rw [List.getElem?_append_right (by simp)]; simp
theorem set_2 {σ : Store} (id : Nat) (e a b c c' : Entry) (l : Store) : (σ.set id e ++ a :: b :: c :: l).set (σ.length + 2) c' = σ.set id e ++ a :: b :: c' :: l := by
  rw [List.set_append_right _ _ (by simp)]; simp
theorem braces_of (L : Nat) (hP : ∀ L', L' ≤ L → PiecesAt L') : BracesAt L := by
  intro σ id text at_ depth deepest n hid h1 hL h3 hd0 hdm hdd hn
  refine acalls_of_awp_de hmix c_glob_parser_braces rfl ?_
  have g0 := @set_get σ id hid
  have g00 := @set_get' σ id hid
  have q0 := @set_set σ id hid
  have hw1 : IntKind.i64.wrap (depth + 1) = depth + 1 := wrap_i64 (by omega) (by omega)
  simp [a_glob_parser_braces, g0, g00, PV, hw1, get_0, get_1, set_0, set_1, get_2, set_2, q0]
  refine edm_intro n_glob_parser_braces_1 [.ptr σ.length 0] (by simp) b_glob_parser_braces_1 ?_
  simp
  refine lp_startx (fun x f σ' => ∃ (k : Nat) (xs : List (List Pc)) (d0 m : Nat), x = text.length - k ∧ at_ ≤ k ∧ k ≤ text.length ∧ 2 * (text.length - k) + 2 ≤ m ∧ xs.length ≤ k ∧
    alts n (text.drop at_) = ((alts m (text.drop k)).map fun y => (xs ++ y.1, y.2.1, max d0 y.2.2)) ∧ f 1 = .ptr σ.length 0 ∧ f 2 = .ptr (σ.length + 1) 0 ∧ f 3 = .ptr (σ.length + 2) 0 ∧
    σ' = σ.set id (PV text k false (depth + 1) (max deepest (depth + 1 + (d0 : Nat)))) ++ .var 142 [.ptr id 0] :: .var 150 [.int .i64 0, .int .u8 0, .nils, .nils, .str []] :: .var 150 [.int .i64 4, .int .u8 0, .nils, rowV (σ.length + 3) (encA xs), .str []] :: rowE 117 1 (encA xs) true) (text.length - at_) ?_ ?_
  · refine ⟨at_, [], 0, n, rfl, Nat.le_refl _, h1, hn, by simp, ?_, by simp, by simp, by simp, ?_⟩
    · simp
    · have : (max deepest (depth + 1)) = (if deepest < depth + 1 then depth + 1 else deepest) := by
        rw [Int.max_def]; split <;> split <;> omega
      simp [PV, encA, rowV, rowE, this]
  rintro x f σ' ⟨k, xs, d0, m, rfl, hk1, hk2, hm, hxk, halts, h1', h2', h3', rfl⟩
  have hst : ∀ e a b c l, σ.set id e ++ a :: b :: c :: l = (σ.set id e ++ [a, b, c]) ++ l := fun e a b c l => by simp
  have hxl : ∀ xs, (encA xs).length = xs.length := encA_length
  have hap : ∀ {K : AV → Store → Prop} {t : Tg K} {e a b c : Entry} (y : List (List AV)), K (rowV (σ.length + 3) (encA xs ++ [[.lst y]])) (σ.set id e ++ a :: b :: c :: rowE 117 1 (encA xs ++ [[.lst y]]) true) →
      ap K t (σ.set id e ++ a :: b :: c :: rowE 117 1 (encA xs) true) 117 1 24 (rowV (σ.length + 3) (encA xs)) (.lst [[.lst y]]) := by
    intro K t e a b c y hK
    rw [hst] at hK
    rw [hst]
    exact ap_acc_at (by simp) (encA xs) [[.lst y]] true (by omega) (by simp) (by simp) (by simp [hxl]; omega) (by simp [hxl]; omega) hK
  have hfin : ∀ e a b c (l : List (List AV)), fin1 (σ.set id e ++ a :: b :: c :: rowE 117 1 l true) σ.length (rowV (σ.length + 3) l) = some (.lst l) := fun e a b c l => by
    rw [hst]; exact fin1_acc_at (by simp)
  -- the function's end
  have hend : ∀ {f' : Abs.Frame} {tf : Tg f'} (k' : Nat) (bad : Bool) (dp : Int) (c1 : Entry) (l : List (List AV)) (σ' : Store), f' 2 = .ptr (σ.length + 1) 0 →
      BraceR σ id text depth deepest (alts n (text.drop at_)) (.agg [.int .i64 4, .int .u8 0, .lst [], .lst l, .str []]) (σ.set id (PV text k' bad depth dp)) →
      σ' = σ.set id (PV text k' bad (depth + 1) dp) ++ .var 142 [.ptr id 0] :: .var 150 [.int .i64 4, .int .u8 0, .nils, rowV (σ.length + 3) l, .str []] :: c1 :: rowE 117 1 l true →
      edp Tryz.prog n_glob_parser_braces_1 [.ptr σ.length 0] (σ.set id (PV text at_ false depth deepest)) (BraceR σ id text depth deepest (alts n (text.drop at_))) (.mk _) a_glob_parser_braces.res f' tf σ' := by
    intro f' tf k' bad dp c1 l σ' hf2 hR hσ'
    subst hσ'
    refine edp_of hmix c_glob_parser_braces_1 rfl ?_
    have hw2 : IntKind.i64.wrap depth = depth := wrap_i64 (by omega) (by omega)
    simp [a_glob_parser_braces_1, g0, q0, PV, get_0, hw2]
    rw [set_app _ hid, set_app _ hid]
    refine er_set' id (PV text k' bad depth dp) (.tup []) (by simp [retAt]) rfl (PV_under _ _ _ _ _ _) ?_
    rw [← set_app _ hid]
    refine er_set id (PV text k' bad depth dp) (.agg [.int .i64 4, .int .u8 0, .lst [], .lst l, .str []]) (.var 142 [.ptr id 0] :: .var 150 [.int .i64 4, .int .u8 0, .nils, rowV (σ.length + 3) l, .str []] :: c1 :: rowE 117 1 l true) ?_ rfl (PV_under _ _ _ _ _ _) hR
    simp [retAt, a_glob_parser_braces, hf2, get_1, hfin]
  obtain ⟨m, rfl⟩ : ∃ j, m = j + 1 := ⟨m - 1, by omega⟩
  rw [alts_step] at halts
  have hset : ∀ e X, (σ ++ X).set id e = σ.set id e ++ X := fun e X => (set_app e hid).symm
  have hcall : ∀ (X : Store), ACalls Tryz.prog n_glob_parser_pieces [.ptr id 0] (σ.set id (PV text k false (depth + 1) (max deepest (depth + 1 + (d0 : Nat)))) ++ X) (fun r σ' => match pcs m (text.drop k) with
      | some (l, r', d) => r = .lst (encL l) ∧ σ' = σ.set id (PV text (text.length - r'.length) false (depth + 1) (max (max deepest (depth + 1 + (d0 : Nat))) (depth + 1 + (d : Nat)))) ++ X
      | none => ∃ els k dp, k ≤ text.length ∧ r = .lst els ∧ σ' = σ.set id (PV text k true (depth + 1) dp) ++ X) := by
    intro X
    have := hP (text.length - k) (by omega) (σ ++ X) id text k (depth + 1) (max deepest (depth + 1 + (d0 : Nat))) m (by simp; omega) hk2 rfl h3 (by omega) (by omega) (by omega) (by omega)
    rw [hset] at this
    refine this.mono ?_
    intro r σ' h
    unfold PieceR at h
    cases hpc : pcs m (text.drop k) with
    | none =>
      rw [hpc] at h
      obtain ⟨els, k, dp, hk, hr, hs⟩ := h
      exact ⟨els, k, dp, hk, hr, by rw [hs, hset]⟩
    | some v =>
      rw [hpc] at h
      exact ⟨h.1, by rw [h.2, hset]⟩
  simp [h1', h2', h3', g0, q0, PV, get_0, get_1, set_0, set_1, get_2, set_2]
  refine ⟨?_, ?_⟩
  all_goals
    try simp [h1', h2', h3', g0, q0, PV, get_0, get_1, set_0, set_1, get_2, set_2]
    refine ac_eff (hcall _) ?_
    rintro r σ' hr
    cases hpc : pcs m (text.drop k) with
    | none =>
      rw [hpc] at hr
      obtain ⟨els, k', dp, hk', rfl, rfl⟩ := hr
      simp [h1', h2', h3', g0, q0, PV, get_0, get_1, set_0, set_1, get_2, set_2]
      refine hap els ?_
      simp [h1', h2', h3', g0, q0, PV, get_0, get_1, set_0, set_1, get_2, set_2]
      by_cases hlt : k' < text.length
      · obtain ⟨c, hc⟩ : ∃ c, text[k']? = some c := ⟨_, List.getElem?_eq_getElem hlt⟩
        refine ac_lent (peek_some text k' c _ _ _ hc) (.cons (coe_ptr (g0 _ _) (by simp) rfl) .nil) ?_
        rintro r rfl
        refine ⟨by simp, ?_⟩
        simp [h1', h2', h3', g0, q0, PV, get_0, get_1, set_0, set_1, get_2, set_2]
        refine hend k' true dp (.var 150 [.int .i64 4, .int .u8 0, .nils, rowV (σ.length + 3) (encA xs ++ [[.lst els]]), .str []]) (encA xs ++ [[.lst els]]) _ (by simp [h2']) ?_ rfl
        rw [halts, hpc]
        exact ⟨_, k', dp, hk', rfl, rfl⟩
      · refine ac_lent (peek_none text k' _ _ _ (by omega)) (.cons (coe_ptr (g0 _ _) (by simp) rfl) .nil) ?_
        rintro r rfl
        refine ⟨by simp, ?_⟩
        simp [h1', h2', h3', g0, q0, PV, get_0, get_1, set_0, set_1, get_2, set_2]
        refine hend k' true dp (.var 150 [.int .i64 4, .int .u8 0, .nils, rowV (σ.length + 3) (encA xs ++ [[.lst els]]), .str []]) (encA xs ++ [[.lst els]]) _ (by simp [h2']) ?_ rfl
        rw [halts, hpc]
        exact ⟨_, k', dp, hk', rfl, rfl⟩
    | some v =>
      obtain ⟨l, r', d⟩ := v
      rw [hpc] at hr
      obtain ⟨rfl, rfl⟩ := hr
      obtain ⟨hdr, hrl⟩ := pcs_drop hpc
      have hencA : encA xs ++ [[.lst (encL l)]] = encA (xs ++ [l]) := by simp [encA_map]
      have hmax : max (max deepest (depth + 1 + (d0 : Nat))) (depth + 1 + (d : Nat)) = max deepest (depth + 1 + (max d0 d : Nat)) := by omega
      rw [hpc] at halts
      simp only [Option.bind_some] at halts
      simp [h1', h2', h3', g0, q0, PV, get_0, get_1, set_0, set_1, get_2, set_2]
      refine hap (encL l) ?_
      rw [hencA]
      simp [h1', h2', h3', g0, q0, PV, get_0, get_1, set_0, set_1, get_2, set_2]
      cases r' with
      | nil =>
        refine ac_lent (peek_none text text.length _ _ _ (Nat.le_refl _)) (.cons (coe_ptr (g0 _ _) (by simp) rfl) .nil) ?_
        rintro r rfl
        refine ⟨by simp, ?_⟩
        simp [h1', h2', h3', g0, q0, PV, get_0, get_1, set_0, set_1, get_2, set_2]
        refine hend text.length true _ (.var 150 [.int .i64 4, .int .u8 0, .nils, rowV (σ.length + 3) (encA (xs ++ [l])), .str []]) (encA (xs ++ [l])) _ (by simp [h2']) ?_ rfl
        rw [halts]
        exact ⟨_, text.length, _, Nat.le_refl _, rfl, rfl⟩
      | cons c r' =>
        simp only [List.length_cons] at hdr hrl
        have hc : text[text.length - (r'.length + 1)]? = some c := by
          have := congrArg (fun l => l[0]?) hdr
          simpa using this
        have hk3 : text.length - (r'.length + 1) < text.length := by omega
        have hk4 : text.length - (r'.length + 1) + 1 = text.length - r'.length := by omega
        refine ac_lent (peek_some text (text.length - (r'.length + 1)) c _ _ _ hc) (.cons (coe_ptr (g0 _ _) (by simp) rfl) .nil) ?_
        rintro r rfl
        refine ⟨by simp, ?_⟩
        have hw3 : IntKind.i64.wrap (((text.length - (r'.length + 1) : Nat) : Int) + 1) = ((text.length - r'.length : Nat) : Int) := by rw [wrap_i64 (by omega) (by omega)]; omega
        simp [h1', h2', h3', g0, q0, PV, get_0, get_1, set_0, set_1, get_2, set_2, hw3]
        by_cases h125 : c = 125
        · have h125' : (c.toNat : Int) = 125 := by rw [h125]; rfl
          simp only [if_pos h125] at halts
          simp [h1', h2', h3', g0, q0, PV, get_0, get_1, set_0, set_1, get_2, set_2, h125']
          refine hend (text.length - r'.length) false _ (.var 150 [.int .i64 4, .int .u8 0, .nils, rowV (σ.length + 3) (encA (xs ++ [l])), .str []]) (encA (xs ++ [l])) _ (by simp [h2']) ?_ rfl
          rw [halts]
          refine ⟨by simp [Pc.enc, Pc.kind, Pc.low, Pc.rs, Pc.alts, Pc.text, encRg], ?_⟩
          have e : max deepest (depth + 1 + max (d0 : Int) (d : Int)) = max deepest (depth + (max d0 d + 1 : Nat)) := by omega
          rw [e]
        · have h125' : ¬ (c.toNat : Int) = 125 := fun hx => h125 (UInt8.toNat_inj.1 (show c.toNat = 125 by omega))
          simp only [if_neg h125] at halts
          simp [h1', h2', h3', g0, q0, PV, get_0, get_1, set_0, set_1, get_2, set_2, h125']
          refine nx_intro (text.length - (text.length - r'.length)) (by omega) ⟨text.length - r'.length, xs ++ [l], max d0 d, m, rfl, by omega, by omega, by omega, by simp; omega, ?_, by simp [h1'], by simp [h2'], by simp [h3'], ?_⟩
          · have hdr2 : text.drop (text.length - r'.length) = r' := by
              have := congrArg (List.drop 1) hdr
              rw [List.drop_drop, hk4] at this
              simpa using this
            rw [halts, hdr2]
            cases alts m r' <;> simp [Nat.max_assoc]
          · have e : ((max d0 d : Nat) : Int) = max (d0 : Int) (d : Int) := by omega
            rw [e]
end Go.Proofs.YtjpjmdjjgfllhaaGreatDoor
end
section
namespace Go.Proofs.YtjpjmdjjgfllhaaGreatDoor
open Go.Abs Go.Glob
variable {G : Globs}
def PInv (σ : Store) (id : Nat) (text : List UInt8) (at_ : Nat) (depth deepest : Int) (n : Nat) (x : Nat) (f : Abs.Frame) (σ' : Store) : Prop :=
  ∃ (k : Nat) (bad : Bool) (dp : Int) (acc : List (List AV)), x = (if bad then 0 else text.length - k + 1) ∧ k ≤ text.length ∧ (∀ c ∈ acc, c.length = 5) ∧
    (bad = true → pcs n (text.drop at_) = none) ∧
    (bad = false → at_ ≤ k ∧ acc.length ≤ k ∧ ∃ (ps : List Pc) (d0 m : Nat), acc = encL ps ∧ 2 * (text.length - k) + 1 ≤ m ∧ dp = max deepest (depth + (d0 : Nat)) ∧ pcs n (text.drop at_) = ((pcs m (text.drop k)).map fun y => (ps ++ y.1, y.2.1, max d0 y.2.2))) ∧
    f 0 = .ptr id 0 ∧ f 2 = .nils ∧ f 3 = rowV σ.length acc ∧ σ' = σ.set id (PV text k bad depth dp) ++ rowE 150 5 acc true
theorem pieces_of (L : Nat) (hB : ∀ L', L' < L → BracesAt L') : PiecesAt L := by
  intro σ id text at_ depth deepest n hid h1 hL h3 hd0 hdm hdd hn
  refine acalls_of_awp_e hmix c_glob_parser_pieces rfl ?_
  have g0 := @set_get σ id hid
  have g00 := @set_get' σ id hid
  have q0 := @set_set σ id hid
  have hset : ∀ e X, (σ ++ X).set id e = σ.set id e ++ X := fun e X => (set_app e hid).symm
  simp [a_glob_parser_pieces]
  refine lp_startx (PInv σ id text at_ depth deepest n) (text.length - at_ + 1) ?_ ?_
  · refine ⟨at_, false, deepest, [], by simp, h1, by simp, by simp, fun _ => ⟨Nat.le_refl _, by simp, [], 0, n, by simp [encL], hn, by omega, by simp⟩, by simp, by simp, by simp [rowV], by simp [rowE]⟩
  rintro x f σ' ⟨k, bad, dp, acc, rfl, hk2, h5, hbad, hgood, h0, h2, h3', rfl⟩
  have hend : ∀ {f' : Abs.Frame} {tf : Tg f'} (σ' : Store), f' 2 = rowV σ.length acc → PieceR σ id text depth deepest (pcs n (text.drop at_)) (.lst acc) (σ.set id (PV text k bad depth dp)) → σ' = σ.set id (PV text k bad depth dp) ++ rowE 150 5 acc true →
      er (σ.set id (PV text at_ false depth deepest)) (PieceR σ id text depth deepest (pcs n (text.drop at_))) (.mk _) a_glob_parser_pieces.res f' tf σ' := by
    intro f' tf σ' hf hR hσ'
    subst hσ'
    refine er_set id (PV text k bad depth dp) (.lst acc) (rowE 150 5 acc true) ?_ rfl (PV_under _ _ _ _ _ _) hR
    have : fin1 (σ.set id (PV text k bad depth dp) ++ rowE 150 5 acc true) σ.length (rowV σ.length acc) = some (.lst acc) := fin1_acc_at (by simp)
    simp [retAt, a_glob_parser_pieces, hf, this]
  simp [h0, h2, g0, g00, q0, PV]
  cases bad with
  | true =>
    simp [h0, h2, g0, g00, q0, PV]
    refine hend _ (by simp [h3']) ?_ rfl
    rw [hbad rfl]
    exact ⟨acc, k, dp, hk2, rfl, rfl⟩
  | false =>
    clear hbad
    obtain ⟨hk1, hal, ps, d0, m, hacc, hm, rfl, hpcs⟩ := hgood rfl
    clear hgood
    have hap : ∀ {K : AV → Store → Prop} {t : Tg K} {e : Entry} (y : List AV), y.length = 5 → K (rowV σ.length (acc ++ [y])) (σ.set id e ++ rowE 150 5 (acc ++ [y]) true) →
        ap K t (σ.set id e ++ rowE 150 5 acc true) 150 5 80 (rowV σ.length acc) (.lst [y]) := by
      intro K t e y hy hK
      exact ap_acc_at (by simp) acc [y] true (by omega) (by simpa using hy) (by simp) (by simp; omega) (by simp; omega) hK
    simp [h0, h2, g0, g00, q0, PV]
    obtain ⟨m, rfl⟩ : ∃ j, m = j + 1 := ⟨m - 1, by omega⟩
    by_cases hlt : k < text.length
    · obtain ⟨c, hc⟩ : ∃ c, text[k]? = some c := ⟨_, List.getElem?_eq_getElem hlt⟩
      have hd := drop_cons hc
      rw [hd] at hpcs
      refine ac_lent (peek_some text k c _ _ _ hc) (.cons (coe_ptr (g0 _ _) (by simp) rfl) .nil) ?_
      rintro r rfl
      refine ⟨by simp, ?_⟩
      have hwk : IntKind.i64.wrap ((k : Int) + 1) = (k : Int) + 1 := wrap_i64 (by omega) (by omega)
      have hcb : ∀ b : UInt8, ((c.toNat : Int) = (b.toNat : Int)) ↔ c = b := fun b => ⟨fun h => UInt8.toNat_inj.1 (by omega), fun h => by rw [h]⟩
      by_cases hst : c = 44 ∨ c = 125
      · rw [pcs_stop hst] at hpcs
        have hdone : PieceR σ id text depth deepest (pcs n (text.drop at_)) (.lst acc) (σ.set id (PV text k false depth (max deepest (depth + (d0 : Nat))))) := by
          rw [hpcs]
          have e : text.length - (c :: text.drop (k + 1)).length = k := by simp; omega
          refine ⟨by simp [hacc], ?_⟩
          simp only [e]
          simp
        rcases hst with rfl | rfl
        · simp [h0, h2, g0, g00, q0, PV]
          exact hend _ (by simp [h3']) hdone rfl
        · simp [h0, h2, g0, g00, q0, PV]
          exact hend _ (by simp [h3']) hdone rfl
      · have hn1 : ¬ ((c.toNat : Int) = 44) := fun h => hst (.inl (UInt8.toNat_inj.1 (show c.toNat = 44 by omega)))
        have hn2 : ¬ ((c.toNat : Int) = 125) := fun h => hst (.inr (UInt8.toNat_inj.1 (show c.toNat = 125 by omega)))
        have hnext : ∀ {f' : Abs.Frame} {tf : Tg f'} {tI : Tg (PInv σ id text at_ depth deepest n)} {σ' : Store} (p : Pc) (k' d' : Nat), k + 1 ≤ k' → k' ≤ text.length →
            pcs n (text.drop at_) = ((pcs m (text.drop k')).map fun y => ((ps ++ [p]) ++ y.1, y.2.1, max (max d0 d') y.2.2)) → f' 0 = .ptr id 0 → f' 2 = .nils → f' 3 = rowV σ.length (acc ++ [p.enc]) →
            σ' = σ.set id (PV text k' false depth (max deepest (depth + (max d0 d' : Nat)))) ++ rowE 150 5 (acc ++ [p.enc]) true → nx (text.length - k + 1) (PInv σ id text at_ depth deepest n) tI f' tf σ' := by
          intro f' tf tI σ' p k' d' hk hk' hp hf0 hf2 hf3 hs
          refine nx_intro (text.length - k' + 1) (by simp; omega) ⟨k', false, _, acc ++ [p.enc], rfl, hk', ?_, nofun, fun _ => ⟨by omega, by simp; omega, ps ++ [p], max d0 d', m, by simp [encL_map, hacc], by omega, rfl, hp⟩, hf0, hf2, hf3, hs⟩
          intro x hx
          rcases List.mem_append.1 hx with hx | hx
          · exact h5 x hx
          · simp only [List.mem_singleton] at hx; subst hx; rfl
        have hstop : ∀ {f' : Abs.Frame} {tf : Tg f'} {tI : Tg (PInv σ id text at_ depth deepest n)} {σ' : Store} (k' : Nat) (dp : Int) (acc' : List (List AV)), k' ≤ text.length → (∀ c ∈ acc', c.length = 5) →
            pcs n (text.drop at_) = none → f' 0 = .ptr id 0 → f' 2 = .nils → f' 3 = rowV σ.length acc' →
            σ' = σ.set id (PV text k' true depth dp) ++ rowE 150 5 acc' true → nx (text.length - k + 1) (PInv σ id text at_ depth deepest n) tI f' tf σ' := by
          intro f' tf tI σ' k' dp acc' hk' h5' hp hf0 hf2 hf3 hs
          exact nx_intro 0 (by omega) ⟨k', true, dp, acc', rfl, hk', h5', fun _ => hp, nofun, hf0, hf2, hf3, hs⟩
        have h5a : ∀ y : List AV, y.length = 5 → ∀ c ∈ acc ++ [y], c.length = 5 := by
          intro y hy x hx
          rcases List.mem_append.1 hx with hx | hx
          · exact h5 x hx
          · simp only [List.mem_singleton] at hx; subst hx; exact hy
        clear hend
        by_cases c63 : c = 63
        · subst c63
          rw [pcs_q] at hpcs
          simp [h0, h2, h3', g0, g00, q0, PV, hwk, hn1, hn2]
          refine hap _ (by rfl) ?_
          simp [h0, h2, h3', g0, g00, q0, PV, hwk, hn1, hn2]
          refine hnext .q (k + 1) 0 (by omega) (by omega) ?_ (by simp [h0]) (by simp [h2]) (by simp [enc_q]) (by simp [PV, enc_q])
          rw [hpcs]; cases pcs m (text.drop (k + 1)) <;> simp
        by_cases c42 : c = 42
        · subst c42
          rw [pcs_star] at hpcs
          simp [h0, h2, h3', g0, g00, q0, PV, hwk, hn1, hn2]
          refine hap _ (by rfl) ?_
          simp [h0, h2, h3', g0, g00, q0, PV, hwk, hn1, hn2]
          refine hnext .star (k + 1) 0 (by omega) (by omega) ?_ (by simp [h0]) (by simp [h2]) (by simp [enc_star]) (by simp [PV, enc_star])
          rw [hpcs]; cases pcs m (text.drop (k + 1)) <;> simp
        have n63 : ¬ ((c.toNat : Int) = 63) := fun h => c63 (UInt8.toNat_inj.1 (show c.toNat = 63 by omega))
        have n42 : ¬ ((c.toNat : Int) = 42) := fun h => c42 (UInt8.toNat_inj.1 (show c.toNat = 42 by omega))
        by_cases c91 : c = 91
        · subst c91
          rw [pcs_cls] at hpcs
          simp [h0, h2, h3', g0, g00, q0, PV, hwk, hn1, hn2]
          have hcl := class_ok (G := G) (σ := σ ++ rowE 150 5 acc true) (id := id) (by simp; omega) text (k + 1) depth (max deepest (depth + (d0 : Nat))) (by omega) (by omega) h3 m (by omega)
          rw [hset] at hcl
          simp only [PV, Int.natCast_add, Int.cast_ofNat_Int] at hcl
          refine ac_eff hcl ?_
          rintro r σ' hr
          cases hc : cls m false (text.drop (k + 1)) with
          | none =>
            rw [hc] at hr
            obtain ⟨rs, k', hk', rfl, rfl⟩ := hr
            simp [h0, h2, h3', g0, g00, q0, PV, hwk, hn1, hn2, hset, enc_cls, n63, n42]
            refine hap _ (by rfl) ?_
            simp [h0, h2, h3', g0, g00, q0, PV, hwk, hn1, hn2, hset, enc_cls]
            refine hstop k' (max deepest (depth + (d0 : Nat))) (acc ++ [(Pc.cls rs []).enc]) hk' (h5a _ rfl) ?_ (by simp [h0]) (by simp [h2]) (by simp [enc_cls]) (by simp [PV, enc_cls])
            rw [hpcs, hc]; rfl
          | some v =>
            obtain ⟨rs, r'⟩ := v
            rw [hc] at hr hpcs
            obtain ⟨rfl, rfl⟩ := hr
            obtain ⟨hdr, hrl⟩ := cls_drop hc
            simp [h0, h2, h3', g0, g00, q0, PV, hwk, hn1, hn2, hset, enc_cls, n63, n42]
            refine hap _ (by rfl) ?_
            simp [h0, h2, h3', g0, g00, q0, PV, hwk, hn1, hn2, hset, enc_cls]
            refine hnext (.cls rs ((text.drop k).take (text.length - (k + 1) + 1 - r'.length))) (text.length - r'.length) 0 (by omega) (by omega) ?_ (by simp [h0]) (by simp [h2]) (by simp [enc_cls]) (by simp [PV, enc_cls])
            rw [hpcs, hdr]
            simp only [Option.bind_some, List.length_drop]
            rw [← hd]
            cases pcs m r' <;> simp
        have n91 : ¬ ((c.toNat : Int) = 91) := fun h => c91 (UInt8.toNat_inj.1 (show c.toNat = 91 by omega))
        by_cases c123 : c = 123
        · subst c123
          rw [pcs_br] at hpcs
          simp [h0, h2, h3', g0, g00, q0, PV, hwk, hn1, hn2, hset]
          have hcl := hB (text.length - (k + 1)) (by omega) (σ ++ rowE 150 5 acc true) id text (k + 1) depth (max deepest (depth + (d0 : Nat))) m (by simp; omega) (by omega) rfl h3 hd0 (by omega) (by omega) (by omega)
          rw [hset] at hcl
          simp only [PV, Int.natCast_add, Int.cast_ofNat_Int] at hcl
          refine ac_eff hcl ?_
          rintro r σ' hr
          unfold BraceR at hr
          cases hc : alts m (text.drop (k + 1)) with
          | none =>
            rw [hc] at hr
            obtain ⟨els, k', dp, hk', rfl, rfl⟩ := hr
            simp [h0, h2, h3', g0, g00, q0, PV, hwk, hn1, hn2, hset]
            refine hap _ (by rfl) ?_
            simp [h0, h2, h3', g0, g00, q0, PV, hwk, hn1, hn2, hset]
            refine hstop k' dp (acc ++ [[.int .i64 4, .int .u8 0, .lst [], .lst els, .str []]]) hk' (h5a _ rfl) ?_ (by simp [h0]) (by simp [h2]) (by simp) (by simp [PV])
            rw [hpcs, hc]; rfl
          | some v =>
            obtain ⟨xs, r', d⟩ := v
            rw [hc] at hr hpcs
            obtain ⟨rfl, rfl⟩ := hr
            obtain ⟨hdr, hrl⟩ := alts_drop hc
            simp [h0, h2, h3', g0, g00, q0, PV, hwk, hn1, hn2, hset, enc_br, hset]
            refine hap _ (by rfl) ?_
            simp [h0, h2, h3', g0, g00, q0, PV, hwk, hn1, hn2, hset, enc_br]
            refine hnext (.br xs) (text.length - r'.length) (d + 1) (by omega) (by omega) ?_ (by simp [h0]) (by simp [h2]) (by simp [enc_br]) ?_
            · rw [hpcs, hdr]
              simp only [Option.bind_some]
              cases pcs m r' <;> simp [Nat.max_assoc]
            · have e : max (max deepest (depth + (d0 : Int))) (depth + ((d : Int) + 1)) = max deepest (depth + max (d0 : Int) ((d : Int) + 1)) := by omega
              have e2 : ((max d0 (d + 1) : Nat) : Int) = max (d0 : Int) ((d : Int) + 1) := by omega
              simp [PV, enc_br, e, e2]
        have n123 : ¬ ((c.toNat : Int) = 123) := fun h => c123 (UInt8.toNat_inj.1 (show c.toNat = 123 by omega))
        simp [h0, h2, h3', g0, g00, q0, PV, hwk, hn1, hn2, n63, n42, n91, n123]
        refine ac_same (byte_ok c) (by simp) ?_
        rintro r rfl
        by_cases hnb : nb c = true
        · rw [pcs_lit hnb] at hpcs
          have hck : List.drop k (List.take (k + 1) text) = [c] := by
            rw [List.drop_take, hd]; simp
          have hw0 : IntKind.i64.wrap (k : Int) = k := wrap_i64 (by omega) (by omega)
          have f1 : (0 : Int) ≤ (k : Int) + 1 := by omega
          have f3 : k + 1 ≤ text.length := by omega
          simp [h0, h2, h3', g0, g00, q0, PV, hwk, hn1, hn2, hnb, hw0, f1, f3, hck]
          refine hap _ (by rfl) ?_
          simp [h0, h2, h3', g0, g00, q0, PV, hwk, hn1, hn2]
          refine hnext (.lit c) (k + 1) 0 (by omega) (by omega) ?_ (by simp [h0]) (by simp [h2]) (by simp [enc_lit]) (by simp [PV, enc_lit])
          rw [hpcs]; cases pcs m (text.drop (k + 1)) <;> simp
        · simp only [Bool.not_eq_true] at hnb
          rw [pcs_no hst c63 c42 c91 c123 hnb] at hpcs
          simp [h0, h2, h3', g0, g00, q0, PV, hwk, hn1, hn2, hnb]
          exact hstop (k + 1) (max deepest (depth + (d0 : Nat))) acc (by omega) h5 hpcs (by simp [h0]) (by simp [h2]) (by simp [h3']) (by simp [PV])
    · refine ac_lent (peek_none text k _ _ _ (by omega)) (.cons (coe_ptr (g0 _ _) (by simp) rfl) .nil) ?_
      rintro r rfl
      refine ⟨by simp, ?_⟩
      simp [h0, h2, g0, g00, q0, PV]
      refine hend _ (by simp [h3']) ?_ rfl
      rw [List.drop_eq_nil_of_le (show text.length ≤ k by omega), pcs_end] at hpcs
      rw [hpcs]
      have e : text.length = k := by omega
      refine ⟨by simp [hacc], ?_⟩
      simp [e]
theorem pieces_ok : ∀ L, PiecesAt L := by
  intro L
  induction L using Nat.strongRecOn with
  | _ L ih => exact pieces_of L fun L' hL' => braces_of L' fun L'' hL'' => ih L'' (by omega)
end Go.Proofs.YtjpjmdjjgfllhaaGreatDoor
end
section
namespace Go.Abs
open Go.RowKit Go.Proofs Go.Shelf
variable {G : Globs}
section
variable {P : Program} {ρ : Ren} {σ : Store}
theorem grow_nil_ok (L : Lays8.n4 P ρ) (i0 : TypeInfo) (z : Value) (hi0 : P.info? (ρ.t 25) = some i0) (hz0 : i0.zero = some z) (hs0 : 0 < i0.size) (hzs : z.cells.size = i0.size) (im : Bool) {n : Nat} (hb : n * i0.bytes ≤ 140737488355328) (h62 : n ≤ 4611686018427387904) :
    ACalls P (ρ.f 4) [.nils, .int .i64 n] σ (fun r σ' => r = .row σ.length 0 ∧ σ' = σ ++ [.row (ρ.t 25) i0.size [] im]) := by
  intro base κ Im w vs hs hv
  obtain ⟨u, v, rfl, hu, hv⟩ : ∃ u v, vs = [u, v] ∧ VR κ Im w .nils u ∧ VR κ Im w (.int .i64 n) v := by
    match vs, hv.1 with
    | [u, v], _ => exact ⟨u, v, rfl, hv.2 0 (by simp) (by simp), hv.2 1 (by simp) (by simp)⟩
  have e1 := hu.nils_inv
  have e2 := hv.int_inv
  subst e1; subst e2
  by_cases hn : n = 0
  · subst hn
    refine (Any8.slices_Grow_room L none 0 0 0 w (Nat.le_refl _) (by omega) (by omega) (Nat.le_refl _)).mono ?_
    rintro e w' ⟨rfl, rfl⟩
    obtain ⟨κ', Im', h1, h2, h3⟩ := new_row (e := ρ.t 25) (size := i0.size) (n := 0) (m := []) (im := im) (v := .slice none 0 0) (w' := w') (xs := []) hs rfl hs0 (by simp) (by simp) ⟨by simp, .inl ⟨rfl, rfl⟩⟩ (fun _ _ => rfl) (Nat.le_refl _) rfl rfl rfl ⟨rfl, fun j h => by simp at h⟩ (fun _ => ⟨rfl, fun j h => by simp at h⟩)
    exact ⟨_, _, _, κ', Im', rfl, ⟨rfl, rfl⟩, h2, h3, h1⟩
  · refine (Any8.slices_Grow_grow L i0 z hi0 hz0 hs0 none 0 0 n [] w (Nat.le_refl _) (by omega) (by simpa using hb) (by omega) (by simp) (fun _ => rfl) (fun _ h => by cases h)).mono ?_
    rintro e w' ⟨rfl, rfl⟩
    have hge := grownCap_ge w (0 + n) 0 (ρ.t 25)
    have hle := grownCap_le_maxLen w (0 + n) 0 (ρ.t 25) (by unfold maxLen; omega)
    have hown : (w.drew.alloc (.cells (([] : List Value).toArray ++ Builtin.zeroCells z.cells (0 + n - 0) ++ Builtin.zeroCells z.cells (grownCap w (0 + n) 0 (ρ.t 25) - (0 + n))) (ρ.t 25))).ownsRow w.heap.size (ρ.t 25) i0.size (.slice (some ⟨w.heap.size, 0, none⟩) 0 (grownCap w (0 + n) 0 (ρ.t 25))) 0 [] := by
      refine ⟨by simp, .inr ⟨w.heap.size, _, _, rfl, Nat.le_refl _, heap_alloc_new w.drew _, Nat.zero_le _, hle, ?_, by simp⟩⟩
      simp only [Array.size_append, size_zeroCells, List.size_toArray, List.length_nil, Nat.zero_add, hzs, ← Nat.add_mul]
      rw [Nat.zero_add] at hge; congr 1; omega
    obtain ⟨κ', Im', h1, h2, h3⟩ := new_row (e := ρ.t 25) (size := i0.size) (n := 0) (m := []) (im := im) (xs := []) hs rfl hs0 (by simp) (by simp) hown (fun k hk => heap_alloc_old w.drew _ hk) (by simp) rfl rfl rfl ⟨rfl, fun j h => by simp at h⟩ (fun _ => ⟨rfl, fun j h => by simp at h⟩)
    exact ⟨_, _, _, κ', Im', rfl, ⟨rfl, rfl⟩, h2, h3, h1⟩
end
end Go.Abs
end
