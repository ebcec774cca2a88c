/- Patterns of one name: plain laws of what the functions compute. -/
import Derived.Test.YtipncibiodfmdaaGreatDoorGlSpec
set_option linter.unusedSimpArgs false
set_option linter.unusedVariables false
set_option linter.constructorNameAsVariable false
namespace Go.Glob

def Stops (x : List UInt8) : Prop := x = [] ∨ ∃ c t, x = c :: t ∧ (c = 44 ∨ c = 125)

theorem rng_two (d h : UInt8) (t x y : List UInt8) : (rng (d :: h :: t ++ x) = none ↔ rng (d :: h :: t ++ y) = none) := by
  simp only [rng, List.cons_append]
  split <;> simp

theorem cls_one {m : Nat} {d : UInt8} {v : List (UInt8 × UInt8) × List UInt8} (h : cls m true [d] = some v) : d = 93 := by
  cases m with
  | zero => simp [cls] at h
  | succ m =>
    unfold cls at h
    split at h
    · rename_i h1; exact h1.1
    · split at h
      · cases h
      · simp only [rng] at h
        cases m <;> simp [cls] at h

/-- A class is read as far as it goes. -/
theorem cls_local : ∀ (n : Nat) (ne : Bool) (s : List UInt8) (rs : List (UInt8 × UInt8)) (r : List UInt8), cls n ne s = some (rs, r) →
    ∃ b, s = b ++ r ∧ ∀ m x, n ≤ m ∨ b.length < m → cls m ne (b ++ x) = some (rs, x) := by
  intro n
  induction n with
  | zero => intro ne s rs r h; simp [cls] at h
  | succ n ih =>
    intro ne s rs r h
    cases s with
    | nil => simp [cls] at h
    | cons c s =>
      unfold cls at h
      split at h
      · rename_i h1
        simp only [Option.some.injEq, Prod.mk.injEq] at h
        obtain ⟨rfl, rfl⟩ := h
        refine ⟨[c], rfl, fun m x hm => ?_⟩
        obtain ⟨m, rfl⟩ : ∃ k, m = k + 1 := ⟨m - 1, by simp at hm; omega⟩
        simp [cls, h1]
      · rename_i h1
        split at h
        · cases h
        · rename_i h2
          split at h
          · rename_i hh s' hr
            split at h
            · cases h
            · rename_i h3
              simp only [Option.map_eq_some_iff, Prod.mk.injEq] at h
              obtain ⟨v, hv, rfl, rfl⟩ := h
              obtain ⟨b, rfl, hb⟩ := ih true s' v.1 v.2 hv
              obtain ⟨d, rfl, hd⟩ : ∃ d, s = d :: hh :: (b ++ v.2) ∧ d = 45 ∧ nb hh = true := by
                match s, hr with
                | d :: h' :: t, hr =>
                  simp only [rng] at hr
                  split at hr
                  · rename_i hc; simp only [Option.some.injEq, Prod.mk.injEq] at hr; obtain ⟨rfl, rfl⟩ := hr; exact ⟨d, rfl, hc⟩
                  · cases hr
              refine ⟨c :: d :: hh :: b, by simp, fun m x hm => ?_⟩
              obtain ⟨m, rfl⟩ : ∃ k, m = k + 1 := ⟨m - 1, by simp at hm; omega⟩
              have e := hb m x (by simp at hm; omega)
              simp only [List.cons_append]
              unfold cls
              rw [if_neg h1, if_neg h2]
              simp only [rng, hd, and_self, if_true, if_neg h3, e, Option.map_some]
          · rename_i hr
            simp only [Option.map_eq_some_iff, Prod.mk.injEq] at h
            obtain ⟨v, hv, rfl, rfl⟩ := h
            obtain ⟨b, rfl, hb⟩ := ih true s v.1 v.2 hv
            refine ⟨c :: b, by simp, fun m x hm => ?_⟩
            obtain ⟨m, rfl⟩ : ∃ k, m = k + 1 := ⟨m - 1, by simp at hm; omega⟩
            have e := hb m x (by simp at hm; omega)
            have hrx : rng (b ++ x) = none := by
              match b, hb, hr with
              | [], hb, _ =>
                have := hb 1 [] (.inr (by simp))
                simp [cls] at this
              | [d], hb, _ =>
                have := hb 2 [] (.inr (by simp))
                have := cls_one this
                subst this
                cases x <;> simp [rng]
              | d :: h :: t, hb, hr => exact (rng_two d h t v.2 x).1 hr
            simp only [List.cons_append]
            unfold cls
            rw [if_neg h1, if_neg h2]
            simp only [hrx, e, Option.map_some]

theorem cls_step {m : Nat} {ne : Bool} {c : UInt8} {s : List UInt8} (h93 : ¬ (c = 93 ∧ ne = true)) (hn : nb c = true) : cls (m + 1) ne (c :: s) = match rng s with
    | some (h, s') => if h < c then none else (cls m true s').map fun x => ((c, h) :: x.1, x.2)
    | none => (cls m true s).map fun x => ((c, c) :: x.1, x.2) := by
  simp only [cls]
  rw [if_neg h93, if_neg (by simp [hn])]
  rfl
theorem cls_no {m : Nat} {ne : Bool} {c : UInt8} {s : List UInt8} (h93 : ¬ (c = 93 ∧ ne = true)) (hn : nb c = false) : cls (m + 1) ne (c :: s) = none := by
  simp only [cls]
  rw [if_neg h93, if_pos hn]

mutual
/-- Pieces that may have been read: name bytes; classes whose text says them. -/
def okL : List Pc → Prop
  | [] => True
  | .lit c :: l => nb c = true ∧ okL l
  | .q :: l => okL l
  | .star :: l => okL l
  | .cls rs t :: l => (∃ b, t = 91 :: b ∧ ∀ m x, b.length < m → cls m false (b ++ x) = some (rs, x)) ∧ okL l
  | .br as :: l => okA as ∧ okL l
def okA : List (List Pc) → Prop
  | [] => True
  | a :: as => okL a ∧ okA as
end
mutual
/-- How long a text pieces come of, at least. -/
def srcL : List Pc → Nat
  | [] => 0
  | .lit _ :: l => 1 + srcL l
  | .q :: l => 1 + srcL l
  | .star :: l => 1 + srcL l
  | .cls _ t :: l => t.length + srcL l
  | .br as :: l => srcA as + srcL l
def srcA : List (List Pc) → Nat
  | [] => 0
  | a :: as => srcL a + srcA as
end

theorem nb_no (c : UInt8) (h : nb c = true) : ¬ (c = 44 ∨ c = 125) ∧ c ≠ 63 ∧ c ≠ 42 ∧ c ≠ 91 ∧ c ≠ 123 := by
  refine ⟨?_, ?_, ?_, ?_, ?_⟩
  · rintro (rfl | rfl) <;> exact absurd h (by decide)
  all_goals (rintro rfl; exact absurd h (by decide))

theorem pcs_end (m : Nat) : pcs (m + 1) [] = some ([], [], 0) := by simp [pcs]
theorem pcs_stop {m : Nat} {c : UInt8} {s : List UInt8} (h : c = 44 ∨ c = 125) : pcs (m + 1) (c :: s) = some ([], c :: s, 0) := by
  unfold pcs; rw [if_pos h]
theorem pcs_q {m : Nat} {s : List UInt8} : pcs (m + 1) (63 :: s) = (pcs m s).map fun x => (.q :: x.1, x.2) := by
  conv => lhs; unfold pcs
  rw [if_neg (by decide), if_pos rfl]
theorem pcs_star {m : Nat} {s : List UInt8} : pcs (m + 1) (42 :: s) = (pcs m s).map fun x => (.star :: x.1, x.2) := by
  conv => lhs; unfold pcs
  rw [if_neg (by decide), if_neg (by decide), if_pos rfl]
theorem pcs_cls {m : Nat} {s : List UInt8} : pcs (m + 1) (91 :: s) = (cls m false s).bind fun x => (pcs m x.2).map fun y => (.cls x.1 ((91 :: s).take (s.length + 1 - x.2.length)) :: y.1, y.2) := by
  conv => lhs; unfold pcs
  rw [if_neg (by decide), if_neg (by decide), if_neg (by decide), if_pos rfl]
theorem pcs_br {m : Nat} {s : List UInt8} : pcs (m + 1) (123 :: s) = (alts m s).bind fun x => (pcs m x.2.1).map fun y => (.br x.1 :: y.1, y.2.1, max (x.2.2 + 1) y.2.2) := by
  conv => lhs; unfold pcs
  rw [if_neg (by decide), if_neg (by decide), if_neg (by decide), if_neg (by decide), if_pos rfl]
theorem pcs_lit {m : Nat} {c : UInt8} {s : List UInt8} (h : nb c = true) : pcs (m + 1) (c :: s) = (pcs m s).map fun x => (.lit c :: x.1, x.2) := by
  obtain ⟨h1, h2, h3, h4, h5⟩ := nb_no c h
  conv => lhs; unfold pcs
  rw [if_neg h1, if_neg h2, if_neg h3, if_neg h4, if_neg h5, if_pos h]
theorem pcs_no {m : Nat} {c : UInt8} {s : List UInt8} (h1 : ¬ (c = 44 ∨ c = 125)) (h2 : c ≠ 63) (h3 : c ≠ 42) (h4 : c ≠ 91) (h5 : c ≠ 123) (h : nb c = false) : pcs (m + 1) (c :: s) = none := by
  unfold pcs
  rw [if_neg h1, if_neg h2, if_neg h3, if_neg h4, if_neg h5, if_neg (by simp [h])]
theorem alts_step {m : Nat} {s : List UInt8} : alts (m + 1) s = (pcs m s).bind fun x => match x.2.1 with
    | [] => none
    | c :: r => if c = 125 then some ([x.1], r, x.2.2) else (alts m r).map fun y => (x.1 :: y.1, y.2.1, max x.2.2 y.2.2) := by
  conv => lhs; unfold alts
  rfl

theorem pcs_local : ∀ (n : Nat), (∀ (s : List UInt8) (l : List Pc) (r : List UInt8) (d : Nat), pcs n s = some (l, r, d) →
      Stops r ∧ okL l ∧ srcL l + r.length ≤ s.length ∧ ∃ b, s = b ++ r ∧ ∀ m x, n ≤ m → Stops x → pcs m (b ++ x) = some (l, x, d)) ∧
    (∀ (s : List UInt8) (l : List (List Pc)) (r : List UInt8) (d : Nat), alts n s = some (l, r, d) →
      okA l ∧ srcA l + r.length ≤ s.length ∧ ∃ b, s = b ++ r ∧ ∀ m x, n ≤ m → alts m (b ++ x) = some (l, x, d)) := by
  intro n
  induction n with
  | zero => exact ⟨fun s l r d h => by simp [pcs] at h, fun s l r d h => by simp [alts] at h⟩
  | succ n ih =>
    obtain ⟨ihp, iha⟩ := ih
    have hsucc : ∀ {m : Nat}, n + 1 ≤ m → ∃ k, m = k + 1 ∧ n ≤ k := fun {m} hm => ⟨m - 1, by omega, by omega⟩
    refine ⟨fun s l r d h => ?_, fun s l r d h => ?_⟩
    · cases s with
      | nil =>
        simp only [pcs, Option.some.injEq, Prod.mk.injEq] at h
        obtain ⟨rfl, rfl, rfl⟩ := h
        refine ⟨.inl rfl, by simp [okL], by simp [srcL], [], rfl, fun m x hm hx => ?_⟩
        obtain ⟨m, rfl, hm'⟩ := hsucc hm
        rcases hx with rfl | ⟨c, t, rfl, hc⟩
        · simp [pcs]
        · simp [pcs, hc]
      | cons c s =>
        unfold pcs at h
        split at h
        · rename_i h1
          simp only [Option.some.injEq, Prod.mk.injEq] at h
          obtain ⟨rfl, rfl, rfl⟩ := h
          refine ⟨.inr ⟨c, s, rfl, h1⟩, by simp [okL], by simp [srcL], [], rfl, fun m x hm hx => ?_⟩
          obtain ⟨m, rfl, hm'⟩ := hsucc hm
          rcases hx with rfl | ⟨c, t, rfl, hc⟩
          · simp [pcs]
          · simp [pcs, hc]
        rename_i h1
        split at h
        · rename_i h2
          simp only [Option.map_eq_some_iff, Prod.mk.injEq] at h
          obtain ⟨⟨l', r', d'⟩, hv, rfl, rfl, rfl⟩ := h
          obtain ⟨g1, g2, g3, b, rfl, g4⟩ := ihp _ _ _ _ hv
          refine ⟨g1, by simpa [okL] using g2, by simp [srcL] at g3 ⊢; omega, c :: b, rfl, fun m x hm hx => ?_⟩
          obtain ⟨m, rfl, hm'⟩ := hsucc hm
          simp only [List.cons_append]
          unfold pcs
          rw [if_neg h1, if_pos h2, g4 m x hm' hx]; rfl
        rename_i h2
        split at h
        · rename_i h3
          simp only [Option.map_eq_some_iff, Prod.mk.injEq] at h
          obtain ⟨⟨l', r', d'⟩, hv, rfl, rfl, rfl⟩ := h
          obtain ⟨g1, g2, g3, b, rfl, g4⟩ := ihp _ _ _ _ hv
          refine ⟨g1, by simpa [okL] using g2, by simp [srcL] at g3 ⊢; omega, c :: b, rfl, fun m x hm hx => ?_⟩
          obtain ⟨m, rfl, hm'⟩ := hsucc hm
          simp only [List.cons_append]
          unfold pcs
          rw [if_neg h1, if_neg h2, if_pos h3, g4 m x hm' hx]; rfl
        rename_i h3
        split at h
        · rename_i h4
          simp only [Option.bind_eq_some_iff, Option.map_eq_some_iff, Prod.mk.injEq] at h
          obtain ⟨⟨rs, r1⟩, hc, ⟨l', r', d'⟩, hv, rfl, rfl, rfl⟩ := h
          obtain ⟨b1, rfl, hb1⟩ := cls_local _ _ _ _ _ hc
          obtain ⟨g1, g2, g3, b, e, g4⟩ := ihp _ _ _ _ hv
          dsimp only at e
          subst e
          have ht : ((c :: (b1 ++ (b ++ r))).take ((b1 ++ (b ++ r)).length + 1 - (b ++ r).length)) = c :: b1 := by
            have : (b1 ++ (b ++ r)).length + 1 - (b ++ r).length = b1.length + 1 := by simp; omega
            rw [this, List.take_succ_cons, List.take_left]
          have h4' := h4
          refine ⟨g1, ?_, ?_, c :: (b1 ++ b), by simp, fun m x hm hx => ?_⟩
          · simp only [okL]; exact ⟨⟨b1, by rw [ht, h4], fun m x hm => hb1 m x (.inr hm)⟩, g2⟩
          · simp only [srcL]; rw [ht]; simp at g3 ⊢; omega
          · obtain ⟨m, rfl, hm'⟩ := hsucc hm
            simp only [List.cons_append, List.append_assoc]
            unfold pcs
            rw [if_neg h1, if_neg h2, if_neg h3, if_pos h4, hb1 m (b ++ x) (.inl hm')]
            simp only [Option.bind_some, g4 m x hm' hx, Option.map_some, Option.some.injEq, Prod.mk.injEq, List.cons.injEq, Pc.cls.injEq, true_and, and_true]
            have e1 : (b1 ++ (b ++ x)).length + 1 - (b ++ x).length = b1.length + 1 := by simp; omega
            rw [ht, e1, List.take_succ_cons, List.take_left]
        rename_i h4
        split at h
        · rename_i h5
          simp only [Option.bind_eq_some_iff, Option.map_eq_some_iff, Prod.mk.injEq] at h
          obtain ⟨⟨as, r1, d1⟩, hc, ⟨l', r', d'⟩, hv, rfl, rfl, rfl⟩ := h
          obtain ⟨a1, a2, b1, rfl, hb1⟩ := iha _ _ _ _ hc
          obtain ⟨g1, g2, g3, b, e, g4⟩ := ihp _ _ _ _ hv
          dsimp only at e
          subst e
          refine ⟨g1, ?_, ?_, c :: (b1 ++ b), by simp, fun m x hm hx => ?_⟩
          · simp only [okL]; exact ⟨a1, g2⟩
          · simp only [srcL]; simp at g3 a2 ⊢; omega
          · obtain ⟨m, rfl, hm'⟩ := hsucc hm
            simp only [List.cons_append, List.append_assoc]
            unfold pcs
            rw [if_neg h1, if_neg h2, if_neg h3, if_neg h4, if_pos h5, hb1 m (b ++ x) hm']
            simp only [Option.bind_some, g4 m x hm' hx, Option.map_some]
        rename_i h5
        split at h
        · rename_i h6
          simp only [Option.map_eq_some_iff, Prod.mk.injEq] at h
          obtain ⟨⟨l', r', d'⟩, hv, rfl, rfl, rfl⟩ := h
          obtain ⟨g1, g2, g3, b, rfl, g4⟩ := ihp _ _ _ _ hv
          refine ⟨g1, ?_, by simp [srcL] at g3 ⊢; omega, c :: b, rfl, fun m x hm hx => ?_⟩
          · simp only [okL]; exact ⟨h6, g2⟩
          obtain ⟨m, rfl, hm'⟩ := hsucc hm
          simp only [List.cons_append]
          unfold pcs
          rw [if_neg h1, if_neg h2, if_neg h3, if_neg h4, if_neg h5, if_pos h6, g4 m x hm' hx]; rfl
        · cases h
    · unfold alts at h
      simp only [Option.bind_eq_some_iff] at h
      obtain ⟨⟨l', r', d'⟩, hv, h⟩ := h
      obtain ⟨g1, g2, g3, b, rfl, g4⟩ := ihp _ _ _ _ hv
      dsimp only at h
      split at h
      · cases h
      · rename_i c r0
        split at h
        · rename_i h1
          simp only [Option.some.injEq, Prod.mk.injEq] at h
          obtain ⟨rfl, rfl, rfl⟩ := h
          refine ⟨?_, ?_, b ++ [c], by simp, fun m x hm => ?_⟩
          · simp only [okA]; exact ⟨g2, trivial⟩
          · simp [srcA] at g3 ⊢; omega
          · obtain ⟨m, rfl, hm'⟩ := hsucc hm
            unfold alts
            rw [List.append_assoc, List.singleton_append, g4 m _ hm' (.inr ⟨c, x, rfl, .inr h1⟩)]
            simp [h1]
        · rename_i h1
          simp only [Option.map_eq_some_iff, Prod.mk.injEq] at h
          obtain ⟨⟨as, r2, d2⟩, hw, rfl, rfl, rfl⟩ := h
          obtain ⟨a1, a2, b2, rfl, hb2⟩ := iha _ _ _ _ hw
          have hc : c = 44 ∨ c = 125 := by
            rcases g1 with g1 | ⟨c', t, e, hc⟩
            · cases g1
            · simp only [List.cons.injEq] at e; obtain ⟨rfl, rfl⟩ := e; exact hc
          refine ⟨?_, ?_, b ++ c :: b2, by simp, fun m x hm => ?_⟩
          · simp only [okA]; exact ⟨g2, a1⟩
          · simp [srcA] at g3 a2 ⊢; omega
          · obtain ⟨m, rfl, hm'⟩ := hsucc hm
            unfold alts
            rw [List.append_assoc, List.cons_append, g4 m _ hm' (.inr ⟨c, _, rfl, hc⟩)]
            simp only [Option.bind_some, if_neg h1, hb2 m x hm', Option.map_some]

theorem cls_fits {n : Nat} {ne : Bool} {s : List UInt8} {rs : List (UInt8 × UInt8)} {r : List UInt8} (h : cls n ne s = some (rs, r)) {m : Nat} (hm : s.length < m) : cls m ne s = some (rs, r) := by
  obtain ⟨b, rfl, hb⟩ := cls_local _ _ _ _ _ h
  exact hb m r (.inr (by simp at hm; omega))

/-- Pieces without braces. -/
def flat : List Pc → Prop
  | [] => True
  | .br _ :: _ => False
  | .lit _ :: l => flat l
  | .q :: l => flat l
  | .star :: l => flat l
  | .cls _ _ :: l => flat l

theorem flat_append : ∀ {l m : List Pc}, flat l → flat m → flat (l ++ m)
  | [], _, _, h => h
  | .br _ :: _, _, h, _ => h.elim
  | .lit _ :: l, m, h, h' => flat_append (l := l) (m := m) h h'
  | .q :: l, m, h, h' => flat_append (l := l) (m := m) h h'
  | .star :: l, m, h, h' => flat_append (l := l) (m := m) h h'
  | .cls _ _ :: l, m, h, h' => flat_append (l := l) (m := m) h h'
theorem okL_append : ∀ {l m : List Pc}, okL l → okL m → okL (l ++ m)
  | [], _, _, h => h
  | .br _ :: l, m, h, h' => by simp only [List.cons_append, okL] at h ⊢; exact ⟨h.1, okL_append h.2 h'⟩
  | .lit _ :: l, m, h, h' => by simp only [List.cons_append, okL] at h ⊢; exact ⟨h.1, okL_append h.2 h'⟩
  | .q :: l, m, h, h' => by simp only [List.cons_append, okL] at h ⊢; exact okL_append h h'
  | .star :: l, m, h, h' => by simp only [List.cons_append, okL] at h ⊢; exact okL_append h h'
  | .cls _ _ :: l, m, h, h' => by simp only [List.cons_append, okL] at h ⊢; exact ⟨h.1, okL_append h.2 h'⟩
theorem texts_append (l m : List Pc) : texts (l ++ m) = texts l ++ texts m := by simp [texts]

/-- What an expansion is like: no braces, pieces as they must be, of at most n bytes. -/
def Good (n : Nat) (l : List Pc) : Prop := flat l ∧ okL l ∧ (texts l).length ≤ n
theorem Good.app {a b : Nat} {l m : List Pc} (h : Good a l) (h' : Good b m) : Good (a + b) (l ++ m) :=
  ⟨flat_append h.1 h'.1, okL_append h.2.1 h'.2.1, by rw [texts_append, List.length_append]; exact Nat.add_le_add h.2.2 h'.2.2⟩
theorem Good.le {a b : Nat} {l : List Pc} (h : Good a l) (hab : a ≤ b) : Good b l := ⟨h.1, h.2.1, Nat.le_trans h.2.2 hab⟩

mutual
theorem expd_good : ∀ (l : List Pc) (out : List (List Pc)) (k : Nat), okL l → (∀ o ∈ out, Good k o) → ∀ o ∈ expd out l, Good (k + srcL l) o
  | [], out, k, _, ho => by simpa [expd, srcL] using ho
  | .br as :: l, out, k, hl, ho => by
    simp only [expd, srcL]
    simp only [okL] at hl
    have := expd_good l (out.flatMap fun h => (expdA as).map (h ++ ·)) (k + srcA as) hl.2 (fun o h => by
      obtain ⟨x, hx, hz⟩ := List.mem_flatMap.1 h
      obtain ⟨y, hy, rfl⟩ := List.mem_map.1 hz
      exact (ho x hx).app (expdA_good as hl.1 y hy))
    simpa [Nat.add_assoc] using this
  | .lit c :: l, out, k, hl, ho => by
    simp only [expd, srcL]
    simp only [okL] at hl
    have := expd_good l (out.map (· ++ [.lit c])) (k + 1) hl.2 (fun o h => by
      obtain ⟨x, hx, rfl⟩ := List.mem_map.1 h
      exact (ho x hx).app ⟨trivial, by simp [okL, hl.1], by simp [texts, Pc.text]⟩)
    simpa [Nat.add_assoc] using this
  | .q :: l, out, k, hl, ho => by
    simp only [expd, srcL]
    simp only [okL] at hl
    have := expd_good l (out.map (· ++ [.q])) (k + 1) hl (fun o h => by
      obtain ⟨x, hx, rfl⟩ := List.mem_map.1 h
      exact (ho x hx).app ⟨trivial, by simp [okL], by simp [texts, Pc.text]⟩)
    simpa [Nat.add_assoc] using this
  | .star :: l, out, k, hl, ho => by
    simp only [expd, srcL]
    simp only [okL] at hl
    have := expd_good l (out.map (· ++ [.star])) (k + 1) hl (fun o h => by
      obtain ⟨x, hx, rfl⟩ := List.mem_map.1 h
      exact (ho x hx).app ⟨trivial, by simp [okL], by simp [texts, Pc.text]⟩)
    simpa [Nat.add_assoc] using this
  | .cls r t :: l, out, k, hl, ho => by
    simp only [expd, srcL]
    simp only [okL] at hl
    have := expd_good l (out.map (· ++ [.cls r t])) (k + t.length) hl.2 (fun o h => by
      obtain ⟨x, hx, rfl⟩ := List.mem_map.1 h
      exact (ho x hx).app ⟨trivial, by simp only [okL]; exact ⟨hl.1, trivial⟩, by simp [texts, Pc.text]⟩)
    simpa [Nat.add_assoc] using this
theorem expdA_good : ∀ (as : List (List Pc)), okA as → ∀ o ∈ expdA as, Good (srcA as) o
  | [], _ => by simp [expdA]
  | a :: as, h => by
    simp only [okA] at h
    intro o ho
    simp only [expdA, List.mem_append] at ho
    simp only [srcA]
    rcases ho with ho | ho
    · have := expd_good a [[]] 0 h.1 (fun o ho => by
        simp only [List.mem_singleton] at ho; subst ho; exact ⟨trivial, by simp [okL], by simp [texts]⟩) o ho
      exact this.le (by omega)
    · exact (expdA_good as h.2 o ho).le (by omega)
end

/-- What an expansion's text is read as. -/
theorem pcs_texts : ∀ (l : List Pc), flat l → okL l → ∀ (m : Nat) (x : List UInt8), (texts l).length < m → Stops x → pcs m (texts l ++ x) = some (l, x, 0) := by
  have hsucc : ∀ {m k : Nat}, k < m → ∃ j, m = j + 1 := fun {m k} h => ⟨m - 1, by omega⟩
  intro l
  induction l with
  | nil =>
    intro _ _ m x hm hx
    obtain ⟨m, rfl⟩ := hsucc hm
    rcases hx with rfl | ⟨c, t, rfl, hc⟩
    · simp [pcs, texts]
    · simp [pcs, texts, hc]
  | cons p l ih =>
    intro hf hk m x hm hx
    obtain ⟨m, rfl⟩ := hsucc hm
    have et : ∀ p, texts (p :: l) = p.text ++ texts l := fun p => by simp [texts]
    cases p with
    | br as => exact hf.elim
    | lit c =>
      simp only [okL] at hk
      simp only [et, Pc.text, List.length_append, List.length_singleton] at hm
      obtain ⟨h1, h2, h3, h4, h5⟩ := nb_no c hk.1
      rw [et]
      simp only [Pc.text, List.cons_append, List.nil_append]
      unfold pcs
      rw [if_neg h1, if_neg h2, if_neg h3, if_neg h4, if_neg h5, if_pos hk.1, ih hf hk.2 m x (by omega) hx]; rfl
    | q =>
      simp only [okL] at hk
      simp only [et, Pc.text, List.length_append, List.length_singleton] at hm
      rw [et]
      simp only [Pc.text, List.cons_append, List.nil_append]
      unfold pcs
      rw [if_neg (by decide), if_pos rfl, ih hf hk m x (by omega) hx]; rfl
    | star =>
      simp only [okL] at hk
      simp only [et, Pc.text, List.length_append, List.length_singleton] at hm
      rw [et]
      simp only [Pc.text, List.cons_append, List.nil_append]
      unfold pcs
      rw [if_neg (by decide), if_neg (by decide), if_pos rfl, ih hf hk m x (by omega) hx]; rfl
    | cls rs t =>
      simp only [okL] at hk
      obtain ⟨⟨b, rfl, hb⟩, hk⟩ := hk
      simp only [et, Pc.text, List.length_append, List.length_cons] at hm
      rw [et]
      simp only [Pc.text, List.cons_append, List.append_assoc]
      unfold pcs
      rw [if_neg (by decide), if_neg (by decide), if_neg (by decide), if_pos rfl, hb m (texts l ++ x) (by omega)]
      simp only [Option.bind_some, ih hf hk m x (by omega) hx, Option.map_some, Option.some.injEq, Prod.mk.injEq, List.cons.injEq, Pc.cls.injEq, true_and, and_true]
      have e1 : (b ++ (texts l ++ x)).length + 1 - (texts l ++ x).length = b.length + 1 := by simp; omega
      rw [e1, List.take_succ_cons, List.take_left]

theorem cnt_flat : ∀ (l : List Pc) (n : Nat), flat l → cnt n l = n
  | [], _, _ => by simp [cnt]
  | .br _ :: _, _, h => h.elim
  | .lit _ :: l, n, h => by simp only [cnt]; exact cnt_flat l n h
  | .q :: l, n, h => by simp only [cnt]; exact cnt_flat l n h
  | .star :: l, n, h => by simp only [cnt]; exact cnt_flat l n h
  | .cls _ _ :: l, n, h => by simp only [cnt]; exact cnt_flat l n h
theorem expd_flat : ∀ (l : List Pc) (o : List Pc), flat l → expd [o] l = [o ++ l]
  | [], _, _ => by simp [expd]
  | .br _ :: _, _, h => h.elim
  | .lit _ :: l, o, h => by simp only [expd, List.map_cons, List.map_nil]; rw [expd_flat l _ h]; simp
  | .q :: l, o, h => by simp only [expd, List.map_cons, List.map_nil]; rw [expd_flat l _ h]; simp
  | .star :: l, o, h => by simp only [expd, List.map_cons, List.map_nil]; rw [expd_flat l _ h]; simp
  | .cls _ _ :: l, o, h => by simp only [expd, List.map_cons, List.map_nil]; rw [expd_flat l _ h]; simp

theorem parse_texts {l : List Pc} {n : Nat} (h : Good n l) (hn : n ≤ 128) (h0 : texts l ≠ []) : parse (texts l) = .ok l := by
  unfold parse
  have := pcs_texts l h.1 h.2.1 (2 * (texts l).length + 2) [] (by omega) (.inl rfl)
  rw [List.append_nil] at this
  rw [if_neg (by have := h.2.2; omega), this]
  simp [h0, cnt_flat l 1 h.1]

theorem texts_nil : ∀ {l : List Pc}, flat l → okL l → texts l = [] → l = []
  | [], _, _, _ => rfl
  | .br _ :: _, h, _, _ => h.elim
  | .lit _ :: _, _, _, h => by simp [texts, Pc.text] at h
  | .q :: _, _, _, h => by simp [texts, Pc.text] at h
  | .star :: _, _, _, h => by simp [texts, Pc.text] at h
  | .cls _ _ :: _, _, hk, h => by
    simp only [okL] at hk
    obtain ⟨⟨b, rfl, _⟩, _⟩ := hk
    simp [texts, Pc.text] at h

/-- A pattern that may be. -/
theorem parse_ok {s : List UInt8} {l : List Pc} (h : parse s = .ok l) : s.length ≤ 128 ∧ s ≠ [] ∧ ∃ d, pcs (2 * s.length + 2) s = some (l, [], d) ∧ d ≤ 4 ∧ cnt 1 l ≤ 64 := by
  unfold parse at h
  split at h
  · cases h
  rename_i h1
  split at h
  · rename_i l' r d hp
    split at h
    · cases h
    rename_i h2
    split at h
    · cases h
    rename_i h3
    split at h
    · cases h
    rename_i h4
    simp only [Except.ok.injEq] at h
    subst h
    simp only [not_or, ne_eq, Decidable.not_not] at h2
    obtain ⟨h2, rfl⟩ := h2
    exact ⟨by omega, h2, d, hp, by omega, by omega⟩
  · cases h

theorem parse_good {s : List UInt8} {l : List Pc} (h : parse s = .ok l) : ∀ o ∈ expd [[]] l, Good s.length o := by
  obtain ⟨h1, h2, d, h3, _⟩ := parse_ok h
  obtain ⟨_, g1, g2, _⟩ := (pcs_local _).1 _ _ _ _ h3
  intro o ho
  have := expd_good l [[]] 0 g1 (fun o ho => by
    simp only [List.mem_singleton] at ho; subst ho; exact ⟨trivial, by simp [okL], by simp [texts]⟩) o ho
  exact this.le (by simp at g2; omega)

/-- Two patterns as alternatives. -/
theorem parse_two {p q : List UInt8} {l m : List Pc} (hp : parse p = .ok l) (hq : parse q = .ok m) (h1 : p.length ≤ 60) (h2 : q.length ≤ 60) :
    parse ([123] ++ p ++ [44] ++ q ++ [125]) = .ok [.br [l, m]] ∨ parse ([123] ++ p ++ [44] ++ q ++ [125]) = .error 19 ∨ parse ([123] ++ p ++ [44] ++ q ++ [125]) = .error 11 := by
  obtain ⟨p1, p2, d, p3, p4, p5⟩ := parse_ok hp
  obtain ⟨q1, q2, d', q3, q4, q5⟩ := parse_ok hq
  obtain ⟨_, _, _, b, eb, pl⟩ := (pcs_local _).1 _ _ _ _ p3
  obtain ⟨_, _, _, b', eb', ql⟩ := (pcs_local _).1 _ _ _ _ q3
  rw [List.append_nil] at eb eb'
  subst eb; subst eb'
  have hlen : ([123] ++ p ++ [44] ++ q ++ [125]).length = p.length + q.length + 3 := by simp; omega
  have key : pcs (2 * ([123] ++ p ++ [44] ++ q ++ [125]).length + 2) ([123] ++ p ++ [44] ++ q ++ [125]) = some ([.br [l, m]], [], max (max d d' + 1) 0) := by
    rw [hlen]
    have e : ([123] ++ p ++ [44] ++ q ++ [125] : List UInt8) = 123 :: (p ++ 44 :: (q ++ 125 :: [])) := by simp
    rw [e]
    have hq' : alts (2 * (p.length + q.length + 3)) (q ++ 125 :: []) = some ([m], [], d') := by
      obtain ⟨k, hk⟩ : ∃ k, 2 * (p.length + q.length + 3) = k + 1 := ⟨_, rfl⟩
      rw [hk]
      unfold alts
      rw [ql k (125 :: []) (by omega) (.inr ⟨125, [], rfl, .inr rfl⟩)]
      simp
    have ha : alts (2 * (p.length + q.length + 3) + 1) (p ++ 44 :: (q ++ 125 :: [])) = some ([l, m], [], max d d') := by
      unfold alts
      rw [pl (2 * (p.length + q.length + 3)) (44 :: (q ++ 125 :: [])) (by omega) (.inr ⟨44, _, rfl, .inl rfl⟩)]
      simp [hq']
    show pcs ((2 * (p.length + q.length + 3) + 1) + 1) _ = _
    unfold pcs
    rw [if_neg (by decide), if_neg (by decide), if_neg (by decide), if_neg (by decide), if_pos rfl, ha]
    simp only [Option.bind_some]
    unfold pcs
    rfl
  unfold parse
  rw [if_neg (by omega), key]
  have hne : [123] ++ p ++ [44] ++ q ++ [125] ≠ [] := by simp
  simp only [hne, ne_eq, not_true_eq_false, or_self, if_false]
  split
  · exact .inr (.inl rfl)
  · split
    · exact .inr (.inr rfl)
    · exact .inl rfl

/-! ## Fitting -/
theorem mt_star (l : List Pc) (s : List UInt8) : mt (.star :: l) s = (mt l s || match s with | [] => false | _ :: s' => mt (.star :: l) s') := by
  cases s <;> simp [mt, tls]
theorem mt_other {p : Pc} (hp : p ≠ .star) (l : List Pc) (c : UInt8) (s : List UInt8) : mt (p :: l) (c :: s) = (p.one c && mt l s) := by
  cases p <;> first | exact absurd rfl hp | rfl
theorem mt_other_nil {p : Pc} (hp : p ≠ .star) (l : List Pc) : mt (p :: l) [] = false := by
  cases p <;> first | exact absurd rfl hp | rfl
theorem mt_nil (s : List UInt8) : mt [] s = s.isEmpty := by simp [mt]
theorem one_star (c : UInt8) : Pc.star.one c = false := rfl

def starless (l : List Pc) : Prop := ∀ p ∈ l, p ≠ .star

theorem mt_skip : ∀ (M R : List Pc) (s : List UInt8), starless M → mt (M ++ R) s = true → M.length ≤ s.length ∧ mt R (s.drop M.length) = true
  | [], R, s, _, h => by simpa using h
  | p :: M, R, [], hM, h => by
    rw [List.cons_append, mt_other_nil (hM p (by simp))] at h
    cases h
  | p :: M, R, c :: s, hM, h => by
    rw [List.cons_append, mt_other (hM p (by simp)), Bool.and_eq_true] at h
    have := mt_skip M R s (fun x hx => hM x (by simp [hx])) h.2
    exact ⟨by simp; omega, by simpa using this.2⟩
theorem star_drop (R : List Pc) : ∀ (s : List UInt8) (i : Nat), mt (.star :: R) (s.drop i) = true → mt (.star :: R) s = true
  | s, 0, h => h
  | [], i + 1, h => by simpa using h
  | c :: s, i + 1, h => by
    rw [mt_star]
    simp only [List.drop_succ_cons] at h
    simp [star_drop R s i h]
theorem star_le (R : List Pc) (s : List UInt8) {i j : Nat} (hij : i ≤ j) (h : mt (.star :: R) (s.drop j) = true) : mt (.star :: R) (s.drop i) = true := by
  have e : s.drop j = (s.drop i).drop (j - i) := by rw [List.drop_drop]; congr 1; omega
  rw [e] at h
  exact star_drop R _ _ h

/-- What the search for a fit keeps. -/
structure Fit (l : List Pc) (name : List UInt8) (at_ k : Nat) (back : Option Nat) (from_ : Nat) : Prop where
  hat : at_ ≤ l.length
  hk : k ≤ name.length
  hfk : from_ ≤ k
  f0 : back = none → mt l name = mt (l.drop at_) (name.drop k)
  f1 : ∀ b, back = some b → b < at_ ∧ l[b]? = some .star ∧ k - from_ = at_ - b - 1 ∧ starless ((l.take at_).drop (b + 1)) ∧
    mt l name = (mt (l.drop at_) (name.drop k) || (decide (from_ < name.length) && mt (l.drop b) (name.drop (from_ + 1))))

theorem Fit.init (l : List Pc) (name : List UInt8) : Fit l name 0 0 none 0 :=
  ⟨Nat.zero_le _, Nat.zero_le _, Nat.le_refl _, fun _ => rfl, fun b h => by cases h⟩

theorem drop_cons {α : Type} {l : List α} {i : Nat} {a : α} (h : l[i]? = some a) : l.drop i = a :: l.drop (i + 1) := by
  obtain ⟨hlt, rfl⟩ := List.getElem?_eq_some_iff.1 h
  exact List.drop_eq_getElem_cons hlt

/-- The piece that stands is a star. -/
theorem Fit.atStar {l : List Pc} {name : List UInt8} {at_ k : Nat} {back : Option Nat} {from_ : Nat} (h : Fit l name at_ k back from_) (hs : l[at_]? = some .star) : Fit l name (at_ + 1) k (some at_) k := by
  have hlt := (List.getElem?_eq_some_iff.1 hs).1
  have hd := drop_cons hs
  have e1 : mt (l.drop at_) (name.drop k) = (mt (l.drop (at_ + 1)) (name.drop k) || (decide (k < name.length) && mt (l.drop at_) (name.drop (k + 1)))) := by
    rw [hd, mt_star]
    congr 1
    by_cases hk : k < name.length
    · rw [List.drop_eq_getElem_cons hk]; simp [hk]
    · rw [List.drop_eq_nil_of_le (by omega)]; simp [hk]
  refine ⟨by omega, h.hk, Nat.le_refl _, nofun, fun b hb => ?_⟩
  cases hb
  refine ⟨by omega, hs, by omega, fun p hp => ?_, ?_⟩
  · rw [List.drop_eq_nil_of_le (by rw [List.length_take]; exact Nat.min_le_left _ _)] at hp; cases hp
  · rw [← e1]
    cases hb : back with
    | none => exact h.f0 hb
    | some b =>
      obtain ⟨g1, g2, g3, g4, g5⟩ := h.f1 b hb
      rw [g5]
      cases hx : mt (l.drop at_) (name.drop k) with
      | true => rfl
      | false =>
        rw [Bool.false_or]
        cases hy : (decide (from_ < name.length) && mt (l.drop b) (name.drop (from_ + 1))) with
        | false => rfl
        | true =>
          exfalso
          simp only [Bool.and_eq_true, decide_eq_true_eq] at hy
          obtain ⟨hfr, hy⟩ := hy
          rw [drop_cons g2] at hy
          simp only [mt, List.any_eq_true] at hy
          obtain ⟨t, ht, hy⟩ := hy
          obtain ⟨j, rfl⟩ : ∃ j, t = (name.drop (from_ + 1)).drop j := by
            clear hy
            generalize name.drop (from_ + 1) = s at ht
            induction s with
            | nil => simp [tls] at ht; exact ⟨0, by simp [ht]⟩
            | cons c s ih =>
              simp only [tls, List.mem_cons] at ht
              rcases ht with rfl | ht
              · exact ⟨0, rfl⟩
              · obtain ⟨j, rfl⟩ := ih ht; exact ⟨j + 1, rfl⟩
          have es : l.drop (b + 1) = (l.take at_).drop (b + 1) ++ l.drop at_ := by
            have : l.drop (b + 1) = ((l.take at_) ++ l.drop at_).drop (b + 1) := by rw [List.take_append_drop]
            rw [this, List.drop_append_of_le_length (by simp; omega)]
          rw [es] at hy
          obtain ⟨m1, m2⟩ := mt_skip _ _ _ g4 hy
          rw [List.drop_drop, List.drop_drop, hd] at m2
          have := star_le _ name (i := k) (by simp; omega) m2
          rw [← hd, hx] at this
          cases this

/-- The piece that stands fits the byte that stands. -/
theorem Fit.step {l : List Pc} {name : List UInt8} {at_ k : Nat} {back : Option Nat} {from_ : Nat} {p : Pc} {c : UInt8} (h : Fit l name at_ k back from_) (hp : l[at_]? = some p) (hs : p ≠ .star) (hc : name[k]? = some c) (ho : p.one c = true) :
    Fit l name (at_ + 1) (k + 1) back from_ := by
  have h1 := (List.getElem?_eq_some_iff.1 hp).1
  have h2 := (List.getElem?_eq_some_iff.1 hc).1
  have e : mt (l.drop at_) (name.drop k) = mt (l.drop (at_ + 1)) (name.drop (k + 1)) := by
    rw [drop_cons hp, drop_cons hc, mt_other hs, ho, Bool.true_and]
  refine ⟨by omega, by omega, by have := h.hfk; omega, fun hn => by rw [← e]; exact h.f0 hn, fun b hb => ?_⟩
  obtain ⟨g1, g2, g3, g4, g5⟩ := h.f1 b hb
  refine ⟨by omega, g2, by have := h.hfk; omega, fun x hq => ?_, by rw [← e]; exact g5⟩
  have : l.take (at_ + 1) = l.take at_ ++ [p] := by rw [List.take_add_one, hp]; rfl
  rw [this, List.drop_append_of_le_length (by simp; omega)] at hq
  rcases List.mem_append.1 hq with hq | hq
  · exact g4 x hq
  · simp only [List.mem_singleton] at hq; subst hq; exact hs

/-- Nothing fits here. -/
def Stuck (l : List Pc) (name : List UInt8) (at_ k : Nat) : Prop := ∃ c, name[k]? = some c ∧ (l[at_]? = none ∨ ∃ p, l[at_]? = some p ∧ p ≠ .star ∧ p.one c = false)
theorem Stuck.mt {l : List Pc} {name : List UInt8} {at_ k : Nat} (h : Stuck l name at_ k) : Glob.mt (l.drop at_) (name.drop k) = false := by
  obtain ⟨c, hc, h⟩ := h
  rw [drop_cons hc]
  rcases h with h | ⟨p, hp, hs, ho⟩
  · rw [List.drop_eq_nil_of_le (List.getElem?_eq_none_iff.1 h)]; rfl
  · rw [drop_cons hp, mt_other hs, ho, Bool.false_and]

/-- The last star takes one byte more. -/
theorem Fit.back {l : List Pc} {name : List UInt8} {at_ k : Nat} {b from_ : Nat} (h : Fit l name at_ k (some b) from_) (hs : Stuck l name at_ k) : Fit l name (b + 1) (from_ + 1) (some b) (from_ + 1) := by
  obtain ⟨g1, g2, g3, g4, g5⟩ := h.f1 b rfl
  have hk : k < name.length := by obtain ⟨c, hc, _⟩ := hs; exact (List.getElem?_eq_some_iff.1 hc).1
  have hfk := h.hfk
  have hat := h.hat
  refine ⟨by omega, by omega, Nat.le_refl _, nofun, fun b' hb' => ?_⟩
  cases hb'
  refine ⟨by omega, g2, by omega, fun p hp => ?_, ?_⟩
  · rw [List.drop_eq_nil_of_le (by rw [List.length_take]; exact Nat.min_le_left _ _)] at hp; cases hp
  · rw [g5, hs.mt, Bool.false_or]
    have hfr : decide (from_ < name.length) = true := by simp; omega
    rw [hfr, Bool.true_and, drop_cons g2, mt_star]
    congr 1
    by_cases hf : from_ + 1 < name.length
    · rw [List.drop_eq_getElem_cons hf]; simp [hf]
    · rw [List.drop_eq_nil_of_le (by omega)]; simp [hf]

theorem Fit.no {l : List Pc} {name : List UInt8} {at_ k from_ : Nat} (h : Fit l name at_ k none from_) (hs : Stuck l name at_ k) : mt l name = false := by
  rw [h.f0 rfl, hs.mt]

theorem Fit.done {l : List Pc} {name : List UInt8} {at_ from_ : Nat} {back : Option Nat} (h : Fit l name at_ name.length back from_) : mt l name = mt (l.drop at_) [] := by
  have e0 : name.drop name.length = [] := List.drop_eq_nil_of_le (Nat.le_refl _)
  cases hb : back with
  | none => rw [h.f0 hb, e0]
  | some b =>
    obtain ⟨g1, g2, g3, g4, g5⟩ := h.f1 b hb
    rw [g5, e0]
    cases hy : (decide (from_ < name.length) && mt (l.drop b) (name.drop (from_ + 1))) with
    | false => rw [Bool.or_false]
    | true =>
      exfalso
      simp only [Bool.and_eq_true, decide_eq_true_eq] at hy
      obtain ⟨hfr, hy⟩ := hy
      rw [drop_cons g2] at hy
      simp only [mt, List.any_eq_true] at hy
      obtain ⟨t, ht, hy⟩ := hy
      have htl : t.length ≤ (name.drop (from_ + 1)).length := by
        clear hy
        generalize name.drop (from_ + 1) = s at ht
        induction s with
        | nil => simp [tls] at ht; simp [ht]
        | cons c s ih =>
          simp only [tls, List.mem_cons] at ht
          rcases ht with rfl | ht
          · simp
          · have := ih ht; simp; omega
      have es : l.drop (b + 1) = (l.take at_).drop (b + 1) ++ l.drop at_ := by
        have : l.drop (b + 1) = ((l.take at_) ++ l.drop at_).drop (b + 1) := by rw [List.take_append_drop]
        rw [this, List.drop_append_of_le_length (by have := h.hat; simp; omega)]
      rw [es] at hy
      obtain ⟨m1, m2⟩ := mt_skip _ _ _ g4 hy
      have hat := h.hat
      simp at m1 htl
      omega

theorem mt_end : ∀ (l : List Pc), mt l [] = true ↔ ∀ p ∈ l, p = .star
  | [] => by simp [mt]
  | p :: l => by
    by_cases hp : p = .star
    · subst hp; rw [mt_star]; simp [mt_end l]
    · rw [mt_other_nil hp]; simp [hp]

theorem mt_lits : ∀ (p s : List UInt8), mt (p.map .lit) s = decide (p = s)
  | [], [] => rfl
  | [], _ :: _ => rfl
  | _ :: _, [] => by simp [mt]
  | a :: p, b :: s => by
    show (decide (a = b) && mt (p.map .lit) s) = _
    rw [mt_lits p s]
    by_cases h : a = b <;> simp [h]
theorem mt_marks : ∀ (n : Nat) (s : List UInt8), mt (List.replicate n .q) s = decide (s.length = n)
  | 0, [] => rfl
  | 0, _ :: _ => rfl
  | _ + 1, [] => by simp [List.replicate_succ, mt]
  | n + 1, _ :: s => by
    rw [List.replicate_succ]
    show (true && mt (List.replicate n .q) s) = _
    rw [mt_marks n s]; simp
theorem mt_any : ∀ (s : List UInt8), mt [.star] s = true
  | [] => rfl
  | _ :: s => by rw [mt_star]; simp [mt_any s]
theorem suffix_drop {text b r : List UInt8} {k : Nat} (h : text.drop k = b ++ r) : text.drop (text.length - r.length) = r ∧ r.length + b.length = text.length - k := by
  have h1 := congrArg List.length h
  simp only [List.length_drop, List.length_append] at h1
  refine ⟨?_, by omega⟩
  by_cases hk : k ≤ text.length
  · have : text.drop (text.length - r.length) = (text.drop k).drop b.length := by
      rw [List.drop_drop]; congr 1; omega
    rw [this, h, List.drop_left]
  · have : r = [] := List.eq_nil_of_length_eq_zero (by omega)
    subst this; simp
theorem pcs_drop {m k : Nat} {text : List UInt8} {l : List Pc} {r : List UInt8} {d : Nat} (h : pcs m (text.drop k) = some (l, r, d)) : text.drop (text.length - r.length) = r ∧ r.length ≤ text.length - k := by
  obtain ⟨_, _, _, b, hb, _⟩ := (pcs_local _).1 _ _ _ _ h
  have := suffix_drop hb
  exact ⟨this.1, by omega⟩
theorem alts_drop {m k : Nat} {text : List UInt8} {l : List (List Pc)} {r : List UInt8} {d : Nat} (h : alts m (text.drop k) = some (l, r, d)) : text.drop (text.length - r.length) = r ∧ r.length ≤ text.length - k := by
  obtain ⟨_, _, b, hb, _⟩ := (pcs_local _).2 _ _ _ _ h
  have := suffix_drop hb
  exact ⟨this.1, by omega⟩
theorem cls_drop {m k : Nat} {text : List UInt8} {ne : Bool} {l : List (UInt8 × UInt8)} {r : List UInt8} (h : cls m ne (text.drop k) = some (l, r)) : text.drop (text.length - r.length) = r ∧ r.length ≤ text.length - k := by
  obtain ⟨b, hb, _⟩ := cls_local _ _ _ _ _ h
  have := suffix_drop hb
  exact ⟨this.1, by omega⟩
end Go.Glob
