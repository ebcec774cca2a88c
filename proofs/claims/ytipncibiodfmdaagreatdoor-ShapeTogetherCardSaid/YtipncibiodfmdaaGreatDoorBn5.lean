/- Quotes that are doubled, plainly. Contracts over the abstract machine for strings.Builder and slices.Grow, of any program and any numbering. Patterns of one name, in plain Lean: what the program's functions compute. Patterns of one name: plain laws of what the functions compute. Patterns of one name: the small functions. strings.Builder: WriteString, WriteByte. Numbers over time: lines of values (both). Numbers over time: the document's Print, Row, At. Functions of one series: how many numbers a call has, methods, whole numbers, labels (both). Functions of one series: labels (both). -/
import Derived.Lib.ReplaceLaws
import Derived.Test.YtipncibiodfmdaaGreatDoorAbs2
import Derived.Shelf.Strings.Builder1
import Derived.Shelf.Spec.SlicesGrow
import Derived.WalkKit
import Derived.Test.YtipncibiodfmdaaGreatDoorCode
import Derived.Test.YtipncibiodfmdaaGreatDoorShelf
import Derived.Lib.IndexAny
import Derived.Test.YtipncibiodfmdaaGreatDoorLay
import Derived.Test.YtipncibiodfmdaaGreatDoorBn1
import Derived.Test.YtipncibiodfmdaaGreatDoorBn2
import Derived.Test.YtipncibiodfmdaaGreatDoorBn3
import Derived.Test.YtipncibiodfmdaaGreatDoorBn4
section
set_option linter.unusedSimpArgs false
set_option linter.unusedVariables false
set_option linter.constructorNameAsVariable false
namespace Go.Ser
end Go.Ser
end
section
set_option linter.unusedSimpArgs false
set_option linter.unusedVariables false
set_option linter.constructorNameAsVariable false
namespace Go.Abs
open Go.RowKit Go.Proofs Go.Shelf
variable {G : Globs}
section
variable {P : Program} {ρ : Ren} {σ : Store}
end
end Go.Abs
end
section
set_option linter.unusedSimpArgs false
set_option linter.unusedVariables false
set_option linter.constructorNameAsVariable false
namespace Go.Glob
/-- A name byte. -/
def nb (c : UInt8) : Bool := (97 ≤ c && c ≤ 122) || (65 ≤ c && c ≤ 90) || (48 ≤ c && c ≤ 57) || [95, 45, 58, 37, 35, 64, 43, 61].contains c
/-- A dash and a name byte behind it. -/
def rng : List UInt8 → Option (UInt8 × List UInt8)
  | d :: h :: s => if d = 45 ∧ nb h = true then some (h, s) else none
  | _ => none
/-- A class, behind its bracket: its ranges, and what stands behind it. -/
def cls : Nat → Bool → List UInt8 → Option (List (UInt8 × UInt8) × List UInt8)
  | 0, _, _ => none
  | _ + 1, _, [] => none
  | n + 1, ne, c :: s =>
    if c = 93 ∧ ne = true then some ([], s)
    else if nb c = false then none
    else match rng s with
      | some (h, s') => if h < c then none else (cls n true s').map fun x => ((c, h) :: x.1, x.2)
      | none => (cls n true s).map fun x => ((c, c) :: x.1, x.2)
inductive Pc where
  | lit (c : UInt8)
  | q
  | star
  | cls (rs : List (UInt8 × UInt8)) (text : List UInt8)
  | br (as_ : List (List Pc))
def stop (c : UInt8) : Bool := c = 44 || c = 125
def Pc.text : Pc → List UInt8
  | .lit c => [c]
  | .q => [63]
  | .star => [42]
  | .cls _ t => t
  | .br _ => []
def texts (l : List Pc) : List UInt8 := l.flatMap Pc.text
/-- Does a piece fit a byte? -/
def Pc.one : Pc → UInt8 → Bool
  | .q, _ => true
  | .lit l, c => decide (l = c)
  | .cls rs _, c => rs.any fun r => r.1 ≤ c && c ≤ r.2
  | .star, _ => false
  | .br _, _ => false
def tls {α : Type} : List α → List (List α)
  | [] => [[]]
  | a :: s => (a :: s) :: tls s
/-- Do pieces fit a name? -/
def mt : List Pc → List UInt8 → Bool
  | [], s => s.isEmpty
  | .star :: l, s => (tls s).any (mt l)
  | .lit _ :: _, [] => false
  | .q :: _, [] => false
  | .cls _ _ :: _, [] => false
  | .br _ :: _, [] => false
  | .lit p :: l, c :: s => (Pc.lit p).one c && mt l s
  | .q :: l, c :: s => Pc.q.one c && mt l s
  | .cls r t :: l, c :: s => (Pc.cls r t).one c && mt l s
  | .br a :: l, c :: s => (Pc.br a).one c && mt l s
end Go.Glob
end
section
set_option linter.unusedSimpArgs false
set_option linter.unusedVariables false
set_option linter.constructorNameAsVariable false
namespace Go.Glob
mutual
/-- Pieces that may have been read: name bytes; classes whose text says them. -/
def okL : List Pc → Prop
  | [] => True
  | .lit c :: l => nb c = true ∧ okL l
  | .q :: l => okL l
  | .star :: l => okL l
  | .cls rs t :: l => (∃ b, t = 91 :: b ∧ ∀ m x, b.length < m → cls m false (b ++ x) = some (rs, x)) ∧ okL l
  | .br as_ :: l => okA as_ ∧ okL l
def okA : List (List Pc) → Prop
  | [] => True
  | a :: as_ => okL a ∧ okA as_
end
/-- Pieces without braces. -/
def flat : List Pc → Prop
  | [] => True
  | .br _ :: _ => False
  | .lit _ :: l => flat l
  | .q :: l => flat l
  | .star :: l => flat l
  | .cls _ _ :: l => flat l
theorem flat_append : ∀ {l m : List Pc}, flat l → flat m → flat (l ++ m)
  | [], _, _, h => h
  | .br _ :: _, _, h, _ => h.elim
  | .lit _ :: l, m, h, h' => flat_append (l := l) (m := m) h h'
  | .q :: l, m, h, h' => flat_append (l := l) (m := m) h h'
  | .star :: l, m, h, h' => flat_append (l := l) (m := m) h h'
  | .cls _ _ :: l, m, h, h' => flat_append (l := l) (m := m) h h'
theorem okL_append : ∀ {l m : List Pc}, okL l → okL m → okL (l ++ m)
  | [], _, _, h => h
  | .br _ :: l, m, h, h' => by simp only [List.cons_append, okL] at h ⊢; exact ⟨h.1, okL_append h.2 h'⟩
  | .lit _ :: l, m, h, h' => by simp only [List.cons_append, okL] at h ⊢; exact ⟨h.1, okL_append h.2 h'⟩
  | .q :: l, m, h, h' => by simp only [List.cons_append, okL] at h ⊢; exact okL_append h h'
  | .star :: l, m, h, h' => by simp only [List.cons_append, okL] at h ⊢; exact okL_append h h'
  | .cls _ _ :: l, m, h, h' => by simp only [List.cons_append, okL] at h ⊢; exact ⟨h.1, okL_append h.2 h'⟩
theorem texts_append (l m : List Pc) : texts (l ++ m) = texts l ++ texts m := by simp [texts]
/-- What an expansion is like: no braces, pieces as_ they must be, of at most n bytes. -/
def Good (n : Nat) (l : List Pc) : Prop := flat l ∧ okL l ∧ (texts l).length ≤ n
theorem Good.app {a b : Nat} {l m : List Pc} (h : Good a l) (h' : Good b m) : Good (a + b) (l ++ m) :=
  ⟨flat_append h.1 h'.1, okL_append h.2.1 h'.2.1, by rw [texts_append, List.length_append]; exact Nat.add_le_add h.2.2 h'.2.2⟩
theorem mt_star (l : List Pc) (s : List UInt8) : mt (.star :: l) s = (mt l s || match s with | [] => false | _ :: s' => mt (.star :: l) s') := by
  cases s <;> simp [mt, tls]
theorem mt_other {p : Pc} (hp : p ≠ .star) (l : List Pc) (c : UInt8) (s : List UInt8) : mt (p :: l) (c :: s) = (p.one c && mt l s) := by
  cases p <;> first | exact absurd rfl hp | rfl
theorem mt_other_nil {p : Pc} (hp : p ≠ .star) (l : List Pc) : mt (p :: l) [] = false := by
  cases p <;> first | exact absurd rfl hp | rfl
def starless (l : List Pc) : Prop := ∀ p ∈ l, p ≠ .star
theorem mt_skip : ∀ (M R : List Pc) (s : List UInt8), starless M → mt (M ++ R) s = true → M.length ≤ s.length ∧ mt R (s.drop M.length) = true
  | [], R, s, _, h => by simpa using h
  | p :: M, R, [], hM, h => by
    rw [List.cons_append, mt_other_nil (hM p (by simp))] at h
    cases h
  | p :: M, R, c :: s, hM, h => by
    rw [List.cons_append, mt_other (hM p (by simp)), Bool.and_eq_true] at h
    have := mt_skip M R s (fun x hx => hM x (by simp [hx])) h.2
    exact ⟨by simp; omega, by simpa using this.2⟩
/-- What the search for a fit keeps. -/
structure Fit (l : List Pc) (name : List UInt8) (at_ k : Nat) (back : Option Nat) (from_ : Nat) : Prop where
  hat : at_ ≤ l.length
  hk : k ≤ name.length
  hfk : from_ ≤ k
  f0 : back = none → mt l name = mt (l.drop at_) (name.drop k)
  f1 : ∀ b, back = some b → b < at_ ∧ l[b]? = some .star ∧ k - from_ = at_ - b - 1 ∧ starless ((l.take at_).drop (b + 1)) ∧
    mt l name = (mt (l.drop at_) (name.drop k) || (decide (from_ < name.length) && mt (l.drop b) (name.drop (from_ + 1))))
theorem drop_cons {α : Type} {l : List α} {i : Nat} {a : α} (h : l[i]? = some a) : l.drop i = a :: l.drop (i + 1) := by
  obtain ⟨hlt, rfl⟩ := List.getElem?_eq_some_iff.1 h
  exact List.drop_eq_getElem_cons hlt
/-- The piece that stands fits the byte that stands. -/
theorem Fit.step {l : List Pc} {name : List UInt8} {at_ k : Nat} {back : Option Nat} {from_ : Nat} {p : Pc} {c : UInt8} (h : Fit l name at_ k back from_) (hp : l[at_]? = some p) (hs : p ≠ .star) (hc : name[k]? = some c) (ho : p.one c = true) :
    Fit l name (at_ + 1) (k + 1) back from_ := by
  have h1 := (List.getElem?_eq_some_iff.1 hp).1
  have h2 := (List.getElem?_eq_some_iff.1 hc).1
  have e : mt (l.drop at_) (name.drop k) = mt (l.drop (at_ + 1)) (name.drop (k + 1)) := by
    rw [drop_cons hp, drop_cons hc, mt_other hs, ho, Bool.true_and]
  refine ⟨by omega, by omega, by have := h.hfk; omega, fun hn => by rw [← e]; exact h.f0 hn, fun b hb => ?_⟩
  obtain ⟨g1, g2, g3, g4, g5⟩ := h.f1 b hb
  refine ⟨by omega, g2, by have := h.hfk; omega, fun x hq => ?_, by rw [← e]; exact g5⟩
  have : l.take (at_ + 1) = l.take at_ ++ [p] := by rw [List.take_add_one, hp]; rfl
  rw [this, List.drop_append_of_le_length (by simp; omega)] at hq
  rcases List.mem_append.1 hq with hq | hq
  · exact g4 x hq
  · simp only [List.mem_singleton] at hq; subst hq; exact hs
/-- Nothing fits here. -/
def Stuck (l : List Pc) (name : List UInt8) (at_ k : Nat) : Prop := ∃ c, name[k]? = some c ∧ (l[at_]? = none ∨ ∃ p, l[at_]? = some p ∧ p ≠ .star ∧ p.one c = false)
theorem Stuck.mt {l : List Pc} {name : List UInt8} {at_ k : Nat} (h : Stuck l name at_ k) : Glob.mt (l.drop at_) (name.drop k) = false := by
  obtain ⟨c, hc, h⟩ := h
  rw [drop_cons hc]
  rcases h with h | ⟨p, hp, hs, ho⟩
  · rw [List.drop_eq_nil_of_le (List.getElem?_eq_none_iff.1 h)]; rfl
  · rw [drop_cons hp, mt_other hs, ho, Bool.false_and]
/-- The last star takes one byte more. -/
theorem Fit.back {l : List Pc} {name : List UInt8} {at_ k : Nat} {b from_ : Nat} (h : Fit l name at_ k (some b) from_) (hs : Stuck l name at_ k) : Fit l name (b + 1) (from_ + 1) (some b) (from_ + 1) := by
  obtain ⟨g1, g2, g3, g4, g5⟩ := h.f1 b rfl
  have hk : k < name.length := by obtain ⟨c, hc, _⟩ := hs; exact (List.getElem?_eq_some_iff.1 hc).1
  have hfk := h.hfk
  have hat := h.hat
  refine ⟨by omega, by omega, Nat.le_refl _, nofun, fun b' hb' => ?_⟩
  cases hb'
  refine ⟨by omega, g2, by omega, fun p hp => ?_, ?_⟩
  · rw [List.drop_eq_nil_of_le (by rw [List.length_take]; exact Nat.min_le_left _ _)] at hp; cases hp
  · rw [g5, hs.mt, Bool.false_or]
    have hfr : decide (from_ < name.length) = true := by simp; omega
    rw [hfr, Bool.true_and, drop_cons g2, mt_star]
    congr 1
    by_cases hf : from_ + 1 < name.length
    · rw [List.drop_eq_getElem_cons hf]; simp [hf]
    · rw [List.drop_eq_nil_of_le (by omega)]; simp [hf]
theorem Fit.done {l : List Pc} {name : List UInt8} {at_ from_ : Nat} {back : Option Nat} (h : Fit l name at_ name.length back from_) : mt l name = mt (l.drop at_) [] := by
  have e0 : name.drop name.length = [] := List.drop_eq_nil_of_le (Nat.le_refl _)
  cases hb : back with
  | none => rw [h.f0 hb, e0]
  | some b =>
    obtain ⟨g1, g2, g3, g4, g5⟩ := h.f1 b hb
    rw [g5, e0]
    cases hy : (decide (from_ < name.length) && mt (l.drop b) (name.drop (from_ + 1))) with
    | false => rw [Bool.or_false]
    | true =>
      exfalso
      simp only [Bool.and_eq_true, decide_eq_true_eq] at hy
      obtain ⟨hfr, hy⟩ := hy
      rw [drop_cons g2] at hy
      simp only [mt, List.any_eq_true] at hy
      obtain ⟨t, ht, hy⟩ := hy
      have htl : t.length ≤ (name.drop (from_ + 1)).length := by
        clear hy
        generalize name.drop (from_ + 1) = s at ht
        induction s with
        | nil => simp [tls] at ht; simp [ht]
        | cons c s ih =>
          simp only [tls, List.mem_cons] at ht
          rcases ht with rfl | ht
          · simp
          · have := ih ht; simp; omega
      have es : l.drop (b + 1) = (l.take at_).drop (b + 1) ++ l.drop at_ := by
        have : l.drop (b + 1) = ((l.take at_) ++ l.drop at_).drop (b + 1) := by rw [List.take_append_drop]
        rw [this, List.drop_append_of_le_length (by have := h.hat; simp; omega)]
      rw [es] at hy
      obtain ⟨m1, m2⟩ := mt_skip _ _ _ g4 hy
      have hat := h.hat
      simp at m1 htl
      omega
end Go.Glob
end
section
set_option linter.unusedSimpArgs false
set_option linter.unusedVariables false
set_option linter.constructorNameAsVariable false
namespace Go.Proofs.YtipncibiodfmdaaGreatDoor
open Go.Abs Go.Glob
variable {G : Globs}
end Go.Proofs.YtipncibiodfmdaaGreatDoor
end
section
set_option linter.unusedSimpArgs false
set_option linter.unusedVariables false
set_option linter.constructorNameAsVariable false
namespace Go.Proofs.YtipncibiodfmdaaGreatDoor
open Go.Abs
variable {G : Globs}
end Go.Proofs.YtipncibiodfmdaaGreatDoor
end
section
set_option linter.unusedSimpArgs false
set_option linter.unusedVariables false
set_option linter.constructorNameAsVariable false
set_option maxHeartbeats 4000000
namespace Go.Ser
open Go.Abs Go.Num Go.Dec
end Go.Ser
namespace Go.Proofs.YtipncibiodfmdaaGreatDoor
open Go.Abs Go.Num Go.Ser Go.Dec
variable {G : Globs}
end Go.Proofs.YtipncibiodfmdaaGreatDoor
end
section
set_option linter.unusedSimpArgs false
set_option linter.unusedVariables false
set_option linter.constructorNameAsVariable false
set_option maxHeartbeats 4000000
namespace Go.Proofs.YtipncibiodfmdaaGreatDoor
open Go.Abs Go.Num Go.Ser Go.Dec
variable {G : Globs}
/-- A step that yields something where there is room. -/
theorem ob_if {K : AV → Prop} {t : Tg K} {c : Prop} [Decidable c] {v : AV} (h : c) (hK : K v) : ob K t (if c then some v else none) := ⟨v, if_pos h, hK⟩
end Go.Proofs.YtipncibiodfmdaaGreatDoor
end
section
set_option linter.unusedSimpArgs false
set_option linter.unusedVariables false
set_option linter.constructorNameAsVariable false
set_option maxHeartbeats 4000000
namespace Go.Shp
open Go.Num Go.Ser Go.Dec Go.Abs
def bareW : List Wd := [.absolute, .negate, .squareRoot, .invert, .derivative, .integral, .isNonNull]
def maybeW : List Wd := [.nonNegativeDerivative, .perSecond, .keepLastValue, .transformNull]
def singleW : List Wd := [.scale, .offset, .delay, .movingAverage, .movingSum, .movingMin, .movingMax, .removeAboveValue, .removeBelowValue, .round, .summarize]
theorem txt_inj {a b : Wd} (h : a.txt = b.txt) : a = b := by
  have := wordOf_txt a
  rw [h, wordOf_txt] at this
  exact (Option.some.inj this).symm
theorem mem_txt {w : Wd} {l : List Wd} : w.txt ∈ l.map Wd.txt ↔ w ∈ l := by
  constructor
  · intro h
    obtain ⟨x, hx, he⟩ := List.mem_map.1 h
    rw [← txt_inj he]; exact hx
  · exact List.mem_map_of_mem
theorem not_mem_txt {s : List UInt8} (h : wordOf s = none) (l : List Wd) : s ∉ l.map Wd.txt := fun hm => by
  obtain ⟨x, _, he⟩ := List.mem_map.1 hm
  exact wordOf_none h x he.symm
def takesA (call : List UInt8) : AV := match wordOf call with
  | none => .tup [.int .i64 0, .int .i64 0, .bool false]
  | some w => .tup [.int .i64 w.takes.1, .int .i64 w.takes.2, .bool true]
def methodA (t : List UInt8) : AV := match methodS t with
  | none => .tup [.int .i64 0, .bool false]
  | some m => .tup [.int .i64 m, .bool true]
theorem tmod6 (v : Int) : v.tmod 1000000 = 0 ↔ v % 1000000 = 0 := by
  rw [← Int.dvd_iff_tmod_eq_zero, Int.dvd_iff_emod_eq_zero]
theorem tdiv6 {v : Int} (h : v % 1000000 = 0) : v.tdiv 1000000 = v / 1000000 := by
  obtain ⟨k, rfl⟩ := Int.dvd_of_emod_eq_zero h
  rw [Int.mul_tdiv_cancel_left _ (by decide), Int.mul_ediv_cancel_left _ (by decide)]
theorem tdiv6_bd {v : Int} (h0 : -9223372036854775808 ≤ v) (h1 : v ≤ 9223372036854775807) : -9223372036854775808 ≤ v.tdiv 1000000 ∧ v.tdiv 1000000 ≤ 9223372036854775807 := by
  rw [Int.tdiv_eq_ediv]
  have hs : Int.sign 1000000 = 1 := by decide
  rw [hs]
  split <;> omega
theorem join_le : ∀ l : List (List UInt8), (Lib.join l [44]).length ≤ (l.map List.length).sum + l.length
  | [] => by simp [Lib.join]
  | x :: r => by
    have h : ∀ r : List (List UInt8), (Lib.joinTail [44] r).length ≤ (r.map List.length).sum + r.length := by
      intro r
      induction r with
      | nil => simp [Lib.joinTail]
      | cons y r ih =>
        unfold Lib.joinTail at ih ⊢
        simp only [List.map_cons, List.flatten_cons, List.length_append, List.sum_cons, List.length_cons, List.length_nil] at ih ⊢
        omega
    have := h r
    rw [Lib.join_cons]
    simp only [List.length_append, List.map_cons, List.sum_cons, List.length_cons]
    omega
theorem prns_sum : ∀ l : List N, oksN l → ((prns l).map List.length).sum ≤ 21 * l.length
  | [], _ => by simp [prns]
  | n :: l, h => by
    have h1 := prn_le21 n.1 (h n (by simp)).1 (h n (by simp)).2
    have h2 := prns_sum l fun x hx => h x (by simp [hx])
    simp only [prns, List.map_cons, List.sum_cons, List.length_cons] at h2 ⊢
    omega
end Go.Shp
namespace Go.Proofs.YtipncibiodfmdaaGreatDoor
open Go.Abs Go.Num Go.Ser Go.Dec Go.Shp
variable {G : Globs}
theorem sTakes_ok [GSpc] (call : List UInt8) : PCalls Tryz.prog n_shape_Takes [.str call] (fun r => r = takesA call) := by
  refine pcalls_of_awp hmix c_shape_Takes rfl ?_
  have k1 := among_ok (G := G) [97, 98, 115, 111, 108, 117, 116, 101, 32, 110, 101, 103, 97, 116, 101, 32, 115, 113, 117, 97, 114, 101, 82, 111, 111, 116, 32, 105, 110, 118, 101, 114, 116, 32, 100, 101, 114, 105, 118, 97, 116, 105, 118, 101, 32, 105, 110, 116, 101, 103, 114, 97, 108, 32, 105, 115, 78, 111, 110, 78, 117, 108, 108] call (bareW.map Wd.txt) (by decide) (by decide) (by decide +kernel) (by decide)
  have k2 := among_ok (G := G) [110, 111, 110, 78, 101, 103, 97, 116, 105, 118, 101, 68, 101, 114, 105, 118, 97, 116, 105, 118, 101, 32, 112, 101, 114, 83, 101, 99, 111, 110, 100, 32, 107, 101, 101, 112, 76, 97, 115, 116, 86, 97, 108, 117, 101, 32, 116, 114, 97, 110, 115, 102, 111, 114, 109, 78, 117, 108, 108] call (maybeW.map Wd.txt) (by decide) (by decide) (by decide +kernel) (by decide)
  have k3 := among_ok (G := G) [115, 99, 97, 108, 101, 32, 111, 102, 102, 115, 101, 116, 32, 100, 101, 108, 97, 121, 32, 109, 111, 118, 105, 110, 103, 65, 118, 101, 114, 97, 103, 101, 32, 109, 111, 118, 105, 110, 103, 83, 117, 109, 32, 109, 111, 118, 105, 110, 103, 77, 105, 110, 32, 109, 111, 118, 105, 110, 103, 77, 97, 120, 32, 114, 101, 109, 111, 118, 101, 65, 98, 111, 118, 101, 86, 97, 108, 117, 101, 32, 114, 101, 109, 111, 118, 101, 66, 101, 108, 111, 119, 86, 97, 108, 117, 101, 32, 114, 111, 117, 110, 100, 32, 115, 117, 109, 109, 97, 114, 105, 122, 101] call (singleW.map Wd.txt) (by decide) (by decide) (by decide +kernel) (by decide)
  unfold takesA
  cases hw : wordOf call with
  | none =>
    have h1 := not_mem_txt hw bareW
    have h2 := not_mem_txt hw maybeW
    have h3 := not_mem_txt hw singleW
    have h4 := wordOf_none hw .clamp
    simp only [Wd.txt] at h4
    rw [decide_eq_false h1] at k1
    rw [decide_eq_false h2] at k2
    rw [decide_eq_false h3] at k3
    simp [a_shape_Takes]
    refine ac_same k1 (by simp) ?_
    rintro r rfl
    simp
    refine ac_same k2 (by simp) ?_
    rintro r rfl
    simp
    refine ac_same k3 (by simp) ?_
    rintro r rfl
    simp [h4]
  | some w =>
    have := wordOf_some hw
    subst this
    simp only [mem_txt] at k1 k2 k3
    simp [a_shape_Takes]
    refine ac_same k1 (by simp) ?_
    rintro r rfl
    by_cases h1 : w ∈ bareW
    · have : w.takes = (0, 0) := by revert h1; cases w <;> decide
      simp [h1, this]
    simp [h1]
    refine ac_same k2 (by simp) ?_
    rintro r rfl
    by_cases h2 : w ∈ maybeW
    · have : w.takes = (0, 1) := by revert h2; cases w <;> decide
      simp [h2, this]
    simp [h2]
    refine ac_same k3 (by simp) ?_
    rintro r rfl
    by_cases h3 : w ∈ singleW
    · have : w.takes = (1, 1) := by revert h3; cases w <;> decide
      simp [h3, this]
    have : w = .clamp := by revert h1 h2 h3; cases w <;> decide
    subst this
    simp [h3, Wd.txt, Wd.takes]
theorem rTakes_ok (call : List UInt8) : PCalls Tryz.prog n_isobarref25_Takes [.str call] (fun r => r = takesA call) := by
  refine pcalls_of_awp hmix c_isobarref25_Takes rfl ?_
  unfold takesA
  cases hw : wordOf call with
  | none =>
    have h := wordOf_none hw
    have h0 := h .absolute
    have h1 := h .negate
    have h2 := h .squareRoot
    have h3 := h .invert
    have h4 := h .derivative
    have h5 := h .integral
    have h6 := h .isNonNull
    have h7 := h .nonNegativeDerivative
    have h8 := h .perSecond
    have h9 := h .keepLastValue
    have h10 := h .transformNull
    have h11 := h .scale
    have h12 := h .offset
    have h13 := h .delay
    have h14 := h .movingAverage
    have h15 := h .movingSum
    have h16 := h .movingMin
    have h17 := h .movingMax
    have h18 := h .removeAboveValue
    have h19 := h .removeBelowValue
    have h20 := h .round
    have h21 := h .summarize
    have h22 := h .clamp
    simp only [Wd.txt] at h0 h1 h2 h3 h4 h5 h6 h7 h8 h9 h10 h11 h12 h13 h14 h15 h16 h17 h18 h19 h20 h21 h22
    simp [a_isobarref25_Takes, h0, h1, h2, h3, h4, h5, h6, h7, h8, h9, h10, h11, h12, h13, h14, h15, h16, h17, h18, h19, h20, h21, h22]
  | some w =>
    have := wordOf_some hw
    subst this
    cases w <;> simp [a_isobarref25_Takes, Wd.txt, Wd.takes]
theorem rName_ok (i : Nat) (h0 : 1 ≤ i) (h1 : i ≤ 5) : PCalls Tryz.prog n_isobarref12_Name [.int .i64 i] (fun r => r = .str (nameM i)) := by
  refine pcalls_of_awp hmix c_isobarref12_Name rfl ?_
  have : i = 1 ∨ i = 2 ∨ i = 3 ∨ i = 4 ∨ i = 5 := by omega
  rcases this with rfl | rfl | rfl | rfl | rfl <;> simp [a_isobarref12_Name, nameM]
theorem pName_ok (i : Nat) (h0 : 1 ≤ i) (h1 : i ≤ 5) : PCalls Tryz.prog n_rules_Name [.int .i64 i] (fun r => r = .str (nameM i)) := by
  refine pcalls_of_awp hmix c_rules_Name rfl ?_
  have : i = 1 ∨ i = 2 ∨ i = 3 ∨ i = 4 ∨ i = 5 := by omega
  rcases this with rfl | rfl | rfl | rfl | rfl <;> simp [a_rules_Name, nameM]
theorem methodS_at {t : List UInt8} {i : Nat} (h0 : 1 ≤ i) (h1 : i ≤ 5) (he : nameM i = t) : methodS t = some (i : Int) := by
  subst he
  have : i = 1 ∨ i = 2 ∨ i = 3 ∨ i = 4 ∨ i = 5 := by omega
  rcases this with rfl | rfl | rfl | rfl | rfl <;> decide
theorem methodS_none {t : List UInt8} (h : ∀ j, 1 ≤ j → j < 6 → ¬ nameM j = t) : methodS t = none := by
  have h1 := h 1 (by decide) (by decide)
  have h2 := h 2 (by decide) (by decide)
  have h3 := h 3 (by decide) (by decide)
  have h4 := h 4 (by decide) (by decide)
  have h5 := h 5 (by decide) (by decide)
  unfold methodS
  rw [if_neg (Ne.symm h1), if_neg (Ne.symm h2), if_neg (Ne.symm h3), if_neg (Ne.symm h4), if_neg (Ne.symm h5)]
theorem rMethod_ok (t : List UInt8) : PCalls Tryz.prog n_isobarref12_Method [.str t] (fun r => r = methodA t) := by
  refine pcalls_of_awp hmix c_isobarref12_Method rfl ?_
  simp [a_isobarref12_Method]
  refine lp_startx (fun x f σ => ∃ i : Nat, x = 6 - i ∧ 1 ≤ i ∧ i ≤ 6 ∧ f 0 = .str t ∧ f 4 = .int .i64 i ∧ (∀ j, 1 ≤ j → j < i → ¬ nameM j = t) ∧ σ = []) 5 ?_ ?_
  · exact ⟨1, rfl, by omega, by omega, by simp, by simp, fun j h1 h2 => by omega, rfl⟩
  rintro x f σ ⟨i, rfl, h1, h6, f0, f4, hj, rfl⟩
  simp [f4]
  refine cb_dec (fun hlt => ?_) (fun hge => ?_)
  · have h5 : i ≤ 5 := by omega
    have hw : IntKind.i64.wrap ((i : Int) + 1) = (i : Int) + 1 := wrap_i64 (by omega) (by omega)
    simp [f4]
    refine ac_same (rName_ok i h1 h5) (by simp) ?_
    rintro r rfl
    by_cases he : nameM i = t
    · have hm := methodS_at h1 h5 he
      simp [f0, f4, he, methodA, hm]
    · simp [f0, f4, he, hw]
      refine nx_intro (6 - (i + 1)) (by omega) ⟨i + 1, rfl, by omega, by omega, by simp [f0], by simp, fun j g1 g2 => ?_, rfl⟩
      rcases Nat.lt_or_ge j i with h | h
      · exact hj j g1 h
      · have : j = i := by omega
        subst this; exact he
  · have : i = 6 := by omega
    subst this
    have hm := methodS_none hj
    simp [methodA, hm]
theorem pMethod_ok (t : List UInt8) : PCalls Tryz.prog n_rules_Method [.str t] (fun r => r = methodA t) := by
  refine pcalls_of_awp hmix c_rules_Method rfl ?_
  simp [a_rules_Method]
  refine lp_startx (fun x f σ => ∃ i : Nat, x = 6 - i ∧ 1 ≤ i ∧ i ≤ 6 ∧ f 0 = .str t ∧ f 4 = .int .i64 i ∧ (∀ j, 1 ≤ j → j < i → ¬ nameM j = t) ∧ σ = []) 5 ?_ ?_
  · exact ⟨1, rfl, by omega, by omega, by simp, by simp, fun j h1 h2 => by omega, rfl⟩
  rintro x f σ ⟨i, rfl, h1, h6, f0, f4, hj, rfl⟩
  simp [f4]
  refine cb_dec (fun hlt => ?_) (fun hge => ?_)
  · have h5 : i ≤ 5 := by omega
    have hw : IntKind.i64.wrap ((i : Int) + 1) = (i : Int) + 1 := wrap_i64 (by omega) (by omega)
    simp [f4]
    refine ac_same (pName_ok i h1 h5) (by simp) ?_
    rintro r rfl
    by_cases he : nameM i = t
    · have hm := methodS_at h1 h5 he
      simp [f0, f4, he, methodA, hm]
    · simp [f0, f4, he, hw]
      refine nx_intro (6 - (i + 1)) (by omega) ⟨i + 1, rfl, by omega, by omega, by simp [f0], by simp, fun j g1 g2 => ?_, rfl⟩
      rcases Nat.lt_or_ge j i with h | h
      · exact hj j g1 h
      · have : j = i := by omega
        subst this; exact he
  · have : i = 6 := by omega
    subst this
    have hm := methodS_none hj
    simp [methodA, hm]
/-- What 'whole' answers. -/
def wholeR (n : N) (low high : Int) (r : AV) : Prop := ∃ z : Int, r = .tup [.int .i64 z, .bool (wholeS n low high).isSome] ∧ ∀ m, wholeS n low high = some m → z = m
theorem pWhole_ok (n : N) (ho : okN n) (low high : Int) : PCalls Tryz.prog n_shape_whole [numA n, .int .i64 low, .int .i64 high] (wholeR n low high) := by
  have main : PCalls Tryz.prog n_shape_whole [numA n, .int .i64 low, .int .i64 high] (fun r => r = .tup [.int .i64 (n.2.tdiv 1000000), .bool (wholeS n low high).isSome]) := by
    refine pcalls_of_awp hmix c_shape_whole rfl ?_
    obtain ⟨o1, o2⟩ := ho
    obtain ⟨t1, t2⟩ := tdiv6_bd o1 o2
    have hw : IntKind.i64.wrap (n.2.tdiv 1000000) = n.2.tdiv 1000000 := wrap_i64 t1 t2
    have hm := tmod6 n.2
    rw [numA_eq]
    by_cases h0 : n.2 % 1000000 = 0
    · have hm' := hm.2 h0
      have hd := tdiv6 h0
      by_cases h1 : low ≤ n.2 / 1000000
      · by_cases h2 : n.2 / 1000000 ≤ high
        · have hs : (wholeS n low high).isSome = true := by simp [wholeS, h0, h1, h2]
          rw [hs]
          rw [hd] at hw
          simp [a_shape_whole, hw, hm', hd, h1, h2]
        · have hs : (wholeS n low high).isSome = false := by simp [wholeS, h0, h1, h2]
          rw [hs]
          rw [hd] at hw
          simp [a_shape_whole, hw, hm', hd, h1, h2]
      · have hs : (wholeS n low high).isSome = false := by simp [wholeS, h0, h1]
        rw [hs]
        rw [hd] at hw
        simp [a_shape_whole, hw, hm', hd, h1]
    · have hm' : ¬ n.2.tmod 1000000 = 0 := fun h => h0 (hm.1 h)
      have hs : (wholeS n low high).isSome = false := by simp [wholeS, h0]
      rw [hs]
      simp [a_shape_whole, hw, hm']
  refine main.mono ?_
  rintro r rfl
  refine ⟨_, rfl, fun m hm => ?_⟩
  unfold wholeS at hm
  split at hm
  · rename_i h; cases hm; exact tdiv6 h.1
  · cases hm
theorem rWhole25_ok (n : N) (ho : okN n) (hg : good n = true) (low high : Int) : PCalls Tryz.prog n_isobarref25_Whole [numA n, .int .i64 low, .int .i64 high] (wholeR n low high) := by
  have main : PCalls Tryz.prog n_isobarref25_Whole [numA n, .int .i64 low, .int .i64 high] (fun r => r = .tup [.int .i64 (if n.2 % 1000000 = 0 then n.2.tdiv 1000000 else 0), .bool (wholeS n low high).isSome]) := by
    refine pcalls_of_awp hmix c_isobarref25_Whole rfl ?_
    have kr := rnRight_ok (G := G) n ho
    obtain ⟨o1, o2⟩ := ho
    obtain ⟨t1, t2⟩ := tdiv6_bd o1 o2
    have hw : IntKind.i64.wrap (n.2.tdiv 1000000) = n.2.tdiv 1000000 := wrap_i64 t1 t2
    have hm := tmod6 n.2
    have hrg := right_good n
    rw [hg] at hrg
    simp only [Bool.and_eq_true, Bool.not_eq_true'] at hrg
    obtain ⟨r1, r2⟩ := hrg
    rw [r1] at kr
    rw [numA_eq] at kr ⊢
    by_cases h0 : n.2 % 1000000 = 0
    · have hm' := hm.2 h0
      have hd := tdiv6 h0
      rw [if_pos h0]
      by_cases h1 : low ≤ n.2 / 1000000
      · by_cases h2 : n.2 / 1000000 ≤ high
        · have hs : (wholeS n low high).isSome = true := by simp [wholeS, h0, h1, h2]
          rw [hs]
          rw [hd] at hw
          simp [a_isobarref25_Whole]
          refine ac_same kr (by simp) ?_
          rintro r rfl
          simp [hw, hm', hd, h1, h2, r2]
        · have hs : (wholeS n low high).isSome = false := by simp [wholeS, h0, h1, h2]
          rw [hs]
          rw [hd] at hw
          simp [a_isobarref25_Whole]
          refine ac_same kr (by simp) ?_
          rintro r rfl
          simp [hw, hm', hd, h1, h2, r2]
      · have hs : (wholeS n low high).isSome = false := by simp [wholeS, h0, h1]
        rw [hs]
        rw [hd] at hw
        simp [a_isobarref25_Whole]
        refine ac_same kr (by simp) ?_
        rintro r rfl
        simp [hw, hm', hd, h1, r2]
    · have hm' : ¬ n.2.tmod 1000000 = 0 := fun h => h0 (hm.1 h)
      have hs : (wholeS n low high).isSome = false := by simp [wholeS, h0]
      rw [hs, if_neg h0]
      simp [a_isobarref25_Whole]
      refine ac_same kr (by simp) ?_
      rintro r rfl
      simp [hw, hm', r2]
  refine main.mono ?_
  rintro r rfl
  refine ⟨_, rfl, fun m hm => ?_⟩
  unfold wholeS at hm
  split at hm
  · rename_i h; cases hm; rw [if_pos h.1]; exact tdiv6 h.1
  · cases hm
end Go.Proofs.YtipncibiodfmdaaGreatDoor
end
section
set_option linter.unusedSimpArgs false
set_option linter.unusedVariables false
set_option linter.constructorNameAsVariable false
set_option maxHeartbeats 4000000
namespace Go.Proofs.YtipncibiodfmdaaGreatDoor
open Go.Abs Go.Num Go.Ser Go.Dec Go.Shp
variable {G : Globs}
theorem txts_pure (l : List (List UInt8)) : ∀ c ∈ txts l, ∀ x ∈ c, x.pure = true := by
  intro c hc x hx
  simp only [txts, List.mem_map] at hc
  obtain ⟨y, _, rfl⟩ := hc
  simp at hx; subst hx; simp [AV.pure]
theorem prns_take {l : List N} {k : Nat} {n : N} (h : l[k]? = some n) : prns (l.take (k + 1)) = prns (l.take k) ++ [prn n.1 n.2] := by
  rw [List.take_add_one, h]; simp [prns]
theorem prns_length (l : List N) : (prns l).length = l.length := by simp [prns]
theorem sLabel_ok [GPow] (call name : List UInt8) (args : List N) (text : List UInt8) (h1 : call.length ≤ 100000) (h2 : name.length ≤ 100000) (h3 : args.length ≤ 1000) (h4 : text.length ≤ 100000) (ho : oksN args) :
    PCalls Tryz.prog n_shape_Label [.str call, .str name, .lst (numEls args), .str text] (fun r => r = .str (labelS call name args text)) := by
  refine pcalls_of_awp hmix c_shape_Label rfl ?_
  have hlen := numEls_len args
  simp [a_shape_Label, hlen]
  refine lp_startx (fun n f σ => ∃ k : Nat, n = args.length - k ∧ k ≤ args.length ∧ f 0 = .str call ∧ f 3 = .str text ∧ f 9 = .row 0 (1 + k) ∧ f 14 = .lst (numEls args) ∧ f 15 = .int .i64 args.length ∧ f 16 = .int .i64 k ∧
    σ[0]? = some (.row 9 1 (txts (name :: prns (args.take k))) false)) args.length ?_ ?_
  · exact ⟨0, rfl, by omega, by simp, by simp, by simp, by simp, by simp, by simp, by simp [txts, prns, lay, splice, chunks]⟩
  rintro n f σ ⟨k, rfl, hk, f0, f3, f9, f14, f15, f16, hσ⟩
  simp [f15, f16]
  have hlt0 : 0 < σ.length := (List.getElem?_eq_some_iff.1 hσ).1
  refine cb_dec (fun hlt => ?_) (fun hge => ?_)
  · have hlt' : k < args.length := by omega
    obtain ⟨y, hy⟩ : ∃ y, args[k]? = some y := ⟨_, List.getElem?_eq_getElem hlt'⟩
    have hse := numEls_get hy
    obtain ⟨hx1, hx2⟩ := List.getElem?_eq_some_iff.1 hse
    have hyo := ho y (List.mem_of_getElem? hy)
    have kP := dPrint_ok (G := G) y.1 y.2 hyo.1 hyo.2
    have hw : IntKind.i64.wrap ((k : Int) + 1) = (k : Int) + 1 := wrap_i64 (by omega) (by omega)
    have hlast : (σ ++ [Entry.var 33 [.bool y.1, .int .i64 y.2]])[σ.length]? = some (Entry.var 33 [.bool y.1, .int .i64 y.2]) := by simp
    have hpt := prns_take hy
    simp [f14, f16, hlen, hx1, hx2, hlt']
    refine ac_same kP (by simp) ?_
    rintro r rfl
    simp [f9, f16, hw]
    have hap : ∀ t : Store, (σ ++ t)[0]? = σ[0]? := fun t => List.getElem?_append_left hlt0
    refine ap_row (txts (name :: prns (args.take k))) [[.str (prn y.1 y.2)]] false ((hap _).trans hσ) (by simp [lay, splice, chunks]) (by decide) (by simp) (fun h => by cases h) (by simp [txts, prns]; omega) (by simp; omega) (by simp; omega) ?_
    simp [f16, hw]
    refine nx_intro (args.length - (k + 1)) (by omega) ⟨k + 1, rfl, by omega, by simp [f0], by simp [f3], by simp; omega, by simp [f14], by simp [f15], by simp, ?_⟩
    rw [List.getElem?_set_self (by simp), hpt]
    simp [txts]
  · have : k = args.length := by omega
    subst this
    rw [List.take_length] at hσ
    have hps := prns_sum args ho
    have hpl := prns_length args
    have hap : ∀ t : Store, (σ ++ t)[0]? = σ[0]? := fun t => List.getElem?_append_left hlt0
    by_cases ht : text = []
    · subst ht
      have hj := join_le (name :: prns args)
      simp only [List.map_cons, List.sum_cons, List.length_cons] at hj
      have kJ := joinC_ok (G := G) (name :: prns args) (by omega) (by simp; omega)
      have hL : labelS call name args [] = call ++ [40] ++ Lib.join (name :: prns args) [44] ++ [41] := by simp [labelS]
      rw [hL]
      obtain ⟨J, hJ⟩ : ∃ J, J = Lib.join (name :: prns args) [44] := ⟨_, rfl⟩
      rw [← hJ] at kJ hj ⊢
      simp [f0, f3, f9]
      refine ob_if (by omega) ?_
      simp [f9]
      refine ac_lent kJ (.cons (.row 0 _ 9 1 _ false hσ (by simp [txts, hpl]; omega) (.inr ⟨rfl, txts_pure _⟩)) (.cons (.pure _ (by simp [AV.pure])) .nil)) ?_
      rintro r rfl
      refine ⟨by simp, ?_⟩
      simp
      refine ob_if (by omega) ?_
      simp
      refine ob_if (by omega) ?_
      simp
    · have hj := join_le (name :: (prns args ++ [39 :: text ++ [39]]))
      simp only [List.map_cons, List.sum_cons, List.length_cons, List.map_append, List.sum_append, List.length_append, List.map_nil, List.sum_nil, List.length_nil] at hj
      have kJ := joinC_ok (G := G) (name :: (prns args ++ [39 :: text ++ [39]])) (by omega) (by simp; omega)
      have hL : labelS call name args text = call ++ [40] ++ Lib.join (name :: (prns args ++ [39 :: text ++ [39]])) [44] ++ [41] := by simp [labelS, ht]
      rw [hL]
      obtain ⟨J, hJ⟩ : ∃ J, J = Lib.join (name :: (prns args ++ [39 :: text ++ [39]])) [44] := ⟨_, rfl⟩
      rw [← hJ] at kJ hj ⊢
      simp [f0, f3, f9, ht]
      refine ob_if (by omega) ?_
      simp
      refine ob_if (by omega) ?_
      simp [lay, splice, chunks]
      refine ap_row (txts (name :: prns args)) [[.str (39 :: (text ++ [39]))]] false ((hap _).trans hσ) (by simp) (by decide) (by simp) (fun h => by cases h) (by simp [txts, hpl]; omega) (by simp; omega) (by simp; omega) ?_
      simp [f0]
      refine ob_if (by omega) ?_
      simp
      refine ac_lent kJ (.cons (.row 0 _ 9 1 (txts (name :: (prns args ++ [39 :: text ++ [39]]))) false (by simp [txts]) (by simp [txts, hpl]; omega) (.inr ⟨rfl, txts_pure _⟩)) (.cons (.pure _ (by simp [AV.pure])) .nil)) ?_
      rintro r rfl
      refine ⟨by simp, ?_⟩
      simp
      refine ob_if (by omega) ?_
      simp
      refine ob_if (by omega) ?_
      simp
theorem rLabel_ok (call name : List UInt8) (args : List N) (text : List UInt8) (h1 : call.length ≤ 100000) (h2 : name.length ≤ 100000) (h3 : args.length ≤ 1000) (h4 : text.length ≤ 100000) (ho : oksN args) :
    PCalls Tryz.prog n_isobarref25_Label [.str call, .str name, .lst (numEls args), .str text] (fun r => r = .str (labelS call name args text)) := by
  refine pcalls_of_awp hmix c_isobarref25_Label rfl ?_
  have hlen := numEls_len args
  have htl : ∀ k, k ≤ args.length → (Lib.joinTail [44] (prns (args.take k))).length ≤ 22 * k := by
    intro k hk
    induction k with
    | zero => simp [prns, Lib.joinTail]
    | succ k ih =>
      have hk' : k < args.length := by omega
      have hy := List.getElem?_eq_getElem hk'
      have hyo := ho _ (List.getElem_mem hk')
      have h1 := prn_le21 (args[k]).1 hyo.1 hyo.2
      rw [prns_take hy, tail_snoc]
      have := ih (by omega)
      simp; omega
  simp [a_isobarref25_Label]
  refine ob_if (by omega) ?_
  simp
  refine ob_if (by omega) ?_
  simp
  refine lp_startx (fun n f σ => ∃ k : Nat, n = args.length - k ∧ k ≤ args.length ∧ f 2 = .lst (numEls args) ∧ f 3 = .str text ∧ f 9 = .str (call ++ 40 :: (name ++ Lib.joinTail [44] (prns (args.take k)))) ∧ f 10 = .int .i64 k ∧ σ = []) args.length ?_ ?_
  · exact ⟨0, rfl, by omega, by simp, by simp, by simp [prns, Lib.joinTail], by simp, rfl⟩
  rintro n f σ ⟨k, rfl, hk, f2, f3, f9, f10, rfl⟩
  simp [f2, f10, hlen]
  have htk := htl k hk
  obtain ⟨T, hT⟩ : ∃ T, T = Lib.joinTail [44] (prns (args.take k)) := ⟨_, rfl⟩
  refine cb_dec (fun hlt => ?_) (fun hge => ?_)
  · have hlt' : k < args.length := by omega
    obtain ⟨y, hy⟩ : ∃ y, args[k]? = some y := ⟨_, List.getElem?_eq_getElem hlt'⟩
    have hse := numEls_get hy
    obtain ⟨hx1, hx2⟩ := List.getElem?_eq_some_iff.1 hse
    have hyo := ho y (List.mem_of_getElem? hy)
    have kP := rPrint_ok (G := G) y.1 y.2 hyo.1 hyo.2
    have hpl := prn_le21 y.1 hyo.1 hyo.2
    have hw : IntKind.i64.wrap ((k : Int) + 1) = (k : Int) + 1 := wrap_i64 (by omega) (by omega)
    have hnx : Lib.joinTail [44] (prns (args.take (k + 1))) = T ++ ([44] ++ prn y.1 y.2) := by rw [prns_take hy, tail_snoc, hT]
    rw [← hT] at f9 htk
    simp [f2, f9, f10, hlen, hx1, hx2, hlt']
    refine ob_if (by omega) ?_
    simp [f2, f10, hlen, hx1, hx2, hlt']
    refine ac_same kP (by simp) ?_
    rintro r rfl
    simp
    refine ob_if (by omega) ?_
    simp [f10, hw]
    refine nx_intro (args.length - (k + 1)) (by omega) ⟨k + 1, rfl, by omega, by simp [f2], by simp [f3], by simp [hnx], by simp, rfl⟩
  · have : k = args.length := by omega
    subst this
    rw [← hT] at f9 htk
    rw [List.take_length] at hT
    by_cases ht : text = []
    · subst ht
      have hL : labelS call name args [] = call ++ 40 :: (name ++ (T ++ [41])) := by simp [labelS, Lib.join_cons, hT]
      rw [hL]
      simp [f3, f9]
      refine ob_if (by omega) ?_
      simp
    · have hL : labelS call name args text = call ++ 40 :: (name ++ (T ++ 44 :: 39 :: (text ++ [39, 41]))) := by
        simp only [labelS, if_neg ht, Lib.join_cons, tail_snoc, ← hT]
        simp
      rw [hL]
      simp [f3, f9, ht, bytesOf]
      iterate 4 (refine ob_if (by omega) ?_; simp [f3])
      refine ob_if (by omega) ?_
      simp
end Go.Proofs.YtipncibiodfmdaaGreatDoor
end
