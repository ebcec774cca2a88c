/- Numbers with six decimals: differences, products, roots, rounding, order, plainly. Functions of one series, plainly. Numbers with six decimals: differences, products, roots, rounding, order (the program). Numbers with six decimals: differences, products, roots, rounding, order (the document). Numbers over time: the document's Reckon; the fixed fact. Numbers over time: Print, the fixed fact, and the law of what values make. Numbers over time: the document's series, and what is the same. Functions of one series: the calls' words (both), methods, whole numbers. Numbers over time: a series' value at a time, its known values (both). strings.ReplaceAll of quotes. -/
import Derived.Test.YtipncibiodfmdaaGreatDoorBn1
import Derived.Test.YtipncibiodfmdaaGreatDoorBn2
import Derived.Test.YtipncibiodfmdaaGreatDoorBn3
section
set_option linter.unusedSimpArgs false
set_option linter.unusedVariables false
set_option linter.constructorNameAsVariable false
namespace Go.Num
def negN (a : N) : N := if good a then (false, -a.2) else nothing
def subN (a b : N) : N := addN a (negN b)
def absN (a : N) : N := if good a then (false, (a.2.natAbs : Int)) else nothing
def mulN (a b : N) : N := if good a && good b then tell (sgn (decide (a.2 < 0) != decide (b.2 < 0)) (rnd (a.2.natAbs * b.2.natAbs) 1000000)) else nothing
/-- A square root, rounded down. -/
def sq : Nat → Nat
  | 0 => 0
  | n + 1 => if (sq n + 1) * (sq n + 1) ≤ n + 1 then sq n + 1 else sq n
theorem sq_spec : ∀ n, sq n * sq n ≤ n ∧ n < (sq n + 1) * (sq n + 1)
  | 0 => by simp [sq]
  | n + 1 => by
    obtain ⟨h1, h2⟩ := sq_spec n
    unfold sq
    split
    · rename_i h
      refine ⟨h, ?_⟩
      have : (sq n + 1 + 1) * (sq n + 1 + 1) = (sq n + 1) * (sq n + 1) + 2 * sq n + 3 := by
        rw [Nat.add_mul (sq n + 1), Nat.mul_add (sq n + 1) (sq n + 1)]; omega
      omega
    · exact ⟨by omega, by omega⟩
theorem sq_le_of {a b : Nat} (h : a * a < b * b) : a < b := by
  rcases Nat.lt_or_ge a b with h1 | h1
  · exact h1
  · have := Nat.mul_le_mul h1 h1
    omega
theorem sq_eq {n r : Nat} (h1 : r * r ≤ n) (h2 : n < (r + 1) * (r + 1)) : r = sq n := by
  obtain ⟨h3, h4⟩ := sq_spec n
  have a := sq_le_of (a := r) (b := sq n + 1) (by omega)
  have b := sq_le_of (a := sq n) (b := r + 1) (by omega)
  omega
theorem sq_lt {n k : Nat} (h : n < k * k) : sq n < k := sq_le_of (by have := (sq_spec n).1; omega)
def rootN (a : N) : N := if good a && decide (0 ≤ a.2) then tell (sq (a.2.natAbs * 1000000)) else nothing
def upN (k i : Nat) : Nat := 10 ^ (i - k)
def downN (i : Nat) : Nat := 10 ^ (6 - i)
def unitN (d : Int) : Nat := 10 ^ (6 - d.toNat)
def roundN (a : N) (d : Int) : N := if good a && decide (0 ≤ d) && decide (d ≤ 6) then tell (sgn (decide (a.2 < 0)) (rnd a.2.natAbs (unitN d) * unitN d)) else nothing
def cmpN (a b : N) : Int := if good a then (if good b then (if a.2 < b.2 then -1 else if b.2 < a.2 then 1 else 0) else 1) else if good b then -1 else 0
theorem ok_neg (a : N) (h : okN a) : okN (negN a) := by
  unfold negN
  split
  · rename_i hg
    obtain ⟨_, h2⟩ := good_iff.1 hg
    unfold okN at *
    simp only [most] at h2
    simp only
    omega
  · exact ok_nothing
theorem ok_sub (a b : N) : okN (subN a b) := ok_add _ _
theorem ok_mul (a b : N) : okN (mulN a b) := by unfold mulN; split; exact ok_tell _; exact ok_nothing
theorem ok_root (a : N) : okN (rootN a) := by unfold rootN; split; exact ok_tell _; exact ok_nothing
theorem ok_round (a : N) (d : Int) : okN (roundN a d) := by unfold roundN; split; exact ok_tell _; exact ok_nothing
theorem ok_abs (a : N) (h : okN a) : okN (absN a) := by
  unfold absN
  split
  · rename_i hg
    obtain ⟨_, h2⟩ := good_iff.1 hg
    unfold okN at *
    simp only [most] at h2
    simp only
    omega
  · exact ok_nothing
end Go.Num
end
section
set_option linter.unusedSimpArgs false
set_option linter.unusedVariables false
set_option linter.constructorNameAsVariable false
namespace Go.Shp
open Go.Num Go.Ser Go.Dec
inductive Wd where
  | absolute
  | negate
  | squareRoot
  | invert
  | derivative
  | integral
  | isNonNull
  | nonNegativeDerivative
  | perSecond
  | keepLastValue
  | transformNull
  | scale
  | offset
  | delay
  | movingAverage
  | movingSum
  | movingMin
  | movingMax
  | removeAboveValue
  | removeBelowValue
  | round
  | summarize
  | clamp
  deriving DecidableEq
def Wd.txt : Wd → List UInt8
  | .absolute => [97, 98, 115, 111, 108, 117, 116, 101]
  | .negate => [110, 101, 103, 97, 116, 101]
  | .squareRoot => [115, 113, 117, 97, 114, 101, 82, 111, 111, 116]
  | .invert => [105, 110, 118, 101, 114, 116]
  | .derivative => [100, 101, 114, 105, 118, 97, 116, 105, 118, 101]
  | .integral => [105, 110, 116, 101, 103, 114, 97, 108]
  | .isNonNull => [105, 115, 78, 111, 110, 78, 117, 108, 108]
  | .nonNegativeDerivative => [110, 111, 110, 78, 101, 103, 97, 116, 105, 118, 101, 68, 101, 114, 105, 118, 97, 116, 105, 118, 101]
  | .perSecond => [112, 101, 114, 83, 101, 99, 111, 110, 100]
  | .keepLastValue => [107, 101, 101, 112, 76, 97, 115, 116, 86, 97, 108, 117, 101]
  | .transformNull => [116, 114, 97, 110, 115, 102, 111, 114, 109, 78, 117, 108, 108]
  | .scale => [115, 99, 97, 108, 101]
  | .offset => [111, 102, 102, 115, 101, 116]
  | .delay => [100, 101, 108, 97, 121]
  | .movingAverage => [109, 111, 118, 105, 110, 103, 65, 118, 101, 114, 97, 103, 101]
  | .movingSum => [109, 111, 118, 105, 110, 103, 83, 117, 109]
  | .movingMin => [109, 111, 118, 105, 110, 103, 77, 105, 110]
  | .movingMax => [109, 111, 118, 105, 110, 103, 77, 97, 120]
  | .removeAboveValue => [114, 101, 109, 111, 118, 101, 65, 98, 111, 118, 101, 86, 97, 108, 117, 101]
  | .removeBelowValue => [114, 101, 109, 111, 118, 101, 66, 101, 108, 111, 119, 86, 97, 108, 117, 101]
  | .round => [114, 111, 117, 110, 100]
  | .summarize => [115, 117, 109, 109, 97, 114, 105, 122, 101]
  | .clamp => [99, 108, 97, 109, 112]
def Wd.all : List Wd := [.absolute, .negate, .squareRoot, .invert, .derivative, .integral, .isNonNull, .nonNegativeDerivative, .perSecond, .keepLastValue, .transformNull, .scale, .offset, .delay, .movingAverage, .movingSum, .movingMin, .movingMax, .removeAboveValue, .removeBelowValue, .round, .summarize, .clamp]
def wordOf (s : List UInt8) : Option Wd := Wd.all.find? fun w => decide (w.txt = s)
theorem wordOf_txt (w : Wd) : wordOf w.txt = some w := by cases w <;> decide
theorem wordOf_none {s : List UInt8} (h : wordOf s = none) (w : Wd) : ¬ s = w.txt := fun he => by
  subst he; rw [wordOf_txt] at h; cases h
theorem wordOf_some {s : List UInt8} {w : Wd} (h : wordOf s = some w) : s = w.txt := by
  have := List.find?_some h
  have h2 : w.txt = s := by simpa using this
  exact h2.symm
/-- How many numbers a call has, at least and at most. -/
def Wd.takes : Wd → Nat × Nat
  | .absolute | .negate | .squareRoot | .invert | .derivative | .integral | .isNonNull => (0, 0)
  | .nonNegativeDerivative | .perSecond | .keepLastValue | .transformNull => (0, 1)
  | .clamp => (2, 2)
  | _ => (1, 1)
/-- The bounds of a call's first argument, if that must be whole. -/
def Wd.bounds : Wd → Option (Int × Int)
  | .keepLastValue => some (0, 1125899906842624)
  | .delay => some (-1125899906842624, 1125899906842624)
  | .movingAverage | .movingSum | .movingMin | .movingMax => some (1, 2000)
  | .round => some (0, 6)
  | .summarize => some (1, 86400)
  | _ => none
def Wd.way : Wd → Int
  | .movingAverage => 1
  | .movingSum => 2
  | .movingMin => 3
  | _ => 4
def labelS (call name : List UInt8) (args : List N) (text : List UInt8) : List UInt8 :=
  call ++ [40] ++ Lib.join (name :: (prns args ++ (if text = [] then [] else [39 :: text ++ [39]]))) [44] ++ [41]
def wholeS (n : N) (low high : Int) : Option Int := if n.2 % 1000000 = 0 ∧ low ≤ n.2 / 1000000 ∧ n.2 / 1000000 ≤ high then some (n.2 / 1000000) else none
def nameM : Nat → List UInt8
  | 1 => [97, 118, 101, 114, 97, 103, 101]
  | 2 => [115, 117, 109]
  | 3 => [109, 105, 110]
  | 4 => [109, 97, 120]
  | 5 => [108, 97, 115, 116]
  | _ => []
def methodS (t : List UInt8) : Option Int := if t = nameM 1 then some 1 else if t = nameM 2 then some 2 else if t = nameM 3 then some 3 else if t = nameM 4 then some 4 else if t = nameM 5 then some 5 else none
/-- A call's whole number (-1: it has none), and its method. -/
def wholeW (w : Wd) (s : Sr) (args : List N) : Option Int := match w.bounds, args with
  | some (low, high), a :: _ => match wholeS a low high with
    | some n => if w = .summarize ∧ n % s.step ≠ 0 then none else some n
    | none => none
  | _, _ => some (-1)
def howS (text : List UInt8) : Option Int := if text = [] then some 2 else methodS text
def zeroN : N := (false, 0)
def oneN : N := (false, 1000000)
def prevN (l : List N) (i : Nat) : N := if i = 0 then nothing else l.getD (i - 1) nothing
def riseN (v p : N) (args : List N) : N :=
  if (subN v p).1 = true ∨ 0 ≤ (subN v p).2 then subN v p
  else match args with
    | a :: _ => if cmpN v a ≤ 0 then addN (addN (subN a p) v) oneN else nothing
    | [] => nothing
/-- The greatest place ahead of k whose value is known. -/
def lastK (l : List N) : Nat → Option Nat
  | 0 => none
  | k + 1 => if (l.getD k nothing).1 then lastK l k else some k
/-- The first place from k on whose value is known. -/
def nextK (l : List N) (k : Nat) : Nat := k + ((l.drop k).takeWhile (·.1)).length
def keptN (l : List N) (i : Nat) (most : Int) : N := match lastK l i with
  | none => nothing
  | some j => if 0 ≤ most ∧ most < ((nextK l i : Int) - j - 1) then nothing else l.getD j nothing
def aheadN (l : List N) (i : Nat) (n : Int) : N := if (i : Int) < n ∨ n ≤ (i : Int) - l.length then nothing else l.getD ((i : Int) - n).toNat nothing
def argN (args : List N) (k : Nat) : N := args.getD k nothing
/-- What becomes of the value at a place. -/
def valueW (w : Wd) (s : Sr) (args : List N) (n : Int) (i : Nat) : N :=
  let l := s.vals
  let v := l.getD i nothing
  match w with
  | .absolute => absN v
  | .negate => negN v
  | .squareRoot => rootN v
  | .invert => divN oneN v
  | .scale => mulN v (argN args 0)
  | .offset => addN v (argN args 0)
  | .derivative => subN v (prevN l i)
  | .nonNegativeDerivative => riseN v (prevN l i) args
  | .perSecond => divN (riseN v (prevN l i) args) (tell (s.step * 1000000))
  | .integral => if v.1 then v else reckon 2 (l.take (i + 1))
  | .keepLastValue => if v.1 then keptN l i n else v
  | .transformNull => if v.1 then (if args = [] then zeroN else argN args 0) else v
  | .isNonNull => if v.1 then zeroN else oneN
  | .delay => aheadN l i n
  | .removeAboveValue => if 0 < cmpN v (argN args 0) then nothing else v
  | .removeBelowValue => if cmpN v (argN args 0) < 0 then nothing else v
  | .clamp => if v.1 then v else if cmpN v (argN args 0) < 0 then argN args 0 else if 0 < cmpN v (argN args 1) then argN args 1 else v
  | .round => roundN v n
  | w => reckon w.way ((l.take (i + 1)).drop (i + 1 - n.toNat))
def valsW (w : Wd) (s : Sr) (args : List N) (n : Int) : List N := (List.range s.vals.length).map (valueW w s args n)
def applyS (call : List UInt8) (s : Sr) (args : List N) (text : List UInt8) : Except Int Sr := match wordOf call with
  | none => .error 15
  | some w =>
    if rightS s = false then .error 1
    else if args.length < w.takes.1 ∨ w.takes.2 < args.length ∨ (text ≠ [] ∧ w ≠ .summarize) then .error 18
    else if args.any (fun n => !good n) then .error 18
    else match wholeW w s args, howS text with
      | some n, some how =>
        let label := labelS call s.name args text
        if 400 < label.length then .error 20
        else if w = .summarize then match coarserS s n how with
          | some x => if 2000 < x.vals.length then .error 20 else .ok { x with name := label }
          | none => .error 1
        else .ok ⟨label, s.start, s.step, valsW w s args n⟩
      | _, _ => .error 1
end Go.Shp
end
section
set_option linter.unusedSimpArgs false
set_option linter.unusedVariables false
set_option linter.constructorNameAsVariable false
set_option maxHeartbeats 2000000
namespace Go.Num
theorem unit_step {k : Nat} (h : k < 6) : 10 ^ (6 - k) / 10 = 10 ^ (6 - (k + 1)) := by
  have : k = 0 ∨ k = 1 ∨ k = 2 ∨ k = 3 ∨ k = 4 ∨ k = 5 := by omega
  rcases this with rfl | rfl | rfl | rfl | rfl | rfl <;> rfl
theorem unit_bd (k : Nat) : 1 ≤ 10 ^ (6 - k) ∧ 10 ^ (6 - k) ≤ 1000000 :=
  ⟨Nat.pos_of_ne_zero (by simp), by have : 10 ^ (6 - k) ≤ 10 ^ 6 := Nat.pow_le_pow_right (by omega) (by omega); omega⟩
theorem rnd_mul_le (x u : Nat) (hu : 1 ≤ u) : rnd x u * u ≤ x + u := by
  unfold rnd
  have h1 := Nat.div_mul_le_self x u
  split
  · rw [Nat.add_mul]; omega
  · rw [Nat.add_zero]; omega
end Go.Num
namespace Go.Proofs.YtipncibiodfmdaaGreatDoor
open Go.Abs Go.Num
variable {G : Globs}
theorem fNeg_ok (a : N) (ha : okN a) : PCalls Tryz.prog n_fixed_Neg [numA a] (fun r => r = numA (negN a)) := by
  refine pcalls_of_awp hmix c_fixed_Neg rfl ?_
  have kt := there_ok (G := G) a
  rw [numA_eq a] at kt ⊢
  simp [a_fixed_Neg]
  refine ac_same kt (by simp) ?_
  rintro r rfl
  cases hg : good a with
  | false =>
    simp
    refine ac_same nothing_ok (by simp) ?_
    rintro r rfl
    simp [negN, hg, numA, splice]
  | true =>
    obtain ⟨_, h2⟩ := good_iff.1 hg
    obtain ⟨a1, a2⟩ := ha
    simp only [most] at h2
    have hw : IntKind.i64.wrap (0 - a.2) = -a.2 := by rw [wrap_i (by omega) (by omega)]; omega
    have hw2 : IntKind.i64.wrap (-a.2) = -a.2 := wrap_i (by omega) (by omega)
    simp [hw, hw2, negN, hg, numA, splice]
theorem fSub_ok (a b : N) (ha : okN a) (hb : okN b) : PCalls Tryz.prog n_fixed_Sub [numA a, numA b] (fun r => r = numA (subN a b)) := by
  refine pcalls_of_awp hmix c_fixed_Sub rfl ?_
  have kn := fNeg_ok (G := G) b hb
  have ka := fAdd_ok (G := G) a (negN b) ha (ok_neg b hb)
  obtain ⟨n, hn⟩ : ∃ n, n = negN b := ⟨_, rfl⟩
  have hs : subN a b = addN a n := by rw [subN, hn]
  rw [← hn] at kn ka
  rw [hs]
  rw [numA_eq b, numA_eq n] at kn
  rw [numA_eq a, numA_eq n] at ka
  rw [numA_eq a, numA_eq b]
  simp [a_fixed_Sub]
  refine qc_same kn (by simp) (by simp) ?_
  simp
  refine qc_same ka (by simp) (by simp [numA]) ?_
  simp [numA, splice]
theorem fAbs_ok (a : N) (ha : okN a) : PCalls Tryz.prog n_fixed_Abs [numA a] (fun r => r = numA (absN a)) := by
  refine pcalls_of_awp hmix c_fixed_Abs rfl ?_
  have kt := there_ok (G := G) a
  obtain ⟨a1, a2⟩ := ha
  cases hg : good a with
  | false =>
    rw [numA_eq a] at kt ⊢
    simp [a_fixed_Abs]
    refine ac_same kt (by simp) ?_
    rintro r rfl
    simp [hg]
    refine ac_same nothing_ok (by simp) ?_
    rintro r rfl
    simp [absN, hg, numA, splice]
  | true =>
    obtain ⟨_, h2⟩ := good_iff.1 hg
    simp only [most] at h2
    have ks := size_ok (G := G) a h2 a2
    have ko := told_ok (G := G) a.2.natAbs (by omega) false
    have he : tell (sgn false a.2.natAbs) = absN a := by
      unfold tell sgn absN
      rw [if_pos hg]
      simp only [most, Bool.false_eq_true, if_false]
      rw [if_pos (by omega)]
    rw [he] at ko
    rw [numA_eq a] at kt ks ⊢
    simp [a_fixed_Abs]
    refine ac_same kt (by simp) ?_
    rintro r rfl
    simp [hg]
    refine ac_same ks (by simp) ?_
    rintro r rfl
    simp
    refine ac_same (by simpa using ko) (by simp) ?_
    rintro r rfl
    simp [numA, splice]
theorem fMul_ok (a b : N) (ha : okN a) (hb : okN b) : PCalls Tryz.prog n_fixed_Mul [numA a, numA b] (fun r => r = numA (mulN a b)) := by
  refine pcalls_of_awp hmix c_fixed_Mul rfl ?_
  obtain ⟨a1, a2⟩ := ha
  obtain ⟨b1, b2⟩ := hb
  simp [a_fixed_Mul, numA]
  refine ac_same (there_ok a) (by simp [numA]) ?_
  rintro r rfl
  cases hga : good a with
  | false =>
    simp
    refine ac_same nothing_ok (by simp) ?_
    rintro r rfl
    simp [mulN, hga, numA]
  | true =>
    simp
    refine ac_same (there_ok b) (by simp [numA]) ?_
    rintro r rfl
    cases hgb : good b with
    | false =>
      simp
      refine ac_same nothing_ok (by simp) ?_
      rintro r rfl
      simp [mulN, hga, hgb, numA]
    | true =>
      have va := (good_iff.1 hga).2
      have vb := (good_iff.1 hgb).2
      simp only [most] at va vb
      simp
      refine ac_same (size_ok a va a2) (by simp [numA]) ?_
      rintro r rfl
      simp
      refine ac_same (size_ok b vb b2) (by simp [numA]) ?_
      rintro r rfl
      simp
      refine ac_same (quotient_ok a.2.natAbs b.2.natAbs 1000000 (by omega) (by omega) (by omega) (decide (a.2 < 0) != decide (b.2 < 0))) (by simp) ?_
      rintro r rfl
      simp [mulN, hga, hgb, numA]
theorem wLess_ok (a b : Nat) : PCalls Tryz.prog n_wide_Less [wA a, wA b] (fun r => r = .bool (decide (a < b))) := by
  refine pcalls_of_awp hmix c_wide_Less rfl ?_
  obtain ⟨ah, hah⟩ : ∃ x, x = a / 18446744073709551616 := ⟨_, rfl⟩
  obtain ⟨al, hal⟩ : ∃ x, x = a % 18446744073709551616 := ⟨_, rfl⟩
  obtain ⟨bh, hbh⟩ : ∃ x, x = b / 18446744073709551616 := ⟨_, rfl⟩
  obtain ⟨bl, hbl⟩ : ∃ x, x = b % 18446744073709551616 := ⟨_, rfl⟩
  rw [wA_eq hah hal, wA_eq hbh hbl]
  by_cases h : ah = bh
  · have : a < b ↔ al < bl := by omega
    simp [a_wide_Less, h, this]
  · have : a < b ↔ ah < bh := by omega
    have h' : ¬ (ah : Int) = (bh : Int) := by omega
    simp [a_wide_Less, h, h', this]
theorem wRoot_ok (a : Nat) (ha : a < 340282366920938463463374607431768211456) : PCalls Tryz.prog n_wide_Root [wA a] (fun r => r = .int .u64 (sq a)) := by
  refine pcalls_of_awp hmix c_wide_Root rfl ?_
  obtain ⟨h, hh⟩ : ∃ x, x = a / 18446744073709551616 := ⟨_, rfl⟩
  obtain ⟨l, hl⟩ : ∃ x, x = a % 18446744073709551616 := ⟨_, rfl⟩
  have hwe := wA_eq hh hl
  rw [hwe]
  simp [a_wide_Root]
  refine lp_startx (fun x f σ => ∃ lo hi : Nat, x = hi - lo ∧ lo ≤ hi ∧ hi < 18446744073709551616 ∧ lo * lo ≤ a ∧ a < (hi + 1) * (hi + 1) ∧ f 1 = .ptr 0 0 ∧ f 3 = .int .u64 lo ∧ f 4 = .int .u64 hi ∧ σ = [.var 132 [.int .u64 h, .int .u64 l]]) 18446744073709551615 ?_ ?_
  · exact ⟨0, 18446744073709551615, rfl, by omega, by omega, by omega, by omega, by simp, by simp, by simp, rfl⟩
  rintro x f σ ⟨lo, hi, rfl, hle, hhi, h1, h2, f1, f3, f4, rfl⟩
  simp [f3, f4]
  refine cb_dec (fun hlt => ?_) (fun hge => ?_)
  · have hlt' : lo < hi := by omega
    obtain ⟨m, hm⟩ : ∃ m, m = hi - (hi - lo) / 2 := ⟨_, rfl⟩
    have w1 : IntKind.u64.wrap ((hi : Int) - lo) = ((hi - lo : Nat) : Int) := by rw [wrap_u]; omega
    have w2 : IntKind.u64.wrap (((hi - lo : Nat) : Int) / 2) = (((hi - lo) / 2 : Nat) : Int) := by rw [wrap_u]; omega
    have w2' : IntKind.u64.wrap (((hi - lo : Nat) : Int).tdiv 2) = (((hi - lo) / 2 : Nat) : Int) := by rw [Int.tdiv_eq_ediv_of_nonneg (by omega)]; exact w2
    have w3 : IntKind.u64.wrap ((hi : Int) - (((hi - lo) / 2 : Nat) : Int)) = (m : Int) := by rw [wrap_u]; omega
    obtain ⟨d, hd⟩ : ∃ d, d = hi - lo := ⟨_, rfl⟩
    obtain ⟨e, he⟩ : ∃ e, e = (hi - lo) / 2 := ⟨_, rfl⟩
    rw [← hd] at w1 w2 w2'
    rw [← hd] at he
    have hdd : hi - lo = d := hd.symm
    rw [hdd] at hm w3
    rw [← he] at w2 w2' w3 hm
    have km := wMul_ok (G := G) m m (by omega) (by omega)
    have kl := wLess_ok (G := G) a (m * m)
    have w4 : IntKind.u64.wrap ((m : Int) - 1) = ((m - 1 : Nat) : Int) := by rw [wrap_u]; omega
    obtain ⟨ph, hph⟩ : ∃ x, x = m * m / 18446744073709551616 := ⟨_, rfl⟩
    obtain ⟨pl, hpl⟩ : ∃ x, x = m * m % 18446744073709551616 := ⟨_, rfl⟩
    rw [wA_eq hph hpl] at km kl
    rw [hwe] at kl
    simp [f1, f3, f4, w1, w2, w2', w3]
    refine qc_same km (by simp) (by simp) ?_
    simp
    refine qc_same kl (by simp) (by simp) ?_
    simp
    refine cb_dec (fun hc => ?_) (fun hc => ?_)
    · have hmp : m - 1 + 1 = m := by omega
      simp [w4]
      refine nx_intro (m - 1 - lo) (by omega) ⟨lo, m - 1, rfl, by omega, by omega, h1, by rw [hmp]; exact hc, by simp [f1], by simp [f3], by simp, rfl⟩
    · simp
      refine nx_intro (hi - m) (by omega) ⟨m, hi, rfl, by omega, hhi, by omega, h2, by simp [f1], by simp, by simp [f4], rfl⟩
  · have : lo = hi := by omega
    subst this
    have := sq_eq h1 h2
    simp [f3, this]
theorem fRoot_ok (a : N) (ha : okN a) : PCalls Tryz.prog n_fixed_Root [numA a] (fun r => r = numA (rootN a)) := by
  refine pcalls_of_awp hmix c_fixed_Root rfl ?_
  have kt := there_ok (G := G) a
  obtain ⟨a1, a2⟩ := ha
  rw [numA_eq a] at kt ⊢
  simp [a_fixed_Root]
  refine ac_same kt (by simp) ?_
  rintro r rfl
  cases hg : good a with
  | false =>
    simp
    refine ac_same nothing_ok (by simp) ?_
    rintro r rfl
    simp [rootN, hg, numA, splice]
  | true =>
    by_cases h0 : a.2 < 0
    · have : ¬ 0 ≤ a.2 := by omega
      simp [h0]
      refine ac_same nothing_ok (by simp) ?_
      rintro r rfl
      simp [rootN, hg, h0, this, numA, splice]
    · have h0' : 0 ≤ a.2 := by omega
      obtain ⟨n, hn⟩ : ∃ n, n = a.2.natAbs := ⟨_, rfl⟩
      have w1 : IntKind.u64.wrap a.2 = (n : Int) := by rw [wrap_u]; omega
      have km := wMul_ok (G := G) n 1000000 (by omega) (by decide)
      have kr := wRoot_ok (G := G) (n * 1000000) (by omega)
      have hlt : sq (n * 1000000) < 18446744073709551616 := sq_lt (by omega)
      have ko := told_ok (G := G) (sq (n * 1000000)) hlt false
      have he : rootN a = tell (sgn false (sq (n * 1000000))) := by simp [rootN, hg, h0', hn, sgn]
      rw [he]
      obtain ⟨v, hv⟩ : ∃ v, v = tell (sgn false (sq (n * 1000000))) := ⟨_, rfl⟩
      rw [← hv] at ko ⊢
      obtain ⟨ph, hph⟩ : ∃ x, x = n * 1000000 / 18446744073709551616 := ⟨_, rfl⟩
      obtain ⟨pl, hpl⟩ : ∃ x, x = n * 1000000 % 18446744073709551616 := ⟨_, rfl⟩
      rw [wA_eq hph hpl] at km kr
      simp [h0, w1]
      refine ac_same km (by simp) ?_
      rintro r rfl
      simp
      refine ac_same kr (by simp) ?_
      rintro r rfl
      simp
      refine ac_same ko (by simp) ?_
      rintro r rfl
      simp [numA, splice]
theorem fCmp_ok (a b : N) : PCalls Tryz.prog n_fixed_Cmp [numA a, numA b] (fun r => r = .int .i64 (cmpN a b)) := by
  refine pcalls_of_awp hmix c_fixed_Cmp rfl ?_
  have kN : ∀ x : Int, PCalls Tryz.prog n_cmp_isNaN_int64 [.int .i64 x] (fun r => r = .bool false) := fun x => by
    refine pcalls_of_awp hmix c_cmp_isNaN_int64 rfl ?_
    simp [a_cmp_isNaN_int64]
  have kC : ∀ x y : Int, PCalls Tryz.prog n_cmp_Compare_int64 [.int .i64 x, .int .i64 y] (fun r => r = .int .i64 (if x < y then -1 else if y < x then 1 else 0)) := fun x y => by
    refine pcalls_of_awp hmix c_cmp_Compare_int64 rfl ?_
    simp [a_cmp_Compare_int64]
    refine ac_same (kN x) (by simp) ?_
    rintro r rfl
    simp
    refine ac_same (kN y) (by simp) ?_
    rintro r rfl
    simp
    by_cases h1 : x < y
    · simp [h1]
    · by_cases h2 : y < x
      · simp [h1, h2]
      · simp [h1, h2]
  have ka := there_ok (G := G) a
  have kb := there_ok (G := G) b
  rw [numA_eq a] at ka
  rw [numA_eq b] at kb
  rw [numA_eq a, numA_eq b]
  simp [a_fixed_Cmp]
  refine qc_same ka (by simp) (by simp) ?_
  simp
  refine qc_same kb (by simp) (by simp) ?_
  cases hga : good a with
  | false => cases hgb : good b with
    | false => simp [cmpN, hga, hgb]
    | true => simp [cmpN, hga, hgb]
  | true => cases hgb : good b with
    | false => simp [cmpN, hga, hgb]
    | true =>
      simp
      refine ac_same (kC a.2 b.2) (by simp) ?_
      rintro r rfl
      simp [cmpN, hga, hgb]
theorem fRound_ok (a : N) (ha : okN a) (d : Int) : PCalls Tryz.prog n_fixed_Round [numA a, .int .i64 d] (fun r => r = numA (roundN a d)) := by
  refine pcalls_of_awp hmix c_fixed_Round rfl ?_
  have kt := there_ok (G := G) a
  obtain ⟨a1, a2⟩ := ha
  rw [numA_eq a] at kt ⊢
  simp [a_fixed_Round]
  refine ac_same kt (by simp) ?_
  rintro r rfl
  cases hg : good a with
  | false =>
    simp
    refine ac_same nothing_ok (by simp) ?_
    rintro r rfl
    simp [roundN, hg, numA, splice]
  | true =>
    by_cases h0 : d < 0
    · have : ¬ 0 ≤ d := by omega
      simp [h0]
      refine ac_same nothing_ok (by simp) ?_
      rintro r rfl
      simp [roundN, hg, h0, this, numA, splice]
    by_cases h6 : 6 < d
    · have : ¬ d ≤ 6 := by omega
      simp [h0, h6]
      refine ac_same nothing_ok (by simp) ?_
      rintro r rfl
      simp [roundN, hg, h0, h6, this, numA, splice]
    obtain ⟨k, rfl⟩ := Int.eq_ofNat_of_zero_le (show 0 ≤ d by omega)
    have hk6 : k ≤ 6 := by omega
    obtain ⟨_, h2⟩ := good_iff.1 hg
    simp only [most] at h2
    obtain ⟨s, hs⟩ : ∃ s, s = a.2.natAbs := ⟨_, rfl⟩
    have ks := size_ok (G := G) a h2 a2
    rw [← hs] at ks
    obtain ⟨u, hu⟩ : ∃ u, u = 10 ^ (6 - k) := ⟨_, rfl⟩
    obtain ⟨u1, u2⟩ := unit_bd k
    rw [← hu] at u1 u2
    have he : roundN a k = tell (sgn (decide (a.2 < 0)) (rnd s u * u)) := by
      have : unitN (k : Int) = u := by rw [unitN, hu]; simp
      simp [roundN, hg, this, hs, h6] <;> omega
    have hrl := rnd_mul_le s u u1
    have hr1 : rnd s u ≤ rnd s u * u := Nat.le_mul_of_pos_right _ u1
    have km := wMul_ok (G := G) (rnd s u) u (by omega) (by omega)
    have ko := told_ok (G := G) (rnd s u * u) (by omega) (decide (a.2 < 0))
    rw [he]
    have hwm : wA (rnd s u * u) = .agg [.int .u64 0, .int .u64 ((rnd s u * u : Nat) : Int)] := by
      unfold wA
      rw [Nat.div_eq_of_lt (by omega), Nat.mod_eq_of_lt (by omega)]
      rfl
    rw [hwm] at km
    obtain ⟨R, hR⟩ : ∃ R, R = rnd s u := ⟨_, rfl⟩
    obtain ⟨M, hM⟩ : ∃ M, M = rnd s u * u := ⟨_, rfl⟩
    rw [← hM] at km ko ⊢
    rw [← hR] at km
    obtain ⟨v, hv⟩ : ∃ v, v = tell (sgn (decide (a.2 < 0)) M) := ⟨_, rfl⟩
    rw [← hv] at ko ⊢
    obtain ⟨q, hq⟩ : ∃ q, q = s / u := ⟨_, rfl⟩
    obtain ⟨m, hm⟩ : ∃ m, m = s % u := ⟨_, rfl⟩
    have hmu : m < u := by rw [hm]; exact Nat.mod_lt _ (by omega)
    have hqs : q ≤ s := by rw [hq]; exact Nat.div_le_self _ _
    have hR2 : R = q + (if u - m ≤ m then 1 else 0) := by rw [hR, rnd, ← hq, ← hm]
    have hu0 : ¬ u = 0 := by omega
    have wq : IntKind.u64.wrap (((s : Int)) / u) = (q : Int) := by rw [u_div s u (by omega), hq]
    have wq' : IntKind.u64.wrap (((s : Int)).tdiv u) = (q : Int) := by rw [Int.tdiv_eq_ediv_of_nonneg (by omega)]; exact wq
    have wm : (s : Int) % u = (m : Int) := by rw [u_mod, hm]
    have wm' : (s : Int).tmod u = (m : Int) := by rw [Int.tmod_eq_emod_of_nonneg (by omega)]; exact wm
    obtain ⟨dm, hdm⟩ : ∃ x, x = u - m := ⟨_, rfl⟩
    have ws : IntKind.u64.wrap ((u : Int) - m) = (dm : Int) := by rw [wrap_u]; omega
    obtain ⟨q1, hq1⟩ : ∃ x, x = q + 1 := ⟨_, rfl⟩
    have w1 : IntKind.u64.wrap ((q : Int) + 1) = (q1 : Int) := by rw [wrap_u]; omega
    have h6' : ¬ (6 : Int) < (k : Int) := h6
    have h6'' : ¬ 6 < k := by omega
    have h0' : ¬ (k : Int) < 0 := h0
    simp [h6', h6'', h0']
    refine lp_startx (fun x f σ => ∃ i : Nat, x = k - i ∧ i ≤ k ∧ f 2 = .ptr 0 0 ∧ f 4 = .ptr 1 0 ∧ f 5 = .int .u64 (downN i : Int) ∧ f 23 = .int .i64 k ∧ f 24 = .int .i64 i ∧ σ = [.var 33 [.bool a.1, .int .i64 a.2], .var 33 [.bool false, .int .i64 0]]) k ?_ ?_
    · exact ⟨0, rfl, by omega, by simp, by simp, by simp [downN], by simp, by simp, rfl⟩
    rintro x f σ ⟨i, rfl, hi, f2, f4, f5, f23, f24, rfl⟩
    simp [f23, f24]
    refine cb_dec (fun hlt => ?_) (fun hge => ?_)
    · have hi6 : i < 6 := by omega
      have hst := unit_step hi6
      obtain ⟨b1, b2⟩ := unit_bd i
      obtain ⟨U, hU⟩ : ∃ U, U = 10 ^ (6 - i) := ⟨_, rfl⟩
      rw [downN] at f5
      rw [← hU] at hst b2 f5
      have hw : IntKind.u64.wrap ((U : Int) / 10) = ((U / 10 : Nat) : Int) := u_div U 10 (by omega)
      have hw' : IntKind.u64.wrap ((U : Int).tdiv 10) = ((U / 10 : Nat) : Int) := by rw [Int.tdiv_eq_ediv_of_nonneg (by omega)]; exact hw
      have hwi : IntKind.i64.wrap ((i : Int) + 1) = (i : Int) + 1 := wrap_i (by omega) (by omega)
      obtain ⟨V, hV⟩ : ∃ V, V = U / 10 := ⟨_, rfl⟩
      rw [← hV] at hst hw hw'
      simp [f5, f24, hw, hw', hwi]
      refine nx_intro (k - (i + 1)) (by omega) ⟨i + 1, rfl, by omega, by simp [f2], by simp [f4], by rw [downN, ← hst]; simp, by simp [f23], by simp, rfl⟩
    · have : i = k := by omega
      subst this
      rw [downN, ← hu] at f5
      rw [numA_eq] at ks
      simp [f2]
      refine ac_same ks (by simp) ?_
      rintro r rfl
      simp [f5, hu0, wq, wq', wm, wm', ws]
      refine cb_dec (fun hc' => ?_) (fun hc' => ?_)
      · have hc : u - m ≤ m := by omega
        rw [if_pos hc] at hR2
        rw [hR2, ← hq1] at km
        simp [w1, f5]
        refine ac_same km (by simp) ?_
        rintro r rfl
        simp
        refine ac_same ko (by simp) ?_
        rintro r rfl
        simp [f4, numA, splice]
      · have hc : ¬ u - m ≤ m := by omega
        rw [if_neg hc, Nat.add_zero] at hR2
        rw [hR2] at km
        simp [f5]
        refine ac_same km (by simp) ?_
        rintro r rfl
        simp
        refine ac_same ko (by simp) ?_
        rintro r rfl
        simp [f4, numA, splice]
end Go.Proofs.YtipncibiodfmdaaGreatDoor
end
section
set_option linter.unusedSimpArgs false
set_option linter.unusedVariables false
set_option linter.constructorNameAsVariable false
set_option maxHeartbeats 2000000
namespace Go.Proofs.YtipncibiodfmdaaGreatDoor
open Go.Abs Go.Num
variable {G : Globs}
theorem rnNeg_ok (a : N) (ha : okN a) : PCalls Tryz.prog n_isobarref02_Neg [numA a] (fun r => r = numA (negN a)) := by
  refine pcalls_of_awp hmix c_isobarref02_Neg rfl ?_
  have kt := rIs_ok (G := G) a ha
  rw [numA_eq a] at kt ⊢
  simp [a_isobarref02_Neg]
  refine ac_same kt (by simp) ?_
  rintro r rfl
  cases hg : good a with
  | false =>
    simp
    refine ac_same rNothing_ok (by simp) ?_
    rintro r rfl
    simp [negN, hg, numA, splice]
  | true =>
    obtain ⟨_, h2⟩ := good_iff.1 hg
    obtain ⟨a1, a2⟩ := ha
    simp only [most] at h2
    have hw : IntKind.i64.wrap (0 - a.2) = -a.2 := by rw [wrap_i (by omega) (by omega)]; omega
    have hw2 : IntKind.i64.wrap (-a.2) = -a.2 := wrap_i (by omega) (by omega)
    simp [hw, hw2, negN, hg, numA, splice]
theorem rnSub_ok (a b : N) (ha : okN a) (hb : okN b) : PCalls Tryz.prog n_isobarref02_Sub [numA a, numA b] (fun r => r = numA (subN a b)) := by
  refine pcalls_of_awp hmix c_isobarref02_Sub rfl ?_
  have kn := rnNeg_ok (G := G) b hb
  have ka := rnAdd_ok (G := G) a (negN b) ha (ok_neg b hb)
  obtain ⟨n, hn⟩ : ∃ n, n = negN b := ⟨_, rfl⟩
  have hs : subN a b = addN a n := by rw [subN, hn]
  rw [← hn] at kn ka
  rw [hs]
  rw [numA_eq b, numA_eq n] at kn
  rw [numA_eq a, numA_eq n] at ka
  rw [numA_eq a, numA_eq b]
  simp [a_isobarref02_Sub]
  refine qc_same kn (by simp) (by simp) ?_
  simp
  refine qc_same ka (by simp) (by simp [numA]) ?_
  simp [numA, splice]
theorem rnAbs_ok (a : N) (ha : okN a) : PCalls Tryz.prog n_isobarref02_Abs [numA a] (fun r => r = numA (absN a)) := by
  refine pcalls_of_awp hmix c_isobarref02_Abs rfl ?_
  have kt := rIs_ok (G := G) a ha
  have kn := rnNeg_ok (G := G) a ha
  rw [numA_eq a] at kt kn ⊢
  simp [a_isobarref02_Abs]
  refine ac_same kt (by simp) ?_
  rintro r rfl
  cases hg : good a with
  | false =>
    simp
    refine ac_same kt (by simp) ?_
    rintro r rfl
    simp [hg]
    refine ac_same rNothing_ok (by simp) ?_
    rintro r rfl
    simp [absN, hg, numA, splice]
  | true =>
    obtain ⟨g1, _⟩ := good_iff.1 hg
    by_cases h0 : a.2 < 0
    · simp [h0]
      refine ac_same kn (by simp) ?_
      rintro r rfl
      have he : absN a = negN a := by
        unfold absN negN
        rw [if_pos hg, if_pos hg]
        exact Prod.ext rfl (show (a.2.natAbs : Int) = -a.2 by omega)
      rw [he]
      simp [numA, splice]
    · have : (a.2.natAbs : Int) = a.2 := by omega
      have he : absN a = (false, a.2) := by
        unfold absN
        rw [if_pos hg]
        exact Prod.ext rfl (show (a.2.natAbs : Int) = a.2 by omega)
      rw [he]
      simp [h0]
      refine ac_same kt (by simp) ?_
      rintro r rfl
      simp [hg, numA, splice, g1]
theorem rnMul_ok (a b : N) (ha : okN a) (hb : okN b) : PCalls Tryz.prog n_isobarref02_Mul [numA a, numA b] (fun r => r = numA (mulN a b)) := by
  refine pcalls_of_awp hmix c_isobarref02_Mul rfl ?_
  have ka := rIs_ok (G := G) a ha
  have kb := rIs_ok (G := G) b hb
  obtain ⟨a1, a2⟩ := ha
  obtain ⟨b1, b2⟩ := hb
  rw [numA_eq] at ka kb
  rw [numA_eq a, numA_eq b]
  simp [a_isobarref02_Mul]
  refine ac_same ka (by simp) ?_
  rintro r rfl
  cases hga : good a with
  | false =>
    simp
    refine ac_same rNothing_ok (by simp) ?_
    rintro r rfl
    simp [mulN, hga, numA]
  | true =>
    simp
    refine ac_same kb (by simp) ?_
    rintro r rfl
    cases hgb : good b with
    | false =>
      simp
      refine ac_same rNothing_ok (by simp) ?_
      rintro r rfl
      simp [mulN, hga, hgb, numA]
    | true =>
      have va := (good_iff.1 hga).2
      have vb := (good_iff.1 hgb).2
      simp only [most] at va vb
      obtain ⟨sa, hsa⟩ : ∃ s, s = a.2.natAbs := ⟨_, rfl⟩
      obtain ⟨sb, hsb⟩ : ∃ s, s = b.2.natAbs := ⟨_, rfl⟩
      have e : mulN a b = tell (sgn (decide (a.2 < 0) != decide (b.2 < 0)) (rnd (sa * sb) 1000000)) := by simp [mulN, hga, hgb, hsa, hsb]
      rw [e]
      have ksa := rSize_ok (G := G) a.2 a1 a2
      have ksb := rSize_ok (G := G) b.2 b1 b2
      rw [← hsa] at ksa
      rw [← hsb] at ksb
      have km := rMul_ok (G := G) sa sb (by omega) (by omega)
      have hxy : sa * sb < 340282366920938463463374607431768211456 := by
        have h1 : sa * sb ≤ sa * 18446744073709551615 := Nat.mul_le_mul_left sa (by omega)
        omega
      have kr := rRound_ok (G := G) (sa * sb) 1000000 hxy (by omega)
      rw [if_neg (by decide)] at kr
      obtain ⟨h, hh⟩ : ∃ x, x = sa * sb / 18446744073709551616 := ⟨_, rfl⟩
      obtain ⟨l, hl⟩ : ∃ x, x = sa * sb % 18446744073709551616 := ⟨_, rfl⟩
      rw [wA_eq hh hl] at km kr
      obtain ⟨q, hq⟩ : ∃ q, q = rnd (sa * sb) 1000000 := ⟨_, rfl⟩
      rw [← hq] at kr ⊢
      simp
      refine qc_same ksa (by simp) (by simp) ?_
      simp
      refine qc_same ksb (by simp) (by simp) ?_
      simp
      refine qc_same km (by simp) (by simp) ?_
      simp
      by_cases hqM : q < 18446744073709551616
      · rw [if_pos hqM] at kr
        refine qc_same kr (by simp) (by simp) ?_
        simp
        refine ac_same (rSigned_ok q hqM (decide (a.2 < 0) != decide (b.2 < 0))) (by simp) ?_
        rintro r rfl
        simp [numA]
      · rw [if_neg hqM] at kr
        have : tell (sgn (decide (a.2 < 0) != decide (b.2 < 0)) q) = nothing := by
          unfold tell sgn most
          cases (decide (a.2 < 0) != decide (b.2 < 0)) <;> simp <;> omega
        rw [this]
        refine qc_same kr (by simp) (by simp) ?_
        simp
        refine ac_same rNothing_ok (by simp) ?_
        rintro r rfl
        simp [numA, nothing]
theorem rLess_ok (a b : Nat) : PCalls Tryz.prog n_isobarref01_Less [wA a, wA b] (fun r => r = .bool (decide (a < b))) := by
  refine pcalls_of_awp hmix c_isobarref01_Less rfl ?_
  obtain ⟨ah, hah⟩ : ∃ x, x = a / 18446744073709551616 := ⟨_, rfl⟩
  obtain ⟨al, hal⟩ : ∃ x, x = a % 18446744073709551616 := ⟨_, rfl⟩
  obtain ⟨bh, hbh⟩ : ∃ x, x = b / 18446744073709551616 := ⟨_, rfl⟩
  obtain ⟨bl, hbl⟩ : ∃ x, x = b % 18446744073709551616 := ⟨_, rfl⟩
  rw [wA_eq hah hal, wA_eq hbh hbl]
  by_cases h : ah < bh
  · have : a < b := by omega
    simp [a_isobarref01_Less, h, this]
  · by_cases h2 : ah = bh
    · have : a < b ↔ al < bl := by omega
      simp [a_isobarref01_Less, h2, this]
    · have : ¬ a < b := by omega
      have h2' : ¬ (ah : Int) = (bh : Int) := by omega
      simp [a_isobarref01_Less, h, h2, h2', this]
theorem rRoot_ok (a : Nat) (ha : a < 340282366920938463463374607431768211456) : PCalls Tryz.prog n_isobarref01_Root [wA a] (fun r => r = .int .u64 (sq a)) := by
  refine pcalls_of_awp hmix c_isobarref01_Root rfl ?_
  obtain ⟨h, hh⟩ : ∃ x, x = a / 18446744073709551616 := ⟨_, rfl⟩
  obtain ⟨l, hl⟩ : ∃ x, x = a % 18446744073709551616 := ⟨_, rfl⟩
  have hwe := wA_eq hh hl
  rw [hwe]
  simp [a_isobarref01_Root]
  refine lp_startx (fun x f σ => ∃ i n c p : Nat, x = i ∧ i ≤ 64 ∧ p = 2 ^ i ∧ n = c * 2 ^ i ∧ n * n ≤ a ∧ a < (n + p) * (n + p) ∧ n + p ≤ 18446744073709551616 ∧ f 1 = .ptr 0 0 ∧ f 3 = .int .u64 n ∧ f 4 = .int .i64 ((i : Int) - 1) ∧ σ = [.var 132 [.int .u64 h, .int .u64 l]]) 64 ?_ ?_
  · exact ⟨64, 0, 0, 18446744073709551616, rfl, by omega, by decide, by simp, by omega, by omega, by omega, by simp, by simp, by simp, rfl⟩
  rintro x f σ ⟨i, n, c, p, rfl, hi, hp, hn, h1, h2, hnp, f1, f3, f4, rfl⟩
  simp [f4]
  refine cb_dec (fun hlt => ?_) (fun hge => ?_)
  · obtain ⟨j, rfl⟩ : ∃ j, x = j + 1 := ⟨x - 1, by omega⟩
    have hw1 : IntKind.u64.wrap (((j + 1 : Nat) : Int) - 1) = (j : Int) := by rw [wrap_u]; omega
    have hw1' : IntKind.u64.wrap (j : Int) = (j : Int) := by rw [wrap_u]; omega
    have hb : n / 2 ^ j % 2 = 0 := by rw [hn]; exact bt_mul c j (j + 1) (by omega)
    have hor := or_add_bit hb
    obtain ⟨q, hq⟩ : ∃ q, q = 2 ^ j := ⟨_, rfl⟩
    have hpq : p = 2 * q := by rw [hp, hq, Nat.pow_succ, Nat.mul_comm]
    have hqM : q < 18446744073709551616 := by omega
    have s1 : shiftOp .shl .u64 1 j = some (q : Int) := by
      have := shl_nat 1 j (by omega)
      rw [Nat.one_mul, ← hq, Nat.mod_eq_of_lt hqM] at this
      simpa using this
    have hq0 : 0 < q := by rw [hq]; exact Nat.two_pow_pos j
    have s2 : bitOp .or .u64 (n : Int) (q : Int) = some ((n ||| q : Nat) : Int) := or_nat n q (by omega) hqM
    rw [← hq] at hor
    rw [hor] at s2
    obtain ⟨m, hm⟩ : ∃ m, m = n + q := ⟨_, rfl⟩
    rw [← hm] at s2
    have km := rMul_ok (G := G) m m (by omega) (by omega)
    have kl := rLess_ok (G := G) a (m * m)
    obtain ⟨ph, hph⟩ : ∃ x, x = m * m / 18446744073709551616 := ⟨_, rfl⟩
    obtain ⟨pl, hpl⟩ : ∃ x, x = m * m % 18446744073709551616 := ⟨_, rfl⟩
    rw [wA_eq hph hpl] at km kl
    rw [hwe] at kl
    have hwj : IntKind.i64.wrap ((j : Int) - 1) = (j : Int) - 1 := wrap_i (by omega) (by omega)
    have e1 : ((j + 1 : Nat) : Int) - 1 = (j : Int) := by omega
    have hc2 : c * 2 ^ (j + 1) = 2 * c * q := by rw [hq, Nat.pow_succ, Nat.mul_comm (2 ^ j) 2, ← Nat.mul_assoc, Nat.mul_comm c 2]
    rw [e1] at f4
    simp [-shiftOp, -bitOp, f1, f3, f4, hw1', s1, s2]
    refine qc_same km (by simp) (by simp) ?_
    simp [-shiftOp, -bitOp]
    refine qc_same kl (by simp) (by simp) ?_
    by_cases hc : a < m * m
    · simp [-shiftOp, -bitOp, hc, f4, hwj]
      refine nx_intro j (by omega) ⟨j, n, 2 * c, q, rfl, by omega, hq, by rw [hn, hc2, ← hq], h1, by rw [← hm]; exact hc, by omega, by simp [f1], by simp [f3], by simp, rfl⟩
    · simp [-shiftOp, -bitOp, hc, f4, hwj]
      refine nx_intro j (by omega) ⟨j, m, 2 * c + 1, q, rfl, by omega, hq, by rw [hm, hn, hc2, ← hq, Nat.add_mul, Nat.one_mul], by omega, ?_, by omega, by simp [f1], by simp, by simp, rfl⟩
      have : m + q = n + p := by omega
      rw [this]; exact h2
  · have : x = 0 := by omega
    subst this
    have hp1 : p = 1 := by rw [hp]
    subst hp1
    have := sq_eq h1 h2
    simp [f3, this]
theorem rnRoot_ok (a : N) (ha : okN a) : PCalls Tryz.prog n_isobarref02_Root [numA a] (fun r => r = numA (rootN a)) := by
  refine pcalls_of_awp hmix c_isobarref02_Root rfl ?_
  have kt := rIs_ok (G := G) a ha
  obtain ⟨a1, a2⟩ := ha
  rw [numA_eq a] at kt ⊢
  simp [a_isobarref02_Root]
  refine ac_same kt (by simp) ?_
  rintro r rfl
  cases hg : good a with
  | false =>
    simp
    refine ac_same rNothing_ok (by simp) ?_
    rintro r rfl
    simp [rootN, hg, numA, splice]
  | true =>
    by_cases h0 : a.2 < 0
    · have : ¬ 0 ≤ a.2 := by omega
      simp [h0]
      refine ac_same rNothing_ok (by simp) ?_
      rintro r rfl
      simp [rootN, hg, h0, this, numA, splice]
    · have h0' : 0 ≤ a.2 := by omega
      obtain ⟨n, hn⟩ : ∃ n, n = a.2.natAbs := ⟨_, rfl⟩
      have ks := rSize_ok (G := G) a.2 a1 a2
      rw [← hn] at ks
      have km := rMul_ok (G := G) n 1000000 (by omega) (by decide)
      have kr := rRoot_ok (G := G) (n * 1000000) (by omega)
      have hlt : sq (n * 1000000) < 18446744073709551616 := sq_lt (by omega)
      have ko := rSigned_ok (G := G) (sq (n * 1000000)) hlt false
      have he : rootN a = tell (sgn false (sq (n * 1000000))) := by simp [rootN, hg, h0', hn, sgn]
      rw [he]
      obtain ⟨v, hv⟩ : ∃ v, v = tell (sgn false (sq (n * 1000000))) := ⟨_, rfl⟩
      rw [← hv] at ko ⊢
      obtain ⟨ph, hph⟩ : ∃ x, x = n * 1000000 / 18446744073709551616 := ⟨_, rfl⟩
      obtain ⟨pl, hpl⟩ : ∃ x, x = n * 1000000 % 18446744073709551616 := ⟨_, rfl⟩
      rw [wA_eq hph hpl] at km kr
      simp [h0]
      refine ac_same ks (by simp) ?_
      rintro r rfl
      simp
      refine ac_same km (by simp) ?_
      rintro r rfl
      simp
      refine ac_same kr (by simp) ?_
      rintro r rfl
      simp
      refine ac_same ko (by simp) ?_
      rintro r rfl
      simp [numA, splice]
theorem rnCmp_ok (a b : N) (ha : okN a) (hb : okN b) : PCalls Tryz.prog n_isobarref02_Cmp [numA a, numA b] (fun r => r = .int .i64 (cmpN a b)) := by
  refine pcalls_of_awp hmix c_isobarref02_Cmp rfl ?_
  have ka := rIs_ok (G := G) a ha
  have kb := rIs_ok (G := G) b hb
  rw [numA_eq] at ka kb
  rw [numA_eq a, numA_eq b]
  simp [a_isobarref02_Cmp]
  refine ac_same ka (by simp) ?_
  rintro r rfl
  cases hga : good a with
  | false =>
    simp
    refine ac_same kb (by simp) ?_
    rintro r rfl
    cases hgb : good b with
    | false => simp [cmpN, hga, hgb]
    | true =>
      simp
      refine ac_same ka (by simp) ?_
      rintro r rfl
      simp [cmpN, hga, hgb]
  | true =>
    simp
    refine ac_same ka (by simp) ?_
    rintro r rfl
    simp [hga]
    refine ac_same kb (by simp) ?_
    rintro r rfl
    cases hgb : good b with
    | false => simp [cmpN, hga, hgb]
    | true =>
      by_cases h1 : a.2 < b.2
      · simp [cmpN, hga, hgb, h1]
      · by_cases h2 : b.2 < a.2
        · simp [cmpN, hga, hgb, h1, h2]
        · simp [cmpN, hga, hgb, h1, h2]
theorem rnRound_ok (a : N) (ha : okN a) (d : Int) : PCalls Tryz.prog n_isobarref02_Round [numA a, .int .i64 d] (fun r => r = numA (roundN a d)) := by
  refine pcalls_of_awp hmix c_isobarref02_Round rfl ?_
  have kt := rIs_ok (G := G) a ha
  obtain ⟨a1, a2⟩ := ha
  rw [numA_eq a] at kt ⊢
  simp [a_isobarref02_Round]
  refine ac_same kt (by simp) ?_
  rintro r rfl
  cases hg : good a with
  | false =>
    simp
    refine ac_same rNothing_ok (by simp) ?_
    rintro r rfl
    simp [roundN, hg, numA, splice]
  | true =>
    by_cases h0 : d < 0
    · have : ¬ 0 ≤ d := by omega
      simp [h0]
      refine ac_same rNothing_ok (by simp) ?_
      rintro r rfl
      simp [roundN, hg, h0, this, numA, splice]
    by_cases h6 : 6 < d
    · have : ¬ d ≤ 6 := by omega
      simp [h0, h6]
      refine ac_same rNothing_ok (by simp) ?_
      rintro r rfl
      simp [roundN, hg, h0, h6, this, numA, splice]
    obtain ⟨k, rfl⟩ := Int.eq_ofNat_of_zero_le (show 0 ≤ d by omega)
    have hk6 : k ≤ 6 := by omega
    obtain ⟨_, h2⟩ := good_iff.1 hg
    simp only [most] at h2
    obtain ⟨s, hs⟩ : ∃ s, s = a.2.natAbs := ⟨_, rfl⟩
    have ks := rSize_ok (G := G) a.2 a1 a2
    rw [← hs] at ks
    obtain ⟨u, hu⟩ : ∃ u, u = 10 ^ (6 - k) := ⟨_, rfl⟩
    obtain ⟨u1, u2⟩ := unit_bd k
    rw [← hu] at u1 u2
    have he : roundN a k = tell (sgn (decide (a.2 < 0)) (rnd s u * u)) := by
      have : unitN (k : Int) = u := by rw [unitN, hu]; simp
      simp [roundN, hg, this, hs, h6] <;> omega
    have hrl := rnd_mul_le s u u1
    have hr1 : rnd s u ≤ rnd s u * u := Nat.le_mul_of_pos_right _ u1
    have km := rMul_ok (G := G) (rnd s u) u (by omega) (by omega)
    have ko := rSigned_ok (G := G) (rnd s u * u) (by omega) (decide (a.2 < 0))
    have kr := rRound_ok (G := G) s u (by omega) (by omega)
    rw [if_neg (by omega), if_pos (by omega)] at kr
    have hws : wA s = .agg [.int .u64 0, .int .u64 (s : Int)] := by
      unfold wA
      rw [Nat.div_eq_of_lt (by omega), Nat.mod_eq_of_lt (by omega)]
      rfl
    rw [hws] at kr
    rw [he]
    have hwm : wA (rnd s u * u) = .agg [.int .u64 0, .int .u64 ((rnd s u * u : Nat) : Int)] := by
      unfold wA
      rw [Nat.div_eq_of_lt (by omega), Nat.mod_eq_of_lt (by omega)]
      rfl
    rw [hwm] at km
    obtain ⟨M, hM⟩ : ∃ M, M = rnd s u * u := ⟨_, rfl⟩
    rw [← hM] at km ko ⊢
    obtain ⟨R, hR⟩ : ∃ R, R = rnd s u := ⟨_, rfl⟩
    rw [← hR] at km kr
    obtain ⟨v, hv⟩ : ∃ v, v = tell (sgn (decide (a.2 < 0)) M) := ⟨_, rfl⟩
    rw [← hv] at ko ⊢
    have h6' : ¬ (6 : Int) < (k : Int) := h6
    have h6'' : ¬ 6 < k := by omega
    have h0' : ¬ (k : Int) < 0 := h0
    simp [h6', h6'', h0']
    refine lp_startx (fun x f σ => ∃ i : Nat, x = 6 - i ∧ k ≤ i ∧ i ≤ 6 ∧ f 2 = .ptr 0 0 ∧ f 4 = .ptr 1 0 ∧ f 5 = .int .u64 (upN k i : Int) ∧ f 6 = .int .i64 i ∧ σ = [.var 33 [.bool a.1, .int .i64 a.2], .var 33 [.bool false, .int .i64 0]]) (6 - k) ?_ ?_
    · exact ⟨k, rfl, by omega, hk6, by simp, by simp, by simp [upN], by simp, rfl⟩
    rintro x f σ ⟨i, rfl, hki, hi, f2, f4, f5, f6, rfl⟩
    simp [f6]
    refine cb_dec (fun hlt => ?_) (fun hge => ?_)
    · have hi6 : i < 6 := by omega
      have hp : 10 ^ (i + 1 - k) = 10 ^ (i - k) * 10 := by rw [show i + 1 - k = (i - k) + 1 by omega, Nat.pow_succ]
      have hb : 10 ^ (i - k) ≤ 1000000 := by
        have : 10 ^ (i - k) ≤ 10 ^ 6 := Nat.pow_le_pow_right (by omega) (by omega)
        omega
      obtain ⟨U, hU⟩ : ∃ U, U = 10 ^ (i - k) := ⟨_, rfl⟩
      rw [upN] at f5
      rw [← hU] at hp hb f5
      have hw : IntKind.u64.wrap ((U : Int) * 10) = ((U * 10 : Nat) : Int) := by rw [wrap_u]; omega
      have hwi : IntKind.i64.wrap ((i : Int) + 1) = (i : Int) + 1 := wrap_i (by omega) (by omega)
      simp [f5, f6, hw, hwi]
      refine nx_intro (6 - (i + 1)) (by omega) ⟨i + 1, rfl, by omega, by omega, by simp [f2], by simp [f4], by rw [upN, hp]; simp, by simp, rfl⟩
    · have : i = 6 := by omega
      subst this
      rw [upN, ← hu] at f5
      simp [f2]
      refine ac_same ks (by simp) ?_
      rintro r rfl
      simp [f5]
      refine ac_same kr (by simp) ?_
      rintro r rfl
      simp [f5]
      refine ac_same km (by simp) ?_
      rintro r rfl
      simp [f2]
      refine ac_same ko (by simp) ?_
      rintro r rfl
      simp [f4, numA, splice]
end Go.Proofs.YtipncibiodfmdaaGreatDoor
end
section
set_option linter.unusedSimpArgs false
set_option linter.unusedVariables false
set_option linter.constructorNameAsVariable false
set_option maxHeartbeats 4000000
namespace Go.Abs
theorem all_join {G : Globs} {P : Program} {ls : List (List AIns)} {Q : AExit → Frame → Store → Prop} {f : Frame} {σ : Store} (J : Frame → Store → Prop) (hJ : ∀ f σ, J f σ → Q .normal f σ) (h : ∀ l ∈ ls, awpOps P (fun f σ => jn J (.mk _) f (.mk f) σ) l f σ) : awp P (.all ls) Q f σ := by
  intro l hl
  have h1 : awp P (.ops l) (fun e f σ => match e with | .normal => jn J (.mk _) f (.mk f) σ | _ => False) f σ := h l hl
  exact awp_mono (c := .ops l) (Q' := Q) (fun e f σ h0 => by
    cases e with
    | normal => exact hJ _ _ h0
    | exit id => exact h0.elim
    | ret => exact h0.elim) h1
end Go.Abs
namespace Go.Num
theorem fold_from (two : N → N → N) (z k : N) (ks : List N) (h : two z k = k) : (k :: ks).foldl two z = ks.foldl two k := by rw [List.foldl_cons, h]
end Go.Num
namespace Go.Proofs.YtipncibiodfmdaaGreatDoor
open Go.Abs Go.Num Go.Ser
variable {G : Globs}
/-- The store of Reckon: three variables, in whatever order they were laid. -/
def RS (σ : Store) (a b c : Nat) (x y z : N) : Prop := σ.length = 4 ∧ σ[0]? = some (.var 33 [.bool false, .int .i64 0]) ∧ 0 < a ∧ a < 4 ∧ 0 < b ∧ b < 4 ∧ 0 < c ∧ c < 4 ∧ a ≠ b ∧ a ≠ c ∧ b ≠ c ∧
  σ[a]? = some (.var 33 [.bool x.1, .int .i64 x.2]) ∧ σ[b]? = some (.var 33 [.bool y.1, .int .i64 y.2]) ∧ σ[c]? = some (.var 33 [.bool z.1, .int .i64 z.2])
theorem rReckon_ok (way : Int) (l : List N) (hok : oksN l) (hl : l.length ≤ 1000000000) : PCalls Tryz.prog n_isobarref24_Reckon [.int .i64 way, .lst (numEls l)] (fun r => r = numA (reckon way l)) := by
  refine pcalls_of_awp hmix c_isobarref24_Reckon rfl ?_
  simp [a_isobarref24_Reckon]
  refine ac_same (rKnown_ok l hok hl) (by simp) ?_
  rintro r rfl
  have hko : oksN (known l) := fun n hn => hok n (List.mem_filter.1 hn).1
  have hkl : (known l).length ≤ l.length := List.length_filter_le _ _
  have hkg := known_good l
  unfold reckon
  generalize known l = K at *
  cases K with
  | nil =>
    simp [numEls]
    refine ac_same rNothing_ok (by simp) ?_
    rintro r rfl
    simp [numA, nothing]
  | cons k ks =>
    have hlen := numEls_len ks
    simp only [List.length_cons] at hkl
    have hk := hko k (by simp)
    have hkgk := hkg k (by simp)
    have hks : oksN ks := fun n hn => hko n (by simp [hn])
    have hn0 : ¬ ((ks.length : Int) + 1 = 0) := by omega
    rw [numEls_cons]
    by_cases w0 : way < 1
    · have e : reckonK way k ks = nothing := by
        unfold reckonK
        repeat' split
        all_goals first | omega | rfl
      simp [hlen, hn0, w0, e]
      refine ac_same rNothing_ok (by simp) ?_
      rintro r rfl
      simp [numA, nothing, e]
    by_cases w6 : 5 < way
    · have e : reckonK way k ks = nothing := by
        unfold reckonK
        repeat' split
        all_goals first | omega | rfl
      simp [hlen, hn0, w0, w6, e]
      refine ac_same rNothing_ok (by simp) ?_
      rintro r rfl
      simp [numA, nothing, e]
    simp [-awp_all_cons, -awp_all_nil, hlen, hn0, w0, w6]
    have kO := rOf_ok (G := G) 0 (by decide) (by decide)
    rw [tell_zero, numA_eq] at kO
    have hms : (numEls (k :: ks)).length = ks.length + 1 := by rw [numEls_len]; rfl
    refine all_join (fun f σ => f 0 = .int .i64 way ∧ f 4 = .ptr 0 0 ∧ f 5 = .lst (numEls (k :: ks)) ∧ ∃ a b c, f 6 = .ptr a 0 ∧ f 7 = .ptr b 0 ∧ f 8 = .ptr c 0 ∧ RS σ a b c (false, 0) k k) ?_ ?_
    · rintro f σ ⟨f0, f4, f5, a, b, c, f6, f7, f8, hRS⟩
      simp
      refine lp_startx (fun x f σ => ∃ (i : Nat) (S L M : N), x = ks.length + 1 - i ∧ i ≤ ks.length + 1 ∧ f 0 = .int .i64 way ∧ f 4 = .ptr 0 0 ∧ f 5 = .lst (numEls (k :: ks)) ∧ f 6 = .ptr a 0 ∧ f 7 = .ptr b 0 ∧ f 8 = .ptr c 0 ∧ f 9 = .int .i64 i ∧ okN S ∧ okN L ∧ okN M ∧
        S = ((k :: ks).take i).foldl addN (tell 0) ∧ L = ((k :: ks).take i).foldl lessN k ∧ M = ((k :: ks).take i).foldl moreN k ∧ RS σ a b c S L M) (ks.length + 1) ?_ ?_
      · exact ⟨0, (false, 0), k, k, by omega, by omega, by simp [f0], by simp [f4], by simp [f5], by simp [f6], by simp [f7], by simp [f8], by simp, by simp [okN], hk, hk, rfl, rfl, rfl, hRS⟩
      clear f0 f4 f5 f6 f7 f8 hRS
      rintro x f σ ⟨i, S, L, M, hx, hi, f0, f4, f5, f6, f7, f8, f9, oS, oL, oM, hS, hL, hM, r1, r2, a0, a4, b0, b4, c0, c4, ab, ac, bc, ra, rb, rc⟩
      obtain ⟨ha, ra'⟩ := List.getElem?_eq_some_iff.1 ra
      obtain ⟨hb, rb'⟩ := List.getElem?_eq_some_iff.1 rb
      obtain ⟨hc, rc'⟩ := List.getElem?_eq_some_iff.1 rc
      obtain ⟨h0l, r2'⟩ := List.getElem?_eq_some_iff.1 r2
      simp [f5, f9, hms]
      refine cb_dec (fun hlt => ?_) (fun hge => ?_)
      · have hlt' : i < ks.length + 1 := by omega
        have hwi : IntKind.i64.wrap ((i : Int) + 1) = ((i + 1 : Nat) : Int) := by rw [wrap_i64 (by omega) (by omega)]; omega
        obtain ⟨n, hn⟩ : ∃ n, (k :: ks)[i]? = some n := ⟨_, List.getElem?_eq_getElem (by simpa using hlt')⟩
        have hno := hko n (List.mem_of_getElem? hn)
        have hse := numEls_get hn
        obtain ⟨hx1, hx2⟩ := List.getElem?_eq_some_iff.1 hse
        have k1 := rnAdd_ok (G := G) S n oS hno
        have k2 := rnLess_ok (G := G) L n oL hno
        have k3 := rnMore_ok (G := G) M n oM hno
        simp only [numA_eq] at k1 k2 k3
        have st : ∀ (two : N → N → N) (z : N), ((k :: ks).take (i + 1)).foldl two z = two (((k :: ks).take i).foldl two z) n := fun two z => by
          rw [List.take_add_one, hn, List.foldl_append]; rfl
        have ba := Ne.symm ab
        have ca := Ne.symm ac
        have cb' := Ne.symm bc
        simp [f5, f6, f9, ra, hse, hx1, hx2]
        refine qc_same k1 (by simp) (by simp) ?_
        simp [f5, f6, f7, f9, ra, rb, ra', rb', hse, hx1, hx2, ab, ba, ha]
        refine qc_same k2 (by simp) (by simp) ?_
        simp [f5, f7, f8, f9, ra, rb, rc, ra', rb', rc', hse, hx1, hx2, ab, ba, ac, ca, bc, cb', ha, hb, hc]
        refine qc_same k3 (by simp) (by simp) ?_
        simp [f5, f8, f9, ra, rb, rc, ra', rb', rc', hse, hx1, hx2, ab, ba, ac, ca, bc, cb', ha, hb, hc, hwi]
        refine nx_intro (ks.length + 1 - (i + 1)) (by omega) ⟨i + 1, addN S n, lessN L n, moreN M n, rfl, by omega, by simp [f0], by simp [f4], by simp [f5], by simp [f6], by simp [f7], by simp [f8], by simp, ok_add _ _, ok_less oL hno, ok_more oM hno, by rw [st, hS], by rw [st, hL], by rw [st, hM], ?_⟩
        have a0' : a ≠ 0 := by omega
        have b0' : b ≠ 0 := by omega
        have c0' : c ≠ 0 := by omega
        refine ⟨by simp [r1], by simp [r2, a0', b0', c0', a0'.symm, b0'.symm, c0'.symm], a0, a4, b0, b4, c0, c4, ab, ac, bc, ?_, ?_, ?_⟩
        · simp [splice, ab, ba, ac, ca, bc, cb', ha, hb, hc]
        · simp [splice, ab, ba, ac, ca, bc, cb', ha, hb, hc]
        · simp [splice, ab, ba, ac, ca, bc, cb', ha, hb, hc]
      · have hil : i = ks.length + 1 := by omega
        have htk : (k :: ks).take i = k :: ks := List.take_of_length_le (by simp; omega)
        rw [htk] at hS hL hM
        have eS : S = ks.foldl addN k := by rw [hS]; exact fold_from addN _ k ks (add_zero hkgk hk.2)
        have eL : L = ks.foldl lessN k := by rw [hL]; exact fold_from lessN _ k ks (less_self k hkgk)
        have eM : M = ks.foldl moreN k := by rw [hM]; exact fold_from moreN _ k ks (more_self k hkgk)
        unfold reckonK
        by_cases w1 : way = 1
        · subst w1
          have kI := rInt_ok (G := G) ((ks.length : Int) + 1) (by omega) (by omega)
          have kD := rnDiv_ok (G := G) S (tell (((ks.length : Int) + 1) * 1000000)) oS (ok_tell _)
          rw [← eS]
          simp only [numA_eq] at kI kD
          simp [f0, f5, f6, ra, hms]
          refine qc_same kI (by simp) (by simp) ?_
          simp [f6, ra]
          refine qc_same kD (by simp) (by simp) ?_
          simp [f4, r2, r2', h0l, numA]
        · by_cases w2 : way = 2
          · subst w2
            rw [← eS]
            simp [f0, f4, f6, ra, r2, r2', h0l, numA]
          · by_cases w3 : way = 3
            · subst w3
              rw [← eL]
              simp [f0, f4, f7, rb, r2, r2', h0l, numA]
            · by_cases w4 : way = 4
              · subst w4
                rw [← eM]
                simp [f0, f4, f8, rc, r2, r2', h0l, numA]
              · have w5 : way = 5 := by omega
                subst w5
                obtain ⟨z, hz⟩ : ∃ z, z = (k :: ks).getLast (by simp) := ⟨_, rfl⟩
                have hz1 : (k :: ks)[ks.length]? = some z := by
                  rw [hz, List.getLast_eq_getElem, List.getElem?_eq_getElem (by simp)]; simp
                have hz2 := numEls_get hz1
                obtain ⟨hy1, hy2⟩ := List.getElem?_eq_some_iff.1 hz2
                have hw : IntKind.i64.wrap (ks.length : Int) = ks.length := wrap_i64 (by omega) (by omega)
                rw [← hz]
                simp [f0, f4, f5, r2, r2', h0l, hms, hw, hz2, hy2, numA]
    · intro l hl
      have hgt : (numEls (k :: ks))[0]? = some [.bool k.1, .int .i64 k.2] := by simp [numEls_cons]
      simp only [List.mem_cons, List.not_mem_nil, or_false] at hl
      rcases hl with rfl | rfl | rfl | rfl | rfl | rfl
      · simp
        refine qc_same kO (by simp) (by simp) ?_
        simp
        refine jn_intro ⟨by simp, by simp, by simp [numEls_cons], 1, 2, 3, by simp, by simp, by simp, by simp, by simp [splice], by decide, by decide, by decide, by decide, by decide, by decide, by decide, by decide, by decide, by simp [splice], by simp [splice], by simp [splice]⟩
      · simp
        refine qc_same kO (by simp) (by simp) ?_
        simp
        refine jn_intro ⟨by simp, by simp, by simp [numEls_cons], 2, 1, 3, by simp, by simp, by simp, by simp, by simp [splice], by decide, by decide, by decide, by decide, by decide, by decide, by decide, by decide, by decide, by simp [splice], by simp [splice], by simp [splice]⟩
      · simp
        refine qc_same kO (by simp) (by simp) ?_
        simp
        refine jn_intro ⟨by simp, by simp, by simp [numEls_cons], 3, 1, 2, by simp, by simp, by simp, by simp, by simp [splice], by decide, by decide, by decide, by decide, by decide, by decide, by decide, by decide, by decide, by simp [splice], by simp [splice], by simp [splice]⟩
      · simp
        refine qc_same kO (by simp) (by simp) ?_
        simp
        refine jn_intro ⟨by simp, by simp, by simp [numEls_cons], 1, 3, 2, by simp, by simp, by simp, by simp, by simp [splice], by decide, by decide, by decide, by decide, by decide, by decide, by decide, by decide, by decide, by simp [splice], by simp [splice], by simp [splice]⟩
      · simp
        refine qc_same kO (by simp) (by simp) ?_
        simp
        refine jn_intro ⟨by simp, by simp, by simp [numEls_cons], 2, 3, 1, by simp, by simp, by simp, by simp, by simp [splice], by decide, by decide, by decide, by decide, by decide, by decide, by decide, by decide, by decide, by simp [splice], by simp [splice], by simp [splice]⟩
      · simp
        refine qc_same kO (by simp) (by simp) ?_
        simp
        refine jn_intro ⟨by simp, by simp, by simp [numEls_cons], 3, 2, 1, by simp, by simp, by simp, by simp, by simp [splice], by decide, by decide, by decide, by decide, by decide, by decide, by decide, by decide, by decide, by simp [splice], by simp [splice], by simp [splice]⟩
end Go.Proofs.YtipncibiodfmdaaGreatDoor
end
section
set_option linter.unusedSimpArgs false
set_option linter.unusedVariables false
set_option linter.constructorNameAsVariable false
set_option maxHeartbeats 4000000
namespace Go.Ser
open Go.Abs Go.Num Go.Dec
end Go.Ser
namespace Go.Proofs.YtipncibiodfmdaaGreatDoor
open Go.Abs Go.Num Go.Ser Go.Dec
variable {G : Globs}
def s0 : Sr := ⟨[97], 60, 60, [(false, 1000000), (true, 0)]⟩
end Go.Proofs.YtipncibiodfmdaaGreatDoor
end
section
set_option linter.unusedSimpArgs false
set_option linter.unusedVariables false
set_option linter.constructorNameAsVariable false
set_option maxHeartbeats 4000000
namespace Go.Proofs.YtipncibiodfmdaaGreatDoor
open Go.Abs Go.Num Go.Ser
variable {G : Globs}
/-- isobarref02.Same, of a list and itself. -/
theorem same_ok (a : List N) (ha : a.length ≤ 9223372036854775807) : PCalls Tryz.prog n_isobarref02_Same [.lst (numEls a), .lst (numEls a)] (fun r => r = .bool true) := by
  refine pcalls_of_awp hmix c_isobarref02_Same rfl ?_
  have hla := numEls_len a
  simp [a_isobarref02_Same, hla]
  refine lp_startx (fun x f σ => ∃ (i : Nat), x = a.length - i ∧ i ≤ a.length ∧ f 0 = .lst (numEls a) ∧ f 1 = .lst (numEls a) ∧ f 5 = .int .i64 i ∧ σ = []) a.length ?_ ?_
  · exact ⟨0, by simp, by simp, by simp, by simp, by simp, by simp⟩
  rintro x f σ ⟨i, hx, hi, f0, f1, f5, rfl⟩
  simp [f0, f5, hla]
  refine cb_dec (fun hlt => ?_) (fun hge => ?_)
  · have hlt' : i < a.length := by omega
    have hwi : IntKind.i64.wrap ((i : Int) + 1) = ((i + 1 : Nat) : Int) := by rw [wrap_i64 (by omega) (by omega)]; omega
    obtain ⟨n, hn⟩ : ∃ n, a[i]? = some n := ⟨_, List.getElem?_eq_getElem hlt'⟩
    have hsa := numEls_get hn
    obtain ⟨ha1, ha2⟩ := List.getElem?_eq_some_iff.1 hsa
    simp [f0, f1, f5, hsa, ha1, ha2, hwi]
    refine nx_intro (a.length - (i + 1)) (by omega) ⟨i + 1, rfl, by omega, by simp [f0], by simp [f1], by simp, rfl⟩
  · simp
theorem sameS_ok (s : Sr) (h : s.vals.length ≤ 9223372036854775807) : PCalls Tryz.prog n_isobarref14_SameSeries [srA s, srA s] (fun r => r = .bool true) := by
  refine pcalls_of_awp hmix c_isobarref14_SameSeries rfl ?_
  rw [srA_eq s]
  simp [a_isobarref14_SameSeries]
  refine ac_same (same_ok s.vals h) (by simp) ?_
  rintro r rfl
  simp
theorem rsRight_ok (s : Sr) (h : SrOk s) : PCalls Tryz.prog n_isobarref24_Right [srA s] (fun r => r = .bool (rightS s)) := by
  refine pcalls_of_awp hmix c_isobarref24_Right rfl ?_
  rw [srA_eq]
  have hlen := numEls_len s.vals
  have kT := timed_ok (G := G) s.start
  unfold rightS
  obtain ⟨A, hA⟩ : ∃ A, A = s.vals.all rightN := ⟨_, rfl⟩
  rw [← hA]
  by_cases h1 : s.name.length ≤ 400
  · have h1' : ¬ (400 : Int) < s.name.length := by omega
    have h1'' : ¬ 400 < s.name.length := by omega
    by_cases h3 : 1 ≤ s.step
    · have h3' : ¬ s.step < 1 := by omega
      by_cases h4 : s.step ≤ 86400
      · have h4' : ¬ 86400 < s.step := by omega
        simp [a_isobarref24_Right, h1, h1', h1'', hlen, h3, h3', h4, h4']
        refine ac_same kT (by simp) ?_
        rintro r rfl
        by_cases h5 : 0 ≤ s.start
        · by_cases h6 : s.start ≤ 1099511627776
          · by_cases h2 : s.vals.length ≤ 2000
            · have h2' : ¬ (2000 : Int) < s.vals.length := by omega
              have h2'' : ¬ 2000 < s.vals.length := by omega
              simp [hlen, h2, h2', h2'', h5, h6]
              refine lp_startx (fun x f σ => ∃ (i : Nat), x = s.vals.length - i ∧ i ≤ s.vals.length ∧ f 1 = .ptr 0 0 ∧ f 3 = .int .i64 i ∧ (∀ n ∈ s.vals.take i, rightN n = true) ∧ σ = [.var 24 [.str s.name, .int .i64 s.start, .int .i64 s.step, .lst (numEls s.vals)]]) s.vals.length ?_ ?_
              · exact ⟨0, by simp, by simp, by simp, by simp, by simp, by simp⟩
              rintro x f σ ⟨i, hx, hi, f1, f3, hall, rfl⟩
              simp [f1, f3, hlen]
              refine cb_dec (fun hlt => ?_) (fun hge => ?_)
              · have hlt' : i < s.vals.length := by omega
                have hwi : IntKind.i64.wrap ((i : Int) + 1) = ((i + 1 : Nat) : Int) := by rw [wrap_i64 (by omega) (by omega)]; omega
                obtain ⟨n, hn⟩ : ∃ n, s.vals[i]? = some n := ⟨_, List.getElem?_eq_getElem hlt'⟩
                have hse := numEls_get hn
                obtain ⟨hx1, hx2⟩ := List.getElem?_eq_some_iff.1 hse
                have kR := rnRight_ok (G := G) n (h.vs n (List.mem_of_getElem? hn))
                rw [numA_eq] at kR
                simp [f1, f3, hse, hx1, hx2]
                refine ac_same kR (by simp) ?_
                rintro r rfl
                cases hr : rightN n with
                | false =>
                  have hno : A = false := by rw [hA]; exact List.all_eq_false.2 ⟨n, List.mem_of_getElem? hn, by simp [hr]⟩
                  simp [hno]
                | true =>
                  simp [f1, f3, hwi]
                  refine nx_intro (s.vals.length - (i + 1)) (by omega) ⟨i + 1, rfl, by omega, by simp [f1], by simp, fun m hm => ?_, by simp⟩
                  rw [List.take_add_one, hn] at hm
                  simp only [Option.toList_some, List.mem_append, List.mem_singleton] at hm
                  rcases hm with hm | rfl
                  · exact hall m hm
                  · exact hr
              · have hil : i = s.vals.length := by omega
                rw [hil, List.take_length] at hall
                have hyes : A = true := by rw [hA]; exact List.all_eq_true.2 hall
                simp [hyes, h1, h2, h3, h4, h5, h6]
            · have h2' : (2000 : Int) < s.vals.length := by omega
              have h2'' : 2000 < s.vals.length := by omega
              simp [hlen, h2, h2', h2'', h5, h6]
          · simp [h5, h6]
        · simp [h5]
      · have h4' : 86400 < s.step := by omega
        simp [a_isobarref24_Right, h1, h1', h1'', hlen, h3, h3', h4, h4']
    · have h3' : s.step < 1 := by omega
      simp [a_isobarref24_Right, h1, h1', h1'', hlen, h3, h3']
  · have h1' : (400 : Int) < s.name.length := by omega
    have h1'' : 400 < s.name.length := by omega
    simp [a_isobarref24_Right, h1, h1', h1'']
theorem rsEnd_ok (s : Sr) (h : SrOk s) : PCalls Tryz.prog n_isobarref24_End [srA s] (fun r => r = .int .i64 (if rightS s = true then endS s else 0)) := by
  refine pcalls_of_awp hmix c_isobarref24_End rfl ?_
  have kR := rsRight_ok (G := G) s h
  rw [srA_eq s] at kR ⊢
  simp [a_isobarref24_End]
  refine ac_same kR (by simp) ?_
  rintro r rfl
  cases hr : rightS s with
  | false => simp
  | true =>
    have hR := right_iff.1 hr
    obtain ⟨e1, e2, e3, e4⟩ := end_bd hR
    have hs0 := hR.s0
    have hs1 := hR.s1
    have hw1 : IntKind.i64.wrap (s.step * (s.vals.length : Int)) = s.step * s.vals.length := wrap_i64 (by omega) (by omega)
    have hw2 : IntKind.i64.wrap (s.start + s.step * (s.vals.length : Int)) = endS s := by unfold endS; exact wrap_i64 (by omega) (by omega)
    simp [numEls_len, hw1, hw2]
theorem between_ok (s : Sr) (hR : SrR s) (a b : Int) : PCalls Tryz.prog n_isobarref24_between [srA s, .int .i64 a, .int .i64 b] (fun r => r = .lst (numEls (slice s a b))) := by
  refine pcalls_of_awp hmix c_isobarref24_between rfl ?_
  have hlen := numEls_len s.vals
  have hs0 := hR.s0
  have hs1 := hR.s1
  have hp0 := hR.p0
  have hp1 := hR.p1
  have hvl := hR.vl
  rw [← betw_all s hR, srA_eq s]
  simp [a_isobarref24_between]
  have hbl : ∀ (l : List N) (i : Nat), (betw s.start s.step a b i l).length ≤ l.length := by
    intro l
    induction l with
    | nil => intro i; simp [betw]
    | cons n l ih =>
      intro i
      have := ih (i + 1)
      unfold betw; split <;> simp <;> omega
  refine lp_startx (fun x f σ => ∃ (i : Nat), x = s.vals.length - i ∧ i ≤ s.vals.length ∧ f 1 = .int .i64 a ∧ f 2 = .int .i64 b ∧ f 3 = .ptr 0 0 ∧ f 7 = rowV 1 (numEls (betw s.start s.step a b 0 (s.vals.take i))) ∧ f 8 = .int .i64 i ∧
    σ = [.var 24 [.str s.name, .int .i64 s.start, .int .i64 s.step, .lst (numEls s.vals)]] ++ rowE 33 2 (numEls (betw s.start s.step a b 0 (s.vals.take i))) true) s.vals.length ?_ ?_
  · exact ⟨0, by simp, by simp, by simp, by simp, by simp, by simp [betw, numEls, rowV_nil], by simp, by simp [betw, numEls, rowE_nil]⟩
  rintro x f σ ⟨i, hx, hi, f1, f2, f3, f7, f8, rfl⟩
  simp [f3, f8, hlen]
  refine cb_dec (fun hlt => ?_) (fun hge => ?_)
  · have hlt' : i < s.vals.length := by omega
    have hwi : IntKind.i64.wrap ((i : Int) + 1) = ((i + 1 : Nat) : Int) := by rw [wrap_i64 (by omega) (by omega)]; omega
    obtain ⟨n, hn⟩ : ∃ n, s.vals[i]? = some n := ⟨_, List.getElem?_eq_getElem hlt'⟩
    have hse := numEls_get hn
    obtain ⟨hx1, hx2⟩ := List.getElem?_eq_some_iff.1 hse
    have hm0 : 0 ≤ (i : Int) * s.step := Int.mul_nonneg (Int.natCast_nonneg _) (by omega)
    have hm1 : (i : Int) * s.step ≤ 2000 * 86400 := Int.mul_le_mul (by omega) hp1 (by omega) (by decide)
    have hw1 : IntKind.i64.wrap ((i : Int) * s.step) = i * s.step := wrap_i64 (by omega) (by omega)
    obtain ⟨t, ht⟩ : ∃ t, t = s.start + i * s.step := ⟨_, rfl⟩
    have hw2 : IntKind.i64.wrap (s.start + (i : Int) * s.step) = t := by rw [ht]; exact wrap_i64 (by omega) (by omega)
    have hst := betw_take s.start s.step a b s.vals 0 i n hn
    rw [Nat.zero_add, ← ht] at hst
    have hb := hbl (s.vals.take i) 0
    have htl : (s.vals.take i).length ≤ i := by simp; omega
    simp [f1, f2, f3, f8, hw1, hw2]
    by_cases ha : a ≤ t
    · by_cases hbt : t < b
      · rw [if_pos ⟨ha, hbt⟩] at hst
        simp [ha, hbt, f1, f2, f3, f7, f8, hse, hx1, hx2]
        refine ap_acc_at (pre := [_]) (n := 1) (size := 2) (bytes := 16) rfl (numEls (betw s.start s.step a b 0 (s.vals.take i))) [[.bool n.1, .int .i64 n.2]] true (by decide) (by simp) (by simp) ?_ ?_ ?_
        · rw [numEls_len]; simp; omega
        · rw [numEls_len]; simp; omega
        have e : numEls (betw s.start s.step a b 0 (s.vals.take i)) ++ [[AV.bool n.1, AV.int .i64 n.2]] = numEls (betw s.start s.step a b 0 (s.vals.take (i + 1))) := by rw [hst, numEls_app]; rfl
        rw [e]
        simp [f8, hwi]
        refine nx_intro (s.vals.length - (i + 1)) (by omega) ⟨i + 1, rfl, by omega, by simp [f1], by simp [f2], by simp [f3], by simp, by simp, by simp⟩
      · rw [if_neg (fun h => hbt h.2), List.append_nil] at hst
        simp [ha, hbt, f1, f2, f8, hwi]
        refine nx_intro (s.vals.length - (i + 1)) (by omega) ⟨i + 1, rfl, by omega, by simp [f1], by simp [f2], by simp [f3], by simp [f7, hst], by simp, by simp [hst]⟩
    · rw [if_neg (fun h => ha h.1), List.append_nil] at hst
      simp [ha, f1, f2, f8, hwi]
      refine nx_intro (s.vals.length - (i + 1)) (by omega) ⟨i + 1, rfl, by omega, by simp [f1], by simp [f2], by simp [f3], by simp [f7, hst], by simp, by simp [hst]⟩
  · have hil : i = s.vals.length := by omega
    rw [hil, List.take_length] at f7
    have hfin := fin1_acc_at (pre := [.var 24 [.str s.name, .int .i64 s.start, .int .i64 s.step, .lst (numEls s.vals)]]) (n := 1) rfl (e := 33) (size := 2) (l := numEls (betw s.start s.step a b 0 s.vals)) (m := 0)
    simp only [List.cons_append, List.nil_append] at hfin
    simp [f7, hil, hfin]
end Go.Proofs.YtipncibiodfmdaaGreatDoor
end
section
set_option linter.unusedSimpArgs false
set_option linter.unusedVariables false
set_option linter.constructorNameAsVariable false
set_option maxHeartbeats 4000000
namespace Go.Abs
open Go.RowKit
/-- A new list of texts that the library hands back. -/
theorem own_strs {G : Globs} {base : Nat} {κ : Key} {Im : Addr → Prop} {w w' : World} {t : TypeId} {fz : Nat × Nat} {A : Nat} {cur : Array Value} {l : List (List UInt8)} (hs : SRel base κ Im [] w) (hb : Below w.heap.size w w') (hl : l.length ≤ 9223372036854775807)
    (hA : w.heap.size ≤ A) (hg : w'.heap[A]? = some (.cells cur t fz)) (hcur : cur.toList = l.map fun s => Value.string ⟨s.toArray⟩) :
    ∃ Im', SRel base κ Im' [] w' ∧ Grow base κ Im w κ Im' w' ∧ IR Im' w' (.lst (l.map fun s => [.str s])) (.slice (some ⟨A, 0, none⟩) l.length l.length) := by
  have hlt : A < w'.heap.size := by
    rcases Nat.lt_or_ge A w'.heap.size with h | h
    · exact h
    · rw [Array.getElem?_eq_none h] at hg; cases hg
  have hcell : ∀ k (hk : k < l.length), w'.cell? ⟨A, 0 + (k * 1 + 0), none⟩ = some (.string ⟨(l[k]).toArray⟩) := fun k hk => by
    have e : cur[0 + (k * 1 + 0)]? = some (.string ⟨(l[k]).toArray⟩) := by
      rw [← Array.getElem?_toList, hcur]; simp [hk]
    simp [World.cell?, hg]
    simpa using e
  refine ⟨fun a => Im a ∨ (a.block = A ∧ a.spot = none), hs.world (fun _ h => .inl h) (fun a h => h.imp id fun h => ⟨by rw [h.1]; exact hA, by rw [h.1]; exact hlt, h.2⟩) hb.size hb.block,
    ⟨fun _ _ _ h => h, fun _ h => .inl h, fun a ha => World.cell?_of_block (hb.block _ (hs.imlt a ha).1), fun a h => h.imp id fun h => by rw [h.1]; exact Nat.le_trans hs.hb hA, hb.mono hs.hb⟩, ?_⟩
  have hlen : (l.map fun s => [AV.str s]).length = l.length := by simp
  have := IR.lst (Im := fun a => Im a ∨ (a.block = A ∧ a.spot = none)) (w := w') (l.map fun s => [AV.str s]) 1 A 0 l.length (fun k _ => .string ⟨(l.getD k []).toArray⟩) (by simp) hl
    (fun c hc => by simp only [List.mem_map] at hc; obtain ⟨x, _, rfl⟩ := hc; rfl)
    (fun c hc x hx => by simp only [List.mem_map] at hc; obtain ⟨y, _, rfl⟩ := hc; simp at hx; subst hx; rfl)
    (fun k j hk hj => by
      rw [hlen] at hk
      have hj0 : j = 0 := by omega
      subst hj0
      exact ⟨.inr ⟨rfl, rfl⟩, by rw [hcell k hk]; simp [List.getD, hk]⟩)
    (fun k j hk hj => by
      rw [hlen] at hk
      have hj0 : j = 0 := by simpa using hj
      subst hj0
      simp only [List.getElem_map, List.getElem_cons_zero]
      have e : l.getD k [] = l[k] := by simp [List.getD, hk]
      rw [e]
      exact .str _)
  rw [hlen] at this
  exact this
end Go.Abs
namespace Go.Proofs.YtipncibiodfmdaaGreatDoor
open Go.Abs Go.Num Go.Ser Go.Dec Go.Shp
variable {G : Globs}
class GSpc [Globs] : Prop where
  spc : (0, Lib.asciiSpaceTab.map (AV.int .u8)) ∈ Globs.tab
theorem spc_ok {G : Globs} [GSpc] {base : Nat} {κ : Key} {Im : Addr → Prop} {σ : Store} {w : World} (hs : SRel base κ Im σ w) : Lib.TabIs Tryz.prog w "strings.asciiSpace" .u8 Lib.asciiSpaceTab := by
  obtain ⟨t, fz, h1, h2⟩ := glob_ints hs GSpc.spc
  unfold Lib.TabIs World.var?
  rw [show Tryz.prog.globalNamed "strings.asciiSpace" = some 0 by kernel_rfl]
  simp only [Option.bind_some, h1]
theorem fields_ok {G : Globs} [GSpc] (s : List UInt8) (hl : s.length ≤ 1000000) (ha : ∀ b ∈ s, b.toNat < 128) (hn : (Lib.fields s).length ≤ 1000000) : PCalls Tryz.prog 127 [.str s] (fun r => r = .lst (txts (Lib.fields s))) := by
  intro base κ Im w vs hsr hv
  obtain ⟨v0, rfl⟩ : ∃ v0, vs = [v0] := by
    match vs, hv.1 with
    | [a], _ => exact ⟨a, rfl⟩
  have e0 := (hv.2 0 (by simp) (by simp)).str_inv
  simp only [List.getElem_cons_zero] at e0
  subst e0
  refine (Tryz.strings_Fields ⟨s.toArray⟩ w (by show s.toArray.size < _; simp; omega) (fun j b hb => ha b (List.mem_of_getElem? (by simpa using hb))) (spc_ok hsr)).mono ?_
  rintro e w' ⟨rfl, rfl⟩
  obtain ⟨Im', g1, g2, g3⟩ := own_strs (A := w.heap.size) (l := Lib.fields s) (t := 9) (fz := (0, 0)) (cur := ((Lib.fields s).map fun l => Value.string ⟨l.toArray⟩).toArray) hsr (w' := w.alloc (.cells ((Lib.fields s).map fun l => Value.string ⟨l.toArray⟩).toArray 9)) (Go.RowKit.Below.alloc (Go.RowKit.Below.refl _ _) (Nat.le_refl _) _) (by omega) (Nat.le_refl _) (Go.MapKept.heap_alloc w _).1 (by simp)
  exact ⟨_, [], _, κ, Im', rfl, ⟨rfl, rfl⟩, g1, g2, .im _ _ g3⟩
theorem idxStr_ok (l : List (List UInt8)) (hl : l.length ≤ 1000000) (x : List UInt8) : PCalls Tryz.prog n_slices_Index_string_string [.lst (txts l), .str x] (fun r => ∃ z : Int, r = .int .i64 z ∧ (0 ≤ z ↔ x ∈ l)) := by
  refine pcalls_of_awp hmix c_slices_Index_string_string rfl ?_
  have hlen : (txts l).length = l.length := by simp [txts]
  simp [a_slices_Index_string_string, hlen]
  refine lp_startx (fun n f σ => ∃ k : Nat, n = l.length - k ∧ k ≤ l.length ∧ f 0 = .lst (txts l) ∧ f 1 = .str x ∧ f 7 = .int .i64 l.length ∧ f 8 = .int .i64 k ∧ x ∉ l.take k ∧ σ = []) l.length ?_ ?_
  · exact ⟨0, rfl, by omega, by simp, by simp, by simp, by simp, by simp, rfl⟩
  rintro n f σ ⟨k, rfl, hk, f0, f1, f7, f8, hx, rfl⟩
  simp [f7, f8]
  refine cb_dec (fun hlt => ?_) (fun hge => ?_)
  · have hlt' : k < l.length := by omega
    obtain ⟨y, hy⟩ : ∃ y, l[k]? = some y := ⟨_, List.getElem?_eq_getElem hlt'⟩
    have hte : (txts l)[k]? = some [.str y] := by simp [txts, hy]
    obtain ⟨h1, h2⟩ := List.getElem?_eq_some_iff.1 hte
    have hw : IntKind.i64.wrap ((k : Int) + 1) = (k : Int) + 1 := wrap_i64 (by omega) (by omega)
    by_cases he : x = y
    · subst he
      simp [f0, f1, f8, hte, h1, h2]
      exact List.mem_of_getElem? hy
    · simp [f0, f1, f8, hte, h1, h2, he, hw]
      refine nx_intro (l.length - (k + 1)) (by omega) ⟨k + 1, rfl, by omega, by simp [f0], by simp [f1], by simp [f7], by simp, ?_, rfl⟩
      rw [List.take_add_one, hy]
      simp [hx, he]
  · have : k = l.length := by omega
    subst this
    rw [List.take_length] at hx
    simp
    exact hx
theorem containsStr_ok (l : List (List UInt8)) (hl : l.length ≤ 1000000) (x : List UInt8) : PCalls Tryz.prog n_slices_Contains_string_string [.lst (txts l), .str x] (fun r => r = .bool (decide (x ∈ l))) := by
  refine pcalls_of_awp hmix c_slices_Contains_string_string rfl ?_
  simp [a_slices_Contains_string_string]
  refine ac_same (idxStr_ok l hl x) (by simp) ?_
  rintro r ⟨z, rfl, hz⟩
  simp [hz]
theorem among_ok [GSpc] (s x : List UInt8) (l : List (List UInt8)) (hs : s.length ≤ 1000000) (ha : ∀ b ∈ s, b.toNat < 128) (hl : Lib.fields s = l) (hn : l.length ≤ 1000000) : PCalls Tryz.prog n_shape_among [.str s, .str x] (fun r => r = .bool (decide (x ∈ l))) := by
  refine pcalls_of_awp hmix c_shape_among rfl ?_
  subst hl
  simp [a_shape_among]
  refine ac_same (fields_ok s hs ha hn) (by simp) ?_
  rintro r rfl
  simp
  refine ac_same (containsStr_ok (Lib.fields s) hn x) (by simp) ?_
  rintro r rfl
  simp
end Go.Proofs.YtipncibiodfmdaaGreatDoor
end
section
set_option linter.unusedSimpArgs false
set_option linter.unusedVariables false
set_option linter.constructorNameAsVariable false
set_option maxHeartbeats 2000000
namespace Go.Ser
open Go.Num
end Go.Ser
namespace Go.Proofs.YtipncibiodfmdaaGreatDoor
open Go.Abs Go.Num Go.Ser
variable {G : Globs}
end Go.Proofs.YtipncibiodfmdaaGreatDoor
end
section
set_option linter.unusedSimpArgs false
set_option linter.unusedVariables false
set_option linter.constructorNameAsVariable false
namespace Go.Proofs.YtipncibiodfmdaaGreatDoor
open Go.Abs Go.Num Go.Ser
variable {G : Globs}
class GMax [Globs] : Prop where
  mx : ∃ m : Int, (3, [AV.int .i64 m]) ∈ Globs.tab
end Go.Proofs.YtipncibiodfmdaaGreatDoor
end
