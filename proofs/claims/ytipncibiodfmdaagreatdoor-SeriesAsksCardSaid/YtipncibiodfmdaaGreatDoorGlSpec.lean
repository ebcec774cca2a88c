/- Patterns of one name, in plain Lean: what the program's functions compute. -/
import Derived.WalkKit
set_option linter.unusedSimpArgs false
set_option linter.unusedVariables false
set_option linter.constructorNameAsVariable false
namespace Go.Glob

/-- A name byte. -/
def nb (c : UInt8) : Bool := (97 ≤ c && c ≤ 122) || (65 ≤ c && c ≤ 90) || (48 ≤ c && c ≤ 57) || [95, 45, 58, 37, 35, 64, 43, 61].contains c

/-- A dash and a name byte behind it. -/
def rng : List UInt8 → Option (UInt8 × List UInt8)
  | d :: h :: s => if d = 45 ∧ nb h = true then some (h, s) else none
  | _ => none


/-- A class, behind its bracket: its ranges, and what stands behind it. -/
def cls : Nat → Bool → List UInt8 → Option (List (UInt8 × UInt8) × List UInt8)
  | 0, _, _ => none
  | _ + 1, _, [] => none
  | n + 1, ne, c :: s =>
    if c = 93 ∧ ne = true then some ([], s)
    else if nb c = false then none
    else match rng s with
      | some (h, s') => if h < c then none else (cls n true s').map fun x => ((c, h) :: x.1, x.2)
      | none => (cls n true s).map fun x => ((c, c) :: x.1, x.2)

inductive Pc where
  | lit (c : UInt8)
  | q
  | star
  | cls (rs : List (UInt8 × UInt8)) (text : List UInt8)
  | br (as : List (List Pc))

def stop (c : UInt8) : Bool := c = 44 || c = 125

mutual
/-- Pieces, up to a comma, a brace that shuts, or the end: the pieces, what stands behind them, how deep braces stand in them. -/
def pcs : Nat → List UInt8 → Option (List Pc × List UInt8 × Nat)
  | 0, _ => none
  | _ + 1, [] => some ([], [], 0)
  | n + 1, c :: s =>
    if c = 44 ∨ c = 125 then some ([], c :: s, 0)
    else if c = 63 then (pcs n s).map fun x => (.q :: x.1, x.2)
    else if c = 42 then (pcs n s).map fun x => (.star :: x.1, x.2)
    else if c = 91 then (cls n false s).bind fun x => (pcs n x.2).map fun y => (.cls x.1 ((c :: s).take (s.length + 1 - x.2.length)) :: y.1, y.2)
    else if c = 123 then (alts n s).bind fun x => (pcs n x.2.1).map fun y => (.br x.1 :: y.1, y.2.1, max (x.2.2 + 1) y.2.2)
    else if nb c = true then (pcs n s).map fun x => (.lit c :: x.1, x.2)
    else none
/-- Alternatives, behind their brace. -/
def alts : Nat → List UInt8 → Option (List (List Pc) × List UInt8 × Nat)
  | 0, _ => none
  | n + 1, s => (pcs n s).bind fun x => match x.2.1 with
    | [] => none
    | c :: r => if c = 125 then some ([x.1], r, x.2.2) else (alts n r).map fun y => (x.1 :: y.1, y.2.1, max x.2.2 y.2.2)
end

mutual
/-- How many patterns pieces come to, 65 at most. -/
def cnt : Nat → List Pc → Nat
  | n, [] => n
  | n, .br as :: l => cnt (min 65 (n * cntA 0 as)) l
  | n, .lit _ :: l => cnt n l
  | n, .q :: l => cnt n l
  | n, .star :: l => cnt n l
  | n, .cls _ _ :: l => cnt n l
def cntA : Nat → List (List Pc) → Nat
  | n, [] => n
  | n, a :: as => cntA (min 65 (n + cnt 1 a)) as
end

mutual
/-- The lists of pieces without braces that come of pieces. -/
def expd : List (List Pc) → List Pc → List (List Pc)
  | out, [] => out
  | out, .br as :: l => expd (out.flatMap fun h => (expdA as).map (h ++ ·)) l
  | out, .lit c :: l => expd (out.map (· ++ [.lit c])) l
  | out, .q :: l => expd (out.map (· ++ [.q])) l
  | out, .star :: l => expd (out.map (· ++ [.star])) l
  | out, .cls r t :: l => expd (out.map (· ++ [.cls r t])) l
def expdA : List (List Pc) → List (List Pc)
  | [] => []
  | a :: as => expd [[]] a ++ expdA as
end

def Pc.text : Pc → List UInt8
  | .lit c => [c]
  | .q => [63]
  | .star => [42]
  | .cls _ t => t
  | .br _ => []
def texts (l : List Pc) : List UInt8 := l.flatMap Pc.text

/-- Does a piece fit a byte? -/
def Pc.one : Pc → UInt8 → Bool
  | .q, _ => true
  | .lit l, c => decide (l = c)
  | .cls rs _, c => rs.any fun r => r.1 ≤ c && c ≤ r.2
  | .star, _ => false
  | .br _, _ => false

def tls {α : Type} : List α → List (List α)
  | [] => [[]]
  | a :: s => (a :: s) :: tls s

/-- Do pieces fit a name? -/
def mt : List Pc → List UInt8 → Bool
  | [], s => s.isEmpty
  | .star :: l, s => (tls s).any (mt l)
  | .lit _ :: _, [] => false
  | .q :: _, [] => false
  | .cls _ _ :: _, [] => false
  | .br _ :: _, [] => false
  | .lit p :: l, c :: s => (Pc.lit p).one c && mt l s
  | .q :: l, c :: s => Pc.q.one c && mt l s
  | .cls r t :: l, c :: s => (Pc.cls r t).one c && mt l s
  | .br a :: l, c :: s => (Pc.br a).one c && mt l s

/-- A pattern's pieces, or an error. -/
def parse (s : List UInt8) : Except Nat (List Pc) :=
  if 128 < s.length then .error 12
  else match pcs (2 * s.length + 2) s with
    | some (l, r, d) => if s = [] ∨ r ≠ [] then .error 10 else if 4 < d then .error 19 else if 64 < cnt 1 l then .error 11 else .ok l
    | none => .error 10

end Go.Glob
