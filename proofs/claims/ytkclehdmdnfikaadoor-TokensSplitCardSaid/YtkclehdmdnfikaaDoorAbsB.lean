/- Abstract machine, part 2: the store, the code and what a piece of code asks for. -/
import Derived.Test.YtkclehdmdnfikaaDoorAbsA
set_option linter.unusedSimpArgs false
set_option linter.unusedVariables false
set_option linter.constructorNameAsVariable false
namespace Go.Abs
open Go.RowKit

/-- What stands in the store: nothing; a variable's cells; a slice that the call owns (type and size of an element, the elements; 'im': what is there never changes); a map. -/
inductive Entry where
  | dead (n : Nat)
  | var (t : TypeId) (cells : List AV)
  | row (e : TypeId) (size : Nat) (els : List (List AV)) (im : Bool)
  | mp (kv : List (AV × AV))
  deriving Inhabited

abbrev Store := List Entry
abbrev Frame := Nat → AV

def Frame.put (f : Frame) (d : Option Nat) (v : AV) : Frame := match d with
  | some d => fun t => if t = d then v else f t
  | none => f
@[simp] theorem Frame.put_none (f : Frame) (v : AV) : Frame.put f none v = f := rfl
@[simp] theorem Frame.put_some (f : Frame) (d t : Nat) (v : AV) : Frame.put f (some d) v t = if t = d then v else f t := rfl

/-- An operand: a slot or a constant. -/
inductive Opd where
  | s (t : Nat)
  | c (v : AV)
  deriving Inhabited

def Opd.ev (f : Frame) : Opd → AV
  | .s t => f t
  | .c v => v
@[simp] theorem ev_s (f : Frame) (t : Nat) : (Opd.s t).ev f = f t := rfl
@[simp] theorem ev_c (f : Frame) (v : AV) : (Opd.c v).ev f = v := rfl

def AV.cells : AV → List AV
  | .agg l => l
  | v => [v]

def chunks : Nat → Nat → List AV → List (List AV)
  | 0, _, _ => []
  | n + 1, size, l => l.take size :: chunks n size (l.drop size)

/-- A slice's elements. -/
def view (σ : Store) : AV → Option (List (List AV))
  | .nils => some []
  | .lst l => some l
  | .row id n => match σ[id]? with
    | some (.row _ _ els _) => if els.length = n then some els else none
    | _ => none
  | .sub id n size lo hi => match σ[id]? with
    | some (.row _ size' els _) => if els.length = n ∧ size' = size then some ((els.take hi).drop lo) else none
    | _ => none
  | .asl id off n size => match σ[id]? with
    | some (.var _ cells) => if off + n * size ≤ cells.length then some (chunks n size ((cells.drop off).take (n * size))) else none
    | _ => none
  | _ => none

/-- The n cells at an address. -/
def cellsAt [Globs] (σ : Store) : AV → Nat → Option (List AV)
  | .ptr id off, n => match σ[id]? with
    | some (.var _ cells) => if off + n ≤ cells.length then some ((cells.drop off).take n) else none
    | _ => none
  | .rptr cells, n => if n ≤ cells.length then some (cells.take n) else none
  | .gp g off, n => match Globs.tab.lookup g with
    | some cells => if off + n ≤ cells.length then some ((cells.drop off).take n) else none
    | none => none
  | .rowp id n₀ size k off, n => match σ[id]? with
    | some (.row _ size' els _) => if els.length = n₀ ∧ size' = size ∧ off + n ≤ size then (els[k]?).map fun c => (c.drop off).take n else none
    | _ => none
  | _, _ => none

def splice (cells : List AV) (off : Nat) (vs : List AV) : List AV := cells.take off ++ vs ++ cells.drop (off + vs.length)

def putAt (σ : Store) : AV → List AV → Option Store
  | .ptr id off, vs => match σ[id]? with
    | some (.var t cells) => if off + vs.length ≤ cells.length then some (σ.set id (.var t (splice cells off vs))) else none
    | _ => none
  | .rowp id n₀ size k off, vs => match σ[id]? with
    | some (.row e size' els false) => if els.length = n₀ ∧ size' = size ∧ off + vs.length ≤ size then
        match els[k]? with
        | some c => some (σ.set id (.row e size' (els.set k (splice c off vs)) false))
        | none => none
      else none
    | _ => none
  | _, _ => none

/-- One cell's value, as it may be handed on: an owned slice as a list. -/
def share1 (σ : Store) : AV → Option AV
  | .row id n => match σ[id]? with
    | some (.row _ _ els true) => if els.length = n then some (.lst els) else none
    | _ => none
  | .nils => some (.lst [])
  | v => if v.pure then some v else none
def shareL (σ : Store) (l : List AV) : Option (List AV) := l.mapM (share1 σ)
def share (σ : Store) : AV → Option AV
  | .agg l => (shareL σ l).map AV.agg
  | .tup l => (l.mapM fun
      | AV.agg l => (shareL σ l).map AV.agg
      | v => share1 σ v).map AV.tup
  | v => share1 σ v

/-- The parts of a literal, laid over the zero cells. -/
def lay (cells : List AV) : List (Nat × List AV) → List AV
  | [] => cells
  | (off, vs) :: rest => lay (splice cells off vs) rest

/-- Further operations that only read. -/
inductive XOp where
  | isnil (kind : Nat) (neg : Bool) (x : Opd)
  | tostr (x : Opd)
  | look (kind : Nat) (zero : AV) (ok : Bool) (x k : Opd)
  | mlen (x : Opd)
  | bit (op : BinOp) (x y : Opd)
  | inv (x : Opd)
  | aslc (len size : Nat) (x : Opd) (lo hi : Option Opd)
  deriving Inhabited
/-- Further operations that write or make entries. -/
inductive EOp where
  | mkmap
  | mset (kind : Nat) (x k v : Opd)
  | clr (size : Nat) (zero : List AV) (x : Opd)
  deriving Inhabited

inductive AOp where
  | mv (x : Opd)
  | pick (c a b : Opd)
  | bin (op : BinOp) (x y : Opd)
  | beq (neg : Bool) (x y : Opd)
  | eqs (neg : Bool) (kinds : List Nat) (x y : Opd)
  | not (x : Opd)
  | neg (x : Opd)
  | conv (k : IntKind) (x : Opd)
  | ext (x : Opd) (i : Nat)
  | alloc (t : Nat) (cells : List AV)
  | box (t : Nat) (x : Opd)
  | build (zero : List AV) (parts : List (Nat × Nat × Opd))
  | field (off size : Nat) (ag : Bool) (x : Opd)
  | load (ag : Bool) (size : Nat) (x : Opd)
  | store (size : Nat) (x v : Opd)
  | nilck (x : Opd)
  | faddr (off : Nat) (x : Opd)
  | iaddr (size : Nat) (x i : Opd)
  | aaddr (len size : Nat) (x i : Opd)
  | sidx (x i : Opd)
  | aidx (len size : Nat) (ag : Bool) (x i : Opd)
  | slen (x : Opd)
  | len (x : Opd)
  | sslc (x : Opd) (lo hi : Option Opd)
  | slc (size : Nat) (x : Opd) (lo hi : Option Opd)
  | mkslice (e size bytes : Nat) (zero : List AV) (len cap : Opd)
  | mklst (e size : Nat) (zero : List AV) (n : Nat) (parts : List (Nat × Opd))
  | mkrow (e size : Nat) (zero : List AV) (n : Nat) (parts : List (Nat × Opd))
  | app (e size bytes : Nat) (x y : Opd)
  | apps (e : Nat) (x y : Opd)
  | mm (mx : Bool) (x y : Opd)
  | call (f : FuncId) (args : List Opd)
  | callv (x : Opd) (args : List Opd)
  | qcall (f : FuncId) (args : List Opd)
  | qcallv (x : Opd) (args : List Opd)
  | mkfn (fn : Fn) (first captured : List Opd)
  | mkif (t : TypeId) (x : Opd)
  | tobytes (x : Opd)
  | px (o : XOp)
  | ex (o : EOp)
  | bad
  deriving Inhabited

structure AIns where
  g : Option (Nat × Bool)
  d : Option Nat
  o : AOp
  deriving Inhabited

inductive ACode where
  | skip
  | ops (l : List AIns)
  | all (l : List (List AIns))
  | seq (a b : ACode)
  | cond (c : Opd) (x y : ACode)
  | block (id : Nat) (c : ACode)
  | loop (c : ACode)
  | exit (id : Nat)
  | ret
  | gh
  | bad
  deriving Inhabited

inductive AExit where
  | normal
  | exit (id : Nat)
  | ret

def intCmpB (op : BinOp) (x y : Int) : Option Bool := match op with
  | .eql => some (x == y) | .neq => some (x != y) | .lss => some (decide (x < y)) | .leq => some (decide (x ≤ y)) | .gtr => some (decide (x > y)) | .geq => some (decide (x ≥ y))
  | _ => none

/-- A binary operation on two ints, two texts, or two bools. -/
def abin (op : BinOp) : AV → AV → Option AV
  | .int k a, .int k' b => if k = k' then
      match op with
      | .add => some (.int k (k.wrap (a + b)))
      | .sub => some (.int k (k.wrap (a - b)))
      | .mul => some (.int k (k.wrap (a * b)))
      | .quo => if b = 0 then none else some (.int k (k.wrap (a.tdiv b)))
      | .rem => if b = 0 then none else some (.int k (a.tmod b))
      | op => (intCmpB op a b).map .bool
    else none
  | .str a, .str b => match op with
      | .add => if a.length + b.length ≤ 9223372036854775807 then some (.str (a ++ b)) else none
      | .eql => some (.bool (decide (a = b)))
      | .neq => some (.bool (!decide (a = b)))
      | .lss => some (.bool (Op.bytesLess a b))
      | .leq => some (.bool (Op.bytesLess a b || decide (a = b)))
      | .gtr => some (.bool !(Op.bytesLess a b || decide (a = b)))
      | .geq => some (.bool !(Op.bytesLess a b))
      | _ => none
  | _, _ => none

/-- Equality of one-cell values that are plain: 0: ints, 1: texts, 2: bools. -/
def eq1 : Nat → AV → AV → Option Bool
  | 0, .int k a, .int k' b => if k = k' then some (decide (a = b)) else none
  | 1, .str a, .str b => some (decide (a = b))
  | 2, .bool a, .bool b => some (a == b)
  | _, _, _ => none
def eqAll : List Nat → List AV → List AV → Option Bool
  | [], [], [] => some true
  | k :: ks, a :: l, b :: m => (eq1 k a b).bind fun x => (eqAll ks l m).map fun y => x && y
  | _, _, _ => none

def oneOf (ag : Bool) (l : List AV) : Option AV := if ag then some (.agg l) else match l with
  | [v] => some v
  | _ => none

def natOf : AV → Option Nat
  | .int _ n => if 0 ≤ n then some n.toNat else none
  | _ => none
def bound (v : Option AV) (dflt lim : Nat) : Option Nat := match v with
  | none => some dflt
  | some v => (natOf v).bind fun n => if n ≤ lim then some n else none

/-- Is it nil? 0: an interface, 1: a function, 2: a pointer, 3: a slice, 4: a map. -/
def nilOf : Nat → AV → Option Bool
  | 0, .nili => some true
  | 0, .iface _ _ => some false
  | 1, .nilf => some true
  | 1, .fn _ _ _ => some false
  | 2, .nilp => some true
  | 2, .ptr _ _ => some false
  | 2, .rptr _ => some false
  | 2, .rowp _ _ _ _ _ => some false
  | 2, .gp _ _ => some false
  | 3, .nils => some true
  | 3, .lst (_ :: _) => some false
  | 4, .nilm => some true
  | 4, .map _ => some false
  | _, _ => none
/-- The bytes of a slice's elements. -/
def bytesOf : List (List AV) → Option (List UInt8)
  | [] => some []
  | [.int .u8 n] :: l => (bytesOf l).map (UInt8.ofNat n.toNat :: ·)
  | _ :: _ => none
/-- Where a key stands in a map. -/
def mapFind (kind : Nat) (k : AV) : List (AV × AV) → Nat → Option (Option (Nat × AV))
  | [], _ => some none
  | (k', v) :: l, i => match eq1 kind k k' with
    | some true => some (some (i, v))
    | some false => mapFind kind k l (i + 1)
    | none => none
def bitOp (op : BinOp) (k : IntKind) (a b : Int) : Option Int := match op with
  | .and => some (k.wrap (BitVec.ofInt k.bits a &&& BitVec.ofInt k.bits b).toNat)
  | .or => some (k.wrap (BitVec.ofInt k.bits a ||| BitVec.ofInt k.bits b).toNat)
  | .xor => some (k.wrap (BitVec.ofInt k.bits a ^^^ BitVec.ofInt k.bits b).toNat)
  | .andNot => some (k.wrap (BitVec.ofInt k.bits a &&& ~~~BitVec.ofInt k.bits b).toNat)
  | _ => none
def shiftOp (op : BinOp) (k : IntKind) (a : Int) (n : Nat) : Option Int := match op with
  | .shl => some (k.wrap (a * 2 ^ min n k.bits))
  | .shr => some (a.fdiv (2 ^ min n k.bits))
  | _ => none
def bitStep (op : BinOp) : AV → AV → Option AV
  | .int k a, .int k' b => if op = .shl ∨ op = .shr then (if 0 ≤ b then (shiftOp op k a b.toNat).map (.int k) else none) else if k = k' then (bitOp op k a b).map (.int k) else none
  | _, _ => none
def invStep : AV → Option AV
  | .int k a => (bitOp .xor k (if k.signed then -1 else k.max) a).map (.int k)
  | _ => none
/-- A slice of an array. -/
def aslcStep [Globs] (len size : Nat) (lo hi : Option AV) (X : AV) : Option AV := match X with
  | .ptr id off => (bound hi len len).bind fun h => (bound lo 0 h).map fun l => .asl id (off + l * size) (h - l) size
  | .rptr cells => if len * size ≤ cells.length then (bound hi len len).bind fun h => (bound lo 0 h).map fun l => .lst (((chunks len size (cells.take (len * size))).take h).drop l) else none
  | .gp g off => match Globs.tab.lookup g with
    | some cells => if off + len * size ≤ cells.length then (bound hi len len).bind fun h => (bound lo 0 h).map fun l => .lst (((chunks len size ((cells.drop off).take (len * size))).take h).drop l) else none
    | none => none
  | _ => none
def mapView (σ : Store) : AV → Option (List (AV × AV))
  | .nilm => some []
  | .map id => match σ[id]? with
    | some (.mp kv) => some kv
    | _ => none
  | _ => none
def lookStep (kind : Nat) (zero : AV) (ok : Bool) (k : AV) (kv : List (AV × AV)) : Option AV := (mapFind kind k kv 0).bind fun
  | some (_, v) => some (if ok then .tup [v, .bool true] else v)
  | none => some (if ok then .tup [zero, .bool false] else zero)
def xstep [Globs] (σ : Store) (f : Frame) : XOp → Option AV
  | .isnil kind neg x => (nilOf kind (x.ev f)).map fun b => .bool (if neg then !b else b)
  | .tostr x => ((view σ (x.ev f)).bind bytesOf).map .str
  | .look kind zero ok x k => (mapView σ (x.ev f)).bind (lookStep kind zero ok (k.ev f))
  | .mlen x => (mapView σ (x.ev f)).map fun kv => .int .i64 kv.length
  | .bit op x y => bitStep op (x.ev f) (y.ev f)
  | .inv x => invStep (x.ev f)
  | .aslc len size x lo hi => aslcStep len size (lo.map (·.ev f)) (hi.map (·.ev f)) (x.ev f)
def mapPut (kind : Nat) (k v : AV) (kv : List (AV × AV)) : Option (List (AV × AV)) := (mapFind kind k kv 0).map fun
  | some (i, _) => kv.set i (k, v)
  | none => kv ++ [(k, v)]
/-- A slice whose elements are all made zero. -/
def clrAt (σ : Store) (size : Nat) (zero : List AV) : AV → Option Store
  | .nils | .lst [] => some σ
  | .row id n => match σ[id]? with
    | some (.row e size' els false) => if els.length = n ∧ size' = size then some (σ.set id (.row e size' (List.replicate n zero) false)) else none
    | _ => none
  | .sub id n sz lo hi => match σ[id]? with
    | some (.row e size' els false) => if els.length = n ∧ size' = size ∧ sz = size ∧ lo ≤ hi ∧ hi ≤ n then some (σ.set id (.row e size' (els.take lo ++ List.replicate (hi - lo) zero ++ els.drop hi) false)) else none
    | _ => none
  | _ => none
def EStep (σ : Store) (f : Frame) (r : AV) (σ' : Store) : EOp → Prop
  | .mkmap => r = .map σ.length ∧ σ' = σ ++ [.mp []]
  | .mset kind x k v => r = .junk ∧ ∃ id kv kv', x.ev f = .map id ∧ σ[id]? = some (.mp kv) ∧ (k.ev f).pure = true ∧ mapPut kind (k.ev f) (v.ev f) kv = some kv' ∧ σ' = σ.set id (.mp kv')
  | .clr size zero x => r = .tup [] ∧ clrAt σ size zero (x.ev f) = some σ'
def bytesStep : AV → Option AV
  | .str l => if l.length ≤ 140737488355328 then some (.lst (l.map fun b => [.int .u8 b.toNat])) else none
  | _ => none

/-- What an operation yields that only reads. -/
def pstep [Globs] (σ : Store) (f : Frame) : AOp → Option AV
  | .mv x => some (x.ev f)
  | .pick c a b => match c.ev f with
    | .bool c => some (if c then a.ev f else b.ev f)
    | _ => none
  | .bin op x y => abin op (x.ev f) (y.ev f)
  | .beq neg x y => match x.ev f, y.ev f with
    | .bool a, .bool b => some (.bool (if neg then a != b else a == b))
    | _, _ => none
  | .eqs neg ks x y => match x.ev f, y.ev f with
    | .agg l, .agg m => (eqAll ks l m).map fun b => .bool (if neg then !b else b)
    | _, _ => none
  | .not x => match x.ev f with
    | .bool b => some (.bool !b)
    | _ => none
  | .neg x => match x.ev f with
    | .int k n => some (.int k (k.wrap (0 - n)))
    | _ => none
  | .conv k x => match x.ev f with
    | .int _ n => some (.int k (k.wrap n))
    | _ => none
  | .ext x i => match x.ev f with
    | .tup l => l[i]?
    | _ => none
  | .build zero parts => (parts.mapM fun (p : Nat × Nat × Opd) => if (p.2.2.ev f).cells.length = p.2.1 ∧ (p.2.2.ev f).cells.all AV.one then some (p.1, (p.2.2.ev f).cells) else none).map fun l => .agg (lay zero l)
  | .field off size ag x => match x.ev f with
    | .agg l => if off + size ≤ l.length then oneOf ag ((l.drop off).take size) else none
    | _ => none
  | .load ag size x => (cellsAt σ (x.ev f) size).bind (oneOf ag)
  | .nilck x => match x.ev f with
    | .ptr id off => some (.ptr id off)
    | .rptr l => some (.rptr l)
    | .rowp a b c d e => some (.rowp a b c d e)
    | .gp a b => some (.gp a b)
    | .fn (.func g) a b => some (.fn (.func g) a b)
    | _ => none
  | .faddr off x => match x.ev f with
    | .ptr id o => some (.ptr id (o + off))
    | .rptr l => if off ≤ l.length then some (.rptr (l.drop off)) else none
    | .rowp id n size k o => some (.rowp id n size k (o + off))
    | .gp g o => some (.gp g (o + off))
    | _ => none
  | .iaddr size x i => match natOf (i.ev f), x.ev f with
    | some i, .lst l => (l[i]?).bind fun c => if c.length = size then some (.rptr c) else none
    | some i, .row id n => match σ[id]? with
      | some (.row _ size' els _) => if els.length = n ∧ size' = size ∧ i < n then some (.rowp id n size i 0) else none
      | _ => none
    | some i, .sub id n sz lo hi => if sz = size ∧ lo + i < hi then some (.rowp id n size (lo + i) 0) else none
    | some i, .asl id off n sz => if sz = size ∧ i < n then some (.ptr id (off + i * size)) else none
    | _, _ => none
  | .aaddr len size x i => match natOf (i.ev f), x.ev f with
    | some i, .ptr id o => if i < len then some (.ptr id (o + i * size)) else none
    | some i, .rptr l => if i < len ∧ i * size ≤ l.length then some (.rptr (l.drop (i * size))) else none
    | some i, .rowp id n s k o => if i < len then some (.rowp id n s k (o + i * size)) else none
    | some i, .gp g o => if i < len then some (.gp g (o + i * size)) else none
    | _, _ => none
  | .sidx x i => match natOf (i.ev f), x.ev f with
    | some i, .str l => (l[i]?).map fun b => .int .u8 b.toNat
    | _, _ => none
  | .aidx len size ag x i => match natOf (i.ev f), x.ev f with
    | some i, .agg l => if i < len ∧ i * size + size ≤ l.length then oneOf ag ((l.drop (i * size)).take size) else none
    | _, _ => none
  | .slen x => match x.ev f with
    | .str l => some (.int .i64 l.length)
    | _ => none
  | .len x => (view σ (x.ev f)).map fun l => .int .i64 l.length
  | .sslc x lo hi => match x.ev f with
    | .str l => (bound (hi.map (·.ev f)) l.length l.length).bind fun h => (bound (lo.map (·.ev f)) 0 h).map fun lo => .str ((l.take h).drop lo)
    | _ => none
  | .slc size x lo hi => match x.ev f with
    | .nils => (bound (hi.map (·.ev f)) 0 0).bind fun h => (bound (lo.map (·.ev f)) 0 h).map fun _ => .nils
    | .lst l => if ∀ c ∈ l, c.length = size then (bound (hi.map (·.ev f)) l.length l.length).bind fun h => (bound (lo.map (·.ev f)) 0 h).map fun lo => .lst ((l.take h).drop lo) else none
    | .row id n => match σ[id]? with
      | some (.row _ size' els true) => if els.length = n ∧ size' = size then (bound (hi.map (·.ev f)) n n).bind fun h => (bound (lo.map (·.ev f)) 0 h).map fun lo => .lst ((els.take h).drop lo) else none
      | some (.row _ size' els false) => if els.length = n ∧ size' = size ∧ 0 < n then (bound (hi.map (·.ev f)) n n).bind fun h => (bound (lo.map (·.ev f)) 0 h).map fun lo => .sub id n size lo h else none
      | _ => none
    | .sub id n sz l0 h0 => if sz = size then (bound (hi.map (·.ev f)) (h0 - l0) (h0 - l0)).bind fun h => (bound (lo.map (·.ev f)) 0 h).map fun lo => .sub id n size (l0 + lo) (l0 + h) else none
    | .asl id off n sz => if sz = size then (bound (hi.map (·.ev f)) n n).bind fun h => (bound (lo.map (·.ev f)) 0 h).map fun lo => .asl id (off + lo * size) (h - lo) size else none
    | _ => none
  | .mm mx x y => match x.ev f, y.ev f with
    | .int k a, .int k' b => if k = k' then some (.int k (if mx then (if a < b then b else a) else (if b < a then b else a))) else none
    | _, _ => none
  | .mkfn fn first captured => some (.fn fn (first.map (·.ev f)) (captured.map (·.ev f)))
  | .mkif t x => some (.iface t (x.ev f))
  | .px o => xstep σ f o
  | _ => none

end Go.Abs
