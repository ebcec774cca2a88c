/- Abstract machine, part 4: from the program's code to the abstract code. -/
import Derived.Test.YtkclehdmdnfikaaDoorAbsC
set_option linter.unusedSimpArgs false
set_option linter.unusedVariables false
set_option linter.constructorNameAsVariable false
namespace Go.Abs
open Go.RowKit

def const1 : Value → Option AV
  | .int k n => some (.int k n)
  | .bool b => some (.bool b)
  | .float k b => some (.flt k b)
  | .string s => some (.str s.data.toList)
  | .pointer none => some .nilp
  | .slice none 0 0 => some .nils
  | .map none => some .nilm
  | .nilFunc => some .nilf
  | .nilIface => some .nili
  | _ => none
def constAV : Value → Option AV
  | .agg cs => (cs.toList.mapM const1).map .agg
  | v => const1 v

def opd : Operand → Option Opd
  | .tmp t => some (.s t)
  | .const v => (constAV v).map .c
  | .func f => some (.c (.fn (.func f) [] []))
  | .global g => some (.c (.gp g 0))

def zeroOf (P : Program) (t : TypeId) : Option (List AV) := do
  let i ← P.info? t
  let z ← i.zero
  z.cells.toList.mapM const1

def aggOf (P : Program) (t : TypeId) : Option Bool := match P.underlying t with
  | some (.struct _) | some (.array _ _) => some true
  | some _ => some false
  | none => none

def sizeOf? (P : Program) (t : TypeId) : Option Nat := (P.info? t).map (·.size)

/-- Struct types whose parts are ints (0), texts (1) and bools (2), one behind the other. -/
def kindsFrom (P : Program) : Nat → List Field → Option (List Nat)
  | _, [] => some []
  | i, f :: fs => if f.name ≠ "_" ∧ f.offset = i then
      match P.underlying f.type with
      | some (.int _) => (kindsFrom P (i + 1) fs).map (0 :: ·)
      | some .string => (kindsFrom P (i + 1) fs).map (1 :: ·)
      | some .bool => (kindsFrom P (i + 1) fs).map (2 :: ·)
      | _ => none
    else none
def flatKinds (P : Program) (t : TypeId) : Option (List Nat) := match P.underlying t with
  | some (.struct fs) => if P.stoodInHeld t = false ∧ P.eqGuardType P.depth t = false then kindsFrom P 0 fs.toList else none
  | _ => none

def compBuiltin (P : Program) (b : Builtin) (ts : List TypeId) (args : List Opd) : Option AOp :=
  match b, ts, args with
  | .len, [t], [x] => match P.underlying t with
    | some .string => some (.slen x)
    | some (.slice _) => some (.len x)
    | some (.array n _) => some (.mv (.c (.int .i64 n)))
    | _ => none
  | .min, [_, _], [x, y] => some (.mm false x y)
  | .max, [_, _], [x, y] => some (.mm true x y)
  | .append, [s, t], [x, y] => if s = t then match P.underlying s with
    | some (.slice e) => match P.info? e with
      | some i => match i.zero with
        | some z => if z.cells.size = i.size ∧ 0 < i.size then some (.app e i.size i.bytes x y) else none
        | none => none
      | none => none
    | _ => none
    else match P.underlying s, P.underlying t with
      | some (.slice e), some .string => match P.info? e with
        | some i => match i.zero with
          | some (.int .u8 0) => if i.size = 1 ∧ i.bytes = 1 then some (.apps e x y) else none
          | _ => none
        | none => none
      | _, _ => none
  | _, _, _ => none

def compPart (n : Nat) (place : Nat → Option (Nat × Nat)) (p : Nat × Operand) : Option (Nat × Nat × Opd) :=
  match place p.1, opd p.2 with
  | some (off, s), some x => if off + s ≤ n then some (off, s, x) else none
  | _, _ => none
def compElem (len : Nat) (p : Nat × Operand) : Option (Nat × Opd) :=
  match opd p.2 with
  | some x => if p.1 < len then some (p.1, x) else none
  | none => none

def compOp0 (P : Program) (o : Oper) : Option AOp :=
  match o.op with
  | .move x | .assign x => (opd x).map .mv
  | .pick c a b => do return .pick (← opd c) (← opd a) (← opd b)
  | .alloc t => (zeroOf P t).map (.alloc t)
  | .box t x => (opd x).map (.box t)
  | .build t parts => match P.underlying t with
    | some (.struct fs) => do
      let z ← zeroOf P t
      let places ← fs.toList.mapM (fun f => (P.info? f.type).map fun i => (f.offset, i.size))
      let ps ← parts.toList.mapM (compPart z.length fun i => places.toArray[i]?)
      return .build z ps
    | some (.array _ e) => do
      let z ← zeroOf P t
      let s ← sizeOf? P e
      let ps ← parts.toList.mapM (compPart z.length fun i => some (i * s, s))
      return .build z ps
    | _ => none
  | .buildSlice t len parts => match P.underlying t with
    | some (.slice e) => do
      let s ← sizeOf? P e
      let z ← zeroOf P e
      if len * s ≤ 16777216 ∧ z.length = s ∧ 0 < s then do
        let ps ← parts.toList.mapM (compElem len)
        return .mklst e s z len ps
      else none
    | _ => none
  | .load t x => do return .load (← aggOf P t) (← sizeOf? P t) (← opd x)
  | .store t x v => do return .store (← sizeOf? P t) (← opd x) (← opd v)
  | .nilCheck x => (opd x).map .nilck
  | .binOp op t x y _ => match P.underlying t with
    | some .bool => match op with
      | .eql => do return .beq false (← opd x) (← opd y)
      | .neq => do return .beq true (← opd x) (← opd y)
      | _ => none
    | some (.int _) | some .string => match op with
      | .add | .sub | .mul | .quo | .rem | .eql | .neq | .lss | .leq | .gtr | .geq => do return .bin op (← opd x) (← opd y)
      | _ => none
    | _ => match op with
      | .eql => do return .eqs false (← flatKinds P t) (← opd x) (← opd y)
      | .neq => do return .eqs true (← flatKinds P t) (← opd x) (← opd y)
      | _ => none
  | .unOp .not _ x => (opd x).map .not
  | .unOp .neg _ x => (opd x).map .neg
  | .convert s t x => match P.underlying s, P.underlying t with
    | some (.int _), some (.int k) => (opd x).map (.conv k)
    | _, _ => none
  | .makeInterface t x => match P.underlying t with
    | some (.interface _) => none
    | some _ => (opd x).map (.mkif t)
    | none => none
  | .makeFunc fn first captured => do return .mkfn fn (← first.toList.mapM opd) (← captured.toList.mapM opd)
  | .makeSlice t l c => match P.underlying t with
    | some (.slice e) => do
      let i ← P.info? e
      let z ← zeroOf P e
      if z.length = i.size ∧ 0 < i.size then return .mkslice e i.size i.bytes z (← opd l) (← opd c) else none
    | _ => none
  | .slice t x lo hi none => match P.underlying t with
    | some .string => do return .sslc (← opd x) (← lo.mapM opd) (← hi.mapM opd)
    | some (.slice e) => do return .slc (← sizeOf? P e) (← opd x) (← lo.mapM opd) (← hi.mapM opd)
    | _ => none
  | .fieldAddr t x i => match P.underlying t with
    | some (.struct fs) => do
      let f ← fs[i]?
      let s ← sizeOf? P f.type
      if s = 0 then none else return .faddr f.offset (← opd x)
    | _ => none
  | .field t x i => match P.underlying t with
    | some (.struct fs) => do
      let f ← fs[i]?
      return .field f.offset (← sizeOf? P f.type) (← aggOf P f.type) (← opd x)
    | _ => none
  | .indexAddr t x i => match P.underlying t with
    | some (.slice e) => do return .iaddr (← sizeOf? P e) (← opd x) (← opd i)
    | some (.array n e) => do return .aaddr n (← sizeOf? P e) (← opd x) (← opd i)
    | _ => none
  | .index t x i => match P.underlying t with
    | some .string => do return .sidx (← opd x) (← opd i)
    | some (.array n e) => do return .aidx n (← sizeOf? P e) (← aggOf P e) (← opd x) (← opd i)
    | _ => none
  | .extract x i => do return .ext (← opd x) i
  | .call c => match c.callee with
    | .value (.func f) => match P.funcs[f]? with
      | some _ => if hasBody P f then do return .call f (← c.args.toList.mapM opd) else none
      | none => none
    | .value (.tmp t) => do return .callv (.s t) (← c.args.toList.mapM opd)
    | .builtin b => do compBuiltin P b c.argTypes.toList (← c.args.toList.mapM opd)
    | _ => none
  | _ => none

/-- Is a comparison one with nil? What is it (as in nilOf), is it 'not equal', and which side is asked? -/
def nilSide (P : Program) (op : BinOp) (t : TypeId) (x y : Operand) : Option (Nat × Bool × Operand) :=
  match op with
  | .eql | .neq => match P.underlying t, y with
    | some (.interface _), .const .nilIface => some (0, op == .neq, x)
    | some (.func _ _ _), .const .nilFunc => some (1, op == .neq, x)
    | some (.pointer _), .const (.pointer none) => some (2, op == .neq, x)
    | some (.slice _), .const (.slice none 0 0) => some (3, op == .neq, x)
    | some (.map _ _), .const (.map none) => some (4, op == .neq, x)
    | _, _ => none
  | _ => none
/-- The kind of a map's keys: ints (0), texts (1), bools (2). -/
def keyKind (P : Program) (t : TypeId) : Option Nat := match P.underlying t with
  | some (.int _) => some 0
  | some .string => some 1
  | some .bool => some 2
  | _ => none
def compX (P : Program) (o : Oper) : Option AOp :=
  match o.op with
  | .binOp op t x y _ => match nilSide P op t x y with
    | some (k, n, z) => (opd z).map fun z => .px (.isnil k n z)
    | none => match P.underlying t with
      | some (.int _) => match op with
        | .and | .or | .xor | .andNot | .shl | .shr => do return .px (.bit op (← opd x) (← opd y))
        | _ => none
      | _ => none
  | .unOp .xor _ x => (opd x).map fun x => .px (.inv x)
  | .convert s t x => match P.underlying s, P.underlying t with
    | some .string, some (.slice e) => match P.underlying e with
      | some (.int .u8) => (opd x).map .tobytes
      | _ => none
    | some (.slice e), some .string => match P.underlying e, P.info? e with
      | some (.int .u8), some i => if i.size = 1 then (opd x).map fun x => .px (.tostr x) else none
      | _, _ => none
    | _, _ => none
  | .slice t x lo hi none => match P.underlying t with
    | some (.array n e) => do
      let sz ← sizeOf? P e
      if 0 < sz ∧ n ≤ 16777216 then return .px (.aslc n sz (← opd x) (← lo.mapM opd) (← hi.mapM opd)) else none
    | _ => none
  | .makeMap _ none => some (.ex .mkmap)
  | .mapUpdate t m k x | .insert t m k x => match P.underlying t with
    | some (.map kt _) => do return .ex (.mset (← keyKind P kt) (← opd m) (← opd k) (← opd x))
    | _ => none
  | .lookup t x k ok => match P.underlying t with
    | some (.map kt e) => do return .px (.look (← keyKind P kt) (← constAV (← (← P.info? e).zero)) ok (← opd x) (← opd k))
    | _ => none
  | .call c => match c.callee with
    | .builtin .len => match c.argTypes.toList, c.args.toList with
      | [t], [x] => match P.underlying t with
        | some (.map _ _) => (opd x).map fun x => .px (.mlen x)
        | _ => none
      | _, _ => none
    | .builtin .clear => match c.argTypes.toList, c.args.toList with
      | [t], [x] => match P.underlying t with
        | some (.slice e) => do
          let i ← P.info? e
          let z ← zeroOf P e
          if z.length = i.size ∧ 0 < i.size then return .ex (.clr i.size z (← opd x)) else none
        | _ => none
      | _, _ => none
    | _ => none
  | _ => none
def compOp (P : Program) (o : Oper) : Option AOp := match compOp0 P o with
  | some a => some a
  | none => compX P o

def dstOK (N : Nat) : Option Tmp → Bool
  | some d => decide (d < N)
  | none => true
def compIns (P : Program) (N : Nat) (ops : Array Oper) (o : Oper) : AIns :=
  let bad : AIns := ⟨none, none, .bad⟩
  if dstOK N o.dst then
    match compOp P o with
    | none => bad
    | some a => match o.guard with
      | none => ⟨none, o.dst, a⟩
      | some (j, b) => match (ops[j]?).bind (·.dst) with
        | some t => ⟨some (t, b), o.dst, a⟩
        | none => bad
  else bad

/-- Operations that leave the store as it is. -/
def AOp.neutral : AOp → Bool
  | .alloc .. | .box .. | .store .. | .mkslice .. | .mkrow .. | .app .. | .apps .. | .bad | .call .. | .callv .. | .ex _ => false
  | _ => true
/-- .. and do not look at it. -/
def AOp.blind : AOp → Bool
  | .alloc .. | .box .. | .store .. | .mkslice .. | .mkrow .. | .app .. | .apps .. | .bad | .call .. | .callv .. | .qcall .. | .qcallv .. | .load .. | .len .. | .iaddr .. | .slc .. | .mklst .. | .ex _ | .px (.tostr _) | .px (.look ..) | .px (.mlen _) => false
  | _ => true
/-- Operations that make a new entry. -/
def AOp.makes : AOp → Bool
  | .alloc .. | .box .. | .mkslice .. | .mkrow .. | .ex .mkmap => true
  | _ => false

def Opd.slots : Opd → List Nat
  | .s t => [t]
  | .c _ => []
def XOp.reads : XOp → List Nat
  | .isnil _ _ x | .tostr x | .mlen x | .inv x => x.slots
  | .look _ _ _ x y | .bit _ x y => x.slots ++ y.slots
  | .aslc _ _ x lo hi => x.slots ++ (lo.toList.flatMap Opd.slots) ++ (hi.toList.flatMap Opd.slots)
def EOp.reads : EOp → List Nat
  | .mkmap => []
  | .mset _ x k v => x.slots ++ k.slots ++ v.slots
  | .clr _ _ x => x.slots
def AOp.reads : AOp → List Nat
  | .px o => o.reads
  | .ex o => o.reads
  | .tobytes x => x.slots
  | .mv x | .not x | .neg x | .conv _ x | .ext x _ | .box _ x | .field _ _ _ x | .load _ _ x | .nilck x | .faddr _ x | .slen x | .len x | .mkif _ x => x.slots
  | .pick a b c => a.slots ++ b.slots ++ c.slots
  | .bin _ x y | .beq _ x y | .eqs _ _ x y | .store _ x y | .iaddr _ x y | .aaddr _ _ x y | .sidx x y | .aidx _ _ _ x y | .mkslice _ _ _ _ x y | .app _ _ _ x y | .apps _ x y | .mm _ x y => x.slots ++ y.slots
  | .alloc _ _ | .bad => []
  | .build _ ps => ps.flatMap fun p => p.2.2.slots
  | .sslc x lo hi | .slc _ x lo hi => x.slots ++ (lo.toList.flatMap Opd.slots) ++ (hi.toList.flatMap Opd.slots)
  | .mklst _ _ _ _ ps | .mkrow _ _ _ _ ps => ps.flatMap fun p => p.2.slots
  | .call _ l | .qcall _ l => l.flatMap Opd.slots
  | .callv x l | .qcallv x l => x.slots ++ l.flatMap Opd.slots
  | .mkfn _ l m => l.flatMap Opd.slots ++ m.flatMap Opd.slots
def AIns.reads (i : AIns) : List Nat := (match i.g with | some (t, _) => [t] | none => []) ++ i.o.reads

/-- May i come ahead of j, that stands ahead of it in the canonical order? -/
def commOK (j i : AIns) : Bool :=
  j.o.neutral &&
  (match j.d with | some d => !i.reads.contains d && i.d != some d | none => true) &&
  (match i.d with | some d => !j.reads.contains d | none => true) &&
  (j.o.blind || i.o.neutral || i.o.makes)

def depsOf (ops : Array Oper) (i : Nat) : List Nat := match ops[i]? with
  | some o => (o.after.toList.filter (Region.binds .any)).map (·.on)
  | none => []
def reach (ops : Array Oper) (j : Nat) : Nat → Nat → Bool
  | 0, _ => false
  | n + 1, i => (depsOf ops i).contains j || (depsOf ops i).any fun k => reach ops j n k

def depsOK (ops : Array Oper) (j : Nat) : Bool := (depsOf ops j).all fun k => k != j && decide (k < ops.size)

def quietOp (loud : List FuncId) : AOp → AOp
  | .call f args => if loud.contains f then .call f args else .qcall f args
  | .callv x args => .qcallv x args
  | o => o
def quieten (loud : List FuncId) (i : AIns) : AIns := { i with o := quietOp loud i.o }
/-- In some functions (those whose number, and a million, stands among 'loud': so 999999 does) a literal of a slice is the call's own. -/
def ownOp (loud : List FuncId) : AOp → AOp
  | .mklst e s z n ps => if loud.contains 999999 then .mkrow e s z n ps else .mklst e s z n ps
  | o => o
def owned (loud : List FuncId) (i : AIns) : AIns := { i with o := ownOp loud i.o }

/-- Pairs that stand in no order and do not commute: each is put in an order of its own, either way ('E': the edges). -/
def pairOKE (E : List (Nat × Nat)) (L : List AIns) (ops : Array Oper) (j i : Nat) : Bool :=
  !(depsOf ops j).contains i && !E.contains (i, j) && ((match L[j]?, L[i]? with | some x, some y => commOK x y | _, _ => false) || E.contains (j, i) || reach ops j ops.size i)
def pairsOKE (E : List (Nat × Nat)) (L : List AIns) (ops : Array Oper) : List Nat → Bool
  | [] => true
  | j :: rest => (rest.all fun i => pairOKE E L ops j i) && pairsOKE E L ops rest
def clashes (L : List AIns) (ops : Array Oper) : List (Nat × Nat) :=
  (List.range ops.size).flatMap fun i => (List.range i).filterMap fun j =>
    if (match L[j]?, L[i]? with | some x, some y => commOK x y || commOK y x | _, _ => false) || reach ops j ops.size i || reach ops i ops.size j then none else some (j, i)
def edges : List (Nat × Nat) → List Bool → List (Nat × Nat)
  | p :: ps, b :: bs => (if b then p else (p.2, p.1)) :: edges ps bs
  | _, _ => []
def bitLists : Nat → List (List Bool)
  | 0 => [[]]
  | n + 1 => (bitLists n).flatMap fun l => [true :: l, false :: l]
def pickNextE (E : List (Nat × Nat)) (L : List AIns) (ops : Array Oper) (left : List Nat) : Option Nat :=
  let ready := left.filter fun i => ((depsOf ops i).all fun k => !left.contains k) && (E.all fun e => e.2 != i || !left.contains e.1)
  match ready.find? fun i => (match L[i]? with | some x => x.o.neutral | none => false) with
  | some i => some i
  | none => ready.head?
def canonE (E : List (Nat × Nat)) (L : List AIns) (ops : Array Oper) : Nat → List Nat → List Nat
  | 0, _ => []
  | n + 1, left => match pickNextE E L ops left with
    | some i => i :: canonE E L ops n (left.filter (· != i))
    | none => []
def checkOrder (E : List (Nat × Nat)) (L : List AIns) (ops : Array Oper) (order : List Nat) : Option (List Nat) :=
  if order.length = ops.size ∧ ((List.range ops.size).all fun i => order.contains i) ∧ order.Nodup ∧ (order.all fun i => decide (i < ops.size) && depsOK ops i) ∧ pairsOKE E L ops order then some order else none
/-- Hands on a list whose spine is reckoned out. -/
def forceL {α β : Type} : List α → (List α → β) → β
  | [], k => k []
  | x :: l, k => forceL l fun l => k (x :: l)
theorem forceL_eq {α β : Type} : ∀ (l : List α) (k : List α → β), forceL l k = k l
  | [], _ => rfl
  | x :: l, k => by rw [forceL, forceL_eq]
def orderOf (L : List AIns) (ops : Array Oper) (E : List (Nat × Nat)) : Option (List Nat) :=
  forceL E fun E => forceL (canonE E L ops ops.size (List.range ops.size)) fun o => checkOrder E L ops o
def drawOrders (L : List AIns) (ops : Array Oper) (C : List (Nat × Nat)) : Option (List (List Nat)) :=
  if (C.all fun p => p.1 != p.2) ∧ C.length ≤ 6 then (bitLists C.length).mapM fun b => orderOf L ops (edges C b) else none

/-- 'loud': the functions whose calls may touch entries of the store. -/
def compRegion (P : Program) (N : Nat) (loud : List FuncId) (ops : Array Oper) (draw : Bool) : ACode :=
  let l := ops.toList.map (fun o => owned loud (compIns P N ops o))
  if !draw then .ops l
  else
    let L := l.map (quieten loud)
    match forceL (clashes L ops) (drawOrders L ops) with
    | some [order] => .ops (order.filterMap fun i => L[i]?)
    | some orders => .all (orders.map fun order => order.filterMap fun i => L[i]?)
    | none => .bad

/-- Does code begin with a region that slices? -/
def slices : Code → Bool
  | .region _ ops _ => ops.any fun o => match o.op with | .slice .. => true | _ => false
  | .seq a _ => slices a
  | _ => false

def comp (P : Program) (N : Nat) (loud : List FuncId) : Code → ACode
  | .skip => .skip
  | .region _ ops draw => compRegion P N loud ops draw
  | .seq a b => if loud.contains 999998 && slices b then .seq (comp P N loud a) (.seq .gh (comp P N loud b)) else .seq (comp P N loud a) (comp P N loud b)
  | .cond c x y => match opd c with
    | some c => .cond c (comp P N loud x) (comp P N loud y)
    | none => .bad
  | .block id c => .block id (comp P N loud c)
  | .loop c => .loop (comp P N loud c)
  | .exit id => .exit id
  | .scope c => comp P N loud c
  | .label _ => .skip
  | .ret => .ret
  | _ => .bad

def ghosts (l : List Nat) (b : Bool) : List Nat := if b then 999998 :: l else l

/-- A function: its slots, its results, its code. -/
structure AFunc where
  n : Nat
  res : List (Nat × Option (Bool × Nat))
  code : ACode

def compRes (P : Program) : ResultVar → Option (Nat × Option (Bool × Nat))
  | .tmp t => some (t, none)
  | .cell a t => do return (a, some (← aggOf P t, ← sizeOf? P t))

def compFn (P : Program) (loud : List FuncId) (f : FuncId) : Option AFunc := do
  let fn ← P.funcs[f]?
  let c ← fn.body
  let rs ← fn.results.toList.mapM (compRes P)
  return ⟨fn.ntmps, rs, comp P fn.ntmps (ghosts (if loud.contains (1000000 + f) then 999999 :: loud else loud) (loud.contains (2000000 + f))) c⟩
end Go.Abs
