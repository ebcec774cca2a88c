/- Abstract machine, part 3: how a store lies in a world; calls; what a piece of code asks for. -/
import Derived.Test.YtkclehdmdnfikaaDoorAbsB
set_option linter.unusedSimpArgs false
set_option linter.unusedVariables false
set_option linter.constructorNameAsVariable false
namespace Go.Abs
open Go.RowKit

abbrev Key := Nat → Nat → Option Value

def VRL (κ : Key) (Im : Addr → Prop) (w : World) (as : List AV) (vs : List Value) : Prop := as.length = vs.length ∧ ∀ j (h : j < as.length) (h' : j < vs.length), VR κ Im w (as[j]) (vs[j])

def IRL (Im : Addr → Prop) (w : World) (as : List AV) (vs : List Value) : Prop := as.length = vs.length ∧ ∀ j (h : j < as.length) (h' : j < vs.length), IR Im w (as[j]) (vs[j])

/-- The block in which an entry lies. -/
def Entry.block (κ : Key) (id : Nat) : Entry → Option Nat
  | .dead _ => none
  | .var _ _ => match κ id 0 with
    | some (.pointer (some a)) => some a.block
    | _ => none
  | .row _ _ els _ => (κ id els.length).bind Value.ownBlock
  | .mp _ => match κ id 0 with
    | some (.map (some b)) => some b
    | _ => none

def EOK (κ : Key) (Im : Addr → Prop) (base : Nat) (w : World) (id : Nat) : Entry → Prop
  | .dead _ => True
  | .var t cells => ∃ b cs, κ id 0 = some (.pointer (some ⟨b, 0, none⟩)) ∧ base ≤ b ∧ w.heap[b]? = some (.cells cs t (0, 0)) ∧ VRL κ Im w cells cs.toList ∧ (∀ c ∈ cells, c.one = true) ∧ ∀ a, Im a → a.block ≠ b
  | .row e size els im => ∃ v xs, κ id els.length = some v ∧ w.ownsRow base e size v els.length xs ∧ VRL κ Im w els.flatten xs ∧ 0 < size ∧ (∀ c ∈ els, c.length = size) ∧ (∀ c ∈ els, ∀ x ∈ c, x.one = true) ∧ (im = true → IRL Im w els.flatten xs) ∧
      ∀ g, v.ownBlock = some g → (∀ a, Im a → a.block = g → im = true ∧ a.off < els.length * size) ∧ (im = true → ∀ o, o < els.length * size → Im ⟨g, o, none⟩)
  | .mp kv => ∃ b es clock, κ id 0 = some (.map (some b)) ∧ base ≤ b ∧ w.heap[b]? = some (.map es clock) ∧ es.size = kv.length ∧ (∀ j (h : j < kv.length) (h' : j < es.size), IR Im w (kv[j]).1 (es[j]).key ∧ VR κ Im w (kv[j]).2 (es[j]).val) ∧ ∀ a, Im a → a.block ≠ b

/-- How often an owned slice has grown, told by its length. -/
def Entry.ver : Entry → Nat
  | .row _ _ els _ => els.length
  | .dead n => n
  | _ => 0

/-- What the package's variables hold that are never written: they lie below 'base'. -/
def GOK [Globs] (base : Nat) (Im : Addr → Prop) (w : World) : Prop := ∀ p ∈ Globs.tab, p.1 < base ∧ (∃ cs t fz, w.heap[p.1]? = some (.cells cs t fz) ∧ cs.size = p.2.length) ∧ IR Im w (.rptr p.2) (.pointer (some ⟨p.1, 0, none⟩))
theorem GOK.mono {G : Globs} {base base' : Nat} {Im Im' : Addr → Prop} {w w' : World} (h : GOK base Im w) (hb : base ≤ base') (hIm : ∀ a, Im a → Im' a) (hc : ∀ a, Im a → w'.cell? a = w.cell? a) (hh : ∀ k, k < base → w'.heap[k]? = w.heap[k]?) : GOK base' Im' w' := fun p hp => by
  obtain ⟨h1, ⟨cs, t, fz, h2, h3⟩, h4⟩ := h p hp
  exact ⟨Nat.lt_of_lt_of_le h1 hb, ⟨cs, t, fz, (hh _ h1).trans h2, h3⟩, h4.mono hIm hc⟩

/-- The store σ lies in the world w. 'base': blocks below it are never written. -/
structure SRel [Globs] (base : Nat) (κ : Key) (Im : Addr → Prop) (σ : Store) (w : World) : Prop where
  hb : base ≤ w.heap.size
  dom : ∀ id n v, κ id n = some v → ∃ e, σ[id]? = some e ∧ n ≤ e.ver
  ent : ∀ id e, σ[id]? = some e → EOK κ Im base w id e
  sep : ∀ (i j : Nat) (e e' : Entry) (b : Nat), i ≠ j → σ[i]? = some e → σ[j]? = some e' → e.block κ i = some b → e'.block κ j ≠ some b
  imlt : ∀ a, Im a → a.block < w.heap.size ∧ a.spot = none
  glob : GOK base Im w

structure Grow (base : Nat) (κ : Key) (Im : Addr → Prop) (w : World) (κ' : Key) (Im' : Addr → Prop) (w' : World) : Prop where
  kap : ∀ i n v, κ i n = some v → κ' i n = some v
  im : ∀ a, Im a → Im' a
  cell : ∀ a, Im a → w'.cell? a = w.cell? a
  new : ∀ a, Im' a → Im a ∨ base ≤ a.block
  below : Below base w w'

theorem Grow.refl (base : Nat) (κ : Key) (Im : Addr → Prop) (w : World) : Grow base κ Im w κ Im w := ⟨fun _ _ _ h => h, fun _ h => h, fun _ _ => rfl, fun _ h => .inl h, Below.refl _ _⟩
theorem Grow.trans {base : Nat} {κ κ' κ'' : Key} {Im Im' Im'' : Addr → Prop} {w w' w'' : World} (h : Grow base κ Im w κ' Im' w') (h' : Grow base κ' Im' w' κ'' Im'' w'') : Grow base κ Im w κ'' Im'' w'' :=
  ⟨fun i n v hh => h'.kap _ _ _ (h.kap _ _ _ hh), fun a hh => h'.im _ (h.im _ hh), fun a hh => (h'.cell _ (h.im _ hh)).trans (h.cell _ hh),
   fun a hh => (h'.new a hh).elim (fun x => h.new a x) .inr, h.below.trans h'.below⟩
theorem VR.grow {base : Nat} {κ κ' : Key} {Im Im' : Addr → Prop} {w w' : World} (g : Grow base κ Im w κ' Im' w') {a : AV} {v : Value} (h : VR κ Im w a v) : VR κ' Im' w' a v := h.mono g.kap g.im g.cell
theorem VRL.grow {base : Nat} {κ κ' : Key} {Im Im' : Addr → Prop} {w w' : World} (g : Grow base κ Im w κ' Im' w') {a : List AV} {v : List Value} (h : VRL κ Im w a v) : VRL κ' Im' w' a v :=
  ⟨h.1, fun j hj hj' => (h.2 j hj hj').grow g⟩

def FRel (κ : Key) (Im : Addr → Prop) (w : World) (f : Frame) (a : Act) : Prop := ∀ t, VR κ Im w (f t) (a.tmps.getD t undef)
theorem FRel.grow {base : Nat} {κ κ' : Key} {Im Im' : Addr → Prop} {w w' : World} (g : Grow base κ Im w κ' Im' w') {f : Frame} {a : Act} (h : FRel κ Im w f a) : FRel κ' Im' w' f a := fun t => (h t).grow g

variable [Globs]
/-- A call: whatever world the store lies in, the call returns a value and a store of which R holds. -/
def ACalls (P : Program) (f : FuncId) (args : List AV) (σ : Store) (R : AV → Store → Prop) : Prop :=
  ∀ base κ Im w vs, SRel base κ Im σ w → VRL κ Im w args vs → Calls P f vs.toArray w fun e w' =>
    ∃ r σ' v κ' Im', e = .returned v ∧ R r σ' ∧ SRel base κ' Im' σ' w' ∧ Grow base κ Im w κ' Im' w' ∧ VR κ' Im' w' r v

/-- A call that touches no entry of the store. -/
def PCalls (P : Program) (f : FuncId) (args : List AV) (R : AV → Prop) : Prop := ACalls P f args [] fun r σ' => σ' = [] ∧ R r

theorem ACalls.mono {P : Program} {f : FuncId} {args : List AV} {σ : Store} {R R' : AV → Store → Prop} (h : ACalls P f args σ R) (hr : ∀ r σ', R r σ' → R' r σ') : ACalls P f args σ R' :=
  fun base κ Im w vs hs hv => (h base κ Im w vs hs hv).mono fun _ _ ⟨r, σ', v, κ', Im', he, hR, rest⟩ => ⟨r, σ', v, κ', Im', he, hr _ _ hR, rest⟩
theorem PCalls.mono {P : Program} {f : FuncId} {args : List AV} {R R' : AV → Prop} (h : PCalls P f args R) (hr : ∀ r, R r → R' r) : PCalls P f args R' :=
  ACalls.mono h fun _ _ ⟨h0, h1⟩ => ⟨h0, hr _ h1⟩

/-- How an argument may be handed to a call that touches no entry. 'lend': the answer says nothing of memory. -/
inductive Coe (σ : Store) (lend : Bool) : AV → AV → Prop
  | pure (a : AV) (h : a.pure = true) : Coe σ lend a a
  | nils : Coe σ lend .nils (.lst [])
  | row (id n e size : Nat) (els : List (List AV)) (im : Bool) (h : σ[id]? = some (.row e size els im)) (hn : els.length = n) (hp : im = true ∨ (lend = true ∧ ∀ c ∈ els, ∀ x ∈ c, x.pure = true)) : Coe σ lend (.row id n) (.lst els)
  | ptr (id off : Nat) (t : TypeId) (cells cells' : List AV) (h : σ[id]? = some (.var t cells)) (hl : lend = true) (hoff : off ≤ cells.length) (hlen : cells'.length = cells.length) (hp : ∀ j (h : j < cells.length) (h' : j < cells'.length), Coe σ lend (cells[j]) (cells'[j])) (hone : ∀ c ∈ cells', c.one = true) : Coe σ lend (.ptr id off) (.rptr (cells'.drop off))
  | fn (f : Fn) (l l' m m' : List AV) (h1 : l.length = l'.length) (h2 : m.length = m'.length) (hl : ∀ j (h : j < l.length) (h' : j < l'.length), Coe σ lend (l[j]) (l'[j])) (hm : ∀ j (h : j < m.length) (h' : j < m'.length), Coe σ lend (m[j]) (m'[j])) :
      Coe σ lend (.fn f l m) (.fn f l' m')
  | agg (l l' : List AV) (h1 : l.length = l'.length) (hone : ∀ c ∈ l', c.one = true) (hl : ∀ j (h : j < l.length) (h' : j < l'.length), Coe σ lend (l[j]) (l'[j])) : Coe σ lend (.agg l) (.agg l')

inductive CoeL (σ : Store) (lend : Bool) : List AV → List AV → Prop
  | nil : CoeL σ lend [] []
  | cons {a b : AV} {l m : List AV} (h : Coe σ lend a b) (hl : CoeL σ lend l m) : CoeL σ lend (a :: l) (b :: m)

/-- Values that are the same in every world. -/
def rig : AV → Bool
  | .int .. | .bool _ | .str _ | .flt .. | .nilp | .nilm | .nilf | .nili | .any _ | .gp .. => true
  | .tup l | .agg l => l.attach.all fun ⟨x, _⟩ => rig x
  | .iface _ v => rig v
  | _ => false

/-- A call's demand. -/
def acall (P : Program) (σ : Store) (K : AV → Store → Prop) (f : FuncId) (args : List AV) : Prop :=
  (∃ args' R, CoeL σ false args args' ∧ PCalls P f args' R ∧ ∀ r, R r → K r σ) ∨
  (∃ args' R, CoeL σ true args args' ∧ PCalls P f args' R ∧ ∀ r, R r → rig r = true ∧ K r σ) ∨
  ACalls P f args σ K

/-- The demand of a call that touches no entry, and whose answer is one and the same in every world. -/
def aqcall (P : Program) (σ : Store) (K : AV → Store → Prop) (f : FuncId) (args : List AV) : Prop :=
  ∃ args' r, CoeL σ true args args' ∧ PCalls P f args' (fun r' => r' = r) ∧ rig r = true ∧ K r σ

/-- The elements of a slice whose elements never change. -/
def aview (σ : Store) : AV → Option (List (List AV))
  | .nils => some []
  | .lst l => some l
  | .row id n => match σ[id]? with
    | some (.row _ _ els true) => if els.length = n then some els else none
    | _ => none
  | _ => none

/-- Elements that never change. -/
def Fixed (σ : Store) (y : AV) (m : List (List AV)) : Prop := aview σ y = some m ∨ ∀ c ∈ m, ∀ x ∈ c, x.pure = true

/-- A text's bytes, as the elements of a slice. -/
def byteEls (l : List UInt8) : List (List AV) := l.map fun b => [.int .u8 b.toNat]

/-- Has a function a body of its own? -/
def hasBody (P : Program) (f : FuncId) : Bool := match P.funcs[f]? with
  | some fn => fn.body.isSome && fn.name != "runtime.NumGoroutine"
  | none => false

/-- An operation's demand. -/
def awpOp (P : Program) (K : AV → Store → Prop) (f : Frame) (σ : Store) : AOp → Prop
  | .alloc t cells => K (.ptr σ.length 0) (σ ++ [.var t cells])
  | .box t x => (∀ c ∈ (x.ev f).cells, c.one = true) ∧ K (.ptr σ.length 0) (σ ++ [.var t (x.ev f).cells])
  | .store size x v => ∃ σ', (v.ev f).cells.length = size ∧ (∀ c ∈ (v.ev f).cells, c.one = true) ∧ putAt σ (x.ev f) (v.ev f).cells = some σ' ∧ K .junk σ'
  | .mkslice e size bytes zero len cap => ∃ n c, natOf (len.ev f) = some n ∧ natOf (cap.ev f) = some c ∧ n ≤ c ∧ c * bytes ≤ 140737488355328 ∧ c ≤ 9223372036854775807 ∧ 0 < size ∧ zero.length = size ∧
      K (.row σ.length n) (σ ++ [.row e size (List.replicate n zero) false])
  | .mklst _ size zero n parts => ∃ ps, (parts.mapM fun (p : Nat × Opd) => (share σ (p.2.ev f)).bind fun v => if v.cells.length = size ∧ v.cells.all AV.one then some (p.1 * size, v.cells) else none) = some ps ∧ 
      K (.lst (chunks n size (lay (List.replicate n zero).flatten ps))) σ
  | .mkrow e size zero n parts => ∃ ps, (parts.mapM fun (p : Nat × Opd) => if (p.2.ev f).cells.length = size ∧ (p.2.ev f).cells.all AV.one then some (p.1 * size, (p.2.ev f).cells) else none) = some ps ∧ 0 < size ∧
      K (.row σ.length n) (σ ++ [.row e size (chunks n size (lay (List.replicate n zero).flatten ps)) false])
  | .app e size bytes x y => ∃ m, view σ (y.ev f) = some m ∧ 0 < size ∧ (∀ c ∈ m, c.length = size) ∧
      match x.ev f with
      | .nils => (m = [] ∧ K .nils σ) ∨ ∃ im, (im = true → Fixed σ (y.ev f) m) ∧ m.length * bytes ≤ 140737488355328 ∧ m.length ≤ 9223372036854775807 ∧ K (.row σ.length m.length) (σ ++ [.row e size m im])
      | .row id n => ∃ els im, σ[id]? = some (.row e size els im) ∧ (im = true → Fixed σ (y.ev f) m) ∧ els.length = n ∧ (n + m.length) * bytes ≤ 140737488355328 ∧ n + m.length ≤ 9223372036854775807 ∧ K (.row id (n + m.length)) (σ.set id (.row e size (els ++ m) im))
      | _ => False
  | .apps e x y => ∃ l, y.ev f = .str l ∧
      match x.ev f with
      | .nils => (l = [] ∧ K .nils σ) ∨ ∃ im, l.length ≤ 140737488355328 ∧ K (.row σ.length l.length) (σ ++ [.row e 1 (byteEls l) im])
      | .row id n => ∃ els im, σ[id]? = some (.row e 1 els im) ∧ els.length = n ∧ n + l.length ≤ 140737488355328 ∧ K (.row id (n + l.length)) (σ.set id (.row e 1 (els ++ byteEls l) im))
      | _ => False
  | .call fn args => acall P σ K fn (args.map (·.ev f))
  | .callv x args => match x.ev f with
    | .fn (.func g) first captured => hasBody P g = true ∧ acall P σ K g (first ++ args.map (·.ev f) ++ captured)
    | _ => False
  | .qcall fn args => aqcall P σ K fn (args.map (·.ev f))
  | .qcallv x args => match x.ev f with
    | .fn (.func g) first captured => hasBody P g = true ∧ aqcall P σ K g (first ++ args.map (·.ev f) ++ captured)
    | _ => False
  | .bad => False
  | .tobytes x => ∃ r, bytesStep (x.ev f) = some r ∧ K r σ
  | .ex o => ∃ r σ', EStep σ f r σ' o ∧ K r σ'
  | o => ∃ r, pstep σ f o = some r ∧ K r σ

/-- Does a guard's value want what stands behind it? One that was passed over itself does not. -/
def Wants (v : AV) (b w : Bool) : Prop := (v = .any undef ∧ w = false) ∨ ∃ c, v = .bool c ∧ w = (c == b)

/-- One instruction's demand: its guard, its operation, its slot. -/
def awpIns (P : Program) (K : Frame → Store → Prop) (i : AIns) (f : Frame) (σ : Store) : Prop := match i.g with
  | none => awpOp P (fun r σ' => K (f.put i.d r) σ') f σ i.o
  | some (t, b) => ∃ w, Wants (f t) b w ∧ (w = true → awpOp P (fun r σ' => K (f.put i.d r) σ') f σ i.o) ∧ (w = false → K (f.put i.d (.any undef)) σ)
def awpOps (P : Program) (Q : Frame → Store → Prop) : List AIns → Frame → Store → Prop
  | [], f, σ => Q f σ
  | i :: rest, f, σ => awpIns P (awpOps P Q rest) i f σ

def AExit.then (N : Frame → Store → Prop) (Q : AExit → Frame → Store → Prop) : AExit → Frame → Store → Prop
  | .normal, f, σ => N f σ
  | e, f, σ => Q e f σ
def AExit.inBlock (id : Nat) (Q : AExit → Frame → Store → Prop) : AExit → Frame → Store → Prop
  | .exit id', f, σ => if id' = id then Q .normal f σ else Q (.exit id') f σ
  | e, f, σ => Q e f σ

/-- A slice that the call owns is written no more. -/
def Frz (σ σ' : Store) : Prop := ∃ (id e size : Nat) (els els' : List (List AV)), σ[id]? = some (.row e size els false) ∧ (els.mapM fun (c : List AV) => c.mapM (share1 σ)) = some els' ∧ σ' = σ.set id (.row e size els' true)

/-- A piece of code's demand. -/
def awp (P : Program) : ACode → (AExit → Frame → Store → Prop) → Frame → Store → Prop
  | .skip, Q, f, σ => Q .normal f σ
  | .ops l, Q, f, σ => awpOps P (Q .normal) l f σ
  | .all ls, Q, f, σ => ∀ l ∈ ls, awpOps P (Q .normal) l f σ
  | .seq a b, Q, f, σ => awp P a (AExit.then (awp P b Q) Q) f σ
  | .cond c x y, Q, f, σ => ∃ b, c.ev f = .bool b ∧ (b = true → awp P x Q f σ) ∧ (b = false → awp P y Q f σ)
  | .block id c, Q, f, σ => awp P c (AExit.inBlock id Q) f σ
  | .loop c, Q, f, σ => ∃ (I : Nat → Frame → Store → Prop) (n : Nat), I n f σ ∧ ∀ n f σ, I n f σ → awp P c (AExit.then (fun f' σ' => ∃ n', n' < n ∧ I n' f' σ') Q) f σ
  | .exit id, Q, f, σ => Q (.exit id) f σ
  | .ret, Q, f, σ => Q .ret f σ
  | .gh, Q, f, σ => Q .normal f σ ∨ ∃ σ', Frz σ σ' ∧ Q .normal f σ'
  | .bad, _, _, _ => False

end Go.Abs
