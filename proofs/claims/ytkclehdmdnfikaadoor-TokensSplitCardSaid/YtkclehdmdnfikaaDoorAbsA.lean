/- Abstract machine, part 1: abstract values, the relation between an abstract store and a world, and its monotonicity. -/
import Derived.WalkKit
import Derived.WalkSpells
import Derived.WalkLawsBesides
import Derived.Deep.Quiet
import Derived.StillTail
set_option linter.unusedSimpArgs false
set_option linter.unusedVariables false
set_option linter.constructorNameAsVariable false
namespace Go.Abs
open Go.RowKit

/-- Abstract values. -/
inductive AV where
  | junk
  | int (k : IntKind) (n : Int)
  | bool (b : Bool)
  | str (s : List UInt8)
  | flt (k : FloatKind) (bits : Nat)
  | nilp
  | ptr (id off : Nat)
  | rptr (cells : List AV)
  | nils
  | lst (l : List (List AV))
  | row (id n : Nat)
  | rowp (id n size k off : Nat)
  | map (id : Nat)
  | nilm
  | fn (f : Fn) (first captured : List AV)
  | nilf
  | iface (t : TypeId) (v : AV)
  | nili
  | agg (cells : List AV)
  | tup (vs : List AV)
  | any (v : Value)
  | gp (g off : Nat)
  | sub (id n size lo hi : Nat)
  | asl (id off n size : Nat)
  deriving Inhabited

/-- What the package's variables hold that are never written. -/
class Globs where
  tab : List (Nat × List AV)

/-- Values of one cell. -/
def AV.one : AV → Bool
  | .junk | .agg _ | .tup _ | .any _ => false
  | _ => true

/-- Values that speak of no entry of the store. -/
def AV.pure : AV → Bool
  | .ptr .. | .row .. | .rowp .. | .map .. | .sub .. | .asl .. => false
  | .fn _ a b => a.attach.all (fun ⟨x, _⟩ => x.pure) && b.attach.all (fun ⟨x, _⟩ => x.pure)
  | .iface _ v => v.pure
  | .agg l | .tup l => l.attach.all fun ⟨x, _⟩ => x.pure
  | _ => true

/-- Immutable values: 'Im' tells the cells that never change any more. -/
inductive IR (Im : Addr → Prop) (w : World) : AV → Value → Prop
  | junk (v : Value) : IR Im w .junk v
  | int (k : IntKind) (n : Int) : IR Im w (.int k n) (.int k n)
  | bool (b : Bool) : IR Im w (.bool b) (.bool b)
  | str (s : List UInt8) : IR Im w (.str s) (.string ⟨s.toArray⟩)
  | flt (k : FloatKind) (bits : Nat) : IR Im w (.flt k bits) (.float k bits)
  | nilp : IR Im w .nilp (.pointer none)
  | rptr (cells : List AV) (b o : Nat) (vals : Nat → Value) (hone : ∀ c ∈ cells, c.one = true)
      (hc : ∀ j, j < cells.length → Im ⟨b, o + j, none⟩ ∧ w.cell? ⟨b, o + j, none⟩ = some (vals j))
      (hv : ∀ j (h : j < cells.length), IR Im w (cells[j]) (vals j)) : IR Im w (.rptr cells) (.pointer (some ⟨b, o, none⟩))
  | nils : IR Im w .nils (.slice none 0 0)
  | lnil : IR Im w (.lst []) (.slice none 0 0)
  | lst (l : List (List AV)) (size b o cap : Nat) (vals : Nat → Nat → Value) (hcap : l.length ≤ cap) (hmax : cap ≤ maxLen) (hs : ∀ c ∈ l, c.length = size)
      (hone : ∀ c ∈ l, ∀ x ∈ c, x.one = true)
      (hc : ∀ k j, k < l.length → j < size → Im ⟨b, o + (k * size + j), none⟩ ∧ w.cell? ⟨b, o + (k * size + j), none⟩ = some (vals k j))
      (hv : ∀ k j (h : k < l.length) (h' : j < l[k].length), IR Im w (l[k][j]) (vals k j)) : IR Im w (.lst l) (.slice (some ⟨b, o, none⟩) l.length cap)
  | nilm : IR Im w .nilm (.map none)
  | fn (f : Fn) (first captured : List AV) (vs us : List Value) (h1 : first.length = vs.length) (h2 : captured.length = us.length)
      (hv : ∀ j (h : j < first.length) (h' : j < vs.length), IR Im w (first[j]) (vs[j])) (hu : ∀ j (h : j < captured.length) (h' : j < us.length), IR Im w (captured[j]) (us[j])) :
      IR Im w (.fn f first captured) (.func f vs.toArray us.toArray)
  | nilf : IR Im w .nilf .nilFunc
  | iface (t : TypeId) (a : AV) (v : Value) (h : IR Im w a v) : IR Im w (.iface t a) (.iface t v)
  | nili : IR Im w .nili .nilIface
  | agg (cells : List AV) (vs : List Value) (hone : ∀ c ∈ cells, c.one = true) (h1 : cells.length = vs.length) (hv : ∀ j (h : j < cells.length) (h' : j < vs.length), IR Im w (cells[j]) (vs[j])) :
      IR Im w (.agg cells) (.agg vs.toArray)
  | tup (cells : List AV) (vs : List Value) (h1 : cells.length = vs.length) (hv : ∀ j (h : j < cells.length) (h' : j < vs.length), IR Im w (cells[j]) (vs[j])) :
      IR Im w (.tup cells) (.tuple vs.toArray)
  | any (v : Value) : IR Im w (.any v) v
  | gp (g off : Nat) : IR Im w (.gp g off) (.pointer (some ⟨g, off, none⟩))

/-- All values: 'κ id n' is the concrete value of store entry 'id' when a row had 'n' elements (0 for other entries). -/
inductive VR (κ : Nat → Nat → Option Value) (Im : Addr → Prop) (w : World) : AV → Value → Prop
  | im (a : AV) (v : Value) (h : IR Im w a v) : VR κ Im w a v
  | ptr (id off b : Nat) (h : κ id 0 = some (.pointer (some ⟨b, 0, none⟩))) : VR κ Im w (.ptr id off) (.pointer (some ⟨b, off, none⟩))
  | row (id n : Nat) (g : Option Addr) (cap : Nat) (h : κ id n = some (.slice g n cap)) : VR κ Im w (.row id n) (.slice g n cap)
  | rowp (id n size k off b cap : Nat) (h : κ id n = some (.slice (some ⟨b, 0, none⟩) n cap)) : VR κ Im w (.rowp id n size k off) (.pointer (some ⟨b, k * size + off, none⟩))
  | map (id b : Nat) (h : κ id 0 = some (.map (some b))) : VR κ Im w (.map id) (.map (some b))
  | asl (id off n size b : Nat) (ad : Addr) (c : Nat) (h : κ id 0 = some (.pointer (some ⟨b, 0, none⟩))) (h3 : 0 < n → ad = ⟨b, off, none⟩) (h4 : n ≤ c) (h5 : c ≤ maxLen) (h6 : ad.spot = none) : VR κ Im w (.asl id off n size) (.slice (some ad) n c)
  | sub (id n size lo hi b cap : Nat) (ad : Addr) (c : Nat) (h : κ id n = some (.slice (some ⟨b, 0, none⟩) n cap)) (h1 : lo ≤ hi) (h2 : hi ≤ n) (h3 : lo < hi → ad = ⟨b, lo * size, none⟩) (h4 : hi - lo ≤ c) (h5 : c ≤ maxLen) (h6 : ad.spot = none) : VR κ Im w (.sub id n size lo hi) (.slice (some ad) (hi - lo) c)
  | fn (f : Fn) (first captured : List AV) (vs us : List Value) (h1 : first.length = vs.length) (h2 : captured.length = us.length)
      (hv : ∀ j (h : j < first.length) (h' : j < vs.length), VR κ Im w (first[j]) (vs[j])) (hu : ∀ j (h : j < captured.length) (h' : j < us.length), VR κ Im w (captured[j]) (us[j])) :
      VR κ Im w (.fn f first captured) (.func f vs.toArray us.toArray)
  | iface (t : TypeId) (a : AV) (v : Value) (h : VR κ Im w a v) : VR κ Im w (.iface t a) (.iface t v)
  | agg (cells : List AV) (vs : List Value) (hone : ∀ c ∈ cells, c.one = true) (h1 : cells.length = vs.length) (hv : ∀ j (h : j < cells.length) (h' : j < vs.length), VR κ Im w (cells[j]) (vs[j])) :
      VR κ Im w (.agg cells) (.agg vs.toArray)
  | tup (cells : List AV) (vs : List Value) (h1 : cells.length = vs.length) (hv : ∀ j (h : j < cells.length) (h' : j < vs.length), VR κ Im w (cells[j]) (vs[j])) :
      VR κ Im w (.tup cells) (.tuple vs.toArray)

theorem IR.mono {Im Im' : Addr → Prop} {w w' : World} (hIm : ∀ a, Im a → Im' a) (hc : ∀ a, Im a → w'.cell? a = w.cell? a) {a : AV} {v : Value} (h : IR Im w a v) : IR Im' w' a v := by
  induction h with
  | junk v => exact .junk v
  | int k n => exact .int k n
  | bool b => exact .bool b
  | str s => exact .str s
  | flt k b => exact .flt k b
  | nilp => exact .nilp
  | rptr cells b o vals hone hcc hv ih => exact .rptr cells b o vals hone (fun j hj => ⟨hIm _ (hcc j hj).1, (hc _ (hcc j hj).1).trans (hcc j hj).2⟩) ih
  | nils => exact .nils
  | lnil => exact .lnil
  | lst l size b o cap vals hcap hmax hs hone hcc hv ih => exact .lst l size b o cap vals hcap hmax hs hone (fun k j hk hj => ⟨hIm _ (hcc k j hk hj).1, (hc _ (hcc k j hk hj).1).trans (hcc k j hk hj).2⟩) ih
  | nilm => exact .nilm
  | fn f first captured vs us h1 h2 hv hu ih1 ih2 => exact .fn f first captured vs us h1 h2 ih1 ih2
  | nilf => exact .nilf
  | iface t a v h ih => exact .iface t a v ih
  | nili => exact .nili
  | agg cells vs hone h1 hv ih => exact .agg cells vs hone h1 ih
  | tup cells vs h1 hv ih => exact .tup cells vs h1 ih
  | any v => exact .any v
  | gp g off => exact .gp g off

theorem VR.mono {κ κ' : Nat → Nat → Option Value} {Im Im' : Addr → Prop} {w w' : World} (hκ : ∀ i n v, κ i n = some v → κ' i n = some v) (hIm : ∀ a, Im a → Im' a) (hc : ∀ a, Im a → w'.cell? a = w.cell? a)
    {a : AV} {v : Value} (h : VR κ Im w a v) : VR κ' Im' w' a v := by
  induction h with
  | im a v h => exact .im a v (h.mono hIm hc)
  | ptr id off b h => exact .ptr id off b (hκ _ _ _ h)
  | row id n g cap h => exact .row id n g cap (hκ _ _ _ h)
  | rowp id n size k off b cap h => exact .rowp id n size k off b cap (hκ _ _ _ h)
  | map id b h => exact .map id b (hκ _ _ _ h)
  | asl id off n size b ad c h h3 h4 h5 h6 => exact .asl id off n size b ad c (hκ _ _ _ h) h3 h4 h5 h6
  | sub id n size lo hi b cap ad c h h1 h2 h3 h4 h5 h6 => exact .sub id n size lo hi b cap ad c (hκ _ _ _ h) h1 h2 h3 h4 h5 h6
  | fn f first captured vs us h1 h2 hv hu ih1 ih2 => exact .fn f first captured vs us h1 h2 ih1 ih2
  | iface t a v h ih => exact .iface t a v ih
  | agg cells vs hone h1 hv ih => exact .agg cells vs hone h1 ih
  | tup cells vs h1 hv ih => exact .tup cells vs h1 ih

/-- A value that speaks of no entry is immutable. -/
theorem VR.pure {κ : Nat → Nat → Option Value} {Im : Addr → Prop} {w : World} {a : AV} {v : Value} (h : VR κ Im w a v) (hp : a.pure = true) : IR Im w a v := by
  induction h with
  | im a v h => exact h
  | ptr | row | rowp | map | sub | asl => simp [AV.pure] at hp
  | fn f first captured vs us h1 h2 hv hu ih1 ih2 =>
    simp [AV.pure] at hp
    exact .fn f first captured vs us h1 h2 (fun j h h' => ih1 j h h' (hp.1 _ (List.getElem_mem h))) (fun j h h' => ih2 j h h' (hp.2 _ (List.getElem_mem h)))
  | iface t a v h ih => exact .iface t a v (ih (by simpa [AV.pure] using hp))
  | agg cells vs hone h1 hv ih =>
    simp [AV.pure] at hp
    exact .agg cells vs hone h1 fun j h h' => ih j h h' (hp _ (List.getElem_mem h))
  | tup cells vs h1 hv ih =>
    simp [AV.pure] at hp
    exact .tup cells vs h1 fun j h h' => ih j h h' (hp _ (List.getElem_mem h))

theorem VR.oneCell {κ : Nat → Nat → Option Value} {Im : Addr → Prop} {w : World} {a : AV} {v : Value} (h : VR κ Im w a v) (hp : a.one = true) : v.oneCell' = true := by
  cases h with
  | im a v h => cases h <;> first | rfl | simp [AV.one] at hp
  | ptr | row | rowp | map | fn | iface | sub | asl => rfl
  | agg | tup => simp [AV.one] at hp
end Go.Abs
