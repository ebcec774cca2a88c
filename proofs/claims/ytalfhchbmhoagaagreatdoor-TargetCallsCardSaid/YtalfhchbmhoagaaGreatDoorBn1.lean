/- A lift whose contract may use that the world is shaped as the program's package variables say. A witness world whose package variables hold references -/
import Derived.Handed
import Derived.DataWitness
import Derived.Lay
import Derived.WalkKit
import Derived.Lib.ParseIntB
import Derived.Lib.ItoaNum
import Derived.Test.YtalfhchbmhoagaaGreatDoorCode
import Derived.Test.YtalfhchbmhoagaaGreatDoorShelf
import Derived.Test.YtalfhchbmhoagaaGreatDoorAbs2
import Derived.Test.YtalfhchbmhoagaaGreatDoorRows
import Derived.ProofKit
import Derived.LaidLaws
import Derived.Lib.LaidIn
import Derived.Lib.LaidU8
import Derived.Stop.LaidErr
import Derived.Lib.IndexAny
set_option linter.unusedSimpArgs false
set_option linter.unusedVariables false
set_option linter.constructorNameAsVariable false
section
namespace Go
section
variable {H : Type} {enc : TypeId × Value → H}
theorem returns_shaped {a : Assume} {C : Checked} {os : Os} {f : FuncId} {fn : Func} {s : ChangeSpec} {conds : List PathCond} {apart fresh handsOn again : Bool} {X : World → Array Value → Prop}
  (hX : ∀ (w w' : World) (args : Array Value), w.heap = w'.heap → X w args → X w' args) (own : ownKnob C.prog.godebug = none) (started : os.Started) (noInit : C.prog.inits.idxOf? f = none) (hfn : C.prog.funcs[f]? = some fn)
  (witness : ∃ (w : World) (tape : Tape) (i : Input), w.os = os ∧ (w.forCall tape i).Shaped C.prog ∧ i.vars = [] ∧ Input.okWide C.prog (w.forCall tape i) .any w.heap.size f i ∧
   ((s.pre enc C.prog fn conds apart (w.forCall tape i).memory i.args ∧ X (w.forCall tape i).memory i.args) ∧ sizedMet enc C.prog fn (OpenSpec.ofChange s) apart (w.forCall tape i).memory i.args) ∧ a.holds C.prog (lone (Frame.enter C.prog f i.args .normal) [] (w.forCall tape i)))
  (body : ∀ (W : World) (base : Nat) (args : Array Value) (ds gs : List (DataW H)) (before : List MemPlace), W.ShapedOpen C.prog → (∀ (j : Nat) t v, fn.params[j]? = some t → args[j]? = some v → Value.okWide C.prog W .any base t v) →
   DataW.Whole enc C.prog fn.params.toList s.vars apart W args.toList ds gs before → X W args → Calls C.prog f args W fun e W' => ∃ v, e = .returned v ∧ s.post enc C.prog fn apart fresh handsOn again W args v W') :
  ReturnsInHanded a C os f .any (fun w args => (s.pre enc C.prog fn conds apart w args ∧ X w args) ∧ sizedMet enc C.prog fn (OpenSpec.ofChange s) apart w args) (s.post enc C.prog fn apart fresh handsOn again) := by
 apply returnsInHanded_of_calls own started noInit witness
 rintro w tape i - hshape - ⟨-, -, -, g, hg, -, -, -, -, hval⟩ ⟨⟨⟨ds, gs, before, hw, -⟩, hx⟩, -⟩ -
 cases Option.some.inj (hg.symm.trans hfn)
 apply (body (w.forCall tape i) w.heap.size i.args ds gs before hshape hval (DataW.Whole.of_heap (by rfl) hw) (hX _ _ _ (by rfl) hx)).mono
 rintro e W' ⟨v, rfl, hp⟩
 exact ChangeSpec.post_blind hp
end
end Go
end
section
namespace Go
section
variable {H : Type} {enc : TypeId × Value → H}
theorem witness_zip {C : Checked} {os : Os} {f : FuncId} {fn : Func} {s : ChangeSpec} {conds : List PathCond} {apart : Bool} {X : World → Array Value → Prop} (w0 : World) (args : Array Value) (fuel : Nat) (hos : w0.os = os)
  (hv : (w0.forCall (fun _ _ => 0) ⟨#[], args, []⟩).variablesZipB C.prog = true)
  (hr : ((w0.forCall (fun _ _ => 0) ⟨#[], args, []⟩).heap.toList.drop C.prog.globals.size).take ((begin C.prog (fun _ _ => 0) default).world.heap.size - C.prog.globals.size) = (begin C.prog (fun _ _ => 0) default).world.heap.toList.drop C.prog.globals.size)
  (hok : Input.okWideB C.prog (w0.forCall (fun _ _ => 0) ⟨#[], args, []⟩) f ⟨#[], args, []⟩ = true)
  (hpre : s.preB enc C.prog fn conds apart (w0.forCall (fun _ _ => 0) ⟨#[], args, []⟩).memory args fuel = true)
  (hsz : s.sizedB enc C.prog fn apart (w0.forCall (fun _ _ => 0) ⟨#[], args, []⟩).memory args fuel = true)
  (hx : X (w0.forCall (fun _ _ => 0) ⟨#[], args, []⟩).memory args) :
  ∃ (w : World) (tape : Tape) (i : Input), w.os = os ∧ (w.forCall tape i).Shaped C.prog ∧ i.vars = [] ∧ Input.okWide C.prog (w.forCall tape i) .any w.heap.size f i ∧
   ((s.pre enc C.prog fn conds apart (w.forCall tape i).memory i.args ∧ X (w.forCall tape i).memory i.args) ∧ sizedMet enc C.prog fn (OpenSpec.ofChange s) apart (w.forCall tape i).memory i.args) ∧ ({} : Assume).holds C.prog (lone (Frame.enter C.prog f i.args .normal) [] (w.forCall tape i)) := by
 refine ⟨w0, fun _ _ => 0, ⟨#[], args, []⟩, hos, World.shaped_of_ZipB hv hr, (Input.okWide_of_okWideB (base := 0) hok).1, (Input.okWide_of_okWideB hok).2, ⟨⟨ChangeSpec.pre_of_preB hpre, hx⟩, sizedMet_of_sizedB hsz⟩, ?_⟩
 simp only [Assume.holds]
 exact ⟨by simp, by simp, fun _ => Modest.zero, by simp, by simp⟩
end
end Go
end
section
namespace Go.Dec
def isD (c : UInt8) : Bool := 48 ≤ c && c ≤ 57
def dig (c : UInt8) : Nat := c.toNat - 48
def dval (n : Nat) (l : List UInt8) : Nat := l.foldl (fun n c => n * 10 + dig c) n
theorem dval_nil (n : Nat) : dval n [] = n := rfl
theorem dval_cons (n : Nat) (c : UInt8) (l : List UInt8) : dval n (c :: l) = dval (n * 10 + dig c) l := by unfold dval; rw [List.foldl_cons]
theorem dval_append (l m : List UInt8) (n : Nat) : dval n (l ++ m) = dval (dval n l) m := by unfold dval; rw [List.foldl_append]
theorem dval_ge : ∀ (l : List UInt8) (n : Nat), n * 10 ^ l.length ≤ dval n l
 | [], n => by simp [dval_nil]
 | c :: l, n => by
  have := dval_ge l (n * 10 + dig c)
  simp only [dval_cons, List.length_cons, Nat.pow_succ]
  refine Nat.le_trans ?_ this
  rw [show n * (10 ^ l.length * 10) = (n * 10) * 10 ^ l.length by rw [Nat.mul_assoc, Nat.mul_comm 10]]
  exact Nat.mul_le_mul_right _ (by omega)
theorem isD_iff (c : UInt8) : isD c = true ↔ 48 ≤ c.toNat ∧ c.toNat ≤ 57 := by
 simp [isD, UInt8.le_iff_toNat_le]
def pad (part : List UInt8) : List UInt8 := (part ++ [48, 48, 48, 48, 48, 48]).take 6
def upB (part : List UInt8) : Bool := match part[6]? with
 | some c => decide (53 ≤ c)
 | none => false
def parts (s : List UInt8) : Option (List UInt8 × List UInt8) :=
 let w := s.takeWhile isD
 match s.dropWhile isD with
 | [] => if w = [] then none else some (w, [])
 | c :: t => if c = 46 ∧ t.dropWhile isD = [] ∧ w ++ t ≠ [] then some (w, t) else none
def unsign (s : List UInt8) : List UInt8 := match s with
 | c :: t => if c = 45 ∨ c = 43 then t else s
 | [] => []
def below (s : List UInt8) : Bool := match s with
 | c :: _ => decide (c = 45)
 | [] => false
def parse (s : List UInt8) : Except Nat Int :=
 if 64 < s.length then .error 12
 else match parts (unsign s) with
  | none => .error 2
  | some (w, p) =>
   let n := dval 0 (w ++ pad p) + (if upB p then 1 else 0)
   if 9223372036854775807 < n then .error 3 else .ok (if below s then -(n : Int) else n)
theorem parseUintM_digits (M : Nat) (hM : M < 18446744073709551616) : ∀ (l : List UInt8) (acc : Nat), l.all isD = true → acc ≤ M → Lib.parseUintM M acc l = if dval acc l ≤ M then .ok (dval acc l) else .range
 | [], acc, _, h => by simp [Lib.parseUintM, dval_nil, h]
 | c :: l, acc, hl, h => by
  simp only [List.all_cons, Bool.and_eq_true] at hl
  have hc := (isD_iff c).1 hl.1
  have hge := dval_ge l (acc * 10 + dig c)
  have h10 : 1 ≤ 10 ^ l.length := Nat.pos_of_ne_zero (by simp)
  have hge' : acc * 10 + dig c ≤ dval (acc * 10 + dig c) l := Nat.le_trans (Nat.le_mul_of_pos_right _ h10) hge
  rw [dval_cons]
  simp only [Lib.parseUintM, if_pos hc]
  split
  ·rename_i hov
   rw [if_neg (by omega)]
  ·split
   ·rename_i h1 h2
    have : dig c = c.toNat - 48 := rfl
    rw [if_neg (by omega)]
   ·rename_i h1 h2
    exact parseUintM_digits M hM l _ hl.2 (by have : dig c = c.toNat - 48 := rfl; omega)
theorem parseIntB_digits {l : List UInt8} (hl : l.all isD = true) (hne : l ≠ []) : Lib.parseIntB 64 l = if dval 0 l ≤ 9223372036854775807 then .ok (dval 0 l) else .range := by
 match l, hne with
 | c :: r, _ =>
  have hc : 48 ≤ c.toNat ∧ c.toNat ≤ 57 := (isD_iff c).1 (by simp only [List.all_cons, Bool.and_eq_true] at hl; exact hl.1)
  have h1 : ¬ (c.toNat = 43 ∨ c.toNat = 45) := by omega
  have h2 : ¬ c.toNat = 45 := by omega
  simp only [Lib.parseIntB, if_neg h1, Lib.parseUintB]
  rw [if_neg (by simp), parseUintM_digits _ (by decide) _ _ hl (by omega)]
  by_cases hx : dval 0 (c :: r) ≤ 2 ^ 64 - 1
  ·rw [if_pos hx]
   by_cases hy : dval 0 (c :: r) ≤ 9223372036854775807
   ·simp [h2, hy]; omega
   ·simp [h2, hy]; omega
  ·rw [if_neg hx]
   have : ¬ dval 0 (c :: r) ≤ 9223372036854775807 := by
    have e : (2 : Nat) ^ 64 - 1 = 18446744073709551615 := by decide
    omega
   simp [this]
end Go.Dec
end
section
namespace Go.Proofs.YtalfhchbmhoagaaGreatDoor
open Go.Abs Go.Dec
class GPow [Globs] : Prop where
 pow : (6, Lib.pow10Tab.map (AV.int .u64)) ∈ Globs.tab
class GDec [Globs] : Prop extends GPow where
 syn : (4, [.iface 221 .junk]) ∈ Globs.tab
 rng : (5, [.iface 221 .junk]) ∈ Globs.tab
theorem cutPrefix_ok {G : Globs} (s p : List UInt8) : PCalls Tryz.prog 99 [.str s, .str p] (fun r => r = .tup [.str (Lib.trimPrefix s p), .bool (Lib.hasPrefix s p)]) :=
 pcalls2 fun base κ Im w v u hs h1 h2 => by
  cases h1.str_inv; cases h2.str_inv
  refine (Tryz.strings_CutPrefix ⟨s.toArray⟩ ⟨p.toArray⟩ w).mono ?_
  rintro e w' ⟨rfl, rfl⟩
  exact ⟨_, _, rfl, rfl, Go.RowKit.Below.refl _ _, fun Im' => .tup _ [_, _] rfl fun j hj hj' => by
   match j, hj with
   | 0, _ => exact .str _
   | 1, _ => exact .bool _⟩
theorem trimPrefix_ok {G : Globs} (s p : List UInt8) : PCalls Tryz.prog 100 [.str s, .str p] (fun r => r = .str (Lib.trimPrefix s p)) :=
 pcalls2 fun base κ Im w v u hs h1 h2 => by
  cases h1.str_inv; cases h2.str_inv
  refine (Tryz.strings_TrimPrefix ⟨s.toArray⟩ ⟨p.toArray⟩ w).mono ?_
  rintro e w' ⟨rfl, rfl⟩
  exact ⟨_, _, rfl, rfl, Go.RowKit.Below.refl _ _, fun Im' => .str _⟩
def pIntAV (n : Nat) (r : AV) : Prop := if n ≤ 9223372036854775807 then r = .tup [.int .i64 n, .nili] else ∃ z, r = .tup [.int .i64 z, .iface 174 .junk]
theorem parseInt_ok {G : Globs} [GDec] (s : List UInt8) (hl : s.length ≤ 1000000) (hd : s.all isD = true) (hne : s ≠ []) : PCalls Tryz.prog 67 [.str s, .int .i64 10, .int .i64 64] (pIntAV (dval 0 s)) :=
 pcalls3 fun base κ Im w v u x hs h1 h2 h3 => by
  cases h1.str_inv; cases h2.int_inv; cases h3.int_inv
  have hp := parseIntB_digits hd hne
  by_cases hle : dval 0 s ≤ 9223372036854775807
  ·rw [if_pos hle] at hp
   refine (Tryz.strconv_ParseInt_10_at64_ok ⟨s.toArray⟩ (by simp [ByteArray.size]; omega) (dval 0 s) (by simpa using hp) w).mono ?_
   rintro e w' ⟨rfl, hw⟩
   refine ⟨.tup [.int .i64 (dval 0 s), .nili], _, rfl, by simp [pIntAV, hle], ?_, fun Im' => .tup _ [_, _] rfl fun j hj hj' => by
    match j, hj with
    | 0, _ => exact .int _ _
    | 1, _ => exact .nili⟩
   rcases hw with rfl | ⟨t, rfl⟩
   ·exact Go.RowKit.Below.refl _ _
   ·exact Lib.bytesWorld_below _ _ _
  ·rw [if_neg hle] at hp
   obtain ⟨vals, hc, hv⟩ := glob_cell hs GDec.rng
   have hc0 := hc 0 (by simp)
   have hv0 := hv 0 (by simp)
   simp only [List.getElem_cons_zero] at hv0
   obtain ⟨q, hq⟩ : ∃ q, vals 0 = .iface 221 q := by
    generalize vals 0 = y at hv0
    cases hv0; exact ⟨_, rfl⟩
   refine (Tryz.strconv_ParseInt_10_at64_range ⟨s.toArray⟩ (by simp [ByteArray.size]; omega) (by simpa using hp) _ w hc0 (.inr ⟨_, _, hq⟩)).mono ?_
   rintro e w' ⟨N, rfl, _, _, hb⟩
   exact ⟨.tup [.int .i64 (Lib.intSat 64 s), .iface 174 .junk], _, rfl, by simp only [pIntAV, if_neg hle]; exact ⟨_, rfl⟩, hb, fun Im' => .tup _ [_, _] rfl fun j hj hj' => by
    match j, hj with
    | 0, _ => exact .int _ _
    | 1, _ => exact .iface _ _ _ (.junk _)⟩
end Go.Proofs.YtalfhchbmhoagaaGreatDoor
end
section
namespace Go.Abs
open Go.RowKit
def noKey : Key := fun _ _ => none
def gIm [Globs] : Addr → Prop := fun a => a.spot = none ∧ ∃ p ∈ Globs.tab, a.block = p.1
def GlobsIn [Globs] (w : World) : Prop := GOK w.heap.size gIm w
end Go.Abs
end
section
namespace Go.Proofs.YtalfhchbmhoagaaGreatDoor
open Go.ChangeShapes Go.WideShapes Go.ChangeAt Go.RowKit Go.ChangeMaps Go.Abs
theorem laidAt {P : Program} {w : World} {n : String} {d : DataW Unit} : ∀ {l : List (String × DataW Unit)}, laidMet P l w → (n, d) ∈ l → ∃ r, laidMet P ((n, d) :: r) w
 | [], _, hm => by cases hm
 | x :: l, h, hm => by
  rcases List.mem_cons.1 hm with e | e
  ·subst e; exact ⟨l, h⟩
  ·exact laidAt h.tail e
theorem gok_one {P : Program} {w : World} {n : String} {g : Nat} {cs : Array Value} {avs : List AV} {Im : Addr → Prop} (hg : P.globalNamed n = some g) (hv : w.var? P n = some cs) (hlen : cs.size = avs.length)
  (hone : ∀ c ∈ avs, c.one = true) (hr : ∀ j (h : j < avs.length), IR Im w (avs[j]) ((cs[j]?).getD (.bool false))) (hIm : ∀ j, Im ⟨g, j, none⟩) :
  g < w.heap.size ∧ (∃ cs t fz, w.heap[g]? = some (.cells cs t fz) ∧ cs.size = avs.length) ∧ IR Im w (.rptr avs) (.pointer (some ⟨g, 0, none⟩)) := by
 have h0 : ∃ t fz, w.heap[g]? = some (.cells cs t fz) := by
  unfold World.var? at hv
  simp only [hg, Option.bind_some] at hv
  split at hv
  ·rename_i c t fz hh
   cases hv
   exact ⟨t, fz, hh⟩
  ·cases hv
 obtain ⟨t, fz, hh⟩ := h0
 refine ⟨?_, ⟨cs, t, fz, hh, hlen⟩, ?_⟩
 ·rcases Nat.lt_or_ge g w.heap.size with h | h
  ·exact h
  ·rw [Array.getElem?_eq_none h] at hh; cases hh
 ·refine .rptr avs g 0 (fun j => (cs[j]?).getD (.bool false)) hone (fun j hj => ⟨?_, ?_⟩) hr
  ·simpa using hIm j
  ·have : j < cs.size := by omega
   simp [World.cell?, hh, this]
theorem starE : "*" ++ "errors.errorString" = "*errors.errorString" := by decide
theorem Tryz.rowErr (u : TypeId) (h : Tryz.prog.typeName? 3 u = some "*errors.errorString") : u = 221 :=
 typeName_ptr_named (nm := "errors.errorString") (by rw [starE]; kernel_rfl) (by kernel_rfl) (by decide) u (by rw [starE]; exact h)
abbrev gSyn : Nat := 4
abbrev gRng : Nat := 5
abbrev gPow : Nat := 6
instance decGlobs : Globs := ⟨[(gSyn, [.iface 221 .junk]), (gRng, [.iface 221 .junk]), (gPow, Lib.pow10Tab.map (AV.int .u64))]⟩
instance decG : GDec where
 syn := List.Mem.head _
 rng := .tail _ (List.Mem.head _)
 pow := .tail _ (.tail _ (List.Mem.head _))
end Go.Proofs.YtalfhchbmhoagaaGreatDoor
end
section
namespace Go.Proofs.YtalfhchbmhoagaaGreatDoor
open Go.ChangeShapes Go.WideShapes Go.ChangeAt Go.RowKit Go.ChangeMaps Go.Abs
section
variable {H : Type} {enc : TypeId × Value → H} {w : World} {base : Nat} {spare : Nat → Bool} {held : Bool}
end
end Go.Proofs.YtalfhchbmhoagaaGreatDoor
end
section
namespace Go.Abs
open Go.RowKit
def oldIm (w : World) : Addr → Prop := fun a => a.spot = none ∧ a.block < w.heap.size
theorem law_calls_old {G : Globs} {P : Program} {f : FuncId} {args : List AV} {vs : List Value} {w : World} (h : PCalls P f args (fun r => r = .bool true)) (hg : GlobsIn w) (hv : IRL (oldIm w) w args vs) : Calls P f vs.toArray w fun e w' => e = .returned (.bool true) ∧ Below w.heap.size w w' := by
 have hG : GOK w.heap.size (oldIm w) w := fun p hp => by
  obtain ⟨h1, h2, h3⟩ := hg p hp
  refine ⟨h1, h2, h3.mono (fun a ha => ?_) (fun _ _ => rfl)⟩
  obtain ⟨ha1, q, hq, ha2⟩ := ha
  exact ⟨ha1, by rw [ha2]; exact (hg q hq).1⟩
 have hS : SRel w.heap.size noKey (oldIm w) [] w := ⟨Nat.le_refl _, fun id n v h => by simp [noKey] at h, fun id e h => by simp at h, fun i j e e' b _ h => by simp at h, fun a h => ⟨h.2, h.1⟩, hG⟩
 refine (h w.heap.size noKey (oldIm w) w vs hS ⟨hv.1, fun j h h' => .im _ _ (hv.2 j h h')⟩).mono ?_
 rintro e w' ⟨r, σ', v, κ', Im', rfl, ⟨_, rfl⟩, _, hg, hr⟩
 exact ⟨by rw [hr.bool_inv], hg.below⟩
theorem iro_nil {Im : Addr → Prop} (w : World) : IRL Im w [] [] := ⟨rfl, fun j h => by simp at h⟩
theorem iro_cons {Im : Addr → Prop} {w : World} {a : AV} {v : Value} {l : List AV} {vs : List Value} (h : IR Im w a v) (hl : IRL Im w l vs) : IRL Im w (a :: l) (v :: vs) := by
 refine ⟨by simp [hl.1], fun j hj hj' => ?_⟩
 cases j with
 | zero => exact h
 | succ j => exact hl.2 j (by simpa using hj) (by simpa using hj')
end Go.Abs
namespace Go.Proofs.YtalfhchbmhoagaaGreatDoor
open Go.ChangeShapes Go.WideShapes Go.ChangeAt Go.RowKit Go.ChangeMaps Go.Abs
section
variable {H : Type} {enc : TypeId × Value → H} {w : World} {base : Nat} {spare : Nat → Bool} {held : Bool}
end
end Go.Proofs.YtalfhchbmhoagaaGreatDoor
end
section
namespace Go.Glob
def nb (c : UInt8) : Bool := (97 ≤ c && c ≤ 122) || (65 ≤ c && c ≤ 90) || (48 ≤ c && c ≤ 57) || [95, 45, 58, 37, 35, 64, 43, 61].contains c
def rng : List UInt8 → Option (UInt8 × List UInt8)
 | d :: h :: s => if d = 45 ∧ nb h = true then some (h, s) else none
 | _ => none
def cls : Nat → Bool → List UInt8 → Option (List (UInt8 × UInt8) × List UInt8)
 | 0, _, _ => none
 | _ + 1, _, [] => none
 | n + 1, ne, c :: s =>
  if c = 93 ∧ ne = true then some ([], s)
  else if nb c = false then none
  else match rng s with
   | some (h, s') => if h < c then none else (cls n true s').map fun x => ((c, h) :: x.1, x.2)
   | none => (cls n true s).map fun x => ((c, c) :: x.1, x.2)
inductive Pc where
 | lit (c : UInt8)
 | q
 | star
 | cls (rs : List (UInt8 × UInt8)) (text : List UInt8)
 | br (as_ : List (List Pc))
def stop (c : UInt8) : Bool := c = 44 || c = 125
mutual
def pcs : Nat → List UInt8 → Option (List Pc × List UInt8 × Nat)
 | 0, _ => none
 | _ + 1, [] => some ([], [], 0)
 | n + 1, c :: s =>
  if c = 44 ∨ c = 125 then some ([], c :: s, 0)
  else if c = 63 then (pcs n s).map fun x => (.q :: x.1, x.2)
  else if c = 42 then (pcs n s).map fun x => (.star :: x.1, x.2)
  else if c = 91 then (cls n false s).bind fun x => (pcs n x.2).map fun y => (.cls x.1 ((c :: s).take (s.length + 1 - x.2.length)) :: y.1, y.2)
  else if c = 123 then (alts n s).bind fun x => (pcs n x.2.1).map fun y => (.br x.1 :: y.1, y.2.1, max (x.2.2 + 1) y.2.2)
  else if nb c = true then (pcs n s).map fun x => (.lit c :: x.1, x.2)
  else none
def alts : Nat → List UInt8 → Option (List (List Pc) × List UInt8 × Nat)
 | 0, _ => none
 | n + 1, s => (pcs n s).bind fun x => match x.2.1 with
  | [] => none
  | c :: r => if c = 125 then some ([x.1], r, x.2.2) else (alts n r).map fun y => (x.1 :: y.1, y.2.1, max x.2.2 y.2.2)
end
mutual
def cnt : Nat → List Pc → Nat
 | n, [] => n
 | n, .br as_ :: l => cnt (min 65 (n * cntA 0 as_)) l
 | n, .lit _ :: l => cnt n l
 | n, .q :: l => cnt n l
 | n, .star :: l => cnt n l
 | n, .cls _ _ :: l => cnt n l
def cntA : Nat → List (List Pc) → Nat
 | n, [] => n
 | n, a :: as_ => cntA (min 65 (n + cnt 1 a)) as_
end
def Pc.text : Pc → List UInt8
 | .lit c => [c]
 | .q => [63]
 | .star => [42]
 | .cls _ t => t
 | .br _ => []
def texts (l : List Pc) : List UInt8 := l.flatMap Pc.text
def Pc.one : Pc → UInt8 → Bool
 | .q, _ => true
 | .lit l, c => decide (l = c)
 | .cls rs _, c => rs.any fun r => r.1 ≤ c && c ≤ r.2
 | .star, _ => false
 | .br _, _ => false
def tls {α : Type} : List α → List (List α)
 | [] => [[]]
 | a :: s => (a :: s) :: tls s
def mt : List Pc → List UInt8 → Bool
 | [], s => s.isEmpty
 | .star :: l, s => (tls s).any (mt l)
 | .lit _ :: _, [] => false
 | .q :: _, [] => false
 | .cls _ _ :: _, [] => false
 | .br _ :: _, [] => false
 | .lit p :: l, c :: s => (Pc.lit p).one c && mt l s
 | .q :: l, c :: s => Pc.q.one c && mt l s
 | .cls r t :: l, c :: s => (Pc.cls r t).one c && mt l s
 | .br a :: l, c :: s => (Pc.br a).one c && mt l s
def parse (s : List UInt8) : Except Nat (List Pc) :=
 if 128 < s.length then .error 12
 else match pcs (2 * s.length + 2) s with
  | some (l, r, d) => if s = [] ∨ r ≠ [] then .error 10 else if 4 < d then .error 19 else if 64 < cnt 1 l then .error 11 else .ok l
  | none => .error 10
end Go.Glob
end
section
namespace Go.Tok
open Go.Glob
def bstop (c : UInt8) : Bool := c == 39 || c == 34 || c == 32 || c == 40 || c == 41
def clsN : List UInt8 → Option Nat
 | [] => none
 | c :: r => if bstop c then none else if c = 93 then some 1 else (clsN r).map (· + 1)
def deeper (d : Nat) (c : UInt8) : Nat := if c = 123 then d + 1 else if c = 125 then d - 1 else d
def brcN : Nat → List UInt8 → Option Nat
 | _, [] => none
 | d, c :: r => if bstop c then none else if deeper d c = 0 then some 1 else (brcN (deeper d c) r).map (· + 1)
def bword (c : UInt8) : Bool := nb c || c == 46 || c == 63 || c == 42
def rowF : Nat → List UInt8 → Option Nat
 | 0, _ => some 0
 | _ + 1, [] => some 0
 | n + 1, c :: r =>
  if bword c then (rowF n r).map (· + 1)
  else if c = 91 then (clsN (c :: r)).bind fun k => (rowF n ((c :: r).drop k)).map (· + k)
  else if c = 123 then (brcN 0 (c :: r)).bind fun k => (rowF n ((c :: r).drop k)).map (· + k)
  else some 0
structure Tk where
 kind : Int
 text : List UInt8
 place : Nat
def isNum (t : List UInt8) : Bool := match Dec.parse t with | .ok _ => true | .error _ => false
def nextT : List UInt8 → Option (Int × List UInt8 × Nat)
 | [] => none
 | c :: r =>
  if c = 40 then some (4, [], 1) else if c = 41 then some (5, [], 1) else if c = 44 then some (6, [], 1)
  else if c = 39 ∨ c = 34 then (if Lib.indexByte r c < 0 then none else some (3, r.take (Lib.indexByte r c).toNat, (Lib.indexByte r c).toNat + 2))
  else match rowF (r.length + 1) (c :: r) with
   | none => none
   | some 0 => none
   | some (k + 1) => some (if isNum ((c :: r).take (k + 1)) then 2 else 1, (c :: r).take (k + 1), k + 1)
def splitF : Nat → Nat → List UInt8 → Option (List Tk)
 | _, _, [] => some []
 | 0, _, _ => some []
 | n + 1, a, c :: r =>
  if c = 32 then splitF n (a + 1) r else (nextT (c :: r)).bind fun x => (splitF n (a + x.2.2) ((c :: r).drop x.2.2)).map (⟨x.1, x.2.1, a⟩ :: ·)
def split (s : List UInt8) : Except Nat (List Tk) :=
 if 1024 < s.length then .error 12 else match splitF s.length 0 s with
  | none => .error 16
  | some l => if 256 < l.length then .error 11 else .ok l
theorem clsN_le : ∀ (s : List UInt8) (k : Nat), clsN s = some k → 1 ≤ k ∧ k ≤ s.length
 | [], k, h => by simp [clsN] at h
 | c :: r, k, h => by
  unfold clsN at h
  split at h
  ·cases h
  ·split at h
   ·cases h; simp
   ·cases hr : clsN r with
    | none => rw [hr] at h; cases h
    | some j =>
     rw [hr] at h; cases h
     have := clsN_le r j hr
     simp; omega
theorem brcN_le : ∀ (s : List UInt8) (d k : Nat), brcN d s = some k → 1 ≤ k ∧ k ≤ s.length
 | [], d, k, h => by simp [brcN] at h
 | c :: r, d, k, h => by
  unfold brcN at h
  split at h
  ·cases h
  ·split at h
   ·cases h; simp
   ·cases hr : brcN (deeper d c) r with
    | none => rw [hr] at h; cases h
    | some j =>
     rw [hr] at h; cases h
     have := brcN_le r _ j hr
     simp; omega
theorem rowF_le : ∀ (n : Nat) (s : List UInt8) (k : Nat), rowF n s = some k → k ≤ s.length
 | 0, s, k, h => by simp [rowF] at h; omega
 | n + 1, [], k, h => by simp [rowF] at h; omega
 | n + 1, c :: r, k, h => by
  unfold rowF at h
  split at h
  ·cases hr : rowF n r with
   | none => rw [hr] at h; cases h
   | some j =>
    rw [hr] at h; cases h
    have := rowF_le n r j hr
    simp; omega
  ·split at h
   ·cases hc : clsN (c :: r) with
    | none => rw [hc] at h; cases h
    | some a =>
     rw [hc] at h
     simp only [Option.bind_some] at h
     cases hr : rowF n ((c :: r).drop a) with
     | none => rw [hr] at h; cases h
     | some j =>
      rw [hr] at h; cases h
      have h1 := rowF_le n _ j hr
      have h2 := clsN_le _ _ hc
      rw [List.length_drop] at h1
      show j + a ≤ _
      omega
   ·split at h
    ·cases hc : brcN 0 (c :: r) with
     | none => rw [hc] at h; cases h
     | some a =>
      rw [hc] at h
      simp only [Option.bind_some] at h
      cases hr : rowF n ((c :: r).drop a) with
      | none => rw [hr] at h; cases h
      | some j =>
       rw [hr] at h; cases h
       have h1 := rowF_le n _ j hr
       have h2 := brcN_le _ _ _ hc
       rw [List.length_drop] at h1
       show j + a ≤ _
       omega
    ·cases h; simp
theorem idx_mem : ∀ (l : List UInt8) (c : UInt8), 0 ≤ Lib.indexByte l c ↔ c ∈ l
 | [], c => by simp [Lib.indexByte]
 | b :: l, c => by
  have ih := idx_mem l c
  have hge := Lib.indexByte_ge l c
  unfold Lib.indexByte
  by_cases h : b = c
  ·simp [h]
  ·have h' : (b == c) = false := by simpa using h
   have h2 : ¬ c = b := fun e => h e.symm
   simp only [h', Bool.false_eq_true, if_false, List.mem_cons, h2, false_or]
   rw [← ih]
   by_cases hm : Lib.indexByte l c = -1
   ·simp [hm]
   ·have hm' : (Lib.indexByte l c == -1) = false := by simpa using hm
    simp only [hm', Bool.false_eq_true, if_false]
    omega
theorem idx_stop (c : UInt8) : (0 ≤ Lib.indexByte [39, 34, 32, 40, 41] c) ↔ bstop c = true := by
 rw [idx_mem]
 simp [bstop, or_assoc]
theorem idx_quote (c : UInt8) : (0 ≤ Lib.indexByte [39, 34] c) ↔ (c = 39 ∨ c = 34) := by
 rw [idx_mem]
 simp
end Go.Tok
end
