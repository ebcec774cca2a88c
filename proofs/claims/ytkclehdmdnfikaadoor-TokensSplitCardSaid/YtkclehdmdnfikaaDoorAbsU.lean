/- Abstract machine, part 21: a deferred call. -/
import Derived.Test.YtkclehdmdnfikaaDoorAbsT
import Derived.Defers
set_option linter.unusedSimpArgs false
set_option linter.unusedVariables false
set_option linter.constructorNameAsVariable false
namespace Go.Abs
open Go.RowKit
variable {G : Globs}
section
variable {P : Program}

/-- A deferred call, as the function that defers it returns. -/
def DCalls [Globs] (P : Program) (g : FuncId) (args : List AV) (σ : Store) (K : Store → Prop) : Prop :=
  ∀ base κ Im w vs, SRel base κ Im σ w → VRL κ Im w args vs → CallsD P g vs.toArray .returning w fun e u' w' =>
    u' = .returning ∧ ∃ v σ' κ' Im', e = .returned v ∧ K σ' ∧ SRel base κ' Im' σ' w' ∧ Grow base κ Im w κ' Im' w'

theorem dcalls_of_awp (hm : P.follows .mixedOrders = true) {loud : List FuncId} {f : FuncId} {af : AFunc} {args : List AV} {σ₀ : Store} {K : Store → Prop} (hf : compFn P loud f = some af) (hargs : args.length ≤ af.n)
    (h : awp P af.code (BodyPost σ₀ (fun _ σ' => K σ') af.res) (initF args) σ₀) : DCalls P f args σ₀ K := by
  unfold compFn at hf
  simp only [Option.bind_eq_bind, Option.bind_eq_some_iff, Option.pure_def, Option.some.injEq] at hf
  obtain ⟨fn, hfn, c, hbody, rs, hrs, rfl⟩ := hf
  intro base κ Im w vs hs hv
  refine (callsD_of_wp (u := .returning) hfn hbody (body_ok hm hrs hargs h hs hv)).mono ?_
  rintro e u' w' ⟨hu, r, σ', v, κ', Im', he, hR, h1, h2, _⟩
  exact ⟨hu, v, σ', κ', Im', he, hR, h1, h2⟩

/-- A region whose last operation defers a call of a slot's value, without arguments: the operations ahead of it, and the slot. -/
def deferOf (P : Program) (N : Nat) (loud : List FuncId) : Code → Option (List AIns × Nat)
  | .region _ ops false => match ops.toList.reverse with
    | o :: rest => match o.op, o.guard, o.dst with
      | .defer c, none, none => match c.callee with
        | .value (.tmp t) => if c.args.size = 0 then some (rest.reverse.map (fun o => owned loud (compIns P N ops o)), t) else none
        | _ => none
      | _, _, _ => none
    | [] => none
  | _ => none

structure ADef where
  pre : ACode
  ins : List AIns
  t : Nat
  post : ACode

/-- Code with one deferral, that stands at its top. -/
def compD (P : Program) (N : Nat) (loud : List FuncId) : Code → Option ADef
  | .seq a b => match deferOf P N loud a with
    | some (l, t) => some ⟨.skip, l, t, comp P N loud b⟩
    | none => (compD P N loud b).map fun d => { d with pre := .seq (comp P N loud a) d.pre }
  | _ => none

structure AFuncD where
  n : Nat
  res : List (Nat × Option (Bool × Nat))
  code : ADef
def compFnD (P : Program) (loud : List FuncId) (f : FuncId) : Option AFuncD := do
  let fn ← P.funcs[f]?
  let c ← fn.body
  let rs ← fn.results.toList.mapM (compRes P)
  let d ← compD P fn.ntmps (if loud.contains (1000000 + f) then 999999 :: loud else loud) c
  return ⟨fn.ntmps, rs, d⟩

/-- Behind the deferral: the rest, the deferred call, the results. -/
def DPost [Globs] (P : Program) (g : FuncId) (cap : List AV) (σ₀ : Store) (R : AV → Store → Prop) (res : List (Nat × Option (Bool × Nat))) : AExit → Frame → Store → Prop
  | .exit _, _, _ => False
  | _, f, σ => DCalls P g cap σ (AtRet σ₀ R res f)
def DMid [Globs] (P : Program) (d : ADef) (σ₀ : Store) (R : AV → Store → Prop) (res : List (Nat × Option (Bool × Nat))) (f : Frame) (σ : Store) : Prop :=
  ∃ g cap, f d.t = .fn (.func g) [] cap ∧ hasBody P g = true ∧ awp P d.post (DPost P g cap σ₀ R res) f σ
def DPre [Globs] (P : Program) (d : ADef) (σ₀ : Store) (R : AV → Store → Prop) (res : List (Nat × Option (Bool × Nat))) : AExit → Frame → Store → Prop
  | .exit _, _, _ => False
  | .ret, f, σ => AtRet σ₀ R res f σ
  | .normal, f, σ => awpOps P (DMid P d σ₀ R res) d.ins f σ

/-- Operations in the order of the text, and more behind them. -/
theorem ops_tail {base : Nat} {N : Nat} {ops : Array Oper} {loud : List FuncId} {D : List Deferred} {κ₀ : Key} {Im₀ : Addr → Prop} {w₀ : World} {QA : Frame → Store → Prop} {Q : Exit → Act → World → Prop} {tail : List Oper}
    (hQ : ∀ f σ κ Im a w, QA f σ → St base κ₀ Im₀ w₀ N D f σ κ Im a w → wpList P ops Q tail a w) : ∀ (l : List Oper) (f : Frame) (σ : Store) (κ : Key) (Im : Addr → Prop) (a : Act) (w : World), awpOps P QA (l.map fun o => owned loud (compIns P N ops o)) f σ → St base κ₀ Im₀ w₀ N D f σ κ Im a w → wpList P ops Q (l ++ tail) a w
  | [], f, σ, κ, Im, a, w, h, hst => hQ f σ κ Im a w h hst
  | o :: l, f, σ, κ, Im, a, w, h, hst => by
    have := ins_ok (loud := loud) (Q := Q) (next := wpList P ops Q (l ++ tail)) hst.st hst.fr hst.sz (.inr h) (fun f' σ' κ' Im' a' w' hK h1 h2 h3 h4 h5 => ops_tail hQ l f' σ' κ' Im' a' w' hK ⟨h1, h2, h3.trans hst.df, h4, hst.gr.trans h5⟩)
    rw [List.cons_append]
    unfold wpList
    split
    · rename_i hw; rw [if_pos hw] at this; exact .inl this
    · rename_i hw; rw [if_neg hw] at this; exact this

theorem compD_ok (hm : P.follows .mixedOrders = true) {base : Nat} {fn : Func} {rs : List (Nat × Option (Bool × Nat))} {loud : List FuncId} {σ₀ : Store} {R : AV → Store → Prop} {κ₀ : Key} {Im₀ : Addr → Prop} {w₀ : World} (hrs : fn.results.toList.mapM (compRes P) = some rs) (hs₀ : SRel base κ₀ Im₀ σ₀ w₀) :
    ∀ (c : Code) (d : ADef) (f : Frame) (σ : Store) (κ : Key) (Im : Addr → Prop) (a : Act) (w : World), compD P fn.ntmps loud c = some d → awp P d.pre (DPre P d σ₀ R rs) f σ → St base κ₀ Im₀ w₀ fn.ntmps [] f σ κ Im a w →
    c.wp P (bodyPostD P fn fun e w' => ∃ r σ' v κ' Im', e = .returned v ∧ R r σ' ∧ SRel base κ' Im' σ' w' ∧ Grow base κ₀ Im₀ w₀ κ' Im' w' ∧ VR κ' Im' w' r v) a w := by
  have hret : ∀ (f : Frame) (σ : Store) (κ : Key) (Im : Addr → Prop) (a : Act) (w : World), AtRet σ₀ R rs f σ → St base κ₀ Im₀ w₀ fn.ntmps [] f σ κ Im a w →
      Leaves P fn a.tmps (fun e w' => ∃ r σ' v κ' Im', e = .returned v ∧ R r σ' ∧ SRel base κ' Im' σ' w' ∧ Grow base κ₀ Im₀ w₀ κ' Im' w' ∧ VR κ' Im' w' r v) a.defers .returning w := by
    intro f σ κ Im a w h hst
    rw [hst.df]
    exact ret_ok hrs hs₀ hst.fr hst.st hst.gr h
  intro c
  induction c with
  | seq x y _ ihy =>
    intro d f σ κ Im a w hd h hst
    simp only [compD] at hd
    refine wp_seq ?_
    split at hd
    · rename_i l t hdef
      simp only [Option.some.injEq] at hd; subst hd
      change awpOps P (DMid P ⟨.skip, l, t, comp P fn.ntmps loud y⟩ σ₀ R rs) l f σ at h
      unfold deferOf at hdef
      split at hdef
      case h_2 => cases hdef
      rename_i rid ops _
      split at hdef
      case h_2 => cases hdef
      rename_i o rest hrev
      split at hdef
      case h_2 => cases hdef
      rename_i c' hop hg hdst
      split at hdef
      case h_2 => cases hdef
      rename_i t' hcal
      split at hdef
      case isFalse => cases hdef
      rename_i hargs
      simp only [Option.some.injEq, Prod.mk.injEq] at hdef
      obtain ⟨rfl, rfl⟩ := hdef
      have hops : ops.toList = rest.reverse ++ [o] := by
        have := congrArg List.reverse hrev
        simpa using this
      have hargs0 : c'.args = #[] := by simpa using hargs
      refine wp_region_list ?_
      rw [hops]
      refine ops_tail (loud := loud) (tail := [o]) (fun f σ κ Im a w hmid hst => ?_) rest.reverse f σ κ Im a w h hst
      obtain ⟨g, cap, hft, hb, hpost⟩ := hmid
      have hv := hst.fr t'
      rw [hft] at hv
      obtain ⟨vs, us, hval, h1, h2⟩ := hv.fn_inv
      have hvs : vs = [] := List.eq_nil_of_length_eq_zero h1.1.symm
      subst hvs
      have hev : a.eval (.tmp t') = .func (.func g) #[] us.toArray := hval
      have hexec : (execOp a.eval o).run P w = .ok (.defer { target := .fn (.func g) us.toArray, args := #[] }) w := by
        simp [execOp, hop, resolve, hcal, hev, Deferred.ofValue, hargs0]
      unfold wpList
      rw [if_pos (by simp [Region.wanted, hg])]
      refine .inl ?_
      unfold Oper.wp
      rw [hexec, Oper.upon_defer, hst.df, hdst]
      show y.wp P _ { a with defers := [{ target := .fn (.func g) us.toArray, args := #[] }] } w
      refine code_ok hm (N := fn.ntmps) (loud := loud) (D := [{ target := .fn (.func g) us.toArray, args := #[] }]) (κ₀ := κ) (Im₀ := Im) (w₀ := w) y _ _ f σ κ Im _ w ?_ hpost ⟨hst.fr, hst.sz, rfl, hst.st, Grow.refl _ _ _ _⟩
      intro e f' σ' κ' Im' a' w' hQ hst'
      have key : DCalls P g cap σ' (AtRet σ₀ R rs f') → Leaves P fn a'.tmps (fun e w' => ∃ r σ' v κ' Im', e = .returned v ∧ R r σ' ∧ SRel base κ' Im' σ' w' ∧ Grow base κ₀ Im₀ w₀ κ' Im' w' ∧ VR κ' Im' w' r v) a'.defers .returning w' := by
        intro hd
        rw [hst'.df]
        refine ⟨by simp, _, _, g, us.toArray, rfl, ?_, ?_⟩
        · simp only [invoke, Array.empty_append]; exact callFunc_ok hb _ _
        · refine (hd base κ' Im' w' us hst'.st (h2.grow hst'.gr)).mono ?_
          rintro e u' w'' ⟨rfl, v, σ'', κ'', Im'', rfl, hat, h3, h4⟩
          exact ret_ok hrs hs₀ (hst'.fr.grow h4) h3 ((hst.gr.trans hst'.gr).trans h4) hat
      cases e with
      | normal => exact key hQ
      | ret => exact key hQ
      | exit id => exact hQ.elim
    · simp only [Option.map_eq_some_iff] at hd
      obtain ⟨d', hd', rfl⟩ := hd
      refine code_ok hm (N := fn.ntmps) (loud := loud) (D := []) x _ _ f σ κ Im a w (fun e f σ κ Im a w h1 h2 => ?_) h hst
      cases e with
      | normal => exact ihy d' f σ κ Im a w hd' h1 h2
      | exit id => exact h1.elim
      | ret => exact hret _ _ _ _ _ _ h1 h2
  | _ => intro d f σ κ Im a w hd; simp [compD] at hd

/-- A CONTRACT OF A FUNCTION WITH A DEFERRED CALL. -/
theorem acalls_of_awp_defer (hm : P.follows .mixedOrders = true) {loud : List FuncId} {f : FuncId} {af : AFuncD} {args : List AV} {σ₀ : Store} {R : AV → Store → Prop} (hf : compFnD P loud f = some af) (hargs : args.length ≤ af.n)
    (h : awp P af.code.pre (DPre P af.code σ₀ R af.res) (initF args) σ₀) : ACalls P f args σ₀ R := by
  unfold compFnD at hf
  simp only [Option.bind_eq_bind, Option.bind_eq_some_iff, Option.pure_def, Option.some.injEq] at hf
  obtain ⟨fn, hfn, c, hbody, rs, hrs, d, hd, rfl⟩ := hf
  intro base κ Im w vs hs hv
  obtain ⟨i1, i2⟩ := init_ok (fn := fn) hargs hv
  exact calls_of_wp_defers hfn hbody (compD_ok hm hrs hs c d (initF args) σ₀ κ Im _ w hd h ⟨i2, i1, rfl, hs, Grow.refl _ _ _ _⟩)
end
end Go.Abs
