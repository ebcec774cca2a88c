/- Abstract machine, part 22: helpers for proofs over abstract code. -/
import Derived.Test.YtkclehdmdnfikaaDoorAbsU
set_option linter.unusedSimpArgs false
set_option linter.unusedVariables false
set_option linter.constructorNameAsVariable false
namespace Go.Abs
open Go.RowKit
variable {G : Globs}

theorem wrap_i64 {x : Int} (h1 : -9223372036854775808 ≤ x) (h2 : x ≤ 9223372036854775807) : IntKind.wrap .i64 x = x := by
  simp [IntKind.wrap, IntKind.signed, IntKind.bits]; omega
/-- Calls of function values, out of simp's reach. -/
def cv [Globs] (P : Program) (K : AV → Store → Prop) (_ : Tg K) (σ : Store) (x : AV) (args : List AV) : Prop := match x with
  | .fn (.func g) first captured => hasBody P g = true ∧ acall P σ K g (first ++ args ++ captured)
  | _ => False
def qv [Globs] (P : Program) (K : AV → Store → Prop) (_ : Tg K) (σ : Store) (x : AV) (args : List AV) : Prop := match x with
  | .fn (.func g) first captured => hasBody P g = true ∧ aqcall P σ K g (first ++ args ++ captured)
  | _ => False
theorem op_callv {P : Program} {K : AV → Store → Prop} {f : Frame} {σ : Store} (x : Opd) (args : List Opd) : awpOp P K f σ (.callv x args) = cv P K (.mk _) σ (x.ev f) (args.map (·.ev f)) := rfl
theorem op_qcallv {P : Program} {K : AV → Store → Prop} {f : Frame} {σ : Store} (x : Opd) (args : List Opd) : awpOp P K f σ (.qcallv x args) = qv P K (.mk _) σ (x.ev f) (args.map (·.ev f)) := rfl
theorem cv_fn {P : Program} {K : AV → Store → Prop} {t : Tg K} {σ : Store} {g : FuncId} {first captured args : List AV} (hb : hasBody P g = true) (h : ac P K t σ g (first ++ args ++ captured)) : cv P K t σ (.fn (.func g) first captured) args := ⟨hb, h⟩
theorem qv_fn {P : Program} {K : AV → Store → Prop} {t : Tg K} {σ : Store} {g : FuncId} {first captured args : List AV} (hb : hasBody P g = true) (h : qc P K t σ g (first ++ args ++ captured)) : qv P K t σ (.fn (.func g) first captured) args := ⟨hb, h⟩
attribute [simp ↓] op_callv op_qcallv

/-- A loop's round, out of simp's reach. -/
def lb [Globs] (P : Program) (I : Nat → Frame → Store → Prop) (_ : Tg I) (c : ACode) (_ : Tg c) (Q : AExit → Frame → Store → Prop) (_ : Tg Q) : Prop :=
  ∀ n f σ, I n f σ → awp P c (AExit.then (fun f' σ' => ∃ n', n' < n ∧ I n' f' σ') Q) f σ
theorem lp_start {P : Program} {c : ACode} {tc : Tg c} {Q : AExit → Frame → Store → Prop} {tq : Tg Q} {f : Frame} {tf : Tg f} {σ : Store} {ts : Tg σ} (I : Nat → Frame → Store → Prop) (n : Nat) (h0 : I n f σ) (hr : lb P I (.mk _) c tc Q tq) : lp P c tc Q tq f tf σ ts := ⟨I, n, h0, hr⟩
/-- A round's end, out of simp's reach. -/
def nx (n : Nat) (I : Nat → Frame → Store → Prop) (_ : Tg I) (f : Frame) (_ : Tg f) (σ : Store) : Prop := ∃ n', n' < n ∧ I n' f σ
def lbx [Globs] (P : Program) (I : Nat → Frame → Store → Prop) (tI : Tg I) (c : ACode) (_ : Tg c) (Q : AExit → Frame → Store → Prop) (_ : Tg Q) : Prop :=
  ∀ n f σ, I n f σ → awp P c (AExit.then (fun f' σ' => nx n I tI f' (.mk f') σ') Q) f σ
theorem lp_startx {P : Program} {c : ACode} {tc : Tg c} {Q : AExit → Frame → Store → Prop} {tq : Tg Q} {f : Frame} {tf : Tg f} {σ : Store} {ts : Tg σ} (I : Nat → Frame → Store → Prop) (n : Nat) (h0 : I n f σ) (hr : lbx P I (.mk _) c tc Q tq) : lp P c tc Q tq f tf σ ts := ⟨I, n, h0, hr⟩
theorem nx_intro {n : Nat} {I : Nat → Frame → Store → Prop} {tI : Tg I} {f : Frame} {tf : Tg f} {σ : Store} (m : Nat) (hm : m < n) (h : I m f σ) : nx n I tI f tf σ := ⟨m, hm, h⟩
/-- The frame at a loop's start, as a name. -/
theorem lp_gen {P : Program} {c : ACode} {tc : Tg c} {Q : AExit → Frame → Store → Prop} {tq : Tg Q} {f : Frame} {tf : Tg f} {σ : Store} {ts : Tg σ} (F : Frame → Prop) (hF : F f) (h : ∀ f0, F f0 → lp P c tc Q tq f0 (.mk f0) σ ts) : lp P c tc Q tq f tf σ ts := h f hF
theorem coe_fn1 {σ : Store} {lend : Bool} {f : Fn} {x y : AV} (h : Coe σ lend x y) : Coe σ lend (.fn f [] [x]) (.fn f [] [y]) :=
  .fn f [] [] [x] [y] rfl rfl (fun j hj => by simp at hj) (fun j hj hj' => by
    have : j = 0 := by simp at hj; omega
    subst this; exact h)
theorem coe_ptr {σ : Store} {id : Nat} {t : TypeId} {cells : List AV} (h : σ[id]? = some (.var t cells)) (hp : cells.all AV.pure = true) (h1 : cells.all AV.one = true) : Coe σ true (.ptr id 0) (.rptr cells) := by
  have := Coe.ptr (lend := true) id 0 t cells cells h rfl (Nat.zero_le _) rfl (fun j hj hj' => .pure _ (List.all_eq_true.1 hp _ (List.getElem_mem hj))) (List.all_eq_true.1 h1)
  simpa using this
@[simp] theorem int_beq (x y : Int) : (x == y) = decide (x = y) := rfl
@[simp] theorem int_bne (x y : Int) : (x != y) = !decide (x = y) := rfl
theorem cb_ndec {p : Prop} [Decidable p] {A B : Prop} {s : Tg A} {t : Tg B} (h1 : ¬ p → A) (h2 : p → B) : cb A B s t (.bool (!decide p)) := ⟨_, rfl, fun h => h1 (by simpa using h), fun h => h2 (by simpa using h)⟩

/-! ## A function's end, out of simp's reach -/
def er [Globs] (σ₀ : Store) (R : AV → Store → Prop) (_ : Tg R) (res : List (Nat × Option (Bool × Nat))) (f : Frame) (_ : Tg f) (σ : Store) : Prop := AtRet σ₀ R res f σ
def EPost [Globs] (σ₀ : Store) (R : AV → Store → Prop) (_ : Tg R) (res : List (Nat × Option (Bool × Nat))) : AExit → Frame → Store → Prop
  | .exit _, _, _ => False
  | _, f, σ => AtRet σ₀ R res f σ
theorem epost_ret {σ₀ : Store} {R : AV → Store → Prop} {t : Tg R} {res : List (Nat × Option (Bool × Nat))} {f : Frame} {σ : Store} : EPost σ₀ R t res .ret f σ = er σ₀ R t res f (.mk _) σ := rfl
theorem epost_normal {σ₀ : Store} {R : AV → Store → Prop} {t : Tg R} {res : List (Nat × Option (Bool × Nat))} {f : Frame} {σ : Store} : EPost σ₀ R t res .normal f σ = er σ₀ R t res f (.mk _) σ := rfl
attribute [simp ↓] epost_ret epost_normal

theorem acalls_of_awp_e {P : Program} (hm : P.follows .mixedOrders = true) {loud : List FuncId} {g : FuncId} {af : AFunc} {args : List AV} {σ₀ : Store} {R : AV → Store → Prop} (hf : compFn P loud g = some af) (hargs : decide (args.length ≤ af.n) = true)
    (h : awp P af.code (EPost σ₀ R (.mk _) af.res) (initF args) σ₀) : ACalls P g args σ₀ R :=
  acalls_of_awp hm hf (of_decide_eq_true hargs) (awp_mono (fun e f σ h0 => by cases e <;> exact h0) h)

/-- What a function hands back, its own entries given up. -/
def retAt [Globs] (m : Nat) (σ : Store) (f : Frame) (res : List (Nat × Option (Bool × Nat))) : Option AV := (res.mapM (evalRes σ f)).bind fun rs => fin σ m (tupOf rs)

theorem er_intro {σ₀ : Store} {R : AV → Store → Prop} {t : Tg R} {res : List (Nat × Option (Bool × Nat))} {f : Frame} {tf : Tg f} {σ : Store} (s1 : Store) (r : AV) (hr : retAt σ₀.length σ f res = some r) (extra : Store) (hσ : σ = s1 ++ extra) (hlen : s1.length = σ₀.length)
    (hu : ∀ (id : Nat) (e : Entry), s1[id]? = some e → σ₀[id]? = some e ∨ e.under σ₀.length = true) (hR : R r s1) : er σ₀ R t res f tf σ := by
  unfold retAt at hr
  simp only [Option.bind_eq_some_iff] at hr
  obtain ⟨rs, h1, h2⟩ := hr
  refine ⟨rs, r, σ₀.length, h1, .inl h2, Nat.le_refl _, fun id e hid he => ?_, ?_⟩
  · subst hσ
    rw [List.getElem?_append_left (by omega)] at he
    exact hu id e he
  · subst hσ
    rw [List.take_append_of_le_length (by omega), List.take_of_length_le (by omega)]
    exact hR

/-- .. where more is kept, and handed back as it is. -/
theorem er_keep {σ₀ : Store} {R : AV → Store → Prop} {t : Tg R} {res : List (Nat × Option (Bool × Nat))} {f : Frame} {tf : Tg f} {σ : Store} (s1 : Store) (r : AV) (hr : (res.mapM (evalRes σ f)).map tupOf = some r) (extra : Store) (hσ : σ = s1 ++ extra) (hlen : σ₀.length ≤ s1.length) (hru : r.under s1.length = true)
    (hu : ∀ (id : Nat) (e : Entry), s1[id]? = some e → σ₀[id]? = some e ∨ e.under s1.length = true) (hR : R r s1) : er σ₀ R t res f tf σ := by
  simp only [Option.map_eq_some_iff] at hr
  obtain ⟨rs, h1, rfl⟩ := hr
  refine ⟨rs, _, s1.length, h1, .inr ⟨rfl, hru⟩, hlen, fun id e hid he => ?_, ?_⟩
  · subst hσ
    rw [List.getElem?_append_left (by omega)] at he
    exact hu id e he
  · subst hσ
    rw [List.take_append_of_le_length (by omega), List.take_of_length_le (by omega)]
    exact hR

/-- .. where one entry has been laid anew. -/
theorem er_set {σ : Store} {e0 : Entry} {R : AV → Store → Prop} {t : Tg R} {res : List (Nat × Option (Bool × Nat))} {f : Frame} {tf : Tg f} {σ' : Store} (id : Nat) (e : Entry) (r : AV) (extra : Store) (hr : retAt σ.length σ' f res = some r) (hσ : σ' = σ.set id e ++ extra)
    (hu : e.under σ.length = true) (hR : R r (σ.set id e)) : er (σ.set id e0) R t res f tf σ' := by
  refine er_intro (σ.set id e) r (by simpa using hr) extra hσ (by simp) (fun i x hx => ?_) hR
  by_cases hi : i = id
  · subst hi
    by_cases hlt : i < σ.length
    · rw [List.getElem?_set_self hlt] at hx
      simp only [Option.some.injEq] at hx
      subst hx
      exact .inr (by simpa using hu)
    · rw [List.getElem?_eq_none (by simp; omega)] at hx; cases hx
  · rw [List.getElem?_set_ne (fun h => hi h.symm)] at hx ⊢
    exact .inl hx
theorem er_set' {σ : Store} {e0 : Entry} {R : AV → Store → Prop} {t : Tg R} {res : List (Nat × Option (Bool × Nat))} {f : Frame} {tf : Tg f} {σ' : Store} (id : Nat) (e : Entry) (r : AV) (hr : retAt σ.length σ' f res = some r) (hσ : σ' = σ.set id e)
    (hu : e.under σ.length = true) (hR : R r (σ.set id e)) : er (σ.set id e0) R t res f tf σ' := er_set id e r [] hr (by simpa using hσ) hu hR

/-! ## A function with a deferred call -/
def edp [Globs] (P : Program) (g : FuncId) (cap : List AV) (σ₀ : Store) (R : AV → Store → Prop) (_ : Tg R) (res : List (Nat × Option (Bool × Nat))) (f : Frame) (_ : Tg f) (σ : Store) : Prop := DCalls P g cap σ (AtRet σ₀ R res f)
def EDPost [Globs] (P : Program) (g : FuncId) (cap : List AV) (σ₀ : Store) (R : AV → Store → Prop) (t : Tg R) (res : List (Nat × Option (Bool × Nat))) : AExit → Frame → Store → Prop
  | .exit _, _, _ => False
  | _, f, σ => edp P g cap σ₀ R t res f (.mk f) σ
theorem edpost_ret {P : Program} {g : FuncId} {cap : List AV} {σ₀ : Store} {R : AV → Store → Prop} {t : Tg R} {res : List (Nat × Option (Bool × Nat))} {f : Frame} {σ : Store} : EDPost P g cap σ₀ R t res .ret f σ = edp P g cap σ₀ R t res f (.mk _) σ := rfl
theorem edpost_normal {P : Program} {g : FuncId} {cap : List AV} {σ₀ : Store} {R : AV → Store → Prop} {t : Tg R} {res : List (Nat × Option (Bool × Nat))} {f : Frame} {σ : Store} : EDPost P g cap σ₀ R t res .normal f σ = edp P g cap σ₀ R t res f (.mk _) σ := rfl
def edm [Globs] (P : Program) (d : ADef) (_ : Tg d) (σ₀ : Store) (R : AV → Store → Prop) (_ : Tg R) (res : List (Nat × Option (Bool × Nat))) (f : Frame) (_ : Tg f) (σ : Store) : Prop := DMid P d σ₀ R res f σ
def EDPre [Globs] (P : Program) (d : ADef) (td : Tg d) (σ₀ : Store) (R : AV → Store → Prop) (t : Tg R) (res : List (Nat × Option (Bool × Nat))) : AExit → Frame → Store → Prop
  | .exit _, _, _ => False
  | .ret, f, σ => er σ₀ R t res f (.mk f) σ
  | .normal, f, σ => awpOps P (fun f σ => edm P d td σ₀ R t res f (.mk f) σ) d.ins f σ
theorem edpre_normal {P : Program} {d : ADef} {td : Tg d} {σ₀ : Store} {R : AV → Store → Prop} {t : Tg R} {res : List (Nat × Option (Bool × Nat))} {f : Frame} {σ : Store} :
    EDPre P d td σ₀ R t res .normal f σ = awpOps P (fun f σ => edm P d td σ₀ R t res f (.mk f) σ) d.ins f σ := rfl
attribute [simp ↓] edpost_ret edpost_normal edpre_normal
theorem edm_intro {P : Program} {d : ADef} {td : Tg d} {σ₀ : Store} {R : AV → Store → Prop} {t : Tg R} {res : List (Nat × Option (Bool × Nat))} {f : Frame} {tf : Tg f} {σ : Store} (g : FuncId) (cap : List AV) (h1 : f d.t = .fn (.func g) [] cap) (h2 : hasBody P g = true)
    (h3 : awp P d.post (EDPost P g cap σ₀ R (.mk _) res) f σ) : edm P d td σ₀ R t res f tf σ := ⟨g, cap, h1, h2, awp_mono (fun e f σ h0 => by cases e <;> exact h0) h3⟩
theorem acalls_of_awp_de {P : Program} (hm : P.follows .mixedOrders = true) {loud : List FuncId} {f : FuncId} {af : AFuncD} {args : List AV} {σ₀ : Store} {R : AV → Store → Prop} (hf : compFnD P loud f = some af) (hargs : decide (args.length ≤ af.n) = true)
    (h : awp P af.code.pre (EDPre P af.code (.mk _) σ₀ R (.mk _) af.res) (initF args) σ₀) : ACalls P f args σ₀ R :=
  acalls_of_awp_defer hm hf (of_decide_eq_true hargs) (awp_mono (fun e f σ h0 => by cases e <;> exact h0) h)
/-- The deferred call, from its code; behind it the function's end. -/
theorem edp_of {P : Program} (hm : P.follows .mixedOrders = true) {loud : List FuncId} {g : FuncId} {af : AFunc} {cap : List AV} {σ₀ : Store} {R : AV → Store → Prop} {t : Tg R} {res : List (Nat × Option (Bool × Nat))} {f : Frame} {tf : Tg f} {σ : Store} (hf : compFn P loud g = some af) (hargs : decide (cap.length ≤ af.n) = true)
    (h : awp P af.code (EPost σ (fun _ σ' => er σ₀ R t res f tf σ') (.mk _) af.res) (initF cap) σ) : edp P g cap σ₀ R t res f tf σ :=
  dcalls_of_awp hm hf (of_decide_eq_true hargs) (awp_mono (fun e f σ h0 => by cases e <;> exact h0) h)

/-! ## A slice to which a call appends -/
def rowV (id : Nat) (l : List (List AV)) : AV := if l = [] then .nils else .row id l.length
def rowE (e size : Nat) (l : List (List AV)) (im : Bool) : Store := if l = [] then [] else [.row e size l im]
theorem rowV_nil (id : Nat) : rowV id [] = .nils := rfl
theorem rowE_nil (e size : Nat) (im : Bool) : rowE e size [] im = [] := rfl
theorem rowV_cons {id : Nat} {l : List (List AV)} (h : l ≠ []) : rowV id l = .row id l.length := if_neg h
theorem rowE_cons {e size : Nat} {l : List (List AV)} {im : Bool} (h : l ≠ []) : rowE e size l im = [.row e size l im] := if_neg h

theorem ap_acc {K : AV → Store → Prop} {t : Tg K} {σ : Store} {e size bytes : Nat} {y : AV} (l m : List (List AV)) (im : Bool) (hv : view (σ ++ rowE e size l im) y = some m) (hs : 0 < size) (hl : ∀ c ∈ m, c.length = size) (hf : im = true → Fixed (σ ++ rowE e size l im) y m) (h0 : m ≠ [])
    (hb : (l.length + m.length) * bytes ≤ 140737488355328) (h63 : l.length + m.length ≤ 9223372036854775807) (hK : K (rowV σ.length (l ++ m)) (σ ++ rowE e size (l ++ m) im)) : ap K t (σ ++ rowE e size l im) e size bytes (rowV σ.length l) y := by
  have hlm : l ++ m ≠ [] := by simp [h0]
  by_cases hl0 : l = []
  · subst hl0
    rw [rowV_nil]
    rw [rowE_nil, List.append_nil] at hv hf ⊢
    rw [List.nil_append, rowV_cons h0, rowE_cons h0] at hK
    exact ap_new im m hv hs hl hf (by simpa using hb) (by simpa using h63) hK
  · rw [rowV_cons hl0]
    rw [rowV_cons hlm, rowE_cons hlm, List.length_append] at hK
    rw [rowE_cons hl0] at hv hf ⊢
    refine ap_row l m im (by simp) hv hs hl hf rfl hb h63 ?_
    have : (σ ++ [Entry.row e size l im]).set σ.length (.row e size (l ++ m) im) = σ ++ [.row e size (l ++ m) im] := by
      rw [List.set_append_right _ _ (Nat.le_refl _)]; simp
    rw [this]
    exact hK
theorem ap_acc_at {K : AV → Store → Prop} {t : Tg K} {pre : Store} {n : Nat} (hn : pre.length = n) {e size bytes : Nat} (l m : List (List AV)) (im : Bool) (hs : 0 < size) (hl : ∀ c ∈ m, c.length = size) (h0 : m ≠ [])
    (hb : (l.length + m.length) * bytes ≤ 140737488355328) (h63 : l.length + m.length ≤ 9223372036854775807) (hK : K (rowV n (l ++ m)) (pre ++ rowE e size (l ++ m) im)) : ap K t (pre ++ rowE e size l im) e size bytes (rowV n l) (.lst m) := by
  subst hn
  exact ap_acc l m im rfl hs hl (fun _ => .inl rfl) h0 hb h63 hK
theorem fin1_acc {σ : Store} {e size : Nat} {l : List (List AV)} {m : Nat} : fin1 (σ ++ rowE e size l true) m (rowV σ.length l) = some (.lst l) := by
  by_cases hl0 : l = []
  · subst hl0; rfl
  · rw [rowV_cons hl0, rowE_cons hl0]; simp [fin1, fz]
theorem fz_acc {σ : Store} {e size : Nat} {l : List (List AV)} {m k : Nat} : fz (σ ++ rowE e size l true) m (k + 1) (rowV σ.length l) = some (.lst l) := by
  by_cases hl0 : l = []
  · subst hl0; rfl
  · rw [rowV_cons hl0, rowE_cons hl0]; simp [fz]
theorem view_acc {σ : Store} {e size : Nat} {l : List (List AV)} {im : Bool} : view (σ ++ rowE e size l im) (rowV σ.length l) = some l := by
  by_cases hl0 : l = []
  · subst hl0; rfl
  · rw [rowV_cons hl0, rowE_cons hl0]; simp [view]
theorem fin1_acc_at {pre : Store} {n : Nat} (hn : pre.length = n) {e size : Nat} {l : List (List AV)} {m : Nat} : fin1 (pre ++ rowE e size l true) m (rowV n l) = some (.lst l) := by
  subst hn; exact fin1_acc
theorem view_acc_at {pre : Store} {n : Nat} (hn : pre.length = n) {e size : Nat} {l : List (List AV)} {im : Bool} : view (pre ++ rowE e size l im) (rowV n l) = some l := by
  subst hn; exact view_acc
theorem fin_rowV (σ : Store) (m id : Nat) (l : List (List AV)) : fin σ m (rowV id l) = fin1 σ m (rowV id l) := by
  unfold rowV; split <;> rfl
theorem finT_rowV (σ : Store) (m id : Nat) (l : List (List AV)) : finT σ m (rowV id l) = fin1 σ m (rowV id l) := by
  unfold rowV; split <;> rfl
theorem rowV_one (id : Nat) (l : List (List AV)) : (rowV id l).one = true := by
  unfold rowV; split <;> rfl
theorem rowV_cells (id : Nat) (l : List (List AV)) : (rowV id l).cells = [rowV id l] := by
  unfold rowV; split <;> rfl
attribute [simp high] rowV_one rowV_cells fin_rowV finT_rowV
theorem set_app {σ l : Store} {id : Nat} (e : Entry) (h : id < σ.length) : σ.set id e ++ l = (σ ++ l).set id e := (List.set_append_left _ _ h).symm
/-- A slice that is made, out of simp's reach. -/
def ms (K : AV → Store → Prop) (_ : Tg K) (σ : Store) (e size bytes : Nat) (zero : List AV) (len cap : AV) : Prop := ∃ n c, natOf len = some n ∧ natOf cap = some c ∧ n ≤ c ∧ c * bytes ≤ 140737488355328 ∧ c ≤ 9223372036854775807 ∧ 0 < size ∧ zero.length = size ∧
  K (.row σ.length n) (σ ++ [.row e size (List.replicate n zero) false])
theorem op_mkslice {P : Program} {K : AV → Store → Prop} {f : Frame} {σ : Store} (e size bytes : Nat) (zero : List AV) (len cap : Opd) : awpOp P K f σ (.mkslice e size bytes zero len cap) = ms K (.mk _) σ e size bytes zero (len.ev f) (cap.ev f) := rfl
attribute [simp ↓] op_mkslice
theorem ms_intro {K : AV → Store → Prop} {t : Tg K} {σ : Store} {e size bytes : Nat} {zero : List AV} {k k' : IntKind} {x y : Int} (n : Nat) (hx : x = n) (hy : y = n) (hb : n * bytes ≤ 140737488355328) (h63 : n ≤ 9223372036854775807) (hs : 0 < size) (hz : zero.length = size)
    (hK : K (.row σ.length n) (σ ++ [.row e size (List.replicate n zero) false])) : ms K t σ e size bytes zero (.int k x) (.int k' y) := by
  subst hx; subst hy
  exact ⟨n, n, by simp [natOf], by simp [natOf], Nat.le_refl _, hb, h63, hs, hz, hK⟩
theorem gh_skip {P : Program} {Q : AExit → Frame → Store → Prop} {f : Frame} {σ : Store} (h : Q .normal f σ) : awp P .gh Q f σ := .inl h
theorem gh_frz {P : Program} {Q : AExit → Frame → Store → Prop} {f : Frame} {σ σ' : Store} (hz : Frz σ σ') (h : Q .normal f σ') : awp P .gh Q f σ := .inr ⟨σ', hz, h⟩
theorem pure_under (m : Nat) : ∀ {v : AV}, v.pure = true → v.under m = true
  | .ptr .., h | .row .., h | .rowp .., h | .map .., h | .sub .., h | .asl .., h => by simp [AV.pure] at h
  | .fn _ a b, h => by
    simp only [AV.pure, Bool.and_eq_true, List.all_eq_true, List.mem_attach, forall_const, Subtype.forall] at h
    simp only [AV.under, Bool.and_eq_true, List.all_eq_true, List.mem_attach, forall_const, Subtype.forall]
    exact ⟨fun x hx => pure_under m (h.1 x hx), fun x hx => pure_under m (h.2 x hx)⟩
  | .iface _ v, h => by
    simp only [AV.pure] at h
    simp only [AV.under]
    exact pure_under m h
  | .agg l, h => by
    simp only [AV.pure, List.all_eq_true, List.mem_attach, forall_const, Subtype.forall] at h
    simp only [AV.under, List.all_eq_true, List.mem_attach, forall_const, Subtype.forall]
    exact fun x hx => pure_under m (h x hx)
  | .tup l, h => by
    simp only [AV.pure, List.all_eq_true, List.mem_attach, forall_const, Subtype.forall] at h
    simp only [AV.under, List.all_eq_true, List.mem_attach, forall_const, Subtype.forall]
    exact fun x hx => pure_under m (h x hx)
  | .junk, _ | .int .., _ | .bool _, _ | .str _, _ | .flt .., _ | .nilp, _ | .rptr _, _ | .nils, _ | .lst _, _ | .nilm, _ | .nilf, _ | .nili, _ | .any _, _ | .gp .., _ => by simp [AV.under]
end Go.Abs
