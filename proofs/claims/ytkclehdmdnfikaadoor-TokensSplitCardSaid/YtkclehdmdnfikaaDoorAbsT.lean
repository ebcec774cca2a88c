/- Abstract machine, part 20: rules by which 'simp' walks through abstract code. -/
import Derived.Test.YtkclehdmdnfikaaDoorAbsS
set_option linter.unusedSimpArgs false
set_option linter.unusedVariables false
set_option linter.constructorNameAsVariable false
namespace Go.Abs
open Go.RowKit
variable {G : Globs}
universe u

/-- A tag that keeps 'simp' out of what it names: what a later argument's type depends on is left alone. -/
inductive Tg {α : Sort u} : α → Type u
  | mk (a : α) : Tg a

/-- A step that yields something. -/
def ob (K : AV → Prop) (_ : Tg K) (o : Option AV) : Prop := ∃ r, o = some r ∧ K r
theorem ob_some (a : AV) (K : AV → Prop) (t : Tg K) : ob K t (some a) = K a := by simp [ob]
theorem ob_none (K : AV → Prop) (t : Tg K) : ob K t none = False := by simp [ob]

/-- A branch. -/
def cb (A B : Prop) (_ : Tg A) (_ : Tg B) (v : AV) : Prop := ∃ b, v = .bool b ∧ (b = true → A) ∧ (b = false → B)
theorem cb_true (A B : Prop) (s : Tg A) (t : Tg B) : cb A B s t (.bool true) = A := by simp [cb]
theorem cb_false (A B : Prop) (s : Tg A) (t : Tg B) : cb A B s t (.bool false) = B := by simp [cb]
theorem cb_intro {b : Bool} {A B : Prop} {s : Tg A} {t : Tg B} (h1 : b = true → A) (h2 : b = false → B) : cb A B s t (.bool b) := ⟨b, rfl, h1, h2⟩
theorem cb_dec {p : Prop} [Decidable p] {A B : Prop} {s : Tg A} {t : Tg B} (h1 : p → A) (h2 : ¬ p → B) : cb A B s t (.bool (decide p)) := ⟨_, rfl, fun h => h1 (by simpa using h), fun h => h2 (by simpa using h)⟩

/-- A guard. -/
def gd (b : Bool) (A B : Prop) (_ : Tg A) (_ : Tg B) (v : AV) : Prop := ∃ w, Wants v b w ∧ (w = true → A) ∧ (w = false → B)
theorem gd_of (b w : Bool) (A B : Prop) (s : Tg A) (t : Tg B) (v : AV) (h : Wants v b w) (hu : ∀ w', Wants v b w' → w' = w) : gd b A B s t v = if w = true then A else B := by
  unfold gd
  apply propext
  constructor
  · rintro ⟨w', h1, h2, h3⟩
    have := hu w' h1
    subst this
    cases w' with
    | true => exact h2 rfl
    | false => exact h3 rfl
  · intro h1
    refine ⟨w, h, fun e => ?_, fun e => ?_⟩ <;> (subst e; exact h1)
theorem wants_bool (c b : Bool) : Wants (.bool c) b (c == b) := .inr ⟨c, rfl, rfl⟩
theorem wants_bool_eq (c b w : Bool) (h : Wants (.bool c) b w) : w = (c == b) := by
  rcases h with ⟨h, _⟩ | ⟨c', h, rfl⟩
  · cases h
  · cases h; rfl
theorem gd_tt (A B : Prop) (s : Tg A) (t : Tg B) : gd true A B s t (.bool true) = A := gd_of _ _ _ _ _ _ _ (wants_bool _ _) (wants_bool_eq _ _)
theorem gd_tf (A B : Prop) (s : Tg A) (t : Tg B) : gd false A B s t (.bool true) = B := gd_of _ _ _ _ _ _ _ (wants_bool _ _) (wants_bool_eq _ _)
theorem gd_ft (A B : Prop) (s : Tg A) (t : Tg B) : gd true A B s t (.bool false) = B := gd_of _ _ _ _ _ _ _ (wants_bool _ _) (wants_bool_eq _ _)
theorem gd_ff (A B : Prop) (s : Tg A) (t : Tg B) : gd false A B s t (.bool false) = A := gd_of _ _ _ _ _ _ _ (wants_bool _ _) (wants_bool_eq _ _)
theorem gd_u (b : Bool) (A B : Prop) (s : Tg A) (t : Tg B) : gd b A B s t (.any undef) = B := gd_of _ false _ _ _ _ _ (.inl ⟨rfl, rfl⟩) fun w' h => by
  rcases h with ⟨_, h⟩ | ⟨c, h, _⟩
  · exact h
  · cases h
theorem gd_t {b : Bool} {A B : Prop} {s : Tg A} {t : Tg B} (h1 : b = true → A) (h2 : b = false → B) : gd true A B s t (.bool b) := ⟨b, by simpa using wants_bool b true, h1, h2⟩
theorem gd_f {b : Bool} {A B : Prop} {s : Tg A} {t : Tg B} (h1 : b = false → A) (h2 : b = true → B) : gd false A B s t (.bool b) := ⟨!b, by simpa using wants_bool b false, fun h => h1 (by simpa using h), fun h => h2 (by simpa using h)⟩
theorem gd_dt {p : Prop} [Decidable p] {A B : Prop} {s : Tg A} {t : Tg B} (h1 : p → A) (h2 : ¬ p → B) : gd true A B s t (.bool (decide p)) := gd_t (fun h => h1 (by simpa using h)) (fun h => h2 (by simpa using h))
theorem gd_df {p : Prop} [Decidable p] {A B : Prop} {s : Tg A} {t : Tg B} (h1 : ¬ p → A) (h2 : p → B) : gd false A B s t (.bool (decide p)) := gd_f (fun h => h1 (by simpa using h)) (fun h => h2 (by simpa using h))

/-- Calls, out of simp's reach. -/
def ac [Globs] (P : Program) (K : AV → Store → Prop) (_ : Tg K) (σ : Store) (g : FuncId) (args : List AV) : Prop := acall P σ K g args
def qc [Globs] (P : Program) (K : AV → Store → Prop) (_ : Tg K) (σ : Store) (g : FuncId) (args : List AV) : Prop := aqcall P σ K g args
/-- A loop, out of simp's reach. -/
def lp [Globs] (P : Program) (c : ACode) (_ : Tg c) (Q : AExit → Frame → Store → Prop) (_ : Tg Q) (f : Frame) (_ : Tg f) (σ : Store) (_ : Tg σ) : Prop := awp P (.loop c) Q f σ

section
variable {P : Program} {K : AV → Store → Prop} {f : Frame} {σ : Store}

theorem awpOps_nil {Q : Frame → Store → Prop} : awpOps P Q [] f σ = Q f σ := propext Iff.rfl
theorem awpOps_cons {Q : Frame → Store → Prop} {d : Option Nat} {o : AOp} {rest : List AIns} : awpOps P Q (⟨none, d, o⟩ :: rest) f σ = awpOp P (fun r σ' => awpOps P Q rest (f.put d r) σ') f σ o := propext Iff.rfl
theorem awpOps_guard {Q : Frame → Store → Prop} {t : Nat} {b : Bool} {d : Option Nat} {o : AOp} {rest : List AIns} :
    awpOps P Q (⟨some (t, b), d, o⟩ :: rest) f σ = gd b (awpOp P (fun r σ' => awpOps P Q rest (f.put d r) σ') f σ o) (awpOps P Q rest (f.put d (.any undef)) σ) (.mk _) (.mk _) (f t) := propext Iff.rfl
theorem op_mv (x : Opd) : awpOp P K f σ (.mv x) = ob (fun r => K r σ) (.mk _) (pstep σ f (.mv x)) := propext Iff.rfl
theorem op_pick (c a b : Opd) : awpOp P K f σ (.pick c a b) = ob (fun r => K r σ) (.mk _) (pstep σ f (.pick c a b)) := propext Iff.rfl
theorem op_bin (op : BinOp) (x y : Opd) : awpOp P K f σ (.bin op x y) = ob (fun r => K r σ) (.mk _) (pstep σ f (.bin op x y)) := propext Iff.rfl
theorem op_beq (n : Bool) (x y : Opd) : awpOp P K f σ (.beq n x y) = ob (fun r => K r σ) (.mk _) (pstep σ f (.beq n x y)) := propext Iff.rfl
theorem op_eqs (n : Bool) (k : List Nat) (x y : Opd) : awpOp P K f σ (.eqs n k x y) = ob (fun r => K r σ) (.mk _) (pstep σ f (.eqs n k x y)) := propext Iff.rfl
theorem op_not (x : Opd) : awpOp P K f σ (.not x) = ob (fun r => K r σ) (.mk _) (pstep σ f (.not x)) := propext Iff.rfl
theorem op_neg (x : Opd) : awpOp P K f σ (.neg x) = ob (fun r => K r σ) (.mk _) (pstep σ f (.neg x)) := propext Iff.rfl
theorem op_conv (k : IntKind) (x : Opd) : awpOp P K f σ (.conv k x) = ob (fun r => K r σ) (.mk _) (pstep σ f (.conv k x)) := propext Iff.rfl
theorem op_ext (x : Opd) (i : Nat) : awpOp P K f σ (.ext x i) = ob (fun r => K r σ) (.mk _) (pstep σ f (.ext x i)) := propext Iff.rfl
theorem op_build (z : List AV) (p : List (Nat × Nat × Opd)) : awpOp P K f σ (.build z p) = ob (fun r => K r σ) (.mk _) (pstep σ f (.build z p)) := propext Iff.rfl
theorem op_field (o s : Nat) (a : Bool) (x : Opd) : awpOp P K f σ (.field o s a x) = ob (fun r => K r σ) (.mk _) (pstep σ f (.field o s a x)) := propext Iff.rfl
theorem op_load (a : Bool) (s : Nat) (x : Opd) : awpOp P K f σ (.load a s x) = ob (fun r => K r σ) (.mk _) (pstep σ f (.load a s x)) := propext Iff.rfl
theorem op_nilck (x : Opd) : awpOp P K f σ (.nilck x) = ob (fun r => K r σ) (.mk _) (pstep σ f (.nilck x)) := propext Iff.rfl
theorem op_faddr (o : Nat) (x : Opd) : awpOp P K f σ (.faddr o x) = ob (fun r => K r σ) (.mk _) (pstep σ f (.faddr o x)) := propext Iff.rfl
theorem op_iaddr (s : Nat) (x i : Opd) : awpOp P K f σ (.iaddr s x i) = ob (fun r => K r σ) (.mk _) (pstep σ f (.iaddr s x i)) := propext Iff.rfl
theorem op_aaddr (l s : Nat) (x i : Opd) : awpOp P K f σ (.aaddr l s x i) = ob (fun r => K r σ) (.mk _) (pstep σ f (.aaddr l s x i)) := propext Iff.rfl
theorem op_sidx (x i : Opd) : awpOp P K f σ (.sidx x i) = ob (fun r => K r σ) (.mk _) (pstep σ f (.sidx x i)) := propext Iff.rfl
theorem op_aidx (l s : Nat) (a : Bool) (x i : Opd) : awpOp P K f σ (.aidx l s a x i) = ob (fun r => K r σ) (.mk _) (pstep σ f (.aidx l s a x i)) := propext Iff.rfl
theorem op_slen (x : Opd) : awpOp P K f σ (.slen x) = ob (fun r => K r σ) (.mk _) (pstep σ f (.slen x)) := propext Iff.rfl
theorem op_len (x : Opd) : awpOp P K f σ (.len x) = ob (fun r => K r σ) (.mk _) (pstep σ f (.len x)) := propext Iff.rfl
theorem op_sslc (x : Opd) (l h : Option Opd) : awpOp P K f σ (.sslc x l h) = ob (fun r => K r σ) (.mk _) (pstep σ f (.sslc x l h)) := propext Iff.rfl
theorem op_slc (s : Nat) (x : Opd) (l h : Option Opd) : awpOp P K f σ (.slc s x l h) = ob (fun r => K r σ) (.mk _) (pstep σ f (.slc s x l h)) := propext Iff.rfl
theorem op_mm (m : Bool) (x y : Opd) : awpOp P K f σ (.mm m x y) = ob (fun r => K r σ) (.mk _) (pstep σ f (.mm m x y)) := propext Iff.rfl
theorem op_mkfn (g : Fn) (a b : List Opd) : awpOp P K f σ (.mkfn g a b) = ob (fun r => K r σ) (.mk _) (pstep σ f (.mkfn g a b)) := propext Iff.rfl
theorem op_mkif (t : TypeId) (x : Opd) : awpOp P K f σ (.mkif t x) = ob (fun r => K r σ) (.mk _) (pstep σ f (.mkif t x)) := propext Iff.rfl
theorem op_alloc (ty : Nat) (cells : List AV) : awpOp P K f σ (.alloc ty cells) = K (.ptr σ.length 0) (σ ++ [.var ty cells]) := propext Iff.rfl
theorem op_call (g : FuncId) (args : List Opd) : awpOp P K f σ (.call g args) = ac P K (.mk _) σ g (args.map (·.ev f)) := propext Iff.rfl
theorem op_qcall (g : FuncId) (args : List Opd) : awpOp P K f σ (.qcall g args) = qc P K (.mk _) σ g (args.map (·.ev f)) := propext Iff.rfl
/-- A store. -/
def sb (K : Store → Prop) (_ : Tg K) (o : Option Store) : Prop := ∃ r, o = some r ∧ K r
theorem sb_some (a : Store) (K : Store → Prop) (t : Tg K) : sb K t (some a) = K a := by simp [sb]
def putOp (σ : Store) (size : Nat) (x v : AV) : Option Store := if v.cells.length = size ∧ v.cells.all AV.one = true then putAt σ x v.cells else none
theorem op_store (n : Nat) (x v : Opd) : awpOp P K f σ (.store n x v) = sb (fun σ' => K .junk σ') (.mk _) (putOp σ n (x.ev f) (v.ev f)) := by
  unfold putOp sb
  simp only [awpOp]
  apply propext
  constructor
  · rintro ⟨σ', h1, h2, h3, h4⟩
    exact ⟨σ', by rw [if_pos ⟨h1, List.all_eq_true.2 h2⟩]; exact h3, h4⟩
  · rintro ⟨σ', h1, h2⟩
    split at h1
    · rename_i hc; exact ⟨σ', hc.1, List.all_eq_true.1 hc.2, h1, h2⟩
    · cases h1
def boxOp (v : AV) : Option AV := if v.cells.all AV.one = true then some (.agg v.cells) else none
theorem op_box (ty : Nat) (x : Opd) (h : (x.ev f).cells.all AV.one = true) : awpOp P K f σ (.box ty x) = K (.ptr σ.length 0) (σ ++ [.var ty (x.ev f).cells]) := by
  simp only [awpOp]; exact propext ⟨fun h' => h'.2, fun h' => ⟨List.all_eq_true.1 h, h'⟩⟩
def lstOp (σ : Store) (f : Frame) (size : Nat) (zero : List AV) (n : Nat) (parts : List (Nat × Opd)) : Option AV :=
  (parts.mapM fun (p : Nat × Opd) => (share σ (p.2.ev f)).bind fun v => if v.cells.length = size ∧ v.cells.all AV.one then some (p.1 * size, v.cells) else none).map fun ps => .lst (chunks n size (lay (List.replicate n zero).flatten ps))
theorem op_mklst (e size : Nat) (zero : List AV) (n : Nat) (parts : List (Nat × Opd)) : awpOp P K f σ (.mklst e size zero n parts) = ob (fun r => K r σ) (.mk _) (lstOp σ f size zero n parts) := by
  unfold ob lstOp
  simp only [awpOp]
  apply propext
  constructor
  · rintro ⟨ps, h1, h2⟩; exact ⟨_, by rw [h1]; rfl, h2⟩
  · rintro ⟨r, h1, h2⟩
    simp only [Option.map_eq_some_iff] at h1
    obtain ⟨ps, h3, rfl⟩ := h1
    exact ⟨ps, h3, h2⟩

/-- The elements of a list. -/
def AV.els : AV → List (List AV)
  | .lst l => l
  | _ => []
def rowOp (f : Frame) (size : Nat) (zero : List AV) (n : Nat) (parts : List (Nat × Opd)) : Option AV :=
  if 0 < size then (parts.mapM fun (p : Nat × Opd) => if (p.2.ev f).cells.length = size ∧ (p.2.ev f).cells.all AV.one then some (p.1 * size, (p.2.ev f).cells) else none).map fun ps => .lst (chunks n size (lay (List.replicate n zero).flatten ps)) else none
theorem op_mkrow (e size : Nat) (zero : List AV) (n : Nat) (parts : List (Nat × Opd)) : awpOp P K f σ (.mkrow e size zero n parts) = ob (fun r => K (.row σ.length n) (σ ++ [.row e size r.els false])) (.mk _) (rowOp f size zero n parts) := by
  unfold ob rowOp
  simp only [awpOp]
  apply propext
  constructor
  · rintro ⟨ps, h1, h2, h3⟩; exact ⟨.lst (chunks n size (lay (List.replicate n zero).flatten ps)), by rw [if_pos h2, h1]; rfl, h3⟩
  · rintro ⟨r, h1, h2⟩
    split at h1
    case isFalse => cases h1
    rename_i hs
    simp only [Option.map_eq_some_iff] at h1
    obtain ⟨ps, h3, rfl⟩ := h1
    exact ⟨ps, h3, hs, h2⟩

theorem op_px (o : XOp) : awpOp P K f σ (.px o) = ob (fun r => K r σ) (.mk _) (pstep σ f (.px o)) := propext Iff.rfl
theorem op_tobytes (x : Opd) : awpOp P K f σ (.tobytes x) = ob (fun r => K r σ) (.mk _) (bytesStep (x.ev f)) := propext Iff.rfl
theorem op_mkmap : awpOp P K f σ (.ex .mkmap) = K (.map σ.length) (σ ++ [.mp []]) := propext ⟨fun ⟨_, _, ⟨h1, h2⟩, h⟩ => by subst h1; subst h2; exact h, fun h => ⟨_, _, ⟨rfl, rfl⟩, h⟩⟩
def msetOp (σ : Store) (kind : Nat) (X k v : AV) : Option Store := match X with
  | .map id => match σ[id]? with
    | some (.mp kv) => if k.pure = true then (mapPut kind k v kv).map fun kv' => σ.set id (.mp kv') else none
    | _ => none
  | _ => none
theorem op_mset (kind : Nat) (x k v : Opd) : awpOp P K f σ (.ex (.mset kind x k v)) = sb (fun σ' => K .junk σ') (.mk _) (msetOp σ kind (x.ev f) (k.ev f) (v.ev f)) := by
  apply propext
  constructor
  · rintro ⟨r, σ', ⟨rfl, id, kv, kv', h1, h2, h3, h4, rfl⟩, hK⟩
    exact ⟨_, by simp only [msetOp, h1, h2, h3, h4, if_true, Option.map_some], hK⟩
  · rintro ⟨σ', h, hK⟩
    unfold msetOp at h
    split at h
    case h_2 => cases h
    rename_i id he
    split at h
    case h_2 => cases h
    rename_i kv hkv
    split at h
    case isFalse => cases h
    rename_i hp
    simp only [Option.map_eq_some_iff] at h
    obtain ⟨kv', h1, rfl⟩ := h
    exact ⟨_, _, ⟨rfl, id, kv, kv', he, hkv, hp, h1, rfl⟩, hK⟩
theorem op_clr (size : Nat) (z : List AV) (x : Opd) : awpOp P K f σ (.ex (.clr size z x)) = sb (fun σ' => K (.tup []) σ') (.mk _) (clrAt σ size z (x.ev f)) :=
  propext ⟨fun ⟨_, _, ⟨h1, h2⟩, h⟩ => ⟨_, h2, by subst h1; exact h⟩, fun ⟨_, h2, h⟩ => ⟨_, _, ⟨rfl, h2⟩, h⟩⟩
/-- An append, out of simp's reach. -/
def ap (K : AV → Store → Prop) (_ : Tg K) (σ : Store) (e size bytes : Nat) (x y : AV) : Prop := ∃ m, view σ y = some m ∧ 0 < size ∧ (∀ c ∈ m, c.length = size) ∧
  match x with
  | .nils => (m = [] ∧ K .nils σ) ∨ ∃ im, (im = true → Fixed σ y m) ∧ m.length * bytes ≤ 140737488355328 ∧ m.length ≤ 9223372036854775807 ∧ K (.row σ.length m.length) (σ ++ [.row e size m im])
  | .row id n => ∃ els im, σ[id]? = some (.row e size els im) ∧ (im = true → Fixed σ y m) ∧ els.length = n ∧ (n + m.length) * bytes ≤ 140737488355328 ∧ n + m.length ≤ 9223372036854775807 ∧ K (.row id (n + m.length)) (σ.set id (.row e size (els ++ m) im))
  | _ => False
theorem op_app (e size bytes : Nat) (x y : Opd) : awpOp P K f σ (.app e size bytes x y) = ap K (.mk _) σ e size bytes (x.ev f) (y.ev f) := propext Iff.rfl
theorem ap_new (im : Bool) {t : Tg K} {e size bytes : Nat} {y : AV} (m : List (List AV)) (hv : view σ y = some m) (hs : 0 < size) (hl : ∀ c ∈ m, c.length = size) (hf : im = true → Fixed σ y m) (hb : m.length * bytes ≤ 140737488355328) (h63 : m.length ≤ 9223372036854775807)
    (hK : K (.row σ.length m.length) (σ ++ [.row e size m im])) : ap K t σ e size bytes .nils y := ⟨m, hv, hs, hl, .inr ⟨im, hf, hb, h63, hK⟩⟩
theorem ap_nil {t : Tg K} {e size bytes : Nat} {y : AV} (hv : view σ y = some []) (hs : 0 < size) (hK : K .nils σ) : ap K t σ e size bytes .nils y := ⟨[], hv, hs, by simp, .inl ⟨rfl, hK⟩⟩
theorem ap_row {t : Tg K} {e size bytes id n : Nat} {y : AV} (els m : List (List AV)) (im : Bool) (he : σ[id]? = some (.row e size els im)) (hv : view σ y = some m) (hs : 0 < size) (hl : ∀ c ∈ m, c.length = size) (hf : im = true → Fixed σ y m) (hn : els.length = n) (hb : (n + m.length) * bytes ≤ 140737488355328) (h63 : n + m.length ≤ 9223372036854775807)
    (hK : K (.row id (n + m.length)) (σ.set id (.row e size (els ++ m) im))) : ap K t σ e size bytes (.row id n) y := ⟨m, hv, hs, hl, els, im, he, hf, hn, hb, h63, hK⟩

/-- An append of a text, out of simp's reach. -/
def aps (K : AV → Store → Prop) (_ : Tg K) (σ : Store) (e : Nat) (x y : AV) : Prop := ∃ l, y = .str l ∧
  match x with
  | .nils => (l = [] ∧ K .nils σ) ∨ ∃ im, l.length ≤ 140737488355328 ∧ K (.row σ.length l.length) (σ ++ [.row e 1 (byteEls l) im])
  | .row id n => ∃ els im, σ[id]? = some (.row e 1 els im) ∧ els.length = n ∧ n + l.length ≤ 140737488355328 ∧ K (.row id (n + l.length)) (σ.set id (.row e 1 (els ++ byteEls l) im))
  | _ => False
theorem op_apps (e : Nat) (x y : Opd) : awpOp P K f σ (.apps e x y) = aps K (.mk _) σ e (x.ev f) (y.ev f) := propext Iff.rfl
theorem aps_new (im : Bool) {t : Tg K} {e : Nat} {l : List UInt8} (hb : l.length ≤ 140737488355328) (hK : K (.row σ.length l.length) (σ ++ [.row e 1 (byteEls l) im])) : aps K t σ e .nils (.str l) := ⟨l, rfl, .inr ⟨im, hb, hK⟩⟩
theorem aps_nil {t : Tg K} {e : Nat} (hK : K .nils σ) : aps K t σ e .nils (.str []) := ⟨[], rfl, .inl ⟨rfl, hK⟩⟩
theorem aps_row {t : Tg K} {e id n : Nat} {l : List UInt8} (els : List (List AV)) (im : Bool) (he : σ[id]? = some (.row e 1 els im)) (hn : els.length = n) (hb : n + l.length ≤ 140737488355328)
    (hK : K (.row id (n + l.length)) (σ.set id (.row e 1 (els ++ byteEls l) im))) : aps K t σ e (.row id n) (.str l) := ⟨l, rfl, els, im, he, hn, hb, hK⟩
theorem awp_all_nil {Q : AExit → Frame → Store → Prop} : awp P (.all []) Q f σ = True := propext ⟨fun _ => trivial, fun _ _ h => by cases h⟩
theorem awp_all_cons {Q : AExit → Frame → Store → Prop} (l : List AIns) (ls : List (List AIns)) : awp P (.all (l :: ls)) Q f σ = (awpOps P (Q .normal) l f σ ∧ awp P (.all ls) Q f σ) :=
  propext ⟨fun h => ⟨h l (by simp), fun l' h' => h l' (by simp [h'])⟩, fun h l' h' => by
    rcases List.mem_cons.1 h' with rfl | h'
    · exact h.1
    · exact h.2 l' h'⟩
theorem awp_skip {Q : AExit → Frame → Store → Prop} : awp P .skip Q f σ = Q .normal f σ := propext Iff.rfl
theorem awp_ops {Q : AExit → Frame → Store → Prop} (l : List AIns) : awp P (.ops l) Q f σ = awpOps P (Q .normal) l f σ := propext Iff.rfl
theorem awp_seq {Q : AExit → Frame → Store → Prop} (a b : ACode) : awp P (.seq a b) Q f σ = awp P a (AExit.then (awp P b Q) Q) f σ := propext Iff.rfl
theorem awp_cond {Q : AExit → Frame → Store → Prop} (c : Opd) (x y : ACode) : awp P (.cond c x y) Q f σ = cb (awp P x Q f σ) (awp P y Q f σ) (.mk _) (.mk _) (c.ev f) := propext Iff.rfl
theorem awp_loop {Q : AExit → Frame → Store → Prop} (c : ACode) : awp P (.loop c) Q f σ = lp P c (.mk _) Q (.mk _) f (.mk _) σ (.mk _) := propext Iff.rfl
theorem awp_block {Q : AExit → Frame → Store → Prop} (id : Nat) (c : ACode) : awp P (.block id c) Q f σ = awp P c (AExit.inBlock id Q) f σ := propext Iff.rfl
theorem awp_exit {Q : AExit → Frame → Store → Prop} (id : Nat) : awp P (.exit id) Q f σ = Q (.exit id) f σ := propext Iff.rfl
theorem awp_ret {Q : AExit → Frame → Store → Prop} : awp P .ret Q f σ = Q .ret f σ := propext Iff.rfl
theorem then_normal {N : Frame → Store → Prop} {Q : AExit → Frame → Store → Prop} : AExit.then N Q .normal f σ = N f σ := propext Iff.rfl
theorem then_normal' {N : Frame → Store → Prop} {Q : AExit → Frame → Store → Prop} : AExit.then N Q .normal = N := funext fun _ => funext fun _ => propext Iff.rfl
theorem then_exit {N : Frame → Store → Prop} {Q : AExit → Frame → Store → Prop} (id : Nat) : AExit.then N Q (.exit id) f σ = Q (.exit id) f σ := propext Iff.rfl
theorem then_ret {N : Frame → Store → Prop} {Q : AExit → Frame → Store → Prop} : AExit.then N Q .ret f σ = Q .ret f σ := propext Iff.rfl
theorem inBlock_normal {id : Nat} {Q : AExit → Frame → Store → Prop} : AExit.inBlock id Q .normal f σ = Q .normal f σ := propext Iff.rfl
theorem inBlock_normal' {id : Nat} {Q : AExit → Frame → Store → Prop} : AExit.inBlock id Q .normal = Q .normal := funext fun _ => funext fun _ => propext Iff.rfl
theorem inBlock_ret {id : Nat} {Q : AExit → Frame → Store → Prop} : AExit.inBlock id Q .ret f σ = Q .ret f σ := propext Iff.rfl
theorem inBlock_exit {id id' : Nat} {Q : AExit → Frame → Store → Prop} : AExit.inBlock id Q (.exit id') f σ = if id' = id then Q .normal f σ else Q (.exit id') f σ := propext Iff.rfl
theorem post_ret {σ₀ : Store} {R : AV → Store → Prop} {res : List (Nat × Option (Bool × Nat))} : BodyPost σ₀ R res .ret f σ = AtRet σ₀ R res f σ := propext Iff.rfl
theorem post_normal {σ₀ : Store} {R : AV → Store → Prop} {res : List (Nat × Option (Bool × Nat))} : BodyPost σ₀ R res .normal f σ = AtRet σ₀ R res f σ := propext Iff.rfl

theorem lp_intro {c : ACode} {tc : Tg c} {Q : AExit → Frame → Store → Prop} {tq : Tg Q} {tf : Tg f} {ts : Tg σ} (I : Nat → Frame → Store → Prop) (n : Nat) (h0 : I n f σ) (hr : ∀ n f σ, I n f σ → awp P c (AExit.then (fun f' σ' => ∃ n', n' < n ∧ I n' f' σ') Q) f σ) : lp P c tc Q tq f tf σ ts := ⟨I, n, h0, hr⟩

theorem awp_mono : ∀ {c : ACode} {Q Q' : AExit → Frame → Store → Prop} {f : Frame} {σ : Store}, (∀ e f σ, Q e f σ → Q' e f σ) → awp P c Q f σ → awp P c Q' f σ
  | .skip, _, _, _, _, h, h' => h _ _ _ h'
  | .ops [], _, _, _, _, h, h' => h _ _ _ h'
  | .ops (i :: l), Q, Q', _, _, h, h' => awpIns_mono (fun f σ h0 => awp_mono (c := .ops l) (Q := Q) (Q' := Q') h h0) h'
  | .all ls, Q, Q', _, _, h, h' => fun l hl => awp_mono (c := .ops l) (Q := Q) (Q' := Q') h (h' l hl)
  | .seq a b, _, _, _, _, h, h' => awp_mono (c := a) (fun e f σ h0 => by cases e <;> first | exact awp_mono (c := b) h h0 | exact h _ _ _ h0) h'
  | .cond c x y, _, _, _, _, h, ⟨b, h1, h2, h3⟩ => ⟨b, h1, fun hb => awp_mono (c := x) h (h2 hb), fun hb => awp_mono (c := y) h (h3 hb)⟩
  | .block id c, _, _, _, _, h, h' => awp_mono (c := c) (fun e f σ h0 => by
      cases e with
      | normal => exact h _ _ _ h0
      | exit id' => simp only [AExit.inBlock] at h0 ⊢; split <;> rename_i hh <;> simp only [hh, if_true, if_false] at h0 <;> exact h _ _ _ h0
      | ret => exact h _ _ _ h0) h'
  | .loop c, _, _, _, _, h, ⟨I, n, h0, hr⟩ => ⟨I, n, h0, fun n f σ hI => awp_mono (c := c) (fun e f σ h1 => by cases e <;> first | exact h1 | exact h _ _ _ h1) (hr n f σ hI)⟩
  | .exit id, _, _, _, _, h, h' => h _ _ _ h'
  | .ret, _, _, _, _, h, h' => h _ _ _ h'
  | .gh, _, _, _, _, h, h' => h'.imp (h _ _ _) fun ⟨σ', h1, h2⟩ => ⟨σ', h1, h _ _ _ h2⟩
  | .bad, _, _, _, _, _, h' => h'

/-- A function's answer that speaks of no entry. -/
def retVal [Globs] (σ : Store) (f : Frame) (res : List (Nat × Option (Bool × Nat))) : Option AV := (res.mapM (evalRes σ f)).bind fun rs => fin σ 0 (tupOf rs)
def PPost [Globs] (R : AV → Prop) (_ : Tg R) (res : List (Nat × Option (Bool × Nat))) : AExit → Frame → Store → Prop
  | .exit _, _, _ => False
  | _, f, σ => ob R (.mk _) (retVal σ f res)
theorem ppost_ret {R : AV → Prop} {t : Tg R} {res : List (Nat × Option (Bool × Nat))} : PPost R t res .ret f σ = ob R (.mk _) (retVal σ f res) := propext Iff.rfl
theorem ppost_normal {R : AV → Prop} {t : Tg R} {res : List (Nat × Option (Bool × Nat))} : PPost R t res .normal f σ = ob R (.mk _) (retVal σ f res) := propext Iff.rfl

/-- A CONTRACT OF A FUNCTION THAT TOUCHES NO ENTRY. -/
theorem pcalls_of_awp (hm : P.follows .mixedOrders = true) {loud : List FuncId} {g : FuncId} {af : AFunc} {args : List AV} {R : AV → Prop} (hf : compFn P loud g = some af) (hargs : decide (args.length ≤ af.n) = true)
    (h : awp P af.code (PPost R (.mk _) af.res) (initF args) []) : PCalls P g args R := by
  refine acalls_of_awp hm hf (of_decide_eq_true hargs) (awp_mono (fun e f σ h0 => ?_) h)
  have key : ob R (.mk _) (retVal σ f af.res) → AtRet [] (fun r σ' => σ' = [] ∧ R r) af.res f σ := by
    rintro ⟨r, h1, h2⟩
    unfold retVal at h1
    simp only [Option.bind_eq_some_iff] at h1
    obtain ⟨rs, h3, h4⟩ := h1
    exact ⟨rs, r, 0, h3, .inl h4, Nat.le_refl _, fun id e h => absurd h (Nat.not_lt_zero _), by simp, h2⟩
  cases e with
  | normal => exact key h0
  | ret => exact key h0
  | exit id => exact h0.elim

theorem coeL_same {lend : Bool} {args : List AV} (ha : args.all AV.pure = true) : CoeL σ lend args args := by
  induction args with
  | nil => exact .nil
  | cons a l ih =>
    simp only [List.all_cons, Bool.and_eq_true] at ha
    exact .cons (.pure a ha.1) (ih ha.2)
theorem ac_same {g : FuncId} {args : List AV} {R : AV → Prop} {t : Tg K} (hc : PCalls P g args R) (ha : args.all AV.pure = true) (hK : ∀ r, R r → K r σ) : ac P K t σ g args := .inl ⟨args, R, coeL_same ha, hc, hK⟩
theorem ac_pure {g : FuncId} {args args' : List AV} {R : AV → Prop} {t : Tg K} (hc : PCalls P g args' R) (ha : CoeL σ false args args') (hK : ∀ r, R r → K r σ) : ac P K t σ g args := .inl ⟨args', R, ha, hc, hK⟩
theorem ac_lent {g : FuncId} {args args' : List AV} {R : AV → Prop} {t : Tg K} (hc : PCalls P g args' R) (ha : CoeL σ true args args') (hK : ∀ r, R r → rig r = true ∧ K r σ) : ac P K t σ g args := .inr (.inl ⟨args', R, ha, hc, hK⟩)
theorem ac_eff {g : FuncId} {args : List AV} {R : AV → Store → Prop} {t : Tg K} (hc : ACalls P g args σ R) (hK : ∀ r σ', R r σ' → K r σ') : ac P K t σ g args := .inr (.inr (hc.mono hK))
theorem qc_same {g : FuncId} {args : List AV} {r : AV} {t : Tg K} (hc : PCalls P g args (fun r' => r' = r)) (ha : args.all AV.pure = true) (hr : rig r = true) (hK : K r σ) : qc P K t σ g args := ⟨args, r, coeL_same ha, hc, hr, hK⟩
theorem qc_lent {g : FuncId} {args args' : List AV} {r : AV} {t : Tg K} (hc : PCalls P g args' (fun r' => r' = r)) (ha : CoeL σ true args args') (hr : rig r = true) (hK : K r σ) : qc P K t σ g args := ⟨args', r, ha, hc, hr, hK⟩
end

theorem one_junk  : AV.one (.junk) = false := rfl
theorem cells_junk  : AV.cells (.junk) = [.junk] := rfl
theorem one_int (k : IntKind) (n : Int) : AV.one (.int k n) = true := rfl
theorem cells_int (k : IntKind) (n : Int) : AV.cells (.int k n) = [.int k n] := rfl
theorem one_bool (b : Bool) : AV.one (.bool b) = true := rfl
theorem cells_bool (b : Bool) : AV.cells (.bool b) = [.bool b] := rfl
theorem one_str (s : List UInt8) : AV.one (.str s) = true := rfl
theorem cells_str (s : List UInt8) : AV.cells (.str s) = [.str s] := rfl
theorem one_flt (k : FloatKind) (b : Nat) : AV.one (.flt k b) = true := rfl
theorem cells_flt (k : FloatKind) (b : Nat) : AV.cells (.flt k b) = [.flt k b] := rfl
theorem one_nilp  : AV.one (.nilp) = true := rfl
theorem cells_nilp  : AV.cells (.nilp) = [.nilp] := rfl
theorem one_ptr (i o : Nat) : AV.one (.ptr i o) = true := rfl
theorem cells_ptr (i o : Nat) : AV.cells (.ptr i o) = [.ptr i o] := rfl
theorem one_rptr (c : List AV) : AV.one (.rptr c) = true := rfl
theorem cells_rptr (c : List AV) : AV.cells (.rptr c) = [.rptr c] := rfl
theorem one_nils  : AV.one (.nils) = true := rfl
theorem cells_nils  : AV.cells (.nils) = [.nils] := rfl
theorem one_lst (l : List (List AV)) : AV.one (.lst l) = true := rfl
theorem cells_lst (l : List (List AV)) : AV.cells (.lst l) = [.lst l] := rfl
theorem one_row (i n : Nat) : AV.one (.row i n) = true := rfl
theorem cells_row (i n : Nat) : AV.cells (.row i n) = [.row i n] := rfl
theorem one_rowp (i n s k o : Nat) : AV.one (.rowp i n s k o) = true := rfl
theorem cells_rowp (i n s k o : Nat) : AV.cells (.rowp i n s k o) = [.rowp i n s k o] := rfl
theorem one_map (i : Nat) : AV.one (.map i) = true := rfl
theorem cells_map (i : Nat) : AV.cells (.map i) = [.map i] := rfl
theorem one_nilm  : AV.one (.nilm) = true := rfl
theorem cells_nilm  : AV.cells (.nilm) = [.nilm] := rfl
theorem one_fn (f : Fn) (a b : List AV) : AV.one (.fn f a b) = true := rfl
theorem cells_fn (f : Fn) (a b : List AV) : AV.cells (.fn f a b) = [.fn f a b] := rfl
theorem one_nilf  : AV.one (.nilf) = true := rfl
theorem cells_nilf  : AV.cells (.nilf) = [.nilf] := rfl
theorem one_iface (t : TypeId) (v : AV) : AV.one (.iface t v) = true := rfl
theorem cells_iface (t : TypeId) (v : AV) : AV.cells (.iface t v) = [.iface t v] := rfl
theorem one_nili  : AV.one (.nili) = true := rfl
theorem cells_nili  : AV.cells (.nili) = [.nili] := rfl
theorem one_agg (l : List AV) : AV.one (.agg l) = false := rfl
theorem cells_agg (l : List AV) : AV.cells (.agg l) = l := rfl
theorem one_tup (l : List AV) : AV.one (.tup l) = false := rfl
theorem cells_tup (l : List AV) : AV.cells (.tup l) = [.tup l] := rfl
theorem one_gp (g o : Nat) : AV.one (.gp g o) = true := rfl
theorem cells_gp (g o : Nat) : AV.cells (.gp g o) = [.gp g o] := rfl
theorem one_asl (i o n s : Nat) : AV.one (.asl i o n s) = true := rfl
theorem cells_asl (i o n s : Nat) : AV.cells (.asl i o n s) = [.asl i o n s] := rfl
attribute [simp] one_asl cells_asl
theorem one_sub (i n s l h : Nat) : AV.one (.sub i n s l h) = true := rfl
theorem cells_sub (i n s l h : Nat) : AV.cells (.sub i n s l h) = [.sub i n s l h] := rfl
attribute [simp] one_gp cells_gp one_sub cells_sub
theorem one_any (v : Value) : AV.one (.any v) = false := rfl
theorem cells_any (v : Value) : AV.cells (.any v) = [.any v] := rfl
attribute [simp] one_junk cells_junk one_int cells_int one_bool cells_bool one_str cells_str one_flt cells_flt one_nilp cells_nilp one_ptr cells_ptr one_rptr cells_rptr one_nils cells_nils one_lst cells_lst one_row cells_row one_rowp cells_rowp one_map cells_map one_nilm cells_nilm one_fn cells_fn one_nilf cells_nilf one_iface cells_iface one_nili cells_nili one_agg cells_agg one_tup cells_tup one_any cells_any
theorem fin1_int (σ : Store) (m : Nat) (k : IntKind) (n : Int) : fin1 σ m (.int k n) = some (.int k n) := by simp [fin1, AV.under]
theorem fin1_bool (σ : Store) (m : Nat) (b : Bool) : fin1 σ m (.bool b) = some (.bool b) := by simp [fin1, AV.under]
theorem fin1_str (σ : Store) (m : Nat) (s : List UInt8) : fin1 σ m (.str s) = some (.str s) := by simp [fin1, AV.under]
theorem fin1_flt (σ : Store) (m : Nat) (k : FloatKind) (b : Nat) : fin1 σ m (.flt k b) = some (.flt k b) := by simp [fin1, AV.under]
theorem fin1_nilp (σ : Store) (m : Nat)  : fin1 σ m (.nilp) = some (.nilp) := by simp [fin1, AV.under]
theorem fin1_rptr (σ : Store) (m : Nat) (c : List AV) : fin1 σ m (.rptr c) = some (.rptr c) := by simp [fin1, AV.under]
theorem fin1_lst (σ : Store) (m : Nat) (l : List (List AV)) : fin1 σ m (.lst l) = some (.lst l) := by simp [fin1, AV.under]
theorem fin1_nilm (σ : Store) (m : Nat)  : fin1 σ m (.nilm) = some (.nilm) := by simp [fin1, AV.under]
theorem fin1_nilf (σ : Store) (m : Nat)  : fin1 σ m (.nilf) = some (.nilf) := by simp [fin1, AV.under]
theorem fin1_nili (σ : Store) (m : Nat)  : fin1 σ m (.nili) = some (.nili) := by simp [fin1, AV.under]
theorem fin1_gp (σ : Store) (m : Nat) (g o : Nat) : fin1 σ m (.gp g o) = some (.gp g o) := by simp [fin1, AV.under]
theorem fin1_map (σ : Store) (m i : Nat) : fin1 σ m (.map i) = if i < m then some (.map i) else none := by simp [fin1, AV.under]
theorem fin1_sub (σ : Store) (m i n size lo hi : Nat) : fin1 σ m (.sub i n size lo hi) = (fz σ m 3 (.row i n)).bind fun
    | .lst l => if ∀ c ∈ l, c.length = size then some (.lst ((l.take hi).drop lo)) else none
    | _ => none := rfl
attribute [simp] fin1_gp fin1_map fin1_sub
theorem fin1_nils (σ : Store) (m : Nat) : fin1 σ m .nils = some (.lst []) := rfl
theorem fin1_row (σ : Store) (m i n : Nat) : fin1 σ m (.row i n) = fz σ m 3 (.row i n) := rfl
theorem fin1_ptr (σ : Store) (m i o : Nat) : fin1 σ m (.ptr i o) = if i < m then some (.ptr i o) else none := by simp [fin1, AV.under]
theorem fin1_iface (σ : Store) (m : Nat) (t : TypeId) (v : AV) : fin1 σ m (.iface t v) = if v.under m then some (.iface t v) else none := by simp [fin1, AV.under]
theorem fin1_fn (σ : Store) (m : Nat) (g : Fn) (a b : List AV) : fin1 σ m (.fn g a b) = if (AV.fn g a b).under m then some (.fn g a b) else none := rfl
attribute [simp] fin1_int fin1_bool fin1_str fin1_flt fin1_nilp fin1_rptr fin1_lst fin1_nilm fin1_nilf fin1_nili fin1_nils fin1_row fin1_ptr fin1_iface fin1_fn
theorem view_nils (σ : Store) : view σ .nils = some [] := rfl
theorem view_lst (σ : Store) (l : List (List AV)) : view σ (.lst l) = some l := rfl
theorem view_row (σ : Store) (id n : Nat) : view σ (.row id n) = match σ[id]? with
    | some (.row _ _ els _) => if els.length = n then some els else none
    | _ => none := rfl
theorem view_sub (σ : Store) (id n size lo hi : Nat) : view σ (.sub id n size lo hi) = match σ[id]? with
    | some (.row _ size' els _) => if els.length = n ∧ size' = size then some ((els.take hi).drop lo) else none
    | _ => none := rfl
attribute [simp] view_sub
theorem view_asl (σ : Store) (id off n size : Nat) : view σ (.asl id off n size) = match σ[id]? with
    | some (.var _ cells) => if off + n * size ≤ cells.length then some (chunks n size ((cells.drop off).take (n * size))) else none
    | _ => none := rfl
attribute [simp] view_asl
theorem aview_nils (σ : Store) : aview σ .nils = some [] := rfl
theorem aview_lst (σ : Store) (l : List (List AV)) : aview σ (.lst l) = some l := rfl
theorem aview_row (σ : Store) (id n : Nat) : aview σ (.row id n) = match σ[id]? with
    | some (.row _ _ els true) => if els.length = n then some els else none
    | _ => none := rfl
attribute [simp] view_nils view_lst view_row aview_nils aview_lst aview_row
theorem fin_int (σ : Store) (m : Nat) (k : IntKind) (n : Int) : fin σ m (.int k n) = fin1 σ m (.int k n) := rfl
theorem finT_int (σ : Store) (m : Nat) (k : IntKind) (n : Int) : finT σ m (.int k n) = fin1 σ m (.int k n) := rfl
theorem fin_bool (σ : Store) (m : Nat) (b : Bool) : fin σ m (.bool b) = fin1 σ m (.bool b) := rfl
theorem finT_bool (σ : Store) (m : Nat) (b : Bool) : finT σ m (.bool b) = fin1 σ m (.bool b) := rfl
theorem fin_str (σ : Store) (m : Nat) (s : List UInt8) : fin σ m (.str s) = fin1 σ m (.str s) := rfl
theorem finT_str (σ : Store) (m : Nat) (s : List UInt8) : finT σ m (.str s) = fin1 σ m (.str s) := rfl
theorem fin_flt (σ : Store) (m : Nat) (k : FloatKind) (b : Nat) : fin σ m (.flt k b) = fin1 σ m (.flt k b) := rfl
theorem finT_flt (σ : Store) (m : Nat) (k : FloatKind) (b : Nat) : finT σ m (.flt k b) = fin1 σ m (.flt k b) := rfl
theorem fin_nilp (σ : Store) (m : Nat)  : fin σ m (.nilp) = fin1 σ m (.nilp) := rfl
theorem finT_nilp (σ : Store) (m : Nat)  : finT σ m (.nilp) = fin1 σ m (.nilp) := rfl
theorem fin_rptr (σ : Store) (m : Nat) (c : List AV) : fin σ m (.rptr c) = fin1 σ m (.rptr c) := rfl
theorem finT_rptr (σ : Store) (m : Nat) (c : List AV) : finT σ m (.rptr c) = fin1 σ m (.rptr c) := rfl
theorem fin_lst (σ : Store) (m : Nat) (l : List (List AV)) : fin σ m (.lst l) = fin1 σ m (.lst l) := rfl
theorem finT_lst (σ : Store) (m : Nat) (l : List (List AV)) : finT σ m (.lst l) = fin1 σ m (.lst l) := rfl
theorem fin_nilm (σ : Store) (m : Nat)  : fin σ m (.nilm) = fin1 σ m (.nilm) := rfl
theorem finT_nilm (σ : Store) (m : Nat)  : finT σ m (.nilm) = fin1 σ m (.nilm) := rfl
theorem fin_nilf (σ : Store) (m : Nat)  : fin σ m (.nilf) = fin1 σ m (.nilf) := rfl
theorem finT_nilf (σ : Store) (m : Nat)  : finT σ m (.nilf) = fin1 σ m (.nilf) := rfl
theorem fin_nili (σ : Store) (m : Nat)  : fin σ m (.nili) = fin1 σ m (.nili) := rfl
theorem finT_nili (σ : Store) (m : Nat)  : finT σ m (.nili) = fin1 σ m (.nili) := rfl
theorem fin_nils (σ : Store) (m : Nat)  : fin σ m (.nils) = fin1 σ m (.nils) := rfl
theorem finT_nils (σ : Store) (m : Nat)  : finT σ m (.nils) = fin1 σ m (.nils) := rfl
theorem fin_row (σ : Store) (m : Nat) (i n : Nat) : fin σ m (.row i n) = fin1 σ m (.row i n) := rfl
theorem finT_row (σ : Store) (m : Nat) (i n : Nat) : finT σ m (.row i n) = fin1 σ m (.row i n) := rfl
theorem fin_ptr (σ : Store) (m : Nat) (i o : Nat) : fin σ m (.ptr i o) = fin1 σ m (.ptr i o) := rfl
theorem finT_ptr (σ : Store) (m : Nat) (i o : Nat) : finT σ m (.ptr i o) = fin1 σ m (.ptr i o) := rfl
theorem fin_iface (σ : Store) (m : Nat) (t : TypeId) (v : AV) : fin σ m (.iface t v) = fin1 σ m (.iface t v) := rfl
theorem finT_iface (σ : Store) (m : Nat) (t : TypeId) (v : AV) : finT σ m (.iface t v) = fin1 σ m (.iface t v) := rfl
theorem fin_fn (σ : Store) (m : Nat) (g : Fn) (a b : List AV) : fin σ m (.fn g a b) = fin1 σ m (.fn g a b) := rfl
theorem finT_fn (σ : Store) (m : Nat) (g : Fn) (a b : List AV) : finT σ m (.fn g a b) = fin1 σ m (.fn g a b) := rfl
theorem fin_gp (σ : Store) (m : Nat) (i o : Nat) : fin σ m (.gp i o) = fin1 σ m (.gp i o) := rfl
theorem finT_gp (σ : Store) (m : Nat) (i o : Nat) : finT σ m (.gp i o) = fin1 σ m (.gp i o) := rfl
theorem fin_map (σ : Store) (m : Nat) (i : Nat) : fin σ m (.map i) = fin1 σ m (.map i) := rfl
theorem finT_map (σ : Store) (m : Nat) (i : Nat) : finT σ m (.map i) = fin1 σ m (.map i) := rfl
theorem fin_sub (σ : Store) (m : Nat) (i n s l h : Nat) : fin σ m (.sub i n s l h) = fin1 σ m (.sub i n s l h) := rfl
theorem finT_sub (σ : Store) (m : Nat) (i n s l h : Nat) : finT σ m (.sub i n s l h) = fin1 σ m (.sub i n s l h) := rfl
attribute [simp] fin_gp finT_gp fin_map finT_map fin_sub finT_sub
theorem fin_agg (σ : Store) (m : Nat) (l : List AV) : fin σ m (.agg l) = (finL σ m l).map .agg := rfl
theorem finT_agg (σ : Store) (m : Nat) (l : List AV) : finT σ m (.agg l) = (finL σ m l).map .agg := rfl
theorem fin_tup (σ : Store) (m : Nat) (l : List AV) : fin σ m (.tup l) = (l.mapM (finT σ m)).map .tup := rfl
attribute [simp] fin_int finT_int fin_bool finT_bool fin_str finT_str fin_flt finT_flt fin_nilp finT_nilp fin_rptr finT_rptr fin_lst finT_lst fin_nilm finT_nilm fin_nilf finT_nilf fin_nili finT_nili fin_nils finT_nils fin_row finT_row fin_ptr finT_ptr fin_iface finT_iface fin_fn finT_fn fin_agg finT_agg fin_tup
attribute [simp ↓] awpOps_nil awpOps_cons awpOps_guard op_mv op_pick op_bin op_beq op_eqs op_not op_neg op_conv op_ext op_build op_field op_load op_nilck op_faddr op_iaddr op_aaddr op_sidx op_aidx op_slen op_len op_sslc op_slc op_mm op_mkfn op_mkif op_alloc op_call op_qcall op_store op_box op_mklst op_mkrow op_app op_apps op_px op_tobytes op_mkmap op_mset op_clr awp_all_nil awp_all_cons
  awp_skip awp_ops awp_seq awp_cond awp_block awp_exit awp_ret awp_loop then_normal then_normal' then_exit then_ret inBlock_normal inBlock_normal' inBlock_ret inBlock_exit ppost_ret ppost_normal
attribute [simp] aslcStep xstep nilOf mapView lookStep mapFind bitStep bitOp shiftOp invStep bytesStep msetOp mapPut clrAt
attribute [simp] ob_some sb_some cb_true cb_false gd_tt gd_tf gd_ft gd_ff gd_u pstep abin intCmpB cellsAt oneOf initF natOf evalRes retVal tupOf finL fz AV.under AV.els rowOp Fixed AV.pure eq1 eqAll bound putOp putAt splice share share1 shareL lstOp chunks lay rig
end Go.Abs
