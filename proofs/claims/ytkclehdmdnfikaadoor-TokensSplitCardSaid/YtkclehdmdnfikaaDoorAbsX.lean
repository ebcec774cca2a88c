/- Abstract machine, part 14b: further operations: nil, bits, maps, texts and bytes. -/
import Derived.Test.YtkclehdmdnfikaaDoorAbsN
import Derived.MapKept
import Derived.Laws.BytesString
import Derived.Lib.ConvBytes
set_option linter.unusedSimpArgs false
set_option linter.unusedVariables false
set_option linter.constructorNameAsVariable false
namespace Go.Abs
open Go.RowKit
variable {G : Globs}
section
variable {P : Program} {base : Nat} {κ : Key} {Im : Addr → Prop} {w : World} {σ : Store}

theorem run_eqIn {t : TypeId} {x y : Value} {b : Bool} (h : ∀ d, (Op.equalIn (d + 1) t x y).run P w = .ok b w) : (Op.equal t x y).run P w = .ok b w := h 9999

theorem nil_0 {ms : Array (String × TypeId)} {t : TypeId} {x : Operand} {X : AV} {v : Value} {b : Bool} (hu : P.underlying t = some (.interface ms)) (hv : VR κ Im w X v) (hb : nilOf 0 X = some b) :
    (∀ op, (eqGuard op t x (.const (.nilIface)) v (.nilIface)).run P w = .ok () w) ∧ (binOp .eql t v (.nilIface)).run P w = .ok (.bool b) w ∧ (binOp .neq t v (.nilIface)).run P w = .ok (.bool !b) w := by
  unfold nilOf at hb
  split at hb <;> first | (cases hb; done) | skip
  all_goals try (exfalso; omega)
  · simp only [Option.some.injEq] at hb; subst hb
    obtain rfl : v = .nilIface := by cases hv with | im _ _ hv => cases hv; rfl
    have he := run_eqIn (P := P) (w := w) (t := t) (x := .nilIface) (y := .nilIface) (b := true) (fun d => by simp [Op.equalIn, run_underlying hu])
    exact ⟨fun op => by unfold eqGuard; cases op <;> simp, by simp [binOp, he], by simp [binOp, he]⟩
  · simp only [Option.some.injEq] at hb; subst hb
    obtain ⟨u, x', rfl⟩ : ∃ u x', v = .iface u x' := by
      cases hv with
      | im _ _ hv => cases hv; exact ⟨_, _, rfl⟩
      | iface => exact ⟨_, _, rfl⟩
    have he := run_eqIn (P := P) (w := w) (t := t) (x := .iface u x') (y := .nilIface) (b := false) (fun d => by simp [Op.equalIn, run_underlying hu])
    exact ⟨fun op => by unfold eqGuard; cases op <;> simp, by simp [binOp, he], by simp [binOp, he]⟩
theorem nil_1 {ps rs : Array TypeId} {vd : Bool} {t : TypeId} {x : Operand} {X : AV} {v : Value} {b : Bool} (hu : P.underlying t = some (.func ps rs vd)) (hv : VR κ Im w X v) (hb : nilOf 1 X = some b) :
    (∀ op, (eqGuard op t x (.const (.nilFunc)) v (.nilFunc)).run P w = .ok () w) ∧ (binOp .eql t v (.nilFunc)).run P w = .ok (.bool b) w ∧ (binOp .neq t v (.nilFunc)).run P w = .ok (.bool !b) w := by
  unfold nilOf at hb
  split at hb <;> first | (cases hb; done) | skip
  all_goals try (exfalso; omega)
  · simp only [Option.some.injEq] at hb; subst hb
    obtain rfl : v = .nilFunc := by cases hv with | im _ _ hv => cases hv; rfl
    have he := run_eqIn (P := P) (w := w) (t := t) (x := .nilFunc) (y := .nilFunc) (b := true) (fun d => by simp [Op.equalIn, run_underlying hu])
    exact ⟨fun op => by unfold eqGuard; cases op <;> simp, by simp [binOp, he], by simp [binOp, he]⟩
  · simp only [Option.some.injEq] at hb; subst hb
    obtain ⟨f1, a1, b1, rfl⟩ : ∃ f1 a1 b1, v = .func f1 a1 b1 := by obtain ⟨vs, us, rfl, _⟩ := hv.fn_inv; exact ⟨_, _, _, rfl⟩
    have he := run_eqIn (P := P) (w := w) (t := t) (x := .func f1 a1 b1) (y := .nilFunc) (b := false) (fun d => by simp [Op.equalIn, run_underlying hu])
    exact ⟨fun op => by unfold eqGuard; cases op <;> simp, by simp [binOp, he], by simp [binOp, he]⟩
theorem nil_2 {e : TypeId} {t : TypeId} {x : Operand} {X : AV} {v : Value} {b : Bool} (hu : P.underlying t = some (.pointer e)) (hv : VR κ Im w X v) (hb : nilOf 2 X = some b) :
    (∀ op, (eqGuard op t x (.const (.pointer none)) v (.pointer none)).run P w = .ok () w) ∧ (binOp .eql t v (.pointer none)).run P w = .ok (.bool b) w ∧ (binOp .neq t v (.pointer none)).run P w = .ok (.bool !b) w := by
  unfold nilOf at hb
  split at hb <;> first | (cases hb; done) | skip
  all_goals try (exfalso; omega)
  · simp only [Option.some.injEq] at hb; subst hb
    obtain rfl : v = .pointer none := by cases hv with | im _ _ hv => cases hv; rfl
    have he := run_eqIn (P := P) (w := w) (t := t) (x := .pointer none) (y := .pointer none) (b := true) (fun d => by simp [Op.equalIn, run_underlying hu])
    exact ⟨fun op => by unfold eqGuard; cases op <;> simp, by simp [binOp, he], by simp [binOp, he]⟩
  · simp only [Option.some.injEq] at hb; subst hb
    obtain ⟨ad, rfl⟩ : ∃ ad, v = .pointer (some ad) := by obtain ⟨b, rfl, _⟩ := hv.ptr_inv; exact ⟨_, rfl⟩
    have he := run_eqIn (P := P) (w := w) (t := t) (x := .pointer (some ad)) (y := .pointer none) (b := false) (fun d => by simp [Op.equalIn, run_underlying hu])
    exact ⟨fun op => by unfold eqGuard; cases op <;> simp, by simp [binOp, he], by simp [binOp, he]⟩
  · simp only [Option.some.injEq] at hb; subst hb
    obtain ⟨ad, rfl⟩ : ∃ ad, v = .pointer (some ad) := by obtain ⟨b, o, vals, rfl, _⟩ := hv.rptr_inv; exact ⟨_, rfl⟩
    have he := run_eqIn (P := P) (w := w) (t := t) (x := .pointer (some ad)) (y := .pointer none) (b := false) (fun d => by simp [Op.equalIn, run_underlying hu])
    exact ⟨fun op => by unfold eqGuard; cases op <;> simp, by simp [binOp, he], by simp [binOp, he]⟩
  · simp only [Option.some.injEq] at hb; subst hb
    obtain ⟨ad, rfl⟩ : ∃ ad, v = .pointer (some ad) := by obtain ⟨b, cap, rfl, _⟩ := hv.rowp_inv; exact ⟨_, rfl⟩
    have he := run_eqIn (P := P) (w := w) (t := t) (x := .pointer (some ad)) (y := .pointer none) (b := false) (fun d => by simp [Op.equalIn, run_underlying hu])
    exact ⟨fun op => by unfold eqGuard; cases op <;> simp, by simp [binOp, he], by simp [binOp, he]⟩
  · simp only [Option.some.injEq] at hb; subst hb
    obtain ⟨ad, rfl⟩ : ∃ ad, v = .pointer (some ad) := by have := hv.gp_inv; subst this; exact ⟨_, rfl⟩
    have he := run_eqIn (P := P) (w := w) (t := t) (x := .pointer (some ad)) (y := .pointer none) (b := false) (fun d => by simp [Op.equalIn, run_underlying hu])
    exact ⟨fun op => by unfold eqGuard; cases op <;> simp, by simp [binOp, he], by simp [binOp, he]⟩
theorem nil_3 {e : TypeId} {t : TypeId} {x : Operand} {X : AV} {v : Value} {b : Bool} (hu : P.underlying t = some (.slice e)) (hv : VR κ Im w X v) (hb : nilOf 3 X = some b) :
    (∀ op, (eqGuard op t x (.const (.slice none 0 0)) v (.slice none 0 0)).run P w = .ok () w) ∧ (binOp .eql t v (.slice none 0 0)).run P w = .ok (.bool b) w ∧ (binOp .neq t v (.slice none 0 0)).run P w = .ok (.bool !b) w := by
  unfold nilOf at hb
  split at hb <;> first | (cases hb; done) | skip
  all_goals try (exfalso; omega)
  · simp only [Option.some.injEq] at hb; subst hb
    cases hv.nils_inv
    have he := run_eqIn (P := P) (w := w) (t := t) (x := .slice none 0 0) (y := .slice none 0 0) (b := true) (fun d => by simp [Op.equalIn, run_underlying hu])
    exact ⟨fun op => by unfold eqGuard; cases op <;> simp, by simp [binOp, he], by simp [binOp, he]⟩
  · simp only [Option.some.injEq] at hb; subst hb
    obtain ⟨ad, n1, c1, rfl⟩ : ∃ ad n1 c1, v = .slice (some ad) n1 c1 := by
      rcases hv.lst_inv with ⟨_, h0⟩ | ⟨size, b, o, cap, vals, rfl, _⟩
      · cases h0
      · exact ⟨_, _, _, rfl⟩
    have he := run_eqIn (P := P) (w := w) (t := t) (x := .slice (some ad) n1 c1) (y := .slice none 0 0) (b := false) (fun d => by simp [Op.equalIn, run_underlying hu])
    exact ⟨fun op => by unfold eqGuard; cases op <;> simp, by simp [binOp, he], by simp [binOp, he]⟩
theorem nil_4 {k e : TypeId} {t : TypeId} {x : Operand} {X : AV} {v : Value} {b : Bool} (hu : P.underlying t = some (.map k e)) (hv : VR κ Im w X v) (hb : nilOf 4 X = some b) :
    (∀ op, (eqGuard op t x (.const (.map none)) v (.map none)).run P w = .ok () w) ∧ (binOp .eql t v (.map none)).run P w = .ok (.bool b) w ∧ (binOp .neq t v (.map none)).run P w = .ok (.bool !b) w := by
  unfold nilOf at hb
  split at hb <;> first | (cases hb; done) | skip
  all_goals try (exfalso; omega)
  · simp only [Option.some.injEq] at hb; subst hb
    cases hv.nilm_inv
    have he := run_eqIn (P := P) (w := w) (t := t) (x := .map none) (y := .map none) (b := true) (fun d => by simp [Op.equalIn, run_underlying hu])
    exact ⟨fun op => by unfold eqGuard; cases op <;> simp, by simp [binOp, he], by simp [binOp, he]⟩
  · simp only [Option.some.injEq] at hb; subst hb
    obtain ⟨b, rfl, _⟩ := hv.map_inv
    have he := run_eqIn (P := P) (w := w) (t := t) (x := .map (some b)) (y := .map none) (b := false) (fun d => by simp [Op.equalIn, run_underlying hu])
    exact ⟨fun op => by unfold eqGuard; cases op <;> simp, by simp [binOp, he], by simp [binOp, he]⟩

/-- A comparison with nil. -/
theorem isnil_ok {op : BinOp} {t : TypeId} {x y z : Operand} {k : Nat} {n b : Bool} {X : AV} {a : Act} (hn : nilSide P op t x y = some (k, n, z)) (hx : VR κ Im w X (a.eval z)) (h : nilOf k X = some b) :
    (do eqGuard op t x y (a.eval x) (a.eval y); binOp op t (a.eval x) (a.eval y) : Sem Value).run P w = .ok (.bool (if n then !b else b)) w := by
  unfold nilSide at hn
  have key : ∀ (nv : Value), y = .const nv → z = x → n = (op == .neq) → (op = .eql ∨ op = .neq) → ((∀ op, (eqGuard op t x (.const nv) (a.eval z) nv).run P w = .ok () w) ∧ (binOp .eql t (a.eval z) nv).run P w = .ok (.bool b) w ∧ (binOp .neq t (a.eval z) nv).run P w = .ok (.bool !b) w) →
      (do eqGuard op t x y (a.eval x) (a.eval y); binOp op t (a.eval x) (a.eval y) : Sem Value).run P w = .ok (.bool (if n then !b else b)) w := by
    rintro nv rfl rfl rfl hop ⟨h1, h2, h3⟩
    have e : a.eval (.const nv) = nv := rfl
    rw [e, Sem.run_bind, h1, Result.andThen_ok]
    rcases hop with rfl | rfl
    · exact h2
    · exact h3
  split at hn
  case h_3 => cases hn
  all_goals
    split at hn
    case h_6 => cases hn
    all_goals
      rename_i hu
      simp only [Option.some.injEq, Prod.mk.injEq] at hn
      obtain ⟨rfl, rfl, rfl⟩ := hn
    · exact key _ rfl rfl rfl (by simp) (nil_0 hu hx h)
    · exact key _ rfl rfl rfl (by simp) (nil_1 hu hx h)
    · exact key _ rfl rfl rfl (by simp) (nil_2 hu hx h)
    · exact key _ rfl rfl rfl (by simp) (nil_3 hu hx h)
    · exact key _ rfl rfl rfl (by simp) (nil_4 hu hx h)

theorem bitStep_ok {op : BinOp} {X Y r : AV} {x y : Value} {t : TypeId} {xo yo : Operand} (hx : VR κ Im w X x) (hy : VR κ Im w Y y) (h : bitStep op X Y = some r) :
    ∃ v, (do eqGuard op t xo yo x y; binOp op t x y : Sem Value).run P w = .ok v w ∧ VR κ Im w r v := by
  unfold bitStep at h
  split at h
  case h_2 => cases h
  rename_i k a k' b
  cases hx.int_inv; cases hy.int_inv
  have hg : (eqGuard op t xo yo (.int k a) (.int k' b)).run P w = .ok () w := by
    unfold eqGuard; cases op <;> simp <;> rfl
  simp only [Sem.run_bind, hg, Result.andThen_ok]
  split at h
  · rename_i hop
    split at h
    case isFalse => cases h
    rename_i hb
    have hb' : ¬ b < 0 := by omega
    simp only [Option.map_eq_some_iff] at h
    obtain ⟨z, hz, rfl⟩ := h
    rcases hop with rfl | rfl
    · simp only [shiftOp, Option.some.injEq] at hz; subst hz
      exact ⟨_, by simp [binOp, Op.shift, hb'], .im _ _ (.int _ _)⟩
    · simp only [shiftOp, Option.some.injEq] at hz; subst hz
      exact ⟨_, by simp [binOp, Op.shift, hb'], .im _ _ (.int _ _)⟩
  · rename_i hop
    split at h
    case isFalse => cases h
    rename_i hk; subst hk
    simp only [Option.map_eq_some_iff] at h
    obtain ⟨z, hz, rfl⟩ := h
    cases op <;> simp only [bitOp, Option.some.injEq, reduceCtorEq] at hz
    all_goals (subst hz; exact ⟨_, by simp [binOp, Op.intBits], .im _ _ (.int _ _)⟩)

theorem invStep_ok {X r : AV} {x : Value} (hx : VR κ Im w X x) (h : invStep X = some r) : ∃ v, (Op.unary .xor x).run P w = .ok v w ∧ VR κ Im w r v := by
  unfold invStep at h
  split at h
  case h_2 => cases h
  rename_i k a
  cases hx.int_inv
  simp only [Option.map_eq_some_iff, bitOp, Option.some.injEq] at h
  obtain ⟨z, rfl, rfl⟩ := h
  exact ⟨_, by simp [Op.unary, Op.intBits], .im _ _ (.int _ _)⟩

/-- A key and another one. -/
theorem sameNow_ok {kind : Nat} {d : TypeDesc} {X Y : AV} {x y : Value} {b : Bool} {t : TypeId} (hk : keyKind P t = some kind) (hd : P.underlying t = some d) (hx : VR κ Im w X x) (hy : VR κ Im w Y y) (h : eq1 kind X Y = some b) : Instr.sameNow d x y = some b ∧ (b = true → x = y) := by
  unfold keyKind at hk
  rw [hd] at hk
  unfold eq1 at h
  split at h
  · rename_i k p k' q
    split at h
    case isFalse => cases h
    rename_i hkk; subst hkk
    simp only [Option.some.injEq] at h; subst h
    cases hx.int_inv; cases hy.int_inv
    have e : (p == q) = decide (p = q) := rfl
    split at hk <;> simp_all [Instr.sameNow]
  · rename_i p q
    simp only [Option.some.injEq] at h; subst h
    cases hx.str_inv; cases hy.str_inv
    have e : (ByteArray.mk p.toArray == ByteArray.mk q.toArray) = decide (p = q) := by
      rw [Bool.eq_iff_iff, MapKept.bytes_beq]; simp
    split at hk <;> simp_all [Instr.sameNow]
  · rename_i p q
    simp only [Option.some.injEq] at h; subst h
    cases hx.bool_inv; cases hy.bool_inv
    split at hk <;> simp_all [Instr.sameNow]
  · cases h

theorem checkKey_ok {kind : Nat} {t : TypeId} (hk : keyKind P t = some kind) (e : Bool) (n : Nat) (v : Value) : (Instr.checkKey e (n + 1) t v).run P w = .ok () w := by
  unfold keyKind at hk
  unfold Instr.checkKey
  split at hk <;> rename_i hu <;> first | (cases hk; done) | (simp only [Sem.run_bind, run_underlying hu, Result.andThen_ok]; cases v <;> rfl)

def MEnt (κ : Key) (Im : Addr → Prop) (w : World) (kv : List (AV × AV)) (es : List MapEntry) : Prop := es.length = kv.length ∧ ∀ j (h : j < kv.length) (h' : j < es.length), IR Im w (kv[j]).1 (es[j]).key ∧ VR κ Im w (kv[j]).2 (es[j]).val

theorem mapFind_ok {kind : Nat} {t : TypeId} {d : TypeDesc} {X : AV} {x : Value} (hk : keyKind P t = some kind) (hd : P.underlying t = some d) (hx : VR κ Im w X x) : ∀ {kv : List (AV × AV)} {es : List MapEntry} {i : Nat} {r : Option (Nat × AV)}, MEnt κ Im w kv es → mapFind kind X kv i = some r →
    (match r with
     | none => Instr.findNow d x es i = some none
     | some (j, a) => ∃ v, Instr.findNow d x es i = some (some (j, v)) ∧ VR κ Im w a v ∧ i ≤ j ∧ j < i + es.length ∧ ∃ h : j - i < es.length, (es[j - i]).key = x)
  | [], es, i, r, hm, h => by
    obtain rfl : es = [] := List.eq_nil_of_length_eq_zero (by simpa using hm.1)
    simp only [mapFind, Option.some.injEq] at h; subst h
    rfl
  | (k', v') :: kv, [], i, r, hm, h => by simp [MEnt] at hm
  | (k', v') :: kv, e :: es, i, r, hm, h => by
    have h0 := hm.2 0 (by simp) (by simp)
    simp only [List.getElem_cons_zero] at h0
    have htl : MEnt κ Im w kv es := ⟨by simpa using hm.1, fun j hj hj' => hm.2 (j + 1) (by simpa using hj) (by simpa using hj')⟩
    simp only [mapFind] at h
    split at h
    · rename_i he
      obtain ⟨h1, h2⟩ := sameNow_ok hk hd hx (.im _ _ h0.1) he
      simp only [Option.some.injEq] at h; subst h
      exact ⟨_, by simp [Instr.findNow, h1], h0.2, Nat.le_refl _, by simp, by simp, by simpa using (h2 rfl).symm⟩
    · rename_i he
      obtain ⟨h1, _⟩ := sameNow_ok hk hd hx (.im _ _ h0.1) he
      have ih := mapFind_ok hk hd hx htl h
      split at ih
      · simp [Instr.findNow, h1, ih]
      · obtain ⟨v, g1, g2, g3, g4, g5, g6⟩ := ih
        refine ⟨v, by simp [Instr.findNow, h1, g1], g2, by omega, by simp; omega, by simp; omega, ?_⟩
        rename_i j a
        have e1 : j - i = (j - (i + 1)) + 1 := by omega
        simp only [e1, List.getElem_cons_succ]
        exact g6
    · cases h

/-- What a map holds. -/
theorem mapView_ok {X : AV} {x : Value} {kv : List (AV × AV)} (hs : SRel base κ Im σ w) (hx : VR κ Im w X x) (h : mapView σ X = some kv) :
    (x = .map none ∧ kv = []) ∨ ∃ b es clock, x = .map (some b) ∧ w.heap[b]? = some (.map es clock) ∧ MEnt κ Im w kv es.toList := by
  unfold mapView at h
  split at h
  · simp only [Option.some.injEq] at h; subst h
    exact .inl ⟨hx.nilm_inv, rfl⟩
  · rename_i id
    split at h
    case h_2 => cases h
    rename_i kv' he
    simp only [Option.some.injEq] at h; subst h
    obtain ⟨b, rfl, hk⟩ := hx.map_inv
    obtain ⟨b', es, clock, hk', _, hheap, hsz, hv, _⟩ := hs.ent _ _ he
    rw [hk] at hk'; cases hk'
    exact .inr ⟨b, es, clock, rfl, hheap, by simpa using hsz, fun j hj hj' => hv j hj (by simpa using hj')⟩
  · cases h

theorem run_lookup_ok {kind : Nat} {t kt e : TypeId} {i : TypeInfo} {zv : Value} {ZV X K r : AV} {x k : Value} {ok : Bool} {kv : List (AV × AV)} (ht : P.underlying t = some (.map kt e)) (hk : keyKind P kt = some kind) (hi : P.info? e = some i) (hz : i.zero = some zv) (hZ : constAV zv = some ZV)
    (hs : SRel base κ Im σ w) (hx : VR κ Im w X x) (hkk : VR κ Im w K k) (hm : mapView σ X = some kv) (h : lookStep kind ZV ok K kv = some r) : ∃ v, (Instr.lookup t x k ok).run P w = .ok v w ∧ VR κ Im w r v := by
  obtain ⟨d, hd⟩ : ∃ d, P.underlying kt = some d := by
    unfold keyKind at hk; split at hk <;> first | (cases hk; done) | exact ⟨_, by assumption⟩
  have hzero : (zeroValue e).run P w = .ok zv w := by simp [zeroValue, typeInfo, hi, hz]
  have hZV : VR κ Im w ZV zv := .im _ _ (IR.constAV hZ)
  have hpair : ∀ (a : AV) (v : Value) (b : Bool), VR κ Im w a v → VR κ Im w (if ok then .tup [a, .bool b] else a) (if ok then .tuple #[v, .bool b] else v) := by
    intro a v b ha
    cases ok
    · exact ha
    · have hl : VRL κ Im w [a, .bool b] [v, .bool b] := VRL.cons ha (VRL.cons (.im _ _ (.bool b)) VRL.nil)
      exact .tup _ _ hl.1 hl.2
  obtain ⟨es, hes, hrun⟩ : ∃ es : List MapEntry, MEnt κ Im w kv es ∧ ∀ (r : Option (Nat × Value)) (v : Value), Instr.findNow d k es 0 = some r → (match r with | some (_, u) => v = (if ok then .tuple #[u, .bool true] else u) | none => v = (if ok then .tuple #[zv, .bool false] else zv)) → (Instr.lookup t x k ok).run P w = .ok v w := by
    rcases mapView_ok hs hx hm with ⟨rfl, rfl⟩ | ⟨b, es, clock, rfl, hb, hme⟩
    · refine ⟨[], ⟨rfl, fun j h => by simp at h⟩, fun r v hf hv => ?_⟩
      simp only [Instr.lookup, Sem.run_bind, run_underlying ht, Result.andThen_ok, Sem.run_pure, checkKey_ok hk, Instr.findKey, run_underlying hd, hf]
      rcases r with _ | ⟨j, u⟩
      · simp only at hv; subst hv; simp [hzero]
      · simp only at hv; subst hv; simp
    · refine ⟨es.toList, hme, fun r v hf hv => ?_⟩
      simp only [Instr.lookup, Sem.run_bind, run_underlying ht, Result.andThen_ok, Sem.run_pure, MapKept.run_getObj_map hb, checkKey_ok hk, Instr.findKey, run_underlying hd, hf]
      rcases r with _ | ⟨j, u⟩
      · simp only at hv; subst hv; simp [hzero]
      · simp only at hv; subst hv; simp
  unfold lookStep at h
  simp only [Option.bind_eq_some_iff] at h
  obtain ⟨q, hq, h⟩ := h
  have hf := mapFind_ok hk hd hkk hes hq
  rcases q with _ | ⟨j, a⟩
  · simp only [Option.some.injEq] at h; subst h
    exact ⟨_, hrun _ _ hf rfl, hpair _ _ _ hZV⟩
  · simp only [Option.some.injEq] at h; subst h
    obtain ⟨v, h1, h2, _⟩ := hf
    exact ⟨_, hrun _ _ h1 rfl, hpair _ _ _ h2⟩
end
end Go.Abs
