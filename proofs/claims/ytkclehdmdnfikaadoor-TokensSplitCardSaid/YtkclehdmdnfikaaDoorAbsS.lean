/- Abstract machine, part 19: functions. -/
import Derived.Test.YtkclehdmdnfikaaDoorAbsR
set_option linter.unusedSimpArgs false
set_option linter.unusedVariables false
set_option linter.constructorNameAsVariable false
namespace Go.Abs
open Go.RowKit
variable {G : Globs}

/-- Does a value speak of the first m entries alone? -/
def AV.under (m : Nat) : AV → Bool
  | .ptr id _ | .row id _ | .rowp id _ _ _ _ | .map id | .sub id _ _ _ _ | .asl id _ _ _ => decide (id < m)
  | .fn _ a b => (a.attach.all fun ⟨x, _⟩ => x.under m) && (b.attach.all fun ⟨x, _⟩ => x.under m)
  | .iface _ v => v.under m
  | .agg l | .tup l => l.attach.all fun ⟨x, _⟩ => x.under m
  | _ => true
def Entry.under (m : Nat) : Entry → Bool
  | .dead _ => true
  | .var _ cells => cells.all (AV.under m)
  | .row _ _ els _ => els.all fun c => c.all (AV.under m)
  | .mp kv => kv.all fun p => p.2.under m

/-- A cell, as it is handed back: an owned slice as a list, its cells likewise. Entries from m on are given up. -/
def fz (σ : Store) (m : Nat) : Nat → AV → Option AV
  | _, .nils => some (.lst [])
  | 0, v => if v.pure then some v else none
  | k + 1, .row id n => match σ[id]? with
    | some (.row _ _ els im) => if els.length = n then (if im = true then some (.lst els) else if m ≤ id then (els.mapM fun (c : List AV) => c.mapM (fz σ m k)).map .lst else none) else none
    | _ => none
  | _, v => if v.pure then some v else none
/-- A result's cell, as it is handed back. -/
def fin1 (σ : Store) (m : Nat) : AV → Option AV
  | .row id n => fz σ m 3 (.row id n)
  | .nils => some (.lst [])
  | .sub id n size lo hi => (fz σ m 3 (.row id n)).bind fun
    | .lst l => if ∀ c ∈ l, c.length = size then some (.lst ((l.take hi).drop lo)) else none
    | _ => none
  | v => if v.under m then some v else none
def finL (σ : Store) (m : Nat) (l : List AV) : Option (List AV) := l.mapM (fin1 σ m)
def finT (σ : Store) (m : Nat) : AV → Option AV
  | .agg l => (finL σ m l).map .agg
  | v => fin1 σ m v
def fin (σ : Store) (m : Nat) : AV → Option AV
  | .tup l => (l.mapM (finT σ m)).map .tup
  | v => finT σ m v

def evalRes [Globs] (σ : Store) (f : Frame) : Nat × Option (Bool × Nat) → Option AV
  | (t, none) => some (f t)
  | (t, some (ag, size)) => (cellsAt σ (f t) size).bind (oneOf ag)
def tupOf : List AV → AV
  | [v] => v
  | l => .tup l

/-- What is asked where a function returns: its results, and what is left of the store ('m' entries). -/
def AtRet [Globs] (σ₀ : Store) (R : AV → Store → Prop) (res : List (Nat × Option (Bool × Nat))) (f : Frame) (σ : Store) : Prop :=
  ∃ rs r m, res.mapM (evalRes σ f) = some rs ∧ (fin σ m (tupOf rs) = some r ∨ (r = tupOf rs ∧ r.under m = true)) ∧ σ₀.length ≤ m ∧ (∀ (id : Nat) (e : Entry), id < m → σ[id]? = some e → σ₀[id]? = some e ∨ e.under m = true) ∧ R r (σ.take m)

def BodyPost [Globs] (σ₀ : Store) (R : AV → Store → Prop) (res : List (Nat × Option (Bool × Nat))) : AExit → Frame → Store → Prop
  | .exit _, _, _ => False
  | _, f, σ => AtRet σ₀ R res f σ

def initF (args : List AV) : Frame := fun t => args.getD t .junk

section
variable {P : Program} {base : Nat} {κ : Key} {Im : Addr → Prop} {w : World} {σ : Store}

def cut (κ : Key) (m : Nat) : Key := fun id n => if id < m then κ id n else none
theorem cut_some {m id n : Nat} {v : Value} (h : κ id n = some v) (hm : id < m) : cut κ m id n = some v := by simp [cut, hm, h]

theorem VR.under {m : Nat} {Im' : Addr → Prop} (hIm : ∀ a, Im a → Im' a) {a : AV} {v : Value} (h : VR κ Im w a v) (hb : a.under m = true) : VR (cut κ m) Im' w a v := by
  induction h with
  | im a v h => exact .im _ _ (h.mono hIm fun _ _ => rfl)
  | ptr id off b h => exact .ptr id off b (cut_some h (by simpa [AV.under] using hb))
  | row id n g cap h => exact .row id n g cap (cut_some h (by simpa [AV.under] using hb))
  | rowp id n size k off b cap h => exact .rowp id n size k off b cap (cut_some h (by simpa [AV.under] using hb))
  | map id b h => exact .map id b (cut_some h (by simpa [AV.under] using hb))
  | asl id off n size b ad c h h3 h4 h5 h6 => exact .asl id off n size b ad c (cut_some h (by simpa [AV.under] using hb)) h3 h4 h5 h6
  | sub id n size lo hi b cap ad c h h1 h2 h3 h4 h5 h6 => exact .sub id n size lo hi b cap ad c (cut_some h (by simpa [AV.under] using hb)) h1 h2 h3 h4 h5 h6
  | fn f first captured vs us h1 h2 hv hu ih1 ih2 =>
    simp [AV.under] at hb
    exact .fn f first captured vs us h1 h2 (fun j h h' => ih1 j h h' (hb.1 _ (List.getElem_mem h))) (fun j h h' => ih2 j h h' (hb.2 _ (List.getElem_mem h)))
  | iface t a v h ih => exact .iface t a v (ih (by simpa [AV.under] using hb))
  | agg cells vs hone h1 hv ih =>
    simp [AV.under] at hb
    exact .agg cells vs hone h1 fun j h h' => ih j h h' (hb _ (List.getElem_mem h))
  | tup cells vs h1 hv ih =>
    simp [AV.under] at hb
    exact .tup cells vs h1 fun j h h' => ih j h h' (hb _ (List.getElem_mem h))

/-- What was there at the start speaks of what was there alone. -/
theorem VR.old {m : Nat} {κ' : Key} {Im' : Addr → Prop} {w' : World} (hκ : ∀ i n v, κ i n = some v → κ' i n = some v ∧ i < m) (hIm : ∀ a, Im a → Im' a) (hc : ∀ a, Im a → w'.cell? a = w.cell? a) {a : AV} {v : Value} (h : VR κ Im w a v) : VR (cut κ' m) Im' w' a v :=
  h.mono (fun i n v h => cut_some (hκ i n v h).1 (hκ i n v h).2) hIm hc

theorem VRL.under {m : Nat} {Im' : Addr → Prop} (hIm : ∀ a, Im a → Im' a) {l : List AV} {vs : List Value} (h : VRL κ Im w l vs) (hb : l.all (AV.under m) = true) : VRL (cut κ m) Im' w l vs :=
  ⟨h.1, fun j hj hj' => (h.2 j hj hj').under hIm (List.all_eq_true.1 hb _ (List.getElem_mem hj))⟩

/-- The ids of a value that holds in a world lie in the key's domain. -/
theorem VR.isBelow {m : Nat} (hκ : ∀ i n v, κ i n = some v → i < m) {a : AV} {v : Value} (h : VR κ Im w a v) : a.under m = true := by
  induction h with
  | im a v h =>
    induction h with
    | fn f first captured vs us h1 h2 hv hu ih1 ih2 =>
      simp [AV.under]
      exact ⟨fun x hx => by obtain ⟨j, hj, rfl⟩ := List.mem_iff_getElem.1 hx; exact ih1 j hj (by omega), fun x hx => by obtain ⟨j, hj, rfl⟩ := List.mem_iff_getElem.1 hx; exact ih2 j hj (by omega)⟩
    | iface t a v h ih => simpa [AV.under] using ih
    | agg cells vs hone h1 hv ih =>
      simp [AV.under]
      exact fun x hx => by obtain ⟨j, hj, rfl⟩ := List.mem_iff_getElem.1 hx; exact ih j hj (by omega)
    | tup cells vs h1 hv ih =>
      simp [AV.under]
      exact fun x hx => by obtain ⟨j, hj, rfl⟩ := List.mem_iff_getElem.1 hx; exact ih j hj (by omega)
    | _ => simp [AV.under]
  | ptr id off b h => simpa [AV.under] using hκ _ _ _ h
  | row id n g cap h => simpa [AV.under] using hκ _ _ _ h
  | rowp id n size k off b cap h => simpa [AV.under] using hκ _ _ _ h
  | map id b h => simpa [AV.under] using hκ _ _ _ h
  | sub id n size lo hi b cap ad c h => simpa [AV.under] using hκ _ _ _ h
  | asl id off n size b ad c h => simpa [AV.under] using hκ _ _ _ h
  | fn f first captured vs us h1 h2 hv hu ih1 ih2 =>
    simp [AV.under]
    exact ⟨fun x hx => by obtain ⟨j, hj, rfl⟩ := List.mem_iff_getElem.1 hx; exact ih1 j hj (by omega), fun x hx => by obtain ⟨j, hj, rfl⟩ := List.mem_iff_getElem.1 hx; exact ih2 j hj (by omega)⟩
  | iface t a v h ih => simpa [AV.under] using ih
  | agg cells vs hone h1 hv ih =>
    simp [AV.under]
    exact fun x hx => by obtain ⟨j, hj, rfl⟩ := List.mem_iff_getElem.1 hx; exact ih j hj (by omega)
  | tup cells vs h1 hv ih =>
    simp [AV.under]
    exact fun x hx => by obtain ⟨j, hj, rfl⟩ := List.mem_iff_getElem.1 hx; exact ih j hj (by omega)

theorem VRL.isBelow {m : Nat} (hκ : ∀ i n v, κ i n = some v → i < m) {l : List AV} {vs : List Value} (h : VRL κ Im w l vs) : l.all (AV.under m) = true :=
  List.all_eq_true.2 fun x hx => by obtain ⟨j, hj, rfl⟩ := List.mem_iff_getElem.1 hx; exact (h.2 j hj (by rw [← h.1]; exact hj)).isBelow hκ

theorem Entry.isBelow {m id : Nat} (hκ : ∀ i n v, κ i n = some v → i < m) {e : Entry} (h : EOK κ Im base w id e) : e.under m = true := by
  cases e with
  | dead _ => rfl
  | var t cells =>
    obtain ⟨b, cs, _, _, _, hv, _⟩ := h
    exact hv.isBelow hκ
  | row ty size els im =>
    obtain ⟨v, xs, _, _, hv, _⟩ := h
    have := hv.isBelow hκ
    simp only [Entry.under, List.all_eq_true] at this ⊢
    exact fun c hc x hx => this x (List.mem_flatten.2 ⟨c, hc, hx⟩)
  | mp kv =>
    obtain ⟨b, es, clock, _, _, _, hsz, hv, _⟩ := h
    simp only [Entry.under, List.all_eq_true]
    intro p hp
    obtain ⟨j, hj, rfl⟩ := List.mem_iff_getElem.1 hp
    exact (hv j hj (by omega)).2.isBelow hκ

/-- The cells that never change any more once the entries from m on are given up. -/
def Freed (κ : Key) (Im : Addr → Prop) (σ : Store) (m : Nat) : Addr → Prop := fun a =>
  Im a ∨ ∃ id e size els v, m ≤ id ∧ σ[id]? = some (.row e size els false) ∧ κ id els.length = some v ∧ v.ownBlock = some a.block ∧ a.spot = none ∧ a.off < els.length * size

theorem fz_ok {m : Nat} (hs : SRel base κ Im σ w) : ∀ (k : Nat) {X r : AV} {x : Value}, VR κ Im w X x → fz σ m k X = some r → IR (Freed κ Im σ m) w r x ∧ (X.one = true → r.one = true) := by
  have hpure : ∀ {X r : AV} {x : Value}, VR κ Im w X x → (if X.pure = true then some X else none) = some r → IR (Freed κ Im σ m) w r x ∧ (X.one = true → r.one = true) := by
    intro X r x hx h
    split at h
    case isFalse => cases h
    rename_i hp
    simp only [Option.some.injEq] at h; subst h
    exact ⟨(hx.pure hp).mono (fun _ h => .inl h) (fun _ _ => rfl), id⟩
  intro k
  induction k with
  | zero =>
    intro X r x hx h
    cases X <;> simp only [fz] at h <;> first | (exact hpure hx h) | skip
    simp only [Option.some.injEq] at h; subst h
    cases hx.nils_inv
    exact ⟨.lnil, fun _ => rfl⟩
  | succ k ih =>
    intro X r x hx h
    cases X <;> simp only [fz] at h <;> first | (exact hpure hx h) | skip
    case nils =>
      simp only [Option.some.injEq] at h; subst h
      cases hx.nils_inv
      exact ⟨.lnil, fun _ => rfl⟩
    case row id n =>
      obtain ⟨g, cap, rfl, hk⟩ := hx.row_inv
      split at h
      case h_2 => cases h
      rename_i e size els im hent
      split at h
      case isFalse => cases h
      rename_i hn
      subst hn
      split at h
      · rename_i him
        subst him
        simp only [Option.some.injEq] at h; subst h
        exact ⟨(row_lst hs hent hk).mono (fun _ h => .inl h) (fun _ _ => rfl), fun _ => rfl⟩
      · rename_i him
        have him : im = false := by simpa using him
        subst him
        split at h
        case isFalse => cases h
        rename_i hm
        simp only [Option.map_eq_some_iff] at h
        obtain ⟨els', hels, rfl⟩ := h
        refine ⟨?_, fun _ => rfl⟩
        obtain ⟨hl1, hl2⟩ := mapM_some hels
        obtain ⟨v', xs, hv', hown, hvr, hsz, hlen, hone, _, _⟩ := hs.ent _ _ hent
        rw [hk] at hv'; cases hv'
        rcases hown.2 with ⟨h1, h2⟩ | ⟨b, cap', cur, h1, hg, hh, hle, hmax, hcs, htake⟩
        · have h3 : els' = [] := List.eq_nil_of_length_eq_zero (by omega)
          subst h3
          simp only [Value.slice.injEq] at h1
          obtain ⟨rfl, h5, rfl⟩ := h1
          rw [h5]
          exact .lnil
        · simp only [Value.slice.injEq] at h1
          obtain ⟨rfl, _, rfl⟩ := h1
          have hcell := hown.cells (g := b) rfl
          have hrow : ∀ k' (h : k' < els'.length), els'[k'].length = size ∧ ∀ j (hj : j < els'[k'].length), ∃ (hj' : k' < els.length) (hj2 : j < els[k'].length), fz σ m k els[k'][j] = some els'[k'][j] := by
            intro k' h
            have hk2 : k' < els.length := by omega
            obtain ⟨g1, g2⟩ := mapM_some (hl2 k' hk2 h)
            have g3 := hlen _ (List.getElem_mem hk2)
            exact ⟨by omega, fun j hj => ⟨hk2, by omega, g2 j (by omega) hj⟩⟩
          have hnum : ∀ k' j, k' < els'.length → j < size → k' * size + j < els.length * size := fun k' j hk' hj => by
            have : (k' + 1) * size ≤ els.length * size := Nat.mul_le_mul_right _ (by omega)
            rw [Nat.add_mul] at this; omega
          have helem : ∀ k' j (h : k' < els'.length) (h' : j < els'[k'].length), IR (Freed κ Im σ m) w els'[k'][j] (xs.getD (k' * size + j) undef) ∧ els'[k'][j].one = true := by
            intro k' j h h'
            obtain ⟨q1, q2⟩ := hrow k' h
            obtain ⟨q3, q4, q5⟩ := q2 j h'
            obtain ⟨_, _, h3, h5⟩ := flatten_get els k' j hlen q3 (by omega)
            have hlt' : k' * size + j < xs.length := by rw [hvr.1] at h3; exact h3
            have hv := hvr.2 (k' * size + j) h3 hlt'
            rw [h5] at hv
            have e : xs.getD (k' * size + j) undef = xs[k' * size + j] := by simp [hlt']
            rw [e]
            obtain ⟨i1, i2⟩ := ih hv q5
            exact ⟨i1, i2 (hone _ (List.getElem_mem q3) _ (List.getElem_mem q4))⟩
          rw [hl1]
          refine .lst els' size b 0 cap (fun k j => xs.getD (k * size + j) undef) (by omega) hmax (fun c hc => ?_) (fun c hc x hx => ?_) (fun k' j hk' hj => ?_) (fun k' j hk' hj => (helem k' j hk' hj).1)
          · obtain ⟨k', hk', rfl⟩ := List.mem_iff_getElem.1 hc
            exact (hrow k' hk').1
          · obtain ⟨k', hk', rfl⟩ := List.mem_iff_getElem.1 hc
            obtain ⟨j, hj, rfl⟩ := List.mem_iff_getElem.1 hx
            exact (helem k' j hk' hj).2
          · have hlt := hnum k' j hk' hj
            rw [Nat.zero_add]
            have hlt' : k' * size + j < xs.length := by rw [hown.1]; exact hlt
            refine ⟨.inr ⟨id, e, size, els, _, hm, hent, hk, rfl, rfl, hlt⟩, ?_⟩
            have := hcell (k' * size + j) _ (List.getElem?_eq_getElem hlt')
            rw [Addr.add_mid, Nat.zero_add] at this
            rw [this]; simp [hlt']

theorem fin1_ok {m : Nat} (hs : SRel base κ Im σ w) {X r : AV} {x : Value} (hx : VR κ Im w X x) (h : fin1 σ m X = some r) : VR (cut κ m) (Freed κ Im σ m) w r x ∧ (X.one = true → r.one = true) := by
  unfold fin1 at h
  split at h
  · obtain ⟨h1, h2⟩ := fz_ok hs 3 hx h
    exact ⟨.im _ _ h1, h2⟩
  · simp only [Option.some.injEq] at h; subst h
    cases hx.nils_inv
    exact ⟨.im _ _ .lnil, fun _ => rfl⟩
  · rename_i id n size lo hi
    simp only [Option.bind_eq_some_iff] at h
    obtain ⟨q, hq, h⟩ := h
    split at h
    case h_2 => cases h
    rename_i l
    split at h
    case isFalse => cases h
    rename_i hall
    simp only [Option.some.injEq] at h; subst h
    obtain ⟨b, cap, ad, c, rfl, hk, k1, k2, k3, k4, k5, k6⟩ := hx.sub_inv
    obtain ⟨h1, _⟩ := fz_ok hs 3 (VR.row (κ := κ) (Im := Im) (w := w) id n _ cap hk) hq
    refine ⟨.im _ _ ?_, fun _ => rfl⟩
    have had : ad = ⟨ad.block, ad.off, none⟩ := by cases ad; simp only at k6; subst k6; rfl
    rcases (VR.im (κ := κ) _ _ h1).lst_inv with ⟨h0, _⟩ | ⟨size', b', o', cap', vals, hv, g1, g2, g3, g4, g5, g6⟩
    · cases h0
    · simp only [Value.slice.injEq, Option.some.injEq, Addr.mk.injEq, and_true] at hv
      obtain ⟨⟨rfl, rfl⟩, hn, rfl⟩ := hv
      have hl : ((l.take hi).drop lo).length = hi - lo := by simp; omega
      by_cases hlt : lo < hi
      · have hsz : size' = size := by
          have h0 : 0 < l.length := by omega
          rw [← g3 _ (List.getElem_mem h0), hall _ (List.getElem_mem h0)]
        subst hsz
        rw [k3 hlt]
        have := IR.lst (Im := Freed κ Im σ m) (w := w) ((l.take hi).drop lo) size' b (lo * size') c (fun k j => vals (lo + k) j) (by omega) k5 (fun c hc => g3 c (List.mem_of_mem_take (List.mem_of_mem_drop hc))) (fun c hc => g4 c (List.mem_of_mem_take (List.mem_of_mem_drop hc)))
          (fun k j hk hj => by
            have := g5 (lo + k) j (by omega) hj
            rw [Nat.add_mul] at this
            rw [show lo * size' + (k * size' + j) = 0 + (lo * size' + k * size' + j) by omega]
            exact this)
          (fun k j hk hj => by
            simp only [List.getElem_drop, List.getElem_take] at hj ⊢
            exact g6 (lo + k) j (by omega) hj)
        rw [hl] at this
        exact this
      · have he : (l.take hi).drop lo = [] := List.eq_nil_of_length_eq_zero (by omega)
        rw [he, had]
        have := IR.lst (Im := Freed κ Im σ m) (w := w) [] 0 ad.block ad.off c (fun _ _ => undef) (by simp) k5 (by simp) (by simp) (fun k j hk => by simp at hk) (fun k j hk => by simp at hk)
        rw [show hi - lo = 0 by omega]
        exact this
  · split at h
    case isFalse => cases h
    rename_i hb
    simp only [Option.some.injEq] at h; subst h
    exact ⟨hx.under (fun _ h => .inl h) hb, id⟩

theorem finT_ok {m : Nat} (hs : SRel base κ Im σ w) {X r : AV} {x : Value} (hx : VR κ Im w X x) (h : finT σ m X = some r) : VR (cut κ m) (Freed κ Im σ m) w r x := by
  unfold finT at h
  split at h
  · simp only [Option.map_eq_some_iff] at h
    obtain ⟨l', hl', rfl⟩ := h
    obtain ⟨vs, rfl, hl, hone⟩ := hx.agg_inv
    obtain ⟨h1, h2⟩ := mapM_some hl'
    refine .agg _ _ (fun c hc => ?_) (by rw [← h1, hl.1]) (fun j hj hj' => (fin1_ok hs (hl.2 j (by omega) hj') (h2 j (by omega) hj)).1)
    obtain ⟨j, hj, rfl⟩ := List.mem_iff_getElem.1 hc
    have hjl := hl.1
    exact (fin1_ok hs (hl.2 j (by omega) (by omega)) (h2 j (by omega) hj)).2 (hone _ (List.getElem_mem _))
  · exact (fin1_ok hs hx h).1

theorem fin_ok {m : Nat} (hs : SRel base κ Im σ w) {X r : AV} {x : Value} (hx : VR κ Im w X x) (h : fin σ m X = some r) : VR (cut κ m) (Freed κ Im σ m) w r x := by
  unfold fin at h
  split at h
  · simp only [Option.map_eq_some_iff] at h
    obtain ⟨l', hl', rfl⟩ := h
    obtain ⟨vs, rfl, hl⟩ := hx.tup_inv
    obtain ⟨h1, h2⟩ := mapM_some hl'
    exact .tup _ _ (by rw [← h1, hl.1]) (fun j hj hj' => finT_ok hs (hl.2 j (by omega) hj') (h2 j (by omega) hj))
  · exact finT_ok hs hx h

theorem tupOf_ok {rs : List AV} {vs : List Value} (h : VRL κ Im w rs vs) : VR κ Im w (tupOf rs) (if h : vs.toArray.size = 1 then vs.toArray[0] else .tuple vs.toArray) := by
  unfold tupOf
  split
  · rename_i v
    match vs, h.1 with
    | [u], _ => exact h.2 0 (by simp) (by simp)
  · rename_i hne
    have : ¬ vs.toArray.size = 1 := by
      intro h1
      have hl := h.1
      simp at h1
      rw [h1] at hl
      match rs, hl with
      | [a], _ => exact hne a rfl
    rw [dif_neg this]
    exact .tup _ _ h.1 h.2

theorem results_ok {rvs : List ResultVar} {res : List (Nat × Option (Bool × Nat))} {rs : List AV} {f : Frame} {a : Act} (hs : SRel base κ Im σ w) (hf : FRel κ Im w f a) : rvs.mapM (compRes P) = some res → res.mapM (evalRes σ f) = some rs →
    ∃ vs, (rvs.mapM (fun | .tmp t => pure (a.tmps.getD t undef) | .cell x t => do loadVar t (← asAddr (a.tmps.getD x undef)) : ResultVar → Sem Value)).run P w = .ok vs w ∧ VRL κ Im w rs vs := by
  induction rvs generalizing res rs with
  | nil =>
    intro h h'
    simp at h; subst h
    simp at h'; subst h'
    exact ⟨[], by simp, .nil⟩
  | cons rv rvs ih =>
    intro h h'
    rw [List.mapM_cons] at h
    simp only [Option.bind_eq_bind, Option.bind_eq_some_iff, Option.pure_def, Option.some.injEq] at h
    obtain ⟨q, hq, qs, hqs, rfl⟩ := h
    rw [List.mapM_cons] at h'
    simp only [Option.bind_eq_bind, Option.bind_eq_some_iff, Option.pure_def, Option.some.injEq] at h'
    obtain ⟨r, hr, rs', hrs', rfl⟩ := h'
    obtain ⟨vs, h1, h2⟩ := ih hqs hrs'
    have hex : ∃ v, ((match rv with | .tmp t => pure (a.tmps.getD t undef) | .cell x t => do loadVar t (← asAddr (a.tmps.getD x undef))) : Sem Value).run P w = .ok v w ∧ VR κ Im w r v := by
      cases rv with
      | tmp t =>
        simp only [compRes, Option.some.injEq] at hq; subst hq
        simp only [evalRes, Option.some.injEq] at hr; subst hr
        exact ⟨_, rfl, hf t⟩
      | cell x t =>
        simp only [compRes, Option.bind_eq_bind, Option.bind_eq_some_iff, Option.pure_def, Option.some.injEq] at hq
        obtain ⟨ag, hag, size, hsz, rfl⟩ := hq
        simp only [evalRes, Option.bind_eq_some_iff] at hr
        obtain ⟨l, hl, hr⟩ := hr
        obtain ⟨b, off, cs, hp, hrange, hvr, hlen, hone⟩ := cellsAt_ok hs (hf x) hl
        obtain ⟨g1, g2⟩ := oneOf_ok hvr hone hr
        have hcl : cs.length = size := by rw [← hvr.1, hlen]
        obtain ⟨i, hi, hin⟩ := sizeOf?_ok hsz
        cases ag
        · obtain ⟨v, rfl, hv⟩ := g2 rfl
          refine ⟨v, ?_, hv⟩
          have hc := hrange 0 v rfl
          simp only [Nat.add_zero] at hc
          simp [hp, asAddr, loadVar, run_isAgg? hag, hc]
        · obtain ⟨d, hd, hrow⟩ := aggOf_true hag
          refine ⟨_, ?_, g1 rfl⟩
          simp only [hp, asAddr, Sem.run_bind, Sem.run_pure, Result.andThen_ok, run_loadVar_mid w b off t cs d hrange hd hrow (by rw [hi]; simp [hin, hcl])]
    obtain ⟨v, h3, h4⟩ := hex
    refine ⟨v :: vs, ?_, .cons h4 h2⟩
    rw [List.mapM_cons]
    simp only [Sem.run_bind, h3, h1, Result.andThen_ok, Sem.run_pure]

/-- What is left of the store: the first m entries. -/
theorem SRel.take {m : Nat} {κ₀ : Key} {Im₀ : Addr → Prop} {w₀ : World} {σ₀ : Store} (hs : SRel base κ Im σ w) (hs₀ : SRel base κ₀ Im₀ σ₀ w₀) (hm : σ₀.length ≤ m) (hg : Grow base κ₀ Im₀ w₀ κ Im w) (hb : ∀ (id : Nat) (e : Entry), id < m → σ[id]? = some e → σ₀[id]? = some e ∨ e.under m = true) :
    SRel base (cut κ m) (Freed κ Im σ m) (σ.take m) w := by
  have hdom0 : ∀ i n v, κ₀ i n = some v → i < m := fun i n v h => by
    obtain ⟨e, h1, _⟩ := hs₀.dom _ _ _ h
    have := (List.getElem?_eq_some_iff.1 h1).1
    omega
  have hcutdom : ∀ i n v, cut κ m i n = some v → i < m ∧ κ i n = some v := fun i n v h => by
    unfold cut at h; split at h
    · exact ⟨by assumption, h⟩
    · cases h
  have hbelow : ∀ (id : Nat) (e : Entry), id < m → σ[id]? = some e → e.under m = true := fun id e hid he => by
    rcases hb id e hid he with h | h
    · exact Entry.isBelow hdom0 (hs₀.ent _ _ h)
    · exact h
  have hget : ∀ (id : Nat) (e : Entry), (σ.take m)[id]? = some e → id < m ∧ σ[id]? = some e := fun id e h => by
    rw [List.getElem?_take] at h
    split at h
    · exact ⟨by assumption, h⟩
    · cases h
  have hblk : ∀ (id : Nat) (e : Entry), id < m → e.block (cut κ m) id = e.block κ id := fun id e hid => by
    cases e <;> simp [Entry.block, cut, hid]
  -- the freed cells lie in other blocks
  have hfree : ∀ (id : Nat) (e : Entry) (b : Nat), id < m → σ[id]? = some e → e.block κ id = some b → ∀ a, a.block = b → Freed κ Im σ m a → Im a := fun id e b hid he hbl a hab ha => by
    rcases ha with h | ⟨id', e', size, els, v, hm', he', hk, hvb, _, _⟩
    · exact h
    · exfalso
      have : (Entry.row e' size els false).block κ id' = some b := by simp [Entry.block, hk, hvb, hab]
      exact hs.sep id id' _ _ b (by omega) he he' hbl this
  refine ⟨hs.hb, fun id n v h => ?_, fun id e h => ?_, fun i j e e' b hij h1 h2 hb1 hb2 => ?_, fun a ha => ?_, hs.glob.mono (Nat.le_refl _) (fun _ h => .inl h) (fun _ _ => rfl) (fun _ _ => rfl)⟩
  · obtain ⟨hid, hk⟩ := hcutdom _ _ _ h
    obtain ⟨e, h1, h2⟩ := hs.dom _ _ _ hk
    exact ⟨e, by rw [List.getElem?_take, if_pos hid]; exact h1, h2⟩
  · obtain ⟨hid, he⟩ := hget _ _ h
    have hok := hs.ent _ _ he
    have hbl := hbelow id e hid he
    cases e with
    | dead _ => trivial
    | var t cells =>
      obtain ⟨b, cs, hk, hbb, hheap, hv, hone, him⟩ := hok
      exact ⟨b, cs, cut_some hk hid, hbb, hheap, hv.under (fun _ h => .inl h) hbl, hone, fun a ha hab => him a (hfree id _ b hid he (by simp [Entry.block, hk]) a hab ha) hab⟩
    | row ty size els im =>
      obtain ⟨v, xs, hk, hown, hv, hsz, hlen, hone, hir, him⟩ := hok
      have hbf : els.flatten.all (AV.under m) = true := by
        simp only [Entry.under, List.all_eq_true] at hbl ⊢
        intro x hx
        obtain ⟨c, hc, hxc⟩ := List.mem_flatten.1 hx
        exact hbl c hc x hxc
      refine ⟨v, xs, cut_some hk hid, hown, hv.under (fun _ h => .inl h) hbf, hsz, hlen, hone, fun hi => ⟨(hir hi).1, fun j h h' => ((hir hi).2 j h h').mono (fun _ h => .inl h) (fun _ _ => rfl)⟩, fun g hg => ?_⟩
      obtain ⟨k1, k2⟩ := him g hg
      exact ⟨fun a ha hab => k1 a (hfree id _ g hid he (by simp [Entry.block, hk, hg]) a hab ha) hab, fun hi o ho => .inl (k2 hi o ho)⟩
    | mp kv =>
      obtain ⟨b, es, clock, hk, hbb, hheap, hsz, hv, him⟩ := hok
      simp only [Entry.under, List.all_eq_true] at hbl
      exact ⟨b, es, clock, cut_some hk hid, hbb, hheap, hsz, fun j hj hj' => ⟨(hv j hj hj').1.mono (fun _ h => .inl h) (fun _ _ => rfl), (hv j hj hj').2.under (fun _ h => .inl h) (hbl _ (List.getElem_mem hj))⟩, fun a ha hab => him a (hfree id _ b hid he (by simp [Entry.block, hk]) a hab ha) hab⟩
  · obtain ⟨hi, he1⟩ := hget _ _ h1
    obtain ⟨hj, he2⟩ := hget _ _ h2
    rw [hblk _ _ hi] at hb1
    rw [hblk _ _ hj] at hb2
    exact hs.sep i j e e' b hij he1 he2 hb1 hb2
  · rcases ha with h | ⟨id', e', size, els, v, hm', he', hk, hvb, hsp, _⟩
    · exact hs.imlt a h
    · have : (Entry.row e' size els false).block κ id' = some a.block := by simp [Entry.block, hk, hvb]
      exact ⟨((hs.ent _ _ he').block_ge this).2, hsp⟩

/-- What a function's end asks for, and what it hands back. -/
theorem ret_ok {fn : Func} {rs : List (Nat × Option (Bool × Nat))} {σ₀ σ' : Store} {R : AV → Store → Prop} {κ κ' : Key} {Im Im' : Addr → Prop} {w w' : World} {f' : Frame} {a' : Act} (hrs : fn.results.toList.mapM (compRes P) = some rs) (hs : SRel base κ Im σ₀ w)
    (hfr : FRel κ' Im' w' f' a') (hst : SRel base κ' Im' σ' w') (hgr : Grow base κ Im w κ' Im' w') : AtRet σ₀ R rs f' σ' → ∃ v, (results fn a'.tmps).run P w' = .ok v w' ∧ (∃ r σ'' v' κ'' Im'', Ending.returned v = .returned v' ∧ R r σ'' ∧ SRel base κ'' Im'' σ'' w' ∧ Grow base κ Im w κ'' Im'' w' ∧ VR κ'' Im'' w' r v') := by
  rintro ⟨rs', r, m, h1, h2, h3, h4, h5⟩
  obtain ⟨us, h6, h7⟩ := results_ok (P := P) hst hfr hrs h1
  have hfin : VR (cut κ' m) (Freed κ' Im' σ' m) w' r (if h : us.toArray.size = 1 then us.toArray[0] else .tuple us.toArray) := by
    rcases h2 with h2 | ⟨rfl, h2⟩
    · exact fin_ok hst (tupOf_ok h7) h2
    · exact (tupOf_ok h7).under (fun _ h => .inl h) h2
  refine ⟨_, ?_, r, σ'.take m, _, cut κ' m, Freed κ' Im' σ' m, rfl, h5, hst.take hs h3 hgr h4, ?_, hfin⟩
  · unfold results
    rw [Array.mapM_eq_mapM_toList]
    simp only [Sem.run_bind, Sem.run_map, Result.andThen_ok]
    exact congrArg (fun (r : Result (List Value)) => (r.andThen fun a w' => Result.ok a.toArray w').andThen fun a w' => Sem.run P (pure (if h : a.size = 1 then a[0] else Value.tuple a)) w') h6
  · refine ⟨fun i n v hk => cut_some (hgr.kap _ _ _ hk) ?_, fun a ha => .inl (hgr.im a ha), hgr.cell, fun a ha => ?_, hgr.below⟩
    · obtain ⟨e, g1, _⟩ := hs.dom _ _ _ hk
      have := (List.getElem?_eq_some_iff.1 g1).1
      omega
    · rcases ha with ha | ⟨id', e', size, els, v, hm', he', hk, hvb, hsp, _⟩
      · exact hgr.new a ha
      · have : (Entry.row e' size els false).block κ' id' = some a.block := by simp [Entry.block, hk, hvb]
        exact .inr ((hst.ent _ _ he').block_ge this).1

theorem init_ok {fn : Func} {args : List AV} {vs : List Value} (hargs : args.length ≤ fn.ntmps) (hv : VRL κ Im w args vs) : (vs.toArray ++ Array.replicate (fn.ntmps - vs.toArray.size) undef).size = fn.ntmps ∧ FRel κ Im w (initF args) { tmps := vs.toArray ++ Array.replicate (fn.ntmps - vs.toArray.size) undef, defers := [] } := by
  have hlen := hv.1
  refine ⟨by simp; omega, fun t => ?_⟩
  show VR κ Im w (args.getD t .junk) ((vs.toArray ++ Array.replicate (fn.ntmps - vs.toArray.size) undef).getD t undef)
  by_cases ht : t < args.length
  · have htv : t < vs.length := by rw [← hlen]; exact ht
    have e1 : args.getD t .junk = args[t] := by simp [ht]
    have e2 : (vs.toArray ++ Array.replicate (fn.ntmps - vs.toArray.size) undef).getD t undef = vs[t] := by
      simp [Array.getD_eq_getD_getElem?, Array.getElem?_append, htv]
    rw [e1, e2]
    exact hv.2 t ht htv
  · have e1 : args.getD t .junk = .junk := by
      rw [List.getD_eq_getElem?_getD, List.getElem?_eq_none (Nat.le_of_not_lt ht)]; rfl
    rw [e1]
    exact .im _ _ (.junk _)

/-- A function's body does what its abstract code says. -/
theorem body_ok (hm : P.follows .mixedOrders = true) {loud : List FuncId} {fn : Func} {c : Code} {rs : List (Nat × Option (Bool × Nat))} {args : List AV} {σ₀ : Store} {R : AV → Store → Prop} (hrs : fn.results.toList.mapM (compRes P) = some rs) (hargs : args.length ≤ fn.ntmps)
    (h : awp P (comp P fn.ntmps loud c) (BodyPost σ₀ R rs) (initF args) σ₀) {base : Nat} {κ : Key} {Im : Addr → Prop} {w : World} {vs : List Value} (hs : SRel base κ Im σ₀ w) (hv : VRL κ Im w args vs) :
    c.wp P (bodyPost P fn fun e w' => ∃ r σ' v κ' Im', e = .returned v ∧ R r σ' ∧ SRel base κ' Im' σ' w' ∧ Grow base κ Im w κ' Im' w' ∧ VR κ' Im' w' r v) { tmps := vs.toArray ++ Array.replicate (fn.ntmps - vs.toArray.size) undef, defers := [] } w := by
  obtain ⟨i1, i2⟩ := init_ok (fn := fn) hargs hv
  refine code_ok hm (N := fn.ntmps) (loud := loud) (D := []) c _ _ (initF args) σ₀ κ Im _ w ?_ h ⟨i2, i1, rfl, hs, Grow.refl _ _ _ _⟩
  intro e f' σ' κ' Im' a' w' hQ hst
  cases e with
  | normal => exact ⟨hst.df, ret_ok hrs hs hst.fr hst.st hst.gr hQ⟩
  | ret => exact ⟨hst.df, ret_ok hrs hs hst.fr hst.st hst.gr hQ⟩
  | exit id => exact hQ.elim

/-- A FUNCTION'S CONTRACT, FROM ITS ABSTRACT CODE. -/
theorem acalls_of_awp (hm : P.follows .mixedOrders = true) {loud : List FuncId} {f : FuncId} {af : AFunc} {args : List AV} {σ₀ : Store} {R : AV → Store → Prop} (hf : compFn P loud f = some af) (hargs : args.length ≤ af.n)
    (h : awp P af.code (BodyPost σ₀ R af.res) (initF args) σ₀) : ACalls P f args σ₀ R := by
  unfold compFn at hf
  simp only [Option.bind_eq_bind, Option.bind_eq_some_iff, Option.pure_def, Option.some.injEq] at hf
  obtain ⟨fn, hfn, c, hbody, rs, hrs, rfl⟩ := hf
  intro base κ Im w vs hs hv
  exact calls_of_wp hfn hbody (body_ok hm hrs hargs h hs hv)
end
end Go.Abs
