/- Abstract machine, part 8: every operation that only reads does what the abstract one says. -/
import Derived.Test.YtkclehdmdnfikaaDoorAbsG
set_option linter.unusedSimpArgs false
set_option linter.unusedVariables false
set_option linter.constructorNameAsVariable false
namespace Go.Abs
open Go.RowKit
variable {G : Globs}
section
variable {P : Program} {κ : Key} {Im : Addr → Prop} {w : World}

theorem ok_build {o : Oper} {t : TypeId} {parts : Array (Nat × Operand)} {z : List AV} {ps : List (Nat × Nat × Opd)} {place : Nat → Option (Nat × Nat)} {σ : Store} {f : Frame} {a : Act} {r : AV} (ho : o.op = .build t parts)
    (hz : zeroOf P t = some z) (hps : parts.toList.mapM (compPart z.length place) = some ps)
    (hb : ∀ zv, ((P.info? t).bind (·.zero)) = some zv → ∀ (l : List (Nat × Value)) (cells : Array Value), Instr.fill place zv.cells l = some cells → P.built t l = some cells)
    (hf : FRel κ Im w f a) (h : pstep σ f (.build z ps) = some r) : PureOK P κ Im w o a r := by
  simp only [pstep, Option.map_eq_some_iff] at h
  obtain ⟨qs, hqs, rfl⟩ := h
  obtain ⟨i, zv, hi, hzv, hm⟩ := zeroOf_ok hz
  obtain ⟨hzr, hzo, _⟩ := mapM_const1 (Im := Im) (w := w) hm
  obtain ⟨h1, h2⟩ := mapM_some hps
  obtain ⟨h3, h4⟩ := mapM_some hqs
  have hfill := fill_ok (κ := κ) (Im := Im) (w := w) place (parts.toList.map fun p => (p.1, a.eval p.2)) qs z zv.cells (VRL.ofIR hzr) (by simp [h1, h3]) (fun j hj hj' => by
    have hj1 : j < parts.toList.length := by simpa using hj
    have hj2 : j < ps.length := by omega
    have e1 := h2 j hj1 hj2
    have e2 := h4 j hj2 hj'
    simp only [List.getElem_map]
    unfold compPart at e1
    split at e1
    case h_2 => cases e1
    rename_i off s x hpl hx
    split at e1
    case isFalse => cases e1
    rename_i hle
    simp only [Option.some.injEq] at e1
    rw [← e1] at e2
    simp only at e2
    split at e2
    case isFalse => cases e2
    rename_i hcl
    simp only [Option.some.injEq] at e2
    rw [← e2]
    refine ⟨s, hpl, hcl.1.symm, (opd_ok hx hf).oneCells (by simpa using hcl.2), hle⟩)
  obtain ⟨cs', hfl, hvr, _⟩ := hfill
  have hone : ∀ c ∈ lay z qs, c.one = true := lay_one qs z hzo (fun p hp c hc => by
    obtain ⟨j, hj, rfl⟩ := List.mem_iff_getElem.1 hp
    have e2 := h4 j (by omega) hj
    split at e2
    case isFalse => cases e2
    rename_i hcl
    simp only [Option.some.injEq] at e2
    rw [← e2] at hc
    have := hcl.2
    simp only [List.all_eq_true] at this
    exact this c hc)
  refine ⟨.agg cs', ?_, ?_⟩
  · have hbl := hb zv (by simp [hi, hzv]) _ _ hfl
    have hr := run_build (P := P) w t (parts.map fun (i, x) => (i, a.eval x)) cs' (by simpa using hbl)
    simp only [execOp, ho, Sem.run_bind, hr, Result.andThen_ok, Sem.run_pure]
  · have : cs' = cs'.toList.toArray := by simp
    rw [this]
    exact .agg _ _ hone hvr.1 hvr.2

theorem bound_ok {X : Option AV} {x : Option Value} {d lim n : Nat} (hx : match X, x with | some X, some x => VR κ Im w X x | none, none => True | _, _ => False) (h : bound X d lim = some n) :
    (x = none ∧ n = d) ∨ ∃ k, x = some (.int k (n : Int)) ∧ n ≤ lim := by
  unfold bound at h
  cases X with
  | none =>
    simp at h; subst h
    cases x with
    | none => exact .inl ⟨rfl, rfl⟩
    | some x => simp at hx
  | some X =>
    cases x with
    | none => simp at hx
    | some x =>
      simp only [Option.bind_eq_some_iff] at h
      obtain ⟨m, hm, hle⟩ := h
      split at hle
      case isFalse => cases hle
      rename_i hle'
      simp at hle; subst hle
      obtain ⟨k, rfl⟩ := natOf_ok hx hm
      exact .inr ⟨k, rfl, hle'⟩

theorem run_sliceBound (k : IntKind) (n lim : Nat) (c : BoundsCode) (h : n ≤ lim) (w : World) : (Instr.sliceBound (.int k (n : Int)) lim c).run P w = .ok n w := by
  unfold Instr.sliceBound
  simp [asIntOf, h]

/-- The bounds of 'x[lo:hi]'. -/
theorem run_sliceBounds_ok {isSlice : Bool} {len cap : Nat} {LO HI : Option AV} {lo hi : Option Value} {l h : Nat} (hlo : match LO, lo with | some X, some x => VR κ Im w X x | none, none => True | _, _ => False)
    (hhi : match HI, hi with | some X, some x => VR κ Im w X x | none, none => True | _, _ => False) (hlc : len ≤ cap) (hh : bound HI len len = some h) (hl : bound LO 0 h = some l) :
    (Instr.sliceBounds isSlice len cap lo hi none).run P w = .ok (l, h, cap) w ∧ l ≤ h ∧ h ≤ len := by
  unfold Instr.sliceBounds
  have e1 := bound_ok hhi hh
  have e2 := bound_ok hlo hl
  rcases e1 with ⟨rfl, rfl⟩ | ⟨k, rfl, hle⟩ <;> rcases e2 with ⟨rfl, rfl⟩ | ⟨k', rfl, hle'⟩
  · simp
  · simp [run_sliceBound _ _ _ _ hle', hle']
  · refine ⟨?_, by omega, hle⟩
    simp [run_sliceBound k h cap _ (by omega)]
  · refine ⟨?_, hle', hle⟩
    simp [run_sliceBound k h cap _ (by omega), run_sliceBound _ _ _ _ hle']

theorem optOpd_ok {x : Option Operand} {x' : Option Opd} {f : Frame} {a : Act} (hf : FRel κ Im w f a) (h : x.mapM opd = some x') :
    match x'.map (·.ev f), x.map a.eval with | some X, some x => VR κ Im w X x | none, none => True | _, _ => False := by
  cases x with
  | none => simp at h; subst h; trivial
  | some x =>
    simp only [Option.mapM_some, Option.map_eq_some_iff, Option.map_eq_map] at h
    obtain ⟨y, hy, rfl⟩ := h
    exact opd_ok hy hf

theorem run_slice_list (ba : Option Addr) (len cap l h size : Nat) {t e : TypeId} {lo hi : Option Value} (ht : P.underlying t = some (.slice e)) (hsz : sizeOf? P e = some size)
    (hb : (Instr.sliceBounds true len cap lo hi none).run P w = .ok (l, h, cap) w) :
    (Instr.sliceAt t (.slice ba len cap) lo hi none).run P w = .ok (.slice (if cap = l then ba else ba.map (·.add (l * size))) (h - l) (cap - l)) w := by
  simp only [Instr.sliceAt, Sem.run_bind, run_underlying ht, Result.andThen_ok, Instr.slice, hb, run_sizeOf? hsz, Sem.run_pure]

theorem drop_take_length {α : Type} (l : List α) (lo hi : Nat) (h : hi ≤ l.length) : ((l.take hi).drop lo).length = hi - lo := by simp; omega

/-- A part of a list. -/
theorem lst_part {l : List (List AV)} {size b o cap : Nat} {vals : Nat → Nat → Value} (hcap : l.length ≤ cap) (hmax : cap ≤ maxLen) (hs : ∀ c ∈ l, c.length = size)
      (hone : ∀ c ∈ l, ∀ x ∈ c, x.one = true) (hc : ∀ k j, k < l.length → j < size → Im ⟨b, o + (k * size + j), none⟩ ∧ w.cell? ⟨b, o + (k * size + j), none⟩ = some (vals k j))
      (hv : ∀ k j (h : k < l.length) (h' : j < l[k].length), IR Im w (l[k][j]) (vals k j)) (lo hi : Nat) (h1 : lo ≤ hi) (h2 : hi ≤ l.length) :
    IR Im w (.lst ((l.take hi).drop lo)) (.slice (if cap = lo then some ⟨b, o, none⟩ else (some (⟨b, o, none⟩ : Addr)).map (·.add (lo * size))) (hi - lo) (cap - lo)) := by
  have hlen := drop_take_length l lo hi h2
  have hmem : ∀ c ∈ (l.take hi).drop lo, c ∈ l := fun c hc => List.mem_of_mem_take (List.mem_of_mem_drop hc)
  by_cases he : cap = lo
  · have : ((l.take hi).drop lo) = [] := List.eq_nil_of_length_eq_zero (by omega)
    rw [if_pos he, this]
    have h0 : hi - lo = 0 := by omega
    have := IR.lst (Im := Im) (w := w) [] size b o (cap - lo) (fun _ _ => default) (by simp) (by omega) (by simp) (by simp) (fun k j hk => by simp at hk) (fun k j hk => by simp at hk)
    simpa [h0] using this
  · rw [if_neg he, Option.map_some, Addr.add_mid]
    have := IR.lst (Im := Im) (w := w) ((l.take hi).drop lo) size b (o + lo * size) (cap - lo) (fun k j => vals (lo + k) j) (by rw [hlen]; omega) (by omega) (fun c hc => hs c (hmem c hc)) (fun c hc => hone c (hmem c hc))
      (fun k j hk hj => by
        have := hc (lo + k) j (by rw [hlen] at hk; omega) hj
        have e : o + lo * size + (k * size + j) = o + ((lo + k) * size + j) := by rw [Nat.add_mul]; omega
        rw [e]; exact this)
      (fun k j hk hj => by
        have hk' : lo + k < l.length := by rw [hlen] at hk; omega
        have e : ((l.take hi).drop lo)[k] = l[lo + k] := by simp
        simp only [e] at hj ⊢
        exact hv (lo + k) j hk' hj)
    rwa [hlen] at this
end
end Go.Abs
