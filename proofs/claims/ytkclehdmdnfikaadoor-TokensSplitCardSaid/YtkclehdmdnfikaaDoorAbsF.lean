/- Abstract machine, part 6: the operations that only read, one by one. -/
import Derived.Test.YtkclehdmdnfikaaDoorAbsE
import Derived.Deep.MidRow
set_option linter.unusedSimpArgs false
set_option linter.unusedVariables false
set_option linter.constructorNameAsVariable false
namespace Go.Abs
open Go.RowKit
variable {G : Globs}
section
variable {P : Program} {κ : Key} {Im : Addr → Prop} {w : World}

theorem zeroOf_ok {t : TypeId} {z : List AV} (h : zeroOf P t = some z) : ∃ i zv, P.info? t = some i ∧ i.zero = some zv ∧ zv.cells.toList.mapM const1 = some z := by
  unfold zeroOf at h
  simp only [Option.bind_eq_bind, Option.bind_eq_some_iff] at h
  obtain ⟨i, hi, zv, hz, hm⟩ := h
  exact ⟨i, zv, hi, hz, hm⟩
theorem sizeOf?_ok {t : TypeId} {n : Nat} (h : sizeOf? P t = some n) : ∃ i, P.info? t = some i ∧ i.size = n := by
  unfold sizeOf? at h
  simpa using h
theorem run_sizeOf? {t : TypeId} {n : Nat} (h : sizeOf? P t = some n) (w : World) : (sizeOf t).run P w = .ok n w := by
  obtain ⟨i, hi, hn⟩ := sizeOf?_ok h
  simp [sizeOf, typeInfo, hi, hn]
theorem run_isAgg? {t : TypeId} {b : Bool} (h : aggOf P t = some b) (w : World) : (isAgg t).run P w = .ok b w := by
  unfold aggOf at h
  unfold isAgg
  split at h
  · rename_i hu; simp at h; subst h; simp [run_underlying hu]
  · rename_i hu; simp at h; subst h; simp [run_underlying hu]
  · rename_i d h1 h2 hu
    simp at h; subst h
    simp only [Sem.run_bind, run_underlying hu, Result.andThen_ok]
    cases d <;> first
      | rfl
      | (exact absurd rfl (h1 _))
      | (exact absurd rfl (h2 _ _))
  · cases h
theorem aggOf_true {t : TypeId} (h : aggOf P t = some true) : ∃ d, P.underlying t = some d ∧ d.isRow = true := by
  unfold aggOf at h
  split at h
  · rename_i hu; exact ⟨_, hu, rfl⟩
  · rename_i hu; exact ⟨_, hu, rfl⟩
  · simp at h
  · cases h

theorem abin_ok {op : BinOp} {X Y r : AV} {x y : Value} {t : TypeId} {xo yo : Operand} (hx : VR κ Im w X x) (hy : VR κ Im w Y y) (h : abin op X Y = some r) :
    ∃ v, (do eqGuard op t xo yo x y; binOp op t x y : Sem Value).run P w = .ok v w ∧ VR κ Im w r v := by
  unfold abin at h
  split at h
  · rename_i k a k' b
    cases hx.int_inv; cases hy.int_inv
    split at h
    case isFalse => cases h
    rename_i hk; subst hk
    have hg : (eqGuard op t xo yo (.int k a) (.int k b)).run P w = .ok () w := by
      unfold eqGuard; cases op <;> simp <;> rfl
    simp only [Sem.run_bind, hg, Result.andThen_ok]
    cases op <;> simp only [intCmpB, Option.map_some, Option.map_none, Option.some.injEq, reduceCtorEq] at h
    case add => subst h; exact ⟨_, by simp [binOp, Op.intArith], .im _ _ (.int _ _)⟩
    case sub => subst h; exact ⟨_, by simp [binOp, Op.intArith], .im _ _ (.int _ _)⟩
    case mul => subst h; exact ⟨_, by simp [binOp, Op.intArith], .im _ _ (.int _ _)⟩
    case quo =>
      split at h
      · cases h
      · rename_i hb; simp at h; subst h; exact ⟨_, by simp [binOp, Op.intDiv, hb], .im _ _ (.int _ _)⟩
    case rem =>
      split at h
      · cases h
      · rename_i hb; simp at h; subst h; exact ⟨_, by simp [binOp, Op.intDiv, hb], .im _ _ (.int _ _)⟩
    all_goals (subst h; exact ⟨_, by simp [binOp, Op.intCmp], .im _ _ (.bool _)⟩)
  · rename_i a b
    cases hx.str_inv; cases hy.str_inv
    have hg : (eqGuard op t xo yo (.string ⟨a.toArray⟩) (.string ⟨b.toArray⟩)).run P w = .ok () w := by
      unfold eqGuard; cases op <;> simp <;> rfl
    have ea : (ByteArray.mk a.toArray).toList = a := by rw [ByteArray.toList_eq]
    have eb : (ByteArray.mk b.toArray).toList = b := by rw [ByteArray.toList_eq]
    have he : (a == b) = decide (a = b) := by by_cases h : a = b <;> simp [h]
    simp only [Sem.run_bind, hg, Result.andThen_ok]
    cases op <;> simp only [Option.some.injEq, reduceCtorEq] at h
    case add =>
      split at h
      case isFalse => cases h
      rename_i hl
      simp at h; subst h
      refine ⟨.string ⟨(a ++ b).toArray⟩, ?_, .im _ _ (.str _)⟩
      have hs : ¬ ((((ByteArray.mk a.toArray).size + (ByteArray.mk b.toArray).size : Nat) : Int) > IntKind.i64.max) := by
        simp [ByteArray.size, IntKind.max, IntKind.bits, IntKind.signed]; omega
      have happ : (ByteArray.mk a.toArray) ++ (ByteArray.mk b.toArray) = ByteArray.mk (a ++ b).toArray := by
        ext1; simp
      simp only [binOp, Op.stringOp, hs, if_false, Sem.run_pure, happ]
    all_goals (subst h; refine ⟨_, by simp only [binOp, Op.stringOp, ea, eb, he, Sem.run_pure], .im _ _ (.bool _)⟩)
  · cases h

theorem run_equal_bool {t : TypeId} (h : P.underlying t = some .bool) (a b : Bool) (w : World) : (Op.equal t (.bool a) (.bool b)).run P w = .ok (a == b) w := by
  have : ∀ d, (Op.equalIn (d + 1) t (.bool a) (.bool b)).run P w = .ok (a == b) w := fun d => by
    simp [Op.equalIn, run_underlying h]
  exact this 9999

theorem lookup_mem {β : Type} {g : Nat} {b : β} : ∀ {l : List (Nat × β)}, l.lookup g = some b → (g, b) ∈ l
  | [], h => by simp at h
  | (g', b') :: l, h => by
    rw [List.lookup_cons] at h
    split at h
    · rename_i he
      simp only [Option.some.injEq] at h; subst h
      have : g = g' := by simpa using he
      subst this; simp
    · exact List.mem_cons_of_mem _ (lookup_mem h)

/-- The cells at an address, as the world has them. -/
theorem cellsAt_ok {base : Nat} {σ : Store} {X : AV} {x : Value} {n : Nat} {l : List AV} (hs : SRel base κ Im σ w) (hx : VR κ Im w X x) (h : cellsAt σ X n = some l) :
    ∃ b o cs, x = .pointer (some ⟨b, o, none⟩) ∧ w.rangeAt b o cs ∧ VRL κ Im w l cs ∧ l.length = n ∧ ∀ c ∈ l, c.one = true := by
  cases X with
  | ptr id off =>
    simp only [cellsAt] at h
    obtain ⟨b, rfl, hb⟩ := hx.ptr_inv
    split at h
    case h_2 => cases h
    rename_i t cells he
    split at h
    case isFalse => cases h
    rename_i hle
    simp only [Option.some.injEq] at h; subst h
    obtain ⟨b', cs, hb', _, hheap, hv, hone, _⟩ := hs.ent _ _ he
    rw [hb] at hb'; cases hb'
    refine ⟨b, off, (cs.toList.drop off).take n, rfl, fun j v hj => ?_, (hv.drop off).take n, by simp; omega, fun c hc => hone c (List.mem_of_mem_drop (List.mem_of_mem_take hc))⟩
    rw [cell_of_row w b (off + j) cs t (0, 0) hheap]
    rw [List.getElem?_take] at hj
    split at hj
    · rw [List.getElem?_drop] at hj; simpa using hj
    · cases hj
  | rptr cells =>
    simp only [cellsAt] at h
    obtain ⟨b, o, vals, rfl, hone, hc, hv⟩ := hx.rptr_inv
    split at h
    case isFalse => cases h
    rename_i hle
    simp only [Option.some.injEq] at h; subst h
    refine ⟨b, o, (List.range n).map vals, rfl, fun j v hj => ?_, ⟨by simp; omega, fun j h1 h2 => ?_⟩, by simp; omega, fun c hc => hone c (List.mem_of_mem_take hc)⟩
    · rw [List.getElem?_map] at hj
      by_cases hjn : j < n
      · rw [List.getElem?_range hjn] at hj
        simp at hj; subst hj
        exact (hc j (by omega)).2
      · rw [List.getElem?_eq_none (by simp; omega)] at hj; cases hj
    · simp only [List.getElem_take, List.getElem_map, List.getElem_range]
      exact .im _ _ (hv j _)
  | gp g off =>
    simp only [cellsAt] at h
    have hx' := hx.gp_inv
    split at h
    case h_2 => cases h
    rename_i cells hl
    split at h
    case isFalse => cases h
    rename_i hle
    simp only [Option.some.injEq] at h; subst h
    obtain ⟨b, o, vals, hb, hone, hc, hv⟩ := (VR.im (κ := κ) _ _ (hs.glob _ (lookup_mem hl)).2.2).rptr_inv
    simp only [Value.pointer.injEq, Option.some.injEq, Addr.mk.injEq, and_true] at hb
    obtain ⟨rfl, rfl⟩ := hb
    refine ⟨g, off, (List.range n).map fun j => vals (off + j), hx', fun j v hj => ?_, ⟨by simp; omega, fun j h1 h2 => ?_⟩, by simp; omega, fun c hc => hone c (List.mem_of_mem_drop (List.mem_of_mem_take hc))⟩
    · rw [List.getElem?_map] at hj
      by_cases hjn : j < n
      · rw [List.getElem?_range hjn] at hj
        simp at hj; subst hj
        have := (hc (off + j) (show off + j < cells.length by omega)).2
        simpa using this
      · rw [List.getElem?_eq_none (by simp; omega)] at hj; cases hj
    · simp only [List.getElem_take, List.getElem_drop, List.getElem_map, List.getElem_range]
      exact .im _ _ (hv (off + j) _)
  | rowp id n₀ size k off =>
    simp only [cellsAt] at h
    obtain ⟨b, cap, rfl, hk⟩ := hx.rowp_inv
    split at h
    case h_2 => cases h
    rename_i e size' els im he
    split at h
    case isFalse => cases h
    rename_i hle
    obtain ⟨hn, rfl, hle⟩ := hle
    simp only [Option.map_eq_some_iff] at h
    obtain ⟨c, hc, rfl⟩ := h
    obtain ⟨v, xs, hv, hown, hvr, hsz, hlen, hone, _, _⟩ := hs.ent _ _ he
    subst hn
    rw [hk] at hv; cases hv
    obtain ⟨hkl, rfl⟩ := List.getElem?_eq_some_iff.1 hc
    have hlk : els[k].length = size' := hlen _ (List.getElem_mem hkl)
    have hflat : ∀ (l : List (List AV)) (k : Nat) (hk : k < l.length), (∀ c ∈ l, c.length = size') → ((l.flatten.drop (k * size')).take size') = l[k] := by
      intro l
      induction l with
      | nil => intro k hk; simp at hk
      | cons c l ih =>
        intro k hk hl
        have hc : c.length = size' := hl c (by simp)
        cases k with
        | zero => simp [hc]
        | succ k =>
          have : (k + 1) * size' = c.length + k * size' := by rw [hc, Nat.add_mul]; omega
          rw [List.flatten_cons, this, ← List.drop_drop, List.drop_left, ih k (by simpa using hk) (fun c h => hl c (by simp [h]))]
          simp
    have hsub := ((hvr.drop (k * size')).take size')
    rw [hflat els k hkl hlen] at hsub
    refine ⟨b, k * size' + off, (((xs.drop (k * size')).take size').drop off).take n, rfl, fun j v hj => ?_, (hsub.drop off).take n, by simp; omega, fun c hc => hone _ (List.getElem_mem hkl) c (List.mem_of_mem_drop (List.mem_of_mem_take hc))⟩
    rw [List.getElem?_take] at hj
    split at hj
    case isFalse => cases hj
    rw [List.getElem?_drop, List.getElem?_take] at hj
    split at hj
    case isFalse => cases hj
    rw [List.getElem?_drop] at hj
    have := hown.cells (g := b) rfl _ _ hj
    have e : (⟨b, 0, none⟩ : Addr).add (k * size' + (off + j)) = ⟨b, k * size' + off + j, none⟩ := by
      rw [Addr.add_mid]; simp [Nat.add_assoc]
    rw [e] at this
    exact this
  | _ => simp [cellsAt] at h
end
end Go.Abs
