/- Abstract machine, part 5: the operations that only read do what the abstract ones say. -/
import Derived.Test.YtkclehdmdnfikaaDoorAbsD
set_option linter.unusedSimpArgs false
set_option linter.unusedVariables false
set_option linter.constructorNameAsVariable false
namespace Go.Abs
open Go.RowKit
variable {G : Globs}
section
variable {κ : Key} {Im : Addr → Prop} {w : World} {v : Value}

theorem VR.int_inv {k : IntKind} {n : Int} (h : VR κ Im w (.int k n) v) : v = .int k n := by cases h with | im _ _ h => cases h; rfl
theorem VR.bool_inv {b : Bool} (h : VR κ Im w (.bool b) v) : v = .bool b := by cases h with | im _ _ h => cases h; rfl
theorem VR.str_inv {s : List UInt8} (h : VR κ Im w (.str s) v) : v = .string ⟨s.toArray⟩ := by cases h with | im _ _ h => cases h; rfl
theorem VR.agg_inv {l : List AV} (h : VR κ Im w (.agg l) v) : ∃ vs, v = .agg vs.toArray ∧ VRL κ Im w l vs ∧ ∀ c ∈ l, c.one = true := by
  cases h with
  | im _ _ h => cases h with | agg _ vs hone h1 hv => exact ⟨vs, rfl, ⟨h1, fun j h h' => .im _ _ (hv j h h')⟩, hone⟩
  | agg _ vs hone h1 hv => exact ⟨vs, rfl, ⟨h1, hv⟩, hone⟩
theorem VR.tup_inv {l : List AV} (h : VR κ Im w (.tup l) v) : ∃ vs, v = .tuple vs.toArray ∧ VRL κ Im w l vs := by
  cases h with
  | im _ _ h => cases h with | tup _ vs h1 hv => exact ⟨vs, rfl, h1, fun j h h' => .im _ _ (hv j h h')⟩
  | tup _ vs h1 hv => exact ⟨vs, rfl, h1, hv⟩
theorem VR.ptr_inv {id off : Nat} (h : VR κ Im w (.ptr id off) v) : ∃ b, v = .pointer (some ⟨b, off, none⟩) ∧ κ id 0 = some (.pointer (some ⟨b, 0, none⟩)) := by
  cases h with
  | im _ _ h => cases h
  | ptr _ _ b h => exact ⟨b, rfl, h⟩
theorem VR.rptr_inv {l : List AV} (h : VR κ Im w (.rptr l) v) : ∃ (b o : Nat) (vals : Nat → Value), v = .pointer (some ⟨b, o, none⟩) ∧ (∀ c ∈ l, c.one = true) ∧ (∀ j, j < l.length → Im ⟨b, o + j, none⟩ ∧ w.cell? ⟨b, o + j, none⟩ = some (vals j)) ∧ ∀ j (h : j < l.length), IR Im w (l[j]) (vals j) := by
  cases h with
  | im _ _ h => cases h with | rptr _ b o vals hone hc hv => exact ⟨b, o, vals, rfl, hone, hc, hv⟩
theorem VR.row_inv {id n : Nat} (h : VR κ Im w (.row id n) v) : ∃ g cap, v = .slice g n cap ∧ κ id n = some v := by
  cases h with
  | im _ _ h => cases h
  | row _ _ g cap h => exact ⟨g, cap, rfl, h⟩
theorem VR.rowp_inv {id n size k off : Nat} (h : VR κ Im w (.rowp id n size k off) v) : ∃ b cap, v = .pointer (some ⟨b, k * size + off, none⟩) ∧ κ id n = some (.slice (some ⟨b, 0, none⟩) n cap) := by
  cases h with
  | im _ _ h => cases h
  | rowp _ _ _ _ _ b cap h => exact ⟨b, cap, rfl, h⟩
theorem VR.gp_inv {g off : Nat} (h : VR κ Im w (.gp g off) v) : v = .pointer (some ⟨g, off, none⟩) := by
  cases h with
  | im _ _ h => cases h; rfl
theorem VR.map_inv {id : Nat} (h : VR κ Im w (.map id) v) : ∃ b, v = .map (some b) ∧ κ id 0 = some v := by
  cases h with
  | im _ _ h => cases h
  | map _ b h => exact ⟨b, rfl, h⟩
theorem VR.nilm_inv (h : VR κ Im w .nilm v) : v = .map none := by cases h with | im _ _ h => cases h; rfl
theorem VR.sub_inv {id n size lo hi : Nat} (h : VR κ Im w (.sub id n size lo hi) v) : ∃ b cap ad c, v = .slice (some ad) (hi - lo) c ∧ κ id n = some (.slice (some ⟨b, 0, none⟩) n cap) ∧ lo ≤ hi ∧ hi ≤ n ∧ (lo < hi → ad = ⟨b, lo * size, none⟩) ∧ hi - lo ≤ c ∧ c ≤ maxLen ∧ ad.spot = none := by
  cases h with
  | im _ _ h => cases h
  | sub _ _ _ _ _ b cap ad c h h1 h2 h3 h4 h5 h6 => exact ⟨b, cap, ad, c, rfl, h, h1, h2, h3, h4, h5, h6⟩
theorem VR.asl_inv {id off n size : Nat} (h : VR κ Im w (.asl id off n size) v) : ∃ b ad c, v = .slice (some ad) n c ∧ κ id 0 = some (.pointer (some ⟨b, 0, none⟩)) ∧ (0 < n → ad = ⟨b, off, none⟩) ∧ n ≤ c ∧ c ≤ maxLen ∧ ad.spot = none := by
  cases h with
  | im _ _ h => cases h
  | asl _ _ _ _ b ad c h h3 h4 h5 h6 => exact ⟨b, ad, c, rfl, h, h3, h4, h5, h6⟩
theorem VR.nils_inv (h : VR κ Im w .nils v) : v = .slice none 0 0 := by cases h with | im _ _ h => cases h; rfl
/-- A list: nil, or a slice whose cells never change. -/
theorem VR.lst_inv {l : List (List AV)} (h : VR κ Im w (.lst l) v) : (v = .slice none 0 0 ∧ l = []) ∨ ∃ (size b o cap : Nat) (vals : Nat → Nat → Value), v = .slice (some ⟨b, o, none⟩) l.length cap ∧ l.length ≤ cap ∧ cap ≤ maxLen ∧ (∀ c ∈ l, c.length = size) ∧
      (∀ c ∈ l, ∀ x ∈ c, x.one = true) ∧
      (∀ k j, k < l.length → j < size → Im ⟨b, o + (k * size + j), none⟩ ∧ w.cell? ⟨b, o + (k * size + j), none⟩ = some (vals k j)) ∧
      ∀ k j (h : k < l.length) (h' : j < l[k].length), IR Im w (l[k][j]) (vals k j) := by
  cases h with
  | im _ _ h =>
    cases h with
    | lnil => exact .inl ⟨rfl, rfl⟩
    | lst _ size b o cap vals h1 h2 h3 h4 h5 h6 => exact .inr ⟨size, b, o, cap, vals, rfl, h1, h2, h3, h4, h5, h6⟩
theorem VR.fn_inv {f : Fn} {l m : List AV} (h : VR κ Im w (.fn f l m) v) : ∃ vs us, v = .func f vs.toArray us.toArray ∧ VRL κ Im w l vs ∧ VRL κ Im w m us := by
  cases h with
  | im _ _ h => cases h with | fn _ _ _ vs us h1 h2 hv hu => exact ⟨vs, us, rfl, ⟨h1, fun j h h' => .im _ _ (hv j h h')⟩, h2, fun j h h' => .im _ _ (hu j h h')⟩
  | fn _ _ _ vs us h1 h2 hv hu => exact ⟨vs, us, rfl, ⟨h1, hv⟩, h2, hu⟩

theorem VR.oneCells {a : AV} (h : VR κ Im w a v) (hone : ∀ c ∈ a.cells, c.one = true) : VRL κ Im w a.cells v.cells.toList := by
  cases a with
  | agg l => obtain ⟨vs, rfl, hl, _⟩ := h.agg_inv; simpa [AV.cells, Value.cells] using hl
  | junk => exact absurd (hone _ (List.mem_singleton.2 rfl)) (by simp [AV.one])
  | tup l => exact absurd (hone _ (List.mem_singleton.2 rfl)) (by simp [AV.one])
  | any u => exact absurd (hone _ (List.mem_singleton.2 rfl)) (by simp [AV.one])
  | _ =>
    have hc : v.cells = #[v] := by
      cases h with
      | im _ _ h => cases h <;> rfl
      | _ => rfl
    rw [hc]
    exact ⟨rfl, fun j h1 h2 => by
      have : j = 0 := by simpa [AV.cells] using h1
      subst this
      exact h⟩

theorem VRL.nil : VRL κ Im w [] [] := ⟨rfl, fun j h => by simp at h⟩
theorem VRL.cons {a : AV} {l : List AV} {vs : List Value} (h : VR κ Im w a v) (hl : VRL κ Im w l vs) : VRL κ Im w (a :: l) (v :: vs) := by
  refine ⟨by simp [hl.1], fun j h1 h2 => ?_⟩
  cases j with
  | zero => exact h
  | succ j => exact hl.2 j (by simpa using h1) (by simpa using h2)
theorem VRL.append {l m : List AV} {vs us : List Value} (h : VRL κ Im w l vs) (hm : VRL κ Im w m us) : VRL κ Im w (l ++ m) (vs ++ us) := by
  refine ⟨by simp [h.1, hm.1], fun j h1 h2 => ?_⟩
  have hh := h.1
  by_cases hj : j < l.length
  · rw [List.getElem_append_left hj, List.getElem_append_left (by omega)]; exact h.2 _ _ _
  · rw [List.getElem_append_right (by omega), List.getElem_append_right (by omega)]
    have e : j - l.length = j - vs.length := by omega
    simp only [← e]
    exact hm.2 _ (by simp at h1; omega) (by simp at h2; omega)
theorem VRL.take {l : List AV} {vs : List Value} (h : VRL κ Im w l vs) (n : Nat) : VRL κ Im w (l.take n) (vs.take n) :=
  ⟨by simp [h.1], fun j h1 h2 => by rw [List.getElem_take, List.getElem_take]; exact h.2 _ _ _⟩
theorem VRL.drop {l : List AV} {vs : List Value} (h : VRL κ Im w l vs) (n : Nat) : VRL κ Im w (l.drop n) (vs.drop n) :=
  ⟨by simp [h.1], fun j h1 h2 => by rw [List.getElem_drop, List.getElem_drop]; exact h.2 _ _ _⟩
theorem VRL.get? {l : List AV} {vs : List Value} (h : VRL κ Im w l vs) {i : Nat} {a : AV} (hi : l[i]? = some a) : ∃ u, vs[i]? = some u ∧ VR κ Im w a u := by
  obtain ⟨hlt, rfl⟩ := List.getElem?_eq_some_iff.1 hi
  exact ⟨_, List.getElem?_eq_getElem (by rw [← h.1]; exact hlt), h.2 i hlt _⟩
theorem VRL.ofIR {l : List AV} {vs : List Value} (h : IRL Im w l vs) : VRL κ Im w l vs := ⟨h.1, fun j a b => .im _ _ (h.2 j a b)⟩

theorem IR.const1 {a : AV} (h : const1 v = some a) : IR Im w a v ∧ a.one = true ∧ a.pure = true := by
  unfold Go.Abs.const1 at h
  split at h <;> first
    | (cases h; done)
    | (simp only [Option.some.injEq] at h; subst h; exact ⟨by constructor, rfl, by simp [AV.pure]⟩)
    | (simp only [Option.some.injEq] at h; subst h; rename_i s; have e : (Value.string s) = .string ⟨s.data.toList.toArray⟩ := by simp
       rw [e]; exact ⟨IR.str (Im := Im) (w := w) s.data.toList, rfl, by simp [AV.pure]⟩)

theorem mapM_const1 : ∀ {vs : List Value} {l : List AV}, vs.mapM const1 = some l → IRL Im w l vs ∧ (∀ c ∈ l, c.one = true) ∧ ∀ c ∈ l, c.pure = true
  | [], l, h => by simp at h; subst h; exact ⟨⟨rfl, fun j h => by simp at h⟩, by simp, by simp⟩
  | v :: vs, l, h => by
    rw [List.mapM_cons] at h
    simp only [Option.bind_eq_bind, Option.bind_eq_some_iff, Option.pure_def, Option.some.injEq] at h
    obtain ⟨a, ha, l', hl', rfl⟩ := h
    obtain ⟨h1, h2, h2'⟩ := IR.const1 (Im := Im) (w := w) ha
    obtain ⟨h3, h4, h5⟩ := mapM_const1 hl'
    refine ⟨⟨by simp [h3.1], fun j hj hj' => ?_⟩, by simpa using ⟨h2, h4⟩, by simpa using ⟨h2', h5⟩⟩
    cases j with
    | zero => exact h1
    | succ j => exact h3.2 j (by simpa using hj) (by simpa using hj')

theorem IR.constAV {a : AV} (h : constAV v = some a) : IR Im w a v := by
  unfold Go.Abs.constAV at h
  split at h
  · rename_i cs
    simp only [Option.map_eq_some_iff] at h
    obtain ⟨l, hl, rfl⟩ := h
    obtain ⟨h1, h2, _⟩ := mapM_const1 (Im := Im) (w := w) hl
    have := IR.agg (Im := Im) (w := w) l cs.toList h2 h1.1 (fun j a b => h1.2 j a b)
    simpa using this
  · exact (IR.const1 h).1

/-- An operand reads as the abstract one. -/
theorem opd_ok {x : Operand} {x' : Opd} {f : Frame} {a : Act} (h : opd x = some x') (hf : FRel κ Im w f a) : VR κ Im w (x'.ev f) (a.eval x) := by
  cases x with
  | tmp t => simp [opd] at h; subst h; exact hf t
  | const v => simp [opd] at h; obtain ⟨c, hc, rfl⟩ := h; exact .im _ _ (IR.constAV hc)
  | global g => simp [opd] at h; subst h; exact .im _ _ (.gp g 0)
  | func g =>
    simp [opd] at h; subst h
    exact .im _ _ (.fn (.func g) [] [] [] [] rfl rfl (fun j h => by simp at h) (fun j h => by simp at h))
theorem opds_ok {f : Frame} {a : Act} (hf : FRel κ Im w f a) : ∀ {xs : List Operand} {xs' : List Opd}, xs.mapM opd = some xs' → VRL κ Im w (xs'.map (·.ev f)) (xs.map a.eval)
  | [], xs', h => by simp at h; subst h; exact .nil
  | x :: xs, xs', h => by
    rw [List.mapM_cons] at h
    simp only [Option.bind_eq_bind, Option.bind_eq_some_iff, Option.pure_def, Option.some.injEq] at h
    obtain ⟨b, hb, l', hl', rfl⟩ := h
    exact .cons (opd_ok hb hf) (opds_ok hf hl')
end
end Go.Abs
