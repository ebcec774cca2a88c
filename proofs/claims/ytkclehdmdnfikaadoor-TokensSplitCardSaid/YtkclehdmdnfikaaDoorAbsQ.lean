/- Abstract machine, part 17: regions, in order and in any order. -/
import Derived.Test.YtkclehdmdnfikaaDoorAbsP
set_option linter.unusedSimpArgs false
set_option linter.unusedVariables false
set_option linter.constructorNameAsVariable false
namespace Go.Abs
open Go.RowKit
variable {G : Globs}
section
variable {P : Program} {base : Nat} {κ : Key} {Im : Addr → Prop} {w : World} {σ : Store}

/-- More is known behind an operation: what leaves the store as it is leaves it; what makes an entry makes one. -/
theorem awpOp_info {o : AOp} {K K' : AV → Store → Prop} {f : Frame} {σ : Store} (h : awpOp P K f σ o) (hK : ∀ r σ', K r σ' → (o.neutral = true → σ' = σ) → (o.makes = true → ∃ e, σ' = σ ++ [e]) → K' r σ') : awpOp P K' f σ o := by
  by_cases hn : o.neutral = true
  · obtain ⟨r, h1, h2⟩ := nev_of hn h
    exact of_nev hn h1 (hK r σ h2 (fun _ => rfl) (fun hm => by cases o <;> simp [AOp.neutral, AOp.makes] at hn hm))
  · cases o <;> first | (exact absurd rfl hn) | skip
    case alloc t cells => exact hK _ _ h (fun hh => absurd hh hn) (fun _ => ⟨_, rfl⟩)
    case box t x => exact ⟨h.1, hK _ _ h.2 (fun hh => absurd hh hn) (fun _ => ⟨_, rfl⟩)⟩
    case store n x y =>
      obtain ⟨σ', h1, h2, h3, h4⟩ := h
      exact ⟨σ', h1, h2, h3, hK _ _ h4 (fun hh => absurd hh hn) (fun hh => by simp [AOp.makes] at hh)⟩
    case mkslice e s b z x y =>
      obtain ⟨n, c, h1, h2, h3, h4, h5, h6, h7, h8⟩ := h
      exact ⟨n, c, h1, h2, h3, h4, h5, h6, h7, hK _ _ h8 (fun hh => absurd hh hn) (fun _ => ⟨_, rfl⟩)⟩
    case mkrow e s z n ps =>
      obtain ⟨qs, h1, h2, h3⟩ := h
      exact ⟨qs, h1, h2, hK _ _ h3 (fun hh => absurd hh hn) (fun _ => ⟨_, rfl⟩)⟩
    case app e s b x y =>
      simp only [awpOp] at h ⊢
      obtain ⟨m, h1, h2, h3, h4⟩ := h
      refine ⟨m, h1, h2, h3, ?_⟩
      split at h4
      · rcases h4 with ⟨g0, g3⟩ | ⟨im, g0, g1, g2, g3⟩
        · exact .inl ⟨g0, hK _ _ g3 (fun hh => absurd hh hn) (fun hh => by simp [AOp.makes] at hh)⟩
        exact .inr ⟨im, g0, g1, g2, hK _ _ g3 (fun hh => absurd hh hn) (fun hh => by simp [AOp.makes] at hh)⟩
      · obtain ⟨els, im, g1, g0, g2, g3, g4, g5⟩ := h4
        exact ⟨els, im, g1, g0, g2, g3, g4, hK _ _ g5 (fun hh => absurd hh hn) (fun hh => by simp [AOp.makes] at hh)⟩
      · exact h4.elim
    case apps e x y =>
      simp only [awpOp] at h ⊢
      obtain ⟨l, h1, h4⟩ := h
      refine ⟨l, h1, ?_⟩
      split at h4
      · rcases h4 with ⟨g0, g3⟩ | ⟨im, g0, g3⟩
        · exact .inl ⟨g0, hK _ _ g3 (fun hh => absurd hh hn) (fun hh => by simp [AOp.makes] at hh)⟩
        exact .inr ⟨im, g0, hK _ _ g3 (fun hh => absurd hh hn) (fun hh => by simp [AOp.makes] at hh)⟩
      · obtain ⟨els, im, g1, g2, g3, g5⟩ := h4
        exact ⟨els, im, g1, g2, g3, hK _ _ g5 (fun hh => absurd hh hn) (fun hh => by simp [AOp.makes] at hh)⟩
      · exact h4.elim
    case call fn l =>
      rcases h with ⟨args', R, h1, h2, h3⟩ | ⟨args', R, h1, h2, h3⟩ | h
      · exact .inl ⟨args', R, h1, h2, fun r hr => hK _ _ (h3 r hr) (fun hh => absurd hh hn) (fun hh => by simp [AOp.makes] at hh)⟩
      · exact .inr (.inl ⟨args', R, h1, h2, fun r hr => ⟨(h3 r hr).1, hK _ _ (h3 r hr).2 (fun hh => absurd hh hn) (fun hh => by simp [AOp.makes] at hh)⟩⟩)
      · exact .inr (.inr (h.mono fun r σ' hr => hK _ _ hr (fun hh => absurd hh hn) (fun hh => by simp [AOp.makes] at hh)))
    case callv x l =>
      simp only [awpOp] at h ⊢
      split at h
      · rename_i g first captured he
        refine ⟨h.1, ?_⟩
        rcases h.2 with ⟨args', R, h1, h2, h3⟩ | ⟨args', R, h1, h2, h3⟩ | h
        · exact .inl ⟨args', R, h1, h2, fun r hr => hK _ _ (h3 r hr) (fun hh => absurd hh hn) (fun hh => by simp [AOp.makes] at hh)⟩
        · exact .inr (.inl ⟨args', R, h1, h2, fun r hr => ⟨(h3 r hr).1, hK _ _ (h3 r hr).2 (fun hh => absurd hh hn) (fun hh => by simp [AOp.makes] at hh)⟩⟩)
        · exact .inr (.inr (h.mono fun r σ' hr => hK _ _ hr (fun hh => absurd hh hn) (fun hh => by simp [AOp.makes] at hh)))
      · exact h.elim
    case ex o =>
      obtain ⟨r, σ', h1, h2⟩ := h
      refine ⟨r, σ', h1, hK _ _ h2 (fun hh => absurd hh hn) (fun hm => ?_)⟩
      cases o
      · exact ⟨_, h1.2⟩
      · simp [AOp.makes] at hm
      · simp [AOp.makes] at hm
    case bad => exact h.elim

/-- What an instruction that leaves the store as it is lays into its slot. -/
def JEv [Globs] (P : Program) (j : AIns) (f : Frame) (σ : Store) (r : AV) : Prop := match j.g with
  | none => NEv P f σ r j.o
  | some (t, b) => ∃ w, Wants (f t) b w ∧ (w = true → NEv P f σ r j.o) ∧ (w = false → r = .any undef)

theorem ins_split {j : AIns} {K : Frame → Store → Prop} {f : Frame} {σ : Store} (hn : j.o.neutral = true) (h : awpIns P K j f σ) : ∃ r, JEv P j f σ r ∧ K (f.put j.d r) σ := by
  obtain ⟨g, d, o⟩ := j
  cases g with
  | none =>
    obtain ⟨r, h1, h2⟩ := nev_of (K := fun r σ' => K (f.put d r) σ') hn h
    exact ⟨r, h1, h2⟩
  | some p =>
    obtain ⟨t, b⟩ := p
    obtain ⟨c, h1, h2, h3⟩ := h
    cases c with
    | true =>
      obtain ⟨r, h4, h5⟩ := nev_of hn (h2 rfl)
      exact ⟨r, ⟨true, h1, fun _ => h4, nofun⟩, h5⟩
    | false => exact ⟨.any undef, ⟨false, h1, nofun, fun _ => rfl⟩, h3 rfl⟩
theorem ins_join {j : AIns} {K : Frame → Store → Prop} {f : Frame} {σ : Store} {r : AV} (hn : j.o.neutral = true) (h : JEv P j f σ r) (hK : K (f.put j.d r) σ) : awpIns P K j f σ := by
  obtain ⟨g, d, o⟩ := j
  cases g with
  | none => exact of_nev (K := fun r σ' => K (f.put d r) σ') hn h hK
  | some p =>
    obtain ⟨t, b⟩ := p
    obtain ⟨c, h1, h2, h3⟩ := h
    refine ⟨c, h1, fun hc => of_nev (K := fun r σ' => K (f.put d r) σ') hn (h2 hc) hK, fun hc => ?_⟩
    rw [← h3 hc]; exact hK

theorem jev_step {j : AIns} {f f' : Frame} {σ σ' : Store} {r : AV} (hn : j.o.neutral = true) (hf : ∀ t ∈ j.reads, f t = f' t) (hσ : σ' = σ ∨ (∃ e, σ' = σ ++ [e]) ∨ j.o.blind = true) (h : JEv P j f σ r) : JEv P j f' σ' r := by
  have hop : ∀ t ∈ j.o.reads, f t = f' t := fun t ht => hf t (by unfold AIns.reads; simp [ht])
  have key : NEv P f σ r j.o → NEv P f' σ' r j.o := fun h0 => by
    have h1 := nev_agree hn hop h0
    rcases hσ with rfl | ⟨e, rfl⟩ | hb
    · exact h1
    · exact nev_more hn h1
    · exact nev_blind hb h1
  unfold JEv at h ⊢
  split at h
  · exact key h
  · rename_i t b hg
    obtain ⟨c, h1, h2, h3⟩ := h
    exact ⟨c, by rw [← hf t (by unfold AIns.reads; simp [hg])]; exact h1, fun hc => key (h2 hc), h3⟩

theorem put_comm (f : Frame) (d d' : Option Nat) (r r' : AV) (h : ∀ x, d = some x → d' ≠ some x) : (f.put d r).put d' r' = (f.put d' r').put d r := by
  cases d with
  | none => rfl
  | some x =>
    cases d' with
    | none => rfl
    | some y =>
      have hxy : x ≠ y := fun e => h x rfl (by rw [e])
      funext t
      simp only [Frame.put_some]
      by_cases h1 : t = y <;> by_cases h2 : t = x <;> simp [h1, h2] <;> omega

theorem put_other {f : Frame} {d : Option Nat} {r : AV} {t : Nat} (h : d ≠ some t) : f.put d r t = f t := by
  cases d with
  | none => rfl
  | some x => simp only [Frame.put_some]; rw [if_neg]; intro e; exact h (by rw [e])

/-- The one that stands behind may come first. -/
theorem ins_swap {j i : AIns} {K : Frame → Store → Prop} {f : Frame} {σ : Store} (hc : commOK j i = true) (h : awpIns P (awpIns P K i) j f σ) : awpIns P (awpIns P K j) i f σ := by
  unfold commOK at hc
  simp only [Bool.and_eq_true, Bool.or_eq_true] at hc
  obtain ⟨⟨⟨hn, hj⟩, hi⟩, hσ⟩ := hc
  have hjd : ∀ d, j.d = some d → d ∉ i.reads ∧ i.d ≠ some d := fun d hd => by
    rw [hd] at hj; simpa using hj
  have hid : ∀ d, i.d = some d → d ∉ j.reads := fun d hd => by
    rw [hd] at hi; simpa using hi
  obtain ⟨r, hr, h⟩ := ins_split hn h
  have hread : ∀ t ∈ i.reads, (f.put j.d r) t = f t := fun t ht => put_other fun e => (hjd t e).1 ht
  have hcomm : ∀ r2, (f.put j.d r).put i.d r2 = (f.put i.d r2).put j.d r := fun r2 => put_comm f _ _ _ _ fun x hx => (hjd x hx).2
  have hfin : ∀ r2 σ2, K ((f.put j.d r).put i.d r2) σ2 → (σ2 = σ ∨ (∃ e, σ2 = σ ++ [e]) ∨ j.o.blind = true) → awpIns P K j (f.put i.d r2) σ2 := fun r2 σ2 hK hs =>
    ins_join hn (jev_step hn (fun t ht => (put_other fun e => hid t e ht).symm) hs hr) (by rw [← hcomm]; exact hK)
  have hcls : ∀ σ2, (i.o.neutral = true → σ2 = σ) → (i.o.makes = true → ∃ e, σ2 = σ ++ [e]) → (σ2 = σ ∨ (∃ e, σ2 = σ ++ [e]) ∨ j.o.blind = true) := fun σ2 h1 h2 => by
    rcases hσ with (hb | hb) | hb
    · exact .inr (.inr hb)
    · exact .inl (h1 hb)
    · exact .inr (.inl (h2 hb))
  have hop : ∀ t ∈ i.o.reads, (f.put j.d r) t = f t := fun t ht => hread t (by unfold AIns.reads; simp [ht])
  unfold awpIns at h
  show awpIns P (awpIns P K j) i f σ
  unfold awpIns
  split at h
  · exact awpOp_info (awpOp_agree hop h) fun r2 σ2 hK h1 h2 => hfin r2 σ2 hK (hcls σ2 h1 h2)
  · rename_i t b hg
    obtain ⟨c, h1, h2, h3⟩ := h
    refine ⟨c, by rw [← hread t (by unfold AIns.reads; simp [hg])]; exact h1, fun hcb => ?_, fun hcb => ?_⟩
    · exact awpOp_info (awpOp_agree hop (h2 hcb)) fun r2 σ2 hK h1 h2 => hfin r2 σ2 hK (hcls σ2 h1 h2)
    · exact hfin (.any undef) σ (h3 hcb) (.inl rfl)

theorem awpIns_mono {i : AIns} {K K' : Frame → Store → Prop} {f : Frame} {σ : Store} (hK : ∀ f σ, K f σ → K' f σ) (h : awpIns P K i f σ) : awpIns P K' i f σ := by
  unfold awpIns at h ⊢
  split at h
  · exact awpOp_info h fun r σ' h0 _ _ => hK _ _ h0
  · obtain ⟨c, h1, h2, h3⟩ := h
    exact ⟨c, h1, fun hc => awpOp_info (h2 hc) fun r σ' h0 _ _ => hK _ _ h0, fun hc => hK _ _ (h3 hc)⟩

/-- One that may change places with all that stand ahead of it may come first. -/
theorem ops_pull {Q : Frame → Store → Prop} {i : AIns} {post : List AIns} : ∀ (pre : List AIns) (f : Frame) (σ : Store), (∀ j ∈ pre, commOK j i = true) → awpOps P Q (pre ++ i :: post) f σ → awpIns P (awpOps P Q (pre ++ post)) i f σ
  | [], f, σ, _, h => h
  | j :: pre, f, σ, hc, h => by
    have h1 : awpIns P (awpIns P (awpOps P Q (pre ++ post)) i) j f σ := awpIns_mono (fun f' σ' h' => ops_pull pre f' σ' (fun k hk => hc k (by simp [hk])) h') h
    exact ins_swap (hc j (by simp)) h1

/-- An instruction does what the abstract one says. -/
theorem ins_ok {N : Nat} {ops : Array Oper} {loud : List FuncId} {o : Oper} {f : Frame} {a : Act} {K : Frame → Store → Prop} {next : Act → World → Prop} {Q : Exit → Act → World → Prop} (hs : SRel base κ Im σ w) (hf : FRel κ Im w f a) (hN : a.tmps.size = N)
    (h : awpIns P K (quieten loud (owned loud (compIns P N ops o))) f σ ∨ awpIns P K (owned loud (compIns P N ops o)) f σ)
    (hnext : ∀ f' σ' κ' Im' a' w', K f' σ' → FRel κ' Im' w' f' a' → a'.tmps.size = N → a'.defers = a.defers → SRel base κ' Im' σ' w' → Grow base κ Im w κ' Im' w' → next a' w') :
    if Region.wanted o (yielded ops a.tmps) then o.wp P a w next Q else next (a.put o.dst undef) w := by
  have h' : awpIns P K (owned loud (compIns P N ops o)) f σ := by
    rcases h with h | h
    · generalize owned loud (compIns P N ops o) = i at h
      obtain ⟨g, d, o'⟩ := i
      cases g with
      | none => exact quietOp_ok (loud := loud) (K := fun r σ' => K (f.put d r) σ') h
      | some p =>
        obtain ⟨t, b⟩ := p
        obtain ⟨c, h1, h2, h3⟩ := h
        exact ⟨c, h1, fun hc => quietOp_ok (loud := loud) (K := fun r σ' => K (f.put d r) σ') (h2 hc), h3⟩
    · exact h
  clear h
  unfold compIns at h'
  split at h'
  case isFalse => exact h'.elim
  rename_i hd
  split at h'
  · exact h'.elim
  rename_i ao hc
  -- a slot that is written
  have hput : ∀ {κ' Im' w'} {r : AV} {v : Value}, FRel κ' Im' w' f a → VR κ' Im' w' r v → FRel κ' Im' w' (f.put o.dst r) (a.put o.dst v) ∧ (a.put o.dst v).tmps.size = N ∧ (a.put o.dst v).defers = a.defers := by
    intro κ' Im' w' r v hf' hv
    cases hdst : o.dst with
    | none => exact ⟨hf', hN, rfl⟩
    | some d =>
      rw [hdst] at hd
      have hdN : d < N := by simpa [dstOK] using hd
      refine ⟨fun t => ?_, by simp [Act.put, hN], rfl⟩
      simp only [Frame.put_some, Act.put]
      by_cases ht : t = d
      · subst ht
        rw [if_pos rfl]
        have : (a.tmps.setIfInBounds t v).getD t undef = v := by
          simp [hN, hdN]
        rw [this]; exact hv
      · rw [if_neg ht]
        have : (a.tmps.setIfInBounds d v).getD t undef = a.tmps.getD t undef := by
          simp only [Array.getD_eq_getD_getElem?]
          rw [Array.getElem?_setIfInBounds_ne (Ne.symm ht)]
        rw [this]; exact hf' t
  have hop : awpOp P (fun r σ' => K (f.put o.dst r) σ') f σ (ownOp loud ao) → o.wp P a w next Q := fun h0 =>
    op_own_ok hc hs hf h0 fun r σ' κ' Im' v w' hK hv hs' hg => by
      obtain ⟨h1, h2, h3⟩ := hput (hf.grow hg) hv
      exact hnext _ _ _ _ _ _ hK h1 h2 h3 hs' hg
  split at h'
  · rename_i hgd
    rw [if_pos (by simp [Region.wanted, hgd])]
    exact hop h'
  · rename_i j b hgd
    split at h'
    case h_2 => exact h'.elim
    rename_i t ht
    obtain ⟨c, h1, h2, h3⟩ := h'
    have hft := hf t
    have hw : Region.wanted o (yielded ops a.tmps) = c := by
      rcases h1 with ⟨h1, rfl⟩ | ⟨c', h1, rfl⟩
      · rw [h1] at hft
        have hv : a.tmps.getD t undef = undef := by
          generalize a.tmps.getD t undef = u at hft
          cases hft with | im _ _ h => cases h; rfl
        have hy : yielded ops a.tmps j = none := by
          unfold yielded
          rw [ht]
          rw [Array.getD_eq_getD_getElem?] at hv
          cases hq : a.tmps[t]? with
          | none => simp [hq]
          | some u => rw [hq] at hv; simp at hv; subst hv; simp [hq, undef]
        simp [Region.wanted, hgd, hy]
      · rw [h1] at hft
        have hv := hft.bool_inv
        have hget : a.tmps[t]? = some (.bool c') := by
          rw [Array.getD_eq_getD_getElem?] at hv
          cases hq : a.tmps[t]? with
          | none => rw [hq] at hv; simp [undef] at hv
          | some u => rw [hq] at hv; simpa using hv
        have hy : yielded ops a.tmps j = some c' := by
          unfold yielded
          rw [ht]
          simp [hget]
        simp [Region.wanted, hgd, hy]
    rw [hw]
    cases c with
    | true => exact hop (h2 rfl)
    | false =>
      obtain ⟨g1, g2, g3⟩ := hput hf (.im _ _ (.any undef))
      exact hnext _ _ _ _ _ _ (h3 rfl) g1 g2 g3 hs (Grow.refl _ _ _ _)

/-- The state behind a piece of code. -/
structure St [Globs] (base : Nat) (κ : Key) (Im : Addr → Prop) (w : World) (N : Nat) (D : List Deferred) (f : Frame) (σ : Store) (κ' : Key) (Im' : Addr → Prop) (a' : Act) (w' : World) : Prop where
  fr : FRel κ' Im' w' f a'
  sz : a'.tmps.size = N
  df : a'.defers = D
  st : SRel base κ' Im' σ w'
  gr : Grow base κ Im w κ' Im' w'

/-- Operations in the order of the text. -/
theorem ops_ok {N : Nat} {ops : Array Oper} {loud : List FuncId} {D : List Deferred} {κ₀ : Key} {Im₀ : Addr → Prop} {w₀ : World} {QA : Frame → Store → Prop} {Q : Exit → Act → World → Prop}
    (hQ : ∀ f σ κ Im a w, QA f σ → St base κ₀ Im₀ w₀ N D f σ κ Im a w → Q .normal a w) : ∀ (l : List Oper) (f : Frame) (σ : Store) (κ : Key) (Im : Addr → Prop) (a : Act) (w : World), awpOps P QA (l.map fun o => owned loud (compIns P N ops o)) f σ → St base κ₀ Im₀ w₀ N D f σ κ Im a w → wpList P ops Q l a w
  | [], f, σ, κ, Im, a, w, h, hst => hQ f σ κ Im a w h hst
  | o :: l, f, σ, κ, Im, a, w, h, hst => by
    have := ins_ok (loud := loud) (Q := Q) (next := wpList P ops Q l) hst.st hst.fr hst.sz (.inr h) (fun f' σ' κ' Im' a' w' hK h1 h2 h3 h4 h5 => ops_ok hQ l f' σ' κ' Im' a' w' hK ⟨h1, h2, h3.trans hst.df, h4, hst.gr.trans h5⟩)
    unfold wpList
    split
    · rename_i hw; rw [if_pos hw] at this; exact .inl this
    · rename_i hw; rw [if_neg hw] at this; exact this
end
end Go.Abs
