/- Abstract machine, part 16: instructions that may change places. -/
import Derived.Test.YtkclehdmdnfikaaDoorAbsO
set_option linter.unusedSimpArgs false
set_option linter.unusedVariables false
set_option linter.constructorNameAsVariable false
namespace Go.Abs
open Go.RowKit
variable {G : Globs}
section
variable {P : Program}

/-- What an operation that leaves the store as it is yields. -/
def NEv [Globs] (P : Program) (f : Frame) (σ : Store) (r : AV) : AOp → Prop
  | .qcall fn args => ∃ args', CoeL σ true (args.map (·.ev f)) args' ∧ PCalls P fn args' (fun r' => r' = r) ∧ rig r = true
  | .qcallv x args => match x.ev f with
    | .fn (.func g) first captured => hasBody P g = true ∧ ∃ args', CoeL σ true (first ++ args.map (·.ev f) ++ captured) args' ∧ PCalls P g args' (fun r' => r' = r) ∧ rig r = true
    | _ => False
  | .mklst _ size zero n parts => ∃ ps, (parts.mapM fun (p : Nat × Opd) => (share σ (p.2.ev f)).bind fun v => if v.cells.length = size ∧ v.cells.all AV.one then some (p.1 * size, v.cells) else none) = some ps ∧ r = .lst (chunks n size (lay (List.replicate n zero).flatten ps))
  | .tobytes x => bytesStep (x.ev f) = some r
  | o => pstep σ f o = some r

theorem nev_of {o : AOp} {K : AV → Store → Prop} {f : Frame} {σ : Store} (hn : o.neutral = true) (h : awpOp P K f σ o) : ∃ r, NEv P f σ r o ∧ K r σ := by
  cases o <;> first | (simp [AOp.neutral] at hn; done) | skip
  case qcall fn args =>
    obtain ⟨args', r, h1, h2, h3, h4⟩ := h
    exact ⟨r, ⟨args', h1, h2, h3⟩, h4⟩
  case qcallv x args =>
    simp only [awpOp] at h
    split at h
    · rename_i g first captured he
      obtain ⟨hb, args', r, h1, h2, h3, h4⟩ := h
      exact ⟨r, by simp only [NEv, he]; exact ⟨hb, args', h1, h2, h3⟩, h4⟩
    · exact h.elim
  case mklst e size zero n parts =>
    obtain ⟨ps, h1, h2⟩ := h
    exact ⟨_, ⟨ps, h1, rfl⟩, h2⟩
  all_goals exact h

theorem of_nev {o : AOp} {K : AV → Store → Prop} {f : Frame} {σ : Store} {r : AV} (hn : o.neutral = true) (h : NEv P f σ r o) (hK : K r σ) : awpOp P K f σ o := by
  cases o <;> first | (simp [AOp.neutral] at hn; done) | skip
  case qcall fn args =>
    obtain ⟨args', h1, h2, h3⟩ := h
    exact ⟨args', r, h1, h2, h3, hK⟩
  case qcallv x args =>
    simp only [NEv] at h
    simp only [awpOp]
    split at h
    · rename_i g first captured he
      simp only [he]
      obtain ⟨hb, args', h1, h2, h3⟩ := h
      exact ⟨hb, args', r, h1, h2, h3, hK⟩
    · exact h.elim
  case mklst e size zero n parts =>
    obtain ⟨ps, h1, rfl⟩ := h
    exact ⟨ps, h1, hK⟩
  all_goals exact ⟨r, h, hK⟩

theorem ev_agree {x : Opd} {f f' : Frame} (h : ∀ t ∈ x.slots, f t = f' t) : x.ev f = x.ev f' := by
  cases x with
  | s t => exact h t (by simp [Opd.slots])
  | c v => rfl
theorem evs_agree {l : List Opd} {f f' : Frame} (h : ∀ t ∈ l.flatMap Opd.slots, f t = f' t) : l.map (·.ev f) = l.map (·.ev f') := by
  apply List.map_congr_left
  intro x hx
  exact ev_agree fun t ht => h t (List.mem_flatMap.2 ⟨x, hx, ht⟩)
theorem evo_agree {l : Option Opd} {f f' : Frame} (h : ∀ t ∈ l.toList.flatMap Opd.slots, f t = f' t) : l.map (·.ev f) = l.map (·.ev f') := by
  cases l with
  | none => rfl
  | some x => simp only [Option.map_some]; rw [ev_agree fun t ht => h t (by simpa using ht)]
theorem mapM_congr {α β : Type} {g g' : α → Option β} : ∀ {l : List α}, (∀ a ∈ l, g a = g' a) → l.mapM g = l.mapM g'
  | [], _ => rfl
  | a :: l, h => by
    rw [List.mapM_cons, List.mapM_cons, h a (by simp), mapM_congr fun b hb => h b (by simp [hb])]

theorem xstep_agree {o : XOp} {σ : Store} {f f' : Frame} (h : ∀ t ∈ o.reads, f t = f' t) : xstep σ f o = xstep σ f' o := by
  cases o <;> simp only [XOp.reads, List.mem_append] at h <;> simp only [xstep]
  case look kind zero ok x y => rw [ev_agree (x := x) fun t ht => h t (.inl ht), ev_agree (x := y) fun t ht => h t (.inr ht)]
  case bit op x y => rw [ev_agree (x := x) fun t ht => h t (.inl ht), ev_agree (x := y) fun t ht => h t (.inr ht)]
  case aslc len size x lo hi => rw [ev_agree (x := x) fun t ht => h t (.inl (.inl ht)), evo_agree (l := lo) fun t ht => h t (.inl (.inr ht)), evo_agree (l := hi) fun t ht => h t (.inr ht)]
  all_goals (rename_i x; rw [ev_agree (x := x) fun t ht => h t ht])

theorem pstep_agree {o : AOp} {σ : Store} {f f' : Frame} (h : ∀ t ∈ o.reads, f t = f' t) : pstep σ f o = pstep σ f' o := by
  cases o <;> simp only [AOp.reads, List.mem_append] at h <;> simp only [pstep]
  case px o => exact xstep_agree h
  case build zero ps =>
    congr 1
    exact mapM_congr fun p hp => by rw [ev_agree (x := p.2.2) fun t ht => h t (List.mem_flatMap.2 ⟨p, hp, ht⟩)]
  case mkfn fn l m =>
    rw [evs_agree fun t ht => h t (.inl ht), evs_agree fun t ht => h t (.inr ht)]
  case sslc x lo hi =>
    rw [ev_agree (x := x) fun t ht => h t (.inl (.inl ht)), evo_agree (l := lo) fun t ht => h t (.inl (.inr ht)), evo_agree (l := hi) fun t ht => h t (.inr ht)]
  case slc size x lo hi =>
    rw [ev_agree (x := x) fun t ht => h t (.inl (.inl ht)), evo_agree (l := lo) fun t ht => h t (.inl (.inr ht)), evo_agree (l := hi) fun t ht => h t (.inr ht)]
  case pick c a b =>
    rw [ev_agree (x := c) fun t ht => h t (.inl (.inl ht)), ev_agree (x := a) fun t ht => h t (.inl (.inr ht)), ev_agree (x := b) fun t ht => h t (.inr ht)]
  all_goals first
    | rfl
    | (rename_i x y; rw [ev_agree (x := x) fun t ht => h t (.inl ht), ev_agree (x := y) fun t ht => h t (.inr ht)])
    | (rename_i x; rw [ev_agree (x := x) fun t ht => h t ht])
    | (rename_i x _; rw [ev_agree (x := x) fun t ht => h t ht])

theorem awpOp_agree {o : AOp} {K : AV → Store → Prop} {σ : Store} {f f' : Frame} (h : ∀ t ∈ o.reads, f t = f' t) (h0 : awpOp P K f σ o) : awpOp P K f' σ o := by
  have hp := pstep_agree (G := G) (σ := σ) h
  cases o <;> simp only [AOp.reads, List.mem_append] at h
  case alloc => exact h0
  case box t x => simp only [awpOp] at h0 ⊢; rwa [← ev_agree (x := x) h]
  case store n x y => simp only [awpOp] at h0 ⊢; rwa [← ev_agree (x := x) fun t ht => h t (.inl ht), ← ev_agree (x := y) fun t ht => h t (.inr ht)]
  case mkslice e s b z x y => simp only [awpOp] at h0 ⊢; rwa [← ev_agree (x := x) fun t ht => h t (.inl ht), ← ev_agree (x := y) fun t ht => h t (.inr ht)]
  case mklst e size zero n ps =>
    simp only [awpOp] at h0 ⊢
    obtain ⟨qs, h1, h2⟩ := h0
    refine ⟨qs, ?_, h2⟩
    rw [← h1]
    exact mapM_congr fun p hp => by rw [ev_agree (x := p.2) fun t ht => h t (List.mem_flatMap.2 ⟨p, hp, ht⟩)]
  case mkrow e size zero n ps =>
    simp only [awpOp] at h0 ⊢
    obtain ⟨qs, h1, h2⟩ := h0
    refine ⟨qs, ?_, h2⟩
    rw [← h1]
    exact mapM_congr fun p hp => by rw [ev_agree (x := p.2) fun t ht => h t (List.mem_flatMap.2 ⟨p, hp, ht⟩)]
  case app e s b x y => simp only [awpOp] at h0 ⊢; rwa [← ev_agree (x := x) fun t ht => h t (.inl ht), ← ev_agree (x := y) fun t ht => h t (.inr ht)]
  case apps e x y => simp only [awpOp] at h0 ⊢; rwa [← ev_agree (x := x) fun t ht => h t (.inl ht), ← ev_agree (x := y) fun t ht => h t (.inr ht)]
  case call fn l => simp only [awpOp] at h0 ⊢; rwa [← evs_agree h]
  case qcall fn l => simp only [awpOp] at h0 ⊢; rwa [← evs_agree h]
  case callv x l => simp only [awpOp] at h0 ⊢; rwa [← ev_agree (x := x) fun t ht => h t (.inl ht), ← evs_agree (l := l) fun t ht => h t (.inr ht)]
  case qcallv x l => simp only [awpOp] at h0 ⊢; rwa [← ev_agree (x := x) fun t ht => h t (.inl ht), ← evs_agree (l := l) fun t ht => h t (.inr ht)]
  case tobytes x => simp only [awpOp] at h0 ⊢; rwa [← ev_agree (x := x) h]
  case ex o =>
    obtain ⟨r, σ', h1, h2⟩ := h0
    refine ⟨r, σ', ?_, h2⟩
    cases o <;> simp only [EOp.reads, List.mem_append] at h <;> simp only [EStep] at h1 ⊢
    case mkmap => exact h1
    case mset kind x k v => rwa [← ev_agree (x := x) fun t ht => h t (.inl (.inl ht)), ← ev_agree (x := k) fun t ht => h t (.inl (.inr ht)), ← ev_agree (x := v) fun t ht => h t (.inr ht)]
    case clr size z x => rwa [← ev_agree (x := x) h]
  case bad => exact h0.elim
  all_goals
    obtain ⟨r, h1, h2⟩ := h0
    exact ⟨r, by rw [← hp]; exact h1, h2⟩

theorem nev_agree {o : AOp} {σ : Store} {f f' : Frame} {r : AV} (hn : o.neutral = true) (h : ∀ t ∈ o.reads, f t = f' t) (h0 : NEv P f σ r o) : NEv P f' σ r o := by
  have h1 := awpOp_agree (P := P) h (of_nev (K := fun r' _ => r' = r) hn h0 rfl)
  obtain ⟨r', h2, rfl⟩ := nev_of hn h1
  exact h2

theorem nev_blind {o : AOp} {σ σ' : Store} {f : Frame} {r : AV} (hb : o.blind = true) (h : NEv P f σ r o) : NEv P f σ' r o := by
  cases o <;> first | (simp [AOp.blind] at hb; done) | exact h | skip
  rename_i o
  cases o <;> first | (simp [AOp.blind] at hb; done) | exact h

theorem get_more {α : Type} {l : List α} {e a : α} {i : Nat} (h : l[i]? = some a) : (l ++ [e])[i]? = some a := by
  rw [List.getElem?_append_left (List.getElem?_eq_some_iff.1 h).1]; exact h

theorem share1_more {σ : Store} {e : Entry} {X r : AV} (h : share1 σ X = some r) : share1 (σ ++ [e]) X = some r := by
  unfold share1 at h ⊢
  split at h
  · split at h
    case h_2 => cases h
    rename_i he
    simp only [get_more he]; exact h
  · exact h
  · exact h
theorem mapM_more {α β : Type} {g g' : α → Option β} (hg : ∀ a b, g a = some b → g' a = some b) : ∀ {l : List α} {m : List β}, l.mapM g = some m → l.mapM g' = some m
  | [], m, h => by simpa using h
  | a :: l, m, h => by
    rw [List.mapM_cons] at h ⊢
    simp only [Option.bind_eq_bind, Option.bind_eq_some_iff, Option.pure_def, Option.some.injEq] at h ⊢
    obtain ⟨b, hb, m', hm', rfl⟩ := h
    exact ⟨b, hg _ _ hb, m', mapM_more hg hm', rfl⟩
theorem share_more {σ : Store} {e : Entry} {X r : AV} (h : share σ X = some r) : share (σ ++ [e]) X = some r := by
  unfold share at h ⊢
  split at h
  · simp only [Option.map_eq_some_iff] at h ⊢
    obtain ⟨m, hm, rfl⟩ := h
    exact ⟨m, mapM_more (fun _ _ => share1_more) hm, rfl⟩
  · simp only [Option.map_eq_some_iff] at h ⊢
    obtain ⟨m, hm, rfl⟩ := h
    refine ⟨m, mapM_more (fun a b hab => ?_) hm, rfl⟩
    split at hab
    · simp only [Option.map_eq_some_iff] at hab ⊢
      obtain ⟨m', hm', rfl⟩ := hab
      exact ⟨m', mapM_more (fun _ _ => share1_more) hm', rfl⟩
    · exact share1_more hab
  · exact share1_more h
theorem coe_more {σ : Store} {e : Entry} {lend : Bool} {X Y : AV} (h : Coe σ lend X Y) : Coe (σ ++ [e]) lend X Y := by
  induction h with
  | pure a hp => exact .pure a hp
  | nils => exact .nils
  | row id n ty size els im he hn hp => exact .row id n ty size els im (get_more he) hn hp
  | ptr id off t cells cells' he hl hoff hlen hp hone ih => exact .ptr id off t cells cells' (get_more he) hl hoff hlen ih hone
  | fn f l l' m m' h1 h2 hl hm ihl ihm => exact .fn f l l' m m' h1 h2 ihl ihm
  | agg l l' h1 hone hl ih => exact .agg l l' h1 hone ih
theorem coeL_more {σ : Store} {e : Entry} {lend : Bool} {l m : List AV} (h : CoeL σ lend l m) : CoeL (σ ++ [e]) lend l m := by
  induction h with
  | nil => exact .nil
  | cons h hl ih => exact .cons (coe_more h) ih
theorem cellsAt_more {σ : Store} {e : Entry} {X : AV} {n : Nat} {l : List AV} (h : cellsAt σ X n = some l) : cellsAt (σ ++ [e]) X n = some l := by
  cases X <;> simp only [cellsAt] at h ⊢ <;> first
    | exact h
    | (split at h
       · rename_i he; simp only [get_more he]; exact h
       · cases h)
theorem view_more {σ : Store} {e : Entry} {X : AV} {l : List (List AV)} (h : view σ X = some l) : view (σ ++ [e]) X = some l := by
  cases X <;> simp only [view] at h ⊢ <;> first
    | exact h
    | (split at h
       · rename_i he; simp only [get_more he]; exact h
       · cases h)

theorem mapView_more {σ : Store} {e : Entry} {X : AV} {kv : List (AV × AV)} (h : mapView σ X = some kv) : mapView (σ ++ [e]) X = some kv := by
  unfold mapView at h ⊢
  split at h
  · exact h
  · split at h
    · rename_i he; simp only [get_more he]; exact h
    · cases h
  · cases h
theorem xstep_more {o : XOp} {σ : Store} {e : Entry} {f : Frame} {r : AV} (h : xstep σ f o = some r) : xstep (σ ++ [e]) f o = some r := by
  cases o <;> simp only [xstep] at h ⊢ <;> try exact h
  case tostr x =>
    simp only [Option.map_eq_some_iff, Option.bind_eq_some_iff] at h ⊢
    obtain ⟨s, ⟨l, hl, hs⟩, hr⟩ := h
    exact ⟨s, ⟨l, view_more hl, hs⟩, hr⟩
  case look kind zero ok x k =>
    simp only [Option.bind_eq_some_iff] at h ⊢
    obtain ⟨l, hl, hr⟩ := h
    exact ⟨l, mapView_more hl, hr⟩
  case mlen x =>
    simp only [Option.map_eq_some_iff] at h ⊢
    obtain ⟨l, hl, hr⟩ := h
    exact ⟨l, mapView_more hl, hr⟩

theorem pstep_more {o : AOp} {σ : Store} {e : Entry} {f : Frame} {r : AV} (h : pstep σ f o = some r) : pstep (σ ++ [e]) f o = some r := by
  cases o <;> simp only [pstep] at h ⊢ <;> try exact h
  case load ag size x =>
    simp only [Option.bind_eq_some_iff] at h ⊢
    obtain ⟨l, hl, hr⟩ := h
    exact ⟨l, cellsAt_more hl, hr⟩
  case len x =>
    simp only [Option.map_eq_some_iff] at h ⊢
    obtain ⟨l, hl, hr⟩ := h
    exact ⟨l, view_more hl, hr⟩
  case px o => exact xstep_more h
  case iaddr size x i =>
    split at h
    · exact h
    · split at h
      · rename_i he; simp only [get_more he]; exact h
      · cases h
    · exact h
    · exact h
    · cases h
  case slc size x lo hi =>
    split at h
    · exact h
    · exact h
    · split at h
      · rename_i he; simp only [get_more he]; exact h
      · rename_i he; simp only [get_more he]; exact h
      · cases h
    · exact h
    · exact h
    · cases h

theorem nev_more {o : AOp} {σ : Store} {e : Entry} {f : Frame} {r : AV} (hn : o.neutral = true) (h : NEv P f σ r o) : NEv P f (σ ++ [e]) r o := by
  cases o <;> first | (simp [AOp.neutral] at hn; done) | skip
  case qcall fn args =>
    obtain ⟨args', h1, h2, h3⟩ := h
    exact ⟨args', coeL_more h1, h2, h3⟩
  case qcallv x args =>
    simp only [NEv] at h ⊢
    split at h
    · obtain ⟨hb, args', h1, h2, h3⟩ := h
      exact ⟨hb, args', coeL_more h1, h2, h3⟩
    · exact h
  case mklst ty size zero n parts =>
    obtain ⟨ps, h1, h2⟩ := h
    refine ⟨ps, mapM_more (fun a b hab => ?_) h1, h2⟩
    simp only [Option.bind_eq_some_iff] at hab ⊢
    obtain ⟨v, hv, hb⟩ := hab
    exact ⟨v, share_more hv, hb⟩
  case tobytes x => exact h
  all_goals exact pstep_more h
end
end Go.Abs
