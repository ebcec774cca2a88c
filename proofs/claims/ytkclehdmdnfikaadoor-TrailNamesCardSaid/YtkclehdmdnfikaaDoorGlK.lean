/- Patterns of one name: whether a pattern fits a name. -/
import Derived.Test.YtkclehdmdnfikaaDoorGlI
set_option linter.unusedSimpArgs false
set_option linter.unusedVariables false
set_option linter.constructorNameAsVariable false
namespace Go.Glob
open Go.Abs
theorem encR_inj : ∀ {l m : List (UInt8 × UInt8)}, encR l = encR m → l = m
  | [], [], _ => rfl
  | [], _ :: _, h => by simp [encR] at h
  | _ :: _, [], h => by simp [encR] at h
  | (a, b) :: l, (c, d) :: m, h => by
    simp only [encR, List.map_cons, List.cons.injEq, AV.int.injEq, true_and, and_true] at h
    obtain ⟨⟨h1, h2⟩, h3⟩ := h
    have e1 : a = c := UInt8.toNat_inj.1 (by omega)
    have e2 : b = d := UInt8.toNat_inj.1 (by omega)
    rw [e1, e2, encR_inj (l := l) (m := m) h3]
mutual
theorem encL_inj : ∀ {l m : List Pc}, encL l = encL m → l = m
  | [], [], _ => rfl
  | [], q :: m, h => by rw [encL_cons] at h; simp [encL] at h
  | p :: l, [], h => by rw [encL_cons] at h; simp [encL] at h
  | .br xs :: l, q :: m, h => by
    rw [encL_cons, encL_cons] at h
    simp only [List.cons.injEq] at h
    obtain ⟨h1, h2⟩ := h
    have hm := encL_inj (l := l) (m := m) h2
    cases q <;> simp [Pc.enc, Pc.kind, Pc.alts] at h1
    rename_i ys
    rw [encA_inj (l := xs) (m := ys) h1.2.2.1, hm]
  | .lit c :: l, q :: m, h => by
    rw [encL_cons, encL_cons] at h
    simp only [List.cons.injEq] at h
    obtain ⟨h1, h2⟩ := h
    have hm := encL_inj (l := l) (m := m) h2
    cases q <;> simp [Pc.enc, Pc.kind, Pc.low, Pc.text] at h1
    rename_i d
    rw [hm, h1.2.2.2]
  | .q :: l, q :: m, h => by
    rw [encL_cons, encL_cons] at h
    simp only [List.cons.injEq] at h
    obtain ⟨h1, h2⟩ := h
    have hm := encL_inj (l := l) (m := m) h2
    cases q <;> simp [Pc.enc, Pc.kind] at h1
    rw [hm]
  | .star :: l, q :: m, h => by
    rw [encL_cons, encL_cons] at h
    simp only [List.cons.injEq] at h
    obtain ⟨h1, h2⟩ := h
    have hm := encL_inj (l := l) (m := m) h2
    cases q <;> simp [Pc.enc, Pc.kind] at h1
    rw [hm]
  | .cls rs t :: l, q :: m, h => by
    rw [encL_cons, encL_cons] at h
    simp only [List.cons.injEq] at h
    obtain ⟨h1, h2⟩ := h
    have hm := encL_inj (l := l) (m := m) h2
    cases q <;> simp [Pc.enc, Pc.kind, Pc.rs, Pc.text] at h1
    rename_i rs' t'
    rw [encR_inj h1.2.1, hm, h1.2.2.2]
theorem encA_inj : ∀ {l m : List (List Pc)}, encA l = encA m → l = m
  | [], [], _ => rfl
  | [], q :: m, h => by simp [encA] at h
  | p :: l, [], h => by simp [encA] at h
  | a :: l, b :: m, h => by
    simp only [encA, List.cons.injEq, AV.lst.injEq, and_true] at h
    rw [encL_inj (l := a) (m := b) h.1, encA_inj (l := l) (m := m) h.2]
end
end Go.Glob
namespace Go.Proofs.YtkclehdmdnfikaaDoor
open Go.Abs Go.Glob
variable {G : Globs}

theorem expand_parsed {s : List UInt8} {l : List Pc} (h : parse s = .ok l) : szL l ≤ 128 ∧ neL l ∧ cnt 1 l ≤ 64 ∧ (expd [[]] l).length ≤ 64 ∧ ∀ o ∈ expd [[]] l, Glob.Good 128 o := by
  obtain ⟨h1, h2, d, h3, h4, h5⟩ := parse_ok h
  have hsz := (pcs_size _).1 _ _ _ _ h3
  have hc := expd_count l [[]] hsz.2 (by simp) (by simpa using h5)
  refine ⟨by simp at hsz; omega, hsz.2, h5, ?_, fun o ho => (parse_good h o ho).le h1⟩
  rw [hc]; exact h5

theorem match1_ok (o : List Pc) (name : List UInt8) (hl : o.length ≤ 1000000000) (hn : name.length ≤ 1000000000) (hr : ∀ p ∈ o, p.rs.length ≤ 1000000000) :
    PCalls Tryd.prog n_glob_Match_1 [.lst (encL o), .rptr [.str name]] (fun r => r = .bool (mt o name)) := by
  refine pcalls_of_awp hmix c_glob_Match_1 rfl ?_
  simp [a_glob_Match_1]
  refine ac_same (fits_ok o name hl hn hr) (by simp) ?_
  rintro r rfl
  simp

def matchF (s name : List UInt8) : Bool × Nat := match parse s with
  | .error e => (false, e)
  | .ok l => ((expd [[]] l).any fun o => mt o name, 0)

theorem rs_len {n : Nat} {ne : Bool} {s : List UInt8} {rs : List (UInt8 × UInt8)} {r : List UInt8} : cls n ne s = some (rs, r) → rs.length + r.length ≤ s.length := by
  induction n generalizing ne s rs r with
  | zero => intro h; simp [cls] at h
  | succ n ih =>
    intro h
    cases s with
    | nil => simp [cls] at h
    | cons c s =>
      by_cases h93 : c = 93 ∧ ne = true
      · simp only [cls, if_pos h93] at h
        simp only [Option.some.injEq, Prod.mk.injEq] at h
        obtain ⟨rfl, rfl⟩ := h
        simp
      · by_cases hn : nb c = true
        · rw [cls_step h93 hn] at h
          split at h
          · rename_i hh s' hr
            split at h
            · cases h
            · simp only [Option.map_eq_some_iff, Prod.mk.injEq] at h
              obtain ⟨v, hv, rfl, rfl⟩ := h
              have := ih hv
              have hs : s'.length ≤ s.length := by
                match s, hr with
                | d :: h' :: t, hr =>
                  simp only [rng] at hr
                  split at hr
                  · simp only [Option.some.injEq, Prod.mk.injEq] at hr; obtain ⟨_, rfl⟩ := hr; simp; omega
                  · cases hr
              simp; omega
          · simp only [Option.map_eq_some_iff, Prod.mk.injEq] at h
            obtain ⟨v, hv, rfl, rfl⟩ := h
            have := ih hv
            simp; omega
        · rw [cls_no h93 (by simpa using hn)] at h; cases h
theorem good_rs : ∀ {o : List Pc}, okL o → ∀ p ∈ o, p.rs.length ≤ (texts o).length
  | p :: l, h, q, hq => by
    have ih : okL l → ∀ p ∈ l, p.rs.length ≤ (texts l).length := fun h => good_rs h
    have et : texts (p :: l) = p.text ++ texts l := by simp [texts]
    rw [et, List.length_append]
    have hl : okL l := by cases p <;> simp only [okL] at h <;> first | exact h | exact h.2
    rcases List.mem_cons.1 hq with rfl | hq
    · cases q with
      | cls rs t =>
        simp only [okL] at h
        obtain ⟨⟨b, rfl, hb⟩, _⟩ := h
        have := rs_len (hb (b.length + 1) [] (by omega))
        simp [Pc.rs, Pc.text] at this ⊢; omega
      | _ => simp [Pc.rs]
    · have := ih hl q hq; omega

open Classical in
theorem Match_ok (s name : List UInt8) (hs : s.length ≤ 9223372036854775807) (hn : name.length ≤ 1000000000) : PCalls Tryd.prog n_glob_Match [.str s, .str name] (fun r => r = .tup [.bool (matchF s name).1, .int .i64 (matchF s name).2]) := by
  refine pcalls_of_awp hmix c_glob_Match rfl ?_
  simp [a_glob_Match]
  refine ac_same (parse_ok_walk s hs) (by simp) ?_
  rintro r rfl
  cases hp : parse s with
  | error e =>
    have he : e ≠ 0 := by
      unfold parse at hp
      repeat' split at hp
      all_goals first | (cases hp; decide) | cases hp
    have he' : ¬ ((e : Int) = 0) := by omega
    simp [parseAV, matchF, he, he', hp]
  | ok l =>
    obtain ⟨h1, h2, h3, h4, h5⟩ := expand_parsed hp
    simp [parseAV]
    refine ac_same (expand_ok (szL l) l (Nat.le_refl _) (by omega) h2 h3) (by simp) ?_
    rintro r rfl
    simp
    have hm : matchF s name = ((expd [[]] l).any fun o => mt o name, 0) := by simp [matchF, hp]
    generalize hE : expd [[]] l = E at *
    have hlen : ∀ o ∈ E, o.length ≤ 1000 := fun o ho => by
      have := expd_len l [[]] 0 (by simp) o (by rw [hE]; exact ho)
      omega
    let q : AV → Bool := fun v => decide (∃ o, v = .lst (encL o) ∧ mt o name = true)
    have hq : ∀ o, q (.lst (encL o)) = mt o name := fun o => by
      have : (∃ o', AV.lst (encL o) = .lst (encL o') ∧ mt o' name = true) ↔ mt o name = true := by
        constructor
        · rintro ⟨o', h1, h2⟩
          simp only [AV.lst.injEq] at h1
          rw [encL_inj h1]; exact h2
        · exact fun h => ⟨o, rfl, h⟩
      simp only [q, this]
      simp
    have hc := contains1_ok (G := G) (l := encA E) (g := n_glob_Match_1) (cap := [.rptr [.str name]]) (p := q) (by rw [encA_length]; omega) b_glob_Match_1 (by simp [encA_map]) (by simp) (fun c hc => by
      rw [encA_map, List.mem_map] at hc
      obtain ⟨o, ho, rfl⟩ := hc
      refine ⟨_, rfl, ?_⟩
      rw [hq]
      have hg := h5 o ho
      exact match1_ok o name (by have := hlen o ho; omega) hn (fun p hp => by have := good_rs hg.2.1 p hp; have := hg.2.2; omega))
    refine ac_lent hc (.cons (.pure _ (by simp)) (.cons (coe_fn1 (coe_ptr rfl (by simp) rfl)) .nil)) ?_
    rintro r rfl
    refine ⟨by simp, ?_⟩
    simp [encA_map, List.any_map, Function.comp_def, hq, hm]

end Go.Proofs.YtkclehdmdnfikaaDoor
