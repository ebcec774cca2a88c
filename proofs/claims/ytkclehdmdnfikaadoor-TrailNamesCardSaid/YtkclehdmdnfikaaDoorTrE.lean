/- Paths of names: the law of patterns that fit name by name. -/
import Derived.Test.YtkclehdmdnfikaaDoorTrC
import Derived.Test.YtkclehdmdnfikaaDoorRgE
set_option linter.unusedSimpArgs false
set_option linter.unusedVariables false
set_option linter.constructorNameAsVariable false
set_option maxHeartbeats 4000000
namespace Go.Proofs.YtkclehdmdnfikaaDoor
open Go.Abs Go.Glob Go.Trail
variable {G : Globs}

theorem parse_ne {s : List UInt8} {e : Nat} (hp : parse s = .error e) : e ≠ 0 := by
  unfold parse at hp
  repeat' split at hp
  all_goals first | (cases hp; decide) | cases hp
theorem chk_ok {s : List UInt8} (h : chk s = 0) : ∃ l, parse s = .ok l := by
  unfold chk at h
  cases hp : parse s with
  | error e => rw [hp] at h; exact absurd h (parse_ne hp)
  | ok l => exact ⟨l, rfl⟩
theorem nodes_parse {s : List UInt8} {ns : List (List UInt8)} (h : nodes s = .ok ns) : ∀ n ∈ ns, ∃ l, parse n = .ok l := by
  unfold nodes at h
  split at h
  · split at h
    · cases h
    · rename_i hf
      cases h
      intro n hn
      have := List.find?_eq_none.1 hf n hn
      exact chk_ok (by simpa using this)
  · cases h
theorem matchF_ok {s : List UInt8} {l : List Pc} (h : parse s = .ok l) (x : List UInt8) : matchF s x = ((expd [[]] l).any fun o => mt o x, 0) := by simp [matchF, h]
def fit1 (x : List UInt8 × List UInt8) : Bool := (matchF x.1 x.2).1
theorem allM_all : ∀ (ns l : List (List UInt8)), (∀ n ∈ ns, ∀ x, (matchF n x).2 = 0) → allM ns l = ((ns.zip l).all fit1, 0)
  | [], l, _ => by cases l <;> rfl
  | n :: ns, [], _ => rfl
  | n :: ns, x :: l, h => by
    have h0 := h n (by simp) x
    have ih := allM_all ns l fun m hm y => h m (by simp [hm]) y
    cases hb : (matchF n x).1 with
    | true => simp [allM, h0, hb, ih, fit1]
    | false => simp [allM, h0, hb, fit1]
theorem allM_zero : ∀ (ns l : List (List UInt8)), (allM ns l).2 ≠ 0 → (allM ns l).1 = false
  | [], l, h => by cases l <;> simp [allM] at h
  | n :: ns, [], h => by simp [allM] at h
  | n :: ns, x :: l, h => by
    by_cases hc : (matchF n x).2 ≠ 0 ∨ (matchF n x).1 = false
    · simp only [allM, if_pos hc]
    · simp only [allM, if_neg hc] at h ⊢
      exact allM_zero ns l h
theorem trm_err {pat pth : List UInt8} (h : (trMatch pat pth).2 ≠ 0) : (trMatch pat pth).1 = false := by
  unfold trMatch at h ⊢
  cases hN : nodes pat with
  | error e => rfl
  | ok ns =>
    rw [hN] at h
    simp only at h ⊢
    cases hP : path pth with
    | none => rfl
    | some l =>
      rw [hP] at h
      simp only at h ⊢
      split
      · rename_i hl
        rw [if_pos hl] at h
        exact allM_zero _ _ h
      · rfl
theorem trm_ok {pat pth : List UInt8} (h : (trMatch pat pth).2 = 0) : ∃ ns l, nodes pat = .ok ns ∧ path pth = some l ∧ (trMatch pat pth).1 = (decide (ns.length = l.length) && (ns.zip l).all fit1) := by
  unfold trMatch at h ⊢
  cases hN : nodes pat with
  | error e => rw [hN] at h; exact absurd h (nodes_pos hN)
  | ok ns =>
    rw [hN] at h
    simp only at h ⊢
    cases hP : path pth with
    | none => rw [hP] at h; cases h
    | some l =>
      refine ⟨ns, l, rfl, rfl, ?_⟩
      simp only
      have hz : ∀ n ∈ ns, ∀ x, (matchF n x).2 = 0 := fun n hn x => by
        obtain ⟨pl, hp⟩ := nodes_parse hN n hn
        rw [matchF_ok hp]
      by_cases hl : l.length = ns.length
      · rw [if_pos hl, allM_all ns l hz]; simp [hl]
      · have hl' : ¬ ns.length = l.length := fun e => hl e.symm
        rw [if_neg hl]; simp [hl']
theorem lits_good {n : List UInt8} (h : n.all nb = true) : flat (n.map .lit) ∧ okL (n.map .lit) ∧ texts (n.map .lit) = n := by
  induction n with
  | nil => exact ⟨trivial, by simp [okL], rfl⟩
  | cons c n ih =>
    rw [List.all_cons, Bool.and_eq_true] at h
    obtain ⟨h1, h2, h3⟩ := ih h.2
    refine ⟨h1, by simp only [List.map_cons, okL]; exact ⟨h.1, h2⟩, ?_⟩
    have : texts (.lit c :: n.map .lit) = c :: texts (n.map .lit) := by simp [texts, Pc.text]
    rw [List.map_cons, this, h3]
theorem name_parse {n : List UInt8} (h : nameB n = true) : parse n = .ok (n.map .lit) := by
  unfold nameB at h
  simp only [Bool.and_eq_true, decide_eq_true_eq, Bool.not_eq_true', List.isEmpty_eq_false_iff] at h
  obtain ⟨h1, h2, h3⟩ := h
  obtain ⟨g1, g2, g3⟩ := lits_good h2
  have := parse_texts (l := n.map .lit) (n := 32) ⟨g1, g2, by rw [g3]; exact h1⟩ (by omega) (by rw [g3]; exact h3)
  rw [g3] at this
  exact this
theorem name_match {n : List UInt8} (h : nameB n = true) (x : List UInt8) : matchF n x = (decide (n = x), 0) := by
  rw [matchF_ok (name_parse h)]
  have hf : flat (n.map .lit) := by
    unfold nameB at h
    simp only [Bool.and_eq_true] at h
    exact (lits_good h.2.1).1
  rw [expd_flat _ _ hf]
  simp [mt_lits]
theorem path_all {s : List UInt8} {l : List (List UInt8)} (h : path s = some l) : l = sp s ∧ l.length ≤ 8 ∧ ∀ n ∈ l, nameB n = true := by
  unfold path at h
  split at h
  · rename_i hc
    cases h
    exact ⟨rfl, hc.1, fun n hn => List.all_eq_true.1 hc.2 n hn⟩
  · cases h
theorem path_nodes {s : List UInt8} {l : List (List UInt8)} (h : path s = some l) : nodes s = .ok l := by
  obtain ⟨h1, h2, h3⟩ := path_all h
  unfold nodes
  rw [← h1, if_pos h2]
  have : l.find? (fun p => chk p != 0) = none := by
    rw [List.find?_eq_none]
    intro n hn
    have : chk n = 0 := by unfold chk; rw [name_parse (h3 n hn)]
    simp [this]
  rw [this]
theorem trm_self {s : List UInt8} {l : List (List UInt8)} (h : path s = some l) : trMatch s s = (true, 0) := by
  obtain ⟨h1, h2, h3⟩ := path_all h
  unfold trMatch
  rw [path_nodes h, h]
  simp only [if_true]
  rw [allM_all l l fun n hn x => by rw [name_match (h3 n hn)]]
  have : (l.zip l).all fit1 = true := by
    rw [List.all_eq_true]
    rintro ⟨a, b⟩ hab
    obtain ⟨i, hi, hie⟩ := List.mem_iff_getElem.1 hab
    rw [List.getElem_zip] at hie
    simp only [Prod.mk.injEq] at hie
    obtain ⟨e1, e2⟩ := hie
    have : a = b := by rw [← e1, ← e2]
    subst this
    have hm : a ∈ l := by rw [← e1]; exact List.getElem_mem _
    show (matchF a a).1 = true
    rw [name_match (h3 a hm)]; simp
  rw [this]
theorem zip_eq : ∀ (a b : List (List UInt8)), (∀ n ∈ a, nameB n = true) → (decide (a.length = b.length) && (a.zip b).all fit1) = decide (a = b)
  | [], [], _ => by simp
  | [], _ :: _, _ => by simp
  | _ :: _, [], _ => by simp
  | n :: a, x :: b, h => by
    have ih := zip_eq a b fun m hm => h m (by simp [hm])
    have hf : fit1 (n, x) = decide (n = x) := by
      show (matchF n x).1 = _
      rw [name_match (h n (by simp))]
    by_cases hnx : n = x
    · subst hnx
      simp only [List.length_cons, Nat.add_right_cancel_iff, List.zip_cons_cons, List.all_cons, hf, List.cons.injEq, true_and, decide_true, Bool.true_and]
      exact ih
    · simp [hf, hnx]
theorem zip_path {pat pth : List UInt8} {ns l : List (List UInt8)} (h1 : path pat = some ns) (h2 : path pth = some l) : (decide (ns.length = l.length) && (ns.zip l).all fit1) = decide (pat = pth) := by
  obtain ⟨e1, _, e3⟩ := path_all h1
  obtain ⟨f1, _, f3⟩ := path_all h2
  rw [zip_eq ns l e3]
  refine decide_eq_decide.2 ⟨fun h => ?_, fun h => ?_⟩
  · rw [← join_sp pat, ← join_sp pth, ← e1, ← f1, h]
  · subst h; rw [e1, f1]

theorem trPlain_ok (s : List UInt8) (hs : s.length ≤ 1000000000) : PCalls Tryd.prog n_trail_Plain [.str s] (fun r => r = .bool (path s).isSome) := by
  refine pcalls_of_awp hmix c_trail_Plain rfl ?_
  simp [a_trail_Plain]
  refine ac_same (right_ok s hs) (by simp) ?_
  rintro r rfl
  simp
theorem names_law (pat pth : List UInt8) (hp : pat.length ≤ 9223372036854775807) (hq : pth.length ≤ 9223372036854775807) : PCalls Tryd.prog n_isobarlaw16_TrailNames [.str pat, .str pth] (fun r => r = .bool true) := by
  refine pcalls_of_awp hmix c_isobarlaw16_TrailNames rfl ?_
  simp [a_isobarlaw16_TrailNames]
  refine ac_same aliveT_ok (by simp) ?_
  rintro r rfl
  simp
  by_cases h1 : 2000 < pat.length
  · have h1' : (2000 : Int) < (pat.length : Int) := by omega
    simp [h1, h1']
  have h1' : ¬ (2000 : Int) < (pat.length : Int) := by omega
  by_cases h2 : 2000 < pth.length
  · have h2' : (2000 : Int) < (pth.length : Int) := by omega
    simp [h1, h1', h2, h2']
  have h2' : ¬ (2000 : Int) < (pth.length : Int) := by omega
  simp [h1, h1', h2, h2']
  refine ac_same (trMatch_ok pat pth (by omega) (by omega)) (by simp) ?_
  rintro r rfl
  by_cases hne : ¬ (trMatch pat pth).2 = 0
  · have he := hne
    have he' : ¬ (((trMatch pat pth).2 : Nat) : Int) = 0 := by omega
    have := trm_err he
    simp [he, he', this]
  have he : (trMatch pat pth).2 = 0 := Decidable.not_not.1 hne
  obtain ⟨ns, l, hN, hP, hM⟩ := trm_ok he
  obtain ⟨hn1, hn2⟩ := nodes_ok_sp hN
  obtain ⟨hl1, hl2⟩ := path_sp hP
  have en : (strEls ns).length = ns.length := by simp [strEls]
  have el : (strEls l).length = l.length := by simp [strEls]
  simp [he]
  refine ac_same (nodes_ok pat (by omega)) (by simp) ?_
  rintro r rfl
  rw [hN]
  simp [nodesAV]
  refine ac_same (split_ok pth (by omega)) (by simp) ?_
  rintro r rfl
  rw [hP]
  have hde : decide ((ns.length : Int) = (l.length : Int)) = decide (ns.length = l.length) := decide_eq_decide.2 (by omega)
  simp [pathAV, en, el, hde]
  refine lp_startx (fun x f σ => ∃ (i : Nat), x = ns.length - i ∧ i ≤ ns.length ∧ i ≤ l.length ∧ f 0 = .str pat ∧ f 1 = .str pth ∧ f 5 = .bool (trMatch pat pth).1 ∧ f 7 = .lst (strEls ns) ∧ f 9 = .lst (strEls l) ∧ f 11 = .bool (decide (ns.length = l.length) && ((ns.zip l).take i).all fit1) ∧ f 12 = .int .i64 i ∧ σ = []) ns.length ?_ ?_
  · exact ⟨0, by simp, by simp, by simp, by simp, by simp, by simp, by simp, by simp, by simp, by simp, rfl⟩
  rintro x f σ ⟨i, hx, hin, hil, w0, w1, w5, w7, w9, w11, w12, rfl⟩
  by_cases hi : i < ns.length ∧ i < l.length
  · obtain ⟨hi1, hi2⟩ := hi
    obtain ⟨n, hn⟩ : ∃ n, ns[i]? = some n := ⟨_, List.getElem?_eq_getElem hi1⟩
    obtain ⟨y, hy⟩ : ∃ y, l[i]? = some y := ⟨_, List.getElem?_eq_getElem hi2⟩
    have g1 : (strEls ns)[i]? = some [.str n] := by simp [strEls, hn]
    have g2 : (strEls l)[i]? = some [.str y] := by simp [strEls, hy]
    obtain ⟨g1a, g1b⟩ := List.getElem?_eq_some_iff.1 g1
    obtain ⟨g2a, g2b⟩ := List.getElem?_eq_some_iff.1 g2
    have hi1' : (i : Int) < (ns.length : Int) := by omega
    have hi2' : (i : Int) < (l.length : Int) := by omega
    have hwi : IntKind.i64.wrap ((i : Int) + 1) = (i : Int) + 1 := wrap_i64 (by omega) (by omega)
    obtain ⟨pl, hpl⟩ := nodes_parse hN n (List.mem_of_getElem? hn)
    have hyl := sp_mem_len pth y (by rw [← hl1]; exact List.mem_of_getElem? hy)
    have hz : (ns.zip l)[i]? = some (n, y) := by rw [List.getElem?_zip_eq_some]; exact ⟨hn, hy⟩
    have hf : fit1 (n, y) = ((expd [[]] pl).any fun o => mt o y) := by show (matchF n y).1 = _; rw [matchF_ok hpl]
    have htk : ((ns.zip l).take (i + 1)).all fit1 = (((ns.zip l).take i).all fit1 && fit1 (n, y)) := by
      rw [List.take_add_one, hz]; simp
    simp [w0, w1, w5, w7, w9, w11, w12, en, el, hi1, hi2, hi1', hi2', g1, g1b, g2, g2b]
    refine qc_same (rMatch_ok hpl y (by omega)) (by simp) (by simp [rig]) ?_
    rw [← hf]
    generalize hB : (decide (ns.length = l.length) && ((ns.zip l).take i).all fit1) = B at *
    have hnew : (decide (ns.length = l.length) && ((ns.zip l).take (i + 1)).all fit1) = (B && fit1 (n, y)) := by rw [htk, ← Bool.and_assoc, hB]
    cases B with
    | true =>
      simp [w0, w1, w5, w7, w9, w11, w12, hwi]
      exact nx_intro (ns.length - (i + 1)) (by omega) ⟨i + 1, rfl, by omega, by omega, by simp [w0], by simp [w1], by simp [w5], by simp [w7], by simp [w9], by rw [hnew]; simp, by simp, rfl⟩
    | false =>
      simp [w0, w1, w5, w7, w9, w11, w12, hwi]
      exact nx_intro (ns.length - (i + 1)) (by omega) ⟨i + 1, rfl, by omega, by omega, by simp [w0], by simp [w1], by simp [w5], by simp [w7], by simp [w9], by rw [hnew]; simp [w11], by simp, rfl⟩
  · have hzl : ((ns.zip l).take i) = ns.zip l := List.take_of_length_le (by rw [List.length_zip]; omega)
    rw [hzl, ← hM] at w11
    have hself := trm_self hP
    by_cases hi1 : i < ns.length
    · have hi2 : ¬ i < l.length := fun h => hi ⟨hi1, h⟩
      have hi1' : (i : Int) < (ns.length : Int) := by omega
      have hi2' : ¬ (i : Int) < (l.length : Int) := by omega
      simp [w0, w1, w5, w7, w9, w11, w12, en, el, hi1, hi1', hi2, hi2']
      refine ac_same (trMatch_ok pth pth (by omega) (by omega)) (by simp) ?_
      rintro r rfl
      rw [hself]
      simp [w0, w1, w5, w11]
      refine ac_same (trPlain_ok pat (by omega)) (by simp) ?_
      rintro r rfl
      cases hpp : path pat with
      | none => simp
      | some ns' =>
        have hns : ns' = ns := by rw [hn1]; exact (path_all hpp).1
        rw [hns] at hpp
        have hz := zip_path hpp hP
        rw [← hM] at hz
        simp [w0, w1, w5, hz]
    · have hi1' : ¬ (i : Int) < (ns.length : Int) := by omega
      simp [w0, w1, w5, w7, w9, w11, w12, en, el, hi1, hi1']
      refine ac_same (trMatch_ok pth pth (by omega) (by omega)) (by simp) ?_
      rintro r rfl
      rw [hself]
      simp [w0, w1, w5, w11]
      refine ac_same (trPlain_ok pat (by omega)) (by simp) ?_
      rintro r rfl
      cases hpp : path pat with
      | none => simp
      | some ns' =>
        have hns : ns' = ns := by rw [hn1]; exact (path_all hpp).1
        rw [hns] at hpp
        have hz := zip_path hpp hP
        rw [← hM] at hz
        simp [w0, w1, w5, hz]
end Go.Proofs.YtkclehdmdnfikaaDoor
