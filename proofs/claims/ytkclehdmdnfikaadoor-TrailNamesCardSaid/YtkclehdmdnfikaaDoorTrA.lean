/- Paths of names: the functions. -/
import Derived.Test.YtkclehdmdnfikaaDoorGlA
import Derived.Test.YtkclehdmdnfikaaDoorTrSpec
set_option linter.unusedSimpArgs false
set_option linter.unusedVariables false
namespace Go.Proofs.YtkclehdmdnfikaaDoor
open Go.Abs Go.Glob Go.Trail
variable {G : Globs}

theorem plain_ok (s : List UInt8) (hs : s.length ≤ 9223372036854775807) : PCalls Tryd.prog n_glob_Plain [.str s] (fun r => r = .bool (s.all nb && !s.isEmpty)) := by
  refine pcalls_of_awp hmix c_glob_Plain rfl ?_
  simp [a_glob_Plain]
  refine lp_start (fun n f σ => ∃ i : Nat, n = s.length - i ∧ i ≤ s.length ∧ f 0 = .str s ∧ f 5 = .int .i64 s.length ∧ f 6 = .int .i64 i ∧ (s.take i).all nb = true ∧ σ = []) s.length ⟨0, by simp⟩ ?_
  rintro n f σ ⟨i, rfl, hi, h0, h5, h6, hall, rfl⟩
  simp [h5, h6]
  refine cb_dec (fun hlt => ?_) (fun hge => ?_)
  · have hlt' : i < s.length := by omega
    simp [h0, h6, List.getElem?_eq_getElem hlt']
    refine ac_same (byte_ok _) (by simp) ?_
    rintro r rfl
    simp
    refine cb_intro (fun hn => ?_) (fun hn => ?_)
    · simp
      intro h
      have := h _ (List.getElem_mem hlt')
      simp [this] at hn
    · simp [h0, h5, h6]
      refine ⟨_, ?_, i + 1, rfl, by omega, by rw [wrap_i64 (by omega) (by omega)]; simp, ?_⟩
      · omega
      · simp only [Bool.not_eq_eq_eq_not, Bool.not_false] at hn
        intro x hx
        rw [List.take_add_one, List.getElem?_eq_getElem hlt'] at hx
        simp only [Option.toList_some, List.mem_append, List.mem_singleton] at hx
        rcases hx with hx | rfl
        · simpa using List.all_eq_true.1 hall x hx
        · exact hn
  · have e : s.take i = s := List.take_of_length_le (by omega)
    rw [e] at hall
    simp [h0, hall]
    cases s <;> simp

theorem name_ok (s : List UInt8) (hs : s.length ≤ 9223372036854775807) : PCalls Tryd.prog n_glob_Name [.str s] (fun r => r = .bool (nameB s)) := by
  refine pcalls_of_awp hmix c_glob_Name rfl ?_
  simp [a_glob_Name]
  by_cases h : s.length ≤ 32
  · have h' : (s.length : Int) ≤ 32 := by omega
    simp [h, h']
    refine ac_same (plain_ok s hs) (by simp) ?_
    rintro r rfl
    simp [nameB, h, h']
  · have h' : ¬ (s.length : Int) ≤ 32 := by omega
    simp [h, h', nameB]

/-- strings.Index, at a point. -/
theorem index_ok (s : List UInt8) : PCalls Tryd.prog 124 [.str s, .str [46]] (fun r => r = .int .i64 (Lib.indexByte s 46)) := by
  intro base κ Im w vs hs hv
  obtain ⟨v0, v1, rfl⟩ : ∃ v0 v1, vs = [v0, v1] := by
    match vs, hv.1 with
    | [a, b], _ => exact ⟨a, b, rfl⟩
  have e0 := (hv.2 0 (by simp) (by simp)).str_inv
  have e1 := (hv.2 1 (by simp) (by simp)).str_inv
  simp only [List.getElem_cons_zero, List.getElem_cons_succ] at e0 e1
  subst e0; subst e1
  refine (Tryd.strings_Index_one ⟨s.toArray⟩ 46 w).mono ?_
  rintro e w' ⟨rfl, rfl⟩
  exact ⟨_, [], _, κ, Im, rfl, ⟨rfl, rfl⟩, hs, Grow.refl _ _ _ _, .im _ _ (.int .i64 (Lib.indexByte s 46))⟩

theorem strEls_append (a b : List (List UInt8)) : strEls (a ++ b) = strEls a ++ strEls b := by simp [strEls]
theorem strEls_share (σ : Store) (l : List (List UInt8)) : ((strEls l).mapM fun (c : List AV) => c.mapM (share1 σ)) = some (strEls l) := by
  induction l with
  | nil => rfl
  | cons a l ih =>
    simp only [strEls, List.map_cons] at ih ⊢
    rw [List.mapM_cons, ih]
    simp [share1]

theorem genSplit_ok (s : List UInt8) (hs : s.length ≤ 1000000000) : PCalls Tryd.prog n_strings_genSplit [.str s, .str [46], .int .i64 0, .int .i64 9] (fun r => r = .lst (strEls (cutN 8 s))) := by
  refine pcalls_of_awp hmix c_strings_genSplit rfl ?_
  have hw1 : IntKind.i64.wrap ((s.length : Int) + 1) = (s.length : Int) + 1 := wrap_i64 (by omega) (by omega)
  simp [a_strings_genSplit, hw1]
  obtain ⟨N, hN, hN1, hN2⟩ : ∃ N : Nat, N + 1 = min 9 (s.length + 1) ∧ N ≤ 8 ∧ N ≤ s.length := ⟨min 8 s.length, by omega, by omega, by omega⟩
  have hmm : (if (s.length : Int) + 1 < 9 then (s.length : Int) + 1 else 9) = ((N + 1 : Nat) : Int) := by split <;> omega
  simp only [hmm]
  refine ms_intro (N + 1) rfl rfl (by omega) (by omega) (by omega) rfl ?_
  have hw2 : IntKind.i64.wrap (((N + 1 : Nat) : Int) - 1) = N := by rw [wrap_i64 (by omega) (by omega)]; omega
  have hw3 : IntKind.i64.wrap (N : Int) = N := wrap_i64 (by omega) (by omega)
  simp [hw2]
  have hcut0 : ∀ k, cutN k [] = [[]] := fun k => by cases k <;> simp [cutN, Lib.indexByte]
  refine lp_startx (fun x f σ => ∃ (i : Nat) (done : List (List UInt8)) (s' : List UInt8), x = N - i ∧ i ≤ N ∧ done.length = i ∧ f 0 = .str s' ∧ f 1 = .str [46] ∧ f 2 = .int .i64 0 ∧ f 3 = .int .i64 N ∧ f 9 = .row 0 (N + 1) ∧ f 10 = .int .i64 i ∧ i + s'.length ≤ s.length ∧
    cutN 8 s = done ++ cutN (8 - i) s' ∧ σ = [.row 9 1 (strEls (done ++ List.replicate (N + 1 - i) [])) false]) N ?_ ?_
  · exact ⟨0, [], s, rfl, by omega, rfl, by simp, by simp, by simp, by simp [hmm, hw2, hw3], by simp, by simp, by omega, by simp, by simp [strEls]⟩
  rintro x f σ ⟨i, done, s', rfl, hi, hdl, h0, h1, h2, h3, h9, h10, hsl, hcut, rfl⟩
  have hwi : IntKind.i64.wrap ((i : Int) + 1) = (i : Int) + 1 := wrap_i64 (by omega) (by omega)
  have hlenL : (strEls (done ++ List.replicate (N + 1 - i) [])).length = N + 1 := by simp [strEls]; omega
  have hlenL2 : (strEls (done ++ s' :: List.replicate (N - i) [])).length = N + 1 := by simp [strEls]; omega
  have hiN : i < N + 1 := by omega
  have hL : ∀ x : List UInt8, (strEls (done ++ List.replicate (N + 1 - i) [])).set i [.str x] = strEls (done ++ x :: List.replicate (N - i) []) := fun x => by
    have e : N + 1 - i = (N - i) + 1 := by omega
    rw [e, List.replicate_succ]
    simp only [strEls, List.map_append, List.map_cons]
    rw [List.set_append_right _ _ (by simp; omega)]
    simp [hdl]
  have hget : (strEls (done ++ List.replicate (N + 1 - i) []))[i]? = some [.str []] := by
    have e : N + 1 - i = (N - i) + 1 := by omega
    rw [e, List.replicate_succ]
    simp only [strEls, List.map_append, List.map_cons]
    rw [List.getElem?_append_right (by simp; omega)]
    simp [hdl]
  obtain ⟨hgx, hgy⟩ := List.getElem?_eq_some_iff.1 hget
  have hp1 : (0 : Int) ≤ (i : Int) + 1 := by omega
  have hi1 : i + 1 ≤ N + 1 := by omega
  have hlen1 : ∀ c ∈ strEls (done ++ s' :: List.replicate (N - i) []), c.length = 1 := fun c hc => by
    simp only [strEls, List.mem_map] at hc
    obtain ⟨x, _, rfl⟩ := hc; rfl
  have htake : List.take (i + 1) (strEls (done ++ s' :: List.replicate (N - i) [])) = strEls (done ++ [s']) := by
    have e : strEls (done ++ s' :: List.replicate (N - i) []) = strEls (done ++ [s']) ++ strEls (List.replicate (N - i) []) := by rw [← strEls_append]; simp
    rw [e, List.take_append_of_le_length (by simp [strEls]; omega), List.take_of_length_le (by simp [strEls]; omega)]
  simp [h3, h10]
  refine cb_dec (fun hlt => ?_) (fun hge => ?_)
  · have hlt' : i < N := by omega
    simp [h0, h1]
    refine ac_same (index_ok s') (by simp) ?_
    rintro r rfl
    simp
    rcases sp_index s' with ⟨g1, g2⟩ | ⟨m, g1, g2, g3⟩
    · have hend : cutN 8 s = done ++ [s'] := by
        rw [hcut]
        obtain ⟨k, hk⟩ : ∃ k, 8 - i = k + 1 := ⟨7 - i, by omega⟩
        rw [hk]; simp [cutN, g1]
      simp [g1]
      simp [h0, h2, h9, h10, hlenL, hiN, hget, hgy, hL, hwi]
      refine gh_frz (σ' := [.row 9 1 (strEls (done ++ s' :: List.replicate (N - i) [])) true]) ⟨0, 9, 1, strEls (done ++ s' :: List.replicate (N - i) []), _, rfl, strEls_share _ _, rfl⟩ ?_
      simp [h0, h2, h9, h10, hlenL2, hwi, hlen1, hp1, hi1]
      rw [hend, htake]
    · have hm0 : ¬ ((m : Int) < 0) := by omega
      have hwm : IntKind.i64.wrap (m : Int) = m := wrap_i64 (by omega) (by omega)
      have hwm1 : IntKind.i64.wrap ((m : Int) + 1) = (m : Int) + 1 := wrap_i64 (by omega) (by omega)
      have hml : m ≤ s'.length := by omega
      have hml1 : m + 1 ≤ s'.length := by omega
      have hmp : (0 : Int) ≤ (m : Int) + 1 := by omega
      simp [g1, hm0]
      refine gh_skip ?_
      simp [h0, h1, h2, h9, h10, hlenL, hiN, hget, hgy, hL, hwm, hml]
      refine gh_skip ?_
      simp [h0, h1, h2, h9, h10, hwm1, hmp, hml1, hwi]
      refine nx_intro (N - (i + 1)) (by omega) ⟨i + 1, done ++ [s'.take m], s'.drop (m + 1), rfl, by omega, by simp [hdl], by simp, by simp [h1], by simp [h2], by simp [h3], by simp [h9], by simp, by simp; omega, ?_, ?_⟩
      · rw [hcut]
        obtain ⟨k, hk⟩ : ∃ k, 8 - i = k + 1 := ⟨7 - i, by omega⟩
        have hne : ¬ ((m : Int) = -1) := by omega
        rw [hk, show 8 - (i + 1) = k by omega]
        simp [cutN, g1, hne]
      · have e : N + 1 - (i + 1) = N - i := by omega
        simp [e]
  · have hend : cutN 8 s = done ++ [s'] := by
      have ei : i = N := by omega
      subst ei
      rw [hcut]
      by_cases h8 : i = 8
      · rw [h8]; rfl
      · have : s' = [] := List.eq_nil_of_length_eq_zero (by omega)
        rw [this, hcut0]
    simp [h0, h2, h9, h10, hlenL, hiN, hget, hgy, hL, hwi]
    refine gh_frz (σ' := [.row 9 1 (strEls (done ++ s' :: List.replicate (N - i) [])) true]) ⟨0, 9, 1, strEls (done ++ s' :: List.replicate (N - i) []), _, rfl, strEls_share _ _, rfl⟩ ?_
    simp [h0, h2, h9, h10, hlenL2, hwi, hlen1, hp1, hi1]
    rw [hend, htake]

theorem splitN_ok (s : List UInt8) (hs : s.length ≤ 1000000000) : PCalls Tryd.prog n_strings_SplitN [.str s, .str [46], .int .i64 9] (fun r => r = .lst (strEls (cutN 8 s))) := by
  refine pcalls_of_awp hmix c_strings_SplitN rfl ?_
  simp [a_strings_SplitN]
  refine ac_same (genSplit_ok s hs) (by simp) ?_
  rintro r rfl
  simp

theorem cutN_len (n : Nat) (s : List UInt8) : (cutN n s).length ≤ n + 1 := by
  induction n generalizing s with
  | zero => simp [cutN]
  | succ n ih =>
    simp only [cutN]
    split
    · simp
    · have := ih (s.drop ((Lib.indexByte s 46).toNat + 1)); simp; omega
theorem cut_le (s : List UInt8) : (cutN 8 s).length ≤ 8 ↔ (sp s).length ≤ 8 := by
  constructor
  · intro h
    refine Nat.le_of_not_lt fun hx => ?_
    have := cutN_long 8 s (by omega)
    omega
  · intro h
    rw [cutN_eq 8 s (by omega)]; exact h

theorem cut_ok (s : List UInt8) (hs : s.length ≤ 1000000000) : PCalls Tryd.prog n_trail_cut [.str s] (fun r => r = .tup [.lst (strEls (cutN 8 s)), .bool (decide ((cutN 8 s).length ≤ 8))]) := by
  refine pcalls_of_awp hmix c_trail_cut rfl ?_
  simp [a_trail_cut]
  refine ac_same (splitN_ok s hs) (by simp) ?_
  rintro r rfl
  have e : (strEls (cutN 8 s)).length = (cutN 8 s).length := by simp [strEls]
  simp [e]
  all_goals try exact ⟨fun h => by omega, fun h => by omega⟩

def pathAV (x : Option (List (List UInt8))) (e : Nat) : AV := match x with
  | some l => .tup [.lst (strEls l), .int .i64 0]
  | none => .tup [.lst [], .int .i64 e]
theorem sp_mem_len : ∀ (s : List UInt8), ∀ p ∈ sp s, p.length ≤ s.length
  | [], p, h => by simp [sp] at h; simp [h]
  | c :: s, p, h => by
    have ih := sp_mem_len s
    by_cases hc : c = 46
    · subst hc
      simp only [sp, if_true, List.mem_cons] at h
      rcases h with rfl | h
      · simp
      · have := ih p h; simp; omega
    · obtain ⟨q, ps, h1, h2⟩ := sp_cons hc s
      rw [h2] at h
      rw [h1] at ih
      rcases List.mem_cons.1 h with rfl | h
      · have := ih q (by simp); simp; omega
      · have := ih p (by simp [h]); simp; omega

theorem split_ok (s : List UInt8) (hs : s.length ≤ 1000000000) : PCalls Tryd.prog n_trail_Split [.str s] (fun r => r = pathAV (path s) 13) := by
  refine pcalls_of_awp hmix c_trail_Split rfl ?_
  simp [a_trail_Split]
  refine ac_same (cut_ok s hs) (by simp) ?_
  rintro r rfl
  by_cases h8 : (sp s).length ≤ 8
  · have h8' := (cut_le s).2 h8
    have ec := cutN_eq 8 s (by omega)
    rw [ec] at h8' ⊢
    have e : (strEls (sp s)).length = (sp s).length := by simp [strEls]
    simp [h8, e]
    have hml := sp_mem_len s
    have hp : path s = if (sp s).all nameB = true then some (sp s) else none := by unfold path; simp [h8]
    generalize hL : sp s = L at *
    refine lp_start (fun x f σ => ∃ i : Nat, x = L.length - i ∧ i ≤ L.length ∧ f 4 = .lst (strEls L) ∧ f 15 = .lst (strEls L) ∧ f 16 = .int .i64 L.length ∧ f 17 = .int .i64 i ∧ (L.take i).all nameB = true ∧ σ = []) L.length ⟨0, by simp⟩ ?_
    rintro x f σ ⟨i, rfl, hi, h4, h15, h16, h17, hall, rfl⟩
    simp [h16, h17]
    refine cb_dec (fun hlt => ?_) (fun hge => ?_)
    · have hlt' : i < L.length := by omega
      obtain ⟨p, hpp⟩ : ∃ p, L[i]? = some p := ⟨_, List.getElem?_eq_getElem hlt'⟩
      have hm : p ∈ L := List.mem_of_getElem? hpp
      have hse : (strEls L)[i]? = some [.str p] := by simp [strEls, hpp]
      obtain ⟨hx1, hx2⟩ := List.getElem?_eq_some_iff.1 hse
      simp [h15, h17, hse, hx2]
      refine ac_same (name_ok p (by have := hml p hm; omega)) (by simp) ?_
      rintro r rfl
      simp
      refine cb_intro (fun hn => ?_) (fun hn => ?_)
      · have hno : ¬ L.all nameB = true := fun h => by
          have := List.all_eq_true.1 h p hm
          simp [this] at hn
        simp [hp, hno, pathAV]
      · simp [h4, h15, h16, h17]
        refine ⟨_, ?_, i + 1, rfl, by omega, by rw [wrap_i64 (by omega) (by omega)]; simp, ?_⟩
        · omega
        · simp only [Bool.not_eq_eq_eq_not, Bool.not_false] at hn
          intro x hx
          rw [List.take_add_one, hpp] at hx
          simp only [Option.toList_some, List.mem_append, List.mem_singleton] at hx
          rcases hx with hx | rfl
          · exact List.all_eq_true.1 hall x hx
          · exact hn
    · have e : L.take i = L := List.take_of_length_le (by omega)
      rw [e] at hall
      simp [h4, hp, hall, pathAV]
  · have h8' : ¬ (cutN 8 s).length ≤ 8 := fun h => h8 ((cut_le s).1 h)
    have hp : path s = none := by unfold path; simp [h8]
    simp [h8', hp, pathAV]

theorem right_ok (s : List UInt8) (hs : s.length ≤ 1000000000) : PCalls Tryd.prog n_trail_Right [.str s] (fun r => r = .bool (path s).isSome) := by
  refine pcalls_of_awp hmix c_trail_Right rfl ?_
  simp [a_trail_Right]
  refine ac_same (split_ok s hs) (by simp) ?_
  rintro r rfl
  cases path s <;> simp [pathAV]

end Go.Proofs.YtkclehdmdnfikaaDoor
