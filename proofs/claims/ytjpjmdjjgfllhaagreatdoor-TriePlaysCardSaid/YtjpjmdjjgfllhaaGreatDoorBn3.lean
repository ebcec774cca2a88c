/- Paths of names: the functions. Paths of names: Join, Head, Nodes. Patterns of one name, as the document has them: where a pattern may not be; Check of -/
import Derived.Test.YtjpjmdjjgfllhaaGreatDoorAbs2
import Derived.Test.YtjpjmdjjgfllhaaGreatDoorProg
import Derived.KernelRfl
import Derived.Test.YtjpjmdjjgfllhaaGreatDoorBn1
import Derived.Test.YtjpjmdjjgfllhaaGreatDoorBn2
set_option linter.unusedSimpArgs false
set_option linter.unusedVariables false
set_option linter.constructorNameAsVariable false
section
namespace Go.Proofs.YtjpjmdjjgfllhaaGreatDoor
open Go.Abs Go.Glob Go.Trail
variable {G : Globs}
theorem plain_ok (s : List UInt8) (hs : s.length ≤ 9223372036854775807) : PCalls Tryz.prog n_glob_Plain [.str s] (fun r => r = .bool (s.all nb && !s.isEmpty)) := by
  refine pcalls_of_awp hmix c_glob_Plain rfl ?_
  simp [a_glob_Plain]
  refine lp_start (fun n f σ => ∃ i : Nat, n = s.length - i ∧ i ≤ s.length ∧ f 0 = .str s ∧ f 5 = .int .i64 s.length ∧ f 6 = .int .i64 i ∧ (s.take i).all nb = true ∧ σ = []) s.length ⟨0, by simp⟩ ?_
  rintro n f σ ⟨i, rfl, hi, h0, h5, h6, hall, rfl⟩
  simp [h5, h6]
  refine cb_dec (fun hlt => ?_) (fun hge => ?_)
  · have hlt' : i < s.length := by omega
    simp [h0, h6, List.getElem?_eq_getElem hlt']
    refine ac_same (byte_ok _) (by simp) ?_
    rintro r rfl
    simp
    refine cb_intro (fun hn => ?_) (fun hn => ?_)
    · simp
      intro h
      have := h _ (List.getElem_mem hlt')
      simp [this] at hn
    · simp [h0, h5, h6]
      refine ⟨_, ?_, i + 1, rfl, by omega, by rw [wrap_i64 (by omega) (by omega)]; simp, ?_⟩
      · omega
      · simp only [Bool.not_eq_eq_eq_not, Bool.not_false] at hn
        intro x hx
        rw [List.take_add_one, List.getElem?_eq_getElem hlt'] at hx
        simp only [Option.toList_some, List.mem_append, List.mem_singleton] at hx
        rcases hx with hx | rfl
        · simpa using List.all_eq_true.1 hall x hx
        · exact hn
  · have e : s.take i = s := List.take_of_length_le (by omega)
    rw [e] at hall
    simp [h0, hall]
    cases s <;> simp
theorem name_ok (s : List UInt8) (hs : s.length ≤ 9223372036854775807) : PCalls Tryz.prog n_glob_Name [.str s] (fun r => r = .bool (nameB s)) := by
  refine pcalls_of_awp hmix c_glob_Name rfl ?_
  simp [a_glob_Name]
  by_cases h : s.length ≤ 32
  · have h' : (s.length : Int) ≤ 32 := by omega
    simp [h, h']
    refine ac_same (plain_ok s hs) (by simp) ?_
    rintro r rfl
    simp [nameB, h, h']
  · have h' : ¬ (s.length : Int) ≤ 32 := by omega
    simp [h, h', nameB]
/-- strings.Index, at a point. -/
theorem index_ok (s : List UInt8) : PCalls Tryz.prog 121 [.str s, .str [46]] (fun r => r = .int .i64 (Lib.indexByte s 46)) := by
  intro base κ Im w vs hs hv
  obtain ⟨v0, v1, rfl⟩ : ∃ v0 v1, vs = [v0, v1] := by
    match vs, hv.1 with
    | [a, b], _ => exact ⟨a, b, rfl⟩
  have e0 := (hv.2 0 (by simp) (by simp)).str_inv
  have e1 := (hv.2 1 (by simp) (by simp)).str_inv
  simp only [List.getElem_cons_zero, List.getElem_cons_succ] at e0 e1
  subst e0; subst e1
  refine (Tryz.strings_Index_one ⟨s.toArray⟩ 46 w).mono ?_
  rintro e w' ⟨rfl, rfl⟩
  exact ⟨_, [], _, κ, Im, rfl, ⟨rfl, rfl⟩, hs, Grow.refl _ _ _ _, .im _ _ (.int .i64 (Lib.indexByte s 46))⟩
theorem strEls_append (a b : List (List UInt8)) : strEls (a ++ b) = strEls a ++ strEls b := by simp [strEls]
theorem strEls_share (σ : Store) (l : List (List UInt8)) : ((strEls l).mapM fun (c : List AV) => c.mapM (share1 σ)) = some (strEls l) := by
  induction l with
  | nil => rfl
  | cons a l ih =>
    simp only [strEls, List.map_cons] at ih ⊢
    rw [List.mapM_cons, ih]
    simp [share1]
theorem genSplit_ok (s : List UInt8) (hs : s.length ≤ 1000000000000000000) : PCalls Tryz.prog n_strings_genSplit [.str s, .str [46], .int .i64 0, .int .i64 9] (fun r => r = .lst (strEls (cutN 8 s))) := by
  refine pcalls_of_awp hmix c_strings_genSplit rfl ?_
  have hw1 : IntKind.i64.wrap ((s.length : Int) + 1) = (s.length : Int) + 1 := wrap_i64 (by omega) (by omega)
  simp [a_strings_genSplit, hw1]
  obtain ⟨N, hN, hN1, hN2⟩ : ∃ N : Nat, N + 1 = min 9 (s.length + 1) ∧ N ≤ 8 ∧ N ≤ s.length := ⟨min 8 s.length, by omega, by omega, by omega⟩
  have hmm : (if (s.length : Int) + 1 < 9 then (s.length : Int) + 1 else 9) = ((N + 1 : Nat) : Int) := by split <;> omega
  simp only [hmm]
  refine ms_intro (N + 1) rfl rfl (by omega) (by omega) (by omega) rfl ?_
  have hw2 : IntKind.i64.wrap (((N + 1 : Nat) : Int) - 1) = N := by rw [wrap_i64 (by omega) (by omega)]; omega
  have hw3 : IntKind.i64.wrap (N : Int) = N := wrap_i64 (by omega) (by omega)
  simp [hw2]
  have hcut0 : ∀ k, cutN k [] = [[]] := fun k => by cases k <;> simp [cutN, Lib.indexByte]
  refine lp_startx (fun x f σ => ∃ (i : Nat) (done : List (List UInt8)) (s' : List UInt8), x = N - i ∧ i ≤ N ∧ done.length = i ∧ f 0 = .str s' ∧ f 1 = .str [46] ∧ f 2 = .int .i64 0 ∧ f 3 = .int .i64 N ∧ f 9 = .row 0 (N + 1) ∧ f 10 = .int .i64 i ∧ i + s'.length ≤ s.length ∧
    cutN 8 s = done ++ cutN (8 - i) s' ∧ σ = [.row 9 1 (strEls (done ++ List.replicate (N + 1 - i) [])) false]) N ?_ ?_
  · exact ⟨0, [], s, rfl, by omega, rfl, by simp, by simp, by simp, by simp [hmm, hw2, hw3], by simp, by simp, by omega, by simp, by simp [strEls]⟩
  rintro x f σ ⟨i, done, s', rfl, hi, hdl, h0, h1, h2, h3, h9, h10, hsl, hcut, rfl⟩
  have hwi : IntKind.i64.wrap ((i : Int) + 1) = (i : Int) + 1 := wrap_i64 (by omega) (by omega)
  have hlenL : (strEls (done ++ List.replicate (N + 1 - i) [])).length = N + 1 := by simp [strEls]; omega
  have hlenL2 : (strEls (done ++ s' :: List.replicate (N - i) [])).length = N + 1 := by simp [strEls]; omega
  have hiN : i < N + 1 := by omega
  have hL : ∀ x : List UInt8, (strEls (done ++ List.replicate (N + 1 - i) [])).set i [.str x] = strEls (done ++ x :: List.replicate (N - i) []) := fun x => by
    have e : N + 1 - i = (N - i) + 1 := by omega
    rw [e, List.replicate_succ]
    simp only [strEls, List.map_append, List.map_cons]
    rw [List.set_append_right _ _ (by simp; omega)]
    simp [hdl]
  have hget : (strEls (done ++ List.replicate (N + 1 - i) []))[i]? = some [.str []] := by
    have e : N + 1 - i = (N - i) + 1 := by omega
    rw [e, List.replicate_succ]
    simp only [strEls, List.map_append, List.map_cons]
    rw [List.getElem?_append_right (by simp; omega)]
    simp [hdl]
  obtain ⟨hgx, hgy⟩ := List.getElem?_eq_some_iff.1 hget
  have hp1 : (0 : Int) ≤ (i : Int) + 1 := by omega
  have hi1 : i + 1 ≤ N + 1 := by omega
  have hlen1 : ∀ c ∈ strEls (done ++ s' :: List.replicate (N - i) []), c.length = 1 := fun c hc => by
    simp only [strEls, List.mem_map] at hc
    obtain ⟨x, _, rfl⟩ := hc; rfl
  have htake : List.take (i + 1) (strEls (done ++ s' :: List.replicate (N - i) [])) = strEls (done ++ [s']) := by
    have e : strEls (done ++ s' :: List.replicate (N - i) []) = strEls (done ++ [s']) ++ strEls (List.replicate (N - i) []) := by rw [← strEls_append]; simp
    rw [e, List.take_append_of_le_length (by simp [strEls]; omega), List.take_of_length_le (by simp [strEls]; omega)]
  simp [h3, h10]
  refine cb_dec (fun hlt => ?_) (fun hge => ?_)
  · have hlt' : i < N := by omega
    simp [h0, h1]
    refine ac_same (index_ok s') (by simp) ?_
    rintro r rfl
    simp
    rcases sp_index s' with ⟨g1, g2⟩ | ⟨m, g1, g2, g3⟩
    · have hend : cutN 8 s = done ++ [s'] := by
        rw [hcut]
        obtain ⟨k, hk⟩ : ∃ k, 8 - i = k + 1 := ⟨7 - i, by omega⟩
        rw [hk]; simp [cutN, g1]
      simp [g1]
      simp [h0, h2, h9, h10, hlenL, hiN, hget, hgy, hL, hwi]
      refine gh_frz (σ' := [.row 9 1 (strEls (done ++ s' :: List.replicate (N - i) [])) true]) ⟨0, 9, 1, strEls (done ++ s' :: List.replicate (N - i) []), _, rfl, strEls_share _ _, rfl⟩ ?_
      simp [h0, h2, h9, h10, hlenL2, hwi, hlen1, hp1, hi1]
      rw [hend, htake]
    · have hm0 : ¬ ((m : Int) < 0) := by omega
      have hwm : IntKind.i64.wrap (m : Int) = m := wrap_i64 (by omega) (by omega)
      have hwm1 : IntKind.i64.wrap ((m : Int) + 1) = (m : Int) + 1 := wrap_i64 (by omega) (by omega)
      have hml : m ≤ s'.length := by omega
      have hml1 : m + 1 ≤ s'.length := by omega
      have hmp : (0 : Int) ≤ (m : Int) + 1 := by omega
      simp [g1, hm0]
      refine gh_skip ?_
      simp [h0, h1, h2, h9, h10, hlenL, hiN, hget, hgy, hL, hwm, hml]
      refine gh_skip ?_
      simp [h0, h1, h2, h9, h10, hwm1, hmp, hml1, hwi]
      refine nx_intro (N - (i + 1)) (by omega) ⟨i + 1, done ++ [s'.take m], s'.drop (m + 1), rfl, by omega, by simp [hdl], by simp, by simp [h1], by simp [h2], by simp [h3], by simp [h9], by simp, by simp; omega, ?_, ?_⟩
      · rw [hcut]
        obtain ⟨k, hk⟩ : ∃ k, 8 - i = k + 1 := ⟨7 - i, by omega⟩
        have hne : ¬ ((m : Int) = -1) := by omega
        rw [hk, show 8 - (i + 1) = k by omega]
        simp [cutN, g1, hne]
      · have e : N + 1 - (i + 1) = N - i := by omega
        simp [e]
  · have hend : cutN 8 s = done ++ [s'] := by
      have ei : i = N := by omega
      subst ei
      rw [hcut]
      by_cases h8 : i = 8
      · rw [h8]; rfl
      · have : s' = [] := List.eq_nil_of_length_eq_zero (by omega)
        rw [this, hcut0]
    simp [h0, h2, h9, h10, hlenL, hiN, hget, hgy, hL, hwi]
    refine gh_frz (σ' := [.row 9 1 (strEls (done ++ s' :: List.replicate (N - i) [])) true]) ⟨0, 9, 1, strEls (done ++ s' :: List.replicate (N - i) []), _, rfl, strEls_share _ _, rfl⟩ ?_
    simp [h0, h2, h9, h10, hlenL2, hwi, hlen1, hp1, hi1]
    rw [hend, htake]
theorem splitN_ok (s : List UInt8) (hs : s.length ≤ 1000000000000000000) : PCalls Tryz.prog n_strings_SplitN [.str s, .str [46], .int .i64 9] (fun r => r = .lst (strEls (cutN 8 s))) := by
  refine pcalls_of_awp hmix c_strings_SplitN rfl ?_
  simp [a_strings_SplitN]
  refine ac_same (genSplit_ok s hs) (by simp) ?_
  rintro r rfl
  simp
theorem cut_le (s : List UInt8) : (cutN 8 s).length ≤ 8 ↔ (sp s).length ≤ 8 := by
  constructor
  · intro h
    refine Nat.le_of_not_lt fun hx => ?_
    have := cutN_long 8 s (by omega)
    omega
  · intro h
    rw [cutN_eq 8 s (by omega)]; exact h
theorem cut_ok (s : List UInt8) (hs : s.length ≤ 1000000000000000000) : PCalls Tryz.prog n_trail_cut [.str s] (fun r => r = .tup [.lst (strEls (cutN 8 s)), .bool (decide ((cutN 8 s).length ≤ 8))]) := by
  refine pcalls_of_awp hmix c_trail_cut rfl ?_
  simp [a_trail_cut]
  refine ac_same (splitN_ok s hs) (by simp) ?_
  rintro r rfl
  have e : (strEls (cutN 8 s)).length = (cutN 8 s).length := by simp [strEls]
  simp [e]
  all_goals try exact ⟨fun h => by omega, fun h => by omega⟩
def pathAV (x : Option (List (List UInt8))) (e : Nat) : AV := match x with
  | some l => .tup [.lst (strEls l), .int .i64 0]
  | none => .tup [.lst [], .int .i64 e]
theorem sp_mem_len : ∀ (s : List UInt8), ∀ p ∈ sp s, p.length ≤ s.length
  | [], p, h => by simp [sp] at h; simp [h]
  | c :: s, p, h => by
    have ih := sp_mem_len s
    by_cases hc : c = 46
    · subst hc
      simp only [sp, if_true, List.mem_cons] at h
      rcases h with rfl | h
      · simp
      · have := ih p h; simp; omega
    · obtain ⟨q, ps, h1, h2⟩ := sp_cons hc s
      rw [h2] at h
      rw [h1] at ih
      rcases List.mem_cons.1 h with rfl | h
      · have := ih q (by simp); simp; omega
      · have := ih p (by simp [h]); simp; omega
theorem split_ok (s : List UInt8) (hs : s.length ≤ 1000000000000000000) : PCalls Tryz.prog n_trail_Split [.str s] (fun r => r = pathAV (path s) 13) := by
  refine pcalls_of_awp hmix c_trail_Split rfl ?_
  simp [a_trail_Split]
  refine ac_same (cut_ok s hs) (by simp) ?_
  rintro r rfl
  by_cases h8 : (sp s).length ≤ 8
  · have h8' := (cut_le s).2 h8
    have ec := cutN_eq 8 s (by omega)
    rw [ec] at h8' ⊢
    have e : (strEls (sp s)).length = (sp s).length := by simp [strEls]
    simp [h8, e]
    have hml := sp_mem_len s
    have hp : path s = if (sp s).all nameB = true then some (sp s) else none := by unfold path; simp [h8]
    generalize hL : sp s = L at *
    refine lp_start (fun x f σ => ∃ i : Nat, x = L.length - i ∧ i ≤ L.length ∧ f 4 = .lst (strEls L) ∧ f 15 = .lst (strEls L) ∧ f 16 = .int .i64 L.length ∧ f 17 = .int .i64 i ∧ (L.take i).all nameB = true ∧ σ = []) L.length ⟨0, by simp⟩ ?_
    rintro x f σ ⟨i, rfl, hi, h4, h15, h16, h17, hall, rfl⟩
    simp [h16, h17]
    refine cb_dec (fun hlt => ?_) (fun hge => ?_)
    · have hlt' : i < L.length := by omega
      obtain ⟨p, hpp⟩ : ∃ p, L[i]? = some p := ⟨_, List.getElem?_eq_getElem hlt'⟩
      have hm : p ∈ L := List.mem_of_getElem? hpp
      have hse : (strEls L)[i]? = some [.str p] := by simp [strEls, hpp]
      obtain ⟨hx1, hx2⟩ := List.getElem?_eq_some_iff.1 hse
      simp [h15, h17, hse, hx2]
      refine ac_same (name_ok p (by have := hml p hm; omega)) (by simp) ?_
      rintro r rfl
      simp
      refine cb_intro (fun hn => ?_) (fun hn => ?_)
      · have hno : ¬ L.all nameB = true := fun h => by
          have := List.all_eq_true.1 h p hm
          simp [this] at hn
        simp [hp, hno, pathAV]
      · simp [h4, h15, h16, h17]
        refine ⟨_, ?_, i + 1, rfl, by omega, by rw [wrap_i64 (by omega) (by omega)]; simp, ?_⟩
        · omega
        · simp only [Bool.not_eq_eq_eq_not, Bool.not_false] at hn
          intro x hx
          rw [List.take_add_one, hpp] at hx
          simp only [Option.toList_some, List.mem_append, List.mem_singleton] at hx
          rcases hx with hx | rfl
          · exact List.all_eq_true.1 hall x hx
          · exact hn
    · have e : L.take i = L := List.take_of_length_le (by omega)
      rw [e] at hall
      simp [h4, hp, hall, pathAV]
  · have h8' : ¬ (cutN 8 s).length ≤ 8 := fun h => h8 ((cut_le s).1 h)
    have hp : path s = none := by unfold path; simp [h8]
    simp [h8', hp, pathAV]
end Go.Proofs.YtjpjmdjjgfllhaaGreatDoor
end
section
set_option maxHeartbeats 4000000
namespace Go.Trail
theorem lib_join : ∀ l : List (List UInt8), Lib.join l [46] = join l
  | [] => rfl
  | [p] => by rw [Lib.join_one]; rfl
  | p :: q :: ps => by
    have := lib_join (q :: ps)
    rw [Lib.join_cons] at this ⊢
    simp only [join, ← this]
    simp [Lib.joinTail]
theorem join_len : ∀ (l : List (List UInt8)) (n : Nat), (join (l.take n)).length ≤ (join l).length
  | [], n => by simp [join]
  | [p], 0 => by simp [join]
  | [p], n + 1 => by simp [join]
  | p :: q :: ps, 0 => by simp [join]
  | p :: q :: ps, 1 => by simp [join]
  | p :: q :: ps, n + 2 => by
    have := join_len (q :: ps) (n + 1)
    simp [join] at this ⊢; omega
end Go.Trail
namespace Go.Proofs.YtjpjmdjjgfllhaaGreatDoor
open Go.Abs Go.Glob Go.Trail
variable {G : Globs}
/-- strings.Join, points between. -/
theorem join_ok (l : List (List UInt8)) (hl : (join l).length ≤ 140737488355328) (hk : l.length ≤ 140737488355328) : PCalls Tryz.prog 36 [.lst (strEls l), .str [46]] (fun r => r = .str (join l)) := by
  intro base κ Im w vs hs hv
  obtain ⟨v0, v1, rfl⟩ : ∃ v0 v1, vs = [v0, v1] := by
    match vs, hv.1 with
    | [a, b], _ => exact ⟨a, b, rfl⟩
  have e0 := (hv.2 0 (by simp) (by simp)).lst_inv
  have e1 := (hv.2 1 (by simp) (by simp)).str_inv
  simp only [List.getElem_cons_zero, List.getElem_cons_succ] at e0 e1
  subst e1
  have hel : (strEls l).length = l.length := by simp [strEls]
  rcases e0 with ⟨⟨g, rfl⟩, h0⟩ | ⟨size, b, o, cap, vals, rfl, h1, h2, h3, h4, h5, h6⟩
  · have hl0 : l = [] := by simpa [strEls] using h0
    subst hl0
    refine (Tryz.strings_Join_none g 0 ⟨#[46]⟩ w).mono ?_
    rintro e w' ⟨rfl, rfl⟩
    exact ⟨_, [], _, κ, Im, rfl, ⟨rfl, rfl⟩, hs, Grow.refl _ _ _ _, .im _ _ (.str [])⟩
  · cases hln : l with
    | nil =>
      subst hln
      refine (Tryz.strings_Join_none _ cap ⟨#[46]⟩ w).mono ?_
      rintro e w' ⟨rfl, rfl⟩
      exact ⟨_, [], _, κ, Im, rfl, ⟨rfl, rfl⟩, hs, Grow.refl _ _ _ _, .im _ _ (.str [])⟩
    | cons p0 ps0 =>
      have hpos : 0 < l.length := by simp [hln]
      rw [← hln]
      have hsz : size = 1 := by
        have := h3 [.str p0] (by simp [strEls, hln])
        simpa using this.symm
      subst hsz
      rw [hel] at h1 h5
      have hval : ∀ k (hk : k < l.length), vals k 0 = .string ⟨(l[k]).toArray⟩ := fun k hk => by
        have := h6 k 0 (by simpa [strEls] using hk) (by simp [strEls])
        simp only [strEls, List.getElem_map, List.getElem_cons_zero] at this
        generalize vals k 0 = v at this ⊢
        cases this; rfl
      have hcell := fun k (hk : k < l.length) => h5 k 0 hk (by omega)
      have hbk : b < w.heap.size := (hs.imlt _ (hcell 0 hpos).1).1
      have hdat : (l.map fun s => (⟨s.toArray⟩ : ByteArray)).map (·.data.toList) = l := by simp [List.map_map, Function.comp_def]
      have hj : Lib.join ((l.map fun s => (⟨s.toArray⟩ : ByteArray)).map (·.data.toList)) (⟨#[46]⟩ : ByteArray).data.toList = join l := by rw [hdat]; exact lib_join l
      have := Tryz.strings_Join b o cap (l.map fun s => (⟨s.toArray⟩ : ByteArray)) ⟨#[46]⟩ w (fun j x hx => by
          simp only [List.getElem?_map, Option.map_eq_some_iff] at hx
          obtain ⟨s, hs', rfl⟩ := hx
          obtain ⟨hj1, rfl⟩ := List.getElem?_eq_some_iff.1 hs'
          have := (hcell j hj1).2
          rw [hval j hj1] at this
          simpa using this) hbk (by simpa using hk) (by simpa using h1) (by rw [hj]; exact hl)
      rw [hj] at this
      simp only [List.length_map] at this
      rw [hel]
      refine this.mono ?_
      rintro e w' ⟨rfl, hb⟩
      obtain ⟨g1, g2⟩ := srel_grow hs hb
      exact ⟨_, [], _, κ, Im, rfl, ⟨rfl, rfl⟩, g1, g2, .im _ _ (.str (join l))⟩
/-- What a pattern's check answers. -/
def chk (s : List UInt8) : Nat := match parse s with | .error e => e | .ok _ => 0
theorem check_ok (s : List UInt8) (hs : s.length ≤ 1000000000) : PCalls Tryz.prog n_glob_Check [.str s] (fun r => r = .int .i64 (match parse s with | .error e => e | .ok _ => (0 : Nat))) := by
  refine pcalls_of_awp hmix c_glob_Check rfl ?_
  simp [a_glob_Check]
  refine ac_same (parse_ok_walk s (by omega)) (by simp) ?_
  rintro r rfl
  cases parse s <;> simp [parseAV]
theorem check_ok' (s : List UInt8) (hs : s.length ≤ 1000000000) : PCalls Tryz.prog n_glob_Check [.str s] (fun r => r = .int .i64 (chk s)) :=
  (check_ok s hs).mono fun r h => by rw [h]; unfold chk; cases parse s <;> rfl
/-- A pattern's patterns of names: the first trouble, or all. -/
def nodes (s : List UInt8) : Except Nat (List (List UInt8)) :=
  if (sp s).length ≤ 8 then match (sp s).find? (fun p => chk p != 0) with
    | some p => .error (chk p)
    | none => .ok (sp s)
  else .error 11
def nodesAV : Except Nat (List (List UInt8)) → AV
  | .ok l => .tup [.lst (strEls l), .int .i64 0]
  | .error e => .tup [.lst [], .int .i64 e]
theorem nodes_ok (s : List UInt8) (hs : s.length ≤ 1000000000) : PCalls Tryz.prog n_trail_Nodes [.str s] (fun r => r = nodesAV (nodes s)) := by
  refine pcalls_of_awp hmix c_trail_Nodes rfl ?_
  simp [a_trail_Nodes]
  refine ac_same (cut_ok s (by omega)) (by simp) ?_
  rintro r rfl
  by_cases h8 : (sp s).length ≤ 8
  · have h8' := (cut_le s).2 h8
    have ec := cutN_eq 8 s (by omega)
    rw [ec] at h8' ⊢
    have e : (strEls (sp s)).length = (sp s).length := by simp [strEls]
    simp [h8, e]
    have hml := sp_mem_len s
    have hp : nodes s = match (sp s).find? (fun p => chk p != 0) with | some p => .error (chk p) | none => .ok (sp s) := by unfold nodes; simp [h8]
    generalize hL : sp s = L at *
    refine lp_start (fun x f σ => ∃ i : Nat, x = L.length - i ∧ i ≤ L.length ∧ f 4 = .lst (strEls L) ∧ f 16 = .lst (strEls L) ∧ f 17 = .int .i64 L.length ∧ f 18 = .int .i64 i ∧ (∀ q ∈ L.take i, chk q = 0) ∧ σ = []) L.length ⟨0, by simp⟩ ?_
    rintro x f σ ⟨i, rfl, hi, h4, h15, h16, h17, hall, rfl⟩
    simp [h16, h17]
    refine cb_dec (fun hlt => ?_) (fun hge => ?_)
    · have hlt' : i < L.length := by omega
      obtain ⟨p, hpp⟩ : ∃ p, L[i]? = some p := ⟨_, List.getElem?_eq_getElem hlt'⟩
      have hm : p ∈ L := List.mem_of_getElem? hpp
      have hse : (strEls L)[i]? = some [.str p] := by simp [strEls, hpp]
      obtain ⟨hx1, hx2⟩ := List.getElem?_eq_some_iff.1 hse
      simp [h15, h17, hse, hx2]
      refine ac_same (check_ok' p (by have := hml p hm; omega)) (by simp) ?_
      rintro r rfl
      simp
      by_cases hz : chk p = 0
      · simp [hz, h4, h15, h16, h17]
        refine ⟨_, ?_, i + 1, rfl, by omega, by rw [wrap_i64 (by omega) (by omega)]; simp, ?_⟩
        · omega
        · intro x hx
          rw [List.take_add_one, hpp] at hx
          simp only [Option.toList_some, List.mem_append, List.mem_singleton] at hx
          rcases hx with hx | rfl
          · exact hall x hx
          · exact hz
      · have hfind : L.find? (fun p => chk p != 0) = some p := by
          rw [List.find?_eq_some_iff_getElem]
          obtain ⟨g1, g2⟩ := List.getElem?_eq_some_iff.1 hpp
          refine ⟨by simpa using hz, i, g1, g2, fun j hj => ?_⟩
          have := hall L[j] (List.mem_take_iff_getElem.2 ⟨j, by omega, rfl⟩)
          simp [this]
        rw [hfind] at hp
        simp [hz, hp, nodesAV]
    · have e : L.take i = L := List.take_of_length_le (by omega)
      rw [e] at hall
      have hfind : L.find? (fun p => chk p != 0) = none := by
        rw [List.find?_eq_none]; intro x hx; simp [hall x hx]
      rw [hfind] at hp
      simp [h4, hp, nodesAV]
  · have h8' : ¬ (cutN 8 s).length ≤ 8 := fun h => h8 ((cut_le s).1 h)
    have hp : nodes s = .error 11 := by unfold nodes; simp [h8]
    simp [h8', hp, nodesAV]
theorem nodes_pos {s : List UInt8} {e : Nat} (h : nodes s = .error e) : e ≠ 0 := by
  unfold nodes at h
  split at h
  · split at h
    · rename_i p hf
      have := List.find?_some hf
      cases h; simpa using this
    · cases h
  · cases h; simp
theorem nodes_ok_sp {s : List UInt8} {l : List (List UInt8)} (h : nodes s = .ok l) : l = sp s ∧ l.length ≤ 8 := by
  unfold nodes at h
  split at h
  · split at h
    · cases h
    · cases h; exact ⟨rfl, by assumption⟩
  · cases h
theorem path_sp {s : List UInt8} {l : List (List UInt8)} (h : path s = some l) : l = sp s ∧ l.length ≤ 8 := by
  unfold path at h
  split at h
  · rename_i hh; simp only [Option.some.injEq] at h; subst h; exact ⟨rfl, hh.1⟩
  · cases h
end Go.Proofs.YtjpjmdjjgfllhaaGreatDoor
end
section
set_option maxHeartbeats 8000000
namespace Go.Glob
theorem cls_less {n : Nat} {ne : Bool} {s : List UInt8} {rs : List (UInt8 × UInt8)} {r : List UInt8} (h : cls n ne s = some (rs, r)) : r.length ≤ s.length := by
  obtain ⟨b, rfl, _⟩ := cls_local _ _ _ _ _ h
  simp
/-- Braces take room. -/
theorem pcs_depth : ∀ (n : Nat), (∀ (s : List UInt8) (l : List Pc) (r : List UInt8) (d : Nat), pcs n s = some (l, r, d) → d + r.length ≤ s.length) ∧
    (∀ (s : List UInt8) (l : List (List Pc)) (r : List UInt8) (d : Nat), alts n s = some (l, r, d) → d + r.length + 1 ≤ s.length) := by
  intro n
  induction n with
  | zero => exact ⟨fun s l r d h => by simp [pcs] at h, fun s l r d h => by simp [alts] at h⟩
  | succ n ih =>
    obtain ⟨ihp, iha⟩ := ih
    refine ⟨fun s l r d h => ?_, fun s l r d h => ?_⟩
    · rcases pcs_some h with ⟨rfl, rfl, rfl, rfl⟩ | ⟨m, c, t, hm, rfl, hcase⟩
      · simp
      obtain rfl : n = m := by omega
      simp only [List.length_cons]
      rcases hcase with ⟨_, rfl, rfl, rfl⟩ | ⟨_, ⟨_, l', hp, _⟩ | ⟨_, l', hp, _⟩ | ⟨_, l', hp, _⟩ | ⟨_, rs, r1, l', hc, hp, _⟩ | ⟨_, xs, r1, d1, l', d2, ha, hp, _, rfl⟩⟩
      · simp
      · have := ihp _ _ _ _ hp; omega
      · have := ihp _ _ _ _ hp; omega
      · have := ihp _ _ _ _ hp; omega
      · have := ihp _ _ _ _ hp; have := cls_less hc; omega
      · have := ihp _ _ _ _ hp; have := iha _ _ _ _ ha; omega
    · obtain ⟨m, a, c, t, d1, hm, hp, hcase⟩ := alts_some h
      obtain rfl : n = m := by omega
      have h1 := ihp _ _ _ _ hp
      simp only [List.length_cons] at h1
      rcases hcase with ⟨_, rfl, rfl, rfl⟩ | ⟨_, as_', d2, ha, rfl, rfl⟩
      · omega
      · have := iha _ _ _ _ ha; omega
theorem pcs_stops {n : Nat} {s : List UInt8} {l : List Pc} {r : List UInt8} {d : Nat} (h : pcs n s = some (l, r, d)) : Stops r := ((pcs_local n).1 s l r d h).1
theorem pcs_mono {n m : Nat} {s : List UInt8} {l : List Pc} {r : List UInt8} {d : Nat} (h : pcs n s = some (l, r, d)) (hm : n ≤ m) : pcs m s = some (l, r, d) := by
  obtain ⟨h1, _, _, b, rfl, h2⟩ := (pcs_local n).1 s l r d h
  exact h2 m r hm h1
theorem alts_mono {n m : Nat} {s : List UInt8} {l : List (List Pc)} {r : List UInt8} {d : Nat} (h : alts n s = some (l, r, d)) (hm : n ≤ m) : alts m s = some (l, r, d) := by
  obtain ⟨_, _, b, rfl, h2⟩ := (pcs_local n).2 s l r d h
  exact h2 m r hm
theorem cls_mono {n m : Nat} {ne : Bool} {s : List UInt8} {rs : List (UInt8 × UInt8)} {r : List UInt8} (h : cls n ne s = some (rs, r)) (hm : n ≤ m) : cls m ne s = some (rs, r) := by
  obtain ⟨b, rfl, h2⟩ := cls_local _ _ _ _ _ h
  exact h2 m r (.inl hm)
/-- So many steps are enough. -/
theorem pcs_fuel : ∀ (m : Nat), (∀ (s : List UInt8) (x : List Pc × List UInt8 × Nat), pcs m s = some x → ∀ n, 2 * s.length + 1 ≤ n → pcs n s = some x) ∧
    (∀ (s : List UInt8) (x : List (List Pc) × List UInt8 × Nat), alts m s = some x → ∀ n, 2 * s.length + 2 ≤ n → alts n s = some x) := by
  intro m
  induction m with
  | zero => exact ⟨fun s x h => by simp [pcs] at h, fun s x h => by simp [alts] at h⟩
  | succ m ih =>
    obtain ⟨ihp, iha⟩ := ih
    refine ⟨fun s x h n hn => ?_, fun s x h n hn => ?_⟩
    · obtain ⟨l, r, d⟩ := x
      obtain ⟨n, rfl⟩ : ∃ j, n = j + 1 := ⟨n - 1, by omega⟩
      rcases pcs_some h with ⟨rfl, rfl, rfl, rfl⟩ | ⟨m', c, t, hm, rfl, hcase⟩
      · exact pcs_end n
      obtain rfl : m = m' := by omega
      simp only [List.length_cons] at hn
      rcases hcase with ⟨hst, rfl, rfl, rfl⟩ | ⟨hst, ⟨rfl, l', hp, rfl⟩ | ⟨rfl, l', hp, rfl⟩ | ⟨hnb, l', hp, rfl⟩ | ⟨rfl, rs, r1, l', hc, hp, rfl⟩ | ⟨rfl, xs, r1, d1, l', d2, ha, hp, rfl, rfl⟩⟩
      · exact pcs_stop hst
      · rw [pcs_q, ihp _ _ hp n (by omega)]; rfl
      · rw [pcs_star, ihp _ _ hp n (by omega)]; rfl
      · rw [pcs_lit hnb, ihp _ _ hp n (by omega)]; rfl
      · have hl := cls_less hc
        rw [pcs_cls, cls_fits hc (by omega)]
        simp only [Option.bind_some]
        rw [ihp _ _ hp n (by omega)]; rfl
      · have hl := (pcs_depth m).2 _ _ _ _ ha
        rw [pcs_br, iha _ _ ha n (by omega)]
        simp only [Option.bind_some]
        rw [ihp _ _ hp n (by omega)]; rfl
    · obtain ⟨l, r, d⟩ := x
      obtain ⟨n, rfl⟩ : ∃ j, n = j + 1 := ⟨n - 1, by omega⟩
      obtain ⟨m', a, c, t, d1, hm, hp, hcase⟩ := alts_some h
      obtain rfl : m = m' := by omega
      have hl := (pcs_depth m).1 _ _ _ _ hp
      simp only [List.length_cons] at hl
      rw [alts_step, ihp _ _ hp n (by omega)]
      simp only [Option.bind_some]
      rcases hcase with ⟨hc, rfl, rfl, rfl⟩ | ⟨hc, as_', d2, ha, rfl, rfl⟩
      · rw [if_pos hc]
      · rw [if_neg hc, iha _ _ ha n (by omega)]; rfl
def NoP (s : List UInt8) : Prop := ∀ m, pcs m s = none
theorem noP_of {n : Nat} {s : List UInt8} (h : pcs n s = none) (hn : 2 * s.length + 1 ≤ n) : NoP s := fun m => by
  cases hm : pcs m s with
  | none => rfl
  | some x => rw [(pcs_fuel m).1 s x hm n hn] at h; cases h
theorem NoP.one {c : UInt8} {t : List UInt8} (h : NoP (c :: t)) (hc : c = 63 ∨ c = 42 ∨ nb c = true) : NoP t := fun m => by
  have h1 := h (m + 1)
  rcases hc with rfl | rfl | hc
  · rw [pcs_q] at h1; simpa using h1
  · rw [pcs_star] at h1; simpa using h1
  · rw [pcs_lit hc] at h1; simpa using h1
theorem NoP.cls {t : List UInt8} (h : NoP (91 :: t)) {n : Nat} {rs : List (UInt8 × UInt8)} {r : List UInt8} (hc : Glob.cls n false t = some (rs, r)) : NoP r := fun m => by
  cases hm : pcs m r with
  | none => rfl
  | some x =>
    have h1 := h (max n m + 1)
    obtain ⟨l, r', d⟩ := x
    rw [pcs_cls, cls_mono hc (Nat.le_max_left _ _)] at h1
    simp only [Option.bind_some] at h1
    rw [pcs_mono hm (Nat.le_max_right _ _)] at h1
    cases h1
/-- Behind a brace: whatever it ends with, no pieces follow. -/
def NoA (s : List UInt8) : Prop := ∀ (m : Nat) (xs : List (List Pc)) (r : List UInt8) (d : Nat), alts m s = some (xs, r, d) → NoP r
theorem NoP.br {t : List UInt8} (h : NoP (123 :: t)) : NoA t := fun n xs r d ha m => by
  cases hm : pcs m r with
  | none => rfl
  | some x =>
    have h1 := h (max n m + 1)
    obtain ⟨l, r', d'⟩ := x
    rw [pcs_br, alts_mono ha (Nat.le_max_left _ _)] at h1
    simp only [Option.bind_some] at h1
    rw [pcs_mono hm (Nat.le_max_right _ _)] at h1
    cases h1
theorem NoA.last {s t : List UInt8} (h : NoA s) {n : Nat} {a : List Pc} {d : Nat} (hp : pcs n s = some (a, 125 :: t, d)) : NoP t := by
  refine h (n + 1) [a] t d ?_
  rw [alts_step, hp]; rfl
theorem NoA.more {s t : List UInt8} (h : NoA s) {n : Nat} {a : List Pc} {c : UInt8} {d : Nat} (hc : c ≠ 125) (hp : pcs n s = some (a, c :: t, d)) : NoA t := fun m xs r d' ha => by
  refine h (max n m + 1) (a :: xs) r (max d d') ?_
  rw [alts_step, pcs_mono hp (Nat.le_max_left _ _)]
  simp only [Option.bind_some, if_neg hc]
  rw [alts_mono ha (Nat.le_max_right _ _)]; rfl
theorem pcs_or (s : List UInt8) : NoP s ∨ ∃ m l r d, pcs m s = some (l, r, d) := by
  by_cases h : NoP s
  · exact .inl h
  · simp only [NoP, Classical.not_forall] at h
    obtain ⟨m, hm⟩ := h
    cases hx : pcs m s with
    | none => exact absurd hx hm
    | some x => exact .inr ⟨m, x.1, x.2.1, x.2.2, hx⟩
theorem cls_or (s : List UInt8) : (∀ m, cls m false s = none) ∨ ∃ m rs r, cls m false s = some (rs, r) := by
  by_cases h : ∀ m, cls m false s = none
  · exact .inl h
  · rw [Classical.not_forall] at h
    obtain ⟨m, hm⟩ := h
    cases hx : cls m false s with
    | none => exact absurd hx hm
    | some x => exact .inr ⟨m, x.1, x.2, hx⟩
end Go.Glob
namespace Go.Proofs.YtjpjmdjjgfllhaaGreatDoor
open Go.Abs Go.Glob
variable {G : Globs}
theorem rclass_err (p : List UInt8) (i : Nat) (h : ∀ n, cls n false (p.drop i) = none) (hi : i ≤ p.length) (hp : p.length ≤ 1000000) :
    PCalls Tryz.prog n_isobarref15_class [.str p, .int .i64 i] (fun v => v = .int .i64 (-1)) := by
  refine pcalls_of_awp hmix c_isobarref15_class rfl ?_
  simp [a_isobarref15_class]
  refine lp_startx (fun x f σ => ∃ (k : Nat), x = p.length - k ∧ i ≤ k ∧ k ≤ p.length ∧ (∀ n, cls n (decide (i < k)) (p.drop k) = none) ∧ f 0 = .str p ∧ f 1 = .int .i64 k ∧ f 5 = .int .i64 i ∧ σ = []) (p.length - i) ?_ ?_
  · exact ⟨i, rfl, Nat.le_refl _, hi, by simpa using h, by simp, by simp, by simp, rfl⟩
  rintro x f σ ⟨k, hx, hik, hkl, hcls, h0, h1, h5, rfl⟩
  by_cases hke : k = p.length
  · subst hke
    simp [h0, h1, h5]
  have hlt : k < p.length := by omega
  obtain ⟨c, hc⟩ : ∃ c, p[k]? = some c := ⟨_, List.getElem?_eq_getElem hlt⟩
  obtain ⟨_, hc2⟩ := List.getElem?_eq_some_iff.1 hc
  have hd : p.drop k = c :: p.drop (k + 1) := Glob.drop_cons hc
  have hlt' : (k : Int) < (p.length : Int) := by omega
  have hwk : IntKind.i64.wrap ((k : Int) + 1) = (k : Int) + 1 := wrap_i64 (by omega) (by omega)
  have hwk2 : IntKind.i64.wrap ((k : Int) + 2) = (k : Int) + 2 := wrap_i64 (by omega) (by omega)
  have hwk3 : IntKind.i64.wrap ((k : Int) + 2 + 1) = (k : Int) + 3 := by rw [wrap_i64 (by omega) (by omega)]; omega
  have hwl : IntKind.i64.wrap ((p.length : Int) - 2) = (p.length : Int) - 2 := wrap_i64 (by omega) (by omega)
  have t1 : ((k : Int) + 1).toNat = k + 1 := by omega
  have t2 : ((k : Int) + 2).toNat = k + 2 := by omega
  have p1 : (0 : Int) ≤ (k : Int) + 1 := by omega
  have p2 : (0 : Int) ≤ (k : Int) + 2 := by omega
  have hge : ¬ p.length ≤ k := by omega
  have hge' : ¬ (p.length : Int) ≤ (k : Int) := by omega
  by_cases h93 : c = 93
  · subst h93
    have hki : k = i := by
      by_cases hki : i < k
      · have := hcls 1
        rw [hd, decide_eq_true hki] at this
        simp [cls] at this
      · omega
    subst hki
    simp [h0, h1, h5, hlt, hlt', hc, hc2, hge, hge']
  have h93' : ¬ ((c.toNat : Int) = 93) := u8_ne (n := 93) rfl h93
  simp [h0, h1, h5, hlt, hlt', hc, hc2, h93']
  refine ac_same (refByte_ok c) (by simp) ?_
  rintro v rfl
  cases hnb : nb c with
  | false => simp [hnb]
  | true =>
    have hstep : ∀ n, (match rng (p.drop (k + 1)) with
      | some (h, s') => if h < c then none else (cls n true s').map fun x => ((c, h) :: x.1, x.2)
      | none => (cls n true (p.drop (k + 1))).map fun x => ((c, c) :: x.1, x.2)) = none := fun n => by
      have := hcls (n + 1)
      rw [hd, cls_step (fun h => h93 h.1) hnb] at this
      exact this
    have hone : rng (p.drop (k + 1)) = none → ∀ n, cls n (decide (i < k + 1)) (p.drop (k + 1)) = none := fun hr n => by
      have := hstep n
      rw [hr] at this
      have e : decide (i < k + 1) = true := by simp; omega
      rw [e]; simpa using this
    by_cases hk2 : (k : Int) < (p.length : Int) - 2
    · obtain ⟨d, hd1⟩ : ∃ d, p[k + 1]? = some d := ⟨_, List.getElem?_eq_getElem (by omega)⟩
      obtain ⟨h', hd2⟩ : ∃ d, p[k + 2]? = some d := ⟨_, List.getElem?_eq_getElem (by omega)⟩
      have hdd : p.drop (k + 1) = d :: h' :: p.drop (k + 3) := by rw [Glob.drop_cons hd1, Glob.drop_cons hd2]
      obtain ⟨_, g1⟩ := List.getElem?_eq_some_iff.1 hd1
      obtain ⟨_, g2⟩ := List.getElem?_eq_some_iff.1 hd2
      by_cases h45 : d = 45
      · subst h45
        simp [h0, h1, h5, hnb, hwl, hk2, hwk, hwk2, hwk3, t1, t2, p1, p2, hd1, hd2, g1, g2]
        refine ac_same (refByte_ok h') (by simp) ?_
        rintro v rfl
        cases hnh : nb h' with
        | false =>
          simp [h0, h1, h5, hnb, hnh, hwl, hk2, hwk]
          refine nx_intro (p.length - (k + 1)) (by omega) ⟨k + 1, rfl, by omega, by omega, hone ?_, by simp [h0], by simp, by simp [h5], rfl⟩
          rw [hdd, rng, if_neg (fun h => by rw [hnh] at h; cases h.2)]
        | true =>
          have hr : rng (p.drop (k + 1)) = some (h', p.drop (k + 3)) := by rw [hdd, rng, if_pos ⟨rfl, hnh⟩]
          by_cases hle : h' < c
          · have hle1 : h'.toNat < c.toNat := UInt8.lt_iff_toNat_lt.1 hle
            have hle2 : (h'.toNat : Int) < (c.toNat : Int) := by omega
            simp [h0, h1, h5, hnb, hnh, hwl, hk2, hwk, hwk2, hwk3, t1, t2, p1, p2, hd1, hd2, g1, g2, hc, hc2, hle1, hle2]
          · have hle1 : ¬ h'.toNat < c.toNat := fun h => hle (UInt8.lt_iff_toNat_lt.2 h)
            have hle2 : ¬ (h'.toNat : Int) < (c.toNat : Int) := by omega
            simp [h0, h1, h5, hnb, hnh, hwl, hk2, hwk, hwk2, hwk3, t1, t2, p1, p2, hd1, hd2, g1, g2, hc, hc2, hle1, hle2]
            refine nx_intro (p.length - (k + 3)) (by omega) ⟨k + 3, rfl, by omega, by omega, ?_, by simp [h0], by simp, by simp [h5], rfl⟩
            intro n
            have := hstep n
            rw [hr] at this
            simp only [if_neg hle] at this
            have e : decide (i < k + 3) = true := by simp; omega
            rw [e]; simpa using this
      · have h45' : ¬ ((d.toNat : Int) = 45) := u8_ne (n := 45) rfl h45
        simp [h0, h1, h5, hnb, hwl, hk2, hwk, hwk2, hwk3, t1, t2, p1, p2, hd1, hd2, g1, g2, h45']
        refine nx_intro (p.length - (k + 1)) (by omega) ⟨k + 1, rfl, by omega, by omega, hone ?_, by simp [h0], by simp, by simp [h5], rfl⟩
        rw [hdd, rng, if_neg (fun h => h45 h.1)]
    · simp [h0, h1, h5, hnb, hwl, hk2, hwk]
      refine nx_intro (p.length - (k + 1)) (by omega) ⟨k + 1, rfl, by omega, by omega, hone ?_, by simp [h0], by simp, by simp [h5], rfl⟩
      have hl : (p.drop (k + 1)).length ≤ 1 := by simp; omega
      match hm : p.drop (k + 1), hl with
      | [], _ => rfl
      | [_], _ => rfl
      | _ :: _ :: _, hl => simp at hl
theorem rform_err : ∀ (L : Nat) (p : List UInt8) (i : Nat), p.length - i ≤ L → i ≤ p.length → p.length ≤ 1000000 → NoP (p.drop i) →
    PCalls Tryz.prog n_isobarref15_form [.str p, .int .i64 i] (fun v => v = .tup [.int .i64 (-1), .int .i64 0, .int .i64 0]) := by
  intro L
  induction L with
  | zero =>
    intro p i hL hi hp h
    have he : p.drop i = [] := List.drop_of_length_le (by omega)
    rw [he] at h
    have := h 1
    rw [pcs_end] at this; cases this
  | succ L ih =>
    intro p i hL hi hp h
    refine pcalls_of_awp hmix c_isobarref15_form rfl ?_
    simp [a_isobarref15_form]
    refine lp_startx (fun x f σ => ∃ (k D N : Nat), x = p.length - k ∧ i ≤ k ∧ k ≤ p.length ∧ NoP (p.drop k) ∧ D ≤ 1000001 ∧ N ≤ 65 ∧ f 0 = .str p ∧ f 1 = .int .i64 k ∧ f 7 = .int .i64 D ∧ f 8 = .int .i64 N ∧ σ = []) (p.length - i) ?_ ?_
    · exact ⟨i, 0, 1, rfl, Nat.le_refl _, hi, h, by omega, by omega, by simp, by simp, by simp, by simp, rfl⟩
    rintro x f σ ⟨k, d1, n1, hx, hik, hkl, hno, hd1, hn1, h0, h1, h7, h8, rfl⟩
    by_cases hke : k = p.length
    · have := hno 1
      rw [List.drop_of_length_le (by omega), pcs_end] at this; cases this
    have hlt : k < p.length := by omega
    obtain ⟨c, hc⟩ : ∃ c, p[k]? = some c := ⟨_, List.getElem?_eq_getElem hlt⟩
    obtain ⟨_, hc2⟩ := List.getElem?_eq_some_iff.1 hc
    have hdk : p.drop k = c :: p.drop (k + 1) := Glob.drop_cons hc
    have hlt' : (k : Int) < (p.length : Int) := by omega
    have hwk : IntKind.i64.wrap ((k : Int) + 1) = (k : Int) + 1 := wrap_i64 (by omega) (by omega)
    rw [hdk] at hno
    have hst : ¬ (c = 44 ∨ c = 125) := fun hst => by
      have := hno 1
      rw [pcs_stop hst] at this; cases this
    have n44 : ¬ ((c.toNat : Int) = 44) := u8_ne (n := 44) rfl (fun h => hst (.inl h))
    have n125 : ¬ ((c.toNat : Int) = 125) := u8_ne (n := 125) rfl (fun h => hst (.inr h))
    simp [h0, h1, h7, h8, hlt, hlt', hc, hc2, n44, n125]
    refine ac_same (refByte_ok c) (by simp) ?_
    rintro v rfl
    have hone : ∀ {f' : Abs.Frame} {tf : Tg f'} {tI} {σ' : Store}, (c = 63 ∨ c = 42 ∨ nb c = true) → f' 0 = .str p → f' 1 = .int .i64 ((k : Int) + 1) → f' 7 = .int .i64 d1 → f' 8 = .int .i64 n1 → σ' = [] → Abs.nx x (fun x f σ => ∃ (k D N : Nat), x = p.length - k ∧ i ≤ k ∧ k ≤ p.length ∧ NoP (p.drop k) ∧ D ≤ 1000001 ∧ N ≤ 65 ∧ f 0 = .str p ∧ f 1 = .int .i64 k ∧ f 7 = .int .i64 D ∧ f 8 = .int .i64 N ∧ σ = []) tI f' tf σ' := by
      intro f' tf tI σ' hcc q0 q1 q7 q8 hs
      exact nx_intro (p.length - (k + 1)) (by omega) ⟨k + 1, d1, n1, rfl, by omega, by omega, hno.one hcc, hd1, hn1, q0, by simp [q1], q7, q8, hs⟩
    cases hnb : nb c with
    | true =>
      simp [h0, h1, h7, h8, hlt, hlt', hc, hc2, hnb, hwk]
      exact hone (.inr (.inr hnb)) (by simp [h0]) (by simp) (by simp [h7]) (by simp [h8]) rfl
    | false =>
    by_cases h63 : c = 63
    · subst h63
      simp [h0, h1, h7, h8, hlt, hlt', hc, hc2, hnb, hwk]
      exact hone (.inl rfl) (by simp [h0]) (by simp) (by simp [h7]) (by simp [h8]) rfl
    by_cases h42 : c = 42
    · subst h42
      simp [h0, h1, h7, h8, hlt, hlt', hc, hc2, hnb, hwk]
      exact hone (.inr (.inl rfl)) (by simp [h0]) (by simp) (by simp [h7]) (by simp [h8]) rfl
    have n63 : ¬ ((c.toNat : Int) = 63) := u8_ne (n := 63) rfl h63
    have n42 : ¬ ((c.toNat : Int) = 42) := u8_ne (n := 42) rfl h42
    by_cases h91 : c = 91
    · subst h91
      simp [h0, h1, h7, h8, hlt, hlt', hc, hc2, hnb, hwk]
      rcases cls_or (p.drop (k + 1)) with hcl | ⟨m', rs, r1, hcl⟩
      · have hclass := rclass_err (G := G) p (k + 1) hcl (by omega) hp
        simp only [Int.natCast_add, Int.cast_ofNat_Int] at hclass
        refine ac_same hclass (by simp) ?_
        rintro v rfl
        simp
      · have hclass := rclass_ok (G := G) p (k + 1) m' rs r1 hcl hp
        have hno1 := hno.cls hcl
        obtain ⟨cd1, cd2⟩ := cls_drop hcl
        have hge : ¬ ((p.length - r1.length : Nat) : Int) < 0 := by omega
        simp only [Int.natCast_add, Int.cast_ofNat_Int] at hclass
        generalize hE : p.length - r1.length = E at *
        refine ac_same hclass (by simp) ?_
        rintro v rfl
        simp [h0, h7, h8, hge]
        refine nx_intro (p.length - E) (by omega) ⟨E, d1, n1, rfl, by omega, by omega, by rw [cd1]; exact hno1, hd1, hn1, by simp [h0], by simp, by simp [h7], by simp [h8], rfl⟩
    have n91 : ¬ ((c.toNat : Int) = 91) := u8_ne (n := 91) rfl h91
    by_cases h123 : c = 123
    · subst h123
      simp [h0, h1, h7, h8, hlt, hlt', hc, hc2, hnb, hwk]
      refine lp_gen (fun f' => f' 0 = .str p ∧ f' 1 = .int .i64 k ∧ f' 7 = .int .i64 d1 ∧ f' 8 = .int .i64 n1 ∧ f' 9 = .int .i64 0) ⟨by simp [h0], by simp [h1], by simp [h7], by simp [h8], by simp⟩ ?_
      rintro f0 ⟨u0, u1, u7, u8, u9⟩
      refine lp_startx (fun x f σ => ∃ (q D S : Nat), x = p.length - q ∧ k ≤ q ∧ q < p.length ∧ NoA (p.drop (q + 1)) ∧ D ≤ 1000001 ∧ S ≤ 65 ∧ f 0 = .str p ∧ f 1 = .int .i64 q ∧ f 7 = .int .i64 D ∧ f 8 = .int .i64 n1 ∧ f 9 = .int .i64 S ∧ σ = []) (p.length - k) ?_ ?_
      · exact ⟨k, d1, 0, rfl, Nat.le_refl _, hlt, hno.br, hd1, by omega, u0, u1, u7, u8, by simp [u9], rfl⟩
      rintro x' f1 σ' ⟨q, D, S, hx', hkq, hql, hna, hD, hS, w0, w1, w7, w8, w9, rfl⟩
      have hwq : IntKind.i64.wrap ((q : Int) + 1) = (q : Int) + 1 := wrap_i64 (by omega) (by omega)
      rcases pcs_or (p.drop (q + 1)) with hnp | ⟨m3, a, rest, da1, hpa⟩
      · have hih := ih p (q + 1) (by omega) (by omega) hp hnp
        simp only [Int.natCast_add, Int.cast_ofNat_Int] at hih
        simp [w0, w1, w7, w8, w9, hwq]
        refine ac_same hih (by simp) ?_
        rintro v rfl
        simp
      · obtain ⟨e1, e2, e3⟩ := left_at hpa (by omega)
        have hdep := (pcs_depth m3).1 _ _ _ _ hpa
        simp only [List.length_drop] at hdep
        have hih := rform_ok (G := G) (p.length - (q + 1)) p (q + 1) m3 a rest da1 (by omega) (by omega) hp (by omega) hpa
        simp only [Int.natCast_add, Int.cast_ofNat_Int] at hih
        rcases pcs_stops hpa with rfl | ⟨c', t', rfl, hcc⟩
        · simp at hih
          simp [w0, w1, w7, w8, w9, hwq]
          refine ac_same hih (by simp) ?_
          rintro v rfl
          have hE0 : ¬ (p.length : Int) < 0 := by omega
          simp [w0, w1, w7, w8, w9, hE0]
        have hE1 : p.length - (c' :: t').length < p.length := by simp only [List.length_cons] at e3 ⊢; omega
        have hca := cnt_le a 1 (by omega)
        generalize hE : p.length - (c' :: t').length = E at *
        obtain ⟨hcE, hdE, _⟩ := drop_one e1
        obtain ⟨_, hcE2⟩ := List.getElem?_eq_some_iff.1 hcE
        have hE0 : ¬ (E : Int) < 0 := by omega
        have hEl : ¬ (p.length : Int) ≤ (E : Int) := by omega
        have hEl' : ¬ p.length ≤ E := by omega
        have hwE : IntKind.i64.wrap ((E : Int) + 1) = (E : Int) + 1 := wrap_i64 (by omega) (by omega)
        have hwd : IntKind.i64.wrap ((da1 : Int) + 1) = (da1 : Int) + 1 := wrap_i64 (by omega) (by omega)
        have hwS : IntKind.i64.wrap ((S : Int) + (cnt 1 a : Int)) = (S : Int) + (cnt 1 a : Int) := wrap_i64 (by omega) (by omega)
        generalize hCN : cnt 1 a = C at *
        have hinn : ∀ {f' : Abs.Frame} {tf : Tg f'} {tI} {σ' : Store} (D' S' : Nat), ¬ c' = 125 → D' ≤ 1000001 → S' ≤ 65 → f' 0 = .str p → f' 1 = .int .i64 E → f' 7 = .int .i64 D' → f' 8 = .int .i64 n1 → f' 9 = .int .i64 S' → σ' = [] → Abs.nx x' (fun x f σ => ∃ (q D S : Nat), x = p.length - q ∧ k ≤ q ∧ q < p.length ∧ NoA (p.drop (q + 1)) ∧ D ≤ 1000001 ∧ S ≤ 65 ∧ f 0 = .str p ∧ f 1 = .int .i64 q ∧ f 7 = .int .i64 D ∧ f 8 = .int .i64 n1 ∧ f 9 = .int .i64 S ∧ σ = []) tI f' tf σ' := by
          intro f' tf tI σ' D' S' hc' hD' hS' q0 q1 q7 q8 q9 hs
          exact nx_intro (p.length - E) (by omega) ⟨E, D', S', rfl, by omega, by omega, by rw [hdE]; exact hna.more hc' hpa, hD', hS', q0, q1, q7, q8, q9, hs⟩
        have hout : ∀ {f' : Abs.Frame} {tf : Tg f'} {tI} {σ' : Store} (D' N' : Nat), c' = 125 → D' ≤ 1000001 → N' ≤ 65 → f' 0 = .str p → f' 1 = .int .i64 ((E : Int) + 1) → f' 7 = .int .i64 D' → f' 8 = .int .i64 N' → σ' = [] → Abs.nx x (fun x f σ => ∃ (k D N : Nat), x = p.length - k ∧ i ≤ k ∧ k ≤ p.length ∧ NoP (p.drop k) ∧ D ≤ 1000001 ∧ N ≤ 65 ∧ f 0 = .str p ∧ f 1 = .int .i64 k ∧ f 7 = .int .i64 D ∧ f 8 = .int .i64 N ∧ σ = []) tI f' tf σ' := by
          intro f' tf tI σ' D' N' hc' hD' hN' q0 q1 q7 q8 hs
          subst hc'
          exact nx_intro (p.length - (E + 1)) (by omega) ⟨E + 1, D', N', rfl, by omega, by omega, by rw [hdE]; exact hna.last hpa, hD', hN', q0, by simp [q1], q7, q8, hs⟩
        simp [w0, w1, w7, w8, w9, hwq]
        refine ac_same hih (by simp) ?_
        rintro v rfl
        obtain ⟨D', hD1, hD2, hD3⟩ : ∃ D' : Nat, D' ≤ 1000001 ∧ ((D' = da1 + 1 ∧ (D : Int) < (da1 : Int) + 1) ∨ (D' = D ∧ ¬ (D : Int) < (da1 : Int) + 1)) ∧ True := by
          by_cases hDi : (D : Int) < (da1 : Int) + 1
          · exact ⟨da1 + 1, by omega, .inl ⟨rfl, hDi⟩, trivial⟩
          · exact ⟨D, by omega, .inr ⟨rfl, hDi⟩, trivial⟩
        by_cases h125 : c' = 125
        · have h125i : (c'.toNat : Int) = 125 := by rw [h125]; rfl
          by_cases hSi : (S : Int) + (C : Int) < 65
          · have hSm : S + C < 65 := by omega
            have hMu : IntKind.i64.wrap ((n1 : Int) * ((S : Int) + (C : Int))) = (n1 : Int) * ((S : Int) + (C : Int)) := by
              have hb1 : n1 * (S + C) ≤ 65 * 65 := Nat.mul_le_mul hn1 (by omega)
              have hb2 : ((n1 * (S + C) : Nat) : Int) = (n1 : Int) * ((S : Int) + (C : Int)) := by push_cast; rfl
              rw [← hb2]; exact wrap_i64 (by omega) (by omega)
            by_cases hM : n1 * (S + C) < 65
            · have hMi : (n1 : Int) * ((S : Int) + (C : Int)) < 65 := by (have hb2 : ((n1 * (S + C) : Nat) : Int) = (n1 : Int) * ((S : Int) + (C : Int)) := by push_cast; rfl); omega
              rcases hD2 with ⟨rfl, hDi⟩ | ⟨rfl, hDi⟩
              · have hDm : D ≤ da1 := by omega
                simp [w0, w1, w7, w8, w9, hE0, hEl, hEl', hwd, hwS, hDm, hDi, hSm, hSi, hcE, hcE2, hE1, h125, hwE, hMu, hM, hMi]
                exact hout (da1 + 1) (n1 * (S + C)) h125 (by omega) (by omega) (by simp [w0]) (by simp) (by simp [w7]) (by simp [w8]) rfl
              · have hDm : ¬ D' ≤ da1 := by omega
                simp [w0, w1, w7, w8, w9, hE0, hEl, hEl', hwd, hwS, hDm, hDi, hSm, hSi, hcE, hcE2, hE1, h125, hwE, hMu, hM, hMi]
                exact hout D' (n1 * (S + C)) h125 (by omega) (by omega) (by simp [w0]) (by simp) (by simp [w7]) (by simp [w8]) rfl
            · have hMi : ¬ (n1 : Int) * ((S : Int) + (C : Int)) < 65 := by (have hb2 : ((n1 * (S + C) : Nat) : Int) = (n1 : Int) * ((S : Int) + (C : Int)) := by push_cast; rfl); omega
              rcases hD2 with ⟨rfl, hDi⟩ | ⟨rfl, hDi⟩
              · have hDm : D ≤ da1 := by omega
                simp [w0, w1, w7, w8, w9, hE0, hEl, hEl', hwd, hwS, hDm, hDi, hSm, hSi, hcE, hcE2, hE1, h125, hwE, hMu, hM, hMi]
                exact hout (da1 + 1) 65 h125 (by omega) (by omega) (by simp [w0]) (by simp) (by simp [w7]) (by simp [w8]) rfl
              · have hDm : ¬ D' ≤ da1 := by omega
                simp [w0, w1, w7, w8, w9, hE0, hEl, hEl', hwd, hwS, hDm, hDi, hSm, hSi, hcE, hcE2, hE1, h125, hwE, hMu, hM, hMi]
                exact hout D' 65 h125 (by omega) (by omega) (by simp [w0]) (by simp) (by simp [w7]) (by simp [w8]) rfl
          · have hSm : ¬ S + C < 65 := by omega
            have hMu : IntKind.i64.wrap ((n1 : Int) * 65) = (n1 : Int) * 65 := wrap_i64 (by omega) (by omega)
            by_cases hMi : (n1 : Int) * 65 < 65
            · have hM : n1 * 65 < 65 := by omega
              rcases hD2 with ⟨rfl, hDi⟩ | ⟨rfl, hDi⟩
              · have hDm : D ≤ da1 := by omega
                simp [w0, w1, w7, w8, w9, hE0, hEl, hEl', hwd, hwS, hDm, hDi, hSm, hSi, hcE, hcE2, hE1, h125, hwE, hMu, hM, hMi]
                exact hout (da1 + 1) (n1 * 65) h125 (by omega) (by omega) (by simp [w0]) (by simp) (by simp [w7]) (by simp [w8]) rfl
              · have hDm : ¬ D' ≤ da1 := by omega
                simp [w0, w1, w7, w8, w9, hE0, hEl, hEl', hwd, hwS, hDm, hDi, hSm, hSi, hcE, hcE2, hE1, h125, hwE, hMu, hM, hMi]
                exact hout D' (n1 * 65) h125 (by omega) (by omega) (by simp [w0]) (by simp) (by simp [w7]) (by simp [w8]) rfl
            · have hM : ¬ n1 * 65 < 65 := by omega
              rcases hD2 with ⟨rfl, hDi⟩ | ⟨rfl, hDi⟩
              · have hDm : D ≤ da1 := by omega
                simp [w0, w1, w7, w8, w9, hE0, hEl, hEl', hwd, hwS, hDm, hDi, hSm, hSi, hcE, hcE2, hE1, h125, hwE, hMu, hM, hMi]
                exact hout (da1 + 1) 65 h125 (by omega) (by omega) (by simp [w0]) (by simp) (by simp [w7]) (by simp [w8]) rfl
              · have hDm : ¬ D' ≤ da1 := by omega
                simp [w0, w1, w7, w8, w9, hE0, hEl, hEl', hwd, hwS, hDm, hDi, hSm, hSi, hcE, hcE2, hE1, h125, hwE, hMu, hM, hMi]
                exact hout D' 65 h125 (by omega) (by omega) (by simp [w0]) (by simp) (by simp [w7]) (by simp [w8]) rfl
        · have h125i : ¬ (c'.toNat : Int) = 125 := u8_ne (n := 125) rfl h125
          by_cases hSi : (S : Int) + (C : Int) < 65
          · have hSm : S + C < 65 := by omega
            rcases hD2 with ⟨rfl, hDi⟩ | ⟨rfl, hDi⟩
            · have hDm : D ≤ da1 := by omega
              simp [w0, w1, w7, w8, w9, hE0, hEl, hEl', hwd, hwS, hDm, hDi, hSm, hSi, hcE, hcE2, hE1, h125, h125i]
              exact hinn (da1 + 1) (S + C) h125 (by omega) (by omega) (by simp [w0]) (by simp) (by simp [w7]) (by simp [w8]) (by simp) rfl
            · have hDm : ¬ D' ≤ da1 := by omega
              simp [w0, w1, w7, w8, w9, hE0, hEl, hEl', hwd, hwS, hDm, hDi, hSm, hSi, hcE, hcE2, hE1, h125, h125i]
              exact hinn D' (S + C) h125 (by omega) (by omega) (by simp [w0]) (by simp) (by simp [w7]) (by simp [w8]) (by simp) rfl
          · have hSm : ¬ S + C < 65 := by omega
            rcases hD2 with ⟨rfl, hDi⟩ | ⟨rfl, hDi⟩
            · have hDm : D ≤ da1 := by omega
              simp [w0, w1, w7, w8, w9, hE0, hEl, hEl', hwd, hwS, hDm, hDi, hSm, hSi, hcE, hcE2, hE1, h125, h125i]
              exact hinn (da1 + 1) 65 h125 (by omega) (by omega) (by simp [w0]) (by simp) (by simp [w7]) (by simp [w8]) (by simp) rfl
            · have hDm : ¬ D' ≤ da1 := by omega
              simp [w0, w1, w7, w8, w9, hE0, hEl, hEl', hwd, hwS, hDm, hDi, hSm, hSi, hcE, hcE2, hE1, h125, h125i]
              exact hinn D' 65 h125 (by omega) (by omega) (by simp [w0]) (by simp) (by simp [w7]) (by simp [w8]) (by simp) rfl
    · have n123 : ¬ ((c.toNat : Int) = 123) := u8_ne (n := 123) rfl h123
      simp [h0, h1, h7, h8, hlt, hlt', hc, hc2, hnb, n63, n42, n91, n123]
theorem chk_long {p : List UInt8} (h : 128 < p.length) : chk p = 12 := by simp [chk, Glob.parse, h]
theorem chk_none {p : List UInt8} (h : ¬ 128 < p.length) (hp : pcs (2 * p.length + 2) p = none) : chk p = 10 := by simp [chk, Glob.parse, h, hp]
theorem chk_some {p : List UInt8} {l : List Pc} {r : List UInt8} {d : Nat} (h : ¬ 128 < p.length) (hp : pcs (2 * p.length + 2) p = some (l, r, d)) : chk p = if p = [] ∨ r ≠ [] then 10 else if 4 < d then 19 else if 64 < cnt 1 l then 11 else 0 := by
  simp only [chk, Glob.parse, if_neg h, hp]
  repeat' split
  all_goals first | rfl | simp_all
/-- The document's check says what the program's does. -/
theorem rcheck_any (p : List UInt8) (hp : p.length ≤ 1000000) : PCalls Tryz.prog n_isobarref15_Check [.str p] (fun v => v = .int .i64 (chk p)) := by
  refine pcalls_of_awp hmix c_isobarref15_Check rfl ?_
  by_cases hl : 128 < p.length
  · have g1 : (128 : Int) < (p.length : Int) := by omega
    simp [a_isobarref15_Check, g1, hl, chk_long hl]
  have g1 : ¬ (128 : Int) < (p.length : Int) := by omega
  cases hpc : pcs (2 * p.length + 2) p with
  | none =>
    rw [chk_none hl hpc]
    have hf := rform_err (G := G) p.length p 0 (by omega) (by omega) hp (by simpa using noP_of hpc (by omega))
    simp at hf
    have hm1 : ¬ (-1 : Int) = (p.length : Int) := by omega
    simp [a_isobarref15_Check, g1, hl]
    refine ac_same hf (by simp) ?_
    rintro v rfl
    by_cases h2 : p = []
    · simp [h2]
    · simp [h2, hm1]
  | some x =>
    obtain ⟨l, r, d⟩ := x
    rw [chk_some hl hpc]
    have hdep := (pcs_depth _).1 _ _ _ _ hpc
    have hf := rform_ok (G := G) p.length p 0 (2 * p.length + 2) l r d (by omega) (by omega) hp (by omega) (by simpa using hpc)
    simp at hf
    simp [a_isobarref15_Check, g1, hl]
    refine ac_same hf (by simp) ?_
    rintro v rfl
    by_cases h2 : p = []
    · simp [h2]
    by_cases h3 : r = []
    · subst h3
      by_cases g2 : 4 < d
      · have g2' : (4 : Int) < (d : Int) := by omega
        simp [h2, g2, g2']
      · have g2' : ¬ (4 : Int) < (d : Int) := by omega
        by_cases g3 : 64 < cnt 1 l
        · have g3' : (64 : Int) < (cnt 1 l : Int) := by omega
          simp [h2, g2, g2', g3, g3']
        · have g3' : ¬ (64 : Int) < (cnt 1 l : Int) := by omega
          simp [h2, g2, g2', g3, g3']
    · have hrl : 0 < r.length := List.length_pos_iff.2 h3
      have h4 : ¬ ((p.length - r.length : Nat) : Int) = (p.length : Int) := by
        have : p.length ≠ 0 := by intro h; exact h2 (List.length_eq_zero_iff.1 h)
        omega
      have h4' : ¬ (p.length - r.length = p.length) := by
        have : p.length ≠ 0 := by intro h; exact h2 (List.length_eq_zero_iff.1 h)
        omega
      simp [h2, h3, h4, h4']
end Go.Proofs.YtjpjmdjjgfllhaaGreatDoor
end
section
set_option maxHeartbeats 4000000
namespace Go.Proofs.YtjpjmdjjgfllhaaGreatDoor
open Go.Abs Go.Glob Go.Trail
variable {G : Globs}
def AccW (e size : Nat) (σ : Store) (v : AV) (l : List (List AV)) : Prop := (l = [] ∧ v = .nils) ∨ (l ≠ [] ∧ ∃ rid, v = .row rid l.length ∧ σ[rid]? = some (.row e size l true))
theorem ap_accW {K : AV → Store → Prop} {t : Tg K} {e size bytes : Nat} {σ : Store} {v : AV} {l : List (List AV)} (h : AccW e size σ v l) (x : List AV) (hs : 0 < size) (hx : x.length = size) (hb : (l.length + 1) * bytes ≤ 140737488355328) (h63 : l.length + 1 ≤ 9223372036854775807)
    (hK : ∀ v' σ', AccW e size σ' v' (l ++ [x]) → K v' σ') : ap K t σ e size bytes v (.lst [x]) := by
  rcases h with ⟨rfl, rfl⟩ | ⟨h1, rid, rfl, h4⟩
  · refine ap_new true [x] rfl hs (by simp [hx]) (fun _ => .inl rfl) (by simpa using hb) (by simp) ?_
    exact hK (.row σ.length 1) (σ ++ [.row e size [x] true]) (.inr ⟨by simp, σ.length, by simp, by simp⟩)
  · have hlt := (List.getElem?_eq_some_iff.1 h4).1
    refine ap_row l [x] true h4 rfl hs (by simp [hx]) (fun _ => .inl rfl) rfl (by simpa using hb) (by simpa using h63) ?_
    exact hK (.row rid (l.length + 1)) (σ.set rid (.row e size (l ++ [x]) true)) (.inr ⟨by simp, rid, by simp, by rw [List.getElem?_set_self hlt]⟩)
theorem take_snoc {s : List UInt8} {i a : Nat} {c : UInt8} (hc : s[i]? = some c) (ha : a ≤ i) : (s.take (i + 1)).drop a = (s.take i).drop a ++ [c] := by
  have hl := (List.getElem?_eq_some_iff.1 hc).1
  rw [List.take_add_one, hc, List.drop_append_of_le_length (by rw [List.length_take]; omega)]
  rfl
theorem no_point {s : List UInt8} {i a : Nat} {c : UInt8} (hc : s[i]? = some c) (ha : a ≤ i) (h : ∀ d ∈ (s.take i).drop a, d ≠ 46) (hn : c ≠ 46) : ∀ d ∈ (s.take (i + 1)).drop a, d ≠ 46 := by
  rw [take_snoc hc ha]
  intro d hd
  rcases List.mem_append.1 hd with hd | hd
  · exact h d hd
  · simp only [List.mem_singleton] at hd; subst hd; exact hn
theorem r16cut_ok (s : List UInt8) (hs : s.length ≤ 9000000000000000000) : PCalls Tryz.prog n_isobarref16_cut [.str s] (fun r => r = .lst (strEls ((sp s).take 10))) := by
  refine pcalls_of_awp hmix c_isobarref16_cut rfl ?_
  simp [a_isobarref16_cut]
  refine lp_startx (fun x f σ => ∃ (i fr : Nat) (out : List (List UInt8)), x = s.length + 1 - i ∧ i ≤ s.length + 1 ∧ out.length ≤ 10 ∧ ((i = s.length + 1 ∧ sp s = out) ∨ (i ≤ s.length ∧ fr ≤ i ∧ sp s = out ++ sp (s.drop fr) ∧ ∀ d ∈ (s.take i).drop fr, d ≠ 46)) ∧ f 0 = .str s ∧ AccW 9 1 σ (f 3) (strEls out) ∧ f 4 = .int .i64 fr ∧ f 5 = .int .i64 i) (s.length + 1) ?_ ?_
  · exact ⟨0, 0, [], by simp, by simp, by simp, .inr ⟨by simp, by simp, by simp, by simp⟩, by simp, .inl ⟨rfl, by simp⟩, by simp, by simp⟩
  rintro x f σ ⟨i, fr, out, hx, hi, ho, hinv, h0, h3, h4, h5⟩
  have htl : (strEls out).length = out.length := by simp [strEls]
  have hend : ∀ (_ : sp s = out ∨ (out.length = 10 ∧ ∃ r, sp s = out ++ r)), (sp s).take 10 = out := by
    rintro (h | ⟨h1, r, h2⟩)
    · rw [h]; exact List.take_of_length_le ho
    · rw [h2, List.take_append_of_le_length (by omega)]; exact List.take_of_length_le ho
  by_cases hil : i ≤ s.length
  · obtain ⟨_, hfr, hsp, hno⟩ := hinv.resolve_left (fun h => by omega)
    have hil' : (i : Int) ≤ (s.length : Int) := by omega
    have hwi : IntKind.i64.wrap ((i : Int) + 1) = (i : Int) + 1 := wrap_i64 (by omega) (by omega)
    have hfi : (fr : Int) ≤ (i : Int) := by omega
    by_cases h10 : out.length < 10
    · have h10' : (out.length : Int) < 10 := by omega
      have hview : view σ (f 3) = some (strEls out) := by
        rcases h3 with ⟨h1, h2⟩ | ⟨h1, rid, h2, he⟩
        · rw [h2, h1]; rfl
        · rw [h2]; simp [view, he]
      by_cases hie : i = s.length
      · subst hie
        have hpl : sp (s.drop fr) = [s.drop fr] := sp_plain _ (by rw [List.take_of_length_le (Nat.le_refl _)] at hno; exact hno)
        simp [h0, h3, h4, h5, hil, hil', hview, htl, h10, h10', hfi, hfr]
        refine ap_accW h3 _ (by omega) rfl (by rw [htl]; omega) (by rw [htl]; omega) ?_
        intro v' σ' hacc
        simp [h4, h5, hwi]
        refine nx_intro 0 (by omega) ⟨s.length + 1, s.length + 1, out ++ [s.drop fr], by omega, by omega, by simp; omega, .inl ⟨rfl, by rw [hsp, hpl]⟩, by simp [h0], by simpa [strEls] using hacc, by simp, by simp⟩
      · have hlt : i < s.length := by omega
        obtain ⟨c, hc⟩ : ∃ c, s[i]? = some c := ⟨_, List.getElem?_eq_getElem hlt⟩
        obtain ⟨_, hc2⟩ := List.getElem?_eq_some_iff.1 hc
        have hd := drop_cons hc
        have hne : ¬ (i : Int) = (s.length : Int) := by omega
        by_cases h46 : c = 46
        · subst h46
          have hdd : s.drop fr = (s.take i).drop fr ++ 46 :: s.drop (i + 1) := by
            rw [← hd]
            conv => lhs; rw [← List.take_append_drop i s]
            rw [List.drop_append_of_le_length (by rw [List.length_take]; omega)]
          have hspn : sp (s.drop fr) = (s.take i).drop fr :: sp (s.drop (i + 1)) := by rw [hdd, sp_app _ _ hno]
          simp [h0, h3, h4, h5, hil, hil', hview, htl, h10, h10', hne, hie, hc, hc2, hfi, hfr]
          refine ap_accW h3 _ (by omega) rfl (by rw [htl]; omega) (by rw [htl]; omega) ?_
          intro v' σ' hacc
          simp [h4, h5, hwi]
          refine nx_intro (s.length + 1 - (i + 1)) (by omega) ⟨i + 1, i + 1, out ++ [(s.take i).drop fr], by omega, by omega, by simp; omega, .inr ⟨by omega, Nat.le_refl _, by rw [hsp, hspn]; simp, by simp⟩, by simp [h0], by simpa [strEls] using hacc, by simp, by simp⟩
        · have h46' : ¬ ((c.toNat : Int) = 46) := fun e => h46 (UInt8.toNat_inj.1 (show c.toNat = 46 by omega))
          simp [h0, h3, h4, h5, hil, hil', hview, htl, h10, h10', hne, hie, hc, hc2, h46', hwi]
          refine nx_intro (s.length + 1 - (i + 1)) (by omega) ⟨i + 1, fr, out, by omega, by omega, ho, .inr ⟨by omega, by omega, hsp, no_point hc hfr hno h46⟩, by simp [h0], by simpa using h3, by simp [h4], by simp⟩
    · have h10' : ¬ (out.length : Int) < 10 := by omega
      have he := hend (.inr ⟨by omega, _, hsp⟩)
      rw [he]
      rcases h3 with ⟨h1, h2⟩ | ⟨h1, rid, h2, hr⟩
      · rw [h1] at htl; simp at htl; omega
      · simp [h0, h2, h5, hil, hil', view, hr, htl, h10, h10']
  · obtain ⟨hie, hsp⟩ := hinv.resolve_right (fun h => by omega)
    have hil' : ¬ (i : Int) ≤ (s.length : Int) := by omega
    have he := hend (.inl hsp)
    rw [he]
    rcases h3 with ⟨h1, h2⟩ | ⟨h1, rid, h2, hr⟩
    · rw [h1]
      simp [h0, h2, h5, hil, hil']
    · simp [h0, h2, h5, hil, hil', view, hr, htl]
/-- The document's Nodes answers what the program's does. -/
theorem r16nodes_ok (s : List UInt8) (hs : s.length ≤ 1000000) : PCalls Tryz.prog n_isobarref16_Nodes [.str s] (fun r => r = nodesAV (nodes s)) := by
  refine pcalls_of_awp hmix c_isobarref16_Nodes rfl ?_
  simp [a_isobarref16_Nodes]
  refine ac_same (r16cut_ok s (by omega)) (by simp) ?_
  rintro r rfl
  by_cases h8 : (sp s).length ≤ 8
  · have ec : (sp s).take 10 = sp s := List.take_of_length_le (by omega)
    rw [ec]
    have e : (strEls (sp s)).length = (sp s).length := by simp [strEls]
    have h8' : ¬ (8 : Int) < ((sp s).length : Int) := by omega
    have h8'' : ¬ 8 < (sp s).length := by omega
    simp [h8, h8', h8'', e]
    have hml := sp_mem_len s
    have hp : nodes s = match (sp s).find? (fun p => chk p != 0) with | some p => .error (chk p) | none => .ok (sp s) := by unfold nodes; rw [if_pos h8] <;> rfl
    generalize hL : sp s = L at *
    refine lp_startx (fun x f σ => ∃ i : Nat, x = L.length - i ∧ i ≤ L.length ∧ f 4 = .lst (strEls L) ∧ f 5 = .int .i64 i ∧ (∀ q ∈ L.take i, chk q = 0) ∧ σ = []) L.length ⟨0, by simp, by simp, by simp, by simp, by simp, rfl⟩ ?_
    rintro x f σ ⟨i, hx, hi, h4, h5, hall, rfl⟩
    by_cases hlt' : i < L.length
    · obtain ⟨p, hpp⟩ : ∃ p, L[i]? = some p := ⟨_, List.getElem?_eq_getElem hlt'⟩
      have hm : p ∈ L := List.mem_of_getElem? hpp
      have hse : (strEls L)[i]? = some [.str p] := by simp [strEls, hpp]
      obtain ⟨hx1, hx2⟩ := List.getElem?_eq_some_iff.1 hse
      have hwi : IntKind.i64.wrap ((i : Int) + 1) = (i : Int) + 1 := wrap_i64 (by omega) (by omega)
      simp [h4, h5, hse, hx2, e, hlt']
      refine ac_same (rcheck_any p (by have := hml p hm; omega)) (by simp) ?_
      rintro r rfl
      by_cases hz : chk p = 0
      · simp [hz, h4, h5, hwi]
        refine nx_intro (L.length - (i + 1)) (by omega) ⟨i + 1, rfl, by omega, by simp [h4], by simp, ?_, rfl⟩
        intro x hx
        rw [List.take_add_one, hpp] at hx
        simp only [Option.toList_some, List.mem_append, List.mem_singleton] at hx
        rcases hx with hx | rfl
        · exact hall x hx
        · exact hz
      · have hfind : L.find? (fun p => chk p != 0) = some p := by
          rw [List.find?_eq_some_iff_getElem]
          obtain ⟨g1, g2⟩ := List.getElem?_eq_some_iff.1 hpp
          refine ⟨by simpa using hz, i, g1, g2, fun j hj => ?_⟩
          have := hall L[j] (List.mem_take_iff_getElem.2 ⟨j, by omega, rfl⟩)
          simp [this]
        rw [hfind] at hp
        have hzi : ¬ (chk p : Int) = 0 := by omega
        rw [hp]
        simp [hz, hzi, nodesAV]
    · have e' : L.take i = L := List.take_of_length_le (by omega)
      rw [e'] at hall
      have hfind : L.find? (fun p => chk p != 0) = none := by
        rw [List.find?_eq_none]; intro x hx; simp [hall x hx]
      rw [hfind] at hp
      rw [hp]
      simp [h4, h5, nodesAV, e, hlt']
  · have h8' : 8 < ((sp s).take 10).length := by rw [List.length_take]; omega
    have h8i : (8 : Int) < ((((sp s).take 10).length : Nat) : Int) := by omega
    have hp : nodes s = .error 11 := by unfold nodes; simp [h8]
    have e : (strEls ((sp s).take 10)).length = ((sp s).take 10).length := by simp [strEls]
    generalize (sp s).take 10 = L at *
    simp [h8', h8i, hp, nodesAV, e]
end Go.Proofs.YtjpjmdjjgfllhaaGreatDoor
end
section
namespace Go.Proofs.YtjpjmdjjgfllhaaGreatDoor
open Go.Abs
def loudX : List Nat := [8, 9, 10, 13, 15, 16, 17, 19, 21, 22, 29, 34, 35, 37, 38, 40, 41, 53, 54, 58, 59, 71, 111, 114, 125, 126, 127, 136, 1000067, 1000088, 2000101]
/-- isobar/isobarref15.expand -/
abbrev n_isobarref15_expandX : Nat := 67
def a_isobarref15_expandX : AFunc := ⟨109, [(4, none), (5, none)], (.seq (.ops [⟨none, (some 4), (.mv (.c .nils))⟩, ⟨none, (some 5), (.mv (.c (.int .i64 0)))⟩]) (.seq (.ops [⟨none, (some 15), (.mkrow 9 1 [(.str [])] 1 [(0, (.c (.str [])))])⟩, ⟨none, (some 6), (.mv (.s 15))⟩]) (.seq (.block 0 (.loop (.seq (.seq (.ops [⟨none, (some 16), (.mv (.s 1))⟩, ⟨none, (some 17), (.mv (.s 0))⟩, ⟨none, (some 18), (.slen (.s 17))⟩, ⟨none, (some 19), (.bin .lss (.s 16) (.s 18))⟩, ⟨none, (some 20), (.mv (.s 19))⟩, ⟨(some (20, true)), (some 21), (.mv (.s 0))⟩, ⟨(some (20, true)), (some 22), (.mv (.s 1))⟩, ⟨(some (20, true)), (some 23), (.sidx (.s 21) (.s 22))⟩, ⟨(some (20, true)), (some 24), (.bin .neq (.s 23) (.c (.int .u8 44)))⟩, ⟨none, (some 25), (.pick (.s 20) (.s 24) (.c (.bool false)))⟩, ⟨none, (some 26), (.mv (.s 25))⟩, ⟨(some (26, true)), (some 27), (.mv (.s 0))⟩, ⟨(some (26, true)), (some 28), (.mv (.s 1))⟩, ⟨(some (26, true)), (some 29), (.sidx (.s 27) (.s 28))⟩, ⟨(some (26, true)), (some 30), (.bin .neq (.s 29) (.c (.int .u8 125)))⟩, ⟨none, (some 31), (.pick (.s 26) (.s 30) (.c (.bool false)))⟩]) (.cond (.s 31) .skip (.exit 0))) (.block 1 (.seq (.seq (.ops [⟨none, (some 32), (.mv (.s 0))⟩, ⟨none, (some 33), (.mv (.s 1))⟩, ⟨none, (some 34), (.sidx (.s 32) (.s 33))⟩, ⟨none, (some 35), (.bin .neq (.s 34) (.c (.int .u8 123)))⟩]) (.cond (.s 35) (.seq (.ops [⟨none, (some 36), (.mv (.s 1))⟩, ⟨none, (some 37), (.bin .add (.s 36) (.c (.int .i64 1)))⟩, ⟨none, (some 7), (.mv (.s 37))⟩]) (.seq (.seq (.ops [⟨none, (some 38), (.mv (.s 0))⟩, ⟨none, (some 39), (.mv (.s 1))⟩, ⟨none, (some 40), (.sidx (.s 38) (.s 39))⟩, ⟨none, (some 41), (.bin .eql (.s 40) (.c (.int .u8 91)))⟩]) (.cond (.s 41) (.ops [⟨none, (some 42), (.mv (.s 0))⟩, ⟨none, (some 43), (.mv (.s 1))⟩, ⟨none, (some 44), (.bin .add (.s 43) (.c (.int .i64 1)))⟩, ⟨none, (some 45), (.call 69 [(.s 42), (.s 44)])⟩, ⟨none, (some 7), (.mv (.s 45))⟩]) .skip)) (.seq (.seq (.ops [⟨none, (some 8), (.mv (.c (.int .i64 0)))⟩]) (.block 2 (.loop (.seq (.seq (.ops [⟨none, (some 46), (.mv (.s 8))⟩, ⟨none, (some 47), (.mv (.s 6))⟩, ⟨none, (some 48), (.len (.s 47))⟩, ⟨none, (some 49), (.bin .lss (.s 46) (.s 48))⟩]) (.cond (.s 49) .skip (.exit 2))) (.seq (.block 3 (.ops [⟨none, (some 52), (.mv (.s 6))⟩, ⟨none, (some 53), (.mv (.s 8))⟩, ⟨none, (some 54), (.mv (.s 6))⟩, ⟨none, (some 55), (.mv (.s 8))⟩, ⟨none, (some 56), (.iaddr 1 (.s 54) (.s 55))⟩, ⟨none, (some 57), (.load false 1 (.s 56))⟩, ⟨none, (some 58), (.mv (.s 0))⟩, ⟨none, (some 59), (.mv (.s 1))⟩, ⟨none, (some 60), (.mv (.s 7))⟩, ⟨none, (some 61), (.sslc (.s 58) (some (.s 59)) (some (.s 60)))⟩, ⟨none, (some 62), (.bin .add (.s 57) (.s 61))⟩, ⟨none, (some 63), (.iaddr 1 (.s 52) (.s 53))⟩, ⟨none, none, (.store 1 (.s 63) (.s 62))⟩])) (.ops [⟨none, (some 50), (.mv (.s 8))⟩, ⟨none, (some 51), (.bin .add (.s 50) (.c (.int .i64 1)))⟩, ⟨none, (some 8), (.mv (.s 51))⟩])))))) (.seq (.ops [⟨none, (some 64), (.mv (.s 7))⟩, ⟨none, (some 1), (.mv (.s 64))⟩]) (.exit 1))))) .skip)) (.seq (.ops [⟨none, (some 9), (.mv (.c .nils))⟩]) (.seq (.block 4 (.loop (.block 5 (.seq (.ops [⟨none, (some 66), (.mv (.s 0))⟩, ⟨none, (some 67), (.mv (.s 1))⟩, ⟨none, (some 68), (.bin .add (.s 67) (.c (.int .i64 1)))⟩, ⟨none, (some 69), (.call 67 [(.s 66), (.s 68)])⟩, ⟨none, (some 65), (.mv (.s 69))⟩, ⟨none, (some 70), (.ext (.s 65) 0)⟩, ⟨none, (some 71), (.ext (.s 65) 1)⟩, ⟨none, (some 10), (.mv (.s 70))⟩, ⟨none, (some 11), (.mv (.s 71))⟩]) (.seq (.ops [⟨none, (some 72), (.mv (.s 9))⟩, ⟨none, (some 73), (.mv (.s 10))⟩, ⟨none, (some 74), (.app 9 1 16 (.s 72) (.s 73))⟩, ⟨none, (some 9), (.mv (.s 74))⟩]) (.seq (.ops [⟨none, (some 75), (.mv (.s 11))⟩, ⟨none, (some 1), (.mv (.s 75))⟩]) (.seq (.ops [⟨none, (some 76), (.mv (.s 0))⟩, ⟨none, (some 77), (.mv (.s 1))⟩, ⟨none, (some 78), (.sidx (.s 76) (.s 77))⟩, ⟨none, (some 79), (.bin .eql (.s 78) (.c (.int .u8 125)))⟩]) (.cond (.s 79) (.exit 4) .skip)))))))) (.seq (.ops [⟨none, (some 80), (.mv (.s 1))⟩, ⟨none, (some 81), (.bin .add (.s 80) (.c (.int .i64 1)))⟩, ⟨none, (some 1), (.mv (.s 81))⟩]) (.seq (.ops [⟨none, (some 12), (.mv (.c .nils))⟩]) (.seq (.seq (.ops [⟨none, (some 13), (.mv (.c (.int .i64 0)))⟩]) (.block 6 (.loop (.seq (.seq (.ops [⟨none, (some 82), (.mv (.s 13))⟩, ⟨none, (some 83), (.mv (.s 6))⟩, ⟨none, (some 84), (.len (.s 83))⟩, ⟨none, (some 85), (.bin .lss (.s 82) (.s 84))⟩]) (.cond (.s 85) .skip (.exit 6))) (.seq (.block 7 (.seq (.ops [⟨none, (some 14), (.mv (.c (.int .i64 0)))⟩]) (.block 8 (.loop (.seq (.seq (.ops [⟨none, (some 88), (.mv (.s 14))⟩, ⟨none, (some 89), (.mv (.s 9))⟩, ⟨none, (some 90), (.len (.s 89))⟩, ⟨none, (some 91), (.bin .lss (.s 88) (.s 90))⟩]) (.cond (.s 91) .skip (.exit 8))) (.seq (.block 9 (.ops [⟨none, (some 94), (.mv (.s 12))⟩, ⟨none, (some 95), (.mv (.s 6))⟩, ⟨none, (some 96), (.mv (.s 13))⟩, ⟨none, (some 97), (.iaddr 1 (.s 95) (.s 96))⟩, ⟨none, (some 98), (.load false 1 (.s 97))⟩, ⟨none, (some 99), (.mv (.s 9))⟩, ⟨none, (some 100), (.mv (.s 14))⟩, ⟨none, (some 101), (.iaddr 1 (.s 99) (.s 100))⟩, ⟨none, (some 102), (.load false 1 (.s 101))⟩, ⟨none, (some 103), (.bin .add (.s 98) (.s 102))⟩, ⟨none, (some 104), (.mkrow 9 1 [(.str [])] 1 [(0, (.s 103))])⟩, ⟨none, (some 105), (.app 9 1 16 (.s 94) (.s 104))⟩, ⟨none, (some 12), (.mv (.s 105))⟩])) (.ops [⟨none, (some 92), (.mv (.s 14))⟩, ⟨none, (some 93), (.bin .add (.s 92) (.c (.int .i64 1)))⟩, ⟨none, (some 14), (.mv (.s 93))⟩]))))))) (.ops [⟨none, (some 86), (.mv (.s 13))⟩, ⟨none, (some 87), (.bin .add (.s 86) (.c (.int .i64 1)))⟩, ⟨none, (some 13), (.mv (.s 87))⟩])))))) (.ops [⟨none, (some 106), (.mv (.s 12))⟩, ⟨none, (some 6), (.mv (.s 106))⟩]))))))))))) (.seq (.ops [⟨none, (some 107), (.mv (.s 6))⟩, ⟨none, (some 108), (.mv (.s 1))⟩, ⟨none, (some 4), (.mv (.s 107))⟩, ⟨none, (some 5), (.mv (.s 108))⟩]) .ret))))⟩
theorem c_isobarref15_expandX : compFn Tryz.prog loudX 67 = some a_isobarref15_expandX := by kernel_rfl
end Go.Proofs.YtjpjmdjjgfllhaaGreatDoor
end
section
set_option maxHeartbeats 8000000
namespace Go.Proofs.YtjpjmdjjgfllhaaGreatDoor
open Go.Abs Go.Glob
variable {G : Globs}
def tx (O : List (List Pc)) : List (List AV) := strEls (O.map texts)
theorem tx_len (O : List (List Pc)) : (tx O).length = O.length := by simp [tx, strEls]
theorem tx_app (A B : List (List Pc)) : tx (A ++ B) = tx A ++ tx B := by simp [tx, strEls]
theorem tx_get {O : List (List Pc)} {j : Nat} {o : List Pc} (h : O[j]? = some o) : (tx O)[j]? = some [.str (texts o)] := by simp [tx, strEls, h]
theorem tx_one {O : List (List Pc)} : ∀ c ∈ tx O, c.length = 1 := by
  intro c hc
  simp only [tx, strEls, List.mem_map] at hc
  obtain ⟨x, _, rfl⟩ := hc; rfl
theorem fz_strs (σ : Store) (m k : Nat) (l : List (List UInt8)) : ((strEls l).mapM fun (c : List AV) => c.mapM (fz σ m k)) = some (strEls l) := by
  have h1 : ∀ s : List UInt8, fz σ m k (.str s) = some (.str s) := fun s => by cases k <;> simp [fz, AV.pure]
  induction l with
  | nil => rfl
  | cons a l ih =>
    simp only [strEls, List.map_cons] at ih ⊢
    rw [List.mapM_cons, ih]
    simp [h1]
theorem fz_tx (σ : Store) (m k : Nat) (O : List (List Pc)) : ((tx O).mapM fun (c : List AV) => c.mapM (fz σ m k)) = some (tx O) := fz_strs σ m k _
theorem out64 {l : List Pc} {n : Nat} (h : neL l) (h1 : 1 ≤ n) (hc : cnt n l ≤ 64) : n ≤ 64 := by
  by_cases h65 : n ≤ 65
  · have := cnt_ge l n h h1 h65; omega
  · exfalso
    have : ∀ (l : List Pc) (n : Nat), neL l → 65 ≤ n → 65 ≤ cnt n l := by
      intro l
      induction l with
      | nil => intro n _ h; simpa [cnt] using h
      | cons p l ihl =>
        intro n hn h
        by_cases hk : p.kind = 4
        · rw [kind4 hk] at hn ⊢
          simp only [neL] at hn
          simp only [cnt]
          have hx := cntA_ge p.alts 0 hn.2.1 (by omega)
          have hp : 1 ≤ cntA 0 p.alts := by have := List.length_pos_iff.2 hn.1; omega
          have := Nat.mul_le_mul_left n hp
          exact ihl _ hn.2.2 (by omega)
        · rw [cnt_other hk]
          exact ihl n (by simpa using neL_drop 1 hn) h
    have := this l n h (by omega)
    omega
/-- The first j lists have one piece more. -/
def mixP (pc : Pc) (O : List (List Pc)) (j : Nat) : List (List Pc) := (O.take j).map (· ++ [pc]) ++ O.drop j
theorem mixP_len (pc : Pc) (O : List (List Pc)) (j : Nat) (hj : j ≤ O.length) : (mixP pc O j).length = O.length := by simp [mixP]; omega
theorem mixP_zero (pc : Pc) (O : List (List Pc)) : mixP pc O 0 = O := by simp [mixP]
theorem mixP_all (pc : Pc) (O : List (List Pc)) : mixP pc O O.length = O.map (· ++ [pc]) := by simp [mixP]
theorem mixP_get (pc : Pc) {O : List (List Pc)} {j : Nat} {o : List Pc} (h : O[j]? = some o) : (tx (mixP pc O j))[j]? = some [.str (texts o)] := by
  have hl := (List.getElem?_eq_some_iff.1 h).1
  refine tx_get ?_
  unfold mixP
  rw [List.getElem?_append_right (by simp; omega)]
  simp [Nat.min_eq_left (Nat.le_of_lt hl), h]
theorem mixP_set (pc : Pc) {O : List (List Pc)} {j : Nat} {o : List Pc} (h : O[j]? = some o) : (tx (mixP pc O j)).set j [.str (texts o ++ pc.text)] = tx (mixP pc O (j + 1)) := by
  have hl := (List.getElem?_eq_some_iff.1 h).1
  have hd : O.drop j = o :: O.drop (j + 1) := drop_cons h
  have ht : O.take (j + 1) = O.take j ++ [o] := by rw [List.take_add_one, h]; rfl
  have hlen : (tx ((O.take j).map (· ++ [pc]))).length = j := by rw [tx_len]; simp; omega
  unfold mixP
  rw [tx_app, List.set_append_right _ _ (by omega), hlen, Nat.sub_self, hd, ht, tx_app]
  simp [tx, strEls, texts]
/-- A slice of texts that grows, apart from some entries. -/
def AccF (Pr : List Nat) (e size : Nat) (σ : Store) (v : AV) (l : List (List AV)) : Prop := (l = [] ∧ v = .nils) ∨ (l ≠ [] ∧ ∃ rid, ¬ rid ∈ Pr ∧ v = .row rid l.length ∧ σ[rid]? = some (.row e size l false))
theorem AccF.more {Pr : List Nat} {e size : Nat} {σ : Store} {v : AV} {l : List (List AV)} (h : AccF Pr e size σ v l) (x : Store) : AccF Pr e size (σ ++ x) v l := by
  rcases h with h | ⟨h1, rid, h2, h3, h4⟩
  · exact .inl h
  · refine .inr ⟨h1, rid, h2, h3, ?_⟩
    rw [List.getElem?_append_left (List.getElem?_eq_some_iff.1 h4).1]; exact h4
theorem AccF.view {Pr : List Nat} {e size : Nat} {σ : Store} {v : AV} {l : List (List AV)} (h : AccF Pr e size σ v l) : view σ v = some l := by
  rcases h with ⟨h1, h2⟩ | ⟨h1, rid, _, h2, he⟩
  · rw [h2, h1]; rfl
  · rw [h2]; simp [Abs.view, he]
theorem apF {K : AV → Store → Prop} {t : Tg K} (Pr : List Nat) {e size bytes : Nat} {σ : Store} {v y : AV} {l m : List (List AV)} (h : AccF Pr e size σ v l) (hv : Abs.view σ y = some m) (hm : m ≠ []) (hs : 0 < size) (hx : ∀ c ∈ m, c.length = size)
    (hb : (l.length + m.length) * bytes ≤ 140737488355328) (h63 : l.length + m.length ≤ 9223372036854775807) (hp : ∀ q ∈ Pr, q < σ.length)
    (hK : ∀ v' σ', AccF Pr e size σ' v' (l ++ m) → (∀ q ∈ Pr, σ'[q]? = σ[q]?) → σ.length ≤ σ'.length → K v' σ') : ap K t σ e size bytes v y := by
  rcases h with ⟨rfl, rfl⟩ | ⟨h1, rid, h2, rfl, h4⟩
  · refine ap_new false m hv hs hx (fun h => by cases h) (by simpa using hb) (by simpa using h63) ?_
    refine hK (.row σ.length m.length) (σ ++ [.row e size m false]) (.inr ⟨by simpa using hm, σ.length, fun hq => Nat.lt_irrefl _ (hp _ hq), by simp, by simp⟩) (fun q hq => List.getElem?_append_left (hp q hq)) (by simp)
  · have hlt := (List.getElem?_eq_some_iff.1 h4).1
    refine ap_row l m false h4 hv hs hx (fun h => by cases h) rfl hb h63 ?_
    exact hK (.row rid (l.length + m.length)) (σ.set rid (.row e size (l ++ m) false)) (.inr ⟨by simp [h1], rid, h2, by simp, by rw [List.getElem?_set_self hlt]⟩) (fun q hq => List.getElem?_set_ne (fun e => h2 (by rw [e]; exact hq))) (by simp)
def prod (O A : List (List Pc)) : List (List Pc) := O.flatMap fun h => A.map (h ++ ·)
theorem prod_len (O A : List (List Pc)) : (prod O A).length = O.length * A.length := by
  induction O with
  | nil => simp [prod]
  | cons h O ih =>
    have e : prod (h :: O) A = A.map (h ++ ·) ++ prod O A := by simp [prod]
    rw [e, List.length_append, ih, List.length_map, List.length_cons, Nat.succ_mul]; omega
theorem prod_succ {O A : List (List Pc)} {j : Nat} {h : List Pc} (hh : O[j]? = some h) : prod (O.take (j + 1)) A = prod (O.take j) A ++ A.map (h ++ ·) := by
  unfold prod
  rw [List.take_add_one, hh]; simp
theorem prod_all (O A : List (List Pc)) : prod (O.take O.length) A = prod O A := by rw [List.take_of_length_le (Nat.le_refl _)]
/-- Behind the first j lists, the first t of the next one's. -/
def moreP (O A : List (List Pc)) (j : Nat) (h : List Pc) (t : Nat) : List (List Pc) := prod (O.take j) A ++ (A.take t).map (h ++ ·)
theorem moreP_zero (O A : List (List Pc)) (j : Nat) (h : List Pc) : moreP O A j h 0 = prod (O.take j) A := by simp [moreP]
theorem moreP_all {O A : List (List Pc)} {j : Nat} {h : List Pc} (hh : O[j]? = some h) : moreP O A j h A.length = prod (O.take (j + 1)) A := by rw [prod_succ hh, moreP, List.take_of_length_le (Nat.le_refl _)]
theorem moreP_succ {O A : List (List Pc)} {j t : Nat} {h o : List Pc} (ho : A[t]? = some o) : tx (moreP O A j h (t + 1)) = tx (moreP O A j h t) ++ [[.str (texts h ++ texts o)]] := by
  unfold moreP
  rw [List.take_add_one, ho]
  simp [tx, strEls, texts_append]
theorem moreP_len (O A : List (List Pc)) (j : Nat) (h : List Pc) (t : Nat) : (moreP O A j h t).length ≤ O.length * A.length + A.length := by
  unfold moreP
  rw [List.length_append, prod_len, List.length_map, List.length_take, List.length_take]
  have := Nat.mul_le_mul_right A.length (Nat.min_le_right j O.length)
  omega
def ExpAt [Globs] (L : Nat) : Prop := ∀ (p : List UInt8) (i m : Nat) (l : List Pc) (r : List UInt8) (d : Nat), p.length - i ≤ L → i ≤ p.length → p.length ≤ 1000 → cnt 1 l ≤ 64 → pcs m (p.drop i) = some (l, r, d) →
    PCalls Tryz.prog n_isobarref15_expandX [.str p, .int .i64 i] (fun v => v = .tup [.lst (tx (expd [[]] l)), .int .i64 (p.length - r.length : Nat)])
def EInv (p : List UInt8) (i : Nat) (l : List Pc) (r : List UInt8) (x : Nat) (f : Abs.Frame) (σ : Store) : Prop := ∃ (k m' d2 : Nat) (l2 : List Pc) (O : List (List Pc)) (id : Nat), x = p.length - k ∧ i ≤ k ∧ k ≤ p.length ∧ pcs m' (p.drop k) = some (l2, r, d2) ∧ expd O l2 = expd [[]] l ∧ 1 ≤ O.length ∧ cnt O.length l2 ≤ 64 ∧
    (∀ o ∈ O, (texts o).length + srcL l2 ≤ 1000) ∧ f 0 = .str p ∧ f 1 = .int .i64 k ∧ f 6 = .row id O.length ∧ σ[id]? = some (.row 9 1 (tx O) false)
theorem rexpand_step (L : Nat) (ih : ∀ L', L' < L → ExpAt L') : ExpAt L := by
  intro p i m l r d hL hi hp hc1 hpcs
  refine pcalls_of_awp hmix c_isobarref15_expandX rfl ?_
  have hg := (pcs_local _).1 _ _ _ _ hpcs
  have hsz := (pcs_size _).1 _ _ _ _ hpcs
  simp [a_isobarref15_expandX]
  refine lp_startx (EInv p i l r) (p.length - i) ?_ ?_
  · refine ⟨i, m, d, l, [[]], 0, rfl, Nat.le_refl _, hi, hpcs, rfl, by simp, by simpa using hc1, ?_, by simp, by simp, by simp, by simp [tx, strEls, texts]⟩
    intro o ho
    simp at ho; subst ho
    have := hg.2.2.1
    rw [List.length_drop] at this
    simp [texts]; omega
  rintro x f σ ⟨k, m', d2, l2, O, id, hx, hik, hkl, hpc, hex, hO1, hcO, hW, h0, h1, h6, hrow⟩
  obtain ⟨lf1, lf2, lf3⟩ := left_at hpc hkl
  have hg2 := (pcs_local _).1 _ _ _ _ hpc
  have hne := ((pcs_size _).1 _ _ _ _ hpc).2
  have hO64 := out64 hne hO1 hcO
  have hidl := (List.getElem?_eq_some_iff.1 hrow).1
  have hfin : l2 = [] → O = expd [[]] l := fun e => by rw [← hex, e]; simp [expd]
  rcases pcs_some hpc with ⟨he, rfl, rfl, rfl⟩ | ⟨m', c, t, rfl, hdk, hcase⟩
  · have hke : p.length ≤ k := by have := congrArg List.length he; simp at this; omega
    have hlt : ¬ (k : Int) < (p.length : Int) := by omega
    have hlt' : ¬ k < p.length := by omega
    have hkp : k = p.length := by omega
    rw [← hfin rfl]
    simp [h0, h1, h6, hlt, hlt', hrow, tx_len, fz_tx, hkp]
  · obtain ⟨hc, hdk1, hlt⟩ := drop_one hdk
    obtain ⟨_, hc2⟩ := List.getElem?_eq_some_iff.1 hc
    have hlt' : (k : Int) < (p.length : Int) := by omega
    have hwk : IntKind.i64.wrap ((k : Int) + 1) = (k : Int) + 1 := wrap_i64 (by omega) (by omega)
    have hsame : σ.set id (.row 9 1 (tx O) false) = σ := by
      refine List.ext_getElem? fun n => ?_
      by_cases hn : id = n
      · subst hn; rw [List.getElem?_set_self hidl, hrow]
      · rw [List.getElem?_set_ne hn]
    rcases hcase with ⟨hst, rfl, rfl, rfl⟩ | ⟨hst, hcase⟩
    · rw [← hfin rfl]
      have hr : ((p.length - (c :: t).length : Nat) : Int) = (k : Int) := by
        have : (c :: t).length = p.length - k := by rw [← hdk]; simp
        omega
      rw [hr]
      rcases hst with rfl | rfl
      · simp [h0, h1, h6, hlt, hlt', hc, hc2, hrow, tx_len, fz_tx]
      · simp [h0, h1, h6, hlt, hlt', hc, hc2, hrow, tx_len, fz_tx]
    · have n44 : ¬ ((c.toNat : Int) = 44) := u8_ne (n := 44) rfl (fun h => hst (.inl h))
      have n125 : ¬ ((c.toNat : Int) = 125) := u8_ne (n := 125) rfl (fun h => hst (.inr h))
      by_cases h123 : c = 123
      · subst h123
        have hb : ∃ xs r1 d1 l' d3, alts m' t = some (xs, r1, d1) ∧ pcs m' r1 = some (l', r, d3) ∧ l2 = .br xs :: l' := by
          rcases hcase with ⟨h, _⟩ | ⟨h, _⟩ | ⟨h, _⟩ | ⟨h, _⟩ | ⟨_, xs, r1, d1, l', d3, h1, h2, h3, _⟩
          · exact absurd h (by decide)
          · exact absurd h (by decide)
          · exact absurd h (by decide)
          · exact absurd h (by decide)
          · exact ⟨xs, r1, d1, l', d3, h1, h2, h3⟩
        obtain ⟨xs, r1, d1, l', d3, hal, hp', rfl⟩ := hb
        have hal0 : alts m' (p.drop (k + 1)) = some (xs, r1, d1) := by rw [hdk1]; exact hal
        rw [expd_cons_br] at hex
        simp only [cnt] at hcO
        simp only [neL] at hne
        have hokA : okA xs := by have := hg2.2.1; simp only [okL] at this; exact this.1
        have hx1 := cntA_ge xs 0 hne.2.1 (by omega)
        have hx2 : 1 ≤ cntA 0 xs := by have := List.length_pos_iff.2 hne.1; omega
        have hmul : O.length ≤ O.length * cntA 0 xs := by have := Nat.mul_le_mul_left O.length hx2; omega
        have hmul2 : cntA 0 xs ≤ O.length * cntA 0 xs := by have := Nat.mul_le_mul_right (cntA 0 xs) hO1; omega
        have hgg := cnt_ge l' (min 65 (O.length * cntA 0 xs)) hne.2.2 (by omega) (Nat.min_le_left _ _)
        have hmin : min 65 (O.length * cntA 0 xs) = O.length * cntA 0 xs := by omega
        have hE64 : cntA 0 xs ≤ 64 := by omega
        have hEl := expdA_count xs 0 hne.2.1 hE64
        rw [hmin] at hcO hgg
        obtain ⟨A, hA⟩ : ∃ A, expdA xs = A := ⟨_, rfl⟩
        rw [hA] at hex hEl
        have hAl : A.length = cntA 0 xs := by omega
        have hPl : (prod O A).length = O.length * cntA 0 xs := by rw [prod_len, hAl]
        have hsrcB : srcL (.br xs :: l') = srcA xs + srcL l' := by simp [srcL]
        have hAb : ∀ o ∈ A, (texts o).length ≤ srcA xs := fun o ho => (expdA_good xs hokA o (by rw [hA]; exact ho)).2.2
        rw [hsrcB] at hW
        simp [h0, h1, h6, hlt, hlt', hc, hc2]
        refine lp_gen (fun f' => f' 0 = .str p ∧ f' 1 = .int .i64 k ∧ f' 6 = .row id O.length ∧ f' 9 = .nils) ⟨by simp [h0], by simp [h1], by simp [h6], by simp⟩ ?_
        rintro f0 ⟨u0, u1, u6, u9⟩
        refine lp_startx (fun x f σ' => ∃ (q m2 da2 : Nat) (as2 done : List (List Pc)), x = p.length - q ∧ k ≤ q ∧ q < p.length ∧ alts m2 (p.drop (q + 1)) = some (as2, r1, da2) ∧ A = done ++ expdA as2 ∧ (∀ a ∈ as2, a ∈ xs) ∧ f 0 = .str p ∧ f 1 = .int .i64 q ∧ f 6 = .row id O.length ∧ AccF [id] 9 1 σ' (f 9) (tx done) ∧ σ'[id]? = some (.row 9 1 (tx O) false)) (p.length - k) ?_ ?_
        · exact ⟨k, m', d1, xs, [], rfl, Nat.le_refl _, hlt, hal0, by rw [← hA]; rfl, fun a h => h, u0, u1, u6, .inl ⟨rfl, u9⟩, hrow⟩
        rintro x' f1 σ1 ⟨q, m2, da2, as2, done, hx', hkq, hql, ha2, hdone, hmem, w0, w1, w6, hacc, wrow⟩
        obtain ⟨m3, a, c', t', da1, rfl, hpa, hcase2⟩ := alts_some ha2
        obtain ⟨e1, e2, e3⟩ := left_at hpa (by omega)
        have hax : a ∈ xs := by
          rcases hcase2 with ⟨_, rfl, _⟩ | ⟨_, as', d2', _, rfl, _⟩
          · exact hmem a (by simp)
          · exact hmem a (by simp)
        have hnea := neA_mem hne.2.1 hax
        have hca := cntA_mem hne.2.1 hE64 hax
        have hEa := expd_count a [[]] hnea (by simp) (by simpa using hca)
        have hEa1 := cnt_ge a 1 hnea (by omega) (by omega)
        have hih := ih (p.length - (q + 1)) (by omega) p (q + 1) m3 a (c' :: t') da1 (Nat.le_refl _) (by omega) hp hca hpa
        simp only [Int.natCast_add, Int.cast_ofNat_Int] at hih
        have hE1 : p.length - (c' :: t').length < p.length := by simp only [List.length_cons] at e3 ⊢; omega
        generalize hE : p.length - (c' :: t').length = E at *
        obtain ⟨hcE, hdE, _⟩ := drop_one e1
        obtain ⟨_, hcE2⟩ := List.getElem?_eq_some_iff.1 hcE
        have hwq : IntKind.i64.wrap ((q : Int) + 1) = (q : Int) + 1 := wrap_i64 (by omega) (by omega)
        have hwE : IntKind.i64.wrap ((E : Int) + 1) = (E : Int) + 1 := wrap_i64 (by omega) (by omega)
        have hdl : done.length ≤ 64 := by have := congrArg List.length hdone; rw [List.length_append] at this; omega
        have hid1 := (List.getElem?_eq_some_iff.1 wrow).1
        simp [w0, w1, w6, hwq]
        refine ac_same hih (by simp) ?_
        rintro v rfl
        simp [w0, w1, w6]
        simp at hEa
        refine apF [id] (m := tx (expd [[]] a)) hacc (by simp) (fun h => by have := congrArg List.length h; rw [tx_len] at this; simp at this; rw [this] at hEa; simp at hEa; omega) (by omega) tx_one (by rw [tx_len, tx_len, hEa]; omega) (by rw [tx_len, tx_len, hEa]; omega) (by simp; exact hid1) ?_
        intro v2 σ2 hacc2 hkeep hle
        have wrow2 : σ2[id]? = some (.row 9 1 (tx O) false) := by rw [hkeep id (by simp)]; exact wrow
        rw [← tx_app] at hacc2
        by_cases h125 : c' = 125
        · have h125i : (c'.toNat : Int) = 125 := by rw [h125]; rfl
          obtain ⟨hdA, hr1⟩ : A = done ++ expd [[]] a ∧ r1 = t' := by
            rcases hcase2 with ⟨_, rfl, rfl, _⟩ | ⟨h, _⟩
            · exact ⟨by rw [hdone]; simp [expdA], rfl⟩
            · exact absurd h125 h
          rw [← hdA] at hacc2
          have hr1d : p.drop (E + 1) = r1 := by rw [hr1]; exact hdE
          obtain ⟨aid, haid, rfl, hall⟩ : ∃ aid, ¬ aid = id ∧ v2 = .row aid A.length ∧ σ2[aid]? = some (.row 9 1 (tx A) false) := by
            rcases hacc2 with ⟨h1, _⟩ | ⟨_, rid, h2, h3, h4⟩
            · have := congrArg List.length h1; rw [tx_len] at this; simp at this
              rw [this] at hAl; simp at hAl; omega
            · exact ⟨rid, by simpa using h2, by rw [h3, tx_len], h4⟩
          subst h125
          simp [w0, w6, hcE, hcE2, hE1, hwE]
          refine lp_gen (fun f' => f' 0 = .str p ∧ f' 1 = .int .i64 ((E : Int) + 1) ∧ f' 6 = .row id O.length ∧ f' 9 = .row aid A.length ∧ f' 12 = .nils ∧ f' 13 = .int .i64 0) ⟨by simp [w0], by simp, by simp [w6], by simp, by simp, by simp⟩ ?_
          rintro fB ⟨y0, y1, y6, y9, y12, y13⟩
          have hidA := (List.getElem?_eq_some_iff.1 hall).1
          have hid2 := (List.getElem?_eq_some_iff.1 wrow2).1
          refine lp_startx (fun x f σ' => ∃ (j : Nat), x = O.length - j ∧ j ≤ O.length ∧ f 0 = .str p ∧ f 1 = .int .i64 ((E : Int) + 1) ∧ f 6 = .row id O.length ∧ f 9 = .row aid A.length ∧ f 13 = .int .i64 j ∧ AccF [id, aid] 9 1 σ' (f 12) (tx (prod (O.take j) A)) ∧ σ'[id]? = some (.row 9 1 (tx O) false) ∧ σ'[aid]? = some (.row 9 1 (tx A) false)) O.length ?_ ?_
          · exact ⟨0, by simp, by simp, y0, y1, y6, y9, y13, .inl ⟨by simp [prod, tx, strEls], y12⟩, wrow2, hall⟩
          rintro xB f2 σ3 ⟨j, hxB, hjO, z0, z1, z6, z9, z13, zacc, zrow, zall⟩
          by_cases hjl : j < O.length
          · obtain ⟨h, hh⟩ : ∃ h, O[j]? = some h := ⟨_, List.getElem?_eq_getElem hjl⟩
            have hhW := hW h (List.mem_of_getElem? hh)
            have g1 := tx_get hh
            obtain ⟨g1a, g1b⟩ := List.getElem?_eq_some_iff.1 g1
            have hjl' : (j : Int) < (O.length : Int) := by omega
            have hwj : IntKind.i64.wrap ((j : Int) + 1) = (j : Int) + 1 := wrap_i64 (by omega) (by omega)
            simp [z0, z1, z6, z9, z13, zrow, tx_len, hjl, hjl']
            refine lp_gen (fun f' => f' 0 = .str p ∧ f' 1 = .int .i64 ((E : Int) + 1) ∧ f' 6 = .row id O.length ∧ f' 9 = .row aid A.length ∧ f' 12 = f2 12 ∧ f' 13 = .int .i64 j ∧ f' 14 = .int .i64 0) ⟨by simp [z0], by simp [z1], by simp [z6], by simp [z9], by simp, by simp [z13], by simp⟩ ?_
            rintro fC ⟨c0, c1, c6, c9, c12, c13, c14⟩
            refine lp_startx (fun x f σ' => ∃ (t : Nat), x = A.length - t ∧ t ≤ A.length ∧ f 0 = .str p ∧ f 1 = .int .i64 ((E : Int) + 1) ∧ f 6 = .row id O.length ∧ f 9 = .row aid A.length ∧ f 13 = .int .i64 j ∧ f 14 = .int .i64 t ∧ AccF [id, aid] 9 1 σ' (f 12) (tx (moreP O A j h t)) ∧ σ'[id]? = some (.row 9 1 (tx O) false) ∧ σ'[aid]? = some (.row 9 1 (tx A) false)) A.length ?_ ?_
            · exact ⟨0, by simp, by simp, c0, c1, c6, c9, c13, c14, by rw [c12, moreP_zero]; exact zacc, zrow, zall⟩
            rintro xC f3 σ4 ⟨t, hxC, htA, d0, d1', d6, d9, d13, d14, dacc, drow, dall⟩
            have hidd := (List.getElem?_eq_some_iff.1 drow).1
            have haidd := (List.getElem?_eq_some_iff.1 dall).1
            by_cases htl : t < A.length
            · obtain ⟨o, ho⟩ : ∃ o, A[t]? = some o := ⟨_, List.getElem?_eq_getElem htl⟩
              have hob := hAb o (List.mem_of_getElem? ho)
              have g2 := tx_get ho
              obtain ⟨g2a, g2b⟩ := List.getElem?_eq_some_iff.1 g2
              have htl' : (t : Int) < (A.length : Int) := by omega
              have hwt : IntKind.i64.wrap ((t : Int) + 1) = (t : Int) + 1 := wrap_i64 (by omega) (by omega)
              have hsum : (texts h).length + (texts o).length ≤ 9223372036854775807 := by omega
              have hml := moreP_len O A j h t
              rw [hAl] at hml
              simp [d0, d1', d6, d9, d13, d14, drow, dall, tx_len, hjl, htl, htl', g1, g1b, g2, g2b, hsum]
              refine apF [id, aid] (m := [[.str (texts h ++ texts o)]]) (dacc.more _) (by simp) (by simp) (by omega) (by simp) (by rw [tx_len]; simp; omega) (by rw [tx_len]; simp; omega) (by simp; omega) ?_
              intro v5 σ5 hacc5 hkeep5 hle5
              rw [← moreP_succ ho] at hacc5
              have k1 : σ5[id]? = some (.row 9 1 (tx O) false) := by rw [hkeep5 id (by simp), List.getElem?_append_left hidd]; exact drow
              have k2 : σ5[aid]? = some (.row 9 1 (tx A) false) := by rw [hkeep5 aid (by simp), List.getElem?_append_left haidd]; exact dall
              simp [d14, hwt]
              exact nx_intro (A.length - (t + 1)) (by omega) ⟨t + 1, rfl, by omega, by simp [d0], by simp [d1'], by simp [d6], by simp [d9], by simp [d13], by simp, by simpa using hacc5, k1, k2⟩
            · have hte : t = A.length := by omega
              have htl' : ¬ (t : Int) < (A.length : Int) := by omega
              subst hte
              rw [moreP_all hh] at dacc
              simp [d0, d1', d6, d9, d13, d14, dall, tx_len, htl, htl', hwj]
              exact nx_intro (O.length - (j + 1)) (by omega) ⟨j + 1, rfl, by omega, by simp [d0], by simp [d1'], by simp [d6], by simp [d9], by simp, by simpa using dacc, drow, dall⟩
          · have hje : j = O.length := by omega
            have hjl' : ¬ (j : Int) < (O.length : Int) := by omega
            subst hje
            rw [prod_all] at zacc
            obtain ⟨nid, hnv, hnrow⟩ : ∃ nid, f2 12 = .row nid (prod O A).length ∧ σ3[nid]? = some (.row 9 1 (tx (prod O A)) false) := by
              rcases zacc with ⟨h1, _⟩ | ⟨_, rid, _, h3, h4⟩
              · have := congrArg List.length h1; rw [tx_len, hPl] at this; simp at this; omega
              · exact ⟨rid, by rw [h3, tx_len], h4⟩
            simp [z0, z1, z6, z9, z13, zrow, tx_len, hjl, hjl']
            refine nx_intro (p.length - (E + 1)) (by omega) ⟨E + 1, m', d3, l', prod O A, nid, rfl, by omega, by omega, by rw [hr1d]; exact hp', hex, by rw [hPl]; omega, by rw [hPl]; exact hcO, ?_, by simp [z0], by simp [z1], by simp [hnv], hnrow⟩
            intro o' ho'
            simp only [prod, List.mem_flatMap, List.mem_map] at ho'
            obtain ⟨h, hh, o, ho, rfl⟩ := ho'
            have q1 := hW h hh
            have q2 := hAb o ho
            rw [texts_append, List.length_append]; omega
        · have h125i : ¬ (c'.toNat : Int) = 125 := u8_ne (n := 125) rfl h125
          obtain ⟨as', d2', ha', rfl⟩ : ∃ as' d2', alts m3 t' = some (as', r1, d2') ∧ as2 = a :: as' := by
            rcases hcase2 with ⟨h, _⟩ | ⟨_, as', d2', h1, h2, _⟩
            · exact absurd h h125
            · exact ⟨as', d2', h1, h2⟩
          simp [w0, w6, hcE, hcE2, hE1, h125i]
          exact nx_intro (p.length - E) (by omega) ⟨E, m3, d2', as', done ++ expd [[]] a, rfl, by omega, by omega, by rw [hdE]; exact ha', by rw [hdone]; simp [expdA], fun b hb => hmem b (by simp [hb]), by simp [w0], by simp, by simp [w6], by simpa using hacc2, wrow2⟩
      have n123 : ¬ ((c.toNat : Int) = 123) := u8_ne (n := 123) rfl h123
      by_cases h91 : c = 91
      · subst h91
        obtain ⟨rs, r1, l', hcl, hp', rfl⟩ : ∃ rs r1 l', cls m' false t = some (rs, r1) ∧ pcs m' r1 = some (l', r, d2) ∧ l2 = .cls rs ((91 :: t).take (t.length + 1 - r1.length)) :: l' := by
          rcases hcase with ⟨h, _⟩ | ⟨h, _⟩ | ⟨h, _⟩ | ⟨_, rs, r1, l', h1, h2, h3⟩ | ⟨h, _⟩
          · exact absurd h (by decide)
          · exact absurd h (by decide)
          · exact absurd h (by decide)
          · exact ⟨rs, r1, l', h1, h2, h3⟩
          · exact absurd h (by decide)
        obtain ⟨pc, hpce⟩ : ∃ pc : Pc, pc = .cls rs ((91 :: t).take (t.length + 1 - r1.length)) := ⟨_, rfl⟩
        rw [← hpce] at hex hcO hW hne
        have hk4 : pc.kind ≠ 4 := by rw [hpce]; simp [Pc.kind]
        rw [← hdk1] at hcl
        have hclass := rclass_ok (G := G) p (k + 1) m' rs r1 hcl (by omega)
        obtain ⟨cd1, cd2⟩ := cls_drop hcl
        simp only [Int.natCast_add, Int.cast_ofNat_Int] at hclass
        have htl : t.length = p.length - (k + 1) := by rw [← hdk1]; simp
        obtain ⟨nxt, hE⟩ : ∃ nxt, nxt = p.length - r1.length := ⟨_, rfl⟩
        rw [← hE] at hclass cd1
        have hpt : (p.take nxt).drop k = pc.text := by
          rw [hpce]
          show _ = (91 :: t).take (t.length + 1 - r1.length)
          rw [← hdk, List.drop_take]
          congr 1; omega
        have hptl : pc.text.length = nxt - k := by rw [← hpt]; simp; omega
        have hsrc : srcL (pc :: l') = pc.text.length + srcL l' := by rw [hpce]; simp [srcL, Pc.text]
        have hnl : nxt ≤ p.length := by omega
        have hp' : pcs m' (p.drop nxt) = some (l', r, d2) := by rw [cd1]; exact hp'
        have hnI : (nxt : Int) = (nxt : Int) := rfl
        rw [hsrc] at hW
        simp [h0, h1, h6, hlt, hlt', hc, hc2, hwk]
        refine ac_same hclass (by simp) ?_
        rintro v rfl
        simp [h0, h1, h6]
        refine lp_gen (fun f' => f' 0 = .str p ∧ f' 1 = .int .i64 k ∧ f' 6 = .row id O.length ∧ f' 7 = .int .i64 nxt ∧ f' 8 = .int .i64 0) ⟨by simp [h0], by simp [h1], by simp [h6], by simp [hnI], by simp⟩ ?_
        rintro f0 ⟨u0, u1, u6, u7, u8⟩
        refine lp_startx (fun x f σ' => ∃ (j : Nat), x = O.length - j ∧ j ≤ O.length ∧ f 0 = .str p ∧ f 1 = .int .i64 k ∧ f 6 = .row id O.length ∧ f 7 = .int .i64 nxt ∧ f 8 = .int .i64 j ∧ σ' = σ.set id (.row 9 1 (tx (mixP pc O j)) false)) O.length ?_ ?_
        · exact ⟨0, by simp, by simp, u0, u1, u6, u7, u8, by rw [mixP_zero]; exact hsame.symm⟩
        rintro x' f1 σ' ⟨j, hx', hj, w0, w1, w6, w7, w8, rfl⟩
        have v1 : ∀ e : Entry, (σ.set id e)[id]? = some e := fun e => by simp [hidl]
        have v2 : ∀ e e' : Entry, (σ.set id e).set id e' = σ.set id e' := fun e e' => by simp
        have v3 : (tx (mixP pc O j)).length = O.length := (tx_len _).trans (mixP_len pc O j hj)
        by_cases hjl : j < O.length
        · obtain ⟨o, ho⟩ : ∃ o, O[j]? = some o := ⟨_, List.getElem?_eq_getElem hjl⟩
          have hob := hW o (List.mem_of_getElem? ho)
          have m1 := mixP_get pc ho
          have m2 := mixP_set pc ho
          obtain ⟨m1a, m1b⟩ := List.getElem?_eq_some_iff.1 m1
          have hjl' : (j : Int) < (O.length : Int) := by omega
          have hwj : IntKind.i64.wrap ((j : Int) + 1) = (j : Int) + 1 := wrap_i64 (by omega) (by omega)
          have hq1 : (texts o).length + pc.text.length ≤ 9223372036854775807 := by omega
          have hkn : (k : Int) ≤ (nxt : Int) := by omega
          have hkn2 : k ≤ nxt := by omega
          have hnp : (nxt : Int) ≤ (p.length : Int) := by omega
          simp [w0, w1, w6, w7, w8, v1, v2, v3, hjl, hjl', m1, m1b, hkn, hkn2, hnp, hnl, hpt, hq1, m2, hwj]
          exact nx_intro (O.length - (j + 1)) (by omega) ⟨j + 1, rfl, by omega, by simp [w0], by simp [w1], by simp [w6], by simp [w7], by simp, by simp⟩
        · have hje : j = O.length := by omega
          have hjl' : ¬ (j : Int) < (O.length : Int) := by omega
          subst hje
          simp [w0, w1, w6, w7, w8, v1, v2, v3, mixP_all, tx_len, hjl, hjl']
          refine nx_intro (p.length - nxt) (by omega) ⟨nxt, m', d2, l', O.map (· ++ [pc]), id, rfl, by omega, by omega, hp', ?_, by simpa using hO1, ?_, ?_, by simp [w0], by simp, by simp [w6], by simp [hidl, mixP_all]⟩
          · rw [← hex, expd_cons_other hk4]
          · rw [List.length_map]; rw [cnt_other hk4] at hcO; exact hcO
          · intro o' ho'
            obtain ⟨o, ho, rfl⟩ := List.mem_map.1 ho'
            have := hW o ho
            rw [texts_append]
            have e : (texts [pc]).length = pc.text.length := by simp [texts]
            rw [List.length_append, e]; omega
      · have n91 : ¬ ((c.toNat : Int) = 91) := u8_ne (n := 91) rfl h91
        obtain ⟨pc, l', hpx, hk4, rfl, hp', hsrc1⟩ : ∃ (pc : Pc) (l' : List Pc), pc.text = [c] ∧ pc.kind ≠ 4 ∧ l2 = pc :: l' ∧ pcs m' t = some (l', r, d2) ∧ srcL (pc :: l') = 1 + srcL l' := by
          rcases hcase with ⟨rfl, l', h, e⟩ | ⟨rfl, l', h, e⟩ | ⟨_, l', h, e⟩ | ⟨h, _⟩ | ⟨h, _⟩
          · exact ⟨.q, l', rfl, by simp [Pc.kind], e, h, by simp [srcL]⟩
          · exact ⟨.star, l', rfl, by simp [Pc.kind], e, h, by simp [srcL]⟩
          · exact ⟨.lit c, l', rfl, by simp [Pc.kind], e, h, by simp [srcL]⟩
          · exact absurd h h91
          · exact absurd h h123
        obtain ⟨nxt, hE⟩ : ∃ nxt, nxt = k + 1 := ⟨_, rfl⟩
        have hpt : (p.take nxt).drop k = pc.text := by
          rw [hpx, hE, List.take_add_one, hc, List.drop_append_of_le_length (by rw [List.length_take]; omega), List.drop_of_length_le (by rw [List.length_take]; omega)]
          rfl
        have hptl : pc.text.length = nxt - k := by rw [hpx, hE]; simp
        have hsrc : srcL (pc :: l') = pc.text.length + srcL l' := by rw [hsrc1, hpx]; rfl
        have hnl : nxt ≤ p.length := by omega
        have hp' : pcs m' (p.drop nxt) = some (l', r, d2) := by rw [hE, hdk1]; exact hp'
        have hnI : (k : Int) + 1 = (nxt : Int) := by omega
        rw [hsrc] at hW
        simp [h0, h1, h6, hlt, hlt', hc, hc2, hwk, n44, n125, n123, n91]
        refine lp_gen (fun f' => f' 0 = .str p ∧ f' 1 = .int .i64 k ∧ f' 6 = .row id O.length ∧ f' 7 = .int .i64 nxt ∧ f' 8 = .int .i64 0) ⟨by simp [h0], by simp [h1], by simp [h6], by simp [hnI], by simp⟩ ?_
        rintro f0 ⟨u0, u1, u6, u7, u8⟩
        refine lp_startx (fun x f σ' => ∃ (j : Nat), x = O.length - j ∧ j ≤ O.length ∧ f 0 = .str p ∧ f 1 = .int .i64 k ∧ f 6 = .row id O.length ∧ f 7 = .int .i64 nxt ∧ f 8 = .int .i64 j ∧ σ' = σ.set id (.row 9 1 (tx (mixP pc O j)) false)) O.length ?_ ?_
        · exact ⟨0, by simp, by simp, u0, u1, u6, u7, u8, by rw [mixP_zero]; exact hsame.symm⟩
        rintro x' f1 σ' ⟨j, hx', hj, w0, w1, w6, w7, w8, rfl⟩
        have v1 : ∀ e : Entry, (σ.set id e)[id]? = some e := fun e => by simp [hidl]
        have v2 : ∀ e e' : Entry, (σ.set id e).set id e' = σ.set id e' := fun e e' => by simp
        have v3 : (tx (mixP pc O j)).length = O.length := (tx_len _).trans (mixP_len pc O j hj)
        by_cases hjl : j < O.length
        · obtain ⟨o, ho⟩ : ∃ o, O[j]? = some o := ⟨_, List.getElem?_eq_getElem hjl⟩
          have hob := hW o (List.mem_of_getElem? ho)
          have m1 := mixP_get pc ho
          have m2 := mixP_set pc ho
          obtain ⟨m1a, m1b⟩ := List.getElem?_eq_some_iff.1 m1
          have hjl' : (j : Int) < (O.length : Int) := by omega
          have hwj : IntKind.i64.wrap ((j : Int) + 1) = (j : Int) + 1 := wrap_i64 (by omega) (by omega)
          have hq1 : (texts o).length + pc.text.length ≤ 9223372036854775807 := by omega
          have hkn : (k : Int) ≤ (nxt : Int) := by omega
          have hkn2 : k ≤ nxt := by omega
          have hnp : (nxt : Int) ≤ (p.length : Int) := by omega
          simp [w0, w1, w6, w7, w8, v1, v2, v3, hjl, hjl', m1, m1b, hkn, hkn2, hnp, hnl, hpt, hq1, m2, hwj]
          exact nx_intro (O.length - (j + 1)) (by omega) ⟨j + 1, rfl, by omega, by simp [w0], by simp [w1], by simp [w6], by simp [w7], by simp, by simp⟩
        · have hje : j = O.length := by omega
          have hjl' : ¬ (j : Int) < (O.length : Int) := by omega
          subst hje
          simp [w0, w1, w6, w7, w8, v1, v2, v3, mixP_all, tx_len, hjl, hjl']
          refine nx_intro (p.length - nxt) (by omega) ⟨nxt, m', d2, l', O.map (· ++ [pc]), id, rfl, by omega, by omega, hp', ?_, by simpa using hO1, ?_, ?_, by simp [w0], by simp, by simp [w6], by simp [hidl, mixP_all]⟩
          · rw [← hex, expd_cons_other hk4]
          · rw [List.length_map]; rw [cnt_other hk4] at hcO; exact hcO
          · intro o' ho'
            obtain ⟨o, ho, rfl⟩ := List.mem_map.1 ho'
            have := hW o ho
            rw [texts_append]
            have e : (texts [pc]).length = pc.text.length := by simp [texts]
            rw [List.length_append, e]; omega
end Go.Proofs.YtjpjmdjjgfllhaaGreatDoor
end
section
set_option maxHeartbeats 8000000
namespace Go.Proofs.YtjpjmdjjgfllhaaGreatDoor
open Go.Abs Go.Glob
variable {G : Globs}
theorem rexpand_at : ∀ L, ExpAt L := by
  intro L
  induction L using Nat.strongRecOn with
  | _ L ih => exact rexpand_step L ih
theorem rcheck_ok {p : List UInt8} {l : List Pc} (h : parse p = .ok l) : PCalls Tryz.prog n_isobarref15_Check [.str p] (fun v => v = .int .i64 0) := by
  obtain ⟨h1, h2, d, h3, h4, h5⟩ := parse_ok h
  refine pcalls_of_awp hmix c_isobarref15_Check rfl ?_
  have hf := rform_ok (G := G) p.length p 0 (2 * p.length + 2) l [] d (by omega) (by omega) (by omega) (by omega) (by simpa using h3)
  have g1 : ¬ (128 : Int) < (p.length : Int) := by omega
  have g1' : ¬ 128 < p.length := by omega
  have g2 : ¬ (4 : Int) < (d : Int) := by omega
  have g2' : ¬ 4 < d := by omega
  have g3 : ¬ (64 : Int) < (cnt 1 l : Int) := by omega
  have g3' : ¬ 64 < cnt 1 l := by omega
  simp at hf
  simp [a_isobarref15_Check, g1, g1']
  refine ac_same hf (by simp) ?_
  rintro v rfl
  simp [h2, g2, g2', g3, g3']
theorem rExpand_ok {p : List UInt8} {l : List Pc} (h : parse p = .ok l) : PCalls Tryz.prog n_isobarref15_Expand [.str p] (fun v => v = .tup [.lst (tx (expd [[]] l)), .int .i64 0]) := by
  obtain ⟨h1, h2, d, h3, h4, h5⟩ := parse_ok h
  refine pcalls_of_awp hmix c_isobarref15_Expand rfl ?_
  have he := rexpand_at (G := G) p.length p 0 (2 * p.length + 2) l [] d (by omega) (by omega) (by omega) h5 (by simpa using h3)
  simp at he
  simp [a_isobarref15_Expand]
  refine ac_same (rcheck_ok h) (by simp) ?_
  rintro v rfl
  simp
  refine ac_same he (by simp) ?_
  rintro v rfl
  simp
theorem rMatch_ok {p : List UInt8} {l : List Pc} (h : parse p = .ok l) (name : List UInt8) (hn : name.length ≤ 100000) : PCalls Tryz.prog n_isobarref15_Match [.str p, .str name] (fun v => v = .tup [.bool ((expd [[]] l).any fun o => mt o name), .int .i64 0]) := by
  refine pcalls_of_awp hmix c_isobarref15_Match rfl ?_
  obtain ⟨h1, _⟩ := parse_ok h
  have hg := parse_good h
  obtain ⟨_, _, _, hl64, _⟩ := expand_parsed h
  obtain ⟨E, hE⟩ : ∃ E, expd [[]] l = E := ⟨_, rfl⟩
  rw [hE] at hg hl64
  simp [a_isobarref15_Match]
  refine ac_same (rExpand_ok h) (by simp) ?_
  rintro v rfl
  rw [hE]
  simp
  refine lp_startx (fun x f σ => ∃ (i : Nat), x = E.length - i ∧ i ≤ E.length ∧ (∀ o ∈ E.take i, mt o name = false) ∧ f 0 = .str p ∧ f 1 = .str name ∧ f 6 = .lst (tx E) ∧ f 7 = .int .i64 0 ∧ f 8 = .int .i64 i ∧ σ = []) E.length ?_ ?_
  · exact ⟨0, by simp, by simp, by simp, by simp, by simp, by simp, by simp, by simp, rfl⟩
  rintro x f σ ⟨i, hx, hi, hno, w0, w1, w6, w7, w8, rfl⟩
  by_cases hil : i < E.length
  · obtain ⟨o, ho⟩ : ∃ o, E[i]? = some o := ⟨_, List.getElem?_eq_getElem hil⟩
    have hm := List.mem_of_getElem? ho
    obtain ⟨g1, g2, g3⟩ := hg o hm
    have gt := tx_get ho
    obtain ⟨gt1, gt2⟩ := List.getElem?_eq_some_iff.1 gt
    have hil' : (i : Int) < (E.length : Int) := by omega
    have hwi : IntKind.i64.wrap ((i : Int) + 1) = (i : Int) + 1 := wrap_i64 (by omega) (by omega)
    simp [w0, w1, w6, w7, w8, tx_len, hil, hil', gt, gt2]
    refine ac_same (rfits_ok o name g1 g2 (by omega) hn) (by simp) ?_
    rintro v rfl
    cases hmt : mt o name with
    | true =>
      have : (E.any fun o => mt o name) = true := List.any_eq_true.2 ⟨o, hm, hmt⟩
      simp [this]
    | false =>
      simp [w8, hwi]
      refine nx_intro (E.length - (i + 1)) (by omega) ⟨i + 1, rfl, by omega, ?_, by simp [w0], by simp [w1], by simp [w6], by simp [w7], by simp, rfl⟩
      intro q hq
      rw [List.take_add_one, ho] at hq
      rcases List.mem_append.1 hq with hq | hq
      · exact hno q hq
      · simp at hq; subst hq; exact hmt
  · have hil' : ¬ (i : Int) < (E.length : Int) := by omega
    rw [List.take_of_length_le (by omega)] at hno
    have : (E.any fun o => mt o name) = false := List.any_eq_false.2 fun o ho => by rw [hno o ho]; decide
    simp [w6, w7, w8, tx_len, hil, hil', this]
end Go.Proofs.YtjpjmdjjgfllhaaGreatDoor
end
section
set_option maxHeartbeats 4000000
namespace Go.Proofs.YtjpjmdjjgfllhaaGreatDoor
open Go.Abs Go.Glob Go.Trail
variable {G : Globs}
theorem rplain_ok (s : List UInt8) (hs : s.length ≤ 9223372036854775807) : PCalls Tryz.prog n_isobarref15_Plain [.str s] (fun r => r = .bool (s.all nb && !s.isEmpty)) := by
  refine pcalls_of_awp hmix c_isobarref15_Plain rfl ?_
  simp [a_isobarref15_Plain]
  refine lp_startx (fun x f σ => ∃ (i : Nat), x = s.length - i ∧ i ≤ s.length ∧ s.all nb = (s.drop i).all nb ∧ f 0 = .str s ∧ f 3 = .int .i64 i ∧ σ = []) s.length ?_ ?_
  · exact ⟨0, by simp, by simp, by simp, by simp, by simp, rfl⟩
  rintro x f σ ⟨i, hx, hi, hall, h0, h3, rfl⟩
  have hwi : i < s.length → IntKind.i64.wrap ((i : Int) + 1) = (i : Int) + 1 := fun h => wrap_i64 (by omega) (by omega)
  by_cases hlt : i < s.length
  · obtain ⟨c, hc⟩ : ∃ c, s[i]? = some c := ⟨_, List.getElem?_eq_getElem hlt⟩
    have hd := drop_cons hc
    obtain ⟨_, hc2⟩ := List.getElem?_eq_some_iff.1 hc
    have hlt' : (i : Int) < (s.length : Int) := by omega
    rw [hd, List.all_cons] at hall
    simp [h0, h3, hlt, hlt', hc, hc2]
    refine ac_same (refByte_ok c) (by simp) ?_
    rintro r rfl
    cases hn : nb c with
    | false =>
      rw [hn] at hall
      have hall' : s.all nb = false := by rw [hall]; rfl
      rw [hall']
      simp
    | true =>
      simp [h3, hwi hlt]
      refine nx_intro (s.length - (i + 1)) (by omega) ⟨i + 1, rfl, by omega, by rw [hall, hn]; rfl, by simp [h0], by simp, rfl⟩
  · have hlt' : ¬ (i : Int) < (s.length : Int) := by omega
    rw [List.drop_of_length_le (by omega)] at hall
    rw [hall]
    by_cases hs0 : s = []
    · subst hs0
      obtain rfl : i = 0 := by simpa using hi
      simp [h0, h3]
    · simp [h0, h3, hlt, hlt', hs0]
theorem rname_ok (s : List UInt8) (hs : s.length ≤ 9223372036854775807) : PCalls Tryz.prog n_isobarref15_Name [.str s] (fun r => r = .bool (nameB s)) := by
  refine pcalls_of_awp hmix c_isobarref15_Name rfl ?_
  simp [a_isobarref15_Name]
  refine ac_same (rplain_ok s hs) (by simp) ?_
  rintro r rfl
  cases h : (s.all nb && !s.isEmpty) with
  | false => simp [nameB, h]
  | true =>
    have e : decide ((s.length : Int) ≤ 32) = decide (s.length ≤ 32) := decide_eq_decide.2 (by omega)
    simp [nameB, h, e]
theorem r16split_ok (s : List UInt8) (hs : s.length ≤ 9000000000000000000) : PCalls Tryz.prog n_isobarref16_Split [.str s] (fun r => r = pathAV (path s) 13) := by
  refine pcalls_of_awp hmix c_isobarref16_Split rfl ?_
  simp [a_isobarref16_Split]
  refine ac_same (r16cut_ok s hs) (by simp) ?_
  rintro r rfl
  obtain ⟨L, hL⟩ : ∃ L, (sp s).take 10 = L := ⟨_, rfl⟩
  have hLl : L.length = min 10 (sp s).length := by rw [← hL, List.length_take]
  have hLm : ∀ p ∈ L, p ∈ sp s := fun p hp => by rw [← hL] at hp; exact List.mem_of_mem_take hp
  rw [hL]
  have htl : (strEls L).length = L.length := by simp [strEls]
  simp
  refine lp_startx (fun x f σ => ∃ (i : Nat), x = L.length - i ∧ i ≤ L.length ∧ (∀ p ∈ L.take i, nameB p = true) ∧ f 4 = .lst (strEls L) ∧ f 5 = .int .i64 i ∧ σ = []) L.length ?_ ?_
  · exact ⟨0, by simp, by simp, by simp, by simp, by simp, rfl⟩
  rintro x f σ ⟨i, hx, hi, hall, h4, h5, rfl⟩
  by_cases hlt : i < L.length
  · obtain ⟨p, hp⟩ : ∃ p, L[i]? = some p := ⟨_, List.getElem?_eq_getElem hlt⟩
    have hse : (strEls L)[i]? = some [.str p] := by simp [strEls, hp]
    obtain ⟨hx1, hx2⟩ := List.getElem?_eq_some_iff.1 hse
    have hpm := hLm p (List.mem_of_getElem? hp)
    have hpl := sp_mem_len s p hpm
    have hlt' : (i : Int) < (L.length : Int) := by omega
    have hwi : IntKind.i64.wrap ((i : Int) + 1) = (i : Int) + 1 := wrap_i64 (by omega) (by omega)
    simp [h4, h5, htl, hlt, hlt', hx1, hx2]
    refine ac_same (rname_ok p (by omega)) (by simp) ?_
    rintro r rfl
    cases hn : nameB p with
    | false =>
      have hno : path s = none := by
        unfold path
        rw [if_neg]
        rintro ⟨_, h⟩
        have := List.all_eq_true.1 h p hpm
        rw [hn] at this; cases this
      simp [hno, pathAV]
    | true =>
      simp [h5, hwi]
      refine nx_intro (L.length - (i + 1)) (by omega) ⟨i + 1, rfl, by omega, ?_, by simp [h4], by simp, rfl⟩
      intro q hq
      rw [List.take_add_one, hp] at hq
      rcases List.mem_append.1 hq with hq | hq
      · exact hall q hq
      · simp at hq; subst hq; exact hn
  · have hlt' : ¬ (i : Int) < (L.length : Int) := by omega
    rw [List.take_of_length_le (by omega)] at hall
    by_cases h8 : 8 < L.length
    · have h8' : (8 : Int) < (L.length : Int) := by omega
      have hno : path s = none := by
        unfold path
        rw [if_neg]
        rintro ⟨h, _⟩
        omega
      simp [h4, h5, htl, hlt, hlt', h8, h8', hno, pathAV]
    · have h8' : ¬ (8 : Int) < (L.length : Int) := by omega
      have hLs : L = sp s := by rw [← hL]; exact List.take_of_length_le (by omega)
      have hyes : path s = some L := by
        unfold path
        rw [if_pos, hLs]
        exact ⟨by rw [← hLs]; omega, by rw [← hLs]; exact List.all_eq_true.2 hall⟩
      have e : strEls L = strEls L := rfl
      simp [h4, h5, htl, hlt, hlt', h8, h8', hyes, pathAV, e]
theorem r16right_ok (s : List UInt8) (hs : s.length ≤ 9000000000000000000) : PCalls Tryz.prog n_isobarref16_Right [.str s] (fun r => r = .bool (path s).isSome) := by
  refine pcalls_of_awp hmix c_isobarref16_Right rfl ?_
  simp [a_isobarref16_Right]
  refine ac_same (r16split_ok s hs) (by simp) ?_
  rintro r rfl
  cases h : path s <;> simp [pathAV]
theorem join_take (l : List (List UInt8)) (i : Nat) (p : List UInt8) (hp : l[i]? = some p) : join (l.take (i + 1)) = (if 0 < i then join (l.take i) ++ [46] else []) ++ p := by
  induction l generalizing i with
  | nil => simp at hp
  | cons q l ih =>
    cases i with
    | zero => simp at hp; subst hp; simp [join]
    | succ i =>
      simp only [List.getElem?_cons_succ] at hp
      have := ih i hp
      have hlt := (List.getElem?_eq_some_iff.1 hp).1
      cases l with
      | nil => simp at hp
      | cons q2 l =>
        simp only [List.take_succ_cons, join] at this ⊢
        rw [this]
        cases i with
        | zero => simp [join]
        | succ i => simp [join]
theorem r16join_ok (l : List (List UInt8)) (hl : (join l).length ≤ 140737488355328) (hk : l.length ≤ 140737488355328) : PCalls Tryz.prog n_isobarref16_Join [.lst (strEls l)] (fun r => r = .str (join l)) := by
  refine pcalls_of_awp hmix c_isobarref16_Join rfl ?_
  simp [a_isobarref16_Join]
  have e : (strEls l).length = l.length := by simp [strEls]
  refine lp_startx (fun x f σ => ∃ i : Nat, x = l.length - i ∧ i ≤ l.length ∧ f 0 = .lst (strEls l) ∧ f 3 = .str (join (l.take i)) ∧ f 4 = .int .i64 i ∧ σ = []) l.length ⟨0, by simp, by simp, by simp, by simp [join], by simp, rfl⟩ ?_
  rintro x f σ ⟨i, hx, hi, h0, h3, h4, rfl⟩
  by_cases hlt : i < l.length
  · obtain ⟨p, hp⟩ : ∃ p, l[i]? = some p := ⟨_, List.getElem?_eq_getElem hlt⟩
    have hse : (strEls l)[i]? = some [.str p] := by simp [strEls, hp]
    obtain ⟨hx1, hx2⟩ := List.getElem?_eq_some_iff.1 hse
    have hwi : IntKind.i64.wrap ((i : Int) + 1) = (i : Int) + 1 := wrap_i64 (by omega) (by omega)
    have hlt' : (i : Int) < (l.length : Int) := by omega
    have hjt := join_take l i p hp
    have hjl := join_len l (i + 1)
    have hjl2 := join_len l i
    by_cases h0i : 0 < i
    · have h0i' : (0 : Int) < (i : Int) := by omega
      rw [if_pos h0i] at hjt
      have hlen : (join (l.take i)).length + 1 + p.length ≤ 140737488355328 := by
        rw [hjt] at hjl; simp only [List.length_append, List.length_cons, List.length_nil] at hjl; omega
      have g1 : (join (l.take i)).length + 1 ≤ 9223372036854775807 := by omega
      have g2 : (join (l.take i)).length + (1 + p.length) ≤ 9223372036854775807 := by omega
      have g3 : (join (l.take i)).length + 1 + p.length ≤ 9223372036854775807 := by omega
      simp [h0, h3, h4, e, hlt, hlt', h0i, h0i', hse, hx2, g1, g2, g3, hwi]
      refine nx_intro (l.length - (i + 1)) (by omega) ⟨i + 1, rfl, by omega, by simp [h0], by simp [hjt], by simp, rfl⟩
    · obtain rfl : i = 0 := by omega
      have hpl : p.length ≤ 9223372036854775807 := by
        rw [if_neg (by omega)] at hjt
        simp at hjt
        rw [hjt] at hjl; omega
      have hw1 : IntKind.i64.wrap 1 = 1 := by decide
      simp [h0, h3, h4, e, hlt, hlt', hse, hx2, hwi, join, hpl, hw1]
      refine nx_intro (l.length - 1) (by omega) ⟨1, rfl, by omega, by simp [h0], by rw [hjt]; simp, by simp, rfl⟩
  · have hil : i = l.length := by omega
    subst hil
    have hlt' : ¬ ((l.length : Int) < (l.length : Int)) := by omega
    simp [h0, h3, h4, e]
theorem r16head_ok (s : List UInt8) (n : Int) (hs : s.length ≤ 1000000000) (hn0 : -1000 ≤ n) (hn1 : n ≤ 1000) : PCalls Tryz.prog n_isobarref16_Head [.str s, .int .i64 n] (fun r => r = match path s with
    | none => .tup [.str [], .int .i64 13]
    | some l => if n < 1 ∨ n > l.length then .tup [.str [], .int .i64 1] else .tup [.str (join (l.take n.toNat)), .int .i64 0]) := by
  refine pcalls_of_awp hmix c_isobarref16_Head rfl ?_
  simp [a_isobarref16_Head]
  refine ac_same (r16split_ok s (by omega)) (by simp) ?_
  rintro r rfl
  cases hp : path s with
  | none => simp [pathAV]
  | some l =>
    have hel : (strEls l).length = l.length := by simp [strEls]
    simp [pathAV]
    by_cases h1 : n < 1
    · simp [h1]
    by_cases h2 : n > l.length
    · simp [h1, h2, hel]
    have h0 : 0 ≤ n := by omega
    obtain ⟨k, rfl⟩ : ∃ k : Nat, n = k := ⟨n.toNat, by omega⟩
    have h3 : k ≤ l.length := by omega
    have h2' : ¬ (l.length : Int) < (k : Int) := by omega
    have hsp := path_sp hp
    have hj : join l = s := by rw [hsp.1]; exact join_sp s
    have hone : ∀ c ∈ strEls l, c.length = 1 := by intro c hc; simp [strEls] at hc; obtain ⟨a, _, rfl⟩ := hc; rfl
    have htk : (strEls l).take k = strEls (l.take k) := by simp [strEls, List.map_take]
    have h1' : ¬ k < 1 := by omega
    have h2n : ¬ l.length < k := by omega
    simp [h1, h2', h1', h2n, hel]
    rw [if_pos hone]
    simp [h3, htk]
    have hjl := join_len l k
    refine ac_same (r16join_ok (l.take k) (by rw [hj] at hjl; omega) (by simp; omega)) (by simp) ?_
    rintro r rfl
    simp
    exact ⟨by omega, h3⟩
theorem parse_ne {s : List UInt8} {e : Nat} (hp : parse s = .error e) : e ≠ 0 := by
  unfold parse at hp
  repeat' split at hp
  all_goals first | (cases hp; decide) | cases hp
theorem chk_ok {s : List UInt8} (h : chk s = 0) : ∃ l, parse s = .ok l := by
  unfold chk at h
  cases hp : parse s with
  | error e => rw [hp] at h; exact absurd h (parse_ne hp)
  | ok l => exact ⟨l, rfl⟩
/-- A pattern that may be, and any text: whether it fits. -/
theorem r15match_ok {p : List UInt8} (h : chk p = 0) (name : List UInt8) (hn : name.length ≤ 100000) : PCalls Tryz.prog n_isobarref15_Match [.str p, .str name] (fun v => v = .tup [.bool (matchF p name).1, .int .i64 0]) := by
  obtain ⟨l, hl⟩ := chk_ok h
  have := rMatch_ok (G := G) hl name hn
  simpa [matchF, hl] using this
/-- Names that fit patterns of names, one by one. -/
def fitN (ps ns : List (List UInt8)) : Bool := (ps.zip ns).all fun x => (matchF x.1 x.2).1
theorem r16match_ok (pat pth : List UInt8) (hs : pat.length ≤ 1000000) (hp : pth.length ≤ 1000000) : PCalls Tryz.prog n_isobarref16_Match [.str pat, .str pth] (fun r => r = match nodes pat with
    | .error e => .tup [.bool false, .int .i64 e]
    | .ok ps => match path pth with
      | none => .tup [.bool false, .int .i64 13]
      | some ns => .tup [.bool (decide (ps.length = ns.length) && fitN ps ns), .int .i64 0]) := by
  refine pcalls_of_awp hmix c_isobarref16_Match rfl ?_
  simp [a_isobarref16_Match]
  refine ac_same (r16nodes_ok pat hs) (by simp) ?_
  rintro r rfl
  cases hn : nodes pat with
  | error e =>
    have := nodes_pos hn
    simp [nodesAV, this]
  | ok ps =>
    have hps : ∀ q ∈ ps, chk q = 0 := by
      intro q hq
      have h := hn
      unfold nodes at h
      split at h
      case isFalse => cases h
      split at h
      · cases h
      · rename_i hf
        cases h
        have := List.find?_eq_none.1 hf q hq
        simpa using this
    simp [nodesAV]
    refine ac_same (r16split_ok pth (by omega)) (by simp) ?_
    rintro r rfl
    cases hq : path pth with
    | none => simp [pathAV]
    | some ns =>
      have hnl : ∀ q ∈ ns, q.length ≤ 100000 := by
        intro q hqm
        unfold path at hq
        split at hq
        case isFalse => cases hq
        rename_i hc
        cases hq
        have := List.all_eq_true.1 hc.2 q hqm
        simp [nameB] at this
        omega
      have e1 : (strEls ps).length = ps.length := by simp [strEls]
      have e2 : (strEls ns).length = ns.length := by simp [strEls]
      have hpl := (nodes_ok_sp hn).2
      simp [pathAV, e1, e2]
      by_cases hlen : ps.length = ns.length
      · have hlen' : (ps.length : Int) = (ns.length : Int) := by omega
        simp [hlen, hlen']
        refine lp_startx (fun x f σ => ∃ i : Nat, x = ps.length - i ∧ i ≤ ps.length ∧ f 6 = .lst (strEls ps) ∧ f 8 = .lst (strEls ns) ∧ f 9 = .int .i64 i ∧ (((ps.zip ns).take i).all fun x => (matchF x.1 x.2).1) = true ∧ σ = []) ps.length ⟨0, by simp, by simp, by simp, by simp, by simp, by simp, rfl⟩ ?_
        rintro x f σ ⟨i, hx, hi, h6, h8, h9, hall, rfl⟩
        by_cases hlt : i < ps.length
        · obtain ⟨p, hp1⟩ : ∃ p, ps[i]? = some p := ⟨_, List.getElem?_eq_getElem hlt⟩
          obtain ⟨q, hq1⟩ : ∃ q, ns[i]? = some q := ⟨_, List.getElem?_eq_getElem (by omega)⟩
          have hse : (strEls ps)[i]? = some [.str p] := by simp [strEls, hp1]
          have hse2 : (strEls ns)[i]? = some [.str q] := by simp [strEls, hq1]
          obtain ⟨hx1, hx2⟩ := List.getElem?_eq_some_iff.1 hse
          obtain ⟨hx3, hx4⟩ := List.getElem?_eq_some_iff.1 hse2
          have hwi : IntKind.i64.wrap ((i : Int) + 1) = (i : Int) + 1 := wrap_i64 (by omega) (by omega)
          have hz : (ps.zip ns)[i]? = some (p, q) := by rw [List.getElem?_zip_eq_some]; exact ⟨hp1, hq1⟩
          simp [h6, h8, h9, e1, hlt, hse, hse2, hx2, hx4]
          refine qc_same (r15match_ok (hps p (List.mem_of_getElem? hp1)) q (hnl q (List.mem_of_getElem? hq1))) (by simp) (by simp [rig]) ?_
          cases hm : (matchF p q).1 with
          | false =>
            have : fitN ps ns = false := by
              unfold fitN
              rw [List.all_eq_false]
              exact ⟨(p, q), List.mem_of_getElem? hz, by simp [hm]⟩
            simp [this]
          | true =>
            simp [h9, hwi]
            refine nx_intro (ps.length - (i + 1)) (by omega) ⟨i + 1, rfl, by omega, by simp [h6], by simp [h8], by simp, ?_, rfl⟩
            rw [List.take_add_one, hz]
            simp [hall, hm]
        · have hil : i = ps.length := by omega
          subst hil
          have hf : fitN ps ns = true := by
            unfold fitN
            rw [List.take_of_length_le (by simp; omega)] at hall
            exact hall
          simp [h6, h9, e1, hf, hlen]
      · have hlen' : ¬ (ps.length : Int) = (ns.length : Int) := by omega
        simp [hlen, hlen']
end Go.Proofs.YtjpjmdjjgfllhaaGreatDoor
end
section
namespace Go.Abs
/-- A slice that grows: its elements never change; τ lies behind lo entries. -/
def AccT (e size lo : Nat) (τ : Store) (v : AV) (l : List (List AV)) : Prop := (l = [] ∧ v = .nils) ∨ (l ≠ [] ∧ ∃ p, v = .row (lo + p) l.length ∧ τ[p]? = some (.row e size l true))
theorem AccT.more {e size lo : Nat} {τ : Store} {v : AV} {l : List (List AV)} (h : AccT e size lo τ v l) (x : Store) : AccT e size lo (τ ++ x) v l := by
  rcases h with h | ⟨h1, p, h2, h3⟩
  · exact .inl h
  · exact .inr ⟨h1, p, h2, by rw [List.getElem?_append_left (List.getElem?_eq_some_iff.1 h3).1]; exact h3⟩
theorem AccT.get {e size : Nat} {σ τ : Store} {v : AV} {l : List (List AV)} (h : AccT e size σ.length τ v l) : (l = [] ∧ v = .nils) ∨ (l ≠ [] ∧ ∃ id, σ.length ≤ id ∧ v = .row id l.length ∧ (σ ++ τ)[id]? = some (.row e size l true)) := by
  rcases h with h | ⟨h1, p, h2, h3⟩
  · exact .inl h
  · exact .inr ⟨h1, _, by omega, h2, by rw [List.getElem?_append_right (by omega), Nat.add_sub_cancel_left]; exact h3⟩
theorem AccT.coe {e size : Nat} {σ τ : Store} {v : AV} {l : List (List AV)} (h : AccT e size σ.length τ v l) (lend : Bool) : Coe (σ ++ τ) lend v (.lst l) := by
  rcases h.get with ⟨rfl, rfl⟩ | ⟨h1, id, _, rfl, h3⟩
  · exact .nils
  · exact .row id _ e size l true h3 rfl (.inl rfl)
theorem AccT.fin1 {e size : Nat} {σ τ : Store} {v : AV} {l : List (List AV)} (h : AccT e size σ.length τ v l) (m : Nat) : fin1 (σ ++ τ) m v = some (.lst l) := by
  rcases h.get with ⟨rfl, rfl⟩ | ⟨h1, id, _, rfl, h3⟩
  · rfl
  · simp [Abs.fin1, fz, h3]
theorem AccT.view {e size : Nat} {σ τ : Store} {v : AV} {l : List (List AV)} (h : AccT e size σ.length τ v l) : view (σ ++ τ) v = some l := by
  rcases h.get with ⟨rfl, rfl⟩ | ⟨h1, id, _, rfl, h3⟩
  · rfl
  · simp [Abs.view, h3]
theorem AccT.share {e size : Nat} {σ τ : Store} {v : AV} {l : List (List AV)} (h : AccT e size σ.length τ v l) : share1 (σ ++ τ) v = some (.lst l) := by
  rcases h.get with ⟨rfl, rfl⟩ | ⟨h1, id, _, rfl, h3⟩
  · rfl
  · simp [share1, h3]
theorem AccT.under {e size lo : Nat} {τ : Store} {v : AV} {l : List (List AV)} (h : AccT e size lo τ v l) {m : Nat} (hm : lo + τ.length ≤ m) : v.under m = true := by
  rcases h with ⟨_, rfl⟩ | ⟨_, p, rfl, h3⟩
  · simp [AV.under]
  · have := (List.getElem?_eq_some_iff.1 h3).1
    simp [AV.under]; omega
theorem AccT.finT {e size : Nat} {σ τ : Store} {v : AV} {l : List (List AV)} (h : AccT e size σ.length τ v l) (m : Nat) : Abs.finT (σ ++ τ) m v = some (.lst l) := by
  have h1 := h.fin1 m
  rcases h.get with ⟨_, rfl⟩ | ⟨_, id, _, rfl, _⟩ <;> exact h1
def joinB (J : Frame → Store → Prop) (_ : Tg J) (Q : AExit → Frame → Store → Prop) : AExit → Frame → Store → Prop
  | .normal, f, σ => jn J (.mk J) f (.mk f) σ
  | e, f, σ => Q e f σ
theorem joinB_normal {J : Frame → Store → Prop} {t : Tg J} {Q : AExit → Frame → Store → Prop} {f : Frame} {σ : Store} : joinB J t Q .normal f σ = jn J (.mk J) f (.mk f) σ := rfl
theorem joinB_ret {J : Frame → Store → Prop} {t : Tg J} {Q : AExit → Frame → Store → Prop} {f : Frame} {σ : Store} : joinB J t Q .ret f σ = Q .ret f σ := rfl
theorem joinB_exit {J : Frame → Store → Prop} {t : Tg J} {Q : AExit → Frame → Store → Prop} {f : Frame} {σ : Store} {i : Nat} : joinB J t Q (.exit i) f σ = Q (.exit i) f σ := rfl
attribute [simp ↓] joinB_normal joinB_ret joinB_exit
end Go.Abs
end
