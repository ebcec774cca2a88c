/- Paths of names: Join, Head, Nodes. -/
import Derived.Test.YtkclehdmdnfikaaDoorTrA
import Derived.Test.YtkclehdmdnfikaaDoorGlK
import Derived.Test.YtkclehdmdnfikaaDoorAbs2
set_option linter.unusedSimpArgs false
set_option linter.unusedVariables false
set_option linter.constructorNameAsVariable false
set_option maxHeartbeats 4000000
namespace Go.Trail
theorem lib_join : ∀ l : List (List UInt8), Lib.join l [46] = join l
  | [] => rfl
  | [p] => by rw [Lib.join_one]; rfl
  | p :: q :: ps => by
    have := lib_join (q :: ps)
    rw [Lib.join_cons] at this ⊢
    simp only [join, ← this]
    simp [Lib.joinTail]
theorem join_len : ∀ (l : List (List UInt8)) (n : Nat), (join (l.take n)).length ≤ (join l).length
  | [], n => by simp [join]
  | [p], 0 => by simp [join]
  | [p], n + 1 => by simp [join]
  | p :: q :: ps, 0 => by simp [join]
  | p :: q :: ps, 1 => by simp [join]
  | p :: q :: ps, n + 2 => by
    have := join_len (q :: ps) (n + 1)
    simp [join] at this ⊢; omega
end Go.Trail
namespace Go.Proofs.YtkclehdmdnfikaaDoor
open Go.Abs Go.Glob Go.Trail
variable {G : Globs}

/-- strings.Join, points between. -/
theorem join_ok (l : List (List UInt8)) (hl : (join l).length ≤ 140737488355328) (hk : l.length ≤ 140737488355328) : PCalls Tryd.prog 48 [.lst (strEls l), .str [46]] (fun r => r = .str (join l)) := by
  intro base κ Im w vs hs hv
  obtain ⟨v0, v1, rfl⟩ : ∃ v0 v1, vs = [v0, v1] := by
    match vs, hv.1 with
    | [a, b], _ => exact ⟨a, b, rfl⟩
  have e0 := (hv.2 0 (by simp) (by simp)).lst_inv
  have e1 := (hv.2 1 (by simp) (by simp)).str_inv
  simp only [List.getElem_cons_zero, List.getElem_cons_succ] at e0 e1
  subst e1
  have hel : (strEls l).length = l.length := by simp [strEls]
  rcases e0 with ⟨rfl, h0⟩ | ⟨size, b, o, cap, vals, rfl, h1, h2, h3, h4, h5, h6⟩
  · have hl0 : l = [] := by simpa [strEls] using h0
    subst hl0
    refine (Tryd.strings_Join_none none 0 ⟨#[46]⟩ w).mono ?_
    rintro e w' ⟨rfl, rfl⟩
    exact ⟨_, [], _, κ, Im, rfl, ⟨rfl, rfl⟩, hs, Grow.refl _ _ _ _, .im _ _ (.str [])⟩
  · cases hln : l with
    | nil =>
      subst hln
      refine (Tryd.strings_Join_none _ cap ⟨#[46]⟩ w).mono ?_
      rintro e w' ⟨rfl, rfl⟩
      exact ⟨_, [], _, κ, Im, rfl, ⟨rfl, rfl⟩, hs, Grow.refl _ _ _ _, .im _ _ (.str [])⟩
    | cons p0 ps0 =>
      have hpos : 0 < l.length := by simp [hln]
      rw [← hln]
      have hsz : size = 1 := by
        have := h3 [.str p0] (by simp [strEls, hln])
        simpa using this.symm
      subst hsz
      rw [hel] at h1 h5
      have hval : ∀ k (hk : k < l.length), vals k 0 = .string ⟨(l[k]).toArray⟩ := fun k hk => by
        have := h6 k 0 (by simpa [strEls] using hk) (by simp [strEls])
        simp only [strEls, List.getElem_map, List.getElem_cons_zero] at this
        generalize vals k 0 = v at this ⊢
        cases this; rfl
      have hcell := fun k (hk : k < l.length) => h5 k 0 hk (by omega)
      have hbk : b < w.heap.size := (hs.imlt _ (hcell 0 hpos).1).1
      have hdat : (l.map fun s => (⟨s.toArray⟩ : ByteArray)).map (·.data.toList) = l := by simp [List.map_map, Function.comp_def]
      have hj : Lib.join ((l.map fun s => (⟨s.toArray⟩ : ByteArray)).map (·.data.toList)) (⟨#[46]⟩ : ByteArray).data.toList = join l := by rw [hdat]; exact lib_join l
      have := Tryd.strings_Join b o cap (l.map fun s => (⟨s.toArray⟩ : ByteArray)) ⟨#[46]⟩ w (fun j x hx => by
          simp only [List.getElem?_map, Option.map_eq_some_iff] at hx
          obtain ⟨s, hs', rfl⟩ := hx
          obtain ⟨hj1, rfl⟩ := List.getElem?_eq_some_iff.1 hs'
          have := (hcell j hj1).2
          rw [hval j hj1] at this
          simpa using this) hbk (by simpa using hk) (by simpa using h1) (by rw [hj]; exact hl)
      rw [hj] at this
      simp only [List.length_map] at this
      rw [hel]
      refine this.mono ?_
      rintro e w' ⟨rfl, hb⟩
      obtain ⟨g1, g2⟩ := srel_grow hs hb
      exact ⟨_, [], _, κ, Im, rfl, ⟨rfl, rfl⟩, g1, g2, .im _ _ (.str (join l))⟩

theorem head_ok (s : List UInt8) (n : Int) (hs : s.length ≤ 1000000000) (hn0 : -1000 ≤ n) (hn1 : n ≤ 1000) : PCalls Tryd.prog n_trail_Head [.str s, .int .i64 n] (fun r => r = match path s with
    | none => .tup [.str [], .int .i64 13]
    | some l => if n < 1 ∨ n > l.length then .tup [.str [], .int .i64 1] else .tup [.str (join (l.take n.toNat)), .int .i64 0]) := by
  refine pcalls_of_awp hmix c_trail_Head rfl ?_
  simp [a_trail_Head]
  refine ac_same (split_ok s hs) (by simp) ?_
  rintro r rfl
  cases hp : path s with
  | none => simp [pathAV]
  | some l =>
    have hel : (strEls l).length = l.length := by simp [strEls]
    simp [pathAV]
    by_cases h1 : n < 1
    · simp [h1]
    · by_cases h2 : (l.length : Int) < n
      · simp [h1, h2, hel]
      · simp [h1, h2, hel]
        have hone : ∀ c ∈ strEls l, c.length = 1 := fun c hc => by
          obtain ⟨q, _, rfl⟩ := List.mem_map.1 hc; rfl
        have hn : 0 ≤ n := by omega
        have hnl : n.toNat ≤ l.length := by omega
        have htk : (strEls l).take n.toNat = strEls (l.take n.toNat) := by simp [strEls]
        rw [if_pos hone]
        simp [hn, hnl, htk]
        have hjl : join l = s := by
          unfold path at hp
          split at hp
          · simp only [Option.some.injEq] at hp; rw [← hp]; exact join_sp s
          · cases hp
        have h8 : l.length ≤ 8 := by
          unfold path at hp
          split at hp
          · rename_i h; simp only [Option.some.injEq] at hp; rw [← hp]; exact h.1
          · cases hp
        have hjt := join_len l n.toNat
        rw [hjl] at hjt
        refine ac_same (join_ok (l.take n.toNat) (by omega) (by simp; omega)) (by simp) ?_
        rintro r rfl
        simp
        exact ⟨by omega, by omega⟩

/-- What a pattern's check answers. -/
def chk (s : List UInt8) : Nat := match parse s with | .error e => e | .ok _ => 0
theorem check_ok (s : List UInt8) (hs : s.length ≤ 1000000000) : PCalls Tryd.prog n_glob_Check [.str s] (fun r => r = .int .i64 (match parse s with | .error e => e | .ok _ => (0 : Nat))) := by
  refine pcalls_of_awp hmix c_glob_Check rfl ?_
  simp [a_glob_Check]
  refine ac_same (parse_ok_walk s (by omega)) (by simp) ?_
  rintro r rfl
  cases parse s <;> simp [parseAV]
theorem check_ok' (s : List UInt8) (hs : s.length ≤ 1000000000) : PCalls Tryd.prog n_glob_Check [.str s] (fun r => r = .int .i64 (chk s)) :=
  (check_ok s hs).mono fun r h => by rw [h]; unfold chk; cases parse s <;> rfl
/-- A pattern's patterns of names: the first trouble, or all. -/
def nodes (s : List UInt8) : Except Nat (List (List UInt8)) :=
  if (sp s).length ≤ 8 then match (sp s).find? (fun p => chk p != 0) with
    | some p => .error (chk p)
    | none => .ok (sp s)
  else .error 11
def nodesAV : Except Nat (List (List UInt8)) → AV
  | .ok l => .tup [.lst (strEls l), .int .i64 0]
  | .error e => .tup [.lst [], .int .i64 e]

theorem nodes_ok (s : List UInt8) (hs : s.length ≤ 1000000000) : PCalls Tryd.prog n_trail_Nodes [.str s] (fun r => r = nodesAV (nodes s)) := by
  refine pcalls_of_awp hmix c_trail_Nodes rfl ?_
  simp [a_trail_Nodes]
  refine ac_same (cut_ok s hs) (by simp) ?_
  rintro r rfl
  by_cases h8 : (sp s).length ≤ 8
  · have h8' := (cut_le s).2 h8
    have ec := cutN_eq 8 s (by omega)
    rw [ec] at h8' ⊢
    have e : (strEls (sp s)).length = (sp s).length := by simp [strEls]
    simp [h8, e]
    have hml := sp_mem_len s
    have hp : nodes s = match (sp s).find? (fun p => chk p != 0) with | some p => .error (chk p) | none => .ok (sp s) := by unfold nodes; simp [h8]
    generalize hL : sp s = L at *
    refine lp_start (fun x f σ => ∃ i : Nat, x = L.length - i ∧ i ≤ L.length ∧ f 4 = .lst (strEls L) ∧ f 16 = .lst (strEls L) ∧ f 17 = .int .i64 L.length ∧ f 18 = .int .i64 i ∧ (∀ q ∈ L.take i, chk q = 0) ∧ σ = []) L.length ⟨0, by simp⟩ ?_
    rintro x f σ ⟨i, rfl, hi, h4, h15, h16, h17, hall, rfl⟩
    simp [h16, h17]
    refine cb_dec (fun hlt => ?_) (fun hge => ?_)
    · have hlt' : i < L.length := by omega
      obtain ⟨p, hpp⟩ : ∃ p, L[i]? = some p := ⟨_, List.getElem?_eq_getElem hlt'⟩
      have hm : p ∈ L := List.mem_of_getElem? hpp
      have hse : (strEls L)[i]? = some [.str p] := by simp [strEls, hpp]
      obtain ⟨hx1, hx2⟩ := List.getElem?_eq_some_iff.1 hse
      simp [h15, h17, hse, hx2]
      refine ac_same (check_ok' p (by have := hml p hm; omega)) (by simp) ?_
      rintro r rfl
      simp
      by_cases hz : chk p = 0
      · simp [hz, h4, h15, h16, h17]
        refine ⟨_, ?_, i + 1, rfl, by omega, by rw [wrap_i64 (by omega) (by omega)]; simp, ?_⟩
        · omega
        · intro x hx
          rw [List.take_add_one, hpp] at hx
          simp only [Option.toList_some, List.mem_append, List.mem_singleton] at hx
          rcases hx with hx | rfl
          · exact hall x hx
          · exact hz
      · have hfind : L.find? (fun p => chk p != 0) = some p := by
          rw [List.find?_eq_some_iff_getElem]
          obtain ⟨g1, g2⟩ := List.getElem?_eq_some_iff.1 hpp
          refine ⟨by simpa using hz, i, g1, g2, fun j hj => ?_⟩
          have := hall L[j] (List.mem_take_iff_getElem.2 ⟨j, by omega, rfl⟩)
          simp [this]
        rw [hfind] at hp
        simp [hz, hp, nodesAV]
    · have e : L.take i = L := List.take_of_length_le (by omega)
      rw [e] at hall
      have hfind : L.find? (fun p => chk p != 0) = none := by
        rw [List.find?_eq_none]; intro x hx; simp [hall x hx]
      rw [hfind] at hp
      simp [h4, hp, nodesAV]
  · have h8' : ¬ (cutN 8 s).length ≤ 8 := fun h => h8 ((cut_le s).1 h)
    have hp : nodes s = .error 11 := by unfold nodes; simp [h8]
    simp [h8', hp, nodesAV]

def allM : List (List UInt8) → List (List UInt8) → Bool × Nat
  | n :: ns, s :: ss => if (matchF n s).2 ≠ 0 ∨ (matchF n s).1 = false then (false, (matchF n s).2) else allM ns ss
  | _, _ => (true, 0)
/-- A pattern of paths, and a path. -/
def trMatch (pat pth : List UInt8) : Bool × Nat := match nodes pat with
  | .error e => (false, e)
  | .ok ns => match path pth with
    | none => (false, 13)
    | some l => if l.length = ns.length then allM ns l else (false, 0)
theorem nodes_pos {s : List UInt8} {e : Nat} (h : nodes s = .error e) : e ≠ 0 := by
  unfold nodes at h
  split at h
  · split at h
    · rename_i p hf
      have := List.find?_some hf
      cases h; simpa using this
    · cases h
  · cases h; simp
theorem nodes_ok_sp {s : List UInt8} {l : List (List UInt8)} (h : nodes s = .ok l) : l = sp s ∧ l.length ≤ 8 := by
  unfold nodes at h
  split at h
  · split at h
    · cases h
    · cases h; exact ⟨rfl, by assumption⟩
  · cases h
theorem path_sp {s : List UInt8} {l : List (List UInt8)} (h : path s = some l) : l = sp s ∧ l.length ≤ 8 := by
  unfold path at h
  split at h
  · rename_i hh; simp only [Option.some.injEq] at h; subst h; exact ⟨rfl, hh.1⟩
  · cases h

theorem trMatch_ok (pat pth : List UInt8) (hs : pat.length ≤ 1000000000) (hp : pth.length ≤ 1000000000) : PCalls Tryd.prog n_trail_Match [.str pat, .str pth] (fun r => r = .tup [.bool (trMatch pat pth).1, .int .i64 (trMatch pat pth).2]) := by
  refine pcalls_of_awp hmix c_trail_Match rfl ?_
  simp [a_trail_Match]
  refine ac_same (nodes_ok pat hs) (by simp) ?_
  rintro r rfl
  cases hN : nodes pat with
  | error e =>
    have h0 := nodes_pos hN
    have ht : trMatch pat pth = (false, e) := by unfold trMatch; rw [hN]
    simp [nodesAV, h0, ht]
  | ok ns =>
    obtain ⟨hn1, hn2⟩ := nodes_ok_sp hN
    simp [nodesAV]
    refine ac_same (split_ok pth hp) (by simp) ?_
    rintro r rfl
    cases hP : path pth with
    | none =>
      have ht : trMatch pat pth = (false, 13) := by unfold trMatch; rw [hN, hP]
      simp [pathAV, ht]
    | some l =>
      obtain ⟨hl1, hl2⟩ := path_sp hP
      have en : (strEls ns).length = ns.length := by simp [strEls]
      have el : (strEls l).length = l.length := by simp [strEls]
      by_cases hlen : l.length = ns.length
      · have ht : trMatch pat pth = allM ns l := by unfold trMatch; rw [hN, hP]; simp [hlen]
        simp [pathAV, en, el, hlen]
        refine lp_start (fun x f σ => ∃ i : Nat, x = ns.length - i ∧ i ≤ ns.length ∧ f 6 = .lst (strEls ns) ∧ f 36 = .lst (strEls l) ∧ f 37 = .int .i64 ns.length ∧ f 38 = .int .i64 i ∧ allM (ns.drop i) (l.drop i) = allM ns l ∧ σ = []) ns.length ⟨0, by simp⟩ ?_
        rintro x f σ ⟨i, rfl, hi, h6, h36, h37, h38, hall, rfl⟩
        simp [h37, h38]
        refine cb_dec (fun hlt => ?_) (fun hge => ?_)
        · have hlt' : i < ns.length := by omega
          have hlt2 : i < l.length := by omega
          have hs1 : (strEls l)[i]? = some [.str l[i]] := by simp [strEls, List.getElem?_eq_getElem hlt2]
          have hs2 : (strEls ns)[i]? = some [.str ns[i]] := by simp [strEls, List.getElem?_eq_getElem hlt']
          obtain ⟨hx1, hx2⟩ := List.getElem?_eq_some_iff.1 hs1
          obtain ⟨hy1, hy2⟩ := List.getElem?_eq_some_iff.1 hs2
          have hq1 := sp_mem_len pth l[i] (by rw [← hl1]; exact List.getElem_mem hlt2)
          have hq2 := sp_mem_len pat ns[i] (by rw [← hn1]; exact List.getElem_mem hlt')
          simp [h6, h36, h38, hs1, hx2, hs2, hy2]
          refine ac_same (Match_ok ns[i] l[i] (by omega) (by omega)) (by simp) ?_
          rintro r rfl
          have hst : allM (ns.drop i) (l.drop i) = if (matchF ns[i] l[i]).2 ≠ 0 ∨ (matchF ns[i] l[i]).1 = false then (false, (matchF ns[i] l[i]).2) else allM (ns.drop (i + 1)) (l.drop (i + 1)) := by
            rw [List.drop_eq_getElem_cons hlt', List.drop_eq_getElem_cons hlt2]; rfl
          by_cases hz : (matchF ns[i] l[i]).2 = 0
          · cases hb : (matchF ns[i] l[i]).1 with
            | true =>
              simp [hz, hb] at hst
              simp [hz, hb, h6, h36, h37, h38]
              refine ⟨_, ?_, i + 1, rfl, by omega, by rw [wrap_i64 (by omega) (by omega)]; simp, ?_⟩
              · omega
              · rw [← hst]; exact hall
            | false =>
              simp [hz, hb] at hst
              rw [hst] at hall
              simp [hz, hb, ht, ← hall]
          · simp [hz] at hst
            rw [hst] at hall
            simp [hz, ht, ← hall]
        · have e : ns.drop i = [] := List.drop_eq_nil_of_le (by omega)
          rw [e] at hall
          simp [ht, ← hall, allM]
      · have ht : trMatch pat pth = (false, 0) := by unfold trMatch; rw [hN, hP]; simp [hlen]
        have hlen' : ¬ (l.length : Int) = ns.length := by omega
        simp [pathAV, en, el, hlen, hlen', ht]
end Go.Proofs.YtkclehdmdnfikaaDoor
