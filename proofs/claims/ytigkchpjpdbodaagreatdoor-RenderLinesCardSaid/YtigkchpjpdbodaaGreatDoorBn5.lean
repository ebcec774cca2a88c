/- Patterns of one name: whether a pattern fits a name. Paths of names: Join, Head, Nodes. Targets: the calls' kinds, what fits (the program). Render: wh -/
import Derived.Test.YtigkchpjpdbodaaGreatDoorAbs2
import Derived.Test.YtigkchpjpdbodaaGreatDoorBn1
import Derived.Test.YtigkchpjpdbodaaGreatDoorBn2
import Derived.Test.YtigkchpjpdbodaaGreatDoorBn3
import Derived.Test.YtigkchpjpdbodaaGreatDoorBn4
set_option linter.unusedSimpArgs false
set_option linter.unusedVariables false
set_option linter.constructorNameAsVariable false
section
namespace Go.Glob
open Go.Abs
end Go.Glob
namespace Go.Proofs.YtigkchpjpdbodaaGreatDoor
open Go.Abs Go.Glob
variable {G : Globs}
end Go.Proofs.YtigkchpjpdbodaaGreatDoor
end
section
set_option maxHeartbeats 4000000
namespace Go.Trail
end Go.Trail
namespace Go.Proofs.YtigkchpjpdbodaaGreatDoor
open Go.Abs Go.Glob Go.Trail
variable {G : Globs}
/-- What a pattern's check answers. -/
def chk (s : List UInt8) : Nat := match parse s with | .error e => e | .ok _ => 0
theorem check_ok (s : List UInt8) (hs : s.length ≤ 1000000000) : PCalls Tryz.prog n_glob_Check [.str s] (fun r => r = .int .i64 (match parse s with | .error e => e | .ok _ => (0 : Nat))) := by
  refine pcalls_of_awp hmix c_glob_Check rfl ?_
  simp [a_glob_Check]
  refine ac_same (parse_ok_walk s (by omega)) (by simp) ?_
  rintro r rfl
  cases parse s <;> simp [parseAV]
theorem check_ok' (s : List UInt8) (hs : s.length ≤ 1000000000) : PCalls Tryz.prog n_glob_Check [.str s] (fun r => r = .int .i64 (chk s)) :=
  (check_ok s hs).mono fun r h => by rw [h]; unfold chk; cases parse s <;> rfl
/-- A pattern's patterns of names: the first trouble, or all. -/
def nodes (s : List UInt8) : Except Nat (List (List UInt8)) :=
  if (sp s).length ≤ 8 then match (sp s).find? (fun p => chk p != 0) with
    | some p => .error (chk p)
    | none => .ok (sp s)
  else .error 11
def nodesAV : Except Nat (List (List UInt8)) → AV
  | .ok l => .tup [.lst (strEls l), .int .i64 0]
  | .error e => .tup [.lst [], .int .i64 e]
theorem nodes_ok (s : List UInt8) (hs : s.length ≤ 1000000000) : PCalls Tryz.prog n_trail_Nodes [.str s] (fun r => r = nodesAV (nodes s)) := by
  refine pcalls_of_awp hmix c_trail_Nodes rfl ?_
  simp [a_trail_Nodes]
  refine ac_same (cut_ok s (by omega)) (by simp) ?_
  rintro r rfl
  by_cases h8 : (sp s).length ≤ 8
  · have h8' := (cut_le s).2 h8
    have ec := cutN_eq 8 s (by omega)
    rw [ec] at h8' ⊢
    have e : (strEls (sp s)).length = (sp s).length := by simp [strEls]
    simp [h8, e]
    have hml := sp_mem_len s
    have hp : nodes s = match (sp s).find? (fun p => chk p != 0) with | some p => .error (chk p) | none => .ok (sp s) := by unfold nodes; simp [h8]
    generalize hL : sp s = L at *
    refine lp_start (fun x f σ => ∃ i : Nat, x = L.length - i ∧ i ≤ L.length ∧ f 4 = .lst (strEls L) ∧ f 16 = .lst (strEls L) ∧ f 17 = .int .i64 L.length ∧ f 18 = .int .i64 i ∧ (∀ q ∈ L.take i, chk q = 0) ∧ σ = []) L.length ⟨0, by simp⟩ ?_
    rintro x f σ ⟨i, rfl, hi, h4, h15, h16, h17, hall, rfl⟩
    simp [h16, h17]
    refine cb_dec (fun hlt => ?_) (fun hge => ?_)
    · have hlt' : i < L.length := by omega
      obtain ⟨p, hpp⟩ : ∃ p, L[i]? = some p := ⟨_, List.getElem?_eq_getElem hlt'⟩
      have hm : p ∈ L := List.mem_of_getElem? hpp
      have hse : (strEls L)[i]? = some [.str p] := by simp [strEls, hpp]
      obtain ⟨hx1, hx2⟩ := List.getElem?_eq_some_iff.1 hse
      simp [h15, h17, hse, hx2]
      refine ac_same (check_ok' p (by have := hml p hm; omega)) (by simp) ?_
      rintro r rfl
      simp
      by_cases hz : chk p = 0
      · simp [hz, h4, h15, h16, h17]
        refine ⟨_, ?_, i + 1, rfl, by omega, by rw [wrap_i64 (by omega) (by omega)]; simp, ?_⟩
        · omega
        · intro x hx
          rw [List.take_add_one, hpp] at hx
          simp only [Option.toList_some, List.mem_append, List.mem_singleton] at hx
          rcases hx with hx | rfl
          · exact hall x hx
          · exact hz
      · have hfind : L.find? (fun p => chk p != 0) = some p := by
          rw [List.find?_eq_some_iff_getElem]
          obtain ⟨g1, g2⟩ := List.getElem?_eq_some_iff.1 hpp
          refine ⟨by simpa using hz, i, g1, g2, fun j hj => ?_⟩
          have := hall L[j] (List.mem_take_iff_getElem.2 ⟨j, by omega, rfl⟩)
          simp [this]
        rw [hfind] at hp
        simp [hz, hp, nodesAV]
    · have e : L.take i = L := List.take_of_length_le (by omega)
      rw [e] at hall
      have hfind : L.find? (fun p => chk p != 0) = none := by
        rw [List.find?_eq_none]; intro x hx; simp [hall x hx]
      rw [hfind] at hp
      simp [h4, hp, nodesAV]
  · have h8' : ¬ (cutN 8 s).length ≤ 8 := fun h => h8 ((cut_le s).1 h)
    have hp : nodes s = .error 11 := by unfold nodes; simp [h8]
    simp [h8', hp, nodesAV]
end Go.Proofs.YtigkchpjpdbodaaGreatDoor
end
section
set_option maxHeartbeats 4000000
namespace Go.Abs
open Go.RowKit
/-- A new list of texts that the library hands back. -/
theorem own_strsT {G : Globs} {base : Nat} {κ : Key} {Im : Addr → Prop} {w w' : World} {t : TypeId} {fz : Nat × Nat} {A : Nat} {cur : Array Value} {l : List (List UInt8)} (hs : SRel base κ Im [] w) (hb : Below w.heap.size w w') (hl : l.length ≤ 9223372036854775807)
    (hA : w.heap.size ≤ A) (hg : w'.heap[A]? = some (.cells cur t fz)) (hcur : cur.toList = l.map fun s => Value.string ⟨s.toArray⟩) :
    ∃ Im', SRel base κ Im' [] w' ∧ Grow base κ Im w κ Im' w' ∧ IR Im' w' (.lst (l.map fun s => [.str s])) (.slice (some ⟨A, 0, none⟩) l.length l.length) := by
  have hlt : A < w'.heap.size := by
    rcases Nat.lt_or_ge A w'.heap.size with h | h
    · exact h
    · rw [Array.getElem?_eq_none h] at hg; cases hg
  have hcell : ∀ k (hk : k < l.length), w'.cell? ⟨A, 0 + (k * 1 + 0), none⟩ = some (.string ⟨(l[k]).toArray⟩) := fun k hk => by
    have e : cur[0 + (k * 1 + 0)]? = some (.string ⟨(l[k]).toArray⟩) := by
      rw [← Array.getElem?_toList, hcur]; simp [hk]
    simp [World.cell?, hg]
    simpa using e
  refine ⟨fun a => Im a ∨ (a.block = A ∧ a.spot = none), hs.world (fun _ h => .inl h) (fun a h => h.imp id fun h => ⟨by rw [h.1]; exact hA, by rw [h.1]; exact hlt, h.2⟩) hb.size hb.block,
    ⟨fun _ _ _ h => h, fun _ h => .inl h, fun a ha => World.cell?_of_block (hb.block _ (hs.imlt a ha).1), fun a h => h.imp id fun h => by rw [h.1]; exact Nat.le_trans hs.hb hA, hb.mono hs.hb⟩, ?_⟩
  have hlen : (l.map fun s => [AV.str s]).length = l.length := by simp
  have := IR.lst (Im := fun a => Im a ∨ (a.block = A ∧ a.spot = none)) (w := w') (l.map fun s => [AV.str s]) 1 A 0 l.length (fun k _ => .string ⟨(l.getD k []).toArray⟩) (by simp) hl
    (fun c hc => by simp only [List.mem_map] at hc; obtain ⟨x, _, rfl⟩ := hc; rfl)
    (fun c hc x hx => by simp only [List.mem_map] at hc; obtain ⟨y, _, rfl⟩ := hc; simp at hx; subst hx; rfl)
    (fun k j hk hj => by
      rw [hlen] at hk
      have hj0 : j = 0 := by omega
      subst hj0
      exact ⟨.inr ⟨rfl, rfl⟩, by rw [hcell k hk]; simp [List.getD, hk]⟩)
    (fun k j hk hj => by
      rw [hlen] at hk
      have hj0 : j = 0 := by simpa using hj
      subst hj0
      simp only [List.getElem_map, List.getElem_cons_zero]
      have e : l.getD k [] = l[k] := by simp [List.getD, hk]
      rw [e]
      exact .str _)
  rw [hlen] at this
  exact this
end Go.Abs
namespace Go.Proofs.YtigkchpjpdbodaaGreatDoor
open Go.Abs Go.Tgt
variable {G : Globs}
class GSpcT [Globs] : Prop where
  spc : (1, Lib.asciiSpaceTab.map (AV.int .u8)) ∈ Globs.tab
theorem spcT_ok {G : Globs} [GSpcT] {base : Nat} {κ : Key} {Im : Addr → Prop} {σ : Store} {w : World} (hs : SRel base κ Im σ w) : Lib.TabIs Tryz.prog w "strings.asciiSpace" .u8 Lib.asciiSpaceTab := by
  obtain ⟨t, fz, h1, h2⟩ := glob_ints hs GSpcT.spc
  unfold Lib.TabIs World.var?
  rw [show Tryz.prog.globalNamed "strings.asciiSpace" = some 1 by kernel_rfl]
  simp only [Option.bind_some, h1]
theorem fieldsT_ok {G : Globs} [GSpcT] (s : List UInt8) (hl : s.length ≤ 1000000) (ha : ∀ b ∈ s, b.toNat < 128) (hn : (Lib.fields s).length ≤ 1000000) : PCalls Tryz.prog 120 [.str s] (fun r => r = .lst (strEls (Lib.fields s))) := by
  intro base κ Im w vs hsr hv
  obtain ⟨v0, rfl⟩ : ∃ v0, vs = [v0] := by
    match vs, hv.1 with
    | [a], _ => exact ⟨a, rfl⟩
  have e0 := (hv.2 0 (by simp) (by simp)).str_inv
  simp only [List.getElem_cons_zero] at e0
  subst e0
  refine (Tryz.strings_Fields ⟨s.toArray⟩ w (by show s.toArray.size < _; simp; omega) (fun j b hb => ha b (List.mem_of_getElem? (by simpa using hb))) (spcT_ok hsr)).mono ?_
  rintro e w' ⟨rfl, rfl⟩
  obtain ⟨Im', g1, g2, g3⟩ := own_strsT (A := w.heap.size) (l := Lib.fields s) (t := 9) (fz := (0, 0)) (cur := ((Lib.fields s).map fun l => Value.string ⟨l.toArray⟩).toArray) hsr (w' := w.alloc (.cells ((Lib.fields s).map fun l => Value.string ⟨l.toArray⟩).toArray 9)) (Go.RowKit.Below.alloc (Go.RowKit.Below.refl _ _) (Nat.le_refl _) _) (by omega) (Nat.le_refl _) (Go.MapKept.heap_alloc w _).1 (by simp)
  exact ⟨_, [], _, κ, Im', rfl, ⟨rfl, rfl⟩, g1, g2, .im _ _ g3⟩
theorem idxStrT_ok (l : List (List UInt8)) (hl : l.length ≤ 1000000) (x : List UInt8) : PCalls Tryz.prog n_slices_Index_string_string [.lst (strEls l), .str x] (fun r => ∃ z : Int, r = .int .i64 z ∧ (0 ≤ z ↔ x ∈ l)) := by
  refine pcalls_of_awp hmix c_slices_Index_string_string rfl ?_
  have hlen : (strEls l).length = l.length := by simp [strEls]
  simp [a_slices_Index_string_string, hlen]
  refine lp_startx (fun n f σ => ∃ k : Nat, n = l.length - k ∧ k ≤ l.length ∧ f 0 = .lst (strEls l) ∧ f 1 = .str x ∧ f 7 = .int .i64 l.length ∧ f 8 = .int .i64 k ∧ x ∉ l.take k ∧ σ = []) l.length ?_ ?_
  · exact ⟨0, rfl, by omega, by simp, by simp, by simp, by simp, by simp, rfl⟩
  rintro n f σ ⟨k, rfl, hk, f0, f1, f7, f8, hx, rfl⟩
  simp [f7, f8]
  refine cb_dec (fun hlt => ?_) (fun hge => ?_)
  · have hlt' : k < l.length := by omega
    obtain ⟨y, hy⟩ : ∃ y, l[k]? = some y := ⟨_, List.getElem?_eq_getElem hlt'⟩
    have hte : (strEls l)[k]? = some [.str y] := by simp [strEls, hy]
    obtain ⟨h1, h2⟩ := List.getElem?_eq_some_iff.1 hte
    have hw : IntKind.i64.wrap ((k : Int) + 1) = (k : Int) + 1 := wrap_i64 (by omega) (by omega)
    by_cases he : x = y
    · subst he
      simp [f0, f1, f8, hte, h1, h2]
      exact List.mem_of_getElem? hy
    · simp [f0, f1, f8, hte, h1, h2, he, hw]
      refine nx_intro (l.length - (k + 1)) (by omega) ⟨k + 1, rfl, by omega, by simp [f0], by simp [f1], by simp [f7], by simp, ?_, rfl⟩
      rw [List.take_add_one, hy]
      simp [hx, he]
  · have : k = l.length := by omega
    subst this
    rw [List.take_length] at hx
    simp
    exact hx
theorem containsStrT_ok (l : List (List UInt8)) (hl : l.length ≤ 1000000) (x : List UInt8) : PCalls Tryz.prog n_slices_Contains_string_string [.lst (strEls l), .str x] (fun r => r = .bool (decide (x ∈ l))) := by
  refine pcalls_of_awp hmix c_slices_Contains_string_string rfl ?_
  simp [a_slices_Contains_string_string]
  refine ac_same (idxStrT_ok l hl x) (by simp) ?_
  rintro r ⟨z, rfl, hz⟩
  simp [hz]
theorem hasPre_ok (s p : List UInt8) : PCalls Tryz.prog n_strings_HasPrefix [.str s, .str p] (fun r => r = .bool (Lib.hasPrefix s p)) := by
  refine pcalls2 fun base κ Im w v u hs hv hu => ?_
  have e0 := hv.str_inv
  have e1 := hu.str_inv
  subst e0; subst e1
  refine (Tryz.strings_HasPrefix ⟨s.toArray⟩ ⟨p.toArray⟩ w).mono ?_
  rintro e w' ⟨rfl, rfl⟩
  exact ⟨_, _, rfl, rfl, Go.RowKit.Below.refl _ _, fun Im' => .bool _⟩
theorem cutSuf_ok (s p : List UInt8) (hl : s.length ≤ 1000000) : PCalls Tryz.prog n_strings_CutSuffix [.str s, .str p] (fun r => r = .tup [.str (Lib.trimSuffix s p), .bool (Lib.hasSuffix s p)]) := by
  refine pcalls2 fun base κ Im w v u hs hv hu => ?_
  have e0 := hv.str_inv
  have e1 := hu.str_inv
  subst e0; subst e1
  refine (Tryz.strings_CutSuffix ⟨s.toArray⟩ ⟨p.toArray⟩ w (by show s.toArray.size ≤ _; simp; omega)).mono ?_
  rintro e w' ⟨rfl, rfl⟩
  refine ⟨_, _, rfl, rfl, Go.RowKit.Below.refl _ _, fun Im' => ?_⟩
  exact IR.tup _ [_, _] rfl (fun j hj hj' => by
    match j, hj with
    | 0, _ => exact .str _
    | 1, _ => exact .bool _)
theorem trimT_ok (s : List UInt8) (c : UInt8) (hc : c.toNat < 128) (hl : s.length ≤ 1000000) : PCalls Tryz.prog n_strings_Trim [.str s, .str [c]] (fun r => r = .str (Lib.trimB s c)) := by
  refine pcalls2 fun base κ Im w v u hs hv hu => ?_
  have e0 := hv.str_inv
  have e1 := hu.str_inv
  subst e0; subst e1
  refine (Tryz.strings_Trim_one ⟨s.toArray⟩ c hc w (by show s.toArray.size ≤ _; simp; omega)).mono ?_
  rintro e w' ⟨rfl, hw⟩
  refine ⟨_, _, rfl, rfl, ?_, fun Im' => .str _⟩
  rcases hw with rfl | rfl
  · exact Go.RowKit.Below.refl _ _
  · exact (Go.RowKit.Below.refl _ _).drew
theorem upperT_ok (s : List UInt8) (ha : ∀ b ∈ s, b.toNat < 128) (hl : s.length ≤ 1000000) : PCalls Tryz.prog n_strings_ToUpper [.str s] (fun r => r = .str (Lib.toUpperA s)) := by
  refine pcalls1 fun base κ Im w v hs hv => ?_
  have e0 := hv.str_inv
  subst e0
  refine (Tryz.strings_ToUpper_ascii ⟨s.toArray⟩ w (by show s.toArray.size ≤ _; simp; omega) (fun j b hb => ha b (List.mem_of_getElem? (by simpa using hb)))).mono ?_
  rintro e w' ⟨rfl, hb⟩
  exact ⟨_, _, rfl, rfl, hb, fun Im' => .str _⟩
/-- Kinds that fit arguments as they are. -/
def CapK (b : Bool) (args k : List UInt8) : Prop := ∃ s c, k = s ++ [c] ∧ Lib.toUpperA s = s ∧ Lib.upperB c = c ∧ b = decide (args = k)
/-- .. and kinds whose last one may lack. -/
def LowK (b : Bool) (args k : List UInt8) : Prop := ∃ s c, k = s ++ [c] ∧ s ≠ [] ∧ Lib.toUpperA s = s ∧ Lib.upperB c ≠ c ∧ b = (decide (args = s) || decide (args = s ++ [Lib.upperB c]))
theorem upperA_app (s : List UInt8) (c : UInt8) : Lib.toUpperA (s ++ [c]) = Lib.toUpperA s ++ [Lib.upperB c] := by simp [Lib.toUpperA]
theorem tfits_plain (ks args : List UInt8) (b : Bool) (hn : Lib.hasSuffix ks [43] = false) (ha : ∀ x ∈ ks, x.toNat < 128) (hl : ks.length ≤ 10) (h : CapK b args ks ∨ LowK b args ks) :
    PCalls Tryz.prog n_target_fits [.str ks, .str args] (fun r => r = .bool b) := by
  refine pcalls_of_awp hmix c_target_fits rfl ?_
  simp [a_target_fits]
  refine ac_same (cutSuf_ok ks [43] (by omega)) (by simp) ?_
  rintro r rfl
  simp [hn]
  refine lp_startx (fun x f σ => ∃ k2, x = k2.length ∧ f 0 = .str k2 ∧ f 1 = .str args ∧ (∀ y ∈ k2, y.toNat < 128) ∧ k2.length ≤ 10 ∧ (CapK b args k2 ∨ LowK b args k2) ∧ σ = []) ks.length ⟨ks, rfl, by simp, by simp, ha, hl, h, rfl⟩ ?_
  rintro x f σ ⟨k2, rfl, h0, h1, ha2, hl2, hk, rfl⟩
  simp [h0, h1]
  refine ac_same (upperT_ok k2 ha2 (by omega)) (by simp) ?_
  rintro r rfl
  rcases hk with ⟨s, c, rfl, hs, hc, hb⟩ | ⟨s, c, rfl, hs0, hs, hc, hb⟩
  · simp only [List.length_append, List.length_singleton] at hl2
    have hw : IntKind.i64.wrap ((s.length : Int) + 1 - 1) = (s.length : Int) := by rw [wrap_i64 (by omega) (by omega)]; omega
    have hw2 : IntKind.i64.wrap (s.length : Int) = (s.length : Int) := wrap_i64 (by omega) (by omega)
    have hdt : List.drop s.length (List.take (s.length + 1) (s ++ [c])) = [c] := by rw [List.take_of_length_le (by simp)]; simp
    have hac : ∀ y ∈ [c], y.toNat < 128 := fun y hy => ha2 y (by simp at hy; simp [hy])
    rw [upperA_app, hs, hc]
    by_cases he : args = s ++ [c]
    · simp [he] at hb
      simp [h1, he, hb]
    · have he' : ¬ s ++ [c] = args := fun e => he e.symm
      simp [he] at hb
      by_cases hs0 : s = []
      · subst hs0
        simp at he'
        have hw0 : IntKind.i64.wrap 0 = 0 := by decide
        simp [h0, h1, he', hb, hw0]
      · simp [h0, h1, he', hw, hw2, hdt, hs0]
        have hq := upperT_ok (G := G) [c] hac (by simp)
        have hcc : Lib.toUpperA [c] = [c] := by simp [Lib.toUpperA, hc]
        rw [hcc] at hq
        refine qc_same hq (by simp) (by simp [rig]) ?_
        simp [hb]
  · simp only [List.length_append, List.length_singleton] at hl2
    have hw : IntKind.i64.wrap ((s.length : Int) + 1 - 1) = (s.length : Int) := by rw [wrap_i64 (by omega) (by omega)]; omega
    have hw2 : IntKind.i64.wrap (s.length : Int) = (s.length : Int) := wrap_i64 (by omega) (by omega)
    have hdt : List.drop s.length (List.take (s.length + 1) (s ++ [c])) = [c] := by rw [List.take_of_length_le (by simp)]; simp
    have hac : ∀ y ∈ [c], y.toNat < 128 := fun y hy => ha2 y (by simp at hy; simp [hy])
    rw [upperA_app, hs]
    by_cases he : args = s ++ [Lib.upperB c]
    · simp [he] at hb
      simp [h1, he, hb]
    · have he' : ¬ s ++ [Lib.upperB c] = args := fun e => he e.symm
      simp [he] at hb
      have hc' : ¬ c = Lib.upperB c := fun e => hc e.symm
      simp [h0, h1, he', hw, hw2, hdt, hs0]
      have hq := upperT_ok (G := G) [c] hac (by simp)
      have hcc : Lib.toUpperA [c] = [Lib.upperB c] := by simp [Lib.toUpperA]
      rw [hcc] at hq
      refine qc_same hq (by simp) (by simp [rig]) ?_
      simp [hc', h1]
      refine nx_intro s.length (by simp) ⟨s, rfl, by simp, by simp [h1], fun y hy => ha2 y (by simp [hy]), by omega, .inl ?_, rfl⟩
      obtain ⟨s', c', rfl⟩ : ∃ s' c', s = s' ++ [c'] := ⟨s.dropLast, s.getLast hs0, (List.dropLast_concat_getLast hs0).symm⟩
      rw [upperA_app] at hs
      have := List.append_inj' hs rfl
      exact ⟨s', c', rfl, this.1, by simpa using this.2, by simpa using hb⟩
theorem trimB_nil : ∀ (l : List UInt8) (c : UInt8), (Lib.trimB l c = [] ↔ ∀ x ∈ l, x = c) := by
  intro l c
  have key : ∀ m : List UInt8, (m.dropWhile (· == c) = [] ↔ ∀ x ∈ m, x = c) := by
    intro m
    induction m with
    | nil => simp
    | cons a m ih =>
      by_cases h : a = c
      · subst h; simp [ih]
      · have : (a == c) = false := by simpa using h
        simp [List.dropWhile_cons, this, h]
  unfold Lib.trimB Lib.trimLeftB Lib.trimRightB
  rw [key]
  constructor
  · intro h
    have h2 : (l.reverse.dropWhile (· == c)) = [] := by
      cases hd : l.reverse.dropWhile (· == c) with
      | nil => rfl
      | cons a m =>
        have h1 : a = c := h a (by rw [hd]; simp)
        have := List.head?_dropWhile_not (p := (· == c)) l.reverse
        rw [hd] at this
        simp [h1] at this
    intro x hx
    exact (key _).1 h2 x (by simpa using hx)
  · intro h x hx
    have h2 := (key l.reverse).2 (fun y hy => h y (by simpa using hy))
    rw [h2] at hx
    simp at hx
/-- The kinds whose last one may come again. -/
theorem tfits_plus (s : List UInt8) (c : UInt8) (args : List UInt8) (hc : c.toNat < 128) (hs : s.length ≤ 10) (hl : args.length ≤ 1000) :
    PCalls Tryz.prog n_target_fits [.str (s ++ [c] ++ [43]), .str args] (fun r => r = .bool (Lib.hasPrefix args (s ++ [c]) && decide (Lib.trimB (args.drop (s ++ [c]).length) c = []))) := by
  refine pcalls_of_awp hmix c_target_fits rfl ?_
  have hsuf : Lib.hasSuffix (s ++ [c] ++ [43]) [43] = true := by
    unfold Lib.hasSuffix; rw [List.isSuffixOf_iff_suffix]; exact ⟨s ++ [c], rfl⟩
  have htr : Lib.trimSuffix (s ++ [c] ++ [43]) [43] = s ++ [c] := by
    unfold Lib.trimSuffix
    have e : (s ++ [c] ++ [(43 : UInt8)]).length - [(43 : UInt8)].length = (s ++ [c]).length := by simp
    rw [if_pos hsuf, e, List.take_left]
  have hcut := cutSuf_ok (G := G) (s ++ [c] ++ [43]) [43] (by simp; omega)
  rw [hsuf, htr] at hcut
  simp [a_target_fits] at hcut ⊢
  refine ac_same hcut (by simp) ?_
  rintro r rfl
  have hw2 : IntKind.i64.wrap (s.length : Int) = (s.length : Int) := wrap_i64 (by omega) (by omega)
  have hdt : List.drop s.length (List.take (s.length + 1) (s ++ [c])) = [c] := by rw [List.take_of_length_le (by simp)]; simp
  simp [hw2, hdt]
  refine ac_same (hasPre_ok args (s ++ [c])) (by simp) ?_
  rintro r rfl
  cases hp : Lib.hasPrefix args (s ++ [c]) with
  | false => simp
  | true =>
    have hle : s.length + 1 ≤ args.length := by
      unfold Lib.hasPrefix at hp
      have := (List.isPrefixOf_iff_prefix.1 hp).length_le
      simpa using this
    have hle' : (s.length : Int) + 1 ≤ (args.length : Int) := by omega
    have hta : List.drop (s.length + 1) (List.take args.length args) = args.drop (s.length + 1) := by rw [List.take_of_length_le (by omega)]
    have hp0 : (0 : Int) ≤ (s.length : Int) + 1 := by omega
    simp [hle, hle', hta, hp0]
    refine ac_same (trimT_ok (args.drop (s.length + 1)) c hc (by simp; omega)) (by simp) ?_
    rintro r rfl
    simp
theorem pre_iff (args s : List UInt8) : Lib.hasPrefix args s = true ↔ ∃ r, args = s ++ r := by
  unfold Lib.hasPrefix
  rw [List.isPrefixOf_iff_prefix]
  exact ⟨fun ⟨r, h⟩ => ⟨r, h.symm⟩, fun ⟨r, h⟩ => ⟨r, h.symm⟩⟩
theorem fam_kinds : famT.map (·.1) = [[83], [83, 78], [83, 110], [83, 78, 78], [83, 78, 116], [83, 43], [83, 83], [83, 78, 84], [83, 84], [83, 78, 43], [78]] := rfl
theorem tfits_ok (ks args : List UInt8) (hk : ks ∈ famT.map (·.1)) (hl : args.length ≤ 1000) : PCalls Tryz.prog n_target_fits [.str ks, .str args] (fun r => r = .bool (fitK ks args)) := by
  have hcap : ∀ (k : List UInt8), (∃ s c, k = s ++ [c] ∧ Lib.toUpperA s = s ∧ Lib.upperB c = c) → CapK (decide (args = k)) args k := fun k ⟨s, c, h1, h2, h3⟩ => ⟨s, c, h1, h2, h3, rfl⟩
  rw [fam_kinds] at hk
  simp only [List.mem_cons, List.mem_nil_iff, or_false] at hk
  rcases hk with rfl | rfl | rfl | rfl | rfl | rfl | rfl | rfl | rfl | rfl | rfl
  · rw [fit_S]; exact tfits_plain _ _ _ (by decide) (by decide) (by decide) (.inl (hcap _ ⟨[], 83, by decide⟩))
  · rw [fit_SN]; exact tfits_plain _ _ _ (by decide) (by decide) (by decide) (.inl (hcap _ ⟨[83], 78, by decide⟩))
  · rw [fit_Sn]; exact tfits_plain _ _ _ (by decide) (by decide) (by decide) (.inr ⟨[83], 110, rfl, by decide, by decide, by decide, rfl⟩)
  · rw [fit_SNN]; exact tfits_plain _ _ _ (by decide) (by decide) (by decide) (.inl (hcap _ ⟨[83, 78], 78, by decide⟩))
  · rw [fit_SNt]; exact tfits_plain _ _ _ (by decide) (by decide) (by decide) (.inr ⟨[83, 78], 116, rfl, by decide, by decide, by decide, rfl⟩)
  · rw [fit_Sp]
    refine (tfits_plus [] 83 args (by decide) (by decide) hl).mono ?_
    rintro r rfl
    congr 1
    rw [Bool.eq_iff_iff]
    simp only [List.nil_append, Bool.and_eq_true, decide_eq_true_eq, trimB_nil, pre_iff]
    cases args with
    | nil => simp
    | cons a r =>
      simp
  · rw [fit_SS]; exact tfits_plain _ _ _ (by decide) (by decide) (by decide) (.inl (hcap _ ⟨[83], 83, by decide⟩))
  · rw [fit_SNT]; exact tfits_plain _ _ _ (by decide) (by decide) (by decide) (.inl (hcap _ ⟨[83, 78], 84, by decide⟩))
  · rw [fit_ST]; exact tfits_plain _ _ _ (by decide) (by decide) (by decide) (.inl (hcap _ ⟨[83], 84, by decide⟩))
  · rw [fit_SNp]
    refine (tfits_plus [83] 78 args (by decide) (by decide) hl).mono ?_
    rintro r rfl
    congr 1
    rw [Bool.eq_iff_iff]
    simp only [Bool.and_eq_true, decide_eq_true_eq, trimB_nil, pre_iff]
    match args with
    | [] => simp
    | [a] => simp
    | a :: b :: r =>
      simp [and_assoc]
  · rw [fit_N]; exact tfits_plain _ _ _ (by decide) (by decide) (by decide) (.inl (hcap _ ⟨[], 78, by decide⟩))
/-- The table of families. -/
def famCells : List AV := famT.flatMap fun p => [.str p.1, .str p.2]
class GFam [Globs] : Prop where
  fam : Globs.tab.lookup 0 = some famCells
theorem cells_at : ∀ (l : List (List UInt8 × List UInt8)) (j : Nat) (p : List UInt8 × List UInt8), l[j]? = some p → ((l.flatMap fun p => [AV.str p.1, .str p.2]).drop (j * 2)).take 2 = [.str p.1, .str p.2]
  | [], j, p, h => by simp at h
  | q :: l, 0, p, h => by simp at h; subst h; simp
  | q :: l, j + 1, p, h => by
    have ih := cells_at l j p (by simpa using h)
    rw [show (j + 1) * 2 = j * 2 + 2 by omega]
    simpa using ih
theorem fam_ok : (famT.all fun p => decide (p.2.length ≤ 1000) && p.2.all (fun b => decide (b.toNat < 128)) && decide ((Lib.fields p.2).length ≤ 100)) = true := by kernel_rfl
def kindsAV : Option (List UInt8) → AV
  | none => .tup [.str [], .bool false]
  | some k => .tup [.str k, .bool true]
theorem tKinds_ok [GSpcT] [GFam] (call : List UInt8) : PCalls Tryz.prog n_target_Kinds [.str call] (fun r => r = kindsAV (kindsS call)) := by
  refine pcalls_of_awp hmix c_target_Kinds rfl ?_
  have hg := GFam.fam (self := ‹GFam›)
  have hcl : famCells.length = 22 := rfl
  have hcl2 : famT.length = 11 := rfl
  have htk : famCells.take 22 = famCells := rfl
  simp [a_target_Kinds, hg, hcl, htk]
  refine lp_startx (fun x f σ => ∃ j : Nat, x = 11 - j ∧ j ≤ 11 ∧ f 0 = .str call ∧ f 6 = .agg famCells ∧ f 7 = .int .i64 j ∧ famT.find? (fun p => decide (call ∈ Lib.fields p.2)) = (famT.drop j).find? (fun p => decide (call ∈ Lib.fields p.2))) 11 ⟨0, by simp⟩ ?_
  rintro x f σ ⟨j, hx, hj, h0, h6, h7, hfind⟩
  by_cases hlt : j < 11
  · obtain ⟨p, hp⟩ : ∃ p, famT[j]? = some p := ⟨_, List.getElem?_eq_getElem (by rw [hcl2]; exact hlt)⟩
    have hlti : (j : Int) < 11 := by omega
    have hc2 := cells_at famT j p hp
    have hc3 : (famCells.drop (j * 2)).take 2 = [.str p.1, .str p.2] := hc2
    have hw : IntKind.i64.wrap ((j : Int) + 1) = (j : Int) + 1 := wrap_i64 (by omega) (by omega)
    have hal := List.all_eq_true.1 fam_ok p (List.mem_of_getElem? hp)
    simp only [Bool.and_eq_true, decide_eq_true_eq, List.all_eq_true] at hal
    have hdr : famT.drop j = p :: famT.drop (j + 1) := by
      obtain ⟨h1, rfl⟩ := List.getElem?_eq_some_iff.1 hp
      exact List.drop_eq_getElem_cons h1
    rw [hdr, List.find?_cons] at hfind
    have h20 : j * 2 ≤ 20 := by omega
    simp [h0, h6, h7, hlt, hlti, hcl, hc3, boxOp, splice, h20]
    refine ac_same (fieldsT_ok p.2 (by omega) hal.1.2 (by omega)) (by simp) ?_
    rintro r rfl
    simp [h0]
    refine ac_same (containsStrT_ok (Lib.fields p.2) (by omega) call) (by simp) ?_
    rintro r rfl
    by_cases hin : call ∈ Lib.fields p.2
    · have hk : kindsS call = some p.1 := by
        unfold kindsS; rw [hfind]; simp [hin]
      simp [hin, hk, kindsAV]
    · simp [hin, h7, hw]
      refine nx_intro (11 - (j + 1)) (by omega) ⟨j + 1, rfl, by omega, by simp [h0], by simp [h6], by simp, ?_⟩
      rw [hfind]; simp [hin]
  · have hj11 : j = 11 := by omega
    subst hj11
    have hk : kindsS call = none := by
      unfold kindsS; rw [hfind, List.drop_of_length_le (by rw [hcl2]; exact Nat.le_refl _)]; rfl
    simp [h7, hk, kindsAV]
end Go.Proofs.YtigkchpjpdbodaaGreatDoor
end
section
set_option maxHeartbeats 2000000
namespace Go.Proofs.YtigkchpjpdbodaaGreatDoor
open Go.Abs Go.Trail
theorem digF_ok : ∀ (k u : Nat) {l}, digF k u = some l → l = Lib.decDigits u
  | 0, u, l, h => by cases h
  | k + 1, u, l, h => by
    unfold digF at h
    rw [Lib.decDigits]
    split at h
    · rename_i hu
      cases h
      have hu' : u < 10 := by simpa using hu
      rw [dif_pos hu']
    · rename_i hu
      have hu' : ¬ u < 10 := by simpa using hu
      rw [dif_neg hu']
      split at h
      · rename_i m hm
        cases h
        rw [digF_ok k _ hm]
      · cases h
def itE (n : Int) : Option (List UInt8) := match n with
  | .ofNat u => if Nat.blt u 9223372036854775808 = true then digF 25 u else none
  | .negSucc u => if Nat.blt u 9223372036854775808 = true then (match digF 25 (u + 1) with | some l => some (45 :: l) | none => none) else none
theorem itE_ok {n : Int} {l : List UInt8} (h : itE n = some l) : l = Lib.itoa n ∧ -9223372036854775808 ≤ n ∧ n ≤ 9223372036854775807 := by
  unfold itE at h
  cases n with
  | ofNat u =>
    simp only at h
    split at h
    · rename_i hu
      have hu' : u < 9223372036854775808 := by simpa using hu
      refine ⟨?_, by show (-9223372036854775808 : Int) ≤ (u : Int); omega, by show (u : Int) ≤ _; omega⟩
      rw [digF_ok _ _ h, Lib.itoa, if_neg (by simp)]
      try rfl
    · cases h
  | negSucc u =>
    simp only at h
    split at h
    · rename_i hu
      have hu' : u < 9223372036854775808 := by simpa using hu
      split at h
      · rename_i m hm
        cases h
        refine ⟨?_, by omega, by omega⟩
        rw [digF_ok _ _ hm, Lib.itoa, if_pos (by omega)]
        try rfl
      · cases h
    · cases h
variable [Globs]
def splE : ECall := purE 162 fun args => match args with
  | [.str s, .str [46], .int .i64 9] => if Nat.ble s.length 100000 = true then some (.lst (strEls (cutN 8 s))) else none
  | _ => none
theorem splE_ok : CallOK Tryz.prog splE := by
  refine purE_ok fun args r e => ?_
  split at e
  · rename_i s
    split at e
    · rename_i h
      cases e
      have h' : s.length ≤ 100000 := by simpa using h
      exact splitN_ok s (by omega)
    · cases e
  · cases e
def fldE : ECall := purE 120 fun args => match args with
  | [.str s] => if and (Nat.ble s.length 100000) (and (s.all fun b => Nat.blt b.toNat 128) (Nat.ble (Lib.fields s).length 100000)) = true then some (.lst (strEls (Lib.fields s))) else none
  | _ => none
theorem fldE_ok [GSpcT] : CallOK Tryz.prog fldE := by
  refine purE_ok fun args r e => ?_
  split at e
  · rename_i s
    split at e
    · rename_i h
      cases e
      simp only [Bool.and_eq_true, List.all_eq_true] at h
      have h1 : s.length ≤ 100000 := by simpa using h.1
      have h3 : (Lib.fields s).length ≤ 100000 := by simpa using h.2.2
      exact fieldsT_ok s (by omega) (fun b hb => by simpa using h.2.1 b hb) (by omega)
    · cases e
  · cases e
def joiE : ECall := purE 48 fun args => match args with
  | [.lst l, .str [c]] => (match strsOf l with
    | some m => if and (Nat.ble (Lib.join m [c]).length 100000) (Nat.ble m.length 100000) = true then some (.str (Lib.join m [c])) else none
    | none => none)
  | _ => none
theorem joiE_ok : CallOK Tryz.prog joiE := by
  refine purE_ok fun args r e => ?_
  split at e
  · rename_i l c
    split at e
    · rename_i m hm
      split at e
      · rename_i h
        cases e
        simp only [Bool.and_eq_true] at h
        have h1 : (Lib.join m [c]).length ≤ 100000 := by simpa using h.1
        have h2 : m.length ≤ 100000 := by simpa using h.2
        rw [strsOf_ok l hm]
        exact join1_ok c m (by omega) (by omega)
      · cases e
    · cases e
  · cases e
theorem count1_ok (s : List UInt8) (c : UInt8) : PCalls Tryz.prog 152 [.str s, .str [c]] (fun r => r = .int .i64 (Lib.countByte s c)) :=
  pcalls2 fun base κ Im w v u hs h1 h2 => by
    have e1 := h1.str_inv
    have e2 := h2.str_inv
    subst e1 e2
    refine (Tryz.strings_Count_one ⟨s.toArray⟩ c w).mono ?_
    rintro e w' ⟨rfl, rfl⟩
    exact ⟨.int .i64 _, _, rfl, rfl, Go.RowKit.Below.refl _ _, fun Im' => IR.int _ _⟩
def cntE : ECall := purE 152 fun args => match args with
  | [.str s, .str [c]] => some (.int .i64 (Lib.countByte s c))
  | _ => none
theorem cntE_ok : CallOK Tryz.prog cntE := by
  refine purE_ok fun args r e => ?_
  split at e
  · cases e; exact count1_ok _ _
  · cases e
theorem rItoa_ok [GPow] (n : Int) (h0 : -9223372036854775808 ≤ n) (h1 : n ≤ 9223372036854775807) : PCalls Tryz.prog 44 [.int .i64 n] (fun r => r = .str (Lib.itoa n)) :=
  pcalls1 fun base κ Im w v hs hv => by
    cases hv.int_inv
    refine (Tryz.strconv_Itoa n h0 h1 w (tab_ok hs)).mono ?_
    rintro e w' ⟨rfl, k, os, rfl⟩
    exact ⟨_, _, rfl, rfl, Lib.below_grow _ w (Nat.le_refl _) k os, fun Im' => .str _⟩
def itoE : ECall := purE 44 fun args => match args with
  | [.int .i64 n] => (match itE n with | some l => some (.str l) | none => none)
  | _ => none
theorem itoE_ok [GPow] : CallOK Tryz.prog itoE := by
  refine purE_ok fun args r e => ?_
  split at e
  · split at e
    · rename_i l hl
      cases e
      obtain ⟨h1, h2, h3⟩ := itE_ok hl
      rw [h1]
      exact rItoa_ok _ h2 h3
    · cases e
  · cases e
def fmtE : ECall := purE 93 fun args => match args with
  | [.int .i64 n, .int .i64 10] => (match itE n with | some l => some (.str l) | none => none)
  | _ => none
theorem fmtE_ok [GPow] : CallOK Tryz.prog fmtE := by
  refine purE_ok fun args r e => ?_
  split at e
  · split at e
    · rename_i l hl
      cases e
      obtain ⟨h1, h2, h3⟩ := itE_ok hl
      rw [h1]
      exact formatInt_ok _ h2 h3
    · cases e
  · cases e
def ccE : ECall := fun g args σ => if Nat.beq g 50 = true then (match args with
  | [.ptr id 0] => (match σ[id]? with
    | some (.var t [a, b]) => if and (Nat.beq t 73) (or (avEq 1 a .nilp) (avEq 1 a (.ptr id 0))) = true then some (.tup [], σ.set id (.var 73 [.ptr id 0, b])) else none
    | _ => none)
  | _ => none) else none
theorem ccE_ok : CallOK Tryz.prog ccE := by
  intro g args σ r σ' h
  unfold ccE at h
  split at h
  · rename_i hg
    have hg' : g = 50 := by simpa using hg
    subst hg'
    split at h
    · rename_i id
      split at h
      · rename_i t a b hent
        split at h
        · rename_i hc
          cases h
          simp only [Bool.and_eq_true, Bool.or_eq_true] at hc
          have ht : t = 73 := by simpa using hc.1
          subst ht
          exact copyCheck_ok (σ := σ) Tryz.laysCC Tryz.XCC (hc.2.imp (avEq_ok 1 _ _) (avEq_ok 1 _ _)) hent
        · cases h
      · cases h
    · cases h
  · cases h
def stgE : ECall := fun g args σ => if Nat.beq g 20 = true then (match args with
  | [.ptr id 0] => (match σ[id]? with
    | some (.var t [a, .row rid n]) => (match σ[rid]? with
      | some (.row e 1 els true) => (match bysOf els with
        | some bs => if and (Nat.beq t 73) (and (Nat.beq e 5) (and (Nat.beq n bs.length) (Nat.blt 0 bs.length))) = true then some (.str bs, σ.set rid (.dead bs.length)) else none
        | none => none)
      | _ => none)
    | _ => none)
  | _ => none) else none
theorem stgE_ok : CallOK Tryz.prog stgE := by
  intro g args σ r σ' h
  unfold stgE at h
  split at h
  · rename_i hg
    have hg' : g = 20 := by simpa using hg
    subst hg'
    split at h
    · rename_i id
      split at h
      · rename_i t a rid n hent
        split at h
        · rename_i e els hrow
          split at h
          · rename_i bs hbs
            split at h
            · rename_i hc
              cases h
              simp only [Bool.and_eq_true] at hc
              have ht : t = 73 := by simpa using hc.1
              have he : e = 5 := by simpa using hc.2.1
              have hn : n = bs.length := by simpa using hc.2.2.1
              have h0 : 0 < bs.length := by simpa using hc.2.2.2
              subst ht he hn
              rw [bysOf_ok _ hbs] at hrow
              exact string_ex Tryz.lays169 Tryz.Builder_Extra_169 hent (fun h => by rw [h] at h0; simp at h0) hrow
            · cases h
          · cases h
        · cases h
      · cases h
    · cases h
  · cases h
def libE : ECall := orE splE (orE fldE (orE joiE (orE cntE (orE itoE (orE fmtE (orE ccE stgE))))))
theorem libE_ok [GSpcT] [GPow] : CallOK Tryz.prog libE := orE_ok splE_ok (orE_ok fldE_ok (orE_ok joiE_ok (orE_ok cntE_ok (orE_ok itoE_ok (orE_ok fmtE_ok (orE_ok ccE_ok stgE_ok))))))
end Go.Proofs.YtigkchpjpdbodaaGreatDoor
end
section
set_option maxHeartbeats 4000000
namespace Go.Tgt
theorem kinds_mem {call k : List UInt8} (h : kindsS call = some k) : k ∈ famT.map (·.1) := by
  unfold kindsS at h
  rw [Option.map_eq_some_iff] at h
  obtain ⟨p, h1, rfl⟩ := h
  exact List.mem_map.2 ⟨p, List.mem_of_find?_eq_some h1, rfl⟩
/-- Arguments that stand in the list. -/
def InL (l : List Nd) (n : Nd) : Prop := n.args.length ≤ 1000 ∧ (n.kind = 1 → n.text.length ≤ 1000000) ∧ ∀ a ∈ n.args, 0 ≤ a ∧ a < l.length
end Go.Tgt
namespace Go.Proofs.YtigkchpjpdbodaaGreatDoor
open Go.Abs Go.Tgt Go.Trail
variable {G : Globs}
theorem bytesOf_els : ∀ l : List UInt8, bytesOf (byteEls l) = some l
  | [] => rfl
  | c :: l => by
    have ih := bytesOf_els l
    unfold byteEls at ih ⊢
    simp [bytesOf, ih]
def nodE (s : List UInt8) : Nat := match nodes s with
  | .error e => e
  | .ok _ => 0
theorem tletter_ok (n : Nd) : PCalls Tryz.prog n_target_letter [ndA n] (fun r => r = .int .u8 (letterS n).toNat) := by
  refine pcalls_of_awp hmix c_target_letter rfl ?_
  obtain ⟨k, s, v, a⟩ := n
  by_cases h2 : k = 2
  · subst h2; simp [a_target_letter, boxOp, ndA_eq, letterS]
  · by_cases h3 : k = 3
    · subst h3; simp [a_target_letter, boxOp, ndA_eq, letterS]
    · simp [a_target_letter, boxOp, ndA_eq, letterS, h2, h3]
/-- What a tree's node is, as an argument. -/
def lettA (l : List Nd) (a : Int) : UInt8 := letterS (l.getD a.toNat ⟨0, [], 0, []⟩)
theorem byteEls_app1 (l : List UInt8) (c : UInt8) : byteEls l ++ [[.int .u8 c.toNat]] = byteEls (l ++ [c]) := by simp [byteEls]
theorem byteEls_pureT (l : List UInt8) : ∀ c ∈ byteEls l, ∀ a ∈ c, a.pure = true := by
  intro c hc a ha
  obtain ⟨n, _, rfl⟩ := List.mem_map.1 hc
  simp only [List.mem_cons, List.mem_nil_iff, or_false] at ha
  subst ha; simp [AV.pure]
theorem byteEls_len (l : List UInt8) : (byteEls l).length = l.length := by simp [byteEls]
theorem tnode_ok [GSpcT] [GFam] (l : List Nd) (n : Nd) (hl : l.length ≤ 1000000) (hn : InL l n) :
    PCalls Tryz.prog n_target_node [.lst (ndEls l), ndA n] (fun r => r = .int .i64 (nodeS nodE l n)) := by
  refine pcalls_of_awp hmix c_target_node rfl ?_
  obtain ⟨k, s, v, a⟩ := n
  obtain ⟨hn1, hn2, hn3⟩ := hn
  simp only at hn1 hn2 hn3
  by_cases h1 : k = 1
  · subst h1
    simp [a_target_node, boxOp, ndA_eq, nodeS]
    refine ac_same (nodes_ok s (by have := hn2 rfl; omega)) (by simp) ?_
    rintro r rfl
    unfold nodE
    cases nodes s with
    | error e => simp [nodesAV]
    | ok x => simp [nodesAV]
  by_cases h4 : k = 4
  · subst h4
    simp [a_target_node, boxOp, ndA_eq, nodeS]
    refine ac_same (tKinds_ok s) (by simp) ?_
    rintro r rfl
    cases hk : kindsS s with
    | none => simp [kindsAV]
    | some ks =>
      have hkm := kinds_mem hk
      have hal := intEls_len a
      simp [kindsAV, hal]
      refine lp_startx (fun x f σ => ∃ j : Nat, x = a.length - j ∧ j ≤ a.length ∧ f 0 = .lst (ndEls l) ∧ f 7 = .str ks ∧ f 34 = .lst (intEls a) ∧ f 35 = .int .i64 a.length ∧ f 36 = .int .i64 j ∧ AccI 5 1 σ (f 9) (byteEls ((a.take j).map (lettA l)))) a.length ⟨0, by simp, by simp, by simp, by simp, by simp, by simp, by simp, by simpa [byteEls] using accI_nil⟩ ?_
      rintro x f σ ⟨j, hx, hj, f0, f7, f34, f35, f36, hacc⟩
      by_cases hlt : j < a.length
      · obtain ⟨y, hy⟩ : ∃ y, a[j]? = some y := ⟨_, List.getElem?_eq_getElem hlt⟩
        have hym := List.mem_of_getElem? hy
        obtain ⟨y0, y1⟩ := hn3 y hym
        obtain ⟨m, rfl⟩ : ∃ m : Nat, y = (m : Int) := ⟨y.toNat, by omega⟩
        have hml : m < l.length := by omega
        obtain ⟨nd, hnd⟩ : ∃ nd, l[m]? = some nd := ⟨_, List.getElem?_eq_getElem hml⟩
        have hge := ndEls_get hnd
        obtain ⟨g1, g2⟩ := List.getElem?_eq_some_iff.1 hge
        have hie : (intEls a)[j]? = some [.int .i64 m] := by simp [intEls, hy]
        obtain ⟨i1, i2⟩ := List.getElem?_eq_some_iff.1 hie
        have hnl := ndEls_len l
        have hlti : (j : Int) < (a.length : Int) := by omega
        have hw : IntKind.i64.wrap ((j : Int) + 1) = (j : Int) + 1 := wrap_i64 (by omega) (by omega)
        have hmi : (m : Int) < (l.length : Int) := by omega
        have hlet := tletter_ok (G := G) nd
        rw [ndA_eq] at hlet
        have hle : lettA l (m : Int) = letterS nd := by simp [lettA, List.getD, hnd]
        simp [f0, f34, f35, f36, hlt, hlti, hie, i1, i2, hge, g1, g2, hnl, hmi, hml, hal]
        refine ac_same hlet (by simp) ?_
        rintro r rfl
        simp [f36]
        refine ap_accI (bytes := 1) hacc [.int .u8 (letterS nd).toNat] (by decide) rfl (by rw [byteEls_app1]; exact byteEls_pureT _) (by rw [byteEls_len]; simp; omega) (by rw [byteEls_len]; simp; omega) fun V' σ2 ha2 hk2 hkeep hsame => ?_
        simp [f36, hw]
        refine nx_intro (a.length - (j + 1)) (by omega) ⟨j + 1, rfl, by omega, by simp [f0], by simp [f7], by simp [f34], by simp [f35], by simp, ?_⟩
        rw [byteEls_app1] at ha2
        rw [List.take_add_one, hy]
        simpa [hle] using ha2
      · have hja : j = a.length := by omega
        subst hja
        rw [List.take_length] at hacc
        have hv := hacc.view
        have hb := bytesOf_els (a.map (lettA l))
        simp [f7, f35, f36, hv, hb]
        refine ac_same (tfits_ok ks (a.map (lettA l)) hkm (by simp; omega)) (by simp) ?_
        rintro r rfl
        have he : (a.map fun a => letterS (l[a.toNat]?.getD ⟨0, [], 0, []⟩)) = a.map (lettA l) := rfl
        cases hf : fitK ks (a.map (lettA l)) with
        | true => simp [he, hf]
        | false => simp [he, hf]
  · simp [a_target_node, boxOp, ndA_eq, nodeS, h1, h4]
end Go.Proofs.YtigkchpjpdbodaaGreatDoor
end
section
namespace Go.Tgt
/-- How deep a node is above such ones. -/
def deepS (l : List (Nat × Nat)) : Nat := l.foldr (fun w d => max d (w.2 + 1)) 1
theorem deepS_pos : ∀ l, 1 ≤ deepS l
  | [] => Nat.le_refl _
  | w :: l => by have := deepS_pos l; simp only [deepS, List.foldr_cons] at this ⊢; omega
theorem deepS_cons (w : Nat × Nat) (l) : deepS (w :: l) = max (deepS l) (w.2 + 1) := rfl
theorem deepS_mem : ∀ {l : List (Nat × Nat)} {w : Nat × Nat}, w ∈ l → w.2 + 1 ≤ deepS l
  | x :: l, w, h => by
    rw [deepS_cons]
    rcases List.mem_cons.1 h with rfl | h
    · omega
    · have := deepS_mem h; omega
theorem deepS_le {l : List (Nat × Nat)} {m : Nat} (h : ∀ w ∈ l, w.2 ≤ m) : deepS l ≤ m + 1 := by
  induction l with
  | nil => simp [deepS]
  | cons w l ih =>
    rw [deepS_cons]
    have := ih fun w hw => h w (by simp [hw])
    have := h w (by simp)
    omega
def atsS (l : List (Nat × Nat)) : List Int := l.map fun w => (w.1 : Int)
/-- A node takes its arguments off the stack, and stands there itself. -/
def stepS (n : Nd) (S : List (Nat × Nat)) (i : Nat) : Option (List (Nat × Nat)) :=
  if n.args.length ≤ S.length ∧ atsS (S.drop (S.length - n.args.length)) = n.args then some (S.take (S.length - n.args.length) ++ [(i, deepS (S.drop (S.length - n.args.length)))]) else none
def shapeF (own : Nd → Bool) : List Nd → Nat → List (Nat × Nat) → Option (List (Nat × Nat))
  | [], _, S => some S
  | n :: r, i, S => if own n = true then (stepS n S i).bind (shapeF own r (i + 1)) else none
def shapeS (own : Nd → Bool) (l : List Nd) : Option (List (Nat × Nat)) := shapeF own l 0 []
theorem shapeF_app (own : Nd → Bool) : ∀ (l m : List Nd) (i : Nat) (S), shapeF own (l ++ m) i S = (shapeF own l i S).bind (shapeF own m (i + l.length))
  | [], m, i, S => by simp [shapeF]
  | n :: l, m, i, S => by
    simp only [List.cons_append, shapeF]
    split
    · cases stepS n S i with
      | none => rfl
      | some S' =>
        simp only [Option.bind_some]
        rw [shapeF_app own l m (i + 1) S']
        simp only [List.length_cons]
        rw [show i + 1 + l.length = i + (l.length + 1) by omega]
    · rfl
theorem shapeS_snoc (own : Nd → Bool) (l : List Nd) (n : Nd) : shapeS own (l ++ [n]) = (shapeS own l).bind fun S => if own n = true then stepS n S l.length else none := by
  unfold shapeS
  rw [shapeF_app]
  congr 1
  funext S
  simp only [shapeF, Nat.zero_add]
  split
  · cases stepS n S l.length <;> rfl
  · rfl
/-- Where the nodes begin that the j-th of a stack stands above of. -/
def bOf (S : List (Nat × Nat)) : Nat → Nat
  | 0 => 0
  | j + 1 => match S[j]? with
    | some w => w.1 + 1
    | none => 0
/-- Arguments stand one behind the other. -/
def ChainP (B : Nat → Nat) : Nat → Nat → List Int → Prop
  | b, e, [] => b = e
  | b, e, a :: as_ => ∃ k : Nat, a = (k : Int) ∧ B k = b ∧ b ≤ k ∧ k < e ∧ ChainP B (k + 1) e as_
theorem ChainP.le {B : Nat → Nat} : ∀ {as_ : List Int} {b e : Nat}, ChainP B b e as_ → b ≤ e
  | [], b, e, h => Nat.le_of_eq h
  | a :: as_, b, e, h => by
    obtain ⟨k, _, _, h1, h2, _⟩ := h
    omega
theorem ChainP.congr {B B' : Nat → Nat} : ∀ {as_ : List Int} {b e : Nat}, ChainP B b e as_ → (∀ k, k < e → B' k = B k) → ChainP B' b e as_
  | [], b, e, h, _ => h
  | a :: as_, b, e, h, hB => by
    obtain ⟨k, h0, h1, h2, h3, h4⟩ := h
    exact ⟨k, h0, by rw [hB k h3]; exact h1, h2, h3, h4.congr hB⟩
theorem ChainP.mem {B : Nat → Nat} : ∀ {as_ : List Int} {b e : Nat}, ChainP B b e as_ → ∀ a ∈ as_, 0 ≤ a ∧ a.toNat < e ∧ b ≤ B a.toNat
  | a :: as_, b, e, h, x, hx => by
    obtain ⟨k, h0, h1, h2, h3, h4⟩ := h
    rcases List.mem_cons.1 hx with rfl | hx
    · subst h0
      simp; omega
    · have := h4.mem x hx
      omega
/-- Nodes as a tree's, or several: B tells where a node's own nodes begin, D how deep it is. -/
structure Linked (own : Nd → Bool) (l : List Nd) (B D : Nat → Nat) : Prop where
  chain : ∀ (i : Nat) (n : Nd), l[i]? = some n → ChainP B (B i) i n.args
  deep : ∀ (i : Nat) (n : Nd), l[i]? = some n → 1 ≤ D i ∧ ∀ a ∈ n.args, D a.toNat + 1 ≤ D i
  own : ∀ (i : Nat) (n : Nd), l[i]? = some n → own n = true
/-- What stands on the stack behind such nodes. -/
structure OnStack (l : List Nd) (B D : Nat → Nat) (S : List (Nat × Nat)) : Prop where
  lt : ∀ w ∈ S, w.1 < l.length
  beg : ∀ (j : Nat) (w : Nat × Nat), S[j]? = some w → B w.1 = bOf S j ∧ D w.1 = w.2 ∧ bOf S j ≤ w.1
  top : bOf S S.length = l.length
theorem bOf_take {S T : List (Nat × Nat)} {j : Nat} (h : j ≤ S.length) : bOf (S ++ T) j = bOf S j := by
  cases j with
  | zero => rfl
  | succ j => simp only [bOf]; rw [List.getElem?_append_left (by omega)]
theorem chain_stack {l : List Nd} {B D : Nat → Nat} {S : List (Nat × Nat)} (h : OnStack l B D S) : ∀ (m j : Nat), m + j = S.length → ChainP B (bOf S j) l.length (atsS (S.drop j))
  | 0, j, hm => by
    rw [List.drop_eq_nil_of_le (by omega)]
    show bOf S j = l.length
    rw [← h.top]; congr 1; omega
  | m + 1, j, hm => by
    obtain ⟨w, hw⟩ : ∃ w, S[j]? = some w := ⟨_, List.getElem?_eq_getElem (by omega)⟩
    obtain ⟨hlt, hwe⟩ := List.getElem?_eq_some_iff.1 hw
    rw [List.drop_eq_getElem_cons hlt, hwe]
    obtain ⟨h1, h2, h3⟩ := h.beg j w hw
    have ih := chain_stack h m (j + 1) (by omega)
    refine ⟨w.1, rfl, h1, h3, h.lt w (List.mem_of_getElem? hw), ?_⟩
    have : bOf S (j + 1) = w.1 + 1 := by simp [bOf, hw]
    rw [← this]; exact ih
theorem linked_of (own : Nd → Bool) (l : List Nd) : ∀ (S : List (Nat × Nat)), shapeS own l = some S → ∃ B D, Linked own l B D ∧ OnStack l B D S := by
  obtain ⟨r, hr⟩ : ∃ r, r = l.reverse := ⟨_, rfl⟩
  obtain rfl : l = r.reverse := by rw [hr, List.reverse_reverse]
  clear hr
  induction r with
  | nil =>
    intro S h
    simp only [shapeS, shapeF, List.reverse_nil, Option.some.injEq] at h
    subst h
    exact ⟨fun _ => 0, fun _ => 0, ⟨fun i n h => by simp at h, fun i n h => by simp at h, fun i n h => by simp at h⟩, ⟨fun w h => by simp at h, fun j w h => by simp at h, rfl⟩⟩
  | cons n r ih =>
    intro S h
    rw [List.reverse_cons] at h ⊢
    generalize r.reverse = l at h ih
    rw [shapeS_snoc] at h
    cases hS : shapeS own l with
    | none => rw [hS] at h; cases h
    | some S0 =>
      rw [hS] at h
      simp only [Option.bind_some] at h
      split at h
      case isFalse => cases h
      rename_i hown
      unfold stepS at h
      split at h
      case isFalse => cases h
      rename_i hcond
      obtain ⟨hlen, hats⟩ := hcond
      simp only [Option.some.injEq] at h
      obtain ⟨B, D, hL, hO⟩ := ih S0 hS
      obtain ⟨j, hj⟩ : ∃ j, j = S0.length - n.args.length := ⟨_, rfl⟩
      rw [← hj] at h hats
      have hjl : j ≤ S0.length := by omega
      have hch := chain_stack hO (S0.length - j) j (by omega)
      rw [hats] at hch
      obtain ⟨B', hB'⟩ : ∃ B' : Nat → Nat, B' = fun k => if k = l.length then bOf S0 j else B k := ⟨_, rfl⟩
      obtain ⟨D', hD'⟩ : ∃ D' : Nat → Nat, D' = fun k => if k = l.length then deepS (S0.drop j) else D k := ⟨_, rfl⟩
      have hBo : ∀ k, k < l.length → B' k = B k := fun k hk => by rw [hB']; simp; omega
      have hDo : ∀ k, k < l.length → D' k = D k := fun k hk => by rw [hD']; simp; omega
      have hBn : B' l.length = bOf S0 j := by rw [hB']; simp
      have hDn : D' l.length = deepS (S0.drop j) := by rw [hD']; simp
      have hcase : ∀ (i : Nat) (x : Nd), (l ++ [n])[i]? = some x → (i < l.length ∧ l[i]? = some x) ∨ (i = l.length ∧ x = n) := fun i x hx => by
        by_cases hi : i < l.length
        · rw [List.getElem?_append_left hi] at hx; exact .inl ⟨hi, hx⟩
        · rw [List.getElem?_append_right (by omega)] at hx
          have := (List.getElem?_eq_some_iff.1 hx).1
          simp at this
          have e : i = l.length := by omega
          subst e
          simp at hx
          exact .inr ⟨rfl, hx.symm⟩
      refine ⟨B', D', ⟨fun i x hx => ?_, fun i x hx => ?_, fun i x hx => ?_⟩, ⟨fun w hw => ?_, fun k w hw => ?_, ?_⟩⟩
      · rcases hcase i x hx with ⟨hi, hx⟩ | ⟨rfl, rfl⟩
        · rw [hBo i hi]
          exact (hL.chain i x hx).congr fun k hk => hBo k (by omega)
        · rw [hBn]
          exact hch.congr hBo
      · rcases hcase i x hx with ⟨hi, hx⟩ | ⟨rfl, rfl⟩
        · rw [hDo i hi]
          refine ⟨(hL.deep i x hx).1, fun a ha => ?_⟩
          have := (hL.chain i x hx).mem a ha
          rw [hDo _ (by omega)]
          exact (hL.deep i x hx).2 a ha
        · rw [hDn]
          refine ⟨deepS_pos _, fun a ha => ?_⟩
          rw [← hats] at ha
          obtain ⟨w, hw, rfl⟩ := List.mem_map.1 ha
          have hw2 := deepS_mem hw
          obtain ⟨q, hq⟩ := List.getElem?_of_mem hw
          rw [List.getElem?_drop] at hq
          have hb := (hO.beg _ _ hq).2.1
          have hlt := hO.lt w (List.mem_of_getElem? hq)
          simp only [Int.toNat_natCast]
          rw [hDo _ hlt, hb]; exact hw2
      · rcases hcase i x hx with ⟨hi, hx⟩ | ⟨rfl, rfl⟩
        · exact hL.own i x hx
        · exact hown
      · subst h
        rcases List.mem_append.1 hw with hw | hw
        · have := hO.lt w (List.mem_of_mem_take hw)
          simp; omega
        · simp at hw; subst hw; simp
      · subst h
        by_cases hk : k < j
        · rw [List.getElem?_append_left (by simp; omega), List.getElem?_take, if_pos hk] at hw
          obtain ⟨h1, h2, h3⟩ := hO.beg k w hw
          have hlt := hO.lt w (List.mem_of_getElem? hw)
          have e : bOf (S0.take j ++ [(l.length, deepS (S0.drop j))]) k = bOf S0 k := by
            rw [bOf_take (by simp; omega)]
            have := bOf_take (S := S0.take j) (T := S0.drop j) (j := k) (by simp; omega)
            rw [List.take_append_drop] at this
            exact this.symm
          rw [hBo _ hlt, hDo _ hlt, e]
          exact ⟨h1, h2, h3⟩
        · rw [List.getElem?_append_right (by simp; omega)] at hw
          have := (List.getElem?_eq_some_iff.1 hw).1
          simp at this
          have e : k = j := by omega
          subst e
          have hz : k - (S0.take k).length = 0 := by simp; omega
          rw [hz] at hw
          simp at hw; subst hw
          have e : bOf (S0.take k ++ [(l.length, deepS (S0.drop k))]) k = bOf S0 k := by
            rw [bOf_take (by simp; omega)]
            have := bOf_take (S := S0.take k) (T := S0.drop k) (j := k) (by simp; omega)
            rw [List.take_append_drop] at this
            exact this.symm
          rw [e, hBn]
          exact ⟨rfl, hDn, hch.le⟩
      · subst h
        have : (S0.take j ++ [(l.length, deepS (S0.drop j))]).length = j + 1 := by simp; omega
        rw [this]
        simp only [bOf]
        rw [List.getElem?_append_right (by simp; omega)]
        have hz : j - (S0.take j).length = 0 := by simp; omega
        rw [hz]
        simp
end Go.Tgt
end
section
namespace Go.Tgt
section
variable {α : Type} (body : Nd → List α → α) (d : α)
/-- Arguments stand ahead. -/
def Back (l : List Nd) : Prop := ∀ (i : Nat) (n : Nd), l[i]? = some n → ∀ a ∈ n.args, a.toNat < i
variable {body d}
end
theorem Linked.back {own : Nd → Bool} {l : List Nd} {B D : Nat → Nat} (h : Linked own l B D) : Back l := fun i n hn a ha => ((h.chain i n hn).mem a ha).2.1
def sumW (W : Nd → Nat) (l : List Nd) : Nat := (l.map W).sum
theorem sumW_app (W : Nd → Nat) (l m : List Nd) : sumW W (l ++ m) = sumW W l + sumW W m := by simp [sumW]
theorem sumW_one (W : Nd → Nat) (n : Nd) : sumW W [n] = W n := by simp [sumW]
/-- How many tokens a node has. -/
def wTok (n : Nd) : Nat := if n.kind = 4 then 3 + (n.args.length - 1) else 1
theorem stepS_top {n : Nd} {S W : List (Nat × Nat)} {i : Nat} (h : atsS W = n.args) : stepS n (S ++ W) i = some (S ++ [(i, deepS W)]) := by
  have hl : n.args.length = W.length := by rw [← h]; simp [atsS]
  have e : (S ++ W).length - n.args.length = S.length := by rw [List.length_append]; omega
  unfold stepS
  rw [e, if_pos ⟨by rw [List.length_append]; omega, by rw [List.drop_left]; exact h⟩, List.take_left, List.drop_left]
/-- Nodes of which tokens tell. -/
structure Owns (own : Nd → Bool) (t : List Tok.Tk) : Prop where
  path : ∀ x ∈ t, x.kind = 1 → own ⟨1, x.text, 0, []⟩ = true
  num : ∀ x ∈ t, x.kind = 2 → own ⟨2, [], numOf x.text, []⟩ = true
  txt : ∀ x ∈ t, x.kind = 3 → own ⟨3, x.text, 0, []⟩ = true
  call : ∀ s as_, as_.length ≤ 16 → own ⟨4, s, 0, as_⟩ = true
theorem Owns.tail {own : Nd → Bool} {x : Tok.Tk} {t : List Tok.Tk} (h : Owns own (x :: t)) : Owns own t :=
  ⟨fun y hy => h.path y (by simp [hy]), fun y hy => h.num y (by simp [hy]), fun y hy => h.txt y (by simp [hy]), h.call⟩
theorem Owns.sub {own : Nd → Bool} {t t' : List Tok.Tk} (h : Owns own t) (hs : ∀ x ∈ t', x ∈ t) : Owns own t' :=
  ⟨fun y hy => h.path y (hs y hy), fun y hy => h.num y (hs y hy), fun y hy => h.txt y (hs y hy), h.call⟩
/-- One more tree stands behind the ones there were. -/
def OneMore (own : Nd → Bool) (lv : Nat) (S : List (Nat × Nat)) (t : List Tok.Tk) (l : List Nd) (l' : List Nd) (t' : List Tok.Tk) : Prop :=
  (∃ d, d ≤ lv ∧ shapeS own l' = some (S ++ [(l'.length - 1, d)])) ∧ l'.length ≠ 0 ∧ sumW wTok l' + t'.length ≤ sumW wTok l + t.length ∧ (∃ n l0, l' = l0 ++ [n]) ∧ ∀ x ∈ t', x ∈ t
theorem oneMore_leaf {own : Nd → Bool} {lv : Nat} {S : List (Nat × Nat)} {x : Tok.Tk} {r : List Tok.Tk} {l : List Nd} {n : Nd} (hS : shapeS own l = some S) (ho : own n = true) (ha : n.args = []) (hk : n.kind ≠ 4) : OneMore own (lv + 1) S (x :: r) l (l ++ [n]) r := by
  refine ⟨⟨1, by omega, ?_⟩, by simp, ?_, ⟨n, l, rfl⟩, fun y hy => by simp [hy]⟩
  · rw [shapeS_snoc, hS, Option.bind_some, if_pos ho]
    have := stepS_top (n := n) (S := S) (W := []) (i := l.length) (by rw [ha]; rfl)
    rw [List.append_nil] at this
    rw [this]
    simp [deepS]
  · rw [sumW_app, sumW_one]
    simp [wTok, hk]; omega
theorem argsP_more {own : Nd → Bool} {lv : Nat} {word : List UInt8} {T : List Tok.Tk} (hT : Owns own T)
    (hsub : ∀ (t : List Tok.Tk) (l l' : List Nd) (t' : List Tok.Tk) (S), (∀ x ∈ t, x ∈ T) → shapeS own l = some S → argP lv t l = .ok (l', t') → OneMore own lv S t l l' t') :
    ∀ (f : Nat) (args : List Int) (t : List Tok.Tk) (l l' : List Nd) (t' : List Tok.Tk) (S W : List (Nat × Nat)), (∀ x ∈ t, x ∈ T) → shapeS own l = some (S ++ W) → atsS W = args → (∀ w ∈ W, w.2 ≤ lv) → args.length ≤ 15 →
      argsP (argP lv) word f args t l = .ok (l', t') → (∃ d, d ≤ lv + 1 ∧ shapeS own l' = some (S ++ [(l'.length - 1, d)])) ∧ l'.length ≠ 0 ∧ sumW wTok l' + t'.length ≤ sumW wTok l + t.length + 2 + args.length ∧ (∃ n l0, l' = l0 ++ [n]) ∧ ∀ x ∈ t', x ∈ t
  | 0, args, t, l, l', t', S, W, _, _, _, _, _, h => by simp [argsP] at h
  | f + 1, args, t, l, l', t', S, W, ht, hS, hW, hd, h15, h => by
    unfold argsP at h
    cases hx : argP lv t l with
    | error e => rw [hx] at h; cases h
    | ok p =>
      obtain ⟨l1, t1⟩ := p
      rw [hx] at h
      simp only at h
      obtain ⟨⟨d1, hd1, hs1⟩, hl1, hw1, _, hm1⟩ := hsub t l l1 t1 _ ht hS hx
      rw [List.append_assoc] at hs1
      have hats : atsS (W ++ [(l1.length - 1, d1)]) = args ++ [(l1.length : Int) - 1] := by
        simp only [atsS, List.map_append, List.map_cons, List.map_nil]
        congr 1
        · congr 1; omega
      have hdd : ∀ w ∈ W ++ [(l1.length - 1, d1)], w.2 ≤ lv := fun w hw => by
        rcases List.mem_append.1 hw with hw | hw
        · exact hd w hw
        · simp at hw; subst hw; exact hd1
      cases t1 with
      | nil => cases h
      | cons y r =>
        simp only at h
        split at h
        · rename_i hy
          cases h
          refine ⟨⟨deepS (W ++ [(l1.length - 1, d1)]), deepS_le hdd, ?_⟩, by simp, ?_, ⟨_, _, rfl⟩, fun x hx => hm1 x (by simp [hx])⟩
          · rw [shapeS_snoc, hs1, Option.bind_some, if_pos (hT.call _ _ (by simp; omega)), stepS_top hats]
            simp
          · rw [sumW_app, sumW_one]
            simp [wTok] at hw1 ⊢
            omega
        · split at h
          · rename_i hy6
            split at h
            · cases h
            · rename_i hmany
              obtain ⟨q1, q2, q3, q4, q5⟩ := argsP_more hT hsub f _ r l1 l' t' S _ (fun x hx => ht x (hm1 x (by simp [hx]))) hs1 hats hdd (by simp; omega) h
              refine ⟨q1, q2, ?_, q4, fun x hx => hm1 x (by simp [q5 x hx])⟩
              simp at hw1 q3
              omega
          · cases h
theorem argP_more {own : Nd → Bool} {T : List Tok.Tk} (hT : Owns own T) : ∀ (lv : Nat) (t : List Tok.Tk) (l l' : List Nd) (t' : List Tok.Tk) (S : List (Nat × Nat)), (∀ x ∈ t, x ∈ T) → shapeS own l = some S → argP lv t l = .ok (l', t') → OneMore own lv S t l l' t'
  | lv, [], l, l', t', S, _, _, h => by cases lv <;> simp [argP] at h
  | 0, x :: r, l, l', t', S, _, _, h => by
    unfold argP at h
    split at h <;> cases h
  | lv + 1, x :: r, l, l', t', S, ht, hS, h => by
    unfold argP at h
    split at h
    · cases h
    rename_i hk
    simp only at h
    have hxT := ht x (by simp)
    split at h
    · rename_i h2
      cases h
      exact oneMore_leaf hS (hT.num x hxT h2) rfl (by simp)
    split at h
    · rename_i h3
      cases h
      exact oneMore_leaf hS (hT.txt x hxT h3) rfl (by simp)
    rename_i h2 h3
    have h1 : x.kind = 1 := by
      simp only [h2, h3, or_false] at hk
      exact Classical.byContradiction fun h => hk h
    cases r with
    | nil => cases h; exact oneMore_leaf hS (hT.path x hxT h1) rfl (by simp)
    | cons y r' =>
      simp only at h
      split at h
      · cases h; exact oneMore_leaf hS (hT.path x hxT h1) rfl (by simp)
      cases r' with
      | nil => cases h
      | cons z r'' =>
        simp only at h
        split at h
        · cases h
          refine ⟨⟨1, by omega, ?_⟩, by simp, ?_, ⟨_, _, rfl⟩, fun w hw => by simp [hw]⟩
          · rw [shapeS_snoc, hS, Option.bind_some, if_pos (hT.call _ _ (by simp))]
            have := stepS_top (n := ⟨4, x.text, 0, []⟩) (S := S) (W := []) (i := l.length) rfl
            rw [List.append_nil] at this
            rw [this]; simp [deepS]
          · rw [sumW_app, sumW_one]
            simp [wTok]; omega
        · obtain ⟨q1, q2, q3, q4, q5⟩ := argsP_more hT (argP_more hT lv) _ [] (z :: r'') l l' t' S [] (fun w hw => ht w (List.mem_cons_of_mem _ (List.mem_cons_of_mem _ hw))) (by simpa using hS) rfl (by simp) (by simp) h
          refine ⟨q1, q2, ?_, q4, fun w hw => List.mem_cons_of_mem _ (List.mem_cons_of_mem _ (q5 w hw))⟩
          simp at q3 ⊢
          omega
/-- Nodes as a right tree's. -/
structure Plain (P : Int → List UInt8) (n : Nd) : Prop where
  kind : n.kind = 1 ∨ n.kind = 2 ∨ n.kind = 3 ∨ n.kind = 4
  num : n.kind = 2 → n.text = [] ∧ numOf (P n.num) = n.num
  bare : n.kind ≠ 2 → n.num = 0
  none : n.kind ≠ 4 → n.args = []
  few : n.args.length ≤ 16
end Go.Tgt
end
section
set_option maxHeartbeats 4000000
namespace Go.Tgt
def ownL (n : Nd) : Bool := decide (n.args.length ≤ 16) && (decide (n.kind ≠ 1) || decide (n.text.length ≤ 1024))
theorem ownL_owns {t : List Tok.Tk} (ht : TkOk t) : Owns ownL t :=
  ⟨fun x hx _ => by simp [ownL, ht.txt x hx], fun x hx _ => by simp [ownL], fun x hx _ => by simp [ownL], fun s as_ h => by simp [ownL, h]⟩
theorem inL_of {own : Nd → Bool} {l : List Nd} {S : List (Nat × Nat)} (hS : shapeS own l = some S) (ho : ∀ n, own n = true → n.args.length ≤ 1000 ∧ (n.kind = 1 → n.text.length ≤ 1000000)) : ∀ n ∈ l, InL l n := by
  intro n hn
  obtain ⟨B, D, hL, _⟩ := linked_of own l S hS
  obtain ⟨i, hi⟩ := List.getElem?_of_mem hn
  have hlt := (List.getElem?_eq_some_iff.1 hi).1
  obtain ⟨h1, h2⟩ := ho n (hL.own i n hi)
  refine ⟨h1, h2, fun a ha => ?_⟩
  obtain ⟨g1, g2, _⟩ := (hL.chain i n hi).mem a ha
  exact ⟨g1, by omega⟩
theorem parsed_inL {t : List Tok.Tk} (ht : TkOk t) {lv : Nat} {l : List Nd} {r : List Tok.Tk} (h : argP lv t [] = .ok (l, r)) : ∀ n ∈ l, InL l n := by
  obtain ⟨⟨d, _, hS⟩, _⟩ := argP_more (ownL_owns ht) lv t [] l r [] (fun _ h => h) rfl h
  refine inL_of hS fun n hn => ?_
  simp only [ownL, Bool.and_eq_true, Bool.or_eq_true, decide_eq_true_eq] at hn
  exact ⟨by omega, fun hk => by
    rcases hn.2 with h | h
    · exact absurd hk h
    · omega⟩
end Go.Tgt
namespace Go.Proofs.YtigkchpjpdbodaaGreatDoor
open Go.Abs Go.Tgt Go.Trail
variable {G : Globs}
theorem accI_finT {te size : Nat} {σ : Store} {v : AV} {l : List (List AV)} (h : AccI te size σ v l) (m : Nat) : finT σ m v = some (.lst l) := by
  have := h.fin1 m
  rcases h with ⟨rfl, rfl⟩ | ⟨h1, id, rfl, h3⟩
  · rfl
  · simpa [finT] using this
theorem check_zero (E : List UInt8 → Nat) (l : List Nd) : ∀ (r : List Nd) (j : Nat), (∀ n ∈ r.take j, nodeS E l n = 0) → checkS E l r = checkS E l (r.drop j)
  | [], j, _ => by simp
  | n :: r, 0, _ => rfl
  | n :: r, j + 1, h => by
    rw [checkS, if_pos (h n (by simp)), check_zero E l r j fun m hm => h m (by simp [hm])]; rfl
theorem tcheck_ok [GSpcT] [GFam] (l : List Nd) (hl : l.length ≤ 1000000) (hin : ∀ n ∈ l, InL l n) : PCalls Tryz.prog n_target_check [.lst (ndEls l)] (fun r => r = .int .i64 (checkS nodE l l)) := by
  refine pcalls_of_awp hmix c_target_check rfl ?_
  have hnl := ndEls_len l
  simp [a_target_check, hnl]
  refine lp_startx (fun x f σ => ∃ j : Nat, x = l.length - j ∧ j ≤ l.length ∧ f 0 = .lst (ndEls l) ∧ f 6 = .lst (ndEls l) ∧ f 7 = .int .i64 l.length ∧ f 8 = .int .i64 j ∧ ∀ n ∈ l.take j, nodeS nodE l n = 0) l.length ⟨0, by simp⟩ ?_
  rintro x f σ ⟨j, hx, hj, f0, f6, f7, f8, hz⟩
  have hcz := check_zero nodE l l j hz
  by_cases hlt : j < l.length
  · obtain ⟨n, hn⟩ : ∃ n, l[j]? = some n := ⟨_, List.getElem?_eq_getElem hlt⟩
    have hge := ndEls_get hn
    obtain ⟨g1, g2⟩ := List.getElem?_eq_some_iff.1 hge
    have hlti : (j : Int) < (l.length : Int) := by omega
    have hw : IntKind.i64.wrap ((j : Int) + 1) = (j : Int) + 1 := wrap_i64 (by omega) (by omega)
    have hno := tnode_ok (G := G) l n hl (hin n (List.mem_of_getElem? hn))
    rw [ndA_eq] at hno
    have hdr : l.drop j = n :: l.drop (j + 1) := by
      obtain ⟨h1, rfl⟩ := List.getElem?_eq_some_iff.1 hn
      exact List.drop_eq_getElem_cons h1
    rw [hdr, checkS] at hcz
    simp [f0, f6, f7, f8, hlt, hlti, hge, g1, g2, hnl, boxOp, splice]
    refine ac_same hno (by simp) ?_
    rintro r rfl
    by_cases h0 : nodeS nodE l n = 0
    · simp [h0, f8, hw]
      refine nx_intro (l.length - (j + 1)) (by omega) ⟨j + 1, rfl, by omega, by simp [f0], by simp [f6], by simp [f7], by simp, ?_⟩
      intro m hm
      rw [List.take_add_one, hn] at hm
      simp only [Option.toList_some, List.mem_append, List.mem_singleton] at hm
      rcases hm with hm | rfl
      · exact hz m hm
      · exact h0
    · have h0' : ¬ (nodeS nodE l n : Int) = 0 := by omega
      rw [if_neg h0] at hcz
      simp [h0, h0', hcz]
  · have hjl : j = l.length := by omega
    subst hjl
    rw [List.drop_length, checkS] at hcz
    simp [f7, f8, hcz]
def treeAV : Except Nat (List Nd) → AV
  | .ok l => .tup [.lst (ndEls l), .int .i64 0]
  | .error e => .tup [.lst [], .int .i64 e]
theorem split_ne {s : List UInt8} {e : Nat} (h : Tok.split s = .error e) : e ≠ 0 := by
  unfold Tok.split at h
  repeat' split at h
  all_goals first | (cases h; done) | (cases h; decide)
theorem tParse_ok [GDec] [GSpcT] [GFam] (s : List UInt8) (hs : s.length ≤ 9223372036854775807) (htk : ∀ t, Tok.split s = .ok t → TkOk t) : PCalls Tryz.prog n_target_Parse [.str s] (fun r => r = treeAV (parseS nodE s)) := by
  refine pcalls_of_awp hmix c_target_Parse rfl ?_
  simp [a_target_Parse]
  refine ac_same (tsplit_ok s hs) (by simp) ?_
  rintro r rfl
  unfold parseS
  cases hsp : Tok.split s with
  | error e =>
    have he := split_ne hsp
    have he' : ¬ (e : Int) = 0 := by omega
    simp [splitAV, he, he', treeAV]
  | ok t =>
    have ht := htk t hsp
    have h256 := ht.few
    have hel := tkEls_len' t
    simp [splitAV, boxOp]
    obtain ⟨σ, eσ⟩ : ∃ σ : Store, σ = [.var 91 [.lst (tkEls t), .int .i64 0, .nils]] := ⟨_, rfl⟩
    have hp : σ[0]? = some (parE t 0 .nils) := by rw [eσ]; rfl
    have ha : AccI 97 4 σ .nils (ndEls []) := accI_nil
    simp only [← eσ]
    refine ac_lent (peek_okT t (by omega) 0 0 (by omega) (by omega) _) (.cons (coe_par hp ha) (.cons (.pure _ (by simp [AV.pure])) .nil)) ?_
    rintro r rfl
    simp only [Nat.add_zero]
    cases t with
    | nil => simp [kindAt, treeAV]
    | cons x tl =>
      by_cases hx : x.kind = 1
      · have hka : kindAt (x :: tl) 0 = 1 := by simp [kindAt, hx]
        simp [hka, hx]
        have harg := arg_at (G := G) 12 σ 0 (x :: tl) 0 .nils [] ht hp ha (by omega) (by simp) (by omega)
        simp at harg
        refine ac_eff harg ?_
        intro r σ2 hr
        cases hpp : argP 12 (x :: tl) [] with
        | error e =>
          rw [hpp] at hr
          obtain ⟨rfl, _⟩ := hr
          have he := argP_ne 12 _ _ _ hpp
          have he' : ¬ (e : Int) = 0 := by omega
          simp [he, he', hx, treeAV]
        | ok y =>
          obtain ⟨l, t2⟩ := y
          rw [hpp] at hr
          obtain ⟨rfl, k, hk0, hkt, rfl, hlk, V, hpV, haV, _⟩ := hr
          have hpV' : σ2[0]? = some (.var 91 [.lst (tkEls (x :: tl)), .int .i64 k, V]) := hpV
          have hone := haV.one
          have hfin := accI_finT haV
          by_cases hkl : k < (x :: tl).length
          · have hkl' : (k : Int) < (tl.length : Int) + 1 := by simp at hkl; omega
            have hne : ¬ (x :: tl).drop k = [] := by
              intro h
              have := congrArg List.length h
              rw [List.length_drop] at this; simp only [List.length_nil] at this; omega
            simp only [List.length_cons] at hkl
            simp [hpV', hel, hkl, hkl', hne, hx, treeAV]
          · have hkl' : ¬ (k : Int) < (tl.length : Int) + 1 := by simp at hkl; omega
            have hnil : (x :: tl).drop k = [] := List.drop_of_length_le (by omega)
            have hin := parsed_inL ht hpp
            have hchk := tcheck_ok (G := G) l (by omega) hin
            simp only [List.length_cons] at hkl
            simp [hpV', hel, hkl, hkl', hnil, hone]
            refine ac_lent hchk (.cons (haV.coe true) .nil) ?_
            rintro r rfl
            by_cases h0 : checkS nodE l l = 0
            · simp [h0, hpV', hone, hfin, hx, hkl, treeAV]
            · have h0' : ¬ (checkS nodE l l : Int) = 0 := by omega
              simp [h0, h0', hx, hkl, treeAV]
      · have hka : kindAt (x :: tl) 0 = x.kind := by simp [kindAt]
        simp [hka, hx, treeAV]
end Go.Proofs.YtigkchpjpdbodaaGreatDoor
end
section
set_option maxHeartbeats 4000000
namespace Go.Proofs.YtigkchpjpdbodaaGreatDoor
open Go.Abs Go.Glob Go.Tok
variable {G : Globs}
/-- The quote that a text has not. -/
def quoteOf (s : List UInt8) : List UInt8 := if 39 ∈ s then (if 34 ∈ s then [] else [34]) else [39]
/-- A token's text in a target. -/
def textOf (k : Int) (s : List UInt8) : List UInt8 := if k = 4 then [40] else if k = 5 then [41] else if k = 6 then [44] else if k = 3 then quoteOf s ++ s ++ quoteOf s else s
end Go.Proofs.YtigkchpjpdbodaaGreatDoor
end
section
namespace Go.Tok
open Go.Glob
/-- What may follow a token: nothing, a blank, a bracket, a comma. -/
def StopB (rest : List UInt8) : Prop := rest = [] ∨ ∃ c r, rest = c :: r ∧ (c = 32 ∨ c = 40 ∨ c = 41 ∨ c = 44)
theorem stopB_blank (r : List UInt8) : StopB (32 :: r) := .inr ⟨32, r, rfl, .inl rfl⟩
theorem clsN_take : ∀ (s : List UInt8) (k : Nat) (y : List UInt8), clsN s = some k → clsN (s.take k ++ y) = some k
  | [], k, y, h => by simp [clsN] at h
  | c :: r, k, y, h => by
    unfold clsN at h
    split at h
    · cases h
    · rename_i hs
      split at h
      · rename_i h93
        cases h
        simp only [List.take_succ_cons, List.take_zero, List.cons_append, List.nil_append]
        rw [clsN, if_neg hs, if_pos h93]
      · rename_i h93
        cases hr : clsN r with
        | none => rw [hr] at h; cases h
        | some j =>
          rw [hr] at h; cases h
          have := clsN_take r j y hr
          show clsN ((c :: r).take (j + 1) ++ y) = some (j + 1)
          simp only [List.take_succ_cons, List.cons_append]
          rw [clsN, if_neg hs, if_neg h93, this]
          rfl
theorem brcN_take : ∀ (s : List UInt8) (d k : Nat) (y : List UInt8), brcN d s = some k → brcN d (s.take k ++ y) = some k
  | [], d, k, y, h => by simp [brcN] at h
  | c :: r, d, k, y, h => by
    unfold brcN at h
    split at h
    · cases h
    · rename_i hs
      split at h
      · rename_i h0
        cases h
        simp only [List.take_succ_cons, List.take_zero, List.cons_append, List.nil_append]
        rw [brcN, if_neg hs, if_pos h0]
      · rename_i h0
        cases hr : brcN (deeper d c) r with
        | none => rw [hr] at h; cases h
        | some j =>
          rw [hr] at h; cases h
          have := brcN_take r _ j y hr
          show brcN d ((c :: r).take (j + 1) ++ y) = some (j + 1)
          simp only [List.take_succ_cons, List.cons_append]
          rw [brcN, if_neg hs, if_neg h0, this]
          rfl
theorem rowF_stop {m : Nat} {rest : List UInt8} (h : StopB rest) : rowF m rest = some 0 := by
  rcases h with rfl | ⟨c, r, rfl, hc⟩
  · cases m <;> rfl
  · cases m with
    | zero => rfl
    | succ m => rcases hc with rfl | rfl | rfl | rfl <;> rw [rowF, if_neg (by decide), if_neg (by decide), if_neg (by decide)]
theorem take_add_drop {s : List UInt8} {a j : Nat} : s.take (j + a) = s.take a ++ (s.drop a).take j := by
  rw [Nat.add_comm, List.take_add]
theorem rowF_take : ∀ (n : Nat) (s : List UInt8) (k m : Nat) (rest : List UInt8), rowF n s = some k → s.length ≤ n → k ≤ m → StopB rest → rowF m (s.take k ++ rest) = some k
  | 0, s, k, m, rest, h, hn, _, hr => by
    simp [rowF] at h; subst h; simpa using rowF_stop hr
  | n + 1, [], k, m, rest, h, hn, hm, hr => by
    simp [rowF] at h; subst h; simpa using rowF_stop hr
  | n + 1, c :: r, k, 0, rest, h, hn, hm, hr => by
    have : k = 0 := by omega
    subst this; rfl
  | n + 1, c :: r, k, m + 1, rest, h, hn, hm, hr => by
    simp only [List.length_cons] at hn
    unfold rowF at h
    split at h
    · rename_i hw
      cases hj : rowF n r with
      | none => rw [hj] at h; cases h
      | some j =>
        rw [hj] at h
        simp only [Option.map_some, Option.some.injEq] at h; subst h
        have := rowF_take n r j m rest hj (by omega) (by omega) hr
        show rowF (m + 1) ((c :: r).take (j + 1) ++ rest) = some (j + 1)
        simp only [List.take_succ_cons, List.cons_append]
        rw [rowF, if_pos hw, this]; rfl
    · rename_i hw
      split at h
      · rename_i h91
        cases hc : clsN (c :: r) with
        | none => rw [hc] at h; cases h
        | some a =>
          rw [hc] at h
          simp only [Option.bind_some] at h
          cases hj : rowF n ((c :: r).drop a) with
          | none => rw [hj] at h; cases h
          | some j =>
            rw [hj] at h
            simp only [Option.map_some, Option.some.injEq] at h; subst h
            have ha := clsN_le _ _ hc
            have hk := rowF_take n _ j m rest hj (by rw [List.length_drop, List.length_cons]; omega) (by omega) hr
            show rowF (m + 1) ((c :: r).take (j + a) ++ rest) = some (j + a)
            have hcl := clsN_take _ _ (((c :: r).drop a).take j ++ rest) hc
            rw [take_add_drop, List.append_assoc]
            have hlen : ((c :: r).take a).length = a := by rw [List.length_take]; omega
            obtain ⟨x, hx⟩ : ∃ x, (c :: r).take a = c :: x := by
              obtain ⟨a, rfl⟩ : ∃ b, a = b + 1 := ⟨a - 1, by omega⟩
              exact ⟨r.take a, rfl⟩
            have hdr : ((c :: r).take a ++ (((c :: r).drop a).take j ++ rest)).drop a = ((c :: r).drop a).take j ++ rest := by
              rw [List.drop_append_of_le_length (by omega), List.drop_of_length_le (by omega), List.nil_append]
            generalize ((c :: r).drop a).take j ++ rest = y at hcl hdr hk ⊢
            rw [hx] at hcl hdr ⊢
            rw [List.cons_append] at hcl hdr ⊢
            rw [rowF, if_neg hw, if_pos h91, hcl]
            simp only [Option.bind_some]
            rw [hdr, hk]; rfl
      · rename_i h91
        split at h
        · rename_i h123
          cases hc : brcN 0 (c :: r) with
          | none => rw [hc] at h; cases h
          | some a =>
            rw [hc] at h
            simp only [Option.bind_some] at h
            cases hj : rowF n ((c :: r).drop a) with
            | none => rw [hj] at h; cases h
            | some j =>
              rw [hj] at h
              simp only [Option.map_some, Option.some.injEq] at h; subst h
              have ha := brcN_le _ _ _ hc
              have hk := rowF_take n _ j m rest hj (by rw [List.length_drop, List.length_cons]; omega) (by omega) hr
              show rowF (m + 1) ((c :: r).take (j + a) ++ rest) = some (j + a)
              have hcl := brcN_take _ _ _ (((c :: r).drop a).take j ++ rest) hc
              rw [take_add_drop, List.append_assoc]
              have hlen : ((c :: r).take a).length = a := by rw [List.length_take]; omega
              obtain ⟨x, hx⟩ : ∃ x, (c :: r).take a = c :: x := by
                obtain ⟨a, rfl⟩ : ∃ b, a = b + 1 := ⟨a - 1, by omega⟩
                exact ⟨r.take a, rfl⟩
              have hdr : ((c :: r).take a ++ (((c :: r).drop a).take j ++ rest)).drop a = ((c :: r).drop a).take j ++ rest := by
                rw [List.drop_append_of_le_length (by omega), List.drop_of_length_le (by omega), List.nil_append]
              generalize ((c :: r).drop a).take j ++ rest = y at hcl hdr hk ⊢
              rw [hx] at hcl hdr ⊢
              rw [List.cons_append] at hcl hdr ⊢
              rw [rowF, if_neg hw, if_neg h91, if_pos h123, hcl]
              simp only [Option.bind_some]
              rw [hdr, hk]; rfl
        · cases h
          simpa using rowF_stop hr
theorem idx_app_some : ∀ (l m : List UInt8) (c : UInt8), 0 ≤ Lib.indexByte l c → Lib.indexByte (l.take ((Lib.indexByte l c).toNat + 1) ++ m) c = Lib.indexByte l c
  | [], m, c, h => by simp [Lib.indexByte] at h
  | b :: l, m, c, h => by
    have hge := Lib.indexByte_ge l c
    by_cases hb : b = c
    · subst hb; simp [Lib.indexByte]
    · have hb' : (b == c) = false := by simpa using hb
      have e1 : Lib.indexByte (b :: l) c = if Lib.indexByte l c = -1 then -1 else Lib.indexByte l c + 1 := by
        rw [Lib.indexByte]; simp [hb']
      rw [e1] at h ⊢
      by_cases h1 : Lib.indexByte l c = -1
      · rw [if_pos h1] at h; omega
      · rw [if_neg h1] at h ⊢
        have ih := idx_app_some l m c (by omega)
        have e2 : (Lib.indexByte l c + 1).toNat + 1 = ((Lib.indexByte l c).toNat + 1) + 1 := by omega
        rw [e2, List.take_succ_cons, List.cons_append, Lib.indexByte]
        simp only [hb', Bool.false_eq_true, if_false, ih]
        have h1' : (Lib.indexByte l c == -1) = false := by simpa using h1
        simp [h1']
/-- A token is told by its own bytes. -/
theorem nextT_take {s : List UInt8} {k : Int} {t : List UInt8} {n : Nat} (h : nextT s = some (k, t, n)) {rest : List UInt8} (hr : StopB rest) : nextT (s.take n ++ rest) = some (k, t, n) := by
  cases s with
  | nil => simp [nextT] at h
  | cons c r =>
    rw [nextT] at h
    by_cases h1 : c = 40
    · rw [if_pos h1] at h; cases h; simp [nextT, h1]
    rw [if_neg h1] at h
    by_cases h2 : c = 41
    · rw [if_pos h2] at h; cases h; simp [nextT, h2]
    rw [if_neg h2] at h
    by_cases h3 : c = 44
    · rw [if_pos h3] at h; cases h; simp [nextT, h3]
    rw [if_neg h3] at h
    by_cases h4 : c = 39 ∨ c = 34
    · rw [if_pos h4] at h
      by_cases hneg : Lib.indexByte r c < 0
      · rw [if_pos hneg] at h; cases h
      · rw [if_neg hneg] at h
        cases h
        have hi := idx_app_some r rest c (by omega)
        have hlt : (Lib.indexByte r c).toNat < r.length := by
          have hi : Lib.indexByte r c = ((Lib.indexByte r c).toNat : Int) := by omega
          exact (List.getElem?_eq_some_iff.1 (Lib.indexByte_some hi).1).1
        rw [show (Lib.indexByte r c).toNat + 2 = ((Lib.indexByte r c).toNat + 1) + 1 by omega, List.take_succ_cons, List.cons_append, nextT, if_neg h1, if_neg h2, if_neg h3, if_pos h4, hi, if_neg hneg]
        congr 3
        rw [List.take_append_of_le_length (by rw [List.length_take]; omega), List.take_take]
        congr 1; omega
    · rw [if_neg h4] at h
      cases hrow : rowF (r.length + 1) (c :: r) with
      | none => rw [hrow] at h; cases h
      | some m =>
        rw [hrow] at h
        have hm := rowF_le _ _ _ hrow
        cases m with
        | zero => cases h
        | succ j =>
          cases h
          have hx : rowF (((r.take j) ++ rest).length + 1) ((c :: r).take (j + 1) ++ rest) = some (j + 1) := by
            refine rowF_take _ _ _ _ _ hrow (by simp) ?_ hr
            simp only [List.length_cons] at hm
            rw [List.length_append, List.length_take]; omega
          rw [List.take_succ_cons, List.cons_append] at hx ⊢
          rw [nextT, if_neg h1, if_neg h2, if_neg h3, if_neg h4, hx]
          have e : (c :: (r.take j ++ rest)).take (j + 1) = (c :: r).take (j + 1) := by
            simp only [List.length_cons] at hm
            rw [List.take_succ_cons, List.take_append_of_le_length (by rw [List.length_take]; omega), List.take_take, Nat.min_self, List.take_succ_cons]
          simp only [e, List.take_succ_cons]
theorem nextT_head {c : UInt8} {r : List UInt8} {x : Int × List UInt8 × Nat} (h : nextT (c :: r) = some x) : c ≠ 32 := by
  intro hc
  subst hc
  have : rowF (r.length + 1) (32 :: r) = some 0 := rowF_stop (stopB_blank r)
  rw [nextT, if_neg (by decide), if_neg (by decide), if_neg (by decide), if_neg (by decide), this] at h
  cases h
/-- A token's text is not longer than its bytes, and a row's text is its bytes. -/
theorem nextT_text {s : List UInt8} {k : Int} {t : List UInt8} {n : Nat} (h : nextT s = some (k, t, n)) : t.length ≤ n ∧ (k = 1 ∨ k = 2 → s.take n = t) := by
  have hle := nextT_le h
  simp only at hle
  cases s with
  | nil => simp [nextT] at h
  | cons c r =>
    rw [nextT] at h
    by_cases h1 : c = 40
    · rw [if_pos h1] at h; cases h; simp
    rw [if_neg h1] at h
    by_cases h2 : c = 41
    · rw [if_pos h2] at h; cases h; simp
    rw [if_neg h2] at h
    by_cases h3 : c = 44
    · rw [if_pos h3] at h; cases h; simp
    rw [if_neg h3] at h
    by_cases h4 : c = 39 ∨ c = 34
    · rw [if_pos h4] at h
      by_cases hneg : Lib.indexByte r c < 0
      · rw [if_pos hneg] at h; cases h
      · rw [if_neg hneg] at h
        cases h
        refine ⟨by rw [List.length_take]; omega, fun h => by omega⟩
    · rw [if_neg h4] at h
      cases hrow : rowF (r.length + 1) (c :: r) with
      | none => rw [hrow] at h; cases h
      | some m =>
        rw [hrow] at h
        have hm := rowF_le _ _ _ hrow
        cases m with
        | zero => cases h
        | succ j =>
          simp only [Option.some.injEq, Prod.mk.injEq] at h
          obtain ⟨_, rfl, rfl⟩ := h
          exact ⟨by rw [List.length_take]; omega, fun _ => rfl⟩
theorem splitF_bound : ∀ (n a : Nat) (s : List UInt8) (l : List Tk), splitF n a s = some l → ∀ x ∈ l, a ≤ x.place ∧ x.place + x.text.length ≤ a + s.length
  | n, a, [], l, h, x, hx => by
    have : l = [] := by cases n <;> simp [splitF] at h <;> exact h
    subst this; cases hx
  | 0, a, c :: r, l, h, x, hx => by simp [splitF] at h; subst h; cases hx
  | n + 1, a, c :: r, l, h, x, hx => by
    rw [splitF] at h
    split at h
    · have := splitF_bound n _ r l h x hx
      simp only [List.length_cons]; omega
    · cases hy : nextT (c :: r) with
      | none => rw [hy] at h; cases h
      | some y =>
        rw [hy] at h
        simp only [Option.bind_some] at h
        cases hz : splitF n (a + y.2.2) ((c :: r).drop y.2.2) with
        | none => rw [hz] at h; cases h
        | some z =>
          rw [hz] at h; cases h
          have hle := nextT_le hy
          have ht := (nextT_text (k := y.1) (t := y.2.1) (n := y.2.2) hy).1
          rcases List.mem_cons.1 hx with rfl | hx
          · simp only; omega
          · have := splitF_bound n _ _ z hz x hx
            rw [List.length_drop] at this
            omega
/-- A token's kind and text. -/
def kt (x : Tk) : Int × List UInt8 := (x.kind, x.text)
/-- Wherever it stands, a text is split into these. -/
def SPl (s : List UInt8) (o : List (Int × List UInt8)) : Prop := ∀ n b, s.length ≤ n → ∃ l, splitF n b s = some l ∧ l.map kt = o
theorem spl_nil : SPl [] [] := fun n b _ => ⟨[], by cases n <;> rfl, rfl⟩
theorem spl_tok {r s o} {k : Int} {t : List UInt8} (hx : nextT (r ++ s) = some (k, t, r.length)) (h : SPl s o) : SPl (r ++ s) ((k, t) :: o) := fun n b hn => by
  have hle := nextT_le hx
  have hd : (r ++ s).drop r.length = s := by simp
  cases hq : r ++ s with
  | nil => rw [hq] at hx; simp [nextT] at hx
  | cons c q =>
    rw [hq] at hx hd hn
    obtain ⟨n, rfl⟩ : ∃ m, n = m + 1 := ⟨n - 1, by simp at hn; omega⟩
    have hln : (r ++ s).length = r.length + s.length := by simp
    rw [hq] at hln
    obtain ⟨l, hl1, hl2⟩ := h n (b + r.length) (by simp only at hle; omega)
    rw [splitF, if_neg (nextT_head hx), hx]
    simp only [Option.bind_some]
    rw [hd, hl1]
    exact ⟨_, rfl, by simp [kt, hl2]⟩
/-- From a split at any place to the split. -/
theorem spl_split {s o} (h : SPl s o) : (1024 < s.length ∧ split s = .error 12) ∨ (¬ 1024 < s.length ∧ 256 < o.length ∧ split s = .error 11) ∨ (¬ 1024 < s.length ∧ ¬ 256 < o.length ∧ ∃ l, split s = .ok l ∧ l.map kt = o) := by
  obtain ⟨l, h1, h2⟩ := h s.length 0 (Nat.le_refl _)
  have hl : l.length = o.length := by rw [← h2]; simp
  unfold split
  rw [h1]
  by_cases h3 : 1024 < s.length
  · simp [h3]
  · by_cases h4 : 256 < l.length
    · simp [h3, h4, ← hl]
    · simp only [h3, h4, if_false, ← hl]
      exact .inr (.inr ⟨fun h => h, fun h => h, l, rfl, h2⟩)
/-- The place of the next token, or the end. -/
def nx (T : List UInt8) : List Tk → Nat
  | [] => T.length
  | y :: _ => y.place
end Go.Tok
namespace Go.Proofs.YtigkchpjpdbodaaGreatDoor
open Go.Abs Go.Glob Go.Tok
def isOne (k : Int) (t : List UInt8) : Except Nat (List Tk) → Bool
  | .ok [x] => decide (x.kind = k) && decide (x.text = t)
  | _ => false
/-- Is it the one token of some target? -/
def rightB (k p : Int) (t : List UInt8) : Bool :=
  decide (0 ≤ p) && (if k = 4 ∨ k = 5 ∨ k = 6 then decide (t = []) else if k = 3 then decide (t.length ≤ 1022) && !(decide ((39 : UInt8) ∈ t) && decide ((34 : UInt8) ∈ t))
    else if k = 1 ∨ k = 2 then isOne k t (Tok.split t) else false)
theorem split_one {t : List UInt8} {x : Tk} (h : Tok.split t = .ok [x]) (ht : x.text = t) : x.place = 0 ∧ (x.kind = 1 ∨ x.kind = 2 → nextT t = some (x.kind, t, t.length)) := by
  unfold Tok.split at h
  split at h
  · cases h
  cases hs : splitF t.length 0 t with
  | none => rw [hs] at h; cases h
  | some l =>
    rw [hs] at h
    simp only at h
    split at h
    · cases h
    cases h
    have hb := splitF_bound _ _ _ _ hs x (by simp)
    rw [ht] at hb
    refine ⟨by omega, fun hk => ?_⟩
    cases t with
    | nil => simp [splitF] at hs
    | cons c r =>
      rw [List.length_cons, splitF] at hs
      split at hs
      · have := splitF_bound _ _ _ _ hs x (by simp)
        rw [ht] at this
        simp at this; omega
      · cases hy : nextT (c :: r) with
        | none => rw [hy] at hs; cases hs
        | some y =>
          rw [hy] at hs
          simp only [Option.bind_some] at hs
          cases hz : splitF r.length (0 + y.2.2) ((c :: r).drop y.2.2) with
          | none => rw [hz] at hs; cases hs
          | some z =>
            rw [hz] at hs; cases hs
            simp only at ht hk ⊢
            have hle := nextT_le hy
            have := nextT_text (k := y.1) (t := y.2.1) (n := y.2.2) hy
            have h2 := this.2 hk
            rw [ht] at h2
            have e : y.2.2 = (c :: r).length := by
              have := congrArg List.length h2
              rw [List.length_take] at this
              omega
            exact congrArg some (Prod.ext rfl (Prod.ext ht e))
theorem right_next {k p : Int} {t : List UInt8} (h : rightB k p t = true) {rest : List UInt8} (hr : StopB rest) : nextT (textOf k t ++ rest) = some (k, t, (textOf k t).length) := by
  unfold rightB at h
  rw [Bool.and_eq_true] at h
  obtain ⟨_, h⟩ := h
  by_cases h4 : k = 4 ∨ k = 5 ∨ k = 6
  · rw [if_pos h4] at h
    have ht : t = [] := by simpa using h
    subst ht
    rcases h4 with rfl | rfl | rfl <;> simp [textOf, nextT]
  rw [if_neg h4] at h
  by_cases h3 : k = 3
  · subst h3
    simp only [if_true, Bool.and_eq_true, decide_eq_true_eq, Bool.not_eq_true', Bool.and_eq_false_iff, decide_eq_false_iff_not] at h
    have hq : ∃ q : UInt8, quoteOf t = [q] ∧ (q = 39 ∨ q = 34) ∧ q ∉ t := by
      unfold quoteOf
      by_cases h39 : (39 : UInt8) ∈ t
      · have h34 : ¬ (34 : UInt8) ∈ t := by
          rcases h.2 with h | h
          · exact absurd h39 h
          · exact h
        exact ⟨34, by simp [h39, h34], .inr rfl, h34⟩
      · exact ⟨39, by simp [h39], .inl rfl, h39⟩
    obtain ⟨q, hq1, hq2, hq3⟩ := hq
    have e : textOf 3 t = q :: (t ++ [q]) := by simp [textOf, hq1]
    have hidx : ∀ (t m : List UInt8), q ∉ t → Lib.indexByte (t ++ q :: m) q = t.length := by
      intro t m
      induction t with
      | nil => intro _; simp [Lib.indexByte]
      | cons b t ih =>
        intro hb
        simp only [List.mem_cons, not_or] at hb
        have hbq : (b == q) = false := by simpa using fun h => hb.1 h.symm
        rw [List.cons_append, Lib.indexByte, ih hb.2]
        have : ¬ ((t.length : Int) = -1) := by omega
        simp [hbq, this]
    have hI := hidx t rest hq3
    have e2 : (q :: (t ++ [q])) ++ rest = q :: (t ++ q :: rest) := by simp
    have hneg : ¬ Lib.indexByte (t ++ q :: rest) q < 0 := by rw [hI]; omega
    rw [e, e2, nextT, if_neg (by rcases hq2 with rfl | rfl <;> decide), if_neg (by rcases hq2 with rfl | rfl <;> decide), if_neg (by rcases hq2 with rfl | rfl <;> decide), if_pos hq2, if_neg hneg, hI]
    simp
  rw [if_neg h3] at h
  by_cases h1 : k = 1 ∨ k = 2
  · rw [if_pos h1] at h
    have e : textOf k t = t := by simp only [not_or] at h4; simp [textOf, h3, h4]
    rw [e]
    cases hx : Tok.split t with
    | error e => rw [hx] at h; cases h
    | ok l =>
      rw [hx] at h
      match l with
      | [] => cases h
      | x :: y :: l => cases h
      | [x] =>
        simp only [isOne, Bool.and_eq_true, decide_eq_true_eq] at h
        obtain ⟨h5, h6⟩ := h
        have := (split_one hx h6).2 (by rw [h5]; exact h1)
        rw [h5] at this
        have h7 := nextT_take this hr
        rwa [List.take_of_length_le (Nat.le_refl _)] at h7
  · rw [if_neg h1] at h; cases h
end Go.Proofs.YtigkchpjpdbodaaGreatDoor
end
