/- Points as lines: what the library's functions hand back. -/
import Derived.Test.YtddpegkbmdcgbaaGreatDoorCode
import Derived.Test.YtddpegkbmdcgbaaGreatDoorShelf
import Derived.Test.YtddpegkbmdcgbaaGreatDoorAbs2
import Derived.Test.YtddpegkbmdcgbaaGreatDoorLnLaw
import Derived.Test.YtddpegkbmdcgbaaGreatDoorTrA
set_option linter.unusedSimpArgs false
set_option linter.unusedVariables false
set_option linter.constructorNameAsVariable false
set_option maxHeartbeats 4000000
namespace Go.Abs
open Go.RowKit
theorem srel_top {G : Globs} {base : Nat} {κ : Key} {Im : Addr → Prop} {w : World} (hs : SRel base κ Im [] w) : SRel w.heap.size κ Im [] w :=
  ⟨Nat.le_refl _, hs.dom, fun id e h => by simp at h, fun i j e e' b _ h => by simp at h, hs.imlt, hs.glob.mono hs.hb (fun _ h => h) (fun _ _ => rfl) (fun _ _ => rfl)⟩
/-- A new list of texts that the library hands back. -/
theorem own_texts {G : Globs} {base : Nat} {κ : Key} {Im : Addr → Prop} {w w' : World} {e : TypeId} {A : Nat} {l : List ByteArray} (hs : SRel base κ Im [] w) (hb : Below w.heap.size w w') (hl : l.length ≤ 9223372036854775807)
    (ho : w'.ownsRow w.heap.size e 1 (.slice (some ⟨A, 0, none⟩) l.length l.length) l.length (l.map Value.string)) :
    ∃ Im', SRel base κ Im' [] w' ∧ Grow base κ Im w κ Im' w' ∧ IR Im' w' (.lst (l.map fun s => [.str s.data.toList])) (.slice (some ⟨A, 0, none⟩) l.length l.length) := by
  obtain ⟨_, h0 | ⟨g, cap, cur, hv, hA, hg, hcap, hmax, hsz, htk⟩⟩ := ho
  · cases h0.1
  simp only [Value.slice.injEq, Option.some.injEq, Addr.mk.injEq, and_true, true_and] at hv
  obtain ⟨rfl, hc⟩ := hv
  have hcur : cur.toList = l.map Value.string := by
    rw [← htk, List.take_of_length_le (by rw [Array.length_toList, hsz, ← hc]; omega)]
  have hlt : A < w'.heap.size := by
    rcases Nat.lt_or_ge A w'.heap.size with h | h
    · exact h
    · rw [Array.getElem?_eq_none h] at hg; cases hg
  have hcell : ∀ k (hk : k < l.length), w'.cell? ⟨A, 0 + (k * 1 + 0), none⟩ = some (.string (l[k])) := fun k hk => by
    have e : cur[0 + (k * 1 + 0)]? = some (.string (l[k])) := by
      rw [← Array.getElem?_toList, hcur]; simp [hk]
    simp [World.cell?, hg]
    simpa using e
  refine ⟨fun a => Im a ∨ (a.block = A ∧ a.spot = none), hs.world (fun _ h => .inl h) (fun a h => h.imp id fun h => ⟨by rw [h.1]; exact hA, by rw [h.1]; exact hlt, h.2⟩) hb.size hb.block,
    ⟨fun _ _ _ h => h, fun _ h => .inl h, fun a ha => World.cell?_of_block (hb.block _ (hs.imlt a ha).1), fun a h => h.imp id fun h => by rw [h.1]; exact Nat.le_trans hs.hb hA, hb.mono hs.hb⟩, ?_⟩
  have hlen : (l.map fun s => [AV.str s.data.toList]).length = l.length := by simp
  have := IR.lst (Im := fun a => Im a ∨ (a.block = A ∧ a.spot = none)) (w := w') (l.map fun s => [AV.str s.data.toList]) 1 A 0 l.length (fun k _ => .string (l.getD k ByteArray.empty)) (by simp) hl
    (fun c hc => by simp only [List.mem_map] at hc; obtain ⟨x, _, rfl⟩ := hc; rfl)
    (fun c hc x hx => by simp only [List.mem_map] at hc; obtain ⟨y, _, rfl⟩ := hc; simp at hx; subst hx; rfl)
    (fun k j hk hj => by
      rw [hlen] at hk
      have hj0 : j = 0 := by omega
      subst hj0
      exact ⟨.inr ⟨rfl, rfl⟩, by rw [hcell k hk]; simp [List.getD, hk]⟩)
    (fun k j hk hj => by
      rw [hlen] at hk
      have hj0 : j = 0 := by simpa using hj
      subst hj0
      simp only [List.getElem_map, List.getElem_cons_zero]
      have e : l.getD k ByteArray.empty = l[k] := by simp [List.getD, hk]
      rw [e]
      have e2 : (.string (l[k]) : Value) = .string ⟨(l[k]).data.toList.toArray⟩ := by cases l[k]; simp
      rw [e2]
      exact .str _)
  rw [hlen] at this
  exact this
end Go.Abs
namespace Go.Proofs.YtddpegkbmdcgbaaGreatDoor
open Go.Abs Go.Glob Go.Line Go.Dec Go.RowKit
variable {G : Globs}

theorem gap_ok (r : Nat) : PCalls Tryz.prog n_line_gap [.int .i32 r] (fun v => v = .bool (gapR r)) := by
  refine pcalls_of_awp hmix c_line_gap rfl ?_
  simp [a_line_gap]
  by_cases h1 : r = 32
  · subst h1; simp [gapR]
  · have h1' : ¬ ((r : Int) = 32) := by omega
    by_cases h2 : r = 9
    · subst h2; simp [gapR]
    · have h2' : ¬ ((r : Int) = 9) := by omega
      simp [h1, h1', h2, h2', gapR]
def txtW (l : List (List UInt8)) : List (List AV) := l.map fun s => [.str s]
theorem fieldsFunc_ok (s : List UInt8) (hs : s.length ≤ 4294967296) : PCalls Tryz.prog 21 [.str s, .fn (.func n_line_gap) [] []] (fun r => r = .lst (txtW (flds [] s))) := by
  intro base κ Im w vs hsr hv
  obtain ⟨v0, v1, rfl⟩ : ∃ v0 v1, vs = [v0, v1] := by
    match vs, hv.1 with
    | [a, b], _ => exact ⟨a, b, rfl⟩
  have e0 := (hv.2 0 (by simp) (by simp)).str_inv
  have e1 := (hv.2 1 (by simp) (by simp))
  simp only [List.getElem_cons_zero, List.getElem_cons_succ] at e0 e1
  subst e0
  have e1' : v1 = .func (.func n_line_gap) #[] #[] := by
    cases e1 with
    | im _ _ h => cases h with
      | fn _ _ _ vs us h1 h2 _ _ =>
        have a1 : vs = [] := List.eq_nil_of_length_eq_zero (by simpa using h1.symm)
        have a2 : us = [] := List.eq_nil_of_length_eq_zero (by simpa using h2.symm)
        subst a1 a2; rfl
    | fn _ _ _ vs us h1 h2 _ _ =>
      have a1 : vs = [] := List.eq_nil_of_length_eq_zero (by simpa using h1.symm)
      have a2 : us = [] := List.eq_nil_of_length_eq_zero (by simpa using h2.symm)
      subst a1 a2; rfl
  subst e1'
  have hpg : PredGrows Tryz.prog n_line_gap #[] gapR w := fun W x hx hb => by
    obtain ⟨g1, _⟩ := srel_grow hsr hb
    refine ((gap_ok x) W.heap.size κ Im W [.int .i32 x] (srel_top g1) ⟨rfl, fun j h h' => ?_⟩).mono ?_
    · match j, h with
      | 0, _ => exact .im _ _ (.int _ _)
    · rintro e w' ⟨r, σ', v, κ', Im', rfl, ⟨_, rfl⟩, _, hg, hr⟩
      exact ⟨by rw [hr.bool_inv], hg.below⟩
  have hlen : (Lib.goFieldsP gapR ⟨s.toArray⟩).length = (flds [] s).length := by
    have := congrArg List.length (goFields_flds ⟨s.toArray⟩)
    simpa using this
  have hfl : ∀ (x cur : List UInt8), (flds cur x).length ≤ x.length + 1 := by
    intro x
    induction x with
    | nil => intro cur; rw [flds]; split <;> simp
    | cons c x ih =>
      intro cur
      by_cases hc : gapB c = true
      · rw [flds_gap hc]
        have := ih []
        rw [List.length_append, List.length_cons]
        split <;> simp <;> omega
      · rw [flds, if_neg hc]
        have := ih (cur ++ [c])
        rw [List.length_cons]; omega
  have hf := hfl s []
  have hok := Tryz.strings_FieldsFunc_grows n_line_gap #[] (enters_of Tryz.func23 (by kernel_rfl) rfl) gapR ⟨s.toArray⟩ w (by simpa [ByteArray.size] using hs) hpg
  refine hok.mono ?_
  rintro e w' ⟨A, rfl, hA, ho, hb⟩
  obtain ⟨Im', g1, g2, g3⟩ := own_texts hsr hb (by rw [hlen]; omega) ho
  refine ⟨_, [], _, κ, Im', rfl, ⟨rfl, rfl⟩, g1, g2, .im _ _ ?_⟩
  have e : ((Lib.goFieldsP gapR ⟨s.toArray⟩).map fun s => [AV.str s.data.toList]) = txtW (flds [] s) := by
    have := goFields_flds ⟨s.toArray⟩
    rw [show (⟨s.toArray⟩ : ByteArray).data.toList = s from rfl] at this
    rw [← this]
    simp [txtW]
  rw [e] at g3
  exact g3

theorem suffix_cr (s : List UInt8) : Lib.trimSuffix s [13] = cutCR s := by
  unfold Lib.trimSuffix cutCR Lib.hasSuffix
  have h : ([13] : List UInt8).isSuffixOf s = true ↔ s.getLast? = some 13 := by
    rw [List.isSuffixOf_iff_suffix]
    constructor
    · rintro ⟨t, rfl⟩; simp
    · intro h
      obtain ⟨t, rfl⟩ := List.getLast?_eq_some_iff.1 h
      exact ⟨t, rfl⟩
  by_cases hs : s.getLast? = some 13
  · rw [if_pos (h.2 hs), if_pos hs, List.dropLast_eq_take]; rfl
  · rw [if_neg (fun e => hs (h.1 e)), if_neg hs]
theorem trimSuffix_ok (s : List UInt8) (hs : s.length ≤ 9223372036854775807) : PCalls Tryz.prog 22 [.str s, .str [13]] (fun r => r = .str (cutCR s)) :=
  pcalls2 fun base κ Im w v u _ h1 h2 => by
    cases h1.str_inv; cases h2.str_inv
    refine (Tryz.strings_TrimSuffix ⟨s.toArray⟩ ⟨#[13]⟩ w (by simpa [ByteArray.size] using hs)).mono ?_
    rintro e w' ⟨rfl, rfl⟩
    refine ⟨.str (cutCR s), _, rfl, rfl, Go.RowKit.Below.refl _ _, fun Im' => ?_⟩
    have e : Lib.trimSuffix (⟨s.toArray⟩ : ByteArray).data.toList (⟨#[13]⟩ : ByteArray).data.toList = cutCR s := suffix_cr s
    rw [e]
    exact .str _
theorem itoa_ok [GDec] (n : Int) (h0 : -9223372036854775808 ≤ n) (h1 : n ≤ 9223372036854775807) : PCalls Tryz.prog 26 [.int .i64 n] (fun r => r = .str (Lib.itoa n)) :=
  pcalls1 fun base κ Im w v hs e1 => by
    cases e1.int_inv
    refine (Tryz.strconv_Itoa n h0 h1 w (tab_ok hs)).mono ?_
    rintro e w' ⟨rfl, k, os, rfl⟩
    exact ⟨_, _, rfl, rfl, Lib.below_grow _ w (Nat.le_refl _) k os, fun Im' => .str _⟩
end Go.Proofs.YtddpegkbmdcgbaaGreatDoor
