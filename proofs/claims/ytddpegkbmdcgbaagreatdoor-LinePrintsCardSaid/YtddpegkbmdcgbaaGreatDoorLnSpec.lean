/- Points as lines, in plain Lean. -/
import Derived.Test.YtddpegkbmdcgbaaGreatDoorTrSpec
import Derived.Test.YtddpegkbmdcgbaaGreatDoorDcI
import Derived.Lib.FieldsP
import Derived.Lib.TrimUEq
set_option linter.unusedSimpArgs false
set_option linter.unusedVariables false
namespace Go.Line
open Go.Glob

/-- A byte that stands between words. -/
def gapB (c : UInt8) : Bool := c == 32 || c == 9
def gapR (r : Nat) : Bool := r == 32 || r == 9
/-- Words; 'cur': what of a word has been read. -/
def flds : List UInt8 → List UInt8 → List (List UInt8)
  | cur, [] => if cur = [] then [] else [cur]
  | cur, c :: s => if gapB c then (if cur = [] then flds [] s else cur :: flds [] s) else flds (cur ++ [c]) s
/-- Without a carriage return at the end. -/
def cutCR (s : List UInt8) : List UInt8 := if s.getLast? = some 13 then s.dropLast else s
def words (s : List UInt8) : List (List UInt8) := flds [] (cutCR s)
def stamp (s : List UInt8) : Except Nat Int := if s = [45, 49] then .ok (-1) else Dec.whole s
/-- What a line's words say: a path, a value, a time. -/
def lp3 : List (List UInt8) → Except Nat (List UInt8 × Int × Int)
  | [a, b, c] => if (Trail.path a).isSome then (match Dec.parse b with
    | .error e => .error e
    | .ok v => match stamp c with
      | .error e => .error e
      | .ok t => .ok (a, v, t)) else .error 13
  | _ => .error 7
def lparse (s : List UInt8) : Except Nat (List UInt8 × Int × Int) := if 200 < s.length then .error 12 else lp3 (words s)
def sampR (p : List UInt8) (v t : Int) : Bool := decide (v ≠ -9223372036854775808) && decide (-1 ≤ t) && decide (t ≤ 1099511627776) && (Trail.path p).isSome
def lprint (p : List UInt8) (v t : Int) : List UInt8 := p ++ 32 :: (Dec.prn false v ++ 32 :: Lib.itoa t)

theorem flds_run : ∀ (x cur y : List UInt8), (∀ c ∈ x, gapB c = false) → flds cur (x ++ y) = flds (cur ++ x) y
  | [], cur, y, _ => by simp
  | c :: x, cur, y, h => by
    have hc := h c (by simp)
    rw [List.cons_append, flds, hc]
    simp only [Bool.false_eq_true, if_false]
    rw [flds_run x _ y fun d hd => h d (by simp [hd])]
    simp
theorem flds_gap {cur : List UInt8} {c : UInt8} {s : List UInt8} (h : gapB c = true) : flds cur (c :: s) = (if cur = [] then [] else [cur]) ++ flds [] s := by
  rw [flds, if_pos h]
  by_cases hc : cur = []
  · simp [hc]
  · simp [hc]
theorem flds_gaps : ∀ (x s : List UInt8), (∀ c ∈ x, gapB c = true) → flds [] (x ++ s) = flds [] s
  | [], s, _ => rfl
  | c :: x, s, h => by
    rw [List.cons_append, flds_gap (h c (by simp))]
    simpa using flds_gaps x s fun d hd => h d (by simp [hd])
/-- A word, and a gap behind it. -/
theorem flds_word {w g s : List UInt8} (hw : w ≠ []) (hg : ∀ c ∈ w, gapB c = false) (hgn : g ≠ []) (hgg : ∀ c ∈ g, gapB c = true) : flds [] (w ++ (g ++ s)) = w :: flds [] s := by
  rw [flds_run w [] _ hg, List.nil_append]
  cases g with
  | nil => exact absurd rfl hgn
  | cons c g =>
    rw [List.cons_append, flds_gap (hgg c (by simp)), if_neg hw, flds_gaps g s fun d hd => hgg d (by simp [hd])]
    rfl
theorem flds_last {w : List UInt8} (hw : w ≠ []) (hg : ∀ c ∈ w, gapB c = false) : flds [] w = [w] := by
  have := flds_run w [] [] hg
  rw [List.append_nil, List.nil_append] at this
  rw [this, flds, if_neg hw]
theorem flds_mem : ∀ (s cur : List UInt8), (∀ c ∈ cur, gapB c = false) → ∀ w ∈ flds cur s, w ≠ [] ∧ ∀ c ∈ w, gapB c = false
  | [], cur, h, w, hw => by
    rw [flds] at hw
    split at hw
    · cases hw
    · simp only [List.mem_singleton] at hw; subst hw; exact ⟨by assumption, h⟩
  | c :: s, cur, h, w, hw => by
    by_cases hc : gapB c = true
    · rw [flds_gap hc] at hw
      rcases List.mem_append.1 hw with hw | hw
      · split at hw
        · cases hw
        · simp only [List.mem_singleton] at hw; subst hw; exact ⟨by assumption, h⟩
      · exact flds_mem s [] (by simp) w hw
    · rw [flds, if_neg hc] at hw
      refine flds_mem s _ (fun d hd => ?_) w hw
      rcases List.mem_append.1 hd with hd | hd
      · exact h d hd
      · simp only [List.mem_singleton] at hd; subst hd; simpa using hc

/-! ## The library's fields -/
theorem decN (n b0 b1 b2 b3 : Nat) : (b0 < 128 → Lib.decodeN n b0 b1 b2 b3 = (b0, 1)) ∧ (128 ≤ b0 → 128 ≤ (Lib.decodeN n b0 b1 b2 b3).1 ∧ 1 ≤ (Lib.decodeN n b0 b1 b2 b3).2 ∧ (Lib.decodeN n b0 b1 b2 b3).2 ≤ 4 ∧
    (2 ≤ (Lib.decodeN n b0 b1 b2 b3).2 → 1 < n ∧ 128 ≤ b1) ∧ (3 ≤ (Lib.decodeN n b0 b1 b2 b3).2 → 2 < n ∧ 128 ≤ b2) ∧ (4 ≤ (Lib.decodeN n b0 b1 b2 b3).2 → 3 < n ∧ 128 ≤ b3)) := by
  constructor
  · intro h; unfold Lib.decodeN; rw [if_pos h]
  · intro h
    unfold Lib.decodeN
    rw [if_neg (by omega)]
    repeat' split
    all_goals (refine ⟨?_, ?_, ?_, ?_, ?_, ?_⟩ <;> simp only <;> omega)
theorem gapR_big {r : Nat} (h : 128 ≤ r) : gapR r = false := by simp [gapR]; omega
theorem gapB_big {c : UInt8} (h : 128 ≤ c.toNat) : gapB c = false := by
  cases hg : gapB c with
  | false => rfl
  | true =>
    simp only [gapB, Bool.or_eq_true, beq_iff_eq] at hg
    rcases hg with rfl | rfl <;> simp at h
/-- A rune: a gap's byte, or bytes that are none. -/
theorem decode_gap (s : ByteArray) (pos : Nat) (h : pos < s.size) : ∃ c x, s.data.toList.drop pos = c :: x ∧ ((gapR (Utf8.decode s pos).1 = true ∧ gapB c = true ∧ (Utf8.decode s pos).2 = 1) ∨
    (gapR (Utf8.decode s pos).1 = false ∧ 1 ≤ (Utf8.decode s pos).2 ∧ pos + (Utf8.decode s pos).2 ≤ s.size ∧ ∀ d ∈ (s.data.toList.drop pos).take (Utf8.decode s pos).2, gapB d = false)) := by
  have hsz : s.data.toList.length = s.size := by rw [Array.length_toList]; rfl
  obtain ⟨c, hc⟩ : ∃ c, s.data.toList[pos]? = some c := ⟨_, List.getElem?_eq_getElem (by omega)⟩
  have hd := drop_cons hc
  refine ⟨c, _, hd, ?_⟩
  have hD := Lib.decode_N s pos
  have g0 : s.data.toList.getD pos 0 = c := by simp [List.getD, hc]
  rw [g0] at hD
  obtain ⟨d1, d2⟩ := decN (s.data.toList.length - pos) c.toNat (s.data.toList.getD (pos + 1) 0).toNat (s.data.toList.getD (pos + 2) 0).toNat (s.data.toList.getD (pos + 3) 0).toNat
  rw [← hD] at d1 d2
  by_cases h128 : c.toNat < 128
  · rw [d1 h128]
    have hgg : gapR c.toNat = gapB c := by
      have e : ∀ k : Nat, k < 256 → (c.toNat == k) = (c == UInt8.ofNat k) := fun k hk => by
        rw [Bool.eq_iff_iff]
        simp only [beq_iff_eq]
        exact ⟨fun h => UInt8.toNat_inj.1 (by rw [h]; simp; omega), fun h => by rw [h]; simp; omega⟩
      unfold gapR gapB
      rw [e 32 (by omega), e 9 (by omega)]; rfl
    cases hg : gapB c with
    | true => exact .inl ⟨by rw [hgg, hg], rfl, rfl⟩
    | false =>
      refine .inr ⟨by rw [hgg, hg], Nat.le_refl _, by omega, fun d hd' => ?_⟩
      rw [hd] at hd'
      simp at hd'
      rw [hd', hg]
  · obtain ⟨e1, e2, e3, e4, e5, e6⟩ := d2 (by omega)
    generalize Utf8.decode s pos = R at *
    obtain ⟨r, k⟩ := R
    simp only at e1 e2 e3 e4 e5 e6 ⊢
    refine .inr ⟨gapR_big e1, e2, ?_, ?_⟩
    · by_cases k4 : 4 ≤ k
      · have := e6 k4; omega
      · by_cases k3 : 3 ≤ k
        · have := e5 k3; omega
        · by_cases k2 : 2 ≤ k
          · have := e4 k2; omega
          · omega
    · intro d hd'
      obtain ⟨j, hj, hjd⟩ := List.mem_iff_getElem.1 hd'
      rw [List.length_take, List.length_drop] at hj
      rw [List.getElem_take, List.getElem_drop] at hjd
      have hget : ∀ i, pos + i < s.data.toList.length → (hi : pos + i < s.data.toList.length) → s.data.toList.getD (pos + i) 0 = s.data.toList[pos + i] := fun i _ hi => by simp [List.getD, List.getElem?_eq_getElem hi]
      refine gapB_big ?_
      rw [← hjd]
      match j, hj with
      | 0, _ =>
        have : s.data.toList[pos + 0]'(by omega) = c := by
          have := (List.getElem?_eq_some_iff.1 hc).2; simpa using this
        rw [this]; omega
      | 1, hj => have := (e4 (by omega)).2; rw [hget 1 (by omega) (by omega)] at this; exact this
      | 2, hj => have := (e5 (by omega)).2; rw [hget 2 (by omega) (by omega)] at this; exact this
      | 3, hj => have := (e6 (by omega)).2; rw [hget 3 (by omega) (by omega)] at this; exact this
      | j + 4, hj => omega
def curOf (l : List UInt8) (st : Option Nat) (pos : Nat) : List UInt8 := match st with
  | some a => (l.take pos).drop a
  | none => []
theorem spans_end (s : ByteArray) (f pos : Nat) (st : Option Nat) (acc : List (Nat × Nat)) (hlt : ¬ pos < s.size) (hp : pos ≤ s.size) (hst : ∀ a, st = some a → a < pos) :
    (Lib.closeSpans s (Lib.spansFromP gapR s f pos st acc)).map (fun x => (s.data.toList.take x.2).drop x.1) = acc.map (fun x => (s.data.toList.take x.2).drop x.1) ++ flds (curOf s.data.toList st pos) (s.data.toList.drop pos) := by
  have hsz : s.data.toList.length = s.size := by rw [Array.length_toList]; rfl
  rw [Lib.spansFromP_end _ _ _ _ _ _ hlt]
  have he : s.data.toList.drop pos = [] := List.drop_of_length_le (by omega)
  rw [he, flds]
  cases st with
  | none => simp [Lib.closeSpans, curOf]
  | some a =>
    have ha := hst a rfl
    have hne : ¬ curOf s.data.toList (some a) pos = [] := by
      intro he
      have := congrArg List.length he
      simp only [curOf, List.length_drop, List.length_take, List.length_nil] at this
      omega
    have e : pos = s.size := by omega
    rw [if_neg hne]
    simp [Lib.closeSpans, curOf, e]
theorem spans_flds (s : ByteArray) : ∀ (f pos : Nat) (st : Option Nat) (acc : List (Nat × Nat)), s.size ≤ pos + f → pos ≤ s.size → (∀ a, st = some a → a < pos) →
    (Lib.closeSpans s (Lib.spansFromP gapR s f pos st acc)).map (fun x => (s.data.toList.take x.2).drop x.1) = acc.map (fun x => (s.data.toList.take x.2).drop x.1) ++ flds (curOf s.data.toList st pos) (s.data.toList.drop pos)
  | 0, pos, st, acc, hf, hp, hst => spans_end s 0 pos st acc (by omega) hp hst
  | f + 1, pos, st, acc, hf, hp, hst => by
    have hsz : s.data.toList.length = s.size := by rw [Array.length_toList]; rfl
    by_cases hlt : pos < s.size
    · obtain ⟨c, x, hd, hcase⟩ := decode_gap s pos hlt
      unfold Lib.spansFromP
      rw [if_pos hlt]
      rcases hcase with ⟨h1, h2, h3⟩ | ⟨h1, h2, h3, h4⟩
      · have hx : x = s.data.toList.drop (pos + 1) := by
          have := congrArg (List.drop 1) hd
          simpa [List.drop_drop, Nat.add_comm] using this.symm
        rw [if_pos h1, h3]
        cases st with
        | none =>
          simp only
          rw [spans_flds s f (pos + 1) none acc (by omega) (by omega) (by simp), hd, flds_gap h2, hx]
          simp [curOf]
        | some a =>
          simp only
          have ha := hst a rfl
          rw [spans_flds s f (pos + 1) none _ (by omega) (by omega) (by simp), hd, flds_gap h2, hx]
          have hne : ¬ curOf s.data.toList (some a) pos = [] := by
            intro he
            have := congrArg List.length he
            simp only [curOf, List.length_drop, List.length_take, List.length_nil] at this
            omega
          rw [if_neg hne]
          simp [curOf]
      · rw [if_neg (by rw [h1]; decide)]
        have hrun : ∀ cur, flds cur (s.data.toList.drop pos) = flds (cur ++ (s.data.toList.drop pos).take (Utf8.decode s pos).2) (s.data.toList.drop (pos + (Utf8.decode s pos).2)) := fun cur => by
          have := flds_run _ cur ((s.data.toList.drop pos).drop (Utf8.decode s pos).2) h4
          rw [List.take_append_drop, List.drop_drop] at this
          exact this
        cases st with
        | none =>
          simp only
          rw [spans_flds s f _ (some pos) acc (by omega) (by omega) (by intro a ha; cases ha; omega), hrun]
          congr 2
          simp only [curOf, List.nil_append]
          rw [List.drop_take]
          congr 1; omega
        | some a =>
          simp only
          have ha := hst a rfl
          rw [spans_flds s f _ (some a) acc (by omega) (by omega) (by intro b hb; cases hb; omega), hrun]
          congr 2
          simp only [curOf]
          rw [List.take_add, List.drop_append_of_le_length (by rw [List.length_take]; omega)]
    · exact spans_end s _ pos st acc hlt hp hst
theorem extract_list (s : ByteArray) (a b : Nat) : (s.extract a b).data.toList = (s.data.toList.take b).drop a := by
  simp [ByteArray.data_extract, Array.toList_extract, List.extract_eq_take_drop, List.drop_take]
theorem goFields_flds (s : ByteArray) : (Lib.goFieldsP gapR s).map (·.data.toList) = flds [] s.data.toList := by
  have := spans_flds s s.size 0 none [] (by omega) (by omega) (by simp)
  simp only [List.map_nil, List.nil_append, curOf, List.drop_zero] at this
  rw [← this]
  unfold Lib.goFieldsP Lib.spansOfP
  rw [List.map_map]
  refine List.map_congr_left fun x _ => ?_
  exact extract_list s x.1 x.2
end Go.Line
