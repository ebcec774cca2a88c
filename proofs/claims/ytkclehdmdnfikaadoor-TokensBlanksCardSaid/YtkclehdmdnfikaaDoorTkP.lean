/- A target's tokens, in plain Lean: a token is told by its own bytes; what is laid with blanks between is split as it was. -/
import Derived.Test.YtkclehdmdnfikaaDoorTkM
set_option linter.unusedSimpArgs false
set_option linter.unusedVariables false
namespace Go.Tok
open Go.Glob

/-- What may follow a token: nothing, or a blank. -/
def StopB (rest : List UInt8) : Prop := rest = [] ∨ ∃ r, rest = 32 :: r

theorem clsN_take : ∀ (s : List UInt8) (k : Nat) (y : List UInt8), clsN s = some k → clsN (s.take k ++ y) = some k
  | [], k, y, h => by simp [clsN] at h
  | c :: r, k, y, h => by
    unfold clsN at h
    split at h
    · cases h
    · rename_i hs
      split at h
      · rename_i h93
        cases h
        simp only [List.take_succ_cons, List.take_zero, List.cons_append, List.nil_append]
        rw [clsN, if_neg hs, if_pos h93]
      · rename_i h93
        cases hr : clsN r with
        | none => rw [hr] at h; cases h
        | some j =>
          rw [hr] at h; cases h
          have := clsN_take r j y hr
          show clsN ((c :: r).take (j + 1) ++ y) = some (j + 1)
          simp only [List.take_succ_cons, List.cons_append]
          rw [clsN, if_neg hs, if_neg h93, this]
          rfl
theorem brcN_take : ∀ (s : List UInt8) (d k : Nat) (y : List UInt8), brcN d s = some k → brcN d (s.take k ++ y) = some k
  | [], d, k, y, h => by simp [brcN] at h
  | c :: r, d, k, y, h => by
    unfold brcN at h
    split at h
    · cases h
    · rename_i hs
      split at h
      · rename_i h0
        cases h
        simp only [List.take_succ_cons, List.take_zero, List.cons_append, List.nil_append]
        rw [brcN, if_neg hs, if_pos h0]
      · rename_i h0
        cases hr : brcN (deeper d c) r with
        | none => rw [hr] at h; cases h
        | some j =>
          rw [hr] at h; cases h
          have := brcN_take r _ j y hr
          show brcN d ((c :: r).take (j + 1) ++ y) = some (j + 1)
          simp only [List.take_succ_cons, List.cons_append]
          rw [brcN, if_neg hs, if_neg h0, this]
          rfl
theorem rowF_stop {m : Nat} {rest : List UInt8} (h : StopB rest) : rowF m rest = some 0 := by
  rcases h with rfl | ⟨r, rfl⟩
  · cases m <;> rfl
  · cases m with
    | zero => rfl
    | succ m =>
      rw [rowF, if_neg (by decide), if_neg (by decide), if_neg (by decide)]
theorem take_add_drop {s : List UInt8} {a j : Nat} : s.take (j + a) = s.take a ++ (s.drop a).take j := by
  rw [Nat.add_comm, List.take_add]
theorem rowF_take : ∀ (n : Nat) (s : List UInt8) (k m : Nat) (rest : List UInt8), rowF n s = some k → s.length ≤ n → k ≤ m → StopB rest → rowF m (s.take k ++ rest) = some k
  | 0, s, k, m, rest, h, hn, _, hr => by
    simp [rowF] at h; subst h; simpa using rowF_stop hr
  | n + 1, [], k, m, rest, h, hn, hm, hr => by
    simp [rowF] at h; subst h; simpa using rowF_stop hr
  | n + 1, c :: r, k, 0, rest, h, hn, hm, hr => by
    have : k = 0 := by omega
    subst this; rfl
  | n + 1, c :: r, k, m + 1, rest, h, hn, hm, hr => by
    simp only [List.length_cons] at hn
    unfold rowF at h
    split at h
    · rename_i hw
      cases hj : rowF n r with
      | none => rw [hj] at h; cases h
      | some j =>
        rw [hj] at h
        simp only [Option.map_some, Option.some.injEq] at h; subst h
        have := rowF_take n r j m rest hj (by omega) (by omega) hr
        show rowF (m + 1) ((c :: r).take (j + 1) ++ rest) = some (j + 1)
        simp only [List.take_succ_cons, List.cons_append]
        rw [rowF, if_pos hw, this]; rfl
    · rename_i hw
      split at h
      · rename_i h91
        cases hc : clsN (c :: r) with
        | none => rw [hc] at h; cases h
        | some a =>
          rw [hc] at h
          simp only [Option.bind_some] at h
          cases hj : rowF n ((c :: r).drop a) with
          | none => rw [hj] at h; cases h
          | some j =>
            rw [hj] at h
            simp only [Option.map_some, Option.some.injEq] at h; subst h
            have ha := clsN_le _ _ hc
            have hk := rowF_take n _ j m rest hj (by rw [List.length_drop, List.length_cons]; omega) (by omega) hr
            show rowF (m + 1) ((c :: r).take (j + a) ++ rest) = some (j + a)
            have hcl := clsN_take _ _ (((c :: r).drop a).take j ++ rest) hc
            rw [take_add_drop, List.append_assoc]
            have hlen : ((c :: r).take a).length = a := by rw [List.length_take]; omega
            obtain ⟨x, hx⟩ : ∃ x, (c :: r).take a = c :: x := by
              obtain ⟨a, rfl⟩ : ∃ b, a = b + 1 := ⟨a - 1, by omega⟩
              exact ⟨r.take a, rfl⟩
            have hdr : ((c :: r).take a ++ (((c :: r).drop a).take j ++ rest)).drop a = ((c :: r).drop a).take j ++ rest := by
              rw [List.drop_append_of_le_length (by omega), List.drop_of_length_le (by omega), List.nil_append]
            generalize ((c :: r).drop a).take j ++ rest = y at hcl hdr hk ⊢
            rw [hx] at hcl hdr ⊢
            rw [List.cons_append] at hcl hdr ⊢
            rw [rowF, if_neg hw, if_pos h91, hcl]
            simp only [Option.bind_some]
            rw [hdr, hk]; rfl
      · rename_i h91
        split at h
        · rename_i h123
          cases hc : brcN 0 (c :: r) with
          | none => rw [hc] at h; cases h
          | some a =>
            rw [hc] at h
            simp only [Option.bind_some] at h
            cases hj : rowF n ((c :: r).drop a) with
            | none => rw [hj] at h; cases h
            | some j =>
              rw [hj] at h
              simp only [Option.map_some, Option.some.injEq] at h; subst h
              have ha := brcN_le _ _ _ hc
              have hk := rowF_take n _ j m rest hj (by rw [List.length_drop, List.length_cons]; omega) (by omega) hr
              show rowF (m + 1) ((c :: r).take (j + a) ++ rest) = some (j + a)
              have hcl := brcN_take _ _ _ (((c :: r).drop a).take j ++ rest) hc
              rw [take_add_drop, List.append_assoc]
              have hlen : ((c :: r).take a).length = a := by rw [List.length_take]; omega
              obtain ⟨x, hx⟩ : ∃ x, (c :: r).take a = c :: x := by
                obtain ⟨a, rfl⟩ : ∃ b, a = b + 1 := ⟨a - 1, by omega⟩
                exact ⟨r.take a, rfl⟩
              have hdr : ((c :: r).take a ++ (((c :: r).drop a).take j ++ rest)).drop a = ((c :: r).drop a).take j ++ rest := by
                rw [List.drop_append_of_le_length (by omega), List.drop_of_length_le (by omega), List.nil_append]
              generalize ((c :: r).drop a).take j ++ rest = y at hcl hdr hk ⊢
              rw [hx] at hcl hdr ⊢
              rw [List.cons_append] at hcl hdr ⊢
              rw [rowF, if_neg hw, if_neg h91, if_pos h123, hcl]
              simp only [Option.bind_some]
              rw [hdr, hk]; rfl
        · cases h
          simpa using rowF_stop hr

theorem idx_app_some : ∀ (l m : List UInt8) (c : UInt8), 0 ≤ Lib.indexByte l c → Lib.indexByte (l.take ((Lib.indexByte l c).toNat + 1) ++ m) c = Lib.indexByte l c
  | [], m, c, h => by simp [Lib.indexByte] at h
  | b :: l, m, c, h => by
    have hge := Lib.indexByte_ge l c
    by_cases hb : b = c
    · subst hb; simp [Lib.indexByte]
    · have hb' : (b == c) = false := by simpa using hb
      have e1 : Lib.indexByte (b :: l) c = if Lib.indexByte l c = -1 then -1 else Lib.indexByte l c + 1 := by
        rw [Lib.indexByte]; simp [hb']
      rw [e1] at h ⊢
      by_cases h1 : Lib.indexByte l c = -1
      · rw [if_pos h1] at h; omega
      · rw [if_neg h1] at h ⊢
        have ih := idx_app_some l m c (by omega)
        have e2 : (Lib.indexByte l c + 1).toNat + 1 = ((Lib.indexByte l c).toNat + 1) + 1 := by omega
        rw [e2, List.take_succ_cons, List.cons_append, Lib.indexByte]
        simp only [hb', Bool.false_eq_true, if_false, ih]
        have h1' : (Lib.indexByte l c == -1) = false := by simpa using h1
        simp [h1']

/-- A token is told by its own bytes. -/
theorem nextT_take {s : List UInt8} {k : Int} {t : List UInt8} {n : Nat} (h : nextT s = some (k, t, n)) {rest : List UInt8} (hr : StopB rest) : nextT (s.take n ++ rest) = some (k, t, n) := by
  cases s with
  | nil => simp [nextT] at h
  | cons c r =>
    rw [nextT] at h
    by_cases h1 : c = 40
    · rw [if_pos h1] at h; cases h; simp [nextT, h1]
    rw [if_neg h1] at h
    by_cases h2 : c = 41
    · rw [if_pos h2] at h; cases h; simp [nextT, h2]
    rw [if_neg h2] at h
    by_cases h3 : c = 44
    · rw [if_pos h3] at h; cases h; simp [nextT, h3]
    rw [if_neg h3] at h
    by_cases h4 : c = 39 ∨ c = 34
    · rw [if_pos h4] at h
      by_cases hneg : Lib.indexByte r c < 0
      · rw [if_pos hneg] at h; cases h
      · rw [if_neg hneg] at h
        cases h
        have hi := idx_app_some r rest c (by omega)
        have hlt : (Lib.indexByte r c).toNat < r.length := by
          have hi : Lib.indexByte r c = ((Lib.indexByte r c).toNat : Int) := by omega
          exact (List.getElem?_eq_some_iff.1 (Lib.indexByte_some hi).1).1
        rw [show (Lib.indexByte r c).toNat + 2 = ((Lib.indexByte r c).toNat + 1) + 1 by omega, List.take_succ_cons, List.cons_append, nextT, if_neg h1, if_neg h2, if_neg h3, if_pos h4, hi, if_neg hneg]
        congr 3
        rw [List.take_append_of_le_length (by rw [List.length_take]; omega), List.take_take]
        congr 1; omega
    · rw [if_neg h4] at h
      cases hrow : rowF (r.length + 1) (c :: r) with
      | none => rw [hrow] at h; cases h
      | some m =>
        rw [hrow] at h
        have hm := rowF_le _ _ _ hrow
        cases m with
        | zero => cases h
        | succ j =>
          cases h
          have hx : rowF (((r.take j) ++ rest).length + 1) ((c :: r).take (j + 1) ++ rest) = some (j + 1) := by
            refine rowF_take _ _ _ _ _ hrow (by simp) ?_ hr
            simp only [List.length_cons] at hm
            rw [List.length_append, List.length_take]; omega
          rw [List.take_succ_cons, List.cons_append] at hx ⊢
          rw [nextT, if_neg h1, if_neg h2, if_neg h3, if_neg h4, hx]
          have e : (c :: (r.take j ++ rest)).take (j + 1) = (c :: r).take (j + 1) := by
            simp only [List.length_cons] at hm
            rw [List.take_succ_cons, List.take_append_of_le_length (by rw [List.length_take]; omega), List.take_take, Nat.min_self, List.take_succ_cons]
          simp only [e, List.take_succ_cons]

theorem nextT_head {c : UInt8} {r : List UInt8} {x : Int × List UInt8 × Nat} (h : nextT (c :: r) = some x) : c ≠ 32 := by
  intro hc
  subst hc
  have : rowF (r.length + 1) (32 :: r) = some 0 := rowF_stop (.inr ⟨r, rfl⟩)
  rw [nextT, if_neg (by decide), if_neg (by decide), if_neg (by decide), if_neg (by decide), this] at h
  cases h
/-- A token's text is not longer than its bytes, and a row's text is its bytes. -/
theorem nextT_text {s : List UInt8} {k : Int} {t : List UInt8} {n : Nat} (h : nextT s = some (k, t, n)) : t.length ≤ n ∧ (k = 1 ∨ k = 2 → s.take n = t) := by
  have hle := nextT_le h
  simp only at hle
  cases s with
  | nil => simp [nextT] at h
  | cons c r =>
    rw [nextT] at h
    by_cases h1 : c = 40
    · rw [if_pos h1] at h; cases h; simp
    rw [if_neg h1] at h
    by_cases h2 : c = 41
    · rw [if_pos h2] at h; cases h; simp
    rw [if_neg h2] at h
    by_cases h3 : c = 44
    · rw [if_pos h3] at h; cases h; simp
    rw [if_neg h3] at h
    by_cases h4 : c = 39 ∨ c = 34
    · rw [if_pos h4] at h
      by_cases hneg : Lib.indexByte r c < 0
      · rw [if_pos hneg] at h; cases h
      · rw [if_neg hneg] at h
        cases h
        refine ⟨by rw [List.length_take]; omega, fun h => by omega⟩
    · rw [if_neg h4] at h
      cases hrow : rowF (r.length + 1) (c :: r) with
      | none => rw [hrow] at h; cases h
      | some m =>
        rw [hrow] at h
        have hm := rowF_le _ _ _ hrow
        cases m with
        | zero => cases h
        | succ j =>
          simp only [Option.some.injEq, Prod.mk.injEq] at h
          obtain ⟨_, rfl, rfl⟩ := h
          exact ⟨by rw [List.length_take]; omega, fun _ => rfl⟩
theorem splitF_bound : ∀ (n a : Nat) (s : List UInt8) (l : List Tk), splitF n a s = some l → ∀ x ∈ l, a ≤ x.place ∧ x.place + x.text.length ≤ a + s.length
  | n, a, [], l, h, x, hx => by
    have : l = [] := by cases n <;> simp [splitF] at h <;> exact h
    subst this; cases hx
  | 0, a, c :: r, l, h, x, hx => by simp [splitF] at h; subst h; cases hx
  | n + 1, a, c :: r, l, h, x, hx => by
    rw [splitF] at h
    split at h
    · have := splitF_bound n _ r l h x hx
      simp only [List.length_cons]; omega
    · cases hy : nextT (c :: r) with
      | none => rw [hy] at h; cases h
      | some y =>
        rw [hy] at h
        simp only [Option.bind_some] at h
        cases hz : splitF n (a + y.2.2) ((c :: r).drop y.2.2) with
        | none => rw [hz] at h; cases h
        | some z =>
          rw [hz] at h; cases h
          have hle := nextT_le hy
          have ht := (nextT_text (k := y.1) (t := y.2.1) (n := y.2.2) hy).1
          rcases List.mem_cons.1 hx with rfl | hx
          · simp only; omega
          · have := splitF_bound n _ _ z hz x hx
            rw [List.length_drop] at this
            omega

/-- A token's kind and text. -/
def kt (x : Tk) : Int × List UInt8 := (x.kind, x.text)
/-- Wherever it stands, a text is split into these. -/
def SPl (s : List UInt8) (o : List (Int × List UInt8)) : Prop := ∀ n b, s.length ≤ n → ∃ l, splitF n b s = some l ∧ l.map kt = o
theorem spl_nil : SPl [] [] := fun n b _ => ⟨[], by cases n <;> rfl, rfl⟩
theorem spl_blank {s o} (h : SPl s o) : SPl (32 :: s) o := fun n b hn => by
  obtain ⟨n, rfl⟩ : ∃ m, n = m + 1 := ⟨n - 1, by simp at hn; omega⟩
  rw [splitF, if_pos rfl]
  exact h n _ (by simpa using hn)
theorem spl_blanks {s o} (h : SPl s o) : ∀ k, SPl (List.replicate k 32 ++ s) o
  | 0 => by simpa using h
  | k + 1 => by rw [List.replicate_succ, List.cons_append]; exact spl_blank (spl_blanks h k)
theorem spl_tok {r s o} {k : Int} {t : List UInt8} (hx : nextT (r ++ s) = some (k, t, r.length)) (h : SPl s o) : SPl (r ++ s) ((k, t) :: o) := fun n b hn => by
  have hle := nextT_le hx
  have hd : (r ++ s).drop r.length = s := by simp
  cases hq : r ++ s with
  | nil => rw [hq] at hx; simp [nextT] at hx
  | cons c q =>
    rw [hq] at hx hd hn
    obtain ⟨n, rfl⟩ : ∃ m, n = m + 1 := ⟨n - 1, by simp at hn; omega⟩
    have hln : (r ++ s).length = r.length + s.length := by simp
    rw [hq] at hln
    obtain ⟨l, hl1, hl2⟩ := h n (b + r.length) (by simp only at hle; omega)
    rw [splitF, if_neg (nextT_head hx), hx]
    simp only [Option.bind_some]
    rw [hd, hl1]
    exact ⟨_, rfl, by simp [kt, hl2]⟩
theorem stops_blanks {s : List UInt8} (h : StopB s) : ∀ k, StopB (List.replicate k 32 ++ s)
  | 0 => by simpa using h
  | k + 1 => .inr ⟨List.replicate k 32 ++ s, rfl⟩
/-- From a split at any place to the split. -/
theorem spl_split {s o} (h : SPl s o) : (1024 < s.length ∧ split s = .error 12) ∨ (¬ 1024 < s.length ∧ 256 < o.length ∧ split s = .error 11) ∨ (¬ 1024 < s.length ∧ ¬ 256 < o.length ∧ ∃ l, split s = .ok l ∧ l.map kt = o) := by
  obtain ⟨l, h1, h2⟩ := h s.length 0 (Nat.le_refl _)
  have hl : l.length = o.length := by rw [← h2]; simp
  unfold split
  rw [h1]
  by_cases h3 : 1024 < s.length
  · simp [h3]
  · by_cases h4 : 256 < l.length
    · simp [h3, h4, ← hl]
    · simp only [h3, h4, if_false, ← hl]
      exact .inr (.inr ⟨fun h => h, fun h => h, l, rfl, h2⟩)

/-- The place of the next token, or the end. -/
def nx (T : List UInt8) : List Tk → Nat
  | [] => T.length
  | y :: _ => y.place
/-- The tokens that stand in a text, from a place on. -/
def Chain (T : List UInt8) : Nat → List Tk → Prop
  | a, [] => a ≤ T.length ∧ T.drop a = List.replicate (T.length - a) 32
  | a, x :: l => a ≤ x.place ∧ x.place ≤ T.length ∧ T.drop a = List.replicate (x.place - a) 32 ++ T.drop x.place ∧ ∃ m, nextT (T.drop x.place) = some (x.kind, x.text, m) ∧ x.place + m ≤ T.length ∧ Chain T (x.place + m) l
theorem chain_nx {T : List UInt8} {a : Nat} {l : List Tk} (h : Chain T a l) : a ≤ nx T l ∧ nx T l ≤ T.length ∧ T.drop a = List.replicate (nx T l - a) 32 ++ T.drop (nx T l) := by
  cases l with
  | nil => exact ⟨h.1, Nat.le_refl _, by rw [show nx T [] = T.length from rfl, List.drop_length, List.append_nil]; exact h.2⟩
  | cons x l => exact ⟨h.1, h.2.1, h.2.2.1⟩
theorem split_chain (T : List UInt8) : ∀ (n a : Nat) (s : List UInt8) (l : List Tk), splitF n a s = some l → s.length ≤ n → s = T.drop a → a ≤ T.length → Chain T a l
  | n, a, [], l, h, hn, hs, ha => by
    have : l = [] := by cases n <;> simp [splitF] at h <;> exact h
    subst this
    have : T.length = a := by
      have := congrArg List.length hs
      simp at this; omega
    exact ⟨ha, by rw [← hs, this]; simp⟩
  | 0, a, c :: r, l, h, hn, hs, ha => by simp at hn
  | n + 1, a, c :: r, l, h, hn, hs, ha => by
    have hln : (c :: r).length = T.length - a := by rw [hs]; simp
    simp only [List.length_cons] at hn hln
    have hr : r = T.drop (a + 1) := by
      have := congrArg (List.drop 1) hs
      simpa [List.drop_drop, Nat.add_comm] using this
    rw [splitF] at h
    split at h
    · rename_i h32
      subst h32
      have := split_chain T n (a + 1) r l h (by omega) hr (by omega)
      cases l with
      | nil =>
        refine ⟨ha, ?_⟩
        rw [← hs, hr, this.2, show T.length - a = (T.length - (a + 1)) + 1 by omega, List.replicate_succ]
      | cons x l =>
        obtain ⟨h1, h2, h3, h4⟩ := this
        refine ⟨by omega, h2, ?_, h4⟩
        rw [← hs, hr, h3, show x.place - a = (x.place - (a + 1)) + 1 by omega, List.replicate_succ, List.cons_append]
    · cases hy : nextT (c :: r) with
      | none => rw [hy] at h; cases h
      | some y =>
        rw [hy] at h
        simp only [Option.bind_some] at h
        cases hz : splitF n (a + y.2.2) ((c :: r).drop y.2.2) with
        | none => rw [hz] at h; cases h
        | some z =>
          rw [hz] at h; cases h
          have hle := nextT_le hy
          simp only [List.length_cons] at hle
          refine ⟨Nat.le_refl _, ha, by simp, y.2.2, by rw [← hs]; exact hy, by show a + y.2.2 ≤ T.length; omega, ?_⟩
          exact split_chain T n _ _ z hz (by rw [List.length_drop, List.length_cons]; omega) (by rw [hs, List.drop_drop]) (by show a + y.2.2 ≤ T.length; omega)
/-- The text with more blanks. -/
def wideL (T : List UInt8) (g : Nat) : Nat → List Tk → List UInt8
  | _, [] => []
  | i, x :: l => List.replicate ((g + i) % 5 + 1) 32 ++ ((T.drop x.place).take (nx T l - x.place) ++ wideL T g (i + 1) l)
theorem wide_spl (T : List UInt8) (g : Nat) : ∀ (l : List Tk) (a i : Nat), Chain T a l → SPl (wideL T g i l) (l.map kt) ∧ StopB (wideL T g i l)
  | [], a, i, _ => ⟨spl_nil, .inl rfl⟩
  | x :: l, a, i, h => by
    obtain ⟨h1, h2, h3, m, h4, h5, h6⟩ := h
    obtain ⟨ih1, ih2⟩ := wide_spl T g l _ (i + 1) h6
    obtain ⟨q1, q2, q3⟩ := chain_nx h6
    refine ⟨?_, .inr ⟨_, rfl⟩⟩
    have e : (T.drop x.place).take (nx T l - x.place) = (T.drop x.place).take m ++ List.replicate (nx T l - (x.place + m)) 32 := by
      rw [show nx T l - x.place = m + (nx T l - (x.place + m)) by omega, List.take_add, List.drop_drop, q3, List.take_append_of_le_length (by simp)]
      simp
    rw [wideL, e, List.append_assoc]
    refine spl_blanks ?_ _
    have hst := stops_blanks ih2 (nx T l - (x.place + m))
    have hnx := nextT_take h4 hst
    have hln : ((T.drop x.place).take m).length = m := by rw [List.length_take, List.length_drop]; omega
    exact spl_tok (by rw [hnx, hln]) (spl_blanks ih1 _)
theorem wide_len (T : List UInt8) (g : Nat) : ∀ (l : List Tk) (a i : Nat), Chain T a l → (wideL T g i l).length + nx T l ≤ 5 * l.length + T.length
  | [], a, i, h => by simp [wideL, nx]
  | x :: l, a, i, h => by
    obtain ⟨h1, h2, h3, m, h4, h5, h6⟩ := h
    have ih := wide_len T g l _ (i + 1) h6
    obtain ⟨q1, q2, q3⟩ := chain_nx h6
    rw [show nx T (x :: l) = x.place from rfl]
    simp only [wideL, List.length_append, List.length_replicate, List.length_take, List.length_drop, List.length_cons]
    omega
end Go.Tok
namespace Go.Proofs.YtkclehdmdnfikaaDoor
open Go.Abs Go.Glob Go.Tok

def isOne (k : Int) (t : List UInt8) : Except Nat (List Tk) → Bool
  | .ok [x] => decide (x.kind = k) && decide (x.text = t)
  | _ => false
/-- Is it the one token of some target? -/
def rightB (k p : Int) (t : List UInt8) : Bool :=
  decide (0 ≤ p) && (if k = 4 ∨ k = 5 ∨ k = 6 then decide (t = []) else if k = 3 then decide (t.length ≤ 1022) && !(decide ((39 : UInt8) ∈ t) && decide ((34 : UInt8) ∈ t))
    else if k = 1 ∨ k = 2 then isOne k t (Tok.split t) else false)
theorem split_one {t : List UInt8} {x : Tk} (h : Tok.split t = .ok [x]) (ht : x.text = t) : x.place = 0 ∧ (x.kind = 1 ∨ x.kind = 2 → nextT t = some (x.kind, t, t.length)) := by
  unfold Tok.split at h
  split at h
  · cases h
  cases hs : splitF t.length 0 t with
  | none => rw [hs] at h; cases h
  | some l =>
    rw [hs] at h
    simp only at h
    split at h
    · cases h
    cases h
    have hb := splitF_bound _ _ _ _ hs x (by simp)
    rw [ht] at hb
    refine ⟨by omega, fun hk => ?_⟩
    cases t with
    | nil => simp [splitF] at hs
    | cons c r =>
      rw [List.length_cons, splitF] at hs
      split at hs
      · have := splitF_bound _ _ _ _ hs x (by simp)
        rw [ht] at this
        simp at this; omega
      · cases hy : nextT (c :: r) with
        | none => rw [hy] at hs; cases hs
        | some y =>
          rw [hy] at hs
          simp only [Option.bind_some] at hs
          cases hz : splitF r.length (0 + y.2.2) ((c :: r).drop y.2.2) with
          | none => rw [hz] at hs; cases hs
          | some z =>
            rw [hz] at hs; cases hs
            simp only at ht hk ⊢
            have hle := nextT_le hy
            have := nextT_text (k := y.1) (t := y.2.1) (n := y.2.2) hy
            have h2 := this.2 hk
            rw [ht] at h2
            have e : y.2.2 = (c :: r).length := by
              have := congrArg List.length h2
              rw [List.length_take] at this
              omega
            exact congrArg some (Prod.ext rfl (Prod.ext ht e))
theorem right_next {k p : Int} {t : List UInt8} (h : rightB k p t = true) {rest : List UInt8} (hr : StopB rest) : nextT (textOf k t ++ rest) = some (k, t, (textOf k t).length) := by
  unfold rightB at h
  rw [Bool.and_eq_true] at h
  obtain ⟨_, h⟩ := h
  by_cases h4 : k = 4 ∨ k = 5 ∨ k = 6
  · rw [if_pos h4] at h
    have ht : t = [] := by simpa using h
    subst ht
    rcases h4 with rfl | rfl | rfl <;> simp [textOf, nextT]
  rw [if_neg h4] at h
  by_cases h3 : k = 3
  · subst h3
    simp only [if_true, Bool.and_eq_true, decide_eq_true_eq, Bool.not_eq_true', Bool.and_eq_false_iff, decide_eq_false_iff_not] at h
    have hq : ∃ q : UInt8, quoteOf t = [q] ∧ (q = 39 ∨ q = 34) ∧ q ∉ t := by
      unfold quoteOf
      by_cases h39 : (39 : UInt8) ∈ t
      · have h34 : ¬ (34 : UInt8) ∈ t := by
          rcases h.2 with h | h
          · exact absurd h39 h
          · exact h
        exact ⟨34, by simp [h39, h34], .inr rfl, h34⟩
      · exact ⟨39, by simp [h39], .inl rfl, h39⟩
    obtain ⟨q, hq1, hq2, hq3⟩ := hq
    have e : textOf 3 t = q :: (t ++ [q]) := by simp [textOf, hq1]
    have hidx : ∀ (t m : List UInt8), q ∉ t → Lib.indexByte (t ++ q :: m) q = t.length := by
      intro t m
      induction t with
      | nil => intro _; simp [Lib.indexByte]
      | cons b t ih =>
        intro hb
        simp only [List.mem_cons, not_or] at hb
        have hbq : (b == q) = false := by simpa using fun h => hb.1 h.symm
        rw [List.cons_append, Lib.indexByte, ih hb.2]
        have : ¬ ((t.length : Int) = -1) := by omega
        simp [hbq, this]
    have hI := hidx t rest hq3
    have e2 : (q :: (t ++ [q])) ++ rest = q :: (t ++ q :: rest) := by simp
    have hneg : ¬ Lib.indexByte (t ++ q :: rest) q < 0 := by rw [hI]; omega
    rw [e, e2, nextT, if_neg (by rcases hq2 with rfl | rfl <;> decide), if_neg (by rcases hq2 with rfl | rfl <;> decide), if_neg (by rcases hq2 with rfl | rfl <;> decide), if_pos hq2, if_neg hneg, hI]
    simp
  rw [if_neg h3] at h
  by_cases h1 : k = 1 ∨ k = 2
  · rw [if_pos h1] at h
    have e : textOf k t = t := by simp only [not_or] at h4; simp [textOf, h3, h4]
    rw [e]
    cases hx : Tok.split t with
    | error e => rw [hx] at h; cases h
    | ok l =>
      rw [hx] at h
      match l with
      | [] => cases h
      | x :: y :: l => cases h
      | [x] =>
        simp only [isOne, Bool.and_eq_true, decide_eq_true_eq] at h
        obtain ⟨h5, h6⟩ := h
        have := (split_one hx h6).2 (by rw [h5]; exact h1)
        rw [h5] at this
        have h7 := nextT_take this hr
        rwa [List.take_of_length_le (Nat.le_refl _)] at h7
  · rw [if_neg h1] at h; cases h

/-- Tokens in a target, blanks between. -/
def joinT (l : List (Int × List UInt8)) : List UInt8 := Lib.join (l.map fun x => textOf x.1 x.2) [32]
theorem join_spl (l : List (Int × List UInt8 × Int)) (h : ∀ x ∈ l, rightB x.1 x.2.2 x.2.1 = true) : SPl (Lib.join (l.map fun x => textOf x.1 x.2.1) [32]) (l.map fun x => (x.1, x.2.1)) := by
  have tail : ∀ l : List (Int × List UInt8 × Int), (∀ x ∈ l, rightB x.1 x.2.2 x.2.1 = true) → SPl (Lib.joinTail [32] (l.map fun x => textOf x.1 x.2.1)) (l.map fun x => (x.1, x.2.1)) ∧ StopB (Lib.joinTail [32] (l.map fun x => textOf x.1 x.2.1)) := by
    intro l
    induction l with
    | nil => intro _; exact ⟨spl_nil, .inl rfl⟩
    | cons x l ih =>
      intro h
      obtain ⟨h1, h2⟩ := ih fun y hy => h y (by simp [hy])
      have e : Lib.joinTail [32] ((x :: l).map fun x => textOf x.1 x.2.1) = 32 :: (textOf x.1 x.2.1 ++ Lib.joinTail [32] (l.map fun x => textOf x.1 x.2.1)) := by simp [Lib.joinTail]
      rw [e]
      exact ⟨spl_blank (spl_tok (right_next (h x (by simp)) h2) h1), .inr ⟨_, rfl⟩⟩
  cases l with
  | nil => simpa [Lib.join_nil] using spl_nil
  | cons x l =>
    obtain ⟨h1, h2⟩ := tail l fun y hy => h y (by simp [hy])
    rw [List.map_cons, Lib.join_cons]
    exact spl_tok (right_next (h x (by simp)) h2) h1
end Go.Proofs.YtkclehdmdnfikaaDoor
