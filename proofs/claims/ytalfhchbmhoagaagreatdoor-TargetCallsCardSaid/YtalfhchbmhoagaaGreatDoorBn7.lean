/- A target's tokens: the document's row and Split; the law that any target is split as the document says. Targets: the document's fit, Check, Parse, Sam -/
import Derived.ProofKit
import Derived.Test.YtalfhchbmhoagaaGreatDoorAbs2
import Derived.Shelf.Sort.Plain
import Derived.Shelf.Slices.In.SortNone
import Derived.Test.YtalfhchbmhoagaaGreatDoorProg
import Derived.Test.YtalfhchbmhoagaaGreatDoorBn1
import Derived.Test.YtalfhchbmhoagaaGreatDoorBn2
import Derived.Test.YtalfhchbmhoagaaGreatDoorBn3
import Derived.Test.YtalfhchbmhoagaaGreatDoorBn4
import Derived.Test.YtalfhchbmhoagaaGreatDoorBn5
import Derived.Test.YtalfhchbmhoagaaGreatDoorBn6
set_option linter.unusedSimpArgs false
set_option linter.unusedVariables false
set_option linter.constructorNameAsVariable false
section
set_option maxHeartbeats 4000000
namespace Go.Proofs.YtalfhchbmhoagaaGreatDoor
open Go.Abs Go.Glob Go.Tok
variable {G : Globs}
end Go.Proofs.YtalfhchbmhoagaaGreatDoor
namespace Go.Proofs.YtalfhchbmhoagaaGreatDoor
open Go.Abs Go.Glob Go.Tok
variable {G : Globs}
end Go.Proofs.YtalfhchbmhoagaaGreatDoor
namespace Go.Tok
end Go.Tok
namespace Go.Proofs.YtalfhchbmhoagaaGreatDoor
open Go.Abs Go.Glob Go.Tok
variable {G : Globs}
end Go.Proofs.YtalfhchbmhoagaaGreatDoor
end
section
set_option maxHeartbeats 4000000
set_option maxRecDepth 20000
namespace Go.Proofs.YtalfhchbmhoagaaGreatDoor
open Go.Abs Go.Tgt Go.Trail
variable {G : Globs}
end Go.Proofs.YtalfhchbmhoagaaGreatDoor
end
section
set_option maxHeartbeats 4000000
namespace Go.Proofs.YtalfhchbmhoagaaGreatDoor
open Go.Abs Go.Glob Go.Tok
variable {G : Globs}
end Go.Proofs.YtalfhchbmhoagaaGreatDoor
end
section
namespace Go.Tok
open Go.Glob
def StopB (rest : List UInt8) : Prop := rest = [] ∨ ∃ c r, rest = c :: r ∧ (c = 32 ∨ c = 40 ∨ c = 41 ∨ c = 44)
theorem stopB_blank (r : List UInt8) : StopB (32 :: r) := .inr ⟨32, r, rfl, .inl rfl⟩
theorem clsN_take : ∀ (s : List UInt8) (k : Nat) (y : List UInt8), clsN s = some k → clsN (s.take k ++ y) = some k
 | [], k, y, h => by simp [clsN] at h
 | c :: r, k, y, h => by
  unfold clsN at h
  split at h
  ·cases h
  ·rename_i hs
   split at h
   ·rename_i h93
    cases h
    simp only [List.take_succ_cons, List.take_zero, List.cons_append, List.nil_append]
    rw [clsN, if_neg hs, if_pos h93]
   ·rename_i h93
    cases hr : clsN r with
    | none => rw [hr] at h; cases h
    | some j =>
     rw [hr] at h; cases h
     have := clsN_take r j y hr
     show clsN ((c :: r).take (j + 1) ++ y) = some (j + 1)
     simp only [List.take_succ_cons, List.cons_append]
     rw [clsN, if_neg hs, if_neg h93, this]
     rfl
theorem brcN_take : ∀ (s : List UInt8) (d k : Nat) (y : List UInt8), brcN d s = some k → brcN d (s.take k ++ y) = some k
 | [], d, k, y, h => by simp [brcN] at h
 | c :: r, d, k, y, h => by
  unfold brcN at h
  split at h
  ·cases h
  ·rename_i hs
   split at h
   ·rename_i h0
    cases h
    simp only [List.take_succ_cons, List.take_zero, List.cons_append, List.nil_append]
    rw [brcN, if_neg hs, if_pos h0]
   ·rename_i h0
    cases hr : brcN (deeper d c) r with
    | none => rw [hr] at h; cases h
    | some j =>
     rw [hr] at h; cases h
     have := brcN_take r _ j y hr
     show brcN d ((c :: r).take (j + 1) ++ y) = some (j + 1)
     simp only [List.take_succ_cons, List.cons_append]
     rw [brcN, if_neg hs, if_neg h0, this]
     rfl
theorem rowF_stop {m : Nat} {rest : List UInt8} (h : StopB rest) : rowF m rest = some 0 := by
 rcases h with rfl | ⟨c, r, rfl, hc⟩
 ·cases m <;> rfl
 ·cases m with
  | zero => rfl
  | succ m => rcases hc with rfl | rfl | rfl | rfl <;> rw [rowF, if_neg (by decide), if_neg (by decide), if_neg (by decide)]
theorem take_add_drop {s : List UInt8} {a j : Nat} : s.take (j + a) = s.take a ++ (s.drop a).take j := by
 rw [Nat.add_comm, List.take_add]
theorem rowF_take : ∀ (n : Nat) (s : List UInt8) (k m : Nat) (rest : List UInt8), rowF n s = some k → s.length ≤ n → k ≤ m → StopB rest → rowF m (s.take k ++ rest) = some k
 | 0, s, k, m, rest, h, hn, _, hr => by
  simp [rowF] at h; subst h; simpa using rowF_stop hr
 | n + 1, [], k, m, rest, h, hn, hm, hr => by
  simp [rowF] at h; subst h; simpa using rowF_stop hr
 | n + 1, c :: r, k, 0, rest, h, hn, hm, hr => by
  have : k = 0 := by omega
  subst this; rfl
 | n + 1, c :: r, k, m + 1, rest, h, hn, hm, hr => by
  simp only [List.length_cons] at hn
  unfold rowF at h
  split at h
  ·rename_i hw
   cases hj : rowF n r with
   | none => rw [hj] at h; cases h
   | some j =>
    rw [hj] at h
    simp only [Option.map_some, Option.some.injEq] at h; subst h
    have := rowF_take n r j m rest hj (by omega) (by omega) hr
    show rowF (m + 1) ((c :: r).take (j + 1) ++ rest) = some (j + 1)
    simp only [List.take_succ_cons, List.cons_append]
    rw [rowF, if_pos hw, this]; rfl
  ·rename_i hw
   split at h
   ·rename_i h91
    cases hc : clsN (c :: r) with
    | none => rw [hc] at h; cases h
    | some a =>
     rw [hc] at h
     simp only [Option.bind_some] at h
     cases hj : rowF n ((c :: r).drop a) with
     | none => rw [hj] at h; cases h
     | some j =>
      rw [hj] at h
      simp only [Option.map_some, Option.some.injEq] at h; subst h
      have ha := clsN_le _ _ hc
      have hk := rowF_take n _ j m rest hj (by rw [List.length_drop, List.length_cons]; omega) (by omega) hr
      show rowF (m + 1) ((c :: r).take (j + a) ++ rest) = some (j + a)
      have hcl := clsN_take _ _ (((c :: r).drop a).take j ++ rest) hc
      rw [take_add_drop, List.append_assoc]
      have hlen : ((c :: r).take a).length = a := by rw [List.length_take]; omega
      obtain ⟨x, hx⟩ : ∃ x, (c :: r).take a = c :: x := by
       obtain ⟨a, rfl⟩ : ∃ b, a = b + 1 := ⟨a - 1, by omega⟩
       exact ⟨r.take a, rfl⟩
      have hdr : ((c :: r).take a ++ (((c :: r).drop a).take j ++ rest)).drop a = ((c :: r).drop a).take j ++ rest := by
       rw [List.drop_append_of_le_length (by omega), List.drop_of_length_le (by omega), List.nil_append]
      generalize ((c :: r).drop a).take j ++ rest = y at hcl hdr hk ⊢
      rw [hx] at hcl hdr ⊢
      rw [List.cons_append] at hcl hdr ⊢
      rw [rowF, if_neg hw, if_pos h91, hcl]
      simp only [Option.bind_some]
      rw [hdr, hk]; rfl
   ·rename_i h91
    split at h
    ·rename_i h123
     cases hc : brcN 0 (c :: r) with
     | none => rw [hc] at h; cases h
     | some a =>
      rw [hc] at h
      simp only [Option.bind_some] at h
      cases hj : rowF n ((c :: r).drop a) with
      | none => rw [hj] at h; cases h
      | some j =>
       rw [hj] at h
       simp only [Option.map_some, Option.some.injEq] at h; subst h
       have ha := brcN_le _ _ _ hc
       have hk := rowF_take n _ j m rest hj (by rw [List.length_drop, List.length_cons]; omega) (by omega) hr
       show rowF (m + 1) ((c :: r).take (j + a) ++ rest) = some (j + a)
       have hcl := brcN_take _ _ _ (((c :: r).drop a).take j ++ rest) hc
       rw [take_add_drop, List.append_assoc]
       have hlen : ((c :: r).take a).length = a := by rw [List.length_take]; omega
       obtain ⟨x, hx⟩ : ∃ x, (c :: r).take a = c :: x := by
        obtain ⟨a, rfl⟩ : ∃ b, a = b + 1 := ⟨a - 1, by omega⟩
        exact ⟨r.take a, rfl⟩
       have hdr : ((c :: r).take a ++ (((c :: r).drop a).take j ++ rest)).drop a = ((c :: r).drop a).take j ++ rest := by
        rw [List.drop_append_of_le_length (by omega), List.drop_of_length_le (by omega), List.nil_append]
       generalize ((c :: r).drop a).take j ++ rest = y at hcl hdr hk ⊢
       rw [hx] at hcl hdr ⊢
       rw [List.cons_append] at hcl hdr ⊢
       rw [rowF, if_neg hw, if_neg h91, if_pos h123, hcl]
       simp only [Option.bind_some]
       rw [hdr, hk]; rfl
    ·cases h
     simpa using rowF_stop hr
theorem idx_app_some : ∀ (l m : List UInt8) (c : UInt8), 0 ≤ Lib.indexByte l c → Lib.indexByte (l.take ((Lib.indexByte l c).toNat + 1) ++ m) c = Lib.indexByte l c
 | [], m, c, h => by simp [Lib.indexByte] at h
 | b :: l, m, c, h => by
  have hge := Lib.indexByte_ge l c
  by_cases hb : b = c
  ·subst hb; simp [Lib.indexByte]
  ·have hb' : (b == c) = false := by simpa using hb
   have e1 : Lib.indexByte (b :: l) c = if Lib.indexByte l c = -1 then -1 else Lib.indexByte l c + 1 := by
    rw [Lib.indexByte]; simp [hb']
   rw [e1] at h ⊢
   by_cases h1 : Lib.indexByte l c = -1
   ·rw [if_pos h1] at h; omega
   ·rw [if_neg h1] at h ⊢
    have ih := idx_app_some l m c (by omega)
    have e2 : (Lib.indexByte l c + 1).toNat + 1 = ((Lib.indexByte l c).toNat + 1) + 1 := by omega
    rw [e2, List.take_succ_cons, List.cons_append, Lib.indexByte]
    simp only [hb', Bool.false_eq_true, if_false, ih]
    have h1' : (Lib.indexByte l c == -1) = false := by simpa using h1
    simp [h1']
theorem nextT_take {s : List UInt8} {k : Int} {t : List UInt8} {n : Nat} (h : nextT s = some (k, t, n)) {rest : List UInt8} (hr : StopB rest) : nextT (s.take n ++ rest) = some (k, t, n) := by
 cases s with
 | nil => simp [nextT] at h
 | cons c r =>
  rw [nextT] at h
  by_cases h1 : c = 40
  ·rw [if_pos h1] at h; cases h; simp [nextT, h1]
  rw [if_neg h1] at h
  by_cases h2 : c = 41
  ·rw [if_pos h2] at h; cases h; simp [nextT, h2]
  rw [if_neg h2] at h
  by_cases h3 : c = 44
  ·rw [if_pos h3] at h; cases h; simp [nextT, h3]
  rw [if_neg h3] at h
  by_cases h4 : c = 39 ∨ c = 34
  ·rw [if_pos h4] at h
   by_cases hneg : Lib.indexByte r c < 0
   ·rw [if_pos hneg] at h; cases h
   ·rw [if_neg hneg] at h
    cases h
    have hi := idx_app_some r rest c (by omega)
    have hlt : (Lib.indexByte r c).toNat < r.length := by
     have hi : Lib.indexByte r c = ((Lib.indexByte r c).toNat : Int) := by omega
     exact (List.getElem?_eq_some_iff.1 (Lib.indexByte_some hi).1).1
    rw [show (Lib.indexByte r c).toNat + 2 = ((Lib.indexByte r c).toNat + 1) + 1 by omega, List.take_succ_cons, List.cons_append, nextT, if_neg h1, if_neg h2, if_neg h3, if_pos h4, hi, if_neg hneg]
    congr 3
    rw [List.take_append_of_le_length (by rw [List.length_take]; omega), List.take_take]
    congr 1; omega
  ·rw [if_neg h4] at h
   cases hrow : rowF (r.length + 1) (c :: r) with
   | none => rw [hrow] at h; cases h
   | some m =>
    rw [hrow] at h
    have hm := rowF_le _ _ _ hrow
    cases m with
    | zero => cases h
    | succ j =>
     cases h
     have hx : rowF (((r.take j) ++ rest).length + 1) ((c :: r).take (j + 1) ++ rest) = some (j + 1) := by
      refine rowF_take _ _ _ _ _ hrow (by simp) ?_ hr
      simp only [List.length_cons] at hm
      rw [List.length_append, List.length_take]; omega
     rw [List.take_succ_cons, List.cons_append] at hx ⊢
     rw [nextT, if_neg h1, if_neg h2, if_neg h3, if_neg h4, hx]
     have e : (c :: (r.take j ++ rest)).take (j + 1) = (c :: r).take (j + 1) := by
      simp only [List.length_cons] at hm
      rw [List.take_succ_cons, List.take_append_of_le_length (by rw [List.length_take]; omega), List.take_take, Nat.min_self, List.take_succ_cons]
     simp only [e, List.take_succ_cons]
theorem nextT_head {c : UInt8} {r : List UInt8} {x : Int × List UInt8 × Nat} (h : nextT (c :: r) = some x) : c ≠ 32 := by
 intro hc
 subst hc
 have : rowF (r.length + 1) (32 :: r) = some 0 := rowF_stop (stopB_blank r)
 rw [nextT, if_neg (by decide), if_neg (by decide), if_neg (by decide), if_neg (by decide), this] at h
 cases h
theorem nextT_text {s : List UInt8} {k : Int} {t : List UInt8} {n : Nat} (h : nextT s = some (k, t, n)) : t.length ≤ n ∧ (k = 1 ∨ k = 2 → s.take n = t) := by
 have hle := nextT_le h
 simp only at hle
 cases s with
 | nil => simp [nextT] at h
 | cons c r =>
  rw [nextT] at h
  by_cases h1 : c = 40
  ·rw [if_pos h1] at h; cases h; simp
  rw [if_neg h1] at h
  by_cases h2 : c = 41
  ·rw [if_pos h2] at h; cases h; simp
  rw [if_neg h2] at h
  by_cases h3 : c = 44
  ·rw [if_pos h3] at h; cases h; simp
  rw [if_neg h3] at h
  by_cases h4 : c = 39 ∨ c = 34
  ·rw [if_pos h4] at h
   by_cases hneg : Lib.indexByte r c < 0
   ·rw [if_pos hneg] at h; cases h
   ·rw [if_neg hneg] at h
    cases h
    refine ⟨by rw [List.length_take]; omega, fun h => by omega⟩
  ·rw [if_neg h4] at h
   cases hrow : rowF (r.length + 1) (c :: r) with
   | none => rw [hrow] at h; cases h
   | some m =>
    rw [hrow] at h
    have hm := rowF_le _ _ _ hrow
    cases m with
    | zero => cases h
    | succ j =>
     simp only [Option.some.injEq, Prod.mk.injEq] at h
     obtain ⟨_, rfl, rfl⟩ := h
     exact ⟨by rw [List.length_take]; omega, fun _ => rfl⟩
theorem splitF_bound : ∀ (n a : Nat) (s : List UInt8) (l : List Tk), splitF n a s = some l → ∀ x ∈ l, a ≤ x.place ∧ x.place + x.text.length ≤ a + s.length
 | n, a, [], l, h, x, hx => by
  have : l = [] := by cases n <;> simp [splitF] at h <;> exact h
  subst this; cases hx
 | 0, a, c :: r, l, h, x, hx => by simp [splitF] at h; subst h; cases hx
 | n + 1, a, c :: r, l, h, x, hx => by
  rw [splitF] at h
  split at h
  ·have := splitF_bound n _ r l h x hx
   simp only [List.length_cons]; omega
  ·cases hy : nextT (c :: r) with
   | none => rw [hy] at h; cases h
   | some y =>
    rw [hy] at h
    simp only [Option.bind_some] at h
    cases hz : splitF n (a + y.2.2) ((c :: r).drop y.2.2) with
    | none => rw [hz] at h; cases h
    | some z =>
     rw [hz] at h; cases h
     have hle := nextT_le hy
     have ht := (nextT_text (k := y.1) (t := y.2.1) (n := y.2.2) hy).1
     rcases List.mem_cons.1 hx with rfl | hx
     ·simp only; omega
     ·have := splitF_bound n _ _ z hz x hx
      rw [List.length_drop] at this
      omega
def kt (x : Tk) : Int × List UInt8 := (x.kind, x.text)
def nx (T : List UInt8) : List Tk → Nat
 | [] => T.length
 | y :: _ => y.place
end Go.Tok
namespace Go.Proofs.YtalfhchbmhoagaaGreatDoor
open Go.Abs Go.Glob Go.Tok
def isOne (k : Int) (t : List UInt8) : Except Nat (List Tk) → Bool
 | .ok [x] => decide (x.kind = k) && decide (x.text = t)
 | _ => false
def rightB (k p : Int) (t : List UInt8) : Bool :=
 decide (0 ≤ p) && (if k = 4 ∨ k = 5 ∨ k = 6 then decide (t = []) else if k = 3 then decide (t.length ≤ 1022) && !(decide ((39 : UInt8) ∈ t) && decide ((34 : UInt8) ∈ t))
  else if k = 1 ∨ k = 2 then isOne k t (Tok.split t) else false)
end Go.Proofs.YtalfhchbmhoagaaGreatDoor
end
section
set_option maxHeartbeats 4000000
namespace Go.Proofs.YtalfhchbmhoagaaGreatDoor
open Go.Abs Go.Glob Go.Tok
variable {G : Globs}
theorem split_lens {s : List UInt8} {l : List Tk} (h : Tok.split s = .ok l) : l.length ≤ 256 ∧ s.length ≤ 1024 ∧ ∀ x ∈ l, x.place ≤ 1024 ∧ x.text.length ≤ 1024 := by
 unfold Tok.split at h
 split at h
 ·cases h
 rename_i h1
 cases hs : splitF s.length 0 s with
 | none => rw [hs] at h; cases h
 | some m =>
  rw [hs] at h
  simp only at h
  split at h
  ·cases h
  rename_i h2
  cases h
  refine ⟨by omega, by omega, fun x hx => ?_⟩
  have := splitF_bound _ _ _ _ hs x hx
  omega
end Go.Proofs.YtalfhchbmhoagaaGreatDoor
end
section
set_option maxHeartbeats 4000000
set_option maxRecDepth 20000
namespace Go.Proofs.YtalfhchbmhoagaaGreatDoor
open Go.Abs Go.Tgt Go.Trail
variable {G : Globs}
end Go.Proofs.YtalfhchbmhoagaaGreatDoor
end
section
namespace Go.Proofs.YtalfhchbmhoagaaGreatDoor
open Go.Tgt Go.Tok Go.Glob
def ownB (n : Nd) : Bool :=
 if n.kind = 1 then decide (n.num = 0) && decide (n.args = []) && rightB 1 0 n.text
 else if n.kind = 2 then decide (n.text = []) && decide (n.args = []) && !decide (n.num = -9223372036854775808)
 else if n.kind = 3 then decide (n.num = 0) && decide (n.args = []) && rightB 3 0 n.text
 else if n.kind = 4 then decide (n.num = 0) && decide (n.args.length ≤ 16)
 else false
theorem splitF_next : ∀ (n a : Nat) (s : List UInt8) (l : List Tk), splitF n a s = some l → ∀ x ∈ l, ∃ s' m, nextT s' = some (x.kind, x.text, m) ∧ s'.length ≤ s.length
 | n, a, [], l, h, x, hx => by cases n <;> (simp [splitF] at h; subst h; cases hx)
 | 0, a, c :: r, l, h, x, hx => by simp [splitF] at h; subst h; cases hx
 | n + 1, a, c :: r, l, h, x, hx => by
  rw [splitF] at h
  split at h
  ·obtain ⟨s', m, h1, h2⟩ := splitF_next n _ r l h x hx
   exact ⟨s', m, h1, by simp; omega⟩
  ·cases hy : nextT (c :: r) with
   | none => rw [hy] at h; cases h
   | some y =>
    rw [hy] at h
    simp only [Option.bind_some] at h
    cases hz : splitF n (a + y.2.2) ((c :: r).drop y.2.2) with
    | none => rw [hz] at h; cases h
    | some z =>
     rw [hz] at h; cases h
     rcases List.mem_cons.1 hx with rfl | hx
     ·exact ⟨c :: r, y.2.2, hy, Nat.le_refl _⟩
     ·obtain ⟨s', m, h1, h2⟩ := splitF_next n _ _ z hz x hx
      exact ⟨s', m, h1, by rw [List.length_drop] at h2; omega⟩
theorem next_row {s : List UInt8} {k : Int} {t : List UInt8} {m : Nat} (h : nextT s = some (k, t, m)) (hk : k = 1 ∨ k = 2) (hl : s.length ≤ 1024) : rightB k 0 t = true := by
 have hle := nextT_le h
 simp only at hle
 have ht := (nextT_text h).2 hk
 have h1 := nextT_take h (rest := []) (.inl rfl)
 rw [ht, List.append_nil] at h1
 have hlen : t.length = m := by rw [← ht, List.length_take]; omega
 have hs : Tok.split t = .ok [⟨k, t, 0⟩] := by
  unfold Tok.split
  rw [if_neg (by omega)]
  cases t with
  | nil => simp at hlen; omega
  | cons c r =>
   rw [List.length_cons, splitF, if_neg (nextT_head h1), h1]
   have e : splitF r.length (0 + m) ((c :: r).drop m) = some [] := by
    rw [List.drop_eq_nil_of_le (by rw [hlen]; exact Nat.le_refl m)]
    cases r.length <;> rfl
   rw [Nat.zero_add] at e
   simp [e]
 have h3 : ¬ (k = 3) := by omega
 have h4 : ¬ (k = 4 ∨ k = 5 ∨ k = 6) := by omega
 simp [rightB, h3, h4, hk, hs, isOne]
theorem idx_not_mem : ∀ (r : List UInt8) (c : UInt8), 0 ≤ Lib.indexByte r c → c ∉ r.take (Lib.indexByte r c).toNat
 | [], c, h => by simp
 | b :: l, c, h => by
  unfold Lib.indexByte at h ⊢
  by_cases hb : b = c
  ·simp [hb]
  ·have hb' : (b == c) = false := by simpa using hb
   have hge := Lib.indexByte_ge l c
   simp only [hb', Bool.false_eq_true, if_false] at h ⊢
   by_cases h1 : Lib.indexByte l c = -1
   ·simp [h1] at h
   ·have h1' : (Lib.indexByte l c == -1) = false := by simpa using h1
    simp only [h1', Bool.false_eq_true, if_false] at h ⊢
    rw [show (Lib.indexByte l c + 1).toNat = (Lib.indexByte l c).toNat + 1 by omega, List.take_succ_cons]
    have := idx_not_mem l c (by omega)
    simp only [List.mem_cons, not_or]
    exact ⟨fun e => hb e.symm, this⟩
theorem next_txt {s : List UInt8} {t : List UInt8} {m : Nat} (h : nextT s = some (3, t, m)) (hl : s.length ≤ 1024) : rightB 3 0 t = true := by
 have hle := nextT_le h
 cases s with
 | nil => simp [nextT] at h
 | cons c r =>
  rw [nextT] at h
  split at h
  ·cases h
  split at h
  ·cases h
  split at h
  ·cases h
  split at h
  ·rename_i hc
   split at h
   ·cases h
   ·rename_i hneg
    cases h
    have hn := idx_not_mem r c (by omega)
    have hlt := (List.length_take_le (Lib.indexByte r c).toNat r)
    simp at hle hl
    have hlen : (r.take (Lib.indexByte r c).toNat).length ≤ 1022 := by rw [List.length_take]; omega
    simp only [rightB]
    have hb : (!(decide ((39 : UInt8) ∈ r.take (Lib.indexByte r c).toNat) && decide ((34 : UInt8) ∈ r.take (Lib.indexByte r c).toNat))) = true := by
     rcases hc with rfl | rfl
     ·simp [hn]
     ·simp [hn]
    simp [hb]
    omega
  ·split at h
   ·cases h
   ·cases h
   ·simp only [Option.some.injEq, Prod.mk.injEq] at h
    have := h.1
    split at this <;> omega
theorem split_tkOk {s : List UInt8} {t : List Tk} (h : Tok.split s = .ok t) : TkOk t ∧ Owns ownB t := by
 have hl := split_lens h
 have hs := hl.2.1
 have hsp : splitF s.length 0 s = some t := by
  unfold Tok.split at h
  split at h
  ·cases h
  cases hx : splitF s.length 0 s with
  | none => rw [hx] at h; cases h
  | some l =>
   rw [hx] at h
   simp only at h
   split at h
   ·cases h
   ·cases h; rfl
 have hnum : ∀ x ∈ t, x.kind = 2 → isNum x.text = true := fun x hx hk => by
  obtain ⟨s', m, h1, h2⟩ := splitF_next _ _ _ _ hsp x hx
  have := next_row h1 (.inr hk) (by omega)
  rw [hk] at h1
  cases s' with
  | nil => simp [nextT] at h1
  | cons c r =>
   rw [nextT] at h1
   split at h1
   ·cases h1
   split at h1
   ·cases h1
   split at h1
   ·cases h1
   split at h1
   ·split at h1 <;> cases h1
   ·split at h1
    ·cases h1
    ·cases h1
    ·simp only [Option.some.injEq, Prod.mk.injEq] at h1
     obtain ⟨h3, h4, _⟩ := h1
     rw [← h4]
     exact Classical.byContradiction fun hn => by rw [if_neg hn] at h3; omega
 refine ⟨⟨hl.1, fun x hx => (hl.2.2 x hx).2, hnum⟩, ⟨fun x hx hk => ?_, fun x hx hk => ?_, fun x hx hk => ?_, fun s as_ h => ?_⟩⟩
 ·obtain ⟨s', m, h1, h2⟩ := splitF_next _ _ _ _ hsp x hx
  rw [hk] at h1
  simp [ownB, next_row h1 (.inl rfl) (by omega)]
 ·have := hnum x hx hk
  cases hp : Dec.parse x.text with
  | error e => simp [isNum, hp] at this
  | ok v =>
   have := (Dec.parse_bound hp).1
   simp [ownB, numOf, hp, this]
 ·obtain ⟨s', m, h1, h2⟩ := splitF_next _ _ _ _ hsp x hx
  rw [hk] at h1
  simp [ownB, next_txt h1 (by omega)]
 ·simp [ownB, h]
end Go.Proofs.YtalfhchbmhoagaaGreatDoor
end
section
set_option maxHeartbeats 4000000
set_option maxRecDepth 20000
namespace Go.Proofs.YtalfhchbmhoagaaGreatDoor
open Go.Abs Go.Tgt Go.Trail
variable {G : Globs}
def sA : List UInt8 := [115, 99, 97, 108, 101, 40, 97, 46, 42, 44, 50, 41]
def sB : List UInt8 := [115, 99, 97, 108, 101, 40, 97, 41]
def sC : List UInt8 := [102, 40, 97, 41]
theorem parse_A : parseS nodE sA = .ok [⟨1, [97, 46, 42], 0, []⟩, ⟨2, [], 2000000, []⟩, ⟨4, [115, 99, 97, 108, 101], 0, [0, 1]⟩] := by kernel_rfl
theorem parse_B : parseS nodE sB = .error 18 := by kernel_rfl
theorem parse_C : parseS nodE sC = .error 15 := by kernel_rfl
theorem talive23_ok [GDec] [GSpcT] [GFam] : PCalls Tryz.prog n_isobarlaw23_alive [] (fun r => r = .bool true) := by
 refine pcalls_of_awp hmix c_isobarlaw23_alive rfl ?_
 have hA := tParse_ok (G := G) sA (by decide) (fun t h => (split_tkOk h).1)
 have hB := tParse_ok (G := G) sB (by decide) (fun t h => (split_tkOk h).1)
 have hC := tParse_ok (G := G) sC (by decide) (fun t h => (split_tkOk h).1)
 rw [parse_A] at hA
 rw [parse_B] at hB
 rw [parse_C] at hC
 simp [a_isobarlaw23_alive]
 refine ac_same hA (by simp) ?_
 rintro r rfl
 simp [treeAV]
 refine ac_same hB (by simp) ?_
 rintro r rfl
 simp [treeAV]
 refine ac_same hC (by simp) ?_
 rintro r rfl
 simp [treeAV, ndEls, ndC, intEls]
end Go.Proofs.YtalfhchbmhoagaaGreatDoor
end
section
namespace Go.Proofs
open Go.Shelf
open Go.RowKit Go.Lib Go.Sort
def Tryz.lays190_ren : Go.Shelf.Ren := ⟨fun | 190 => 37 | 125 => 60 | 258 => 59 | 128 => 93 | 129 => 94 | 302 => 84 | 303 => 85 | 304 => 86 | 305 => 87 | 306 => 88 | 307 => 89 | 308 => 90 | 309 => 91 | 310 => 92 | 333 => 122 | 329 => 123 | 330 => 124 | 334 => 125 | 335 => 126 | 336 => 127 | 344 => 159 | n => n, fun | 31 => 39 | 9 => 9 | 3 => 3 | 46 => 96 | 0 => 0 | 51 => 126 | 53 => 93 | 4 => 4 | 183 => 131 | 182 => 130 | 131 => 98 | 5 => 5 | 218 => 165 | 222 => 169 | 228 => 198 | 229 => 199 | n => n, fun | n => n⟩
theorem Tryz.lays190 : Go.Proofs.Lays.n190 Tryz.prog Tryz.lays190_ren := {
 mixed := by kernel_rfl
 f125 := Tryz.func60.trans (congrArg some (by kernel_rfl))
 f128 := Tryz.func93.trans (congrArg some (by kernel_rfl))
 f129 := Tryz.func94.trans (congrArg some (by kernel_rfl))
 f190 := Tryz.func37.trans (congrArg some (by kernel_rfl))
 f258 := Tryz.func59.trans (congrArg some (by kernel_rfl))
 f302 := Tryz.func84.trans (congrArg some (by kernel_rfl))
 f303 := Tryz.func85.trans (congrArg some (by kernel_rfl))
 f304 := Tryz.func86.trans (congrArg some (by kernel_rfl))
 f305 := Tryz.func87.trans (congrArg some (by kernel_rfl))
 f306 := Tryz.func88.trans (congrArg some (by kernel_rfl))
 f307 := Tryz.func89.trans (congrArg some (by kernel_rfl))
 f308 := Tryz.func90.trans (congrArg some (by kernel_rfl))
 f309 := Tryz.func91.trans (congrArg some (by kernel_rfl))
 f310 := Tryz.func92.trans (congrArg some (by kernel_rfl))
 f329 := Tryz.func123.trans (congrArg some (by kernel_rfl))
 f330 := Tryz.func124.trans (congrArg some (by kernel_rfl))
 f333 := Tryz.func122.trans (congrArg some (by kernel_rfl))
 f334 := Tryz.func125.trans (congrArg some (by kernel_rfl))
 f335 := Tryz.func126.trans (congrArg some (by kernel_rfl))
 f336 := Tryz.func127.trans (congrArg some (by kernel_rfl))
 f344 := Tryz.func159.trans (congrArg some (by kernel_rfl))
 t0 := Tryz.underlying0
 a0 := Tryz.isAgg0
 z0 := Tryz.sizeOf0
 v0 := Tryz.zeroValue0
 t3 := Tryz.underlying3
 a3 := Tryz.isAgg3
 z3 := Tryz.sizeOf3
 v3 := Tryz.zeroValue3
 t4 := Tryz.underlying4
 a4 := Tryz.isAgg4
 z4 := Tryz.sizeOf4
 v4 := Tryz.zeroValue4
 t5 := Tryz.underlying5
 a5 := Tryz.isAgg5
 z5 := Tryz.sizeOf5
 v5 := Tryz.zeroValue5
 t9 := Tryz.underlying9
 a9 := Tryz.isAgg9
 z9 := Tryz.sizeOf9
 v9 := Tryz.zeroValue9
 t31 := Tryz.underlying39
 a31 := Tryz.isAgg39
 z31 := Tryz.sizeOf39
 v31 := Tryz.zeroValue39
 t46 := Tryz.underlying96
 a46 := Tryz.isAgg96
 z46 := Tryz.sizeOf96
 v46 := Tryz.zeroValue96
 t51 := Tryz.underlying126
 a51 := Tryz.isAgg126
 z51 := Tryz.sizeOf126
 v51 := Tryz.zeroValue126
 t53 := Tryz.underlying93
 a53 := Tryz.isAgg93
 z53 := Tryz.sizeOf93
 v53 := Tryz.zeroValue93
 t131 := Tryz.underlying98
 a131 := Tryz.isAgg98
 z131 := Tryz.sizeOf98
 v131 := Tryz.zeroValue98
 t182 := Tryz.underlying130
 a182 := Tryz.isAgg130
 z182 := Tryz.sizeOf130
 v182 := Tryz.zeroValue130
 t183 := Tryz.underlying131
 a183 := Tryz.isAgg131
 z183 := Tryz.sizeOf131
 v183 := Tryz.zeroValue131
 t218 := Tryz.underlying165
 a218 := Tryz.isAgg165
 z218 := Tryz.sizeOf165
 v218 := Tryz.zeroValue165
 t222 := Tryz.underlying169
 a222 := Tryz.isAgg169
 z222 := Tryz.sizeOf169
 v222 := Tryz.zeroValue169
 t228 := Tryz.underlying198
 a228 := Tryz.isAgg198
 z228 := Tryz.sizeOf198
 v228 := Tryz.zeroValue198
 t229 := Tryz.underlying199
 a229 := Tryz.isAgg199
 z229 := Tryz.sizeOf199
 v229 := Tryz.zeroValue199 }
theorem Tryz.slices_Sort_string (blk off cap : Nat) (ss : List (List UInt8)) (w : World) (hH : Holds encStr w blk off ss.toArray) (hblk : blk < w.heap.size) (hsz : ss.length < 4611686018427387904) :
  Calls Tryz.prog 37 #[.slice (some ⟨blk, off, none⟩) ss.length cap] w fun e w' =>
   e = .returned (.tuple #[]) ∧ ∃ n os, w' = grow (putRow encStr (Sort.ahead w n) blk off (ss.mergeSort fun x y => decide (x ≤ y)).toArray) os := Any.slices_Sort_string Tryz.lays190 blk off cap ss w hH hblk hsz
end Go.Proofs
end
section
set_option maxHeartbeats 2000000
namespace Go.Abs
open Go.Proofs Go.Sort Go.Shelf Go.RowKit Go.Lib Go.Proofs.YtalfhchbmhoagaaGreatDoor
variable {G : Globs} {base : Nat} {κ : Key} {Im : Addr → Prop} {w : World} {σ : Store}
def valsS (l : List (List UInt8)) : List Value := l.map encStr
theorem valsS_len (l : List (List UInt8)) : (valsS l).length = l.length := by simp [valsS]
theorem strEls_flat (l : List (List UInt8)) : (strEls l).flatten = l.map AV.str := by
 induction l with
 | nil => rfl
 | cons s l ih =>
  have : strEls (s :: l) = [.str s] :: strEls l := rfl
  rw [this, List.flatten_cons, ih]; rfl
theorem valsS_of {l : List (List UInt8)} {xs : List Value} (h : VRL κ Im w (strEls l).flatten xs) : xs = valsS l := by
 rw [strEls_flat] at h
 induction l generalizing xs with
 | nil =>
  have := h.1
  simp at this
  rw [List.eq_nil_of_length_eq_zero this.symm]; rfl
 | cons s l ih =>
  have hl := h.1
  simp at hl
  match xs, h, hl with
  | x :: xs, h, _ =>
   obtain ⟨u, hu, h1⟩ := h.get? (i := 0) (a := .str s) (by simp)
   simp at hu
   subst hu
   have h3 : VRL κ Im w (l.map AV.str) xs := by
    have := h.drop 1
    simpa using this
   rw [h1.str_inv, ih h3]
   rfl
theorem valsS_vr (l : List (List UInt8)) : VRL κ Im w (strEls l).flatten (valsS l) := by
 rw [strEls_flat]
 induction l with
 | nil => exact VRL.nil
 | cons s l ih => exact .cons (.im _ _ (.str _)) ih
theorem strEls_length (l : List (List UInt8)) : (strEls l).length = l.length := by simp [strEls]
theorem srel_sortedS {i e : Nat} {l : List (List UInt8)} (hs : SRel base κ Im σ w) (he : σ[i]? = some (.row e 1 (strEls l) false)) (hne : l ≠ []) :
  ∃ g cap, κ i l.length = some (.slice (some ⟨g, 0, none⟩) l.length cap) ∧ g < w.heap.size ∧ Holds encStr w g 0 l.toArray ∧
   ∀ (l' : List (List UInt8)) n os, l'.length = l.length → SRel base κ Im (σ.set i (.row e 1 (strEls l') false)) (grow (putRow encStr (Sort.ahead w n) g 0 l'.toArray) os) ∧ Grow base κ Im w κ Im (grow (putRow encStr (Sort.ahead w n) g 0 l'.toArray) os) := by
 have hE := hs.ent i _ he
 unfold EOK at hE
 obtain ⟨v, xs, hκ, hown, hvr, h0, h2, h1, -, hblk⟩ := hE
 rw [strEls_length] at hκ hown hblk
 have hxs := valsS_of hvr
 subst hxs
 obtain ⟨hlx, hown⟩ := hown
 rcases hown with ⟨_, h⟩ | ⟨g, cap, cur, rfl, hbase, hg, hc1, hc2, hc3, htk⟩
 ·exact absurd (List.eq_nil_of_length_eq_zero h) hne
 have hgs : g < w.heap.size := (Array.getElem?_eq_some_iff.1 hg).1
 rw [Nat.mul_one] at htk
 have hH : Holds encStr w g 0 l.toArray := by
  intro j hj
  have hj' : j < l.length := by simpa using hj
  refine ⟨?_, by simp [World.frozen?, hg]⟩
  have h3 : (cur.toList.take l.length)[j]? = (valsS l)[j]? := by rw [htk]
  rw [List.getElem?_take_of_lt hj'] at h3
  simp only [World.cell?, hg, Nat.zero_add]
  simp only [Option.isSome_none, Bool.false_eq_true, if_false]
  rw [← Array.getElem?_toList, h3, getElem!_pos _ j hj]
  simp [valsS, hj']
 refine ⟨g, cap, hκ, hgs, hH, fun l' n os hll => ?_⟩
 obtain ⟨F, hF⟩ : ∃ F, F = l'.toArray := ⟨_, rfl⟩
 have hFs : F.size = l.length := by rw [hF]; simp [hll]
 obtain ⟨w', hw'⟩ : ∃ w', w' = grow (putRow encStr (Sort.ahead w n) g 0 l'.toArray) os := ⟨_, rfl⟩
 have hw2 : w' = grow (mapBlock (Sort.ahead w n) g (putCells encStr 0 F)) os := by rw [hw', hF]; rfl
 have hheap : w'.heap[g]? = some (.cells (putCells encStr 0 F cur) e (0, 0)) := by
  rw [hw2, heap_grow_old _ _ (by simpa [mapBlock, Sort.ahead] using hgs)]
  simp [mapBlock, Sort.ahead, Array.getElem?_modify, hg, onCells]
 have hother : ∀ k, k < w.heap.size → k ≠ g → w'.heap[k]? = w.heap[k]? := fun k hk hne => by
  rw [hw2, heap_grow_old _ _ (by simpa [mapBlock, Sort.ahead] using hk)]
  simp [mapBlock, Sort.ahead, Array.getElem?_modify, Ne.symm hne]
 have hsize : w.heap.size ≤ w'.heap.size := by rw [hw2]; simp [grow, mapBlock, Sort.ahead]
 have htake : (putCells encStr 0 F cur).toList.take l.length = valsS l' := by
  apply List.ext_getElem?
  intro j
  by_cases hj : j < l.length
  ·rw [List.getElem?_take_of_lt hj, Array.getElem?_toList]
   have hjc : j < cur.size := by omega
   have hjF : j < F.size := by omega
   have hjl : j < l'.length := by omega
   have e1 : F[j] = l'[j] := by simp [hF]
   simp [putCells, hjF, hjc, e1, valsS, hjl]
  ·rw [List.getElem?_take_eq_none (by omega), List.getElem?_eq_none (by rw [valsS_len]; omega)]
 have hIm : ∀ a, Im a → a.block ≠ g := fun a ha hb => by
  have := ((hblk g rfl).1 a ha hb).1
  cases this
 have hcell : ∀ a, Im a → w'.cell? a = w.cell? a := fun a ha => World.cell?_of_block (hother _ (hs.imlt a ha).1 (hIm a ha))
 rw [← hw']
 have hbl : Go.RowKit.Below base w w' := ⟨by rw [hw2]; rfl, by rw [hw2]; rfl, by rw [hw2]; rfl, hsize, fun k hk => hother k (Nat.lt_of_lt_of_le hk hs.hb) (by omega)⟩
 have hbe : ∀ l'' : List (List UInt8), l''.length = l.length → (Entry.row e 1 (strEls l'') false).block κ i = some g := fun l'' hl'' => by
  simp [Entry.block, strEls_length, hl'', hκ, Value.ownBlock]
 have hone : ∀ c ∈ strEls l', c.length = 1 := fun c hc => by
  obtain ⟨y, _, rfl⟩ := List.mem_map.1 hc
  rfl
 have hone2 : ∀ c ∈ strEls l', ∀ x ∈ c, x.one = true := fun c hc x hx => by
  obtain ⟨y, _, rfl⟩ := List.mem_map.1 hc
  simp at hx
  subst hx; rfl
 refine ⟨hs.set he (.row e 1 (strEls l') false) (fun _ _ _ h => h) (fun _ _ _ h => .inl h) (by simp [Entry.ver, strEls_length, hll]) (fun _ h => h) hcell (fun _ h => .inl h) hsize (fun k hk hne2 => hother k hk fun h => hne2 (by rw [hbe l rfl, h])) ?_ (fun b hb => .inr (by rw [hbe l rfl, ← hb, hbe l' hll])), ⟨fun _ _ _ h => h, fun _ h => h, hcell, fun _ h => .inl h, hbl⟩⟩
 unfold EOK
 refine ⟨.slice (some ⟨g, 0, none⟩) l.length cap, valsS l', by rw [strEls_length, hll]; exact hκ, ⟨by rw [valsS_len, strEls_length, Nat.mul_one], .inr ⟨g, cap, _, by rw [strEls_length, hll], hbase, hheap, by rw [strEls_length, hll]; exact hc1, by simpa [putCells] using hc2, by simp [putCells, hc3], by rw [strEls_length, hll, Nat.mul_one]; exact htake⟩⟩, valsS_vr l', by decide, hone, hone2, fun h => (by cases h), ?_⟩
 rw [strEls_length, hll]
 exact hblk
end Go.Abs
namespace Go.Proofs.YtalfhchbmhoagaaGreatDoor
open Go.Shelf Go.RowKit Go.Lib Go.Sort Go.Proofs Go.Abs
variable {G : Globs}
theorem sortStr_ok {σ : Store} {id e : Nat} {l : List (List UInt8)} (he : σ[id]? = some (.row e 1 (strEls l) false)) (hne : l ≠ []) (hl : l.length < 4611686018427387904) :
  ACalls Tryz.prog 37 [.row id l.length] σ fun r σ' => r = .tup [] ∧ σ' = σ.set id (.row e 1 (strEls (l.mergeSort fun x y => decide (x ≤ y))) false) := by
 intro base κ Im w vs hs hv
 obtain ⟨g, cap, hκ, hg, hH, hall⟩ := srel_sortedS hs he hne
 obtain ⟨u0, hu0, hv0⟩ := hv.get? (i := 0) (a := .row id l.length) rfl
 have hu : u0 = .slice (some ⟨g, 0, none⟩) l.length cap := by
  obtain ⟨_, _, _, hk⟩ := hv0.row_inv
  rw [hκ] at hk
  exact (Option.some.inj hk).symm
 subst hu
 have hvs : vs = [.slice (some ⟨g, 0, none⟩) l.length cap] := by
  have hlen := hv.1
  match vs, hlen with
  | [a], _ => simp at hu0; rw [hu0]
 subst hvs
 refine Calls.mono (Tryz.slices_Sort_string g 0 cap l w hH hg hl) ?_
 rintro e' w' ⟨rfl, n, os, rfl⟩
 obtain ⟨h1, h2⟩ := hall (l.mergeSort fun x y => decide (x ≤ y)) n os (by simp)
 exact ⟨.tup [], _, .tuple #[], κ, Im, rfl, ⟨rfl, rfl⟩, h1, h2, .im _ _ (by first | exact .tup _ _ rfl (fun j h => by simp at h) | constructor <;> simp)⟩
end Go.Proofs.YtalfhchbmhoagaaGreatDoor
end
