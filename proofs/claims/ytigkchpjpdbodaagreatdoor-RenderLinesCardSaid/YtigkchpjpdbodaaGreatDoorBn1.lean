/- An evaluator of abstract code at given arguments, and its soundness: what it yields is what the call yields. Oracles for the evaluator: contracts put  -/
import Derived.Test.YtigkchpjpdbodaaGreatDoorAbs2
import Derived.Shelf.Strings.Builder1
import Derived.Shelf.Spec.SlicesGrow
import Derived.Test.YtigkchpjpdbodaaGreatDoorCode
import Derived.Test.YtigkchpjpdbodaaGreatDoorShelf
import Derived.ProofKit
import Derived.WalkKit
import Derived.Lib.ParseIntB
import Derived.Lib.ItoaNum
import Derived.Lib.IndexAny
set_option linter.unusedSimpArgs false
set_option linter.unusedVariables false
set_option linter.constructorNameAsVariable false
section
namespace Go.Abs
def listEq {α : Type} (e : α → α → Bool) : List α → List α → Bool
  | [], [] => true
  | a :: l, b :: m => e a b && listEq e l m
  | _, _ => false
theorem listEq_ok {α : Type} {e : α → α → Bool} (h : ∀ a b, e a b = true → a = b) : ∀ (l m : List α), listEq e l m = true → l = m
  | [], [], _ => rfl
  | a :: l, b :: m, hh => by
    simp only [listEq, Bool.and_eq_true] at hh
    rw [h a b hh.1, listEq_ok h l m hh.2]
  | [], _ :: _, hh => by simp [listEq] at hh
  | _ :: _, [], hh => by simp [listEq] at hh
def fnEq : Fn → Fn → Bool
  | .func f, .func g => f == g
  | _, _ => false
theorem fnEq_ok : ∀ {f g : Fn}, fnEq f g = true → f = g := by
  intro f g h
  cases f <;> cases g <;> simp [fnEq] at h
  rw [h]
def avEq : Nat → AV → AV → Bool
  | _, .junk, .junk => true
  | _, .int k n, .int k' n' => decide (k = k') && decide (n = n')
  | _, .bool b, .bool b' => b == b'
  | _, .str s, .str s' => decide (s = s')
  | _, .nilp, .nilp => true
  | _, .ptr i o, .ptr i' o' => i == i' && o == o'
  | _, .nils, .nils => true
  | _, .row i n, .row i' n' => i == i' && n == n'
  | _, .map i, .map i' => i == i'
  | _, .nilm, .nilm => true
  | _, .nilf, .nilf => true
  | _, .nili, .nili => true
  | n + 1, .rptr l, .rptr l' => listEq (avEq n) l l'
  | n + 1, .lst l, .lst l' => listEq (listEq (avEq n)) l l'
  | n + 1, .agg l, .agg l' => listEq (avEq n) l l'
  | n + 1, .tup l, .tup l' => listEq (avEq n) l l'
  | n + 1, .iface t v, .iface t' v' => t == t' && avEq n v v'
  | n + 1, .fn f a b, .fn f' a' b' => fnEq f f' && (listEq (avEq n) a a' && listEq (avEq n) b b')
  | _, _, _ => false
theorem avEq_ok : ∀ (n : Nat) (a b : AV), avEq n a b = true → a = b := by
  intro n
  induction n with
  | zero =>
    intro a b h
    cases a <;> cases b <;> simp [avEq] at h <;> simp [h]
  | succ n ih =>
    intro a b h
    have h1 := listEq_ok ih
    have h2 := listEq_ok h1
    cases a <;> cases b <;> simp only [avEq, Bool.and_eq_true, decide_eq_true_eq, beq_iff_eq, Bool.false_eq_true] at h <;> first | rfl | (obtain ⟨rfl, rfl⟩ := h; rfl) | (subst h; rfl) | (rw [h1 _ _ h]) | (rw [h2 _ _ h]) | (rw [h.1, ih _ _ h.2]) | (rw [fnEq_ok h.1, h1 _ _ h.2.1, h1 _ _ h.2.2])
def entEq (n : Nat) : Entry → Entry → Bool
  | .dead a, .dead b => a == b
  | .var t c, .var t' c' => t == t' && listEq (avEq n) c c'
  | .row e s l im, .row e' s' l' im' => e == e' && (s == s' && (listEq (listEq (avEq n)) l l' && im == im'))
  | .mp l, .mp l' => listEq (fun x y => avEq n x.1 y.1 && avEq n x.2 y.2) l l'
  | _, _ => false
theorem entEq_ok {n : Nat} : ∀ (a b : Entry), entEq n a b = true → a = b := by
  intro a b h
  have h1 := listEq_ok (avEq_ok n)
  have h2 := listEq_ok h1
  have h3 : ∀ x y : AV × AV, (avEq n x.1 y.1 && avEq n x.2 y.2) = true → x = y := fun x y h => by
    simp only [Bool.and_eq_true] at h
    exact Prod.ext (avEq_ok n _ _ h.1) (avEq_ok n _ _ h.2)
  cases a <;> cases b <;> simp only [entEq, Bool.and_eq_true, beq_iff_eq, Bool.false_eq_true] at h
  · rw [h]
  · rw [h.1, h1 _ _ h.2]
  · rw [h.1, h.2.1, h2 _ _ h.2.2.1, h.2.2.2]
  · rw [listEq_ok h3 _ _ h]
abbrev Res := AV × Store
def resEq (a b : Res) : Bool := avEq 20 a.1 b.1 && listEq (entEq 20) a.2 b.2
theorem resEq_ok {a b : Res} (h : resEq a b = true) : a = b := by
  simp only [resEq, Bool.and_eq_true] at h
  exact Prod.ext (avEq_ok _ _ _ h.1) (listEq_ok entEq_ok _ _ h.2)
/-- All of them, if they are one and the same. -/
def agree : List (Option Res) → Option Res
  | [] => none
  | [x] => x
  | x :: l => match x, agree l with
    | some a, some b => if resEq a b then some a else none
    | _, _ => none
theorem agree_ok : ∀ {l : List (Option Res)} {r : Res}, agree l = some r → ∀ x ∈ l, x = some r
  | [x], r, h, y, hy => by
    simp at hy; subst hy; exact h
  | x :: x2 :: l, r, h, y, hy => by
    simp only [agree] at h
    cases x with
    | none => simp at h
    | some a =>
      cases hb : agree (x2 :: l) with
      | none => rw [hb] at h; simp at h
      | some b =>
        rw [hb] at h
        simp only at h
        split at h
        · rename_i he
          cases h
          have := resEq_ok he
          subst this
          rcases List.mem_cons.1 hy with rfl | hy
          · rfl
          · exact agree_ok hb y hy
        · cases h
theorem mapM_imp {α β : Type} {f g : α → Option β} (h : ∀ a b, f a = some b → g a = some b) : ∀ {l : List α} {m : List β}, l.mapM f = some m → l.mapM g = some m
  | [], m, hm => by simp at hm ⊢; exact hm
  | a :: l, m, hm => by
    rw [List.mapM_cons] at hm ⊢
    cases hx : f a with
    | none => rw [hx] at hm; cases hm
    | some b =>
      rw [hx] at hm
      rw [h a b hx]
      cases hy : l.mapM f with
      | none => rw [hy] at hm; cases hm
      | some m' =>
        rw [hy] at hm
        rw [mapM_imp h hy]
        exact hm
def pureB : Nat → AV → Bool
  | _, .ptr .. => false
  | _, .row .. => false
  | _, .rowp .. => false
  | _, .map .. => false
  | _, .sub .. => false
  | _, .asl .. => false
  | 0, .fn .. => false
  | 0, .iface .. => false
  | 0, .agg .. => false
  | 0, .tup .. => false
  | n + 1, .fn _ a b => a.all (pureB n) && b.all (pureB n)
  | n + 1, .iface _ v => pureB n v
  | n + 1, .agg l => l.all (pureB n)
  | n + 1, .tup l => l.all (pureB n)
  | _, _ => true
theorem pureB_ok : ∀ (n : Nat) (v : AV), pureB n v = true → v.pure = true := by
  intro n
  induction n with
  | zero => intro v h; cases v <;> simp [pureB] at h <;> simp [AV.pure]
  | succ n ih =>
    intro v h
    cases v <;> simp [pureB] at h <;> simp [AV.pure]
    · exact ⟨fun x hx => ih x (h.1 x hx), fun x hx => ih x (h.2 x hx)⟩
    · exact ih _ h
    · exact fun x hx => ih x (h x hx)
    · exact fun x hx => ih x (h x hx)
def underB (m : Nat) : Nat → AV → Bool
  | _, .ptr id _ => decide (id < m)
  | _, .row id _ => decide (id < m)
  | _, .rowp id _ _ _ _ => decide (id < m)
  | _, .map id => decide (id < m)
  | _, .sub id _ _ _ _ => decide (id < m)
  | _, .asl id _ _ _ => decide (id < m)
  | 0, .fn .. => false
  | 0, .iface .. => false
  | 0, .agg .. => false
  | 0, .tup .. => false
  | n + 1, .fn _ a b => a.all (underB m n) && b.all (underB m n)
  | n + 1, .iface _ v => underB m n v
  | n + 1, .agg l => l.all (underB m n)
  | n + 1, .tup l => l.all (underB m n)
  | _, _ => true
theorem underB_ok {m : Nat} : ∀ (n : Nat) (v : AV), underB m n v = true → v.under m = true := by
  intro n
  induction n with
  | zero => intro v h; cases v <;> simp [underB] at h <;> simp [AV.under] <;> exact h
  | succ n ih =>
    intro v h
    cases v <;> simp [underB] at h <;> simp [AV.under]
    all_goals first | exact h | exact ih _ h | exact ⟨fun x hx => ih x (h.1 x hx), fun x hx => ih x (h.2 x hx)⟩ | exact fun x hx => ih x (h x hx)
def rigB : Nat → AV → Bool
  | _, .int .. => true
  | _, .bool _ => true
  | _, .str _ => true
  | _, .flt .. => true
  | _, .nilp => true
  | _, .nilm => true
  | _, .nilf => true
  | _, .nili => true
  | _, .any _ => true
  | _, .gp .. => true
  | n + 1, .tup l => l.all (rigB n)
  | n + 1, .agg l => l.all (rigB n)
  | n + 1, .iface _ v => rigB n v
  | _, _ => false
theorem rigB_ok : ∀ (n : Nat) (v : AV), rigB n v = true → rig v = true := by
  intro n
  induction n with
  | zero => intro v h; cases v <;> simp [rigB] at h <;> simp [rig]
  | succ n ih =>
    intro v h
    cases v <;> simp [rigB] at h <;> simp [rig]
    all_goals first | exact ih _ h | exact fun x hx => ih x (h x hx)
def entUnderB (m : Nat) : Entry → Bool
  | .dead _ => true
  | .var _ cells => cells.all (underB m 8)
  | .row _ _ els _ => els.all fun c => c.all (underB m 8)
  | .mp kv => kv.all fun p => underB m 8 p.2
  | .itr mid _ _ _ => mid.all fun i => decide (i < m)
theorem entUnderB_ok {m : Nat} {e : Entry} (h : entUnderB m e = true) : e.under m = true := by
  cases e with
  | dead _ => rfl
  | var t cells =>
    simp only [entUnderB, Entry.under, List.all_eq_true] at h ⊢
    exact fun x hx => underB_ok 8 x (h x hx)
  | row e s els im =>
    simp only [entUnderB, Entry.under, List.all_eq_true] at h ⊢
    exact fun c hc x hx => underB_ok 8 x (h c hc x hx)
  | mp kv =>
    simp only [entUnderB, Entry.under, List.all_eq_true] at h ⊢
    exact fun x hx => underB_ok 8 _ (h x hx)
  | itr mid n left last => exact h
def share1B (σ : Store) : AV → Option AV
  | .row id n => match σ[id]? with
    | some (.row _ _ els true) => if els.length = n then some (.lst els) else none
    | _ => none
  | .nils => some (.lst [])
  | v => if pureB 8 v = true then some v else none
theorem share1B_ok {σ : Store} : ∀ (v r : AV), share1B σ v = some r → share1 σ v = some r := by
  intro v r h
  cases v <;> simp only [share1B, share1] at h ⊢ <;> first | exact h | (split at h <;> first | (rename_i hp; rw [if_pos (pureB_ok _ _ hp)]; exact h) | cases h)
def shareB (σ : Store) : AV → Option AV
  | .agg l => (l.mapM (share1B σ)).map AV.agg
  | .tup _ => none
  | v => share1B σ v
theorem shareB_ok {σ : Store} {v r : AV} (h : shareB σ v = some r) : share σ v = some r := by
  cases v with
  | agg l =>
    simp only [shareB, share, shareL, Option.map_eq_some_iff] at h ⊢
    obtain ⟨m, h1, h2⟩ := h
    exact ⟨m, mapM_imp share1B_ok h1, h2⟩
  | tup l => cases h
  | _ => simp only [shareB, share] at h ⊢; exact share1B_ok _ _ h
def fzB (σ : Store) (m : Nat) : Nat → AV → Option AV
  | _, .nils => some (.lst [])
  | 0, v => if pureB 8 v = true then some v else none
  | k + 1, .row id n => match σ[id]? with
    | some (.row _ _ els im) => if els.length = n then (if im = true then some (.lst els) else if m ≤ id then (els.mapM fun (c : List AV) => c.mapM (fzB σ m k)).map .lst else none) else none
    | _ => none
  | _, v => if pureB 8 v = true then some v else none
theorem fzB_ok {σ : Store} {m : Nat} : ∀ (k : Nat) (v r : AV), fzB σ m k v = some r → fz σ m k v = some r := by
  intro k
  induction k with
  | zero =>
    intro v r h
    cases v <;> simp only [fzB, fz] at h ⊢ <;> first | exact h | (split at h <;> first | (rename_i hp; rw [if_pos (pureB_ok _ _ hp)]; exact h) | cases h)
  | succ k ih =>
    intro v r h
    cases v with
    | row id n =>
      simp only [fzB, fz] at h ⊢
      split at h
      · rename_i e size els im he
        rw [he]
        simp only
        split at h
        · next hl =>
          rw [if_pos hl]
          split at h
          · next hi => rw [if_pos hi]; exact h
          · next hi =>
            rw [if_neg hi]
            split at h
            · next hm =>
              rw [if_pos hm]
              simp only [Option.map_eq_some_iff] at h ⊢
              obtain ⟨x, h1, h2⟩ := h
              exact ⟨x, mapM_imp (fun a b hab => mapM_imp ih hab) h1, h2⟩
            · cases h
        · cases h
      · cases h
    | nils => exact h
    | _ => simp only [fzB, fz] at h ⊢; split at h <;> first | (rename_i hp; rw [if_pos (pureB_ok _ _ hp)]; exact h) | cases h
def fin1B (σ : Store) (m : Nat) : AV → Option AV
  | .row id n => fzB σ m 3 (.row id n)
  | .nils => some (.lst [])
  | .sub id n size lo hi => (fzB σ m 3 (.row id n)).bind fun
    | .lst l => if ∀ c ∈ l, c.length = size then some (.lst ((l.take hi).drop lo)) else none
    | _ => none
  | v => if underB m 8 v = true then some v else none
theorem fin1B_ok {σ : Store} {m : Nat} : ∀ (v r : AV), fin1B σ m v = some r → fin1 σ m v = some r := by
  intro v r h
  cases v with
  | row id n => exact fzB_ok 3 _ _ h
  | nils => exact h
  | sub id n size lo hi =>
    simp only [fin1B, fin1, Option.bind_eq_some_iff] at h ⊢
    obtain ⟨x, h1, h2⟩ := h
    exact ⟨x, fzB_ok 3 _ _ h1, h2⟩
  | _ => simp only [fin1B, fin1] at h ⊢; split at h <;> first | (rename_i hp; rw [if_pos (underB_ok _ _ hp)]; exact h) | cases h
def finTB (σ : Store) (m : Nat) : AV → Option AV
  | .agg l => (l.mapM (fin1B σ m)).map .agg
  | v => fin1B σ m v
theorem finTB_ok {σ : Store} {m : Nat} : ∀ (v r : AV), finTB σ m v = some r → finT σ m v = some r := by
  intro v r h
  cases v with
  | agg l =>
    simp only [finTB, finT, finL, Option.map_eq_some_iff] at h ⊢
    obtain ⟨x, h1, h2⟩ := h
    exact ⟨x, mapM_imp fin1B_ok h1, h2⟩
  | _ => simp only [finTB, finT] at h ⊢; exact fin1B_ok _ _ h
def finB (σ : Store) (m : Nat) : AV → Option AV
  | .tup l => (l.mapM (finTB σ m)).map .tup
  | v => finTB σ m v
theorem finB_ok {σ : Store} {m : Nat} : ∀ (v r : AV), finB σ m v = some r → fin σ m v = some r := by
  intro v r h
  cases v with
  | tup l =>
    simp only [finB, fin, Option.map_eq_some_iff] at h ⊢
    obtain ⟨x, h1, h2⟩ := h
    exact ⟨x, mapM_imp finTB_ok h1, h2⟩
  | _ => simp only [finB, fin] at h ⊢; exact finTB_ok _ _ h
def coe1 (σ : Store) (lend : Bool) : Nat → AV → Option AV
  | 0, v => if pureB 8 v = true then some v else none
  | n + 1, v => if pureB 8 v = true then some v else match v with
    | .row id m => match σ[id]? with
      | some (.row _ _ els im) => if els.length = m ∧ (im = true ∨ (lend = true ∧ ∀ c ∈ els, ∀ x ∈ c, pureB 8 x = true)) then some (.lst els) else none
      | _ => none
    | .ptr id off => match σ[id]? with
      | some (.var _ cells) => match cells.mapM (coe1 σ lend n) with
        | some cells' => if lend = true ∧ off ≤ cells.length ∧ (∀ c ∈ cells', c.one = true) then some (.rptr (cells'.drop off)) else none
        | none => none
      | _ => none
    | .fn g a b => match a.mapM (coe1 σ lend n), b.mapM (coe1 σ lend n) with
      | some a', some b' => some (.fn g a' b')
      | _, _ => none
    | .agg l => match l.mapM (coe1 σ lend n) with
      | some l' => if ∀ c ∈ l', c.one = true then some (.agg l') else none
      | none => none
    | _ => none
theorem mapM_rel {α β : Type} {f : α → Option β} {l : List α} {m : List β} (h : l.mapM f = some m) : l.length = m.length ∧ ∀ j (h : j < l.length) (h' : j < m.length), f (l[j]) = some (m[j]) := by
  induction l generalizing m with
  | nil => simp at h; subst h; exact ⟨rfl, fun j h => by simp at h⟩
  | cons a l ih =>
    rw [List.mapM_cons] at h
    cases hx : f a with
    | none => rw [hx] at h; cases h
    | some b =>
      rw [hx] at h
      cases hy : l.mapM f with
      | none => rw [hy] at h; cases h
      | some m' =>
        rw [hy] at h
        cases h
        obtain ⟨h1, h2⟩ := ih hy
        refine ⟨by simp [h1], fun j hj hj' => ?_⟩
        cases j with
        | zero => exact hx
        | succ j => exact h2 j (by simpa using hj) (by simpa using hj')
theorem coe1_ok {σ : Store} {lend : Bool} : ∀ (n : Nat) (v v' : AV), coe1 σ lend n v = some v' → Coe σ lend v v' := by
  intro n
  induction n with
  | zero =>
    intro v v' h
    simp only [coe1] at h
    split at h
    · next hp => cases h; exact .pure _ (pureB_ok _ _ hp)
    · cases h
  | succ n ih =>
    intro v v' h
    simp only [coe1] at h
    split at h
    · next hp => cases h; exact .pure _ (pureB_ok _ _ hp)
    · have hl : ∀ {l m : List AV}, l.mapM (coe1 σ lend n) = some m → l.length = m.length ∧ ∀ j (h : j < l.length) (h' : j < m.length), Coe σ lend (l[j]) (m[j]) := fun h => by
        obtain ⟨h1, h2⟩ := mapM_rel h
        exact ⟨h1, fun j hj hj' => ih _ _ (h2 j hj hj')⟩
      cases v with
      | row id m =>
        simp only at h
        split at h
        · rename_i e size els im he
          split at h
          · next hc => cases h; exact .row id m e size els im he hc.1 (hc.2.imp _root_.id fun h => ⟨h.1, fun c hx x hy => pureB_ok _ _ (h.2 c hx x hy)⟩)
          · cases h
        · cases h
      | ptr id off =>
        simp only at h
        split at h
        · rename_i t cells he
          split at h
          · rename_i cells' hm
            split at h
            · next hc =>
              cases h
              obtain ⟨h1, h2⟩ := hl hm
              exact .ptr id off t cells cells' he hc.1 hc.2.1 h1.symm h2 hc.2.2
            · cases h
          · cases h
        · cases h
      | fn g a b =>
        simp only at h
        split at h
        · rename_i a' b' h1 h2
          cases h
          obtain ⟨q1, q2⟩ := hl h1
          obtain ⟨q3, q4⟩ := hl h2
          exact .fn g a a' b b' q1 q3 q2 q4
        · cases h
      | agg l =>
        simp only at h
        split at h
        · rename_i l' h1
          split at h
          · next hc =>
            cases h
            obtain ⟨q1, q2⟩ := hl h1
            exact .agg l l' q1 hc q2
          · cases h
        · cases h
      | _ => simp at h
def coeArgs (σ : Store) (lend : Bool) (l : List AV) : Option (List AV) := l.mapM (coe1 σ lend 4)
theorem coeArgs_ok {σ : Store} {lend : Bool} {l m : List AV} (h : coeArgs σ lend l = some m) : CoeL σ lend l m := by
  unfold coeArgs at h
  induction l generalizing m with
  | nil => simp at h; subst h; exact .nil
  | cons a l ih =>
    rw [List.mapM_cons] at h
    cases hx : coe1 σ lend 4 a with
    | none => rw [hx] at h; cases h
    | some b =>
      rw [hx] at h
      cases hy : l.mapM (coe1 σ lend 4) with
      | none => rw [hy] at h; cases h
      | some m' =>
        rw [hy] at h
        cases h
        exact .cons (coe1_ok 4 _ _ hx) (ih hy)
end Go.Abs
namespace Go.Abs
def fixedB (σ : Store) (y : AV) (m : List (List AV)) : Bool := (aview σ y).isSome || m.all fun c => c.all (pureB 8)
theorem aview_view {σ : Store} {y : AV} {m : List (List AV)} (h : aview σ y = some m) : view σ y = some m := by
  unfold aview at h
  split at h
  · exact h
  · exact h
  · split at h
    · rename_i he
      simp [view, he]
      split at h
      · rename_i hn; cases h; simp [hn]
      · cases h
    · cases h
  · cases h
theorem fixedB_ok {σ : Store} {y : AV} {m : List (List AV)} (hv : view σ y = some m) (h : fixedB σ y m = true) : Fixed σ y m := by
  unfold fixedB at h
  simp only [Bool.or_eq_true, List.all_eq_true] at h
  rcases h with h | h
  · left
    cases hx : aview σ y with
    | none => rw [hx] at h; cases h
    | some m' =>
      have := aview_view hx
      rw [hv] at this
      cases this
      rfl
  · exact .inr fun c hc x hx => pureB_ok _ _ (h c hc x hx)
variable [Globs]
abbrev ECall := FuncId → List AV → Store → Option Res
/-- What the evaluator is given: the program, its functions' code, which calls are to work on the store as it is, which functions' appended rows are still written, and what some calls yield. -/
structure Evr where
  P : Program
  code : FuncId → Option AFunc
  keep : FuncId → Bool
  wr : FuncId → Bool
  orac : ECall
/-- A call as one that touches no entry: its value, or that it isn't one (some none), or that it yields nothing. -/
def evPure (call : ECall) (σ : Store) (g : FuncId) (args : List AV) : Option (Option AV) :=
  match coeArgs σ false args with
  | some az => (match call g az [] with | some (r, []) => some (some r) | some _ => some none | none => none)
  | none => match coeArgs σ true args with
    | some az => (match call g az [] with | some (r, []) => if rigB 8 r = true then some (some r) else some none | some _ => some none | none => none)
    | none => some none
def evCall (C : Evr) (call : ECall) (σ : Store) (k : AV → Store → Option Res) (g : FuncId) (args : List AV) : Option Res :=
  match (if C.keep g = true then some none else evPure call σ g args) with
  | none => none
  | some (some r) => k r σ
  | some none => match call g args σ with
    | some x => k x.1 x.2
    | none => none
def evQCall (call : ECall) (σ : Store) (k : AV → Store → Option Res) (g : FuncId) (args : List AV) : Option Res :=
  match coeArgs σ false args with
    | some az => (match call g az [] with | some (r, []) => k r σ | _ => none)
    | none => match coeArgs σ true args with
      | some az => (match call g az [] with | some (r, []) => if rigB 8 r = true then k r σ else none | _ => none)
      | none => none
def evApp (im : Bool) (σ : Store) (k : AV → Store → Option Res) (e size bytes : Nat) (X Y : AV) : Option Res :=
  match view σ Y with
  | none => none
  | some m => if 0 < size ∧ (∀ c ∈ m, c.length = size) then
    match X with
    | .nils => if m = [] then k .nils σ else if m.length * bytes ≤ 140737488355328 ∧ m.length ≤ 9223372036854775807 then k (.row σ.length m.length) (σ ++ [.row e size m (im && fixedB σ Y m)]) else none
    | .row id n => match σ[id]? with
      | some (.row e' size' els im') => if e' = e ∧ size' = size ∧ (im' = true → fixedB σ Y m = true) ∧ els.length = n ∧ (n + m.length) * bytes ≤ 140737488355328 ∧ n + m.length ≤ 9223372036854775807 then k (.row id (n + m.length)) (σ.set id (.row e size (els ++ m) im')) else none
      | _ => none
    | .sub id n sz lo hi => match σ[id]? with
      | some (.row e' size' els false) => if e' = e ∧ size' = size ∧ els.length = n ∧ 0 < n ∧ sz = size ∧ lo = 0 ∧ (hi + m.length) * bytes ≤ 140737488355328 ∧ hi + m.length ≤ 9223372036854775807 then k (.row σ.length (hi + m.length)) (σ.set id (.dead n) ++ [.row e size (els.take hi ++ m) false]) else none
      | _ => none
    | .tight l => if (∀ c ∈ l, c.length = size) ∧ m ≠ [] ∧ (l.length + m.length) * bytes ≤ 140737488355328 ∧ l.length + m.length ≤ 9223372036854775807 then k (.row σ.length (l.length + m.length)) (σ ++ [.row e size (l ++ m) (im && fixedB σ Y m)]) else none
    | _ => none
    else none
/-- An operation. -/
def evOp (C : Evr) (call : ECall) (im : Bool) (f : Frame) (σ : Store) (k : AV → Store → Option Res) : AOp → Option Res
  | .alloc t cells => k (.ptr σ.length 0) (σ ++ [.var t cells])
  | .box t x => if ∀ c ∈ (x.ev f).cells, c.one = true then k (.ptr σ.length 0) (σ ++ [.var t (x.ev f).cells]) else none
  | .store size x v => if (v.ev f).cells.length = size ∧ (∀ c ∈ (v.ev f).cells, c.one = true) then (match putAt σ (x.ev f) (v.ev f).cells with | some σ' => k .junk σ' | none => none) else none
  | .mkslice e size bytes zero len cap => match natOf (len.ev f), natOf (cap.ev f) with
    | some n, some c => if n ≤ c ∧ c * bytes ≤ 140737488355328 ∧ c ≤ 9223372036854775807 ∧ 0 < size ∧ zero.length = size then k (.row σ.length n) (σ ++ [.row e size (List.replicate n zero) false]) else none
    | _, _ => none
  | .mklst _ size zero n parts => match (parts.mapM fun (p : Nat × Opd) => (shareB σ (p.2.ev f)).bind fun v => if v.cells.length = size ∧ v.cells.all AV.one then some (p.1 * size, v.cells) else none) with
    | some ps => k (.lst (chunks n size (lay (List.replicate n zero).flatten ps))) σ
    | none => none
  | .mkrow e size zero n parts => match (parts.mapM fun (p : Nat × Opd) => if (p.2.ev f).cells.length = size ∧ (p.2.ev f).cells.all AV.one then some (p.1 * size, (p.2.ev f).cells) else none) with
    | some ps => if 0 < size then k (.row σ.length n) (σ ++ [.row e size (chunks n size (lay (List.replicate n zero).flatten ps)) false]) else none
    | none => none
  | .app e size bytes x y => evApp im σ k e size bytes (x.ev f) (y.ev f)
  | .apps e x y => match y.ev f with
    | .str l => (match x.ev f with
      | .nils => if l = [] then k .nils σ else if l.length ≤ 140737488355328 then k (.row σ.length l.length) (σ ++ [.row e 1 (byteEls l) im]) else none
      | .row id n => (match σ[id]? with
        | some (.row e' size' els im') => if e' = e ∧ size' = 1 ∧ els.length = n ∧ n + l.length ≤ 140737488355328 then k (.row id (n + l.length)) (σ.set id (.row e 1 (els ++ byteEls l) im')) else none
        | _ => none)
      | _ => none)
    | _ => none
  | .call fn args => evCall C call σ k fn (args.map (·.ev f))
  | .callv x args => match x.ev f with
    | .fn (.func g) first captured => if hasBody C.P g = true then evCall C call σ k g (first ++ args.map (·.ev f) ++ captured) else none
    | _ => none
  | .qcall fn args => evQCall call σ k fn (args.map (·.ev f))
  | .qcallv x args => match x.ev f with
    | .fn (.func g) first captured => if hasBody C.P g = true then evQCall call σ k g (first ++ args.map (·.ev f) ++ captured) else none
    | _ => none
  | .bad => none
  | .tobytes x => match bytesStep (x.ev f) with
    | some r => k r σ
    | none => none
  | .ex o => match o with
    | .mkmap => k (.map σ.length) (σ ++ [.mp []])
    | .mset kind x key v => (match x.ev f with
      | .map id => (match σ[id]? with
        | some (.mp kv) => if pureB 8 (key.ev f) = true ∧ noItr σ = true then (match mapPut kind (key.ev f) (v.ev f) kv with | some kv' => k .junk (σ.set id (.mp kv')) | none => none) else none
        | _ => none)
      | _ => none)
    | .clr size zero x => (match clrAt σ size zero (x.ev f) with | some σ' => k (.tup []) σ' | none => none)
    | .cpy size x y => (match view σ (y.ev f) with
      | some m => if (∀ c ∈ m, c.length = size) ∧ 0 < size then (match cpyAt σ size m (x.ev f) with | some (σ', n) => k (.int .i64 (n : Nat)) σ' | none => none) else none
      | none => none)
    | .mdel kind x key => (match delAt σ kind (key.ev f) (x.ev f) with | some σ' => k (.tup []) σ' | none => none)
    | .rng x => (match rngAt σ (x.ev f) with | some σ' => k (.ptr σ.length 0) σ' | none => none)
  | .apt e size bytes x y => match x.ev f, view σ (y.ev f) with
    | .tight l, some m => if 0 < size ∧ (∀ c ∈ m, c.length = size) ∧ (∀ c ∈ l, c.length = size) ∧ m ≠ [] ∧ (l.length + m.length) * bytes ≤ 140737488355328 ∧ l.length + m.length ≤ 9223372036854775807 then k (.row σ.length (l.length + m.length)) (σ ++ [.row e size (l ++ m) (im && fixedB σ (y.ev f) m)]) else none
    | _, _ => none
  | .nxt x => match x.ev f with
    | .ptr id 0 => (match σ[id]? with
      | some (.itr mid n left last) => if left = [] then k (.tup [.bool false]) σ else agree (left.map fun i => k (.tup [.bool true, .junk, .junk]) (σ.set id (.itr mid n (left.erase i) i)))
      | _ => none)
    | _ => none
  | .nlc neg x => match x.ev f with
    | .lst [] => agree [k (.bool true) σ, k (.bool false) σ]
    | v => (match nilOf 3 v with | some b => k (.bool (if neg then !b else b)) σ | none => none)
  | o => match pstep σ f o with
    | some r => k r σ
    | none => none
variable {C : Evr} {call : ECall}
/-- What calls are known to yield. -/
def CallOK (P : Program) (call : ECall) : Prop := ∀ g args σ r σ', call g args σ = some (r, σ') → ACalls P g args σ fun r' σ'' => r' = r ∧ σ'' = σ'
theorem evCall_ok (hc : CallOK C.P call) {σ : Store} {k : AV → Store → Option Res} {g : FuncId} {args : List AV} {res : Res} (h : evCall C call σ k g args = some res) : acall C.P σ (fun r σ' => k r σ' = some res) g args := by
  have direct : ∀ x, call g args σ = some x → k x.1 x.2 = some res → acall C.P σ (fun r σ' => k r σ' = some res) g args := fun x h1 h2 => .inr (.inr ((hc g args σ x.1 x.2 h1).mono fun r σ' ⟨e1, e2⟩ => by rw [e1, e2]; exact h2))
  have pure : ∀ az r, call g az [] = some (r, []) → PCalls C.P g az (fun r' => r' = r) := fun az r h1 => (hc g az [] r [] h1).mono fun r' σ' ⟨e1, e2⟩ => ⟨e2, e1⟩
  unfold evCall at h
  split at h
  · cases h
  · rename_i r hr
    split at hr
    · cases hr
    · unfold evPure at hr
      split at hr
      · rename_i az ha
        split at hr
        · rename_i r1 hr1
          cases hr
          exact .inl ⟨az, _, coeArgs_ok ha, pure az _ hr1, fun r' e => by rw [e]; exact h⟩
        · cases hr
        · cases hr
      · split at hr
        · rename_i az ha
          split at hr
          · rename_i r1 hr1
            split at hr
            · rename_i hg
              cases hr
              exact .inr (.inl ⟨az, _, coeArgs_ok ha, pure az _ hr1, fun r' e => by rw [e]; exact ⟨rigB_ok _ _ hg, h⟩⟩)
            · cases hr
          · cases hr
          · cases hr
        · cases hr
  · split at h
    · rename_i x hx; exact direct x hx h
    · cases h
theorem evQCall_ok (hc : CallOK C.P call) {σ : Store} {k : AV → Store → Option Res} {g : FuncId} {args : List AV} {res : Res} (h : evQCall call σ k g args = some res) : aqcall C.P σ (fun r σ' => k r σ' = some res) g args := by
  have pure : ∀ az r, call g az [] = some (r, []) → PCalls C.P g az (fun r' => r' = r) := fun az r h1 => (hc g az [] r [] h1).mono fun r' σ' ⟨e1, e2⟩ => ⟨e2, e1⟩
  unfold evQCall at h
  split at h
  · rename_i az ha
    split at h
    · rename_i r hr
      exact ⟨false, az, r, coeArgs_ok ha, pure az r hr, nofun, h⟩
    · cases h
  · split at h
    · rename_i az ha
      split at h
      · rename_i r hr
        split at h
        · rename_i hg
          exact ⟨true, az, r, coeArgs_ok ha, pure az r hr, fun _ => rigB_ok _ _ hg, h⟩
        · cases h
      · cases h
    · cases h
theorem evOp_ok (hc : CallOK C.P call) {im : Bool} {f : Frame} {σ : Store} {k : AV → Store → Option Res} {o : AOp} {res : Res} (h : evOp C call im f σ k o = some res) : awpOp C.P (fun r σ' => k r σ' = some res) f σ o := by
  have pur : ∀ o', (match pstep σ f o' with | some r => k r σ | none => none) = some res → ∃ r, pstep σ f o' = some r ∧ k r σ = some res := fun o' h => by
    cases hp : pstep σ f o' with
    | none => rw [hp] at h; cases h
    | some r => rw [hp] at h; exact ⟨r, rfl, h⟩
  cases o with
  | alloc t cells => exact h
  | box t x =>
    simp only [evOp] at h
    split at h
    · next hh => exact ⟨hh, h⟩
    · cases h
  | store size x v =>
    simp only [evOp] at h
    split at h
    · next hh =>
      cases hp : putAt σ (x.ev f) (v.ev f).cells with
      | none => rw [hp] at h; cases h
      | some σ' => rw [hp] at h; exact ⟨σ', hh.1, hh.2, hp, h⟩
    · cases h
  | mkslice e size bytes zero len cap =>
    simp only [evOp] at h
    split at h
    · rename_i n c h1 h2
      split at h
      · next hh => exact ⟨n, c, h1, h2, hh.1, hh.2.1, hh.2.2.1, hh.2.2.2.1, hh.2.2.2.2, h⟩
      · cases h
    · cases h
  | mklst e size zero n parts =>
    simp only [evOp] at h
    split at h
    · rename_i ps hp
      refine ⟨ps, mapM_imp (fun a b hab => ?_) hp, h⟩
      rw [Option.bind_eq_some_iff] at hab ⊢
      obtain ⟨x, h1, h2⟩ := hab
      exact ⟨x, shareB_ok h1, h2⟩
    · cases h
  | mkrow e size zero n parts =>
    simp only [evOp] at h
    split at h
    · rename_i ps hp
      split at h
      · next hh => exact ⟨ps, hp, hh, h⟩
      · cases h
    · cases h
  | app e size bytes x y =>
    simp only [evOp, evApp] at h
    split at h
    · cases h
    · rename_i m hm
      split at h
      case isFalse => cases h
      rename_i hsz
      refine ⟨m, hm, hsz.1, hsz.2, ?_⟩
      cases hX : x.ev f with
      | nils =>
        rw [hX] at h
        simp only at h ⊢
        split at h
        · next h0 => exact .inl ⟨h0, h⟩
        · split at h
          · next hb => exact .inr ⟨_, fun hi => fixedB_ok hm (by simp at hi; exact hi.2), hb.1, hb.2, h⟩
          · cases h
      | row id n =>
        rw [hX] at h
        simp only at h ⊢
        split at h
        · rename_i e' size' els im' he
          split at h
          · next hb =>
            obtain ⟨rfl, rfl, b3, b4, b5, b6⟩ := hb
            exact ⟨els, im', he, fun hi => fixedB_ok hm (b3 hi), b4, b5, b6, h⟩
          · cases h
        · cases h
      | sub id n sz lo hi =>
        rw [hX] at h
        simp only at h ⊢
        split at h
        · rename_i e' size' els he
          split at h
          · next hb =>
            obtain ⟨rfl, rfl, b3, b4, b5, b6, b7, b8⟩ := hb
            exact ⟨els, he, b3, b4, b5, b6, b7, b8, h⟩
          · cases h
        · cases h
      | tight l =>
        rw [hX] at h
        simp only at h ⊢
        split at h
        · next hb => exact ⟨_, hb.1, hb.2.1, fun hi => fixedB_ok hm (by simp at hi; exact hi.2), hb.2.2.1, hb.2.2.2, h⟩
        · cases h
      | _ => rw [hX] at h; cases h
  | apps e x y =>
    simp only [evOp] at h
    split at h
    · rename_i l hl
      refine ⟨l, hl, ?_⟩
      cases hX : x.ev f with
      | nils =>
        rw [hX] at h
        simp only at h ⊢
        split at h
        · next h0 => exact .inl ⟨h0, h⟩
        · split at h
          · next hb => exact .inr ⟨im, hb, h⟩
          · cases h
      | row id n =>
        rw [hX] at h
        simp only at h ⊢
        split at h
        · rename_i e' size' els im' he
          split at h
          · next hb =>
            obtain ⟨rfl, rfl, b3, b4⟩ := hb
            exact ⟨els, im', he, b3, b4, h⟩
          · cases h
        · cases h
      | _ => rw [hX] at h; cases h
    · cases h
  | call fn args => exact evCall_ok hc h
  | callv x args =>
    simp only [evOp] at h
    simp only [awpOp]
    split at h
    · rename_i g first captured hx
      rw [hx]
      split at h
      · next hb => exact ⟨hb, evCall_ok hc h⟩
      · cases h
    · cases h
  | qcall fn args => exact evQCall_ok (C := C) hc h
  | qcallv x args =>
    simp only [evOp] at h
    simp only [awpOp]
    split at h
    · rename_i g first captured hx
      rw [hx]
      split at h
      · next hb => exact ⟨hb, evQCall_ok (C := C) hc h⟩
      · cases h
    · cases h
  | bad => cases h
  | tobytes x =>
    simp only [evOp] at h
    split at h
    · rename_i r hr; exact ⟨r, hr, h⟩
    · cases h
  | ex o =>
    cases o with
    | mkmap => exact ⟨_, _, ⟨rfl, rfl⟩, h⟩
    | mset kind x key v =>
      simp only [evOp] at h
      split at h
      · rename_i id hx
        split at h
        · rename_i kv hkv
          split at h
          · next hb =>
            split at h
            · rename_i kv' hp; exact ⟨_, _, ⟨rfl, id, kv, kv', hx, hkv, pureB_ok _ _ hb.1, hp, hb.2, rfl⟩, h⟩
            · cases h
          · cases h
        · cases h
      · cases h
    | clr size zero x =>
      simp only [evOp] at h
      split at h
      · rename_i σ' hp; exact ⟨_, σ', ⟨rfl, hp⟩, h⟩
      · cases h
    | cpy size x y =>
      simp only [evOp] at h
      split at h
      · rename_i m hm
        split at h
        · next hb =>
          split at h
          · rename_i σ' n hp; exact ⟨_, σ', ⟨m, n, hm, hb.1, hb.2, hp, rfl⟩, h⟩
          · cases h
        · cases h
      · cases h
    | mdel kind x key =>
      simp only [evOp] at h
      split at h
      · rename_i σ' hp; exact ⟨_, σ', ⟨rfl, hp⟩, h⟩
      · cases h
    | rng x =>
      simp only [evOp] at h
      split at h
      · rename_i σ' hp; exact ⟨_, σ', ⟨rfl, hp⟩, h⟩
      · cases h
  | apt e size bytes x y =>
    simp only [evOp] at h
    split at h
    · rename_i l m hx hm
      split at h
      · next hb => exact ⟨l, m, _, hx, hm, hb.1, hb.2.1, hb.2.2.1, hb.2.2.2.1, fun hi => fixedB_ok hm (by simp at hi; exact hi.2), hb.2.2.2.2.1, hb.2.2.2.2.2, h⟩
      · cases h
    · cases h
  | nxt x =>
    simp only [evOp] at h
    simp only [awpOp]
    split at h
    · rename_i id hx
      rw [hx]
      simp only
      split at h
      · rename_i mid n left last he
        rw [he]
        simp only
        split at h
        · next h0 => subst h0; exact ⟨fun _ => h, fun i hi => by cases hi⟩
        · next h0 => exact ⟨fun e => absurd e h0, fun i hi => agree_ok h _ (List.mem_map.2 ⟨i, hi, rfl⟩)⟩
      · cases h
    · cases h
  | nlc neg x =>
    simp only [evOp] at h
    simp only [awpOp]
    split at h
    · rename_i hx
      rw [hx]
      intro b
      cases b
      · exact agree_ok h _ (by simp)
      · exact agree_ok h _ (by simp)
    · rename_i hx
      split at h
      · rename_i b hb
        cases hX : x.ev f with
        | lst l =>
          cases l with
          | nil => exact absurd hX hx
          | cons c l => rw [hX] at hb; exact ⟨b, hb, h⟩
        | _ => rw [hX] at hb; exact ⟨b, hb, h⟩
      · cases h
  | _ => exact pur _ h
end Go.Abs
namespace Go.Abs
/-- A frame, as a tree of its slots. -/
inductive Fr
  | e
  | n (l : Fr) (v : AV) (r : Fr)
noncomputable def Fr.get (t : Fr) : Nat → AV :=
  Fr.rec (motive := fun _ => Nat → AV) (fun _ => .junk) (fun _ v _ gl gr i => Nat.rec (motive := fun _ => AV) v (fun i' _ =>
    Bool.rec (motive := fun _ => AV) (gr (Nat.div i' (nat_lit 2))) (gl (Nat.div i' (nat_lit 2))) (Nat.beq (Nat.mod i' (nat_lit 2)) (nat_lit 0))) i) t
noncomputable def Fr.set (t : Fr) : Nat → AV → Option Fr :=
  Fr.rec (motive := fun _ => Nat → AV → Option Fr) (fun _ _ => none) (fun l v r sl sr i x => Nat.rec (motive := fun _ => Option Fr) (some (.n l x r)) (fun i' _ =>
    Bool.rec (motive := fun _ => Option Fr)
      (Option.rec (motive := fun _ => Option Fr) none (fun r' => some (.n l v r')) (sr (Nat.div i' (nat_lit 2)) x))
      (Option.rec (motive := fun _ => Option Fr) none (fun l' => some (.n l' v r)) (sl (Nat.div i' (nat_lit 2)) x))
      (Nat.beq (Nat.mod i' (nat_lit 2)) (nat_lit 0))) i) t
theorem Fr.get_0 (l : Fr) (v : AV) (r : Fr) : (Fr.n l v r).get 0 = v := rfl
theorem Fr.get_s (l : Fr) (v : AV) (r : Fr) (i : Nat) : (Fr.n l v r).get (i + 1) = cond (Nat.beq (Nat.mod i 2) 0) (l.get (Nat.div i 2)) (r.get (Nat.div i 2)) := by
  show Bool.rec (motive := fun _ => AV) (r.get (Nat.div i 2)) (l.get (Nat.div i 2)) (Nat.beq (Nat.mod i 2) 0) = _
  cases Nat.beq (Nat.mod i 2) 0 <;> rfl
theorem Fr.set_e (i : Nat) (x : AV) : Fr.e.set i x = none := rfl
theorem Fr.set_0 (l : Fr) (v : AV) (r : Fr) (x : AV) : (Fr.n l v r).set 0 x = some (.n l x r) := rfl
theorem Fr.set_s (l : Fr) (v : AV) (r : Fr) (i : Nat) (x : AV) : (Fr.n l v r).set (i + 1) x = cond (Nat.beq (Nat.mod i 2) 0) ((l.set (Nat.div i 2) x).map fun l' => .n l' v r) ((r.set (Nat.div i 2) x).map fun r' => .n l v r') := by
  show Bool.rec (motive := fun _ => Option Fr) (Option.rec (motive := fun _ => Option Fr) none (fun r' => some (.n l v r')) (r.set (Nat.div i 2) x)) (Option.rec (motive := fun _ => Option Fr) none (fun l' => some (.n l' v r)) (l.set (Nat.div i 2) x)) (Nat.beq (Nat.mod i 2) 0) = _
  cases Nat.beq (Nat.mod i 2) 0
  · cases r.set (Nat.div i 2) x <;> rfl
  · cases l.set (Nat.div i 2) x <;> rfl
theorem half_eq {i j : Nat} (h : Nat.mod i 2 = Nat.mod j 2) (h2 : Nat.div i 2 = Nat.div j 2) : i = j := by
  have a : i % 2 = j % 2 := h
  have b : i / 2 = j / 2 := h2
  omega
theorem Fr.get_set : ∀ {t t' : Fr} {i : Nat} {x : AV}, t.set i x = some t' → ∀ j, t'.get j = if j = i then x else t.get j
  | .e, t', i, x, h, j => by rw [Fr.set_e] at h; cases h
  | .n l v r, t', i, x, h, j => by
    cases i with
    | zero =>
      rw [Fr.set_0] at h; cases h
      cases j with
      | zero => simp [Fr.get_0, Fr.get_s]
      | succ j => simp [Fr.get_0, Fr.get_s]
    | succ i =>
      rw [Fr.set_s] at h
      cases hb : Nat.beq (Nat.mod i 2) 0 with
      | true =>
        rw [hb] at h
        simp only [cond_true, Option.map_eq_some_iff] at h
        obtain ⟨l', hl, h⟩ := h
        · cases h
          cases j with
          | zero => simp [Fr.get_0, Fr.get_s]
          | succ j =>
            simp only [Fr.get_s]
            cases hc : Nat.beq (Nat.mod j 2) 0 with
            | true =>
              simp only [cond_true]
              rw [Fr.get_set hl]
              by_cases e : Nat.div j 2 = Nat.div i 2
              · have : j = i := half_eq (by rw [Nat.eq_of_beq_eq_true hb, Nat.eq_of_beq_eq_true hc]) e
                rw [if_pos e, if_pos (by omega)]
              · rw [if_neg e, if_neg (fun e2 => e (by rw [show j = i by omega]))]
            | false =>
              simp only [cond_false]
              rw [if_neg (fun e2 => by rw [show j = i by omega, hb] at hc; cases hc)]
      | false =>
        rw [hb] at h
        simp only [cond_false, Option.map_eq_some_iff] at h
        obtain ⟨r', hr, h⟩ := h
        · cases h
          cases j with
          | zero => simp [Fr.get_0, Fr.get_s]
          | succ j =>
            simp only [Fr.get_s]
            cases hc : Nat.beq (Nat.mod j 2) 0 with
            | true =>
              simp only [cond_true]
              rw [if_neg (fun e2 => by rw [show j = i by omega, hb] at hc; cases hc)]
            | false =>
              simp only [cond_false]
              rw [Fr.get_set hr]
              by_cases e : Nat.div j 2 = Nat.div i 2
              · have : j = i := half_eq (by
                  have h1 : i % 2 ≠ 0 := fun e => by rw [show Nat.mod i 2 = 0 from e] at hb; cases hb
                  have h2 : j % 2 ≠ 0 := fun e => by rw [show Nat.mod j 2 = 0 from e] at hc; cases hc
                  have h3 : Nat.mod i 2 = i % 2 := rfl
                  have h4 : Nat.mod j 2 = j % 2 := rfl
                  omega) e
                rw [if_pos e, if_pos (by omega)]
              · rw [if_neg e, if_neg (fun e2 => e (by rw [show j = i by omega]))]
def Fr.full : Nat → Fr
  | 0 => .e
  | k + 1 => .n (Fr.full k) .junk (Fr.full k)
theorem Fr.get_full : ∀ (k i : Nat), (Fr.full k).get i = .junk
  | 0, i => rfl
  | k + 1, 0 => rfl
  | k + 1, i + 1 => by
    simp only [Fr.full, Fr.get_s]
    rw [Fr.get_full k]
    cases Nat.beq (Nat.mod i 2) 0 <;> rfl
noncomputable def Fr.fill : List AV → Nat → Fr → Option Fr
  | [], _, t => some t
  | a :: l, i, t => match t.set i a with
    | some t' => Fr.fill l (Nat.succ i) t'
    | none => none
theorem Fr.get_fill : ∀ {l : List AV} {i : Nat} {t t' : Fr}, Fr.fill l i t = some t' → ∀ j, t'.get j = if i ≤ j ∧ j < i + l.length then l.getD (j - i) .junk else t.get j
  | [], i, t, t', h, j => by simp [Fr.fill] at h; subst h; rw [if_neg (by simp)]
  | a :: l, i, t, t', h, j => by
    simp only [Fr.fill] at h
    split at h
    · rename_i t1 h1
      rw [Fr.get_fill h, Fr.get_set h1]
      by_cases e : j = i
      · subst e
        rw [if_neg (by omega), if_pos rfl, if_pos (by simp)]
        simp
      · by_cases e2 : i + 1 ≤ j ∧ j < i + 1 + l.length
        · rw [if_pos e2, if_pos (by simp; omega)]
          rw [show j - i = (j - (i + 1)) + 1 by omega]
          simp [List.getD]
        · rw [if_neg e2, if_neg e, if_neg (by simp; omega)]
    · cases h
noncomputable def toF (fr : Fr) : Frame := fr.get
noncomputable def putF (fr : Fr) (d : Option Nat) (v : AV) : Option Fr := match d with
  | none => some fr
  | some d => fr.set d v
theorem putF_ok {fr fr' : Fr} {d : Option Nat} {v : AV} (h : putF fr d v = some fr') : (toF fr).put d v = toF fr' := by
  cases d with
  | none => cases h; rfl
  | some d =>
    funext t
    simp only [putF] at h
    simp only [Frame.put_some, toF]
    rw [Fr.get_set h t]
def isUndef : AV → Bool
  | .any (.tuple a) => a.size == 0
  | _ => false
theorem isUndef_ok {v : AV} (h : isUndef v = true) : v = .any undef := by
  unfold isUndef at h
  split at h
  · rename_i a
    simp at h
    subst h
    rfl
  · cases h
def undefA : AV := .any (.tuple #[])
abbrev FK := Fr → Store → Option Res
variable [Globs]
def kOpt (k : AV → Store → Option Res) (σ : Store) (x : Option AV) : Option Res := match x with
  | some r => k r σ
  | none => none
def pNot : AV → Option AV
  | .bool b => some (.bool !b)
  | _ => none
def pConv (k : IntKind) : AV → Option AV
  | .int _ n => some (.int k (k.wrap n))
  | _ => none
def pExt (i : Nat) : AV → Option AV
  | .tup l => l[i]?
  | _ => none
def pField (off size : Nat) (ag : Bool) : AV → Option AV
  | .agg l => if off + size ≤ l.length then oneOf ag ((l.drop off).take size) else none
  | _ => none
def pFaddr (off : Nat) : AV → Option AV
  | .ptr id o => some (.ptr id (o + off))
  | .rptr l => if off ≤ l.length then some (.rptr (l.drop off)) else none
  | .rowp id n size k o => some (.rowp id n size k (o + off))
  | .gp g o => some (.gp g (o + off))
  | _ => none
def pIaddr (σ : Store) (size : Nat) (i : Nat) : AV → Option AV
  | .lst l => (l[i]?).bind fun c => if c.length = size then some (.rptr c) else none
  | .row id n => match σ[id]? with
    | some (.row _ size' els _) => if els.length = n ∧ size' = size ∧ i < n then some (.rowp id n size i 0) else none
    | _ => none
  | .sub id n sz lo hi => if sz = size ∧ lo + i < hi then some (.rowp id n size (lo + i) 0) else none
  | .asl id off n sz => if sz = size ∧ i < n then some (.ptr id (off + i * size)) else none
  | _ => none
def pIaddrO (σ : Store) (size : Nat) (i : Option Nat) (x : AV) : Option AV := match i with
  | some i => pIaddr σ size i x
  | none => none
def pSidx (i : Option Nat) (x : AV) : Option AV := match i with
  | some i => match x with
    | .str l => (l[i]?).map fun b => .int .u8 b.toNat
    | _ => none
  | none => none
def pSlen : AV → Option AV
  | .str l => some (.int .i64 l.length)
  | _ => none
def pPick (f : Frame) (a b : Opd) : AV → Option AV
  | .bool c => some (if c then a.ev f else b.ev f)
  | _ => none
def pNilck : AV → Option AV
  | .ptr id off => some (.ptr id off)
  | .rptr l => some (.rptr l)
  | .rowp a b c d e => some (.rowp a b c d e)
  | .gp a b => some (.gp a b)
  | .fn (.func g) a b => some (.fn (.func g) a b)
  | _ => none
def pBuild (f : Frame) (zero : List AV) (parts : List (Nat × Nat × Opd)) : Option AV := (parts.mapM fun (p : Nat × Nat × Opd) => if (p.2.2.ev f).cells.length = p.2.1 ∧ (p.2.2.ev f).cells.all AV.one then some (p.1, (p.2.2.ev f).cells) else none).map fun l => .agg (lay zero l)
def pStore (σ : Store) (k : AV → Store → Option Res) (size : Nat) (x v : AV) : Option Res := if v.cells.length = size ∧ (∀ c ∈ v.cells, c.one = true) then (match putAt σ x v.cells with | some σ' => k .junk σ' | none => none) else none
def evOpF (C : Evr) (call : ECall) (im : Bool) (f : Frame) (σ : Store) (k : AV → Store → Option Res) : AOp → Option Res
  | .mv x => k (x.ev f) σ
  | .pick c a b => kOpt k σ (pPick f a b (c.ev f))
  | .bin op x y => kOpt k σ (abin op (x.ev f) (y.ev f))
  | .not x => kOpt k σ (pNot (x.ev f))
  | .conv kd x => kOpt k σ (pConv kd (x.ev f))
  | .ext x i => kOpt k σ (pExt i (x.ev f))
  | .build zero parts => kOpt k σ (pBuild f zero parts)
  | .field off size ag x => kOpt k σ (pField off size ag (x.ev f))
  | .load ag size x => kOpt k σ ((cellsAt σ (x.ev f) size).bind (oneOf ag))
  | .nilck x => kOpt k σ (pNilck (x.ev f))
  | .faddr off x => kOpt k σ (pFaddr off (x.ev f))
  | .iaddr size x i => kOpt k σ (pIaddrO σ size (natOf (i.ev f)) (x.ev f))
  | .sidx x i => kOpt k σ (pSidx (natOf (i.ev f)) (x.ev f))
  | .slen x => kOpt k σ (pSlen (x.ev f))
  | .len x => kOpt k σ ((view σ (x.ev f)).map fun l => .int .i64 l.length)
  | .alloc t cells => k (.ptr σ.length 0) (σ ++ [.var t cells])
  | .store size x v => pStore σ k size (x.ev f) (v.ev f)
  | .call fn args => evCall C call σ k fn (args.map (·.ev f))
  | .qcall fn args => evQCall call σ k fn (args.map (·.ev f))
  | o => evOp C call im f σ k o
theorem evOpF_eq (C : Evr) (call : ECall) (im : Bool) (f : Frame) (σ : Store) (k : AV → Store → Option Res) (o : AOp) : evOpF C call im f σ k o = evOp C call im f σ k o := by
  have ko : ∀ x, kOpt k σ x = match x with | some r => k r σ | none => none := fun x => rfl
  cases o with
  | iaddr size x i =>
    simp only [evOpF, evOp, ko, pstep, pIaddrO]
    cases natOf (i.ev f) with
    | none => cases x.ev f <;> rfl
    | some i => cases x.ev f <;> rfl
  | sidx x i =>
    simp only [evOpF, evOp, ko, pstep, pSidx]
    cases natOf (i.ev f) with
    | none => cases x.ev f <;> rfl
    | some i => cases x.ev f <;> rfl
  | _ => rfl
noncomputable def putK (fr : Fr) (d : Option Nat) (K : FK) (r : AV) (σ : Store) : Option Res :=
  Option.rec (motive := fun _ => Option Res) (K fr σ) (fun d => Option.rec (motive := fun _ => Option Res) none (fun fr' => K fr' σ) (fr.set d r)) d
omit [Globs] in
theorem putK_ok {fr : Fr} {d : Option Nat} {K : FK} {r : AV} {σ : Store} {res : Res} (h : putK fr d K r σ = some res) : ∃ fr', (toF fr).put d r = toF fr' ∧ K fr' σ = some res := by
  cases d with
  | none => exact ⟨fr, rfl, h⟩
  | some d =>
    have h1 : Option.rec (motive := fun _ => Option Res) none (fun fr' => K fr' σ) (fr.set d r) = some res := h
    cases hp : fr.set d r with
    | none => rw [hp] at h1; cases h1
    | some fr' => rw [hp] at h1; exact ⟨fr', putF_ok (d := some d) hp, h1⟩
noncomputable def evIns (C : Evr) (call : ECall) (im : Bool) (i : AIns) (fr : Fr) (σ : Store) (K : FK) : Option Res := match i.g with
  | none => evOpF C call im fr.get σ (putK fr i.d K) i.o
  | some (t, b) => match fr.get t with
    | .bool c => if c = b then evOpF C call im fr.get σ (putK fr i.d K) i.o else putK fr i.d K undefA σ
    | v => if isUndef v = true then putK fr i.d K undefA σ else none
noncomputable def evOps (C : Evr) (call : ECall) (im : Bool) (l : List AIns) : Fr → Store → FK → Option Res :=
  List.rec (motive := fun _ => Fr → Store → FK → Option Res) (fun fr σ K => K fr σ) (fun i _ ih fr σ K => evIns C call im i fr σ fun fr σ => ih fr σ K) l
variable {C : Evr} {call : ECall}
/-- What is asked of a frame, told of rows. -/
def AtF (K : FK) (res : Res) (f : Frame) (σ : Store) : Prop := ∃ fr, f = toF fr ∧ K fr σ = some res
theorem evOp_mono {P : Program} {K K' : AV → Store → Prop} {f : Frame} {σ : Store} {o : AOp} (hK : ∀ r σ, K r σ → K' r σ) (h : awpOp P K f σ o) : awpOp P K' f σ o := by
  have h1 : awp P (.ops [⟨none, some 0, o⟩]) (fun e f σ => match e with | .normal => K (f 0) σ | _ => True) f σ := by
    show awpOp P (fun r σ' => K ((f.put (some 0) r) 0) σ') f σ o
    simpa using h
  have h2 := awp_mono (Q' := fun e f σ => match e with | .normal => K' (f 0) σ | _ => True) (fun e f σ h0 => by cases e <;> first | exact hK _ _ h0 | trivial) h1
  have h3 : awpOp P (fun r σ' => K' ((f.put (some 0) r) 0) σ') f σ o := h2
  simpa using h3
theorem evIns_ok (hc : CallOK C.P call) {im : Bool} {i : AIns} {fr : Fr} {σ : Store} {K : FK} {res : Res} (h : evIns C call im i fr σ K = some res) : awpIns C.P (AtF K res) i (toF fr) σ := by
  have run : evOpF C call im (toF fr) σ (putK fr i.d K) i.o = some res → awpOp C.P (fun r σ' => AtF K res ((toF fr).put i.d r) σ') (toF fr) σ i.o := fun h => evOp_mono (fun r σ' h2 => by
    obtain ⟨fr', e1, e2⟩ := putK_ok h2
    exact ⟨fr', e1, e2⟩) (evOp_ok hc (by rw [evOpF_eq] at h; exact h))
  have pass : putK fr i.d K undefA σ = some res → AtF K res ((toF fr).put i.d (.any undef)) σ := fun h => by
    obtain ⟨fr', e1, e2⟩ := putK_ok h
    exact ⟨fr', e1, e2⟩
  unfold evIns at h
  unfold awpIns
  split at h
  · rename_i hg
    rw [hg]
    exact run h
  · rename_i t b hg
    rw [hg]
    simp only
    split at h
    · rename_i c hb
      by_cases hcb : c = b
      · rw [if_pos hcb] at h
        exact ⟨true, .inr ⟨c, hb, by simp [hcb]⟩, fun _ => run h, fun e => by cases e⟩
      · rw [if_neg hcb] at h
        have : (c == b) = false := by simpa using hcb
        exact ⟨false, .inr ⟨c, hb, this.symm⟩, fun e => by (cases e), fun _ => pass h⟩
    · split at h
      · next hu => exact ⟨false, .inl ⟨isUndef_ok hu, rfl⟩, fun e => by (cases e), fun _ => pass h⟩
      · cases h
theorem evIns_mono {P : Program} {K K' : Frame → Store → Prop} {i : AIns} {f : Frame} {σ : Store} (hK : ∀ f σ, K f σ → K' f σ) (h : awpIns P K i f σ) : awpIns P K' i f σ := by
  unfold awpIns at *
  split at h
  · exact evOp_mono (fun r σ h => hK _ _ h) h
  · obtain ⟨w, h1, h2, h3⟩ := h
    exact ⟨w, h1, fun e => evOp_mono (fun r σ h => hK _ _ h) (h2 e), fun e => hK _ _ (h3 e)⟩
theorem evOps_ok (hc : CallOK C.P call) {im : Bool} : ∀ (l : List AIns) {fr : Fr} {σ : Store} {K : FK} {res : Res}, evOps C call im l fr σ K = some res → awpOps C.P (AtF K res) l (toF fr) σ
  | [], fr, σ, K, res, h => ⟨fr, rfl, h⟩
  | i :: rest, fr, σ, K, res, h => evIns_mono (fun f σ h => by
    obtain ⟨fr', rfl, h2⟩ := h
    exact evOps_ok hc rest h2) (evIns_ok hc h)
abbrev EK := AExit → Fr → Store → Option Res
/-- Code: what stands behind it yields one and the same, whichever way it goes. -/
noncomputable def evC (C : Evr) (call : ECall) (im : Bool) : Nat → ACode → Fr → Store → EK → Option Res
  | 0, _, _, _, _ => none
  | n + 1, c, fr, σ, k => match c with
    | .skip => k .normal fr σ
    | .ops l => evOps C call im l fr σ (k .normal)
    | .all ls => agree (ls.map fun l => evOps C call im l fr σ (k .normal))
    | .seq a b => evC C call im n a fr σ fun e fr σ => match e with
      | .normal => evC C call im n b fr σ k
      | e => k e fr σ
    | .cond c x y => match c.ev (toF fr) with
      | .bool true => evC C call im n x fr σ k
      | .bool false => evC C call im n y fr σ k
      | _ => none
    | .block id c => evC C call im n c fr σ fun e fr σ => match e with
      | .exit id' => if id' = id then k .normal fr σ else k (.exit id') fr σ
      | e => k e fr σ
    | .loop c => evC C call im n c fr σ fun e fr σ => match e with
      | .normal => evC C call im n (.loop c) fr σ k
      | e => k e fr σ
    | .exit id => k (.exit id) fr σ
    | .ret => k .ret fr σ
    | .gh => k .normal fr σ
    | .bad => none
def AtE (k : EK) (res : Res) (e : AExit) (f : Frame) (σ : Store) : Prop := ∃ fr, f = toF fr ∧ k e fr σ = some res
theorem evOps_mono {P : Program} : ∀ {l : List AIns} {K K' : Frame → Store → Prop} {f : Frame} {σ : Store}, (∀ f σ, K f σ → K' f σ) → awpOps P K l f σ → awpOps P K' l f σ
  | [], K, K', f, σ, hK, h => hK _ _ h
  | i :: l, K, K', f, σ, hK, h => evIns_mono (fun f σ h => evOps_mono hK h) h
theorem evC_ok (hc : CallOK C.P call) {im : Bool} : ∀ (n : Nat) (c : ACode) {fr : Fr} {σ : Store} {k : EK} {res : Res}, evC C call im n c fr σ k = some res → awp C.P c (AtE k res) (toF fr) σ := by
  intro n
  induction n using Nat.strongRecOn with
  | _ n0 ih0 =>
  intro c fr σ k res h
  cases n0 with
  | zero => cases h
  | succ n =>
    have ih := ih0 n (Nat.lt_succ_self n)
    have nrm : ∀ f σ, AtF (k .normal) res f σ → AtE k res .normal f σ := fun f σ h => h
    cases c with
    | skip => exact ⟨fr, rfl, h⟩
    | ops l => exact evOps_mono nrm (evOps_ok hc l h)
    | all ls => exact fun l hl => evOps_mono nrm (evOps_ok hc l (agree_ok h _ (List.mem_map.2 ⟨l, hl, rfl⟩)))
    | seq a b =>
      show awp C.P a (AExit.then (awp C.P b (AtE k res)) (AtE k res)) (toF fr) σ
      refine awp_mono (fun e f σ h0 => ?_) (ih a h)
      obtain ⟨fr', rfl, h1⟩ := h0
      cases e with
      | normal => exact ih b h1
      | exit id => exact ⟨fr', rfl, h1⟩
      | ret => exact ⟨fr', rfl, h1⟩
    | cond c x y =>
      simp only [evC] at h
      split at h
      · rename_i hb; exact ⟨true, hb, fun _ => ih x h, fun e => by cases e⟩
      · rename_i hb; exact ⟨false, hb, fun e => by (cases e), fun _ => ih y h⟩
      · cases h
    | block id c =>
      show awp C.P c (AExit.inBlock id (AtE k res)) (toF fr) σ
      refine awp_mono (fun e f σ h0 => ?_) (ih c h)
      obtain ⟨fr', rfl, h1⟩ := h0
      cases e with
      | normal => exact ⟨fr', rfl, h1⟩
      | ret => exact ⟨fr', rfl, h1⟩
      | exit id' =>
        simp only at h1
        show (if id' = id then AtE k res .normal (toF fr') σ else AtE k res (.exit id') (toF fr') σ)
        split
        · next he => rw [if_pos he] at h1; exact ⟨fr', rfl, h1⟩
        · next he => rw [if_neg he] at h1; exact ⟨fr', rfl, h1⟩
    | loop c =>
      refine ⟨fun m f σ => ∃ fr, f = toF fr ∧ evC C call im m (.loop c) fr σ k = some res ∧ m ≤ n + 1, n + 1, ⟨fr, rfl, h, Nat.le_refl _⟩, ?_⟩
      rintro m f σ ⟨fr', rfl, hm, hmn⟩
      cases m with
      | zero => cases hm
      | succ m =>
        refine awp_mono (fun e f σ h0 => ?_) (ih0 m (by omega) c hm)
        obtain ⟨fr2, rfl, h1⟩ := h0
        cases e with
        | normal => exact ⟨m, by omega, fr2, rfl, h1, by omega⟩
        | exit id => exact ⟨fr2, rfl, h1⟩
        | ret => exact ⟨fr2, rfl, h1⟩
    | exit id => exact ⟨fr, rfl, h⟩
    | ret => exact ⟨fr, rfl, h⟩
    | gh => exact .inl ⟨fr, rfl, h⟩
    | bad => cases h
end Go.Abs
namespace Go.Abs
variable [Globs]
/-- What a call leaves at its end. -/
noncomputable def evEnd (keep : Bool) (m : Nat) (res : List (Nat × Option (Bool × Nat))) : EK := fun e fr σ => match e with
  | .exit _ => none
  | _ => match res.mapM (evalRes σ (toF fr)) with
    | none => none
    | some rs =>
      let all : Option Res := if underB σ.length 8 (tupOf rs) = true ∧ m ≤ σ.length ∧ (∀ e ∈ σ, entUnderB σ.length e = true) then some (tupOf rs, σ) else none
      if keep = true then all else match finB σ m (tupOf rs) with
        | some r => if m ≤ σ.length ∧ (∀ e ∈ σ.take m, entUnderB m e = true) then some (r, σ.take m) else all
        | none => all
theorem evEnd_ok {keep : Bool} {σ₀ : Store} {rs0 : List (Nat × Option (Bool × Nat))} {e : AExit} {fr : Fr} {σ : Store} {r : AV} {σ' : Store} (h : evEnd keep σ₀.length rs0 e fr σ = some (r, σ')) : BodyPost σ₀ (fun r' σ'' => r' = r ∧ σ'' = σ') rs0 e (toF fr) σ := by
  have main : evEnd keep σ₀.length rs0 .ret fr σ = some (r, σ') → AtRet σ₀ (fun r' σ'' => r' = r ∧ σ'' = σ') rs0 (toF fr) σ := by
    intro h
    simp only [evEnd] at h
    cases hm : rs0.mapM (evalRes σ (toF fr)) with
    | none => rw [hm] at h; cases h
    | some rs =>
      rw [hm] at h
      simp only at h
      have hall : (if underB σ.length 8 (tupOf rs) = true ∧ σ₀.length ≤ σ.length ∧ (∀ e ∈ σ, entUnderB σ.length e = true) then some (tupOf rs, σ) else none) = some (r, σ') → AtRet σ₀ (fun r' σ'' => r' = r ∧ σ'' = σ') rs0 (toF fr) σ := fun h => by
        split at h
        · next hc =>
          cases h
          exact ⟨rs, _, σ.length, hm, .inr ⟨rfl, underB_ok _ _ hc.1⟩, hc.2.1, fun id e _ he => .inr (entUnderB_ok (hc.2.2 e (List.mem_of_getElem? he))), rfl, List.take_of_length_le (Nat.le_refl _)⟩
        · cases h
      split at h
      · exact hall h
      · split at h
        · rename_i r1 hf
          split at h
          · next hc =>
            cases h
            refine ⟨rs, _, σ₀.length, hm, .inl (finB_ok _ _ hf), Nat.le_refl _, fun id e hid he => .inr (entUnderB_ok (hc.2 e ?_)), rfl, rfl⟩
            exact List.mem_of_getElem? (by rw [List.getElem?_take_of_lt hid]; exact he)
          · exact hall h
        · exact hall h
  cases e with
  | exit id => cases h
  | normal => exact main h
  | ret => exact main h
noncomputable def evFn (C : Evr) (m : Nat) : Nat → ECall
  | 0, _, _, _ => none
  | n + 1, g, args, σ => match C.orac g args σ with
    | some x => some x
    | none => match C.code g with
      | none => none
      | some af => if Nat.ble args.length af.n = true then (match Fr.fill args 0 (Fr.full 12) with | some fr => evC C (evFn C m n) (!C.wr g) m af.code fr σ (evEnd (C.keep g) σ.length af.res) | none => none) else none
/-- WHAT THE EVALUATOR YIELDS IS WHAT THE CALL YIELDS. -/
theorem evFn_ok {C : Evr} (hm : C.P.follows .mixedOrders = true) (hcode : ∀ g af, C.code g = some af → ∃ loud, compFn C.P loud g = some af) (hor : CallOK C.P C.orac) (m : Nat) : ∀ (n : Nat), CallOK C.P (evFn C m n) := by
  intro n
  induction n with
  | zero => intro g args σ r σ' h; cases h
  | succ n ih =>
    intro g args σ r σ' h
    simp only [evFn] at h
    split at h
    · rename_i x ho
      cases h
      exact hor g args σ r σ' ho
    · split at h
      · cases h
      · rename_i af haf
        split at h
        · next hl =>
          obtain ⟨loud, hf⟩ := hcode g af haf
          split at h
          case h_2 => cases h
          rename_i fr0 hfr
          have e : toF fr0 = initF args := by
            funext t
            simp only [toF, initF]
            rw [Fr.get_fill hfr]
            by_cases ht : t < args.length
            · rw [if_pos (by omega)]; simp
            · rw [if_neg (by omega), Fr.get_full]
              simp [List.getD, List.getElem?_eq_none (by omega : args.length ≤ t)]
          have h2 := evC_ok ih m af.code h
          rw [e] at h2
          refine acalls_of_awp hm hf (Nat.le_of_ble_eq_true hl) (awp_mono (fun ex f σ h0 => ?_) h2)
          obtain ⟨fr, rfl, h3⟩ := h0
          exact evEnd_ok h3
        · cases h
end Go.Abs
end
section
namespace Go.Abs
/-- Texts and bytes out of a list. -/
def strsOf : List (List AV) → Option (List (List UInt8))
  | [] => some []
  | [.str s] :: l => match strsOf l with | some r => some (s :: r) | none => none
  | _ => none
theorem strsOf_ok : ∀ (l : List (List AV)) {r}, strsOf l = some r → l = r.map fun s => [AV.str s]
  | [], r, h => by cases h; rfl
  | c :: l, r, h => by
    unfold strsOf at h
    split at h
    · rename_i e; cases e
    · rename_i s l' e
      cases e
      split at h
      · rename_i r' hr
        cases h
        rw [strsOf_ok _ hr]; rfl
      · cases h
    · cases h
def bysOf : List (List AV) → Option (List UInt8)
  | [] => some []
  | [.int .u8 (.ofNat n)] :: l => if Nat.blt n 256 = true then (match bysOf l with | some r => some (UInt8.ofNat n :: r) | none => none) else none
  | _ => none
theorem bysOf_ok : ∀ (l : List (List AV)) {r}, bysOf l = some r → l = byteEls r
  | [], r, h => by cases h; rfl
  | c :: l, r, h => by
    unfold bysOf at h
    split at h
    · rename_i e; cases e
    · rename_i n l' e
      cases e
      split at h
      · rename_i hn
        split at h
        · rename_i r' hr
          cases h
          rw [bysOf_ok _ hr]
          have hn' : n < 256 := by simpa using hn
          have e : (UInt8.ofNat n).toNat = n := by simp; omega
          show [AV.int .u8 (Int.ofNat n)] :: byteEls r' = [AV.int .u8 ((UInt8.ofNat n).toNat : Int)] :: byteEls r'
          rw [e]; rfl
        · cases h
      · cases h
    · cases h
/-- Decimal digits, with so much fuel. -/
def digF : Nat → Nat → Option (List UInt8)
  | 0, _ => none
  | k + 1, u => if Nat.blt u 10 = true then some [UInt8.ofNat (48 + u)] else match digF k (u / 10) with
    | some l => some (l ++ [UInt8.ofNat (48 + u % 10)])
    | none => none
variable [Globs]
/-- The one, or else the other. -/
def orE (a b : ECall) : ECall := fun g args σ => match a g args σ with
  | some r => some r
  | none => b g args σ
theorem orE_ok {P : Program} {a b : ECall} (ha : CallOK P a) (hb : CallOK P b) : CallOK P (orE a b) := by
  intro g args σ r σ' h
  unfold orE at h
  cases hx : a g args σ with
  | some y => rw [hx] at h; cases h; exact ha _ _ _ _ _ hx
  | none => rw [hx] at h; exact hb _ _ _ _ _ h
def noE : ECall := fun _ _ _ => none
theorem noE_ok {P : Program} : CallOK P noE := fun _ _ _ _ _ h => by cases h
/-- A function that touches no entry. -/
def purE (g0 : FuncId) (f : List AV → Option AV) : ECall := fun g args σ => if Nat.beq g g0 = true then (match σ with
  | [] => (match f args with | some r => some (r, []) | none => none)
  | _ => none) else none
theorem purE_ok {P : Program} {g0 : FuncId} {f : List AV → Option AV} (h : ∀ args r, f args = some r → PCalls P g0 args fun r' => r' = r) : CallOK P (purE g0 f) := by
  intro g args σ r σ' e
  unfold purE at e
  split at e
  · rename_i hg
    have hg' : g = g0 := by simpa using hg
    subst hg'
    cases σ with
    | nil =>
      simp only at e
      split at e
      · rename_i r1 hr
        cases e
        exact ACalls.mono (h _ _ hr) fun _ _ h => ⟨h.2, h.1⟩
      · cases e
    | cons x l => cases e
  · cases e
/-- A fact. -/
def facE (g0 : FuncId) (args0 : List AV) (r0 : AV) : ECall := purE g0 fun args => if listEq (avEq 20) args args0 = true then some r0 else none
theorem facE_ok {P : Program} {g0 : FuncId} {args0 : List AV} {r0 : AV} (h : PCalls P g0 args0 fun r => r = r0) : CallOK P (facE g0 args0 r0) := by
  refine purE_ok fun args r e => ?_
  split at e
  · rename_i hl
    cases e
    rw [listEq_ok (avEq_ok 20) _ _ hl]
    exact h
  · cases e
/-- What the evaluator tells of a call that touches no entry. -/
theorem ev_pure {P : Program} {call : ECall} (h : CallOK P call) {g : FuncId} {args : List AV} {r : AV} (e : call g args [] = some (r, [])) : PCalls P g args fun r' => r' = r :=
  ACalls.mono (h _ _ _ _ _ e) fun _ _ h => ⟨h.2, h.1⟩
end Go.Abs
end
section
namespace Go.Abs
open Go.RowKit Go.Proofs Go.Shelf
variable {G : Globs}
section
variable {P : Program} {ρ : Ren} {σ : Store}
theorem vrl_one {κ : Key} {Im : Addr → Prop} {w : World} {a : AV} {vs : List Value} (h : VRL κ Im w [a] vs) : ∃ v, vs = [v] ∧ VR κ Im w a v := by
  match vs, h.1 with
  | [v], _ => exact ⟨v, rfl, h.2 0 (by simp) (by simp)⟩
theorem vrl_two {κ : Key} {Im : Addr → Prop} {w : World} {a b : AV} {vs : List Value} (h : VRL κ Im w [a, b] vs) : ∃ u v, vs = [u, v] ∧ VR κ Im w a u ∧ VR κ Im w b v := by
  match vs, h.1 with
  | [u, v], _ => exact ⟨u, v, rfl, h.2 0 (by simp) (by simp), h.2 1 (by simp) (by simp)⟩
/-- A variable's first cell is laid anew. -/
theorem set_first {base : Nat} {κ : Key} {Im : Addr → Prop} {w : World} {id b : Nat} {t : TypeId} {a a' : AV} {rest : List AV} {v : Value} (hs : SRel base κ Im σ w) (hent : σ[id]? = some (.var t (a :: rest))) (hk : κ id 0 = some (.pointer (some ⟨b, 0, none⟩))) (hv : VR κ Im w a' v) (h1 : a'.one = true) :
    SRel base κ Im (σ.set id (.var t (a' :: rest))) (w.setCell ⟨b, 0, none⟩ v) ∧ Grow base κ Im w κ Im (w.setCell ⟨b, 0, none⟩ v) := by
  obtain ⟨b', cs, hk', hbase, hheap, hvr, hones, him⟩ := hs.ent _ _ hent
  rw [hk] at hk'; cases hk'
  have hpos : 0 < cs.size := by have := hvr.1; simp at this; omega
  have g1 := heap_setCell_same w b 0 cs t v hheap
  have g3 : ∀ k, k ≠ b → (w.setCell ⟨b, 0, none⟩ v).heap[k]? = w.heap[k]? := fun k hk => heap_setCell_other w ⟨b, 0, none⟩ k v hk
  have hcell : ∀ ad, Im ad → (w.setCell ⟨b, 0, none⟩ v).cell? ad = w.cell? ad := fun ad hi => World.cell?_of_block (g3 _ (him ad hi))
  have hsz : (w.setCell ⟨b, 0, none⟩ v).heap.size = w.heap.size := by simp [World.setCell]
  refine ⟨hs.set hent _ (fun _ _ _ h => h) (fun _ _ _ h => .inl h) (Nat.le_refl _) (fun _ h => h) hcell (fun _ h => .inl h) (by omega) (fun k _ hk' => g3 k (fun he => hk' (by rw [he]; simp [Entry.block, hk]))) ?_ (fun b' hb' => .inr (by simpa [Entry.block] using hb')), ⟨fun _ _ _ h => h, fun _ h => h, hcell, fun _ h => .inl h, ⟨rfl, rfl, rfl, by omega, fun k hk' => g3 k (by omega)⟩⟩⟩
  refine ⟨b, _, hk, hbase, g1, ?_, fun c hc => ?_, him⟩
  · rw [Array.toList_setIfInBounds]
    refine ⟨by simpa using hvr.1, fun j hj hj' => ?_⟩
    cases j with
    | zero => simpa using hv.mono (fun _ _ _ h => h) (fun _ h => h) hcell
    | succ j =>
      have hj1 : j + 1 < cs.toList.length := by simpa using hj'
      have := (hvr.2 (j + 1) (by simpa using hj) hj1).mono (fun _ _ _ h => h) (fun _ h => h) hcell
      simpa [List.getElem_set] using this
  · rcases List.mem_cons.1 hc with rfl | hc
    · exact h1
    · exact hones c (by simp [hc])
/-- (*strings.Builder).copyCheck. -/
theorem copyCheck_ok (L : Lays.n240 P ρ) (X : Builder.X72 P ρ) {id : Nat} {a buf : AV} (ha : a = .nilp ∨ a = .ptr id 0) (hent : σ[id]? = some (.var (ρ.t 72) [a, buf])) :
    ACalls P (ρ.f 240) [.ptr id 0] σ (fun r σ' => r = .tup [] ∧ σ' = σ.set id (.var (ρ.t 72) [.ptr id 0, buf])) := by
  intro base κ Im w vs hs hv
  obtain ⟨v, rfl, hx⟩ := vrl_one hv
  obtain ⟨b, rfl, hk⟩ := hx.ptr_inv
  obtain ⟨b', cs, hk', hbase, hheap, hvr, hones, him⟩ := hs.ent _ _ hent
  rw [hk] at hk'; cases hk'
  obtain ⟨p, q, hpq, hp, hq⟩ := vrl_two hvr
  have hcs : cs = #[p, q] := list_array2 hpq
  subst hcs
  have hsh : w.shape? b = some (ρ.t 72, 2) := by simp [World.shape?, hheap]
  have hc0 : w.cell? ⟨b, 0, none⟩ = some p := by rw [cell_of_row w b 0 _ _ _ hheap]; rfl
  have hfz : w.frozen? ⟨b, 0, none⟩ = false := by simp [World.frozen?, hheap]
  have hself : VR κ Im w (.ptr id 0) (.pointer (some ⟨b, 0, none⟩)) := .ptr id 0 b hk
  rcases ha with rfl | rfl
  · have : p = .pointer none := by cases hp with | im _ _ h => cases h; rfl
    subst this
    refine (Any.Builder_copyCheck_fresh L X b w hc0 hsh hfz).mono ?_
    rintro e w' ⟨rfl, rfl⟩
    obtain ⟨h1, h2⟩ := set_first hs hent hk hself rfl
    exact ⟨_, _, _, κ, Im, rfl, ⟨rfl, rfl⟩, h1, h2, .im _ _ (.tup [] [] rfl (fun j h => by simp at h))⟩
  · obtain ⟨b2, h2, hk2⟩ := hp.ptr_inv
    rw [hk] at hk2; cases hk2
    subst h2
    refine (Any.Builder_copyCheck_used L X b w hc0).mono ?_
    rintro e w' ⟨rfl, rfl⟩
    have hset : σ.set id (.var (ρ.t 72) [.ptr id 0, buf]) = σ := by
      obtain ⟨hlt, he⟩ := List.getElem?_eq_some_iff.1 hent
      rw [← he, List.set_getElem_self]
    exact ⟨_, σ, _, κ, Im, rfl, ⟨rfl, hset.symm⟩, hs, Grow.refl _ _ _ _, .im _ _ (.tup [] [] rfl (fun j h => by simp at h))⟩
set_option maxHeartbeats 1000000 in
set_option maxRecDepth 100000 in
/-- (*strings.Builder).String, of a builder that holds bytes: what is left frozen, and nothing else. -/
theorem string_run (L : Lays.n169 P ρ) (X : Builder.Extra P ρ) {b g cap : Nat} {cs cur : Array Value} (l : List UInt8) (w : World) (hb : w.heap[b]? = some (.cells cs (ρ.t 72) (0, 0))) (h1 : w.cell? ⟨b, 1, none⟩ = some (.slice (some ⟨g, 0, none⟩) l.length cap))
    (hg : w.heap[g]? = some (.cells cur (ρ.t 5) (0, 0))) (hc : cur.size = cap) (hle : l.length ≤ cap) (hmax : cap ≤ maxLen) (hbytes : ∀ j x, l[j]? = some x → w.cell? ⟨g, j, none⟩ = some (.int .u8 x.toNat)) (h0 : l ≠ []) :
    Calls P (ρ.f 169) #[.pointer (some ⟨b, 0, none⟩)] w fun e w' => e = .returned (.string ⟨l.toArray⟩) ∧ w' = w.drew.freeze ⟨g, 0, none⟩ l.length := by
  have hl0 : l.length ≠ 0 := by simpa using h0
  have c1 : w.drew.cell? ⟨b, 1, none⟩ = some (.slice (some ⟨g, 0, none⟩) l.length cap) := h1
  have hSD : (Builtin.unsafeSliceData_ #[(ρ.t 37)] (ρ.t 127) #[.slice (some ⟨g, 0, none⟩) l.length cap]).run P w.drew = .ok (.pointer (some ⟨g, 0, none⟩)) w.drew :=
    Lib.run_unsafeSliceData_row _ _ _ _ _ _ (by omega)
  have hUS : (Builtin.unsafeString_ #[(ρ.t 127), (ρ.t 3)] (ρ.t 9) #[.pointer (some ⟨g, 0, none⟩), .int .i64 l.length]).run P w.drew = .ok (.string ⟨l.toArray⟩) (w.drew.freeze ⟨g, 0, none⟩ l.length) := by
    refine Lib.run_unsafeString_row w.drew (ρ.t 127) (ρ.t 3) (ρ.t 9) (ρ.t 5) L.t127 X.cellsByte g cur.size (by have hg' : w.drew.heap[g]? = some (.cells cur (ρ.t 5) (0, 0)) := hg; simp [World.shape?, hg']) l h0 (by omega) (by unfold maxLen at hmax; omega) ?_
    intro j x hx
    have := hbytes j x hx
    rw [Addr.add_mid, Nat.zero_add]
    exact this
  have mixed := L.mixed
  have t72 := L.t72; have a72 := L.a72; have z72 := L.z72; have v72 := L.v72; have u72 := run_underlying L.t72
  have t70 := L.t70; have a70 := L.a70; have z70 := L.z70; have v70 := L.v70; have u70 := run_underlying L.t70
  have t37 := L.t37; have a37 := L.a37; have z37 := L.z37; have v37 := L.v37; have u37 := run_underlying L.t37
  have t127 := L.t127; have a127 := L.a127; have z127 := L.z127; have v127 := L.v127; have u127 := run_underlying L.t127
  have t3 := L.t3; have a3 := L.a3; have z3 := L.z3; have v3 := L.v3; have u3 := run_underlying L.t3
  have t9 := L.t9; have a9 := L.a9; have z9 := L.z9; have v9 := L.v9; have u9 := run_underlying L.t9
  have t5 := X.t5; have a5 := X.a5; have z5 := X.z5; have v5 := X.v5; have u5 := run_underlying X.t5
  go_enter L.f169, Body.n169_ntmps ρ
  go_wp2
  go_region_o
  all_goals (go_wp2; go_ret; exact ⟨rfl, rfl⟩)
theorem freeze_heap {w : World} {g n : Nat} {cur : Array Value} {e : TypeId} (hg : w.heap[g]? = some (.cells cur e (0, 0))) (hn : n ≠ 0) :
    (w.freeze ⟨g, 0, none⟩ n).heap[g]? = some (.cells cur e (0, n)) ∧ (∀ k, k ≠ g → (w.freeze ⟨g, 0, none⟩ n).heap[k]? = w.heap[k]?) ∧ (w.freeze ⟨g, 0, none⟩ n).heap.size = w.heap.size := by
  have hlt := (Array.getElem?_eq_some_iff.1 hg).1
  simp only [World.freeze, hn, if_false]
  refine ⟨?_, fun k hk => ?_, by simp⟩
  · rw [Array.getElem?_modify]; simp [hg]
  · rw [Array.getElem?_modify, if_neg (Ne.symm hk)]
end
end Go.Abs
end
section
namespace Go.Abs
open Go.RowKit Go.Proofs Go.Shelf
variable {G : Globs}
section
variable {P : Program} {ρ : Ren} {σ : Store}
/-- (*strings.Builder).String. -/
theorem string_ex (L : Lays.n169 P ρ) (X : Builder.Extra P ρ) {rid id : Nat} {a : AV} {bs : List UInt8} (hent : σ[id]? = some (.var (ρ.t 72) [a, .row rid bs.length])) (hnz : bs ≠ []) (hrow : σ[rid]? = some (.row (ρ.t 5) 1 (byteEls bs) true)) :
    ACalls P (ρ.f 169) [.ptr id 0] σ (fun r σ' => r = .str bs ∧ σ' = σ.set rid (.dead bs.length)) := by
  intro base κ Im w vs hs hv
  obtain ⟨v, rfl, hx⟩ := vrl_one hv
  obtain ⟨b, rfl, hk⟩ := hx.ptr_inv
  obtain ⟨b', cs, hk', hbase, hheap, hvr, hones, him⟩ := hs.ent _ _ hent
  rw [hk] at hk'; cases hk'
  obtain ⟨p, q, hpq, hp, hq⟩ := vrl_two hvr
  have hcs : cs = #[p, q] := list_array2 hpq
  subst hcs
  have hc1 : w.cell? ⟨b, 1, none⟩ = some q := by rw [cell_of_row w b 1 _ _ _ hheap]; rfl
  have hdrew : Grow base κ Im w κ Im w.drew := ⟨fun _ _ _ h => h, fun _ h => h, fun _ _ => rfl, fun _ h => .inl h, ⟨rfl, rfl, rfl, Nat.le_refl _, fun _ _ => rfl⟩⟩
  have hsd : SRel base κ Im σ w.drew := hs.world (fun _ h => h) (fun _ h => .inl h) (Nat.le_refl _) (fun _ _ => rfl)
  obtain ⟨v0, xs, hv0, hown, hvr2, hpos2, hlens, hones2, hir, him2⟩ := hs.ent _ _ hrow
  have hbl : (byteEls bs).length = bs.length := by simp [byteEls]
  have hl0 : bs.length ≠ 0 := by simpa using hnz
  obtain ⟨g0, cap, rfl, hk2⟩ := hq.row_inv
  rw [hbl] at hv0 hown
  rw [hk2] at hv0; cases hv0
  obtain ⟨g, cur, rfl, hbg, hg, hnc, hcm, hcs, htake⟩ : ∃ g cur, g0 = some ⟨g, 0, none⟩ ∧ base ≤ g ∧ w.heap[g]? = some (.cells cur (ρ.t 5) (0, 0)) ∧ bs.length ≤ cap ∧ cap ≤ maxLen ∧ cur.size = cap * 1 ∧ cur.toList.take (bs.length * 1) = xs := by
    rcases hown.2 with ⟨_, hz⟩ | ⟨g, cap', cur, hv, r1, r2, r3, r4, r5, r6⟩
    · exact absurd hz hl0
    · simp only [Value.slice.injEq] at hv
      obtain ⟨rfl, _, rfl⟩ := hv
      exact ⟨g, cur, rfl, r1, r2, r3, r4, r5, r6⟩
  have hxs : xs = Lib.strCells ⟨bs.toArray⟩ := by
    have h1 := byteEls_ir (Im := Im) (w := w) bs
    have h2 := hir rfl
    refine List.ext_getElem (by rw [← h2.1, h1.1]) fun j hj hj' => ?_
    have q1 := h1.2 j (by rw [h1.1]; exact hj') hj'
    have q2 := h2.2 j (by rw [h2.1]; exact hj) hj
    simp only [byteEls_flat, List.getElem_map] at q1 q2
    have e1 := (VR.im (κ := κ) _ _ q1).int_inv
    have e2 := (VR.im (κ := κ) _ _ q2).int_inv
    rw [e1, e2]
  have hbytes : ∀ j x, bs[j]? = some x → w.cell? ⟨g, j, none⟩ = some (.int .u8 x.toNat) := by
    intro j x hx
    have := hown.cells (g := g) rfl j (.int .u8 x.toNat) (by rw [hxs]; simp [Lib.strCells, hx])
    rwa [Addr.add_mid, Nat.zero_add] at this
  refine (string_run L X bs w hheap hc1 hg (by omega) hnc hcm hbytes hnz).mono ?_
  rintro e w' ⟨rfl, rfl⟩
  have hg' : w.drew.heap[g]? = some (.cells cur (ρ.t 5) (0, 0)) := hg
  obtain ⟨f1, f2, f3⟩ := freeze_heap hg' hl0
  have hcell : ∀ a, Im a → (w.drew.freeze ⟨g, 0, none⟩ bs.length).cell? a = w.cell? a := by
    intro a ha
    by_cases hab : a.block = g
    · have hsp := (hs.imlt a ha).2
      have had : a = ⟨g, a.off, none⟩ := by cases a; simp_all
      rw [had, cell_of_row _ g a.off _ _ _ f1, cell_of_row w g a.off _ _ _ hg]
    · exact World.cell?_of_block (f2 _ hab)
  have hblk : (Entry.row (ρ.t 5) 1 (byteEls bs) true).block κ rid = some g := by simp [Entry.block, hbl, hk2, Value.ownBlock]
  have hfz : ∀ (a : Addr) (n : Nat) (w : World), (w.freeze a n).os = w.os ∧ (w.freeze a n).tape = w.tape ∧ (w.freeze a n).output = w.output := by
    intro a n w
    unfold World.freeze
    split <;> exact ⟨rfl, rfl, rfl⟩
  obtain ⟨z1, z2, z3⟩ := hfz ⟨g, 0, none⟩ bs.length w.drew
  refine ⟨.str bs, σ.set rid (.dead bs.length), _, κ, Im, rfl, ⟨rfl, rfl⟩, ?_, ⟨fun _ _ _ h => h, fun _ h => h, hcell, fun _ h => .inl h, ⟨z1, z2, z3, by rw [f3]; exact Nat.le_refl _, fun k hk' => f2 k (by omega)⟩⟩, .im _ _ (.str bs)⟩
  · exact hs.set hrow (.dead bs.length) (fun _ _ _ h => h) (fun _ _ _ h => .inl h) (by simp [Entry.ver, hbl]) (fun _ h => h) hcell (fun _ h => .inl h) (by rw [f3]; exact Nat.le_refl _) (fun k _ hk' => f2 k (fun he => hk' (by rw [he]; exact hblk))) trivial (fun b' hb' => by simp [Entry.block] at hb')
end
end Go.Abs
end
section
namespace Go.Joi
def sum (m : List (List UInt8)) : Nat := (m.map List.length).sum
end Go.Joi
namespace Go.Abs
def txt1 (l : List (List UInt8)) : List (List AV) := l.map fun s => [.str s]
end Go.Abs
namespace Go.Proofs.YtigkchpjpdbodaaGreatDoor
open Go.Abs
variable {G : Globs}
theorem join1_ok (c : UInt8) (l : List (List UInt8)) (hl : (Lib.join l [c]).length ≤ 140737488355328) (hk : l.length ≤ 140737488355328) : PCalls Tryz.prog 48 [.lst (txt1 l), .str [c]] (fun r => r = .str (Lib.join l [c])) := by
  intro base κ Im w vs hs hv
  obtain ⟨v0, v1, rfl⟩ : ∃ v0 v1, vs = [v0, v1] := by
    match vs, hv.1 with
    | [a, b], _ => exact ⟨a, b, rfl⟩
  have e0 := (hv.2 0 (by simp) (by simp)).lst_inv
  have e1 := (hv.2 1 (by simp) (by simp)).str_inv
  simp only [List.getElem_cons_zero, List.getElem_cons_succ] at e0 e1
  subst e1
  have hel : (txt1 l).length = l.length := by simp [txt1]
  rcases e0 with ⟨⟨g, rfl⟩, h0⟩ | ⟨size, b, o, cap, vals, rfl, h1, h2, h3, h4, h5, h6⟩
  · have hl0 : l = [] := by simpa [txt1] using h0
    subst hl0
    refine (Tryz.strings_Join_none g 0 ⟨#[c]⟩ w).mono ?_
    rintro e w' ⟨rfl, rfl⟩
    exact ⟨_, [], _, κ, Im, rfl, ⟨rfl, rfl⟩, hs, Grow.refl _ _ _ _, .im _ _ (.str [])⟩
  · cases hln : l with
    | nil =>
      subst hln
      refine (Tryz.strings_Join_none _ cap ⟨#[c]⟩ w).mono ?_
      rintro e w' ⟨rfl, rfl⟩
      exact ⟨_, [], _, κ, Im, rfl, ⟨rfl, rfl⟩, hs, Grow.refl _ _ _ _, .im _ _ (.str [])⟩
    | cons p0 ps0 =>
      have hpos : 0 < l.length := by simp [hln]
      rw [← hln]
      have hsz : size = 1 := by
        have := h3 [.str p0] (by simp [txt1, hln])
        simpa using this.symm
      subst hsz
      rw [hel] at h1 h5
      have hval : ∀ k (hk : k < l.length), vals k 0 = .string ⟨(l[k]).toArray⟩ := fun k hk => by
        have := h6 k 0 (by simpa [txt1] using hk) (by simp [txt1])
        simp only [txt1, List.getElem_map, List.getElem_cons_zero] at this
        generalize vals k 0 = v at this ⊢
        cases this; rfl
      have hcell := fun k (hk : k < l.length) => h5 k 0 hk (by omega)
      have hbk : b < w.heap.size := (hs.imlt _ (hcell 0 hpos).1).1
      have hdat : (l.map fun s => (⟨s.toArray⟩ : ByteArray)).map (·.data.toList) = l := by simp [List.map_map, Function.comp_def]
      have hj : Lib.join ((l.map fun s => (⟨s.toArray⟩ : ByteArray)).map (·.data.toList)) (⟨#[c]⟩ : ByteArray).data.toList = Lib.join l [c] := by rw [hdat]
      have := Tryz.strings_Join b o cap (l.map fun s => (⟨s.toArray⟩ : ByteArray)) ⟨#[c]⟩ w (fun j x hx => by
          simp only [List.getElem?_map, Option.map_eq_some_iff] at hx
          obtain ⟨s, hs', rfl⟩ := hx
          obtain ⟨hj1, rfl⟩ := List.getElem?_eq_some_iff.1 hs'
          have := (hcell j hj1).2
          rw [hval j hj1] at this
          simpa using this) hbk (by simpa using hk) (by simpa using h1) (by rw [hj]; exact hl)
      rw [hj] at this
      simp only [List.length_map] at this
      rw [hel]
      refine this.mono ?_
      rintro e w' ⟨rfl, hb⟩
      obtain ⟨g1, g2⟩ := srel_grow hs hb
      exact ⟨_, [], _, κ, Im, rfl, ⟨rfl, rfl⟩, g1, g2, .im _ _ (.str (Lib.join l [c]))⟩
end Go.Proofs.YtigkchpjpdbodaaGreatDoor
end
section
namespace Go.Glob
/-- A name byte. -/
def nb (c : UInt8) : Bool := (97 ≤ c && c ≤ 122) || (65 ≤ c && c ≤ 90) || (48 ≤ c && c ≤ 57) || [95, 45, 58, 37, 35, 64, 43, 61].contains c
/-- A dash and a name byte behind it. -/
def rng : List UInt8 → Option (UInt8 × List UInt8)
  | d :: h :: s => if d = 45 ∧ nb h = true then some (h, s) else none
  | _ => none
/-- A class, behind its bracket: its ranges, and what stands behind it. -/
def cls : Nat → Bool → List UInt8 → Option (List (UInt8 × UInt8) × List UInt8)
  | 0, _, _ => none
  | _ + 1, _, [] => none
  | n + 1, ne, c :: s =>
    if c = 93 ∧ ne = true then some ([], s)
    else if nb c = false then none
    else match rng s with
      | some (h, s') => if h < c then none else (cls n true s').map fun x => ((c, h) :: x.1, x.2)
      | none => (cls n true s).map fun x => ((c, c) :: x.1, x.2)
inductive Pc where
  | lit (c : UInt8)
  | q
  | star
  | cls (rs : List (UInt8 × UInt8)) (text : List UInt8)
  | br (as_ : List (List Pc))
def stop (c : UInt8) : Bool := c = 44 || c = 125
mutual
/-- Pieces, up to a comma, a brace that shuts, or the end: the pieces, what stands behind them, how deep braces stand in them. -/
def pcs : Nat → List UInt8 → Option (List Pc × List UInt8 × Nat)
  | 0, _ => none
  | _ + 1, [] => some ([], [], 0)
  | n + 1, c :: s =>
    if c = 44 ∨ c = 125 then some ([], c :: s, 0)
    else if c = 63 then (pcs n s).map fun x => (.q :: x.1, x.2)
    else if c = 42 then (pcs n s).map fun x => (.star :: x.1, x.2)
    else if c = 91 then (cls n false s).bind fun x => (pcs n x.2).map fun y => (.cls x.1 ((c :: s).take (s.length + 1 - x.2.length)) :: y.1, y.2)
    else if c = 123 then (alts n s).bind fun x => (pcs n x.2.1).map fun y => (.br x.1 :: y.1, y.2.1, max (x.2.2 + 1) y.2.2)
    else if nb c = true then (pcs n s).map fun x => (.lit c :: x.1, x.2)
    else none
/-- Alternatives, behind their brace. -/
def alts : Nat → List UInt8 → Option (List (List Pc) × List UInt8 × Nat)
  | 0, _ => none
  | n + 1, s => (pcs n s).bind fun x => match x.2.1 with
    | [] => none
    | c :: r => if c = 125 then some ([x.1], r, x.2.2) else (alts n r).map fun y => (x.1 :: y.1, y.2.1, max x.2.2 y.2.2)
end
mutual
/-- How many patterns pieces come to, 65 at most. -/
def cnt : Nat → List Pc → Nat
  | n, [] => n
  | n, .br as_ :: l => cnt (min 65 (n * cntA 0 as_)) l
  | n, .lit _ :: l => cnt n l
  | n, .q :: l => cnt n l
  | n, .star :: l => cnt n l
  | n, .cls _ _ :: l => cnt n l
def cntA : Nat → List (List Pc) → Nat
  | n, [] => n
  | n, a :: as_ => cntA (min 65 (n + cnt 1 a)) as_
end
def Pc.text : Pc → List UInt8
  | .lit c => [c]
  | .q => [63]
  | .star => [42]
  | .cls _ t => t
  | .br _ => []
def texts (l : List Pc) : List UInt8 := l.flatMap Pc.text
/-- Does a piece fit a byte? -/
def Pc.one : Pc → UInt8 → Bool
  | .q, _ => true
  | .lit l, c => decide (l = c)
  | .cls rs _, c => rs.any fun r => r.1 ≤ c && c ≤ r.2
  | .star, _ => false
  | .br _, _ => false
def tls {α : Type} : List α → List (List α)
  | [] => [[]]
  | a :: s => (a :: s) :: tls s
/-- Do pieces fit a name? -/
def mt : List Pc → List UInt8 → Bool
  | [], s => s.isEmpty
  | .star :: l, s => (tls s).any (mt l)
  | .lit _ :: _, [] => false
  | .q :: _, [] => false
  | .cls _ _ :: _, [] => false
  | .br _ :: _, [] => false
  | .lit p :: l, c :: s => (Pc.lit p).one c && mt l s
  | .q :: l, c :: s => Pc.q.one c && mt l s
  | .cls r t :: l, c :: s => (Pc.cls r t).one c && mt l s
  | .br a :: l, c :: s => (Pc.br a).one c && mt l s
/-- A pattern's pieces, or an error. -/
def parse (s : List UInt8) : Except Nat (List Pc) :=
  if 128 < s.length then .error 12
  else match pcs (2 * s.length + 2) s with
    | some (l, r, d) => if s = [] ∨ r ≠ [] then .error 10 else if 4 < d then .error 19 else if 64 < cnt 1 l then .error 11 else .ok l
    | none => .error 10
end Go.Glob
end
section
namespace Go.Dec
def isD (c : UInt8) : Bool := 48 ≤ c && c ≤ 57
def dig (c : UInt8) : Nat := c.toNat - 48
def dval (n : Nat) (l : List UInt8) : Nat := l.foldl (fun n c => n * 10 + dig c) n
theorem dval_nil (n : Nat) : dval n [] = n := rfl
theorem dval_cons (n : Nat) (c : UInt8) (l : List UInt8) : dval n (c :: l) = dval (n * 10 + dig c) l := by unfold dval; rw [List.foldl_cons]
theorem dval_append (l m : List UInt8) (n : Nat) : dval n (l ++ m) = dval (dval n l) m := by unfold dval; rw [List.foldl_append]
theorem dval_ge : ∀ (l : List UInt8) (n : Nat), n * 10 ^ l.length ≤ dval n l
  | [], n => by simp [dval_nil]
  | c :: l, n => by
    have := dval_ge l (n * 10 + dig c)
    simp only [dval_cons, List.length_cons, Nat.pow_succ]
    refine Nat.le_trans ?_ this
    rw [show n * (10 ^ l.length * 10) = (n * 10) * 10 ^ l.length by rw [Nat.mul_assoc, Nat.mul_comm 10]]
    exact Nat.mul_le_mul_right _ (by omega)
theorem isD_iff (c : UInt8) : isD c = true ↔ 48 ≤ c.toNat ∧ c.toNat ≤ 57 := by
  simp [isD, UInt8.le_iff_toNat_le]
/-- The last part's six digits. -/
def pad (part : List UInt8) : List UInt8 := (part ++ [48, 48, 48, 48, 48, 48]).take 6
/-- Is the seventh digit five or more? -/
def upB (part : List UInt8) : Bool := match part[6]? with
  | some c => decide (53 ≤ c)
  | none => false
/-- A text's parts: the digits ahead of the point, and behind it; none: it is no number's text. -/
def parts (s : List UInt8) : Option (List UInt8 × List UInt8) :=
  let w := s.takeWhile isD
  match s.dropWhile isD with
  | [] => if w = [] then none else some (w, [])
  | c :: t => if c = 46 ∧ t.dropWhile isD = [] ∧ w ++ t ≠ [] then some (w, t) else none
def unsign (s : List UInt8) : List UInt8 := match s with
  | c :: t => if c = 45 ∨ c = 43 then t else s
  | [] => []
def below (s : List UInt8) : Bool := match s with
  | c :: _ => decide (c = 45)
  | [] => false
/-- A number's text: the number of millionths, or an error. -/
def parse (s : List UInt8) : Except Nat Int :=
  if 64 < s.length then .error 12
  else match parts (unsign s) with
    | none => .error 2
    | some (w, p) =>
      let n := dval 0 (w ++ pad p) + (if upB p then 1 else 0)
      if 9223372036854775807 < n then .error 3 else .ok (if below s then -(n : Int) else n)
theorem parseUintM_digits (M : Nat) (hM : M < 18446744073709551616) : ∀ (l : List UInt8) (acc : Nat), l.all isD = true → acc ≤ M → Lib.parseUintM M acc l = if dval acc l ≤ M then .ok (dval acc l) else .range
  | [], acc, _, h => by simp [Lib.parseUintM, dval_nil, h]
  | c :: l, acc, hl, h => by
    simp only [List.all_cons, Bool.and_eq_true] at hl
    have hc := (isD_iff c).1 hl.1
    have hge := dval_ge l (acc * 10 + dig c)
    have h10 : 1 ≤ 10 ^ l.length := Nat.pos_of_ne_zero (by simp)
    have hge' : acc * 10 + dig c ≤ dval (acc * 10 + dig c) l := Nat.le_trans (Nat.le_mul_of_pos_right _ h10) hge
    rw [dval_cons]
    simp only [Lib.parseUintM, if_pos hc]
    split
    · rename_i hov
      rw [if_neg (by omega)]
    · split
      · rename_i h1 h2
        have : dig c = c.toNat - 48 := rfl
        rw [if_neg (by omega)]
      · rename_i h1 h2
        exact parseUintM_digits M hM l _ hl.2 (by have : dig c = c.toNat - 48 := rfl; omega)
theorem parseIntB_digits {l : List UInt8} (hl : l.all isD = true) (hne : l ≠ []) : Lib.parseIntB 64 l = if dval 0 l ≤ 9223372036854775807 then .ok (dval 0 l) else .range := by
  match l, hne with
  | c :: r, _ =>
    have hc : 48 ≤ c.toNat ∧ c.toNat ≤ 57 := (isD_iff c).1 (by simp only [List.all_cons, Bool.and_eq_true] at hl; exact hl.1)
    have h1 : ¬ (c.toNat = 43 ∨ c.toNat = 45) := by omega
    have h2 : ¬ c.toNat = 45 := by omega
    simp only [Lib.parseIntB, if_neg h1, Lib.parseUintB]
    rw [if_neg (by simp), parseUintM_digits _ (by decide) _ _ hl (by omega)]
    by_cases hx : dval 0 (c :: r) ≤ 2 ^ 64 - 1
    · rw [if_pos hx]
      by_cases hy : dval 0 (c :: r) ≤ 9223372036854775807
      · simp [h2, hy]; omega
      · simp [h2, hy]; omega
    · rw [if_neg hx]
      have : ¬ dval 0 (c :: r) ≤ 9223372036854775807 := by
        have e : (2 : Nat) ^ 64 - 1 = 18446744073709551615 := by decide
        omega
      simp [this]
end Go.Dec
end
section
namespace Go.Tok
open Go.Glob
/-- A byte that may not stand within brackets. -/
def bstop (c : UInt8) : Bool := c == 39 || c == 34 || c == 32 || c == 40 || c == 41
/-- How many bytes up to and with the ] that shuts a class. -/
def clsN : List UInt8 → Option Nat
  | [] => none
  | c :: r => if bstop c then none else if c = 93 then some 1 else (clsN r).map (· + 1)
def deeper (d : Nat) (c : UInt8) : Nat := if c = 123 then d + 1 else if c = 125 then d - 1 else d
/-- How many bytes up to and with the } that shuts the braces. -/
def brcN : Nat → List UInt8 → Option Nat
  | _, [] => none
  | d, c :: r => if bstop c then none else if deeper d c = 0 then some 1 else (brcN (deeper d c) r).map (· + 1)
def bword (c : UInt8) : Bool := nb c || c == 46 || c == 63 || c == 42
/-- How many bword bytes stand ahead; none: something isn't shut. -/
def rowF : Nat → List UInt8 → Option Nat
  | 0, _ => some 0
  | _ + 1, [] => some 0
  | n + 1, c :: r =>
    if bword c then (rowF n r).map (· + 1)
    else if c = 91 then (clsN (c :: r)).bind fun k => (rowF n ((c :: r).drop k)).map (· + k)
    else if c = 123 then (brcN 0 (c :: r)).bind fun k => (rowF n ((c :: r).drop k)).map (· + k)
    else some 0
structure Tk where
  kind : Int
  text : List UInt8
  place : Nat
def isNum (t : List UInt8) : Bool := match Dec.parse t with | .ok _ => true | .error _ => false
/-- The token that stands ahead: its kind, its text, how many bytes. -/
def nextT : List UInt8 → Option (Int × List UInt8 × Nat)
  | [] => none
  | c :: r =>
    if c = 40 then some (4, [], 1) else if c = 41 then some (5, [], 1) else if c = 44 then some (6, [], 1)
    else if c = 39 ∨ c = 34 then (if Lib.indexByte r c < 0 then none else some (3, r.take (Lib.indexByte r c).toNat, (Lib.indexByte r c).toNat + 2))
    else match rowF (r.length + 1) (c :: r) with
      | none => none
      | some 0 => none
      | some (k + 1) => some (if isNum ((c :: r).take (k + 1)) then 2 else 1, (c :: r).take (k + 1), k + 1)
def splitF : Nat → Nat → List UInt8 → Option (List Tk)
  | _, _, [] => some []
  | 0, _, _ => some []
  | n + 1, a, c :: r =>
    if c = 32 then splitF n (a + 1) r else (nextT (c :: r)).bind fun x => (splitF n (a + x.2.2) ((c :: r).drop x.2.2)).map (⟨x.1, x.2.1, a⟩ :: ·)
/-- A target's tokens, or an error. -/
def split (s : List UInt8) : Except Nat (List Tk) :=
  if 1024 < s.length then .error 12 else match splitF s.length 0 s with
    | none => .error 16
    | some l => if 256 < l.length then .error 11 else .ok l
theorem clsN_le : ∀ (s : List UInt8) (k : Nat), clsN s = some k → 1 ≤ k ∧ k ≤ s.length
  | [], k, h => by simp [clsN] at h
  | c :: r, k, h => by
    unfold clsN at h
    split at h
    · cases h
    · split at h
      · cases h; simp
      · cases hr : clsN r with
        | none => rw [hr] at h; cases h
        | some j =>
          rw [hr] at h; cases h
          have := clsN_le r j hr
          simp; omega
theorem brcN_le : ∀ (s : List UInt8) (d k : Nat), brcN d s = some k → 1 ≤ k ∧ k ≤ s.length
  | [], d, k, h => by simp [brcN] at h
  | c :: r, d, k, h => by
    unfold brcN at h
    split at h
    · cases h
    · split at h
      · cases h; simp
      · cases hr : brcN (deeper d c) r with
        | none => rw [hr] at h; cases h
        | some j =>
          rw [hr] at h; cases h
          have := brcN_le r _ j hr
          simp; omega
theorem rowF_le : ∀ (n : Nat) (s : List UInt8) (k : Nat), rowF n s = some k → k ≤ s.length
  | 0, s, k, h => by simp [rowF] at h; omega
  | n + 1, [], k, h => by simp [rowF] at h; omega
  | n + 1, c :: r, k, h => by
    unfold rowF at h
    split at h
    · cases hr : rowF n r with
      | none => rw [hr] at h; cases h
      | some j =>
        rw [hr] at h; cases h
        have := rowF_le n r j hr
        simp; omega
    · split at h
      · cases hc : clsN (c :: r) with
        | none => rw [hc] at h; cases h
        | some a =>
          rw [hc] at h
          simp only [Option.bind_some] at h
          cases hr : rowF n ((c :: r).drop a) with
          | none => rw [hr] at h; cases h
          | some j =>
            rw [hr] at h; cases h
            have h1 := rowF_le n _ j hr
            have h2 := clsN_le _ _ hc
            rw [List.length_drop] at h1
            show j + a ≤ _
            omega
      · split at h
        · cases hc : brcN 0 (c :: r) with
          | none => rw [hc] at h; cases h
          | some a =>
            rw [hc] at h
            simp only [Option.bind_some] at h
            cases hr : rowF n ((c :: r).drop a) with
            | none => rw [hr] at h; cases h
            | some j =>
              rw [hr] at h; cases h
              have h1 := rowF_le n _ j hr
              have h2 := brcN_le _ _ _ hc
              rw [List.length_drop] at h1
              show j + a ≤ _
              omega
        · cases h; simp
theorem idx_mem : ∀ (l : List UInt8) (c : UInt8), 0 ≤ Lib.indexByte l c ↔ c ∈ l
  | [], c => by simp [Lib.indexByte]
  | b :: l, c => by
    have ih := idx_mem l c
    have hge := Lib.indexByte_ge l c
    unfold Lib.indexByte
    by_cases h : b = c
    · simp [h]
    · have h' : (b == c) = false := by simpa using h
      have h2 : ¬ c = b := fun e => h e.symm
      simp only [h', Bool.false_eq_true, if_false, List.mem_cons, h2, false_or]
      rw [← ih]
      by_cases hm : Lib.indexByte l c = -1
      · simp [hm]
      · have hm' : (Lib.indexByte l c == -1) = false := by simpa using hm
        simp only [hm', Bool.false_eq_true, if_false]
        omega
theorem idx_stop (c : UInt8) : (0 ≤ Lib.indexByte [39, 34, 32, 40, 41] c) ↔ bstop c = true := by
  rw [idx_mem]
  simp [bstop, or_assoc]
theorem idx_quote (c : UInt8) : (0 ≤ Lib.indexByte [39, 34] c) ↔ (c = 39 ∨ c = 34) := by
  rw [idx_mem]
  simp
end Go.Tok
end
section
namespace Go.Glob
def Stops (x : List UInt8) : Prop := x = [] ∨ ∃ c t, x = c :: t ∧ (c = 44 ∨ c = 125)
theorem rng_two (d h : UInt8) (t x y : List UInt8) : (rng (d :: h :: t ++ x) = none ↔ rng (d :: h :: t ++ y) = none) := by
  simp only [rng, List.cons_append]
  split <;> simp
theorem cls_one {m : Nat} {d : UInt8} {v : List (UInt8 × UInt8) × List UInt8} (h : cls m true [d] = some v) : d = 93 := by
  cases m with
  | zero => simp [cls] at h
  | succ m =>
    unfold cls at h
    split at h
    · rename_i h1; exact h1.1
    · split at h
      · cases h
      · simp only [rng] at h
        cases m <;> simp [cls] at h
/-- A class is read as_ far as_ it goes. -/
theorem cls_local : ∀ (n : Nat) (ne : Bool) (s : List UInt8) (rs : List (UInt8 × UInt8)) (r : List UInt8), cls n ne s = some (rs, r) →
    ∃ b, s = b ++ r ∧ ∀ m x, n ≤ m ∨ b.length < m → cls m ne (b ++ x) = some (rs, x) := by
  intro n
  induction n with
  | zero => intro ne s rs r h; simp [cls] at h
  | succ n ih =>
    intro ne s rs r h
    cases s with
    | nil => simp [cls] at h
    | cons c s =>
      unfold cls at h
      split at h
      · rename_i h1
        simp only [Option.some.injEq, Prod.mk.injEq] at h
        obtain ⟨rfl, rfl⟩ := h
        refine ⟨[c], rfl, fun m x hm => ?_⟩
        obtain ⟨m, rfl⟩ : ∃ k, m = k + 1 := ⟨m - 1, by simp at hm; omega⟩
        simp [cls, h1]
      · rename_i h1
        split at h
        · cases h
        · rename_i h2
          split at h
          · rename_i hh s' hr
            split at h
            · cases h
            · rename_i h3
              simp only [Option.map_eq_some_iff, Prod.mk.injEq] at h
              obtain ⟨v, hv, rfl, rfl⟩ := h
              obtain ⟨b, rfl, hb⟩ := ih true s' v.1 v.2 hv
              obtain ⟨d, rfl, hd⟩ : ∃ d, s = d :: hh :: (b ++ v.2) ∧ d = 45 ∧ nb hh = true := by
                match s, hr with
                | d :: h' :: t, hr =>
                  simp only [rng] at hr
                  split at hr
                  · rename_i hc; simp only [Option.some.injEq, Prod.mk.injEq] at hr; obtain ⟨rfl, rfl⟩ := hr; exact ⟨d, rfl, hc⟩
                  · cases hr
              refine ⟨c :: d :: hh :: b, by simp, fun m x hm => ?_⟩
              obtain ⟨m, rfl⟩ : ∃ k, m = k + 1 := ⟨m - 1, by simp at hm; omega⟩
              have e := hb m x (by simp at hm; omega)
              simp only [List.cons_append]
              unfold cls
              rw [if_neg h1, if_neg h2]
              simp only [rng, hd, and_self, if_true, if_neg h3, e, Option.map_some]
          · rename_i hr
            simp only [Option.map_eq_some_iff, Prod.mk.injEq] at h
            obtain ⟨v, hv, rfl, rfl⟩ := h
            obtain ⟨b, rfl, hb⟩ := ih true s v.1 v.2 hv
            refine ⟨c :: b, by simp, fun m x hm => ?_⟩
            obtain ⟨m, rfl⟩ : ∃ k, m = k + 1 := ⟨m - 1, by simp at hm; omega⟩
            have e := hb m x (by simp at hm; omega)
            have hrx : rng (b ++ x) = none := by
              match b, hb, hr with
              | [], hb, _ =>
                have := hb 1 [] (.inr (by simp))
                simp [cls] at this
              | [d], hb, _ =>
                have := hb 2 [] (.inr (by simp))
                have := cls_one this
                subst this
                cases x <;> simp [rng]
              | d :: h :: t, hb, hr => exact (rng_two d h t v.2 x).1 hr
            simp only [List.cons_append]
            unfold cls
            rw [if_neg h1, if_neg h2]
            simp only [hrx, e, Option.map_some]
theorem cls_step {m : Nat} {ne : Bool} {c : UInt8} {s : List UInt8} (h93 : ¬ (c = 93 ∧ ne = true)) (hn : nb c = true) : cls (m + 1) ne (c :: s) = match rng s with
    | some (h, s') => if h < c then none else (cls m true s').map fun x => ((c, h) :: x.1, x.2)
    | none => (cls m true s).map fun x => ((c, c) :: x.1, x.2) := by
  simp only [cls]
  rw [if_neg h93, if_neg (by simp [hn])]
  all_goals rfl
theorem cls_no {m : Nat} {ne : Bool} {c : UInt8} {s : List UInt8} (h93 : ¬ (c = 93 ∧ ne = true)) (hn : nb c = false) : cls (m + 1) ne (c :: s) = none := by
  simp only [cls]
  rw [if_neg h93, if_pos hn]
mutual
/-- Pieces that may have been read: name bytes; classes whose text says them. -/
def okL : List Pc → Prop
  | [] => True
  | .lit c :: l => nb c = true ∧ okL l
  | .q :: l => okL l
  | .star :: l => okL l
  | .cls rs t :: l => (∃ b, t = 91 :: b ∧ ∀ m x, b.length < m → cls m false (b ++ x) = some (rs, x)) ∧ okL l
  | .br as_ :: l => okA as_ ∧ okL l
def okA : List (List Pc) → Prop
  | [] => True
  | a :: as_ => okL a ∧ okA as_
end
mutual
/-- How long a text pieces come of, at least. -/
def srcL : List Pc → Nat
  | [] => 0
  | .lit _ :: l => 1 + srcL l
  | .q :: l => 1 + srcL l
  | .star :: l => 1 + srcL l
  | .cls _ t :: l => t.length + srcL l
  | .br as_ :: l => srcA as_ + srcL l
def srcA : List (List Pc) → Nat
  | [] => 0
  | a :: as_ => srcL a + srcA as_
end
theorem nb_no (c : UInt8) (h : nb c = true) : ¬ (c = 44 ∨ c = 125) ∧ c ≠ 63 ∧ c ≠ 42 ∧ c ≠ 91 ∧ c ≠ 123 := by
  refine ⟨?_, ?_, ?_, ?_, ?_⟩
  · rintro (rfl | rfl) <;> exact absurd h (by decide)
  all_goals (rintro rfl; exact absurd h (by decide))
theorem pcs_end (m : Nat) : pcs (m + 1) [] = some ([], [], 0) := by simp [pcs]
theorem pcs_stop {m : Nat} {c : UInt8} {s : List UInt8} (h : c = 44 ∨ c = 125) : pcs (m + 1) (c :: s) = some ([], c :: s, 0) := by
  unfold pcs; rw [if_pos h]
theorem pcs_q {m : Nat} {s : List UInt8} : pcs (m + 1) (63 :: s) = (pcs m s).map fun x => (.q :: x.1, x.2) := by
  conv => lhs; unfold pcs
  rw [if_neg (by decide), if_pos rfl]
theorem pcs_star {m : Nat} {s : List UInt8} : pcs (m + 1) (42 :: s) = (pcs m s).map fun x => (.star :: x.1, x.2) := by
  conv => lhs; unfold pcs
  rw [if_neg (by decide), if_neg (by decide), if_pos rfl]
theorem pcs_cls {m : Nat} {s : List UInt8} : pcs (m + 1) (91 :: s) = (cls m false s).bind fun x => (pcs m x.2).map fun y => (.cls x.1 ((91 :: s).take (s.length + 1 - x.2.length)) :: y.1, y.2) := by
  conv => lhs; unfold pcs
  rw [if_neg (by decide), if_neg (by decide), if_neg (by decide), if_pos rfl]
theorem pcs_br {m : Nat} {s : List UInt8} : pcs (m + 1) (123 :: s) = (alts m s).bind fun x => (pcs m x.2.1).map fun y => (.br x.1 :: y.1, y.2.1, max (x.2.2 + 1) y.2.2) := by
  conv => lhs; unfold pcs
  rw [if_neg (by decide), if_neg (by decide), if_neg (by decide), if_neg (by decide), if_pos rfl]
theorem pcs_lit {m : Nat} {c : UInt8} {s : List UInt8} (h : nb c = true) : pcs (m + 1) (c :: s) = (pcs m s).map fun x => (.lit c :: x.1, x.2) := by
  obtain ⟨h1, h2, h3, h4, h5⟩ := nb_no c h
  conv => lhs; unfold pcs
  rw [if_neg h1, if_neg h2, if_neg h3, if_neg h4, if_neg h5, if_pos h]
theorem pcs_no {m : Nat} {c : UInt8} {s : List UInt8} (h1 : ¬ (c = 44 ∨ c = 125)) (h2 : c ≠ 63) (h3 : c ≠ 42) (h4 : c ≠ 91) (h5 : c ≠ 123) (h : nb c = false) : pcs (m + 1) (c :: s) = none := by
  unfold pcs
  rw [if_neg h1, if_neg h2, if_neg h3, if_neg h4, if_neg h5, if_neg (by simp [h])]
theorem alts_step {m : Nat} {s : List UInt8} : alts (m + 1) s = (pcs m s).bind fun x => match x.2.1 with
    | [] => none
    | c :: r => if c = 125 then some ([x.1], r, x.2.2) else (alts m r).map fun y => (x.1 :: y.1, y.2.1, max x.2.2 y.2.2) := by
  conv => lhs; unfold alts
  all_goals rfl
theorem pcs_local : ∀ (n : Nat), (∀ (s : List UInt8) (l : List Pc) (r : List UInt8) (d : Nat), pcs n s = some (l, r, d) →
      Stops r ∧ okL l ∧ srcL l + r.length ≤ s.length ∧ ∃ b, s = b ++ r ∧ ∀ m x, n ≤ m → Stops x → pcs m (b ++ x) = some (l, x, d)) ∧
    (∀ (s : List UInt8) (l : List (List Pc)) (r : List UInt8) (d : Nat), alts n s = some (l, r, d) →
      okA l ∧ srcA l + r.length ≤ s.length ∧ ∃ b, s = b ++ r ∧ ∀ m x, n ≤ m → alts m (b ++ x) = some (l, x, d)) := by
  intro n
  induction n with
  | zero => exact ⟨fun s l r d h => by simp [pcs] at h, fun s l r d h => by simp [alts] at h⟩
  | succ n ih =>
    obtain ⟨ihp, iha⟩ := ih
    have hsucc : ∀ {m : Nat}, n + 1 ≤ m → ∃ k, m = k + 1 ∧ n ≤ k := fun {m} hm => ⟨m - 1, by omega, by omega⟩
    refine ⟨fun s l r d h => ?_, fun s l r d h => ?_⟩
    · cases s with
      | nil =>
        simp only [pcs, Option.some.injEq, Prod.mk.injEq] at h
        obtain ⟨rfl, rfl, rfl⟩ := h
        refine ⟨.inl rfl, by simp [okL], by simp [srcL], [], rfl, fun m x hm hx => ?_⟩
        obtain ⟨m, rfl, hm'⟩ := hsucc hm
        rcases hx with rfl | ⟨c, t, rfl, hc⟩
        · simp [pcs]
        · simp [pcs, hc]
      | cons c s =>
        unfold pcs at h
        split at h
        · rename_i h1
          simp only [Option.some.injEq, Prod.mk.injEq] at h
          obtain ⟨rfl, rfl, rfl⟩ := h
          refine ⟨.inr ⟨c, s, rfl, h1⟩, by simp [okL], by simp [srcL], [], rfl, fun m x hm hx => ?_⟩
          obtain ⟨m, rfl, hm'⟩ := hsucc hm
          rcases hx with rfl | ⟨c, t, rfl, hc⟩
          · simp [pcs]
          · simp [pcs, hc]
        rename_i h1
        split at h
        · rename_i h2
          simp only [Option.map_eq_some_iff, Prod.mk.injEq] at h
          obtain ⟨⟨l', r', d'⟩, hv, rfl, rfl, rfl⟩ := h
          obtain ⟨g1, g2, g3, b, rfl, g4⟩ := ihp _ _ _ _ hv
          refine ⟨g1, by simpa [okL] using g2, by simp [srcL] at g3 ⊢; omega, c :: b, rfl, fun m x hm hx => ?_⟩
          obtain ⟨m, rfl, hm'⟩ := hsucc hm
          simp only [List.cons_append]
          unfold pcs
          rw [if_neg h1, if_pos h2, g4 m x hm' hx]; rfl
        rename_i h2
        split at h
        · rename_i h3
          simp only [Option.map_eq_some_iff, Prod.mk.injEq] at h
          obtain ⟨⟨l', r', d'⟩, hv, rfl, rfl, rfl⟩ := h
          obtain ⟨g1, g2, g3, b, rfl, g4⟩ := ihp _ _ _ _ hv
          refine ⟨g1, by simpa [okL] using g2, by simp [srcL] at g3 ⊢; omega, c :: b, rfl, fun m x hm hx => ?_⟩
          obtain ⟨m, rfl, hm'⟩ := hsucc hm
          simp only [List.cons_append]
          unfold pcs
          rw [if_neg h1, if_neg h2, if_pos h3, g4 m x hm' hx]; rfl
        rename_i h3
        split at h
        · rename_i h4
          simp only [Option.bind_eq_some_iff, Option.map_eq_some_iff, Prod.mk.injEq] at h
          obtain ⟨⟨rs, r1⟩, hc, ⟨l', r', d'⟩, hv, rfl, rfl, rfl⟩ := h
          obtain ⟨b1, rfl, hb1⟩ := cls_local _ _ _ _ _ hc
          obtain ⟨g1, g2, g3, b, e, g4⟩ := ihp _ _ _ _ hv
          dsimp only at e
          subst e
          have ht : ((c :: (b1 ++ (b ++ r))).take ((b1 ++ (b ++ r)).length + 1 - (b ++ r).length)) = c :: b1 := by
            have : (b1 ++ (b ++ r)).length + 1 - (b ++ r).length = b1.length + 1 := by simp; omega
            rw [this, List.take_succ_cons, List.take_left]
          have h4' := h4
          refine ⟨g1, ?_, ?_, c :: (b1 ++ b), by simp, fun m x hm hx => ?_⟩
          · simp only [okL]; exact ⟨⟨b1, by rw [ht, h4], fun m x hm => hb1 m x (.inr hm)⟩, g2⟩
          · simp only [srcL]; rw [ht]; simp at g3 ⊢; omega
          · obtain ⟨m, rfl, hm'⟩ := hsucc hm
            simp only [List.cons_append, List.append_assoc]
            unfold pcs
            rw [if_neg h1, if_neg h2, if_neg h3, if_pos h4, hb1 m (b ++ x) (.inl hm')]
            simp only [Option.bind_some, g4 m x hm' hx, Option.map_some, Option.some.injEq, Prod.mk.injEq, List.cons.injEq, Pc.cls.injEq, true_and, and_true]
            have e1 : (b1 ++ (b ++ x)).length + 1 - (b ++ x).length = b1.length + 1 := by simp; omega
            rw [ht, e1, List.take_succ_cons, List.take_left]
        rename_i h4
        split at h
        · rename_i h5
          simp only [Option.bind_eq_some_iff, Option.map_eq_some_iff, Prod.mk.injEq] at h
          obtain ⟨⟨as_, r1, d1⟩, hc, ⟨l', r', d'⟩, hv, rfl, rfl, rfl⟩ := h
          obtain ⟨a1, a2, b1, rfl, hb1⟩ := iha _ _ _ _ hc
          obtain ⟨g1, g2, g3, b, e, g4⟩ := ihp _ _ _ _ hv
          dsimp only at e
          subst e
          refine ⟨g1, ?_, ?_, c :: (b1 ++ b), by simp, fun m x hm hx => ?_⟩
          · simp only [okL]; exact ⟨a1, g2⟩
          · simp only [srcL]; simp at g3 a2 ⊢; omega
          · obtain ⟨m, rfl, hm'⟩ := hsucc hm
            simp only [List.cons_append, List.append_assoc]
            unfold pcs
            rw [if_neg h1, if_neg h2, if_neg h3, if_neg h4, if_pos h5, hb1 m (b ++ x) hm']
            simp only [Option.bind_some, g4 m x hm' hx, Option.map_some]
        rename_i h5
        split at h
        · rename_i h6
          simp only [Option.map_eq_some_iff, Prod.mk.injEq] at h
          obtain ⟨⟨l', r', d'⟩, hv, rfl, rfl, rfl⟩ := h
          obtain ⟨g1, g2, g3, b, rfl, g4⟩ := ihp _ _ _ _ hv
          refine ⟨g1, ?_, by simp [srcL] at g3 ⊢; omega, c :: b, rfl, fun m x hm hx => ?_⟩
          · simp only [okL]; exact ⟨h6, g2⟩
          obtain ⟨m, rfl, hm'⟩ := hsucc hm
          simp only [List.cons_append]
          unfold pcs
          rw [if_neg h1, if_neg h2, if_neg h3, if_neg h4, if_neg h5, if_pos h6, g4 m x hm' hx]; rfl
        · cases h
    · unfold alts at h
      simp only [Option.bind_eq_some_iff] at h
      obtain ⟨⟨l', r', d'⟩, hv, h⟩ := h
      obtain ⟨g1, g2, g3, b, rfl, g4⟩ := ihp _ _ _ _ hv
      dsimp only at h
      split at h
      · cases h
      · rename_i c r0
        split at h
        · rename_i h1
          simp only [Option.some.injEq, Prod.mk.injEq] at h
          obtain ⟨rfl, rfl, rfl⟩ := h
          refine ⟨?_, ?_, b ++ [c], by simp, fun m x hm => ?_⟩
          · simp only [okA]; exact ⟨g2, trivial⟩
          · simp [srcA] at g3 ⊢; omega
          · obtain ⟨m, rfl, hm'⟩ := hsucc hm
            unfold alts
            rw [List.append_assoc, List.singleton_append, g4 m _ hm' (.inr ⟨c, x, rfl, .inr h1⟩)]
            simp [h1]
        · rename_i h1
          simp only [Option.map_eq_some_iff, Prod.mk.injEq] at h
          obtain ⟨⟨as_, r2, d2⟩, hw, rfl, rfl, rfl⟩ := h
          obtain ⟨a1, a2, b2, rfl, hb2⟩ := iha _ _ _ _ hw
          have hc : c = 44 ∨ c = 125 := by
            rcases g1 with g1 | ⟨c', t, e, hc⟩
            · cases g1
            · simp only [List.cons.injEq] at e; obtain ⟨rfl, rfl⟩ := e; exact hc
          refine ⟨?_, ?_, b ++ c :: b2, by simp, fun m x hm => ?_⟩
          · simp only [okA]; exact ⟨g2, a1⟩
          · simp [srcA] at g3 a2 ⊢; omega
          · obtain ⟨m, rfl, hm'⟩ := hsucc hm
            unfold alts
            rw [List.append_assoc, List.cons_append, g4 m _ hm' (.inr ⟨c, _, rfl, hc⟩)]
            simp only [Option.bind_some, if_neg h1, hb2 m x hm', Option.map_some]
/-- Pieces without braces. -/
def flat : List Pc → Prop
  | [] => True
  | .br _ :: _ => False
  | .lit _ :: l => flat l
  | .q :: l => flat l
  | .star :: l => flat l
  | .cls _ _ :: l => flat l
theorem flat_append : ∀ {l m : List Pc}, flat l → flat m → flat (l ++ m)
  | [], _, _, h => h
  | .br _ :: _, _, h, _ => h.elim
  | .lit _ :: l, m, h, h' => flat_append (l := l) (m := m) h h'
  | .q :: l, m, h, h' => flat_append (l := l) (m := m) h h'
  | .star :: l, m, h, h' => flat_append (l := l) (m := m) h h'
  | .cls _ _ :: l, m, h, h' => flat_append (l := l) (m := m) h h'
theorem okL_append : ∀ {l m : List Pc}, okL l → okL m → okL (l ++ m)
  | [], _, _, h => h
  | .br _ :: l, m, h, h' => by simp only [List.cons_append, okL] at h ⊢; exact ⟨h.1, okL_append h.2 h'⟩
  | .lit _ :: l, m, h, h' => by simp only [List.cons_append, okL] at h ⊢; exact ⟨h.1, okL_append h.2 h'⟩
  | .q :: l, m, h, h' => by simp only [List.cons_append, okL] at h ⊢; exact okL_append h h'
  | .star :: l, m, h, h' => by simp only [List.cons_append, okL] at h ⊢; exact okL_append h h'
  | .cls _ _ :: l, m, h, h' => by simp only [List.cons_append, okL] at h ⊢; exact ⟨h.1, okL_append h.2 h'⟩
theorem texts_append (l m : List Pc) : texts (l ++ m) = texts l ++ texts m := by simp [texts]
/-- What an expansion is like: no braces, pieces as_ they must be, of at most n bytes. -/
def Good (n : Nat) (l : List Pc) : Prop := flat l ∧ okL l ∧ (texts l).length ≤ n
theorem Good.app {a b : Nat} {l m : List Pc} (h : Good a l) (h' : Good b m) : Good (a + b) (l ++ m) :=
  ⟨flat_append h.1 h'.1, okL_append h.2.1 h'.2.1, by rw [texts_append, List.length_append]; exact Nat.add_le_add h.2.2 h'.2.2⟩
theorem Good.le {a b : Nat} {l : List Pc} (h : Good a l) (hab : a ≤ b) : Good b l := ⟨h.1, h.2.1, Nat.le_trans h.2.2 hab⟩
theorem mt_star (l : List Pc) (s : List UInt8) : mt (.star :: l) s = (mt l s || match s with | [] => false | _ :: s' => mt (.star :: l) s') := by
  cases s <;> simp [mt, tls]
theorem mt_other {p : Pc} (hp : p ≠ .star) (l : List Pc) (c : UInt8) (s : List UInt8) : mt (p :: l) (c :: s) = (p.one c && mt l s) := by
  cases p <;> first | exact absurd rfl hp | rfl
theorem mt_other_nil {p : Pc} (hp : p ≠ .star) (l : List Pc) : mt (p :: l) [] = false := by
  cases p <;> first | exact absurd rfl hp | rfl
def starless (l : List Pc) : Prop := ∀ p ∈ l, p ≠ .star
theorem mt_skip : ∀ (M R : List Pc) (s : List UInt8), starless M → mt (M ++ R) s = true → M.length ≤ s.length ∧ mt R (s.drop M.length) = true
  | [], R, s, _, h => by simpa using h
  | p :: M, R, [], hM, h => by
    rw [List.cons_append, mt_other_nil (hM p (by simp))] at h
    cases h
  | p :: M, R, c :: s, hM, h => by
    rw [List.cons_append, mt_other (hM p (by simp)), Bool.and_eq_true] at h
    have := mt_skip M R s (fun x hx => hM x (by simp [hx])) h.2
    exact ⟨by simp; omega, by simpa using this.2⟩
/-- What the search for a fit keeps. -/
structure Fit (l : List Pc) (name : List UInt8) (at_ k : Nat) (back : Option Nat) (from_ : Nat) : Prop where
  hat : at_ ≤ l.length
  hk : k ≤ name.length
  hfk : from_ ≤ k
  f0 : back = none → mt l name = mt (l.drop at_) (name.drop k)
  f1 : ∀ b, back = some b → b < at_ ∧ l[b]? = some .star ∧ k - from_ = at_ - b - 1 ∧ starless ((l.take at_).drop (b + 1)) ∧
    mt l name = (mt (l.drop at_) (name.drop k) || (decide (from_ < name.length) && mt (l.drop b) (name.drop (from_ + 1))))
theorem drop_cons {α : Type} {l : List α} {i : Nat} {a : α} (h : l[i]? = some a) : l.drop i = a :: l.drop (i + 1) := by
  obtain ⟨hlt, rfl⟩ := List.getElem?_eq_some_iff.1 h
  exact List.drop_eq_getElem_cons hlt
/-- The piece that stands fits the byte that stands. -/
theorem Fit.step {l : List Pc} {name : List UInt8} {at_ k : Nat} {back : Option Nat} {from_ : Nat} {p : Pc} {c : UInt8} (h : Fit l name at_ k back from_) (hp : l[at_]? = some p) (hs : p ≠ .star) (hc : name[k]? = some c) (ho : p.one c = true) :
    Fit l name (at_ + 1) (k + 1) back from_ := by
  have h1 := (List.getElem?_eq_some_iff.1 hp).1
  have h2 := (List.getElem?_eq_some_iff.1 hc).1
  have e : mt (l.drop at_) (name.drop k) = mt (l.drop (at_ + 1)) (name.drop (k + 1)) := by
    rw [drop_cons hp, drop_cons hc, mt_other hs, ho, Bool.true_and]
  refine ⟨by omega, by omega, by have := h.hfk; omega, fun hn => by rw [← e]; exact h.f0 hn, fun b hb => ?_⟩
  obtain ⟨g1, g2, g3, g4, g5⟩ := h.f1 b hb
  refine ⟨by omega, g2, by have := h.hfk; omega, fun x hq => ?_, by rw [← e]; exact g5⟩
  have : l.take (at_ + 1) = l.take at_ ++ [p] := by rw [List.take_add_one, hp]; rfl
  rw [this, List.drop_append_of_le_length (by simp; omega)] at hq
  rcases List.mem_append.1 hq with hq | hq
  · exact g4 x hq
  · simp only [List.mem_singleton] at hq; subst hq; exact hs
/-- Nothing fits here. -/
def Stuck (l : List Pc) (name : List UInt8) (at_ k : Nat) : Prop := ∃ c, name[k]? = some c ∧ (l[at_]? = none ∨ ∃ p, l[at_]? = some p ∧ p ≠ .star ∧ p.one c = false)
theorem Stuck.mt {l : List Pc} {name : List UInt8} {at_ k : Nat} (h : Stuck l name at_ k) : Glob.mt (l.drop at_) (name.drop k) = false := by
  obtain ⟨c, hc, h⟩ := h
  rw [drop_cons hc]
  rcases h with h | ⟨p, hp, hs, ho⟩
  · rw [List.drop_eq_nil_of_le (List.getElem?_eq_none_iff.1 h)]; rfl
  · rw [drop_cons hp, mt_other hs, ho, Bool.false_and]
/-- The last star takes one byte more. -/
theorem Fit.back {l : List Pc} {name : List UInt8} {at_ k : Nat} {b from_ : Nat} (h : Fit l name at_ k (some b) from_) (hs : Stuck l name at_ k) : Fit l name (b + 1) (from_ + 1) (some b) (from_ + 1) := by
  obtain ⟨g1, g2, g3, g4, g5⟩ := h.f1 b rfl
  have hk : k < name.length := by obtain ⟨c, hc, _⟩ := hs; exact (List.getElem?_eq_some_iff.1 hc).1
  have hfk := h.hfk
  have hat := h.hat
  refine ⟨by omega, by omega, Nat.le_refl _, nofun, fun b' hb' => ?_⟩
  cases hb'
  refine ⟨by omega, g2, by omega, fun p hp => ?_, ?_⟩
  · rw [List.drop_eq_nil_of_le (by rw [List.length_take]; exact Nat.min_le_left _ _)] at hp; cases hp
  · rw [g5, hs.mt, Bool.false_or]
    have hfr : decide (from_ < name.length) = true := by simp; omega
    rw [hfr, Bool.true_and, drop_cons g2, mt_star]
    congr 1
    by_cases hf : from_ + 1 < name.length
    · rw [List.drop_eq_getElem_cons hf]; simp [hf]
    · rw [List.drop_eq_nil_of_le (by omega)]; simp [hf]
theorem Fit.done {l : List Pc} {name : List UInt8} {at_ from_ : Nat} {back : Option Nat} (h : Fit l name at_ name.length back from_) : mt l name = mt (l.drop at_) [] := by
  have e0 : name.drop name.length = [] := List.drop_eq_nil_of_le (Nat.le_refl _)
  cases hb : back with
  | none => rw [h.f0 hb, e0]
  | some b =>
    obtain ⟨g1, g2, g3, g4, g5⟩ := h.f1 b hb
    rw [g5, e0]
    cases hy : (decide (from_ < name.length) && mt (l.drop b) (name.drop (from_ + 1))) with
    | false => rw [Bool.or_false]
    | true =>
      exfalso
      simp only [Bool.and_eq_true, decide_eq_true_eq] at hy
      obtain ⟨hfr, hy⟩ := hy
      rw [drop_cons g2] at hy
      simp only [mt, List.any_eq_true] at hy
      obtain ⟨t, ht, hy⟩ := hy
      have htl : t.length ≤ (name.drop (from_ + 1)).length := by
        clear hy
        generalize name.drop (from_ + 1) = s at ht
        induction s with
        | nil => simp [tls] at ht; simp [ht]
        | cons c s ih =>
          simp only [tls, List.mem_cons] at ht
          rcases ht with rfl | ht
          · simp
          · have := ih ht; simp; omega
      have es : l.drop (b + 1) = (l.take at_).drop (b + 1) ++ l.drop at_ := by
        have : l.drop (b + 1) = ((l.take at_) ++ l.drop at_).drop (b + 1) := by rw [List.take_append_drop]
        rw [this, List.drop_append_of_le_length (by have := h.hat; simp; omega)]
      rw [es] at hy
      obtain ⟨m1, m2⟩ := mt_skip _ _ _ g4 hy
      have hat := h.hat
      simp at m1 htl
      omega
theorem suffix_drop {text b r : List UInt8} {k : Nat} (h : text.drop k = b ++ r) : text.drop (text.length - r.length) = r ∧ r.length + b.length = text.length - k := by
  have h1 := congrArg List.length h
  simp only [List.length_drop, List.length_append] at h1
  refine ⟨?_, by omega⟩
  by_cases hk : k ≤ text.length
  · have : text.drop (text.length - r.length) = (text.drop k).drop b.length := by
      rw [List.drop_drop]; congr 1; omega
    rw [this, h, List.drop_left]
  · have : r = [] := List.eq_nil_of_length_eq_zero (by omega)
    subst this; simp
theorem pcs_drop {m k : Nat} {text : List UInt8} {l : List Pc} {r : List UInt8} {d : Nat} (h : pcs m (text.drop k) = some (l, r, d)) : text.drop (text.length - r.length) = r ∧ r.length ≤ text.length - k := by
  obtain ⟨_, _, _, b, hb, _⟩ := (pcs_local _).1 _ _ _ _ h
  have := suffix_drop hb
  exact ⟨this.1, by omega⟩
theorem alts_drop {m k : Nat} {text : List UInt8} {l : List (List Pc)} {r : List UInt8} {d : Nat} (h : alts m (text.drop k) = some (l, r, d)) : text.drop (text.length - r.length) = r ∧ r.length ≤ text.length - k := by
  obtain ⟨_, _, b, hb, _⟩ := (pcs_local _).2 _ _ _ _ h
  have := suffix_drop hb
  exact ⟨this.1, by omega⟩
theorem cls_drop {m k : Nat} {text : List UInt8} {ne : Bool} {l : List (UInt8 × UInt8)} {r : List UInt8} (h : cls m ne (text.drop k) = some (l, r)) : text.drop (text.length - r.length) = r ∧ r.length ≤ text.length - k := by
  obtain ⟨b, hb, _⟩ := cls_local _ _ _ _ _ h
  have := suffix_drop hb
  exact ⟨this.1, by omega⟩
end Go.Glob
end
