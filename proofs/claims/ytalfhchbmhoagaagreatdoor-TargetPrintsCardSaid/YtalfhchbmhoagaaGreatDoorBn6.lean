/- A target's nodes as a tree laid out in a list, in plain Lean. What is told of a tree from its leaves up; what the parser yields is a tree, and a tree' -/
import Derived.Test.YtalfhchbmhoagaaGreatDoorBn1
import Derived.Test.YtalfhchbmhoagaaGreatDoorBn2
import Derived.Test.YtalfhchbmhoagaaGreatDoorBn3
import Derived.Test.YtalfhchbmhoagaaGreatDoorBn4
import Derived.Test.YtalfhchbmhoagaaGreatDoorBn5
set_option linter.unusedSimpArgs false
set_option linter.unusedVariables false
set_option linter.constructorNameAsVariable false
section
namespace Go.Tgt
def deepS (l : List (Nat × Nat)) : Nat := l.foldr (fun w d => max d (w.2 + 1)) 1
theorem deepS_pos : ∀ l, 1 ≤ deepS l
 | [] => Nat.le_refl _
 | w :: l => by have := deepS_pos l; simp only [deepS, List.foldr_cons] at this ⊢; omega
theorem deepS_cons (w : Nat × Nat) (l) : deepS (w :: l) = max (deepS l) (w.2 + 1) := rfl
theorem deepS_snoc : ∀ (l : List (Nat × Nat)) (w : Nat × Nat), deepS (l ++ [w]) = max (deepS l) (w.2 + 1)
 | [], w => by simp [deepS]
 | x :: l, w => by rw [List.cons_append, deepS_cons, deepS_cons, deepS_snoc l w]; omega
theorem deepS_mem : ∀ {l : List (Nat × Nat)} {w : Nat × Nat}, w ∈ l → w.2 + 1 ≤ deepS l
 | x :: l, w, h => by
  rw [deepS_cons]
  rcases List.mem_cons.1 h with rfl | h
  ·omega
  ·have := deepS_mem h; omega
theorem deepS_le {l : List (Nat × Nat)} {m : Nat} (h : ∀ w ∈ l, w.2 ≤ m) : deepS l ≤ m + 1 := by
 induction l with
 | nil => simp [deepS]
 | cons w l ih =>
  rw [deepS_cons]
  have := ih fun w hw => h w (by simp [hw])
  have := h w (by simp)
  omega
def atsS (l : List (Nat × Nat)) : List Int := l.map fun w => (w.1 : Int)
def stepS (n : Nd) (S : List (Nat × Nat)) (i : Nat) : Option (List (Nat × Nat)) :=
 if n.args.length ≤ S.length ∧ atsS (S.drop (S.length - n.args.length)) = n.args then some (S.take (S.length - n.args.length) ++ [(i, deepS (S.drop (S.length - n.args.length)))]) else none
def shapeF (own : Nd → Bool) : List Nd → Nat → List (Nat × Nat) → Option (List (Nat × Nat))
 | [], _, S => some S
 | n :: r, i, S => if own n = true then (stepS n S i).bind (shapeF own r (i + 1)) else none
def shapeS (own : Nd → Bool) (l : List Nd) : Option (List (Nat × Nat)) := shapeF own l 0 []
theorem shapeF_app (own : Nd → Bool) : ∀ (l m : List Nd) (i : Nat) (S), shapeF own (l ++ m) i S = (shapeF own l i S).bind (shapeF own m (i + l.length))
 | [], m, i, S => by simp [shapeF]
 | n :: l, m, i, S => by
  simp only [List.cons_append, shapeF]
  split
  ·cases stepS n S i with
   | none => rfl
   | some S' =>
    simp only [Option.bind_some]
    rw [shapeF_app own l m (i + 1) S']
    simp only [List.length_cons]
    rw [show i + 1 + l.length = i + (l.length + 1) by omega]
  ·rfl
theorem shapeS_snoc (own : Nd → Bool) (l : List Nd) (n : Nd) : shapeS own (l ++ [n]) = (shapeS own l).bind fun S => if own n = true then stepS n S l.length else none := by
 unfold shapeS
 rw [shapeF_app]
 congr 1
 funext S
 simp only [shapeF, Nat.zero_add]
 split
 ·cases stepS n S l.length <;> rfl
 ·rfl
def bOf (S : List (Nat × Nat)) : Nat → Nat
 | 0 => 0
 | j + 1 => match S[j]? with
  | some w => w.1 + 1
  | none => 0
def ChainP (B : Nat → Nat) : Nat → Nat → List Int → Prop
 | b, e, [] => b = e
 | b, e, a :: as_ => ∃ k : Nat, a = (k : Int) ∧ B k = b ∧ b ≤ k ∧ k < e ∧ ChainP B (k + 1) e as_
theorem ChainP.le {B : Nat → Nat} : ∀ {as_ : List Int} {b e : Nat}, ChainP B b e as_ → b ≤ e
 | [], b, e, h => Nat.le_of_eq h
 | a :: as_, b, e, h => by
  obtain ⟨k, _, _, h1, h2, _⟩ := h
  omega
theorem ChainP.congr {B B' : Nat → Nat} : ∀ {as_ : List Int} {b e : Nat}, ChainP B b e as_ → (∀ k, k < e → B' k = B k) → ChainP B' b e as_
 | [], b, e, h, _ => h
 | a :: as_, b, e, h, hB => by
  obtain ⟨k, h0, h1, h2, h3, h4⟩ := h
  exact ⟨k, h0, by rw [hB k h3]; exact h1, h2, h3, h4.congr hB⟩
theorem ChainP.mem {B : Nat → Nat} : ∀ {as_ : List Int} {b e : Nat}, ChainP B b e as_ → ∀ a ∈ as_, 0 ≤ a ∧ a.toNat < e ∧ b ≤ B a.toNat
 | a :: as_, b, e, h, x, hx => by
  obtain ⟨k, h0, h1, h2, h3, h4⟩ := h
  rcases List.mem_cons.1 hx with rfl | hx
  ·subst h0
   simp; omega
  ·have := h4.mem x hx
   omega
structure Linked (own : Nd → Bool) (l : List Nd) (B D : Nat → Nat) : Prop where
 chain : ∀ (i : Nat) (n : Nd), l[i]? = some n → ChainP B (B i) i n.args
 deep : ∀ (i : Nat) (n : Nd), l[i]? = some n → 1 ≤ D i ∧ ∀ a ∈ n.args, D a.toNat + 1 ≤ D i
 own : ∀ (i : Nat) (n : Nd), l[i]? = some n → own n = true
structure OnStack (l : List Nd) (B D : Nat → Nat) (S : List (Nat × Nat)) : Prop where
 lt : ∀ w ∈ S, w.1 < l.length
 beg : ∀ (j : Nat) (w : Nat × Nat), S[j]? = some w → B w.1 = bOf S j ∧ D w.1 = w.2 ∧ bOf S j ≤ w.1
 top : bOf S S.length = l.length
theorem bOf_take {S T : List (Nat × Nat)} {j : Nat} (h : j ≤ S.length) : bOf (S ++ T) j = bOf S j := by
 cases j with
 | zero => rfl
 | succ j => simp only [bOf]; rw [List.getElem?_append_left (by omega)]
theorem chain_stack {l : List Nd} {B D : Nat → Nat} {S : List (Nat × Nat)} (h : OnStack l B D S) : ∀ (m j : Nat), m + j = S.length → ChainP B (bOf S j) l.length (atsS (S.drop j))
 | 0, j, hm => by
  rw [List.drop_eq_nil_of_le (by omega)]
  show bOf S j = l.length
  rw [← h.top]; congr 1; omega
 | m + 1, j, hm => by
  obtain ⟨w, hw⟩ : ∃ w, S[j]? = some w := ⟨_, List.getElem?_eq_getElem (by omega)⟩
  obtain ⟨hlt, hwe⟩ := List.getElem?_eq_some_iff.1 hw
  rw [List.drop_eq_getElem_cons hlt, hwe]
  obtain ⟨h1, h2, h3⟩ := h.beg j w hw
  have ih := chain_stack h m (j + 1) (by omega)
  refine ⟨w.1, rfl, h1, h3, h.lt w (List.mem_of_getElem? hw), ?_⟩
  have : bOf S (j + 1) = w.1 + 1 := by simp [bOf, hw]
  rw [← this]; exact ih
theorem linked_of (own : Nd → Bool) (l : List Nd) : ∀ (S : List (Nat × Nat)), shapeS own l = some S → ∃ B D, Linked own l B D ∧ OnStack l B D S := by
 obtain ⟨r, hr⟩ : ∃ r, r = l.reverse := ⟨_, rfl⟩
 obtain rfl : l = r.reverse := by rw [hr, List.reverse_reverse]
 clear hr
 induction r with
 | nil =>
  intro S h
  simp only [shapeS, shapeF, List.reverse_nil, Option.some.injEq] at h
  subst h
  exact ⟨fun _ => 0, fun _ => 0, ⟨fun i n h => by simp at h, fun i n h => by simp at h, fun i n h => by simp at h⟩, ⟨fun w h => by simp at h, fun j w h => by simp at h, rfl⟩⟩
 | cons n r ih =>
  intro S h
  rw [List.reverse_cons] at h ⊢
  generalize r.reverse = l at h ih
  rw [shapeS_snoc] at h
  cases hS : shapeS own l with
  | none => rw [hS] at h; cases h
  | some S0 =>
   rw [hS] at h
   simp only [Option.bind_some] at h
   split at h
   case isFalse => cases h
   rename_i hown
   unfold stepS at h
   split at h
   case isFalse => cases h
   rename_i hcond
   obtain ⟨hlen, hats⟩ := hcond
   simp only [Option.some.injEq] at h
   obtain ⟨B, D, hL, hO⟩ := ih S0 hS
   obtain ⟨j, hj⟩ : ∃ j, j = S0.length - n.args.length := ⟨_, rfl⟩
   rw [← hj] at h hats
   have hjl : j ≤ S0.length := by omega
   have hch := chain_stack hO (S0.length - j) j (by omega)
   rw [hats] at hch
   obtain ⟨B', hB'⟩ : ∃ B' : Nat → Nat, B' = fun k => if k = l.length then bOf S0 j else B k := ⟨_, rfl⟩
   obtain ⟨D', hD'⟩ : ∃ D' : Nat → Nat, D' = fun k => if k = l.length then deepS (S0.drop j) else D k := ⟨_, rfl⟩
   have hBo : ∀ k, k < l.length → B' k = B k := fun k hk => by rw [hB']; simp; omega
   have hDo : ∀ k, k < l.length → D' k = D k := fun k hk => by rw [hD']; simp; omega
   have hBn : B' l.length = bOf S0 j := by rw [hB']; simp
   have hDn : D' l.length = deepS (S0.drop j) := by rw [hD']; simp
   have hcase : ∀ (i : Nat) (x : Nd), (l ++ [n])[i]? = some x → (i < l.length ∧ l[i]? = some x) ∨ (i = l.length ∧ x = n) := fun i x hx => by
    by_cases hi : i < l.length
    ·rw [List.getElem?_append_left hi] at hx; exact .inl ⟨hi, hx⟩
    ·rw [List.getElem?_append_right (by omega)] at hx
     have := (List.getElem?_eq_some_iff.1 hx).1
     simp at this
     have e : i = l.length := by omega
     subst e
     simp at hx
     exact .inr ⟨rfl, hx.symm⟩
   refine ⟨B', D', ⟨fun i x hx => ?_, fun i x hx => ?_, fun i x hx => ?_⟩, ⟨fun w hw => ?_, fun k w hw => ?_, ?_⟩⟩
   ·rcases hcase i x hx with ⟨hi, hx⟩ | ⟨rfl, rfl⟩
    ·rw [hBo i hi]
     exact (hL.chain i x hx).congr fun k hk => hBo k (by omega)
    ·rw [hBn]
     exact hch.congr hBo
   ·rcases hcase i x hx with ⟨hi, hx⟩ | ⟨rfl, rfl⟩
    ·rw [hDo i hi]
     refine ⟨(hL.deep i x hx).1, fun a ha => ?_⟩
     have := (hL.chain i x hx).mem a ha
     rw [hDo _ (by omega)]
     exact (hL.deep i x hx).2 a ha
    ·rw [hDn]
     refine ⟨deepS_pos _, fun a ha => ?_⟩
     rw [← hats] at ha
     obtain ⟨w, hw, rfl⟩ := List.mem_map.1 ha
     have hw2 := deepS_mem hw
     obtain ⟨q, hq⟩ := List.getElem?_of_mem hw
     rw [List.getElem?_drop] at hq
     have hb := (hO.beg _ _ hq).2.1
     have hlt := hO.lt w (List.mem_of_getElem? hq)
     simp only [Int.toNat_natCast]
     rw [hDo _ hlt, hb]; exact hw2
   ·rcases hcase i x hx with ⟨hi, hx⟩ | ⟨rfl, rfl⟩
    ·exact hL.own i x hx
    ·exact hown
   ·subst h
    rcases List.mem_append.1 hw with hw | hw
    ·have := hO.lt w (List.mem_of_mem_take hw)
     simp; omega
    ·simp at hw; subst hw; simp
   ·subst h
    by_cases hk : k < j
    ·rw [List.getElem?_append_left (by simp; omega), List.getElem?_take, if_pos hk] at hw
     obtain ⟨h1, h2, h3⟩ := hO.beg k w hw
     have hlt := hO.lt w (List.mem_of_getElem? hw)
     have e : bOf (S0.take j ++ [(l.length, deepS (S0.drop j))]) k = bOf S0 k := by
      rw [bOf_take (by simp; omega)]
      have := bOf_take (S := S0.take j) (T := S0.drop j) (j := k) (by simp; omega)
      rw [List.take_append_drop] at this
      exact this.symm
     rw [hBo _ hlt, hDo _ hlt, e]
     exact ⟨h1, h2, h3⟩
    ·rw [List.getElem?_append_right (by simp; omega)] at hw
     have := (List.getElem?_eq_some_iff.1 hw).1
     simp at this
     have e : k = j := by omega
     subst e
     have hz : k - (S0.take k).length = 0 := by simp; omega
     rw [hz] at hw
     simp at hw; subst hw
     have e : bOf (S0.take k ++ [(l.length, deepS (S0.drop k))]) k = bOf S0 k := by
      rw [bOf_take (by simp; omega)]
      have := bOf_take (S := S0.take k) (T := S0.drop k) (j := k) (by simp; omega)
      rw [List.take_append_drop] at this
      exact this.symm
     rw [e, hBn]
     exact ⟨rfl, hDn, hch.le⟩
   ·subst h
    have : (S0.take j ++ [(l.length, deepS (S0.drop j))]).length = j + 1 := by simp; omega
    rw [this]
    simp only [bOf]
    rw [List.getElem?_append_right (by simp; omega)]
    have hz : j - (S0.take j).length = 0 := by simp; omega
    rw [hz]
    simp
end Go.Tgt
end
section
namespace Go.Tgt
def nd0 : Nd := ⟨0, [], 0, []⟩
section
variable {α : Type} (body : Nd → List α → α) (d : α)
def treeF (l : List Nd) : Nat → Nat → α
 | 0, _ => d
 | f + 1, i => body (l.getD i nd0) ((l.getD i nd0).args.map fun a => treeF l f a.toNat)
def treeS (l : List Nd) (i : Nat) : α := treeF body d l (i + 1) i
def Back (l : List Nd) : Prop := ∀ (i : Nat) (n : Nd), l[i]? = some n → ∀ a ∈ n.args, a.toNat < i
variable {body d}
theorem treeF_eq {l : List Nd} (hb : Back l) (i : Nat) : ∀ f, i < l.length → i < f → treeF body d l f i = treeS body d l i := by
 induction i using Nat.strongRecOn with
 | _ i ih =>
  intro f hi hf
  obtain ⟨f, rfl⟩ : ∃ g, f = g + 1 := ⟨f - 1, by omega⟩
  obtain ⟨n, hn⟩ : ∃ n, l[i]? = some n := ⟨_, List.getElem?_eq_getElem hi⟩
  have hg : l.getD i nd0 = n := by simp [List.getD, hn]
  simp only [treeS, treeF, hg]
  congr 1
  refine List.map_congr_left fun a ha => ?_
  have := hb i n hn a ha
  rw [ih _ this f (by omega) (by omega), ih _ this i (by omega) (by omega)]
theorem treeS_eq {l : List Nd} (hb : Back l) {i : Nat} {n : Nd} (hn : l[i]? = some n) : treeS body d l i = body n (n.args.map fun a => treeS body d l a.toNat) := by
 have hi := (List.getElem?_eq_some_iff.1 hn).1
 have hg : l.getD i nd0 = n := by simp [List.getD, hn]
 conv => lhs; unfold treeS
 simp only [treeF, hg]
 congr 1
 refine List.map_congr_left fun a ha => ?_
 have := hb i n hn a ha
 exact treeF_eq hb _ i (by omega) this
end
theorem Linked.back {own : Nd → Bool} {l : List Nd} {B D : Nat → Nat} (h : Linked own l B D) : Back l := fun i n hn a ha => ((h.chain i n hn).mem a ha).2.1
def sumW (W : Nd → Nat) (l : List Nd) : Nat := (l.map W).sum
theorem sumW_app (W : Nd → Nat) (l m : List Nd) : sumW W (l ++ m) = sumW W l + sumW W m := by simp [sumW]
theorem sumW_one (W : Nd → Nat) (n : Nd) : sumW W [n] = W n := by simp [sumW]
theorem sumW_take {W : Nd → Nat} {l : List Nd} {i : Nat} {n : Nd} (h : l[i]? = some n) : sumW W (l.take (i + 1)) = sumW W (l.take i) + W n := by
 rw [List.take_add_one, h, sumW_app]; simp [sumW]
theorem sumW_mono (W : Nd → Nat) (l : List Nd) {i j : Nat} (h : i ≤ j) : sumW W (l.take i) ≤ sumW W (l.take j) := by
 have h2 := List.take_append_drop i (l.take j)
 rw [List.take_take, Nat.min_eq_left h] at h2
 rw [← h2, sumW_app]; omega
theorem tree_size {α : Type} {body : Nd → List α → α} {d : α} (size : α → Nat) (W : Nd → Nat) (hW : ∀ n as_, size (body n as_) ≤ W n + (as_.map size).sum) {own : Nd → Bool} {l : List Nd} {B D : Nat → Nat} (hL : Linked own l B D) (i : Nat) :
  i < l.length → size (treeS body d l i) + sumW W (l.take (B i)) ≤ sumW W (l.take (i + 1)) := by
 induction i using Nat.strongRecOn with
 | _ i ih =>
  intro hi
  obtain ⟨n, hn⟩ : ∃ n, l[i]? = some n := ⟨_, List.getElem?_eq_getElem hi⟩
  have hch : ∀ (as_ : List Int) (b : Nat), ChainP B b i as_ → ((as_.map fun a => treeS body d l a.toNat).map size).sum + sumW W (l.take b) ≤ sumW W (l.take i) := by
   intro as_
   induction as_ with
   | nil => intro b hb; cases hb; simp
   | cons a as_ ih2 =>
    intro b hb
    obtain ⟨k, rfl, h1, h2, h3, h4⟩ := hb
    have := ih2 _ h4
    have := ih k h3 (by omega)
    rw [h1] at this
    simp only [List.map_cons, List.sum_cons, Int.toNat_natCast]
    omega
  have h1 := hch _ _ (hL.chain i n hn)
  have h2 := hW n (n.args.map fun a => treeS body d l a.toNat)
  rw [treeS_eq hL.back hn, sumW_take hn]
  omega
def wTok (n : Nd) : Nat := if n.kind = 4 then 3 + (n.args.length - 1) else 1
theorem stepS_top {n : Nd} {S W : List (Nat × Nat)} {i : Nat} (h : atsS W = n.args) : stepS n (S ++ W) i = some (S ++ [(i, deepS W)]) := by
 have hl : n.args.length = W.length := by rw [← h]; simp [atsS]
 have e : (S ++ W).length - n.args.length = S.length := by rw [List.length_append]; omega
 unfold stepS
 rw [e, if_pos ⟨by rw [List.length_append]; omega, by rw [List.drop_left]; exact h⟩, List.take_left, List.drop_left]
structure Owns (own : Nd → Bool) (t : List Tok.Tk) : Prop where
 path : ∀ x ∈ t, x.kind = 1 → own ⟨1, x.text, 0, []⟩ = true
 num : ∀ x ∈ t, x.kind = 2 → own ⟨2, [], numOf x.text, []⟩ = true
 txt : ∀ x ∈ t, x.kind = 3 → own ⟨3, x.text, 0, []⟩ = true
 call : ∀ s as_, as_.length ≤ 16 → own ⟨4, s, 0, as_⟩ = true
theorem Owns.tail {own : Nd → Bool} {x : Tok.Tk} {t : List Tok.Tk} (h : Owns own (x :: t)) : Owns own t :=
 ⟨fun y hy => h.path y (by simp [hy]), fun y hy => h.num y (by simp [hy]), fun y hy => h.txt y (by simp [hy]), h.call⟩
theorem Owns.sub {own : Nd → Bool} {t t' : List Tok.Tk} (h : Owns own t) (hs : ∀ x ∈ t', x ∈ t) : Owns own t' :=
 ⟨fun y hy => h.path y (hs y hy), fun y hy => h.num y (hs y hy), fun y hy => h.txt y (hs y hy), h.call⟩
def OneMore (own : Nd → Bool) (lv : Nat) (S : List (Nat × Nat)) (t : List Tok.Tk) (l : List Nd) (l' : List Nd) (t' : List Tok.Tk) : Prop :=
 (∃ d, d ≤ lv ∧ shapeS own l' = some (S ++ [(l'.length - 1, d)])) ∧ l'.length ≠ 0 ∧ sumW wTok l' + t'.length ≤ sumW wTok l + t.length ∧ (∃ n l0, l' = l0 ++ [n]) ∧ ∀ x ∈ t', x ∈ t
theorem oneMore_leaf {own : Nd → Bool} {lv : Nat} {S : List (Nat × Nat)} {x : Tok.Tk} {r : List Tok.Tk} {l : List Nd} {n : Nd} (hS : shapeS own l = some S) (ho : own n = true) (ha : n.args = []) (hk : n.kind ≠ 4) : OneMore own (lv + 1) S (x :: r) l (l ++ [n]) r := by
 refine ⟨⟨1, by omega, ?_⟩, by simp, ?_, ⟨n, l, rfl⟩, fun y hy => by simp [hy]⟩
 ·rw [shapeS_snoc, hS, Option.bind_some, if_pos ho]
  have := stepS_top (n := n) (S := S) (W := []) (i := l.length) (by rw [ha]; rfl)
  rw [List.append_nil] at this
  rw [this]
  simp [deepS]
 ·rw [sumW_app, sumW_one]
  simp [wTok, hk]; omega
theorem argsP_more {own : Nd → Bool} {lv : Nat} {word : List UInt8} {T : List Tok.Tk} (hT : Owns own T)
  (hsub : ∀ (t : List Tok.Tk) (l l' : List Nd) (t' : List Tok.Tk) (S), (∀ x ∈ t, x ∈ T) → shapeS own l = some S → argP lv t l = .ok (l', t') → OneMore own lv S t l l' t') :
  ∀ (f : Nat) (args : List Int) (t : List Tok.Tk) (l l' : List Nd) (t' : List Tok.Tk) (S W : List (Nat × Nat)), (∀ x ∈ t, x ∈ T) → shapeS own l = some (S ++ W) → atsS W = args → (∀ w ∈ W, w.2 ≤ lv) → args.length ≤ 15 →
   argsP (argP lv) word f args t l = .ok (l', t') → (∃ d, d ≤ lv + 1 ∧ shapeS own l' = some (S ++ [(l'.length - 1, d)])) ∧ l'.length ≠ 0 ∧ sumW wTok l' + t'.length ≤ sumW wTok l + t.length + 2 + args.length ∧ (∃ n l0, l' = l0 ++ [n]) ∧ ∀ x ∈ t', x ∈ t
 | 0, args, t, l, l', t', S, W, _, _, _, _, _, h => by simp [argsP] at h
 | f + 1, args, t, l, l', t', S, W, ht, hS, hW, hd, h15, h => by
  unfold argsP at h
  cases hx : argP lv t l with
  | error e => rw [hx] at h; cases h
  | ok p =>
   obtain ⟨l1, t1⟩ := p
   rw [hx] at h
   simp only at h
   obtain ⟨⟨d1, hd1, hs1⟩, hl1, hw1, _, hm1⟩ := hsub t l l1 t1 _ ht hS hx
   rw [List.append_assoc] at hs1
   have hats : atsS (W ++ [(l1.length - 1, d1)]) = args ++ [(l1.length : Int) - 1] := by
    simp only [atsS, List.map_append, List.map_cons, List.map_nil]
    congr 1
    ·congr 1; omega
   have hdd : ∀ w ∈ W ++ [(l1.length - 1, d1)], w.2 ≤ lv := fun w hw => by
    rcases List.mem_append.1 hw with hw | hw
    ·exact hd w hw
    ·simp at hw; subst hw; exact hd1
   cases t1 with
   | nil => cases h
   | cons y r =>
    simp only at h
    split at h
    ·rename_i hy
     cases h
     refine ⟨⟨deepS (W ++ [(l1.length - 1, d1)]), deepS_le hdd, ?_⟩, by simp, ?_, ⟨_, _, rfl⟩, fun x hx => hm1 x (by simp [hx])⟩
     ·rw [shapeS_snoc, hs1, Option.bind_some, if_pos (hT.call _ _ (by simp; omega)), stepS_top hats]
      simp
     ·rw [sumW_app, sumW_one]
      simp [wTok] at hw1 ⊢
      omega
    ·split at h
     ·rename_i hy6
      split at h
      ·cases h
      ·rename_i hmany
       obtain ⟨q1, q2, q3, q4, q5⟩ := argsP_more hT hsub f _ r l1 l' t' S _ (fun x hx => ht x (hm1 x (by simp [hx]))) hs1 hats hdd (by simp; omega) h
       refine ⟨q1, q2, ?_, q4, fun x hx => hm1 x (by simp [q5 x hx])⟩
       simp at hw1 q3
       omega
     ·cases h
theorem argP_more {own : Nd → Bool} {T : List Tok.Tk} (hT : Owns own T) : ∀ (lv : Nat) (t : List Tok.Tk) (l l' : List Nd) (t' : List Tok.Tk) (S : List (Nat × Nat)), (∀ x ∈ t, x ∈ T) → shapeS own l = some S → argP lv t l = .ok (l', t') → OneMore own lv S t l l' t'
 | lv, [], l, l', t', S, _, _, h => by cases lv <;> simp [argP] at h
 | 0, x :: r, l, l', t', S, _, _, h => by
  unfold argP at h
  split at h <;> cases h
 | lv + 1, x :: r, l, l', t', S, ht, hS, h => by
  unfold argP at h
  split at h
  ·cases h
  rename_i hk
  simp only at h
  have hxT := ht x (by simp)
  split at h
  ·rename_i h2
   cases h
   exact oneMore_leaf hS (hT.num x hxT h2) rfl (by simp)
  split at h
  ·rename_i h3
   cases h
   exact oneMore_leaf hS (hT.txt x hxT h3) rfl (by simp)
  rename_i h2 h3
  have h1 : x.kind = 1 := by
   simp only [h2, h3, or_false] at hk
   exact Classical.byContradiction fun h => hk h
  cases r with
  | nil => cases h; exact oneMore_leaf hS (hT.path x hxT h1) rfl (by simp)
  | cons y r' =>
   simp only at h
   split at h
   ·cases h; exact oneMore_leaf hS (hT.path x hxT h1) rfl (by simp)
   cases r' with
   | nil => cases h
   | cons z r'' =>
    simp only at h
    split at h
    ·cases h
     refine ⟨⟨1, by omega, ?_⟩, by simp, ?_, ⟨_, _, rfl⟩, fun w hw => by simp [hw]⟩
     ·rw [shapeS_snoc, hS, Option.bind_some, if_pos (hT.call _ _ (by simp))]
      have := stepS_top (n := ⟨4, x.text, 0, []⟩) (S := S) (W := []) (i := l.length) rfl
      rw [List.append_nil] at this
      rw [this]; simp [deepS]
     ·rw [sumW_app, sumW_one]
      simp [wTok]; omega
    ·obtain ⟨q1, q2, q3, q4, q5⟩ := argsP_more hT (argP_more hT lv) _ [] (z :: r'') l l' t' S [] (fun w hw => ht w (List.mem_cons_of_mem _ (List.mem_cons_of_mem _ hw))) (by simpa using hS) rfl (by simp) (by simp) h
     refine ⟨q1, q2, ?_, q4, fun w hw => List.mem_cons_of_mem _ (List.mem_cons_of_mem _ (q5 w hw))⟩
     simp at q3 ⊢
     omega
structure Plain (P : Int → List UInt8) (n : Nd) : Prop where
 kind : n.kind = 1 ∨ n.kind = 2 ∨ n.kind = 3 ∨ n.kind = 4
 num : n.kind = 2 → n.text = [] ∧ numOf (P n.num) = n.num
 bare : n.kind ≠ 2 → n.num = 0
 none : n.kind ≠ 4 → n.args = []
 few : n.args.length ≤ 16
theorem take_snoc {l : List Nd} {i : Nat} {n : Nd} (h : l[i]? = some n) : l.take i ++ [n] = l.take (i + 1) := by rw [List.take_add_one, h]; rfl
end Go.Tgt
end
section
set_option maxHeartbeats 4000000
namespace Go.Tgt
def ownL (n : Nd) : Bool := decide (n.args.length ≤ 16) && (decide (n.kind ≠ 1) || decide (n.text.length ≤ 1024))
theorem ownL_owns {t : List Tok.Tk} (ht : TkOk t) : Owns ownL t :=
 ⟨fun x hx _ => by simp [ownL, ht.txt x hx], fun x hx _ => by simp [ownL], fun x hx _ => by simp [ownL], fun s as_ h => by simp [ownL, h]⟩
theorem inL_of {own : Nd → Bool} {l : List Nd} {S : List (Nat × Nat)} (hS : shapeS own l = some S) (ho : ∀ n, own n = true → n.args.length ≤ 1000 ∧ (n.kind = 1 → n.text.length ≤ 1000000)) : ∀ n ∈ l, InL l n := by
 intro n hn
 obtain ⟨B, D, hL, _⟩ := linked_of own l S hS
 obtain ⟨i, hi⟩ := List.getElem?_of_mem hn
 have hlt := (List.getElem?_eq_some_iff.1 hi).1
 obtain ⟨h1, h2⟩ := ho n (hL.own i n hi)
 refine ⟨h1, h2, fun a ha => ?_⟩
 obtain ⟨g1, g2, _⟩ := (hL.chain i n hi).mem a ha
 exact ⟨g1, by omega⟩
theorem parsed_inL {t : List Tok.Tk} (ht : TkOk t) {lv : Nat} {l : List Nd} {r : List Tok.Tk} (h : argP lv t [] = .ok (l, r)) : ∀ n ∈ l, InL l n := by
 obtain ⟨⟨d, _, hS⟩, _⟩ := argP_more (ownL_owns ht) lv t [] l r [] (fun _ h => h) rfl h
 refine inL_of hS fun n hn => ?_
 simp only [ownL, Bool.and_eq_true, Bool.or_eq_true, decide_eq_true_eq] at hn
 exact ⟨by omega, fun hk => by
  rcases hn.2 with h | h
  ·exact absurd hk h
  ·omega⟩
end Go.Tgt
namespace Go.Proofs.YtalfhchbmhoagaaGreatDoor
open Go.Abs Go.Tgt Go.Trail
variable {G : Globs}
theorem accI_finT {te size : Nat} {σ : Store} {v : AV} {l : List (List AV)} (h : AccI te size σ v l) (m : Nat) : finT σ m v = some (.lst l) := by
 have := h.fin1 m
 rcases h with ⟨rfl, rfl⟩ | ⟨h1, id, rfl, h3⟩
 ·rfl
 ·simpa [finT] using this
theorem check_zero (E : List UInt8 → Nat) (l : List Nd) : ∀ (r : List Nd) (j : Nat), (∀ n ∈ r.take j, nodeS E l n = 0) → checkS E l r = checkS E l (r.drop j)
 | [], j, _ => by simp
 | n :: r, 0, _ => rfl
 | n :: r, j + 1, h => by
  rw [checkS, if_pos (h n (by simp)), check_zero E l r j fun m hm => h m (by simp [hm])]; rfl
theorem tcheck_ok [GSpcT] [GFam] (l : List Nd) (hl : l.length ≤ 1000000) (hin : ∀ n ∈ l, InL l n) : PCalls Tryz.prog n_target_check [.lst (ndEls l)] (fun r => r = .int .i64 (checkS nodE l l)) := by
 refine pcalls_of_awp hmix c_target_check rfl ?_
 have hnl := ndEls_len l
 simp [a_target_check, hnl]
 refine lp_startx (fun x f σ => ∃ j : Nat, x = l.length - j ∧ j ≤ l.length ∧ f 0 = .lst (ndEls l) ∧ f 6 = .lst (ndEls l) ∧ f 7 = .int .i64 l.length ∧ f 8 = .int .i64 j ∧ ∀ n ∈ l.take j, nodeS nodE l n = 0) l.length ⟨0, by simp⟩ ?_
 rintro x f σ ⟨j, hx, hj, f0, f6, f7, f8, hz⟩
 have hcz := check_zero nodE l l j hz
 by_cases hlt : j < l.length
 ·obtain ⟨n, hn⟩ : ∃ n, l[j]? = some n := ⟨_, List.getElem?_eq_getElem hlt⟩
  have hge := ndEls_get hn
  obtain ⟨g1, g2⟩ := List.getElem?_eq_some_iff.1 hge
  have hlti : (j : Int) < (l.length : Int) := by omega
  have hw : IntKind.i64.wrap ((j : Int) + 1) = (j : Int) + 1 := wrap_i64 (by omega) (by omega)
  have hno := tnode_ok (G := G) l n hl (hin n (List.mem_of_getElem? hn))
  rw [ndA_eq] at hno
  have hdr : l.drop j = n :: l.drop (j + 1) := by
   obtain ⟨h1, rfl⟩ := List.getElem?_eq_some_iff.1 hn
   exact List.drop_eq_getElem_cons h1
  rw [hdr, checkS] at hcz
  simp [f0, f6, f7, f8, hlt, hlti, hge, g1, g2, hnl, boxOp, splice]
  refine ac_same hno (by simp) ?_
  rintro r rfl
  by_cases h0 : nodeS nodE l n = 0
  ·simp [h0, f8, hw]
   refine nx_intro (l.length - (j + 1)) (by omega) ⟨j + 1, rfl, by omega, by simp [f0], by simp [f6], by simp [f7], by simp, ?_⟩
   intro m hm
   rw [List.take_add_one, hn] at hm
   simp only [Option.toList_some, List.mem_append, List.mem_singleton] at hm
   rcases hm with hm | rfl
   ·exact hz m hm
   ·exact h0
  ·have h0' : ¬ (nodeS nodE l n : Int) = 0 := by omega
   rw [if_neg h0] at hcz
   simp [h0, h0', hcz]
 ·have hjl : j = l.length := by omega
  subst hjl
  rw [List.drop_length, checkS] at hcz
  simp [f7, f8, hcz]
def treeAV : Except Nat (List Nd) → AV
 | .ok l => .tup [.lst (ndEls l), .int .i64 0]
 | .error e => .tup [.lst [], .int .i64 e]
theorem split_ne {s : List UInt8} {e : Nat} (h : Tok.split s = .error e) : e ≠ 0 := by
 unfold Tok.split at h
 repeat' split at h
 all_goals first | (cases h; done) | (cases h; decide)
theorem tParse_ok [GDec] [GSpcT] [GFam] (s : List UInt8) (hs : s.length ≤ 9223372036854775807) (htk : ∀ t, Tok.split s = .ok t → TkOk t) : PCalls Tryz.prog n_target_Parse [.str s] (fun r => r = treeAV (parseS nodE s)) := by
 refine pcalls_of_awp hmix c_target_Parse rfl ?_
 simp [a_target_Parse]
 refine ac_same (tsplit_ok s hs) (by simp) ?_
 rintro r rfl
 unfold parseS
 cases hsp : Tok.split s with
 | error e =>
  have he := split_ne hsp
  have he' : ¬ (e : Int) = 0 := by omega
  simp [splitAV, he, he', treeAV]
 | ok t =>
  have ht := htk t hsp
  have h256 := ht.few
  have hel := tkEls_len' t
  simp [splitAV, boxOp]
  obtain ⟨σ, eσ⟩ : ∃ σ : Store, σ = [.var 47 [.lst (tkEls t), .int .i64 0, .nils]] := ⟨_, rfl⟩
  have hp : σ[0]? = some (parE t 0 .nils) := by rw [eσ]; rfl
  have ha : AccI 44 4 σ .nils (ndEls []) := accI_nil
  simp only [← eσ]
  refine ac_lent (peek_okT t (by omega) 0 0 (by omega) (by omega) _) (.cons (coe_par hp ha) (.cons (.pure _ (by simp [AV.pure])) .nil)) ?_
  rintro r rfl
  simp only [Nat.add_zero]
  cases t with
  | nil => simp [kindAt, treeAV]
  | cons x tl =>
   by_cases hx : x.kind = 1
   ·have hka : kindAt (x :: tl) 0 = 1 := by simp [kindAt, hx]
    simp [hka, hx]
    have harg := arg_at (G := G) 12 σ 0 (x :: tl) 0 .nils [] ht hp ha (by omega) (by simp) (by omega)
    simp at harg
    refine ac_eff harg ?_
    intro r σ2 hr
    cases hpp : argP 12 (x :: tl) [] with
    | error e =>
     rw [hpp] at hr
     obtain ⟨rfl, _⟩ := hr
     have he := argP_ne 12 _ _ _ hpp
     have he' : ¬ (e : Int) = 0 := by omega
     simp [he, he', hx, treeAV]
    | ok y =>
     obtain ⟨l, t2⟩ := y
     rw [hpp] at hr
     obtain ⟨rfl, k, hk0, hkt, rfl, hlk, V, hpV, haV, _⟩ := hr
     have hpV' : σ2[0]? = some (.var 47 [.lst (tkEls (x :: tl)), .int .i64 k, V]) := hpV
     have hone := haV.one
     have hfin := accI_finT haV
     by_cases hkl : k < (x :: tl).length
     ·have hkl' : (k : Int) < (tl.length : Int) + 1 := by simp at hkl; omega
      have hne : ¬ (x :: tl).drop k = [] := by
       intro h
       have := congrArg List.length h
       rw [List.length_drop] at this; simp only [List.length_nil] at this; omega
      simp only [List.length_cons] at hkl
      simp [hpV', hel, hkl, hkl', hne, hx, treeAV]
     ·have hkl' : ¬ (k : Int) < (tl.length : Int) + 1 := by simp at hkl; omega
      have hnil : (x :: tl).drop k = [] := List.drop_of_length_le (by omega)
      have hin := parsed_inL ht hpp
      have hchk := tcheck_ok (G := G) l (by omega) hin
      simp only [List.length_cons] at hkl
      simp [hpV', hel, hkl, hkl', hnil, hone]
      refine ac_lent hchk (.cons (haV.coe true) .nil) ?_
      rintro r rfl
      by_cases h0 : checkS nodE l l = 0
      ·simp [h0, hpV', hone, hfin, hx, hkl, treeAV]
      ·have h0' : ¬ (checkS nodE l l : Int) = 0 := by omega
       simp [h0, h0', hx, hkl, treeAV]
   ·have hka : kindAt (x :: tl) 0 = x.kind := by simp [kindAt]
    simp [hka, hx, treeAV]
end Go.Proofs.YtalfhchbmhoagaaGreatDoor
end
section
set_option maxHeartbeats 4000000
namespace Go.Glob
theorem cls_some {n : Nat} {ne : Bool} {s : List UInt8} {rs : List (UInt8 × UInt8)} {r : List UInt8} (h : cls n ne s = some (rs, r)) :
  ∃ m c t, n = m + 1 ∧ s = c :: t ∧ ((c = 93 ∧ ne = true ∧ rs = [] ∧ r = t) ∨ (c ≠ 93 ∧ nb c = true ∧
   ((∃ d h' t' rs', t = d :: h' :: t' ∧ d = 45 ∧ nb h' = true ∧ ¬ h' < c ∧ cls m true t' = some (rs', r) ∧ rs = (c, h') :: rs') ∨
    (rng t = none ∧ ∃ rs', cls m true t = some (rs', r) ∧ rs = (c, c) :: rs')))) := by
 cases n with
 | zero => simp [cls] at h
 | succ m =>
  cases s with
  | nil => simp [cls] at h
  | cons c t =>
   refine ⟨m, c, t, rfl, rfl, ?_⟩
   by_cases h93 : c = 93 ∧ ne = true
   ·rw [cls, if_pos h93] at h
    cases h
    exact .inl ⟨h93.1, h93.2, rfl, rfl⟩
   ·rw [cls, if_neg h93] at h
    right
    cases hn : nb c with
    | false => rw [hn] at h; simp at h
    | true =>
     rw [hn] at h
     simp only [Bool.true_eq_false, if_false] at h
     refine ⟨fun e => by subst e; exact absurd hn (by decide), rfl, ?_⟩
     cases hr : rng t with
     | none =>
      rw [hr] at h
      simp only at h
      cases hc : cls m true t with
      | none => rw [hc] at h; cases h
      | some v =>
       rw [hc] at h
       simp only [Option.map_some, Option.some.injEq, Prod.mk.injEq] at h
       obtain ⟨h1, h2⟩ := h
       exact .inr ⟨rfl, v.1, by rw [← h2], h1.symm⟩
     | some v =>
      obtain ⟨h', t'⟩ := v
      rw [hr] at h
      simp only at h
      have hrt : ∃ d, t = d :: h' :: t' ∧ d = 45 ∧ nb h' = true := by
       match t, hr with
       | d :: e :: t2, hr =>
        rw [rng] at hr
        split at hr
        ·rename_i hq
         cases hr
         exact ⟨d, rfl, hq.1, hq.2⟩
        ·cases hr
      obtain ⟨d, ht, hd, hnh⟩ := hrt
      split at h
      ·cases h
      rename_i hlt
      cases hc : cls m true t' with
      | none => rw [hc] at h; cases h
      | some v =>
       rw [hc] at h
       simp only [Option.map_some, Option.some.injEq, Prod.mk.injEq] at h
       obtain ⟨h1, h2⟩ := h
       exact .inl ⟨d, h', t', v.1, ht, hd, hnh, hlt, by rw [hc, ← h2], h1.symm⟩
end Go.Glob
namespace Go.Proofs.YtalfhchbmhoagaaGreatDoor
open Go.Abs Go.Glob
variable {G : Globs}
theorem u8_ne {c n : UInt8} {z : Int} (hz : z = (n.toNat : Int)) (h : ¬ c = n) : ¬ ((c.toNat : Int) = z) := fun e => h (UInt8.toNat_inj.1 (by omega))
theorem rng_no {d h : UInt8} {t : List UInt8} (hr : rng (d :: h :: t) = none) (hd : d = 45) : nb h = false := by
 subst hd
 rw [rng] at hr
 split at hr
 ·cases hr
 ·rename_i hq
  cases hn : nb h with
  | false => rfl
  | true => exact absurd ⟨rfl, hn⟩ hq
theorem drop_two {s t : List UInt8} {k : Nat} {c d h : UInt8} (hs : s.drop k = c :: d :: h :: t) : s[k]? = some c ∧ s[k + 1]? = some d ∧ s[k + 2]? = some h ∧ s.drop (k + 3) = t ∧ s.drop (k + 1) = d :: h :: t ∧ k + 3 ≤ s.length := by
 have hl := congrArg List.length hs
 rw [List.length_drop] at hl
 simp only [List.length_cons] at hl
 refine ⟨?_, ?_, ?_, ?_, ?_, by omega⟩
 ·have := congrArg (fun l => l[0]?) hs; simpa using this
 ·have := congrArg (fun l => l[1]?) hs; simpa using this
 ·have := congrArg (fun l => l[2]?) hs; simpa using this
 ·have := congrArg (List.drop 3) hs; simpa [List.drop_drop, Nat.add_comm] using this
 ·have := congrArg (List.drop 1) hs; simpa [List.drop_drop, Nat.add_comm] using this
theorem drop_one {s t : List UInt8} {k : Nat} {c : UInt8} (hs : s.drop k = c :: t) : s[k]? = some c ∧ s.drop (k + 1) = t ∧ k < s.length := by
 have hl := congrArg List.length hs
 rw [List.length_drop] at hl
 simp only [List.length_cons] at hl
 refine ⟨?_, ?_, by omega⟩
 ·have := congrArg (fun l => l[0]?) hs; simpa using this
 ·have := congrArg (List.drop 1) hs; simpa [List.drop_drop, Nat.add_comm] using this
theorem rclass_ok (p : List UInt8) (i n : Nat) (rs : List (UInt8 × UInt8)) (r : List UInt8) (h : cls n false (p.drop i) = some (rs, r)) (hp : p.length ≤ 1000000) :
  PCalls Tryz.prog n_isobarref15_class [.str p, .int .i64 i] (fun v => v = .int .i64 (p.length - r.length : Nat)) := by
 refine pcalls_of_awp hmix c_isobarref15_class rfl ?_
 simp [a_isobarref15_class]
 refine lp_startx (fun x f σ => ∃ (k m : Nat) (rs' : List (UInt8 × UInt8)), x = p.length - k ∧ i ≤ k ∧ cls m (decide (i < k)) (p.drop k) = some (rs', r) ∧ f 0 = .str p ∧ f 1 = .int .i64 k ∧ f 5 = .int .i64 i ∧ σ = []) (p.length - i) ?_ ?_
 ·exact ⟨i, n, rs, rfl, Nat.le_refl _, by simpa using h, by simp, by simp, by simp, rfl⟩
 rintro x f σ ⟨k, m0, rs', hx, hik, hcls, h0, h1, h5, rfl⟩
 obtain ⟨m, c, t, rfl, hd, hcase⟩ := cls_some hcls
 obtain ⟨hc, hdk, hlt⟩ := drop_one hd
 obtain ⟨_, hc2⟩ := List.getElem?_eq_some_iff.1 hc
 have hlt' : (k : Int) < (p.length : Int) := by omega
 have hwk : IntKind.i64.wrap ((k : Int) + 1) = (k : Int) + 1 := wrap_i64 (by omega) (by omega)
 have hwk2 : IntKind.i64.wrap ((k : Int) + 2) = (k : Int) + 2 := wrap_i64 (by omega) (by omega)
 have hwk3 : IntKind.i64.wrap ((k : Int) + 2 + 1) = (k : Int) + 3 := by rw [wrap_i64 (by omega) (by omega)]; omega
 have hwl : IntKind.i64.wrap ((p.length : Int) - 2) = (p.length : Int) - 2 := wrap_i64 (by omega) (by omega)
 have t1 : ((k : Int) + 1).toNat = k + 1 := by omega
 have t2 : ((k : Int) + 2).toNat = k + 2 := by omega
 have p1 : (0 : Int) ≤ (k : Int) + 1 := by omega
 have p2 : (0 : Int) ≤ (k : Int) + 2 := by omega
 rcases hcase with ⟨rfl, hne, rfl, rfl⟩ | ⟨h93, hnb, hcase⟩
 ·have hik2 : i < k := by simpa using hne
  have hki : ¬ (k : Int) = (i : Int) := by omega
  have hki' : ¬ k = i := by omega
  have hge : ¬ p.length ≤ k := by omega
  have hge' : ¬ (p.length : Int) ≤ (k : Int) := by omega
  have hfin : ((p.length - (p.drop (k + 1)).length : Nat) : Int) = (k : Int) + 1 := by simp; omega
  rw [← hdk]
  simp [h0, h1, h5, hlt, hlt', hc, hc2, hki, hki', hge, hge', hwk]
  simp at hfin
  omega
 ·have h93' : ¬ ((c.toNat : Int) = 93) := u8_ne (n := 93) rfl h93
  simp [h0, h1, h5, hlt, hlt', hc, hc2, h93']
  refine ac_same (refByte_ok c) (by simp) ?_
  rintro v rfl
  rcases hcase with ⟨d, h', t', rs2, rfl, rfl, hnh, hle, hcl2, rfl⟩ | ⟨hr, rs2, hcl2, rfl⟩
  ·obtain ⟨g0, g1, g2, g3, g4, g5⟩ := drop_two hd
   have hk2 : (k : Int) < (p.length : Int) - 2 := by omega
   have hle' : ¬ h'.toNat < c.toNat := fun hx => hle (UInt8.lt_iff_toNat_lt.2 hx)
   have hle2 : ¬ (h'.toNat : Int) < (c.toNat : Int) := by omega
   simp [h0, h1, h5, hnb, hwl, hk2, hwk, hwk2, hwk3, t1, t2, p1, p2, g1, g2]
   refine ac_same (refByte_ok h') (by simp) ?_
   rintro v rfl
   simp [h0, h1, h5, hnb, hnh, hwl, hk2, hwk, hwk2, hwk3, t1, t2, p1, p2, g1, g2, hc, hle', hle2]
   refine nx_intro (p.length - (k + 3)) (by omega) ⟨k + 3, m, rs2, rfl, by omega, ?_, by simp [h0], by simp, by simp [h5], rfl⟩
   have : decide (i < k + 3) = true := by simp; omega
   rw [this, g3]; exact hcl2
  ·have hstep : cls m (decide (i < k + 1)) (p.drop (k + 1)) = some (rs2, r) := by
    have : decide (i < k + 1) = true := by simp; omega
    rw [this, hdk]; exact hcl2
   by_cases hk2 : (k : Int) < (p.length : Int) - 2
   ·obtain ⟨d, h', t', ht⟩ : ∃ d h' t', t = d :: h' :: t' := by
     have hl : t.length = p.length - (k + 1) := by rw [← hdk]; simp
     match t, hl with
     | [], hl => simp at hl; omega
     | [_], hl => simp at hl; omega
     | d :: h' :: t', _ => exact ⟨d, h', t', rfl⟩
    subst ht
    obtain ⟨g0, g1, g2, g3, g4, g5⟩ := drop_two hd
    by_cases h45 : d = 45
    ·have hnh := rng_no hr h45
     subst h45
     simp [h0, h1, h5, hnb, hwl, hk2, hwk, hwk2, hwk3, t1, t2, p1, p2, g1, g2]
     refine ac_same (refByte_ok h') (by simp) ?_
     rintro v rfl
     simp [h0, h1, h5, hnb, hnh, hwl, hk2, hwk]
     refine nx_intro (p.length - (k + 1)) (by omega) ⟨k + 1, m, rs2, rfl, by omega, hstep, by simp [h0], by simp, by simp [h5], rfl⟩
    ·have h45' : ¬ ((d.toNat : Int) = 45) := u8_ne (n := 45) rfl h45
     simp [h0, h1, h5, hnb, hwl, hk2, hwk, hwk2, hwk3, t1, t2, p1, p2, g1, g2, h45']
     refine nx_intro (p.length - (k + 1)) (by omega) ⟨k + 1, m, rs2, rfl, by omega, hstep, by simp [h0], by simp, by simp [h5], rfl⟩
   ·simp [h0, h1, h5, hnb, hwl, hk2, hwk]
    refine nx_intro (p.length - (k + 1)) (by omega) ⟨k + 1, m, rs2, rfl, by omega, hstep, by simp [h0], by simp, by simp [h5], rfl⟩
end Go.Proofs.YtalfhchbmhoagaaGreatDoor
end
section
set_option maxHeartbeats 8000000
namespace Go.Proofs.YtalfhchbmhoagaaGreatDoor
open Go.Abs Go.Glob
variable {G : Globs}
end Go.Proofs.YtalfhchbmhoagaaGreatDoor
end
section
set_option maxHeartbeats 8000000
namespace Go.Glob
theorem alts_some {n : Nat} {s : List UInt8} {xs : List (List Pc)} {r : List UInt8} {d : Nat} (h : alts n s = some (xs, r, d)) :
  ∃ m a c t d1, n = m + 1 ∧ pcs m s = some (a, c :: t, d1) ∧ ((c = 125 ∧ xs = [a] ∧ r = t ∧ d = d1) ∨ (c ≠ 125 ∧ ∃ as' d2, alts m t = some (as', r, d2) ∧ xs = a :: as' ∧ d = max d1 d2)) := by
 cases n with
 | zero => simp [alts] at h
 | succ m =>
  rw [alts_step] at h
  cases hp : pcs m s with
  | none => rw [hp] at h; cases h
  | some v =>
   obtain ⟨a, r1, d1⟩ := v
   rw [hp] at h
   simp only [Option.bind_some] at h
   cases r1 with
   | nil => cases h
   | cons c t =>
    simp only at h
    by_cases hc : c = 125
    ·rw [if_pos hc] at h
     cases h
     exact ⟨m, a, c, _, _, rfl, hp, .inl ⟨hc, rfl, rfl, rfl⟩⟩
    ·rw [if_neg hc] at h
     cases ha : alts m t with
     | none => rw [ha] at h; cases h
     | some w =>
      obtain ⟨as', r2, d2⟩ := w
      rw [ha] at h
      cases h
      exact ⟨m, a, c, t, d1, rfl, hp, .inr ⟨hc, as', d2, ha, rfl, rfl⟩⟩
theorem pcs_some {n : Nat} {s : List UInt8} {l : List Pc} {r : List UInt8} {d : Nat} (h : pcs n s = some (l, r, d)) : (s = [] ∧ l = [] ∧ r = [] ∧ d = 0) ∨ ∃ m c t, n = m + 1 ∧ s = c :: t ∧
  (((c = 44 ∨ c = 125) ∧ l = [] ∧ r = c :: t ∧ d = 0) ∨ (¬ (c = 44 ∨ c = 125) ∧
   ((c = 63 ∧ ∃ l', pcs m t = some (l', r, d) ∧ l = .q :: l') ∨
    (c = 42 ∧ ∃ l', pcs m t = some (l', r, d) ∧ l = .star :: l') ∨
    (nb c = true ∧ ∃ l', pcs m t = some (l', r, d) ∧ l = .lit c :: l') ∨
    (c = 91 ∧ ∃ rs r1 l', cls m false t = some (rs, r1) ∧ pcs m r1 = some (l', r, d) ∧ l = .cls rs ((c :: t).take (t.length + 1 - r1.length)) :: l') ∨
    (c = 123 ∧ ∃ xs r1 d1 l' d2, alts m t = some (xs, r1, d1) ∧ pcs m r1 = some (l', r, d2) ∧ l = .br xs :: l' ∧ d = max (d1 + 1) d2)))) := by
 cases n with
 | zero => simp [pcs] at h
 | succ m =>
  cases s with
  | nil => rw [pcs_end] at h; cases h; exact .inl ⟨rfl, rfl, rfl, rfl⟩
  | cons c t =>
   refine .inr ⟨m, c, t, rfl, rfl, ?_⟩
   by_cases hst : c = 44 ∨ c = 125
   ·rw [pcs_stop hst] at h
    cases h
    exact .inl ⟨hst, rfl, rfl, rfl⟩
   refine .inr ⟨hst, ?_⟩
   by_cases h63 : c = 63
   ·subst h63
    rw [pcs_q] at h
    cases hp : pcs m t with
    | none => rw [hp] at h; cases h
    | some v => obtain ⟨l', r', d'⟩ := v; rw [hp] at h; cases h; exact .inl ⟨rfl, _, rfl, rfl⟩
   by_cases h42 : c = 42
   ·subst h42
    rw [pcs_star] at h
    cases hp : pcs m t with
    | none => rw [hp] at h; cases h
    | some v => obtain ⟨l', r', d'⟩ := v; rw [hp] at h; cases h; exact .inr (.inl ⟨rfl, _, rfl, rfl⟩)
   by_cases h91 : c = 91
   ·subst h91
    rw [pcs_cls] at h
    cases hc : cls m false t with
    | none => rw [hc] at h; cases h
    | some u =>
     obtain ⟨rs, r1⟩ := u
     rw [hc] at h
     simp only [Option.bind_some] at h
     cases hp : pcs m r1 with
     | none => rw [hp] at h; cases h
     | some v => obtain ⟨l', r', d'⟩ := v; rw [hp] at h; cases h; exact .inr (.inr (.inr (.inl ⟨rfl, rs, r1, _, rfl, hp, rfl⟩)))
   by_cases h123 : c = 123
   ·subst h123
    rw [pcs_br] at h
    cases ha : alts m t with
    | none => rw [ha] at h; cases h
    | some u =>
     obtain ⟨xs, r1, d1⟩ := u
     rw [ha] at h
     simp only [Option.bind_some] at h
     cases hp : pcs m r1 with
     | none => rw [hp] at h; cases h
     | some v => obtain ⟨l', r', d'⟩ := v; rw [hp] at h; cases h; exact .inr (.inr (.inr (.inr ⟨rfl, xs, r1, d1, _, _, rfl, hp, rfl, rfl⟩)))
   cases hn : nb c with
   | false => rw [pcs_no hst h63 h42 h91 h123 hn] at h; cases h
   | true =>
    rw [pcs_lit hn] at h
    cases hp : pcs m t with
    | none => rw [hp] at h; cases h
    | some v => obtain ⟨l', r', d'⟩ := v; rw [hp] at h; cases h; exact .inr (.inr (.inl ⟨rfl, _, rfl, rfl⟩))
theorem left_at {p r : List UInt8} {k m : Nat} {l : List Pc} {d : Nat} (h : pcs m (p.drop k) = some (l, r, d)) (hk : k ≤ p.length) : p.drop (p.length - r.length) = r ∧ k ≤ p.length - r.length ∧ r.length ≤ p.length := by
 obtain ⟨h1, h2⟩ := pcs_drop h
 exact ⟨h1, by omega, by omega⟩
end Go.Glob
namespace Go.Proofs.YtalfhchbmhoagaaGreatDoor
open Go.Abs Go.Glob
variable {G : Globs}
theorem rform_ok : ∀ (L : Nat) (p : List UInt8) (i m : Nat) (l : List Pc) (r : List UInt8) (d : Nat), p.length - i ≤ L → i ≤ p.length → p.length ≤ 1000000 → d ≤ 1000000 → pcs m (p.drop i) = some (l, r, d) →
  PCalls Tryz.prog n_isobarref15_form [.str p, .int .i64 i] (fun v => v = .tup [.int .i64 (p.length - r.length : Nat), .int .i64 d, .int .i64 (cnt 1 l)]) := by
 intro L
 induction L with
 | zero =>
  intro p i m l r d hL hi hp hdl h
  have he : p.drop i = [] := List.drop_of_length_le (by omega)
  rw [he] at h
  rcases pcs_some h with ⟨_, rfl, rfl, rfl⟩ | ⟨_, _, _, _, h2, _⟩
  ·refine pcalls_of_awp hmix c_isobarref15_form rfl ?_
   simp [a_isobarref15_form]
   refine lp_startx (fun x f σ => f 0 = .str p ∧ f 1 = .int .i64 i ∧ f 7 = .int .i64 0 ∧ f 8 = .int .i64 1 ∧ σ = []) 0 ⟨by simp, by simp, by simp, by simp, rfl⟩ ?_
   rintro x f σ ⟨h0, h1, h7, h8, rfl⟩
   have hlt : ¬ (i : Int) < (p.length : Int) := by omega
   have hlt' : ¬ i < p.length := by omega
   have e : i = p.length := by omega
   simp [h0, h1, h7, h8, hlt, hlt', cnt]
   omega
  ·cases h2
 | succ L ih =>
  intro p i m l r d hL hi hp hdl h
  refine pcalls_of_awp hmix c_isobarref15_form rfl ?_
  simp [a_isobarref15_form]
  refine lp_startx (fun x f σ => ∃ (k m' : Nat) (l2 : List Pc) (d1 d2 n1 : Nat), x = p.length - k ∧ i ≤ k ∧ k ≤ p.length ∧ pcs m' (p.drop k) = some (l2, r, d2) ∧ d = max d1 d2 ∧ n1 ≤ 65 ∧ cnt 1 l = cnt n1 l2 ∧ f 0 = .str p ∧ f 1 = .int .i64 k ∧ f 7 = .int .i64 d1 ∧ f 8 = .int .i64 n1 ∧ σ = []) (p.length - i) ?_ ?_
  ·exact ⟨i, m, l, 0, d, 1, rfl, Nat.le_refl _, hi, h, by omega, by omega, rfl, by simp, by simp, by simp, by simp, rfl⟩
  rintro x f σ ⟨k, m', l2, d1, d2, n1, hx, hik, hkl, hpc, hd, hn1, hcnt, h0, h1, h7, h8, rfl⟩
  obtain ⟨lf1, lf2, lf3⟩ := left_at hpc hkl
  rcases pcs_some hpc with ⟨he, rfl, rfl, rfl⟩ | ⟨m', c, t, rfl, hdk, hcase⟩
  ·have hke : p.length ≤ k := by have := congrArg List.length he; simp at this; omega
   have hlt : ¬ (k : Int) < (p.length : Int) := by omega
   have hlt' : ¬ k < p.length := by omega
   have hkp : k = p.length := by omega
   have hcn : cnt 1 l = n1 := by rw [hcnt]; simp [cnt]
   have hdd : d = d1 := by omega
   simp [h0, h1, h7, h8, hlt, hlt', hcn, hdd]
   omega
  ·obtain ⟨hc, hdk1, hlt⟩ := drop_one hdk
   obtain ⟨_, hc2⟩ := List.getElem?_eq_some_iff.1 hc
   have hlt' : (k : Int) < (p.length : Int) := by omega
   have hwk : IntKind.i64.wrap ((k : Int) + 1) = (k : Int) + 1 := wrap_i64 (by omega) (by omega)
   rcases hcase with ⟨hst, rfl, rfl, rfl⟩ | ⟨hst, hcase⟩
   ·have hcn : cnt 1 l = n1 := by rw [hcnt]; simp [cnt]
    have hdd : d = d1 := by omega
    have hr : ((p.length - (c :: t).length : Nat) : Int) = (k : Int) := by
     have : (c :: t).length = p.length - k := by rw [← hdk]; simp
     omega
    rw [hr]
    rcases hst with rfl | rfl
    ·simp [h0, h1, h7, h8, hlt, hlt', hc, hc2, hcn, hdd]
    ·simp [h0, h1, h7, h8, hlt, hlt', hc, hc2, hcn, hdd]
   ·have n44 : ¬ ((c.toNat : Int) = 44) := u8_ne (n := 44) rfl (fun h => hst (.inl h))
    have n125 : ¬ ((c.toNat : Int) = 125) := u8_ne (n := 125) rfl (fun h => hst (.inr h))
    have hone : ∀ {f' : Abs.Frame} {tf : Tg f'} {tI} {σ' : Store} (l' : List Pc), pcs m' t = some (l', r, d2) → cnt n1 l2 = cnt n1 l' → f' 0 = .str p → f' 1 = .int .i64 ((k : Int) + 1) → f' 7 = .int .i64 d1 → f' 8 = .int .i64 n1 → σ' = [] → Abs.nx x (fun x f σ => ∃ (k m' : Nat) (l2 : List Pc) (d1 d2 n1 : Nat), x = p.length - k ∧ i ≤ k ∧ k ≤ p.length ∧ pcs m' (p.drop k) = some (l2, r, d2) ∧ d = max d1 d2 ∧ n1 ≤ 65 ∧ cnt 1 l = cnt n1 l2 ∧ f 0 = .str p ∧ f 1 = .int .i64 k ∧ f 7 = .int .i64 d1 ∧ f 8 = .int .i64 n1 ∧ σ = []) tI f' tf σ' := by
     intro f' tf tI σ' l' hp' hcn q0 q1 q7 q8 hs
     exact nx_intro (p.length - (k + 1)) (by omega) ⟨k + 1, m', l', d1, d2, n1, rfl, by omega, by omega, by rw [hdk1]; exact hp', hd, hn1, by rw [hcnt, hcn], q0, by simp [q1], q7, q8, hs⟩
    simp [h0, h1, h7, h8, hlt, hlt', hc, hc2, n44, n125]
    refine ac_same (refByte_ok c) (by simp) ?_
    rintro v rfl
    rcases hcase with ⟨rfl, l', hp', rfl⟩ | ⟨rfl, l', hp', rfl⟩ | ⟨hnb, l', hp', rfl⟩ | ⟨rfl, rs, r1, l', hcl, hp', rfl⟩ | ⟨rfl, xs, r1, da, l', d3, hal, hp', rfl, rfl⟩
    ·have e : nb 63 = false := by decide
     simp [h0, h1, h7, h8, hlt, hlt', hc, hc2, e, hwk]
     exact hone l' hp' (by simp [cnt]) (by simp [h0]) (by simp) (by simp [h7]) (by simp [h8]) rfl
    ·have e : nb 42 = false := by decide
     simp [h0, h1, h7, h8, hlt, hlt', hc, hc2, e, hwk]
     exact hone l' hp' (by simp [cnt]) (by simp [h0]) (by simp) (by simp [h7]) (by simp [h8]) rfl
    ·simp [h0, h1, h7, h8, hlt, hlt', hc, hc2, hnb, hwk]
     exact hone l' hp' (by simp [cnt]) (by simp [h0]) (by simp) (by simp [h7]) (by simp [h8]) rfl
    ·have e : nb 91 = false := by decide
     simp [h0, h1, h7, h8, hlt, hlt', hc, hc2, e, hwk]
     rw [← hdk1] at hcl
     have hclass := rclass_ok (G := G) p (k + 1) m' rs r1 hcl hp
     obtain ⟨cd1, cd2⟩ := cls_drop hcl
     have hge : ¬ ((p.length - r1.length : Nat) : Int) < 0 := by omega
     simp only [Int.natCast_add, Int.cast_ofNat_Int] at hclass
     generalize hE : p.length - r1.length = E at *
     refine ac_same hclass (by simp) ?_
     rintro v rfl
     simp [h0, h7, h8, hge]
     refine nx_intro (p.length - E) (by omega) ⟨E, m', l', d1, d2, n1, rfl, by omega, by omega, by rw [cd1]; exact hp', hd, hn1, by rw [hcnt]; simp [cnt], by simp [h0], by simp, by simp [h7], by simp [h8], rfl⟩
    ·have e : nb 123 = false := by decide
     simp [h0, h1, h7, h8, hlt, hlt', hc, hc2, e, hwk]
     have hal0 : alts m' (p.drop (k + 1)) = some (xs, r1, da) := by rw [hdk1]; exact hal
     refine lp_gen (fun f' => f' 0 = .str p ∧ f' 1 = .int .i64 k ∧ f' 7 = .int .i64 d1 ∧ f' 8 = .int .i64 n1 ∧ f' 9 = .int .i64 0) ⟨by simp [h0], by simp [h1], by simp [h7], by simp [h8], by simp⟩ ?_
     rintro f0 ⟨u0, u1, u7, u8, u9⟩
     refine lp_startx (fun x f σ => ∃ (q m2 : Nat) (as2 : List (List Pc)) (da2 D S : Nat), x = p.length - q ∧ k ≤ q ∧ q < p.length ∧ alts m2 (p.drop (q + 1)) = some (as2, r1, da2) ∧ max d1 (da + 1) = max D (da2 + 1) ∧ S ≤ 65 ∧ cntA 0 xs = cntA S as2 ∧ f 0 = .str p ∧ f 1 = .int .i64 q ∧ f 7 = .int .i64 D ∧ f 8 = .int .i64 n1 ∧ f 9 = .int .i64 S ∧ σ = []) (p.length - k) ?_ ?_
     ·exact ⟨k, m', xs, da, d1, 0, rfl, Nat.le_refl _, hlt, hal0, rfl, by omega, rfl, u0, u1, u7, u8, by simp [u9], rfl⟩
     rintro x' f1 σ' ⟨q, m2, as2, da2, D, S, hx', hkq, hql, ha2, hD, hS, hcA, w0, w1, w7, w8, w9, rfl⟩
     obtain ⟨m3, a, c', t', da1, rfl, hpa, hcase2⟩ := alts_some ha2
     obtain ⟨e1, e2, e3⟩ := left_at hpa (by omega)
     have hE1 : p.length - (c' :: t').length < p.length := by simp only [List.length_cons] at e3 ⊢; omega
     have hda1 : da1 ≤ da2 := by
      rcases hcase2 with ⟨_, _, _, h⟩ | ⟨_, as', d2', _, _, h⟩ <;> omega
     have hih := ih p (q + 1) m3 a (c' :: t') da1 (by omega) (by omega) hp (by omega) hpa
     simp only [Int.natCast_add, Int.cast_ofNat_Int] at hih
     have hca := cnt_le a 1 (by omega)
     generalize hE : p.length - (c' :: t').length = E at *
     obtain ⟨hcE, hdE, _⟩ := drop_one e1
     obtain ⟨_, hcE2⟩ := List.getElem?_eq_some_iff.1 hcE
     have hE0 : ¬ (E : Int) < 0 := by omega
     have hEl : ¬ (p.length : Int) ≤ (E : Int) := by omega
     have hEl' : ¬ p.length ≤ E := by omega
     have hwq : IntKind.i64.wrap ((q : Int) + 1) = (q : Int) + 1 := wrap_i64 (by omega) (by omega)
     have hwE : IntKind.i64.wrap ((E : Int) + 1) = (E : Int) + 1 := wrap_i64 (by omega) (by omega)
     have hwd : IntKind.i64.wrap ((da1 : Int) + 1) = (da1 : Int) + 1 := wrap_i64 (by omega) (by omega)
     have hwS : IntKind.i64.wrap ((S : Int) + (cnt 1 a : Int)) = (S : Int) + (cnt 1 a : Int) := wrap_i64 (by omega) (by omega)
     generalize hCN : cnt 1 a = C at *
     have hinn : ∀ {f' : Abs.Frame} {tf : Tg f'} {tI} {σ' : Store} (D' S' : Nat), ¬ c' = 125 → D' = max D (da1 + 1) → S' = min 65 (S + C) → f' 0 = .str p → f' 1 = .int .i64 E → f' 7 = .int .i64 D' → f' 8 = .int .i64 n1 → f' 9 = .int .i64 S' → σ' = [] → Abs.nx x' (fun x f σ => ∃ (q m2 : Nat) (as2 : List (List Pc)) (da2 D S : Nat), x = p.length - q ∧ k ≤ q ∧ q < p.length ∧ alts m2 (p.drop (q + 1)) = some (as2, r1, da2) ∧ max d1 (da + 1) = max D (da2 + 1) ∧ S ≤ 65 ∧ cntA 0 xs = cntA S as2 ∧ f 0 = .str p ∧ f 1 = .int .i64 q ∧ f 7 = .int .i64 D ∧ f 8 = .int .i64 n1 ∧ f 9 = .int .i64 S ∧ σ = []) tI f' tf σ' := by
      intro f' tf tI σ' D' S' hc' hD' hS' q0 q1 q7 q8 q9 hs
      rcases hcase2 with ⟨h, _⟩ | ⟨_, as', d2', ha', rfl, rfl⟩
      ·exact absurd h hc'
      ·exact nx_intro (p.length - E) (by omega) ⟨E, m3, as', d2', D', S', rfl, by omega, by omega, by rw [hdE]; exact ha', by omega, by omega, by rw [hcA]; simp [cntA, hCN, hS'], q0, q1, q7, q8, q9, hs⟩
     have hout : ∀ {f' : Abs.Frame} {tf : Tg f'} {tI} {σ' : Store} (D' S' N' : Nat), c' = 125 → D' = max D (da1 + 1) → S' = min 65 (S + C) → N' = min 65 (n1 * S') → f' 0 = .str p → f' 1 = .int .i64 ((E : Int) + 1) → f' 7 = .int .i64 D' → f' 8 = .int .i64 N' → σ' = [] → Abs.nx x (fun x f σ => ∃ (k m' : Nat) (l2 : List Pc) (d1 d2 n1 : Nat), x = p.length - k ∧ i ≤ k ∧ k ≤ p.length ∧ pcs m' (p.drop k) = some (l2, r, d2) ∧ d = max d1 d2 ∧ n1 ≤ 65 ∧ cnt 1 l = cnt n1 l2 ∧ f 0 = .str p ∧ f 1 = .int .i64 k ∧ f 7 = .int .i64 d1 ∧ f 8 = .int .i64 n1 ∧ σ = []) tI f' tf σ' := by
      intro f' tf tI σ' D' S' N' hc' hD' hS' hN' q0 q1 q7 q8 hs
      rcases hcase2 with ⟨_, rfl, rfl, rfl⟩ | ⟨h, _⟩
      ·exact nx_intro (p.length - (E + 1)) (by omega) ⟨E + 1, m', l', D', d3, N', rfl, by omega, by omega, by rw [hdE]; exact hp', by omega, by omega, by rw [hcnt]; simp [cnt, hcA, cntA, hCN, hN', hS'], q0, by simp [q1], q7, q8, hs⟩
      ·exact absurd hc' h
     simp [w0, w1, w7, w8, w9, hwq]
     refine ac_same hih (by simp) ?_
     rintro v rfl
     by_cases hDm : D ≤ da1
     ·have hDi : (D : Int) < (da1 : Int) + 1 := by omega
      by_cases hSm : S + C < 65
      ·have hSi : (S : Int) + (C : Int) < 65 := by omega
       have hMu : IntKind.i64.wrap ((n1 : Int) * ((S : Int) + (C : Int))) = (n1 : Int) * ((S : Int) + (C : Int)) := by
        have hb1 : n1 * (S + C) ≤ 65 * 65 := Nat.mul_le_mul hn1 (by omega)
        have hb2 : ((n1 * (S + C) : Nat) : Int) = (n1 : Int) * ((S : Int) + (C : Int)) := by push_cast; rfl
        rw [← hb2]; exact wrap_i64 (by omega) (by omega)
       by_cases h125 : c' = 125
       ·have h125i : (c'.toNat : Int) = 125 := by rw [h125]; rfl
        by_cases hM : n1 * (S + C) < 65
        ·have hMi : (n1 : Int) * ((S : Int) + (C : Int)) < 65 := by (have hb2 : ((n1 * (S + C) : Nat) : Int) = (n1 : Int) * ((S : Int) + (C : Int)) := by push_cast; rfl); omega
         simp [w0, w1, w7, w8, w9, hE0, hEl, hEl', hwd, hwS, hDm, hDi, hSm, hSi, hcE, hcE2, hE1, h125, hwE, hMu, hM, hMi]
         refine hout (da1 + 1) (S + C) (n1 * (S + C)) h125 (by omega) (by omega) (by omega) (by simp [w0]) (by simp) (by simp [w7]) (by simp [w8]) rfl
        ·have hMi : ¬ (n1 : Int) * ((S : Int) + (C : Int)) < 65 := by (have hb2 : ((n1 * (S + C) : Nat) : Int) = (n1 : Int) * ((S : Int) + (C : Int)) := by push_cast; rfl); omega
         simp [w0, w1, w7, w8, w9, hE0, hEl, hEl', hwd, hwS, hDm, hDi, hSm, hSi, hcE, hcE2, hE1, h125, hwE, hMu, hM, hMi]
         refine hout (da1 + 1) (S + C) 65 h125 (by omega) (by omega) (by omega) (by simp [w0]) (by simp) (by simp [w7]) (by simp [w8]) rfl
       ·have h125i : ¬ (c'.toNat : Int) = 125 := u8_ne (n := 125) rfl h125
        simp [w0, w1, w7, w8, w9, hE0, hEl, hEl', hwd, hwS, hDm, hDi, hSm, hSi, hcE, hcE2, hE1, h125, h125i]
        refine hinn (da1 + 1) (S + C) h125 (by omega) (by omega) (by simp [w0]) (by simp) (by simp [w7]) (by simp [w8]) (by simp) rfl
      ·have hSi : ¬ (S : Int) + (C : Int) < 65 := by omega
       have hMu : IntKind.i64.wrap ((n1 : Int) * 65) = (n1 : Int) * 65 := by
        have hb1 : n1 * (65) ≤ 65 * 65 := Nat.mul_le_mul hn1 (by omega)
        have hb2 : ((n1 * (65) : Nat) : Int) = (n1 : Int) * 65 := by push_cast; rfl
        rw [← hb2]; exact wrap_i64 (by omega) (by omega)
       by_cases h125 : c' = 125
       ·have h125i : (c'.toNat : Int) = 125 := by rw [h125]; rfl
        by_cases hM : n1 * (65) < 65
        ·have hMi : (n1 : Int) * 65 < 65 := by (have hb2 : ((n1 * (65) : Nat) : Int) = (n1 : Int) * 65 := by push_cast; rfl); omega
         simp [w0, w1, w7, w8, w9, hE0, hEl, hEl', hwd, hwS, hDm, hDi, hSm, hSi, hcE, hcE2, hE1, h125, hwE, hMu, hM, hMi]
         refine hout (da1 + 1) (65) (n1 * (65)) h125 (by omega) (by omega) (by omega) (by simp [w0]) (by simp) (by simp [w7]) (by simp [w8]) rfl
        ·have hMi : ¬ (n1 : Int) * 65 < 65 := by (have hb2 : ((n1 * (65) : Nat) : Int) = (n1 : Int) * 65 := by push_cast; rfl); omega
         simp [w0, w1, w7, w8, w9, hE0, hEl, hEl', hwd, hwS, hDm, hDi, hSm, hSi, hcE, hcE2, hE1, h125, hwE, hMu, hM, hMi]
         refine hout (da1 + 1) (65) 65 h125 (by omega) (by omega) (by omega) (by simp [w0]) (by simp) (by simp [w7]) (by simp [w8]) rfl
       ·have h125i : ¬ (c'.toNat : Int) = 125 := u8_ne (n := 125) rfl h125
        simp [w0, w1, w7, w8, w9, hE0, hEl, hEl', hwd, hwS, hDm, hDi, hSm, hSi, hcE, hcE2, hE1, h125, h125i]
        refine hinn (da1 + 1) (65) h125 (by omega) (by omega) (by simp [w0]) (by simp) (by simp [w7]) (by simp [w8]) (by simp) rfl
     ·have hDi : ¬ (D : Int) < (da1 : Int) + 1 := by omega
      by_cases hSm : S + C < 65
      ·have hSi : (S : Int) + (C : Int) < 65 := by omega
       have hMu : IntKind.i64.wrap ((n1 : Int) * ((S : Int) + (C : Int))) = (n1 : Int) * ((S : Int) + (C : Int)) := by
        have hb1 : n1 * (S + C) ≤ 65 * 65 := Nat.mul_le_mul hn1 (by omega)
        have hb2 : ((n1 * (S + C) : Nat) : Int) = (n1 : Int) * ((S : Int) + (C : Int)) := by push_cast; rfl
        rw [← hb2]; exact wrap_i64 (by omega) (by omega)
       by_cases h125 : c' = 125
       ·have h125i : (c'.toNat : Int) = 125 := by rw [h125]; rfl
        by_cases hM : n1 * (S + C) < 65
        ·have hMi : (n1 : Int) * ((S : Int) + (C : Int)) < 65 := by (have hb2 : ((n1 * (S + C) : Nat) : Int) = (n1 : Int) * ((S : Int) + (C : Int)) := by push_cast; rfl); omega
         simp [w0, w1, w7, w8, w9, hE0, hEl, hEl', hwd, hwS, hDm, hDi, hSm, hSi, hcE, hcE2, hE1, h125, hwE, hMu, hM, hMi]
         refine hout (D) (S + C) (n1 * (S + C)) h125 (by omega) (by omega) (by omega) (by simp [w0]) (by simp) (by simp [w7]) (by simp [w8]) rfl
        ·have hMi : ¬ (n1 : Int) * ((S : Int) + (C : Int)) < 65 := by (have hb2 : ((n1 * (S + C) : Nat) : Int) = (n1 : Int) * ((S : Int) + (C : Int)) := by push_cast; rfl); omega
         simp [w0, w1, w7, w8, w9, hE0, hEl, hEl', hwd, hwS, hDm, hDi, hSm, hSi, hcE, hcE2, hE1, h125, hwE, hMu, hM, hMi]
         refine hout (D) (S + C) 65 h125 (by omega) (by omega) (by omega) (by simp [w0]) (by simp) (by simp [w7]) (by simp [w8]) rfl
       ·have h125i : ¬ (c'.toNat : Int) = 125 := u8_ne (n := 125) rfl h125
        simp [w0, w1, w7, w8, w9, hE0, hEl, hEl', hwd, hwS, hDm, hDi, hSm, hSi, hcE, hcE2, hE1, h125, h125i]
        refine hinn (D) (S + C) h125 (by omega) (by omega) (by simp [w0]) (by simp) (by simp [w7]) (by simp [w8]) (by simp) rfl
      ·have hSi : ¬ (S : Int) + (C : Int) < 65 := by omega
       have hMu : IntKind.i64.wrap ((n1 : Int) * 65) = (n1 : Int) * 65 := by
        have hb1 : n1 * (65) ≤ 65 * 65 := Nat.mul_le_mul hn1 (by omega)
        have hb2 : ((n1 * (65) : Nat) : Int) = (n1 : Int) * 65 := by push_cast; rfl
        rw [← hb2]; exact wrap_i64 (by omega) (by omega)
       by_cases h125 : c' = 125
       ·have h125i : (c'.toNat : Int) = 125 := by rw [h125]; rfl
        by_cases hM : n1 * (65) < 65
        ·have hMi : (n1 : Int) * 65 < 65 := by (have hb2 : ((n1 * (65) : Nat) : Int) = (n1 : Int) * 65 := by push_cast; rfl); omega
         simp [w0, w1, w7, w8, w9, hE0, hEl, hEl', hwd, hwS, hDm, hDi, hSm, hSi, hcE, hcE2, hE1, h125, hwE, hMu, hM, hMi]
         refine hout (D) (65) (n1 * (65)) h125 (by omega) (by omega) (by omega) (by simp [w0]) (by simp) (by simp [w7]) (by simp [w8]) rfl
        ·have hMi : ¬ (n1 : Int) * 65 < 65 := by (have hb2 : ((n1 * (65) : Nat) : Int) = (n1 : Int) * 65 := by push_cast; rfl); omega
         simp [w0, w1, w7, w8, w9, hE0, hEl, hEl', hwd, hwS, hDm, hDi, hSm, hSi, hcE, hcE2, hE1, h125, hwE, hMu, hM, hMi]
         refine hout (D) (65) 65 h125 (by omega) (by omega) (by omega) (by simp [w0]) (by simp) (by simp [w7]) (by simp [w8]) rfl
       ·have h125i : ¬ (c'.toNat : Int) = 125 := u8_ne (n := 125) rfl h125
        simp [w0, w1, w7, w8, w9, hE0, hEl, hEl', hwd, hwS, hDm, hDi, hSm, hSi, hcE, hcE2, hE1, h125, h125i]
        refine hinn (D) (65) h125 (by omega) (by omega) (by simp [w0]) (by simp) (by simp [w7]) (by simp [w8]) (by simp) rfl
end Go.Proofs.YtalfhchbmhoagaaGreatDoor
end
section
set_option maxHeartbeats 8000000
namespace Go.Glob
theorem cls_less {n : Nat} {ne : Bool} {s : List UInt8} {rs : List (UInt8 × UInt8)} {r : List UInt8} (h : cls n ne s = some (rs, r)) : r.length ≤ s.length := by
 obtain ⟨b, rfl, _⟩ := cls_local _ _ _ _ _ h
 simp
theorem pcs_depth : ∀ (n : Nat), (∀ (s : List UInt8) (l : List Pc) (r : List UInt8) (d : Nat), pcs n s = some (l, r, d) → d + r.length ≤ s.length) ∧
  (∀ (s : List UInt8) (l : List (List Pc)) (r : List UInt8) (d : Nat), alts n s = some (l, r, d) → d + r.length + 1 ≤ s.length) := by
 intro n
 induction n with
 | zero => exact ⟨fun s l r d h => by simp [pcs] at h, fun s l r d h => by simp [alts] at h⟩
 | succ n ih =>
  obtain ⟨ihp, iha⟩ := ih
  refine ⟨fun s l r d h => ?_, fun s l r d h => ?_⟩
  ·rcases pcs_some h with ⟨rfl, rfl, rfl, rfl⟩ | ⟨m, c, t, hm, rfl, hcase⟩
   ·simp
   obtain rfl : n = m := by omega
   simp only [List.length_cons]
   rcases hcase with ⟨_, rfl, rfl, rfl⟩ | ⟨_, ⟨_, l', hp, _⟩ | ⟨_, l', hp, _⟩ | ⟨_, l', hp, _⟩ | ⟨_, rs, r1, l', hc, hp, _⟩ | ⟨_, xs, r1, d1, l', d2, ha, hp, _, rfl⟩⟩
   ·simp
   ·have := ihp _ _ _ _ hp; omega
   ·have := ihp _ _ _ _ hp; omega
   ·have := ihp _ _ _ _ hp; omega
   ·have := ihp _ _ _ _ hp; have := cls_less hc; omega
   ·have := ihp _ _ _ _ hp; have := iha _ _ _ _ ha; omega
  ·obtain ⟨m, a, c, t, d1, hm, hp, hcase⟩ := alts_some h
   obtain rfl : n = m := by omega
   have h1 := ihp _ _ _ _ hp
   simp only [List.length_cons] at h1
   rcases hcase with ⟨_, rfl, rfl, rfl⟩ | ⟨_, as_', d2, ha, rfl, rfl⟩
   ·omega
   ·have := iha _ _ _ _ ha; omega
theorem pcs_stops {n : Nat} {s : List UInt8} {l : List Pc} {r : List UInt8} {d : Nat} (h : pcs n s = some (l, r, d)) : Stops r := ((pcs_local n).1 s l r d h).1
theorem pcs_mono {n m : Nat} {s : List UInt8} {l : List Pc} {r : List UInt8} {d : Nat} (h : pcs n s = some (l, r, d)) (hm : n ≤ m) : pcs m s = some (l, r, d) := by
 obtain ⟨h1, _, _, b, rfl, h2⟩ := (pcs_local n).1 s l r d h
 exact h2 m r hm h1
theorem alts_mono {n m : Nat} {s : List UInt8} {l : List (List Pc)} {r : List UInt8} {d : Nat} (h : alts n s = some (l, r, d)) (hm : n ≤ m) : alts m s = some (l, r, d) := by
 obtain ⟨_, _, b, rfl, h2⟩ := (pcs_local n).2 s l r d h
 exact h2 m r hm
theorem cls_mono {n m : Nat} {ne : Bool} {s : List UInt8} {rs : List (UInt8 × UInt8)} {r : List UInt8} (h : cls n ne s = some (rs, r)) (hm : n ≤ m) : cls m ne s = some (rs, r) := by
 obtain ⟨b, rfl, h2⟩ := cls_local _ _ _ _ _ h
 exact h2 m r (.inl hm)
theorem pcs_fuel : ∀ (m : Nat), (∀ (s : List UInt8) (x : List Pc × List UInt8 × Nat), pcs m s = some x → ∀ n, 2 * s.length + 1 ≤ n → pcs n s = some x) ∧
  (∀ (s : List UInt8) (x : List (List Pc) × List UInt8 × Nat), alts m s = some x → ∀ n, 2 * s.length + 2 ≤ n → alts n s = some x) := by
 intro m
 induction m with
 | zero => exact ⟨fun s x h => by simp [pcs] at h, fun s x h => by simp [alts] at h⟩
 | succ m ih =>
  obtain ⟨ihp, iha⟩ := ih
  refine ⟨fun s x h n hn => ?_, fun s x h n hn => ?_⟩
  ·obtain ⟨l, r, d⟩ := x
   obtain ⟨n, rfl⟩ : ∃ j, n = j + 1 := ⟨n - 1, by omega⟩
   rcases pcs_some h with ⟨rfl, rfl, rfl, rfl⟩ | ⟨m', c, t, hm, rfl, hcase⟩
   ·exact pcs_end n
   obtain rfl : m = m' := by omega
   simp only [List.length_cons] at hn
   rcases hcase with ⟨hst, rfl, rfl, rfl⟩ | ⟨hst, ⟨rfl, l', hp, rfl⟩ | ⟨rfl, l', hp, rfl⟩ | ⟨hnb, l', hp, rfl⟩ | ⟨rfl, rs, r1, l', hc, hp, rfl⟩ | ⟨rfl, xs, r1, d1, l', d2, ha, hp, rfl, rfl⟩⟩
   ·exact pcs_stop hst
   ·rw [pcs_q, ihp _ _ hp n (by omega)]; rfl
   ·rw [pcs_star, ihp _ _ hp n (by omega)]; rfl
   ·rw [pcs_lit hnb, ihp _ _ hp n (by omega)]; rfl
   ·have hl := cls_less hc
    rw [pcs_cls, cls_fits hc (by omega)]
    simp only [Option.bind_some]
    rw [ihp _ _ hp n (by omega)]; rfl
   ·have hl := (pcs_depth m).2 _ _ _ _ ha
    rw [pcs_br, iha _ _ ha n (by omega)]
    simp only [Option.bind_some]
    rw [ihp _ _ hp n (by omega)]; rfl
  ·obtain ⟨l, r, d⟩ := x
   obtain ⟨n, rfl⟩ : ∃ j, n = j + 1 := ⟨n - 1, by omega⟩
   obtain ⟨m', a, c, t, d1, hm, hp, hcase⟩ := alts_some h
   obtain rfl : m = m' := by omega
   have hl := (pcs_depth m).1 _ _ _ _ hp
   simp only [List.length_cons] at hl
   rw [alts_step, ihp _ _ hp n (by omega)]
   simp only [Option.bind_some]
   rcases hcase with ⟨hc, rfl, rfl, rfl⟩ | ⟨hc, as_', d2, ha, rfl, rfl⟩
   ·rw [if_pos hc]
   ·rw [if_neg hc, iha _ _ ha n (by omega)]; rfl
def NoP (s : List UInt8) : Prop := ∀ m, pcs m s = none
theorem noP_of {n : Nat} {s : List UInt8} (h : pcs n s = none) (hn : 2 * s.length + 1 ≤ n) : NoP s := fun m => by
 cases hm : pcs m s with
 | none => rfl
 | some x => rw [(pcs_fuel m).1 s x hm n hn] at h; cases h
theorem NoP.one {c : UInt8} {t : List UInt8} (h : NoP (c :: t)) (hc : c = 63 ∨ c = 42 ∨ nb c = true) : NoP t := fun m => by
 have h1 := h (m + 1)
 rcases hc with rfl | rfl | hc
 ·rw [pcs_q] at h1; simpa using h1
 ·rw [pcs_star] at h1; simpa using h1
 ·rw [pcs_lit hc] at h1; simpa using h1
theorem NoP.cls {t : List UInt8} (h : NoP (91 :: t)) {n : Nat} {rs : List (UInt8 × UInt8)} {r : List UInt8} (hc : Glob.cls n false t = some (rs, r)) : NoP r := fun m => by
 cases hm : pcs m r with
 | none => rfl
 | some x =>
  have h1 := h (max n m + 1)
  obtain ⟨l, r', d⟩ := x
  rw [pcs_cls, cls_mono hc (Nat.le_max_left _ _)] at h1
  simp only [Option.bind_some] at h1
  rw [pcs_mono hm (Nat.le_max_right _ _)] at h1
  cases h1
def NoA (s : List UInt8) : Prop := ∀ (m : Nat) (xs : List (List Pc)) (r : List UInt8) (d : Nat), alts m s = some (xs, r, d) → NoP r
theorem NoP.br {t : List UInt8} (h : NoP (123 :: t)) : NoA t := fun n xs r d ha m => by
 cases hm : pcs m r with
 | none => rfl
 | some x =>
  have h1 := h (max n m + 1)
  obtain ⟨l, r', d'⟩ := x
  rw [pcs_br, alts_mono ha (Nat.le_max_left _ _)] at h1
  simp only [Option.bind_some] at h1
  rw [pcs_mono hm (Nat.le_max_right _ _)] at h1
  cases h1
theorem NoA.last {s t : List UInt8} (h : NoA s) {n : Nat} {a : List Pc} {d : Nat} (hp : pcs n s = some (a, 125 :: t, d)) : NoP t := by
 refine h (n + 1) [a] t d ?_
 rw [alts_step, hp]; rfl
theorem NoA.more {s t : List UInt8} (h : NoA s) {n : Nat} {a : List Pc} {c : UInt8} {d : Nat} (hc : c ≠ 125) (hp : pcs n s = some (a, c :: t, d)) : NoA t := fun m xs r d' ha => by
 refine h (max n m + 1) (a :: xs) r (max d d') ?_
 rw [alts_step, pcs_mono hp (Nat.le_max_left _ _)]
 simp only [Option.bind_some, if_neg hc]
 rw [alts_mono ha (Nat.le_max_right _ _)]; rfl
theorem pcs_or (s : List UInt8) : NoP s ∨ ∃ m l r d, pcs m s = some (l, r, d) := by
 by_cases h : NoP s
 ·exact .inl h
 ·simp only [NoP, Classical.not_forall] at h
  obtain ⟨m, hm⟩ := h
  cases hx : pcs m s with
  | none => exact absurd hx hm
  | some x => exact .inr ⟨m, x.1, x.2.1, x.2.2, hx⟩
theorem cls_or (s : List UInt8) : (∀ m, cls m false s = none) ∨ ∃ m rs r, cls m false s = some (rs, r) := by
 by_cases h : ∀ m, cls m false s = none
 ·exact .inl h
 ·rw [Classical.not_forall] at h
  obtain ⟨m, hm⟩ := h
  cases hx : cls m false s with
  | none => exact absurd hx hm
  | some x => exact .inr ⟨m, x.1, x.2, hx⟩
end Go.Glob
namespace Go.Proofs.YtalfhchbmhoagaaGreatDoor
open Go.Abs Go.Glob
variable {G : Globs}
theorem rclass_err (p : List UInt8) (i : Nat) (h : ∀ n, cls n false (p.drop i) = none) (hi : i ≤ p.length) (hp : p.length ≤ 1000000) :
  PCalls Tryz.prog n_isobarref15_class [.str p, .int .i64 i] (fun v => v = .int .i64 (-1)) := by
 refine pcalls_of_awp hmix c_isobarref15_class rfl ?_
 simp [a_isobarref15_class]
 refine lp_startx (fun x f σ => ∃ (k : Nat), x = p.length - k ∧ i ≤ k ∧ k ≤ p.length ∧ (∀ n, cls n (decide (i < k)) (p.drop k) = none) ∧ f 0 = .str p ∧ f 1 = .int .i64 k ∧ f 5 = .int .i64 i ∧ σ = []) (p.length - i) ?_ ?_
 ·exact ⟨i, rfl, Nat.le_refl _, hi, by simpa using h, by simp, by simp, by simp, rfl⟩
 rintro x f σ ⟨k, hx, hik, hkl, hcls, h0, h1, h5, rfl⟩
 by_cases hke : k = p.length
 ·subst hke
  simp [h0, h1, h5]
 have hlt : k < p.length := by omega
 obtain ⟨c, hc⟩ : ∃ c, p[k]? = some c := ⟨_, List.getElem?_eq_getElem hlt⟩
 obtain ⟨_, hc2⟩ := List.getElem?_eq_some_iff.1 hc
 have hd : p.drop k = c :: p.drop (k + 1) := Glob.drop_cons hc
 have hlt' : (k : Int) < (p.length : Int) := by omega
 have hwk : IntKind.i64.wrap ((k : Int) + 1) = (k : Int) + 1 := wrap_i64 (by omega) (by omega)
 have hwk2 : IntKind.i64.wrap ((k : Int) + 2) = (k : Int) + 2 := wrap_i64 (by omega) (by omega)
 have hwk3 : IntKind.i64.wrap ((k : Int) + 2 + 1) = (k : Int) + 3 := by rw [wrap_i64 (by omega) (by omega)]; omega
 have hwl : IntKind.i64.wrap ((p.length : Int) - 2) = (p.length : Int) - 2 := wrap_i64 (by omega) (by omega)
 have t1 : ((k : Int) + 1).toNat = k + 1 := by omega
 have t2 : ((k : Int) + 2).toNat = k + 2 := by omega
 have p1 : (0 : Int) ≤ (k : Int) + 1 := by omega
 have p2 : (0 : Int) ≤ (k : Int) + 2 := by omega
 have hge : ¬ p.length ≤ k := by omega
 have hge' : ¬ (p.length : Int) ≤ (k : Int) := by omega
 by_cases h93 : c = 93
 ·subst h93
  have hki : k = i := by
   by_cases hki : i < k
   ·have := hcls 1
    rw [hd, decide_eq_true hki] at this
    simp [cls] at this
   ·omega
  subst hki
  simp [h0, h1, h5, hlt, hlt', hc, hc2, hge, hge']
 have h93' : ¬ ((c.toNat : Int) = 93) := u8_ne (n := 93) rfl h93
 simp [h0, h1, h5, hlt, hlt', hc, hc2, h93']
 refine ac_same (refByte_ok c) (by simp) ?_
 rintro v rfl
 cases hnb : nb c with
 | false => simp [hnb]
 | true =>
  have hstep : ∀ n, (match rng (p.drop (k + 1)) with
   | some (h, s') => if h < c then none else (cls n true s').map fun x => ((c, h) :: x.1, x.2)
   | none => (cls n true (p.drop (k + 1))).map fun x => ((c, c) :: x.1, x.2)) = none := fun n => by
   have := hcls (n + 1)
   rw [hd, cls_step (fun h => h93 h.1) hnb] at this
   exact this
  have hone : rng (p.drop (k + 1)) = none → ∀ n, cls n (decide (i < k + 1)) (p.drop (k + 1)) = none := fun hr n => by
   have := hstep n
   rw [hr] at this
   have e : decide (i < k + 1) = true := by simp; omega
   rw [e]; simpa using this
  by_cases hk2 : (k : Int) < (p.length : Int) - 2
  ·obtain ⟨d, hd1⟩ : ∃ d, p[k + 1]? = some d := ⟨_, List.getElem?_eq_getElem (by omega)⟩
   obtain ⟨h', hd2⟩ : ∃ d, p[k + 2]? = some d := ⟨_, List.getElem?_eq_getElem (by omega)⟩
   have hdd : p.drop (k + 1) = d :: h' :: p.drop (k + 3) := by rw [Glob.drop_cons hd1, Glob.drop_cons hd2]
   obtain ⟨_, g1⟩ := List.getElem?_eq_some_iff.1 hd1
   obtain ⟨_, g2⟩ := List.getElem?_eq_some_iff.1 hd2
   by_cases h45 : d = 45
   ·subst h45
    simp [h0, h1, h5, hnb, hwl, hk2, hwk, hwk2, hwk3, t1, t2, p1, p2, hd1, hd2, g1, g2]
    refine ac_same (refByte_ok h') (by simp) ?_
    rintro v rfl
    cases hnh : nb h' with
    | false =>
     simp [h0, h1, h5, hnb, hnh, hwl, hk2, hwk]
     refine nx_intro (p.length - (k + 1)) (by omega) ⟨k + 1, rfl, by omega, by omega, hone ?_, by simp [h0], by simp, by simp [h5], rfl⟩
     rw [hdd, rng, if_neg (fun h => by rw [hnh] at h; cases h.2)]
    | true =>
     have hr : rng (p.drop (k + 1)) = some (h', p.drop (k + 3)) := by rw [hdd, rng, if_pos ⟨rfl, hnh⟩]
     by_cases hle : h' < c
     ·have hle1 : h'.toNat < c.toNat := UInt8.lt_iff_toNat_lt.1 hle
      have hle2 : (h'.toNat : Int) < (c.toNat : Int) := by omega
      simp [h0, h1, h5, hnb, hnh, hwl, hk2, hwk, hwk2, hwk3, t1, t2, p1, p2, hd1, hd2, g1, g2, hc, hc2, hle1, hle2]
     ·have hle1 : ¬ h'.toNat < c.toNat := fun h => hle (UInt8.lt_iff_toNat_lt.2 h)
      have hle2 : ¬ (h'.toNat : Int) < (c.toNat : Int) := by omega
      simp [h0, h1, h5, hnb, hnh, hwl, hk2, hwk, hwk2, hwk3, t1, t2, p1, p2, hd1, hd2, g1, g2, hc, hc2, hle1, hle2]
      refine nx_intro (p.length - (k + 3)) (by omega) ⟨k + 3, rfl, by omega, by omega, ?_, by simp [h0], by simp, by simp [h5], rfl⟩
      intro n
      have := hstep n
      rw [hr] at this
      simp only [if_neg hle] at this
      have e : decide (i < k + 3) = true := by simp; omega
      rw [e]; simpa using this
   ·have h45' : ¬ ((d.toNat : Int) = 45) := u8_ne (n := 45) rfl h45
    simp [h0, h1, h5, hnb, hwl, hk2, hwk, hwk2, hwk3, t1, t2, p1, p2, hd1, hd2, g1, g2, h45']
    refine nx_intro (p.length - (k + 1)) (by omega) ⟨k + 1, rfl, by omega, by omega, hone ?_, by simp [h0], by simp, by simp [h5], rfl⟩
    rw [hdd, rng, if_neg (fun h => h45 h.1)]
  ·simp [h0, h1, h5, hnb, hwl, hk2, hwk]
   refine nx_intro (p.length - (k + 1)) (by omega) ⟨k + 1, rfl, by omega, by omega, hone ?_, by simp [h0], by simp, by simp [h5], rfl⟩
   have hl : (p.drop (k + 1)).length ≤ 1 := by simp; omega
   match hm : p.drop (k + 1), hl with
   | [], _ => rfl
   | [_], _ => rfl
   | _ :: _ :: _, hl => simp at hl
theorem rform_err : ∀ (L : Nat) (p : List UInt8) (i : Nat), p.length - i ≤ L → i ≤ p.length → p.length ≤ 1000000 → NoP (p.drop i) →
  PCalls Tryz.prog n_isobarref15_form [.str p, .int .i64 i] (fun v => v = .tup [.int .i64 (-1), .int .i64 0, .int .i64 0]) := by
 intro L
 induction L with
 | zero =>
  intro p i hL hi hp h
  have he : p.drop i = [] := List.drop_of_length_le (by omega)
  rw [he] at h
  have := h 1
  rw [pcs_end] at this; cases this
 | succ L ih =>
  intro p i hL hi hp h
  refine pcalls_of_awp hmix c_isobarref15_form rfl ?_
  simp [a_isobarref15_form]
  refine lp_startx (fun x f σ => ∃ (k D N : Nat), x = p.length - k ∧ i ≤ k ∧ k ≤ p.length ∧ NoP (p.drop k) ∧ D ≤ 1000001 ∧ N ≤ 65 ∧ f 0 = .str p ∧ f 1 = .int .i64 k ∧ f 7 = .int .i64 D ∧ f 8 = .int .i64 N ∧ σ = []) (p.length - i) ?_ ?_
  ·exact ⟨i, 0, 1, rfl, Nat.le_refl _, hi, h, by omega, by omega, by simp, by simp, by simp, by simp, rfl⟩
  rintro x f σ ⟨k, d1, n1, hx, hik, hkl, hno, hd1, hn1, h0, h1, h7, h8, rfl⟩
  by_cases hke : k = p.length
  ·have := hno 1
   rw [List.drop_of_length_le (by omega), pcs_end] at this; cases this
  have hlt : k < p.length := by omega
  obtain ⟨c, hc⟩ : ∃ c, p[k]? = some c := ⟨_, List.getElem?_eq_getElem hlt⟩
  obtain ⟨_, hc2⟩ := List.getElem?_eq_some_iff.1 hc
  have hdk : p.drop k = c :: p.drop (k + 1) := Glob.drop_cons hc
  have hlt' : (k : Int) < (p.length : Int) := by omega
  have hwk : IntKind.i64.wrap ((k : Int) + 1) = (k : Int) + 1 := wrap_i64 (by omega) (by omega)
  rw [hdk] at hno
  have hst : ¬ (c = 44 ∨ c = 125) := fun hst => by
   have := hno 1
   rw [pcs_stop hst] at this; cases this
  have n44 : ¬ ((c.toNat : Int) = 44) := u8_ne (n := 44) rfl (fun h => hst (.inl h))
  have n125 : ¬ ((c.toNat : Int) = 125) := u8_ne (n := 125) rfl (fun h => hst (.inr h))
  simp [h0, h1, h7, h8, hlt, hlt', hc, hc2, n44, n125]
  refine ac_same (refByte_ok c) (by simp) ?_
  rintro v rfl
  have hone : ∀ {f' : Abs.Frame} {tf : Tg f'} {tI} {σ' : Store}, (c = 63 ∨ c = 42 ∨ nb c = true) → f' 0 = .str p → f' 1 = .int .i64 ((k : Int) + 1) → f' 7 = .int .i64 d1 → f' 8 = .int .i64 n1 → σ' = [] → Abs.nx x (fun x f σ => ∃ (k D N : Nat), x = p.length - k ∧ i ≤ k ∧ k ≤ p.length ∧ NoP (p.drop k) ∧ D ≤ 1000001 ∧ N ≤ 65 ∧ f 0 = .str p ∧ f 1 = .int .i64 k ∧ f 7 = .int .i64 D ∧ f 8 = .int .i64 N ∧ σ = []) tI f' tf σ' := by
   intro f' tf tI σ' hcc q0 q1 q7 q8 hs
   exact nx_intro (p.length - (k + 1)) (by omega) ⟨k + 1, d1, n1, rfl, by omega, by omega, hno.one hcc, hd1, hn1, q0, by simp [q1], q7, q8, hs⟩
  cases hnb : nb c with
  | true =>
   simp [h0, h1, h7, h8, hlt, hlt', hc, hc2, hnb, hwk]
   exact hone (.inr (.inr hnb)) (by simp [h0]) (by simp) (by simp [h7]) (by simp [h8]) rfl
  | false =>
  by_cases h63 : c = 63
  ·subst h63
   simp [h0, h1, h7, h8, hlt, hlt', hc, hc2, hnb, hwk]
   exact hone (.inl rfl) (by simp [h0]) (by simp) (by simp [h7]) (by simp [h8]) rfl
  by_cases h42 : c = 42
  ·subst h42
   simp [h0, h1, h7, h8, hlt, hlt', hc, hc2, hnb, hwk]
   exact hone (.inr (.inl rfl)) (by simp [h0]) (by simp) (by simp [h7]) (by simp [h8]) rfl
  have n63 : ¬ ((c.toNat : Int) = 63) := u8_ne (n := 63) rfl h63
  have n42 : ¬ ((c.toNat : Int) = 42) := u8_ne (n := 42) rfl h42
  by_cases h91 : c = 91
  ·subst h91
   simp [h0, h1, h7, h8, hlt, hlt', hc, hc2, hnb, hwk]
   rcases cls_or (p.drop (k + 1)) with hcl | ⟨m', rs, r1, hcl⟩
   ·have hclass := rclass_err (G := G) p (k + 1) hcl (by omega) hp
    simp only [Int.natCast_add, Int.cast_ofNat_Int] at hclass
    refine ac_same hclass (by simp) ?_
    rintro v rfl
    simp
   ·have hclass := rclass_ok (G := G) p (k + 1) m' rs r1 hcl hp
    have hno1 := hno.cls hcl
    obtain ⟨cd1, cd2⟩ := cls_drop hcl
    have hge : ¬ ((p.length - r1.length : Nat) : Int) < 0 := by omega
    simp only [Int.natCast_add, Int.cast_ofNat_Int] at hclass
    generalize hE : p.length - r1.length = E at *
    refine ac_same hclass (by simp) ?_
    rintro v rfl
    simp [h0, h7, h8, hge]
    refine nx_intro (p.length - E) (by omega) ⟨E, d1, n1, rfl, by omega, by omega, by rw [cd1]; exact hno1, hd1, hn1, by simp [h0], by simp, by simp [h7], by simp [h8], rfl⟩
  have n91 : ¬ ((c.toNat : Int) = 91) := u8_ne (n := 91) rfl h91
  by_cases h123 : c = 123
  ·subst h123
   simp [h0, h1, h7, h8, hlt, hlt', hc, hc2, hnb, hwk]
   refine lp_gen (fun f' => f' 0 = .str p ∧ f' 1 = .int .i64 k ∧ f' 7 = .int .i64 d1 ∧ f' 8 = .int .i64 n1 ∧ f' 9 = .int .i64 0) ⟨by simp [h0], by simp [h1], by simp [h7], by simp [h8], by simp⟩ ?_
   rintro f0 ⟨u0, u1, u7, u8, u9⟩
   refine lp_startx (fun x f σ => ∃ (q D S : Nat), x = p.length - q ∧ k ≤ q ∧ q < p.length ∧ NoA (p.drop (q + 1)) ∧ D ≤ 1000001 ∧ S ≤ 65 ∧ f 0 = .str p ∧ f 1 = .int .i64 q ∧ f 7 = .int .i64 D ∧ f 8 = .int .i64 n1 ∧ f 9 = .int .i64 S ∧ σ = []) (p.length - k) ?_ ?_
   ·exact ⟨k, d1, 0, rfl, Nat.le_refl _, hlt, hno.br, hd1, by omega, u0, u1, u7, u8, by simp [u9], rfl⟩
   rintro x' f1 σ' ⟨q, D, S, hx', hkq, hql, hna, hD, hS, w0, w1, w7, w8, w9, rfl⟩
   have hwq : IntKind.i64.wrap ((q : Int) + 1) = (q : Int) + 1 := wrap_i64 (by omega) (by omega)
   rcases pcs_or (p.drop (q + 1)) with hnp | ⟨m3, a, rest, da1, hpa⟩
   ·have hih := ih p (q + 1) (by omega) (by omega) hp hnp
    simp only [Int.natCast_add, Int.cast_ofNat_Int] at hih
    simp [w0, w1, w7, w8, w9, hwq]
    refine ac_same hih (by simp) ?_
    rintro v rfl
    simp
   ·obtain ⟨e1, e2, e3⟩ := left_at hpa (by omega)
    have hdep := (pcs_depth m3).1 _ _ _ _ hpa
    simp only [List.length_drop] at hdep
    have hih := rform_ok (G := G) (p.length - (q + 1)) p (q + 1) m3 a rest da1 (by omega) (by omega) hp (by omega) hpa
    simp only [Int.natCast_add, Int.cast_ofNat_Int] at hih
    rcases pcs_stops hpa with rfl | ⟨c', t', rfl, hcc⟩
    ·simp at hih
     simp [w0, w1, w7, w8, w9, hwq]
     refine ac_same hih (by simp) ?_
     rintro v rfl
     have hE0 : ¬ (p.length : Int) < 0 := by omega
     simp [w0, w1, w7, w8, w9, hE0]
    have hE1 : p.length - (c' :: t').length < p.length := by simp only [List.length_cons] at e3 ⊢; omega
    have hca := cnt_le a 1 (by omega)
    generalize hE : p.length - (c' :: t').length = E at *
    obtain ⟨hcE, hdE, _⟩ := drop_one e1
    obtain ⟨_, hcE2⟩ := List.getElem?_eq_some_iff.1 hcE
    have hE0 : ¬ (E : Int) < 0 := by omega
    have hEl : ¬ (p.length : Int) ≤ (E : Int) := by omega
    have hEl' : ¬ p.length ≤ E := by omega
    have hwE : IntKind.i64.wrap ((E : Int) + 1) = (E : Int) + 1 := wrap_i64 (by omega) (by omega)
    have hwd : IntKind.i64.wrap ((da1 : Int) + 1) = (da1 : Int) + 1 := wrap_i64 (by omega) (by omega)
    have hwS : IntKind.i64.wrap ((S : Int) + (cnt 1 a : Int)) = (S : Int) + (cnt 1 a : Int) := wrap_i64 (by omega) (by omega)
    generalize hCN : cnt 1 a = C at *
    have hinn : ∀ {f' : Abs.Frame} {tf : Tg f'} {tI} {σ' : Store} (D' S' : Nat), ¬ c' = 125 → D' ≤ 1000001 → S' ≤ 65 → f' 0 = .str p → f' 1 = .int .i64 E → f' 7 = .int .i64 D' → f' 8 = .int .i64 n1 → f' 9 = .int .i64 S' → σ' = [] → Abs.nx x' (fun x f σ => ∃ (q D S : Nat), x = p.length - q ∧ k ≤ q ∧ q < p.length ∧ NoA (p.drop (q + 1)) ∧ D ≤ 1000001 ∧ S ≤ 65 ∧ f 0 = .str p ∧ f 1 = .int .i64 q ∧ f 7 = .int .i64 D ∧ f 8 = .int .i64 n1 ∧ f 9 = .int .i64 S ∧ σ = []) tI f' tf σ' := by
     intro f' tf tI σ' D' S' hc' hD' hS' q0 q1 q7 q8 q9 hs
     exact nx_intro (p.length - E) (by omega) ⟨E, D', S', rfl, by omega, by omega, by rw [hdE]; exact hna.more hc' hpa, hD', hS', q0, q1, q7, q8, q9, hs⟩
    have hout : ∀ {f' : Abs.Frame} {tf : Tg f'} {tI} {σ' : Store} (D' N' : Nat), c' = 125 → D' ≤ 1000001 → N' ≤ 65 → f' 0 = .str p → f' 1 = .int .i64 ((E : Int) + 1) → f' 7 = .int .i64 D' → f' 8 = .int .i64 N' → σ' = [] → Abs.nx x (fun x f σ => ∃ (k D N : Nat), x = p.length - k ∧ i ≤ k ∧ k ≤ p.length ∧ NoP (p.drop k) ∧ D ≤ 1000001 ∧ N ≤ 65 ∧ f 0 = .str p ∧ f 1 = .int .i64 k ∧ f 7 = .int .i64 D ∧ f 8 = .int .i64 N ∧ σ = []) tI f' tf σ' := by
     intro f' tf tI σ' D' N' hc' hD' hN' q0 q1 q7 q8 hs
     subst hc'
     exact nx_intro (p.length - (E + 1)) (by omega) ⟨E + 1, D', N', rfl, by omega, by omega, by rw [hdE]; exact hna.last hpa, hD', hN', q0, by simp [q1], q7, q8, hs⟩
    simp [w0, w1, w7, w8, w9, hwq]
    refine ac_same hih (by simp) ?_
    rintro v rfl
    obtain ⟨D', hD1, hD2, hD3⟩ : ∃ D' : Nat, D' ≤ 1000001 ∧ ((D' = da1 + 1 ∧ (D : Int) < (da1 : Int) + 1) ∨ (D' = D ∧ ¬ (D : Int) < (da1 : Int) + 1)) ∧ True := by
     by_cases hDi : (D : Int) < (da1 : Int) + 1
     ·exact ⟨da1 + 1, by omega, .inl ⟨rfl, hDi⟩, trivial⟩
     ·exact ⟨D, by omega, .inr ⟨rfl, hDi⟩, trivial⟩
    by_cases h125 : c' = 125
    ·have h125i : (c'.toNat : Int) = 125 := by rw [h125]; rfl
     by_cases hSi : (S : Int) + (C : Int) < 65
     ·have hSm : S + C < 65 := by omega
      have hMu : IntKind.i64.wrap ((n1 : Int) * ((S : Int) + (C : Int))) = (n1 : Int) * ((S : Int) + (C : Int)) := by
       have hb1 : n1 * (S + C) ≤ 65 * 65 := Nat.mul_le_mul hn1 (by omega)
       have hb2 : ((n1 * (S + C) : Nat) : Int) = (n1 : Int) * ((S : Int) + (C : Int)) := by push_cast; rfl
       rw [← hb2]; exact wrap_i64 (by omega) (by omega)
      by_cases hM : n1 * (S + C) < 65
      ·have hMi : (n1 : Int) * ((S : Int) + (C : Int)) < 65 := by (have hb2 : ((n1 * (S + C) : Nat) : Int) = (n1 : Int) * ((S : Int) + (C : Int)) := by push_cast; rfl); omega
       rcases hD2 with ⟨rfl, hDi⟩ | ⟨rfl, hDi⟩
       ·have hDm : D ≤ da1 := by omega
        simp [w0, w1, w7, w8, w9, hE0, hEl, hEl', hwd, hwS, hDm, hDi, hSm, hSi, hcE, hcE2, hE1, h125, hwE, hMu, hM, hMi]
        exact hout (da1 + 1) (n1 * (S + C)) h125 (by omega) (by omega) (by simp [w0]) (by simp) (by simp [w7]) (by simp [w8]) rfl
       ·have hDm : ¬ D' ≤ da1 := by omega
        simp [w0, w1, w7, w8, w9, hE0, hEl, hEl', hwd, hwS, hDm, hDi, hSm, hSi, hcE, hcE2, hE1, h125, hwE, hMu, hM, hMi]
        exact hout D' (n1 * (S + C)) h125 (by omega) (by omega) (by simp [w0]) (by simp) (by simp [w7]) (by simp [w8]) rfl
      ·have hMi : ¬ (n1 : Int) * ((S : Int) + (C : Int)) < 65 := by (have hb2 : ((n1 * (S + C) : Nat) : Int) = (n1 : Int) * ((S : Int) + (C : Int)) := by push_cast; rfl); omega
       rcases hD2 with ⟨rfl, hDi⟩ | ⟨rfl, hDi⟩
       ·have hDm : D ≤ da1 := by omega
        simp [w0, w1, w7, w8, w9, hE0, hEl, hEl', hwd, hwS, hDm, hDi, hSm, hSi, hcE, hcE2, hE1, h125, hwE, hMu, hM, hMi]
        exact hout (da1 + 1) 65 h125 (by omega) (by omega) (by simp [w0]) (by simp) (by simp [w7]) (by simp [w8]) rfl
       ·have hDm : ¬ D' ≤ da1 := by omega
        simp [w0, w1, w7, w8, w9, hE0, hEl, hEl', hwd, hwS, hDm, hDi, hSm, hSi, hcE, hcE2, hE1, h125, hwE, hMu, hM, hMi]
        exact hout D' 65 h125 (by omega) (by omega) (by simp [w0]) (by simp) (by simp [w7]) (by simp [w8]) rfl
     ·have hSm : ¬ S + C < 65 := by omega
      have hMu : IntKind.i64.wrap ((n1 : Int) * 65) = (n1 : Int) * 65 := wrap_i64 (by omega) (by omega)
      by_cases hMi : (n1 : Int) * 65 < 65
      ·have hM : n1 * 65 < 65 := by omega
       rcases hD2 with ⟨rfl, hDi⟩ | ⟨rfl, hDi⟩
       ·have hDm : D ≤ da1 := by omega
        simp [w0, w1, w7, w8, w9, hE0, hEl, hEl', hwd, hwS, hDm, hDi, hSm, hSi, hcE, hcE2, hE1, h125, hwE, hMu, hM, hMi]
        exact hout (da1 + 1) (n1 * 65) h125 (by omega) (by omega) (by simp [w0]) (by simp) (by simp [w7]) (by simp [w8]) rfl
       ·have hDm : ¬ D' ≤ da1 := by omega
        simp [w0, w1, w7, w8, w9, hE0, hEl, hEl', hwd, hwS, hDm, hDi, hSm, hSi, hcE, hcE2, hE1, h125, hwE, hMu, hM, hMi]
        exact hout D' (n1 * 65) h125 (by omega) (by omega) (by simp [w0]) (by simp) (by simp [w7]) (by simp [w8]) rfl
      ·have hM : ¬ n1 * 65 < 65 := by omega
       rcases hD2 with ⟨rfl, hDi⟩ | ⟨rfl, hDi⟩
       ·have hDm : D ≤ da1 := by omega
        simp [w0, w1, w7, w8, w9, hE0, hEl, hEl', hwd, hwS, hDm, hDi, hSm, hSi, hcE, hcE2, hE1, h125, hwE, hMu, hM, hMi]
        exact hout (da1 + 1) 65 h125 (by omega) (by omega) (by simp [w0]) (by simp) (by simp [w7]) (by simp [w8]) rfl
       ·have hDm : ¬ D' ≤ da1 := by omega
        simp [w0, w1, w7, w8, w9, hE0, hEl, hEl', hwd, hwS, hDm, hDi, hSm, hSi, hcE, hcE2, hE1, h125, hwE, hMu, hM, hMi]
        exact hout D' 65 h125 (by omega) (by omega) (by simp [w0]) (by simp) (by simp [w7]) (by simp [w8]) rfl
    ·have h125i : ¬ (c'.toNat : Int) = 125 := u8_ne (n := 125) rfl h125
     by_cases hSi : (S : Int) + (C : Int) < 65
     ·have hSm : S + C < 65 := by omega
      rcases hD2 with ⟨rfl, hDi⟩ | ⟨rfl, hDi⟩
      ·have hDm : D ≤ da1 := by omega
       simp [w0, w1, w7, w8, w9, hE0, hEl, hEl', hwd, hwS, hDm, hDi, hSm, hSi, hcE, hcE2, hE1, h125, h125i]
       exact hinn (da1 + 1) (S + C) h125 (by omega) (by omega) (by simp [w0]) (by simp) (by simp [w7]) (by simp [w8]) (by simp) rfl
      ·have hDm : ¬ D' ≤ da1 := by omega
       simp [w0, w1, w7, w8, w9, hE0, hEl, hEl', hwd, hwS, hDm, hDi, hSm, hSi, hcE, hcE2, hE1, h125, h125i]
       exact hinn D' (S + C) h125 (by omega) (by omega) (by simp [w0]) (by simp) (by simp [w7]) (by simp [w8]) (by simp) rfl
     ·have hSm : ¬ S + C < 65 := by omega
      rcases hD2 with ⟨rfl, hDi⟩ | ⟨rfl, hDi⟩
      ·have hDm : D ≤ da1 := by omega
       simp [w0, w1, w7, w8, w9, hE0, hEl, hEl', hwd, hwS, hDm, hDi, hSm, hSi, hcE, hcE2, hE1, h125, h125i]
       exact hinn (da1 + 1) 65 h125 (by omega) (by omega) (by simp [w0]) (by simp) (by simp [w7]) (by simp [w8]) (by simp) rfl
      ·have hDm : ¬ D' ≤ da1 := by omega
       simp [w0, w1, w7, w8, w9, hE0, hEl, hEl', hwd, hwS, hDm, hDi, hSm, hSi, hcE, hcE2, hE1, h125, h125i]
       exact hinn D' 65 h125 (by omega) (by omega) (by simp [w0]) (by simp) (by simp [w7]) (by simp [w8]) (by simp) rfl
  ·have n123 : ¬ ((c.toNat : Int) = 123) := u8_ne (n := 123) rfl h123
   simp [h0, h1, h7, h8, hlt, hlt', hc, hc2, hnb, n63, n42, n91, n123]
theorem chk_long {p : List UInt8} (h : 128 < p.length) : chk p = 12 := by simp [chk, Glob.parse, h]
theorem chk_none {p : List UInt8} (h : ¬ 128 < p.length) (hp : pcs (2 * p.length + 2) p = none) : chk p = 10 := by simp [chk, Glob.parse, h, hp]
theorem chk_some {p : List UInt8} {l : List Pc} {r : List UInt8} {d : Nat} (h : ¬ 128 < p.length) (hp : pcs (2 * p.length + 2) p = some (l, r, d)) : chk p = if p = [] ∨ r ≠ [] then 10 else if 4 < d then 19 else if 64 < cnt 1 l then 11 else 0 := by
 simp only [chk, Glob.parse, if_neg h, hp]
 repeat' split
 all_goals first | rfl | simp_all
theorem rcheck_any (p : List UInt8) (hp : p.length ≤ 1000000) : PCalls Tryz.prog n_isobarref15_Check [.str p] (fun v => v = .int .i64 (chk p)) := by
 refine pcalls_of_awp hmix c_isobarref15_Check rfl ?_
 by_cases hl : 128 < p.length
 ·have g1 : (128 : Int) < (p.length : Int) := by omega
  simp [a_isobarref15_Check, g1, hl, chk_long hl]
 have g1 : ¬ (128 : Int) < (p.length : Int) := by omega
 cases hpc : pcs (2 * p.length + 2) p with
 | none =>
  rw [chk_none hl hpc]
  have hf := rform_err (G := G) p.length p 0 (by omega) (by omega) hp (by simpa using noP_of hpc (by omega))
  simp at hf
  have hm1 : ¬ (-1 : Int) = (p.length : Int) := by omega
  simp [a_isobarref15_Check, g1, hl]
  refine ac_same hf (by simp) ?_
  rintro v rfl
  by_cases h2 : p = []
  ·simp [h2]
  ·simp [h2, hm1]
 | some x =>
  obtain ⟨l, r, d⟩ := x
  rw [chk_some hl hpc]
  have hdep := (pcs_depth _).1 _ _ _ _ hpc
  have hf := rform_ok (G := G) p.length p 0 (2 * p.length + 2) l r d (by omega) (by omega) hp (by omega) (by simpa using hpc)
  simp at hf
  simp [a_isobarref15_Check, g1, hl]
  refine ac_same hf (by simp) ?_
  rintro v rfl
  by_cases h2 : p = []
  ·simp [h2]
  by_cases h3 : r = []
  ·subst h3
   by_cases g2 : 4 < d
   ·have g2' : (4 : Int) < (d : Int) := by omega
    simp [h2, g2, g2']
   ·have g2' : ¬ (4 : Int) < (d : Int) := by omega
    by_cases g3 : 64 < cnt 1 l
    ·have g3' : (64 : Int) < (cnt 1 l : Int) := by omega
     simp [h2, g2, g2', g3, g3']
    ·have g3' : ¬ (64 : Int) < (cnt 1 l : Int) := by omega
     simp [h2, g2, g2', g3, g3']
  ·have hrl : 0 < r.length := List.length_pos_iff.2 h3
   have h4 : ¬ ((p.length - r.length : Nat) : Int) = (p.length : Int) := by
    have : p.length ≠ 0 := by intro h; exact h2 (List.length_eq_zero_iff.1 h)
    omega
   have h4' : ¬ (p.length - r.length = p.length) := by
    have : p.length ≠ 0 := by intro h; exact h2 (List.length_eq_zero_iff.1 h)
    omega
   simp [h2, h3, h4, h4']
end Go.Proofs.YtalfhchbmhoagaaGreatDoor
end
section
set_option maxHeartbeats 4000000
namespace Go.Proofs.YtalfhchbmhoagaaGreatDoor
open Go.Abs Go.Glob Go.Trail
variable {G : Globs}
def AccW (e size : Nat) (σ : Store) (v : AV) (l : List (List AV)) : Prop := (l = [] ∧ v = .nils) ∨ (l ≠ [] ∧ ∃ rid, v = .row rid l.length ∧ σ[rid]? = some (.row e size l true))
theorem ap_accW {K : AV → Store → Prop} {t : Tg K} {e size bytes : Nat} {σ : Store} {v : AV} {l : List (List AV)} (h : AccW e size σ v l) (x : List AV) (hs : 0 < size) (hx : x.length = size) (hb : (l.length + 1) * bytes ≤ 140737488355328) (h63 : l.length + 1 ≤ 9223372036854775807)
  (hK : ∀ v' σ', AccW e size σ' v' (l ++ [x]) → K v' σ') : ap K t σ e size bytes v (.lst [x]) := by
 rcases h with ⟨rfl, rfl⟩ | ⟨h1, rid, rfl, h4⟩
 ·refine ap_new true [x] rfl hs (by simp [hx]) (fun _ => .inl rfl) (by simpa using hb) (by simp) ?_
  exact hK (.row σ.length 1) (σ ++ [.row e size [x] true]) (.inr ⟨by simp, σ.length, by simp, by simp⟩)
 ·have hlt := (List.getElem?_eq_some_iff.1 h4).1
  refine ap_row l [x] true h4 rfl hs (by simp [hx]) (fun _ => .inl rfl) rfl (by simpa using hb) (by simpa using h63) ?_
  exact hK (.row rid (l.length + 1)) (σ.set rid (.row e size (l ++ [x]) true)) (.inr ⟨by simp, rid, by simp, by rw [List.getElem?_set_self hlt]⟩)
theorem take_snoc {s : List UInt8} {i a : Nat} {c : UInt8} (hc : s[i]? = some c) (ha : a ≤ i) : (s.take (i + 1)).drop a = (s.take i).drop a ++ [c] := by
 have hl := (List.getElem?_eq_some_iff.1 hc).1
 rw [List.take_add_one, hc, List.drop_append_of_le_length (by rw [List.length_take]; omega)]
 rfl
theorem no_point {s : List UInt8} {i a : Nat} {c : UInt8} (hc : s[i]? = some c) (ha : a ≤ i) (h : ∀ d ∈ (s.take i).drop a, d ≠ 46) (hn : c ≠ 46) : ∀ d ∈ (s.take (i + 1)).drop a, d ≠ 46 := by
 rw [take_snoc hc ha]
 intro d hd
 rcases List.mem_append.1 hd with hd | hd
 ·exact h d hd
 ·simp only [List.mem_singleton] at hd; subst hd; exact hn
theorem r16cut_ok (s : List UInt8) (hs : s.length ≤ 9000000000000000000) : PCalls Tryz.prog n_isobarref16_cut [.str s] (fun r => r = .lst (strEls ((sp s).take 10))) := by
 refine pcalls_of_awp hmix c_isobarref16_cut rfl ?_
 simp [a_isobarref16_cut]
 refine lp_startx (fun x f σ => ∃ (i fr : Nat) (out : List (List UInt8)), x = s.length + 1 - i ∧ i ≤ s.length + 1 ∧ out.length ≤ 10 ∧ ((i = s.length + 1 ∧ sp s = out) ∨ (i ≤ s.length ∧ fr ≤ i ∧ sp s = out ++ sp (s.drop fr) ∧ ∀ d ∈ (s.take i).drop fr, d ≠ 46)) ∧ f 0 = .str s ∧ AccW 9 1 σ (f 3) (strEls out) ∧ f 4 = .int .i64 fr ∧ f 5 = .int .i64 i) (s.length + 1) ?_ ?_
 ·exact ⟨0, 0, [], by simp, by simp, by simp, .inr ⟨by simp, by simp, by simp, by simp⟩, by simp, .inl ⟨rfl, by simp⟩, by simp, by simp⟩
 rintro x f σ ⟨i, fr, out, hx, hi, ho, hinv, h0, h3, h4, h5⟩
 have htl : (strEls out).length = out.length := by simp [strEls]
 have hend : ∀ (_ : sp s = out ∨ (out.length = 10 ∧ ∃ r, sp s = out ++ r)), (sp s).take 10 = out := by
  rintro (h | ⟨h1, r, h2⟩)
  ·rw [h]; exact List.take_of_length_le ho
  ·rw [h2, List.take_append_of_le_length (by omega)]; exact List.take_of_length_le ho
 by_cases hil : i ≤ s.length
 ·obtain ⟨_, hfr, hsp, hno⟩ := hinv.resolve_left (fun h => by omega)
  have hil' : (i : Int) ≤ (s.length : Int) := by omega
  have hwi : IntKind.i64.wrap ((i : Int) + 1) = (i : Int) + 1 := wrap_i64 (by omega) (by omega)
  have hfi : (fr : Int) ≤ (i : Int) := by omega
  by_cases h10 : out.length < 10
  ·have h10' : (out.length : Int) < 10 := by omega
   have hview : view σ (f 3) = some (strEls out) := by
    rcases h3 with ⟨h1, h2⟩ | ⟨h1, rid, h2, he⟩
    ·rw [h2, h1]; rfl
    ·rw [h2]; simp [view, he]
   by_cases hie : i = s.length
   ·subst hie
    have hpl : sp (s.drop fr) = [s.drop fr] := sp_plain _ (by rw [List.take_of_length_le (Nat.le_refl _)] at hno; exact hno)
    simp [h0, h3, h4, h5, hil, hil', hview, htl, h10, h10', hfi, hfr]
    refine ap_accW h3 _ (by omega) rfl (by rw [htl]; omega) (by rw [htl]; omega) ?_
    intro v' σ' hacc
    simp [h4, h5, hwi]
    refine nx_intro 0 (by omega) ⟨s.length + 1, s.length + 1, out ++ [s.drop fr], by omega, by omega, by simp; omega, .inl ⟨rfl, by rw [hsp, hpl]⟩, by simp [h0], by simpa [strEls] using hacc, by simp, by simp⟩
   ·have hlt : i < s.length := by omega
    obtain ⟨c, hc⟩ : ∃ c, s[i]? = some c := ⟨_, List.getElem?_eq_getElem hlt⟩
    obtain ⟨_, hc2⟩ := List.getElem?_eq_some_iff.1 hc
    have hd := drop_cons hc
    have hne : ¬ (i : Int) = (s.length : Int) := by omega
    by_cases h46 : c = 46
    ·subst h46
     have hdd : s.drop fr = (s.take i).drop fr ++ 46 :: s.drop (i + 1) := by
      rw [← hd]
      conv => lhs; rw [← List.take_append_drop i s]
      rw [List.drop_append_of_le_length (by rw [List.length_take]; omega)]
     have hspn : sp (s.drop fr) = (s.take i).drop fr :: sp (s.drop (i + 1)) := by rw [hdd, sp_app _ _ hno]
     simp [h0, h3, h4, h5, hil, hil', hview, htl, h10, h10', hne, hie, hc, hc2, hfi, hfr]
     refine ap_accW h3 _ (by omega) rfl (by rw [htl]; omega) (by rw [htl]; omega) ?_
     intro v' σ' hacc
     simp [h4, h5, hwi]
     refine nx_intro (s.length + 1 - (i + 1)) (by omega) ⟨i + 1, i + 1, out ++ [(s.take i).drop fr], by omega, by omega, by simp; omega, .inr ⟨by omega, Nat.le_refl _, by rw [hsp, hspn]; simp, by simp⟩, by simp [h0], by simpa [strEls] using hacc, by simp, by simp⟩
    ·have h46' : ¬ ((c.toNat : Int) = 46) := fun e => h46 (UInt8.toNat_inj.1 (show c.toNat = 46 by omega))
     simp [h0, h3, h4, h5, hil, hil', hview, htl, h10, h10', hne, hie, hc, hc2, h46', hwi]
     refine nx_intro (s.length + 1 - (i + 1)) (by omega) ⟨i + 1, fr, out, by omega, by omega, ho, .inr ⟨by omega, by omega, hsp, no_point hc hfr hno h46⟩, by simp [h0], by simpa using h3, by simp [h4], by simp⟩
  ·have h10' : ¬ (out.length : Int) < 10 := by omega
   have he := hend (.inr ⟨by omega, _, hsp⟩)
   rw [he]
   rcases h3 with ⟨h1, h2⟩ | ⟨h1, rid, h2, hr⟩
   ·rw [h1] at htl; simp at htl; omega
   ·simp [h0, h2, h5, hil, hil', view, hr, htl, h10, h10']
 ·obtain ⟨hie, hsp⟩ := hinv.resolve_right (fun h => by omega)
  have hil' : ¬ (i : Int) ≤ (s.length : Int) := by omega
  have he := hend (.inl hsp)
  rw [he]
  rcases h3 with ⟨h1, h2⟩ | ⟨h1, rid, h2, hr⟩
  ·rw [h1]
   simp [h0, h2, h5, hil, hil']
  ·simp [h0, h2, h5, hil, hil', view, hr, htl]
theorem r16nodes_ok (s : List UInt8) (hs : s.length ≤ 1000000) : PCalls Tryz.prog n_isobarref16_Nodes [.str s] (fun r => r = nodesAV (nodes s)) := by
 refine pcalls_of_awp hmix c_isobarref16_Nodes rfl ?_
 simp [a_isobarref16_Nodes]
 refine ac_same (r16cut_ok s (by omega)) (by simp) ?_
 rintro r rfl
 by_cases h8 : (sp s).length ≤ 8
 ·have ec : (sp s).take 10 = sp s := List.take_of_length_le (by omega)
  rw [ec]
  have e : (strEls (sp s)).length = (sp s).length := by simp [strEls]
  have h8' : ¬ (8 : Int) < ((sp s).length : Int) := by omega
  have h8'' : ¬ 8 < (sp s).length := by omega
  simp [h8, h8', h8'', e]
  have hml := sp_mem_len s
  have hp : nodes s = match (sp s).find? (fun p => chk p != 0) with | some p => .error (chk p) | none => .ok (sp s) := by unfold nodes; rw [if_pos h8]; rfl
  generalize hL : sp s = L at *
  refine lp_startx (fun x f σ => ∃ i : Nat, x = L.length - i ∧ i ≤ L.length ∧ f 4 = .lst (strEls L) ∧ f 5 = .int .i64 i ∧ (∀ q ∈ L.take i, chk q = 0) ∧ σ = []) L.length ⟨0, by simp, by simp, by simp, by simp, by simp, rfl⟩ ?_
  rintro x f σ ⟨i, hx, hi, h4, h5, hall, rfl⟩
  by_cases hlt' : i < L.length
  ·obtain ⟨p, hpp⟩ : ∃ p, L[i]? = some p := ⟨_, List.getElem?_eq_getElem hlt'⟩
   have hm : p ∈ L := List.mem_of_getElem? hpp
   have hse : (strEls L)[i]? = some [.str p] := by simp [strEls, hpp]
   obtain ⟨hx1, hx2⟩ := List.getElem?_eq_some_iff.1 hse
   have hwi : IntKind.i64.wrap ((i : Int) + 1) = (i : Int) + 1 := wrap_i64 (by omega) (by omega)
   simp [h4, h5, hse, hx2, e, hlt']
   refine ac_same (rcheck_any p (by have := hml p hm; omega)) (by simp) ?_
   rintro r rfl
   by_cases hz : chk p = 0
   ·simp [hz, h4, h5, hwi]
    refine nx_intro (L.length - (i + 1)) (by omega) ⟨i + 1, rfl, by omega, by simp [h4], by simp, ?_, rfl⟩
    intro x hx
    rw [List.take_add_one, hpp] at hx
    simp only [Option.toList_some, List.mem_append, List.mem_singleton] at hx
    rcases hx with hx | rfl
    ·exact hall x hx
    ·exact hz
   ·have hfind : L.find? (fun p => chk p != 0) = some p := by
     rw [List.find?_eq_some_iff_getElem]
     obtain ⟨g1, g2⟩ := List.getElem?_eq_some_iff.1 hpp
     refine ⟨by simpa using hz, i, g1, g2, fun j hj => ?_⟩
     have := hall L[j] (List.mem_take_iff_getElem.2 ⟨j, by omega, rfl⟩)
     simp [this]
    rw [hfind] at hp
    have hzi : ¬ (chk p : Int) = 0 := by omega
    rw [hp]
    simp [hz, hzi, nodesAV]
  ·have e' : L.take i = L := List.take_of_length_le (by omega)
   rw [e'] at hall
   have hfind : L.find? (fun p => chk p != 0) = none := by
    rw [List.find?_eq_none]; intro x hx; simp [hall x hx]
   rw [hfind] at hp
   rw [hp]
   simp [h4, h5, nodesAV, e, hlt']
 ·have h8' : 8 < ((sp s).take 10).length := by rw [List.length_take]; omega
  have h8i : (8 : Int) < ((((sp s).take 10).length : Nat) : Int) := by omega
  have hp : nodes s = .error 11 := by unfold nodes; simp [h8]
  have e : (strEls ((sp s).take 10)).length = ((sp s).take 10).length := by simp [strEls]
  generalize (sp s).take 10 = L at *
  simp [h8', h8i, hp, nodesAV, e]
end Go.Proofs.YtalfhchbmhoagaaGreatDoor
end
