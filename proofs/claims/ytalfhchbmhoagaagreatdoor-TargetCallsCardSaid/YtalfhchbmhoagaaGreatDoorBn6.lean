/- Targets: nodes checked (the program). A target's nodes as a tree laid out in a list, in plain Lean. What is told of a tree from its leaves up; what th -/
import Derived.Test.YtalfhchbmhoagaaGreatDoorBn1
import Derived.Test.YtalfhchbmhoagaaGreatDoorBn2
import Derived.Test.YtalfhchbmhoagaaGreatDoorBn3
import Derived.Test.YtalfhchbmhoagaaGreatDoorBn4
import Derived.Test.YtalfhchbmhoagaaGreatDoorBn5
set_option linter.unusedSimpArgs false
set_option linter.unusedVariables false
set_option linter.constructorNameAsVariable false
section
set_option maxHeartbeats 4000000
namespace Go.Tgt
theorem kinds_mem {call k : List UInt8} (h : kindsS call = some k) : k ∈ famT.map (·.1) := by
 unfold kindsS at h
 rw [Option.map_eq_some_iff] at h
 obtain ⟨p, h1, rfl⟩ := h
 exact List.mem_map.2 ⟨p, List.mem_of_find?_eq_some h1, rfl⟩
def InL (l : List Nd) (n : Nd) : Prop := n.args.length ≤ 1000 ∧ (n.kind = 1 → n.text.length ≤ 1000000) ∧ ∀ a ∈ n.args, 0 ≤ a ∧ a < l.length
end Go.Tgt
namespace Go.Proofs.YtalfhchbmhoagaaGreatDoor
open Go.Abs Go.Tgt Go.Trail
variable {G : Globs}
theorem bytesOf_els : ∀ l : List UInt8, bytesOf (byteEls l) = some l
 | [] => rfl
 | c :: l => by
  have ih := bytesOf_els l
  unfold byteEls at ih ⊢
  simp [bytesOf, ih]
def nodE (s : List UInt8) : Nat := match nodes s with
 | .error e => e
 | .ok _ => 0
theorem tletter_ok (n : Nd) : PCalls Tryz.prog n_target_letter [ndA n] (fun r => r = .int .u8 (letterS n).toNat) := by
 refine pcalls_of_awp hmix c_target_letter rfl ?_
 obtain ⟨k, s, v, a⟩ := n
 by_cases h2 : k = 2
 ·subst h2; simp [a_target_letter, boxOp, ndA_eq, letterS]
 ·by_cases h3 : k = 3
  ·subst h3; simp [a_target_letter, boxOp, ndA_eq, letterS]
  ·simp [a_target_letter, boxOp, ndA_eq, letterS, h2, h3]
def lettA (l : List Nd) (a : Int) : UInt8 := letterS (l.getD a.toNat ⟨0, [], 0, []⟩)
theorem byteEls_app1 (l : List UInt8) (c : UInt8) : byteEls l ++ [[.int .u8 c.toNat]] = byteEls (l ++ [c]) := by simp [byteEls]
theorem byteEls_pureT (l : List UInt8) : ∀ c ∈ byteEls l, ∀ a ∈ c, a.pure = true := by
 intro c hc a ha
 obtain ⟨n, _, rfl⟩ := List.mem_map.1 hc
 simp only [List.mem_cons, List.mem_nil_iff, or_false] at ha
 subst ha; simp [AV.pure]
theorem byteEls_len (l : List UInt8) : (byteEls l).length = l.length := by simp [byteEls]
theorem tnode_ok [GSpcT] [GFam] (l : List Nd) (n : Nd) (hl : l.length ≤ 1000000) (hn : InL l n) :
  PCalls Tryz.prog n_target_node [.lst (ndEls l), ndA n] (fun r => r = .int .i64 (nodeS nodE l n)) := by
 refine pcalls_of_awp hmix c_target_node rfl ?_
 obtain ⟨k, s, v, a⟩ := n
 obtain ⟨hn1, hn2, hn3⟩ := hn
 simp only at hn1 hn2 hn3
 by_cases h1 : k = 1
 ·subst h1
  simp [a_target_node, boxOp, ndA_eq, nodeS]
  refine ac_same (nodes_ok s (by have := hn2 rfl; omega)) (by simp) ?_
  rintro r rfl
  unfold nodE
  cases nodes s with
  | error e => simp [nodesAV]
  | ok x => simp [nodesAV]
 by_cases h4 : k = 4
 ·subst h4
  simp [a_target_node, boxOp, ndA_eq, nodeS]
  refine ac_same (tKinds_ok s) (by simp) ?_
  rintro r rfl
  cases hk : kindsS s with
  | none => simp [kindsAV]
  | some ks =>
   have hkm := kinds_mem hk
   have hal := intEls_len a
   simp [kindsAV, hal]
   refine lp_startx (fun x f σ => ∃ j : Nat, x = a.length - j ∧ j ≤ a.length ∧ f 0 = .lst (ndEls l) ∧ f 7 = .str ks ∧ f 34 = .lst (intEls a) ∧ f 35 = .int .i64 a.length ∧ f 36 = .int .i64 j ∧ AccI 5 1 σ (f 9) (byteEls ((a.take j).map (lettA l)))) a.length ⟨0, by simp, by simp, by simp, by simp, by simp, by simp, by simp, by simpa [byteEls] using accI_nil⟩ ?_
   rintro x f σ ⟨j, hx, hj, f0, f7, f34, f35, f36, hacc⟩
   by_cases hlt : j < a.length
   ·obtain ⟨y, hy⟩ : ∃ y, a[j]? = some y := ⟨_, List.getElem?_eq_getElem hlt⟩
    have hym := List.mem_of_getElem? hy
    obtain ⟨y0, y1⟩ := hn3 y hym
    obtain ⟨m, rfl⟩ : ∃ m : Nat, y = (m : Int) := ⟨y.toNat, by omega⟩
    have hml : m < l.length := by omega
    obtain ⟨nd, hnd⟩ : ∃ nd, l[m]? = some nd := ⟨_, List.getElem?_eq_getElem hml⟩
    have hge := ndEls_get hnd
    obtain ⟨g1, g2⟩ := List.getElem?_eq_some_iff.1 hge
    have hie : (intEls a)[j]? = some [.int .i64 m] := by simp [intEls, hy]
    obtain ⟨i1, i2⟩ := List.getElem?_eq_some_iff.1 hie
    have hnl := ndEls_len l
    have hlti : (j : Int) < (a.length : Int) := by omega
    have hw : IntKind.i64.wrap ((j : Int) + 1) = (j : Int) + 1 := wrap_i64 (by omega) (by omega)
    have hmi : (m : Int) < (l.length : Int) := by omega
    have hlet := tletter_ok (G := G) nd
    rw [ndA_eq] at hlet
    have hle : lettA l (m : Int) = letterS nd := by simp [lettA, List.getD, hnd]
    simp [f0, f34, f35, f36, hlt, hlti, hie, i1, i2, hge, g1, g2, hnl, hmi, hml, hal]
    refine ac_same hlet (by simp) ?_
    rintro r rfl
    simp [f36]
    refine ap_accI (bytes := 1) hacc [.int .u8 (letterS nd).toNat] (by decide) rfl (by rw [byteEls_app1]; exact byteEls_pureT _) (by rw [byteEls_len]; simp; omega) (by rw [byteEls_len]; simp; omega) fun V' σ2 ha2 hk2 hkeep hsame => ?_
    simp [f36, hw]
    refine nx_intro (a.length - (j + 1)) (by omega) ⟨j + 1, rfl, by omega, by simp [f0], by simp [f7], by simp [f34], by simp [f35], by simp, ?_⟩
    rw [byteEls_app1] at ha2
    rw [List.take_add_one, hy]
    simpa [hle] using ha2
   ·have hja : j = a.length := by omega
    subst hja
    rw [List.take_length] at hacc
    have hv := hacc.view
    have hb := bytesOf_els (a.map (lettA l))
    simp [f7, f35, f36, hv, hb]
    refine ac_same (tfits_ok ks (a.map (lettA l)) hkm (by simp; omega)) (by simp) ?_
    rintro r rfl
    have he : (a.map fun a => letterS (l[a.toNat]?.getD ⟨0, [], 0, []⟩)) = a.map (lettA l) := rfl
    cases hf : fitK ks (a.map (lettA l)) with
    | true => simp [he, hf]
    | false => simp [he, hf]
 ·simp [a_target_node, boxOp, ndA_eq, nodeS, h1, h4]
end Go.Proofs.YtalfhchbmhoagaaGreatDoor
end
section
namespace Go.Tgt
def deepS (l : List (Nat × Nat)) : Nat := l.foldr (fun w d => max d (w.2 + 1)) 1
theorem deepS_pos : ∀ l, 1 ≤ deepS l
 | [] => Nat.le_refl _
 | w :: l => by have := deepS_pos l; simp only [deepS, List.foldr_cons] at this ⊢; omega
theorem deepS_cons (w : Nat × Nat) (l) : deepS (w :: l) = max (deepS l) (w.2 + 1) := rfl
theorem deepS_mem : ∀ {l : List (Nat × Nat)} {w : Nat × Nat}, w ∈ l → w.2 + 1 ≤ deepS l
 | x :: l, w, h => by
  rw [deepS_cons]
  rcases List.mem_cons.1 h with rfl | h
  ·omega
  ·have := deepS_mem h; omega
theorem deepS_le {l : List (Nat × Nat)} {m : Nat} (h : ∀ w ∈ l, w.2 ≤ m) : deepS l ≤ m + 1 := by
 induction l with
 | nil => simp [deepS]
 | cons w l ih =>
  rw [deepS_cons]
  have := ih fun w hw => h w (by simp [hw])
  have := h w (by simp)
  omega
def atsS (l : List (Nat × Nat)) : List Int := l.map fun w => (w.1 : Int)
def stepS (n : Nd) (S : List (Nat × Nat)) (i : Nat) : Option (List (Nat × Nat)) :=
 if n.args.length ≤ S.length ∧ atsS (S.drop (S.length - n.args.length)) = n.args then some (S.take (S.length - n.args.length) ++ [(i, deepS (S.drop (S.length - n.args.length)))]) else none
def shapeF (own : Nd → Bool) : List Nd → Nat → List (Nat × Nat) → Option (List (Nat × Nat))
 | [], _, S => some S
 | n :: r, i, S => if own n = true then (stepS n S i).bind (shapeF own r (i + 1)) else none
def shapeS (own : Nd → Bool) (l : List Nd) : Option (List (Nat × Nat)) := shapeF own l 0 []
theorem shapeF_app (own : Nd → Bool) : ∀ (l m : List Nd) (i : Nat) (S), shapeF own (l ++ m) i S = (shapeF own l i S).bind (shapeF own m (i + l.length))
 | [], m, i, S => by simp [shapeF]
 | n :: l, m, i, S => by
  simp only [List.cons_append, shapeF]
  split
  ·cases stepS n S i with
   | none => rfl
   | some S' =>
    simp only [Option.bind_some]
    rw [shapeF_app own l m (i + 1) S']
    simp only [List.length_cons]
    rw [show i + 1 + l.length = i + (l.length + 1) by omega]
  ·rfl
theorem shapeS_snoc (own : Nd → Bool) (l : List Nd) (n : Nd) : shapeS own (l ++ [n]) = (shapeS own l).bind fun S => if own n = true then stepS n S l.length else none := by
 unfold shapeS
 rw [shapeF_app]
 congr 1
 funext S
 simp only [shapeF, Nat.zero_add]
 split
 ·cases stepS n S l.length <;> rfl
 ·rfl
def bOf (S : List (Nat × Nat)) : Nat → Nat
 | 0 => 0
 | j + 1 => match S[j]? with
  | some w => w.1 + 1
  | none => 0
def ChainP (B : Nat → Nat) : Nat → Nat → List Int → Prop
 | b, e, [] => b = e
 | b, e, a :: as_ => ∃ k : Nat, a = (k : Int) ∧ B k = b ∧ b ≤ k ∧ k < e ∧ ChainP B (k + 1) e as_
theorem ChainP.le {B : Nat → Nat} : ∀ {as_ : List Int} {b e : Nat}, ChainP B b e as_ → b ≤ e
 | [], b, e, h => Nat.le_of_eq h
 | a :: as_, b, e, h => by
  obtain ⟨k, _, _, h1, h2, _⟩ := h
  omega
theorem ChainP.congr {B B' : Nat → Nat} : ∀ {as_ : List Int} {b e : Nat}, ChainP B b e as_ → (∀ k, k < e → B' k = B k) → ChainP B' b e as_
 | [], b, e, h, _ => h
 | a :: as_, b, e, h, hB => by
  obtain ⟨k, h0, h1, h2, h3, h4⟩ := h
  exact ⟨k, h0, by rw [hB k h3]; exact h1, h2, h3, h4.congr hB⟩
theorem ChainP.mem {B : Nat → Nat} : ∀ {as_ : List Int} {b e : Nat}, ChainP B b e as_ → ∀ a ∈ as_, 0 ≤ a ∧ a.toNat < e ∧ b ≤ B a.toNat
 | a :: as_, b, e, h, x, hx => by
  obtain ⟨k, h0, h1, h2, h3, h4⟩ := h
  rcases List.mem_cons.1 hx with rfl | hx
  ·subst h0
   simp; omega
  ·have := h4.mem x hx
   omega
structure Linked (own : Nd → Bool) (l : List Nd) (B D : Nat → Nat) : Prop where
 chain : ∀ (i : Nat) (n : Nd), l[i]? = some n → ChainP B (B i) i n.args
 deep : ∀ (i : Nat) (n : Nd), l[i]? = some n → 1 ≤ D i ∧ ∀ a ∈ n.args, D a.toNat + 1 ≤ D i
 own : ∀ (i : Nat) (n : Nd), l[i]? = some n → own n = true
structure OnStack (l : List Nd) (B D : Nat → Nat) (S : List (Nat × Nat)) : Prop where
 lt : ∀ w ∈ S, w.1 < l.length
 beg : ∀ (j : Nat) (w : Nat × Nat), S[j]? = some w → B w.1 = bOf S j ∧ D w.1 = w.2 ∧ bOf S j ≤ w.1
 top : bOf S S.length = l.length
theorem bOf_take {S T : List (Nat × Nat)} {j : Nat} (h : j ≤ S.length) : bOf (S ++ T) j = bOf S j := by
 cases j with
 | zero => rfl
 | succ j => simp only [bOf]; rw [List.getElem?_append_left (by omega)]
theorem chain_stack {l : List Nd} {B D : Nat → Nat} {S : List (Nat × Nat)} (h : OnStack l B D S) : ∀ (m j : Nat), m + j = S.length → ChainP B (bOf S j) l.length (atsS (S.drop j))
 | 0, j, hm => by
  rw [List.drop_eq_nil_of_le (by omega)]
  show bOf S j = l.length
  rw [← h.top]; congr 1; omega
 | m + 1, j, hm => by
  obtain ⟨w, hw⟩ : ∃ w, S[j]? = some w := ⟨_, List.getElem?_eq_getElem (by omega)⟩
  obtain ⟨hlt, hwe⟩ := List.getElem?_eq_some_iff.1 hw
  rw [List.drop_eq_getElem_cons hlt, hwe]
  obtain ⟨h1, h2, h3⟩ := h.beg j w hw
  have ih := chain_stack h m (j + 1) (by omega)
  refine ⟨w.1, rfl, h1, h3, h.lt w (List.mem_of_getElem? hw), ?_⟩
  have : bOf S (j + 1) = w.1 + 1 := by simp [bOf, hw]
  rw [← this]; exact ih
theorem linked_of (own : Nd → Bool) (l : List Nd) : ∀ (S : List (Nat × Nat)), shapeS own l = some S → ∃ B D, Linked own l B D ∧ OnStack l B D S := by
 obtain ⟨r, hr⟩ : ∃ r, r = l.reverse := ⟨_, rfl⟩
 obtain rfl : l = r.reverse := by rw [hr, List.reverse_reverse]
 clear hr
 induction r with
 | nil =>
  intro S h
  simp only [shapeS, shapeF, List.reverse_nil, Option.some.injEq] at h
  subst h
  exact ⟨fun _ => 0, fun _ => 0, ⟨fun i n h => by simp at h, fun i n h => by simp at h, fun i n h => by simp at h⟩, ⟨fun w h => by simp at h, fun j w h => by simp at h, rfl⟩⟩
 | cons n r ih =>
  intro S h
  rw [List.reverse_cons] at h ⊢
  generalize r.reverse = l at h ih
  rw [shapeS_snoc] at h
  cases hS : shapeS own l with
  | none => rw [hS] at h; cases h
  | some S0 =>
   rw [hS] at h
   simp only [Option.bind_some] at h
   split at h
   case isFalse => cases h
   rename_i hown
   unfold stepS at h
   split at h
   case isFalse => cases h
   rename_i hcond
   obtain ⟨hlen, hats⟩ := hcond
   simp only [Option.some.injEq] at h
   obtain ⟨B, D, hL, hO⟩ := ih S0 hS
   obtain ⟨j, hj⟩ : ∃ j, j = S0.length - n.args.length := ⟨_, rfl⟩
   rw [← hj] at h hats
   have hjl : j ≤ S0.length := by omega
   have hch := chain_stack hO (S0.length - j) j (by omega)
   rw [hats] at hch
   obtain ⟨B', hB'⟩ : ∃ B' : Nat → Nat, B' = fun k => if k = l.length then bOf S0 j else B k := ⟨_, rfl⟩
   obtain ⟨D', hD'⟩ : ∃ D' : Nat → Nat, D' = fun k => if k = l.length then deepS (S0.drop j) else D k := ⟨_, rfl⟩
   have hBo : ∀ k, k < l.length → B' k = B k := fun k hk => by rw [hB']; simp; omega
   have hDo : ∀ k, k < l.length → D' k = D k := fun k hk => by rw [hD']; simp; omega
   have hBn : B' l.length = bOf S0 j := by rw [hB']; simp
   have hDn : D' l.length = deepS (S0.drop j) := by rw [hD']; simp
   have hcase : ∀ (i : Nat) (x : Nd), (l ++ [n])[i]? = some x → (i < l.length ∧ l[i]? = some x) ∨ (i = l.length ∧ x = n) := fun i x hx => by
    by_cases hi : i < l.length
    ·rw [List.getElem?_append_left hi] at hx; exact .inl ⟨hi, hx⟩
    ·rw [List.getElem?_append_right (by omega)] at hx
     have := (List.getElem?_eq_some_iff.1 hx).1
     simp at this
     have e : i = l.length := by omega
     subst e
     simp at hx
     exact .inr ⟨rfl, hx.symm⟩
   refine ⟨B', D', ⟨fun i x hx => ?_, fun i x hx => ?_, fun i x hx => ?_⟩, ⟨fun w hw => ?_, fun k w hw => ?_, ?_⟩⟩
   ·rcases hcase i x hx with ⟨hi, hx⟩ | ⟨rfl, rfl⟩
    ·rw [hBo i hi]
     exact (hL.chain i x hx).congr fun k hk => hBo k (by omega)
    ·rw [hBn]
     exact hch.congr hBo
   ·rcases hcase i x hx with ⟨hi, hx⟩ | ⟨rfl, rfl⟩
    ·rw [hDo i hi]
     refine ⟨(hL.deep i x hx).1, fun a ha => ?_⟩
     have := (hL.chain i x hx).mem a ha
     rw [hDo _ (by omega)]
     exact (hL.deep i x hx).2 a ha
    ·rw [hDn]
     refine ⟨deepS_pos _, fun a ha => ?_⟩
     rw [← hats] at ha
     obtain ⟨w, hw, rfl⟩ := List.mem_map.1 ha
     have hw2 := deepS_mem hw
     obtain ⟨q, hq⟩ := List.getElem?_of_mem hw
     rw [List.getElem?_drop] at hq
     have hb := (hO.beg _ _ hq).2.1
     have hlt := hO.lt w (List.mem_of_getElem? hq)
     simp only [Int.toNat_natCast]
     rw [hDo _ hlt, hb]; exact hw2
   ·rcases hcase i x hx with ⟨hi, hx⟩ | ⟨rfl, rfl⟩
    ·exact hL.own i x hx
    ·exact hown
   ·subst h
    rcases List.mem_append.1 hw with hw | hw
    ·have := hO.lt w (List.mem_of_mem_take hw)
     simp; omega
    ·simp at hw; subst hw; simp
   ·subst h
    by_cases hk : k < j
    ·rw [List.getElem?_append_left (by simp; omega), List.getElem?_take, if_pos hk] at hw
     obtain ⟨h1, h2, h3⟩ := hO.beg k w hw
     have hlt := hO.lt w (List.mem_of_getElem? hw)
     have e : bOf (S0.take j ++ [(l.length, deepS (S0.drop j))]) k = bOf S0 k := by
      rw [bOf_take (by simp; omega)]
      have := bOf_take (S := S0.take j) (T := S0.drop j) (j := k) (by simp; omega)
      rw [List.take_append_drop] at this
      exact this.symm
     rw [hBo _ hlt, hDo _ hlt, e]
     exact ⟨h1, h2, h3⟩
    ·rw [List.getElem?_append_right (by simp; omega)] at hw
     have := (List.getElem?_eq_some_iff.1 hw).1
     simp at this
     have e : k = j := by omega
     subst e
     have hz : k - (S0.take k).length = 0 := by simp; omega
     rw [hz] at hw
     simp at hw; subst hw
     have e : bOf (S0.take k ++ [(l.length, deepS (S0.drop k))]) k = bOf S0 k := by
      rw [bOf_take (by simp; omega)]
      have := bOf_take (S := S0.take k) (T := S0.drop k) (j := k) (by simp; omega)
      rw [List.take_append_drop] at this
      exact this.symm
     rw [e, hBn]
     exact ⟨rfl, hDn, hch.le⟩
   ·subst h
    have : (S0.take j ++ [(l.length, deepS (S0.drop j))]).length = j + 1 := by simp; omega
    rw [this]
    simp only [bOf]
    rw [List.getElem?_append_right (by simp; omega)]
    have hz : j - (S0.take j).length = 0 := by simp; omega
    rw [hz]
    simp
end Go.Tgt
end
section
namespace Go.Tgt
section
variable {α : Type} (body : Nd → List α → α) (d : α)
def Back (l : List Nd) : Prop := ∀ (i : Nat) (n : Nd), l[i]? = some n → ∀ a ∈ n.args, a.toNat < i
variable {body d}
end
theorem Linked.back {own : Nd → Bool} {l : List Nd} {B D : Nat → Nat} (h : Linked own l B D) : Back l := fun i n hn a ha => ((h.chain i n hn).mem a ha).2.1
def sumW (W : Nd → Nat) (l : List Nd) : Nat := (l.map W).sum
theorem sumW_app (W : Nd → Nat) (l m : List Nd) : sumW W (l ++ m) = sumW W l + sumW W m := by simp [sumW]
theorem sumW_one (W : Nd → Nat) (n : Nd) : sumW W [n] = W n := by simp [sumW]
def wTok (n : Nd) : Nat := if n.kind = 4 then 3 + (n.args.length - 1) else 1
theorem stepS_top {n : Nd} {S W : List (Nat × Nat)} {i : Nat} (h : atsS W = n.args) : stepS n (S ++ W) i = some (S ++ [(i, deepS W)]) := by
 have hl : n.args.length = W.length := by rw [← h]; simp [atsS]
 have e : (S ++ W).length - n.args.length = S.length := by rw [List.length_append]; omega
 unfold stepS
 rw [e, if_pos ⟨by rw [List.length_append]; omega, by rw [List.drop_left]; exact h⟩, List.take_left, List.drop_left]
structure Owns (own : Nd → Bool) (t : List Tok.Tk) : Prop where
 path : ∀ x ∈ t, x.kind = 1 → own ⟨1, x.text, 0, []⟩ = true
 num : ∀ x ∈ t, x.kind = 2 → own ⟨2, [], numOf x.text, []⟩ = true
 txt : ∀ x ∈ t, x.kind = 3 → own ⟨3, x.text, 0, []⟩ = true
 call : ∀ s as_, as_.length ≤ 16 → own ⟨4, s, 0, as_⟩ = true
theorem Owns.tail {own : Nd → Bool} {x : Tok.Tk} {t : List Tok.Tk} (h : Owns own (x :: t)) : Owns own t :=
 ⟨fun y hy => h.path y (by simp [hy]), fun y hy => h.num y (by simp [hy]), fun y hy => h.txt y (by simp [hy]), h.call⟩
theorem Owns.sub {own : Nd → Bool} {t t' : List Tok.Tk} (h : Owns own t) (hs : ∀ x ∈ t', x ∈ t) : Owns own t' :=
 ⟨fun y hy => h.path y (hs y hy), fun y hy => h.num y (hs y hy), fun y hy => h.txt y (hs y hy), h.call⟩
def OneMore (own : Nd → Bool) (lv : Nat) (S : List (Nat × Nat)) (t : List Tok.Tk) (l : List Nd) (l' : List Nd) (t' : List Tok.Tk) : Prop :=
 (∃ d, d ≤ lv ∧ shapeS own l' = some (S ++ [(l'.length - 1, d)])) ∧ l'.length ≠ 0 ∧ sumW wTok l' + t'.length ≤ sumW wTok l + t.length ∧ (∃ n l0, l' = l0 ++ [n]) ∧ ∀ x ∈ t', x ∈ t
theorem oneMore_leaf {own : Nd → Bool} {lv : Nat} {S : List (Nat × Nat)} {x : Tok.Tk} {r : List Tok.Tk} {l : List Nd} {n : Nd} (hS : shapeS own l = some S) (ho : own n = true) (ha : n.args = []) (hk : n.kind ≠ 4) : OneMore own (lv + 1) S (x :: r) l (l ++ [n]) r := by
 refine ⟨⟨1, by omega, ?_⟩, by simp, ?_, ⟨n, l, rfl⟩, fun y hy => by simp [hy]⟩
 ·rw [shapeS_snoc, hS, Option.bind_some, if_pos ho]
  have := stepS_top (n := n) (S := S) (W := []) (i := l.length) (by rw [ha]; rfl)
  rw [List.append_nil] at this
  rw [this]
  simp [deepS]
 ·rw [sumW_app, sumW_one]
  simp [wTok, hk]; omega
theorem argsP_more {own : Nd → Bool} {lv : Nat} {word : List UInt8} {T : List Tok.Tk} (hT : Owns own T)
  (hsub : ∀ (t : List Tok.Tk) (l l' : List Nd) (t' : List Tok.Tk) (S), (∀ x ∈ t, x ∈ T) → shapeS own l = some S → argP lv t l = .ok (l', t') → OneMore own lv S t l l' t') :
  ∀ (f : Nat) (args : List Int) (t : List Tok.Tk) (l l' : List Nd) (t' : List Tok.Tk) (S W : List (Nat × Nat)), (∀ x ∈ t, x ∈ T) → shapeS own l = some (S ++ W) → atsS W = args → (∀ w ∈ W, w.2 ≤ lv) → args.length ≤ 15 →
   argsP (argP lv) word f args t l = .ok (l', t') → (∃ d, d ≤ lv + 1 ∧ shapeS own l' = some (S ++ [(l'.length - 1, d)])) ∧ l'.length ≠ 0 ∧ sumW wTok l' + t'.length ≤ sumW wTok l + t.length + 2 + args.length ∧ (∃ n l0, l' = l0 ++ [n]) ∧ ∀ x ∈ t', x ∈ t
 | 0, args, t, l, l', t', S, W, _, _, _, _, _, h => by simp [argsP] at h
 | f + 1, args, t, l, l', t', S, W, ht, hS, hW, hd, h15, h => by
  unfold argsP at h
  cases hx : argP lv t l with
  | error e => rw [hx] at h; cases h
  | ok p =>
   obtain ⟨l1, t1⟩ := p
   rw [hx] at h
   simp only at h
   obtain ⟨⟨d1, hd1, hs1⟩, hl1, hw1, _, hm1⟩ := hsub t l l1 t1 _ ht hS hx
   rw [List.append_assoc] at hs1
   have hats : atsS (W ++ [(l1.length - 1, d1)]) = args ++ [(l1.length : Int) - 1] := by
    simp only [atsS, List.map_append, List.map_cons, List.map_nil]
    congr 1
    ·congr 1; omega
   have hdd : ∀ w ∈ W ++ [(l1.length - 1, d1)], w.2 ≤ lv := fun w hw => by
    rcases List.mem_append.1 hw with hw | hw
    ·exact hd w hw
    ·simp at hw; subst hw; exact hd1
   cases t1 with
   | nil => cases h
   | cons y r =>
    simp only at h
    split at h
    ·rename_i hy
     cases h
     refine ⟨⟨deepS (W ++ [(l1.length - 1, d1)]), deepS_le hdd, ?_⟩, by simp, ?_, ⟨_, _, rfl⟩, fun x hx => hm1 x (by simp [hx])⟩
     ·rw [shapeS_snoc, hs1, Option.bind_some, if_pos (hT.call _ _ (by simp; omega)), stepS_top hats]
      simp
     ·rw [sumW_app, sumW_one]
      simp [wTok] at hw1 ⊢
      omega
    ·split at h
     ·rename_i hy6
      split at h
      ·cases h
      ·rename_i hmany
       obtain ⟨q1, q2, q3, q4, q5⟩ := argsP_more hT hsub f _ r l1 l' t' S _ (fun x hx => ht x (hm1 x (by simp [hx]))) hs1 hats hdd (by simp; omega) h
       refine ⟨q1, q2, ?_, q4, fun x hx => hm1 x (by simp [q5 x hx])⟩
       simp at hw1 q3
       omega
     ·cases h
theorem argP_more {own : Nd → Bool} {T : List Tok.Tk} (hT : Owns own T) : ∀ (lv : Nat) (t : List Tok.Tk) (l l' : List Nd) (t' : List Tok.Tk) (S : List (Nat × Nat)), (∀ x ∈ t, x ∈ T) → shapeS own l = some S → argP lv t l = .ok (l', t') → OneMore own lv S t l l' t'
 | lv, [], l, l', t', S, _, _, h => by cases lv <;> simp [argP] at h
 | 0, x :: r, l, l', t', S, _, _, h => by
  unfold argP at h
  split at h <;> cases h
 | lv + 1, x :: r, l, l', t', S, ht, hS, h => by
  unfold argP at h
  split at h
  ·cases h
  rename_i hk
  simp only at h
  have hxT := ht x (by simp)
  split at h
  ·rename_i h2
   cases h
   exact oneMore_leaf hS (hT.num x hxT h2) rfl (by simp)
  split at h
  ·rename_i h3
   cases h
   exact oneMore_leaf hS (hT.txt x hxT h3) rfl (by simp)
  rename_i h2 h3
  have h1 : x.kind = 1 := by
   simp only [h2, h3, or_false] at hk
   exact Classical.byContradiction fun h => hk h
  cases r with
  | nil => cases h; exact oneMore_leaf hS (hT.path x hxT h1) rfl (by simp)
  | cons y r' =>
   simp only at h
   split at h
   ·cases h; exact oneMore_leaf hS (hT.path x hxT h1) rfl (by simp)
   cases r' with
   | nil => cases h
   | cons z r'' =>
    simp only at h
    split at h
    ·cases h
     refine ⟨⟨1, by omega, ?_⟩, by simp, ?_, ⟨_, _, rfl⟩, fun w hw => by simp [hw]⟩
     ·rw [shapeS_snoc, hS, Option.bind_some, if_pos (hT.call _ _ (by simp))]
      have := stepS_top (n := ⟨4, x.text, 0, []⟩) (S := S) (W := []) (i := l.length) rfl
      rw [List.append_nil] at this
      rw [this]; simp [deepS]
     ·rw [sumW_app, sumW_one]
      simp [wTok]; omega
    ·obtain ⟨q1, q2, q3, q4, q5⟩ := argsP_more hT (argP_more hT lv) _ [] (z :: r'') l l' t' S [] (fun w hw => ht w (List.mem_cons_of_mem _ (List.mem_cons_of_mem _ hw))) (by simpa using hS) rfl (by simp) (by simp) h
     refine ⟨q1, q2, ?_, q4, fun w hw => List.mem_cons_of_mem _ (List.mem_cons_of_mem _ (q5 w hw))⟩
     simp at q3 ⊢
     omega
structure Plain (P : Int → List UInt8) (n : Nd) : Prop where
 kind : n.kind = 1 ∨ n.kind = 2 ∨ n.kind = 3 ∨ n.kind = 4
 num : n.kind = 2 → n.text = [] ∧ numOf (P n.num) = n.num
 bare : n.kind ≠ 2 → n.num = 0
 none : n.kind ≠ 4 → n.args = []
 few : n.args.length ≤ 16
end Go.Tgt
end
section
set_option maxHeartbeats 4000000
namespace Go.Tgt
def ownL (n : Nd) : Bool := decide (n.args.length ≤ 16) && (decide (n.kind ≠ 1) || decide (n.text.length ≤ 1024))
theorem ownL_owns {t : List Tok.Tk} (ht : TkOk t) : Owns ownL t :=
 ⟨fun x hx _ => by simp [ownL, ht.txt x hx], fun x hx _ => by simp [ownL], fun x hx _ => by simp [ownL], fun s as_ h => by simp [ownL, h]⟩
theorem inL_of {own : Nd → Bool} {l : List Nd} {S : List (Nat × Nat)} (hS : shapeS own l = some S) (ho : ∀ n, own n = true → n.args.length ≤ 1000 ∧ (n.kind = 1 → n.text.length ≤ 1000000)) : ∀ n ∈ l, InL l n := by
 intro n hn
 obtain ⟨B, D, hL, _⟩ := linked_of own l S hS
 obtain ⟨i, hi⟩ := List.getElem?_of_mem hn
 have hlt := (List.getElem?_eq_some_iff.1 hi).1
 obtain ⟨h1, h2⟩ := ho n (hL.own i n hi)
 refine ⟨h1, h2, fun a ha => ?_⟩
 obtain ⟨g1, g2, _⟩ := (hL.chain i n hi).mem a ha
 exact ⟨g1, by omega⟩
theorem parsed_inL {t : List Tok.Tk} (ht : TkOk t) {lv : Nat} {l : List Nd} {r : List Tok.Tk} (h : argP lv t [] = .ok (l, r)) : ∀ n ∈ l, InL l n := by
 obtain ⟨⟨d, _, hS⟩, _⟩ := argP_more (ownL_owns ht) lv t [] l r [] (fun _ h => h) rfl h
 refine inL_of hS fun n hn => ?_
 simp only [ownL, Bool.and_eq_true, Bool.or_eq_true, decide_eq_true_eq] at hn
 exact ⟨by omega, fun hk => by
  rcases hn.2 with h | h
  ·exact absurd hk h
  ·omega⟩
end Go.Tgt
namespace Go.Proofs.YtalfhchbmhoagaaGreatDoor
open Go.Abs Go.Tgt Go.Trail
variable {G : Globs}
theorem accI_finT {te size : Nat} {σ : Store} {v : AV} {l : List (List AV)} (h : AccI te size σ v l) (m : Nat) : finT σ m v = some (.lst l) := by
 have := h.fin1 m
 rcases h with ⟨rfl, rfl⟩ | ⟨h1, id, rfl, h3⟩
 ·rfl
 ·simpa [finT] using this
theorem check_zero (E : List UInt8 → Nat) (l : List Nd) : ∀ (r : List Nd) (j : Nat), (∀ n ∈ r.take j, nodeS E l n = 0) → checkS E l r = checkS E l (r.drop j)
 | [], j, _ => by simp
 | n :: r, 0, _ => rfl
 | n :: r, j + 1, h => by
  rw [checkS, if_pos (h n (by simp)), check_zero E l r j fun m hm => h m (by simp [hm])]; rfl
theorem tcheck_ok [GSpcT] [GFam] (l : List Nd) (hl : l.length ≤ 1000000) (hin : ∀ n ∈ l, InL l n) : PCalls Tryz.prog n_target_check [.lst (ndEls l)] (fun r => r = .int .i64 (checkS nodE l l)) := by
 refine pcalls_of_awp hmix c_target_check rfl ?_
 have hnl := ndEls_len l
 simp [a_target_check, hnl]
 refine lp_startx (fun x f σ => ∃ j : Nat, x = l.length - j ∧ j ≤ l.length ∧ f 0 = .lst (ndEls l) ∧ f 6 = .lst (ndEls l) ∧ f 7 = .int .i64 l.length ∧ f 8 = .int .i64 j ∧ ∀ n ∈ l.take j, nodeS nodE l n = 0) l.length ⟨0, by simp⟩ ?_
 rintro x f σ ⟨j, hx, hj, f0, f6, f7, f8, hz⟩
 have hcz := check_zero nodE l l j hz
 by_cases hlt : j < l.length
 ·obtain ⟨n, hn⟩ : ∃ n, l[j]? = some n := ⟨_, List.getElem?_eq_getElem hlt⟩
  have hge := ndEls_get hn
  obtain ⟨g1, g2⟩ := List.getElem?_eq_some_iff.1 hge
  have hlti : (j : Int) < (l.length : Int) := by omega
  have hw : IntKind.i64.wrap ((j : Int) + 1) = (j : Int) + 1 := wrap_i64 (by omega) (by omega)
  have hno := tnode_ok (G := G) l n hl (hin n (List.mem_of_getElem? hn))
  rw [ndA_eq] at hno
  have hdr : l.drop j = n :: l.drop (j + 1) := by
   obtain ⟨h1, rfl⟩ := List.getElem?_eq_some_iff.1 hn
   exact List.drop_eq_getElem_cons h1
  rw [hdr, checkS] at hcz
  simp [f0, f6, f7, f8, hlt, hlti, hge, g1, g2, hnl, boxOp, splice]
  refine ac_same hno (by simp) ?_
  rintro r rfl
  by_cases h0 : nodeS nodE l n = 0
  ·simp [h0, f8, hw]
   refine nx_intro (l.length - (j + 1)) (by omega) ⟨j + 1, rfl, by omega, by simp [f0], by simp [f6], by simp [f7], by simp, ?_⟩
   intro m hm
   rw [List.take_add_one, hn] at hm
   simp only [Option.toList_some, List.mem_append, List.mem_singleton] at hm
   rcases hm with hm | rfl
   ·exact hz m hm
   ·exact h0
  ·have h0' : ¬ (nodeS nodE l n : Int) = 0 := by omega
   rw [if_neg h0] at hcz
   simp [h0, h0', hcz]
 ·have hjl : j = l.length := by omega
  subst hjl
  rw [List.drop_length, checkS] at hcz
  simp [f7, f8, hcz]
def treeAV : Except Nat (List Nd) → AV
 | .ok l => .tup [.lst (ndEls l), .int .i64 0]
 | .error e => .tup [.lst [], .int .i64 e]
theorem split_ne {s : List UInt8} {e : Nat} (h : Tok.split s = .error e) : e ≠ 0 := by
 unfold Tok.split at h
 repeat' split at h
 all_goals first | (cases h; done) | (cases h; decide)
theorem tParse_ok [GDec] [GSpcT] [GFam] (s : List UInt8) (hs : s.length ≤ 9223372036854775807) (htk : ∀ t, Tok.split s = .ok t → TkOk t) : PCalls Tryz.prog n_target_Parse [.str s] (fun r => r = treeAV (parseS nodE s)) := by
 refine pcalls_of_awp hmix c_target_Parse rfl ?_
 simp [a_target_Parse]
 refine ac_same (tsplit_ok s hs) (by simp) ?_
 rintro r rfl
 unfold parseS
 cases hsp : Tok.split s with
 | error e =>
  have he := split_ne hsp
  have he' : ¬ (e : Int) = 0 := by omega
  simp [splitAV, he, he', treeAV]
 | ok t =>
  have ht := htk t hsp
  have h256 := ht.few
  have hel := tkEls_len' t
  simp [splitAV, boxOp]
  obtain ⟨σ, eσ⟩ : ∃ σ : Store, σ = [.var 47 [.lst (tkEls t), .int .i64 0, .nils]] := ⟨_, rfl⟩
  have hp : σ[0]? = some (parE t 0 .nils) := by rw [eσ]; rfl
  have ha : AccI 44 4 σ .nils (ndEls []) := accI_nil
  simp only [← eσ]
  refine ac_lent (peek_okT t (by omega) 0 0 (by omega) (by omega) _) (.cons (coe_par hp ha) (.cons (.pure _ (by simp [AV.pure])) .nil)) ?_
  rintro r rfl
  simp only [Nat.add_zero]
  cases t with
  | nil => simp [kindAt, treeAV]
  | cons x tl =>
   by_cases hx : x.kind = 1
   ·have hka : kindAt (x :: tl) 0 = 1 := by simp [kindAt, hx]
    simp [hka, hx]
    have harg := arg_at (G := G) 12 σ 0 (x :: tl) 0 .nils [] ht hp ha (by omega) (by simp) (by omega)
    simp at harg
    refine ac_eff harg ?_
    intro r σ2 hr
    cases hpp : argP 12 (x :: tl) [] with
    | error e =>
     rw [hpp] at hr
     obtain ⟨rfl, _⟩ := hr
     have he := argP_ne 12 _ _ _ hpp
     have he' : ¬ (e : Int) = 0 := by omega
     simp [he, he', hx, treeAV]
    | ok y =>
     obtain ⟨l, t2⟩ := y
     rw [hpp] at hr
     obtain ⟨rfl, k, hk0, hkt, rfl, hlk, V, hpV, haV, _⟩ := hr
     have hpV' : σ2[0]? = some (.var 47 [.lst (tkEls (x :: tl)), .int .i64 k, V]) := hpV
     have hone := haV.one
     have hfin := accI_finT haV
     by_cases hkl : k < (x :: tl).length
     ·have hkl' : (k : Int) < (tl.length : Int) + 1 := by simp at hkl; omega
      have hne : ¬ (x :: tl).drop k = [] := by
       intro h
       have := congrArg List.length h
       rw [List.length_drop] at this; simp only [List.length_nil] at this; omega
      simp only [List.length_cons] at hkl
      simp [hpV', hel, hkl, hkl', hne, hx, treeAV]
     ·have hkl' : ¬ (k : Int) < (tl.length : Int) + 1 := by simp at hkl; omega
      have hnil : (x :: tl).drop k = [] := List.drop_of_length_le (by omega)
      have hin := parsed_inL ht hpp
      have hchk := tcheck_ok (G := G) l (by omega) hin
      simp only [List.length_cons] at hkl
      simp [hpV', hel, hkl, hkl', hnil, hone]
      refine ac_lent hchk (.cons (haV.coe true) .nil) ?_
      rintro r rfl
      by_cases h0 : checkS nodE l l = 0
      ·simp [h0, hpV', hone, hfin, hx, hkl, treeAV]
      ·have h0' : ¬ (checkS nodE l l : Int) = 0 := by omega
       simp [h0, h0', hx, hkl, treeAV]
   ·have hka : kindAt (x :: tl) 0 = x.kind := by simp [kindAt]
    simp [hka, hx, treeAV]
end Go.Proofs.YtalfhchbmhoagaaGreatDoor
end
section
set_option maxHeartbeats 4000000
namespace Go.Glob
end Go.Glob
namespace Go.Proofs.YtalfhchbmhoagaaGreatDoor
open Go.Abs Go.Glob
variable {G : Globs}
end Go.Proofs.YtalfhchbmhoagaaGreatDoor
end
section
set_option maxHeartbeats 8000000
namespace Go.Proofs.YtalfhchbmhoagaaGreatDoor
open Go.Abs Go.Glob
variable {G : Globs}
end Go.Proofs.YtalfhchbmhoagaaGreatDoor
end
section
set_option maxHeartbeats 8000000
namespace Go.Glob
end Go.Glob
namespace Go.Proofs.YtalfhchbmhoagaaGreatDoor
open Go.Abs Go.Glob
variable {G : Globs}
end Go.Proofs.YtalfhchbmhoagaaGreatDoor
end
section
set_option maxHeartbeats 8000000
namespace Go.Glob
theorem pcs_mono {n m : Nat} {s : List UInt8} {l : List Pc} {r : List UInt8} {d : Nat} (h : pcs n s = some (l, r, d)) (hm : n ≤ m) : pcs m s = some (l, r, d) := by
 obtain ⟨h1, _, _, b, rfl, h2⟩ := (pcs_local n).1 s l r d h
 exact h2 m r hm h1
theorem alts_mono {n m : Nat} {s : List UInt8} {l : List (List Pc)} {r : List UInt8} {d : Nat} (h : alts n s = some (l, r, d)) (hm : n ≤ m) : alts m s = some (l, r, d) := by
 obtain ⟨_, _, b, rfl, h2⟩ := (pcs_local n).2 s l r d h
 exact h2 m r hm
theorem cls_mono {n m : Nat} {ne : Bool} {s : List UInt8} {rs : List (UInt8 × UInt8)} {r : List UInt8} (h : cls n ne s = some (rs, r)) (hm : n ≤ m) : cls m ne s = some (rs, r) := by
 obtain ⟨b, rfl, h2⟩ := cls_local _ _ _ _ _ h
 exact h2 m r (.inl hm)
def NoP (s : List UInt8) : Prop := ∀ m, pcs m s = none
theorem NoP.one {c : UInt8} {t : List UInt8} (h : NoP (c :: t)) (hc : c = 63 ∨ c = 42 ∨ nb c = true) : NoP t := fun m => by
 have h1 := h (m + 1)
 rcases hc with rfl | rfl | hc
 ·rw [pcs_q] at h1; simpa using h1
 ·rw [pcs_star] at h1; simpa using h1
 ·rw [pcs_lit hc] at h1; simpa using h1
theorem NoP.cls {t : List UInt8} (h : NoP (91 :: t)) {n : Nat} {rs : List (UInt8 × UInt8)} {r : List UInt8} (hc : Glob.cls n false t = some (rs, r)) : NoP r := fun m => by
 cases hm : pcs m r with
 | none => rfl
 | some x =>
  have h1 := h (max n m + 1)
  obtain ⟨l, r', d⟩ := x
  rw [pcs_cls, cls_mono hc (Nat.le_max_left _ _)] at h1
  simp only [Option.bind_some] at h1
  rw [pcs_mono hm (Nat.le_max_right _ _)] at h1
  cases h1
def NoA (s : List UInt8) : Prop := ∀ (m : Nat) (xs : List (List Pc)) (r : List UInt8) (d : Nat), alts m s = some (xs, r, d) → NoP r
theorem NoP.br {t : List UInt8} (h : NoP (123 :: t)) : NoA t := fun n xs r d ha m => by
 cases hm : pcs m r with
 | none => rfl
 | some x =>
  have h1 := h (max n m + 1)
  obtain ⟨l, r', d'⟩ := x
  rw [pcs_br, alts_mono ha (Nat.le_max_left _ _)] at h1
  simp only [Option.bind_some] at h1
  rw [pcs_mono hm (Nat.le_max_right _ _)] at h1
  cases h1
theorem NoA.more {s t : List UInt8} (h : NoA s) {n : Nat} {a : List Pc} {c : UInt8} {d : Nat} (hc : c ≠ 125) (hp : pcs n s = some (a, c :: t, d)) : NoA t := fun m xs r d' ha => by
 refine h (max n m + 1) (a :: xs) r (max d d') ?_
 rw [alts_step, pcs_mono hp (Nat.le_max_left _ _)]
 simp only [Option.bind_some, if_neg hc]
 rw [alts_mono ha (Nat.le_max_right _ _)]; rfl
end Go.Glob
namespace Go.Proofs.YtalfhchbmhoagaaGreatDoor
open Go.Abs Go.Glob
variable {G : Globs}
end Go.Proofs.YtalfhchbmhoagaaGreatDoor
end
section
set_option maxHeartbeats 4000000
namespace Go.Proofs.YtalfhchbmhoagaaGreatDoor
open Go.Abs Go.Glob Go.Trail
variable {G : Globs}
end Go.Proofs.YtalfhchbmhoagaaGreatDoor
end
