/- strings.Join at a separator of one byte. A target's tokens: Join, Alike; the laws of what is joined, and of blanks. Targets: Right, text, Print (the p -/
import Derived.Test.YtalfhchbmhoagaaGreatDoorCode
import Derived.Test.YtalfhchbmhoagaaGreatDoorShelf
import Derived.Test.YtalfhchbmhoagaaGreatDoorAbs2
import Derived.ProofKit
import Derived.Test.YtalfhchbmhoagaaGreatDoorProg
import Derived.KernelRfl
import Derived.SizedLaws
import Derived.Test.YtalfhchbmhoagaaGreatDoorBn1
import Derived.Test.YtalfhchbmhoagaaGreatDoorBn2
import Derived.Test.YtalfhchbmhoagaaGreatDoorBn3
import Derived.Test.YtalfhchbmhoagaaGreatDoorBn4
import Derived.Test.YtalfhchbmhoagaaGreatDoorBn5
import Derived.Test.YtalfhchbmhoagaaGreatDoorBn6
import Derived.Test.YtalfhchbmhoagaaGreatDoorBn7
set_option linter.unusedSimpArgs false
set_option linter.unusedVariables false
set_option linter.constructorNameAsVariable false
section
namespace Go.Joi
theorem tail_snoc (sep : List UInt8) (r : List (List UInt8)) (x : List UInt8) : Lib.joinTail sep (r ++ [x]) = Lib.joinTail sep r ++ (sep ++ x) := by simp [Lib.joinTail]
theorem join_snoc (sep : List UInt8) (m : List (List UInt8)) (x : List UInt8) : Lib.join (m ++ [x]) sep = if m = [] then x else Lib.join m sep ++ (sep ++ x) := by
 cases m with
 | nil => simp [Lib.join_one]
 | cons p r => rw [List.cons_append, Lib.join_cons, Lib.join_cons, tail_snoc]; simp
def sum (m : List (List UInt8)) : Nat := (m.map List.length).sum
theorem join_len (c : UInt8) (m : List (List UInt8)) : (Lib.join m [c]).length ≤ sum m + m.length := by
 cases m with
 | nil => simp [Lib.join_nil]
 | cons p r =>
  have ht : ∀ (r : List (List UInt8)), (Lib.joinTail [c] r).length = sum r + r.length := by
   intro r
   induction r with
   | nil => simp [Lib.joinTail, sum]
   | cons y r ih =>
    simp only [Lib.joinTail, List.map_cons, List.flatten_cons, List.length_append, List.length_cons, List.length_nil, sum, List.sum_cons] at ih ⊢
    omega
  rw [Lib.join_cons, List.length_append, ht]
  simp only [sum, List.map_cons, List.sum_cons, List.length_cons]
  omega
end Go.Joi
namespace Go.Abs
def txt1 (l : List (List UInt8)) : List (List AV) := l.map fun s => [.str s]
end Go.Abs
namespace Go.Proofs.YtalfhchbmhoagaaGreatDoor
open Go.Abs
variable {G : Globs}
theorem join1_ok (c : UInt8) (l : List (List UInt8)) (hl : (Lib.join l [c]).length ≤ 140737488355328) (hk : l.length ≤ 140737488355328) : PCalls Tryz.prog 48 [.lst (txt1 l), .str [c]] (fun r => r = .str (Lib.join l [c])) := by
 intro base κ Im w vs hs hv
 obtain ⟨v0, v1, rfl⟩ : ∃ v0 v1, vs = [v0, v1] := by
  match vs, hv.1 with
  | [a, b], _ => exact ⟨a, b, rfl⟩
 have e0 := (hv.2 0 (by simp) (by simp)).lst_inv
 have e1 := (hv.2 1 (by simp) (by simp)).str_inv
 simp only [List.getElem_cons_zero, List.getElem_cons_succ] at e0 e1
 subst e1
 have hel : (txt1 l).length = l.length := by simp [txt1]
 rcases e0 with ⟨⟨g, rfl⟩, h0⟩ | ⟨size, b, o, cap, vals, rfl, h1, h2, h3, h4, h5, h6⟩
 ·have hl0 : l = [] := by simpa [txt1] using h0
  subst hl0
  refine (Tryz.strings_Join_none g 0 ⟨#[c]⟩ w).mono ?_
  rintro e w' ⟨rfl, rfl⟩
  exact ⟨_, [], _, κ, Im, rfl, ⟨rfl, rfl⟩, hs, Grow.refl _ _ _ _, .im _ _ (.str [])⟩
 ·cases hln : l with
  | nil =>
   subst hln
   refine (Tryz.strings_Join_none _ cap ⟨#[c]⟩ w).mono ?_
   rintro e w' ⟨rfl, rfl⟩
   exact ⟨_, [], _, κ, Im, rfl, ⟨rfl, rfl⟩, hs, Grow.refl _ _ _ _, .im _ _ (.str [])⟩
  | cons p0 ps0 =>
   have hpos : 0 < l.length := by simp [hln]
   rw [← hln]
   have hsz : size = 1 := by
    have := h3 [.str p0] (by simp [txt1, hln])
    simpa using this.symm
   subst hsz
   rw [hel] at h1 h5
   have hval : ∀ k (hk : k < l.length), vals k 0 = .string ⟨(l[k]).toArray⟩ := fun k hk => by
    have := h6 k 0 (by simpa [txt1] using hk) (by simp [txt1])
    simp only [txt1, List.getElem_map, List.getElem_cons_zero] at this
    generalize vals k 0 = v at this ⊢
    cases this; rfl
   have hcell := fun k (hk : k < l.length) => h5 k 0 hk (by omega)
   have hbk : b < w.heap.size := (hs.imlt _ (hcell 0 hpos).1).1
   have hdat : (l.map fun s => (⟨s.toArray⟩ : ByteArray)).map (·.data.toList) = l := by simp [List.map_map, Function.comp_def]
   have hj : Lib.join ((l.map fun s => (⟨s.toArray⟩ : ByteArray)).map (·.data.toList)) (⟨#[c]⟩ : ByteArray).data.toList = Lib.join l [c] := by rw [hdat]
   have := Tryz.strings_Join b o cap (l.map fun s => (⟨s.toArray⟩ : ByteArray)) ⟨#[c]⟩ w (fun j x hx => by
     simp only [List.getElem?_map, Option.map_eq_some_iff] at hx
     obtain ⟨s, hs', rfl⟩ := hx
     obtain ⟨hj1, rfl⟩ := List.getElem?_eq_some_iff.1 hs'
     have := (hcell j hj1).2
     rw [hval j hj1] at this
     simpa using this) hbk (by simpa using hk) (by simpa using h1) (by rw [hj]; exact hl)
   rw [hj] at this
   simp only [List.length_map] at this
   rw [hel]
   refine this.mono ?_
   rintro e w' ⟨rfl, hb⟩
   obtain ⟨g1, g2⟩ := srel_grow hs hb
   exact ⟨_, [], _, κ, Im, rfl, ⟨rfl, rfl⟩, g1, g2, .im _ _ (.str (Lib.join l [c]))⟩
end Go.Proofs.YtalfhchbmhoagaaGreatDoor
end
section
set_option maxHeartbeats 4000000
namespace Go.Proofs.YtalfhchbmhoagaaGreatDoor
open Go.Abs Go.Glob Go.Tok Go.Joi
variable {G : Globs}
def txsOf (l : List TkA) : List (List UInt8) := l.map fun x => textOf x.1 x.2.1
def allRight (l : List TkA) : Bool := l.all fun x => rightB x.1 x.2.2 x.2.1
def jT (l : List TkA) : List UInt8 := Lib.join (txsOf l) [32]
def joinAV (l : List TkA) : AV := if allRight l then .tup [.str (jT l), .int .i64 0] else .tup [.str [], .int .i64 1]
theorem textOf_len (k : Int) (s : List UInt8) : (textOf k s).length ≤ s.length + 2 := by
 have := quote_len s
 unfold textOf
 split
 ·simp
 ·split
  ·simp
  ·split
   ·simp
   ·split
    ·simp; omega
    ·omega
theorem sum_txs (l : List TkA) (h : ∀ x ∈ l, x.2.1.length ≤ 10000) : Joi.sum (txsOf l) ≤ bulk l + 2 * l.length := by
 induction l with
 | nil => simp [Joi.sum, txsOf]
 | cons y l ih =>
  have := ih fun x hx => h x (by simp [hx])
  have hy := h y (by simp)
  have ht := textOf_len y.1 y.2.1
  have e : bulk (y :: l) = min y.2.1.length 10000 + bulk l := by simp [bulk]
  have e2 : Joi.sum (txsOf (y :: l)) = (textOf y.1 y.2.1).length + Joi.sum (txsOf l) := by simp [Joi.sum, txsOf]
  rw [e, e2, List.length_cons]
  omega
structure Small (l : List TkA) : Prop where
 len : l.length ≤ 5000
 text : ∀ x ∈ l, x.2.1.length ≤ 5000
 bulk : bulk l ≤ 5000
theorem Small.join {l : List TkA} (h : Small l) (i : Nat) : (jT (l.take i)).length ≤ 25000 := by
 have h1 := join_len 32 (txsOf (l.take i))
 have h2 := sum_txs (l.take i) fun x hx => by have := h.text x (List.mem_of_mem_take hx); omega
 have h3 := bulk_take l i
 have h4 := h.bulk
 have h5 := h.len
 have h6 : (txsOf (l.take i)).length = (l.take i).length := by simp [txsOf]
 have h7 : (l.take i).length ≤ l.length := by simp; omega
 unfold jT
 omega
theorem allRight_false {l : List TkA} {x : TkA} (hx : x ∈ l) (h : ¬ rightB x.1 x.2.2 x.2.1 = true) : allRight l = false := by
 rw [allRight, List.all_eq_false]
 exact ⟨x, hx, by simpa using h⟩
theorem right_q {k p : Int} {s : List UInt8} (h : rightB k p s = true) : k = 3 → ¬ ((39 : UInt8) ∈ s ∧ (34 : UInt8) ∈ s) := by
 rintro rfl ⟨h1, h2⟩
 simp [rightB, h1, h2] at h
theorem txt1_get {l : List TkA} {i : Nat} (hi : i < l.length) : (txt1 (txsOf (l.take i) ++ List.replicate (l.length - i) []))[i]? = some [.str []] := by
 have hpn : (txsOf (l.take i)).length = i := by simp [txsOf, Nat.min_eq_left (Nat.le_of_lt hi)]
 rw [show l.length - i = (l.length - (i + 1)) + 1 by omega, List.replicate_succ]
 simp only [txt1, List.map_append, List.map_cons]
 rw [List.getElem?_append_right (by simp [hpn])]
 simp [hpn]
theorem txt1_set {l : List TkA} {i : Nat} (hi : i < l.length) (x : List UInt8) : (txt1 (txsOf (l.take i) ++ List.replicate (l.length - i) [])).set i [.str x] = txt1 (txsOf (l.take i) ++ x :: List.replicate (l.length - (i + 1)) []) := by
 have hpn : (txsOf (l.take i)).length = i := by simp [txsOf, Nat.min_eq_left (Nat.le_of_lt hi)]
 rw [show l.length - i = (l.length - (i + 1)) + 1 by omega, List.replicate_succ]
 simp only [txt1, List.map_append, List.map_cons]
 rw [List.set_append_right _ _ (by simp [hpn])]
 simp [hpn]
theorem tJoin_ok [GDec] (l : List TkA) (hs : Small l) : PCalls Tryz.prog n_tokens_Join [.lst (tkA l)] (fun r => r = joinAV l) := by
 refine pcalls_of_awp hmix c_tokens_Join rfl ?_
 simp [a_tokens_Join]
 have hle : (tkA l).length = l.length := by simp [tkA]
 have hl5 := hs.len
 simp [hle]
 refine ms_intro l.length rfl rfl (by omega) (by omega) (by omega) rfl ?_
 simp [hle]
 have hts : ∀ m : List (List UInt8), (txt1 m).length = m.length := fun m => by simp [txt1]
 have hpl : ∀ m : List TkA, (txsOf m).length = m.length := fun m => by simp [txsOf]
 refine lp_startx (fun x f σ => ∃ (i : Nat) (tl : Store), x = l.length - i ∧ i ≤ l.length ∧ allRight (l.take i) = true ∧ f 4 = .row 0 l.length ∧ f 10 = .lst (tkA l) ∧ f 11 = .int .i64 l.length ∧ f 12 = .int .i64 i ∧ σ = .row 9 1 (txt1 (txsOf (l.take i) ++ List.replicate (l.length - i) [])) false :: tl) l.length ?_ ?_
 ·exact ⟨0, [], by simp, by simp, by simp [allRight], by simp, by simp, by simp [hle], by simp, by simp [txsOf, txt1]⟩
 rintro x f σ ⟨i, tl, hx, hi, har, h4, h10, h11, h12, rfl⟩
 have hwi : IntKind.i64.wrap ((i : Int) + 1) = (i : Int) + 1 := wrap_i64 (by omega) (by omega)
 by_cases hlt : i < l.length
 ·obtain ⟨y, hy⟩ : ∃ y, l[i]? = some y := ⟨_, List.getElem?_eq_getElem hlt⟩
  have hse : (tkA l)[i]? = some [.int .i64 y.1, .str y.2.1, .int .i64 y.2.2] := by simp [tkA, hy]
  obtain ⟨hx1, hx2⟩ := List.getElem?_eq_some_iff.1 hse
  have hym := List.mem_of_getElem? hy
  have hyk := hs.text y hym
  have hlt' : (i : Int) < (l.length : Int) := by omega
  have hpn : (txsOf (l.take i)).length = i := by simp [txsOf, Nat.min_eq_left hi]
  have hpe : txsOf (l.take (i + 1)) = txsOf (l.take i) ++ [textOf y.1 y.2.1] := by simp [txsOf, List.take_add_one, hy]
  have hL := txt1_set hlt
  have hget := txt1_get hlt
  obtain ⟨hg1, hg2⟩ := List.getElem?_eq_some_iff.1 hget
  have hgl : (txt1 (txsOf (l.take i) ++ List.replicate (l.length - i) [])).length = l.length := by rw [hts]; simp [hpn]; omega
  simp [h10, h11, h12, hlt, hlt', hx1, hx2]
  refine ac_same (tright_ok y.1 y.2.2 y.2.1 (by omega)) (by simp [tokA]) ?_
  rintro r rfl
  by_cases hr : rightB y.1 y.2.2 y.2.1 = true
  ·have har' : allRight (l.take (i + 1)) = true := by
    have : allRight (l.take (i + 1)) = (allRight (l.take i) && rightB y.1 y.2.2 y.2.1) := by simp [allRight, List.take_add_one, hy]
    rw [this, har, hr]; rfl
   simp [hr, h4, h10, h11, h12]
   refine ac_same (ttext_ok y.1 y.2.2 y.2.1 (by omega)) (by simp [tokA]) ?_
   rintro r rfl
   simp [h4, h12, hwi, hgl, hlt, hg2, hget, hL]
   refine nx_intro (l.length - (i + 1)) (by omega) ⟨i + 1, tl ++ [.var 62 [.int .i64 y.1, .str y.2.1, .int .i64 y.2.2]], rfl, by omega, har', by simp [h4], by simp [h10], by simp [h11], by simp, ?_⟩
   rw [hpe]
   simp
  ·have := allRight_false hym hr
   simp [hr, joinAV, this]
 ·have hil : i = l.length := by omega
  subst hil
  have e : l.take l.length = l := List.take_of_length_le (Nat.le_refl _)
  have hjl := hs.join l.length
  rw [e] at har hjl
  have hlt' : ¬ (l.length : Int) < (l.length : Int) := by omega
  simp [h4, h11, h12, hlt, hlt', e]
  refine ac_lent (join1_ok 32 (txsOf l) (by unfold jT at hjl; omega) (by rw [hpl]; omega)) (.cons (.row 0 l.length 9 1 (txt1 (txsOf l)) false rfl (by rw [hts, hpl]) (.inr ⟨rfl, ?_⟩)) (.cons (.pure _ (by simp)) .nil)) ?_
  ·intro c hc x hx
   simp only [txt1, List.mem_map] at hc
   obtain ⟨y, _, rfl⟩ := hc
   simp at hx
   subst hx
   simp
  rintro r rfl
  refine ⟨by simp, ?_⟩
  simp [joinAV, har, jT]
end Go.Proofs.YtalfhchbmhoagaaGreatDoor
end
section
set_option maxHeartbeats 4000000
set_option maxRecDepth 20000
namespace Go.Proofs.YtalfhchbmhoagaaGreatDoor
open Go.Abs Go.Tgt Go.Trail Go.Tok
variable {G : Globs}
def wTxt (n : Nd) : Nat := n.text.length + n.args.length + 30 + (Dec.prn false n.num).length
structure TOk (l : List Nd) : Prop where
 len : l.length ≤ 1000
 each : ∀ n ∈ l, n.text.length ≤ 5000 ∧ n.args.length ≤ 5000
 num : ∀ n ∈ l, -9223372036854775808 ≤ n.num ∧ n.num ≤ 9223372036854775807
 sum : sumW wTxt l ≤ 1000000
theorem TOk.text {l : List Nd} (h : TOk l) : ∀ n ∈ l, n.text.length ≤ 1000000 ∧ n.args.length ≤ 1000000 := fun n hn => by
 have := h.each n hn; omega
theorem ownB_args {n : Nd} (h : ownB n = true) : n.args.length ≤ 16 := by
 unfold ownB at h
 split at h
 ·simp at h; simp [h.1.2]
 ·split at h
  ·simp at h; simp [h.1.2]
  ·split at h
   ·simp at h; simp [h.1.2]
   ·split at h
    ·simp at h; exact h.2
    ·cases h
theorem shapedB_some {l : List Nd} (h : shapedB l = true) : ∃ w, shapeS ownB l = some [w] ∧ w.2 ≤ 12 := by
 unfold shapedB at h
 split at h
 ·rename_i w hw
  exact ⟨w, hw, by simpa using h⟩
 ·cases h
theorem shaped_inL {l : List Nd} (h : TOk l) {S : List (Nat × Nat)} (hS : shapeS ownB l = some S) : ∀ n ∈ l, InL l n := by
 intro n hn
 obtain ⟨B, D, hL, _⟩ := linked_of ownB l S hS
 obtain ⟨i, hi⟩ := List.getElem?_of_mem hn
 have hlt := (List.getElem?_eq_some_iff.1 hi).1
 have h1 := ownB_args (hL.own i n hi)
 refine ⟨by omega, fun _ => (h.text n hn).1, fun a ha => ?_⟩
 obtain ⟨g1, g2, _⟩ := (hL.chain i n hi).mem a ha
 exact ⟨g1, by omega⟩
def rightT (l : List Nd) : Bool := !decide (l = []) && decide (l.length ≤ 1000) && shapedB l && decide (letterS (l.getD (l.length - 1) nd0) = 83) && decide (checkS nodE l l = 0)
theorem tRight23_ok [GDec] [GSpcT] [GFam] (l : List Nd) (h : TOk l) : PCalls Tryz.prog n_target_Right [.lst (ndEls l)] (fun r => r = .bool (rightT l)) := by
 refine pcalls_of_awp hmix c_target_Right rfl ?_
 have hnl := ndEls_len l
 have hlen := h.len
 by_cases h0 : l = []
 ·subst h0; simp [a_target_Right, rightT, ndEls]
 have hpos : 0 < l.length := List.length_pos_iff.2 h0
 have hl0 : ¬ l.length = 0 := by omega
 have hl0' : ¬ (l.length : Int) = 0 := by omega
 have hg : ¬ (1000 : Int) < (l.length : Int) := by omega
 have hg' : ¬ 1000 < l.length := by omega
 have hsh := tshaped_ok (G := G) l hlen h.text
 obtain ⟨q, hq⟩ : ∃ q, q = l.length - 1 := ⟨_, rfl⟩
 have hwl : IntKind.i64.wrap ((l.length : Int) - 1) = (q : Int) := by rw [wrap_i64 (by omega) (by omega)]; omega
 obtain ⟨n, hn⟩ : ∃ n, l[q]? = some n := ⟨_, List.getElem?_eq_getElem (by omega)⟩
 have hge := ndEls_get hn
 obtain ⟨g1, g2⟩ := List.getElem?_eq_some_iff.1 hge
 have hlet := tletter_ok (G := G) n
 rw [ndA_eq] at hlet
 have hgd : l[q]?.getD nd0 = n := by simp [hn]
 have hlt1 : q < l.length := by omega
 have hlt1' : (q : Int) < (l.length : Int) := by omega
 simp [a_target_Right, hnl, hl0, hl0', h0, hg, hg']
 refine ac_same hsh (by simp) ?_
 rintro r rfl
 cases hS : shapedB l with
 | false => simp [rightT, hS]
 | true =>
  obtain ⟨w, hw, _⟩ := shapedB_some hS
  have hchk := tcheck_ok (G := G) l (by omega) (shaped_inL h hw)
  simp [hnl, hwl, hge, g1, g2, hlt1, hlt1']
  refine ac_same hlet (by simp) ?_
  rintro r rfl
  by_cases h83 : letterS n = 83
  ·simp [h83]
   refine ac_same hchk (by simp) ?_
   rintro r rfl
   simp [rightT, hS, h0, ← hq, hgd, h83, hlen]
  ·have h83' : ¬ ((letterS n).toNat : Int) = 83 := fun e => h83 (UInt8.toNat_inj.1 (show (letterS n).toNat = 83 by omega))
   simp [h83', rightT, hS, h0, ← hq, hgd, h83]
theorem body_size (n : Nd) (as_ : List (List UInt8)) : (bodyS n as_).length + 1 ≤ wTxt n + (as_.map fun s => s.length + 1).sum := by
 unfold bodyS wTxt
 have hj : (Lib.join as_ [44]).length ≤ (as_.map fun s => s.length + 1).sum := by
  refine Nat.le_trans (Joi.join_len 44 as_) ?_
  clear n
  induction as_ with
  | nil => simp [Joi.sum]
  | cons s r ih =>
   have : Joi.sum (s :: r) = s.length + Joi.sum r := by simp [Joi.sum]
   simp only [List.map_cons, List.sum_cons, List.length_cons]
   omega
 have ht := textOf_len 3 n.text
 split
 ·omega
 ·split
  ·omega
  ·split
   ·simp; omega
   ·omega
theorem text_size {l : List Nd} (h : TOk l) {B D : Nat → Nat} (hL : Linked ownB l B D) {i : Nat} (hi : i < l.length) : (textS l i).length ≤ 1000000 := by
 have h1 := tree_size (d := ([] : List UInt8)) (body := bodyS) (fun s => s.length + 1) wTxt body_size hL i hi
 have h2 := sumW_mono wTxt l (show i + 1 ≤ l.length by omega)
 rw [List.take_length] at h2
 have h3 := h.sum
 have h4 : (textS l i).length = (treeS bodyS [] l i).length := rfl
 omega
theorem ttext23_ok [GDec] [GPow] {l : List Nd} (h : TOk l) {B D : Nat → Nat} (hL : Linked ownB l B D) (i : Nat) : i < l.length → PCalls Tryz.prog n_target_text [.lst (ndEls l), .int .i64 i] (fun r => r = .str (textS l i)) := by
 induction i using Nat.strongRecOn with
 | _ i ih =>
  intro hi
  refine pcalls_of_awp hmix c_target_text rfl ?_
  have hnl := ndEls_len l
  obtain ⟨n, hn⟩ : ∃ n, l[i]? = some n := ⟨_, List.getElem?_eq_getElem hi⟩
  have hmem := List.mem_of_getElem? hn
  have hge := ndEls_get hn
  obtain ⟨g1, g2⟩ := List.getElem?_eq_some_iff.1 hge
  have hli : (i : Int) < (l.length : Int) := by omega
  obtain ⟨e1, e2⟩ := h.each n hmem
  obtain ⟨b1, b2⟩ := h.num n hmem
  have how := hL.own i n hn
  have htree := treeS_eq (body := bodyS) (d := ([] : List UInt8)) hL.back hn
  have hts : textS l i = bodyS n (n.args.map fun a => textS l a.toNat) := htree
  rw [hts]
  have hback := hL.back i n hn
  have hpos : ∀ a ∈ n.args, 0 ≤ a := fun a ha => ((hL.chain i n hn).mem a ha).1
  clear htree hts
  obtain ⟨k, s, v, a⟩ := n
  simp only at hge g2 e1 e2 b1 b2 hback hpos
  by_cases h2 : k = 2
  ·subst h2
   simp [a_target_text, hnl, hi, hli, hge, g1, g2, boxOp, splice]
   refine ac_same (dPrint_ok false v b1 b2) (by simp) ?_
   rintro r rfl
   simp [bodyS]
  by_cases h3 : k = 3
  ·subst h3
   have hr : rightB 3 0 s = true := by
    simp [ownB] at how; exact how.2
   have hsm : Small [((3 : Int), s, (0 : Int))] := ⟨by simp, by simpa using e1, by simp [Go.Proofs.YtalfhchbmhoagaaGreatDoor.bulk]; omega⟩
   have hj := tJoin_ok (G := G) [((3 : Int), s, (0 : Int))] hsm
   have hjv : joinAV [((3 : Int), s, (0 : Int))] = .tup [.str (textOf 3 s), .int .i64 0] := by
    simp [joinAV, allRight, hr, jT, txsOf, Lib.join, Lib.joinTail]
   rw [hjv] at hj
   simp [tkA] at hj
   simp [a_target_text, hnl, hi, hli, hge, g1, g2, boxOp, splice, share1_int, share1_str, -share1]
   refine ac_same hj (by simp) ?_
   rintro r rfl
   simp [bodyS]
  by_cases h4 : k = 4
  ·subst h4
   have hal := intEls_len a
   obtain ⟨C, hC⟩ : ∃ C : Entry, C = .var 44 [.int .i64 4, .str s, .int .i64 v, .lst (intEls a)] := ⟨_, rfl⟩
   simp [a_target_text, hnl, hi, hli, hge, g1, g2, boxOp, splice, hal]
   refine lp_startx (fun x f σ => ∃ q : Nat, x = a.length - q ∧ q ≤ a.length ∧ f 0 = .lst (ndEls l) ∧ f 5 = .ptr 0 0 ∧ f 39 = .lst (intEls a) ∧ f 40 = .int .i64 a.length ∧ f 41 = .int .i64 q ∧ AccI 9 1 σ (f 8) (strEls ((a.take q).map fun b => textS l b.toNat)) ∧ σ[0]? = some (.var 44 [.int .i64 4, .str s, .int .i64 v, .lst (intEls a)])) a.length ⟨0, by simp, by simp, by simp, by simp, by simp, by simp, by simp, by simpa [strEls] using accI_nil, by simp⟩ ?_
   rintro x f σ ⟨q, hx, hq, f0, f5, f39, f40, f41, hacc, hv0⟩
   have htot : (a.map fun b => textS l b.toNat).length = a.length := by simp
   by_cases hqa : q < a.length
   ·obtain ⟨y, hy⟩ : ∃ y, a[q]? = some y := ⟨_, List.getElem?_eq_getElem hqa⟩
    have hym := List.mem_of_getElem? hy
    have hy0 := hpos y hym
    have hyi := hback y hym
    obtain ⟨m, rfl⟩ : ∃ m : Nat, y = (m : Int) := ⟨y.toNat, by omega⟩
    simp only [Int.toNat_natCast] at hyi
    have hie : (intEls a)[q]? = some [.int .i64 m] := by simp [intEls, hy]
    obtain ⟨i1, i2⟩ := List.getElem?_eq_some_iff.1 hie
    have hqai : (q : Int) < (a.length : Int) := by omega
    have hwq : IntKind.i64.wrap ((q : Int) + 1) = (q : Int) + 1 := wrap_i64 (by omega) (by omega)
    simp [f0, f39, f40, f41, hqa, hqai, hie, i1, i2, hal]
    refine ac_same (ih m hyi (by omega)) (by simp) ?_
    rintro r rfl
    simp [f41]
    refine ap_accI (bytes := 16) hacc [.str (textS l m)] (by decide) rfl ?_ ?_ ?_ fun V' σ2 ha2 hk2 hkeep hsame => ?_
    ·intro c hc b hb
     simp only [strEls, List.mem_append, List.mem_map, List.mem_singleton] at hc
     rcases hc with ⟨z, _, rfl⟩ | rfl
     ·simp at hb; subst hb; simp [AV.pure]
     ·simp at hb; subst hb; simp [AV.pure]
    ·simp [strEls]; omega
    ·simp [strEls]; omega
    have hv2 := hkeep 0 _ hv0 (varI_ne hacc hv0)
    simp [f41, hwq]
    refine nx_intro (a.length - (q + 1)) (by omega) ⟨q + 1, rfl, by omega, by simp [f0], by simp [f5], by simp [f39], by simp [f40], by simp, ?_, hv2⟩
    rw [List.take_add_one, hy]
    simpa [strEls] using ha2
   ·have hqe : q = a.length := by omega
    subst hqe
    rw [List.take_length] at hacc
    obtain ⟨hv1, hv2⟩ := List.getElem?_eq_some_iff.1 hv0
    have hsz : (Lib.join (a.map fun b => textS l b.toNat) [44]).length ≤ 140737488355328 := by
     have h1 := text_size h hL hi
     have h2 := treeS_eq (body := bodyS) (d := ([] : List UInt8)) hL.back hn
     have h3 : textS l i = bodyS ⟨4, s, v, a⟩ (a.map fun b => textS l b.toNat) := h2
     rw [h3] at h1
     simp [bodyS] at h1
     omega
    have hjo := join1_ok (G := G) 44 (a.map fun b => textS l b.toNat) hsz (by simp; omega)
    have hJl : (Lib.join (a.map fun b => textS l b.toNat) [44]).length ≤ 1000000 := by
     have h1 := text_size h hL hi
     have h2 := treeS_eq (body := bodyS) (d := ([] : List UInt8)) hL.back hn
     have h3 : textS l i = bodyS ⟨4, s, v, a⟩ (a.map fun b => textS l b.toNat) := h2
     rw [h3] at h1
     simp [bodyS] at h1
     omega
    obtain ⟨J, hJ⟩ : ∃ J, J = Lib.join (a.map fun b => textS l b.toNat) [44] := ⟨_, rfl⟩
    have hb : bodyS ⟨4, s, v, a⟩ (a.map fun b => textS l b.toNat) = s ++ (40 :: (J ++ [41])) := by simp [bodyS, hJ]
    rw [hb]
    rw [← hJ] at hjo hJl
    have q1 : s.length + (J.length + 1) ≤ 9223372036854775807 := by omega
    have q2 : s.length + 1 + J.length ≤ 9223372036854775806 := by omega
    have q3 : s.length + (J.length + 1) ≤ 9223372036854775806 := by omega
    have q4 : s.length + 1 + J.length ≤ 9223372036854775807 := by omega
    have hsl0 : s.length ≤ 9223372036854775806 := by omega
    simp [f5, f40, f41, hv0, hv1, hv2, hsl0]
    refine qc_lent hjo (.cons (hacc.coe true) (.cons (.pure _ (by simp [AV.pure])) .nil)) (by simp [rig]) ?_
    simp [q1, q2, q3, q4]
  ·simp [a_target_text, hnl, hi, hli, hge, g1, g2, boxOp, splice, h2, h3, h4, bodyS]
end Go.Proofs.YtalfhchbmhoagaaGreatDoor
end
section
set_option maxHeartbeats 2000000
namespace Go.Dec
theorem dig_slice {d : Nat} (h : d < 10) : (([48, 49, 50, 51, 52, 53, 54, 55, 56, 57] : List UInt8).take (d + 1)).drop d = [UInt8.ofNat (48 + d)] := by
 have : ∀ i : Fin 10, (([48, 49, 50, 51, 52, 53, 54, 55, 56, 57] : List UInt8).take (i.val + 1)).drop i.val = [UInt8.ofNat (48 + i.val)] := by decide
 exact this ⟨d, h⟩
theorem fr_step {k p : Nat} (hm : p * 10 ^ (k + 1) % 1000000 = 0) : (p % 100000 * 10) * 10 ^ k % 1000000 = 0 := by
 have e : p * 10 ^ (k + 1) = (p % 100000 * 10) * 10 ^ k + p / 100000 * 10 ^ k * 1000000 := by
  have := Nat.div_add_mod p 100000
  rw [Nat.pow_succ]
  generalize p / 100000 = a at *
  generalize p % 100000 = b at *
  rw [← this, Nat.add_mul, ← Nat.mul_assoc, ← Nat.mul_assoc, Nat.mul_assoc 100000, Nat.mul_right_comm b 10]
  omega
 rw [e] at hm
 omega
theorem dd_step (m : Nat) : Lib.decDigits m = (if m / 10 = 0 then [] else Lib.decDigits (m / 10)) ++ [UInt8.ofNat (48 + m % 10)] := by
 rw [Lib.decDigits]
 split
 ·rename_i h
  have h1 : m / 10 = 0 := by omega
  have h2 : m % 10 = m := by omega
  rw [if_pos h1, h2]
  rfl
 ·rename_i h
  rw [if_neg (by omega)]
end Go.Dec
namespace Go.Proofs.YtalfhchbmhoagaaGreatDoor
open Go.Abs Go.Dec
variable {G : Globs}
theorem rDigits_ok (n : Nat) (hn : n < 18446744073709551616) : PCalls Tryz.prog n_isobarref03_Digits [.int .u64 n] (fun r => r = .str (Lib.decDigits n)) := by
 refine pcalls_of_awp hmix c_isobarref03_Digits rfl ?_
 simp [a_isobarref03_Digits]
 have hl20 := decDigits_le n hn
 refine lp_startx (fun x f σ => ∃ (m : Nat) (s : List UInt8), x = m + (if s = [] then 1 else 0) ∧ m ≤ n ∧ f 0 = .int .u64 m ∧ f 3 = .str s ∧ Lib.decDigits n = (if m = 0 ∧ s ≠ [] then [] else Lib.decDigits m) ++ s ∧ σ = []) (n + 1) ?_ ?_
 ·exact ⟨n, [], by simp, Nat.le_refl _, by simp, by simp, by simp, by simp⟩
 rintro x f σ ⟨m, s, rfl, hm, h0, h3, hd, rfl⟩
 have hsl : s.length ≤ 20 := by rw [hd] at hl20; simp at hl20; omega
 obtain ⟨d, hd0⟩ : ∃ d, d = m % 10 := ⟨_, rfl⟩
 obtain ⟨q, hq0⟩ : ∃ q, q = m / 10 := ⟨_, rfl⟩
 have hd10 : d < 10 := by omega
 have e1 : (m : Int).tmod 10 = (d : Int) := by rw [Int.tmod_eq_emod_of_nonneg (by omega)]; omega
 have e2 : (m : Int) % 10 = (d : Int) := by omega
 have e3 : (m : Int).tdiv 10 = (q : Int) := by rw [Int.tdiv_eq_ediv_of_nonneg (by omega)]; omega
 have e4 : (m : Int) / 10 = (q : Int) := by omega
 have hw1 : IntKind.u64.wrap ((d : Int) + 1) = (d : Int) + 1 := wrap_u64 (by omega) (by omega)
 have hw2 : IntKind.u64.wrap (q : Int) = (q : Int) := wrap_u64 (by omega) (by omega)
 have hw3 : IntKind.u64.wrap (d : Int) = (d : Int) := wrap_u64 (by omega) (by omega)
 have hd1 : (d : Int) ≤ (d : Int) + 1 := by omega
 have hd2 : (d : Int) + 1 ≤ 10 := by omega
 have hd3 : d + 1 ≤ 10 := by omega
 have hsl' : s.length + 1 ≤ 9223372036854775807 := by omega
 have hds := dig_slice hd10
 have hmd : m = q * 10 + d := by omega
 have hd4 : (0 : Int) ≤ (d : Int) + 1 := by omega
 have hds2 : List.drop d (48 :: List.take d [49, 50, 51, 52, 53, 54, 55, 56, 57]) = [UInt8.ofNat (48 + d)] := by rwa [List.take_succ_cons] at hds
 have hmin : min d 9 + 1 - d = 1 := by omega
 have hsl2 : 1 + s.length ≤ 9223372036854775807 := by omega
 have hwz : IntKind.u64.wrap 0 = 0 := wrap_u64 (by omega) (by omega)
 have hw0 : IntKind.u64.wrap 1 = 1 := wrap_u64 (by omega) (by omega)
 have hdd := dd_step m
 rw [← hd0, ← hq0] at hdd
 by_cases hmp : 0 < m
 ·have hmp' : (0 : Int) < (m : Int) := by omega
  have hmz : ¬ m = 0 := by omega
  have hfin : Lib.decDigits n = (if q = 0 then [] else Lib.decDigits q) ++ UInt8.ofNat (48 + d) :: s := by
   rw [hd, if_neg (by omega), hdd]; simp
  simp [h0, h3, hmp, hmp', e1, e2, e3, e4, hw1, hw2, hw3, hd1, hd2, hd3, hd4, hds2, hmin, hsl2, hsl']
  refine nx_intro q (by omega) ⟨q, UInt8.ofNat (48 + d) :: s, by simp, by omega, by simp, by simp, by rw [hfin]; simp, rfl⟩
 ·have hm0 : m = 0 := by omega
  subst hm0
  have hdz : d = 0 := by omega
  have hqz : q = 0 := by omega
  subst hdz hqz
  by_cases hs : s = []
  ·subst hs
   simp [h0, h3, hw0]
   refine nx_intro 0 (by omega) ⟨0, [48], by simp, by omega, by simp [hwz], by simp, ?_, rfl⟩
   have : Lib.decDigits 0 = [48] := by rw [Lib.decDigits]; rfl
   rw [hd]
   simp [this]
  ·simp [h0, h3, hs]
   rw [hd]
   simp [hs]
theorem rPrint_ok (nl : Bool) (v : Int) (h0 : -9223372036854775808 ≤ v) (h1 : v ≤ 9223372036854775807) : PCalls Tryz.prog n_isobarref03_Print [.agg [.bool nl, .int .i64 v]] (fun r => r = .str (prn nl v)) := by
 refine pcalls_of_awp hmix c_isobarref03_Print rfl ?_
 simp [a_isobarref03_Print]
 cases nl with
 | true => simp [prn]
 | false =>
 simp
 refine ac_same (rRight_ok false v) (by simp) ?_
 rintro r rfl
 by_cases hmin : v = -9223372036854775808
 ·simp [hmin, prn]
 simp [hmin]
 have hpl := prn_len hmin (by omega)
 obtain ⟨u, hu⟩ : ∃ u : Nat, u = v.natAbs := ⟨_, rfl⟩
 have hu64 : u < 9223372036854775808 := by omega
 have hprn : prn false v = (if v < 0 then [45] else []) ++ Lib.decDigits (u / 1000000) ++ frac (u % 1000000) := by
  simp [prn, hmin, hu]
 obtain ⟨q, hq⟩ : ∃ q, q = u / 1000000 := ⟨_, rfl⟩
 obtain ⟨p, hpp⟩ : ∃ p, p = u % 1000000 := ⟨_, rfl⟩
 rw [← hq, ← hpp] at hprn
 have hdl := decDigits_le q (by omega)
 have hq1 : (u : Int).tdiv 1000000 = (q : Int) := by rw [Int.tdiv_eq_ediv_of_nonneg (by omega)]; omega
 have hq2 : (u : Int) / 1000000 = (q : Int) := by omega
 have hwq : IntKind.i64.wrap (q : Int) = (q : Int) := wrap_i64 (by omega) (by omega)
 have hwu : IntKind.u64.wrap (q : Int) = (q : Int) := wrap_u64 (by omega) (by omega)
 have hp1 : (u : Int).tmod 1000000 = (p : Int) := by rw [Int.tmod_eq_emod_of_nonneg (by omega)]; omega
 have hp2 : (u : Int) % 1000000 = (p : Int) := by omega
 have hp : p < 1000000 := by omega
 have hlenQ : (Lib.decDigits q).length ≤ 9223372036854775807 := by omega
 have hlen6 : (Lib.decDigits q).length ≤ 9223372036854775806 := by omega
 have hlen5 : (Lib.decDigits q).length ≤ 9223372036854775805 := by omega
 have hlen1q : 1 + (Lib.decDigits q).length ≤ 9223372036854775807 := by omega
 have hlenQ1 : (Lib.decDigits q).length + 1 ≤ 9223372036854775807 := by omega
 have hlenR : (Lib.decDigits q).length + 1 + 1 ≤ 9223372036854775807 := by omega
 have hlenR1 : 1 + (Lib.decDigits q).length + 1 ≤ 9223372036854775807 := by omega
 by_cases hneg : v < 0
 ·have hwn : IntKind.i64.wrap (-v) = (u : Int) := by rw [wrap_i64 (by omega) (by omega)]; omega
  simp [hneg, hwn, hq1, hq2, hwq, hwu]
  refine ac_same (rDigits_ok q (by omega)) (by simp) ?_
  rintro r rfl
  have hlenS : ([45] : List UInt8).length + (Lib.decDigits q).length ≤ 100 := by simp; omega
  simp [hp1, hp2, hlenQ, hlenQ1, hlen6, hlen1q]
  by_cases hp0 : p = 0
  ·have hp0' : (p : Int) = 0 := by omega
   simp [hp0]
   rw [hprn]
   simp [hneg, hp0, frac]
  ·have hp0' : ¬ (p : Int) = 0 := by omega
   simp [hp0, hp0', hlenR, hlenR1, hlen6, hlen5, hlen1q]
   refine lp_startx (fun x f σ => ∃ (k r : Nat) (T : List UInt8), x = k ∧ k ≤ 6 ∧ r < 1000000 ∧ r * 10 ^ k % 1000000 = 0 ∧ f 5 = .str T ∧ f 6 = .int .i64 r ∧ T ++ fr k r = prn false v ∧ σ = [.var 65 [.bool false, .int .i64 v]]) 6 ?_ ?_
   ·refine ⟨6, p, ([45] : List UInt8) ++ Lib.decDigits q ++ [46], rfl, Nat.le_refl _, hp, by omega, by simp, by simp, ?_, by simp⟩
    rw [hprn]
    simp [hneg, frac, hp0]
   rintro x f σ ⟨k, r, T, hxk, hk6, hr6, hrk, h5, h6, hT, rfl⟩
   have hTl : T.length ≤ 21 := by
    have := congrArg List.length hT
    simp only [List.length_append] at this
    omega
   obtain ⟨a, ha⟩ : ∃ a, a = r / 100000 := ⟨_, rfl⟩
   obtain ⟨b, hb⟩ : ∃ b, b = r % 100000 := ⟨_, rfl⟩
   have g1 : (r : Int).tdiv 100000 = (a : Int) := by rw [Int.tdiv_eq_ediv_of_nonneg (by omega)]; omega
   have g2 : (r : Int) / 100000 = (a : Int) := by omega
   have g3 : (r : Int).tmod 100000 = (b : Int) := by rw [Int.tmod_eq_emod_of_nonneg (by omega)]; omega
   have g4 : (r : Int) % 100000 = (b : Int) := by omega
   have g5 : IntKind.i64.wrap ((b : Int) * 10) = ((b * 10 : Nat) : Int) := by rw [wrap_i64 (by omega) (by omega)]; omega
   have g6 : IntKind.u64.wrap (a : Int) = (a : Int) := wrap_u64 (by omega) (by omega)
   have g7 : IntKind.i64.wrap (a : Int) = (a : Int) := wrap_i64 (by omega) (by omega)
   by_cases hr0 : r = 0
   ·subst hr0
    have hf0 : fr k 0 = [] := by cases k <;> simp [fr]
    rw [hf0, List.append_nil] at hT
    simp [h5, h6, hT]
   ·have hr0' : (0 : Int) < (r : Int) := by omega
    have hrp : 0 < r := by omega
    obtain ⟨k', rfl⟩ : ∃ k', k = k' + 1 := by
     cases k with
     | zero => exfalso; simp at hrk; omega
     | succ k' => exact ⟨k', rfl⟩
    have hstep := fr_step hrk
    have hdg : Lib.decDigits a = [UInt8.ofNat (48 + a)] := Lib.decDigits_one (by omega)
    have hT2 : (T ++ [UInt8.ofNat (48 + a)]) ++ fr k' (b * 10) = prn false v := by
     rw [← hT, fr, if_neg hr0, ← ha, ← hb]; simp
    simp [h5, h6, hr0', hrp, g1, g2, g6, g7]
    refine ac_same (rDigits_ok a (by omega)) (by simp) ?_
    rintro r' rfl
    rw [hdg]
    have hTl6 : T.length ≤ 9223372036854775806 := by omega
    have hTl' : T.length + 1 ≤ 9223372036854775807 := by omega
    simp [h5, h6, g3, g4, g5, hTl', hTl6]
    refine nx_intro k' (by omega) ⟨k', b * 10, T ++ [UInt8.ofNat (48 + a)], rfl, by omega, by omega, by rw [hb]; exact hstep, by simp, by simp, hT2, rfl⟩
 ·have hv : v = (u : Int) := by omega
  have hneg' : ¬ (u : Int) < 0 := by omega
  simp [hneg]
  subst hv
  simp [hneg', hq1, hq2, hwq, hwu]
  refine ac_same (rDigits_ok q (by omega)) (by simp) ?_
  rintro r rfl
  have hlenS : ([] : List UInt8).length + (Lib.decDigits q).length ≤ 100 := by simp; omega
  simp [hp1, hp2, hlenQ, hlenQ1, hlen6, hlen1q]
  by_cases hp0 : p = 0
  ·have hp0' : (p : Int) = 0 := by omega
   simp [hp0]
   rw [hprn]
   simp [hneg', hp0, frac]
  ·have hp0' : ¬ (p : Int) = 0 := by omega
   simp [hp0, hp0', hlenR, hlenR1, hlen6, hlen5, hlen1q]
   refine lp_startx (fun x f σ => ∃ (k r : Nat) (T : List UInt8), x = k ∧ k ≤ 6 ∧ r < 1000000 ∧ r * 10 ^ k % 1000000 = 0 ∧ f 5 = .str T ∧ f 6 = .int .i64 r ∧ T ++ fr k r = prn false (u : Int) ∧ σ = [.var 65 [.bool false, .int .i64 (u : Int)]]) 6 ?_ ?_
   ·refine ⟨6, p, ([] : List UInt8) ++ Lib.decDigits q ++ [46], rfl, Nat.le_refl _, hp, by omega, by simp, by simp, ?_, by simp⟩
    rw [hprn]
    simp [hneg', frac, hp0]
   rintro x f σ ⟨k, r, T, hxk, hk6, hr6, hrk, h5, h6, hT, rfl⟩
   have hTl : T.length ≤ 21 := by
    have := congrArg List.length hT
    simp only [List.length_append] at this
    omega
   obtain ⟨a, ha⟩ : ∃ a, a = r / 100000 := ⟨_, rfl⟩
   obtain ⟨b, hb⟩ : ∃ b, b = r % 100000 := ⟨_, rfl⟩
   have g1 : (r : Int).tdiv 100000 = (a : Int) := by rw [Int.tdiv_eq_ediv_of_nonneg (by omega)]; omega
   have g2 : (r : Int) / 100000 = (a : Int) := by omega
   have g3 : (r : Int).tmod 100000 = (b : Int) := by rw [Int.tmod_eq_emod_of_nonneg (by omega)]; omega
   have g4 : (r : Int) % 100000 = (b : Int) := by omega
   have g5 : IntKind.i64.wrap ((b : Int) * 10) = ((b * 10 : Nat) : Int) := by rw [wrap_i64 (by omega) (by omega)]; omega
   have g6 : IntKind.u64.wrap (a : Int) = (a : Int) := wrap_u64 (by omega) (by omega)
   have g7 : IntKind.i64.wrap (a : Int) = (a : Int) := wrap_i64 (by omega) (by omega)
   by_cases hr0 : r = 0
   ·subst hr0
    have hf0 : fr k 0 = [] := by cases k <;> simp [fr]
    rw [hf0, List.append_nil] at hT
    simp [h5, h6, hT]
   ·have hr0' : (0 : Int) < (r : Int) := by omega
    have hrp : 0 < r := by omega
    obtain ⟨k', rfl⟩ : ∃ k', k = k' + 1 := by
     cases k with
     | zero => exfalso; simp at hrk; omega
     | succ k' => exact ⟨k', rfl⟩
    have hstep := fr_step hrk
    have hdg : Lib.decDigits a = [UInt8.ofNat (48 + a)] := Lib.decDigits_one (by omega)
    have hT2 : (T ++ [UInt8.ofNat (48 + a)]) ++ fr k' (b * 10) = prn false (u : Int) := by
     rw [← hT, fr, if_neg hr0, ← ha, ← hb]; simp
    simp [h5, h6, hr0', hrp, g1, g2, g6, g7]
    refine ac_same (rDigits_ok a (by omega)) (by simp) ?_
    rintro r' rfl
    rw [hdg]
    have hTl6 : T.length ≤ 9223372036854775806 := by omega
    have hTl' : T.length + 1 ≤ 9223372036854775807 := by omega
    simp [h5, h6, g3, g4, g5, hTl', hTl6]
    refine nx_intro k' (by omega) ⟨k', b * 10, T ++ [UInt8.ofNat (48 + a)], rfl, by omega, by omega, by rw [hb]; exact hstep, by simp, by simp, hT2, rfl⟩
end Go.Proofs.YtalfhchbmhoagaaGreatDoor
end
section
set_option maxHeartbeats 4000000
set_option maxRecDepth 20000
namespace Go.Proofs.YtalfhchbmhoagaaGreatDoor
open Go.Abs Go.Tgt Go.Trail Go.Tok
variable {G : Globs}
def printT (l : List Nd) : List UInt8 × Nat := if rightT l = true then (if 1024 < (textS l (l.length - 1)).length then ([], 12) else (textS l (l.length - 1), 0)) else ([], 1)
theorem rightT_link {l : List Nd} (h : rightT l = true) : ∃ B D w, l ≠ [] ∧ Linked ownB l B D ∧ shapeS ownB l = some [w] ∧ w.2 ≤ 12 ∧ OnStack l B D [w] ∧ letterS (l.getD (l.length - 1) nd0) = 83 ∧ checkS nodE l l = 0 := by
 simp only [rightT, Bool.and_eq_true, decide_eq_true_eq, Bool.not_eq_true', decide_eq_false_iff_not] at h
 obtain ⟨w, hw, h12⟩ := shapedB_some h.1.1.2
 obtain ⟨B, D, hL, hS⟩ := linked_of ownB l [w] hw
 exact ⟨B, D, w, h.1.1.1.1, hL, hw, h12, hS, h.1.2, h.2⟩
def printAV (x : List UInt8 × Nat) : AV := .tup [.str x.1, .int .i64 x.2]
theorem tPrint23_ok [GDec] [GSpcT] [GFam] (l : List Nd) (h : TOk l) : PCalls Tryz.prog n_target_Print [.lst (ndEls l)] (fun r => r = printAV (printT l)) := by
 refine pcalls_of_awp hmix c_target_Print rfl ?_
 have hnl := ndEls_len l
 have hlen := h.len
 simp [a_target_Print]
 refine ac_same (tRight23_ok l h) (by simp) ?_
 rintro r rfl
 cases hr : rightT l with
 | false => simp [printT, hr, printAV]
 | true =>
  obtain ⟨B, D, w, h0, hL, _⟩ := rightT_link hr
  have hpos : 0 < l.length := List.length_pos_iff.2 h0
  obtain ⟨q, hq⟩ : ∃ q, q = l.length - 1 := ⟨_, rfl⟩
  have hwl : IntKind.i64.wrap ((l.length : Int) - 1) = (q : Int) := by rw [wrap_i64 (by omega) (by omega)]; omega
  have htx := ttext23_ok (G := G) h hL q (by omega)
  have hsz := text_size h hL (i := q) (by omega)
  simp [hnl, hwl]
  refine ac_same htx (by simp) ?_
  rintro r rfl
  unfold printT
  rw [← hq, if_pos hr]
  obtain ⟨T, hT⟩ : ∃ T, T = textS l q := ⟨_, rfl⟩
  rw [← hT]
  by_cases hl : 1024 < T.length
  ·have hl' : (1024 : Int) < (T.length : Int) := by omega
   simp [hl, hl', printAV]
  ·have hl' : ¬ (1024 : Int) < (T.length : Int) := by omega
   simp [hl, hl', printAV]
theorem join_mono (x : List UInt8) (a : List (List UInt8)) : (Lib.join a [44]).length ≤ (Lib.join (a ++ [x]) [44]).length := by
 rw [Joi.join_snoc]
 split
 ·rename_i h; subst h; simp [Lib.join_nil]
 ·simp
theorem join_mono2 : ∀ (b a : List (List UInt8)), (Lib.join a [44]).length ≤ (Lib.join (a ++ b) [44]).length
 | [], a => by simp
 | x :: b, a => by
  have h1 := join_mono x a
  have h2 := join_mono2 b (a ++ [x])
  rw [List.append_assoc, List.singleton_append] at h2
  omega
theorem join_take_len (l : List (List UInt8)) (q : Nat) : (Lib.join (l.take q) [44]).length ≤ (Lib.join l [44]).length := by
 have := join_mono2 (l.drop q) (l.take q)
 rwa [List.take_append_drop] at this
theorem join_take_succ {l : List (List UInt8)} {i : Nat} {y : List UInt8} (h : l[i]? = some y) : Lib.join (l.take (i + 1)) [44] = (if i = 0 then [] else Lib.join (l.take i) [44] ++ [44]) ++ y := by
 have hl := (List.getElem?_eq_some_iff.1 h).1
 rw [List.take_add_one, h, Option.toList_some, Joi.join_snoc]
 by_cases hi : i = 0
 ·subst hi; simp
 ·have hne : l.take i ≠ [] := by
   intro e
   have := congrArg List.length e
   rw [List.length_take, List.length_nil] at this; omega
  rw [if_neg hne, if_neg hi]; simp
theorem rtext23_ok [GDec] {l : List Nd} (h : TOk l) {B D : Nat → Nat} (hL : Linked ownB l B D) (i : Nat) : i < l.length → PCalls Tryz.prog n_isobarref23_print [.lst (ndEls l), .int .i64 i] (fun r => r = .str (textS l i)) := by
 induction i using Nat.strongRecOn with
 | _ i ih =>
  intro hi
  refine pcalls_of_awp hmix c_isobarref23_print rfl ?_
  have hnl := ndEls_len l
  obtain ⟨n, hn⟩ : ∃ n, l[i]? = some n := ⟨_, List.getElem?_eq_getElem hi⟩
  have hmem := List.mem_of_getElem? hn
  have hge := ndEls_get hn
  obtain ⟨g1, g2⟩ := List.getElem?_eq_some_iff.1 hge
  have hli : (i : Int) < (l.length : Int) := by omega
  obtain ⟨e1, e2⟩ := h.each n hmem
  obtain ⟨b1, b2⟩ := h.num n hmem
  have how := hL.own i n hn
  have htree := treeS_eq (body := bodyS) (d := ([] : List UInt8)) hL.back hn
  have hts : textS l i = bodyS n (n.args.map fun a => textS l a.toNat) := htree
  have hsz := text_size h hL hi
  have hownk : n.kind = 1 ∨ n.kind = 2 ∨ n.kind = 3 ∨ n.kind = 4 := by
   unfold ownB at how
   split at how
   ·exact .inl ‹_›
   ·split at how
    ·exact .inr (.inl ‹_›)
    ·split at how
     ·exact .inr (.inr (.inl ‹_›))
     ·split at how
      ·exact .inr (.inr (.inr ‹_›))
      ·cases how
  rw [hts] at hsz ⊢
  have hback := hL.back i n hn
  have hpos : ∀ a ∈ n.args, 0 ≤ a := fun a ha => ((hL.chain i n hn).mem a ha).1
  clear htree hts
  obtain ⟨k, s, v, a⟩ := n
  simp only at hge g2 e1 e2 b1 b2 hback hpos hownk
  rcases hownk with rfl | rfl | rfl | rfl
  ·simp [a_isobarref23_print, hnl, hi, hli, hge, g1, g2, boxOp, splice, bodyS]
  ·simp [a_isobarref23_print, hnl, hi, hli, hge, g1, g2, boxOp, splice]
   refine ac_same (rPrint_ok false v b1 b2) (by simp) ?_
   rintro r rfl
   simp [bodyS]
  ·have hr : rightB 3 0 s = true := by
    simp [ownB] at how; exact how.2
   have hrt := refText_ok (G := G) 3 0 s (by omega) (right_q hr)
   simp [a_isobarref23_print, hnl, hi, hli, hge, g1, g2, boxOp, splice]
   refine ac_same hrt (by simp [tokA]) ?_
   rintro r rfl
   simp [bodyS]
  ·have hal := intEls_len a
   have hb4 : ∀ as_, bodyS ⟨4, s, v, a⟩ as_ = s ++ (40 :: (Lib.join as_ [44] ++ [41])) := fun as_ => by simp [bodyS]
   rw [hb4] at hsz ⊢
   obtain ⟨Ts, hTs⟩ : ∃ Ts, Ts = a.map fun b => textS l b.toNat := ⟨_, rfl⟩
   have hTl : Ts.length = a.length := by rw [hTs]; simp
   rw [← hTs] at hsz ⊢
   have hsl0 : s.length ≤ 9223372036854775806 := by omega
   have hjt : ∀ q, (Lib.join (Ts.take q) [44]).length ≤ (Lib.join Ts [44]).length := fun q => join_take_len Ts q
   simp at hsz
   simp [a_isobarref23_print, hnl, hi, hli, hge, g1, g2, boxOp, splice, hsl0]
   refine lp_startx (fun x f σ => ∃ q : Nat, x = a.length - q ∧ q ≤ a.length ∧ f 0 = .lst (ndEls l) ∧ f 5 = .ptr 0 0 ∧ f 6 = .str (s ++ (40 :: Lib.join (Ts.take q) [44])) ∧ f 7 = .int .i64 q ∧ σ[0]? = some (.var 44 [.int .i64 4, .str s, .int .i64 v, .lst (intEls a)])) a.length ⟨0, by simp, by simp, by simp, by simp, by simp [Lib.join], by simp, by simp⟩ ?_
   rintro x f σ ⟨q, hx, hq, f0, f5, f6, f7, hv0⟩
   obtain ⟨hv1, hv2⟩ := List.getElem?_eq_some_iff.1 hv0
   have hjq := hjt q
   by_cases hqa : q < a.length
   ·obtain ⟨y, hy⟩ : ∃ y, a[q]? = some y := ⟨_, List.getElem?_eq_getElem hqa⟩
    have hym := List.mem_of_getElem? hy
    have hy0 := hpos y hym
    have hyi := hback y hym
    obtain ⟨m, rfl⟩ : ∃ m : Nat, y = (m : Int) := ⟨y.toNat, by omega⟩
    simp only [Int.toNat_natCast] at hyi
    have hie : (intEls a)[q]? = some [.int .i64 m] := by simp [intEls, hy]
    obtain ⟨i1, i2⟩ := List.getElem?_eq_some_iff.1 hie
    have hqai : (q : Int) < (a.length : Int) := by omega
    have hwq : IntKind.i64.wrap ((q : Int) + 1) = (q : Int) + 1 := wrap_i64 (by omega) (by omega)
    have hTq : Ts[q]? = some (textS l m) := by rw [hTs]; simp [hy]
    have hjn := join_take_succ hTq
    have hjq1 := hjt (q + 1)
    rw [hjn] at hjq1
    by_cases hq0 : q = 0
    ·subst hq0
     simp only [if_true, List.nil_append] at hjn hjq1
     have q1 : s.length + (1 + (textS l m).length) ≤ 9223372036854775807 := by omega
     have q2 : s.length + 1 + (textS l m).length ≤ 9223372036854775807 := by omega
     have q3 : (textS l m).length + 1 + s.length ≤ 9223372036854775807 := by omega
     have q4 : s.length + ((textS l m).length + 1) ≤ 9223372036854775807 := by omega
     simp [f0, f5, f6, f7, hv0, hv1, hv2, hqa, hqai, hal, hie, i1, i2, Lib.join_nil]
     refine ac_same (ih m hyi (by omega)) (by simp) ?_
     rintro r rfl
     have hw1 : IntKind.i64.wrap 1 = 1 := by decide
     simp [f6, f7, Lib.join_nil, q1, q2, q3, q4, hw1]
     refine nx_intro (a.length - 1) (by omega) ⟨1, rfl, by omega, by simp [f0], by simp [f5], ?_, by simp, by simpa using hv0⟩
     simp only [Nat.zero_add] at hjn
     rw [hjn]; simp
    ·have hq0i : (0 : Int) < (q : Int) := by omega
     have hq0n : 0 < q := by omega
     rw [if_neg hq0] at hjn hjq1
     simp only [List.length_append, List.length_singleton] at hjq1
     obtain ⟨J, hJ⟩ : ∃ J, J = Lib.join (Ts.take q) [44] := ⟨_, rfl⟩
     rw [← hJ] at hjn hjq1 f6
     have q1 : s.length + (J.length + 1) ≤ 9223372036854775806 := by omega
     have q2 : s.length + (J.length + 1) + 1 ≤ 9223372036854775807 := by omega
     have q3 : s.length + (J.length + 1) ≤ 9223372036854775807 := by omega
     simp [f0, f5, f6, f7, hv0, hv1, hv2, hqa, hqai, hal, hie, i1, i2, hq0i, hq0n, q1, q2, q3]
     refine ac_same (ih m hyi (by omega)) (by simp) ?_
     rintro r rfl
     have q4 : s.length + (J.length + 1 + 1) + (textS l m).length ≤ 9223372036854775807 := by omega
     have q5 : s.length + (J.length + (1 + (textS l m).length) + 1) ≤ 9223372036854775807 := by omega
     have q6 : s.length + (J.length + ((textS l m).length + 1) + 1) ≤ 9223372036854775807 := by omega
     have q7 : s.length + (J.length + 1 + 1 + (textS l m).length) ≤ 9223372036854775807 := by omega
     have q8 : s.length + (J.length + 1) + 1 + (textS l m).length ≤ 9223372036854775807 := by omega
     simp [f6, f7, q4, q5, q6, q7, q8, hwq]
     refine nx_intro (a.length - (q + 1)) (by omega) ⟨q + 1, rfl, by omega, by simp [f0], by simp [f5], ?_, by simp, by simpa using hv0⟩
     rw [hjn]; simp
   ·have hqe : q = a.length := by omega
    subst hqe
    have htk : Ts.take a.length = Ts := List.take_of_length_le (by omega)
    rw [htk] at f6
    obtain ⟨J, hJ⟩ : ∃ J, J = Lib.join Ts [44] := ⟨_, rfl⟩
    rw [← hJ] at f6 hsz ⊢
    have q1 : s.length + (J.length + 1) ≤ 9223372036854775806 := by omega
    have q2 : s.length + (J.length + 1) + 1 ≤ 9223372036854775807 := by omega
    simp [f0, f5, f6, f7, hv0, hv1, hv2, hal, q1, q2]
end Go.Proofs.YtalfhchbmhoagaaGreatDoor
end
section
set_option maxHeartbeats 4000000
set_option maxRecDepth 20000
namespace Go.Tgt
theorem onStack_step {l : List Nd} {n : Nd} {B D : Nat → Nat} {S0 : List (Nat × Nat)} {j : Nat} (hO : OnStack l B D S0) (hjl : j ≤ S0.length) :
  OnStack (l ++ [n]) (fun k => if k = l.length then bOf S0 j else B k) (fun k => if k = l.length then deepS (S0.drop j) else D k) (S0.take j ++ [(l.length, deepS (S0.drop j))]) := by
 have hch := chain_stack hO (S0.length - j) j (by omega)
 obtain ⟨B', hB'⟩ : ∃ B' : Nat → Nat, B' = fun k => if k = l.length then bOf S0 j else B k := ⟨_, rfl⟩
 obtain ⟨D', hD'⟩ : ∃ D' : Nat → Nat, D' = fun k => if k = l.length then deepS (S0.drop j) else D k := ⟨_, rfl⟩
 rw [← hB', ← hD']
 have hBo : ∀ k, k < l.length → B' k = B k := fun k hk => by rw [hB']; simp; omega
 have hDo : ∀ k, k < l.length → D' k = D k := fun k hk => by rw [hD']; simp; omega
 have hBn : B' l.length = bOf S0 j := by rw [hB']; simp
 have hDn : D' l.length = deepS (S0.drop j) := by rw [hD']; simp
 refine ⟨fun w hw => ?_, fun k w hw => ?_, ?_⟩
 ·skip
  rcases List.mem_append.1 hw with hw | hw
  ·have := hO.lt w (List.mem_of_mem_take hw)
   simp; omega
  ·simp at hw; subst hw; simp
 ·skip
  by_cases hk : k < j
  ·rw [List.getElem?_append_left (by simp; omega), List.getElem?_take, if_pos hk] at hw
   obtain ⟨h1, h2, h3⟩ := hO.beg k w hw
   have hlt := hO.lt w (List.mem_of_getElem? hw)
   have e : bOf (S0.take j ++ [(l.length, deepS (S0.drop j))]) k = bOf S0 k := by
    rw [bOf_take (by simp; omega)]
    have := bOf_take (S := S0.take j) (T := S0.drop j) (j := k) (by simp; omega)
    rw [List.take_append_drop] at this
    exact this.symm
   rw [hBo _ hlt, hDo _ hlt, e]
   exact ⟨h1, h2, h3⟩
  ·rw [List.getElem?_append_right (by simp; omega)] at hw
   have := (List.getElem?_eq_some_iff.1 hw).1
   simp at this
   have e : k = j := by omega
   subst e
   have hz : k - (S0.take k).length = 0 := by simp; omega
   rw [hz] at hw
   simp at hw; subst hw
   have e : bOf (S0.take k ++ [(l.length, deepS (S0.drop k))]) k = bOf S0 k := by
    rw [bOf_take (by simp; omega)]
    have := bOf_take (S := S0.take k) (T := S0.drop k) (j := k) (by simp; omega)
    rw [List.take_append_drop] at this
    exact this.symm
   rw [e, hBn]
   exact ⟨rfl, hDn, hch.le⟩
 ·skip
  have : (S0.take j ++ [(l.length, deepS (S0.drop j))]).length = j + 1 := by simp; omega
  rw [this]
  simp only [bOf]
  rw [List.getElem?_append_right (by simp; omega)]
  have hz : j - (S0.take j).length = 0 := by simp; omega
  rw [hz]
  simp
theorem onStack_nil : OnStack [] (fun _ => 0) (fun _ => 0) [] := ⟨fun w h => by simp at h, fun j w h => by simp at h, rfl⟩
end Go.Tgt
namespace Go.Proofs.YtalfhchbmhoagaaGreatDoor
open Go.Abs Go.Tgt Go.Trail Go.Tok
variable {G : Globs}
theorem intEls_set (l : List Int) (k : Nat) (n : Int) : (intEls l).set k [.int .i64 n] = intEls (l.set k n) := by simp [intEls, List.map_set]
theorem intEls_get {l : List Int} {k : Nat} {n : Int} (h : l[k]? = some n) : (intEls l)[k]? = some [.int .i64 n] := by simp [intEls, h]
theorem intEls_zero (n : Nat) : List.replicate n [AV.int .i64 0] = intEls (List.replicate n 0) := by simp [intEls]
theorem rRight23_ok [GDec] (l : List Nd) (h : TOk l) : PCalls Tryz.prog n_isobarref23_Right [.lst (ndEls l)] (fun r => r = .bool (rightT l)) := by
 refine pcalls_of_awp hmix c_isobarref23_Right rfl ?_
 have hnl := ndEls_len l
 have hlen := h.len
 by_cases h0 : l = []
 ·subst h0; simp [a_isobarref23_Right, rightT, ndEls]
 have hpos : 0 < l.length := List.length_pos_iff.2 h0
 have hl0 : ¬ l.length = 0 := by omega
 have hl0' : ¬ (l.length : Int) = 0 := by omega
 have hg : ¬ (1000 : Int) < (l.length : Int) := by omega
 have hg' : ¬ 1000 < l.length := by omega
 simp [a_isobarref23_Right, hnl, hl0, hl0', h0, hg, hg']
 refine ms_intro l.length rfl rfl (by omega) (by omega) (by omega) rfl ?_
 simp [hnl]
 refine ms_intro l.length rfl rfl (by omega) (by omega) (by omega) rfl ?_
 rw [intEls_zero]
 simp
 refine lp_startx (fun x f σ => ∃ (j : Nat) (S : List (Nat × Nat)) (B D : Nat → Nat) (bs ds : List Int), x = l.length - j ∧ j ≤ l.length ∧ f 0 = .lst (ndEls l) ∧ f 3 = .row 0 l.length ∧ f 4 = .row 1 l.length ∧ f 5 = .int .i64 j ∧ shapeS ownB (l.take j) = some S ∧ OnStack (l.take j) B D S ∧ bs.length = l.length ∧ ds.length = l.length ∧ (∀ i, i < j → bs[i]? = some (B i : Int) ∧ ds[i]? = some (D i : Int)) ∧ (∀ w ∈ S, w.2 ≤ j) ∧ σ = [.row 3 1 (intEls bs) false, .row 3 1 (intEls ds) false]) l.length ?_ ?_
 ·exact ⟨0, [], fun _ => 0, fun _ => 0, List.replicate l.length 0, List.replicate l.length 0, by simp, by simp, by simp, by simp, by simp, by simp, rfl, onStack_nil, by simp, by simp, fun i hi => by omega, by simp, by simp⟩
 rintro x f σ ⟨j, S, B, D, bs, ds, hx, hj, f0, f3, f4, f5, hsh, hO, hbl, hdl, hbd, hS2, rfl⟩
 by_cases hjl : j < l.length
 ·obtain ⟨n, hn⟩ : ∃ n, l[j]? = some n := ⟨_, List.getElem?_eq_getElem hjl⟩
  have hge := ndEls_get hn
  obtain ⟨g1, g2⟩ := List.getElem?_eq_some_iff.1 hge
  have hlti : (j : Int) < (l.length : Int) := by omega
  have hw : IntKind.i64.wrap ((j : Int) + 1) = (j : Int) + 1 := wrap_i64 (by omega) (by omega)
  obtain ⟨ht1, ht2⟩ := h.text n (List.mem_of_getElem? hn)
  have hal := intEls_len n.args
  have how := rown_ok (G := G) n (by omega)
  rw [ndA_eq] at how
  have hlj : (l.take j).length = j := by rw [List.length_take]; omega
  have hsnoc : shapeS ownB (l.take (j + 1)) = if ownB n = true then stepS n S j else none := by
   rw [List.take_add_one, hn]
   show shapeS ownB (l.take j ++ [n]) = _
   rw [shapeS_snoc, hsh, hlj]
   rfl
  have hbl2 := intEls_len bs
  have hdl2 := intEls_len ds
  simp [f0, f5, hjl, hlti, hge, g1, g2, hnl]
  refine ac_same how (by simp) ?_
  rintro r rfl
  cases hob : ownB n with
  | false =>
   rw [hob] at hsnoc
   simp [shaped_none hsnoc, rightT]
  | true =>
   rw [hob] at hsnoc
   simp only [if_true] at hsnoc
   have hwa : IntKind.i64.wrap ((n.args.length : Int) - 1) = (n.args.length : Int) - 1 := wrap_i64 (by omega) (by omega)
   obtain ⟨bj, hbj⟩ : ∃ v, bs[j]? = some v := ⟨_, List.getElem?_eq_getElem (by omega)⟩
   obtain ⟨dj, hdj⟩ : ∃ v, ds[j]? = some v := ⟨_, List.getElem?_eq_getElem (by omega)⟩
   obtain ⟨hgb1, hgb2⟩ := List.getElem?_eq_some_iff.1 (intEls_get hbj)
   obtain ⟨hgd1, hgd2⟩ := List.getElem?_eq_some_iff.1 (intEls_get hdj)
   simp [f0, f3, f4, f5, hjl, hlti, hge, g1, g2, hnl, hbl, hdl, hbl2, hdl2, hal, hwa, hgb2, hgd2, intEls_set]
   refine lp_startx (fun x f' σ' => ∃ c : Nat, x = n.args.length - c ∧ c ≤ n.args.length ∧ c ≤ S.length ∧ f' 0 = .lst (ndEls l) ∧ f' 3 = .row 0 l.length ∧ f' 4 = .row 1 l.length ∧ f' 5 = .int .i64 j ∧ f' 6 = .int .i64 ((n.args.length : Int) - 1 - c) ∧ n.args.drop (n.args.length - c) = atsS (S.drop (S.length - c)) ∧ σ' = [.row 3 1 (intEls (bs.set j (bOf S (S.length - c) : Nat))) false, .row 3 1 (intEls (ds.set j (deepS (S.drop (S.length - c)) : Nat))) false]) n.args.length ?_ ?_
   ·refine ⟨0, by simp, by simp, by simp, by simp [f0], by simp [f3], by simp [f4], by simp [f5], by simp, by simp [atsS], ?_⟩
    have htop := hO.top
    rw [hlj] at htop
    simp [htop, deepS]
   rintro x' f1 σ1 ⟨c, hx', hc, hcS, k0, k3, k4, k5, k6, hmat, rfl⟩
   have hset : ∀ (xs : List Int) (v : Int), xs.length = l.length → (xs.set j v).length = l.length := fun xs v hh => by simp [hh]
   obtain ⟨bv, hbv⟩ : ∃ bv : Int, bv = (bOf S (S.length - c) : Nat) := ⟨_, rfl⟩
   obtain ⟨dv, hdv⟩ : ∃ dv : Int, dv = (deepS (S.drop (S.length - c)) : Nat) := ⟨_, rfl⟩
   rw [← hbv, ← hdv]
   have hbl3 : (intEls (bs.set j bv)).length = l.length := by rw [intEls_len]; exact hset _ _ hbl
   have hdl3 : (intEls (ds.set j dv)).length = l.length := by rw [intEls_len]; exact hset _ _ hdl
   have hbs1 : (bs.set j bv)[j]? = some bv := by rw [List.getElem?_set_self (by omega)]
   have hds1 : (ds.set j dv)[j]? = some dv := by rw [List.getElem?_set_self (by omega)]
   have hbg := intEls_get hbs1
   have hdg := intEls_get hds1
   obtain ⟨hbg1, hbg2⟩ := List.getElem?_eq_some_iff.1 hbg
   obtain ⟨hdg1, hdg2⟩ := List.getElem?_eq_some_iff.1 hdg
   by_cases hca : c < n.args.length
   ·obtain ⟨q, hq⟩ : ∃ q, q = n.args.length - 1 - c := ⟨_, rfl⟩
    have hqi : ((n.args.length : Int) - 1 - c) = (q : Int) := by omega
    rw [hqi] at k6
    obtain ⟨a, hqa⟩ : ∃ a, n.args[q]? = some a := ⟨_, List.getElem?_eq_getElem (by omega)⟩
    have hie := intEls_get hqa
    obtain ⟨i1, i2⟩ := List.getElem?_eq_some_iff.1 hie
    have hq0 : (0 : Int) ≤ (q : Int) := by omega
    have hqlt : q < n.args.length := by omega
    have hqlti : (q : Int) < (n.args.length : Int) := by omega
    have hwq : IntKind.i64.wrap ((q : Int) - 1) = (q : Int) - 1 := wrap_i64 (by omega) (by omega)
    have had : n.args.drop q = a :: n.args.drop (q + 1) := by
     obtain ⟨h1, rfl⟩ := List.getElem?_eq_some_iff.1 hqa
     exact List.drop_eq_getElem_cons h1
    have hq1 : q + 1 = n.args.length - c := by omega
    have hno : (∀ m w, S.length - c = m + 1 → S[m]? = some w → a ≠ (w.1 : Int)) → shapeS ownB (l.take (j + 1)) = none := by
     intro hd
     rw [hsnoc]; unfold stepS
     rw [if_neg]
     rintro ⟨h1, h2⟩
     obtain ⟨w, hw⟩ : ∃ w, S[S.length - c - 1]? = some w := ⟨_, List.getElem?_eq_getElem (by omega)⟩
     refine hd (S.length - c - 1) w (by omega) hw ?_
     have h3 := congrArg (fun l => l[q]?) h2
     simp only [hqa, atsS, List.getElem?_map, List.getElem?_drop] at h3
     rw [show S.length - n.args.length + q = S.length - c - 1 by omega, hw] at h3
     simpa using h3.symm
    have hfalse : shapeS ownB (l.take (j + 1)) = none → rightT l = false := fun hn0 => by simp [rightT, shaped_none hn0]
    cases hsc : S.length - c with
    | zero =>
     have hf := hfalse (hno fun m w hm => by omega)
     have hb0 : bv = 0 := by rw [hbv, hsc]; rfl
     have hwm0 : IntKind.i64.wrap (bv - 1) = -1 := by rw [hb0]; decide
     have hwm : IntKind.i64.wrap (-1) = -1 := by decide
     by_cases ha0 : a < 0
     ·simp [k0, k3, k4, k5, k6, hq0, hjl, hlti, hge, g1, g2, hnl, hal, hqlt, hqlti, hie, i1, i2, ha0, hf]
     ·have ham : ¬ a = -1 := by omega
      simp [k0, k3, k4, k5, k6, hq0, hjl, hlti, hge, g1, g2, hnl, hal, hqlt, hqlti, hie, i1, i2, ha0, hf, hbl3, hbl2, hbl, hbg2, hwm0, ham]
    | succ m =>
     obtain ⟨w, hw⟩ : ∃ w, S[m]? = some w := ⟨_, List.getElem?_eq_getElem (by omega)⟩
     have hb1 : bOf S (m + 1) = w.1 + 1 := by simp [bOf, hw]
     obtain ⟨hb2, hd2, hb3⟩ := hO.beg m w hw
     have hwj : w.1 < j := by have := hO.lt w (List.mem_of_getElem? hw); rwa [hlj] at this
     have hbe : bv = (w.1 : Int) + 1 := by rw [hbv, hsc, hb1]; omega
     have hde : dv = (deepS (S.drop (m + 1)) : Nat) := by rw [hdv, hsc]
     have hwmb : IntKind.i64.wrap (bv - 1) = (w.1 : Int) := by rw [hbe, wrap_i64 (by omega) (by omega)]; omega
     have hwm : IntKind.i64.wrap ((w.1 : Int) + 1 - 1) = (w.1 : Int) := by rw [wrap_i64 (by omega) (by omega)]; omega
     have hwm2 : IntKind.i64.wrap ((w.1 : Int) + 1 - 1) = (w.1 : Int) := by rw [wrap_i64 (by omega) (by omega)]; omega
     have hwm3 : IntKind.i64.wrap (w.1 : Int) = (w.1 : Int) := wrap_i64 (by omega) (by omega)
     by_cases haw : a = (w.1 : Int)
     ·subst haw
      have hw0 : ¬ (w.1 : Int) < 0 := by omega
      have hS2w := hS2 w (List.mem_of_getElem? hw)
      have hbw : (bs.set j bv)[w.1]? = some (bOf S m : Int) := by rw [List.getElem?_set_ne (by omega), (hbd w.1 hwj).1, hb2]
      have hdw : (ds.set j dv)[w.1]? = some (w.2 : Int) := by rw [List.getElem?_set_ne (by omega), (hbd w.1 hwj).2, hd2]
      obtain ⟨hbw1, hbw2⟩ := List.getElem?_eq_some_iff.1 (intEls_get hbw)
      obtain ⟨hdw1, hdw2⟩ := List.getElem?_eq_some_iff.1 (intEls_get hdw)
      have hwl : w.1 < l.length := by omega
      have hwli : (w.1 : Int) < (l.length : Int) := by omega
      have hw2 : IntKind.i64.wrap ((w.2 : Int) + 1) = (w.2 : Int) + 1 := wrap_i64 (by omega) (by omega)
      have hdrop : S.drop m = w :: S.drop (m + 1) := by
       obtain ⟨h1, rfl⟩ := List.getElem?_eq_some_iff.1 hw
       exact List.drop_eq_getElem_cons h1
      have hdeep : deepS (S.drop m) = max (deepS (S.drop (m + 1))) (w.2 + 1) := by rw [hdrop]; exact deepS_cons _ _
      have hmat2 : n.args.drop (n.args.length - (c + 1)) = atsS (S.drop (S.length - (c + 1))) := by
       rw [show n.args.length - (c + 1) = q by omega, show S.length - (c + 1) = m by omega, had, hdrop, hq1, hmat, hsc]
       rfl
      have hmm : S.length - (c + 1) = m := by omega
      have hkq : ((n.args.length : Int) - 1 - ((c + 1 : Nat) : Int)) = (q : Int) - 1 := by omega
      by_cases hmx : (dv : Int) < (w.2 : Int) + 1
      ·have hmx2 : dv ≤ (w.2 : Int) := by omega
       have hde2 : deepS (S.drop m) = w.2 + 1 := by omega
       simp [k0, k3, k4, k5, k6, hq0, hjl, hlti, hge, g1, g2, hnl, hal, hqlt, hqlti, hie, i1, i2, hw0, hbl3, hdl3, hbl2, hbl, hdl2, hdl, hbg2, hdg2, hwmb, hwl, hwli, hbw2, hdw2, hw2, hmx, hmx2, intEls_set, hwq]
       refine nx_intro (n.args.length - (c + 1)) (by omega) ⟨c + 1, rfl, by omega, by omega, by simp [k0], by simp [k3], by simp [k4], by simp [k5], ?_, hmat2, ?_⟩
       ·rw [hkq]; simp
       ·rw [hmm, hde2]; simp
      ·have hmx2 : ¬ dv ≤ (w.2 : Int) := by omega
       have hde2 : ((deepS (S.drop m) : Nat) : Int) = dv := by omega
       simp [k0, k3, k4, k5, k6, hq0, hjl, hlti, hge, g1, g2, hnl, hal, hqlt, hqlti, hie, i1, i2, hw0, hbl3, hdl3, hbl2, hbl, hdl2, hdl, hbg2, hdg2, hwmb, hwl, hwli, hbw2, hdw2, hw2, hmx, hmx2, intEls_set, hwq]
       refine nx_intro (n.args.length - (c + 1)) (by omega) ⟨c + 1, rfl, by omega, by omega, by simp [k0], by simp [k3], by simp [k4], by simp [k5], ?_, hmat2, ?_⟩
       ·rw [hkq]; simp
       ·rw [hmm, hde2]
     ·have hf := hfalse (hno fun m' w' hm hw' => by
       have : m = m' := by omega
       subst this
       rw [hw] at hw'
       cases hw'
       exact haw)
      by_cases ha0 : a < 0
      ·simp [k0, k3, k4, k5, k6, hq0, hjl, hlti, hge, g1, g2, hnl, hal, hqlt, hqlti, hie, i1, i2, ha0, hf]
      ·simp [k0, k3, k4, k5, k6, hq0, hjl, hlti, hge, g1, g2, hnl, hal, hqlt, hqlti, hie, i1, i2, ha0, hf, hbl3, hbl2, hbl, hbg2, hwmb, haw]
   ·have hce : c = n.args.length := by omega
    subst hce
    rw [hbv, hdv]
    rw [Nat.sub_self, List.drop_zero] at hmat
    have hnew : shapeS ownB (l.take (j + 1)) = some (S.take (S.length - n.args.length) ++ [(j, deepS (S.drop (S.length - n.args.length)))]) := by
     rw [hsnoc]; unfold stepS; rw [if_pos ⟨hcS, hmat.symm⟩]
    have hk6 : ((n.args.length : Int) - 1 - n.args.length) = -1 := by omega
    rw [hk6] at k6
    have hon := onStack_step (n := n) hO (j := S.length - n.args.length) (by omega)
    rw [hlj] at hon
    have htk : l.take j ++ [n] = l.take (j + 1) := by rw [List.take_add_one, hn]; rfl
    rw [htk] at hon
    have hdl0 : deepS (S.drop (S.length - n.args.length)) ≤ j + 1 := deepS_le fun w hw => hS2 w (List.mem_of_mem_drop hw)
    simp [k5, k6, hw]
    refine nx_intro (l.length - (j + 1)) (by omega) ⟨j + 1, _, _, _, _, _, rfl, by omega, by simp [k0], by simp [k3], by simp [k4], by simp, hnew, hon, ?_, ?_, ?_, ?_, rfl⟩
    ·simp [hbl]
    ·simp [hdl]
    ·intro i hi
     by_cases hij : i = j
     ·subst hij
      simp [hbl, hdl, hjl]
     ·rw [List.getElem?_set_ne (by omega), List.getElem?_set_ne (by omega)]
      simp only [if_neg hij]
      exact hbd i (by omega)
    ·intro w hw
     rcases List.mem_append.1 hw with hw | hw
     ·have := hS2 w (List.mem_of_mem_take hw); omega
     ·simp at hw; subst hw; exact hdl0
 ·have hjl2 : j = l.length := by omega
  subst hjl2
  rw [List.take_length] at hsh hO
  obtain ⟨q, hq⟩ : ∃ q, q = l.length - 1 := ⟨_, rfl⟩
  have hwl : IntKind.i64.wrap ((l.length : Int) - 1) = (q : Int) := by rw [wrap_i64 (by omega) (by omega)]; omega
  obtain ⟨n, hn⟩ : ∃ n, l[q]? = some n := ⟨_, List.getElem?_eq_getElem (by omega)⟩
  have hge := ndEls_get hn
  obtain ⟨g1, g2⟩ := List.getElem?_eq_some_iff.1 hge
  have hgd : l[q]?.getD nd0 = n := by simp [hn]
  have hgd2 : l.getD (l.length - 1) nd0 = n := by rw [← hq]; simp [List.getD, hn]
  have hlt1 : q < l.length := by omega
  have hlt1' : (q : Int) < (l.length : Int) := by omega
  obtain ⟨hb1, hd1⟩ := hbd q (by omega)
  obtain ⟨b1, b2⟩ := List.getElem?_eq_some_iff.1 (intEls_get hb1)
  obtain ⟨d1, d2⟩ := List.getElem?_eq_some_iff.1 (intEls_get hd1)
  have hbl2 := intEls_len bs
  have hdl2 := intEls_len ds
  have hSne : S ≠ [] := by
   rintro rfl
   have := hO.top
   simp [bOf] at this
   exact hl0 this.symm
  obtain ⟨sl, hsl⟩ : ∃ m, S.length = m + 1 := ⟨S.length - 1, by have := List.length_pos_iff.2 hSne; omega⟩
  obtain ⟨w, hw⟩ : ∃ w, S[sl]? = some w := ⟨_, List.getElem?_eq_getElem (by omega)⟩
  have htop := hO.top
  rw [hsl] at htop
  simp only [bOf, hw] at htop
  have hwq : w.1 = q := by omega
  obtain ⟨hbw, hdw, _⟩ := hO.beg sl w hw
  rw [hwq] at hbw hdw
  have hsh1 := shaped_some hsh
  have hlet := rletter_ok (G := G) n
  rw [ndA_eq] at hlet
  have hB0 : (B q = 0) ↔ S.length = 1 := by
   rw [hbw]
   cases sl with
   | zero => simp [bOf, hsl]
   | succ m =>
    obtain ⟨w', hw'⟩ : ∃ w, S[m]? = some w := ⟨_, List.getElem?_eq_getElem (by omega)⟩
    simp [bOf, hw', hsl]
  have hright : rightT l = (decide (B q = 0) && decide (D q ≤ 12) && decide (letterS n = 83) && decide (checkS nodE l l = 0)) := by
   unfold rightT
   rw [hsh1, hgd2]
   by_cases h1 : S.length = 1
   ·have hs0 : sl = 0 := by omega
    subst hs0
    have : S.getD 0 (0, 0) = w := by simp [List.getD, hw]
    rw [this, ← hdw]
    have hB := hB0.2 h1
    simp [h0, hlen, h1, hB]
   ·have hB : ¬ B q = 0 := fun e => h1 (hB0.1 e)
    simp [h1, hB]
  rw [hright]
  have hchk := rcheck_tree (G := G) l (by omega) (shaped_inL h hsh)
  simp [f0, f3, f4, f5, hnl, hwl]
  by_cases hBq : B q = 0
  ·rw [hBq] at b2
   by_cases hD : D q ≤ 12
   ·have hDi : (D q : Int) ≤ 12 := by omega
    simp [f0, f3, f4, hbl, hdl, hbl2, hdl2, hlt1, hlt1', b2, d2, hBq, hD, hDi, hnl, hge, g1, g2]
    refine ac_same hlet (by simp) ?_
    rintro r rfl
    by_cases h83 : letterS n = 83
    ·simp [h83, f0]
     refine ac_same hchk (by simp) ?_
     rintro r rfl
     simp [hBq, hD, h83]
    ·have h83' : ¬ ((letterS n).toNat : Int) = 83 := fun e => h83 (UInt8.toNat_inj.1 (show (letterS n).toNat = 83 by omega))
     simp [h83', h83]
   ·have hDi : ¬ (D q : Int) ≤ 12 := by omega
    simp [f0, f3, f4, hbl, hdl, hbl2, hdl2, hlt1, hlt1', b2, d2, hBq, hD, hDi]
  ·have hBi : ¬ (B q : Int) = 0 := by omega
   simp [f0, f3, f4, hbl, hdl, hbl2, hdl2, hlt1, hlt1', b2, d2, hBq, hBi]
end Go.Proofs.YtalfhchbmhoagaaGreatDoor
end
section
namespace Go.Proofs.YtalfhchbmhoagaaGreatDoor
open Go.Abs
def loudXt : List Nat := [23, 39, 41, 42, 62, 63, 72, 78, 79, 97, 98, 111, 118, 144, 148, 151, 166, 185, 186, 198, 1000012, 2000165]
abbrev n_isobarref23_CopyX : Nat := 12
def a_isobarref23_CopyX : AFunc := ⟨26, [(2, none)], (.seq (.ops [⟨none, (some 2), (.mv (.c .nils))⟩]) (.seq (.ops [⟨none, (some 3), (.mv (.c .nils))⟩]) (.seq (.seq (.ops [⟨none, (some 4), (.mv (.c (.int .i64 0)))⟩]) (.block 0 (.loop (.seq (.seq (.ops [⟨none, (some 6), (.mv (.s 4))⟩, ⟨none, (some 7), (.mv (.s 0))⟩, ⟨none, (some 8), (.len (.s 7))⟩, ⟨none, (some 9), (.bin .lss (.s 6) (.s 8))⟩]) (.cond (.s 9) .skip (.exit 0))) (.seq (.block 1 (.seq (.ops [⟨none, (some 12), (.mv (.s 0))⟩, ⟨none, (some 13), (.mv (.s 4))⟩, ⟨none, (some 14), (.iaddr 4 (.s 12) (.s 13))⟩, ⟨none, (some 15), (.load true 4 (.s 14))⟩, ⟨none, (some 5), (.alloc 44 [(.int .i64 0), (.str []), (.int .i64 0), .nils])⟩, ⟨none, none, (.store 4 (.s 5) (.s 15))⟩]) (.seq (.ops [⟨none, (some 16), (.mkrow 3 1 [(.int .i64 0)] 0 [])⟩, ⟨none, (some 17), (.faddr 3 (.s 5))⟩, ⟨none, (some 18), (.load false 1 (.s 17))⟩, ⟨none, (some 19), (.app 3 1 8 (.s 16) (.s 18))⟩, ⟨none, (some 20), (.faddr 3 (.s 5))⟩, ⟨none, none, (.store 1 (.s 20) (.s 19))⟩]) (.ops [⟨none, (some 21), (.mv (.s 3))⟩, ⟨none, (some 22), (.load true 4 (.s 5))⟩, ⟨none, (some 23), (.mkrow 44 4 [(.int .i64 0), (.str []), (.int .i64 0), .nils] 1 [(0, (.s 22))])⟩, ⟨none, (some 24), (.app 44 4 56 (.s 21) (.s 23))⟩, ⟨none, (some 3), (.mv (.s 24))⟩])))) (.ops [⟨none, (some 10), (.mv (.s 4))⟩, ⟨none, (some 11), (.bin .add (.s 10) (.c (.int .i64 1)))⟩, ⟨none, (some 4), (.mv (.s 11))⟩])))))) (.seq (.ops [⟨none, (some 25), (.mv (.s 3))⟩, ⟨none, (some 2), (.mv (.s 25))⟩]) .ret))))⟩
theorem c_isobarref23_CopyX : compFn Tryz.prog loudXt 12 = some a_isobarref23_CopyX := by kernel_rfl
end Go.Proofs.YtalfhchbmhoagaaGreatDoor
end
section
set_option maxHeartbeats 4000000
set_option maxRecDepth 20000
namespace Go.Proofs.YtalfhchbmhoagaaGreatDoor
open Go.Abs Go.Tgt Go.Trail Go.Tok
variable {G : Globs}
theorem rPrint23_ok [GDec] (l : List Nd) (h : TOk l) : PCalls Tryz.prog n_isobarref23_Print [.lst (ndEls l)] (fun r => r = printAV (printT l)) := by
 refine pcalls_of_awp hmix c_isobarref23_Print rfl ?_
 have hnl := ndEls_len l
 have hlen := h.len
 simp [a_isobarref23_Print]
 refine ac_same (rRight23_ok l h) (by simp) ?_
 rintro r rfl
 cases hr : rightT l with
 | false => simp [printT, hr, printAV]
 | true =>
  obtain ⟨B, D, w, h0, hL, _⟩ := rightT_link hr
  have hpos : 0 < l.length := List.length_pos_iff.2 h0
  obtain ⟨q, hq⟩ : ∃ q, q = l.length - 1 := ⟨_, rfl⟩
  have hwl : IntKind.i64.wrap ((l.length : Int) - 1) = (q : Int) := by rw [wrap_i64 (by omega) (by omega)]; omega
  have htx := rtext23_ok (G := G) h hL q (by omega)
  have hsz := text_size h hL (i := q) (by omega)
  simp [hnl, hwl]
  refine ac_same htx (by simp) ?_
  rintro r rfl
  unfold printT
  rw [← hq, if_pos hr]
  obtain ⟨T, hT⟩ : ∃ T, T = textS l q := ⟨_, rfl⟩
  rw [← hT]
  by_cases hl : 1024 < T.length
  ·have hl' : (1024 : Int) < (T.length : Int) := by omega
   simp [hl, hl', printAV]
  ·have hl' : ¬ (1024 : Int) < (T.length : Int) := by omega
   simp [hl, hl', printAV]
def CopyEls (σ : Store) : List Nd → List (List AV) → Prop
 | [], [] => True
 | n :: l, c :: els => (∃ r, c = [.int .i64 n.kind, .str n.text, .int .i64 n.num, .row r n.args.length] ∧ σ[r]? = some (.row 3 1 (intEls n.args) false)) ∧ CopyEls σ l els
 | _, _ => False
theorem CopyEls.len {σ : Store} : ∀ {l : List Nd} {els : List (List AV)}, CopyEls σ l els → els.length = l.length
 | [], [], _ => rfl
 | n :: l, c :: els, h => by simp [h.2.len]
 | [], c :: els, h => h.elim
 | n :: l, [], h => h.elim
theorem CopyEls.app {σ : Store} {n : Nd} {r : Nat} (hr : σ[r]? = some (.row 3 1 (intEls n.args) false)) : ∀ {l : List Nd} {els : List (List AV)}, CopyEls σ l els → CopyEls σ (l ++ [n]) (els ++ [[.int .i64 n.kind, .str n.text, .int .i64 n.num, .row r n.args.length]])
 | [], [], _ => ⟨⟨r, rfl, hr⟩, trivial⟩
 | m :: l, c :: els, h => ⟨h.1, h.2.app hr⟩
 | [], c :: els, h => h.elim
 | n :: l, [], h => h.elim
theorem CopyEls.keep {σ σ' : Store} (hk : ∀ (r : Nat) (a : List (List AV)), σ[r]? = some (.row 3 1 a false) → σ'[r]? = some (.row 3 1 a false)) : ∀ {l : List Nd} {els : List (List AV)}, CopyEls σ l els → CopyEls σ' l els
 | [], [], _ => trivial
 | m :: l, c :: els, h => by
  obtain ⟨⟨r, h1, h2⟩, h3⟩ := h
  exact ⟨⟨r, h1, hk _ _ h2⟩, h3.keep hk⟩
 | [], c :: els, h => h.elim
 | n :: l, [], h => h.elim
theorem ints_fz (σ : Store) (m k : Nat) : ∀ l : List Int, ((intEls l).mapM fun (c : List AV) => c.mapM (fz σ m (k + 1))) = some (intEls l)
 | [] => rfl
 | a :: l => by
  have ih := ints_fz σ m k l
  have e : intEls (a :: l) = [.int .i64 a] :: intEls l := rfl
  rw [e, List.mapM_cons, ih]
  simp [fz, AV.pure]
theorem CopyEls.fz {σ : Store} : ∀ {l : List Nd} {els : List (List AV)}, CopyEls σ l els → (els.mapM fun (c : List AV) => c.mapM (Abs.fz σ 0 2)) = some (ndEls l)
 | [], [], _ => rfl
 | n :: l, c :: els, h => by
  obtain ⟨⟨r, rfl, h2⟩, h3⟩ := h
  have ih := h3.fz
  have hi := ints_fz σ 0 0 n.args
  have hl := intEls_len n.args
  rw [List.mapM_cons, ih]
  simp [Abs.fz, AV.pure, h2, hl, hi, ndEls, ndC]
 | [], c :: els, h => h.elim
 | n :: l, [], h => h.elim
def CopyI (σ : Store) (V : AV) (l : List Nd) : Prop := (l = [] ∧ V = .nils) ∨ (l ≠ [] ∧ ∃ rid els, V = .row rid l.length ∧ σ[rid]? = some (.row 44 4 els false) ∧ CopyEls σ l els)
theorem copyI_fin {σ : Store} {V : AV} {l : List Nd} (h : CopyI σ V l) : fin σ 0 V = some (.lst (ndEls l)) := by
 rcases h with ⟨rfl, rfl⟩ | ⟨h0, rid, els, rfl, h2, h3⟩
 ·rfl
 ·have h4 := h3.fz
  have h5 := h3.len
  simp [fin, finT, fin1, Abs.fz, h2, h5, h4]
theorem rcopy_ok (l : List Nd) (h : TOk l) : PCalls Tryz.prog n_isobarref23_CopyX [.lst (ndEls l)] (fun r => r = .lst (ndEls l)) := by
 refine pcalls_of_awp hmix c_isobarref23_CopyX rfl ?_
 have hnl := ndEls_len l
 have hlen := h.len
 simp [a_isobarref23_CopyX]
 refine lp_startx (fun x f σ => ∃ j : Nat, x = l.length - j ∧ j ≤ l.length ∧ f 0 = .lst (ndEls l) ∧ f 4 = .int .i64 j ∧ CopyI σ (f 3) (l.take j)) l.length ⟨0, by simp, by simp, by simp, by simp, .inl ⟨rfl, by simp⟩⟩ ?_
 rintro x f σ ⟨j, hx, hj, f0, f4, hC⟩
 by_cases hjl : j < l.length
 ·obtain ⟨n, hn⟩ : ∃ n, l[j]? = some n := ⟨_, List.getElem?_eq_getElem hjl⟩
  have hge := ndEls_get hn
  obtain ⟨g1, g2⟩ := List.getElem?_eq_some_iff.1 hge
  have hlti : (j : Int) < (l.length : Int) := by omega
  have hw : IntKind.i64.wrap ((j : Int) + 1) = (j : Int) + 1 := wrap_i64 (by omega) (by omega)
  obtain ⟨t1, t2⟩ := h.each n (List.mem_of_getElem? hn)
  have hal := intEls_len n.args
  have hlj : (l.take j).length = j := by rw [List.length_take]; omega
  have htk : l.take (j + 1) = l.take j ++ [n] := by rw [List.take_add_one, hn]; rfl
  simp [f0, f4, hjl, hlti, hge, g1, g2, hnl, boxOp, splice]
  have hone : ∀ c ∈ intEls n.args, c.length = 1 := fun c hc => by
   obtain ⟨y, _, rfl⟩ := List.mem_map.1 hc
   rfl
  refine ap_row [] (intEls n.args) false (by simp) rfl (by decide) hone (fun h => by cases h) rfl (by simp [hal]; omega) (by simp [hal]; omega) ?_
  simp [hal, f0, f4, splice]
  obtain ⟨X, hX⟩ : ∃ X : List AV, X = [.int .i64 n.kind, .str n.text, .int .i64 n.num, .row (σ.length + 1) n.args.length] := ⟨_, rfl⟩
  obtain ⟨σb, eb⟩ : ∃ σb : Store, σb = σ ++ [Entry.var 44 X, Entry.row 3 1 (intEls n.args) false, Entry.row 44 4 [X] false] := ⟨_, rfl⟩
  rw [← hX, ← eb]
  have hb1 : σb[σ.length + 1]? = some (.row 3 1 (intEls n.args) false) := by rw [eb]; simp
  have hb2 : σb[σ.length + 2]? = some (.row 44 4 [X] false) := by rw [eb]; simp
  have hkb : ∀ (i : Nat) (e : Entry), σ[i]? = some e → σb[i]? = some e := fun i e he => by
   rw [eb, List.getElem?_append_left (List.getElem?_eq_some_iff.1 he).1]; exact he
  have hview : view σb (.row (σ.length + 2) 1) = some [X] := by simp [view, hb2]
  have hX4 : X.length = 4 := by rw [hX]; rfl
  rcases hC with ⟨hl0, h3⟩ | ⟨hl0, rid, els, h3, hrid, hels⟩
  ·rw [h3]
   refine ap_new false [X] hview (by decide) (by simp [hX4]) (fun h => by cases h) (by simp) (by simp) ?_
   simp [f4, hw]
   refine nx_intro (l.length - (j + 1)) (by omega) ⟨j + 1, rfl, by omega, by simp [f0], by simp, ?_⟩
   rw [htk, hl0]
   refine .inr ⟨by simp, σb.length, [X], by simp, by simp, ?_⟩
   rw [hX]
   exact CopyEls.app (σ := σb ++ _) (n := n) (r := σ.length + 1) (get_more hb1) (l := []) (els := []) trivial
  ·have hel := hels.len
   rw [h3]
   have hrlt := (List.getElem?_eq_some_iff.1 (hkb _ _ hrid)).1
   refine ap_row els [X] false (hkb _ _ hrid) hview (by decide) (by simp [hX4]) (fun h => by cases h) hel (by rw [hlj]; simp; omega) (by rw [hlj]; simp; omega) ?_
   simp [f4, hw]
   refine nx_intro (l.length - (j + 1)) (by omega) ⟨j + 1, rfl, by omega, by simp [f0], by simp, ?_⟩
   rw [htk]
   have hk2 : ∀ (r : Nat) (a : List (List AV)), σb[r]? = some (.row 3 1 a false) → (σb.set rid (.row 44 4 (els ++ [X]) false))[r]? = some (.row 3 1 a false) := fun r a hr => by
    have hne : rid ≠ r := fun e => by
     rw [← e, hkb _ _ hrid] at hr
     cases hr
    rw [List.getElem?_set_ne hne]; exact hr
   refine .inr ⟨by simp, rid, els ++ [X], by simp, by rw [List.getElem?_set_self hrlt], ?_⟩
   rw [hX]
   rw [hX] at hk2
   exact CopyEls.app (hk2 _ _ hb1) (hels.keep fun r a hr => hk2 r a (hkb _ _ hr))
 ·have hjl2 : j = l.length := by omega
  subst hjl2
  rw [List.take_length] at hC
  have hf := copyI_fin hC
  simp [f0, f4, hnl, hf]
end Go.Proofs.YtalfhchbmhoagaaGreatDoor
end
section
namespace Go.Proofs.YtalfhchbmhoagaaGreatDoor
open Go.ChangeShapes Go.WideShapes Go.ChangeAt Go.RowKit Go.ChangeMaps Go.Abs Go.Tgt
section
variable {H : Type} {enc : TypeId × Value → H} {w : World} {base : Nat} {spare : Nat → Bool} {held : Bool}
theorem nd_size : Tryz.prog.cellsOf 44 = 4 := by kernel_rfl
theorem str_size4 : Tryz.prog.cellsOf 9 = 1 := by kernel_rfl
theorem int_size4 : Tryz.prog.cellsOf 3 = 1 := by kernel_rfl
theorem i64_size4 : Tryz.prog.cellsOf 2 = 1 := by kernel_rfl
theorem ints_size4 : Tryz.prog.cellsOf 42 = 1 := by kernel_rfl
theorem int_bytes : Tryz.prog.bytesOf 3 = 8 := by kernel_rfl
theorem nd_bytes : Tryz.prog.bytesOf 44 = 56 := by kernel_rfl
def cellIT (w : World) (a : Addr) : Int := match w.cell? a with | some (.int _ n) => n | _ => 0
theorem spot_of {a : Addr} {n : Nat} {cs : List Value} (h : w.cells? base a (n + 1) = some cs) : a.spot = none := by
 unfold World.cells? at h
 split at h
 ·obtain ⟨y, _, hy⟩ : ∃ y, cs[0]? = some y ∧ w.cell? (a.add 0) = some y := by
   have hl := Lib.mapM_at h 0 0 (by simp)
   simpa using hl
  have e : a.add 0 = a := by simp [Addr.add]
  rw [e] at hy
  unfold World.cell? at hy
  split at hy
  ·split at hy
   ·cases hy
   ·rename_i hs; simpa using hs
  ·cases hy
 ·cases h
theorem spot_row {a : Addr} {len cap size : Nat} {elems rest : List (DataW H × List MemPlace)} {n : Nat} {e : TypeId} (hc : cap ≠ 0) (hlen : elems.length = len)
  (hel : ∀ i, i < len → (w.cells? base (a.add (i * (size + 1))) (size + 1)).bind (DataW.trod enc Tryz.prog w base spare held n e) = elems[i]?)
  (hrl : rest.length = cap - len) (hre : ∀ j, j < cap - len → (w.cells? base (a.add ((len + j) * (size + 1))) (size + 1)).bind (DataW.trod enc Tryz.prog w base spare held n e) = rest[j]?) : a.spot = none := by
 have key : ∃ cs, w.cells? base (a.add (0 * (size + 1))) (size + 1) = some cs := by
  rcases Nat.eq_zero_or_pos len with h0 | h0
  ·have h1 := hre 0 (by omega)
   obtain ⟨y, hy⟩ : ∃ y, rest[0]? = some y := ⟨_, List.getElem?_eq_getElem (by omega)⟩
   rw [hy, Option.bind_eq_some_iff, h0, Nat.zero_add] at h1
   obtain ⟨cs, hcs, _⟩ := h1
   exact ⟨cs, hcs⟩
  ·have h1 := hel 0 h0
   obtain ⟨y, hy⟩ : ∃ y, elems[0]? = some y := ⟨_, List.getElem?_eq_getElem (by omega)⟩
   rw [hy, Option.bind_eq_some_iff] at h1
   obtain ⟨cs, hcs, _⟩ := h1
   exact ⟨cs, hcs⟩
 obtain ⟨cs, hcs⟩ := key
 have e : a.add (0 * (size + 1)) = a := by simp [Addr.add]
 rw [e] at hcs
 exact spot_of hcs
set_option maxRecDepth 100000 in
theorem ints_cells (hsp : ∀ b, spare b = true) {n : Nat} {c : Value} {x : DataW H × List MemPlace} (hf : DataW.trod enc Tryz.prog w base spare held n 42 [c] = some x) :
  ∃ l : List Int, (l = [] ∨ ∃ q ∈ x.1.weights Tryz.prog 42, l.length * 8 ≤ q) ∧ IR (oldIm w) w (.lst (intEls l)) c := by
 rcases DataW.trod_slice Tryz.underlying42 hf with ⟨hcs, hx⟩ | ⟨a, len, cap, elems, rest, n, _, hcs, hx, hb, hl, hm, hlen, hel, hre, _⟩
 ·simp only [List.cons.injEq, and_true] at hcs
  subst hcs
  exact ⟨[], .inl rfl, .lnil none⟩
 ·simp only [List.cons.injEq, and_true] at hcs
  subst hcs
  obtain ⟨hrl, hre⟩ := hre (hsp _)
  rw [int_size4] at hel hre
  by_cases hcap : cap = 0
  ·have : len = 0 := by omega
   subst this; subst hcap
   exact ⟨[], .inl rfl, .lnil _⟩
  have hspot : a.spot = none := spot_row (size := 0) hcap hlen hel hrl hre
  obtain ⟨b, o, sp⟩ := a
  simp only at hspot
  subst hspot
  have each : ∀ i, i < len → w.cell? ⟨b, o + (i * 1 + 0), none⟩ = some (.int .i64 (cellIT w ⟨b, o + (i * 1 + 0), none⟩)) := by
   intro i hi
   have h1 := hel i hi
   obtain ⟨y, hy⟩ : ∃ y, elems[i]? = some y := ⟨_, List.getElem?_eq_getElem (by omega)⟩
   rw [hy, Option.bind_eq_some_iff] at h1
   obtain ⟨cs, hc1, hc2⟩ := h1
   obtain ⟨m, rfl, _, hw⟩ := DataW.trod_int Tryz.underlying3 hc2
   unfold World.cells? at hc1
   split at hc1
   ·obtain ⟨y0, g0, g0'⟩ : ∃ y0, some (Value.int .i64 m) = some y0 ∧ w.cell? ((Addr.add ⟨b, o, none⟩ (i * 1)).add 0) = some y0 := by
     have := Lib.mapM_at hc1 0 0 (by simp)
     simpa using this
    cases g0
    have aa : ∀ x y : Nat, Addr.add ⟨b, x, none⟩ y = ⟨b, x + y, none⟩ := fun x y => by unfold Addr.add; split <;> simp_all
    have a0 : (Addr.add ⟨b, o, none⟩ (i * 1)).add 0 = ⟨b, o + (i * 1 + 0), none⟩ := by rw [aa, aa, Nat.add_assoc]
    rw [a0] at g0'
    have c0 : cellIT w ⟨b, o + (i * 1 + 0), none⟩ = m := by unfold cellIT; rw [g0']
    rw [c0]
    exact g0'
   ·cases hc1
  refine ⟨(List.range len).map fun i => cellIT w ⟨b, o + (i * 1 + 0), none⟩, .inr ?_, ?_⟩
  ·have hdd : x.1 = .slice (elems.map (·.1)) (rest.map (·.1)) := congrArg Prod.fst hx
   rw [hdd]
   refine ⟨((elems.map (·.1)).length + (rest.map (·.1)).length) * Tryz.prog.bytesOf 3, ?_, ?_⟩
   ·simp only [DataW.weights, Tryz.underlying42]
    exact List.Mem.head _
   ·rw [int_bytes]; simp; omega
  ·have hnl : (intEls ((List.range len).map fun i => cellIT w ⟨b, o + (i * 1 + 0), none⟩)).length = len := by simp [intEls]
   have hold : ∀ i j v, w.cell? ⟨b, o + (i * 1 + j), none⟩ = some v → oldIm w ⟨b, o + (i * 1 + j), none⟩ := fun i j v h => by
    refine ⟨rfl, ?_⟩
    rcases Nat.lt_or_ge b w.heap.size with h' | h'
    ·exact h'
    ·simp [World.cell?, Array.getElem?_eq_none h'] at h
   have := IR.lst (Im := oldIm w) (w := w) (intEls ((List.range len).map fun i => cellIT w ⟨b, o + (i * 1 + 0), none⟩)) 1 b o cap
    (fun i j => .int .i64 (cellIT w ⟨b, o + (i * 1 + 0), none⟩)) (by rw [hnl]; exact hl) hm
    (fun c hc => by
     obtain ⟨y, _, rfl⟩ := List.mem_map.1 hc
     rfl)
    (fun c hc x hx => by
     obtain ⟨y, _, rfl⟩ := List.mem_map.1 hc
     simp at hx
     subst hx; rfl)
    (fun k j hk hj => by
     rw [hnl] at hk
     have e0 := each k hk
     match j, hj with
     | 0, _ => exact ⟨hold k 0 _ e0, e0⟩)
    (fun k j hk hj => by
     have hj2 : j < 1 := by simpa [intEls] using hj
     match j, hj2 with
     | 0, _ => simp [intEls]; exact .int _ _)
   rw [hnl] at this
   exact this
structure NdIn (n : Nd) : Prop where
 text : n.text.length ≤ 9223372036854775807
 n0 : -9223372036854775808 ≤ n.num
 n1 : n.num ≤ 9223372036854775807
set_option maxRecDepth 100000 in
theorem nd_cells (hsp : ∀ b, spare b = true) {n : Nat} {cs : List Value} {y : DataW H × List MemPlace} (hf : DataW.trod enc Tryz.prog w base spare held n 44 cs = some y) :
  ∃ (s : Nd) (c0 c1 c2 c3 : Value), NdIn s ∧ (s.args = [] ∨ ∃ q ∈ y.1.weights Tryz.prog 44, s.args.length * 8 ≤ q) ∧ cs = [c0, c1, c2, c3] ∧ IR (oldIm w) w (.int .i64 s.kind) c0 ∧ IR (oldIm w) w (.str s.text) c1 ∧ IR (oldIm w) w (.int .i64 s.num) c2 ∧ IR (oldIm w) w (.lst (intEls s.args)) c3 := by
 obtain ⟨xs, n, rfl, hx, hl, hxl, hall⟩ := DataW.trod_struct Tryz.underlying44 hf
 have hx2 : xs.length = 4 := hxl
 obtain ⟨x0, x1, x2, x3, rfl⟩ : ∃ x0 x1 x2 x3, xs = [x0, x1, x2, x3] := by
  match xs, hx2 with
  | [a, b, c, d], _ => exact ⟨a, b, c, d, rfl⟩
 have hl2 : cs.length = 4 := by rw [hl, nd_size]
 obtain ⟨c0, c1, c2, c3, rfl⟩ : ∃ c0 c1 c2 c3, cs = [c0, c1, c2, c3] := by
  match cs, hl2 with
  | [a, b, c, d], _ => exact ⟨a, b, c, d, rfl⟩
 have h0 : DataW.trod enc Tryz.prog w base spare held n 3 [c0] = some x0 := by simpa [int_size4, Value.cells] using hall 0 _ rfl
 have h1 : DataW.trod enc Tryz.prog w base spare held n 9 [c1] = some x1 := by simpa [str_size4, Value.cells] using hall 1 _ rfl
 have h2 : DataW.trod enc Tryz.prog w base spare held n 2 [c2] = some x2 := by simpa [i64_size4, Value.cells] using hall 2 _ rfl
 have h3 : DataW.trod enc Tryz.prog w base spare held n 42 [c3] = some x3 := by simpa [ints_size4, Value.cells] using hall 3 _ rfl
 obtain ⟨m0, e0, _, w0⟩ := DataW.trod_int Tryz.underlying3 h0
 obtain ⟨s1, e1, _, w1⟩ := DataW.trod_string Tryz.underlying9 h1
 obtain ⟨m2, e2, _, w2⟩ := DataW.trod_int Tryz.underlying2 h2
 simp only [List.cons.injEq, and_true] at e0 e1 e2
 subst e0 e1 e2
 obtain ⟨l, wl, hir⟩ := ints_cells hsp h3
 obtain ⟨a1, a2⟩ := wf_i64 w2
 refine ⟨⟨m0, s1.data.toList, m2, l⟩, _, _, _, _, ⟨by rw [Array.length_toList]; exact w1, a1, a2⟩, ?_, rfl, .int _ _, ir_bytes4 _, .int _ _, hir⟩
 rcases wl with h | ⟨q, hq, hq2⟩
 ·exact .inl h
 ·refine .inr ⟨q, ?_, hq2⟩
  have hdd : y.1 = .agg ([x0, x1, x2, x3].map (·.1)) := congrArg Prod.fst hx
  rw [hdd]
  simp only [DataW.weights, Tryz.underlying44]
  exact DataW.weights_mem_each (j := 3) rfl rfl q hq
theorem ndC_one (s : Nd) : ∀ x ∈ ndC s, x.one = true := by simp [ndC, AV.one]
theorem weightsAll_mem {P : Program} {e : TypeId} {d : DataW H} {q : Nat} : ∀ {ds : List (DataW H)}, d ∈ ds → q ∈ d.weights P e → q ∈ DataW.weightsAll P e ds
 | d0 :: ds, h, hq => by
  simp only [DataW.weightsAll, List.mem_append]
  rcases List.mem_cons.1 h with rfl | h
  ·exact .inl hq
  ·exact .inr (weightsAll_mem h hq)
structure NdsIn (l : List Nd) (W : List Nat) : Prop where
 each : ∀ n ∈ l, NdIn n
 args : ∀ n ∈ l, n.args = [] ∨ ∃ q ∈ W, n.args.length * 8 ≤ q
 len : l = [] ∨ ∃ q ∈ W, l.length * 56 ≤ q
set_option maxRecDepth 100000 in
theorem open_nodes (hsp : ∀ b, spare b = true) {r : Reach} {b0 : Nat} {v : Value} {d : DataW H} {ps : List MemPlace} (hval : Value.okWide Tryz.prog w r b0 23 v) (hd : DataW.Trod enc Tryz.prog w base spare held 23 v d ps) :
  ∃ l : List Nd, NdsIn l (d.weights Tryz.prog 23) ∧ IR (oldIm w) w (.lst (ndEls l)) v := by
 obtain ⟨fuel, hf⟩ := hd
 obtain ⟨a0, len, cap, rfl⟩ := okWide_slice Tryz.underlying23 hval
 rcases DataW.trod_slice Tryz.underlying23 hf with ⟨hcs, hx⟩ | ⟨a, len', cap', elems, rest, n, _, hcs, hx, hb, hl, hm, hlen, hel, hre, _⟩
 ·simp [Value.cells] at hcs
  obtain ⟨rfl, rfl, rfl⟩ := hcs
  exact ⟨[], ⟨by simp, by simp, .inl rfl⟩, .lnil none⟩
 ·simp [Value.cells] at hcs
  obtain ⟨rfl, rfl, rfl⟩ := hcs
  obtain ⟨hrl, hre⟩ := hre (hsp _)
  rw [nd_size] at hel hre
  by_cases hcap : cap = 0
  ·have : len = 0 := by omega
   subst this; subst hcap
   exact ⟨[], ⟨by simp, by simp, .inl rfl⟩, .lnil _⟩
  have hspot : a.spot = none := spot_row (size := 3) hcap hlen hel hrl hre
  obtain ⟨b, o, sp⟩ := a
  simp only at hspot
  subst hspot
  have aa : ∀ x y : Nat, Addr.add ⟨b, x, none⟩ y = ⟨b, x + y, none⟩ := fun x y => by unfold Addr.add; split <;> simp_all
  have each : ∀ i, ∃ s : Nd, i < len → NdIn s ∧ (s.args = [] ∨ ∃ y, elems[i]? = some y ∧ ∃ q ∈ y.1.weights Tryz.prog 44, s.args.length * 8 ≤ q) ∧ ∀ j (h : j < (ndC s).length), ∃ c, w.cell? ⟨b, o + (i * 4 + j), none⟩ = some c ∧ IR (oldIm w) w (ndC s)[j] c := by
   intro i
   by_cases hi : i < len
   ·have h1 := hel i hi
    obtain ⟨y, hy⟩ : ∃ y, elems[i]? = some y := ⟨_, List.getElem?_eq_getElem (by omega)⟩
    rw [hy, Option.bind_eq_some_iff] at h1
    obtain ⟨cs, hc1, hc2⟩ := h1
    obtain ⟨s, c0, c1, c2, c3, hs, hq, rfl, i0, i1, i2, i3⟩ := nd_cells hsp hc2
    refine ⟨s, fun _ => ⟨hs, hq.imp id fun hq => ⟨y, hy, hq⟩, ?_⟩⟩
    unfold World.cells? at hc1
    split at hc1
    ·have at' : ∀ j, j < 4 → ∃ c, [c0, c1, c2, c3][j]? = some c ∧ w.cell? ⟨b, o + (i * 4 + j), none⟩ = some c := by
      intro j hj
      obtain ⟨c, e1, e2⟩ := Lib.mapM_at hc1 j j (by simp [hj])
      rw [aa, aa, Nat.add_assoc] at e2
      exact ⟨c, e1, e2⟩
     intro j hj
     have hj' : j < 4 := hj
     obtain ⟨c, e1, e2⟩ := at' j hj'
     refine ⟨c, e2, ?_⟩
     match j, hj' with
     | 0, _ => simp at e1; subst e1; exact i0
     | 1, _ => simp at e1; subst e1; exact i1
     | 2, _ => simp at e1; subst e1; exact i2
     | 3, _ => simp at e1; subst e1; exact i3
    ·cases hc1
   ·exact ⟨⟨0, [], 0, []⟩, fun h => absurd h hi⟩
  obtain ⟨f, hfs⟩ := Classical.axiomOfChoice each
  have hdd : d = .slice (elems.map (·.1)) (rest.map (·.1)) := congrArg Prod.fst hx
  refine ⟨(List.range len).map f, ⟨?_, ?_, .inr ?_⟩, ?_⟩
  ·intro s hs
   simp only [List.mem_map, List.mem_range] at hs
   obtain ⟨i, hi, rfl⟩ := hs
   exact (hfs i hi).1
  ·intro s hs
   simp only [List.mem_map, List.mem_range] at hs
   obtain ⟨i, hi, rfl⟩ := hs
   refine (hfs i hi).2.1.imp id fun ⟨y, hy, q, hq, hq2⟩ => ⟨q, ?_, hq2⟩
   rw [hdd]
   simp only [DataW.weights, Tryz.underlying23]
   refine List.mem_cons_of_mem _ (List.mem_append.2 (.inl (weightsAll_mem (d := y.1) ?_ hq)))
   exact List.mem_map.2 ⟨y, List.mem_of_getElem? hy, rfl⟩
  ·rw [hdd]
   refine ⟨((elems.map (·.1)).length + (rest.map (·.1)).length) * Tryz.prog.bytesOf 44, ?_, ?_⟩
   ·simp only [DataW.weights, Tryz.underlying23]
    exact List.Mem.head _
   ·rw [nd_bytes]; simp; omega
  ·have hnl : (((List.range len).map f).map ndC).length = len := by simp
   have hold : ∀ i j v, w.cell? ⟨b, o + (i * 4 + j), none⟩ = some v → oldIm w ⟨b, o + (i * 4 + j), none⟩ := fun i j v h => by
    refine ⟨rfl, ?_⟩
    rcases Nat.lt_or_ge b w.heap.size with h' | h'
    ·exact h'
    ·simp [World.cell?, Array.getElem?_eq_none h'] at h
   have := IR.lst (Im := oldIm w) (w := w) (((List.range len).map f).map ndC) 4 b o cap
    (fun i j => (w.cell? ⟨b, o + (i * 4 + j), none⟩).getD undef) (by rw [hnl]; exact hl) hm
    (fun c hc => by
     obtain ⟨s, _, rfl⟩ := List.mem_map.1 hc
     rfl)
    (fun c hc x hx => by
     obtain ⟨s, _, rfl⟩ := List.mem_map.1 hc
     exact ndC_one s x hx)
    (fun k j hk hj => by
     rw [hnl] at hk
     obtain ⟨c, hc, _⟩ := (hfs k hk).2.2 j hj
     exact ⟨hold k j _ hc, by rw [hc]; rfl⟩)
    (fun k j hk hj => by
     rw [hnl] at hk
     have e : (((List.range len).map f).map ndC)[k] = ndC (f k) := by simp
     have hj' : j < (ndC (f k)).length := by rw [← e]; exact hj
     obtain ⟨c, hc, hir⟩ := (hfs k hk).2.2 j hj'
     simp only [hc, Option.getD_some, e]
     exact hir)
   rw [hnl] at this
   exact this
end
end Go.Proofs.YtalfhchbmhoagaaGreatDoor
end
section
set_option maxHeartbeats 4000000
set_option maxRecDepth 20000
namespace Go.Proofs.YtalfhchbmhoagaaGreatDoor
open Go.Abs Go.Tgt Go.Trail Go.Tok
variable {G : Globs}
def bulkN (l : List Nd) : Nat := (l.map fun n => min n.text.length 10000 + n.args.length).sum
def grN (l : List Nd) : Bool := decide (5000 < l.length + bulkN l) || decide (900 < l.length)
structure FitsN (l : List Nd) : Prop where
 each : ∀ n ∈ l, NdIn n
 args : ∀ n ∈ l, n.args.length ≤ 17592186044416
 len : l.length ≤ 17592186044416
theorem fitsN_of {l : List Nd} {W : List Nat} (h : NdsIn l W) (hW : ∀ q ∈ W, q ≤ reachBytes) : FitsN l := by
 refine ⟨h.each, fun n hn => ?_, ?_⟩
 ·rcases h.args n hn with e | ⟨q, hq, hq2⟩
  ·rw [e]; simp
  ·have := hW q hq
   simp only [reachBytes] at this; omega
 ·rcases h.len with e | ⟨q, hq, hq2⟩
  ·rw [e]; simp
  ·have := hW q hq
   simp only [reachBytes] at this; omega
theorem bulkN_app (l m : List Nd) : bulkN (l ++ m) = bulkN l + bulkN m := by simp [bulkN]
theorem bulkN_take (l : List Nd) (i : Nat) : bulkN (l.take i) ≤ bulkN l := by
 have e := bulkN_app (l.take i) (l.drop i)
 rw [List.take_append_drop] at e
 omega
theorem bulkN_succ {l : List Nd} {i : Nat} {n : Nd} (h : l[i]? = some n) : bulkN (l.take (i + 1)) = bulkN (l.take i) + (min n.text.length 10000 + n.args.length) := by
 rw [List.take_add_one, h, bulkN_app]
 simp [bulkN]
theorem bulkN_mem : ∀ {l : List Nd} {n : Nd}, n ∈ l → min n.text.length 10000 + n.args.length ≤ bulkN l
 | x :: l, n, h => by
  have e : bulkN (x :: l) = min x.text.length 10000 + x.args.length + bulkN l := by simp [bulkN]
  rcases List.mem_cons.1 h with rfl | h
  ·omega
  ·have := bulkN_mem h; omega
theorem prn_short {v : Int} (h0 : -9223372036854775808 ≤ v) (h1 : v ≤ 9223372036854775807) : (Dec.prn false v).length ≤ 30 := by
 by_cases hm : v = -9223372036854775808
 ·subst hm
  exact of_decide_eq_true (by kernel_rfl)
 ·have := Dec.prn_len hm (by omega); omega
theorem wTxt_sum : ∀ (l : List Nd), (∀ n ∈ l, n.text.length ≤ 10000 ∧ NdIn n) → sumW wTxt l ≤ bulkN l + 60 * l.length
 | [], _ => by simp [sumW, bulkN]
 | n :: l, h => by
  have ih := wTxt_sum l fun m hm => h m (by simp [hm])
  obtain ⟨h1, h2⟩ := h n (by simp)
  have h3 := prn_short h2.n0 h2.n1
  have e1 : sumW wTxt (n :: l) = wTxt n + sumW wTxt l := by simp [sumW]
  have e2 : bulkN (n :: l) = min n.text.length 10000 + n.args.length + bulkN l := by simp [bulkN]
  have e3 : wTxt n = n.text.length + n.args.length + 30 + (Dec.prn false n.num).length := rfl
  rw [e1, e2, List.length_cons]
  omega
theorem tok_of {l : List Nd} (h : FitsN l) (hg : grN l = false) : TOk l := by
 simp only [grN, Bool.or_eq_false_iff, decide_eq_false_iff_not] at hg
 have hm : ∀ n ∈ l, n.text.length ≤ 5000 ∧ n.args.length ≤ 5000 := fun n hn => by
  have := bulkN_mem hn; omega
 refine ⟨by omega, hm, fun n hn => ⟨(h.each n hn).n0, (h.each n hn).n1⟩, ?_⟩
 have := wTxt_sum l fun n hn => ⟨by have := (hm n hn).1; omega, h.each n hn⟩
 omega
theorem great23_ok (l : List Nd) (h : FitsN l) : PCalls Tryz.prog n_isobarlaw23_great [.lst (ndEls l)] (fun r => r = .bool (grN l)) := by
 refine pcalls_of_awp hmix c_isobarlaw23_great rfl ?_
 have hnl := ndEls_len l
 have hlen := h.len
 simp [a_isobarlaw23_great, hnl]
 refine lp_startx (fun x f σ => ∃ (i : Nat) (v : Nat), x = l.length - i ∧ i ≤ l.length ∧ f 0 = .lst (ndEls l) ∧ f 3 = .int .i64 v ∧ f 4 = .int .i64 i ∧ v = l.length + bulkN (l.take i) ∧ v ≤ 40000000000000) l.length ⟨0, l.length, by simp, by simp, by simp, by simp, by simp, by simp [bulkN], by omega⟩ ?_
 rintro x f σ ⟨i, v, hx, hi, f0, f3, f4, hv, hvb⟩
 have hbt := bulkN_take l i
 by_cases hil : i < l.length
 ·have hili : (i : Int) < (l.length : Int) := by omega
  by_cases hv5 : v ≤ 5000
  ·have hv5i : (v : Int) ≤ 5000 := by omega
   obtain ⟨n, hn⟩ : ∃ n, l[i]? = some n := ⟨_, List.getElem?_eq_getElem hil⟩
   have hmem := List.mem_of_getElem? hn
   have hge := ndEls_get hn
   obtain ⟨g1, g2⟩ := List.getElem?_eq_some_iff.1 hge
   have hal := intEls_len n.args
   have hna := h.args n hmem
   have hbs := bulkN_succ hn
   have hwi : IntKind.i64.wrap ((i : Int) + 1) = (i : Int) + 1 := wrap_i64 (by omega) (by omega)
   by_cases ht : 10000 < n.text.length
   ·have hti : (10000 : Int) < (n.text.length : Int) := by omega
    have hw1 : IntKind.i64.wrap (10000 + (n.args.length : Int)) = 10000 + (n.args.length : Int) := wrap_i64 (by omega) (by omega)
    have hw2 : IntKind.i64.wrap ((v : Int) + (10000 + (n.args.length : Int))) = (v : Int) + (10000 + (n.args.length : Int)) := wrap_i64 (by omega) (by omega)
    simp [f0, f3, f4, hnl, hil, hili, hv5, hv5i, hge, g1, g2, hal, ht, hti, hw1, hw2, hwi]
    refine nx_intro (l.length - (i + 1)) (by omega) ⟨i + 1, v + (10000 + n.args.length), rfl, by omega, by simp [f0], by simp, by simp, ?_, by omega⟩
    rw [hbs]; omega
   ·have hti : ¬ (10000 : Int) < (n.text.length : Int) := by omega
    have hw1 : IntKind.i64.wrap ((n.text.length : Int) + (n.args.length : Int)) = (n.text.length : Int) + (n.args.length : Int) := wrap_i64 (by omega) (by omega)
    have hw2 : IntKind.i64.wrap ((v : Int) + ((n.text.length : Int) + (n.args.length : Int))) = (v : Int) + ((n.text.length : Int) + (n.args.length : Int)) := wrap_i64 (by omega) (by omega)
    simp [f0, f3, f4, hnl, hil, hili, hv5, hv5i, hge, g1, g2, hal, ht, hti, hw1, hw2, hwi]
    refine nx_intro (l.length - (i + 1)) (by omega) ⟨i + 1, v + (n.text.length + n.args.length), rfl, by omega, by simp [f0], by simp, by simp, ?_, by omega⟩
    rw [hbs]; omega
  ·have hv5i : ¬ (v : Int) ≤ 5000 := by omega
   have hv6 : 5000 < v := by omega
   have hv6i : (5000 : Int) < (v : Int) := by omega
   have hgr : grN l = true := by simp [grN]; omega
   simp [f0, f3, f4, hnl, hil, hili, hv5, hv5i, hv6, hv6i, hgr]
 ·have hie : i = l.length := by omega
  subst hie
  rw [List.take_length] at hv
  have hili : ¬ (l.length : Int) < (l.length : Int) := by omega
  by_cases hv5 : v ≤ 5000
  ·have hv6 : ¬ 5000 < v := by omega
   have hv6i : ¬ (5000 : Int) < (v : Int) := by omega
   by_cases h9 : 900 < l.length
   ·have h9i : (900 : Int) < (l.length : Int) := by omega
    have hgr : grN l = true := by simp [grN, h9]
    simp [f0, f3, f4, hnl, hv6, hv6i, h9, h9i, hgr]
   ·have h9i : ¬ (900 : Int) < (l.length : Int) := by omega
    have hgr : grN l = false := by simp [grN]; omega
    simp [f0, f3, f4, hnl, hv6, hv6i, h9, h9i, hgr]
  ·have hv6 : 5000 < v := by omega
   have hv6i : (5000 : Int) < (v : Int) := by omega
   have hgr : grN l = true := by simp [grN]; omega
   simp [f0, f3, f4, hnl, hv6, hv6i, hgr]
theorem tprints_law [GDec] [GSpcT] [GFam] (l : List Nd) (h : FitsN l) (call : List UInt8) : PCalls Tryz.prog n_isobarlaw23_TargetPrints [.lst (ndEls l), .str call] (fun r => r = .bool true) := by
 refine pcalls_of_awp hmix c_isobarlaw23_TargetPrints rfl ?_
 simp [a_isobarlaw23_TargetPrints]
 refine ac_same talive23_ok (by simp) ?_
 rintro r rfl
 simp
 refine ac_same (great23_ok l h) (by simp) ?_
 rintro r rfl
 cases hg : grN l with
 | true => simp
 | false =>
  have hT := tok_of h hg
  simp
  refine ac_same (rcopy_ok l hT) (by simp) ?_
  rintro r rfl
  simp
  refine ac_same (tPrint23_ok l hT) (by simp) ?_
  rintro r rfl
  simp [printAV]
  refine ac_same (rPrint23_ok l hT) (by simp) ?_
  rintro r rfl
  simp [printAV]
  refine ac_same (tKinds_ok call) (by simp) ?_
  rintro r rfl
  obtain ⟨k, b, hk⟩ : ∃ k b, kindsAV (kindsS call) = .tup [.str k, .bool b] := by
   cases kindsS call with
   | none => exact ⟨_, _, rfl⟩
   | some k => exact ⟨_, _, rfl⟩
  have hrk := rKinds_ok (G := G) call
  rw [hk] at hrk ⊢
  simp
  refine ac_same hrk (by simp) ?_
  rintro r rfl
  simp
  refine ac_same (tRight23_ok l hT) (by simp) ?_
  rintro r rfl
  simp
  refine ac_same (rRight23_ok l hT) (by simp) ?_
  rintro r rfl
  simp
  refine ac_same (rtSame_ok l (by have := hT.len; omega) (fun n hn => (hT.text n hn).2)) (by simp) ?_
  rintro r rfl
  simp
end Go.Proofs.YtalfhchbmhoagaaGreatDoor
end
