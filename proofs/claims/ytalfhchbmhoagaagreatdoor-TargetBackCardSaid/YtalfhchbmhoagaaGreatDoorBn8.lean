/- strings.Join at a separator of one byte. A target's tokens: Join, Alike; the laws of what is joined, and of blanks. Targets: Right, text, Print (the p -/
import Derived.Test.YtalfhchbmhoagaaGreatDoorCode
import Derived.Test.YtalfhchbmhoagaaGreatDoorShelf
import Derived.Test.YtalfhchbmhoagaaGreatDoorAbs2
import Derived.ProofKit
import Derived.Test.YtalfhchbmhoagaaGreatDoorProg
import Derived.KernelRfl
import Derived.SizedLaws
import Derived.Test.YtalfhchbmhoagaaGreatDoorBn1
import Derived.Test.YtalfhchbmhoagaaGreatDoorBn2
import Derived.Test.YtalfhchbmhoagaaGreatDoorBn3
import Derived.Test.YtalfhchbmhoagaaGreatDoorBn4
import Derived.Test.YtalfhchbmhoagaaGreatDoorBn5
import Derived.Test.YtalfhchbmhoagaaGreatDoorBn6
import Derived.Test.YtalfhchbmhoagaaGreatDoorBn7
set_option linter.unusedSimpArgs false
set_option linter.unusedVariables false
set_option linter.constructorNameAsVariable false
section
namespace Go.Joi
def sum (m : List (List UInt8)) : Nat := (m.map List.length).sum
theorem join_len (c : UInt8) (m : List (List UInt8)) : (Lib.join m [c]).length ≤ sum m + m.length := by
 cases m with
 | nil => simp [Lib.join_nil]
 | cons p r =>
  have ht : ∀ (r : List (List UInt8)), (Lib.joinTail [c] r).length = sum r + r.length := by
   intro r
   induction r with
   | nil => simp [Lib.joinTail, sum]
   | cons y r ih =>
    simp only [Lib.joinTail, List.map_cons, List.flatten_cons, List.length_append, List.length_cons, List.length_nil, sum, List.sum_cons] at ih ⊢
    omega
  rw [Lib.join_cons, List.length_append, ht]
  simp only [sum, List.map_cons, List.sum_cons, List.length_cons]
  omega
end Go.Joi
namespace Go.Abs
def txt1 (l : List (List UInt8)) : List (List AV) := l.map fun s => [.str s]
end Go.Abs
namespace Go.Proofs.YtalfhchbmhoagaaGreatDoor
open Go.Abs
variable {G : Globs}
theorem join1_ok (c : UInt8) (l : List (List UInt8)) (hl : (Lib.join l [c]).length ≤ 140737488355328) (hk : l.length ≤ 140737488355328) : PCalls Tryz.prog 48 [.lst (txt1 l), .str [c]] (fun r => r = .str (Lib.join l [c])) := by
 intro base κ Im w vs hs hv
 obtain ⟨v0, v1, rfl⟩ : ∃ v0 v1, vs = [v0, v1] := by
  match vs, hv.1 with
  | [a, b], _ => exact ⟨a, b, rfl⟩
 have e0 := (hv.2 0 (by simp) (by simp)).lst_inv
 have e1 := (hv.2 1 (by simp) (by simp)).str_inv
 simp only [List.getElem_cons_zero, List.getElem_cons_succ] at e0 e1
 subst e1
 have hel : (txt1 l).length = l.length := by simp [txt1]
 rcases e0 with ⟨⟨g, rfl⟩, h0⟩ | ⟨size, b, o, cap, vals, rfl, h1, h2, h3, h4, h5, h6⟩
 ·have hl0 : l = [] := by simpa [txt1] using h0
  subst hl0
  refine (Tryz.strings_Join_none g 0 ⟨#[c]⟩ w).mono ?_
  rintro e w' ⟨rfl, rfl⟩
  exact ⟨_, [], _, κ, Im, rfl, ⟨rfl, rfl⟩, hs, Grow.refl _ _ _ _, .im _ _ (.str [])⟩
 ·cases hln : l with
  | nil =>
   subst hln
   refine (Tryz.strings_Join_none _ cap ⟨#[c]⟩ w).mono ?_
   rintro e w' ⟨rfl, rfl⟩
   exact ⟨_, [], _, κ, Im, rfl, ⟨rfl, rfl⟩, hs, Grow.refl _ _ _ _, .im _ _ (.str [])⟩
  | cons p0 ps0 =>
   have hpos : 0 < l.length := by simp [hln]
   rw [← hln]
   have hsz : size = 1 := by
    have := h3 [.str p0] (by simp [txt1, hln])
    simpa using this.symm
   subst hsz
   rw [hel] at h1 h5
   have hval : ∀ k (hk : k < l.length), vals k 0 = .string ⟨(l[k]).toArray⟩ := fun k hk => by
    have := h6 k 0 (by simpa [txt1] using hk) (by simp [txt1])
    simp only [txt1, List.getElem_map, List.getElem_cons_zero] at this
    generalize vals k 0 = v at this ⊢
    cases this; rfl
   have hcell := fun k (hk : k < l.length) => h5 k 0 hk (by omega)
   have hbk : b < w.heap.size := (hs.imlt _ (hcell 0 hpos).1).1
   have hdat : (l.map fun s => (⟨s.toArray⟩ : ByteArray)).map (·.data.toList) = l := by simp [List.map_map, Function.comp_def]
   have hj : Lib.join ((l.map fun s => (⟨s.toArray⟩ : ByteArray)).map (·.data.toList)) (⟨#[c]⟩ : ByteArray).data.toList = Lib.join l [c] := by rw [hdat]
   have := Tryz.strings_Join b o cap (l.map fun s => (⟨s.toArray⟩ : ByteArray)) ⟨#[c]⟩ w (fun j x hx => by
     simp only [List.getElem?_map, Option.map_eq_some_iff] at hx
     obtain ⟨s, hs', rfl⟩ := hx
     obtain ⟨hj1, rfl⟩ := List.getElem?_eq_some_iff.1 hs'
     have := (hcell j hj1).2
     rw [hval j hj1] at this
     simpa using this) hbk (by simpa using hk) (by simpa using h1) (by rw [hj]; exact hl)
   rw [hj] at this
   simp only [List.length_map] at this
   rw [hel]
   refine this.mono ?_
   rintro e w' ⟨rfl, hb⟩
   obtain ⟨g1, g2⟩ := srel_grow hs hb
   exact ⟨_, [], _, κ, Im, rfl, ⟨rfl, rfl⟩, g1, g2, .im _ _ (.str (Lib.join l [c]))⟩
end Go.Proofs.YtalfhchbmhoagaaGreatDoor
end
section
set_option maxHeartbeats 4000000
namespace Go.Proofs.YtalfhchbmhoagaaGreatDoor
open Go.Abs Go.Glob Go.Tok Go.Joi
variable {G : Globs}
def txsOf (l : List TkA) : List (List UInt8) := l.map fun x => textOf x.1 x.2.1
def allRight (l : List TkA) : Bool := l.all fun x => rightB x.1 x.2.2 x.2.1
def jT (l : List TkA) : List UInt8 := Lib.join (txsOf l) [32]
def joinAV (l : List TkA) : AV := if allRight l then .tup [.str (jT l), .int .i64 0] else .tup [.str [], .int .i64 1]
theorem textOf_len (k : Int) (s : List UInt8) : (textOf k s).length ≤ s.length + 2 := by
 have := quote_len s
 unfold textOf
 split
 ·simp
 ·split
  ·simp
  ·split
   ·simp
   ·split
    ·simp; omega
    ·omega
theorem sum_txs (l : List TkA) (h : ∀ x ∈ l, x.2.1.length ≤ 10000) : Joi.sum (txsOf l) ≤ bulk l + 2 * l.length := by
 induction l with
 | nil => simp [Joi.sum, txsOf]
 | cons y l ih =>
  have := ih fun x hx => h x (by simp [hx])
  have hy := h y (by simp)
  have ht := textOf_len y.1 y.2.1
  have e : bulk (y :: l) = min y.2.1.length 10000 + bulk l := by simp [bulk]
  have e2 : Joi.sum (txsOf (y :: l)) = (textOf y.1 y.2.1).length + Joi.sum (txsOf l) := by simp [Joi.sum, txsOf]
  rw [e, e2, List.length_cons]
  omega
structure Small (l : List TkA) : Prop where
 len : l.length ≤ 5000
 text : ∀ x ∈ l, x.2.1.length ≤ 5000
 bulk : bulk l ≤ 5000
theorem Small.join {l : List TkA} (h : Small l) (i : Nat) : (jT (l.take i)).length ≤ 25000 := by
 have h1 := join_len 32 (txsOf (l.take i))
 have h2 := sum_txs (l.take i) fun x hx => by have := h.text x (List.mem_of_mem_take hx); omega
 have h3 := bulk_take l i
 have h4 := h.bulk
 have h5 := h.len
 have h6 : (txsOf (l.take i)).length = (l.take i).length := by simp [txsOf]
 have h7 : (l.take i).length ≤ l.length := by simp; omega
 unfold jT
 omega
theorem allRight_false {l : List TkA} {x : TkA} (hx : x ∈ l) (h : ¬ rightB x.1 x.2.2 x.2.1 = true) : allRight l = false := by
 rw [allRight, List.all_eq_false]
 exact ⟨x, hx, by simpa using h⟩
theorem txt1_get {l : List TkA} {i : Nat} (hi : i < l.length) : (txt1 (txsOf (l.take i) ++ List.replicate (l.length - i) []))[i]? = some [.str []] := by
 have hpn : (txsOf (l.take i)).length = i := by simp [txsOf, Nat.min_eq_left (Nat.le_of_lt hi)]
 rw [show l.length - i = (l.length - (i + 1)) + 1 by omega, List.replicate_succ]
 simp only [txt1, List.map_append, List.map_cons]
 rw [List.getElem?_append_right (by simp [hpn])]
 simp [hpn]
theorem txt1_set {l : List TkA} {i : Nat} (hi : i < l.length) (x : List UInt8) : (txt1 (txsOf (l.take i) ++ List.replicate (l.length - i) [])).set i [.str x] = txt1 (txsOf (l.take i) ++ x :: List.replicate (l.length - (i + 1)) []) := by
 have hpn : (txsOf (l.take i)).length = i := by simp [txsOf, Nat.min_eq_left (Nat.le_of_lt hi)]
 rw [show l.length - i = (l.length - (i + 1)) + 1 by omega, List.replicate_succ]
 simp only [txt1, List.map_append, List.map_cons]
 rw [List.set_append_right _ _ (by simp [hpn])]
 simp [hpn]
theorem tJoin_ok [GDec] (l : List TkA) (hs : Small l) : PCalls Tryz.prog n_tokens_Join [.lst (tkA l)] (fun r => r = joinAV l) := by
 refine pcalls_of_awp hmix c_tokens_Join rfl ?_
 simp [a_tokens_Join]
 have hle : (tkA l).length = l.length := by simp [tkA]
 have hl5 := hs.len
 simp [hle]
 refine ms_intro l.length rfl rfl (by omega) (by omega) (by omega) rfl ?_
 simp [hle]
 have hts : ∀ m : List (List UInt8), (txt1 m).length = m.length := fun m => by simp [txt1]
 have hpl : ∀ m : List TkA, (txsOf m).length = m.length := fun m => by simp [txsOf]
 refine lp_startx (fun x f σ => ∃ (i : Nat) (tl : Store), x = l.length - i ∧ i ≤ l.length ∧ allRight (l.take i) = true ∧ f 4 = .row 0 l.length ∧ f 10 = .lst (tkA l) ∧ f 11 = .int .i64 l.length ∧ f 12 = .int .i64 i ∧ σ = .row 9 1 (txt1 (txsOf (l.take i) ++ List.replicate (l.length - i) [])) false :: tl) l.length ?_ ?_
 ·exact ⟨0, [], by simp, by simp, by simp [allRight], by simp, by simp, by simp [hle], by simp, by simp [txsOf, txt1]⟩
 rintro x f σ ⟨i, tl, hx, hi, har, h4, h10, h11, h12, rfl⟩
 have hwi : IntKind.i64.wrap ((i : Int) + 1) = (i : Int) + 1 := wrap_i64 (by omega) (by omega)
 by_cases hlt : i < l.length
 ·obtain ⟨y, hy⟩ : ∃ y, l[i]? = some y := ⟨_, List.getElem?_eq_getElem hlt⟩
  have hse : (tkA l)[i]? = some [.int .i64 y.1, .str y.2.1, .int .i64 y.2.2] := by simp [tkA, hy]
  obtain ⟨hx1, hx2⟩ := List.getElem?_eq_some_iff.1 hse
  have hym := List.mem_of_getElem? hy
  have hyk := hs.text y hym
  have hlt' : (i : Int) < (l.length : Int) := by omega
  have hpn : (txsOf (l.take i)).length = i := by simp [txsOf, Nat.min_eq_left hi]
  have hpe : txsOf (l.take (i + 1)) = txsOf (l.take i) ++ [textOf y.1 y.2.1] := by simp [txsOf, List.take_add_one, hy]
  have hL := txt1_set hlt
  have hget := txt1_get hlt
  obtain ⟨hg1, hg2⟩ := List.getElem?_eq_some_iff.1 hget
  have hgl : (txt1 (txsOf (l.take i) ++ List.replicate (l.length - i) [])).length = l.length := by rw [hts]; simp [hpn]; omega
  simp [h10, h11, h12, hlt, hlt', hx1, hx2]
  refine ac_same (tright_ok y.1 y.2.2 y.2.1 (by omega)) (by simp [tokA]) ?_
  rintro r rfl
  by_cases hr : rightB y.1 y.2.2 y.2.1 = true
  ·have har' : allRight (l.take (i + 1)) = true := by
    have : allRight (l.take (i + 1)) = (allRight (l.take i) && rightB y.1 y.2.2 y.2.1) := by simp [allRight, List.take_add_one, hy]
    rw [this, har, hr]; rfl
   simp [hr, h4, h10, h11, h12]
   refine ac_same (ttext_ok y.1 y.2.2 y.2.1 (by omega)) (by simp [tokA]) ?_
   rintro r rfl
   simp [h4, h12, hwi, hgl, hlt, hg2, hget, hL]
   refine nx_intro (l.length - (i + 1)) (by omega) ⟨i + 1, tl ++ [.var 62 [.int .i64 y.1, .str y.2.1, .int .i64 y.2.2]], rfl, by omega, har', by simp [h4], by simp [h10], by simp [h11], by simp, ?_⟩
   rw [hpe]
   simp
  ·have := allRight_false hym hr
   simp [hr, joinAV, this]
 ·have hil : i = l.length := by omega
  subst hil
  have e : l.take l.length = l := List.take_of_length_le (Nat.le_refl _)
  have hjl := hs.join l.length
  rw [e] at har hjl
  have hlt' : ¬ (l.length : Int) < (l.length : Int) := by omega
  simp [h4, h11, h12, hlt, hlt', e]
  refine ac_lent (join1_ok 32 (txsOf l) (by unfold jT at hjl; omega) (by rw [hpl]; omega)) (.cons (.row 0 l.length 9 1 (txt1 (txsOf l)) false rfl (by rw [hts, hpl]) (.inr ⟨rfl, ?_⟩)) (.cons (.pure _ (by simp)) .nil)) ?_
  ·intro c hc x hx
   simp only [txt1, List.mem_map] at hc
   obtain ⟨y, _, rfl⟩ := hc
   simp at hx
   subst hx
   simp
  rintro r rfl
  refine ⟨by simp, ?_⟩
  simp [joinAV, har, jT]
end Go.Proofs.YtalfhchbmhoagaaGreatDoor
end
section
set_option maxHeartbeats 4000000
set_option maxRecDepth 20000
namespace Go.Proofs.YtalfhchbmhoagaaGreatDoor
open Go.Abs Go.Tgt Go.Trail Go.Tok
variable {G : Globs}
def wTxt (n : Nd) : Nat := n.text.length + n.args.length + 30 + (Dec.prn false n.num).length
structure TOk (l : List Nd) : Prop where
 len : l.length ≤ 1000
 each : ∀ n ∈ l, n.text.length ≤ 5000 ∧ n.args.length ≤ 5000
 num : ∀ n ∈ l, -9223372036854775808 ≤ n.num ∧ n.num ≤ 9223372036854775807
 sum : sumW wTxt l ≤ 1000000
theorem TOk.text {l : List Nd} (h : TOk l) : ∀ n ∈ l, n.text.length ≤ 1000000 ∧ n.args.length ≤ 1000000 := fun n hn => by
 have := h.each n hn; omega
theorem ownB_args {n : Nd} (h : ownB n = true) : n.args.length ≤ 16 := by
 unfold ownB at h
 split at h
 ·simp at h; simp [h.1.2]
 ·split at h
  ·simp at h; simp [h.1.2]
  ·split at h
   ·simp at h; simp [h.1.2]
   ·split at h
    ·simp at h; exact h.2
    ·cases h
theorem shapedB_some {l : List Nd} (h : shapedB l = true) : ∃ w, shapeS ownB l = some [w] ∧ w.2 ≤ 12 := by
 unfold shapedB at h
 split at h
 ·rename_i w hw
  exact ⟨w, hw, by simpa using h⟩
 ·cases h
theorem shaped_inL {l : List Nd} (h : TOk l) {S : List (Nat × Nat)} (hS : shapeS ownB l = some S) : ∀ n ∈ l, InL l n := by
 intro n hn
 obtain ⟨B, D, hL, _⟩ := linked_of ownB l S hS
 obtain ⟨i, hi⟩ := List.getElem?_of_mem hn
 have hlt := (List.getElem?_eq_some_iff.1 hi).1
 have h1 := ownB_args (hL.own i n hi)
 refine ⟨by omega, fun _ => (h.text n hn).1, fun a ha => ?_⟩
 obtain ⟨g1, g2, _⟩ := (hL.chain i n hi).mem a ha
 exact ⟨g1, by omega⟩
def rightT (l : List Nd) : Bool := !decide (l = []) && decide (l.length ≤ 1000) && shapedB l && decide (letterS (l.getD (l.length - 1) nd0) = 83) && decide (checkS nodE l l = 0)
theorem tRight23_ok [GDec] [GSpcT] [GFam] (l : List Nd) (h : TOk l) : PCalls Tryz.prog n_target_Right [.lst (ndEls l)] (fun r => r = .bool (rightT l)) := by
 refine pcalls_of_awp hmix c_target_Right rfl ?_
 have hnl := ndEls_len l
 have hlen := h.len
 by_cases h0 : l = []
 ·subst h0; simp [a_target_Right, rightT, ndEls]
 have hpos : 0 < l.length := List.length_pos_iff.2 h0
 have hl0 : ¬ l.length = 0 := by omega
 have hl0' : ¬ (l.length : Int) = 0 := by omega
 have hg : ¬ (1000 : Int) < (l.length : Int) := by omega
 have hg' : ¬ 1000 < l.length := by omega
 have hsh := tshaped_ok (G := G) l hlen h.text
 obtain ⟨q, hq⟩ : ∃ q, q = l.length - 1 := ⟨_, rfl⟩
 have hwl : IntKind.i64.wrap ((l.length : Int) - 1) = (q : Int) := by rw [wrap_i64 (by omega) (by omega)]; omega
 obtain ⟨n, hn⟩ : ∃ n, l[q]? = some n := ⟨_, List.getElem?_eq_getElem (by omega)⟩
 have hge := ndEls_get hn
 obtain ⟨g1, g2⟩ := List.getElem?_eq_some_iff.1 hge
 have hlet := tletter_ok (G := G) n
 rw [ndA_eq] at hlet
 have hgd : l[q]?.getD nd0 = n := by simp [hn]
 have hlt1 : q < l.length := by omega
 have hlt1' : (q : Int) < (l.length : Int) := by omega
 simp [a_target_Right, hnl, hl0, hl0', h0, hg, hg']
 refine ac_same hsh (by simp) ?_
 rintro r rfl
 cases hS : shapedB l with
 | false => simp [rightT, hS]
 | true =>
  obtain ⟨w, hw, _⟩ := shapedB_some hS
  have hchk := tcheck_ok (G := G) l (by omega) (shaped_inL h hw)
  simp [hnl, hwl, hge, g1, g2, hlt1, hlt1']
  refine ac_same hlet (by simp) ?_
  rintro r rfl
  by_cases h83 : letterS n = 83
  ·simp [h83]
   refine ac_same hchk (by simp) ?_
   rintro r rfl
   simp [rightT, hS, h0, ← hq, hgd, h83, hlen]
  ·have h83' : ¬ ((letterS n).toNat : Int) = 83 := fun e => h83 (UInt8.toNat_inj.1 (show (letterS n).toNat = 83 by omega))
   simp [h83', rightT, hS, h0, ← hq, hgd, h83]
theorem body_size (n : Nd) (as_ : List (List UInt8)) : (bodyS n as_).length + 1 ≤ wTxt n + (as_.map fun s => s.length + 1).sum := by
 unfold bodyS wTxt
 have hj : (Lib.join as_ [44]).length ≤ (as_.map fun s => s.length + 1).sum := by
  refine Nat.le_trans (Joi.join_len 44 as_) ?_
  clear n
  induction as_ with
  | nil => simp [Joi.sum]
  | cons s r ih =>
   have : Joi.sum (s :: r) = s.length + Joi.sum r := by simp [Joi.sum]
   simp only [List.map_cons, List.sum_cons, List.length_cons]
   omega
 have ht := textOf_len 3 n.text
 split
 ·omega
 ·split
  ·omega
  ·split
   ·simp; omega
   ·omega
theorem text_size {l : List Nd} (h : TOk l) {B D : Nat → Nat} (hL : Linked ownB l B D) {i : Nat} (hi : i < l.length) : (textS l i).length ≤ 1000000 := by
 have h1 := tree_size (d := ([] : List UInt8)) (body := bodyS) (fun s => s.length + 1) wTxt body_size hL i hi
 have h2 := sumW_mono wTxt l (show i + 1 ≤ l.length by omega)
 rw [List.take_length] at h2
 have h3 := h.sum
 have h4 : (textS l i).length = (treeS bodyS [] l i).length := rfl
 omega
theorem ttext23_ok [GDec] [GPow] {l : List Nd} (h : TOk l) {B D : Nat → Nat} (hL : Linked ownB l B D) (i : Nat) : i < l.length → PCalls Tryz.prog n_target_text [.lst (ndEls l), .int .i64 i] (fun r => r = .str (textS l i)) := by
 induction i using Nat.strongRecOn with
 | _ i ih =>
  intro hi
  refine pcalls_of_awp hmix c_target_text rfl ?_
  have hnl := ndEls_len l
  obtain ⟨n, hn⟩ : ∃ n, l[i]? = some n := ⟨_, List.getElem?_eq_getElem hi⟩
  have hmem := List.mem_of_getElem? hn
  have hge := ndEls_get hn
  obtain ⟨g1, g2⟩ := List.getElem?_eq_some_iff.1 hge
  have hli : (i : Int) < (l.length : Int) := by omega
  obtain ⟨e1, e2⟩ := h.each n hmem
  obtain ⟨b1, b2⟩ := h.num n hmem
  have how := hL.own i n hn
  have htree := treeS_eq (body := bodyS) (d := ([] : List UInt8)) hL.back hn
  have hts : textS l i = bodyS n (n.args.map fun a => textS l a.toNat) := htree
  rw [hts]
  have hback := hL.back i n hn
  have hpos : ∀ a ∈ n.args, 0 ≤ a := fun a ha => ((hL.chain i n hn).mem a ha).1
  clear htree hts
  obtain ⟨k, s, v, a⟩ := n
  simp only at hge g2 e1 e2 b1 b2 hback hpos
  by_cases h2 : k = 2
  ·subst h2
   simp [a_target_text, hnl, hi, hli, hge, g1, g2, boxOp, splice]
   refine ac_same (dPrint_ok false v b1 b2) (by simp) ?_
   rintro r rfl
   simp [bodyS]
  by_cases h3 : k = 3
  ·subst h3
   have hr : rightB 3 0 s = true := by
    simp [ownB] at how; exact how.2
   have hsm : Small [((3 : Int), s, (0 : Int))] := ⟨by simp, by simpa using e1, by simp [Go.Proofs.YtalfhchbmhoagaaGreatDoor.bulk]; omega⟩
   have hj := tJoin_ok (G := G) [((3 : Int), s, (0 : Int))] hsm
   have hjv : joinAV [((3 : Int), s, (0 : Int))] = .tup [.str (textOf 3 s), .int .i64 0] := by
    simp [joinAV, allRight, hr, jT, txsOf, Lib.join, Lib.joinTail]
   rw [hjv] at hj
   simp [tkA] at hj
   simp [a_target_text, hnl, hi, hli, hge, g1, g2, boxOp, splice, share1_int, share1_str, -share1]
   refine ac_same hj (by simp) ?_
   rintro r rfl
   simp [bodyS]
  by_cases h4 : k = 4
  ·subst h4
   have hal := intEls_len a
   obtain ⟨C, hC⟩ : ∃ C : Entry, C = .var 44 [.int .i64 4, .str s, .int .i64 v, .lst (intEls a)] := ⟨_, rfl⟩
   simp [a_target_text, hnl, hi, hli, hge, g1, g2, boxOp, splice, hal]
   refine lp_startx (fun x f σ => ∃ q : Nat, x = a.length - q ∧ q ≤ a.length ∧ f 0 = .lst (ndEls l) ∧ f 5 = .ptr 0 0 ∧ f 39 = .lst (intEls a) ∧ f 40 = .int .i64 a.length ∧ f 41 = .int .i64 q ∧ AccI 9 1 σ (f 8) (strEls ((a.take q).map fun b => textS l b.toNat)) ∧ σ[0]? = some (.var 44 [.int .i64 4, .str s, .int .i64 v, .lst (intEls a)])) a.length ⟨0, by simp, by simp, by simp, by simp, by simp, by simp, by simp, by simpa [strEls] using accI_nil, by simp⟩ ?_
   rintro x f σ ⟨q, hx, hq, f0, f5, f39, f40, f41, hacc, hv0⟩
   have htot : (a.map fun b => textS l b.toNat).length = a.length := by simp
   by_cases hqa : q < a.length
   ·obtain ⟨y, hy⟩ : ∃ y, a[q]? = some y := ⟨_, List.getElem?_eq_getElem hqa⟩
    have hym := List.mem_of_getElem? hy
    have hy0 := hpos y hym
    have hyi := hback y hym
    obtain ⟨m, rfl⟩ : ∃ m : Nat, y = (m : Int) := ⟨y.toNat, by omega⟩
    simp only [Int.toNat_natCast] at hyi
    have hie : (intEls a)[q]? = some [.int .i64 m] := by simp [intEls, hy]
    obtain ⟨i1, i2⟩ := List.getElem?_eq_some_iff.1 hie
    have hqai : (q : Int) < (a.length : Int) := by omega
    have hwq : IntKind.i64.wrap ((q : Int) + 1) = (q : Int) + 1 := wrap_i64 (by omega) (by omega)
    simp [f0, f39, f40, f41, hqa, hqai, hie, i1, i2, hal]
    refine ac_same (ih m hyi (by omega)) (by simp) ?_
    rintro r rfl
    simp [f41]
    refine ap_accI (bytes := 16) hacc [.str (textS l m)] (by decide) rfl ?_ ?_ ?_ fun V' σ2 ha2 hk2 hkeep hsame => ?_
    ·intro c hc b hb
     simp only [strEls, List.mem_append, List.mem_map, List.mem_singleton] at hc
     rcases hc with ⟨z, _, rfl⟩ | rfl
     ·simp at hb; subst hb; simp [AV.pure]
     ·simp at hb; subst hb; simp [AV.pure]
    ·simp [strEls]; omega
    ·simp [strEls]; omega
    have hv2 := hkeep 0 _ hv0 (varI_ne hacc hv0)
    simp [f41, hwq]
    refine nx_intro (a.length - (q + 1)) (by omega) ⟨q + 1, rfl, by omega, by simp [f0], by simp [f5], by simp [f39], by simp [f40], by simp, ?_, hv2⟩
    rw [List.take_add_one, hy]
    simpa [strEls] using ha2
   ·have hqe : q = a.length := by omega
    subst hqe
    rw [List.take_length] at hacc
    obtain ⟨hv1, hv2⟩ := List.getElem?_eq_some_iff.1 hv0
    have hsz : (Lib.join (a.map fun b => textS l b.toNat) [44]).length ≤ 140737488355328 := by
     have h1 := text_size h hL hi
     have h2 := treeS_eq (body := bodyS) (d := ([] : List UInt8)) hL.back hn
     have h3 : textS l i = bodyS ⟨4, s, v, a⟩ (a.map fun b => textS l b.toNat) := h2
     rw [h3] at h1
     simp [bodyS] at h1
     omega
    have hjo := join1_ok (G := G) 44 (a.map fun b => textS l b.toNat) hsz (by simp; omega)
    have hJl : (Lib.join (a.map fun b => textS l b.toNat) [44]).length ≤ 1000000 := by
     have h1 := text_size h hL hi
     have h2 := treeS_eq (body := bodyS) (d := ([] : List UInt8)) hL.back hn
     have h3 : textS l i = bodyS ⟨4, s, v, a⟩ (a.map fun b => textS l b.toNat) := h2
     rw [h3] at h1
     simp [bodyS] at h1
     omega
    obtain ⟨J, hJ⟩ : ∃ J, J = Lib.join (a.map fun b => textS l b.toNat) [44] := ⟨_, rfl⟩
    have hb : bodyS ⟨4, s, v, a⟩ (a.map fun b => textS l b.toNat) = s ++ (40 :: (J ++ [41])) := by simp [bodyS, hJ]
    rw [hb]
    rw [← hJ] at hjo hJl
    have q1 : s.length + (J.length + 1) ≤ 9223372036854775807 := by omega
    have q2 : s.length + 1 + J.length ≤ 9223372036854775806 := by omega
    have q3 : s.length + (J.length + 1) ≤ 9223372036854775806 := by omega
    have q4 : s.length + 1 + J.length ≤ 9223372036854775807 := by omega
    have hsl0 : s.length ≤ 9223372036854775806 := by omega
    simp [f5, f40, f41, hv0, hv1, hv2, hsl0]
    refine qc_lent hjo (.cons (hacc.coe true) (.cons (.pure _ (by simp [AV.pure])) .nil)) (by simp [rig]) ?_
    simp [q1, q2, q3, q4]
  ·simp [a_target_text, hnl, hi, hli, hge, g1, g2, boxOp, splice, h2, h3, h4, bodyS]
end Go.Proofs.YtalfhchbmhoagaaGreatDoor
end
section
set_option maxHeartbeats 2000000
namespace Go.Dec
end Go.Dec
namespace Go.Proofs.YtalfhchbmhoagaaGreatDoor
open Go.Abs Go.Dec
variable {G : Globs}
end Go.Proofs.YtalfhchbmhoagaaGreatDoor
end
section
set_option maxHeartbeats 4000000
set_option maxRecDepth 20000
namespace Go.Proofs.YtalfhchbmhoagaaGreatDoor
open Go.Abs Go.Tgt Go.Trail Go.Tok
variable {G : Globs}
def printT (l : List Nd) : List UInt8 × Nat := if rightT l = true then (if 1024 < (textS l (l.length - 1)).length then ([], 12) else (textS l (l.length - 1), 0)) else ([], 1)
theorem rightT_link {l : List Nd} (h : rightT l = true) : ∃ B D w, l ≠ [] ∧ Linked ownB l B D ∧ shapeS ownB l = some [w] ∧ w.2 ≤ 12 ∧ OnStack l B D [w] ∧ letterS (l.getD (l.length - 1) nd0) = 83 ∧ checkS nodE l l = 0 := by
 simp only [rightT, Bool.and_eq_true, decide_eq_true_eq, Bool.not_eq_true', decide_eq_false_iff_not] at h
 obtain ⟨w, hw, h12⟩ := shapedB_some h.1.1.2
 obtain ⟨B, D, hL, hS⟩ := linked_of ownB l [w] hw
 exact ⟨B, D, w, h.1.1.1.1, hL, hw, h12, hS, h.1.2, h.2⟩
def printAV (x : List UInt8 × Nat) : AV := .tup [.str x.1, .int .i64 x.2]
theorem tPrint23_ok [GDec] [GSpcT] [GFam] (l : List Nd) (h : TOk l) : PCalls Tryz.prog n_target_Print [.lst (ndEls l)] (fun r => r = printAV (printT l)) := by
 refine pcalls_of_awp hmix c_target_Print rfl ?_
 have hnl := ndEls_len l
 have hlen := h.len
 simp [a_target_Print]
 refine ac_same (tRight23_ok l h) (by simp) ?_
 rintro r rfl
 cases hr : rightT l with
 | false => simp [printT, hr, printAV]
 | true =>
  obtain ⟨B, D, w, h0, hL, _⟩ := rightT_link hr
  have hpos : 0 < l.length := List.length_pos_iff.2 h0
  obtain ⟨q, hq⟩ : ∃ q, q = l.length - 1 := ⟨_, rfl⟩
  have hwl : IntKind.i64.wrap ((l.length : Int) - 1) = (q : Int) := by rw [wrap_i64 (by omega) (by omega)]; omega
  have htx := ttext23_ok (G := G) h hL q (by omega)
  have hsz := text_size h hL (i := q) (by omega)
  simp [hnl, hwl]
  refine ac_same htx (by simp) ?_
  rintro r rfl
  unfold printT
  rw [← hq, if_pos hr]
  obtain ⟨T, hT⟩ : ∃ T, T = textS l q := ⟨_, rfl⟩
  rw [← hT]
  by_cases hl : 1024 < T.length
  ·have hl' : (1024 : Int) < (T.length : Int) := by omega
   simp [hl, hl', printAV]
  ·have hl' : ¬ (1024 : Int) < (T.length : Int) := by omega
   simp [hl, hl', printAV]
end Go.Proofs.YtalfhchbmhoagaaGreatDoor
end
section
set_option maxHeartbeats 4000000
set_option maxRecDepth 20000
namespace Go.Tgt
end Go.Tgt
namespace Go.Proofs.YtalfhchbmhoagaaGreatDoor
open Go.Abs Go.Tgt Go.Trail Go.Tok
variable {G : Globs}
end Go.Proofs.YtalfhchbmhoagaaGreatDoor
end
section
namespace Go.Proofs.YtalfhchbmhoagaaGreatDoor
open Go.Abs
end Go.Proofs.YtalfhchbmhoagaaGreatDoor
end
section
set_option maxHeartbeats 4000000
set_option maxRecDepth 20000
namespace Go.Proofs.YtalfhchbmhoagaaGreatDoor
open Go.Abs Go.Tgt Go.Trail Go.Tok
variable {G : Globs}
def CopyEls (σ : Store) : List Nd → List (List AV) → Prop
 | [], [] => True
 | n :: l, c :: els => (∃ r, c = [.int .i64 n.kind, .str n.text, .int .i64 n.num, .row r n.args.length] ∧ σ[r]? = some (.row 3 1 (intEls n.args) false)) ∧ CopyEls σ l els
 | _, _ => False
theorem CopyEls.len {σ : Store} : ∀ {l : List Nd} {els : List (List AV)}, CopyEls σ l els → els.length = l.length
 | [], [], _ => rfl
 | n :: l, c :: els, h => by simp [h.2.len]
 | [], c :: els, h => h.elim
 | n :: l, [], h => h.elim
theorem CopyEls.app {σ : Store} {n : Nd} {r : Nat} (hr : σ[r]? = some (.row 3 1 (intEls n.args) false)) : ∀ {l : List Nd} {els : List (List AV)}, CopyEls σ l els → CopyEls σ (l ++ [n]) (els ++ [[.int .i64 n.kind, .str n.text, .int .i64 n.num, .row r n.args.length]])
 | [], [], _ => ⟨⟨r, rfl, hr⟩, trivial⟩
 | m :: l, c :: els, h => ⟨h.1, h.2.app hr⟩
 | [], c :: els, h => h.elim
 | n :: l, [], h => h.elim
theorem CopyEls.keep {σ σ' : Store} (hk : ∀ (r : Nat) (a : List (List AV)), σ[r]? = some (.row 3 1 a false) → σ'[r]? = some (.row 3 1 a false)) : ∀ {l : List Nd} {els : List (List AV)}, CopyEls σ l els → CopyEls σ' l els
 | [], [], _ => trivial
 | m :: l, c :: els, h => by
  obtain ⟨⟨r, h1, h2⟩, h3⟩ := h
  exact ⟨⟨r, h1, hk _ _ h2⟩, h3.keep hk⟩
 | [], c :: els, h => h.elim
 | n :: l, [], h => h.elim
theorem ints_fz (σ : Store) (m k : Nat) : ∀ l : List Int, ((intEls l).mapM fun (c : List AV) => c.mapM (fz σ m (k + 1))) = some (intEls l)
 | [] => rfl
 | a :: l => by
  have ih := ints_fz σ m k l
  have e : intEls (a :: l) = [.int .i64 a] :: intEls l := rfl
  rw [e, List.mapM_cons, ih]
  simp [fz, AV.pure]
theorem CopyEls.fz {σ : Store} : ∀ {l : List Nd} {els : List (List AV)}, CopyEls σ l els → (els.mapM fun (c : List AV) => c.mapM (Abs.fz σ 0 2)) = some (ndEls l)
 | [], [], _ => rfl
 | n :: l, c :: els, h => by
  obtain ⟨⟨r, rfl, h2⟩, h3⟩ := h
  have ih := h3.fz
  have hi := ints_fz σ 0 0 n.args
  have hl := intEls_len n.args
  rw [List.mapM_cons, ih]
  simp [Abs.fz, AV.pure, h2, hl, hi, ndEls, ndC]
 | [], c :: els, h => h.elim
 | n :: l, [], h => h.elim
end Go.Proofs.YtalfhchbmhoagaaGreatDoor
end
section
namespace Go.Proofs.YtalfhchbmhoagaaGreatDoor
open Go.ChangeShapes Go.WideShapes Go.ChangeAt Go.RowKit Go.ChangeMaps Go.Abs Go.Tgt
section
variable {H : Type} {enc : TypeId × Value → H} {w : World} {base : Nat} {spare : Nat → Bool} {held : Bool}
theorem nd_size : Tryz.prog.cellsOf 44 = 4 := by kernel_rfl
theorem str_size4 : Tryz.prog.cellsOf 9 = 1 := by kernel_rfl
theorem int_size4 : Tryz.prog.cellsOf 3 = 1 := by kernel_rfl
theorem i64_size4 : Tryz.prog.cellsOf 2 = 1 := by kernel_rfl
theorem ints_size4 : Tryz.prog.cellsOf 42 = 1 := by kernel_rfl
theorem int_bytes : Tryz.prog.bytesOf 3 = 8 := by kernel_rfl
theorem nd_bytes : Tryz.prog.bytesOf 44 = 56 := by kernel_rfl
def cellIT (w : World) (a : Addr) : Int := match w.cell? a with | some (.int _ n) => n | _ => 0
theorem spot_of {a : Addr} {n : Nat} {cs : List Value} (h : w.cells? base a (n + 1) = some cs) : a.spot = none := by
 unfold World.cells? at h
 split at h
 ·obtain ⟨y, _, hy⟩ : ∃ y, cs[0]? = some y ∧ w.cell? (a.add 0) = some y := by
   have hl := Lib.mapM_at h 0 0 (by simp)
   simpa using hl
  have e : a.add 0 = a := by simp [Addr.add]
  rw [e] at hy
  unfold World.cell? at hy
  split at hy
  ·split at hy
   ·cases hy
   ·rename_i hs; simpa using hs
  ·cases hy
 ·cases h
theorem spot_row {a : Addr} {len cap size : Nat} {elems rest : List (DataW H × List MemPlace)} {n : Nat} {e : TypeId} (hc : cap ≠ 0) (hlen : elems.length = len)
  (hel : ∀ i, i < len → (w.cells? base (a.add (i * (size + 1))) (size + 1)).bind (DataW.trod enc Tryz.prog w base spare held n e) = elems[i]?)
  (hrl : rest.length = cap - len) (hre : ∀ j, j < cap - len → (w.cells? base (a.add ((len + j) * (size + 1))) (size + 1)).bind (DataW.trod enc Tryz.prog w base spare held n e) = rest[j]?) : a.spot = none := by
 have key : ∃ cs, w.cells? base (a.add (0 * (size + 1))) (size + 1) = some cs := by
  rcases Nat.eq_zero_or_pos len with h0 | h0
  ·have h1 := hre 0 (by omega)
   obtain ⟨y, hy⟩ : ∃ y, rest[0]? = some y := ⟨_, List.getElem?_eq_getElem (by omega)⟩
   rw [hy, Option.bind_eq_some_iff, h0, Nat.zero_add] at h1
   obtain ⟨cs, hcs, _⟩ := h1
   exact ⟨cs, hcs⟩
  ·have h1 := hel 0 h0
   obtain ⟨y, hy⟩ : ∃ y, elems[0]? = some y := ⟨_, List.getElem?_eq_getElem (by omega)⟩
   rw [hy, Option.bind_eq_some_iff] at h1
   obtain ⟨cs, hcs, _⟩ := h1
   exact ⟨cs, hcs⟩
 obtain ⟨cs, hcs⟩ := key
 have e : a.add (0 * (size + 1)) = a := by simp [Addr.add]
 rw [e] at hcs
 exact spot_of hcs
set_option maxRecDepth 100000 in
theorem ints_cells (hsp : ∀ b, spare b = true) {n : Nat} {c : Value} {x : DataW H × List MemPlace} (hf : DataW.trod enc Tryz.prog w base spare held n 42 [c] = some x) :
  ∃ l : List Int, (l = [] ∨ ∃ q ∈ x.1.weights Tryz.prog 42, l.length * 8 ≤ q) ∧ IR (oldIm w) w (.lst (intEls l)) c := by
 rcases DataW.trod_slice Tryz.underlying42 hf with ⟨hcs, hx⟩ | ⟨a, len, cap, elems, rest, n, _, hcs, hx, hb, hl, hm, hlen, hel, hre, _⟩
 ·simp only [List.cons.injEq, and_true] at hcs
  subst hcs
  exact ⟨[], .inl rfl, .lnil none⟩
 ·simp only [List.cons.injEq, and_true] at hcs
  subst hcs
  obtain ⟨hrl, hre⟩ := hre (hsp _)
  rw [int_size4] at hel hre
  by_cases hcap : cap = 0
  ·have : len = 0 := by omega
   subst this; subst hcap
   exact ⟨[], .inl rfl, .lnil _⟩
  have hspot : a.spot = none := spot_row (size := 0) hcap hlen hel hrl hre
  obtain ⟨b, o, sp⟩ := a
  simp only at hspot
  subst hspot
  have each : ∀ i, i < len → w.cell? ⟨b, o + (i * 1 + 0), none⟩ = some (.int .i64 (cellIT w ⟨b, o + (i * 1 + 0), none⟩)) := by
   intro i hi
   have h1 := hel i hi
   obtain ⟨y, hy⟩ : ∃ y, elems[i]? = some y := ⟨_, List.getElem?_eq_getElem (by omega)⟩
   rw [hy, Option.bind_eq_some_iff] at h1
   obtain ⟨cs, hc1, hc2⟩ := h1
   obtain ⟨m, rfl, _, hw⟩ := DataW.trod_int Tryz.underlying3 hc2
   unfold World.cells? at hc1
   split at hc1
   ·obtain ⟨y0, g0, g0'⟩ : ∃ y0, some (Value.int .i64 m) = some y0 ∧ w.cell? ((Addr.add ⟨b, o, none⟩ (i * 1)).add 0) = some y0 := by
     have := Lib.mapM_at hc1 0 0 (by simp)
     simpa using this
    cases g0
    have aa : ∀ x y : Nat, Addr.add ⟨b, x, none⟩ y = ⟨b, x + y, none⟩ := fun x y => by unfold Addr.add; split <;> simp_all
    have a0 : (Addr.add ⟨b, o, none⟩ (i * 1)).add 0 = ⟨b, o + (i * 1 + 0), none⟩ := by rw [aa, aa, Nat.add_assoc]
    rw [a0] at g0'
    have c0 : cellIT w ⟨b, o + (i * 1 + 0), none⟩ = m := by unfold cellIT; rw [g0']
    rw [c0]
    exact g0'
   ·cases hc1
  refine ⟨(List.range len).map fun i => cellIT w ⟨b, o + (i * 1 + 0), none⟩, .inr ?_, ?_⟩
  ·have hdd : x.1 = .slice (elems.map (·.1)) (rest.map (·.1)) := congrArg Prod.fst hx
   rw [hdd]
   refine ⟨((elems.map (·.1)).length + (rest.map (·.1)).length) * Tryz.prog.bytesOf 3, ?_, ?_⟩
   ·simp only [DataW.weights, Tryz.underlying42]
    exact List.Mem.head _
   ·rw [int_bytes]; simp; omega
  ·have hnl : (intEls ((List.range len).map fun i => cellIT w ⟨b, o + (i * 1 + 0), none⟩)).length = len := by simp [intEls]
   have hold : ∀ i j v, w.cell? ⟨b, o + (i * 1 + j), none⟩ = some v → oldIm w ⟨b, o + (i * 1 + j), none⟩ := fun i j v h => by
    refine ⟨rfl, ?_⟩
    rcases Nat.lt_or_ge b w.heap.size with h' | h'
    ·exact h'
    ·simp [World.cell?, Array.getElem?_eq_none h'] at h
   have := IR.lst (Im := oldIm w) (w := w) (intEls ((List.range len).map fun i => cellIT w ⟨b, o + (i * 1 + 0), none⟩)) 1 b o cap
    (fun i j => .int .i64 (cellIT w ⟨b, o + (i * 1 + 0), none⟩)) (by rw [hnl]; exact hl) hm
    (fun c hc => by
     obtain ⟨y, _, rfl⟩ := List.mem_map.1 hc
     rfl)
    (fun c hc x hx => by
     obtain ⟨y, _, rfl⟩ := List.mem_map.1 hc
     simp at hx
     subst hx; rfl)
    (fun k j hk hj => by
     rw [hnl] at hk
     have e0 := each k hk
     match j, hj with
     | 0, _ => exact ⟨hold k 0 _ e0, e0⟩)
    (fun k j hk hj => by
     have hj2 : j < 1 := by simpa [intEls] using hj
     match j, hj2 with
     | 0, _ => simp [intEls]; exact .int _ _)
   rw [hnl] at this
   exact this
structure NdIn (n : Nd) : Prop where
 text : n.text.length ≤ 9223372036854775807
 n0 : -9223372036854775808 ≤ n.num
 n1 : n.num ≤ 9223372036854775807
set_option maxRecDepth 100000 in
theorem nd_cells (hsp : ∀ b, spare b = true) {n : Nat} {cs : List Value} {y : DataW H × List MemPlace} (hf : DataW.trod enc Tryz.prog w base spare held n 44 cs = some y) :
  ∃ (s : Nd) (c0 c1 c2 c3 : Value), NdIn s ∧ (s.args = [] ∨ ∃ q ∈ y.1.weights Tryz.prog 44, s.args.length * 8 ≤ q) ∧ cs = [c0, c1, c2, c3] ∧ IR (oldIm w) w (.int .i64 s.kind) c0 ∧ IR (oldIm w) w (.str s.text) c1 ∧ IR (oldIm w) w (.int .i64 s.num) c2 ∧ IR (oldIm w) w (.lst (intEls s.args)) c3 := by
 obtain ⟨xs, n, rfl, hx, hl, hxl, hall⟩ := DataW.trod_struct Tryz.underlying44 hf
 have hx2 : xs.length = 4 := hxl
 obtain ⟨x0, x1, x2, x3, rfl⟩ : ∃ x0 x1 x2 x3, xs = [x0, x1, x2, x3] := by
  match xs, hx2 with
  | [a, b, c, d], _ => exact ⟨a, b, c, d, rfl⟩
 have hl2 : cs.length = 4 := by rw [hl, nd_size]
 obtain ⟨c0, c1, c2, c3, rfl⟩ : ∃ c0 c1 c2 c3, cs = [c0, c1, c2, c3] := by
  match cs, hl2 with
  | [a, b, c, d], _ => exact ⟨a, b, c, d, rfl⟩
 have h0 : DataW.trod enc Tryz.prog w base spare held n 3 [c0] = some x0 := by simpa [int_size4, Value.cells] using hall 0 _ rfl
 have h1 : DataW.trod enc Tryz.prog w base spare held n 9 [c1] = some x1 := by simpa [str_size4, Value.cells] using hall 1 _ rfl
 have h2 : DataW.trod enc Tryz.prog w base spare held n 2 [c2] = some x2 := by simpa [i64_size4, Value.cells] using hall 2 _ rfl
 have h3 : DataW.trod enc Tryz.prog w base spare held n 42 [c3] = some x3 := by simpa [ints_size4, Value.cells] using hall 3 _ rfl
 obtain ⟨m0, e0, _, w0⟩ := DataW.trod_int Tryz.underlying3 h0
 obtain ⟨s1, e1, _, w1⟩ := DataW.trod_string Tryz.underlying9 h1
 obtain ⟨m2, e2, _, w2⟩ := DataW.trod_int Tryz.underlying2 h2
 simp only [List.cons.injEq, and_true] at e0 e1 e2
 subst e0 e1 e2
 obtain ⟨l, wl, hir⟩ := ints_cells hsp h3
 obtain ⟨a1, a2⟩ := wf_i64 w2
 refine ⟨⟨m0, s1.data.toList, m2, l⟩, _, _, _, _, ⟨by rw [Array.length_toList]; exact w1, a1, a2⟩, ?_, rfl, .int _ _, ir_bytes4 _, .int _ _, hir⟩
 rcases wl with h | ⟨q, hq, hq2⟩
 ·exact .inl h
 ·refine .inr ⟨q, ?_, hq2⟩
  have hdd : y.1 = .agg ([x0, x1, x2, x3].map (·.1)) := congrArg Prod.fst hx
  rw [hdd]
  simp only [DataW.weights, Tryz.underlying44]
  exact DataW.weights_mem_each (j := 3) rfl rfl q hq
theorem ndC_one (s : Nd) : ∀ x ∈ ndC s, x.one = true := by simp [ndC, AV.one]
theorem weightsAll_mem {P : Program} {e : TypeId} {d : DataW H} {q : Nat} : ∀ {ds : List (DataW H)}, d ∈ ds → q ∈ d.weights P e → q ∈ DataW.weightsAll P e ds
 | d0 :: ds, h, hq => by
  simp only [DataW.weightsAll, List.mem_append]
  rcases List.mem_cons.1 h with rfl | h
  ·exact .inl hq
  ·exact .inr (weightsAll_mem h hq)
structure NdsIn (l : List Nd) (W : List Nat) : Prop where
 each : ∀ n ∈ l, NdIn n
 args : ∀ n ∈ l, n.args = [] ∨ ∃ q ∈ W, n.args.length * 8 ≤ q
 len : l = [] ∨ ∃ q ∈ W, l.length * 56 ≤ q
set_option maxRecDepth 100000 in
theorem open_nodes (hsp : ∀ b, spare b = true) {r : Reach} {b0 : Nat} {v : Value} {d : DataW H} {ps : List MemPlace} (hval : Value.okWide Tryz.prog w r b0 23 v) (hd : DataW.Trod enc Tryz.prog w base spare held 23 v d ps) :
  ∃ l : List Nd, NdsIn l (d.weights Tryz.prog 23) ∧ IR (oldIm w) w (.lst (ndEls l)) v := by
 obtain ⟨fuel, hf⟩ := hd
 obtain ⟨a0, len, cap, rfl⟩ := okWide_slice Tryz.underlying23 hval
 rcases DataW.trod_slice Tryz.underlying23 hf with ⟨hcs, hx⟩ | ⟨a, len', cap', elems, rest, n, _, hcs, hx, hb, hl, hm, hlen, hel, hre, _⟩
 ·simp [Value.cells] at hcs
  obtain ⟨rfl, rfl, rfl⟩ := hcs
  exact ⟨[], ⟨by simp, by simp, .inl rfl⟩, .lnil none⟩
 ·simp [Value.cells] at hcs
  obtain ⟨rfl, rfl, rfl⟩ := hcs
  obtain ⟨hrl, hre⟩ := hre (hsp _)
  rw [nd_size] at hel hre
  by_cases hcap : cap = 0
  ·have : len = 0 := by omega
   subst this; subst hcap
   exact ⟨[], ⟨by simp, by simp, .inl rfl⟩, .lnil _⟩
  have hspot : a.spot = none := spot_row (size := 3) hcap hlen hel hrl hre
  obtain ⟨b, o, sp⟩ := a
  simp only at hspot
  subst hspot
  have aa : ∀ x y : Nat, Addr.add ⟨b, x, none⟩ y = ⟨b, x + y, none⟩ := fun x y => by unfold Addr.add; split <;> simp_all
  have each : ∀ i, ∃ s : Nd, i < len → NdIn s ∧ (s.args = [] ∨ ∃ y, elems[i]? = some y ∧ ∃ q ∈ y.1.weights Tryz.prog 44, s.args.length * 8 ≤ q) ∧ ∀ j (h : j < (ndC s).length), ∃ c, w.cell? ⟨b, o + (i * 4 + j), none⟩ = some c ∧ IR (oldIm w) w (ndC s)[j] c := by
   intro i
   by_cases hi : i < len
   ·have h1 := hel i hi
    obtain ⟨y, hy⟩ : ∃ y, elems[i]? = some y := ⟨_, List.getElem?_eq_getElem (by omega)⟩
    rw [hy, Option.bind_eq_some_iff] at h1
    obtain ⟨cs, hc1, hc2⟩ := h1
    obtain ⟨s, c0, c1, c2, c3, hs, hq, rfl, i0, i1, i2, i3⟩ := nd_cells hsp hc2
    refine ⟨s, fun _ => ⟨hs, hq.imp id fun hq => ⟨y, hy, hq⟩, ?_⟩⟩
    unfold World.cells? at hc1
    split at hc1
    ·have at' : ∀ j, j < 4 → ∃ c, [c0, c1, c2, c3][j]? = some c ∧ w.cell? ⟨b, o + (i * 4 + j), none⟩ = some c := by
      intro j hj
      obtain ⟨c, e1, e2⟩ := Lib.mapM_at hc1 j j (by simp [hj])
      rw [aa, aa, Nat.add_assoc] at e2
      exact ⟨c, e1, e2⟩
     intro j hj
     have hj' : j < 4 := hj
     obtain ⟨c, e1, e2⟩ := at' j hj'
     refine ⟨c, e2, ?_⟩
     match j, hj' with
     | 0, _ => simp at e1; subst e1; exact i0
     | 1, _ => simp at e1; subst e1; exact i1
     | 2, _ => simp at e1; subst e1; exact i2
     | 3, _ => simp at e1; subst e1; exact i3
    ·cases hc1
   ·exact ⟨⟨0, [], 0, []⟩, fun h => absurd h hi⟩
  obtain ⟨f, hfs⟩ := Classical.axiomOfChoice each
  have hdd : d = .slice (elems.map (·.1)) (rest.map (·.1)) := congrArg Prod.fst hx
  refine ⟨(List.range len).map f, ⟨?_, ?_, .inr ?_⟩, ?_⟩
  ·intro s hs
   simp only [List.mem_map, List.mem_range] at hs
   obtain ⟨i, hi, rfl⟩ := hs
   exact (hfs i hi).1
  ·intro s hs
   simp only [List.mem_map, List.mem_range] at hs
   obtain ⟨i, hi, rfl⟩ := hs
   refine (hfs i hi).2.1.imp id fun ⟨y, hy, q, hq, hq2⟩ => ⟨q, ?_, hq2⟩
   rw [hdd]
   simp only [DataW.weights, Tryz.underlying23]
   refine List.mem_cons_of_mem _ (List.mem_append.2 (.inl (weightsAll_mem (d := y.1) ?_ hq)))
   exact List.mem_map.2 ⟨y, List.mem_of_getElem? hy, rfl⟩
  ·rw [hdd]
   refine ⟨((elems.map (·.1)).length + (rest.map (·.1)).length) * Tryz.prog.bytesOf 44, ?_, ?_⟩
   ·simp only [DataW.weights, Tryz.underlying23]
    exact List.Mem.head _
   ·rw [nd_bytes]; simp; omega
  ·have hnl : (((List.range len).map f).map ndC).length = len := by simp
   have hold : ∀ i j v, w.cell? ⟨b, o + (i * 4 + j), none⟩ = some v → oldIm w ⟨b, o + (i * 4 + j), none⟩ := fun i j v h => by
    refine ⟨rfl, ?_⟩
    rcases Nat.lt_or_ge b w.heap.size with h' | h'
    ·exact h'
    ·simp [World.cell?, Array.getElem?_eq_none h'] at h
   have := IR.lst (Im := oldIm w) (w := w) (((List.range len).map f).map ndC) 4 b o cap
    (fun i j => (w.cell? ⟨b, o + (i * 4 + j), none⟩).getD undef) (by rw [hnl]; exact hl) hm
    (fun c hc => by
     obtain ⟨s, _, rfl⟩ := List.mem_map.1 hc
     rfl)
    (fun c hc x hx => by
     obtain ⟨s, _, rfl⟩ := List.mem_map.1 hc
     exact ndC_one s x hx)
    (fun k j hk hj => by
     rw [hnl] at hk
     obtain ⟨c, hc, _⟩ := (hfs k hk).2.2 j hj
     exact ⟨hold k j _ hc, by rw [hc]; rfl⟩)
    (fun k j hk hj => by
     rw [hnl] at hk
     have e : (((List.range len).map f).map ndC)[k] = ndC (f k) := by simp
     have hj' : j < (ndC (f k)).length := by rw [← e]; exact hj
     obtain ⟨c, hc, hir⟩ := (hfs k hk).2.2 j hj'
     simp only [hc, Option.getD_some, e]
     exact hir)
   rw [hnl] at this
   exact this
end
end Go.Proofs.YtalfhchbmhoagaaGreatDoor
end
section
set_option maxHeartbeats 4000000
set_option maxRecDepth 20000
namespace Go.Proofs.YtalfhchbmhoagaaGreatDoor
open Go.Abs Go.Tgt Go.Trail Go.Tok
variable {G : Globs}
def bulkN (l : List Nd) : Nat := (l.map fun n => min n.text.length 10000 + n.args.length).sum
def grN (l : List Nd) : Bool := decide (5000 < l.length + bulkN l) || decide (900 < l.length)
structure FitsN (l : List Nd) : Prop where
 each : ∀ n ∈ l, NdIn n
 args : ∀ n ∈ l, n.args.length ≤ 17592186044416
 len : l.length ≤ 17592186044416
theorem fitsN_of {l : List Nd} {W : List Nat} (h : NdsIn l W) (hW : ∀ q ∈ W, q ≤ reachBytes) : FitsN l := by
 refine ⟨h.each, fun n hn => ?_, ?_⟩
 ·rcases h.args n hn with e | ⟨q, hq, hq2⟩
  ·rw [e]; simp
  ·have := hW q hq
   simp only [reachBytes] at this; omega
 ·rcases h.len with e | ⟨q, hq, hq2⟩
  ·rw [e]; simp
  ·have := hW q hq
   simp only [reachBytes] at this; omega
theorem bulkN_app (l m : List Nd) : bulkN (l ++ m) = bulkN l + bulkN m := by simp [bulkN]
theorem bulkN_take (l : List Nd) (i : Nat) : bulkN (l.take i) ≤ bulkN l := by
 have e := bulkN_app (l.take i) (l.drop i)
 rw [List.take_append_drop] at e
 omega
theorem bulkN_succ {l : List Nd} {i : Nat} {n : Nd} (h : l[i]? = some n) : bulkN (l.take (i + 1)) = bulkN (l.take i) + (min n.text.length 10000 + n.args.length) := by
 rw [List.take_add_one, h, bulkN_app]
 simp [bulkN]
theorem bulkN_mem : ∀ {l : List Nd} {n : Nd}, n ∈ l → min n.text.length 10000 + n.args.length ≤ bulkN l
 | x :: l, n, h => by
  have e : bulkN (x :: l) = min x.text.length 10000 + x.args.length + bulkN l := by simp [bulkN]
  rcases List.mem_cons.1 h with rfl | h
  ·omega
  ·have := bulkN_mem h; omega
theorem prn_short {v : Int} (h0 : -9223372036854775808 ≤ v) (h1 : v ≤ 9223372036854775807) : (Dec.prn false v).length ≤ 30 := by
 by_cases hm : v = -9223372036854775808
 ·subst hm
  exact of_decide_eq_true (by kernel_rfl)
 ·have := Dec.prn_len hm (by omega); omega
theorem wTxt_sum : ∀ (l : List Nd), (∀ n ∈ l, n.text.length ≤ 10000 ∧ NdIn n) → sumW wTxt l ≤ bulkN l + 60 * l.length
 | [], _ => by simp [sumW, bulkN]
 | n :: l, h => by
  have ih := wTxt_sum l fun m hm => h m (by simp [hm])
  obtain ⟨h1, h2⟩ := h n (by simp)
  have h3 := prn_short h2.n0 h2.n1
  have e1 : sumW wTxt (n :: l) = wTxt n + sumW wTxt l := by simp [sumW]
  have e2 : bulkN (n :: l) = min n.text.length 10000 + n.args.length + bulkN l := by simp [bulkN]
  have e3 : wTxt n = n.text.length + n.args.length + 30 + (Dec.prn false n.num).length := rfl
  rw [e1, e2, List.length_cons]
  omega
theorem tok_of {l : List Nd} (h : FitsN l) (hg : grN l = false) : TOk l := by
 simp only [grN, Bool.or_eq_false_iff, decide_eq_false_iff_not] at hg
 have hm : ∀ n ∈ l, n.text.length ≤ 5000 ∧ n.args.length ≤ 5000 := fun n hn => by
  have := bulkN_mem hn; omega
 refine ⟨by omega, hm, fun n hn => ⟨(h.each n hn).n0, (h.each n hn).n1⟩, ?_⟩
 have := wTxt_sum l fun n hn => ⟨by have := (hm n hn).1; omega, h.each n hn⟩
 omega
theorem great23_ok (l : List Nd) (h : FitsN l) : PCalls Tryz.prog n_isobarlaw23_great [.lst (ndEls l)] (fun r => r = .bool (grN l)) := by
 refine pcalls_of_awp hmix c_isobarlaw23_great rfl ?_
 have hnl := ndEls_len l
 have hlen := h.len
 simp [a_isobarlaw23_great, hnl]
 refine lp_startx (fun x f σ => ∃ (i : Nat) (v : Nat), x = l.length - i ∧ i ≤ l.length ∧ f 0 = .lst (ndEls l) ∧ f 3 = .int .i64 v ∧ f 4 = .int .i64 i ∧ v = l.length + bulkN (l.take i) ∧ v ≤ 40000000000000) l.length ⟨0, l.length, by simp, by simp, by simp, by simp, by simp, by simp [bulkN], by omega⟩ ?_
 rintro x f σ ⟨i, v, hx, hi, f0, f3, f4, hv, hvb⟩
 have hbt := bulkN_take l i
 by_cases hil : i < l.length
 ·have hili : (i : Int) < (l.length : Int) := by omega
  by_cases hv5 : v ≤ 5000
  ·have hv5i : (v : Int) ≤ 5000 := by omega
   obtain ⟨n, hn⟩ : ∃ n, l[i]? = some n := ⟨_, List.getElem?_eq_getElem hil⟩
   have hmem := List.mem_of_getElem? hn
   have hge := ndEls_get hn
   obtain ⟨g1, g2⟩ := List.getElem?_eq_some_iff.1 hge
   have hal := intEls_len n.args
   have hna := h.args n hmem
   have hbs := bulkN_succ hn
   have hwi : IntKind.i64.wrap ((i : Int) + 1) = (i : Int) + 1 := wrap_i64 (by omega) (by omega)
   by_cases ht : 10000 < n.text.length
   ·have hti : (10000 : Int) < (n.text.length : Int) := by omega
    have hw1 : IntKind.i64.wrap (10000 + (n.args.length : Int)) = 10000 + (n.args.length : Int) := wrap_i64 (by omega) (by omega)
    have hw2 : IntKind.i64.wrap ((v : Int) + (10000 + (n.args.length : Int))) = (v : Int) + (10000 + (n.args.length : Int)) := wrap_i64 (by omega) (by omega)
    simp [f0, f3, f4, hnl, hil, hili, hv5, hv5i, hge, g1, g2, hal, ht, hti, hw1, hw2, hwi]
    refine nx_intro (l.length - (i + 1)) (by omega) ⟨i + 1, v + (10000 + n.args.length), rfl, by omega, by simp [f0], by simp, by simp, ?_, by omega⟩
    rw [hbs]; omega
   ·have hti : ¬ (10000 : Int) < (n.text.length : Int) := by omega
    have hw1 : IntKind.i64.wrap ((n.text.length : Int) + (n.args.length : Int)) = (n.text.length : Int) + (n.args.length : Int) := wrap_i64 (by omega) (by omega)
    have hw2 : IntKind.i64.wrap ((v : Int) + ((n.text.length : Int) + (n.args.length : Int))) = (v : Int) + ((n.text.length : Int) + (n.args.length : Int)) := wrap_i64 (by omega) (by omega)
    simp [f0, f3, f4, hnl, hil, hili, hv5, hv5i, hge, g1, g2, hal, ht, hti, hw1, hw2, hwi]
    refine nx_intro (l.length - (i + 1)) (by omega) ⟨i + 1, v + (n.text.length + n.args.length), rfl, by omega, by simp [f0], by simp, by simp, ?_, by omega⟩
    rw [hbs]; omega
  ·have hv5i : ¬ (v : Int) ≤ 5000 := by omega
   have hv6 : 5000 < v := by omega
   have hv6i : (5000 : Int) < (v : Int) := by omega
   have hgr : grN l = true := by simp [grN]; omega
   simp [f0, f3, f4, hnl, hil, hili, hv5, hv5i, hv6, hv6i, hgr]
 ·have hie : i = l.length := by omega
  subst hie
  rw [List.take_length] at hv
  have hili : ¬ (l.length : Int) < (l.length : Int) := by omega
  by_cases hv5 : v ≤ 5000
  ·have hv6 : ¬ 5000 < v := by omega
   have hv6i : ¬ (5000 : Int) < (v : Int) := by omega
   by_cases h9 : 900 < l.length
   ·have h9i : (900 : Int) < (l.length : Int) := by omega
    have hgr : grN l = true := by simp [grN, h9]
    simp [f0, f3, f4, hnl, hv6, hv6i, h9, h9i, hgr]
   ·have h9i : ¬ (900 : Int) < (l.length : Int) := by omega
    have hgr : grN l = false := by simp [grN]; omega
    simp [f0, f3, f4, hnl, hv6, hv6i, h9, h9i, hgr]
  ·have hv6 : 5000 < v := by omega
   have hv6i : (5000 : Int) < (v : Int) := by omega
   have hgr : grN l = true := by simp [grN]; omega
   simp [f0, f3, f4, hnl, hv6, hv6i, hgr]
end Go.Proofs.YtalfhchbmhoagaaGreatDoor
end
