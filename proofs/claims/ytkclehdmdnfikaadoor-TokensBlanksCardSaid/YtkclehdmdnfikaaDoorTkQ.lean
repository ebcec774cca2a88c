/- A target's tokens: Join, Alike; the laws of what is joined, and of blanks. -/
import Derived.Test.YtkclehdmdnfikaaDoorTkN
import Derived.Test.YtkclehdmdnfikaaDoorJoi
set_option linter.unusedSimpArgs false
set_option linter.unusedVariables false
set_option linter.constructorNameAsVariable false
set_option maxHeartbeats 4000000
namespace Go.Proofs.YtkclehdmdnfikaaDoor
open Go.Abs Go.Glob Go.Tok Go.Joi
variable {G : Globs}

def txsOf (l : List TkA) : List (List UInt8) := l.map fun x => textOf x.1 x.2.1
def allRight (l : List TkA) : Bool := l.all fun x => rightB x.1 x.2.2 x.2.1
def jT (l : List TkA) : List UInt8 := Lib.join (txsOf l) [32]
/-- What Join returns. -/
def joinAV (l : List TkA) : AV := if allRight l then .tup [.str (jT l), .int .i64 0] else .tup [.str [], .int .i64 1]
theorem textOf_len (k : Int) (s : List UInt8) : (textOf k s).length ≤ s.length + 2 := by
  have := quote_len s
  unfold textOf
  split
  · simp
  · split
    · simp
    · split
      · simp
      · split
        · simp; omega
        · omega
theorem bulk_mem {l : List TkA} {x : TkA} (h : x ∈ l) : min x.2.1.length 10000 ≤ bulk l := by
  induction l with
  | nil => cases h
  | cons y l ih =>
    have e : bulk (y :: l) = min y.2.1.length 10000 + bulk l := by simp [bulk]
    rcases List.mem_cons.1 h with rfl | h
    · omega
    · have := ih h; omega
theorem sum_txs (l : List TkA) (h : ∀ x ∈ l, x.2.1.length ≤ 10000) : Joi.sum (txsOf l) ≤ bulk l + 2 * l.length := by
  induction l with
  | nil => simp [Joi.sum, txsOf]
  | cons y l ih =>
    have := ih fun x hx => h x (by simp [hx])
    have hy := h y (by simp)
    have ht := textOf_len y.1 y.2.1
    have e : bulk (y :: l) = min y.2.1.length 10000 + bulk l := by simp [bulk]
    have e2 : Joi.sum (txsOf (y :: l)) = (textOf y.1 y.2.1).length + Joi.sum (txsOf l) := by simp [Joi.sum, txsOf]
    rw [e, e2, List.length_cons]
    omega
/-- Tokens that are not too many, or too long. -/
structure Small (l : List TkA) : Prop where
  len : l.length ≤ 5000
  text : ∀ x ∈ l, x.2.1.length ≤ 5000
  bulk : bulk l ≤ 5000
theorem small_of {l : List TkA} (h : greatB l = false) : Small l := by
  have hg : ¬ 5000 < l.length + Go.Proofs.YtkclehdmdnfikaaDoor.bulk l := by simpa [greatB] using h
  refine ⟨by omega, fun x hx => ?_, by omega⟩
  have := bulk_mem hx
  omega
theorem Small.join {l : List TkA} (h : Small l) (i : Nat) : (jT (l.take i)).length ≤ 25000 := by
  have h1 := join_len 32 (txsOf (l.take i))
  have h2 := sum_txs (l.take i) fun x hx => by have := h.text x (List.mem_of_mem_take hx); omega
  have h3 := bulk_take l i
  have h4 := h.bulk
  have h5 := h.len
  have h6 : (txsOf (l.take i)).length = (l.take i).length := by simp [txsOf]
  have h7 : (l.take i).length ≤ l.length := by simp; omega
  unfold jT
  omega
theorem allRight_false {l : List TkA} {x : TkA} (hx : x ∈ l) (h : ¬ rightB x.1 x.2.2 x.2.1 = true) : allRight l = false := by
  rw [allRight, List.all_eq_false]
  exact ⟨x, hx, by simpa using h⟩
theorem right_q {k p : Int} {s : List UInt8} (h : rightB k p s = true) : k = 3 → ¬ ((39 : UInt8) ∈ s ∧ (34 : UInt8) ∈ s) := by
  rintro rfl ⟨h1, h2⟩
  simp [rightB, h1, h2] at h

theorem rtJoin_ok [GDec] (l : List TkA) (hs : Small l) : PCalls Tryd.prog n_isobarref22_Join [.lst (tkA l)] (fun r => r = joinAV l) := by
  refine pcalls_of_awp hmix c_isobarref22_Join rfl ?_
  simp [a_isobarref22_Join]
  have hle : (tkA l).length = l.length := by simp [tkA]
  have hl5 := hs.len
  refine lp_startx (fun x f σ => ∃ (i : Nat), x = l.length - i ∧ i ≤ l.length ∧ allRight (l.take i) = true ∧ f 0 = .lst (tkA l) ∧ f 4 = .str (jT (l.take i)) ∧ f 5 = .int .i64 i ∧ σ = []) l.length ?_ ?_
  · exact ⟨0, by simp, by simp, by simp [allRight], by simp, by simp [jT, txsOf, Lib.join_nil], by simp, rfl⟩
  rintro x f σ ⟨i, hx, hi, har, h0, h4, h5, rfl⟩
  have hjl := hs.join i
  by_cases hlt : i < l.length
  · obtain ⟨y, hy⟩ : ∃ y, l[i]? = some y := ⟨_, List.getElem?_eq_getElem hlt⟩
    have hse : (tkA l)[i]? = some [.int .i64 y.1, .str y.2.1, .int .i64 y.2.2] := by simp [tkA, hy]
    obtain ⟨hx1, hx2⟩ := List.getElem?_eq_some_iff.1 hse
    have hym := List.mem_of_getElem? hy
    have hyk := hs.text y hym
    have hlt' : (i : Int) < (l.length : Int) := by omega
    have hwi : IntKind.i64.wrap ((i : Int) + 1) = (i : Int) + 1 := wrap_i64 (by omega) (by omega)
    have htl := textOf_len y.1 y.2.1
    simp [h0, h4, h5, hle, hlt, hlt', hx1, hx2]
    refine ac_same (rright_ok y.1 y.2.2 y.2.1 (by omega)) (by simp [tokA]) ?_
    rintro r rfl
    by_cases hr : rightB y.1 y.2.2 y.2.1 = true
    · have hstep : jT (l.take (i + 1)) = if i = 0 then textOf y.1 y.2.1 else jT (l.take i) ++ ([32] ++ textOf y.1 y.2.1) := by
        have e : txsOf (l.take (i + 1)) = txsOf (l.take i) ++ [textOf y.1 y.2.1] := by simp [txsOf, List.take_add_one, hy]
        rw [jT, e, join_snoc]
        by_cases h : i = 0
        · subst h; simp [txsOf]
        · have : txsOf (l.take i) ≠ [] := by
            intro h'
            have hpn : (txsOf (l.take i)).length = i := by simp [txsOf, Nat.min_eq_left hi]
            rw [h'] at hpn
            simp at hpn
            omega
          rw [if_neg this, if_neg h]; rfl
      have har' : allRight (l.take (i + 1)) = true := by
        have : allRight (l.take (i + 1)) = (allRight (l.take i) && rightB y.1 y.2.2 y.2.1) := by simp [allRight, List.take_add_one, hy]
        rw [this, har, hr]; rfl
      by_cases hi0 : i = 0
      · have hng : ¬ 0 < i := by omega
        have hng' : ¬ (0 : Int) < (i : Int) := by omega
        have hE : jT (l.take i) = [] := by subst hi0; simp [jT, txsOf, Lib.join_nil]
        rw [if_pos hi0] at hstep
        rw [hE] at h4
        have hL3 : (textOf y.1 y.2.1).length ≤ 9223372036854775807 := by omega
        simp [hr, h0, h4, h5, hng, hng', hle, hlt, hx1, hx2]
        refine ac_same (refText_ok y.1 y.2.2 y.2.1 (by omega) (right_q hr)) (by simp [tokA]) ?_
        rintro r rfl
        simp [h5, hL3, hwi]
        refine nx_intro (l.length - (i + 1)) (by omega) ⟨i + 1, rfl, by omega, har', by simp [h0], by rw [hstep]; simp, by simp, rfl⟩
      · have hi0' : (0 : Int) < (i : Int) := by omega
        have hi0'' : 0 < i := by omega
        rw [if_neg hi0] at hstep
        have hL1 : (jT (l.take i)).length ≤ 9223372036854775806 := by omega
        have hL2 : (jT (l.take i)).length + 1 + (textOf y.1 y.2.1).length ≤ 9223372036854775807 := by omega
        have hL3 : (textOf y.1 y.2.1).length ≤ 9223372036854775807 := by omega
        have hL4 : (jT (l.take i)).length + ((textOf y.1 y.2.1).length + 1) ≤ 9223372036854775807 := by omega
        have hL5 : (jT (l.take i)).length + (textOf y.1 y.2.1).length + 1 ≤ 9223372036854775807 := by omega
        simp [hr, h0, h4, h5, hi0', hi0'', hle, hlt, hx1, hx2, hL1]
        refine ac_same (refText_ok y.1 y.2.2 y.2.1 (by omega) (right_q hr)) (by simp [tokA]) ?_
        rintro r rfl
        simp [h5, hL2, hL3, hL4, hL5, hwi]
        refine nx_intro (l.length - (i + 1)) (by omega) ⟨i + 1, rfl, by omega, har', by simp [h0], by rw [hstep]; simp, by simp, rfl⟩
    · have := allRight_false hym hr
      simp [hr, joinAV, this]
  · have hil : i = l.length := by omega
    have hlt' : ¬ (i : Int) < (l.length : Int) := by omega
    have e : l.take i = l := List.take_of_length_le (by omega)
    rw [e] at har h4
    simp [h0, h4, h5, hle, hlt, hlt', joinAV, har]

theorem txt1_get {l : List TkA} {i : Nat} (hi : i < l.length) : (txt1 (txsOf (l.take i) ++ List.replicate (l.length - i) []))[i]? = some [.str []] := by
  have hpn : (txsOf (l.take i)).length = i := by simp [txsOf, Nat.min_eq_left (Nat.le_of_lt hi)]
  rw [show l.length - i = (l.length - (i + 1)) + 1 by omega, List.replicate_succ]
  simp only [txt1, List.map_append, List.map_cons]
  rw [List.getElem?_append_right (by simp [hpn])]
  simp [hpn]
theorem txt1_set {l : List TkA} {i : Nat} (hi : i < l.length) (x : List UInt8) : (txt1 (txsOf (l.take i) ++ List.replicate (l.length - i) [])).set i [.str x] = txt1 (txsOf (l.take i) ++ x :: List.replicate (l.length - (i + 1)) []) := by
  have hpn : (txsOf (l.take i)).length = i := by simp [txsOf, Nat.min_eq_left (Nat.le_of_lt hi)]
  rw [show l.length - i = (l.length - (i + 1)) + 1 by omega, List.replicate_succ]
  simp only [txt1, List.map_append, List.map_cons]
  rw [List.set_append_right _ _ (by simp [hpn])]
  simp [hpn]
theorem tJoin_ok [GDec] (l : List TkA) (hs : Small l) : PCalls Tryd.prog n_tokens_Join [.lst (tkA l)] (fun r => r = joinAV l) := by
  refine pcalls_of_awp hmix c_tokens_Join rfl ?_
  simp [a_tokens_Join]
  have hle : (tkA l).length = l.length := by simp [tkA]
  have hl5 := hs.len
  simp [hle]
  refine ms_intro l.length rfl rfl (by omega) (by omega) (by omega) rfl ?_
  simp [hle]
  have hts : ∀ m : List (List UInt8), (txt1 m).length = m.length := fun m => by simp [txt1]
  have hpl : ∀ m : List TkA, (txsOf m).length = m.length := fun m => by simp [txsOf]
  refine lp_startx (fun x f σ => ∃ (i : Nat) (tl : Store), x = l.length - i ∧ i ≤ l.length ∧ allRight (l.take i) = true ∧ f 4 = .row 0 l.length ∧ f 10 = .lst (tkA l) ∧ f 11 = .int .i64 l.length ∧ f 12 = .int .i64 i ∧ σ = .row 9 1 (txt1 (txsOf (l.take i) ++ List.replicate (l.length - i) [])) false :: tl) l.length ?_ ?_
  · exact ⟨0, [], by simp, by simp, by simp [allRight], by simp, by simp, by simp [hle], by simp, by simp [txsOf, txt1]⟩
  rintro x f σ ⟨i, tl, hx, hi, har, h4, h10, h11, h12, rfl⟩
  have hwi : IntKind.i64.wrap ((i : Int) + 1) = (i : Int) + 1 := wrap_i64 (by omega) (by omega)
  by_cases hlt : i < l.length
  · obtain ⟨y, hy⟩ : ∃ y, l[i]? = some y := ⟨_, List.getElem?_eq_getElem hlt⟩
    have hse : (tkA l)[i]? = some [.int .i64 y.1, .str y.2.1, .int .i64 y.2.2] := by simp [tkA, hy]
    obtain ⟨hx1, hx2⟩ := List.getElem?_eq_some_iff.1 hse
    have hym := List.mem_of_getElem? hy
    have hyk := hs.text y hym
    have hlt' : (i : Int) < (l.length : Int) := by omega
    have hpn : (txsOf (l.take i)).length = i := by simp [txsOf, Nat.min_eq_left hi]
    have hpe : txsOf (l.take (i + 1)) = txsOf (l.take i) ++ [textOf y.1 y.2.1] := by simp [txsOf, List.take_add_one, hy]
    have hL := txt1_set hlt
    have hget := txt1_get hlt
    obtain ⟨hg1, hg2⟩ := List.getElem?_eq_some_iff.1 hget
    have hgl : (txt1 (txsOf (l.take i) ++ List.replicate (l.length - i) [])).length = l.length := by rw [hts]; simp [hpn]; omega
    simp [h10, h11, h12, hlt, hlt', hx1, hx2]
    refine ac_same (tright_ok y.1 y.2.2 y.2.1 (by omega)) (by simp [tokA]) ?_
    rintro r rfl
    by_cases hr : rightB y.1 y.2.2 y.2.1 = true
    · have har' : allRight (l.take (i + 1)) = true := by
        have : allRight (l.take (i + 1)) = (allRight (l.take i) && rightB y.1 y.2.2 y.2.1) := by simp [allRight, List.take_add_one, hy]
        rw [this, har, hr]; rfl
      simp [hr, h4, h10, h11, h12]
      refine ac_same (ttext_ok y.1 y.2.2 y.2.1 (by omega)) (by simp [tokA]) ?_
      rintro r rfl
      simp [h4, h12, hwi, hgl, hlt, hg2, hget, hL]
      refine nx_intro (l.length - (i + 1)) (by omega) ⟨i + 1, tl ++ [.var 39 [.int .i64 y.1, .str y.2.1, .int .i64 y.2.2]], rfl, by omega, har', by simp [h4], by simp [h10], by simp [h11], by simp, ?_⟩
      rw [hpe]
      simp
    · have := allRight_false hym hr
      simp [hr, joinAV, this]
  · have hil : i = l.length := by omega
    subst hil
    have e : l.take l.length = l := List.take_of_length_le (Nat.le_refl _)
    have hjl := hs.join l.length
    rw [e] at har hjl
    have hlt' : ¬ (l.length : Int) < (l.length : Int) := by omega
    simp [h4, h11, h12, hlt, hlt', e]
    refine ac_lent (join1_ok 32 (txsOf l) (by unfold jT at hjl; omega) (by rw [hpl]; omega)) (.cons (.row 0 l.length 9 1 (txt1 (txsOf l)) false rfl (by rw [hts, hpl]) (.inr ⟨rfl, ?_⟩)) (.cons (.pure _ (by simp)) .nil)) ?_
    · intro c hc x hx
      simp only [txt1, List.mem_map] at hc
      obtain ⟨y, _, rfl⟩ := hc
      simp at hx
      subst hx
      simp
    rintro r rfl
    refine ⟨by simp, ?_⟩
    simp [joinAV, har, jT]
end Go.Proofs.YtkclehdmdnfikaaDoor
