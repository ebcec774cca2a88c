/- Numbers over time: a series' value at a time, its known values (both). strings.ReplaceAll of quotes. Quotes that are doubled, plainly. Numbers over time: lines of values (both). Numbers over time: the document's Print, Row, At. Numbers over time: the document's At; the law SeriesAsks. The package's variables that Row reads: the table of powers, and the greatest length of a needle, whatever it is. -/
import Derived.Test.YtipncibiodfmdaaGreatDoorSeF
import Derived.Test.YtipncibiodfmdaaGreatDoorSeD
import Derived.Lib.ReplaceLaws
import Derived.Test.YtipncibiodfmdaaGreatDoorSeE
import Derived.Test.YtipncibiodfmdaaGreatDoorWri
import Derived.Test.YtipncibiodfmdaaGreatDoorDcO
import Derived.Test.YtipncibiodfmdaaGreatDoorDcP
import Derived.Test.YtipncibiodfmdaaGreatDoorSeK
import Derived.Test.YtipncibiodfmdaaGreatDoorSeL
import Derived.Shelf.Vars
section
set_option linter.unusedSimpArgs false
set_option linter.unusedVariables false
set_option linter.constructorNameAsVariable false
set_option maxHeartbeats 2000000
namespace Go.Ser
open Go.Num
def atS (s : Sr) (t : Int) : N := if rightS s = true ∧ s.start ≤ t ∧ t < endS s then s.vals.getD ((t - s.start) / s.step).toNat nothing else nothing
theorem at_idx {s : Sr} (h : SrR s) {t : Int} (h0 : s.start ≤ t) (h1 : t < endS s) : 0 ≤ (t - s.start) / s.step ∧ ((t - s.start) / s.step).toNat < s.vals.length := by
  have hp := h.p0
  have e0 : 0 ≤ (t - s.start) / s.step := Int.ediv_nonneg (by omega) (by omega)
  have e1 : (t - s.start) / s.step < s.vals.length := by
    refine Int.ediv_lt_of_lt_mul (by omega) ?_
    unfold endS at h1
    rw [Int.mul_comm]
    omega
  omega
end Go.Ser
namespace Go.Proofs.YtipncibiodfmdaaGreatDoor
open Go.Abs Go.Num Go.Ser
variable {G : Globs}
theorem sKnown_ok (s : Sr) (h : SrOk s) : PCalls Tryz.prog n_series_Known [srA s] (fun r => r = .lst (numEls (if rightS s = true then known s.vals else []))) := by
  refine pcalls_of_awp hmix c_series_Known rfl ?_
  have kR := sRight_ok (G := G) s h
  rw [srA_eq s] at kR ⊢
  simp [a_series_Known]
  refine ac_same kR (by simp) ?_
  rintro r rfl
  cases hr : rightS s with
  | false => simp [numEls]
  | true =>
    have kK := known_ok (G := G) s.vals h.vs (by have := (right_iff.1 hr).vl; omega)
    simp
    refine ac_same kK (by simp) ?_
    rintro r rfl
    simp
theorem rsKnown_ok (s : Sr) (h : SrOk s) : PCalls Tryz.prog n_isobarref24_Known [srA s] (fun r => r = .lst (numEls (if rightS s = true then known s.vals else []))) := by
  refine pcalls_of_awp hmix c_isobarref24_Known rfl ?_
  have kR := rsRight_ok (G := G) s h
  rw [srA_eq s] at kR ⊢
  simp [a_isobarref24_Known]
  refine ac_same kR (by simp) ?_
  rintro r rfl
  cases hr : rightS s with
  | false => simp [numEls]
  | true =>
    have kK := rKnown_ok (G := G) s.vals h.vs (by have := (right_iff.1 hr).vl; omega)
    simp
    refine ac_same kK (by simp) ?_
    rintro r rfl
    simp
theorem sAt_ok (s : Sr) (h : SrOk s) (t : Int) (h0 : -9223372036854775808 ≤ t) (h1 : t ≤ 9223372036854775807) : PCalls Tryz.prog n_series_At [srA s, .int .i64 t] (fun r => r = numA (atS s t)) := by
  refine pcalls_of_awp hmix c_series_At rfl ?_
  have kR := sRight_ok (G := G) s h
  rw [srA_eq s] at kR ⊢
  simp [a_series_At]
  refine ac_same kR (by simp) ?_
  rintro r rfl
  cases hr : rightS s with
  | false => simp [atS, hr, numA_eq, nothing, splice]
  | true =>
    have hR := right_iff.1 hr
    have kE := send_ok (G := G) s hR
    rw [srA_eq s] at kE
    by_cases hlt : t < s.start
    · have : ¬ s.start ≤ t := by omega
      simp [atS, hr, hlt, this, numA_eq, nothing, splice]
    · have hlt' : s.start ≤ t := by omega
      simp [hlt, hlt']
      refine ac_same kE (by simp) ?_
      rintro r rfl
      by_cases hge : endS s ≤ t
      · have : ¬ t < endS s := by omega
        simp [atS, hr, hge, this, numA_eq, nothing, splice]
      · have hte : t < endS s := by omega
        obtain ⟨i0, i1⟩ := at_idx hR hlt' hte
        have hp0 := hR.p0
        have hs0 := hR.s0
        have hs1 := hR.s1
        obtain ⟨e1, e2, _, _⟩ := end_bd hR
        obtain ⟨k, hk⟩ : ∃ k : Nat, (k : Int) = (t - s.start) / s.step := ⟨_, Int.toNat_of_nonneg i0⟩
        have hkn : ((t - s.start) / s.step).toNat = k := by omega
        rw [hkn] at i1
        have w1 : IntKind.i64.wrap (t - s.start) = t - s.start := wrap_i64 (by omega) (by omega)
        have htd : (t - s.start).tdiv s.step = k := by rw [hk]; exact Int.tdiv_eq_ediv_of_nonneg (by omega)
        have hvl := hR.vl
        have w2 : IntKind.i64.wrap (k : Int) = k := wrap_i64 (by omega) (by omega)
        have hps : ¬ s.step = 0 := by omega
        obtain ⟨y, hy⟩ : ∃ y, s.vals[k]? = some y := ⟨_, List.getElem?_eq_getElem i1⟩
        have hse := numEls_get hy
        obtain ⟨hx1, hx2⟩ := List.getElem?_eq_some_iff.1 hse
        have hat : atS s t = y := by
          unfold atS
          rw [if_pos ⟨hr, hlt', hte⟩, hkn, List.getD_eq_getElem?_getD, hy]
          rfl
        simp [hge, w1, htd, w2, hps, hx1, hx2, hat, numA_eq, splice]
end Go.Proofs.YtipncibiodfmdaaGreatDoor
end

section
set_option linter.unusedSimpArgs false
set_option linter.unusedVariables false
set_option linter.constructorNameAsVariable false
namespace Go.Proofs.YtipncibiodfmdaaGreatDoor
open Go.Abs Go.Num Go.Ser
variable {G : Globs}
class GMax [Globs] : Prop where
  mx : ∃ m : Int, (3, [AV.int .i64 m]) ∈ Globs.tab
theorem quotes_ok [GMax] (s : List UInt8) (hs : s.length ≤ 100000) (hc : Lib.countB ⟨s.toArray⟩ ⟨#[34]⟩ ≤ 100001) : PCalls Tryz.prog 42 [.str s, .str [34], .str [34, 34]] (fun r => r = .str (Lib.replaceAll s [34] [34, 34])) :=
  pcalls3 fun base κ Im w v u x hSR h1 h2 h3 => by
    have e1 := h1.str_inv
    have e2 := h2.str_inv
    have e3 := h3.str_inv
    subst e1 e2 e3
    obtain ⟨m, hm⟩ := GMax.mx
    obtain ⟨vals, hcl, hv⟩ := glob_cell hSR hm
    have hcell : w.cell? ⟨3, 0, none⟩ = some (.int .i64 m) := by
      have g1 := hcl 0 (by simp)
      have g2 := hv 0 (by simp)
      simp only [List.getElem_cons_zero] at g2
      generalize vals 0 = y at g1 g2
      cases g2
      exact g1
    refine (Tryz.strings_ReplaceAll ⟨s.toArray⟩ ⟨#[34]⟩ ⟨#[34, 34]⟩ m w (by show s.toArray.size < _; simp; omega) hcell (by decide) (by
      show s.toArray.size + _ * 2 ≤ _
      simp; omega)).mono ?_
    rintro e w' ⟨rfl, hb⟩
    exact ⟨.str _, _, rfl, rfl, hb, fun Im' => by simpa using IR.str _⟩
end Go.Proofs.YtipncibiodfmdaaGreatDoor
end

section
set_option linter.unusedSimpArgs false
set_option linter.unusedVariables false
set_option linter.constructorNameAsVariable false
namespace Go.Ser
/-- A text, each of its quotes twice. -/
def dq (s : List UInt8) : List UInt8 := s.flatMap fun c => if c = 34 then [34, 34] else [c]
theorem dq_cons (c : UInt8) (l : List UInt8) : dq (c :: l) = (if c = 34 then [34, 34] else [c]) ++ dq l := rfl
theorem dq_snoc (l : List UInt8) (c : UInt8) : dq (l ++ [c]) = dq l ++ (if c = 34 then [34, 34] else [c]) := by simp [dq, List.flatMap_append]
theorem dq_len : ∀ l : List UInt8, (dq l).length ≤ 2 * l.length
  | [] => by simp [dq]
  | c :: l => by
    have := dq_len l
    rw [dq_cons]
    split <;> simp <;> omega
theorem dq_index : ∀ l : List UInt8, (Lib.index l [34] = -1 ∧ dq l = l) ∨ ∃ i : Nat, Lib.index l [34] = i ∧ i < l.length ∧ dq l = l.take i ++ [34, 34] ++ dq (l.drop (i + 1))
  | [] => .inl ⟨rfl, rfl⟩
  | c :: l => by
    by_cases hc : c = 34
    · subst hc
      exact .inr ⟨0, rfl, by simp, by simp [dq_cons]⟩
    · have hp : ([34] : List UInt8).isPrefixOf (c :: l) = false := by simp [List.isPrefixOf, Ne.symm hc]
      rcases dq_index l with ⟨h1, h2⟩ | ⟨i, h1, h2, h3⟩
      · left
        constructor
        · unfold Lib.index; rw [hp, h1]; rfl
        · rw [dq_cons, h2]; simp [hc]
      · right
        refine ⟨i + 1, ?_, by simpa using h2, ?_⟩
        · unfold Lib.index; rw [hp, h1]
          have : ((i : Int) == -1) = false := by simp
          simp [this]
        · rw [dq_cons, h3]; simp [hc]
theorem dq_replace : ∀ (n : Nat) (s : List UInt8), s.length ≤ n → Lib.replaceK [34] [34, 34] (Lib.count s [34]) s = dq s
  | n, s, hn => by
    rcases dq_index s with ⟨h1, h2⟩ | ⟨i, h1, h2, h3⟩
    · rw [Lib.count_miss h1, h2]; rfl
    · rw [Lib.count_hit (by simp) h1, Nat.add_comm, Lib.replaceK_hit _ _ _ _ _ h1, h3]
      match n, hn with
      | 0, hn => omega
      | n + 1, hn => rw [show i + ([34] : List UInt8).length = i + 1 from rfl, dq_replace n (s.drop (i + 1)) (by simp; omega)]
theorem dq_all (s : List UInt8) : Lib.replaceAll s [34] [34, 34] = dq s := by
  unfold Lib.replaceAll Lib.replace Lib.replaceNum
  have h1 : (([34] : List UInt8) == [34, 34]) = false := by decide
  rw [h1]
  simp only [Bool.false_eq_true, if_false]
  rw [if_pos (by omega)]
  exact dq_replace _ s (Nat.le_refl _)
theorem dq_count (s : List UInt8) : Lib.countB ⟨s.toArray⟩ ⟨#[34]⟩ ≤ s.length := by
  have := Lib.countB_mul_le ⟨#[34]⟩ (by decide) s.length ⟨s.toArray⟩ (by show s.toArray.size ≤ _; simp)
  have h2 : (⟨s.toArray⟩ : ByteArray).size = s.length := by show s.toArray.size = _; simp
  rw [h2] at this
  have h3 : (⟨#[34]⟩ : ByteArray).size = 1 := rfl
  rw [h3] at this
  omega
end Go.Ser
end

section
set_option linter.unusedSimpArgs false
set_option linter.unusedVariables false
set_option linter.constructorNameAsVariable false
set_option maxHeartbeats 4000000
namespace Go.Ser
open Go.Abs Go.Num Go.Dec
def rowLine (s : Sr) (i : Nat) (n : N) : List UInt8 := (34 :: dq s.name ++ [34, 44]) ++ Lib.itoa (s.start + i * s.step) ++ [44] ++ (if n.1 then [] else prn n.1 n.2) ++ [10]
def rowsTo (s : Sr) (k : Nat) : List UInt8 := (List.range k).flatMap fun i => rowLine s i (s.vals.getD i nothing)
def rowS (s : Sr) : List UInt8 := rowsTo s s.vals.length
theorem rowsTo_step (s : Sr) (k : Nat) {n : N} (h : s.vals[k]? = some n) : rowsTo s (k + 1) = rowsTo s k ++ rowLine s k n := by
  unfold rowsTo
  rw [List.range_succ, List.flatMap_append]
  simp [List.getD_eq_getElem?_getD, h]
theorem row_time {s : Sr} (h : SrR s) {k : Nat} (hk : k ≤ s.vals.length) : 0 ≤ s.start + (k : Int) * s.step ∧ s.start + (k : Int) * s.step ≤ 2000000000000 ∧ 0 ≤ (k : Int) * s.step ∧ (k : Int) * s.step ≤ 172800000 := by
  have h1 : (k : Int) * s.step ≤ 2000 * 86400 := Int.mul_le_mul (by have := h.vl; omega) h.p1 (by have := h.p0; omega) (by decide)
  have h2 : 0 ≤ (k : Int) * s.step := Int.mul_nonneg (Int.natCast_nonneg _) (by have := h.p0; omega)
  have := h.s0
  have := h.s1
  omega
theorem rowLine_len {s : Sr} (h : SrR s) {k : Nat} (hk : k ≤ s.vals.length) {n : N} (hn : okN n) : (rowLine s k n).length ≤ 900 := by
  obtain ⟨t0, t1, _, _⟩ := row_time h hk
  have h1 := itoa_le (n := s.start + (k : Int) * s.step) (by omega) (by omega)
  have h2 := dq_len s.name
  have h3 := h.nm
  have h4 := prn_le21 n.1 hn.1 hn.2
  unfold rowLine
  split <;> simp <;> omega
theorem rowsTo_len {s : Sr} (h : SrR s) (hv : oksN s.vals) : ∀ k, k ≤ s.vals.length → (rowsTo s k).length ≤ 900 * k
  | 0, _ => by simp [rowsTo]
  | k + 1, hk => by
    have h1 := rowsTo_len h hv k (by omega)
    have h2 := rowLine_len h (k := k) (by omega) (hv _ (List.getElem_mem (show k < s.vals.length by omega)))
    rw [rowsTo_step s k (List.getElem?_eq_getElem (show k < s.vals.length by omega))]
    simp; omega
end Go.Ser
namespace Go.Proofs.YtipncibiodfmdaaGreatDoor
open Go.Abs Go.Num Go.Ser Go.Dec
variable {G : Globs}
theorem sRow_ok [GPow] [GMax] (s : Sr) (h : SrOk s) : PCalls Tryz.prog n_series_Row [srA s] (fun r => r = if rightS s = true then .tup [.str (rowS s), .int .i64 0] else .tup [.str [], .int .i64 1]) := by
  refine pcalls_of_awp hmix c_series_Row rfl ?_
  have kR := sRight_ok (G := G) s h
  rw [srA_eq s] at kR ⊢
  simp [a_series_Row]
  refine ac_same kR (by simp) ?_
  rintro r rfl
  cases hr : rightS s with
  | false => simp
  | true =>
    have hR := right_iff.1 hr
    have hnm := hR.nm
    have hvl := hR.vl
    have hdl := dq_len s.name
    have kQ := quotes_ok (G := G) s.name (by omega) (by have := dq_count s.name; omega)
    rw [dq_all] at kQ
    have hlen := numEls_len s.vals
    obtain ⟨D, hD⟩ : ∃ D, D = dq s.name := ⟨_, rfl⟩
    rw [← hD] at kQ hdl
    have d1 : 1 + D.length ≤ 9223372036854775807 := by omega
    have d2 : D.length + 1 ≤ 9223372036854775807 := by omega
    have d3 : D.length + 1 + 2 ≤ 9223372036854775807 := by omega
    simp
    refine ac_same kQ (by simp) ?_
    rintro r rfl
    have d4 : D.length ≤ 9223372036854775804 := by omega
    have d5 : D.length ≤ 9223372036854775806 := by omega
    simp [d1, d2, d3, d4, d5, hlen]
    refine lp_startx (fun x f σ => ∃ k : Nat, x = s.vals.length - k ∧ k ≤ s.vals.length ∧ f 1 = .ptr 0 0 ∧ f 4 = .ptr 1 0 ∧ f 5 = .str (34 :: (D ++ [34, 44])) ∧ f 17 = .lst (numEls s.vals) ∧ f 18 = .int .i64 s.vals.length ∧ f 19 = .int .i64 k ∧
      σ[0]? = some (.var 24 [.str s.name, .int .i64 s.start, .int .i64 s.step, .lst (numEls s.vals)]) ∧ BldAt 60 5 2 σ 1 (rowsTo s k) ∧ 2 ≤ σ.length) s.vals.length ?_ ?_
    · exact ⟨0, rfl, by omega, by simp, by simp, by simp, by simp, by simp, by simp, by simp, ⟨.nilp, .nils, by simp, .inl rfl, .inl ⟨rfl, by simp [rowsTo]⟩⟩, by simp⟩
    rintro x f σ ⟨k, rfl, hk, f1, f4, f5, f17, f18, f19, h0, hb, h2⟩
    simp [f18, f19]
    refine cb_dec (fun hlt => ?_) (fun hge => ?_)
    · have hlt' : k < s.vals.length := by omega
      obtain ⟨y, hy⟩ : ∃ y, s.vals[k]? = some y := ⟨_, List.getElem?_eq_getElem hlt'⟩
      have hse := numEls_get hy
      obtain ⟨hx1, hx2⟩ := List.getElem?_eq_some_iff.1 hse
      have hyo := h.vs y (List.mem_of_getElem? hy)
      have hstep := rowsTo_step s k hy
      have hrl := rowsTo_len hR h.vs k hk
      obtain ⟨R0, hR0⟩ : ∃ R0, R0 = rowsTo s k := ⟨_, rfl⟩
      rw [← hR0] at hstep hrl hb
      obtain ⟨t0, t1, t2, t3⟩ := row_time hR (k := k) hk
      have w1 : IntKind.i64.wrap ((k : Int) * s.step) = k * s.step := wrap_i64 (by omega) (by omega)
      have w2 : IntKind.i64.wrap (s.start + (k : Int) * s.step) = s.start + k * s.step := wrap_i64 (by omega) (by omega)
      have w3 : IntKind.i64.wrap ((k : Int) + 1) = (k : Int) + 1 := wrap_i64 (by omega) (by omega)
      obtain ⟨tm, htm⟩ : ∃ tm, tm = s.start + (k : Int) * s.step := ⟨_, rfl⟩
      have hil := itoa_le (n := tm) (by omega) (by omega)
      have kI := sItoa_ok (G := G) tm (by omega) (by omega)
      have hpl := prn_le21 y.1 hyo.1 hyo.2
      have kP := dPrint_ok (G := G) y.1 y.2 hyo.1 hyo.2
      have hne : ∀ n : Nat, n < σ.length → (σ ++ [Entry.var 33 [.bool y.1, .int .i64 y.2]])[n]? = σ[n]? := fun n hn => List.getElem?_append_left hn
      have hlast : (σ ++ [Entry.var 33 [.bool y.1, .int .i64 y.2]])[σ.length]? = some (Entry.var 33 [.bool y.1, .int .i64 y.2]) := by simp
      replace w2 : IntKind.i64.wrap (s.start + (k : Int) * s.step) = tm := by rw [w2, htm]
      have hline : rowLine s k y = (34 :: (D ++ [34, 44])) ++ Lib.itoa tm ++ [44] ++ (if y.1 then [] else prn y.1 y.2) ++ [10] := by rw [rowLine, ← hD, ← htm]; simp
      simp [f1, f4, f5, f17, f19, hlen, hx1, hx2, hlt']
      refine ac_eff (bwStr_ok (BldAt.more2 hb) (by simp; omega) (by omega) (by simp; omega)) ?_
      rintro r σ1 ⟨rfl, hb1, hl1, _, hv1⟩
      have g0 := hv1 0 _ _ (by omega) ((hne 0 (by omega)).trans h0)
      have gp := hv1 σ.length _ _ (by omega) hlast
      simp [f1, g0, w1, w2]
      refine ac_same kI (by simp) ?_
      rintro r rfl
      simp [f4]
      refine ac_eff (bwStr_ok hb1 (by simp at hl1; omega) (by omega) (by simp; omega)) ?_
      rintro r σ2 ⟨rfl, hb2, hl2, _, hv2⟩
      have g0 := hv2 0 _ _ (by omega) g0
      have gp := hv2 σ.length _ _ (by omega) gp
      simp [f4]
      refine ac_eff (bwByte_ok 44 rfl hb2 (by simp at hl1; omega) (by omega) (by simp; omega)) ?_
      rintro r σ3 ⟨rfl, hb3, hl3, _, hv3⟩
      have g0 := hv3 0 _ _ (by omega) g0
      have gp := hv3 σ.length _ _ (by omega) gp
      simp [gp]
      cases hy1 : y.1 with
      | true =>
        rw [hy1] at hline
        simp [f4]
        refine ac_eff (bwByte_ok 10 rfl hb3 (by simp at hl1; omega) (by omega) (by simp; omega)) ?_
        rintro r σ4 ⟨rfl, hb4, hl4, _, hv4⟩
        have g0 := hv4 0 _ _ (by omega) g0
        simp [f19, w3]
        refine nx_intro (s.vals.length - (k + 1)) (by omega) ⟨k + 1, rfl, by omega, by simp [f1], by simp [f4], by simp [f5], by simp [f17], by simp [f18], by simp, g0, ?_, by simp at hl1; omega⟩
        rw [hstep, hline]
        simpa [List.append_assoc] using hb4
      | false =>
        rw [hy1] at hline kP hpl
        simp [gp, hy1]
        refine ac_same kP (by simp) ?_
        rintro r rfl
        simp [f4]
        refine ac_eff (bwStr_ok hb3 (by simp at hl1; omega) (by omega) (by simp; omega)) ?_
        rintro r σ4 ⟨rfl, hb4, hl4, _, hv4⟩
        have g0 := hv4 0 _ _ (by omega) g0
        simp [f4]
        refine ac_eff (bwByte_ok 10 rfl hb4 (by simp at hl1; omega) (by omega) (by simp; omega)) ?_
        rintro r σ5 ⟨rfl, hb5, hl5, _, hv5⟩
        have g0 := hv5 0 _ _ (by omega) g0
        simp [f19, w3]
        refine nx_intro (s.vals.length - (k + 1)) (by omega) ⟨k + 1, rfl, by omega, by simp [f1], by simp [f4], by simp [f5], by simp [f17], by simp [f18], by simp, g0, ?_, by simp at hl1; omega⟩
        rw [hstep, hline]
        simpa [List.append_assoc] using hb5
    · have ek : k = s.vals.length := by omega
      subst ek
      simp [f4]
      refine ac_eff (string_ok Tryz.lays169 Tryz.Builder_Extra_169 hb) ?_
      rintro r σ2 ⟨rfl, hl2, hk2⟩
      simp [rowS]
end Go.Proofs.YtipncibiodfmdaaGreatDoor
end

section
set_option linter.unusedSimpArgs false
set_option linter.unusedVariables false
set_option linter.constructorNameAsVariable false
set_option maxHeartbeats 4000000
namespace Go.Proofs.YtipncibiodfmdaaGreatDoor
open Go.Abs Go.Num Go.Ser Go.Dec
variable {G : Globs}
/-- Two texts, one behind the other, where there is room. -/
theorem ob_cat {K : AV → Prop} {t : Tg K} {a b : List UInt8} (h : a.length + b.length ≤ 9223372036854775807) (hK : K (.str (a ++ b))) : ob K t (abin .add (.str a) (.str b)) := ⟨_, by simp only [abin]; rw [if_pos h], hK⟩
/-- A step that yields something where there is room. -/
theorem ob_if {K : AV → Prop} {t : Tg K} {c : Prop} [Decidable c] {v : AV} (h : c) (hK : K v) : ob K t (if c then some v else none) := ⟨v, if_pos h, hK⟩
theorem rsPrint_ok (s : Sr) (h : SrOk s) : PCalls Tryz.prog n_isobarref24_Print [srA s] (fun r => r = if rightS s = true then .tup [.str (printS s), .int .i64 0] else .tup [.str [], .int .i64 1]) := by
  refine pcalls_of_awp hmix c_isobarref24_Print rfl ?_
  have kR := rsRight_ok (G := G) s h
  have kE := rsEnd_ok (G := G) s h
  rw [srA_eq s] at kR kE ⊢
  simp [a_isobarref24_Print]
  refine ac_same kR (by simp) ?_
  rintro r rfl
  cases hr : rightS s with
  | false => simp
  | true =>
    have hR := right_iff.1 hr
    rw [if_pos hr] at kE
    have hp0 := hR.p0
    have hp1 := hR.p1
    have hs0 := hR.s0
    have hs1 := hR.s1
    have hnm := hR.nm
    obtain ⟨e1, e2, e3, e4⟩ := end_bd hR
    obtain ⟨a, ha⟩ := Int.eq_ofNat_of_zero_le hs0
    obtain ⟨b, hb⟩ := Int.eq_ofNat_of_zero_le (show 0 ≤ endS s by omega)
    obtain ⟨c, hc⟩ := Int.eq_ofNat_of_zero_le (show 0 ≤ s.step by omega)
    have l1 := itoa_le (n := s.start) (by omega) (by omega)
    have l2 := itoa_le (n := endS s) (by omega) (by omega)
    have l3 := itoa_le (n := s.step) (by omega) (by omega)
    have k1 := rDigits_ok (G := G) a (by omega)
    have k2 := rDigits_ok (G := G) b (by omega)
    have k3 := rDigits_ok (G := G) c (by omega)
    have w1 : IntKind.u64.wrap s.start = (a : Int) := by rw [wrap_u, ha]; omega
    have w2 : IntKind.u64.wrap (endS s) = (b : Int) := by rw [wrap_u, hb]; omega
    have w3 : IntKind.u64.wrap s.step = (c : Int) := by rw [wrap_u, hc]; omega
    have hdj : (Lib.join (prns s.vals) [44]).length ≤ 44000 := by
      have h1 := join_len22 (prns s.vals) (prns_le fun x hx => h.vs x hx)
      have h2 : (prns s.vals).length = s.vals.length := by simp [prns]
      have := hR.vl
      omega
    have kD := rJoin_ok (G := G) s.vals (by have := hR.vl; omega) (fun x hx => h.vs x hx)
    have hps : printS s = s.name ++ [44] ++ Lib.decDigits a ++ [44] ++ Lib.decDigits b ++ [44] ++ Lib.decDigits c ++ [124] ++ Lib.join (prns s.vals) [44] := by
      rw [printS, ha, hb, hc, itoa_nat, itoa_nat, itoa_nat]
      simp [Lib.join, Lib.joinTail]
    rw [ha, itoa_nat] at l1
    rw [hb, itoa_nat] at l2
    rw [hc, itoa_nat] at l3
    obtain ⟨A, hA⟩ : ∃ A, A = Lib.decDigits a := ⟨_, rfl⟩
    obtain ⟨B, hB⟩ : ∃ B, B = Lib.decDigits b := ⟨_, rfl⟩
    obtain ⟨C, hC⟩ : ∃ C, C = Lib.decDigits c := ⟨_, rfl⟩
    obtain ⟨D, hD⟩ : ∃ D, D = Lib.join (prns s.vals) [44] := ⟨_, rfl⟩
    rw [← hA] at k1 l1 hps
    rw [← hB] at k2 l2 hps
    rw [← hC] at k3 l3 hps
    rw [← hD] at kD hdj hps
    rw [hps]
    simp [-abin]
    refine ob_cat (by simp; omega) ?_
    simp [-abin, w1]
    refine qc_same k1 (by simp) (by simp) ?_
    simp [-abin]
    refine ob_cat (by simp; omega) ?_
    simp [-abin]
    refine ob_cat (by simp; omega) ?_
    simp [-abin]
    refine qc_same kE (by simp) (by simp) ?_
    simp [-abin, w2]
    refine qc_same k2 (by simp) (by simp) ?_
    simp [-abin]
    refine ob_cat (by simp; omega) ?_
    simp [-abin]
    refine ob_cat (by simp; omega) ?_
    simp [-abin, w3]
    refine qc_same k3 (by simp) (by simp) ?_
    simp [-abin]
    refine ob_cat (by simp; omega) ?_
    simp [-abin]
    refine ob_cat (by simp; omega) ?_
    simp [-abin]
    refine qc_same kD (by simp) (by simp) ?_
    simp [-abin]
    refine ob_cat (by simp; omega) ?_
    simp [-abin]
theorem rsRow_ok (s : Sr) (h : SrOk s) : PCalls Tryz.prog n_isobarref24_Row [srA s] (fun r => r = if rightS s = true then .tup [.str (rowS s), .int .i64 0] else .tup [.str [], .int .i64 1]) := by
  refine pcalls_of_awp hmix c_isobarref24_Row rfl ?_
  have kR := rsRight_ok (G := G) s h
  rw [srA_eq s] at kR ⊢
  simp [a_isobarref24_Row]
  refine ac_same kR (by simp) ?_
  rintro r rfl
  cases hr : rightS s with
  | false => simp
  | true =>
    have hR := right_iff.1 hr
    have hnm := hR.nm
    have hvl := hR.vl
    have hlen := numEls_len s.vals
    simp
    refine lp_startx (fun x f σ => ∃ k : Nat, x = s.name.length - k ∧ k ≤ s.name.length ∧ f 1 = .ptr 0 0 ∧ f 4 = .str (dq (s.name.take k)) ∧ f 5 = .int .i64 k ∧
      σ = [.var 24 [.str s.name, .int .i64 s.start, .int .i64 s.step, .lst (numEls s.vals)]]) s.name.length ?_ ?_
    · exact ⟨0, rfl, by omega, by simp, by simp [dq], by simp, rfl⟩
    rintro x f σ ⟨k, rfl, hk, f1, f4, f5, rfl⟩
    simp [f1, f5]
    refine cb_dec (fun hlt => ?_) (fun hge => ?_)
    · have hlt' : k < s.name.length := by omega
      obtain ⟨c, hc⟩ : ∃ c, s.name[k]? = some c := ⟨_, List.getElem?_eq_getElem hlt'⟩
      obtain ⟨hx1, hx2⟩ := List.getElem?_eq_some_iff.1 hc
      have hdl := dq_len (s.name.take k)
      rw [List.length_take] at hdl
      have hw : IntKind.i64.wrap ((k : Int) + 1) = (k : Int) + 1 := wrap_i64 (by omega) (by omega)
      have hsl : List.drop k (List.take (k + 1) s.name) = [c] := by
        rw [List.take_add_one, hc, List.drop_append_of_le_length (by simp; omega)]
        simp
      have hst : dq (s.name.take (k + 1)) = dq (s.name.take k) ++ (if c = 34 then [34, 34] else [c]) := by
        rw [List.take_add_one, hc]; exact dq_snoc _ _
      have h01 : (0 : Int) ≤ (k : Int) + 1 := by omega
      have h02 : (k : Int) ≤ (k : Int) + 1 := by omega
      have h03 : k + 1 ≤ s.name.length := by omega
      obtain ⟨Q, hQ⟩ : ∃ Q, Q = dq (s.name.take k) := ⟨_, rfl⟩
      rw [← hQ] at hst hdl f4
      have q1 : Q.length ≤ 9223372036854775806 := by omega
      have q2 : Q.length ≤ 9223372036854775805 := by omega
      by_cases hq : c = 34
      · subst hq
        simp [f1, f4, f5, hc, hw, h01, h02, h03, hsl, q1, q2]
        refine nx_intro (s.name.length - (k + 1)) (by omega) ⟨k + 1, rfl, by omega, by simp [f1], by simp [hst], by simp, rfl⟩
      · have hq' : ¬ ((c.toNat : Nat) : Int) = 34 := fun h => hq (by apply UInt8.toNat_inj.1; show c.toNat = 34; omega)
        simp [f1, f4, f5, hc, hw, h01, h02, h03, hsl, q1, q2, hq, hq']
        refine nx_intro (s.name.length - (k + 1)) (by omega) ⟨k + 1, rfl, by omega, by simp [f1], by simp [hst, hq], by simp, rfl⟩
    have ek : k = s.name.length := by omega
    subst ek
    rw [List.take_length] at f4
    have hdl := dq_len s.name
    obtain ⟨D, hD⟩ : ∃ D, D = dq s.name := ⟨_, rfl⟩
    rw [← hD] at hdl f4
    simp [bytesOf]
    refine lp_startx (fun x f σ => ∃ k : Nat, x = s.vals.length - k ∧ k ≤ s.vals.length ∧ f 1 = .ptr 0 0 ∧ f 4 = .str D ∧ f 6 = .str [34] ∧ f 7 = .str (rowsTo s k) ∧ f 8 = .int .i64 k ∧
      σ = [.var 24 [.str s.name, .int .i64 s.start, .int .i64 s.step, .lst (numEls s.vals)]]) s.vals.length ?_ ?_
    · exact ⟨0, rfl, by omega, by simp [f1], by simp [f4], by simp, by simp [rowsTo], by simp, rfl⟩
    clear f1 f4 f5 hge hk f
    rintro x f σ ⟨k, rfl, hk, f1, f4, f6, f7, f8, rfl⟩
    simp [f1, f8, hlen]
    refine cb_dec (fun hlt => ?_) (fun hge => ?_)
    · have hlt' : k < s.vals.length := by omega
      obtain ⟨y, hy⟩ : ∃ y, s.vals[k]? = some y := ⟨_, List.getElem?_eq_getElem hlt'⟩
      have hse := numEls_get hy
      obtain ⟨hx1, hx2⟩ := List.getElem?_eq_some_iff.1 hse
      have hyo := h.vs y (List.mem_of_getElem? hy)
      have hstep := rowsTo_step s k hy
      have hrl := rowsTo_len hR h.vs k hk
      obtain ⟨R0, hR0⟩ : ∃ R0, R0 = rowsTo s k := ⟨_, rfl⟩
      rw [← hR0] at hstep hrl f7
      obtain ⟨t0, t1, t2, t3⟩ := row_time hR (k := k) hk
      have w1 : IntKind.i64.wrap ((k : Int) * s.step) = k * s.step := wrap_i64 (by omega) (by omega)
      have w2 : IntKind.i64.wrap (s.start + (k : Int) * s.step) = s.start + k * s.step := wrap_i64 (by omega) (by omega)
      have w3 : IntKind.i64.wrap ((k : Int) + 1) = (k : Int) + 1 := wrap_i64 (by omega) (by omega)
      obtain ⟨tm, htm⟩ := Int.eq_ofNat_of_zero_le t0
      have w4 : IntKind.u64.wrap (s.start + (k : Int) * s.step) = (tm : Int) := by rw [wrap_u, htm]; omega
      have hil := itoa_le (n := s.start + (k : Int) * s.step) (by omega) (by omega)
      rw [htm, itoa_nat] at hil
      have kI := rDigits_ok (G := G) tm (by omega)
      have hpl := prn_le21 y.1 hyo.1 hyo.2
      have kP := rPrint_ok (G := G) y.1 y.2 hyo.1 hyo.2
      have hline : rowLine s k y = (34 :: (D ++ [34, 44])) ++ Lib.decDigits tm ++ [44] ++ (if y.1 then [] else prn y.1 y.2) ++ [10] := by rw [rowLine, ← hD, htm, itoa_nat]; simp
      obtain ⟨A, hA⟩ : ∃ A, A = Lib.decDigits tm := ⟨_, rfl⟩
      rw [← hA] at hline kI hil
      cases hy1 : y.1 with
      | true =>
        rw [hy1] at hline
        simp [f1, f4, f6, f7, f8, hlen, hx1, hx2, hlt', hy1]
        iterate 3 (refine ob_if (by omega) ?_; simp [f1, f4, f6, f7, f8])
        refine ob_if (by omega) ?_
        simp [f1, f4, f6, f7, f8, w1, w2, w4]
        refine qc_same kI (by simp) (by simp) ?_
        simp
        iterate 2 (refine ob_if (by omega) ?_; simp)
        refine ob_if (by omega) ?_
        simp [bytesOf]
        refine ob_if (by omega) ?_
        simp [f8, w3]
        refine nx_intro (s.vals.length - (k + 1)) (by omega) ⟨k + 1, rfl, by omega, by simp [f1], by simp [f4], by simp [f6], by simp [hstep, hline], by simp, rfl⟩
      | false =>
        rw [hy1] at hline kP hpl
        simp [f1, f4, f6, f7, f8, hlen, hx1, hx2, hlt', hy1]
        refine ac_same kP (by simp) ?_
        rintro r rfl
        simp [f1, f4, f6, f7, f8, hlen]
        iterate 3 (refine ob_if (by omega) ?_; simp [f1, f4, f6, f7, f8])
        refine ob_if (by omega) ?_
        simp [f1, f4, f6, f7, f8, w1, w2, w4]
        refine qc_same kI (by simp) (by simp) ?_
        simp
        iterate 2 (refine ob_if (by omega) ?_; simp)
        refine ob_if (by omega) ?_
        simp [bytesOf]
        refine ob_if (by omega) ?_
        simp [f8, w3]
        refine nx_intro (s.vals.length - (k + 1)) (by omega) ⟨k + 1, rfl, by omega, by simp [f1], by simp [f4], by simp [f6], by simp [hstep, hline], by simp, rfl⟩
    · have ek : k = s.vals.length := by omega
      subst ek
      simp [f7, rowS]
end Go.Proofs.YtipncibiodfmdaaGreatDoor
end

section
set_option linter.unusedSimpArgs false
set_option linter.unusedVariables false
set_option linter.constructorNameAsVariable false
set_option maxHeartbeats 4000000
namespace Go.Proofs.YtipncibiodfmdaaGreatDoor
open Go.Abs Go.Num Go.Ser Go.Dec
variable {G : Globs}
theorem rsAt_ok (s : Sr) (h : SrOk s) (t : Int) (h0 : -9223372036854775808 ≤ t) (h1 : t ≤ 9223372036854775807) : PCalls Tryz.prog n_isobarref24_At [srA s, .int .i64 t] (fun r => r = numA (atS s t)) := by
  refine pcalls_of_awp hmix c_isobarref24_At rfl ?_
  have kR := rsRight_ok (G := G) s h
  rw [srA_eq s] at kR ⊢
  simp [a_isobarref24_At]
  refine ac_same kR (by simp) ?_
  rintro r rfl
  cases hr : rightS s with
  | false =>
    simp
    refine ac_same rNothing_ok (by simp) ?_
    rintro r rfl
    simp [atS, hr, numA_eq, nothing, splice]
  | true =>
    have hR := right_iff.1 hr
    have kE := rsEnd_ok (G := G) s h
    rw [if_pos hr] at kE
    rw [srA_eq s] at kE
    by_cases hlt : t < s.start
    · have : ¬ s.start ≤ t := by omega
      simp [hlt, this]
      refine ac_same rNothing_ok (by simp) ?_
      rintro r rfl
      simp [atS, hr, hlt, this, numA_eq, nothing, splice]
    · have hlt' : s.start ≤ t := by omega
      simp [hlt, hlt']
      refine ac_same kE (by simp) ?_
      rintro r rfl
      by_cases hge : endS s ≤ t
      · have : ¬ t < endS s := by omega
        simp [hge, this]
        refine ac_same rNothing_ok (by simp) ?_
        rintro r rfl
        simp [atS, hr, hge, this, numA_eq, nothing, splice]
      · have hte : t < endS s := by omega
        obtain ⟨i0, i1⟩ := at_idx hR hlt' hte
        have hp0 := hR.p0
        have hs0 := hR.s0
        have hs1 := hR.s1
        obtain ⟨e1, e2, _, _⟩ := end_bd hR
        obtain ⟨k, hk⟩ : ∃ k : Nat, (k : Int) = (t - s.start) / s.step := ⟨_, Int.toNat_of_nonneg i0⟩
        have hkn : ((t - s.start) / s.step).toNat = k := by omega
        rw [hkn] at i1
        have w1 : IntKind.i64.wrap (t - s.start) = t - s.start := wrap_i64 (by omega) (by omega)
        have htd : (t - s.start).tdiv s.step = k := by rw [hk]; exact Int.tdiv_eq_ediv_of_nonneg (by omega)
        have hvl := hR.vl
        have w2 : IntKind.i64.wrap (k : Int) = k := wrap_i64 (by omega) (by omega)
        have hps : ¬ s.step = 0 := by omega
        obtain ⟨y, hy⟩ : ∃ y, s.vals[k]? = some y := ⟨_, List.getElem?_eq_getElem i1⟩
        have hse := numEls_get hy
        obtain ⟨hx1, hx2⟩ := List.getElem?_eq_some_iff.1 hse
        have hat : atS s t = y := by
          unfold atS
          rw [if_pos ⟨hr, hlt', hte⟩, hkn, List.getD_eq_getElem?_getD, hy]
          rfl
        simp [hge, w1, htd, w2, hps, hx1, hx2, hat, numA_eq, splice]
theorem sEnd_ok (s : Sr) (h : SrOk s) : PCalls Tryz.prog n_series_End [srA s] (fun r => r = .int .i64 (if rightS s = true then endS s else 0)) := by
  refine pcalls_of_awp hmix c_series_End rfl ?_
  have kR := sRight_ok (G := G) s h
  rw [srA_eq s] at kR ⊢
  simp [a_series_End]
  refine ac_same kR (by simp) ?_
  rintro r rfl
  cases hr : rightS s with
  | false => simp
  | true =>
    have kE := send_ok (G := G) s (right_iff.1 hr)
    rw [srA_eq s] at kE
    simp
    refine ac_same kE (by simp) ?_
    rintro r rfl
    simp
theorem asks_law [GPow] [GMax] (s : Sr) (h : SrOk s) (t : Int) (h0 : -9223372036854775808 ≤ t) (h1 : t ≤ 9223372036854775807) : PCalls Tryz.prog n_isobarlaw24_SeriesAsks [srA s, .int .i64 t] (fun r => r = .bool true) := by
  refine pcalls_of_awp hmix c_isobarlaw24_SeriesAsks rfl ?_
  have kG : PCalls Tryz.prog n_isobarlaw24_great [srA s] (fun r => r = .bool (decide (2100 < s.vals.length) || decide (2000 < s.name.length))) := by
    refine pcalls_of_awp hmix c_isobarlaw24_great rfl ?_
    rw [srA_eq s]
    have hlen := numEls_len s.vals
    by_cases g1 : 2100 < s.vals.length
    · have g1' : (2100 : Int) < s.vals.length := by omega
      simp [a_isobarlaw24_great, hlen, g1, g1']
    · have g1' : ¬ (2100 : Int) < s.vals.length := by omega
      simp [a_isobarlaw24_great, hlen, g1, g1']
      omega
  have kP := sPrint_ok (G := G) s h
  have kP' := rsPrint_ok (G := G) s h
  have kW := sRow_ok (G := G) s h
  have kW' := rsRow_ok (G := G) s h
  have kR := sRight_ok (G := G) s h
  have kR' := rsRight_ok (G := G) s h
  have kE := sEnd_ok (G := G) s h
  have kE' := rsEnd_ok (G := G) s h
  have kA := sAt_ok (G := G) s h t h0 h1
  have kA' := rsAt_ok (G := G) s h t h0 h1
  have kK := sKnown_ok (G := G) s h
  have kK' := rsKnown_ok (G := G) s h
  rw [srA_eq s] at *
  simp [a_isobarlaw24_SeriesAsks]
  refine ac_same salive_ok (by simp) ?_
  rintro r rfl
  simp
  refine ac_same kG (by simp) ?_
  rintro r rfl
  by_cases g1 : 2100 < s.vals.length
  · simp [g1]
  by_cases g2 : 2000 < s.name.length
  · simp [g2]
  have kC := copy_ok (G := G) s (by omega)
  have kS := sameS_ok (G := G) s (by omega)
  rw [srA_eq s] at kC kS
  simp [g1, g2]
  refine ac_same kC (by simp) ?_
  rintro r rfl
  simp
  obtain ⟨P, c, hP⟩ : ∃ (P : List UInt8) (c : Int), (if rightS s = true then AV.tup [.str (printS s), .int .i64 0] else .tup [.str [], .int .i64 1]) = .tup [.str P, .int .i64 c] := by
    split
    · exact ⟨_, _, rfl⟩
    · exact ⟨_, _, rfl⟩
  obtain ⟨W, d, hW⟩ : ∃ (W : List UInt8) (d : Int), (if rightS s = true then AV.tup [.str (rowS s), .int .i64 0] else .tup [.str [], .int .i64 1]) = .tup [.str W, .int .i64 d] := by
    split
    · exact ⟨_, _, rfl⟩
    · exact ⟨_, _, rfl⟩
  rw [hP] at kP kP'
  rw [hW] at kW kW'
  obtain ⟨e, he⟩ : ∃ e, e = if rightS s = true then endS s else 0 := ⟨_, rfl⟩
  rw [← he] at kE kE'
  obtain ⟨a, ha⟩ : ∃ a, a = atS s t := ⟨_, rfl⟩
  rw [← ha, numA_eq] at kA kA'
  have hkl : (if rightS s = true then known s.vals else []).length ≤ 9223372036854775807 := by
    split
    · have := List.length_filter_le good s.vals
      unfold known; omega
    · simp
  obtain ⟨K, hK⟩ : ∃ K, K = if rightS s = true then known s.vals else [] := ⟨_, rfl⟩
  rw [← hK] at kK kK' hkl
  have kM := same_ok (G := G) K hkl
  refine ac_same kP (by simp) ?_
  rintro r rfl
  simp
  refine ac_same kP' (by simp) ?_
  rintro r rfl
  simp
  refine ac_same kW (by simp) ?_
  rintro r rfl
  simp
  refine ac_same kW' (by simp) ?_
  rintro r rfl
  simp
  refine qc_same kR (by simp) (by simp) ?_
  simp
  refine qc_same kR' (by simp) (by simp) ?_
  simp
  refine qc_same kE (by simp) (by simp) ?_
  simp
  refine qc_same kE' (by simp) (by simp) ?_
  simp
  refine qc_same kA (by simp) (by simp) ?_
  simp
  refine qc_same kA' (by simp) (by simp) ?_
  simp
  refine qc_any kK (by simp) ?_
  simp
  refine qc_any kK' (by simp) ?_
  simp
  refine qc_same kM (by simp) (by simp) ?_
  simp
  refine qc_same kS (by simp) (by simp) ?_
  simp
end Go.Proofs.YtipncibiodfmdaaGreatDoor
end

section
set_option linter.unusedSimpArgs false
set_option linter.unusedVariables false
set_option linter.constructorNameAsVariable false
namespace Go.Proofs.YtipncibiodfmdaaGreatDoor
open Go.ChangeShapes Go.WideShapes Go.ChangeAt Go.RowKit Go.ChangeMaps Go.Abs
abbrev gMx : Nat := 3
abbrev mxGlobs (m : Int) : Globs := ⟨[(gPow, Lib.pow10Tab.map (AV.int .u64)), (gMx, [AV.int .i64 m])]⟩
theorem mxPow (m : Int) : @GPow (mxGlobs m) := @GPow.mk (mxGlobs m) (List.Mem.head _)
theorem mxMax (m : Int) : @GMax (mxGlobs m) := @GMax.mk (mxGlobs m) ⟨m, .tail _ (List.Mem.head _)⟩
theorem mx_var {w : World} (h : w.ShapedOpen Tryz.prog) : ∃ m, w.var? Tryz.prog "internal/bytealg.MaxLen" = some #[.int .i64 m] := by
  obtain ⟨cs, hh, hs, -⟩ := h.1 gMx #[.int .i64 0] 3 (of_decide_eq_true (by kernel_rfl)) (by kernel_rfl)
  obtain ⟨m, hm⟩ := Go.Proofs.cell_of_shapedOpen_int (zero := #[.int .i64 0]) (g := gMx) (t := 3) h (of_decide_eq_true (by kernel_rfl)) (by kernel_rfl) rfl (by kernel_rfl) (by kernel_rfl) Tryz.underlying3
  have h1 : cs.size = 1 := hs
  obtain ⟨v, rfl⟩ : ∃ v, cs = #[v] := by
    obtain ⟨l⟩ := cs
    match l, h1 with
    | [v], _ => exact ⟨v, rfl⟩
  have hg : Tryz.prog.globalNamed "internal/bytealg.MaxLen" = some gMx := by kernel_rfl
  simp [World.cell?, hh] at hm
  subst hm
  exact ⟨m, by unfold World.var?; rw [hg]; simp [hh]⟩
theorem gin_mx {l : List (String × DataW Unit)} {w : World} (h : laidMet Tryz.prog l w) (h3 : ("internal/strconv.uint64pow10", Rows.laid_internal_strconv_uint64pow10) ∈ l) (hs : w.ShapedOpen Tryz.prog) : ∃ m, @GlobsIn (mxGlobs m) w := by
  obtain ⟨m, hm⟩ := mx_var hs
  refine ⟨m, ?_⟩
  letI : Globs := mxGlobs m
  intro p hp
  have hI : ∀ g, (∃ p ∈ (mxGlobs m).tab, g = p.1) → ∀ j, @gIm (mxGlobs m) ⟨g, j, none⟩ := fun g hg j => ⟨rfl, hg⟩
  rcases hp with _ | ⟨_, _ | ⟨_, hp⟩⟩
  · obtain ⟨r, h⟩ := laidAt h h3
    have e : (Rows.laid_internal_strconv_uint64pow10 : DataW Unit) = Lib.tabData .u64 Lib.pow10Tab := by kernel_rfl
    rw [e] at h
    have := Lib.tabIs_of_head (g := gPow) (by kernel_rfl) (by kernel_rfl) Tryz.underlying176 Tryz.underlying56 (by kernel_rfl) (by kernel_rfl) h
    refine gok_one (n := "internal/strconv.uint64pow10") (by kernel_rfl) this (by simp) (by simp [AV.one]) ?_ (hI _ ⟨_, List.Mem.head _, rfl⟩)
    intro j hj
    have hj' : j < Lib.pow10Tab.length := by simpa using hj
    simp [hj']
    exact .int _ _
  · refine gok_one (n := "internal/bytealg.MaxLen") (by kernel_rfl) hm rfl (by simp [AV.one]) ?_ (hI _ ⟨_, .tail _ (List.Mem.head _), rfl⟩)
    intro j hj
    have : j = 0 := by simp at hj; omega
    subst this
    exact .int _ _
  · cases hp
end Go.Proofs.YtipncibiodfmdaaGreatDoor
end
