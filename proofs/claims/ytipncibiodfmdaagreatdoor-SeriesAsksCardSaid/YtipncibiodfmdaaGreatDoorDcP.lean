/- Numbers as text: Join, the document's Join, and the law of what is printed. -/
import Derived.Test.YtipncibiodfmdaaGreatDoorDcO
import Derived.Test.YtipncibiodfmdaaGreatDoorDcQ
import Derived.Test.YtipncibiodfmdaaGreatDoorAbs2
set_option linter.unusedSimpArgs false
set_option linter.unusedVariables false
set_option linter.constructorNameAsVariable false
set_option maxHeartbeats 2000000
namespace Go.Dec
theorem tail_snoc (sep : List UInt8) (r : List (List UInt8)) (x : List UInt8) : Lib.joinTail sep (r ++ [x]) = Lib.joinTail sep r ++ (sep ++ x) := by simp [Lib.joinTail]
theorem join_snoc (sep : List UInt8) (m : List (List UInt8)) (x : List UInt8) : Lib.join (m ++ [x]) sep = if m = [] then x else Lib.join m sep ++ (sep ++ x) := by
  cases m with
  | nil => simp [Lib.join_one]
  | cons p r => rw [List.cons_append, Lib.join_cons, Lib.join_cons, tail_snoc]; simp
theorem join_len22 : ∀ (m : List (List UInt8)), (∀ x ∈ m, x.length ≤ 21) → (Lib.join m [44]).length ≤ 22 * m.length
  | [], _ => by simp [Lib.join_nil]
  | p :: r, h => by
    have ht : ∀ (r : List (List UInt8)), (∀ x ∈ r, x.length ≤ 21) → (Lib.joinTail [44] r).length ≤ 22 * r.length := by
      intro r
      induction r with
      | nil => intro _; simp [Lib.joinTail]
      | cons y r ih =>
        intro h
        have h1 := h y (by simp)
        have h2 := ih (fun x hx => h x (by simp [hx]))
        simp only [Lib.joinTail, List.map_cons, List.flatten_cons, List.length_append, List.length_cons, List.length_nil] at h2 ⊢
        omega
    rw [Lib.join_cons, List.length_append]
    have h1 := h p (by simp)
    have h2 := ht r (fun x hx => h x (by simp [hx]))
    simp only [List.length_cons]
    omega
theorem prn_le21 (nl : Bool) {v : Int} (h0 : -9223372036854775808 ≤ v) (h1 : v ≤ 9223372036854775807) : (prn nl v).length ≤ 21 := by
  by_cases hn : nl = true ∨ v = -9223372036854775808
  · rw [parse_none nl v hn]; decide
  · have hnl : nl = false := by cases nl <;> simp_all
    subst hnl
    exact prn_len (by simpa using hn) (by omega)
/-- The texts of numbers. -/
def prns (l : List (Bool × Int)) : List (List UInt8) := l.map fun x => prn x.1 x.2
def numsOk (l : List (Bool × Int)) : Prop := ∀ x ∈ l, -9223372036854775808 ≤ x.2 ∧ x.2 ≤ 9223372036854775807
theorem prns_le {l : List (Bool × Int)} (h : numsOk l) : ∀ x ∈ prns l, x.length ≤ 21 := by
  intro x hx
  simp only [prns, List.mem_map] at hx
  obtain ⟨y, hy, rfl⟩ := hx
  exact prn_le21 y.1 (h y hy).1 (h y hy).2
end Go.Dec
namespace Go.Abs
def txts (l : List (List UInt8)) : List (List AV) := l.map fun s => [.str s]
end Go.Abs
namespace Go.Proofs.YtipncibiodfmdaaGreatDoor
open Go.Abs Go.Dec
variable {G : Globs}

/-- strings.Join, commas between. -/
theorem joinC_ok (l : List (List UInt8)) (hl : (Lib.join l [44]).length ≤ 140737488355328) (hk : l.length ≤ 140737488355328) : PCalls Tryz.prog 38 [.lst (txts l), .str [44]] (fun r => r = .str (Lib.join l [44])) := by
  intro base κ Im w vs hs hv
  obtain ⟨v0, v1, rfl⟩ : ∃ v0 v1, vs = [v0, v1] := by
    match vs, hv.1 with
    | [a, b], _ => exact ⟨a, b, rfl⟩
  have e0 := (hv.2 0 (by simp) (by simp)).lst_inv
  have e1 := (hv.2 1 (by simp) (by simp)).str_inv
  simp only [List.getElem_cons_zero, List.getElem_cons_succ] at e0 e1
  subst e1
  have hel : (txts l).length = l.length := by simp [txts]
  rcases e0 with ⟨⟨g, rfl⟩, h0⟩ | ⟨size, b, o, cap, vals, rfl, h1, h2, h3, h4, h5, h6⟩
  · have hl0 : l = [] := by simpa [txts] using h0
    subst hl0
    refine (Tryz.strings_Join_none g 0 ⟨#[44]⟩ w).mono ?_
    rintro e w' ⟨rfl, rfl⟩
    exact ⟨_, [], _, κ, Im, rfl, ⟨rfl, rfl⟩, hs, Grow.refl _ _ _ _, .im _ _ (.str [])⟩
  · cases hln : l with
    | nil =>
      subst hln
      refine (Tryz.strings_Join_none _ cap ⟨#[44]⟩ w).mono ?_
      rintro e w' ⟨rfl, rfl⟩
      exact ⟨_, [], _, κ, Im, rfl, ⟨rfl, rfl⟩, hs, Grow.refl _ _ _ _, .im _ _ (.str [])⟩
    | cons p0 ps0 =>
      have hpos : 0 < l.length := by simp [hln]
      rw [← hln]
      have hsz : size = 1 := by
        have := h3 [.str p0] (by simp [txts, hln])
        simpa using this.symm
      subst hsz
      rw [hel] at h1 h5
      have hval : ∀ k (hk : k < l.length), vals k 0 = .string ⟨(l[k]).toArray⟩ := fun k hk => by
        have := h6 k 0 (by simpa [txts] using hk) (by simp [txts])
        simp only [txts, List.getElem_map, List.getElem_cons_zero] at this
        generalize vals k 0 = v at this ⊢
        cases this; rfl
      have hcell := fun k (hk : k < l.length) => h5 k 0 hk (by omega)
      have hbk : b < w.heap.size := (hs.imlt _ (hcell 0 hpos).1).1
      have hdat : (l.map fun s => (⟨s.toArray⟩ : ByteArray)).map (·.data.toList) = l := by simp [List.map_map, Function.comp_def]
      have hj : Lib.join ((l.map fun s => (⟨s.toArray⟩ : ByteArray)).map (·.data.toList)) (⟨#[44]⟩ : ByteArray).data.toList = Lib.join l [44] := by rw [hdat]
      have := Tryz.strings_Join b o cap (l.map fun s => (⟨s.toArray⟩ : ByteArray)) ⟨#[44]⟩ w (fun j x hx => by
          simp only [List.getElem?_map, Option.map_eq_some_iff] at hx
          obtain ⟨s, hs', rfl⟩ := hx
          obtain ⟨hj1, rfl⟩ := List.getElem?_eq_some_iff.1 hs'
          have := (hcell j hj1).2
          rw [hval j hj1] at this
          simpa using this) hbk (by simpa using hk) (by simpa using h1) (by rw [hj]; exact hl)
      rw [hj] at this
      simp only [List.length_map] at this
      rw [hel]
      refine this.mono ?_
      rintro e w' ⟨rfl, hb⟩
      obtain ⟨g1, g2⟩ := srel_grow hs hb
      exact ⟨_, [], _, κ, Im, rfl, ⟨rfl, rfl⟩, g1, g2, .im _ _ (.str (Lib.join l [44]))⟩

theorem rJoin_ok (l : List (Bool × Int)) (hl : l.length ≤ 3000) (hok : numsOk l) : PCalls Tryz.prog n_isobarref03_Join [.lst (numEls l)] (fun r => r = .str (Lib.join (prns l) [44])) := by
  refine pcalls_of_awp hmix c_isobarref03_Join rfl ?_
  simp [a_isobarref03_Join]
  have hle : (numEls l).length = l.length := by simp [numEls]
  refine lp_startx (fun x f σ => ∃ (i : Nat), x = l.length - i ∧ i ≤ l.length ∧ f 0 = .lst (numEls l) ∧ f 3 = .str (Lib.join (prns (l.take i)) [44]) ∧ f 4 = .int .i64 i ∧ σ = []) l.length ?_ ?_
  · exact ⟨0, by simp, by simp, by simp, by simp [prns, Lib.join_nil], by simp, by simp⟩
  rintro x f σ ⟨i, rfl, hi, h0, h3, h4, rfl⟩
  have hwi : IntKind.i64.wrap ((i : Int) + 1) = (i : Int) + 1 := wrap_i64 (by omega) (by omega)
  simp [h0, h3, h4, hle]
  refine cb_dec (fun hlt => ?_) (fun hge => ?_)
  · have hlt' : i < l.length := by omega
    obtain ⟨y, hy⟩ : ∃ y, l[i]? = some y := ⟨_, List.getElem?_eq_getElem hlt'⟩
    have hse : (numEls l)[i]? = some [.bool y.1, .int .i64 y.2] := by simp [numEls, hy]
    have hyk := hok y (List.mem_of_getElem? hy)
    have hln := join_len22 (prns (l.take i)) (prns_le fun x hx => hok x (List.mem_of_mem_take hx))
    have hpl := prn_le21 y.1 hyk.1 hyk.2
    have hstep : Lib.join (prns (l.take (i + 1))) [44] = if i = 0 then prn y.1 y.2 else Lib.join (prns (l.take i)) [44] ++ ([44] ++ prn y.1 y.2) := by
      have e : prns (l.take (i + 1)) = prns (l.take i) ++ [prn y.1 y.2] := by simp [prns, List.take_add_one, hy]
      rw [e, join_snoc]
      by_cases h : i = 0
      · subst h; simp [prns]
      · have : prns (l.take i) ≠ [] := by
          intro h'
          have hpn : (prns (l.take i)).length = i := by simp [prns, Nat.min_eq_left hi]
          rw [h'] at hpn
          simp at hpn
          omega
        rw [if_neg this, if_neg h]
    have hln2 : (Lib.join (prns (l.take i)) [44]).length ≤ 66000 := by
      have : (prns (l.take i)).length = i := by simp [prns, Nat.min_eq_left hi]
      omega
    have hL1 : (Lib.join (prns (l.take i)) [44]).length ≤ 9223372036854775806 := by omega
    have hL2 : (Lib.join (prns (l.take i)) [44]).length + 1 + (prn y.1 y.2).length ≤ 9223372036854775807 := by omega
    have hL3 : (prn y.1 y.2).length ≤ 9223372036854775807 := by omega
    have hL4 : (Lib.join (prns (l.take i)) [44]).length + ((prn y.1 y.2).length + 1) ≤ 9223372036854775807 := by omega
    have hL5 : (Lib.join (prns (l.take i)) [44]).length + (prn y.1 y.2).length + 1 ≤ 9223372036854775807 := by omega
    have hilt : i < (numEls l).length := by omega
    obtain ⟨hx1, hx2⟩ := List.getElem?_eq_some_iff.1 hse
    by_cases hi0 : i = 0
    · have hng : ¬ 0 < i := by omega
      have hng' : ¬ (0 : Int) < (i : Int) := by omega
      have hE : Lib.join (prns (l.take i)) [44] = [] := by subst hi0; simp [prns, Lib.join_nil]
      rw [if_pos hi0] at hstep
      rw [hE] at h3
      simp [h0, h3, h4, hng, hng', hilt, hx2]
      refine ac_same (rPrint_ok y.1 y.2 hyk.1 hyk.2) (by simp) ?_
      rintro r rfl
      simp [h4, hL3, hwi]
      refine nx_intro (l.length - (i + 1)) (by omega) ⟨i + 1, rfl, by omega, by simp [h0], by rw [hstep]; simp, by simp, rfl⟩
    · have hi0' : (0 : Int) < (i : Int) := by omega
      have hi0'' : 0 < i := by omega
      rw [if_neg hi0] at hstep
      simp [h0, h3, h4, hi0', hi0'', hx2, hilt, hL1]
      refine ac_same (rPrint_ok y.1 y.2 hyk.1 hyk.2) (by simp) ?_
      rintro r rfl
      simp [h4, hL2, hL3, hL4, hL5, hwi]
      refine nx_intro (l.length - (i + 1)) (by omega) ⟨i + 1, rfl, by omega, by simp [h0], by rw [hstep]; simp, by simp, rfl⟩
  · have hil : i = l.length := by omega
    simp [h3, hil]

theorem dJoin_ok [GPow] (l : List (Bool × Int)) (hl : l.length ≤ 3000) (hok : numsOk l) : PCalls Tryz.prog n_decimal_Join [.lst (numEls l)] (fun r => r = .str (Lib.join (prns l) [44])) := by
  refine pcalls_of_awp hmix c_decimal_Join rfl ?_
  simp [a_decimal_Join]
  have hle : (numEls l).length = l.length := by simp [numEls]
  simp [hle]
  refine ms_intro l.length rfl rfl (by omega) (by omega) (by omega) rfl ?_
  simp [hle]
  have hts : ∀ m : List (List UInt8), (txts m).length = m.length := fun m => by simp [txts]
  have hpl : ∀ m : List (Bool × Int), (prns m).length = m.length := fun m => by simp [prns]
  refine lp_startx (fun x f σ => ∃ (i : Nat) (tl : Store), x = l.length - i ∧ i ≤ l.length ∧ f 0 = .lst (numEls l) ∧ f 3 = .row 0 l.length ∧ f 9 = .lst (numEls l) ∧ f 10 = .int .i64 l.length ∧ f 11 = .int .i64 i ∧ σ = .row 9 1 (txts (prns (l.take i) ++ List.replicate (l.length - i) [])) false :: tl) l.length ?_ ?_
  · exact ⟨0, [], by simp, by simp, by simp, by simp, by simp, by simp [hle], by simp, by simp [prns, txts]⟩
  rintro x f σ ⟨i, tl, hx, hi, h0, h3, h9, h10, h11, rfl⟩
  have hwi : IntKind.i64.wrap ((i : Int) + 1) = (i : Int) + 1 := wrap_i64 (by omega) (by omega)
  simp [h10, h11]
  refine cb_dec (fun hlt => ?_) (fun hge => ?_)
  · have hlt' : i < l.length := by omega
    obtain ⟨y, hy⟩ : ∃ y, l[i]? = some y := ⟨_, List.getElem?_eq_getElem hlt'⟩
    have hse : (numEls l)[i]? = some [.bool y.1, .int .i64 y.2] := by simp [numEls, hy]
    obtain ⟨hx1, hx2⟩ := List.getElem?_eq_some_iff.1 hse
    have hyk := hok y (List.mem_of_getElem? hy)
    have hpn : (prns (l.take i)).length = i := by simp [prns, Nat.min_eq_left hi]
    have hpe : prns (l.take (i + 1)) = prns (l.take i) ++ [prn y.1 y.2] := by simp [prns, List.take_add_one, hy]
    have hL : ∀ x : List UInt8, (txts (prns (l.take i) ++ List.replicate (l.length - i) [])).set i [.str x] = txts (prns (l.take i) ++ x :: List.replicate (l.length - (i + 1)) []) := fun x => by
      have e : l.length - i = (l.length - (i + 1)) + 1 := by omega
      rw [e, List.replicate_succ]
      simp only [txts, List.map_append, List.map_cons]
      rw [List.set_append_right _ _ (by simp [hpn])]
      simp [hpn]
    have hget : (txts (prns (l.take i) ++ List.replicate (l.length - i) []))[i]? = some [.str []] := by
      have e : l.length - i = (l.length - (i + 1)) + 1 := by omega
      rw [e, List.replicate_succ]
      simp only [txts, List.map_append, List.map_cons]
      rw [List.getElem?_append_right (by simp [hpn])]
      simp [hpn]
    obtain ⟨hg1, hg2⟩ := List.getElem?_eq_some_iff.1 hget
    have hgl : (txts (prns (l.take i) ++ List.replicate (l.length - i) [])).length = l.length := by rw [hts]; simp [hpn]; omega
    simp [h9, h11, hx1, hx2]
    refine ac_same (dPrint_ok y.1 y.2 hyk.1 hyk.2) (by simp) ?_
    rintro r rfl
    simp [h3, h11, hwi, hgl, hlt', hg2, hget, hL]
    refine nx_intro (l.length - (i + 1)) (by omega) ⟨i + 1, tl ++ [.var 33 [.bool y.1, .int .i64 y.2]], rfl, by omega, by simp [h0], by simp [h3], by simp [h9], by simp [h10], by simp, ?_⟩
    rw [hpe]
    simp
  · have hil : i = l.length := by omega
    subst hil
    have hln := join_len22 (prns l) (prns_le hok)
    rw [hpl] at hln
    simp [h3]
    refine ac_lent (joinC_ok (prns l) (by omega) (by rw [hpl]; omega)) (.cons (.row 0 l.length 9 1 (txts (prns l)) false rfl (by rw [hts, hpl]) (.inr ⟨rfl, ?_⟩)) (.cons (.pure _ (by simp)) .nil)) ?_
    · intro c hc x hx
      simp only [txts, List.mem_map] at hc
      obtain ⟨y, _, rfl⟩ := hc
      simp at hx
      subst hx
      simp
    rintro r rfl
    refine ⟨by simp, ?_⟩
    simp

end Go.Proofs.YtipncibiodfmdaaGreatDoor
