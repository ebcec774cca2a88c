/- Numbers over time: the document's series, and what is the same. -/
import Derived.Test.YtipncibiodfmdaaGreatDoorSeE
set_option linter.unusedSimpArgs false
set_option linter.unusedVariables false
set_option linter.constructorNameAsVariable false
set_option maxHeartbeats 4000000
namespace Go.Proofs.YtipncibiodfmdaaGreatDoor
open Go.Abs Go.Num Go.Ser
variable {G : Globs}
/-- isobarref02.Same, of a list and itself. -/
theorem same_ok (a : List N) (ha : a.length ≤ 9223372036854775807) : PCalls Tryz.prog n_isobarref02_Same [.lst (numEls a), .lst (numEls a)] (fun r => r = .bool true) := by
  refine pcalls_of_awp hmix c_isobarref02_Same rfl ?_
  have hla := numEls_len a
  simp [a_isobarref02_Same, hla]
  refine lp_startx (fun x f σ => ∃ (i : Nat), x = a.length - i ∧ i ≤ a.length ∧ f 0 = .lst (numEls a) ∧ f 1 = .lst (numEls a) ∧ f 5 = .int .i64 i ∧ σ = []) a.length ?_ ?_
  · exact ⟨0, by simp, by simp, by simp, by simp, by simp, by simp⟩
  rintro x f σ ⟨i, hx, hi, f0, f1, f5, rfl⟩
  simp [f0, f5, hla]
  refine cb_dec (fun hlt => ?_) (fun hge => ?_)
  · have hlt' : i < a.length := by omega
    have hwi : IntKind.i64.wrap ((i : Int) + 1) = ((i + 1 : Nat) : Int) := by rw [wrap_i64 (by omega) (by omega)]; omega
    obtain ⟨n, hn⟩ : ∃ n, a[i]? = some n := ⟨_, List.getElem?_eq_getElem hlt'⟩
    have hsa := numEls_get hn
    obtain ⟨ha1, ha2⟩ := List.getElem?_eq_some_iff.1 hsa
    simp [f0, f1, f5, hsa, ha1, ha2, hwi]
    refine nx_intro (a.length - (i + 1)) (by omega) ⟨i + 1, rfl, by omega, by simp [f0], by simp [f1], by simp, rfl⟩
  · simp
theorem sameS_ok (s : Sr) (h : s.vals.length ≤ 9223372036854775807) : PCalls Tryz.prog n_isobarref14_SameSeries [srA s, srA s] (fun r => r = .bool true) := by
  refine pcalls_of_awp hmix c_isobarref14_SameSeries rfl ?_
  rw [srA_eq s]
  simp [a_isobarref14_SameSeries]
  refine ac_same (same_ok s.vals h) (by simp) ?_
  rintro r rfl
  simp
theorem rsRight_ok (s : Sr) (h : SrOk s) : PCalls Tryz.prog n_isobarref24_Right [srA s] (fun r => r = .bool (rightS s)) := by
  refine pcalls_of_awp hmix c_isobarref24_Right rfl ?_
  rw [srA_eq]
  have hlen := numEls_len s.vals
  have kT := timed_ok (G := G) s.start
  unfold rightS
  obtain ⟨A, hA⟩ : ∃ A, A = s.vals.all rightN := ⟨_, rfl⟩
  rw [← hA]
  by_cases h1 : s.name.length ≤ 400
  · have h1' : ¬ (400 : Int) < s.name.length := by omega
    have h1'' : ¬ 400 < s.name.length := by omega
    by_cases h3 : 1 ≤ s.step
    · have h3' : ¬ s.step < 1 := by omega
      by_cases h4 : s.step ≤ 86400
      · have h4' : ¬ 86400 < s.step := by omega
        simp [a_isobarref24_Right, h1, h1', h1'', hlen, h3, h3', h4, h4']
        refine ac_same kT (by simp) ?_
        rintro r rfl
        by_cases h5 : 0 ≤ s.start
        · by_cases h6 : s.start ≤ 1099511627776
          · by_cases h2 : s.vals.length ≤ 2000
            · have h2' : ¬ (2000 : Int) < s.vals.length := by omega
              have h2'' : ¬ 2000 < s.vals.length := by omega
              simp [hlen, h2, h2', h2'', h5, h6]
              refine lp_startx (fun x f σ => ∃ (i : Nat), x = s.vals.length - i ∧ i ≤ s.vals.length ∧ f 1 = .ptr 0 0 ∧ f 3 = .int .i64 i ∧ (∀ n ∈ s.vals.take i, rightN n = true) ∧ σ = [.var 24 [.str s.name, .int .i64 s.start, .int .i64 s.step, .lst (numEls s.vals)]]) s.vals.length ?_ ?_
              · exact ⟨0, by simp, by simp, by simp, by simp, by simp, by simp⟩
              rintro x f σ ⟨i, hx, hi, f1, f3, hall, rfl⟩
              simp [f1, f3, hlen]
              refine cb_dec (fun hlt => ?_) (fun hge => ?_)
              · have hlt' : i < s.vals.length := by omega
                have hwi : IntKind.i64.wrap ((i : Int) + 1) = ((i + 1 : Nat) : Int) := by rw [wrap_i64 (by omega) (by omega)]; omega
                obtain ⟨n, hn⟩ : ∃ n, s.vals[i]? = some n := ⟨_, List.getElem?_eq_getElem hlt'⟩
                have hse := numEls_get hn
                obtain ⟨hx1, hx2⟩ := List.getElem?_eq_some_iff.1 hse
                have kR := rnRight_ok (G := G) n (h.vs n (List.mem_of_getElem? hn))
                rw [numA_eq] at kR
                simp [f1, f3, hse, hx1, hx2]
                refine ac_same kR (by simp) ?_
                rintro r rfl
                cases hr : rightN n with
                | false =>
                  have hno : A = false := by rw [hA]; exact List.all_eq_false.2 ⟨n, List.mem_of_getElem? hn, by simp [hr]⟩
                  simp [hno]
                | true =>
                  simp [f1, f3, hwi]
                  refine nx_intro (s.vals.length - (i + 1)) (by omega) ⟨i + 1, rfl, by omega, by simp [f1], by simp, fun m hm => ?_, by simp⟩
                  rw [List.take_add_one, hn] at hm
                  simp only [Option.toList_some, List.mem_append, List.mem_singleton] at hm
                  rcases hm with hm | rfl
                  · exact hall m hm
                  · exact hr
              · have hil : i = s.vals.length := by omega
                rw [hil, List.take_length] at hall
                have hyes : A = true := by rw [hA]; exact List.all_eq_true.2 hall
                simp [hyes, h1, h2, h3, h4, h5, h6]
            · have h2' : (2000 : Int) < s.vals.length := by omega
              have h2'' : 2000 < s.vals.length := by omega
              simp [hlen, h2, h2', h2'', h5, h6]
          · simp [h5, h6]
        · simp [h5]
      · have h4' : 86400 < s.step := by omega
        simp [a_isobarref24_Right, h1, h1', h1'', hlen, h3, h3', h4, h4']
    · have h3' : s.step < 1 := by omega
      simp [a_isobarref24_Right, h1, h1', h1'', hlen, h3, h3']
  · have h1' : (400 : Int) < s.name.length := by omega
    have h1'' : 400 < s.name.length := by omega
    simp [a_isobarref24_Right, h1, h1', h1'']
theorem rsEnd_ok (s : Sr) (h : SrOk s) : PCalls Tryz.prog n_isobarref24_End [srA s] (fun r => r = .int .i64 (if rightS s = true then endS s else 0)) := by
  refine pcalls_of_awp hmix c_isobarref24_End rfl ?_
  have kR := rsRight_ok (G := G) s h
  rw [srA_eq s] at kR ⊢
  simp [a_isobarref24_End]
  refine ac_same kR (by simp) ?_
  rintro r rfl
  cases hr : rightS s with
  | false => simp
  | true =>
    have hR := right_iff.1 hr
    obtain ⟨e1, e2, e3, e4⟩ := end_bd hR
    have hs0 := hR.s0
    have hs1 := hR.s1
    have hw1 : IntKind.i64.wrap (s.step * (s.vals.length : Int)) = s.step * s.vals.length := wrap_i64 (by omega) (by omega)
    have hw2 : IntKind.i64.wrap (s.start + s.step * (s.vals.length : Int)) = endS s := by unfold endS; exact wrap_i64 (by omega) (by omega)
    simp [numEls_len, hw1, hw2]
theorem between_ok (s : Sr) (hR : SrR s) (a b : Int) : PCalls Tryz.prog n_isobarref24_between [srA s, .int .i64 a, .int .i64 b] (fun r => r = .lst (numEls (slice s a b))) := by
  refine pcalls_of_awp hmix c_isobarref24_between rfl ?_
  have hlen := numEls_len s.vals
  have hs0 := hR.s0
  have hs1 := hR.s1
  have hp0 := hR.p0
  have hp1 := hR.p1
  have hvl := hR.vl
  rw [← betw_all s hR, srA_eq s]
  simp [a_isobarref24_between]
  have hbl : ∀ (l : List N) (i : Nat), (betw s.start s.step a b i l).length ≤ l.length := by
    intro l
    induction l with
    | nil => intro i; simp [betw]
    | cons n l ih =>
      intro i
      have := ih (i + 1)
      unfold betw; split <;> simp <;> omega
  refine lp_startx (fun x f σ => ∃ (i : Nat), x = s.vals.length - i ∧ i ≤ s.vals.length ∧ f 1 = .int .i64 a ∧ f 2 = .int .i64 b ∧ f 3 = .ptr 0 0 ∧ f 7 = rowV 1 (numEls (betw s.start s.step a b 0 (s.vals.take i))) ∧ f 8 = .int .i64 i ∧
    σ = [.var 24 [.str s.name, .int .i64 s.start, .int .i64 s.step, .lst (numEls s.vals)]] ++ rowE 33 2 (numEls (betw s.start s.step a b 0 (s.vals.take i))) true) s.vals.length ?_ ?_
  · exact ⟨0, by simp, by simp, by simp, by simp, by simp, by simp [betw, numEls, rowV_nil], by simp, by simp [betw, numEls, rowE_nil]⟩
  rintro x f σ ⟨i, hx, hi, f1, f2, f3, f7, f8, rfl⟩
  simp [f3, f8, hlen]
  refine cb_dec (fun hlt => ?_) (fun hge => ?_)
  · have hlt' : i < s.vals.length := by omega
    have hwi : IntKind.i64.wrap ((i : Int) + 1) = ((i + 1 : Nat) : Int) := by rw [wrap_i64 (by omega) (by omega)]; omega
    obtain ⟨n, hn⟩ : ∃ n, s.vals[i]? = some n := ⟨_, List.getElem?_eq_getElem hlt'⟩
    have hse := numEls_get hn
    obtain ⟨hx1, hx2⟩ := List.getElem?_eq_some_iff.1 hse
    have hm0 : 0 ≤ (i : Int) * s.step := Int.mul_nonneg (Int.natCast_nonneg _) (by omega)
    have hm1 : (i : Int) * s.step ≤ 2000 * 86400 := Int.mul_le_mul (by omega) hp1 (by omega) (by decide)
    have hw1 : IntKind.i64.wrap ((i : Int) * s.step) = i * s.step := wrap_i64 (by omega) (by omega)
    obtain ⟨t, ht⟩ : ∃ t, t = s.start + i * s.step := ⟨_, rfl⟩
    have hw2 : IntKind.i64.wrap (s.start + (i : Int) * s.step) = t := by rw [ht]; exact wrap_i64 (by omega) (by omega)
    have hst := betw_take s.start s.step a b s.vals 0 i n hn
    rw [Nat.zero_add, ← ht] at hst
    have hb := hbl (s.vals.take i) 0
    have htl : (s.vals.take i).length ≤ i := by simp; omega
    simp [f1, f2, f3, f8, hw1, hw2]
    by_cases ha : a ≤ t
    · by_cases hbt : t < b
      · rw [if_pos ⟨ha, hbt⟩] at hst
        simp [ha, hbt, f1, f2, f3, f7, f8, hse, hx1, hx2]
        refine ap_acc_at (pre := [_]) (n := 1) (size := 2) (bytes := 16) rfl (numEls (betw s.start s.step a b 0 (s.vals.take i))) [[.bool n.1, .int .i64 n.2]] true (by decide) (by simp) (by simp) ?_ ?_ ?_
        · rw [numEls_len]; simp; omega
        · rw [numEls_len]; simp; omega
        have e : numEls (betw s.start s.step a b 0 (s.vals.take i)) ++ [[AV.bool n.1, AV.int .i64 n.2]] = numEls (betw s.start s.step a b 0 (s.vals.take (i + 1))) := by rw [hst, numEls_app]; rfl
        rw [e]
        simp [f8, hwi]
        refine nx_intro (s.vals.length - (i + 1)) (by omega) ⟨i + 1, rfl, by omega, by simp [f1], by simp [f2], by simp [f3], by simp, by simp, by simp⟩
      · rw [if_neg (fun h => hbt h.2), List.append_nil] at hst
        simp [ha, hbt, f1, f2, f8, hwi]
        refine nx_intro (s.vals.length - (i + 1)) (by omega) ⟨i + 1, rfl, by omega, by simp [f1], by simp [f2], by simp [f3], by simp [f7, hst], by simp, by simp [hst]⟩
    · rw [if_neg (fun h => ha h.1), List.append_nil] at hst
      simp [ha, f1, f2, f8, hwi]
      refine nx_intro (s.vals.length - (i + 1)) (by omega) ⟨i + 1, rfl, by omega, by simp [f1], by simp [f2], by simp [f3], by simp [f7, hst], by simp, by simp [hst]⟩
  · have hil : i = s.vals.length := by omega
    rw [hil, List.take_length] at f7
    have hfin := fin1_acc_at (pre := [.var 24 [.str s.name, .int .i64 s.start, .int .i64 s.step, .lst (numEls s.vals)]]) (n := 1) rfl (e := 33) (size := 2) (l := numEls (betw s.start s.step a b 0 s.vals)) (m := 0)
    simp only [List.cons_append, List.nil_append] at hfin
    simp [f7, hil, hfin]
end Go.Proofs.YtipncibiodfmdaaGreatDoor
