/- Numbers over time: the document's series, and what is the same. -/
import Derived.Test.YtjkajkhomklikaaDoorSeE
set_option linter.unusedSimpArgs false
set_option linter.unusedVariables false
set_option linter.constructorNameAsVariable false
set_option maxHeartbeats 4000000
namespace Go.Proofs.YtjkajkhomklikaaDoor
open Go.Abs Go.Num Go.Ser
variable {G : Globs}
/-- isobarref02.Same, of a list and itself. -/
theorem same_ok (a : List N) (ha : a.length ≤ 9223372036854775807) : PCalls Tryd.prog n_isobarref02_Same [.lst (numEls a), .lst (numEls a)] (fun r => r = .bool true) := by
  refine pcalls_of_awp hmix c_isobarref02_Same rfl ?_
  have hla := numEls_len a
  simp [a_isobarref02_Same, hla]
  refine lp_startx (fun x f σ => ∃ (i : Nat), x = a.length - i ∧ i ≤ a.length ∧ f 0 = .lst (numEls a) ∧ f 1 = .lst (numEls a) ∧ f 5 = .int .i64 i ∧ σ = []) a.length ?_ ?_
  · exact ⟨0, by simp, by simp, by simp, by simp, by simp, by simp⟩
  rintro x f σ ⟨i, hx, hi, f0, f1, f5, rfl⟩
  simp [f0, f5, hla]
  refine cb_dec (fun hlt => ?_) (fun hge => ?_)
  · have hlt' : i < a.length := by omega
    have hwi : IntKind.i64.wrap ((i : Int) + 1) = ((i + 1 : Nat) : Int) := by rw [wrap_i64 (by omega) (by omega)]; omega
    obtain ⟨n, hn⟩ : ∃ n, a[i]? = some n := ⟨_, List.getElem?_eq_getElem hlt'⟩
    have hsa := numEls_get hn
    obtain ⟨ha1, ha2⟩ := List.getElem?_eq_some_iff.1 hsa
    simp [f0, f1, f5, hsa, ha1, ha2, hwi]
    refine nx_intro (a.length - (i + 1)) (by omega) ⟨i + 1, rfl, by omega, by simp [f0], by simp [f1], by simp, rfl⟩
  · simp
theorem sameS_ok (s : Sr) (h : s.vals.length ≤ 9223372036854775807) : PCalls Tryd.prog n_isobarref14_SameSeries [srA s, srA s] (fun r => r = .bool true) := by
  refine pcalls_of_awp hmix c_isobarref14_SameSeries rfl ?_
  rw [srA_eq s]
  simp [a_isobarref14_SameSeries]
  refine ac_same (same_ok s.vals h) (by simp) ?_
  rintro r rfl
  simp
theorem rsRight_ok (s : Sr) (h : SrOk s) : PCalls Tryd.prog n_isobarref24_Right [srA s] (fun r => r = .bool (rightS s)) := by
  refine pcalls_of_awp hmix c_isobarref24_Right rfl ?_
  rw [srA_eq]
  have hlen := numEls_len s.vals
  have kT := timed_ok (G := G) s.start
  unfold rightS
  obtain ⟨A, hA⟩ : ∃ A, A = s.vals.all rightN := ⟨_, rfl⟩
  rw [← hA]
  by_cases h1 : s.name.length ≤ 400
  · have h1' : ¬ (400 : Int) < s.name.length := by omega
    have h1'' : ¬ 400 < s.name.length := by omega
    by_cases h3 : 1 ≤ s.step
    · have h3' : ¬ s.step < 1 := by omega
      by_cases h4 : s.step ≤ 86400
      · have h4' : ¬ 86400 < s.step := by omega
        simp [a_isobarref24_Right, h1, h1', h1'', hlen, h3, h3', h4, h4']
        refine ac_same kT (by simp) ?_
        rintro r rfl
        by_cases h5 : 0 ≤ s.start
        · by_cases h6 : s.start ≤ 1099511627776
          · by_cases h2 : s.vals.length ≤ 2000
            · have h2' : ¬ (2000 : Int) < s.vals.length := by omega
              have h2'' : ¬ 2000 < s.vals.length := by omega
              simp [hlen, h2, h2', h2'', h5, h6]
              refine lp_startx (fun x f σ => ∃ (i : Nat), x = s.vals.length - i ∧ i ≤ s.vals.length ∧ f 1 = .ptr 0 0 ∧ f 3 = .int .i64 i ∧ (∀ n ∈ s.vals.take i, rightN n = true) ∧ σ = [.var 24 [.str s.name, .int .i64 s.start, .int .i64 s.step, .lst (numEls s.vals)]]) s.vals.length ?_ ?_
              · exact ⟨0, by simp, by simp, by simp, by simp, by simp, by simp⟩
              rintro x f σ ⟨i, hx, hi, f1, f3, hall, rfl⟩
              simp [f1, f3, hlen]
              refine cb_dec (fun hlt => ?_) (fun hge => ?_)
              · have hlt' : i < s.vals.length := by omega
                have hwi : IntKind.i64.wrap ((i : Int) + 1) = ((i + 1 : Nat) : Int) := by rw [wrap_i64 (by omega) (by omega)]; omega
                obtain ⟨n, hn⟩ : ∃ n, s.vals[i]? = some n := ⟨_, List.getElem?_eq_getElem hlt'⟩
                have hse := numEls_get hn
                obtain ⟨hx1, hx2⟩ := List.getElem?_eq_some_iff.1 hse
                have kR := rnRight_ok (G := G) n (h.vs n (List.mem_of_getElem? hn))
                rw [numA_eq] at kR
                simp [f1, f3, hse, hx1, hx2]
                refine ac_same kR (by simp) ?_
                rintro r rfl
                cases hr : rightN n with
                | false =>
                  have hno : A = false := by rw [hA]; exact List.all_eq_false.2 ⟨n, List.mem_of_getElem? hn, by simp [hr]⟩
                  simp [hno]
                | true =>
                  simp [f1, f3, hwi]
                  refine nx_intro (s.vals.length - (i + 1)) (by omega) ⟨i + 1, rfl, by omega, by simp [f1], by simp, fun m hm => ?_, by simp⟩
                  rw [List.take_add_one, hn] at hm
                  simp only [Option.toList_some, List.mem_append, List.mem_singleton] at hm
                  rcases hm with hm | rfl
                  · exact hall m hm
                  · exact hr
              · have hil : i = s.vals.length := by omega
                rw [hil, List.take_length] at hall
                have hyes : A = true := by rw [hA]; exact List.all_eq_true.2 hall
                simp [hyes, h1, h2, h3, h4, h5, h6]
            · have h2' : (2000 : Int) < s.vals.length := by omega
              have h2'' : 2000 < s.vals.length := by omega
              simp [hlen, h2, h2', h2'', h5, h6]
          · simp [h5, h6]
        · simp [h5]
      · have h4' : 86400 < s.step := by omega
        simp [a_isobarref24_Right, h1, h1', h1'', hlen, h3, h3', h4, h4']
    · have h3' : s.step < 1 := by omega
      simp [a_isobarref24_Right, h1, h1', h1'', hlen, h3, h3']
  · have h1' : (400 : Int) < s.name.length := by omega
    have h1'' : 400 < s.name.length := by omega
    simp [a_isobarref24_Right, h1, h1', h1'']
end Go.Proofs.YtjkajkhomklikaaDoor
