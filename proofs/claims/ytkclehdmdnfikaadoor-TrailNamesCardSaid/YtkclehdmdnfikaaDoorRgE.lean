/- Patterns of one name, as the document has them: Check, Expand, Match, where the pattern may be. -/
import Derived.Test.YtkclehdmdnfikaaDoorRgD
set_option linter.unusedSimpArgs false
set_option linter.unusedVariables false
set_option linter.constructorNameAsVariable false
set_option maxHeartbeats 8000000
namespace Go.Proofs.YtkclehdmdnfikaaDoor
open Go.Abs Go.Glob
variable {G : Globs}

theorem rexpand_at : ∀ L, ExpAt L := by
  intro L
  induction L using Nat.strongRecOn with
  | _ L ih => exact rexpand_step L ih
theorem rcheck_ok {p : List UInt8} {l : List Pc} (h : parse p = .ok l) : PCalls Tryd.prog n_isobarref15_Check [.str p] (fun v => v = .int .i64 0) := by
  obtain ⟨h1, h2, d, h3, h4, h5⟩ := parse_ok h
  refine pcalls_of_awp hmix c_isobarref15_Check rfl ?_
  have hf := rform_ok (G := G) p.length p 0 (2 * p.length + 2) l [] d (by omega) (by omega) (by omega) (by omega) (by simpa using h3)
  have g1 : ¬ (128 : Int) < (p.length : Int) := by omega
  have g1' : ¬ 128 < p.length := by omega
  have g2 : ¬ (4 : Int) < (d : Int) := by omega
  have g2' : ¬ 4 < d := by omega
  have g3 : ¬ (64 : Int) < (cnt 1 l : Int) := by omega
  have g3' : ¬ 64 < cnt 1 l := by omega
  simp at hf
  simp [a_isobarref15_Check, g1, g1']
  refine ac_same hf (by simp) ?_
  rintro v rfl
  simp [h2, g2, g2', g3, g3']
theorem rExpand_ok {p : List UInt8} {l : List Pc} (h : parse p = .ok l) : PCalls Tryd.prog n_isobarref15_Expand [.str p] (fun v => v = .tup [.lst (tx (expd [[]] l)), .int .i64 0]) := by
  obtain ⟨h1, h2, d, h3, h4, h5⟩ := parse_ok h
  refine pcalls_of_awp hmix c_isobarref15_Expand rfl ?_
  have he := rexpand_at (G := G) p.length p 0 (2 * p.length + 2) l [] d (by omega) (by omega) (by omega) h5 (by simpa using h3)
  simp at he
  simp [a_isobarref15_Expand]
  refine ac_same (rcheck_ok h) (by simp) ?_
  rintro v rfl
  simp
  refine ac_same he (by simp) ?_
  rintro v rfl
  simp
theorem rMatch_ok {p : List UInt8} {l : List Pc} (h : parse p = .ok l) (name : List UInt8) (hn : name.length ≤ 100000) : PCalls Tryd.prog n_isobarref15_Match [.str p, .str name] (fun v => v = .tup [.bool ((expd [[]] l).any fun o => mt o name), .int .i64 0]) := by
  refine pcalls_of_awp hmix c_isobarref15_Match rfl ?_
  obtain ⟨h1, _⟩ := parse_ok h
  have hg := parse_good h
  obtain ⟨_, _, _, hl64, _⟩ := expand_parsed h
  obtain ⟨E, hE⟩ : ∃ E, expd [[]] l = E := ⟨_, rfl⟩
  rw [hE] at hg hl64
  simp [a_isobarref15_Match]
  refine ac_same (rExpand_ok h) (by simp) ?_
  rintro v rfl
  rw [hE]
  simp
  refine lp_startx (fun x f σ => ∃ (i : Nat), x = E.length - i ∧ i ≤ E.length ∧ (∀ o ∈ E.take i, mt o name = false) ∧ f 0 = .str p ∧ f 1 = .str name ∧ f 6 = .lst (tx E) ∧ f 7 = .int .i64 0 ∧ f 8 = .int .i64 i ∧ σ = []) E.length ?_ ?_
  · exact ⟨0, by simp, by simp, by simp, by simp, by simp, by simp, by simp, by simp, rfl⟩
  rintro x f σ ⟨i, hx, hi, hno, w0, w1, w6, w7, w8, rfl⟩
  by_cases hil : i < E.length
  · obtain ⟨o, ho⟩ : ∃ o, E[i]? = some o := ⟨_, List.getElem?_eq_getElem hil⟩
    have hm := List.mem_of_getElem? ho
    obtain ⟨g1, g2, g3⟩ := hg o hm
    have gt := tx_get ho
    obtain ⟨gt1, gt2⟩ := List.getElem?_eq_some_iff.1 gt
    have hil' : (i : Int) < (E.length : Int) := by omega
    have hwi : IntKind.i64.wrap ((i : Int) + 1) = (i : Int) + 1 := wrap_i64 (by omega) (by omega)
    simp [w0, w1, w6, w7, w8, tx_len, hil, hil', gt, gt2]
    refine ac_same (rfits_ok o name g1 g2 (by omega) hn) (by simp) ?_
    rintro v rfl
    cases hmt : mt o name with
    | true =>
      have : (E.any fun o => mt o name) = true := List.any_eq_true.2 ⟨o, hm, hmt⟩
      simp [this]
    | false =>
      simp [w8, hwi]
      refine nx_intro (E.length - (i + 1)) (by omega) ⟨i + 1, rfl, by omega, ?_, by simp [w0], by simp [w1], by simp [w6], by simp [w7], by simp, rfl⟩
      intro q hq
      rw [List.take_add_one, ho] at hq
      rcases List.mem_append.1 hq with hq | hq
      · exact hno q hq
      · simp at hq; subst hq; exact hmt
  · have hil' : ¬ (i : Int) < (E.length : Int) := by omega
    rw [List.take_of_length_le (by omega)] at hno
    have : (E.any fun o => mt o name) = false := List.any_eq_false.2 fun o ho => by rw [hno o ho]; decide
    simp [w6, w7, w8, tx_len, hil, hil', this]
end Go.Proofs.YtkclehdmdnfikaaDoor
