/- Patterns of one name: the laws hold of what the program computes. -/
import Derived.Test.YtfbbpknimppcmaaGlK
set_option linter.unusedSimpArgs false
set_option linter.unusedVariables false
set_option linter.constructorNameAsVariable false
namespace Go.Glob
theorem lits_flat : ∀ p : List UInt8, flat (p.map .lit)
  | [] => trivial
  | _ :: p => lits_flat p
theorem lits_ok : ∀ {p : List UInt8}, p.all nb = true → okL (p.map .lit)
  | [], _ => by simp [okL]
  | c :: p, h => by simp only [List.all_cons, Bool.and_eq_true] at h; simp only [List.map_cons, okL]; exact ⟨h.1, lits_ok h.2⟩
theorem lits_text : ∀ p : List UInt8, texts (p.map .lit) = p
  | [] => rfl
  | c :: p => by have := lits_text p; simp [texts, Pc.text] at this ⊢; exact this
theorem marks_flat : ∀ n : Nat, flat (List.replicate n .q)
  | 0 => trivial
  | n + 1 => by rw [List.replicate_succ]; exact marks_flat n
theorem marks_ok : ∀ n : Nat, okL (List.replicate n .q)
  | 0 => by simp [okL]
  | n + 1 => by rw [List.replicate_succ]; simp only [okL]; exact marks_ok n
theorem marks_text : ∀ n : Nat, texts (List.replicate n .q) = List.replicate n 63
  | 0 => rfl
  | n + 1 => by have := marks_text n; rw [List.replicate_succ, List.replicate_succ, ← this]; simp [texts, Pc.text]
theorem parse_plain {p : List UInt8} (h : p.all nb = true) (h0 : p ≠ []) (hl : p.length ≤ 128) : parse p = .ok (p.map .lit) := by
  have := parse_texts (l := p.map .lit) (n := p.length) ⟨lits_flat p, lits_ok h, by rw [lits_text]; exact Nat.le_refl _⟩ hl (by rw [lits_text]; exact h0)
  rwa [lits_text] at this
theorem parse_marks {n : Nat} (h0 : n ≠ 0) (hl : n ≤ 128) : parse (List.replicate n 63) = .ok (List.replicate n .q) := by
  have := parse_texts (l := List.replicate n .q) (n := n) ⟨marks_flat n, marks_ok n, by rw [marks_text]; simp⟩ hl (by rw [marks_text]; simp [h0])
  rwa [marks_text] at this
end Go.Glob
namespace Go.Proofs.Ytfbbpknimppcmaa
open Go.Abs Go.Glob

theorem match_ok {s name : List UInt8} {l : List Pc} (h : parse s = .ok l) : matchF s name = ((expd [[]] l).any fun o => mt o name, 0) := by simp [matchF, h]
theorem match_star (name : List UInt8) : matchF [42] name = (true, 0) := by
  have h : parse [42] = .ok [.star] := by
    have := parse_texts (l := [.star]) (n := 1) ⟨trivial, by simp [okL], by simp [texts, Pc.text]⟩ (by omega) (by simp [texts, Pc.text])
    simpa [texts, Pc.text] using this
  rw [match_ok h]
  have : expd [[]] [Pc.star] = [[.star]] := by simp [expd]
  rw [this]
  simp [mt_any]
theorem match_plain {p : List UInt8} (name : List UInt8) (h : p.all nb = true) (h0 : p ≠ []) (hl : p.length ≤ 128) : matchF p name = (decide (p = name), 0) := by
  rw [match_ok (parse_plain h h0 hl), expd_flat _ _ (lits_flat p)]
  simp [mt_lits]
theorem match_marks {n : Nat} (name : List UInt8) (h0 : n ≠ 0) (hl : n ≤ 128) : matchF (List.replicate n 63) name = (decide (name.length = n), 0) := by
  rw [match_ok (parse_marks h0 hl), expd_flat _ _ (marks_flat n)]
  simp [mt_marks]

theorem plain_law (p name : List UInt8) (hp : p.length ≤ 9223372036854775807) (hn : name.length ≤ 9223372036854775807) : PCalls Try.prog n_isobarlaw15_GlobPlain [.str p, .str name] (fun r => r = .bool true) := by
  refine pcalls_of_awp hmix c_isobarlaw15_GlobPlain rfl ?_
  simp [a_isobarlaw15_GlobPlain]
  refine ac_same alive_ok (by simp) ?_
  rintro r rfl
  simp
  by_cases h200 : 200 < name.length
  · have h200' : (200 : Int) < name.length := by omega
    simp [h200, h200']
  have h200' : ¬ (200 : Int) < name.length := by omega
  simp [h200, h200']
  refine ac_same (Match_ok [42] name (by simp) (by omega)) (by simp) ?_
  rintro r rfl
  rw [match_star]
  simp
  refine ac_same (refPlain_ok p hp) (by simp) ?_
  rintro r rfl
  by_cases hpl : (p.all nb && !p.isEmpty) = true
  · obtain ⟨h1, h2⟩ := Bool.and_eq_true_iff.1 hpl
    have h2' : p ≠ [] := by simpa using h2
    rw [hpl]
    simp
    by_cases h128 : 128 < p.length
    · have h128' : (128 : Int) < p.length := by omega
      simp [h128, h128']
    have h128' : ¬ (128 : Int) < p.length := by omega
    simp [h128, h128']
    refine ac_same (Match_ok p name hp (by omega)) (by simp) ?_
    rintro r rfl
    rw [match_plain name h1 h2' (by omega)]
    simp
    refine ac_same (Match_ok p p hp (by omega)) (by simp) ?_
    rintro r rfl
    rw [match_plain p h1 h2' (by omega)]
    simp
  · simp only [Bool.not_eq_true] at hpl
    rw [hpl]
    simp

theorem marks_law (n : UInt8) (name : List UInt8) (hn : name.length ≤ 9223372036854775807) : PCalls Try.prog n_isobarlaw15_GlobMarks [.int .u8 n.toNat, .str name] (fun r => r = .bool true) := by
  refine pcalls_of_awp hmix c_isobarlaw15_GlobMarks rfl ?_
  simp [a_isobarlaw15_GlobMarks]
  refine ac_same alive_ok (by simp) ?_
  rintro r rfl
  simp
  by_cases h200 : 200 < name.length
  · have h200' : (200 : Int) < name.length := by omega
    simp [h200, h200']
  have h200' : ¬ (200 : Int) < name.length := by omega
  simp [h200, h200']
  have hn256 : n.toNat < 256 := n.toNat_lt
  let k := n.toNat % 40 + 1
  have hk : k = n.toNat % 40 + 1 := rfl
  clear_value k
  have hw1 : IntKind.i64.wrap (n.toNat : Int) = n.toNat := wrap_i64 (by omega) (by omega)
  have hw2 : IntKind.i64.wrap ((n.toNat : Int).tmod 40 + 1) = k := by
    have : (n.toNat : Int).tmod 40 = ((n.toNat % 40 : Nat) : Int) := by
      rw [Int.tmod_eq_emod_of_nonneg (by omega)]; simp
    rw [this, wrap_i64 (by omega) (by omega)]; omega
  refine lp_start (fun x f σ => ∃ i : Nat, x = k - i ∧ i ≤ k ∧ f 0 = .int .u8 n.toNat ∧ f 1 = .str name ∧ f 5 = .str (List.replicate i 63) ∧ f 6 = .int .i64 i ∧ σ = []) k ⟨0, by simp⟩ ?_
  rintro x f σ ⟨i, rfl, hi, h0, h1, h5, h6, rfl⟩
  simp [h0, h6, hw1, hw2]
  refine cb_dec (fun hlt => ?_) (fun hge => ?_)
  · have hw3 : IntKind.i64.wrap ((i : Int) + 1) = (i : Int) + 1 := wrap_i64 (by omega) (by omega)
    have hb : i + 1 ≤ 9223372036854775807 := by omega
    simp [h0, h1, h5, h6, hb, hw3]
    refine ⟨_, ?_, i + 1, rfl, by omega, by rw [List.replicate_succ'], by omega⟩
    omega
  · have ei : i = k := by omega
    subst ei
    simp [h1, h5]
    refine ac_same (Match_ok _ name (by simp; omega) (by omega)) (by simp) ?_
    rintro r rfl
    rw [match_marks name (by omega) (by omega)]
    simp [h1, h5]
    exact ⟨fun h => by omega, fun h => by omega⟩
end Go.Proofs.Ytfbbpknimppcmaa
