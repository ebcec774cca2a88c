/- Points as lines: the law of blanks. -/
import Derived.Test.YtddpegkbmdcgbaaDoorLnE
import Derived.Test.YtddpegkbmdcgbaaDoorLnD
set_option linter.unusedSimpArgs false
set_option linter.unusedVariables false
set_option linter.constructorNameAsVariable false
set_option maxHeartbeats 8000000
namespace Go.Proofs.YtddpegkbmdcgbaaDoor
open Go.Abs Go.Glob Go.Line Go.Dec Go.Trail
variable {G : Globs}

/-- Blanks and tabs. -/
def gstr (i n : Nat) : List UInt8 := (List.range n).map fun k => if (k + i) % 3 = 0 then 9 else 32
theorem gstr_succ (i n : Nat) : gstr i (n + 1) = gstr i n ++ [if (n + i) % 3 = 0 then 9 else 32] := by simp [gstr, List.range_succ]
theorem gstr_gap (i n : Nat) : gstr i (n + 1) ≠ [] ∧ ∀ d ∈ gstr i (n + 1), gapB d = true := by
  refine ⟨by rw [gstr_succ]; simp, fun d hd => ?_⟩
  simp only [gstr, List.mem_map] at hd
  obtain ⟨k, _, rfl⟩ := hd
  split <;> rfl
def pre (a b c : List UInt8) (n0 n1 n2 n3 : Nat) : Nat → List UInt8
  | 0 => []
  | 1 => gstr 0 (n0 + 1) ++ a
  | 2 => gstr 0 (n0 + 1) ++ (a ++ (gstr 1 (n1 + 1) ++ b))
  | 3 => gstr 0 (n0 + 1) ++ (a ++ (gstr 1 (n1 + 1) ++ (b ++ (gstr 2 (n2 + 1) ++ c))))
  | _ => gstr 0 (n0 + 1) ++ (a ++ (gstr 1 (n1 + 1) ++ (b ++ (gstr 2 (n2 + 1) ++ (c ++ gstr 3 (n3 + 1))))))
theorem lblanks_law [GDec] (s : List UInt8) (g0 g1 g2 g3 : UInt8) (hs : s.length ≤ 1000000000000) :
    PCalls Tryd.prog n_isobarlaw18_LineBlanks [.str s, .agg [.int .u8 g0.toNat, .int .u8 g1.toNat, .int .u8 g2.toNat, .int .u8 g3.toNat]] (fun r => r = .bool true) := by
  refine pcalls_of_awp hmix c_isobarlaw18_LineBlanks rfl ?_
  simp [a_isobarlaw18_LineBlanks]
  refine ac_same lalive_ok (by simp) ?_
  rintro r rfl
  simp
  refine ac_same (lparse_ok s (by omega)) (by simp) ?_
  rintro r rfl
  cases hP : lparse s with
  | error e =>
    have he := lparse_err hP
    have he' : ¬ ((e : Int) = 0) := by omega
    simp [lparseAV, sampAV]
    refine ac_same (rwords_ok s hs) (by simp) ?_
    rintro r rfl
    simp [he, he']
  | ok x =>
  obtain ⟨a, v, t⟩ := x
  obtain ⟨⟨b, c, hw⟩, hsl, hX, hXn⟩ := lparse_right hP
  have hwl : ∀ w ∈ words s, w.length ≤ 200 := fun w hw => by
    have := flds_len _ _ w hw
    have h2 := cutCR_len s
    simp at this; omega
  have hmem := words_mem s
  have hlp3 : lp3 [a, b, c] = .ok (a, v, t) := by
    rw [lparse, if_neg (by omega), hw] at hP; exact hP
  rw [hw] at hwl hmem
  have hal := hwl a (by simp)
  have hbl := hwl b (by simp)
  have hcl := hwl c (by simp)
  simp [lparseAV, sampAV]
  refine ac_same (rwords_ok s hs) (by simp) ?_
  rintro r rfl
  rw [hw]
  simp
  refine lp_startx (fun x f σ => ∃ (i : Nat) (acc : List UInt8), x = 4 - i ∧ i ≤ 4 ∧ acc = pre a b c (g0.toNat % 9) (g1.toNat % 9) (g2.toNat % 9) (g3.toNat % 9) i ∧ acc.length ≤ 300 * i ∧ f 0 = .str s ∧ f 3 = .ptr 0 0 ∧ f 5 = .ptr 1 0 ∧ f 6 = .int .i64 0 ∧ f 7 = .lst (txtW [a, b, c]) ∧ f 8 = .str acc ∧ f 9 = .int .i64 i ∧ σ = [.var 32 [.int .u8 g0.toNat, .int .u8 g1.toNat, .int .u8 g2.toNat, .int .u8 g3.toNat], .var 23 [.str a, .int .i64 v, .int .i64 t]]) 4 ?_ ?_
  · exact ⟨0, [], by simp, by simp, rfl, by simp, by simp, by simp, by simp, by simp, by simp, by simp, by simp, by simp⟩
  rintro x f σ ⟨i, acc, hx, hi, hacc, hal2, h0, h3, h5, h6, h7, h8, h9, rfl⟩
  match i, hi with
  | 0, _ =>
    have hwg : IntKind.i64.wrap (g0.toNat : Int) = (g0.toNat : Int) := wrap_i64 (by have := g0.toNat_lt; omega) (by have := g0.toNat_lt; omega)
    obtain ⟨Q, hQ⟩ : ∃ Q : Nat, g0.toNat % 9 = Q := ⟨_, rfl⟩
    have hQ9 : Q < 9 := by omega
    have hmd : (g0.toNat : Int).tmod 9 = (Q : Int) := by rw [Int.tmod_eq_emod_of_nonneg (by omega)]; omega
    have hwm1 : IntKind.i64.wrap ((Q : Int) + 1) = (Q : Int) + 1 := wrap_i64 (by omega) (by omega)
    simp at h9
    simp [h0, h3, h5, h6, h7, h8, h9]
    refine lp_gen (fun f' => f' 0 = .str s ∧ f' 3 = .ptr 0 0 ∧ f' 5 = .ptr 1 0 ∧ f' 6 = .int .i64 0 ∧ f' 7 = .lst (txtW [a, b, c]) ∧ f' 8 = .str acc ∧ f' 9 = .int .i64 0 ∧ f' 10 = .int .i64 0) ⟨by simp [h0], by simp [h3], by simp [h5], by simp [h6], by simp [h7], by simp [h8], by simp [h9], by simp⟩ ?_
    rintro f0 ⟨u0, u3, u5, u6, u7, u8, u9, u10⟩
    refine lp_startx (fun x f σ => ∃ (k : Nat), x = Q + 1 - k ∧ k ≤ Q + 1 ∧ f 0 = .str s ∧ f 3 = .ptr 0 0 ∧ f 5 = .ptr 1 0 ∧ f 6 = .int .i64 0 ∧ f 7 = .lst (txtW [a, b, c]) ∧ f 8 = .str (acc ++ gstr 0 k) ∧ f 9 = .int .i64 0 ∧ f 10 = .int .i64 k ∧ σ = [.var 32 [.int .u8 g0.toNat, .int .u8 g1.toNat, .int .u8 g2.toNat, .int .u8 g3.toNat], .var 23 [.str a, .int .i64 v, .int .i64 t]]) (Q + 1) ?_ ?_
    · exact ⟨0, rfl, by omega, u0, u3, u5, u6, u7, by simp [u8, gstr], u9, u10, rfl⟩
    rintro x' f1 σ' ⟨k, hx', hk, w0, w3, w5, w6, w7, w8, w9, w10, rfl⟩
    have hgl : (gstr 0 k).length = k := by simp [gstr]
    by_cases hkl : k < Q + 1
    · have hkl' : (k : Int) < (Q : Int) + 1 := by omega
      have hkl2 : k ≤ Q := by omega
      have hwk : IntKind.i64.wrap ((k : Int) + 1) = (k : Int) + 1 := wrap_i64 (by omega) (by omega)
      have hwki : IntKind.i64.wrap (k : Int) = (k : Int) := wrap_i64 (by omega) (by omega)
      have hl1 : acc.length + k ≤ 9223372036854775806 := by omega
      have hl2 : acc.length + (k + 1) ≤ 9223372036854775807 := by omega
      have hl3 : acc.length + k + 1 ≤ 9223372036854775807 := by omega
      by_cases h30 : k % 3 = 0
      · have h3t : (k : Int).tmod 3 = 0 := by rw [Int.tmod_eq_emod_of_nonneg (by omega)]; omega
        simp [w0, w3, w5, w6, w7, w8, w9, w10, hwg, hmd, hwm1, hkl, hkl', hkl2, hwk, hwki, h3t, hgl, hl1, hl2, hl3]
        refine nx_intro (Q + 1 - (k + 1)) (by omega) ⟨k + 1, rfl, by omega, by simp [w0], by simp [w3], by simp [w5], by simp [w6], by simp [w7], by simp [gstr_succ, h30], by simp [w9], by simp, rfl⟩
      · have h3t : ¬ (k : Int).tmod 3 = 0 := by rw [Int.tmod_eq_emod_of_nonneg (by omega)]; omega
        simp [w0, w3, w5, w6, w7, w8, w9, w10, hwg, hmd, hwm1, hkl, hkl', hkl2, hwk, hwki, h3t, hgl, hl1, hl2, hl3]
        refine nx_intro (Q + 1 - (k + 1)) (by omega) ⟨k + 1, rfl, by omega, by simp [w0], by simp [w3], by simp [w5], by simp [w6], by simp [w7], by simp [gstr_succ, h30], by simp [w9], by simp, rfl⟩
    · have hkl' : ¬ (k : Int) < (Q : Int) + 1 := by omega
      have hkl2 : ¬ k ≤ Q := by omega
      have hkq : k = Q + 1 := by omega
      subst hkq
      have hw0 : IntKind.i64.wrap 1 = 1 := wrap_i64 (by omega) (by omega)
      have hl1 : acc.length + (Q + 1) + a.length ≤ 9223372036854775807 := by omega
      have hl2 : acc.length + (Q + 1 + a.length) ≤ 9223372036854775807 := by omega
      simp [w0, w3, w5, w6, w7, w8, w9, w10, hwg, hmd, hwm1, hkl, hkl', hkl2, hw0, txtW, hgl, hl1, hl2]
      refine nx_intro 3 (by omega) ⟨1, acc ++ (gstr 0 (Q + 1) ++ a), by omega, by omega, ?_, by simp [hgl]; omega, by simp [w0], by simp [w3], by simp [w5], by simp [w6], by simp [w7, txtW], by simp, by simp, rfl⟩
      rw [hacc, ← hQ]; simp [pre]
  | 1, _ =>
    have hwg : IntKind.i64.wrap (g1.toNat : Int) = (g1.toNat : Int) := wrap_i64 (by have := g1.toNat_lt; omega) (by have := g1.toNat_lt; omega)
    obtain ⟨Q, hQ⟩ : ∃ Q : Nat, g1.toNat % 9 = Q := ⟨_, rfl⟩
    have hQ9 : Q < 9 := by omega
    have hmd : (g1.toNat : Int).tmod 9 = (Q : Int) := by rw [Int.tmod_eq_emod_of_nonneg (by omega)]; omega
    have hwm1 : IntKind.i64.wrap ((Q : Int) + 1) = (Q : Int) + 1 := wrap_i64 (by omega) (by omega)
    simp at h9
    simp [h0, h3, h5, h6, h7, h8, h9]
    refine lp_gen (fun f' => f' 0 = .str s ∧ f' 3 = .ptr 0 0 ∧ f' 5 = .ptr 1 0 ∧ f' 6 = .int .i64 0 ∧ f' 7 = .lst (txtW [a, b, c]) ∧ f' 8 = .str acc ∧ f' 9 = .int .i64 1 ∧ f' 10 = .int .i64 0) ⟨by simp [h0], by simp [h3], by simp [h5], by simp [h6], by simp [h7], by simp [h8], by simp [h9], by simp⟩ ?_
    rintro f0 ⟨u0, u3, u5, u6, u7, u8, u9, u10⟩
    refine lp_startx (fun x f σ => ∃ (k : Nat), x = Q + 1 - k ∧ k ≤ Q + 1 ∧ f 0 = .str s ∧ f 3 = .ptr 0 0 ∧ f 5 = .ptr 1 0 ∧ f 6 = .int .i64 0 ∧ f 7 = .lst (txtW [a, b, c]) ∧ f 8 = .str (acc ++ gstr 1 k) ∧ f 9 = .int .i64 1 ∧ f 10 = .int .i64 k ∧ σ = [.var 32 [.int .u8 g0.toNat, .int .u8 g1.toNat, .int .u8 g2.toNat, .int .u8 g3.toNat], .var 23 [.str a, .int .i64 v, .int .i64 t]]) (Q + 1) ?_ ?_
    · exact ⟨0, rfl, by omega, u0, u3, u5, u6, u7, by simp [u8, gstr], u9, u10, rfl⟩
    rintro x' f1 σ' ⟨k, hx', hk, w0, w3, w5, w6, w7, w8, w9, w10, rfl⟩
    have hgl : (gstr 1 k).length = k := by simp [gstr]
    by_cases hkl : k < Q + 1
    · have hkl' : (k : Int) < (Q : Int) + 1 := by omega
      have hkl2 : k ≤ Q := by omega
      have hwk : IntKind.i64.wrap ((k : Int) + 1) = (k : Int) + 1 := wrap_i64 (by omega) (by omega)
      have hwki : IntKind.i64.wrap ((k : Int) + 1) = ((k : Int) + 1) := wrap_i64 (by omega) (by omega)
      have hl1 : acc.length + k ≤ 9223372036854775806 := by omega
      have hl2 : acc.length + (k + 1) ≤ 9223372036854775807 := by omega
      have hl3 : acc.length + k + 1 ≤ 9223372036854775807 := by omega
      by_cases h30 : (k + 1) % 3 = 0
      · have h3t : ((k : Int) + 1).tmod 3 = 0 := by rw [Int.tmod_eq_emod_of_nonneg (by omega)]; omega
        simp [w0, w3, w5, w6, w7, w8, w9, w10, hwg, hmd, hwm1, hkl, hkl', hkl2, hwk, hwki, h3t, hgl, hl1, hl2, hl3]
        refine nx_intro (Q + 1 - (k + 1)) (by omega) ⟨k + 1, rfl, by omega, by simp [w0], by simp [w3], by simp [w5], by simp [w6], by simp [w7], by simp [gstr_succ, h30], by simp [w9], by simp, rfl⟩
      · have h3t : ¬ ((k : Int) + 1).tmod 3 = 0 := by rw [Int.tmod_eq_emod_of_nonneg (by omega)]; omega
        simp [w0, w3, w5, w6, w7, w8, w9, w10, hwg, hmd, hwm1, hkl, hkl', hkl2, hwk, hwki, h3t, hgl, hl1, hl2, hl3]
        refine nx_intro (Q + 1 - (k + 1)) (by omega) ⟨k + 1, rfl, by omega, by simp [w0], by simp [w3], by simp [w5], by simp [w6], by simp [w7], by simp [gstr_succ, h30], by simp [w9], by simp, rfl⟩
    · have hkl' : ¬ (k : Int) < (Q : Int) + 1 := by omega
      have hkl2 : ¬ k ≤ Q := by omega
      have hkq : k = Q + 1 := by omega
      subst hkq
      have hw1 : IntKind.i64.wrap 2 = 2 := wrap_i64 (by omega) (by omega)
      have hl1 : acc.length + (Q + 1) + b.length ≤ 9223372036854775807 := by omega
      have hl2 : acc.length + (Q + 1 + b.length) ≤ 9223372036854775807 := by omega
      simp [w0, w3, w5, w6, w7, w8, w9, w10, hwg, hmd, hwm1, hkl, hkl', hkl2, hw1, txtW, hgl, hl1, hl2]
      refine nx_intro 2 (by omega) ⟨2, acc ++ (gstr 1 (Q + 1) ++ b), by omega, by omega, ?_, by simp [hgl]; omega, by simp [w0], by simp [w3], by simp [w5], by simp [w6], by simp [w7, txtW], by simp, by simp, rfl⟩
      rw [hacc, ← hQ]; simp [pre]
  | 2, _ =>
    have hwg : IntKind.i64.wrap (g2.toNat : Int) = (g2.toNat : Int) := wrap_i64 (by have := g2.toNat_lt; omega) (by have := g2.toNat_lt; omega)
    obtain ⟨Q, hQ⟩ : ∃ Q : Nat, g2.toNat % 9 = Q := ⟨_, rfl⟩
    have hQ9 : Q < 9 := by omega
    have hmd : (g2.toNat : Int).tmod 9 = (Q : Int) := by rw [Int.tmod_eq_emod_of_nonneg (by omega)]; omega
    have hwm1 : IntKind.i64.wrap ((Q : Int) + 1) = (Q : Int) + 1 := wrap_i64 (by omega) (by omega)
    simp at h9
    simp [h0, h3, h5, h6, h7, h8, h9]
    refine lp_gen (fun f' => f' 0 = .str s ∧ f' 3 = .ptr 0 0 ∧ f' 5 = .ptr 1 0 ∧ f' 6 = .int .i64 0 ∧ f' 7 = .lst (txtW [a, b, c]) ∧ f' 8 = .str acc ∧ f' 9 = .int .i64 2 ∧ f' 10 = .int .i64 0) ⟨by simp [h0], by simp [h3], by simp [h5], by simp [h6], by simp [h7], by simp [h8], by simp [h9], by simp⟩ ?_
    rintro f0 ⟨u0, u3, u5, u6, u7, u8, u9, u10⟩
    refine lp_startx (fun x f σ => ∃ (k : Nat), x = Q + 1 - k ∧ k ≤ Q + 1 ∧ f 0 = .str s ∧ f 3 = .ptr 0 0 ∧ f 5 = .ptr 1 0 ∧ f 6 = .int .i64 0 ∧ f 7 = .lst (txtW [a, b, c]) ∧ f 8 = .str (acc ++ gstr 2 k) ∧ f 9 = .int .i64 2 ∧ f 10 = .int .i64 k ∧ σ = [.var 32 [.int .u8 g0.toNat, .int .u8 g1.toNat, .int .u8 g2.toNat, .int .u8 g3.toNat], .var 23 [.str a, .int .i64 v, .int .i64 t]]) (Q + 1) ?_ ?_
    · exact ⟨0, rfl, by omega, u0, u3, u5, u6, u7, by simp [u8, gstr], u9, u10, rfl⟩
    rintro x' f1 σ' ⟨k, hx', hk, w0, w3, w5, w6, w7, w8, w9, w10, rfl⟩
    have hgl : (gstr 2 k).length = k := by simp [gstr]
    by_cases hkl : k < Q + 1
    · have hkl' : (k : Int) < (Q : Int) + 1 := by omega
      have hkl2 : k ≤ Q := by omega
      have hwk : IntKind.i64.wrap ((k : Int) + 1) = (k : Int) + 1 := wrap_i64 (by omega) (by omega)
      have hwki : IntKind.i64.wrap ((k : Int) + 2) = ((k : Int) + 2) := wrap_i64 (by omega) (by omega)
      have hl1 : acc.length + k ≤ 9223372036854775806 := by omega
      have hl2 : acc.length + (k + 1) ≤ 9223372036854775807 := by omega
      have hl3 : acc.length + k + 1 ≤ 9223372036854775807 := by omega
      by_cases h30 : (k + 2) % 3 = 0
      · have h3t : ((k : Int) + 2).tmod 3 = 0 := by rw [Int.tmod_eq_emod_of_nonneg (by omega)]; omega
        simp [w0, w3, w5, w6, w7, w8, w9, w10, hwg, hmd, hwm1, hkl, hkl', hkl2, hwk, hwki, h3t, hgl, hl1, hl2, hl3]
        refine nx_intro (Q + 1 - (k + 1)) (by omega) ⟨k + 1, rfl, by omega, by simp [w0], by simp [w3], by simp [w5], by simp [w6], by simp [w7], by simp [gstr_succ, h30], by simp [w9], by simp, rfl⟩
      · have h3t : ¬ ((k : Int) + 2).tmod 3 = 0 := by rw [Int.tmod_eq_emod_of_nonneg (by omega)]; omega
        simp [w0, w3, w5, w6, w7, w8, w9, w10, hwg, hmd, hwm1, hkl, hkl', hkl2, hwk, hwki, h3t, hgl, hl1, hl2, hl3]
        refine nx_intro (Q + 1 - (k + 1)) (by omega) ⟨k + 1, rfl, by omega, by simp [w0], by simp [w3], by simp [w5], by simp [w6], by simp [w7], by simp [gstr_succ, h30], by simp [w9], by simp, rfl⟩
    · have hkl' : ¬ (k : Int) < (Q : Int) + 1 := by omega
      have hkl2 : ¬ k ≤ Q := by omega
      have hkq : k = Q + 1 := by omega
      subst hkq
      have hw2 : IntKind.i64.wrap 3 = 3 := wrap_i64 (by omega) (by omega)
      have hl1 : acc.length + (Q + 1) + c.length ≤ 9223372036854775807 := by omega
      have hl2 : acc.length + (Q + 1 + c.length) ≤ 9223372036854775807 := by omega
      simp [w0, w3, w5, w6, w7, w8, w9, w10, hwg, hmd, hwm1, hkl, hkl', hkl2, hw2, txtW, hgl, hl1, hl2]
      refine nx_intro 1 (by omega) ⟨3, acc ++ (gstr 2 (Q + 1) ++ c), by omega, by omega, ?_, by simp [hgl]; omega, by simp [w0], by simp [w3], by simp [w5], by simp [w6], by simp [w7, txtW], by simp, by simp, rfl⟩
      rw [hacc, ← hQ]; simp [pre]
  | 3, _ =>
    have hwg : IntKind.i64.wrap (g3.toNat : Int) = (g3.toNat : Int) := wrap_i64 (by have := g3.toNat_lt; omega) (by have := g3.toNat_lt; omega)
    obtain ⟨Q, hQ⟩ : ∃ Q : Nat, g3.toNat % 9 = Q := ⟨_, rfl⟩
    have hQ9 : Q < 9 := by omega
    have hmd : (g3.toNat : Int).tmod 9 = (Q : Int) := by rw [Int.tmod_eq_emod_of_nonneg (by omega)]; omega
    have hwm1 : IntKind.i64.wrap ((Q : Int) + 1) = (Q : Int) + 1 := wrap_i64 (by omega) (by omega)
    simp at h9
    simp [h0, h3, h5, h6, h7, h8, h9]
    refine lp_gen (fun f' => f' 0 = .str s ∧ f' 3 = .ptr 0 0 ∧ f' 5 = .ptr 1 0 ∧ f' 6 = .int .i64 0 ∧ f' 7 = .lst (txtW [a, b, c]) ∧ f' 8 = .str acc ∧ f' 9 = .int .i64 3 ∧ f' 10 = .int .i64 0) ⟨by simp [h0], by simp [h3], by simp [h5], by simp [h6], by simp [h7], by simp [h8], by simp [h9], by simp⟩ ?_
    rintro f0 ⟨u0, u3, u5, u6, u7, u8, u9, u10⟩
    refine lp_startx (fun x f σ => ∃ (k : Nat), x = Q + 1 - k ∧ k ≤ Q + 1 ∧ f 0 = .str s ∧ f 3 = .ptr 0 0 ∧ f 5 = .ptr 1 0 ∧ f 6 = .int .i64 0 ∧ f 7 = .lst (txtW [a, b, c]) ∧ f 8 = .str (acc ++ gstr 3 k) ∧ f 9 = .int .i64 3 ∧ f 10 = .int .i64 k ∧ σ = [.var 32 [.int .u8 g0.toNat, .int .u8 g1.toNat, .int .u8 g2.toNat, .int .u8 g3.toNat], .var 23 [.str a, .int .i64 v, .int .i64 t]]) (Q + 1) ?_ ?_
    · exact ⟨0, rfl, by omega, u0, u3, u5, u6, u7, by simp [u8, gstr], u9, u10, rfl⟩
    rintro x' f1 σ' ⟨k, hx', hk, w0, w3, w5, w6, w7, w8, w9, w10, rfl⟩
    have hgl : (gstr 3 k).length = k := by simp [gstr]
    by_cases hkl : k < Q + 1
    · have hkl' : (k : Int) < (Q : Int) + 1 := by omega
      have hkl2 : k ≤ Q := by omega
      have hwk : IntKind.i64.wrap ((k : Int) + 1) = (k : Int) + 1 := wrap_i64 (by omega) (by omega)
      have hwki : IntKind.i64.wrap ((k : Int) + 3) = ((k : Int) + 3) := wrap_i64 (by omega) (by omega)
      have hl1 : acc.length + k ≤ 9223372036854775806 := by omega
      have hl2 : acc.length + (k + 1) ≤ 9223372036854775807 := by omega
      have hl3 : acc.length + k + 1 ≤ 9223372036854775807 := by omega
      by_cases h30 : (k + 3) % 3 = 0
      · have h30k : k % 3 = 0 := by omega
        have h3t : ((k : Int) + 3).tmod 3 = 0 := by rw [Int.tmod_eq_emod_of_nonneg (by omega)]; omega
        simp [w0, w3, w5, w6, w7, w8, w9, w10, hwg, hmd, hwm1, hkl, hkl', hkl2, hwk, hwki, h3t, hgl, hl1, hl2, hl3]
        refine nx_intro (Q + 1 - (k + 1)) (by omega) ⟨k + 1, rfl, by omega, by simp [w0], by simp [w3], by simp [w5], by simp [w6], by simp [w7], by simp [gstr_succ, h30, h30k], by simp [w9], by simp, rfl⟩
      · have h30k : ¬ k % 3 = 0 := by omega
        have h3t : ¬ ((k : Int) + 3).tmod 3 = 0 := by rw [Int.tmod_eq_emod_of_nonneg (by omega)]; omega
        simp [w0, w3, w5, w6, w7, w8, w9, w10, hwg, hmd, hwm1, hkl, hkl', hkl2, hwk, hwki, h3t, hgl, hl1, hl2, hl3]
        refine nx_intro (Q + 1 - (k + 1)) (by omega) ⟨k + 1, rfl, by omega, by simp [w0], by simp [w3], by simp [w5], by simp [w6], by simp [w7], by simp [gstr_succ, h30, h30k], by simp [w9], by simp, rfl⟩
    · have hkl' : ¬ (k : Int) < (Q : Int) + 1 := by omega
      have hkl2 : ¬ k ≤ Q := by omega
      have hkq : k = Q + 1 := by omega
      subst hkq
      have hw3 : IntKind.i64.wrap 4 = 4 := wrap_i64 (by omega) (by omega)
      simp [w0, w3, w5, w6, w7, w8, w9, w10, hwg, hmd, hwm1, hkl, hkl', hkl2, hw3, txtW, hgl]
      refine nx_intro 0 (by omega) ⟨4, acc ++ gstr 3 (Q + 1), by omega, by omega, ?_, by simp [hgl]; omega, by simp [w0], by simp [w3], by simp [w5], by simp [w6], by simp [w7, txtW], by simp [w8], by simp, rfl⟩
      rw [hacc, ← hQ]; simp [pre]
  | 4, _ =>
    have hws : words acc = [a, b, c] := by
      rw [hacc]
      exact words_wide hmem (by
        intro g hg
        simp only [List.mem_cons, List.not_mem_nil, or_false] at hg
        rcases hg with rfl | rfl | rfl | rfl <;> exact gstr_gap _ _)
    simp at h9
    simp [h0, h3, h5, h6, h7, h8, h9]
    refine ac_same (lparse_ok acc (by omega)) (by simp) ?_
    rintro r rfl
    by_cases hl : 200 < acc.length
    · have hl' : (200 : Int) < (acc.length : Int) := by omega
      have e : lparse acc = .error 12 := by rw [lparse, if_pos hl]
      rw [e]
      simp [lparseAV, sampAV, h5, h8, hl, hl']
    · have hl' : ¬ (200 : Int) < (acc.length : Int) := by omega
      have e : lparse acc = .ok (a, v, t) := by rw [lparse, if_neg hl, hws, hlp3]
      rw [e]
      simp [lparseAV, sampAV, h5, h8, hl, hl']
end Go.Proofs.YtddpegkbmdcgbaaDoor
