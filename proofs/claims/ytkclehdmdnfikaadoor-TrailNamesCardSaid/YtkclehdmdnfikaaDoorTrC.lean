/- Paths of names: the law of heads. -/
import Derived.Test.YtkclehdmdnfikaaDoorTrB
set_option linter.unusedSimpArgs false
set_option linter.unusedVariables false
set_option linter.constructorNameAsVariable false
set_option maxHeartbeats 4000000
namespace Go.Proofs.YtkclehdmdnfikaaDoor
open Go.Abs Go.Glob Go.Trail
variable {G : Globs}

theorem aliveT_ok : PCalls Tryd.prog n_isobarlaw16_alive [] (fun r => r = .bool true) := by
  refine pcalls_of_awp hmix c_isobarlaw16_alive rfl ?_
  simp [a_isobarlaw16_alive]
  have e2 : trMatch [97, 46, 98, 42, 46, 99] [97, 46, 98, 120, 46, 99] = (true, 0) := by decide +kernel
  have e3 : trMatch [97, 46, 98, 42, 46, 99] [97, 46, 98, 120] = (false, 0) := by decide +kernel
  have e4 : (path [97, 46, 98]).isSome = true := by decide +kernel
  have e5 : (path [97, 46, 46, 98]).isSome = false := by decide +kernel
  refine ac_same (trMatch_ok _ _ (by simp) (by simp)) (by simp) ?_
  rintro r rfl
  rw [e2]
  simp
  refine ac_same (trMatch_ok _ _ (by simp) (by simp)) (by simp) ?_
  rintro r rfl
  rw [e3]
  simp
  refine ac_same (right_ok _ (by simp)) (by simp) ?_
  rintro r rfl
  rw [e4]
  simp
  refine ac_same (right_ok _ (by simp)) (by simp) ?_
  rintro r rfl
  rw [e5]
  simp

theorem heads_law (s : List UInt8) (hs : s.length ≤ 9223372036854775807) : PCalls Tryd.prog n_isobarlaw16_TrailHeads [.str s] (fun r => r = .bool true) := by
  refine pcalls_of_awp hmix c_isobarlaw16_TrailHeads rfl ?_
  simp [a_isobarlaw16_TrailHeads]
  refine ac_same aliveT_ok (by simp) ?_
  rintro r rfl
  simp
  by_cases h2000 : 2000 < s.length
  · have h2000' : (2000 : Int) < s.length := by omega
    simp [h2000, h2000']
  have h2000' : ¬ (2000 : Int) < s.length := by omega
  simp [h2000, h2000']
  refine ac_same (split_ok s (by omega)) (by simp) ?_
  rintro r rfl
  cases hP : path s with
  | none =>
    simp [pathAV]
    refine ac_same (right_ok s (by omega)) (by simp) ?_
    rintro r rfl
    simp [hP]
  | some l =>
    obtain ⟨hl1, hl2⟩ := path_sp hP
    have hl0 : 1 ≤ l.length := by rw [hl1]; exact List.length_pos_iff.2 (sp_ne s)
    have el : (strEls l).length = l.length := by simp [strEls]
    have hone : ∀ c ∈ strEls l, c.length = 1 := fun c hc => by
      obtain ⟨q, _, rfl⟩ := List.mem_map.1 hc; rfl
    simp [pathAV]
    refine lp_start (fun x f σ => ∃ n : Nat, x = l.length + 1 - n ∧ 1 ≤ n ∧ n ≤ l.length + 1 ∧ f 0 = .str s ∧ f 3 = .lst (strEls l) ∧ f 5 = .int .i64 n ∧ σ = []) l.length ⟨1, by simp⟩ ?_
    rintro x f σ ⟨n, rfl, hn1, hn2, h0, h3, h5, rfl⟩
    simp [h3, h5, el]
    refine cb_dec (fun hle => ?_) (fun hgt => ?_)
    · have hle' : n ≤ l.length := by omega
      simp [h0, h5]
      refine ac_same (head_ok s n (by omega) (by omega) (by omega)) (by simp) ?_
      rintro r rfl
      have g1 : ¬ (((n : Nat) : Int) < 1 ∨ ((n : Nat) : Int) > l.length) := by omega
      simp only [hP]
      rw [if_neg g1]
      have hjl : join l = s := by rw [hl1]; exact join_sp s
      have hjt := join_len l n
      rw [hjl] at hjt
      simp
      refine ac_same (split_ok (join (l.take n)) (by omega)) (by simp) ?_
      rintro r rfl
      rw [path_head hP n hn1]
      have htk : (strEls l).take n = strEls (l.take n) := by simp [strEls]
      simp [pathAV, h3, h5]
      rw [if_pos hone]
      simp [htk, el, hle']
      refine ac_same (texts_ok (l.take n) (l.take n) (by simp; omega)) (by simp) ?_
      rintro r rfl
      have hw := path_whole hP n hn1 hle'
      simp [h0, h3, h5, el]
      have hw' : (((n : Nat) : Int) = l.length) ↔ join (l.take n) = s := by rw [← hw]; omega
      have hd : (decide (((n : Nat) : Int) = l.length) != decide (join (l.take n) = s)) = false := by
        by_cases hq : join (l.take n) = s
        · simp [hq, hw'.2 hq]
        · have : ¬ ((n : Nat) : Int) = l.length := fun h => hq (hw'.1 h)
          simp [hq, this]
      rw [hd]
      simp [h0, h3, h5]
      refine ⟨_, ?_, n + 1, rfl, by omega, by omega, by rw [wrap_i64 (by omega) (by omega)]; simp⟩
      omega
    · simp [h3, el]
      omega
end Go.Proofs.YtkclehdmdnfikaaDoor
