/- Numbers over time: an average lies between. -/
import Derived.Test.YtjkajkhomklikaaDoorSeE
set_option linter.unusedSimpArgs false
set_option linter.unusedVariables false
set_option linter.constructorNameAsVariable false
set_option maxHeartbeats 4000000
namespace Go.Proofs.YtjkajkhomklikaaDoor
open Go.Abs Go.Num Go.Ser
variable {G : Globs}
theorem between_law [GPow] (l : List N) (hok : oksN l) (hl : l.length ≤ 9223372036854775807) : PCalls Tryd.prog n_isobarlaw24_SeriesBetween [.lst (numEls l)] (fun r => r = .bool true) := by
  refine pcalls_of_awp hmix c_isobarlaw24_SeriesBetween rfl ?_
  have hlen := numEls_len l
  simp [a_isobarlaw24_SeriesBetween]
  refine ac_same salive_ok (by simp) ?_
  rintro r rfl
  simp [hlen]
  by_cases h3 : 3000 < l.length
  · have h3' : (3000 : Int) < (l.length : Int) := by omega
    simp [h3, h3']
  have h3' : ¬ (3000 : Int) < (l.length : Int) := by omega
  have hb := between_plain l (by omega) (fun n hn => (hok n hn).2)
  have k1 := reckon_ok (G := G) 1 l hok (by omega)
  have k3 := reckon_ok (G := G) 3 l hok (by omega)
  have k4 := reckon_ok (G := G) 4 l hok (by omega)
  rw [numA_eq] at k1 k3 k4
  simp [h3, h3']
  refine ac_same k1 (by simp) ?_
  rintro r rfl
  simp
  refine ac_same k3 (by simp) ?_
  rintro r rfl
  simp
  refine ac_same k4 (by simp) ?_
  rintro r rfl
  simp
  rcases hb with h | ⟨h1, h2, h3, h4⟩
  · simp [h]
  · cases hn : (reckon 1 l).1 with
    | true => simp
    | false => simp [h1, h2, h3, h4]
end Go.Proofs.YtjkajkhomklikaaDoor
