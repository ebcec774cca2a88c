/- Patterns of one name: the small functions. -/
import Derived.Test.YtkclehdmdnfikaaDoorCode
import Derived.Test.YtkclehdmdnfikaaDoorShelf
import Derived.Test.YtkclehdmdnfikaaDoorAbs2
import Derived.Test.YtkclehdmdnfikaaDoorGlLaws
import Derived.Lib.IndexAny
set_option linter.unusedSimpArgs false
set_option linter.unusedVariables false
set_option linter.constructorNameAsVariable false
namespace Go.Proofs.YtkclehdmdnfikaaDoor
open Go.Abs Go.Glob
variable {G : Globs}

/-- strings.IndexByte. -/
theorem indexByte_ok (s : List UInt8) (c : UInt8) : PCalls Tryd.prog 79 [.str s, .int .u8 c.toNat] (fun r => r = .int .i64 (Lib.indexByte s c)) := by
  intro base κ Im w vs hs hv
  obtain ⟨v0, v1, rfl⟩ : ∃ v0 v1, vs = [v0, v1] := by
    match vs, hv.1 with
    | [a, b], _ => exact ⟨a, b, rfl⟩
  have e0 := (hv.2 0 (by simp) (by simp)).str_inv
  have e1 := (hv.2 1 (by simp) (by simp)).int_inv
  simp only [List.getElem_cons_zero, List.getElem_cons_succ] at e0 e1
  subst e0; subst e1
  refine (Tryd.strings_IndexByte ⟨s.toArray⟩ c.toNat w).mono ?_
  rintro e w' ⟨rfl, rfl⟩
  exact ⟨_, [], _, κ, Im, rfl, ⟨rfl, rfl⟩, hs, Grow.refl _ _ _ _, .im _ _ (by simpa using IR.int (Im := Im) (w := w') .i64 (Lib.indexByte s c))⟩

theorem nb_index (c : UInt8) : nb c = ((97 ≤ c && c ≤ 122) || (65 ≤ c && c ≤ 90) || (48 ≤ c && c ≤ 57) || decide (0 ≤ Lib.indexByte [95, 45, 58, 37, 35, 64, 43, 61] c)) := by
  unfold nb
  rw [Lib.contains_iff_indexByte]

theorem byte_ok (c : UInt8) : PCalls Tryd.prog n_glob_Byte [.int .u8 c.toNat] (fun r => r = .bool (nb c)) := by
  refine pcalls_of_awp hmix c_glob_Byte rfl ?_
  simp [a_glob_Byte]
  repeat' (first
    | (refine gd_dt (fun _ => ?_) (fun _ => ?_))
    | (refine cb_dec (fun _ => ?_) (fun _ => ?_))
    | (refine ac_same (indexByte_ok _ _) (by simp) ?_; rintro r rfl)
    | simp [*])
  all_goals (simp [nb_index, UInt8.le_iff_toNat_le]; omega)

theorem refByte_ok (c : UInt8) : PCalls Tryd.prog n_isobarref15_Byte [.int .u8 c.toNat] (fun r => r = .bool (nb c)) := by
  refine pcalls_of_awp hmix c_isobarref15_Byte rfl ?_
  simp [a_isobarref15_Byte]
  repeat' (first
    | (refine gd_dt (fun _ => ?_) (fun _ => ?_))
    | (refine gd_df (fun _ => ?_) (fun _ => ?_))
    | (refine cb_dec (fun _ => ?_) (fun _ => ?_))
    | (refine lp_start (fun n f σ => ∃ i : Nat, n = 8 - i ∧ i ≤ 8 ∧ f 0 = .int .u8 c.toNat ∧ f 3 = .str [95, 45, 58, 37, 35, 64, 43, 61] ∧ f 4 = .int .i64 i ∧ (¬ c ∈ ([95, 45, 58, 37, 35, 64, 43, 61] : List UInt8).take i) ∧ σ = []) 8 ?_ ?_)
    | simp [*])
  all_goals try (exact ⟨0, by simp⟩)
  all_goals try (simp [nb, UInt8.le_iff_toNat_le]; omega)
  all_goals
    rintro n f σ ⟨i, rfl, hi, h0, h3, h4, hall, rfl⟩
    simp [h0, h3, h4]
    refine cb_dec (fun hlt => ?_) (fun hge => ?_)
    · have hlt' : i < ([95, 45, 58, 37, 35, 64, 43, 61] : List UInt8).length := by simp; omega
      simp [h0, h3, h4, List.getElem?_eq_getElem hlt']
      refine cb_dec (fun hc => ?_) (fun hc => ?_)
      · simp
        have : ([95, 45, 58, 37, 35, 64, 43, 61] : List UInt8)[i] = c := UInt8.toNat_inj.1 (by exact_mod_cast hc)
        have := List.getElem_mem hlt'
        simp_all [nb]
      · simp [h0, h3, h4]

        refine ⟨_, ?_, i + 1, rfl, by omega, by rw [wrap_i64 (by omega) (by omega)]; simp, ?_⟩
        · omega
        · rw [List.take_add_one, List.getElem?_eq_getElem hlt']
          simp only [Option.toList_some, List.mem_append, List.mem_singleton, not_or]
          exact ⟨hall, fun h => hc (by rw [h])⟩
    · have e : i = 8 := by omega
      subst e
      simp
      simp at hall
      simp [nb, UInt8.le_iff_toNat_le, hall]
      omega

theorem peek_some (s : List UInt8) (k : Nat) (c : UInt8) (bad depth deepest : AV) (h : s[k]? = some c) : PCalls Tryd.prog n_glob_parser_peek [.rptr [.str s, .int .i64 k, bad, depth, deepest]] (fun r => r = .tup [.int .u8 c.toNat, .bool true]) := by
  refine pcalls_of_awp hmix c_glob_parser_peek rfl ?_
  have hk : k < s.length := (List.getElem?_eq_some_iff.1 h).1
  simp [a_glob_parser_peek]
  refine cb_dec (fun hh => by omega) (fun _ => ?_)
  simp [h]
theorem peek_none (s : List UInt8) (k : Nat) (bad depth deepest : AV) (h : s.length ≤ k) : PCalls Tryd.prog n_glob_parser_peek [.rptr [.str s, .int .i64 k, bad, depth, deepest]] (fun r => r = .tup [.int .u8 0, .bool false]) := by
  refine pcalls_of_awp hmix c_glob_parser_peek rfl ?_
  simp [a_glob_parser_peek, h]

/-- A list of texts. -/
def strEls (l : List (List UInt8)) : List (List AV) := l.map fun s => [.str s]

theorem texts_ok (l m : List (List UInt8)) (hl : l.length ≤ 9223372036854775807) : PCalls Tryd.prog n_isobarref06_Texts [.lst (strEls l), .lst (strEls m)] (fun r => r = .bool (decide (l = m))) := by
  refine pcalls_of_awp hmix c_isobarref06_Texts rfl ?_
  have key : ∀ (l m : List (List UInt8)), l.length = m.length → ∀ i, i < l.length → (strEls l)[i]? = some [.str (l.getD i [])] := fun l m _ i hi => by simp [strEls, List.getElem?_eq_getElem hi]
  have e1 : ∀ l, (strEls l).length = l.length := fun l => by simp [strEls]
  simp [a_isobarref06_Texts, e1]
  refine cb_intro (fun h => ?_) (fun h => ?_)
  · simp
    simp at h
    intro hlm; rw [hlm] at h; exact absurd rfl h
  have hlm : l.length = m.length := by simp at h; omega
  simp
  refine lp_intro (fun n f σ => ∃ i : Nat, n = l.length - i ∧ i ≤ l.length ∧ f 0 = .lst (strEls l) ∧ f 1 = .lst (strEls m) ∧ f 5 = .int .i64 i ∧ (l.take i = m.take i) ∧ σ = []) l.length ?_ ?_
  · exact ⟨0, by simp⟩
  rintro n f σ ⟨i, rfl, hi, h0, h1, h5, hall, rfl⟩
  simp [h0, h1, h5, e1]
  refine cb_dec (fun hlt => ?_) (fun hge => ?_)
  · have hlt' : i < l.length := by omega
    simp [h0, h1, h5, key l m hlm i hlt', key m l hlm.symm i (by omega)]
    refine cb_intro (fun h => ?_) (fun h => ?_)
    · simp
      simp at h
      rintro rfl; exact h rfl
    · simp [h0, h1, h5]
      refine ⟨_, ?_, i + 1, rfl, by omega, by rw [wrap_i64 (by omega) (by omega)]; simp, ?_⟩
      · omega
      · simp [List.getElem?_eq_getElem hlt', List.getElem?_eq_getElem (show i < m.length by omega)] at h
        rw [List.take_add_one, List.take_add_one, hall, List.getElem?_eq_getElem hlt', List.getElem?_eq_getElem (show i < m.length by omega), h]
  · have el : l.take i = l := List.take_of_length_le (by omega)
    have em : m.take i = m := List.take_of_length_le (by omega)
    rw [el, em] at hall
    subst hall
    simp
end Go.Proofs.YtkclehdmdnfikaaDoor
