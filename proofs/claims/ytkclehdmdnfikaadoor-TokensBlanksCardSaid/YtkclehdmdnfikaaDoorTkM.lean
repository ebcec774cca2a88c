/- A target's tokens: has, great. -/
import Derived.Test.YtkclehdmdnfikaaDoorTkD
import Derived.Test.YtkclehdmdnfikaaDoorAbs2
set_option linter.unusedSimpArgs false
set_option linter.unusedVariables false
set_option linter.constructorNameAsVariable false
set_option maxHeartbeats 4000000
namespace Go.Proofs.YtkclehdmdnfikaaDoor
open Go.Abs Go.Glob Go.Tok
variable {G : Globs}

theorem refHas_ok (s : List UInt8) (c : UInt8) (hs : s.length ≤ 9223372036854775807) : PCalls Tryd.prog n_isobarref22_has [.str s, .int .u8 c.toNat] (fun r => r = .bool (decide (c ∈ s))) := by
  refine pcalls_of_awp hmix c_isobarref22_has rfl ?_
  simp [a_isobarref22_has]
  refine lp_startx (fun x f σ => ∃ (i : Nat), x = s.length - i ∧ i ≤ s.length ∧ (c ∈ s ↔ c ∈ s.drop i) ∧ f 0 = .str s ∧ f 1 = .int .u8 c.toNat ∧ f 5 = .int .i64 i ∧ σ = []) s.length ?_ ?_
  · exact ⟨0, by simp, by simp, by simp, by simp, by simp, by simp, rfl⟩
  rintro x f σ ⟨i, hx, hi, hm, h0, h1, h5, rfl⟩
  by_cases hk : i < s.length
  · obtain ⟨d, hc⟩ : ∃ d, s[i]? = some d := ⟨_, List.getElem?_eq_getElem hk⟩
    have hd := drop_cons hc
    obtain ⟨_, hc2⟩ := List.getElem?_eq_some_iff.1 hc
    have hwi : IntKind.i64.wrap ((i : Int) + 1) = (i : Int) + 1 := wrap_i64 (by omega) (by omega)
    rw [hd, List.mem_cons] at hm
    by_cases hdc : d = c
    · subst hdc
      have hin : d ∈ s := hm.2 (.inl rfl)
      simp [h0, h1, h5, hk, hc, hc2, hin]
    · have hdc' : ¬ ((d.toNat : Int) = (c.toNat : Int)) := ne_nat rfl hdc
      have hdc'' : ¬ (d.toNat = c.toNat) := fun h => hdc (UInt8.toNat_inj.1 h)
      simp [h0, h1, h5, hk, hc, hc2, hdc', hdc'', hdc, hwi]
      refine nx_intro (s.length - (i + 1)) (by omega) ⟨i + 1, rfl, by omega, ?_, by simp [h0], by simp [h1], by simp, rfl⟩
      rw [hm]
      exact ⟨fun h => h.resolve_left (fun e => hdc e.symm), .inr⟩
  · have hin : ¬ c ∈ s := fun h => by
      have := hm.1 h
      rw [List.drop_of_length_le (by omega)] at this
      cases this
    simp [h0, h1, h5, hk, hin]

theorem has1_ok (s : List UInt8) (c : UInt8) : PCalls Tryd.prog 95 [.str s, .str [c]] (fun r => r = .bool (decide (c ∈ s))) :=
  pcalls2 fun base κ Im w v u hs h1 h2 => by
    cases h1.str_inv; cases h2.str_inv
    refine (Tryd.strings_Contains_one ⟨s.toArray⟩ c w).mono ?_
    rintro e w' ⟨rfl, rfl⟩
    refine ⟨_, _, rfl, rfl, Go.RowKit.Below.refl _ _, fun Im' => ?_⟩
    have e : (decide (0 ≤ Lib.indexByte (⟨s.toArray⟩ : ByteArray).data.toList c)) = decide (c ∈ s) := decide_eq_decide.2 (by simpa using idx_mem s c)
    rw [e]
    exact .bool _
/-- The quote that a text has not. -/
def quoteOf (s : List UInt8) : List UInt8 := if 39 ∈ s then (if 34 ∈ s then [] else [34]) else [39]
theorem quote_ok (s : List UInt8) : PCalls Tryd.prog n_tokens_quote [.str s] (fun r => r = .str (quoteOf s)) := by
  refine pcalls_of_awp hmix c_tokens_quote rfl ?_
  simp [a_tokens_quote]
  refine lp_startx (fun x f σ => ∃ (i : Nat), x = 2 - i ∧ i ≤ 2 ∧ (1 ≤ i → 39 ∈ s) ∧ (2 ≤ i → 34 ∈ s) ∧ f 0 = .str s ∧ f 5 = .lst [[.str [39]], [.str [34]]] ∧ f 6 = .int .i64 2 ∧ f 7 = .int .i64 i ∧ σ = []) 2 ?_ ?_
  · exact ⟨0, by simp, by simp, by simp, by simp, by simp, by simp, by simp, by simp, rfl⟩
  rintro x f σ ⟨i, hx, hi, ha, hb, h0, h5, h6, h7, rfl⟩
  match i, hi with
  | 0, _ =>
    simp [h0, h5, h6, h7]
    refine ac_same (has1_ok s 39) (by simp) ?_
    rintro r rfl
    by_cases hq : (39 : UInt8) ∈ s
    · have hw : IntKind.i64.wrap 1 = 1 := wrap_i64 (by omega) (by omega)
      simp [hq, h7, hw]
      refine nx_intro 1 (by omega) ⟨1, rfl, by omega, fun _ => hq, by omega, by simp [h0], by simp [h5], by simp [h6], by simp, rfl⟩
    · simp [hq, quoteOf]
  | 1, _ =>
    have h39 := ha (by omega)
    simp [h0, h5, h6, h7]
    refine ac_same (has1_ok s 34) (by simp) ?_
    rintro r rfl
    by_cases hq : (34 : UInt8) ∈ s
    · have hw : IntKind.i64.wrap 2 = 2 := wrap_i64 (by omega) (by omega)
      simp [hq, h7, hw]
      refine nx_intro 0 (by omega) ⟨2, rfl, by omega, fun _ => h39, fun _ => hq, by simp [h0], by simp [h5], by simp [h6], by simp, rfl⟩
    · simp [hq, quoteOf, h39]
  | 2, _ =>
    have h39 := ha (by omega)
    have h34 := hb (by omega)
    simp [h0, h5, h6, h7, quoteOf, h39, h34]

/-- A token's text in a target. -/
def textOf (k : Int) (s : List UInt8) : List UInt8 := if k = 4 then [40] else if k = 5 then [41] else if k = 6 then [44] else if k = 3 then quoteOf s ++ s ++ quoteOf s else s
theorem quote_len (s : List UInt8) : (quoteOf s).length ≤ 1 := by unfold quoteOf; split <;> (try split) <;> simp
theorem ttext_ok (k p : Int) (s : List UInt8) (hs : s.length ≤ 1000000) : PCalls Tryd.prog n_tokens_text [tokA k s p] (fun r => r = .str (textOf k s)) := by
  refine pcalls_of_awp hmix c_tokens_text rfl ?_
  simp [a_tokens_text, tokA]
  by_cases h4 : k = 4
  · simp [h4, textOf]
  by_cases h5 : k = 5
  · simp [h5, textOf]
  by_cases h6 : k = 6
  · simp [h6, textOf]
  by_cases h3 : k = 3
  · subst h3
    simp
    refine ac_same (quote_ok s) (by simp) ?_
    rintro r rfl
    have hq := quote_len s
    have q1 : (quoteOf s).length + s.length ≤ 9223372036854775807 := by omega
    have q2 : (quoteOf s).length + s.length + (quoteOf s).length ≤ 9223372036854775807 := by omega
    have q3 : (quoteOf s).length + (s.length + (quoteOf s).length) ≤ 9223372036854775807 := by omega
    simp [q1, q2, q3, textOf]
  · simp [h4, h5, h6, h3, textOf]

theorem refText_ok (k p : Int) (s : List UInt8) (hs : s.length ≤ 1000000) (hq : k = 3 → ¬ ((39 : UInt8) ∈ s ∧ (34 : UInt8) ∈ s)) : PCalls Tryd.prog n_isobarref22_Text [tokA k s p] (fun r => r = .str (textOf k s)) := by
  refine pcalls_of_awp hmix c_isobarref22_Text rfl ?_
  simp [a_isobarref22_Text, tokA]
  by_cases h4 : k = 4
  · simp [h4, textOf]
  by_cases h5 : k = 5
  · simp [h5, textOf]
  by_cases h6 : k = 6
  · simp [h6, textOf]
  by_cases h3 : k = 3
  · subst h3
    have q1 : 1 + s.length ≤ 9223372036854775807 := by omega
    have q2 : 1 + s.length + 1 ≤ 9223372036854775807 := by omega
    have q3 : s.length + 1 ≤ 9223372036854775807 := by omega
    have q4 : s.length + 1 + 1 ≤ 9223372036854775807 := by omega
    have q5 : s.length ≤ 9223372036854775806 := by omega
    have q6 : s.length ≤ 9223372036854775805 := by omega
    have b39 : bytesOf [[AV.int .u8 39]] = some [39] := bytesOf_byteEls [39]
    have b34 : bytesOf [[AV.int .u8 34]] = some [34] := bytesOf_byteEls [34]
    simp [b39]
    refine ac_same (refHas_ok s 39 (by omega)) (by simp) ?_
    rintro r rfl
    by_cases h39 : (39 : UInt8) ∈ s
    · have h34 : ¬ (34 : UInt8) ∈ s := fun h => hq rfl ⟨h39, h⟩
      simp [h39, h34, b34, q1, q2, q3, q4, q5, q6, textOf, quoteOf]
    · simp [h39, q1, q2, q3, q4, q5, q6, textOf, quoteOf]
  · simp [h4, h5, h6, h3, textOf]
end Go.Proofs.YtkclehdmdnfikaaDoor
