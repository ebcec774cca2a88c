/- A target's tokens: great, Right, Join, Alike; the laws of what is joined, and of blanks. -/
import Derived.Test.YtkclehdmdnfikaaDoorTkP
import Derived.Test.YtkclehdmdnfikaaDoorTkE
set_option linter.unusedSimpArgs false
set_option linter.unusedVariables false
set_option linter.constructorNameAsVariable false
set_option maxHeartbeats 4000000
namespace Go.Proofs.YtkclehdmdnfikaaDoor
open Go.Abs Go.Glob Go.Tok
variable {G : Globs}

theorem splitAV_ok {s : List UInt8} {l : List Tk} (h : Tok.split s = .ok l) : splitAV (Tok.split s) = .tup [.lst (tkEls l), .int .i64 0] := by rw [h]; rfl
theorem split_lens {s : List UInt8} {l : List Tk} (h : Tok.split s = .ok l) : l.length ≤ 256 ∧ s.length ≤ 1024 ∧ ∀ x ∈ l, x.place ≤ 1024 ∧ x.text.length ≤ 1024 := by
  unfold Tok.split at h
  split at h
  · cases h
  rename_i h1
  cases hs : splitF s.length 0 s with
  | none => rw [hs] at h; cases h
  | some m =>
    rw [hs] at h
    simp only at h
    split at h
    · cases h
    rename_i h2
    cases h
    refine ⟨by omega, by omega, fun x hx => ?_⟩
    have := splitF_bound _ _ _ _ hs x hx
    omega

theorem split_err {s : List UInt8} {e : Nat} (h : Tok.split s = .error e) : e ≠ 0 := by
  unfold Tok.split at h
  split at h
  · cases h; decide
  cases hs : splitF s.length 0 s with
  | none => rw [hs] at h; cases h; decide
  | some m =>
    rw [hs] at h
    simp only at h
    split at h
    · cases h; decide
    · cases h
theorem tright_ok [GDec] (k p : Int) (s : List UInt8) (hs : s.length ≤ 9223372036854775807) : PCalls Tryd.prog n_tokens_Right [tokA k s p] (fun r => r = .bool (rightB k p s)) := by
  refine pcalls_of_awp hmix c_tokens_Right rfl ?_
  simp [a_tokens_Right, tokA]
  by_cases h4 : k = 4
  · subst h4
    by_cases hp : 0 ≤ p
    · simp [hp, rightB]
    · simp [hp, rightB]
  by_cases h5 : k = 5
  · subst h5
    by_cases hp : 0 ≤ p
    · simp [hp, rightB]
    · simp [hp, rightB]
  by_cases h6 : k = 6
  · subst h6
    by_cases hp : 0 ≤ p
    · simp [hp, rightB]
    · simp [hp, rightB]
  by_cases h3 : k = 3
  · subst h3
    by_cases hp : 0 ≤ p
    · by_cases hl : s.length ≤ 1022
      · have hl' : (s.length : Int) ≤ 1022 := by omega
        simp [hp, hl, hl']
        refine ac_same (quote_ok s) (by simp) ?_
        rintro r rfl
        by_cases h39 : (39 : UInt8) ∈ s <;> by_cases h34 : (34 : UInt8) ∈ s <;> simp [rightB, quoteOf, hp, hl, h39, h34]
      · have hl' : ¬ (s.length : Int) ≤ 1022 := by omega
        simp [hp, hl, hl', rightB]
    · simp [hp, rightB]
  by_cases h12 : k = 1 ∨ k = 2
  · have hR : rightB k p s = (decide (0 ≤ p) && isOne k s (Tok.split s)) := by
      have h456 : ¬ (k = 4 ∨ k = 5 ∨ k = 6) := by omega
      rw [rightB, if_neg h456, if_neg h3, if_pos h12]
    rw [hR]
    clear hR
    have main : k = 1 ∨ (¬ k = 1 ∧ k = 2) := by omega
    rcases main with h1 | ⟨h1, h2⟩
    · subst h1
      simp
      refine ac_same (tsplit_ok s hs) (by simp) ?_
      rintro r rfl
      cases hsp : Tok.split s with
      | error e =>
        have he := split_err hsp
        have he' : ¬ ((e : Int) = 0) := by omega
        by_cases hp : 0 ≤ p <;> simp [isOne, splitAV, hp, he, he']
      | ok l =>
        match l with
        | [] => by_cases hp : 0 ≤ p <;> simp [isOne, splitAV, tkEls, hp]
        | [x] =>
          have hpl : x.text = s → x.place = 0 := fun h => (split_one hsp h).1
          by_cases hp : 0 ≤ p
          · by_cases hk : x.kind = 1
            · by_cases ht : x.text = s
              · simp [isOne, splitAV, tkEls, hp, hk, ht, hpl ht]
              · simp [isOne, splitAV, tkEls, hp, hk, ht]
            · simp [isOne, splitAV, tkEls, hp, hk]
          · simp [isOne, splitAV, tkEls, hp]
        | x :: y :: l =>
          have hl : ¬ ((l.length : Int) + 1 + 1 = 1) := by omega
          by_cases hp : 0 ≤ p <;> simp [isOne, splitAV, tkEls, hp, hl]
    · subst h2
      simp
      refine ac_same (tsplit_ok s hs) (by simp) ?_
      rintro r rfl
      cases hsp : Tok.split s with
      | error e =>
        have he := split_err hsp
        have he' : ¬ ((e : Int) = 0) := by omega
        by_cases hp : 0 ≤ p <;> simp [isOne, splitAV, hp, he, he']
      | ok l =>
        match l with
        | [] => by_cases hp : 0 ≤ p <;> simp [isOne, splitAV, tkEls, hp]
        | [x] =>
          have hpl : x.text = s → x.place = 0 := fun h => (split_one hsp h).1
          by_cases hp : 0 ≤ p
          · by_cases hk : x.kind = 2
            · by_cases ht : x.text = s
              · simp [isOne, splitAV, tkEls, hp, hk, ht, hpl ht]
              · simp [isOne, splitAV, tkEls, hp, hk, ht]
            · simp [isOne, splitAV, tkEls, hp, hk]
          · simp [isOne, splitAV, tkEls, hp]
        | x :: y :: l =>
          have hl : ¬ ((l.length : Int) + 1 + 1 = 1) := by omega
          by_cases hp : 0 ≤ p <;> simp [isOne, splitAV, tkEls, hp, hl]
  · have h1 : ¬ k = 1 := fun h => h12 (.inl h)
    have h2 : ¬ k = 2 := fun h => h12 (.inr h)
    simp [h4, h5, h6, h3, h1, h2, rightB]

theorem rright_ok [GDec] (k p : Int) (s : List UInt8) (hs : s.length ≤ 9223372036854775807) : PCalls Tryd.prog n_isobarref22_Right [tokA k s p] (fun r => r = .bool (rightB k p s)) := by
  refine pcalls_of_awp hmix c_isobarref22_Right rfl ?_
  simp [a_isobarref22_Right, tokA]
  by_cases hp' : p < 0
  · have hp : ¬ 0 ≤ p := by omega
    simp [hp, hp', rightB]
  have hp : 0 ≤ p := by omega
  simp [hp, hp']
  by_cases h4 : k = 4
  · subst h4; simp [hp, rightB]
  by_cases h5 : k = 5
  · subst h5; simp [hp, rightB]
  by_cases h6 : k = 6
  · subst h6; simp [hp, rightB]
  by_cases h3 : k = 3
  · subst h3
    by_cases hl : s.length ≤ 1022
    · have hl' : (s.length : Int) ≤ 1022 := by omega
      simp [hp, hl, hl']
      refine ac_same (refHas_ok s 39 hs) (by simp) ?_
      rintro r rfl
      by_cases h39 : (39 : UInt8) ∈ s
      · simp [h39]
        refine ac_same (refHas_ok s 34 hs) (by simp) ?_
        rintro r rfl
        simp [rightB, hp, hl, h39]
      · simp [rightB, hp, hl, h39]
    · have hl' : ¬ (s.length : Int) ≤ 1022 := by omega
      simp [hp, hl, hl', rightB]
  by_cases h12 : k = 1 ∨ k = 2
  · have hR : rightB k p s = (decide (0 ≤ p) && isOne k s (Tok.split s)) := by
      have h456 : ¬ (k = 4 ∨ k = 5 ∨ k = 6) := by omega
      rw [rightB, if_neg h456, if_neg h3, if_pos h12]
    rw [hR]
    clear hR
    have main : k = 1 ∨ (¬ k = 1 ∧ k = 2) := by omega
    rcases main with h1 | ⟨h1, h2⟩
    · subst h1
      simp
      refine ac_same (refSplit_ok s hs) (by simp) ?_
      rintro r rfl
      cases hsp : Tok.split s with
      | error e =>
        have he := split_err hsp
        have he' : ¬ ((e : Int) = 0) := by omega
        simp [isOne, splitAV, hp, he, he']
      | ok l =>
        match l with
        | [] => simp [isOne, splitAV, tkEls, hp]
        | [x] =>
          by_cases hk : x.kind = 1
          · by_cases ht : x.text = s
            · simp [isOne, splitAV, tkEls, hp, hk, ht]
            · simp [isOne, splitAV, tkEls, hp, hk, ht]
          · simp [isOne, splitAV, tkEls, hp, hk]
        | x :: y :: l =>
          have hl : ¬ ((l.length : Int) + 1 + 1 = 1) := by omega
          simp [isOne, splitAV, tkEls, hp, hl]
    · subst h2
      simp
      refine ac_same (refSplit_ok s hs) (by simp) ?_
      rintro r rfl
      cases hsp : Tok.split s with
      | error e =>
        have he := split_err hsp
        have he' : ¬ ((e : Int) = 0) := by omega
        simp [isOne, splitAV, hp, he, he']
      | ok l =>
        match l with
        | [] => simp [isOne, splitAV, tkEls, hp]
        | [x] =>
          by_cases hk : x.kind = 2
          · by_cases ht : x.text = s
            · simp [isOne, splitAV, tkEls, hp, hk, ht]
            · simp [isOne, splitAV, tkEls, hp, hk, ht]
          · simp [isOne, splitAV, tkEls, hp, hk]
        | x :: y :: l =>
          have hl : ¬ ((l.length : Int) + 1 + 1 = 1) := by omega
          simp [isOne, splitAV, tkEls, hp, hl]
  · have h1 : ¬ k = 1 := fun h => h12 (.inl h)
    have h2 : ¬ k = 2 := fun h => h12 (.inr h)
    simp [h4, h5, h6, h3, h1, h2, rightB]

/-! ## Tokens as an argument -/
abbrev TkA := Int × List UInt8 × Int
def tkA (l : List TkA) : List (List AV) := l.map fun x => [.int .i64 x.1, .str x.2.1, .int .i64 x.2.2]
def bulk (l : List TkA) : Nat := (l.map fun x => min x.2.1.length 10000).sum
def greatB (l : List TkA) : Bool := decide (5000 < l.length + bulk l)
theorem bulk_app (l m : List TkA) : bulk (l ++ m) = bulk l + bulk m := by simp [bulk]
theorem bulk_take (l : List TkA) (i : Nat) : bulk (l.take i) ≤ bulk l := by
  have e := bulk_app (l.take i) (l.drop i)
  rw [List.take_append_drop] at e
  omega
theorem bulk_succ {l : List TkA} {i : Nat} {x : TkA} (h : l[i]? = some x) : bulk (l.take (i + 1)) = bulk (l.take i) + min x.2.1.length 10000 := by
  simp [bulk, List.take_add_one, h]
theorem great_ok (l : List TkA) (hl : l.length ≤ 9223372036854775807) (ht : ∀ x ∈ l, x.2.1.length ≤ 9223372036854775807) : PCalls Tryd.prog n_isobarlaw22_great [.lst (tkA l)] (fun r => r = .bool (greatB l)) := by
  refine pcalls_of_awp hmix c_isobarlaw22_great rfl ?_
  simp [a_isobarlaw22_great]
  have hle : (tkA l).length = l.length := by simp [tkA]
  try simp [hle]
  refine lp_startx (fun x f σ => ∃ (i : Nat), x = l.length - i ∧ i ≤ l.length ∧ l.length + bulk (l.take i) ≤ 15000 + l.length ∧ (i = 0 ∨ l.length ≤ 5000) ∧ f 0 = .lst (tkA l) ∧ f 3 = .int .i64 (l.length + bulk (l.take i) : Nat) ∧ f 4 = .int .i64 i ∧ σ = []) l.length ?_ ?_
  · exact ⟨0, by simp, by simp, by simp [bulk], .inl rfl, by simp, by simp [bulk, hle], by simp, rfl⟩
  rintro x f σ ⟨i, hx, hi, hb, hi0, h0, h3, h4, rfl⟩
  have hbt := bulk_take l i
  by_cases hlt : i < l.length
  · obtain ⟨y, hy⟩ : ∃ y, l[i]? = some y := ⟨_, List.getElem?_eq_getElem hlt⟩
    have hse : (tkA l)[i]? = some [.int .i64 y.1, .str y.2.1, .int .i64 y.2.2] := by simp [tkA, hy]
    obtain ⟨hx1, hx2⟩ := List.getElem?_eq_some_iff.1 hse
    have hyk := ht y (List.mem_of_getElem? hy)
    have hwi : IntKind.i64.wrap ((i : Int) + 1) = (i : Int) + 1 := wrap_i64 (by omega) (by omega)
    have hbs := bulk_succ hy
    have hbt1 := bulk_take l (i + 1)
    by_cases hg : l.length + bulk (l.take i) ≤ 5000
    · have hg' : (l.length : Int) + (bulk (l.take i) : Int) ≤ 5000 := by omega
      have hlt' : (i : Int) < (l.length : Int) := by omega
      by_cases hm : y.2.1.length ≤ 10000
      · have hm' : (y.2.1.length : Int) ≤ 10000 := by omega
        have hmn : ¬ (10000 : Int) < (y.2.1.length : Int) := by omega
        have hmn2 : ¬ 10000 < y.2.1.length := by omega
        have hmn' : min y.2.1.length 10000 = y.2.1.length := by omega
        rw [hmn'] at hbs
        have hw : IntKind.i64.wrap ((l.length : Int) + (bulk (l.take i) : Int) + (y.2.1.length : Int)) = (l.length : Int) + (bulk (l.take i) : Int) + (y.2.1.length : Int) := wrap_i64 (by omega) (by omega)
        simp [h0, h3, h4, hle, hlt, hlt', hg, hg', hx1, hx2, hm, hm', hmn, hmn2, hw, hwi]
        refine nx_intro (l.length - (i + 1)) (by omega) ⟨i + 1, rfl, by omega, by omega, .inr (by omega), by simp [h0], by simp [hbs]; omega, by simp, rfl⟩
      · have hm' : ¬ (y.2.1.length : Int) ≤ 10000 := by omega
        have hmn : (10000 : Int) < (y.2.1.length : Int) := by omega
        have hmn2 : 10000 < y.2.1.length := by omega
        have hmn' : min y.2.1.length 10000 = 10000 := by omega
        rw [hmn'] at hbs
        have hw : IntKind.i64.wrap ((l.length : Int) + (bulk (l.take i) : Int) + 10000) = (l.length : Int) + (bulk (l.take i) : Int) + 10000 := wrap_i64 (by omega) (by omega)
        simp [h0, h3, h4, hle, hlt, hlt', hg, hg', hx1, hx2, hm, hm', hmn, hmn2, hw, hwi]
        refine nx_intro (l.length - (i + 1)) (by omega) ⟨i + 1, rfl, by omega, by omega, .inr (by omega), by simp [h0], by simp [hbs]; omega, by simp, rfl⟩
    · have hg' : ¬ (l.length : Int) + (bulk (l.take i) : Int) ≤ 5000 := by omega
      have hg2 : (5000 : Int) < (l.length : Int) + (bulk (l.take i) : Int) := by omega
      have hgr : 5000 < l.length + bulk l := by omega
      have hlt' : (i : Int) < (l.length : Int) := by omega
      simp [h0, h3, h4, hle, hlt, hlt', hg, hg', hg2, greatB, hgr]
  · have hil : i = l.length := by omega
    subst hil
    have hlt' : ¬ (l.length : Int) < (l.length : Int) := by omega
    rw [List.take_of_length_le (Nat.le_refl _)] at h3 hb
    by_cases hgr : 5000 < l.length + bulk l
    · have hg2 : (5000 : Int) < (l.length : Int) + (bulk l : Int) := by omega
      simp [h0, h3, h4, hle, greatB, hgr, hg2]
    · have hg2 : ¬ (5000 : Int) < (l.length : Int) + (bulk l : Int) := by omega
      simp [h0, h3, h4, hle, greatB, hgr, hg2]
end Go.Proofs.YtkclehdmdnfikaaDoor
