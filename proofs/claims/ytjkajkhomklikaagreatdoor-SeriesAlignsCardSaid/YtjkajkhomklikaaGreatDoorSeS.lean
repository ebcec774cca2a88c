/- Numbers over time: lists of series, and what aligns them. -/
import Derived.Test.YtjkajkhomklikaaGreatDoorSeF
set_option linter.unusedSimpArgs false
set_option linter.unusedVariables false
set_option linter.constructorNameAsVariable false
set_option maxHeartbeats 2000000
namespace Go.Ser
open Go.Abs Go.Num
/-- The least common multiple, as both compute it. -/
def cm (a b : Nat) : Nat := a / Nat.gcd a b * b
def scanS : Nat → Int → Int → List Sr → Option (Nat × Int × Int)
  | st, a, b, [] => some (st, a, b)
  | st, a, b, s :: l => if cm st s.step.toNat ≤ 86400 then scanS (cm st s.step.toNat) (min a s.start) (max b (endS s)) l else none
def alS (l : List Sr) : List Sr × Nat :=
  if (l.any fun s => !rightS s) = true then ([], 1) else if 128 < l.length then ([], 11) else
  match l with
  | [] => ([], 0)
  | s :: _ => match scanS 1 s.start 0 l with
    | none => ([], 3)
    | some (st, a, b) =>
      if 2000 < ((b + st - 1) / st * st - (a - a % st)) / st ∨ 1099511714176 < (b + st - 1) / st * st then ([], 20)
      else (l.map fun s => ⟨s.name, a - a % st, st, slots s (a - a % st) st 1 (countN (a - a % st) ((b + st - 1) / st * st) st)⟩, 0)
theorem cm_pos {a b : Nat} (ha : 0 < a) (hb : 0 < b) : 0 < cm a b := by
  unfold cm
  have h1 : 0 < Nat.gcd a b := Nat.gcd_pos_of_pos_left b ha
  have h2 : 0 < a / Nat.gcd a b := Nat.div_pos (Nat.le_of_dvd ha (Nat.gcd_dvd_left a b)) h1
  exact Nat.mul_pos h2 hb
theorem cm_le {a b : Nat} (ha : a ≤ 86400) (hb : b ≤ 86400) : cm a b ≤ 86400 * 86400 := by
  unfold cm
  exact Nat.mul_le_mul (Nat.le_trans (Nat.div_le_self _ _) ha) hb
def idxS (p : Sr → Bool) : List Sr → Int
  | [] => -1
  | n :: l => if p n then 0 else if idxS p l = -1 then -1 else idxS p l + 1
theorem idxS_none {p : Sr → Bool} : ∀ {l : List Sr}, (∀ n ∈ l, p n = false) → idxS p l = -1
  | [], _ => rfl
  | n :: l, h => by
    unfold idxS
    rw [if_neg (by simp [h n (by simp)]), if_pos (idxS_none fun m hm => h m (by simp [hm]))]
theorem idxS_some {p : Sr → Bool} : ∀ {l : List Sr} {i : Nat} {n : Sr}, l[i]? = some n → p n = true → (∀ m ∈ l.take i, p m = false) → idxS p l = i
  | m :: l, 0, n, h, hp, _ => by simp at h; subst h; simp [idxS, hp]
  | m :: l, i + 1, n, h, hp, ha => by
    have h1 := idxS_some (l := l) (i := i) (by simpa using h) hp fun x hx => ha x (by simp [hx])
    have h2 : p m = false := ha m (by simp)
    unfold idxS
    rw [if_neg (by simp [h2]), if_neg (by omega)]
    omega
theorem idxS_cases (p : Sr → Bool) : ∀ l : List Sr, (idxS p l = -1 ∧ ∀ n ∈ l, p n = false) ∨ ∃ (i : Nat) (n : Sr), l[i]? = some n ∧ p n = true ∧ idxS p l = i
  | [] => .inl ⟨rfl, by simp⟩
  | n :: l => by
    by_cases hp : p n = true
    · exact .inr ⟨0, n, rfl, hp, by simp [idxS, hp]⟩
    · have hp' : p n = false := by simpa using hp
      rcases idxS_cases p l with ⟨h1, h2⟩ | ⟨i, m, h1, h2, h3⟩
      · refine .inl ⟨by simp [idxS, hp', h1], fun x hx => ?_⟩
        rcases List.mem_cons.1 hx with rfl | hx
        · exact hp'
        · exact h2 x hx
      · refine .inr ⟨i + 1, m, by simpa using h1, h2, ?_⟩
        unfold idxS
        rw [if_neg hp, if_neg (by omega)]
        omega
end Go.Ser
namespace Go.Proofs.YtjkajkhomklikaaGreatDoor
open Go.Abs Go.Num Go.Ser
variable {G : Globs}
def serEls (l : List Sr) : List (List AV) := l.map srC
def serL (l : List Sr) : AV := .lst (serEls l)
theorem serEls_len (l : List Sr) : (serEls l).length = l.length := by simp [serEls]
theorem serEls_get {l : List Sr} {i : Nat} {s : Sr} (h : l[i]? = some s) : (serEls l)[i]? = some [.str s.name, .int .i64 s.start, .int .i64 s.step, .lst (numEls s.vals)] := by simp [serEls, h, srC]
theorem serEls_fz (σ : Store) (m k : Nat) (l : List Sr) : ((serEls l).mapM fun (c : List AV) => c.mapM (fz σ m (k + 1))) = some (serEls l) := by
  induction l with
  | nil => rfl
  | cons a l ih =>
    show ((srC a :: serEls l).mapM _) = some (srC a :: serEls l)
    rw [List.mapM_cons, ih]
    simp [srC, fz]
theorem align1_ok (s : Sr) (h : SrOk s) : PCalls Tryz.prog n_series_Align_1 [srA s] (fun r => r = .bool (!rightS s)) := by
  refine pcalls_of_awp hmix c_series_Align_1 rfl ?_
  have k := sRight_ok (G := G) s h
  rw [srA_eq] at k ⊢
  simp [a_series_Align_1]
  refine ac_same k (by simp) ?_
  rintro r rfl
  simp
theorem indexFuncS_ok (l : List Sr) (hl : l.length ≤ 9223372036854775807) (p : Sr → Bool) (g : Nat) (hb : hasBody Tryz.prog g = true) (hg : ∀ n ∈ l, PCalls Tryz.prog g [srA n] (fun r => r = .bool (p n))) :
    PCalls Tryz.prog n_slices_IndexFunc_api_Series_api_Series [serL l, .fn (.func g) [] []] (fun r => r = .int .i64 (idxS p l)) := by
  refine pcalls_of_awp hmix c_slices_IndexFunc_api_Series_api_Series rfl ?_
  have hle := serEls_len l
  simp [a_slices_IndexFunc_api_Series_api_Series, serL]
  refine lp_startx (fun x f σ => ∃ (i : Nat), x = l.length - i ∧ i ≤ l.length ∧ f 0 = .lst (serEls l) ∧ f 1 = .fn (.func g) [] [] ∧ f 7 = .int .i64 l.length ∧ f 8 = .int .i64 i ∧ (∀ m ∈ l.take i, p m = false) ∧ σ = []) l.length ?_ ?_
  · exact ⟨0, by simp, by simp, by simp, by simp, by simp [hle], by simp, by simp, by simp⟩
  rintro x f σ ⟨i, hx, hi, h0, h1, h7, h8, hall, rfl⟩
  simp [h7, h8]
  refine cb_dec (fun hlt => ?_) (fun hge => ?_)
  · have hlt' : i < l.length := by omega
    have hwi : IntKind.i64.wrap ((i : Int) + 1) = ((i + 1 : Nat) : Int) := by rw [wrap_i64 (by omega) (by omega)]; omega
    obtain ⟨y, hy⟩ : ∃ y, l[i]? = some y := ⟨_, List.getElem?_eq_getElem hlt'⟩
    have hse := serEls_get hy
    obtain ⟨hx1, hx2⟩ := List.getElem?_eq_some_iff.1 hse
    have hk := hg y (List.mem_of_getElem? hy)
    rw [srA_eq] at hk
    simp [h0, h1, h8, hx1, hx2]
    refine cv_fn hb ?_
    refine ac_same hk (by simp) ?_
    rintro r rfl
    cases hp : p y with
    | true =>
      have := idxS_some hy hp hall
      simp [this]
    | false =>
      simp [h8, hwi]
      refine nx_intro (l.length - (i + 1)) (by omega) ⟨i + 1, rfl, by omega, by simp [h0], by simp [h1], by simp [h7], by simp, fun m hm => ?_, rfl⟩
      rw [List.take_add_one, hy] at hm
      simp only [Option.toList_some, List.mem_append, List.mem_singleton] at hm
      rcases hm with hm | rfl
      · exact hall m hm
      · exact hp
  · have hil : i = l.length := by omega
    rw [hil, List.take_length] at hall
    simp [idxS_none hall]
theorem containsS_ok (l : List Sr) (hl : l.length ≤ 9223372036854775807) (p : Sr → Bool) (g : Nat) (hb : hasBody Tryz.prog g = true) (hg : ∀ n ∈ l, PCalls Tryz.prog g [srA n] (fun r => r = .bool (p n))) :
    PCalls Tryz.prog n_slices_ContainsFunc_api_Series_api_Series [serL l, .fn (.func g) [] []] (fun r => r = .bool (l.any p)) := by
  refine pcalls_of_awp hmix c_slices_ContainsFunc_api_Series_api_Series rfl ?_
  have k := indexFuncS_ok (G := G) l hl p g hb hg
  unfold serL at k ⊢
  simp [a_slices_ContainsFunc_api_Series_api_Series]
  refine ac_same k (by simp) ?_
  rintro r rfl
  rcases idxS_cases p l with ⟨h1, h2⟩ | ⟨k, n, h1, h2, h4⟩
  · have : l.any p = false := List.any_eq_false.2 fun n hn => by simp [h2 n hn]
    simp [h1, this]
  · have : l.any p = true := List.any_eq_true.2 ⟨n, List.mem_of_getElem? h1, h2⟩
    have h0 : (0 : Int) ≤ k := by omega
    simp [h4, this, h0]
theorem common_ok (a b : Nat) (ha : 0 < a) (ha2 : a ≤ 86400) (hb : 0 < b) (hb2 : b ≤ 86400) : PCalls Tryz.prog n_series_common [.int .i64 a, .int .i64 b] (fun r => r = .int .i64 (cm a b)) := by
  refine pcalls_of_awp hmix c_series_common rfl ?_
  simp [a_series_common]
  refine lp_startx (fun x f σ => ∃ (p q : Nat), x = q ∧ Nat.gcd p q = Nat.gcd a b ∧ p ≤ 86400 ∧ q ≤ 86400 ∧ f 0 = .int .i64 a ∧ f 1 = .int .i64 b ∧ f 5 = .int .i64 p ∧ f 6 = .int .i64 q ∧ σ = []) b ?_ ?_
  · exact ⟨a, b, by simp, rfl, ha2, hb2, by simp, by simp, by simp, by simp, rfl⟩
  rintro x f σ ⟨p, q, rfl, hg, hp, hq, f0, f1, f5, f6, rfl⟩
  simp [f6]
  by_cases h0 : x = 0
  · subst h0
    rw [Nat.gcd_zero_right] at hg
    subst hg
    have hgp : 0 < Nat.gcd a b := Nat.gcd_pos_of_pos_left b ha
    have hc := cm_le ha2 hb2
    have hd : ((a : Int)).tdiv (Nat.gcd a b : Nat) = ((a / Nat.gcd a b : Nat) : Int) := by rw [Int.tdiv_eq_ediv_of_nonneg (by omega)]; simp
    obtain ⟨d, hdd⟩ : ∃ d, d = a / Nat.gcd a b := ⟨_, rfl⟩
    have hcm : cm a b = d * b := by rw [hdd]; rfl
    obtain ⟨g, hgg⟩ : ∃ g, g = Nat.gcd a b := ⟨_, rfl⟩
    rw [← hdd] at hd
    rw [← hgg] at hd hgp f5
    rw [hcm] at hc
    have hd2 : d ≤ 86400 := by rw [hdd]; exact Nat.le_trans (Nat.div_le_self _ _) ha2
    have hw1 : IntKind.i64.wrap (d : Int) = d := wrap_i64 (by omega) (by omega)
    have hw2 : IntKind.i64.wrap ((d : Int) * b) = d * b := by
      have e : ((d : Int) * b) = ((d * b : Nat) : Int) := by simp
      rw [e]; exact wrap_i64 (by omega) (by omega)
    have hg0 : ¬ (g : Int) = 0 := by omega
    have hg0' : ¬ g = 0 := by omega
    simp [f0, f1, f5, hg0, hg0', hd, hw1, hw2, hcm]
  · have hx0 : (0 : Int) < x := by omega
    have hx0' : 0 < x := by omega
    have hx1 : ¬ (x : Int) = 0 := by omega
    have hlt : p % x < x := Nat.mod_lt _ (by omega)
    have hd : ((p : Int)).tmod (x : Nat) = ((p % x : Nat) : Int) := by rw [Int.tmod_eq_emod_of_nonneg (by omega)]; simp
    have hw : IntKind.i64.wrap (((p % x : Nat)) : Int) = ((p % x : Nat) : Int) := wrap_i64 (by omega) (by omega)
    obtain ⟨z, hz⟩ : ∃ z, z = p % x := ⟨_, rfl⟩
    rw [← hz] at hd hw hlt
    simp [f5, f6, hx0, hx0', hx1, h0, hd, hw]
    refine nx_intro z (by omega) ⟨x, z, rfl, ?_, hq, by omega, by simp [f0], by simp [f1], by simp, by simp, rfl⟩
    rw [hz, ← hg, Nat.gcd_comm p x, Nat.gcd_rec x p, Nat.gcd_comm]
end Go.Proofs.YtjkajkhomklikaaGreatDoor
