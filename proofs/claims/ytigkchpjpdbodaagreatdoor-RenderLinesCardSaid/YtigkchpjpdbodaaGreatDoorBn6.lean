/- A target's tokens: the document's row and Split; the law that any target is split as the document says. A target's tokens: great, Right, Join, Alike;  -/
import Derived.ProofKit
import Derived.Test.YtigkchpjpdbodaaGreatDoorAbs2
import Derived.Test.YtigkchpjpdbodaaGreatDoorCode
import Derived.Handed
import Derived.Test.YtigkchpjpdbodaaGreatDoorBn1
import Derived.Test.YtigkchpjpdbodaaGreatDoorBn2
import Derived.Test.YtigkchpjpdbodaaGreatDoorBn3
import Derived.Test.YtigkchpjpdbodaaGreatDoorBn4
import Derived.Test.YtigkchpjpdbodaaGreatDoorBn5
set_option linter.unusedSimpArgs false
set_option linter.unusedVariables false
set_option linter.constructorNameAsVariable false
section
set_option maxHeartbeats 4000000
namespace Go.Proofs.YtigkchpjpdbodaaGreatDoor
open Go.Abs Go.Glob Go.Tok
variable {G : Globs}
end Go.Proofs.YtigkchpjpdbodaaGreatDoor
namespace Go.Proofs.YtigkchpjpdbodaaGreatDoor
open Go.Abs Go.Glob Go.Tok
variable {G : Globs}
end Go.Proofs.YtigkchpjpdbodaaGreatDoor
namespace Go.Tok
end Go.Tok
namespace Go.Proofs.YtigkchpjpdbodaaGreatDoor
open Go.Abs Go.Glob Go.Tok
variable {G : Globs}
end Go.Proofs.YtigkchpjpdbodaaGreatDoor
end
section
set_option maxHeartbeats 4000000
namespace Go.Proofs.YtigkchpjpdbodaaGreatDoor
open Go.Abs Go.Glob Go.Tok
variable {G : Globs}
theorem split_lens {s : List UInt8} {l : List Tk} (h : Tok.split s = .ok l) : l.length ≤ 256 ∧ s.length ≤ 1024 ∧ ∀ x ∈ l, x.place ≤ 1024 ∧ x.text.length ≤ 1024 := by
  unfold Tok.split at h
  split at h
  · cases h
  rename_i h1
  cases hs : splitF s.length 0 s with
  | none => rw [hs] at h; cases h
  | some m =>
    rw [hs] at h
    simp only at h
    split at h
    · cases h
    rename_i h2
    cases h
    refine ⟨by omega, by omega, fun x hx => ?_⟩
    have := splitF_bound _ _ _ _ hs x hx
    omega
end Go.Proofs.YtigkchpjpdbodaaGreatDoor
end
section
namespace Go.Proofs.YtigkchpjpdbodaaGreatDoor
open Go.Tgt Go.Tok Go.Glob
/-- Are a node's fields those of its kind? -/
def ownB (n : Nd) : Bool :=
  if n.kind = 1 then decide (n.num = 0) && decide (n.args = []) && rightB 1 0 n.text
  else if n.kind = 2 then decide (n.text = []) && decide (n.args = []) && !decide (n.num = -9223372036854775808)
  else if n.kind = 3 then decide (n.num = 0) && decide (n.args = []) && rightB 3 0 n.text
  else if n.kind = 4 then decide (n.num = 0) && decide (n.args.length ≤ 16)
  else false
theorem bword_isD {c : UInt8} (h : Dec.isD c = true) : bword c = true := by
  have h' := h
  simp only [Dec.isD] at h'
  simp only [bword, nb, h', Bool.or_true, Bool.true_or]
theorem rowF_all : ∀ (s : List UInt8) (m : Nat) (rest : List UInt8), s.all bword = true → s.length ≤ m → StopB rest → rowF m (s ++ rest) = some s.length
  | [], m, rest, _, _, hr => rowF_stop hr
  | c :: s, 0, rest, _, hm, _ => by simp at hm
  | c :: s, m + 1, rest, h, hm, hr => by
    simp only [List.all_cons, Bool.and_eq_true] at h
    have ih := rowF_all s m rest h.2 (by simpa using hm) hr
    rw [List.cons_append, rowF, if_pos h.1, ih]
    rfl
theorem prn_words {v : Int} (h0 : v ≠ -9223372036854775808) : (Dec.prn false v).all bword = true ∧ ∃ c r, Dec.prn false v = c :: r ∧ (Dec.isD c = true ∨ c = 45) := by
  have hall : ∀ l : List UInt8, l.all Dec.isD = true → l.all bword = true := fun l h => by
    rw [List.all_eq_true] at h ⊢
    exact fun c hc => bword_isD (h c hc)
  have hd := hall _ (Dec.dd_all (v.natAbs / 1000000)).1
  have hf : (Dec.frac (v.natAbs % 1000000)).all bword = true := by
    unfold Dec.frac
    split
    · rfl
    · rw [List.all_cons, hall _ (Dec.fr_all 6 _ (Nat.mod_lt _ (by decide)))]; rfl
  rw [Dec.prn_eq h0]
  refine ⟨?_, ?_⟩
  · rw [List.all_append, List.all_append, hd, hf]
    split <;> rfl
  · by_cases hv : v < 0
    · exact ⟨45, _, by simp [hv]; rfl, .inr rfl⟩
    · have hne := Dec.dd_ne (v.natAbs / 1000000)
      have hD := (Dec.dd_all (v.natAbs / 1000000)).1
      cases hx : Lib.decDigits (v.natAbs / 1000000) with
      | nil => exact absurd hx hne
      | cons c r =>
        rw [hx] at hD
        simp only [List.all_cons, Bool.and_eq_true] at hD
        exact ⟨c, r ++ Dec.frac (v.natAbs % 1000000), by simp [hv], .inl hD.1⟩
theorem prn_next {v : Int} (h0 : v ≠ -9223372036854775808) (hb : v.natAbs ≤ 9223372036854775807) {rest : List UInt8} (hr : StopB rest) : nextT (Dec.prn false v ++ rest) = some (2, Dec.prn false v, (Dec.prn false v).length) := by
  obtain ⟨h1, c, r, h2, h3⟩ := prn_words h0
  have hp := Dec.parse_prn h0 hb
  rw [h2] at h1 hp ⊢
  have hne : ∀ x : UInt8, x.toNat < 45 → c ≠ x := fun x hx e => by
    subst e
    rcases h3 with h3 | h3
    · rw [Dec.isD_iff] at h3; omega
    · subst h3; revert hx; decide
  rw [List.cons_append, nextT, if_neg (hne 40 (by decide)), if_neg (hne 41 (by decide)), if_neg (hne 44 (by decide)), if_neg (fun h => h.elim (hne 39 (by decide)) (hne 34 (by decide)))]
  have := rowF_all (c :: r) ((r ++ rest).length + 1) rest h1 (by simp) hr
  rw [List.cons_append] at this
  rw [this, List.length_cons]
  simp only
  have e : (c :: (r ++ rest)).take (r.length + 1) = c :: r := by simp
  rw [e]
  simp [isNum, hp]
theorem tk4 (rest : List UInt8) : nextT ([40] ++ rest) = some (4, [], [(40 : UInt8)].length) := by simp [nextT]
theorem tk5 (rest : List UInt8) : nextT ([41] ++ rest) = some (5, [], [(41 : UInt8)].length) := by simp [nextT]
/-- Each token stood at the head of some text. -/
theorem splitF_next : ∀ (n a : Nat) (s : List UInt8) (l : List Tk), splitF n a s = some l → ∀ x ∈ l, ∃ s' m, nextT s' = some (x.kind, x.text, m) ∧ s'.length ≤ s.length
  | n, a, [], l, h, x, hx => by cases n <;> (simp [splitF] at h; subst h; cases hx)
  | 0, a, c :: r, l, h, x, hx => by simp [splitF] at h; subst h; cases hx
  | n + 1, a, c :: r, l, h, x, hx => by
    rw [splitF] at h
    split at h
    · obtain ⟨s', m, h1, h2⟩ := splitF_next n _ r l h x hx
      exact ⟨s', m, h1, by simp; omega⟩
    · cases hy : nextT (c :: r) with
      | none => rw [hy] at h; cases h
      | some y =>
        rw [hy] at h
        simp only [Option.bind_some] at h
        cases hz : splitF n (a + y.2.2) ((c :: r).drop y.2.2) with
        | none => rw [hz] at h; cases h
        | some z =>
          rw [hz] at h; cases h
          rcases List.mem_cons.1 hx with rfl | hx
          · exact ⟨c :: r, y.2.2, hy, Nat.le_refl _⟩
          · obtain ⟨s', m, h1, h2⟩ := splitF_next n _ _ z hz x hx
            exact ⟨s', m, h1, by rw [List.length_drop] at h2; omega⟩
theorem next_row {s : List UInt8} {k : Int} {t : List UInt8} {m : Nat} (h : nextT s = some (k, t, m)) (hk : k = 1 ∨ k = 2) (hl : s.length ≤ 1024) : rightB k 0 t = true := by
  have hle := nextT_le h
  simp only at hle
  have ht := (nextT_text h).2 hk
  have h1 := nextT_take h (rest := []) (.inl rfl)
  rw [ht, List.append_nil] at h1
  have hlen : t.length = m := by rw [← ht, List.length_take]; omega
  have hs : Tok.split t = .ok [⟨k, t, 0⟩] := by
    unfold Tok.split
    rw [if_neg (by omega)]
    cases t with
    | nil => simp at hlen; omega
    | cons c r =>
      rw [List.length_cons, splitF, if_neg (nextT_head h1), h1]
      have e : splitF r.length (0 + m) ((c :: r).drop m) = some [] := by
        rw [List.drop_eq_nil_of_le (by rw [hlen]; exact Nat.le_refl m)]
        cases r.length <;> rfl
      rw [Nat.zero_add] at e
      simp [e]
  have h3 : ¬ (k = 3) := by omega
  have h4 : ¬ (k = 4 ∨ k = 5 ∨ k = 6) := by omega
  simp [rightB, h3, h4, hk, hs, isOne]
theorem idx_not_mem : ∀ (r : List UInt8) (c : UInt8), 0 ≤ Lib.indexByte r c → c ∉ r.take (Lib.indexByte r c).toNat
  | [], c, h => by simp
  | b :: l, c, h => by
    unfold Lib.indexByte at h ⊢
    by_cases hb : b = c
    · simp [hb]
    · have hb' : (b == c) = false := by simpa using hb
      have hge := Lib.indexByte_ge l c
      simp only [hb', Bool.false_eq_true, if_false] at h ⊢
      by_cases h1 : Lib.indexByte l c = -1
      · simp [h1] at h
      · have h1' : (Lib.indexByte l c == -1) = false := by simpa using h1
        simp only [h1', Bool.false_eq_true, if_false] at h ⊢
        rw [show (Lib.indexByte l c + 1).toNat = (Lib.indexByte l c).toNat + 1 by omega, List.take_succ_cons]
        have := idx_not_mem l c (by omega)
        simp only [List.mem_cons, not_or]
        exact ⟨fun e => hb e.symm, this⟩
theorem next_txt {s : List UInt8} {t : List UInt8} {m : Nat} (h : nextT s = some (3, t, m)) (hl : s.length ≤ 1024) : rightB 3 0 t = true := by
  have hle := nextT_le h
  cases s with
  | nil => simp [nextT] at h
  | cons c r =>
    rw [nextT] at h
    split at h
    · cases h
    split at h
    · cases h
    split at h
    · cases h
    split at h
    · rename_i hc
      split at h
      · cases h
      · rename_i hneg
        cases h
        have hn := idx_not_mem r c (by omega)
        have hlt := (List.length_take_le (Lib.indexByte r c).toNat r)
        simp at hle hl
        have hlen : (r.take (Lib.indexByte r c).toNat).length ≤ 1022 := by rw [List.length_take]; omega
        simp only [rightB]
        have hb : (!(decide ((39 : UInt8) ∈ r.take (Lib.indexByte r c).toNat) && decide ((34 : UInt8) ∈ r.take (Lib.indexByte r c).toNat))) = true := by
          rcases hc with rfl | rfl
          · simp [hn]
          · simp [hn]
        simp [hb]
        omega
    · split at h
      · cases h
      · cases h
      · simp only [Option.some.injEq, Prod.mk.injEq] at h
        have := h.1
        split at this <;> omega
theorem split_tkOk {s : List UInt8} {t : List Tk} (h : Tok.split s = .ok t) : TkOk t ∧ Owns ownB t := by
  have hl := split_lens h
  have hs := hl.2.1
  have hsp : splitF s.length 0 s = some t := by
    unfold Tok.split at h
    split at h
    · cases h
    cases hx : splitF s.length 0 s with
    | none => rw [hx] at h; cases h
    | some l =>
      rw [hx] at h
      simp only at h
      split at h
      · cases h
      · cases h; rfl
  have hnum : ∀ x ∈ t, x.kind = 2 → isNum x.text = true := fun x hx hk => by
    obtain ⟨s', m, h1, h2⟩ := splitF_next _ _ _ _ hsp x hx
    have := next_row h1 (.inr hk) (by omega)
    rw [hk] at h1
    cases s' with
    | nil => simp [nextT] at h1
    | cons c r =>
      rw [nextT] at h1
      split at h1
      · cases h1
      split at h1
      · cases h1
      split at h1
      · cases h1
      split at h1
      · split at h1 <;> cases h1
      · split at h1
        · cases h1
        · cases h1
        · simp only [Option.some.injEq, Prod.mk.injEq] at h1
          obtain ⟨h3, h4, _⟩ := h1
          rw [← h4]
          exact Classical.byContradiction fun hn => by rw [if_neg hn] at h3; omega
  refine ⟨⟨hl.1, fun x hx => (hl.2.2 x hx).2, hnum⟩, ⟨fun x hx hk => ?_, fun x hx hk => ?_, fun x hx hk => ?_, fun s as_ h => ?_⟩⟩
  · obtain ⟨s', m, h1, h2⟩ := splitF_next _ _ _ _ hsp x hx
    rw [hk] at h1
    simp [ownB, next_row h1 (.inl rfl) (by omega)]
  · have := hnum x hx hk
    cases hp : Dec.parse x.text with
    | error e => simp [isNum, hp] at this
    | ok v =>
      have := (Dec.parse_bound hp).1
      simp [ownB, numOf, hp, this]
  · obtain ⟨s', m, h1, h2⟩ := splitF_next _ _ _ _ hsp x hx
    rw [hk] at h1
    simp [ownB, next_txt h1 (by omega)]
  · simp [ownB, h]
end Go.Proofs.YtigkchpjpdbodaaGreatDoor
end
section
namespace Go.Abs
open Go.RowKit
def noKey : Key := fun _ _ => none
/-- The cells of the package's variables. -/
def gIm [Globs] : Addr → Prop := fun a => a.spot = none ∧ ∃ p ∈ Globs.tab, a.block = p.1
/-- The package's variables hold what the table says. -/
def GlobsIn [Globs] (w : World) : Prop := GOK w.heap.size gIm w
end Go.Abs
end
section
set_option maxHeartbeats 2000000
namespace Go.Rnd
open Go.Abs
/-- So often a value. -/
def vals (v : Int) (k : Nat) : List (List AV) := List.replicate k [.bool false, .int .i64 v]
theorem vals_len (v : Int) (k : Nat) : (vals v k).length = k := by simp [vals]
theorem vals_get (v : Int) {k i : Nat} (h : i < k) : (vals v k)[i]? = some [.bool false, .int .i64 v] := by simp [vals, h]
theorem vals_succ (v : Int) (k : Nat) : vals v k ++ [[.bool false, .int .i64 v]] = vals v (k + 1) := by simp [vals, List.replicate_succ']
/-- The first minute that isn't ahead of a time, and how many there are ahead of another. -/
def minA (a : Nat) : Nat := (a + 59) / 60 * 60
def minK (a b : Nat) : Nat := (b + 59 - minA a) / 60
def valsA (v : Int) (k : Nat) : AV := .lst (vals v k)
end Go.Rnd
namespace Go.Proofs.YtigkchpjpdbodaaGreatDoor
open Go.Abs Go.Rnd
variable {G : Globs}
theorem rline_ok {v : Int} {s : List UInt8} (kP : PCalls Tryz.prog 46 [.agg [.bool false, .int .i64 v]] (fun r => r = .str s)) (a b : Nat) (ha : a ≤ 65535) (hb : b ≤ a + 65536) :
    PCalls Tryz.prog n_render_line [.agg [.bool false, .int .i64 v], .agg [.int .i64 a, .int .i64 b]] (fun r => r = .tup [.lst [[.str s, .int .i64 (minA a), .int .i64 60, valsA v (minK a b)]], .int .i64 0]) := by
  refine pcalls_of_awp hmix c_render_line rfl ?_
  obtain ⟨st, hst⟩ : ∃ st, minA a = st := ⟨_, rfl⟩
  have hsa : a ≤ st := by unfold minA at hst; omega
  have hsb : st ≤ a + 59 := by unfold minA at hst; omega
  obtain ⟨K, hK⟩ : ∃ K, minK a b = K := ⟨_, rfl⟩
  have hK2 : K = (b + 59 - st) / 60 := by rw [← hK, minK, hst]
  rw [hst, hK]
  obtain ⟨q, hq⟩ : ∃ q : Nat, (a + 59) / 60 = q := ⟨_, rfl⟩
  have hqs : q * 60 = st := by rw [← hst, minA, hq]
  have w1 : IntKind.i64.wrap ((a : Int) + 60) = (a : Int) + 60 := wrap_i64 (by omega) (by omega)
  have w2 : IntKind.i64.wrap ((a : Int) + 60 - 1) = (a : Int) + 59 := by rw [wrap_i64 (by omega) (by omega)]; omega
  have w3 : ((a : Int) + 59).tdiv 60 = (q : Int) := by rw [← hq]; rfl
  have w3' : ((a : Int) + 59) / 60 = (q : Int) := by omega
  have w4' : IntKind.i64.wrap (q : Int) = (q : Int) := wrap_i64 (by omega) (by omega)
  have w4 : IntKind.i64.wrap ((q : Int) * 60) = (st : Int) := by rw [wrap_i64 (by omega) (by omega)]; omega
  simp [a_render_line, w1, w2, w3, w3', w4, w4']
  refine ac_same kP (by simp) ?_
  rintro r rfl
  have w5 : IntKind.i64.wrap ((b : Int) - 1) = (b : Int) - 1 := wrap_i64 (by omega) (by omega)
  have w6 : IntKind.i64.wrap ((b : Int) - 1 - st) = (b : Int) - 1 - st := wrap_i64 (by omega) (by omega)
  simp [w5, w6]
  have w7 : (b : Int) - 1 - st ≤ 65535 := by omega
  have w8 : -60 ≤ (b : Int) - 1 - st ∨ (b : Int) - 1 - st < -60 := by omega
  have w9 : -100000 ≤ ((b : Int) - 1 - st).tdiv 60 ∧ ((b : Int) - 1 - st).tdiv 60 < 2000 := by
    rw [Int.tdiv_eq_ediv]
    have e60 : Int.sign 60 = 1 := rfl
    split
    · omega
    · omega
  have w10 : IntKind.i64.wrap (((b : Int) - 1 - st).tdiv 60) = ((b : Int) - 1 - st).tdiv 60 := wrap_i64 (by omega) (by omega)
  refine cb_dec (fun hc => ?_) (fun hc => ?_)
  · exfalso
    rw [w10] at hc
    omega
  simp
  refine lp_startx (fun x f σ => ∃ (i : Nat), x = K - i ∧ i ≤ K ∧ f 8 = .int .i64 ((st + 60 * i : Nat) : Int) ∧ f 2 = .ptr 0 0 ∧ f 3 = .ptr 1 0 ∧ f 7 = .ptr 2 0 ∧
    σ = [.var 23 [.bool false, .int .i64 v], .var 53 [.int .i64 a, .int .i64 b], .var 39 [.str s, .int .i64 st, .int .i64 60, rowV 3 (vals v i)]] ++ rowE 23 2 (vals v i) true) K ?_ ?_
  · exact ⟨0, by simp, by simp, by simp, by simp, by simp, by simp, by simp [vals, rowV_nil, rowE_nil]⟩
  rintro x f σ ⟨i, hx, hi, f8, f2, f3, f7, rfl⟩
  simp [f8, f2, f3, f7]
  refine cb_dec (fun hlt => ?_) (fun hge => ?_)
  · have hik : i < K := by omega
    simp [f8, f2, f3, f7]
    refine ap_acc_at (pre := [.var 23 [.bool false, .int .i64 v], .var 53 [.int .i64 a, .int .i64 b], .var 39 [.str s, .int .i64 st, .int .i64 60, rowV 3 (vals v i)]]) rfl (vals v i) [[.bool false, .int .i64 v]] true (by decide) (by simp) (by simp) ?_ ?_ ?_
    · rw [vals_len]; simp; omega
    · rw [vals_len]; simp; omega
    rw [vals_succ]
    have w11 : IntKind.i64.wrap ((st : Int) + 60 * i + 60) = (st : Int) + 60 * ((i : Int) + 1) := by rw [wrap_i64 (by omega) (by omega)]; omega
    simp [f8, f2, f3, f7, w11]
    refine nx_intro (K - (i + 1)) (by omega) ⟨i + 1, rfl, by omega, by simp, by simp [f2], by simp [f3], by simp [f7], by simp⟩
  · have hik : i = K := by omega
    subst hik
    by_cases h0 : i = 0
    · subst h0
      simp [f7, vals, rowV_nil, rowE_nil, valsA]
    · have hne : vals v i ≠ [] := fun h => h0 (by have := vals_len v i; rw [h] at this; exact this.symm)
      rw [rowV_cons hne, rowE_cons hne, vals_len]
      simp [f7, valsA, h0, vals_len]
end Go.Proofs.YtigkchpjpdbodaaGreatDoor
end
section
set_option maxHeartbeats 2000000
namespace Go.Proofs.YtigkchpjpdbodaaGreatDoor
open Go.Abs Go.Rnd
variable {G : Globs}
/-- The law's board. -/
def ee : List AV := [.int .i64 (-1), .int .i64 0]
def ringC (v : Int) : List AV := [.int .i64 60, .lst [ee, ee, ee, ee, [.int .i64 240, .int .i64 v], ee, ee, ee, ee, ee]]
def boardC : List AV := [.int .i64 300, .lst [[.str [97, 46, 98], .int .i64 1, .int .i64 0, .lst [ringC 1000000]], [.str [97, 46, 99], .int .i64 1, .int .i64 0, .lst [ringC 2000000]]]]
/-- The word, and the tree. -/
def cword : List UInt8 := [99, 111, 110, 115, 116, 97, 110, 116, 76, 105, 110, 101]
def lineT (v : Int) : List (List AV) := [[.int .i64 2, .str [], .int .i64 v, .lst []], [.int .i64 4, .str cword, .int .i64 0, .lst [[.int .i64 0]]]]
/-- The store of Eval, at its last call. -/
def stE (v : Int) (T : List UInt8) (a b : Int) : Store := [.var 35 boardC, .var 28 [.str T, .int .i64 a, .int .i64 b, .bool false], .var 50 (boardC ++ [.lst (lineT v)])]
noncomputable def cfgN : Evr := { P := Tryz.prog, code := compFn Tryz.prog [], keep := fun _ => false, wr := fun _ => false, orac := noE }
theorem cfgN_ok : CallOK Tryz.prog (evFn cfgN 1000 5) := evFn_ok (C := cfgN) hmix (fun g af h => ⟨[], h⟩) noE_ok 1000 5
/-- The store in 'call', at the call of 'arguments'. -/
def stC (v : Int) (T : List UInt8) (a b : Int) : Store := stE v T a b ++ [.var 53 [.int .i64 a, .int .i64 b], .var 97 [.int .i64 4, .str cword, .int .i64 0, .lst [[.int .i64 0]]]] ++
  [.var 97 [.int .i64 4, .str cword, .int .i64 0, .lst [[.int .i64 0]]], .var 53 [.int .i64 a, .int .i64 b]]
theorem args_ev (v : Int) (T : List UInt8) (a b : Int) : evFn cfgN 1000 5 62 [.ptr 2 0, .agg [.int .i64 4, .str cword, .int .i64 0, .lst [[.int .i64 0]]]] (stC v T a b) = some (.tup [.lst [[.bool false, .int .i64 v]], .str []], stC v T a b) := by kernel_rfl
/-- The store of 'eval', at its call. -/
def stB (v : Int) (T : List UInt8) (a b : Int) : Store := stE v T a b ++ [.var 53 [.int .i64 a, .int .i64 b], .var 97 [.int .i64 4, .str cword, .int .i64 0, .lst [[.int .i64 0]]]]
def lineR (v : Int) (s : List UInt8) (a b : Nat) : AV := .tup [.lst [[.str s, .int .i64 (minA a), .int .i64 60, valsA v (minK a b)]], .int .i64 0]
theorem rcall_ok {v : Int} {s : List UInt8} (kP : PCalls Tryz.prog 46 [.agg [.bool false, .int .i64 v]] (fun r => r = .str s)) (T : List UInt8) (a b : Nat) (ha : a ≤ 65535) (hb : b ≤ a + 65536) :
    ACalls Tryz.prog n_render_evaluator_call [.ptr 2 0, .agg [.int .i64 4, .str cword, .int .i64 0, .lst [[.int .i64 0]]], .agg [.int .i64 a, .int .i64 b]] (stB v T a b) (fun r σ' => r = lineR v s a b ∧ σ' = stB v T a b) := by
  refine acalls_of_awp_e hmix c_render_evaluator_call rfl ?_
  have kA := cfgN_ok (G := G) _ _ _ _ _ (args_ev (G := G) v T a b)
  have kL := rline_ok (G := G) kP a b ha hb
  obtain ⟨B, hB⟩ : ∃ B, stB v T a b = B := ⟨_, rfl⟩
  have hC : stC v T a b = B ++ [.var 97 [.int .i64 4, .str cword, .int .i64 0, .lst [[.int .i64 0]]], .var 53 [.int .i64 a, .int .i64 b]] := by rw [← hB]; rfl
  have hl : B.length = 5 := by rw [← hB]; rfl
  rw [hB]
  rw [hC] at kA
  simp [a_render_evaluator_call, hl]
  refine ac_eff kA ?_
  rintro r σ' ⟨rfl, rfl⟩
  simp [hl, cword]
  refine qc_any kL (by simp) ?_
  simp
  exact er_intro B (lineR v s a b) (by simp [retAt, tupOf, lineR, valsA]) _ rfl rfl (fun id e h => .inl h) ⟨rfl, rfl⟩
theorem reval_ok {v : Int} {s : List UInt8} (kP : PCalls Tryz.prog 46 [.agg [.bool false, .int .i64 v]] (fun r => r = .str s)) (T : List UInt8) (a b : Nat) (ha : a ≤ 65535) (hb : b ≤ a + 65536) :
    ACalls Tryz.prog n_render_evaluator_eval [.ptr 2 0, .int .i64 1, .agg [.int .i64 a, .int .i64 b]] (stE v T a b) (fun r σ' => r = lineR v s a b ∧ σ' = stE v T a b) := by
  refine acalls_of_awp_e hmix c_render_evaluator_eval rfl ?_
  have kC := rcall_ok (G := G) kP T a b ha hb
  simp [stB] at kC
  simp [a_render_evaluator_eval, stE, boardC, lineT] at kC ⊢
  refine ac_eff kC ?_
  rintro r σ' ⟨rfl, rfl⟩
  simp [lineR, valsA]
  refine er_intro (stE v T a b) (lineR v s a b) (by simp [retAt, tupOf, lineR, valsA]) [.var 53 [.int .i64 a, .int .i64 b], .var 97 [.int .i64 4, .str cword, .int .i64 0, .lst [[.int .i64 0]]]] rfl rfl (fun id e h => .inl h) ⟨rfl, rfl⟩
theorem asked_ok (t : Int) : PCalls Tryz.prog n_render_asked [.int .i64 t] (fun r => r = .bool (decide (0 ≤ t) && decide (t ≤ 1099511541376))) := by
  refine pcalls_of_awp hmix c_render_asked rfl ?_
  by_cases h : 0 ≤ t <;> simp [a_render_asked, h]
theorem rEval_ok {v : Int} {s T : List UInt8} (kP : PCalls Tryz.prog 46 [.agg [.bool false, .int .i64 v]] (fun r => r = .str s)) (kR : PCalls Tryz.prog 11 [.agg boardC] (fun r => r = .bool true))
    (kT : PCalls Tryz.prog 12 [.str T] (fun r => r = .tup [.lst (lineT v), .int .i64 0])) (a b : Nat) (ha : a ≤ 65535) (hab : a < b) (hb : b ≤ a + 65536) :
    PCalls Tryz.prog n_render_Eval [.agg boardC, .agg [.str T, .int .i64 a, .int .i64 b, .bool false]] (fun r => r = lineR v s a b) := by
  refine pcalls_of_awp hmix c_render_Eval rfl ?_
  have k1 := asked_ok (G := G) (a : Int)
  have k2 := asked_ok (G := G) (b : Int)
  have e1 : (decide ((0 : Int) ≤ (a : Int)) && decide ((a : Int) ≤ 1099511541376)) = true := by simp; omega
  have e2 : (decide ((0 : Int) ≤ (b : Int)) && decide ((b : Int) ≤ 1099511541376)) = true := by simp; omega
  rw [e1] at k1
  rw [e2] at k2
  have hn : ¬ (b : Int) ≤ (a : Int) := by omega
  have hn' : ¬ b ≤ a := by omega
  have kE := reval_ok (G := G) kP T a b ha hb
  simp [stE, boardC] at kE kR
  simp [a_render_Eval, boardC]
  refine ac_same k1 (by simp) ?_
  rintro r rfl
  simp
  refine ac_same k2 (by simp) ?_
  rintro r rfl
  simp [hn, hn']
  refine ac_same kR (by simp) ?_
  rintro r rfl
  simp
  refine ac_same kT (by simp) ?_
  rintro r rfl
  simp [lineT] at kE ⊢
  refine ac_eff kE ?_
  rintro r σ' ⟨rfl, rfl⟩
  simp [lineR, valsA]
end Go.Proofs.YtigkchpjpdbodaaGreatDoor
end
section
set_option maxHeartbeats 4000000
namespace Go.Rnd
theorem minK_step {a t : Nat} (h : a ≤ t) : (t % 60 = 0 → minK a (t + 1) = minK a t + 1 ∧ minA a + 60 * minK a t = t) ∧ (t % 60 ≠ 0 → minK a (t + 1) = minK a t) := by
  unfold minK minA
  refine ⟨fun h0 => ⟨by omega, by omega⟩, fun h0 => by omega⟩
theorem minK_zero (a : Nat) : minK a a = 0 := by unfold minK minA; omega
theorem minK_mono {a t u : Nat} (h : t ≤ u) : minK a t ≤ minK a u := by unfold minK; omega
end Go.Rnd
namespace Go.Proofs.YtigkchpjpdbodaaGreatDoor
open Go.Abs Go.Rnd
variable {G : Globs}
/-- The law's target. -/
def lineS (s : List UInt8) : List UInt8 := (cword ++ [40]) ++ (s ++ [41])
theorem lines_law {nl : Bool} {v : Int} {s : List UInt8} (kA : PCalls Tryz.prog 4 [] (fun r => r = .bool true)) (kB : PCalls Tryz.prog 7 [] (fun r => r = .agg boardC))
    (kX : PCalls Tryz.prog 5 [.agg [.bool false, .int .i64 v]] (fun r => r = .str s)) (hs0 : v ≠ -9223372036854775808 → s.length ≤ 1000) (from_ many : Nat) (h1 : from_ ≤ 65535) (h2 : many ≤ 65535)
    (kE : v ≠ -9223372036854775808 → PCalls Tryz.prog n_render_Eval [.agg boardC, .agg [.str (lineS s), .int .i64 from_, .int .i64 ((from_ + 1 + many : Nat) : Int), .bool false]] (fun r => r = lineR v s from_ (from_ + 1 + many))) :
    PCalls Tryz.prog n_isobarlaw28_RenderLines [.agg [.bool nl, .int .i64 v], .int .u16 from_, .int .u16 many] (fun r => r = .bool true) := by
  refine pcalls_of_awp hmix c_isobarlaw28_RenderLines rfl ?_
  cases nl with
  | true =>
    simp [a_isobarlaw28_RenderLines]
    refine ac_same kA (by simp) ?_
    rintro r rfl
    simp
  | false =>
  simp [a_isobarlaw28_RenderLines]
  refine ac_same kA (by simp) ?_
  rintro r rfl
  by_cases hv : v = -9223372036854775808
  · simp [hv]
  have kE := kE hv
  have hs := hs0 hv
  simp [hv]
  refine ac_same kX (by simp) ?_
  rintro r rfl
  have w1 : IntKind.i64.wrap (from_ : Int) = (from_ : Int) := wrap_i64 (by omega) (by omega)
  have w2 : IntKind.i64.wrap (many : Int) = (many : Int) := wrap_i64 (by omega) (by omega)
  have w3 : IntKind.i64.wrap ((from_ : Int) + 1) = (from_ : Int) + 1 := wrap_i64 (by omega) (by omega)
  have w4 : IntKind.i64.wrap ((from_ : Int) + 1 + many) = (from_ : Int) + 1 + many := wrap_i64 (by omega) (by omega)
  have l1 : 13 + s.length ≤ 9223372036854775807 := by omega
  have l2 : 13 + s.length + 1 ≤ 9223372036854775807 := by omega
  have l3 : 13 + (s.length + 1) ≤ 9223372036854775807 := by omega
  have l4 : s.length + 1 + 13 ≤ 9223372036854775807 := by omega
  simp [w1, w2, w3, w4, l1, l2, l3, l4]
  refine qc_any kB (by simp) ?_
  simp
  simp [boardC, lineS, cword] at kE ⊢
  refine qc_any kE (by simp) ?_
  simp [lineR, valsA]
  refine qc_same kX (by simp) (by simp) ?_
  obtain ⟨K, hK⟩ : ∃ K, minK from_ (from_ + 1 + many) = K := ⟨_, rfl⟩
  obtain ⟨st, hst⟩ : ∃ st, minA from_ = st := ⟨_, rfl⟩
  have hsb : st ≤ from_ + 59 := by rw [← hst]; unfold minA; omega
  have hlen := vals_len v K
  rw [hK, hst]
  simp
  refine lp_startx (fun x f σ => ∃ (t : Nat), x = from_ + many + 1 - t ∧ from_ ≤ t ∧ t ≤ from_ + many + 1 ∧ f 11 = .int .i64 (t : Int) ∧ f 10 = .int .i64 ((minK from_ t : Nat) : Int) ∧ f 1 = .int .u16 from_ ∧ f 2 = .int .u16 many ∧ f 3 = .ptr 0 0 ∧
    f 8 = .lst [[.str s, .int .i64 st, .int .i64 60, .lst (vals v K)]] ∧ σ = [.var 23 [.bool false, .int .i64 v], .var 28 [.str (lineS s), .int .i64 from_, .int .i64 ((from_ : Int) + 1 + many), .bool false]]) (many + 1) ?_ ?_
  · exact ⟨from_, by omega, by omega, by omega, by simp [w1], by simp [minK_zero], by simp, by simp, by simp, by simp, by simp [lineS, cword]⟩
  rintro x f σ ⟨t, hx, ht, htm, f11, f10, f1, f2, f3, f8, rfl⟩
  have w5 : IntKind.i64.wrap ((from_ : Int) + many) = (from_ : Int) + many := wrap_i64 (by omega) (by omega)
  simp [f11, f10, f1, f2, f3, f8, w1, w2, w5]
  refine cb_dec (fun hle => ?_) (fun hgt => ?_)
  · have hle' : t ≤ from_ + many := by omega
    obtain ⟨hz, hnz⟩ := minK_step ht
    have hrem : (t : Int).tmod 60 = ((t % 60 : Nat) : Int) := rfl
    have w6 : IntKind.i64.wrap ((t : Int) + 1) = ((t + 1 : Nat) : Int) := by rw [wrap_i64 (by omega) (by omega)]; omega
    have hKb := minK_mono (a := from_) (show t + 1 ≤ from_ + 1 + many by omega)
    rw [hK] at hKb
    rw [hst] at hz
    by_cases h0 : t % 60 = 0
    · obtain ⟨q1, q2⟩ := hz h0
      obtain ⟨n, hn⟩ : ∃ n, minK from_ t = n := ⟨_, rfl⟩
      rw [hn] at q1 q2 f10
      have hnK : n < K := by omega
      have hget := vals_get v hnK
      have h0' : (t : Int) % 60 = 0 := by omega
      have hgx : ∀ h, (vals v K)[n]'h = [.bool false, .int .i64 v] := fun h => (List.getElem?_eq_some_iff.1 hget).2
      have w7 : IntKind.i64.wrap ((n : Int) + 1) = ((n + 1 : Nat) : Int) := by rw [wrap_i64 (by omega) (by omega)]; omega
      have w8 : IntKind.i64.wrap (60 * (n : Int)) = 60 * (n : Int) := wrap_i64 (by omega) (by omega)
      have w9 : IntKind.i64.wrap ((st : Int) + 60 * n) = (t : Int) := by rw [wrap_i64 (by omega) (by omega)]; omega
      have hnK' : ¬ (K : Int) ≤ (n : Int) := by omega
      have hnK2 : ¬ K ≤ n := by omega
      simp [f11, f10, f1, f2, f3, f8, hrem, h0, h0', hlen, hnK, hnK', hnK2, hget, hgx, w6, w7, w8, w9]
      refine nx_intro (from_ + many + 1 - (t + 1)) (by omega) ⟨t + 1, rfl, by omega, by omega, by simp, by simp [hz h0, hn], by simp [f1], by simp [f2], by simp [f3], by simp [f8], rfl⟩
    · have h0' : ¬ (t : Int) % 60 = 0 := by omega
      simp [f11, f10, f1, f2, f3, f8, hrem, h0, h0', w6]
      refine nx_intro (from_ + many + 1 - (t + 1)) (by omega) ⟨t + 1, rfl, by omega, by omega, by simp, by simp [f10, hnz h0], by simp [f1], by simp [f2], by simp [f3], by simp [f8], rfl⟩
  · have he : t = from_ + 1 + many := by omega
    rw [he, hK] at f10
    simp [f10, f8, hlen]
end Go.Proofs.YtigkchpjpdbodaaGreatDoor
end
section
set_option maxHeartbeats 2000000
namespace Go.Proofs.YtigkchpjpdbodaaGreatDoor
open Go.Tgt Go.Tok Go.Glob
theorem cword_right : rightB 1 0 cword = true := by kernel_rfl
theorem cword_kinds : kindsS cword = some [78] := by kernel_rfl
theorem line_len {v : Int} (h0 : v ≠ -9223372036854775808) (hb : v.natAbs ≤ 9223372036854775807) : (lineS (Dec.prn false v)).length ≤ 40 := by
  have := Dec.prn_len h0 hb
  simp [lineS, cword]; omega
theorem line_spl {v : Int} (h0 : v ≠ -9223372036854775808) (hb : v.natAbs ≤ 9223372036854775807) : SPl (lineS (Dec.prn false v)) [(1, cword), (4, []), (2, Dec.prn false v), (5, [])] := by
  have h1 : SPl [41] [(5, [])] := spl_tok (r := [41]) (s := []) (tk5 []) spl_nil
  have h2 : SPl (Dec.prn false v ++ [41]) [(2, Dec.prn false v), (5, [])] := spl_tok (prn_next h0 hb (.inr ⟨41, [], rfl, .inr (.inr (.inl rfl))⟩)) h1
  have h3 : SPl ([40] ++ (Dec.prn false v ++ [41])) [(4, []), (2, Dec.prn false v), (5, [])] := spl_tok (tk4 _) h2
  have h4 := right_next cword_right (rest := [40] ++ (Dec.prn false v ++ [41])) (.inr ⟨40, _, rfl, .inr (.inl rfl)⟩)
  rw [show textOf 1 cword = cword by simp [textOf]] at h4
  have h5 := spl_tok h4 h3
  rw [← List.append_assoc] at h5
  exact h5
theorem parse_line {v : Int} (h0 : v ≠ -9223372036854775808) (hb : v.natAbs ≤ 9223372036854775807) : parseS nodE (lineS (Dec.prn false v)) = .ok [⟨2, [], v, []⟩, ⟨4, cword, 0, [0]⟩] := by
  have hl := line_len h0 hb
  rcases spl_split (line_spl h0 hb) with h | h | ⟨_, _, l, hs, hk⟩
  · omega
  · have := h.2.1; simp at this
  match l, hk with
  | [], hk => simp at hk
  | [_], hk => simp at hk
  | [_, _], hk => simp at hk
  | [_, _, _], hk => simp at hk
  | x1 :: x2 :: x3 :: x4 :: x5 :: r, hk => simp at hk
  | [x1, x2, x3, x4], hk =>
    simp [kt] at hk
    obtain ⟨⟨a1, b1⟩, ⟨a2, b2⟩, ⟨a3, b3⟩, a4, b4⟩ := hk
    have hnum : numOf (Dec.prn false v) = v := by unfold numOf; rw [Dec.parse_prn h0 hb]
    unfold parseS
    rw [hs]
    have harg : argP 12 [x1, x2, x3, x4] [] = .ok ([⟨2, [], v, []⟩, ⟨4, cword, 0, [0]⟩], []) := by
      simp [argP, argsP, a1, a2, a3, a4, b1, b3, hnum]
    simp only [a1, harg]
    simp [checkS, nodeS, cword_kinds, letterS, fit_N]
end Go.Proofs.YtigkchpjpdbodaaGreatDoor
end
section
set_option maxHeartbeats 2000000
namespace Go.Dec
theorem dig_slice {d : Nat} (h : d < 10) : (([48, 49, 50, 51, 52, 53, 54, 55, 56, 57] : List UInt8).take (d + 1)).drop d = [UInt8.ofNat (48 + d)] := by
  have : ∀ i : Fin 10, (([48, 49, 50, 51, 52, 53, 54, 55, 56, 57] : List UInt8).take (i.val + 1)).drop i.val = [UInt8.ofNat (48 + i.val)] := by decide
  exact this ⟨d, h⟩
theorem fr_step {k p : Nat} (hm : p * 10 ^ (k + 1) % 1000000 = 0) : (p % 100000 * 10) * 10 ^ k % 1000000 = 0 := by
  have e : p * 10 ^ (k + 1) = (p % 100000 * 10) * 10 ^ k + p / 100000 * 10 ^ k * 1000000 := by
    have := Nat.div_add_mod p 100000
    rw [Nat.pow_succ]
    generalize p / 100000 = a at *
    generalize p % 100000 = b at *
    rw [← this, Nat.add_mul, ← Nat.mul_assoc, ← Nat.mul_assoc, Nat.mul_assoc 100000, Nat.mul_right_comm b 10]
    omega
  rw [e] at hm
  omega
theorem dd_step (m : Nat) : Lib.decDigits m = (if m / 10 = 0 then [] else Lib.decDigits (m / 10)) ++ [UInt8.ofNat (48 + m % 10)] := by
  rw [Lib.decDigits]
  split
  · rename_i h
    have h1 : m / 10 = 0 := by omega
    have h2 : m % 10 = m := by omega
    rw [if_pos h1, h2]
    rfl
  · rename_i h
    rw [if_neg (by omega)]
end Go.Dec
namespace Go.Proofs.YtigkchpjpdbodaaGreatDoor
open Go.Abs Go.Dec
variable {G : Globs}
theorem rDigits_ok (n : Nat) (hn : n < 18446744073709551616) : PCalls Tryz.prog n_isobarref03_Digits [.int .u64 n] (fun r => r = .str (Lib.decDigits n)) := by
  refine pcalls_of_awp hmix c_isobarref03_Digits rfl ?_
  simp [a_isobarref03_Digits]
  have hl20 := decDigits_le n hn
  refine lp_startx (fun x f σ => ∃ (m : Nat) (s : List UInt8), x = m + (if s = [] then 1 else 0) ∧ m ≤ n ∧ f 0 = .int .u64 m ∧ f 3 = .str s ∧ Lib.decDigits n = (if m = 0 ∧ s ≠ [] then [] else Lib.decDigits m) ++ s ∧ σ = []) (n + 1) ?_ ?_
  · exact ⟨n, [], by simp, Nat.le_refl _, by simp, by simp, by simp, by simp⟩
  rintro x f σ ⟨m, s, rfl, hm, h0, h3, hd, rfl⟩
  have hsl : s.length ≤ 20 := by rw [hd] at hl20; simp at hl20; omega
  obtain ⟨d, hd0⟩ : ∃ d, d = m % 10 := ⟨_, rfl⟩
  obtain ⟨q, hq0⟩ : ∃ q, q = m / 10 := ⟨_, rfl⟩
  have hd10 : d < 10 := by omega
  have e1 : (m : Int).tmod 10 = (d : Int) := by rw [Int.tmod_eq_emod_of_nonneg (by omega)]; omega
  have e2 : (m : Int) % 10 = (d : Int) := by omega
  have e3 : (m : Int).tdiv 10 = (q : Int) := by rw [Int.tdiv_eq_ediv_of_nonneg (by omega)]; omega
  have e4 : (m : Int) / 10 = (q : Int) := by omega
  have hw1 : IntKind.u64.wrap ((d : Int) + 1) = (d : Int) + 1 := wrap_u64 (by omega) (by omega)
  have hw2 : IntKind.u64.wrap (q : Int) = (q : Int) := wrap_u64 (by omega) (by omega)
  have hw3 : IntKind.u64.wrap (d : Int) = (d : Int) := wrap_u64 (by omega) (by omega)
  have hd1 : (d : Int) ≤ (d : Int) + 1 := by omega
  have hd2 : (d : Int) + 1 ≤ 10 := by omega
  have hd3 : d + 1 ≤ 10 := by omega
  have hsl' : s.length + 1 ≤ 9223372036854775807 := by omega
  have hds := dig_slice hd10
  have hmd : m = q * 10 + d := by omega
  have hd4 : (0 : Int) ≤ (d : Int) + 1 := by omega
  have hds2 : List.drop d (48 :: List.take d [49, 50, 51, 52, 53, 54, 55, 56, 57]) = [UInt8.ofNat (48 + d)] := by rwa [List.take_succ_cons] at hds
  have hmin : min d 9 + 1 - d = 1 := by omega
  have hsl2 : 1 + s.length ≤ 9223372036854775807 := by omega
  have hwz : IntKind.u64.wrap 0 = 0 := wrap_u64 (by omega) (by omega)
  have hw0 : IntKind.u64.wrap 1 = 1 := wrap_u64 (by omega) (by omega)
  have hdd := dd_step m
  rw [← hd0, ← hq0] at hdd
  by_cases hmp : 0 < m
  · have hmp' : (0 : Int) < (m : Int) := by omega
    have hmz : ¬ m = 0 := by omega
    have hfin : Lib.decDigits n = (if q = 0 then [] else Lib.decDigits q) ++ UInt8.ofNat (48 + d) :: s := by
      rw [hd, if_neg (by omega), hdd]; simp
    simp [h0, h3, hmp, hmp', e1, e2, e3, e4, hw1, hw2, hw3, hd1, hd2, hd3, hd4, hds2, hmin, hsl2, hsl']
    refine nx_intro q (by omega) ⟨q, UInt8.ofNat (48 + d) :: s, by simp, by omega, by simp, by simp, by rw [hfin]; simp, rfl⟩
  · have hm0 : m = 0 := by omega
    subst hm0
    have hdz : d = 0 := by omega
    have hqz : q = 0 := by omega
    subst hdz hqz
    by_cases hs : s = []
    · subst hs
      simp [h0, h3, hw0]
      refine nx_intro 0 (by omega) ⟨0, [48], by simp, by omega, by simp [hwz], by simp, ?_, rfl⟩
      have : Lib.decDigits 0 = [48] := by rw [Lib.decDigits]; rfl
      rw [hd]
      simp [this]
    · simp [h0, h3, hs]
      rw [hd]
      simp [hs]
theorem rPrint_ok (nl : Bool) (v : Int) (h0 : -9223372036854775808 ≤ v) (h1 : v ≤ 9223372036854775807) : PCalls Tryz.prog n_isobarref03_Print [.agg [.bool nl, .int .i64 v]] (fun r => r = .str (prn nl v)) := by
  refine pcalls_of_awp hmix c_isobarref03_Print rfl ?_
  simp [a_isobarref03_Print]
  cases nl with
  | true => simp [prn]
  | false =>
  simp
  refine ac_same (rRight_ok false v) (by simp) ?_
  rintro r rfl
  by_cases hmin : v = -9223372036854775808
  · simp [hmin, prn]
  simp [hmin]
  have hpl := prn_len hmin (by omega)
  obtain ⟨u, hu⟩ : ∃ u : Nat, u = v.natAbs := ⟨_, rfl⟩
  have hu64 : u < 9223372036854775808 := by omega
  have hprn : prn false v = (if v < 0 then [45] else []) ++ Lib.decDigits (u / 1000000) ++ frac (u % 1000000) := by
    simp [prn, hmin, hu]
  obtain ⟨q, hq⟩ : ∃ q, q = u / 1000000 := ⟨_, rfl⟩
  obtain ⟨p, hpp⟩ : ∃ p, p = u % 1000000 := ⟨_, rfl⟩
  rw [← hq, ← hpp] at hprn
  have hdl := decDigits_le q (by omega)
  have hq1 : (u : Int).tdiv 1000000 = (q : Int) := by rw [Int.tdiv_eq_ediv_of_nonneg (by omega)]; omega
  have hq2 : (u : Int) / 1000000 = (q : Int) := by omega
  have hwq : IntKind.i64.wrap (q : Int) = (q : Int) := wrap_i64 (by omega) (by omega)
  have hwu : IntKind.u64.wrap (q : Int) = (q : Int) := wrap_u64 (by omega) (by omega)
  have hp1 : (u : Int).tmod 1000000 = (p : Int) := by rw [Int.tmod_eq_emod_of_nonneg (by omega)]; omega
  have hp2 : (u : Int) % 1000000 = (p : Int) := by omega
  have hp : p < 1000000 := by omega
  have hlenQ : (Lib.decDigits q).length ≤ 9223372036854775807 := by omega
  have hlen6 : (Lib.decDigits q).length ≤ 9223372036854775806 := by omega
  have hlen5 : (Lib.decDigits q).length ≤ 9223372036854775805 := by omega
  have hlen1q : 1 + (Lib.decDigits q).length ≤ 9223372036854775807 := by omega
  have hlenQ1 : (Lib.decDigits q).length + 1 ≤ 9223372036854775807 := by omega
  have hlenR : (Lib.decDigits q).length + 1 + 1 ≤ 9223372036854775807 := by omega
  have hlenR1 : 1 + (Lib.decDigits q).length + 1 ≤ 9223372036854775807 := by omega
  by_cases hneg : v < 0
  · have hwn : IntKind.i64.wrap (-v) = (u : Int) := by rw [wrap_i64 (by omega) (by omega)]; omega
    simp [hneg, hwn, hq1, hq2, hwq, hwu]
    refine ac_same (rDigits_ok q (by omega)) (by simp) ?_
    rintro r rfl
    have hlenS : ([45] : List UInt8).length + (Lib.decDigits q).length ≤ 100 := by simp; omega
    simp [hp1, hp2, hlenQ, hlenQ1, hlen6, hlen1q]
    by_cases hp0 : p = 0
    · have hp0' : (p : Int) = 0 := by omega
      simp [hp0]
      rw [hprn]
      simp [hneg, hp0, frac]
    · have hp0' : ¬ (p : Int) = 0 := by omega
      simp [hp0, hp0', hlenR, hlenR1, hlen6, hlen5, hlen1q]
      refine lp_startx (fun x f σ => ∃ (k r : Nat) (T : List UInt8), x = k ∧ k ≤ 6 ∧ r < 1000000 ∧ r * 10 ^ k % 1000000 = 0 ∧ f 5 = .str T ∧ f 6 = .int .i64 r ∧ T ++ fr k r = prn false v ∧ σ = [.var 23 [.bool false, .int .i64 v]]) 6 ?_ ?_
      · refine ⟨6, p, ([45] : List UInt8) ++ Lib.decDigits q ++ [46], rfl, Nat.le_refl _, hp, by omega, by simp, by simp, ?_, by simp⟩
        rw [hprn]
        simp [hneg, frac, hp0]
      rintro x f σ ⟨k, r, T, hxk, hk6, hr6, hrk, h5, h6, hT, rfl⟩
      have hTl : T.length ≤ 21 := by
        have := congrArg List.length hT
        simp only [List.length_append] at this
        omega
      obtain ⟨a, ha⟩ : ∃ a, a = r / 100000 := ⟨_, rfl⟩
      obtain ⟨b, hb⟩ : ∃ b, b = r % 100000 := ⟨_, rfl⟩
      have g1 : (r : Int).tdiv 100000 = (a : Int) := by rw [Int.tdiv_eq_ediv_of_nonneg (by omega)]; omega
      have g2 : (r : Int) / 100000 = (a : Int) := by omega
      have g3 : (r : Int).tmod 100000 = (b : Int) := by rw [Int.tmod_eq_emod_of_nonneg (by omega)]; omega
      have g4 : (r : Int) % 100000 = (b : Int) := by omega
      have g5 : IntKind.i64.wrap ((b : Int) * 10) = ((b * 10 : Nat) : Int) := by rw [wrap_i64 (by omega) (by omega)]; omega
      have g6 : IntKind.u64.wrap (a : Int) = (a : Int) := wrap_u64 (by omega) (by omega)
      have g7 : IntKind.i64.wrap (a : Int) = (a : Int) := wrap_i64 (by omega) (by omega)
      by_cases hr0 : r = 0
      · subst hr0
        have hf0 : fr k 0 = [] := by cases k <;> simp [fr]
        rw [hf0, List.append_nil] at hT
        simp [h5, h6, hT]
      · have hr0' : (0 : Int) < (r : Int) := by omega
        have hrp : 0 < r := by omega
        obtain ⟨k', rfl⟩ : ∃ k', k = k' + 1 := by
          cases k with
          | zero => exfalso; simp at hrk; omega
          | succ k' => exact ⟨k', rfl⟩
        have hstep := fr_step hrk
        have hdg : Lib.decDigits a = [UInt8.ofNat (48 + a)] := Lib.decDigits_one (by omega)
        have hT2 : (T ++ [UInt8.ofNat (48 + a)]) ++ fr k' (b * 10) = prn false v := by
          rw [← hT, fr, if_neg hr0, ← ha, ← hb]; simp
        simp [h5, h6, hr0', hrp, g1, g2, g6, g7]
        refine ac_same (rDigits_ok a (by omega)) (by simp) ?_
        rintro r' rfl
        rw [hdg]
        have hTl6 : T.length ≤ 9223372036854775806 := by omega
        have hTl' : T.length + 1 ≤ 9223372036854775807 := by omega
        simp [h5, h6, g3, g4, g5, hTl', hTl6]
        refine nx_intro k' (by omega) ⟨k', b * 10, T ++ [UInt8.ofNat (48 + a)], rfl, by omega, by omega, by rw [hb]; exact hstep, by simp, by simp, hT2, rfl⟩
  · have hv : v = (u : Int) := by omega
    have hneg' : ¬ (u : Int) < 0 := by omega
    simp [hneg]
    subst hv
    simp [hneg', hq1, hq2, hwq, hwu]
    refine ac_same (rDigits_ok q (by omega)) (by simp) ?_
    rintro r rfl
    have hlenS : ([] : List UInt8).length + (Lib.decDigits q).length ≤ 100 := by simp; omega
    simp [hp1, hp2, hlenQ, hlenQ1, hlen6, hlen1q]
    by_cases hp0 : p = 0
    · have hp0' : (p : Int) = 0 := by omega
      simp [hp0]
      rw [hprn]
      simp [hneg', hp0, frac]
    · have hp0' : ¬ (p : Int) = 0 := by omega
      simp [hp0, hp0', hlenR, hlenR1, hlen6, hlen5, hlen1q]
      refine lp_startx (fun x f σ => ∃ (k r : Nat) (T : List UInt8), x = k ∧ k ≤ 6 ∧ r < 1000000 ∧ r * 10 ^ k % 1000000 = 0 ∧ f 5 = .str T ∧ f 6 = .int .i64 r ∧ T ++ fr k r = prn false (u : Int) ∧ σ = [.var 23 [.bool false, .int .i64 (u : Int)]]) 6 ?_ ?_
      · refine ⟨6, p, ([] : List UInt8) ++ Lib.decDigits q ++ [46], rfl, Nat.le_refl _, hp, by omega, by simp, by simp, ?_, by simp⟩
        rw [hprn]
        simp [hneg', frac, hp0]
      rintro x f σ ⟨k, r, T, hxk, hk6, hr6, hrk, h5, h6, hT, rfl⟩
      have hTl : T.length ≤ 21 := by
        have := congrArg List.length hT
        simp only [List.length_append] at this
        omega
      obtain ⟨a, ha⟩ : ∃ a, a = r / 100000 := ⟨_, rfl⟩
      obtain ⟨b, hb⟩ : ∃ b, b = r % 100000 := ⟨_, rfl⟩
      have g1 : (r : Int).tdiv 100000 = (a : Int) := by rw [Int.tdiv_eq_ediv_of_nonneg (by omega)]; omega
      have g2 : (r : Int) / 100000 = (a : Int) := by omega
      have g3 : (r : Int).tmod 100000 = (b : Int) := by rw [Int.tmod_eq_emod_of_nonneg (by omega)]; omega
      have g4 : (r : Int) % 100000 = (b : Int) := by omega
      have g5 : IntKind.i64.wrap ((b : Int) * 10) = ((b * 10 : Nat) : Int) := by rw [wrap_i64 (by omega) (by omega)]; omega
      have g6 : IntKind.u64.wrap (a : Int) = (a : Int) := wrap_u64 (by omega) (by omega)
      have g7 : IntKind.i64.wrap (a : Int) = (a : Int) := wrap_i64 (by omega) (by omega)
      by_cases hr0 : r = 0
      · subst hr0
        have hf0 : fr k 0 = [] := by cases k <;> simp [fr]
        rw [hf0, List.append_nil] at hT
        simp [h5, h6, hT]
      · have hr0' : (0 : Int) < (r : Int) := by omega
        have hrp : 0 < r := by omega
        obtain ⟨k', rfl⟩ : ∃ k', k = k' + 1 := by
          cases k with
          | zero => exfalso; simp at hrk; omega
          | succ k' => exact ⟨k', rfl⟩
        have hstep := fr_step hrk
        have hdg : Lib.decDigits a = [UInt8.ofNat (48 + a)] := Lib.decDigits_one (by omega)
        have hT2 : (T ++ [UInt8.ofNat (48 + a)]) ++ fr k' (b * 10) = prn false (u : Int) := by
          rw [← hT, fr, if_neg hr0, ← ha, ← hb]; simp
        simp [h5, h6, hr0', hrp, g1, g2, g6, g7]
        refine ac_same (rDigits_ok a (by omega)) (by simp) ?_
        rintro r' rfl
        rw [hdg]
        have hTl6 : T.length ≤ 9223372036854775806 := by omega
        have hTl' : T.length + 1 ≤ 9223372036854775807 := by omega
        simp [h5, h6, g3, g4, g5, hTl', hTl6]
        refine nx_intro k' (by omega) ⟨k', b * 10, T ++ [UInt8.ofNat (48 + a)], rfl, by omega, by omega, by rw [hb]; exact hstep, by simp, by simp, hT2, rfl⟩
end Go.Proofs.YtigkchpjpdbodaaGreatDoor
end
section
namespace Go
section
variable {H : Type} {enc : TypeId × Value → H}
theorem returns_shaped {a : Assume} {C : Checked} {os : Os} {f : FuncId} {fn : Func} {s : ChangeSpec} {conds : List PathCond} {apart fresh handsOn again : Bool} {X : World → Array Value → Prop}
    (hX : ∀ (w w' : World) (args : Array Value), w.heap = w'.heap → X w args → X w' args) (own : ownKnob C.prog.godebug = none) (started : os.Started) (noInit : C.prog.inits.idxOf? f = none) (hfn : C.prog.funcs[f]? = some fn)
    (witness : ∃ (w : World) (tape : Tape) (i : Input), w.os = os ∧ (w.forCall tape i).Shaped C.prog ∧ i.vars = [] ∧ Input.okWide C.prog (w.forCall tape i) .any w.heap.size f i ∧
      ((s.pre enc C.prog fn conds apart (w.forCall tape i).memory i.args ∧ X (w.forCall tape i).memory i.args) ∧ sizedMet enc C.prog fn (OpenSpec.ofChange s) apart (w.forCall tape i).memory i.args) ∧ a.holds C.prog (lone (Frame.enter C.prog f i.args .normal) [] (w.forCall tape i)))
    (body : ∀ (W : World) (base : Nat) (args : Array Value) (ds gs : List (DataW H)) (before : List MemPlace), W.ShapedOpen C.prog → (∀ (j : Nat) t v, fn.params[j]? = some t → args[j]? = some v → Value.okWide C.prog W .any base t v) →
      DataW.Whole enc C.prog fn.params.toList s.vars apart W args.toList ds gs before → X W args → Calls C.prog f args W fun e W' => ∃ v, e = .returned v ∧ s.post enc C.prog fn apart fresh handsOn again W args v W') :
    ReturnsInHanded a C os f .any (fun w args => (s.pre enc C.prog fn conds apart w args ∧ X w args) ∧ sizedMet enc C.prog fn (OpenSpec.ofChange s) apart w args) (s.post enc C.prog fn apart fresh handsOn again) := by
  apply returnsInHanded_of_calls own started noInit witness
  rintro w tape i - hshape - ⟨-, -, -, g, hg, -, -, -, -, hval⟩ ⟨⟨⟨ds, gs, before, hw, -⟩, hx⟩, -⟩ -
  cases Option.some.inj (hg.symm.trans hfn)
  apply (body (w.forCall tape i) w.heap.size i.args ds gs before hshape hval (DataW.Whole.of_heap (by rfl) hw) (hX _ _ _ (by rfl) hx)).mono
  rintro e W' ⟨v, rfl, hp⟩
  exact ChangeSpec.post_blind hp
end
end Go
end
