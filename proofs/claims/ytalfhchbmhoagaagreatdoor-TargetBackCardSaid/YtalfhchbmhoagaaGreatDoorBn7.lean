/- A target's tokens: the document's row and Split; the law that any target is split as the document says. Targets: the document's fit, Check, Parse, Sam -/
import Derived.ProofKit
import Derived.Test.YtalfhchbmhoagaaGreatDoorAbs2
import Derived.Test.YtalfhchbmhoagaaGreatDoorBn1
import Derived.Test.YtalfhchbmhoagaaGreatDoorBn2
import Derived.Test.YtalfhchbmhoagaaGreatDoorBn3
import Derived.Test.YtalfhchbmhoagaaGreatDoorBn4
import Derived.Test.YtalfhchbmhoagaaGreatDoorBn5
import Derived.Test.YtalfhchbmhoagaaGreatDoorBn6
set_option linter.unusedSimpArgs false
set_option linter.unusedVariables false
set_option linter.constructorNameAsVariable false
section
set_option maxHeartbeats 4000000
namespace Go.Proofs.YtalfhchbmhoagaaGreatDoor
open Go.Abs Go.Glob Go.Tok
variable {G : Globs}
theorem refRow_ok (t : List UInt8) (k0 n : Nat) (h2 : k0 ≤ t.length) (h3 : t.length ≤ 1000000) (hn : t.length - k0 ≤ n) :
  PCalls Tryz.prog n_isobarref22_row [.str t, .int .i64 k0] (fun r => r = .int .i64 (match rowF n (t.drop k0) with | some m => ((k0 + m : Nat) : Int) | none => -1)) := by
 refine pcalls_of_awp hmix c_isobarref22_row rfl ?_
 simp [a_isobarref22_row]
 refine lp_startx (fun x f σ => ∃ (k m : Nat), x = t.length - k ∧ k0 ≤ k ∧ k ≤ t.length ∧ t.length - k ≤ m ∧ rowF n (t.drop k0) = (rowF m (t.drop k)).map (· + (k - k0)) ∧ f 0 = .str t ∧ f 1 = .int .i64 k ∧ σ = []) (t.length - k0) ?_ ?_
 ·exact ⟨k0, n, rfl, Nat.le_refl _, h2, hn, by simp, by simp, by simp, rfl⟩
 rintro x f σ ⟨k, m, hx, hk1, hk2, hm, hrow, h0, h1, rfl⟩
 by_cases hk : k < t.length
 ·obtain ⟨c, hc⟩ : ∃ c, t[k]? = some c := ⟨_, List.getElem?_eq_getElem hk⟩
  have hd := drop_cons hc
  obtain ⟨_, hc2⟩ := List.getElem?_eq_some_iff.1 hc
  obtain ⟨m, rfl⟩ : ∃ j, m = j + 1 := ⟨m - 1, by omega⟩
  have hwk : IntKind.i64.wrap ((k : Int) + 1) = (k : Int) + 1 := wrap_i64 (by omega) (by omega)
  have hword : bword c = true → rowF n (t.drop k0) = (rowF m (t.drop (k + 1))).map (· + (k + 1 - k0)) := fun hw => by
   rw [hrow, hd, rowF, if_pos hw]
   cases rowF m (List.drop (k + 1) t) with
   | none => simp
   | some j => simp; omega
  simp [hk, h0, h1, hc, hc2]
  refine ac_same (refByte_ok c) (by simp) ?_
  rintro r rfl
  by_cases hb : nb c = true
  ·simp [hb, h0, h1, hwk]
   refine nx_intro (t.length - (k + 1)) (by omega) ⟨k + 1, m, rfl, by omega, by omega, by omega, hword (by simp [bword, hb]), by simp [h0], by simp, rfl⟩
  by_cases h46 : c = 46
  ·subst h46
   simp [hb, h0, h1, hwk, hc, hc2]
   refine nx_intro (t.length - (k + 1)) (by omega) ⟨k + 1, m, rfl, by omega, by omega, by omega, hword (by simp [bword]), by simp [h0], by simp, rfl⟩
  have h46' := ne_nat (z := 46) rfl h46
  by_cases h63 : c = 63
  ·subst h63
   simp [hb, h0, h1, hwk, hc, hc2]
   refine nx_intro (t.length - (k + 1)) (by omega) ⟨k + 1, m, rfl, by omega, by omega, by omega, hword (by simp [bword]), by simp [h0], by simp, rfl⟩
  have h63' := ne_nat (z := 63) rfl h63
  by_cases h42 : c = 42
  ·subst h42
   simp [hb, h0, h1, hwk, hc, hc2]
   refine nx_intro (t.length - (k + 1)) (by omega) ⟨k + 1, m, rfl, by omega, by omega, by omega, hword (by simp [bword]), by simp [h0], by simp, rfl⟩
  have h42' := ne_nat (z := 42) rfl h42
  have hnw : bword c = false := by simp [bword, hb, h46, h63, h42]
  by_cases h91 : c = 91
  ·subst h91
   simp [hb, h0, h1, hwk, hc, hc2]
   have hstop : bstop 91 = false := by decide
   have hcl0 : clsN (91 :: t.drop (k + 1)) = (clsN (t.drop (k + 1))).map (· + 1) := by rw [clsN]; simp [hstop]
   have hsome : ∀ a, clsN (91 :: t.drop (k + 1)) = some a → rowF n (t.drop k0) = (rowF m (t.drop (k + a))).map (· + (k + a - k0)) := fun a ha => by
    rw [hrow, hd, rowF, hnw, ha]
    simp only [Bool.false_eq_true, if_false, if_true, Option.bind_some]
    rw [← hd, List.drop_drop]
    cases rowF m (List.drop (k + a) t) with
    | none => simp
    | some i => simp; omega
   have hnone : clsN (91 :: t.drop (k + 1)) = none → rowF n (t.drop k0) = none := fun ha => by rw [hrow, hd, rowF, hnw, ha]; simp
   refine lp_gen (fun f' => f' 0 = .str t ∧ f' 1 = .int .i64 (k + 1 : Nat)) ⟨by simp [h0], by simp⟩ ?_
   rintro f0 ⟨u0, u1⟩
   refine lp_startx (fun x f σ => ∃ (j : Nat), x = t.length - j ∧ k + 1 ≤ j ∧ j ≤ t.length ∧ clsN (t.drop (k + 1)) = (clsN (t.drop j)).map (· + (j - (k + 1))) ∧ f 0 = .str t ∧ f 1 = .int .i64 j ∧ σ = []) (t.length - (k + 1)) ?_ ?_
   ·exact ⟨k + 1, rfl, Nat.le_refl _, by omega, by simp, u0, u1, rfl⟩
   rintro x' f1 σ' ⟨j, hx', hj1, hj2, hcls, w0, w1, rfl⟩
   by_cases hj : j < t.length
   ·obtain ⟨d, hcd⟩ : ∃ d, t[j]? = some d := ⟨_, List.getElem?_eq_getElem hj⟩
    have hdd := drop_cons hcd
    obtain ⟨_, hcd2⟩ := List.getElem?_eq_some_iff.1 hcd
    have hwj : IntKind.i64.wrap ((j : Int) + 1) = (j : Int) + 1 := wrap_i64 (by omega) (by omega)
    rw [hdd, clsN] at hcls
    have hge : ¬ t.length ≤ j := by omega
    have hge' : ¬ (t.length : Int) ≤ (j : Int) := by omega
    by_cases h93 : d = 93
    ·subst h93
     have hs93 : bstop 93 = false := by decide
     have hc1 : clsN (91 :: t.drop (k + 1)) = some (j + 1 - k) := by
      rw [hcl0, hcls]; simp [hs93]; omega
     have hfin := hsome _ hc1
     rw [show k + (j + 1 - k) = j + 1 by omega] at hfin
     simp [w0, w1, hj, hge, hge', hcd, hcd2, hwj]
     refine nx_intro (t.length - (j + 1)) (by omega) ⟨j + 1, m, rfl, by omega, by omega, by omega, hfin, by simp [w0], by simp, rfl⟩
    ·have h93' := ne_nat (z := 93) rfl h93
     simp [w0, w1, hj, hcd, hcd2, h93']
     refine ac_same (refStop_ok d) (by simp) ?_
     rintro r rfl
     by_cases hs : bstop d = true
     ·have hc1 : clsN (91 :: t.drop (k + 1)) = none := by rw [hcl0, hcls]; simp [hs]
      have hfin := hnone hc1
      simp [w0, w1, hj, hcd, hcd2, h93', hs, hge, hge', hfin]
     ·simp [w0, w1, hs, hwj]
      refine nx_intro (t.length - (j + 1)) (by omega) ⟨j + 1, rfl, by omega, by omega, ?_, by simp [w0], by simp, rfl⟩
      rw [hcls]
      cases clsN (List.drop (j + 1) t) with
      | none => simp [hs, h93]
      | some i => simp [hs, h93]; omega
   ·have hc1 : clsN (91 :: t.drop (k + 1)) = none := by rw [hcl0, hcls, List.drop_of_length_le (by omega)]; simp [clsN]
    have hfin := hnone hc1
    have hge : t.length ≤ j := by omega
    simp [w0, w1, hj, hge, hfin]
  have h91' := ne_nat (z := 91) rfl h91
  by_cases h123 : c = 123
  ·subst h123
   simp [hb, h0, h1, hwk, hc, hc2]
   have n91 : ¬ ((123 : UInt8) = 91) := by decide
   have hsome : ∀ a, brcN 0 (123 :: t.drop (k + 1)) = some a → rowF n (t.drop k0) = (rowF m (t.drop (k + a))).map (· + (k + a - k0)) := fun a ha => by
    rw [hrow, hd, rowF, hnw, ha]
    simp only [Bool.false_eq_true, if_false, if_true, Option.bind_some, n91]
    rw [← hd, List.drop_drop]
    cases rowF m (List.drop (k + a) t) with
    | none => simp
    | some i => simp; omega
   have hnone : brcN 0 (123 :: t.drop (k + 1)) = none → rowF n (t.drop k0) = none := fun ha => by rw [hrow, hd, rowF, hnw, ha]; simp
   generalize hB : brcN 0 (123 :: t.drop (k + 1)) = B at hsome hnone
   refine lp_gen (fun f' => f' 0 = .str t ∧ f' 1 = .int .i64 (k : Nat) ∧ f' 5 = .int .i64 0) ⟨by simp [h0], by simp [h1], by simp⟩ ?_
   rintro f0 ⟨u0, u1, u5⟩
   refine lp_startx (fun x f σ => ∃ (j d : Nat), x = t.length - j ∧ k ≤ j ∧ j ≤ t.length ∧ d ≤ j - k ∧ (j = k ∨ 0 < d) ∧ B = (brcN d (t.drop j)).map (· + (j - k)) ∧ f 0 = .str t ∧ f 1 = .int .i64 j ∧ f 5 = .int .i64 d ∧ σ = []) (t.length - k) ?_ ?_
   ·exact ⟨k, 0, rfl, Nat.le_refl _, by omega, by omega, .inl rfl, by rw [← hB, ← hd]; simp, u0, u1, u5, rfl⟩
   rintro x' f1 σ' ⟨j, d, hx', hj1, hj2, hdj, hd0, hcls, w0, w1, w5, rfl⟩
   by_cases hj : j < t.length
   ·obtain ⟨e, hcd⟩ : ∃ e, t[j]? = some e := ⟨_, List.getElem?_eq_getElem hj⟩
    have hdd := drop_cons hcd
    obtain ⟨_, hcd2⟩ := List.getElem?_eq_some_iff.1 hcd
    have hwj : IntKind.i64.wrap ((j : Int) + 1) = (j : Int) + 1 := wrap_i64 (by omega) (by omega)
    have hwd : IntKind.i64.wrap ((d : Int) + 1) = (d : Int) + 1 := wrap_i64 (by omega) (by omega)
    have hwm : IntKind.i64.wrap ((d : Int) - 1) = (d : Int) - 1 := wrap_i64 (by omega) (by omega)
    have he0 : j = k → e = 123 := fun h => by subst h; rw [hc] at hcd; cases hcd; rfl
    rw [hdd, brcN] at hcls
    simp [w0, w1, hj, hcd, hcd2]
    refine ac_same (refStop_ok e) (by simp) ?_
    rintro r rfl
    by_cases hs : bstop e = true
    ·have hd1 : 0 < d := by
      rcases hd0 with h | h
      ·have := he0 h; subst this; exact absurd hs (by decide)
      ·exact h
     have hdz : ¬ ((d : Int) = 0) := by omega
     have hdz' : ¬ (d = 0) := by omega
     have hfin := hnone (by rw [hcls]; simp [hs])
     simp [w0, w1, w5, hs, hdz, hdz', hfin]
    ·have hnext : ∀ d' : Nat, deeper d e = d' → d' ≠ 0 → B = (brcN d' (t.drop (j + 1))).map (· + (j + 1 - k)) := fun d' hd' hz => by
      rw [hcls, hd', if_neg hs, if_neg hz]
      cases brcN d' (List.drop (j + 1) t) with
      | none => simp
      | some i => simp; omega
     have hend : deeper d e = 0 → rowF n (t.drop k0) = (rowF m (t.drop (j + 1))).map (· + (j + 1 - k0)) := fun hz => by
      have := hsome (j + 1 - k) (by rw [hcls, if_neg hs, hz]; simp; omega)
      rwa [show k + (j + 1 - k) = j + 1 by omega] at this
     by_cases e123 : e = 123
     ·subst e123
      have hdp : deeper d 123 = d + 1 := by simp [deeper]
      have hdz : ¬ ((d : Int) + 1 = 0) := by omega
      simp [w0, w1, w5, hj, hcd, hcd2, hs, hwj, hwd, hdz]
      refine nx_intro (t.length - (j + 1)) (by omega) ⟨j + 1, d + 1, rfl, by omega, by omega, by omega, .inr (by omega), hnext _ hdp (by omega), by simp [w0], by simp, by simp, rfl⟩
     ·have e123' := ne_nat (z := 123) rfl e123
      have hd1 : 0 < d := by
       rcases hd0 with h | h
       ·exact absurd (he0 h) e123
       ·exact h
      by_cases e125 : e = 125
      ·subst e125
       have hdp : deeper d 125 = d - 1 := by simp [deeper]
       by_cases hz : d = 1
       ·have hz1 : (d : Int) = 1 := by omega
        have hw0 : IntKind.i64.wrap 0 = 0 := wrap_i64 (by omega) (by omega)
        have hfin := hend (by rw [hdp]; omega)
        simp [w0, w1, w5, hj, hcd, hcd2, hs, hwj, hz1, hw0]
        refine nx_intro (t.length - (j + 1)) (by omega) ⟨j + 1, m, rfl, by omega, by omega, by omega, hfin, by simp [w0], by simp, rfl⟩
       ·have hdz : ¬ ((d : Int) - 1 = 0) := by omega
        simp [w0, w1, w5, hj, hcd, hcd2, hs, hwj, hwm, hdz]
        refine nx_intro (t.length - (j + 1)) (by omega) ⟨j + 1, d - 1, rfl, by omega, by omega, by omega, .inr (by omega), hnext _ hdp (by omega), by simp [w0], by simp, by simp; omega, rfl⟩
      ·have e125' := ne_nat (z := 125) rfl e125
       have hdp : deeper d e = d := by simp [deeper, e123, e125]
       have hdz : ¬ ((d : Int) = 0) := by omega
       have hdz' : ¬ (d = 0) := by omega
       simp [w0, w1, w5, hj, hcd, hcd2, hs, hwj, e123', e125', hdz, hdz']
       refine nx_intro (t.length - (j + 1)) (by omega) ⟨j + 1, d, rfl, by omega, by omega, by omega, .inr (by omega), hnext _ hdp (by omega), by simp [w0], by simp, by simp [w5], rfl⟩
   ·have hd1 : 0 < d := by omega
    have hdz : ¬ ((d : Int) = 0) := by omega
    have hdz' : ¬ (d = 0) := by omega
    have hfin := hnone (by rw [hcls, List.drop_of_length_le (by omega)]; simp [brcN])
    simp [w0, w1, w5, hj, hdz, hdz', hfin]
  have h123' := ne_nat (z := 123) rfl h123
  have hz : rowF (m + 1) (t.drop k) = some 0 := by rw [hd, rowF, hnw]; simp [h91, h123]
  have e : k0 + (k - k0) = k := by omega
  simp [hb, h0, h1, hwk, hc, hc2, h46', h63', h42', h91', h123', hrow, hz, e]
  omega
 ·have hz : rowF m (t.drop k) = some 0 := by rw [List.drop_of_length_le (by omega)]; exact rowF_nil m
  have e : k0 + (k - k0) = k := by omega
  simp [hk, h0, h1, hrow, hz, e]
  omega
end Go.Proofs.YtalfhchbmhoagaaGreatDoor
namespace Go.Proofs.YtalfhchbmhoagaaGreatDoor
open Go.Abs Go.Glob Go.Tok
variable {G : Globs}
def Acc0 (e size : Nat) (σ : Store) (v : AV) (l : List (List AV)) : Prop := (l = [] ∧ v = .nils) ∨ (l ≠ [] ∧ ∃ rid, v = .row rid l.length ∧ σ[rid]? = some (.row e size l true))
theorem ap_acc0 {K : AV → Store → Prop} {t : Tg K} {e size bytes : Nat} {σ : Store} {v : AV} {l : List (List AV)} (ex : Store) (h : Acc0 e size σ v l) (x : List AV) (hs : 0 < size) (hx : x.length = size) (hb : (l.length + 1) * bytes ≤ 140737488355328) (h63 : l.length + 1 ≤ 9223372036854775807)
  (hK : ∀ v' σ', Acc0 e size σ' v' (l ++ [x]) → K v' σ') : ap K t (σ ++ ex) e size bytes v (.lst [x]) := by
 rcases h with ⟨rfl, rfl⟩ | ⟨h1, rid, rfl, h4⟩
 ·refine ap_new true [x] rfl hs (by simp [hx]) (fun _ => .inl rfl) (by simpa using hb) (by simp) ?_
  exact hK (.row (σ ++ ex).length 1) (σ ++ ex ++ [.row e size [x] true]) (.inr ⟨by simp, (σ ++ ex).length, by simp, by rw [List.getElem?_append_right (Nat.le_refl _)]; simp⟩)
 ·have hlt := (List.getElem?_eq_some_iff.1 h4).1
  have h4' : (σ ++ ex)[rid]? = some (.row e size l true) := by rw [List.getElem?_append_left hlt]; exact h4
  have hlt' := (List.getElem?_eq_some_iff.1 h4').1
  refine ap_row l [x] true h4' rfl hs (by simp [hx]) (fun _ => .inl rfl) rfl (by simpa using hb) (by simpa using h63) ?_
  exact hK (.row rid (l.length + 1)) ((σ ++ ex).set rid (.row e size (l ++ [x]) true)) (.inr ⟨by simp, rid, by simp, by rw [List.getElem?_set_self hlt']⟩)
theorem ap_acc00 {K : AV → Store → Prop} {t : Tg K} {e size bytes : Nat} {σ : Store} {v : AV} {l : List (List AV)} (h : Acc0 e size σ v l) (x : List AV) (hs : 0 < size) (hx : x.length = size) (hb : (l.length + 1) * bytes ≤ 140737488355328) (h63 : l.length + 1 ≤ 9223372036854775807)
  (hK : ∀ v' σ', Acc0 e size σ' v' (l ++ [x]) → K v' σ') : ap K t σ e size bytes v (.lst [x]) := by
 have := ap_acc0 (t := t) (bytes := bytes) [] h x hs hx hb h63 hK
 simpa using this
theorem refSplit_ok [GDec] (s : List UInt8) (hs : s.length ≤ 9223372036854775807) : PCalls Tryz.prog n_isobarref22_Split [.str s] (fun r => r = splitAV (Tok.split s)) := by
 refine pcalls_of_awp hmix c_isobarref22_Split rfl ?_
 simp [a_isobarref22_Split]
 by_cases h1k : 1024 < s.length
 ·have h1k' : (1024 : Int) < (s.length : Int) := by omega
  simp [h1k, h1k', Tok.split, splitAV]
 have h1k' : ¬ (1024 : Int) < (s.length : Int) := by omega
 simp [h1k, h1k']
 have h3 : s.length ≤ 1000000 := by omega
 refine lp_startx (fun x f σ => ∃ (k n : Nat) (l : List Tk), x = s.length - k ∧ k ≤ s.length ∧ s.length - k ≤ n ∧ l.length ≤ k ∧ splitF s.length 0 s = (splitF n k (s.drop k)).map (l ++ ·) ∧ f 0 = .str s ∧ f 5 = .int .i64 k ∧ Acc0 62 3 σ (f 4) (tkEls l)) s.length ?_ ?_
 ·exact ⟨0, s.length, [], by simp, by simp, by simp, by simp, by simp, by simp, by simp, .inl ⟨rfl, by simp⟩⟩
 rintro x f σ ⟨k, n, l, hx, hk2, hn, hlk, hspl, h0, h5, hacc⟩
 have htl : (tkEls l).length = l.length := by simp [tkEls]
 by_cases hk : k < s.length
 ·obtain ⟨c, hc⟩ : ∃ c, s[k]? = some c := ⟨_, List.getElem?_eq_getElem hk⟩
  have hd := drop_cons hc
  obtain ⟨_, hc2⟩ := List.getElem?_eq_some_iff.1 hc
  obtain ⟨n, rfl⟩ : ∃ j, n = j + 1 := ⟨n - 1, by omega⟩
  have hwk : IntKind.i64.wrap ((k : Int) + 1) = (k : Int) + 1 := wrap_i64 (by omega) (by omega)
  have hsome : ∀ y, c ≠ 32 → nextT (s.drop k) = some y → splitF s.length 0 s = (splitF n (k + y.2.2) (s.drop (k + y.2.2))).map ((l ++ [⟨y.1, y.2.1, k⟩]) ++ ·) := fun y h32 hy => by
   rw [hspl, hd, splitF, if_neg h32, ← hd, hy]
   simp only [Option.bind_some, List.drop_drop]
   cases splitF n (k + y.2.2) (List.drop (k + y.2.2) s) with
   | none => simp
   | some z => simp
  have hnone : c ≠ 32 → nextT (s.drop k) = none → Tok.split s = .error 16 := fun h32 hy => by
   have : splitF s.length 0 s = none := by rw [hspl, hd, splitF, if_neg h32, ← hd, hy]; rfl
   simp [Tok.split, h1k, this]
  by_cases h32 : c = 32
  ·subst h32
   simp [hk, h0, h5, hc, hc2, hwk]
   refine nx_intro (s.length - (k + 1)) (by omega) ⟨k + 1, n, l, rfl, by omega, by omega, by omega, ?_, by simp [h0], by simp, by simpa using hacc⟩
   rw [hspl, hd, splitF, if_pos rfl]
  have h32' := ne_nat (z := 32) rfl h32
  by_cases h40 : c = 40
  ·subst h40
   have hn1 : nextT (s.drop k) = some (4, [], 1) := by rw [hd, nextT]; simp
   simp [hk, h0, h5, hc, hc2, hwk]
   refine ap_acc00 hacc _ (by omega) rfl (by omega) (by omega) ?_
   intro v' σ' hacc'
   simp [h5, hwk]
   refine nx_intro (s.length - (k + 1)) (by omega) ⟨k + 1, n, l ++ [⟨4, [], k⟩], rfl, by omega, by omega, by simp; omega, hsome _ h32 hn1, by simp [h0], by simp, by simpa [tkEls] using hacc'⟩
  have h40' := ne_nat (z := 40) rfl h40
  by_cases h41 : c = 41
  ·subst h41
   have hn1 : nextT (s.drop k) = some (5, [], 1) := by rw [hd, nextT]; simp
   simp [hk, h0, h5, hc, hc2, hwk]
   refine ap_acc00 hacc _ (by omega) rfl (by omega) (by omega) ?_
   intro v' σ' hacc'
   simp [h5, hwk]
   refine nx_intro (s.length - (k + 1)) (by omega) ⟨k + 1, n, l ++ [⟨5, [], k⟩], rfl, by omega, by omega, by simp; omega, hsome _ h32 hn1, by simp [h0], by simp, by simpa [tkEls] using hacc'⟩
  have h41' := ne_nat (z := 41) rfl h41
  by_cases h44 : c = 44
  ·subst h44
   have hn1 : nextT (s.drop k) = some (6, [], 1) := by rw [hd, nextT]; simp
   simp [hk, h0, h5, hc, hc2, hwk]
   refine ap_acc00 hacc _ (by omega) rfl (by omega) (by omega) ?_
   intro v' σ' hacc'
   simp [h5, hwk]
   refine nx_intro (s.length - (k + 1)) (by omega) ⟨k + 1, n, l ++ [⟨6, [], k⟩], rfl, by omega, by omega, by simp; omega, hsome _ h32 hn1, by simp [h0], by simp, by simpa [tkEls] using hacc'⟩
  have h44' := ne_nat (z := 44) rfl h44
  by_cases hqq : c = 39 ∨ c = 34
  ·have hq34 : ¬ c = 39 → c = 34 := fun h => hqq.resolve_left h
   have hsu : splitF s.length 0 s = splitF s.length 0 s := rfl
   have hnx : nextT (s.drop k) = if Lib.indexByte (s.drop (k + 1)) c < 0 then none else some (3, (s.drop (k + 1)).take (Lib.indexByte (s.drop (k + 1)) c).toNat, (Lib.indexByte (s.drop (k + 1)) c).toNat + 2) := by
    rw [hd, nextT, if_neg h40, if_neg h41, if_neg h44, if_pos hqq]
   have hgo : ∀ (P : Prop), (c = 39 → P) → (¬ c = 39 → c = 34 → P) → P := fun P h1 h2 => by
    by_cases h : c = 39
    ·exact h1 h
    ·exact h2 h (hq34 h)
   have hloop : ∀ (f0 : Abs.Frame), True := fun _ => trivial
   refine hgo _ (fun h39 => ?_) (fun h39 h34 => ?_)
   ·subst h39
    have hne32 : ¬ ((39 : UInt8) = 32) := by decide
    simp [hk, h0, h5, hc, hc2, hwk]
    refine lp_gen (fun f' => f' 0 = .str s ∧ f' 5 = .int .i64 k ∧ f' 6 = .int .i64 (k + 1 : Nat) ∧ Acc0 62 3 σ (f' 4) (tkEls l)) ⟨by simp [h0], by simp [h5], by simp, by simpa using hacc⟩ ?_
    rintro f0 ⟨u0, u5, u6, u4⟩
    refine lp_startx (fun x f σ' => ∃ (e : Nat), x = s.length - e ∧ k + 1 ≤ e ∧ e ≤ s.length ∧ ((Lib.indexByte (s.drop e) 39 < 0 ∧ Lib.indexByte (s.drop (k + 1)) 39 < 0) ∨ (0 ≤ Lib.indexByte (s.drop e) 39 ∧ Lib.indexByte (s.drop (k + 1)) 39 = Lib.indexByte (s.drop e) 39 + ((e : Int) - (k + 1)))) ∧ f 0 = .str s ∧ f 5 = .int .i64 k ∧ f 6 = .int .i64 e ∧ Acc0 62 3 σ (f 4) (tkEls l) ∧ σ' = σ) (s.length - (k + 1)) ?_ ?_
    ·exact ⟨k + 1, rfl, Nat.le_refl _, by omega, by omega, u0, u5, u6, u4, rfl⟩
    rintro x' f1 σ' ⟨e, hx', he1, he2, hidx, w0, w5, w6, w4, rfl⟩
    by_cases he : e < s.length
    ·obtain ⟨d, hcd⟩ : ∃ d, s[e]? = some d := ⟨_, List.getElem?_eq_getElem he⟩
     have hdd := drop_cons hcd
     obtain ⟨_, hcd2⟩ := List.getElem?_eq_some_iff.1 hcd
     have hwe : IntKind.i64.wrap ((e : Int) + 1) = (e : Int) + 1 := wrap_i64 (by omega) (by omega)
     have hge : ¬ s.length ≤ e := by omega
     have hge' : ¬ (s.length : Int) ≤ (e : Int) := by omega
     rw [hdd, Lib.indexByte] at hidx
     by_cases hdc : d = 39
     ·have hb : (d == 39) = true := by simpa using hdc
      rw [if_pos hb] at hidx
      have hI : Lib.indexByte (s.drop (k + 1)) 39 = (e : Int) - (k + 1) := by omega
      have hneg : ¬ Lib.indexByte (s.drop (k + 1)) 39 < 0 := by omega
      rw [if_neg hneg] at hnx
      have hT : (Lib.indexByte (s.drop (k + 1)) 39).toNat = e - (k + 1) := by omega
      rw [hT] at hnx
      subst hdc
      have q1 : (0 : Int) ≤ (k : Int) + 1 := by omega
      have q2 : (k : Int) + 1 ≤ (e : Int) := by omega
      have q5 : k + 1 ≤ e := he1
      simp [w0, w5, w6, he, hge, hge', hcd, hcd2, hc, hc2, hwk, hwe, q1, q2, q5, he2, List.drop_take]
      refine ap_acc00 w4 _ (by omega) rfl (by omega) (by omega) ?_
      intro v' σ'' hacc'
      simp [w5, w6, hwe]
      refine nx_intro (s.length - (e + 1)) (by omega) ⟨e + 1, n, l ++ [⟨3, (s.drop (k + 1)).take (e - (k + 1)), k⟩], rfl, by omega, by omega, by simp; omega, ?_, by simp [w0], by simp, by simpa [tkEls] using hacc'⟩
      have := hsome _ hne32 hnx
      rw [this]
      have ee : k + (e - (k + 1) + 2) = e + 1 := by omega
      simp only [ee]
     ·have hb : (d == 39) = false := by simpa using hdc
      have hge1 := Lib.indexByte_ge (s.drop (e + 1)) 39
      have hdc' : ¬ ((d.toNat : Int) = 39) := ne_nat (z := 39) rfl hdc
      simp only [hb, Bool.false_eq_true, if_false, beq_iff_eq] at hidx
      simp [w0, w5, w6, he, hcd, hcd2, hc, hc2, hwe, hdc']
      refine nx_intro (s.length - (e + 1)) (by omega) ⟨e + 1, rfl, by omega, by omega, ?_, by simp [w0], by simp [w5], by simp, by simpa using w4, rfl⟩
      by_cases hm1 : Lib.indexByte (s.drop (e + 1)) 39 = -1
      ·rw [if_pos hm1] at hidx
       left; omega
      ·rw [if_neg hm1] at hidx
       right; omega
    ·rw [List.drop_of_length_le (by omega), Lib.indexByte] at hidx
     have hneg : Lib.indexByte (s.drop (k + 1)) 39 < 0 := by omega
     rw [if_pos hneg] at hnx
     have hsp := hnone hne32 hnx
     have hge : s.length ≤ e := by omega
     simp [w0, w5, w6, he, hge, hsp, splitAV]
   ·subst h34
    have hne32 : ¬ ((34 : UInt8) = 32) := by decide
    simp [hk, h0, h5, hc, hc2, hwk]
    refine lp_gen (fun f' => f' 0 = .str s ∧ f' 5 = .int .i64 k ∧ f' 6 = .int .i64 (k + 1 : Nat) ∧ Acc0 62 3 σ (f' 4) (tkEls l)) ⟨by simp [h0], by simp [h5], by simp, by simpa using hacc⟩ ?_
    rintro f0 ⟨u0, u5, u6, u4⟩
    refine lp_startx (fun x f σ' => ∃ (e : Nat), x = s.length - e ∧ k + 1 ≤ e ∧ e ≤ s.length ∧ ((Lib.indexByte (s.drop e) 34 < 0 ∧ Lib.indexByte (s.drop (k + 1)) 34 < 0) ∨ (0 ≤ Lib.indexByte (s.drop e) 34 ∧ Lib.indexByte (s.drop (k + 1)) 34 = Lib.indexByte (s.drop e) 34 + ((e : Int) - (k + 1)))) ∧ f 0 = .str s ∧ f 5 = .int .i64 k ∧ f 6 = .int .i64 e ∧ Acc0 62 3 σ (f 4) (tkEls l) ∧ σ' = σ) (s.length - (k + 1)) ?_ ?_
    ·exact ⟨k + 1, rfl, Nat.le_refl _, by omega, by omega, u0, u5, u6, u4, rfl⟩
    rintro x' f1 σ' ⟨e, hx', he1, he2, hidx, w0, w5, w6, w4, rfl⟩
    by_cases he : e < s.length
    ·obtain ⟨d, hcd⟩ : ∃ d, s[e]? = some d := ⟨_, List.getElem?_eq_getElem he⟩
     have hdd := drop_cons hcd
     obtain ⟨_, hcd2⟩ := List.getElem?_eq_some_iff.1 hcd
     have hwe : IntKind.i64.wrap ((e : Int) + 1) = (e : Int) + 1 := wrap_i64 (by omega) (by omega)
     have hge : ¬ s.length ≤ e := by omega
     have hge' : ¬ (s.length : Int) ≤ (e : Int) := by omega
     rw [hdd, Lib.indexByte] at hidx
     by_cases hdc : d = 34
     ·have hb : (d == 34) = true := by simpa using hdc
      rw [if_pos hb] at hidx
      have hI : Lib.indexByte (s.drop (k + 1)) 34 = (e : Int) - (k + 1) := by omega
      have hneg : ¬ Lib.indexByte (s.drop (k + 1)) 34 < 0 := by omega
      rw [if_neg hneg] at hnx
      have hT : (Lib.indexByte (s.drop (k + 1)) 34).toNat = e - (k + 1) := by omega
      rw [hT] at hnx
      subst hdc
      have q1 : (0 : Int) ≤ (k : Int) + 1 := by omega
      have q2 : (k : Int) + 1 ≤ (e : Int) := by omega
      have q5 : k + 1 ≤ e := he1
      simp [w0, w5, w6, he, hge, hge', hcd, hcd2, hc, hc2, hwk, hwe, q1, q2, q5, he2, List.drop_take]
      refine ap_acc00 w4 _ (by omega) rfl (by omega) (by omega) ?_
      intro v' σ'' hacc'
      simp [w5, w6, hwe]
      refine nx_intro (s.length - (e + 1)) (by omega) ⟨e + 1, n, l ++ [⟨3, (s.drop (k + 1)).take (e - (k + 1)), k⟩], rfl, by omega, by omega, by simp; omega, ?_, by simp [w0], by simp, by simpa [tkEls] using hacc'⟩
      have := hsome _ hne32 hnx
      rw [this]
      have ee : k + (e - (k + 1) + 2) = e + 1 := by omega
      simp only [ee]
     ·have hb : (d == 34) = false := by simpa using hdc
      have hge1 := Lib.indexByte_ge (s.drop (e + 1)) 34
      have hdc' : ¬ ((d.toNat : Int) = 34) := ne_nat (z := 34) rfl hdc
      simp only [hb, Bool.false_eq_true, if_false, beq_iff_eq] at hidx
      simp [w0, w5, w6, he, hcd, hcd2, hc, hc2, hwe, hdc']
      refine nx_intro (s.length - (e + 1)) (by omega) ⟨e + 1, rfl, by omega, by omega, ?_, by simp [w0], by simp [w5], by simp, by simpa using w4, rfl⟩
      by_cases hm1 : Lib.indexByte (s.drop (e + 1)) 34 = -1
      ·rw [if_pos hm1] at hidx
       left; omega
      ·rw [if_neg hm1] at hidx
       right; omega
    ·rw [List.drop_of_length_le (by omega), Lib.indexByte] at hidx
     have hneg : Lib.indexByte (s.drop (k + 1)) 34 < 0 := by omega
     rw [if_pos hneg] at hnx
     have hsp := hnone hne32 hnx
     have hge : s.length ≤ e := by omega
     simp [w0, w5, w6, he, hge, hsp, splitAV]
  ·have h39' := ne_nat (c := c) (n := 39) (z := 39) rfl (fun h => hqq (.inl h))
   have h34' := ne_nat (c := c) (n := 34) (z := 34) rfl (fun h => hqq (.inr h))
   simp [hk, h0, h5, hc, hc2, hwk, h32', h40', h41', h44', h39', h34']
   refine ac_same (refRow_ok s k (s.length - k) (by omega) h3 (Nat.le_refl _)) (by simp) ?_
   rintro r rfl
   have hlen : (s.drop (k + 1)).length + 1 = s.length - k := by rw [List.length_drop]; omega
   have hnx : nextT (s.drop k) = match rowF (s.length - k) (s.drop k) with
    | none => none
    | some 0 => none
    | some (j + 1) => some (if isNum ((s.drop k).take (j + 1)) then 2 else 1, (s.drop k).take (j + 1), j + 1) := by
    rw [hd, nextT, if_neg h40, if_neg h41, if_neg h44, if_neg hqq, hlen]
    cases rowF (s.length - k) (c :: s.drop (k + 1)) with
    | none => rfl
    | some m => cases m <;> rfl
   cases hrw : rowF (s.length - k) (s.drop k) with
   | none =>
    rw [hrw] at hnx
    have hsp := hnone h32 hnx
    have hneg : (-1 : Int) ≤ (k : Int) := by omega
    simp [h5, hneg, hsp, splitAV]
   | some m =>
    have hml := rowF_le _ _ _ hrw
    rw [List.length_drop] at hml
    rw [hrw] at hnx
    cases m with
    | zero =>
     have hsp := hnone h32 hnx
     simp [h5, hsp, splitAV]
    | succ j =>
     have hgt : ¬ (k : Int) + ((j : Int) + 1) ≤ (k : Int) := by omega
     have hgt2 : ¬ (k : Int) + (j : Int) + 1 ≤ (k : Int) := by omega
     have q1 : (0 : Int) ≤ (k : Int) + ((j : Int) + 1) := by omega
     have q2 : (k : Int) ≤ (k : Int) + ((j : Int) + 1) := by omega
     have q3 : ((k : Int) + ((j : Int) + 1)).toNat = k + (j + 1) := by omega
     have q4 : k + (j + 1) ≤ s.length := by omega
     have e1 : ((s.take (k + (j + 1))).drop k) = (s.drop k).take (j + 1) := by rw [List.drop_take]; congr 1; omega
     simp [h0, h5, hgt, hgt2, q1, q2, q3, q4, e1]
     refine ac_same (rParse_ok ((s.drop k).take (j + 1)) (by simp; omega)) (by simp) ?_
     rintro r rfl
     cases hp : Dec.parse ((s.drop k).take (j + 1)) with
     | ok z =>
      have hin : isNum ((s.drop k).take (j + 1)) = true := by simp [isNum, hp]
      have hnx2 : nextT (s.drop k) = some (2, (s.drop k).take (j + 1), j + 1) := by rw [hnx]; simp [hin]
      simp [numAV, h5]
      refine ap_acc0 _ hacc _ (by omega) rfl (by omega) (by omega) ?_
      intro v' σ' hacc'
      simp [h5]
      refine nx_intro (s.length - (k + (j + 1))) (by omega) ⟨k + (j + 1), n, l ++ [⟨2, (s.drop k).take (j + 1), k⟩], rfl, by omega, by omega, by simp; omega, hsome _ h32 hnx2, by simp [h0], by simp, by simpa [tkEls] using hacc'⟩
     | error e =>
      have he : ¬ e = 0 := Dec.parse_err hp
      have hin : isNum ((s.drop k).take (j + 1)) = false := by simp [isNum, hp]
      have hnx2 : nextT (s.drop k) = some (1, (s.drop k).take (j + 1), j + 1) := by rw [hnx]; simp [hin]
      simp [numAV, h5, he]
      refine ap_acc0 _ hacc _ (by omega) rfl (by omega) (by omega) ?_
      intro v' σ' hacc'
      simp [h5]
      refine nx_intro (s.length - (k + (j + 1))) (by omega) ⟨k + (j + 1), n, l ++ [⟨1, (s.drop k).take (j + 1), k⟩], rfl, by omega, by omega, by simp; omega, hsome _ h32 hnx2, by simp [h0], by simp, by simpa [tkEls] using hacc'⟩
 ·have hsp : Tok.split s = if 256 < l.length then .error 11 else .ok l := by
   have h0 : splitF s.length 0 s = some l := by
    rw [hspl, List.drop_of_length_le (by omega)]
    cases n <;> simp [splitF]
   simp [Tok.split, h1k, h0]
  rw [hsp]
  rcases hacc with ⟨h1, h4⟩ | ⟨h1, rid, h4, he⟩
  ·have hl0 : l = [] := by simpa [tkEls] using h1
   subst hl0
   simp [hk, h0, h5, h4, splitAV, view, tkEls]
  ·by_cases h256 : 256 < l.length
   ·have h256' : (256 : Int) < (l.length : Int) := by omega
    simp [hk, h0, h5, h4, view, he, htl, h256, h256', splitAV]
   ·have h256' : ¬ (256 : Int) < (l.length : Int) := by omega
    simp [hk, h0, h5, h4, view, he, htl, h256, h256', splitAV]
end Go.Proofs.YtalfhchbmhoagaaGreatDoor
namespace Go.Tok
end Go.Tok
namespace Go.Proofs.YtalfhchbmhoagaaGreatDoor
open Go.Abs Go.Glob Go.Tok
variable {G : Globs}
end Go.Proofs.YtalfhchbmhoagaaGreatDoor
end
section
set_option maxHeartbeats 4000000
set_option maxRecDepth 20000
namespace Go.Proofs.YtalfhchbmhoagaaGreatDoor
open Go.Abs Go.Tgt Go.Trail
variable {G : Globs}
end Go.Proofs.YtalfhchbmhoagaaGreatDoor
end
section
set_option maxHeartbeats 4000000
namespace Go.Proofs.YtalfhchbmhoagaaGreatDoor
open Go.Abs Go.Glob Go.Tok
variable {G : Globs}
theorem has1_ok (s : List UInt8) (c : UInt8) : PCalls Tryz.prog 156 [.str s, .str [c]] (fun r => r = .bool (decide (c ∈ s))) :=
 pcalls2 fun base κ Im w v u hs h1 h2 => by
  cases h1.str_inv; cases h2.str_inv
  refine (Tryz.strings_Contains_one ⟨s.toArray⟩ c w).mono ?_
  rintro e w' ⟨rfl, rfl⟩
  refine ⟨_, _, rfl, rfl, Go.RowKit.Below.refl _ _, fun Im' => ?_⟩
  have e : (decide (0 ≤ Lib.indexByte (⟨s.toArray⟩ : ByteArray).data.toList c)) = decide (c ∈ s) := decide_eq_decide.2 (by simpa using idx_mem s c)
  rw [e]
  exact .bool _
def quoteOf (s : List UInt8) : List UInt8 := if 39 ∈ s then (if 34 ∈ s then [] else [34]) else [39]
theorem quote_ok (s : List UInt8) : PCalls Tryz.prog n_tokens_quote [.str s] (fun r => r = .str (quoteOf s)) := by
 refine pcalls_of_awp hmix c_tokens_quote rfl ?_
 simp [a_tokens_quote]
 refine lp_startx (fun x f σ => ∃ (i : Nat), x = 2 - i ∧ i ≤ 2 ∧ (1 ≤ i → 39 ∈ s) ∧ (2 ≤ i → 34 ∈ s) ∧ f 0 = .str s ∧ f 5 = .lst [[.str [39]], [.str [34]]] ∧ f 6 = .int .i64 2 ∧ f 7 = .int .i64 i ∧ σ = []) 2 ?_ ?_
 ·exact ⟨0, by simp, by simp, by simp, by simp, by simp, by simp, by simp, by simp, rfl⟩
 rintro x f σ ⟨i, hx, hi, ha, hb, h0, h5, h6, h7, rfl⟩
 match i, hi with
 | 0, _ =>
  simp [h0, h5, h6, h7]
  refine ac_same (has1_ok s 39) (by simp) ?_
  rintro r rfl
  by_cases hq : (39 : UInt8) ∈ s
  ·have hw : IntKind.i64.wrap 1 = 1 := wrap_i64 (by omega) (by omega)
   simp [hq, h7, hw]
   refine nx_intro 1 (by omega) ⟨1, rfl, by omega, fun _ => hq, by omega, by simp [h0], by simp [h5], by simp [h6], by simp, rfl⟩
  ·simp [hq, quoteOf]
 | 1, _ =>
  have h39 := ha (by omega)
  simp [h0, h5, h6, h7]
  refine ac_same (has1_ok s 34) (by simp) ?_
  rintro r rfl
  by_cases hq : (34 : UInt8) ∈ s
  ·have hw : IntKind.i64.wrap 2 = 2 := wrap_i64 (by omega) (by omega)
   simp [hq, h7, hw]
   refine nx_intro 0 (by omega) ⟨2, rfl, by omega, fun _ => h39, fun _ => hq, by simp [h0], by simp [h5], by simp [h6], by simp, rfl⟩
  ·simp [hq, quoteOf, h39]
 | 2, _ =>
  have h39 := ha (by omega)
  have h34 := hb (by omega)
  simp [h0, h5, h6, h7, quoteOf, h39, h34]
def textOf (k : Int) (s : List UInt8) : List UInt8 := if k = 4 then [40] else if k = 5 then [41] else if k = 6 then [44] else if k = 3 then quoteOf s ++ s ++ quoteOf s else s
theorem quote_len (s : List UInt8) : (quoteOf s).length ≤ 1 := by unfold quoteOf; split <;> (try split) <;> simp
theorem ttext_ok (k p : Int) (s : List UInt8) (hs : s.length ≤ 1000000) : PCalls Tryz.prog n_tokens_text [tokA k s p] (fun r => r = .str (textOf k s)) := by
 refine pcalls_of_awp hmix c_tokens_text rfl ?_
 simp [a_tokens_text, tokA]
 by_cases h4 : k = 4
 ·simp [h4, textOf]
 by_cases h5 : k = 5
 ·simp [h5, textOf]
 by_cases h6 : k = 6
 ·simp [h6, textOf]
 by_cases h3 : k = 3
 ·subst h3
  simp
  refine ac_same (quote_ok s) (by simp) ?_
  rintro r rfl
  have hq := quote_len s
  have q1 : (quoteOf s).length + s.length ≤ 9223372036854775807 := by omega
  have q2 : (quoteOf s).length + s.length + (quoteOf s).length ≤ 9223372036854775807 := by omega
  have q3 : (quoteOf s).length + (s.length + (quoteOf s).length) ≤ 9223372036854775807 := by omega
  simp [q1, q2, q3, textOf]
 ·simp [h4, h5, h6, h3, textOf]
end Go.Proofs.YtalfhchbmhoagaaGreatDoor
end
section
namespace Go.Tok
open Go.Glob
def StopB (rest : List UInt8) : Prop := rest = [] ∨ ∃ c r, rest = c :: r ∧ (c = 32 ∨ c = 40 ∨ c = 41 ∨ c = 44)
theorem stopB_blank (r : List UInt8) : StopB (32 :: r) := .inr ⟨32, r, rfl, .inl rfl⟩
theorem clsN_take : ∀ (s : List UInt8) (k : Nat) (y : List UInt8), clsN s = some k → clsN (s.take k ++ y) = some k
 | [], k, y, h => by simp [clsN] at h
 | c :: r, k, y, h => by
  unfold clsN at h
  split at h
  ·cases h
  ·rename_i hs
   split at h
   ·rename_i h93
    cases h
    simp only [List.take_succ_cons, List.take_zero, List.cons_append, List.nil_append]
    rw [clsN, if_neg hs, if_pos h93]
   ·rename_i h93
    cases hr : clsN r with
    | none => rw [hr] at h; cases h
    | some j =>
     rw [hr] at h; cases h
     have := clsN_take r j y hr
     show clsN ((c :: r).take (j + 1) ++ y) = some (j + 1)
     simp only [List.take_succ_cons, List.cons_append]
     rw [clsN, if_neg hs, if_neg h93, this]
     rfl
theorem brcN_take : ∀ (s : List UInt8) (d k : Nat) (y : List UInt8), brcN d s = some k → brcN d (s.take k ++ y) = some k
 | [], d, k, y, h => by simp [brcN] at h
 | c :: r, d, k, y, h => by
  unfold brcN at h
  split at h
  ·cases h
  ·rename_i hs
   split at h
   ·rename_i h0
    cases h
    simp only [List.take_succ_cons, List.take_zero, List.cons_append, List.nil_append]
    rw [brcN, if_neg hs, if_pos h0]
   ·rename_i h0
    cases hr : brcN (deeper d c) r with
    | none => rw [hr] at h; cases h
    | some j =>
     rw [hr] at h; cases h
     have := brcN_take r _ j y hr
     show brcN d ((c :: r).take (j + 1) ++ y) = some (j + 1)
     simp only [List.take_succ_cons, List.cons_append]
     rw [brcN, if_neg hs, if_neg h0, this]
     rfl
theorem rowF_stop {m : Nat} {rest : List UInt8} (h : StopB rest) : rowF m rest = some 0 := by
 rcases h with rfl | ⟨c, r, rfl, hc⟩
 ·cases m <;> rfl
 ·cases m with
  | zero => rfl
  | succ m => rcases hc with rfl | rfl | rfl | rfl <;> rw [rowF, if_neg (by decide), if_neg (by decide), if_neg (by decide)]
theorem take_add_drop {s : List UInt8} {a j : Nat} : s.take (j + a) = s.take a ++ (s.drop a).take j := by
 rw [Nat.add_comm, List.take_add]
theorem rowF_take : ∀ (n : Nat) (s : List UInt8) (k m : Nat) (rest : List UInt8), rowF n s = some k → s.length ≤ n → k ≤ m → StopB rest → rowF m (s.take k ++ rest) = some k
 | 0, s, k, m, rest, h, hn, _, hr => by
  simp [rowF] at h; subst h; simpa using rowF_stop hr
 | n + 1, [], k, m, rest, h, hn, hm, hr => by
  simp [rowF] at h; subst h; simpa using rowF_stop hr
 | n + 1, c :: r, k, 0, rest, h, hn, hm, hr => by
  have : k = 0 := by omega
  subst this; rfl
 | n + 1, c :: r, k, m + 1, rest, h, hn, hm, hr => by
  simp only [List.length_cons] at hn
  unfold rowF at h
  split at h
  ·rename_i hw
   cases hj : rowF n r with
   | none => rw [hj] at h; cases h
   | some j =>
    rw [hj] at h
    simp only [Option.map_some, Option.some.injEq] at h; subst h
    have := rowF_take n r j m rest hj (by omega) (by omega) hr
    show rowF (m + 1) ((c :: r).take (j + 1) ++ rest) = some (j + 1)
    simp only [List.take_succ_cons, List.cons_append]
    rw [rowF, if_pos hw, this]; rfl
  ·rename_i hw
   split at h
   ·rename_i h91
    cases hc : clsN (c :: r) with
    | none => rw [hc] at h; cases h
    | some a =>
     rw [hc] at h
     simp only [Option.bind_some] at h
     cases hj : rowF n ((c :: r).drop a) with
     | none => rw [hj] at h; cases h
     | some j =>
      rw [hj] at h
      simp only [Option.map_some, Option.some.injEq] at h; subst h
      have ha := clsN_le _ _ hc
      have hk := rowF_take n _ j m rest hj (by rw [List.length_drop, List.length_cons]; omega) (by omega) hr
      show rowF (m + 1) ((c :: r).take (j + a) ++ rest) = some (j + a)
      have hcl := clsN_take _ _ (((c :: r).drop a).take j ++ rest) hc
      rw [take_add_drop, List.append_assoc]
      have hlen : ((c :: r).take a).length = a := by rw [List.length_take]; omega
      obtain ⟨x, hx⟩ : ∃ x, (c :: r).take a = c :: x := by
       obtain ⟨a, rfl⟩ : ∃ b, a = b + 1 := ⟨a - 1, by omega⟩
       exact ⟨r.take a, rfl⟩
      have hdr : ((c :: r).take a ++ (((c :: r).drop a).take j ++ rest)).drop a = ((c :: r).drop a).take j ++ rest := by
       rw [List.drop_append_of_le_length (by omega), List.drop_of_length_le (by omega), List.nil_append]
      generalize ((c :: r).drop a).take j ++ rest = y at hcl hdr hk ⊢
      rw [hx] at hcl hdr ⊢
      rw [List.cons_append] at hcl hdr ⊢
      rw [rowF, if_neg hw, if_pos h91, hcl]
      simp only [Option.bind_some]
      rw [hdr, hk]; rfl
   ·rename_i h91
    split at h
    ·rename_i h123
     cases hc : brcN 0 (c :: r) with
     | none => rw [hc] at h; cases h
     | some a =>
      rw [hc] at h
      simp only [Option.bind_some] at h
      cases hj : rowF n ((c :: r).drop a) with
      | none => rw [hj] at h; cases h
      | some j =>
       rw [hj] at h
       simp only [Option.map_some, Option.some.injEq] at h; subst h
       have ha := brcN_le _ _ _ hc
       have hk := rowF_take n _ j m rest hj (by rw [List.length_drop, List.length_cons]; omega) (by omega) hr
       show rowF (m + 1) ((c :: r).take (j + a) ++ rest) = some (j + a)
       have hcl := brcN_take _ _ _ (((c :: r).drop a).take j ++ rest) hc
       rw [take_add_drop, List.append_assoc]
       have hlen : ((c :: r).take a).length = a := by rw [List.length_take]; omega
       obtain ⟨x, hx⟩ : ∃ x, (c :: r).take a = c :: x := by
        obtain ⟨a, rfl⟩ : ∃ b, a = b + 1 := ⟨a - 1, by omega⟩
        exact ⟨r.take a, rfl⟩
       have hdr : ((c :: r).take a ++ (((c :: r).drop a).take j ++ rest)).drop a = ((c :: r).drop a).take j ++ rest := by
        rw [List.drop_append_of_le_length (by omega), List.drop_of_length_le (by omega), List.nil_append]
       generalize ((c :: r).drop a).take j ++ rest = y at hcl hdr hk ⊢
       rw [hx] at hcl hdr ⊢
       rw [List.cons_append] at hcl hdr ⊢
       rw [rowF, if_neg hw, if_neg h91, if_pos h123, hcl]
       simp only [Option.bind_some]
       rw [hdr, hk]; rfl
    ·cases h
     simpa using rowF_stop hr
theorem idx_app_some : ∀ (l m : List UInt8) (c : UInt8), 0 ≤ Lib.indexByte l c → Lib.indexByte (l.take ((Lib.indexByte l c).toNat + 1) ++ m) c = Lib.indexByte l c
 | [], m, c, h => by simp [Lib.indexByte] at h
 | b :: l, m, c, h => by
  have hge := Lib.indexByte_ge l c
  by_cases hb : b = c
  ·subst hb; simp [Lib.indexByte]
  ·have hb' : (b == c) = false := by simpa using hb
   have e1 : Lib.indexByte (b :: l) c = if Lib.indexByte l c = -1 then -1 else Lib.indexByte l c + 1 := by
    rw [Lib.indexByte]; simp [hb']
   rw [e1] at h ⊢
   by_cases h1 : Lib.indexByte l c = -1
   ·rw [if_pos h1] at h; omega
   ·rw [if_neg h1] at h ⊢
    have ih := idx_app_some l m c (by omega)
    have e2 : (Lib.indexByte l c + 1).toNat + 1 = ((Lib.indexByte l c).toNat + 1) + 1 := by omega
    rw [e2, List.take_succ_cons, List.cons_append, Lib.indexByte]
    simp only [hb', Bool.false_eq_true, if_false, ih]
    have h1' : (Lib.indexByte l c == -1) = false := by simpa using h1
    simp [h1']
theorem nextT_take {s : List UInt8} {k : Int} {t : List UInt8} {n : Nat} (h : nextT s = some (k, t, n)) {rest : List UInt8} (hr : StopB rest) : nextT (s.take n ++ rest) = some (k, t, n) := by
 cases s with
 | nil => simp [nextT] at h
 | cons c r =>
  rw [nextT] at h
  by_cases h1 : c = 40
  ·rw [if_pos h1] at h; cases h; simp [nextT, h1]
  rw [if_neg h1] at h
  by_cases h2 : c = 41
  ·rw [if_pos h2] at h; cases h; simp [nextT, h2]
  rw [if_neg h2] at h
  by_cases h3 : c = 44
  ·rw [if_pos h3] at h; cases h; simp [nextT, h3]
  rw [if_neg h3] at h
  by_cases h4 : c = 39 ∨ c = 34
  ·rw [if_pos h4] at h
   by_cases hneg : Lib.indexByte r c < 0
   ·rw [if_pos hneg] at h; cases h
   ·rw [if_neg hneg] at h
    cases h
    have hi := idx_app_some r rest c (by omega)
    have hlt : (Lib.indexByte r c).toNat < r.length := by
     have hi : Lib.indexByte r c = ((Lib.indexByte r c).toNat : Int) := by omega
     exact (List.getElem?_eq_some_iff.1 (Lib.indexByte_some hi).1).1
    rw [show (Lib.indexByte r c).toNat + 2 = ((Lib.indexByte r c).toNat + 1) + 1 by omega, List.take_succ_cons, List.cons_append, nextT, if_neg h1, if_neg h2, if_neg h3, if_pos h4, hi, if_neg hneg]
    congr 3
    rw [List.take_append_of_le_length (by rw [List.length_take]; omega), List.take_take]
    congr 1; omega
  ·rw [if_neg h4] at h
   cases hrow : rowF (r.length + 1) (c :: r) with
   | none => rw [hrow] at h; cases h
   | some m =>
    rw [hrow] at h
    have hm := rowF_le _ _ _ hrow
    cases m with
    | zero => cases h
    | succ j =>
     cases h
     have hx : rowF (((r.take j) ++ rest).length + 1) ((c :: r).take (j + 1) ++ rest) = some (j + 1) := by
      refine rowF_take _ _ _ _ _ hrow (by simp) ?_ hr
      simp only [List.length_cons] at hm
      rw [List.length_append, List.length_take]; omega
     rw [List.take_succ_cons, List.cons_append] at hx ⊢
     rw [nextT, if_neg h1, if_neg h2, if_neg h3, if_neg h4, hx]
     have e : (c :: (r.take j ++ rest)).take (j + 1) = (c :: r).take (j + 1) := by
      simp only [List.length_cons] at hm
      rw [List.take_succ_cons, List.take_append_of_le_length (by rw [List.length_take]; omega), List.take_take, Nat.min_self, List.take_succ_cons]
     simp only [e, List.take_succ_cons]
theorem nextT_head {c : UInt8} {r : List UInt8} {x : Int × List UInt8 × Nat} (h : nextT (c :: r) = some x) : c ≠ 32 := by
 intro hc
 subst hc
 have : rowF (r.length + 1) (32 :: r) = some 0 := rowF_stop (stopB_blank r)
 rw [nextT, if_neg (by decide), if_neg (by decide), if_neg (by decide), if_neg (by decide), this] at h
 cases h
theorem nextT_text {s : List UInt8} {k : Int} {t : List UInt8} {n : Nat} (h : nextT s = some (k, t, n)) : t.length ≤ n ∧ (k = 1 ∨ k = 2 → s.take n = t) := by
 have hle := nextT_le h
 simp only at hle
 cases s with
 | nil => simp [nextT] at h
 | cons c r =>
  rw [nextT] at h
  by_cases h1 : c = 40
  ·rw [if_pos h1] at h; cases h; simp
  rw [if_neg h1] at h
  by_cases h2 : c = 41
  ·rw [if_pos h2] at h; cases h; simp
  rw [if_neg h2] at h
  by_cases h3 : c = 44
  ·rw [if_pos h3] at h; cases h; simp
  rw [if_neg h3] at h
  by_cases h4 : c = 39 ∨ c = 34
  ·rw [if_pos h4] at h
   by_cases hneg : Lib.indexByte r c < 0
   ·rw [if_pos hneg] at h; cases h
   ·rw [if_neg hneg] at h
    cases h
    refine ⟨by rw [List.length_take]; omega, fun h => by omega⟩
  ·rw [if_neg h4] at h
   cases hrow : rowF (r.length + 1) (c :: r) with
   | none => rw [hrow] at h; cases h
   | some m =>
    rw [hrow] at h
    have hm := rowF_le _ _ _ hrow
    cases m with
    | zero => cases h
    | succ j =>
     simp only [Option.some.injEq, Prod.mk.injEq] at h
     obtain ⟨_, rfl, rfl⟩ := h
     exact ⟨by rw [List.length_take]; omega, fun _ => rfl⟩
theorem splitF_bound : ∀ (n a : Nat) (s : List UInt8) (l : List Tk), splitF n a s = some l → ∀ x ∈ l, a ≤ x.place ∧ x.place + x.text.length ≤ a + s.length
 | n, a, [], l, h, x, hx => by
  have : l = [] := by cases n <;> simp [splitF] at h <;> exact h
  subst this; cases hx
 | 0, a, c :: r, l, h, x, hx => by simp [splitF] at h; subst h; cases hx
 | n + 1, a, c :: r, l, h, x, hx => by
  rw [splitF] at h
  split at h
  ·have := splitF_bound n _ r l h x hx
   simp only [List.length_cons]; omega
  ·cases hy : nextT (c :: r) with
   | none => rw [hy] at h; cases h
   | some y =>
    rw [hy] at h
    simp only [Option.bind_some] at h
    cases hz : splitF n (a + y.2.2) ((c :: r).drop y.2.2) with
    | none => rw [hz] at h; cases h
    | some z =>
     rw [hz] at h; cases h
     have hle := nextT_le hy
     have ht := (nextT_text (k := y.1) (t := y.2.1) (n := y.2.2) hy).1
     rcases List.mem_cons.1 hx with rfl | hx
     ·simp only; omega
     ·have := splitF_bound n _ _ z hz x hx
      rw [List.length_drop] at this
      omega
def kt (x : Tk) : Int × List UInt8 := (x.kind, x.text)
def SPl (s : List UInt8) (o : List (Int × List UInt8)) : Prop := ∀ n b, s.length ≤ n → ∃ l, splitF n b s = some l ∧ l.map kt = o
theorem spl_nil : SPl [] [] := fun n b _ => ⟨[], by cases n <;> rfl, rfl⟩
theorem spl_tok {r s o} {k : Int} {t : List UInt8} (hx : nextT (r ++ s) = some (k, t, r.length)) (h : SPl s o) : SPl (r ++ s) ((k, t) :: o) := fun n b hn => by
 have hle := nextT_le hx
 have hd : (r ++ s).drop r.length = s := by simp
 cases hq : r ++ s with
 | nil => rw [hq] at hx; simp [nextT] at hx
 | cons c q =>
  rw [hq] at hx hd hn
  obtain ⟨n, rfl⟩ : ∃ m, n = m + 1 := ⟨n - 1, by simp at hn; omega⟩
  have hln : (r ++ s).length = r.length + s.length := by simp
  rw [hq] at hln
  obtain ⟨l, hl1, hl2⟩ := h n (b + r.length) (by simp only at hle; omega)
  rw [splitF, if_neg (nextT_head hx), hx]
  simp only [Option.bind_some]
  rw [hd, hl1]
  exact ⟨_, rfl, by simp [kt, hl2]⟩
theorem spl_split {s o} (h : SPl s o) : (1024 < s.length ∧ split s = .error 12) ∨ (¬ 1024 < s.length ∧ 256 < o.length ∧ split s = .error 11) ∨ (¬ 1024 < s.length ∧ ¬ 256 < o.length ∧ ∃ l, split s = .ok l ∧ l.map kt = o) := by
 obtain ⟨l, h1, h2⟩ := h s.length 0 (Nat.le_refl _)
 have hl : l.length = o.length := by rw [← h2]; simp
 unfold split
 rw [h1]
 by_cases h3 : 1024 < s.length
 ·simp [h3]
 ·by_cases h4 : 256 < l.length
  ·simp [h3, h4, ← hl]
  ·simp only [h3, h4, if_false, ← hl]
   exact .inr (.inr ⟨fun h => h, fun h => h, l, rfl, h2⟩)
def nx (T : List UInt8) : List Tk → Nat
 | [] => T.length
 | y :: _ => y.place
end Go.Tok
namespace Go.Proofs.YtalfhchbmhoagaaGreatDoor
open Go.Abs Go.Glob Go.Tok
def isOne (k : Int) (t : List UInt8) : Except Nat (List Tk) → Bool
 | .ok [x] => decide (x.kind = k) && decide (x.text = t)
 | _ => false
def rightB (k p : Int) (t : List UInt8) : Bool :=
 decide (0 ≤ p) && (if k = 4 ∨ k = 5 ∨ k = 6 then decide (t = []) else if k = 3 then decide (t.length ≤ 1022) && !(decide ((39 : UInt8) ∈ t) && decide ((34 : UInt8) ∈ t))
  else if k = 1 ∨ k = 2 then isOne k t (Tok.split t) else false)
theorem split_one {t : List UInt8} {x : Tk} (h : Tok.split t = .ok [x]) (ht : x.text = t) : x.place = 0 ∧ (x.kind = 1 ∨ x.kind = 2 → nextT t = some (x.kind, t, t.length)) := by
 unfold Tok.split at h
 split at h
 ·cases h
 cases hs : splitF t.length 0 t with
 | none => rw [hs] at h; cases h
 | some l =>
  rw [hs] at h
  simp only at h
  split at h
  ·cases h
  cases h
  have hb := splitF_bound _ _ _ _ hs x (by simp)
  rw [ht] at hb
  refine ⟨by omega, fun hk => ?_⟩
  cases t with
  | nil => simp [splitF] at hs
  | cons c r =>
   rw [List.length_cons, splitF] at hs
   split at hs
   ·have := splitF_bound _ _ _ _ hs x (by simp)
    rw [ht] at this
    simp at this; omega
   ·cases hy : nextT (c :: r) with
    | none => rw [hy] at hs; cases hs
    | some y =>
     rw [hy] at hs
     simp only [Option.bind_some] at hs
     cases hz : splitF r.length (0 + y.2.2) ((c :: r).drop y.2.2) with
     | none => rw [hz] at hs; cases hs
     | some z =>
      rw [hz] at hs; cases hs
      simp only at ht hk ⊢
      have hle := nextT_le hy
      have := nextT_text (k := y.1) (t := y.2.1) (n := y.2.2) hy
      have h2 := this.2 hk
      rw [ht] at h2
      have e : y.2.2 = (c :: r).length := by
       have := congrArg List.length h2
       rw [List.length_take] at this
       omega
      exact congrArg some (Prod.ext rfl (Prod.ext ht e))
theorem right_next {k p : Int} {t : List UInt8} (h : rightB k p t = true) {rest : List UInt8} (hr : StopB rest) : nextT (textOf k t ++ rest) = some (k, t, (textOf k t).length) := by
 unfold rightB at h
 rw [Bool.and_eq_true] at h
 obtain ⟨_, h⟩ := h
 by_cases h4 : k = 4 ∨ k = 5 ∨ k = 6
 ·rw [if_pos h4] at h
  have ht : t = [] := by simpa using h
  subst ht
  rcases h4 with rfl | rfl | rfl <;> simp [textOf, nextT]
 rw [if_neg h4] at h
 by_cases h3 : k = 3
 ·subst h3
  simp only [if_true, Bool.and_eq_true, decide_eq_true_eq, Bool.not_eq_true', Bool.and_eq_false_iff, decide_eq_false_iff_not] at h
  have hq : ∃ q : UInt8, quoteOf t = [q] ∧ (q = 39 ∨ q = 34) ∧ q ∉ t := by
   unfold quoteOf
   by_cases h39 : (39 : UInt8) ∈ t
   ·have h34 : ¬ (34 : UInt8) ∈ t := by
     rcases h.2 with h | h
     ·exact absurd h39 h
     ·exact h
    exact ⟨34, by simp [h39, h34], .inr rfl, h34⟩
   ·exact ⟨39, by simp [h39], .inl rfl, h39⟩
  obtain ⟨q, hq1, hq2, hq3⟩ := hq
  have e : textOf 3 t = q :: (t ++ [q]) := by simp [textOf, hq1]
  have hidx : ∀ (t m : List UInt8), q ∉ t → Lib.indexByte (t ++ q :: m) q = t.length := by
   intro t m
   induction t with
   | nil => intro _; simp [Lib.indexByte]
   | cons b t ih =>
    intro hb
    simp only [List.mem_cons, not_or] at hb
    have hbq : (b == q) = false := by simpa using fun h => hb.1 h.symm
    rw [List.cons_append, Lib.indexByte, ih hb.2]
    have : ¬ ((t.length : Int) = -1) := by omega
    simp [hbq, this]
  have hI := hidx t rest hq3
  have e2 : (q :: (t ++ [q])) ++ rest = q :: (t ++ q :: rest) := by simp
  have hneg : ¬ Lib.indexByte (t ++ q :: rest) q < 0 := by rw [hI]; omega
  rw [e, e2, nextT, if_neg (by rcases hq2 with rfl | rfl <;> decide), if_neg (by rcases hq2 with rfl | rfl <;> decide), if_neg (by rcases hq2 with rfl | rfl <;> decide), if_pos hq2, if_neg hneg, hI]
  simp
 rw [if_neg h3] at h
 by_cases h1 : k = 1 ∨ k = 2
 ·rw [if_pos h1] at h
  have e : textOf k t = t := by simp only [not_or] at h4; simp [textOf, h3, h4]
  rw [e]
  cases hx : Tok.split t with
  | error e => rw [hx] at h; cases h
  | ok l =>
   rw [hx] at h
   match l with
   | [] => cases h
   | x :: y :: l => cases h
   | [x] =>
    simp only [isOne, Bool.and_eq_true, decide_eq_true_eq] at h
    obtain ⟨h5, h6⟩ := h
    have := (split_one hx h6).2 (by rw [h5]; exact h1)
    rw [h5] at this
    have h7 := nextT_take this hr
    rwa [List.take_of_length_le (Nat.le_refl _)] at h7
 ·rw [if_neg h1] at h; cases h
end Go.Proofs.YtalfhchbmhoagaaGreatDoor
end
section
set_option maxHeartbeats 4000000
namespace Go.Proofs.YtalfhchbmhoagaaGreatDoor
open Go.Abs Go.Glob Go.Tok
variable {G : Globs}
theorem split_lens {s : List UInt8} {l : List Tk} (h : Tok.split s = .ok l) : l.length ≤ 256 ∧ s.length ≤ 1024 ∧ ∀ x ∈ l, x.place ≤ 1024 ∧ x.text.length ≤ 1024 := by
 unfold Tok.split at h
 split at h
 ·cases h
 rename_i h1
 cases hs : splitF s.length 0 s with
 | none => rw [hs] at h; cases h
 | some m =>
  rw [hs] at h
  simp only at h
  split at h
  ·cases h
  rename_i h2
  cases h
  refine ⟨by omega, by omega, fun x hx => ?_⟩
  have := splitF_bound _ _ _ _ hs x hx
  omega
theorem split_err {s : List UInt8} {e : Nat} (h : Tok.split s = .error e) : e ≠ 0 := by
 unfold Tok.split at h
 split at h
 ·cases h; decide
 cases hs : splitF s.length 0 s with
 | none => rw [hs] at h; cases h; decide
 | some m =>
  rw [hs] at h
  simp only at h
  split at h
  ·cases h; decide
  ·cases h
theorem tright_ok [GDec] (k p : Int) (s : List UInt8) (hs : s.length ≤ 9223372036854775807) : PCalls Tryz.prog n_tokens_Right [tokA k s p] (fun r => r = .bool (rightB k p s)) := by
 refine pcalls_of_awp hmix c_tokens_Right rfl ?_
 simp [a_tokens_Right, tokA]
 by_cases h4 : k = 4
 ·subst h4
  by_cases hp : 0 ≤ p
  ·simp [hp, rightB]
  ·simp [hp, rightB]
 by_cases h5 : k = 5
 ·subst h5
  by_cases hp : 0 ≤ p
  ·simp [hp, rightB]
  ·simp [hp, rightB]
 by_cases h6 : k = 6
 ·subst h6
  by_cases hp : 0 ≤ p
  ·simp [hp, rightB]
  ·simp [hp, rightB]
 by_cases h3 : k = 3
 ·subst h3
  by_cases hp : 0 ≤ p
  ·by_cases hl : s.length ≤ 1022
   ·have hl' : (s.length : Int) ≤ 1022 := by omega
    simp [hp, hl, hl']
    refine ac_same (quote_ok s) (by simp) ?_
    rintro r rfl
    by_cases h39 : (39 : UInt8) ∈ s <;> by_cases h34 : (34 : UInt8) ∈ s <;> simp [rightB, quoteOf, hp, hl, h39, h34]
   ·have hl' : ¬ (s.length : Int) ≤ 1022 := by omega
    simp [hp, hl, hl', rightB]
  ·simp [hp, rightB]
 by_cases h12 : k = 1 ∨ k = 2
 ·have hR : rightB k p s = (decide (0 ≤ p) && isOne k s (Tok.split s)) := by
   have h456 : ¬ (k = 4 ∨ k = 5 ∨ k = 6) := by omega
   rw [rightB, if_neg h456, if_neg h3, if_pos h12]
  rw [hR]
  clear hR
  have main : k = 1 ∨ (¬ k = 1 ∧ k = 2) := by omega
  rcases main with h1 | ⟨h1, h2⟩
  ·subst h1
   simp
   refine ac_same (tsplit_ok s hs) (by simp) ?_
   rintro r rfl
   cases hsp : Tok.split s with
   | error e =>
    have he := split_err hsp
    have he' : ¬ ((e : Int) = 0) := by omega
    by_cases hp : 0 ≤ p <;> simp [isOne, splitAV, hp, he, he']
   | ok l =>
    match l with
    | [] => by_cases hp : 0 ≤ p <;> simp [isOne, splitAV, tkEls, hp]
    | [x] =>
     have hpl : x.text = s → x.place = 0 := fun h => (split_one hsp h).1
     by_cases hp : 0 ≤ p
     ·by_cases hk : x.kind = 1
      ·by_cases ht : x.text = s
       ·simp [isOne, splitAV, tkEls, hp, hk, ht, hpl ht]
       ·simp [isOne, splitAV, tkEls, hp, hk, ht]
      ·simp [isOne, splitAV, tkEls, hp, hk]
     ·simp [isOne, splitAV, tkEls, hp]
    | x :: y :: l =>
     have hl : ¬ ((l.length : Int) + 1 + 1 = 1) := by omega
     by_cases hp : 0 ≤ p <;> simp [isOne, splitAV, tkEls, hp, hl]
  ·subst h2
   simp
   refine ac_same (tsplit_ok s hs) (by simp) ?_
   rintro r rfl
   cases hsp : Tok.split s with
   | error e =>
    have he := split_err hsp
    have he' : ¬ ((e : Int) = 0) := by omega
    by_cases hp : 0 ≤ p <;> simp [isOne, splitAV, hp, he, he']
   | ok l =>
    match l with
    | [] => by_cases hp : 0 ≤ p <;> simp [isOne, splitAV, tkEls, hp]
    | [x] =>
     have hpl : x.text = s → x.place = 0 := fun h => (split_one hsp h).1
     by_cases hp : 0 ≤ p
     ·by_cases hk : x.kind = 2
      ·by_cases ht : x.text = s
       ·simp [isOne, splitAV, tkEls, hp, hk, ht, hpl ht]
       ·simp [isOne, splitAV, tkEls, hp, hk, ht]
      ·simp [isOne, splitAV, tkEls, hp, hk]
     ·simp [isOne, splitAV, tkEls, hp]
    | x :: y :: l =>
     have hl : ¬ ((l.length : Int) + 1 + 1 = 1) := by omega
     by_cases hp : 0 ≤ p <;> simp [isOne, splitAV, tkEls, hp, hl]
 ·have h1 : ¬ k = 1 := fun h => h12 (.inl h)
  have h2 : ¬ k = 2 := fun h => h12 (.inr h)
  simp [h4, h5, h6, h3, h1, h2, rightB]
abbrev TkA := Int × List UInt8 × Int
def tkA (l : List TkA) : List (List AV) := l.map fun x => [.int .i64 x.1, .str x.2.1, .int .i64 x.2.2]
def bulk (l : List TkA) : Nat := (l.map fun x => min x.2.1.length 10000).sum
theorem bulk_app (l m : List TkA) : bulk (l ++ m) = bulk l + bulk m := by simp [bulk]
theorem bulk_take (l : List TkA) (i : Nat) : bulk (l.take i) ≤ bulk l := by
 have e := bulk_app (l.take i) (l.drop i)
 rw [List.take_append_drop] at e
 omega
end Go.Proofs.YtalfhchbmhoagaaGreatDoor
end
section
set_option maxHeartbeats 4000000
set_option maxRecDepth 20000
namespace Go.Proofs.YtalfhchbmhoagaaGreatDoor
open Go.Abs Go.Tgt Go.Trail
variable {G : Globs}
theorem rtSame_ok (l : List Nd) (hl : l.length ≤ 1000000) (hin : ∀ n ∈ l, n.args.length ≤ 1000000) : PCalls Tryz.prog n_isobarref23_Same [.lst (ndEls l), .lst (ndEls l)] (fun r => r = .bool true) := by
 refine pcalls_of_awp hmix c_isobarref23_Same rfl ?_
 have hnl := ndEls_len l
 simp [a_isobarref23_Same]
 refine lp_startx (fun x f σ => ∃ j : Nat, x = l.length - j ∧ j ≤ l.length ∧ f 0 = .lst (ndEls l) ∧ f 1 = .lst (ndEls l) ∧ f 5 = .int .i64 j ∧ σ = []) l.length ⟨0, by simp⟩ ?_
 rintro x f σ ⟨j, hx, hj, f0, f1, f5, rfl⟩
 by_cases hlt : j < l.length
 ·obtain ⟨n, hn⟩ : ∃ n, l[j]? = some n := ⟨_, List.getElem?_eq_getElem hlt⟩
  have hge := ndEls_get hn
  obtain ⟨g1, g2⟩ := List.getElem?_eq_some_iff.1 hge
  have hlti : (j : Int) < (l.length : Int) := by omega
  have hw : IntKind.i64.wrap ((j : Int) + 1) = (j : Int) + 1 := wrap_i64 (by omega) (by omega)
  have han := hin n (List.mem_of_getElem? hn)
  have hal := intEls_len n.args
  simp [f0, f1, f5, hlt, hlti, hge, g1, g2, hnl]
  refine lp_startx (fun x f σ => ∃ q : Nat, x = n.args.length - q ∧ q ≤ n.args.length ∧ f 0 = .lst (ndEls l) ∧ f 1 = .lst (ndEls l) ∧ f 5 = .int .i64 j ∧ f 6 = .int .i64 q ∧ σ = []) n.args.length ⟨0, by simp, by simp, by simp [f0], by simp [f1], by simp [f5], by simp, rfl⟩ ?_
  rintro x' f' σ ⟨q, hx', hq, k0, k1, k5, k6, rfl⟩
  by_cases hqa : q < n.args.length
  ·obtain ⟨y, hy⟩ : ∃ y, n.args[q]? = some y := ⟨_, List.getElem?_eq_getElem hqa⟩
   have hie : (intEls n.args)[q]? = some [.int .i64 y] := by simp [intEls, hy]
   obtain ⟨i1, i2⟩ := List.getElem?_eq_some_iff.1 hie
   have hqai : (q : Int) < (n.args.length : Int) := by omega
   have hwq : IntKind.i64.wrap ((q : Int) + 1) = (q : Int) + 1 := wrap_i64 (by omega) (by omega)
   simp [k0, k1, k5, k6, hlt, hlti, hge, g1, g2, hnl, hqa, hqai, hie, i1, i2, hal, hwq]
   refine nx_intro (n.args.length - (q + 1)) (by omega) ⟨q + 1, rfl, by omega, by simp [k0], by simp [k1], by simp [k5], by simp, rfl⟩
  ·have hqa2 : q = n.args.length := by omega
   subst hqa2
   simp [k0, k1, k5, k6, hlt, hlti, hge, g1, g2, hnl, hal, hw]
   refine nx_intro (l.length - (j + 1)) (by omega) ⟨j + 1, rfl, by omega, by simp [k0], by simp [k1], by simp, rfl⟩
 ·have hjl : j = l.length := by omega
  subst hjl
  simp [f0, f5, hnl]
end Go.Proofs.YtalfhchbmhoagaaGreatDoor
end
section
namespace Go.Proofs.YtalfhchbmhoagaaGreatDoor
open Go.Tgt Go.Tok Go.Glob
def bodyS (n : Nd) (as_ : List (List UInt8)) : List UInt8 :=
 if n.kind = 2 then Dec.prn false n.num else if n.kind = 3 then textOf 3 n.text else if n.kind = 4 then n.text ++ (40 :: (Lib.join as_ [44] ++ [41])) else n.text
abbrev textS (l : List Nd) (i : Nat) : List UInt8 := treeS bodyS [] l i
abbrev toksS (l : List Nd) (i : Nat) : List Kt := treeS (toksB (Dec.prn false)) [] l i
def ownB (n : Nd) : Bool :=
 if n.kind = 1 then decide (n.num = 0) && decide (n.args = []) && rightB 1 0 n.text
 else if n.kind = 2 then decide (n.text = []) && decide (n.args = []) && !decide (n.num = -9223372036854775808)
 else if n.kind = 3 then decide (n.num = 0) && decide (n.args = []) && rightB 3 0 n.text
 else if n.kind = 4 then decide (n.num = 0) && decide (n.args.length ≤ 16)
 else false
def Num64 (n : Nd) : Prop := -9223372036854775808 ≤ n.num ∧ n.num ≤ 9223372036854775807
theorem own_plain {n : Nd} (h : ownB n = true) (h64 : Num64 n) : Plain (Dec.prn false) n := by
 unfold ownB at h
 by_cases h1 : n.kind = 1
 ·simp [h1] at h
  exact ⟨.inl h1, fun h => by omega, fun _ => h.1.1, fun _ => h.1.2, by rw [h.1.2]; simp⟩
 by_cases h2 : n.kind = 2
 ·simp [h2] at h
  refine ⟨.inr (.inl h2), fun _ => ⟨h.1.1, ?_⟩, fun h => absurd h2 h, fun _ => h.1.2, by rw [h.1.2]; simp⟩
  have := h64.1
  have := h64.2
  unfold numOf
  rw [Dec.parse_prn h.2 (by omega)]
 by_cases h3 : n.kind = 3
 ·simp [h3] at h
  exact ⟨.inr (.inr (.inl h3)), fun h => by omega, fun _ => h.1.1, fun _ => h.1.2, by rw [h.1.2]; simp⟩
 by_cases h4 : n.kind = 4
 ·simp [h4] at h
  exact ⟨.inr (.inr (.inr h4)), fun h => by omega, fun _ => h.1, fun h => absurd h4 h, h.2⟩
 ·simp [h1, h2, h3, h4] at h
theorem bword_isD {c : UInt8} (h : Dec.isD c = true) : bword c = true := by
 have h' := h
 simp only [Dec.isD] at h'
 simp only [bword, nb, h', Bool.or_true, Bool.true_or]
theorem rowF_all : ∀ (s : List UInt8) (m : Nat) (rest : List UInt8), s.all bword = true → s.length ≤ m → StopB rest → rowF m (s ++ rest) = some s.length
 | [], m, rest, _, _, hr => rowF_stop hr
 | c :: s, 0, rest, _, hm, _ => by simp at hm
 | c :: s, m + 1, rest, h, hm, hr => by
  simp only [List.all_cons, Bool.and_eq_true] at h
  have ih := rowF_all s m rest h.2 (by simpa using hm) hr
  rw [List.cons_append, rowF, if_pos h.1, ih]
  rfl
theorem prn_words {v : Int} (h0 : v ≠ -9223372036854775808) : (Dec.prn false v).all bword = true ∧ ∃ c r, Dec.prn false v = c :: r ∧ (Dec.isD c = true ∨ c = 45) := by
 have hall : ∀ l : List UInt8, l.all Dec.isD = true → l.all bword = true := fun l h => by
  rw [List.all_eq_true] at h ⊢
  exact fun c hc => bword_isD (h c hc)
 have hd := hall _ (Dec.dd_all (v.natAbs / 1000000)).1
 have hf : (Dec.frac (v.natAbs % 1000000)).all bword = true := by
  unfold Dec.frac
  split
  ·rfl
  ·rw [List.all_cons, hall _ (Dec.fr_all 6 _ (Nat.mod_lt _ (by decide)))]; rfl
 rw [Dec.prn_eq h0]
 refine ⟨?_, ?_⟩
 ·rw [List.all_append, List.all_append, hd, hf]
  split <;> rfl
 ·by_cases hv : v < 0
  ·exact ⟨45, _, by simp [hv]; rfl, .inr rfl⟩
  ·have hne := Dec.dd_ne (v.natAbs / 1000000)
   have hD := (Dec.dd_all (v.natAbs / 1000000)).1
   cases hx : Lib.decDigits (v.natAbs / 1000000) with
   | nil => exact absurd hx hne
   | cons c r =>
    rw [hx] at hD
    simp only [List.all_cons, Bool.and_eq_true] at hD
    exact ⟨c, r ++ Dec.frac (v.natAbs % 1000000), by simp [hv], .inl hD.1⟩
theorem prn_next {v : Int} (h0 : v ≠ -9223372036854775808) (hb : v.natAbs ≤ 9223372036854775807) {rest : List UInt8} (hr : StopB rest) : nextT (Dec.prn false v ++ rest) = some (2, Dec.prn false v, (Dec.prn false v).length) := by
 obtain ⟨h1, c, r, h2, h3⟩ := prn_words h0
 have hp := Dec.parse_prn h0 hb
 rw [h2] at h1 hp ⊢
 have hne : ∀ x : UInt8, x.toNat < 45 → c ≠ x := fun x hx e => by
  subst e
  rcases h3 with h3 | h3
  ·rw [Dec.isD_iff] at h3; omega
  ·subst h3; revert hx; decide
 rw [List.cons_append, nextT, if_neg (hne 40 (by decide)), if_neg (hne 41 (by decide)), if_neg (hne 44 (by decide)), if_neg (fun h => h.elim (hne 39 (by decide)) (hne 34 (by decide)))]
 have := rowF_all (c :: r) ((r ++ rest).length + 1) rest h1 (by simp) hr
 rw [List.cons_append] at this
 rw [this, List.length_cons]
 simp only
 have e : (c :: (r ++ rest)).take (r.length + 1) = c :: r := by simp
 rw [e]
 simp [isNum, hp]
theorem tk4 (rest : List UInt8) : nextT ([40] ++ rest) = some (4, [], [(40 : UInt8)].length) := by simp [nextT]
theorem tk5 (rest : List UInt8) : nextT ([41] ++ rest) = some (5, [], [(41 : UInt8)].length) := by simp [nextT]
theorem tk6 (rest : List UInt8) : nextT ([44] ++ rest) = some (6, [], [(44 : UInt8)].length) := by simp [nextT]
theorem spl_tree {l : List Nd} {B D : Nat → Nat} (hL : Linked ownB l B D) (h64 : ∀ n ∈ l, Num64 n) (hw : ∀ n ∈ l, n.kind = 4 → rightB 1 0 n.text = true) (i : Nat) :
  i < l.length → ∀ s o, SPl s o → StopB s → SPl (textS l i ++ s) (toksS l i ++ o) := by
 induction i using Nat.strongRecOn with
 | _ i ih =>
  intro hi s o hs hst
  obtain ⟨n, hn⟩ : ∃ n, l[i]? = some n := ⟨_, List.getElem?_eq_getElem hi⟩
  have hmem := List.mem_of_getElem? hn
  have hown := hL.own i n hn
  have hpl := own_plain hown (h64 n hmem)
  rw [show textS l i = treeS bodyS [] l i from rfl, show toksS l i = treeS (toksB (Dec.prn false)) [] l i from rfl, treeS_eq hL.back hn, treeS_eq hL.back hn]
  rcases hpl.kind with hk | hk | hk | hk
  ·have e1 : ∀ as_, bodyS n as_ = n.text := fun as_ => by simp [bodyS, hk]
   have e2 : ∀ as_, toksB (Dec.prn false) n as_ = [(1, n.text)] := fun as_ => by simp [toksB, hk]
   rw [e1, e2]
   have hr : rightB 1 0 n.text = true := by simp [ownB, hk] at hown; exact hown.2
   have := right_next hr hst
   rw [show textOf 1 n.text = n.text by simp [textOf]] at this
   exact spl_tok this hs
  ·have e1 : ∀ as_, bodyS n as_ = Dec.prn false n.num := fun as_ => by simp [bodyS, hk]
   have e2 : ∀ as_, toksB (Dec.prn false) n as_ = [(2, Dec.prn false n.num)] := fun as_ => by simp [toksB, hk]
   rw [e1, e2]
   have hr : n.num ≠ -9223372036854775808 := by simp [ownB, hk] at hown; exact hown.2
   have := (h64 n hmem).1
   have := (h64 n hmem).2
   exact spl_tok (prn_next hr (by omega) hst) hs
  ·have e1 : ∀ as_, bodyS n as_ = textOf 3 n.text := fun as_ => by simp [bodyS, hk]
   have e2 : ∀ as_, toksB (Dec.prn false) n as_ = [(3, n.text)] := fun as_ => by simp [toksB, hk]
   rw [e1, e2]
   have hr : rightB 3 0 n.text = true := by simp [ownB, hk] at hown; exact hown.2
   exact spl_tok (right_next hr hst) hs
  ·have e1 : ∀ as_, bodyS n as_ = n.text ++ (40 :: (Lib.join as_ [44] ++ [41])) := fun as_ => by simp [bodyS, hk]
   have e2 : ∀ as_, toksB (Dec.prn false) n as_ = (1, n.text) :: (4, []) :: (commas as_ ++ [(5, [])]) := fun as_ => by simp [toksB, hk]
   rw [e1, e2]
   have hback := hL.back i n hn
   have tail : ∀ as_ : List Int, (∀ a ∈ as_, a.toNat < i) → SPl (Lib.joinTail [44] (as_.map fun a => treeS bodyS [] l a.toNat) ++ ([41] ++ s)) (((as_.map fun a => treeS (toksB (Dec.prn false)) [] l a.toNat).flatMap fun y => (6, []) :: y) ++ ((5, []) :: o)) ∧ StopB (Lib.joinTail [44] (as_.map fun a => treeS bodyS [] l a.toNat) ++ ([41] ++ s)) := by
    intro as_
    induction as_ with
    | nil => intro _; exact ⟨show SPl ([41] ++ s) ((5, []) :: o) from spl_tok (tk5 s) hs, .inr ⟨41, s, rfl, .inr (.inr (.inl rfl))⟩⟩
    | cons a as_ ih2 =>
     intro ha
     obtain ⟨q1, q2⟩ := ih2 fun a' h' => ha a' (by simp [h'])
     have := ih a.toNat (ha a (by simp)) (by have := ha a (by simp); omega) _ _ q1 q2
     have e : Lib.joinTail [44] ((a :: as_).map fun a => treeS bodyS [] l a.toNat) ++ ([41] ++ s) = [44] ++ (textS l a.toNat ++ (Lib.joinTail [44] (as_.map fun a => treeS bodyS [] l a.toNat) ++ ([41] ++ s))) := by simp [Lib.joinTail]
     rw [e]
     refine ⟨?_, .inr ⟨44, _, rfl, .inr (.inr (.inr rfl))⟩⟩
     have := spl_tok (tk6 _) this
     simpa using this
   have hjoin : SPl (Lib.join (n.args.map fun a => treeS bodyS [] l a.toNat) [44] ++ ([41] ++ s)) (commas (n.args.map fun a => treeS (toksB (Dec.prn false)) [] l a.toNat) ++ ((5, []) :: o)) := by
    cases ha : n.args with
    | nil => simpa [Lib.join_nil, commas] using spl_tok (tk5 s) hs
    | cons a as_ =>
     rw [ha] at hback
     obtain ⟨q1, q2⟩ := tail as_ fun a' h' => hback a' (by simp [h'])
     have := ih a.toNat (hback a (by simp)) (by have := hback a (by simp); omega) _ _ q1 q2
     rw [List.map_cons, Lib.join_cons, List.map_cons]
     simpa [commas] using this
   have h40 := spl_tok (tk4 _) hjoin
   have hr := right_next (hw n hmem hk) (rest := [40] ++ (Lib.join (n.args.map fun a => treeS bodyS [] l a.toNat) [44] ++ ([41] ++ s))) (.inr ⟨40, _, rfl, .inr (.inl rfl)⟩)
   rw [show textOf 1 n.text = n.text by simp [textOf]] at hr
   have := spl_tok hr h40
   simpa using this
theorem splitF_next : ∀ (n a : Nat) (s : List UInt8) (l : List Tk), splitF n a s = some l → ∀ x ∈ l, ∃ s' m, nextT s' = some (x.kind, x.text, m) ∧ s'.length ≤ s.length
 | n, a, [], l, h, x, hx => by cases n <;> (simp [splitF] at h; subst h; cases hx)
 | 0, a, c :: r, l, h, x, hx => by simp [splitF] at h; subst h; cases hx
 | n + 1, a, c :: r, l, h, x, hx => by
  rw [splitF] at h
  split at h
  ·obtain ⟨s', m, h1, h2⟩ := splitF_next n _ r l h x hx
   exact ⟨s', m, h1, by simp; omega⟩
  ·cases hy : nextT (c :: r) with
   | none => rw [hy] at h; cases h
   | some y =>
    rw [hy] at h
    simp only [Option.bind_some] at h
    cases hz : splitF n (a + y.2.2) ((c :: r).drop y.2.2) with
    | none => rw [hz] at h; cases h
    | some z =>
     rw [hz] at h; cases h
     rcases List.mem_cons.1 hx with rfl | hx
     ·exact ⟨c :: r, y.2.2, hy, Nat.le_refl _⟩
     ·obtain ⟨s', m, h1, h2⟩ := splitF_next n _ _ z hz x hx
      exact ⟨s', m, h1, by rw [List.length_drop] at h2; omega⟩
theorem next_row {s : List UInt8} {k : Int} {t : List UInt8} {m : Nat} (h : nextT s = some (k, t, m)) (hk : k = 1 ∨ k = 2) (hl : s.length ≤ 1024) : rightB k 0 t = true := by
 have hle := nextT_le h
 simp only at hle
 have ht := (nextT_text h).2 hk
 have h1 := nextT_take h (rest := []) (.inl rfl)
 rw [ht, List.append_nil] at h1
 have hlen : t.length = m := by rw [← ht, List.length_take]; omega
 have hs : Tok.split t = .ok [⟨k, t, 0⟩] := by
  unfold Tok.split
  rw [if_neg (by omega)]
  cases t with
  | nil => simp at hlen; omega
  | cons c r =>
   rw [List.length_cons, splitF, if_neg (nextT_head h1), h1]
   have e : splitF r.length (0 + m) ((c :: r).drop m) = some [] := by
    rw [List.drop_eq_nil_of_le (by rw [hlen]; exact Nat.le_refl m)]
    cases r.length <;> rfl
   rw [Nat.zero_add] at e
   simp [e]
 have h3 : ¬ (k = 3) := by omega
 have h4 : ¬ (k = 4 ∨ k = 5 ∨ k = 6) := by omega
 simp [rightB, h3, h4, hk, hs, isOne]
theorem idx_not_mem : ∀ (r : List UInt8) (c : UInt8), 0 ≤ Lib.indexByte r c → c ∉ r.take (Lib.indexByte r c).toNat
 | [], c, h => by simp
 | b :: l, c, h => by
  unfold Lib.indexByte at h ⊢
  by_cases hb : b = c
  ·simp [hb]
  ·have hb' : (b == c) = false := by simpa using hb
   have hge := Lib.indexByte_ge l c
   simp only [hb', Bool.false_eq_true, if_false] at h ⊢
   by_cases h1 : Lib.indexByte l c = -1
   ·simp [h1] at h
   ·have h1' : (Lib.indexByte l c == -1) = false := by simpa using h1
    simp only [h1', Bool.false_eq_true, if_false] at h ⊢
    rw [show (Lib.indexByte l c + 1).toNat = (Lib.indexByte l c).toNat + 1 by omega, List.take_succ_cons]
    have := idx_not_mem l c (by omega)
    simp only [List.mem_cons, not_or]
    exact ⟨fun e => hb e.symm, this⟩
theorem next_txt {s : List UInt8} {t : List UInt8} {m : Nat} (h : nextT s = some (3, t, m)) (hl : s.length ≤ 1024) : rightB 3 0 t = true := by
 have hle := nextT_le h
 cases s with
 | nil => simp [nextT] at h
 | cons c r =>
  rw [nextT] at h
  split at h
  ·cases h
  split at h
  ·cases h
  split at h
  ·cases h
  split at h
  ·rename_i hc
   split at h
   ·cases h
   ·rename_i hneg
    cases h
    have hn := idx_not_mem r c (by omega)
    have hlt := (List.length_take_le (Lib.indexByte r c).toNat r)
    simp at hle hl
    have hlen : (r.take (Lib.indexByte r c).toNat).length ≤ 1022 := by rw [List.length_take]; omega
    simp only [rightB]
    have hb : (!(decide ((39 : UInt8) ∈ r.take (Lib.indexByte r c).toNat) && decide ((34 : UInt8) ∈ r.take (Lib.indexByte r c).toNat))) = true := by
     rcases hc with rfl | rfl
     ·simp [hn]
     ·simp [hn]
    simp [hb]
    omega
  ·split at h
   ·cases h
   ·cases h
   ·simp only [Option.some.injEq, Prod.mk.injEq] at h
    have := h.1
    split at this <;> omega
theorem split_tkOk {s : List UInt8} {t : List Tk} (h : Tok.split s = .ok t) : TkOk t ∧ Owns ownB t := by
 have hl := split_lens h
 have hs := hl.2.1
 have hsp : splitF s.length 0 s = some t := by
  unfold Tok.split at h
  split at h
  ·cases h
  cases hx : splitF s.length 0 s with
  | none => rw [hx] at h; cases h
  | some l =>
   rw [hx] at h
   simp only at h
   split at h
   ·cases h
   ·cases h; rfl
 have hnum : ∀ x ∈ t, x.kind = 2 → isNum x.text = true := fun x hx hk => by
  obtain ⟨s', m, h1, h2⟩ := splitF_next _ _ _ _ hsp x hx
  have := next_row h1 (.inr hk) (by omega)
  rw [hk] at h1
  cases s' with
  | nil => simp [nextT] at h1
  | cons c r =>
   rw [nextT] at h1
   split at h1
   ·cases h1
   split at h1
   ·cases h1
   split at h1
   ·cases h1
   split at h1
   ·split at h1 <;> cases h1
   ·split at h1
    ·cases h1
    ·cases h1
    ·simp only [Option.some.injEq, Prod.mk.injEq] at h1
     obtain ⟨h3, h4, _⟩ := h1
     rw [← h4]
     exact Classical.byContradiction fun hn => by rw [if_neg hn] at h3; omega
 refine ⟨⟨hl.1, fun x hx => (hl.2.2 x hx).2, hnum⟩, ⟨fun x hx hk => ?_, fun x hx hk => ?_, fun x hx hk => ?_, fun s as_ h => ?_⟩⟩
 ·obtain ⟨s', m, h1, h2⟩ := splitF_next _ _ _ _ hsp x hx
  rw [hk] at h1
  simp [ownB, next_row h1 (.inl rfl) (by omega)]
 ·have := hnum x hx hk
  cases hp : Dec.parse x.text with
  | error e => simp [isNum, hp] at this
  | ok v =>
   have := (Dec.parse_bound hp).1
   simp [ownB, numOf, hp, this]
 ·obtain ⟨s', m, h1, h2⟩ := splitF_next _ _ _ _ hsp x hx
  rw [hk] at h1
  simp [ownB, next_txt h1 (by omega)]
 ·simp [ownB, h]
end Go.Proofs.YtalfhchbmhoagaaGreatDoor
end
section
set_option maxHeartbeats 4000000
set_option maxRecDepth 20000
namespace Go.Proofs.YtalfhchbmhoagaaGreatDoor
open Go.Abs Go.Tgt Go.Trail
variable {G : Globs}
def sA : List UInt8 := [115, 99, 97, 108, 101, 40, 97, 46, 42, 44, 50, 41]
def sB : List UInt8 := [115, 99, 97, 108, 101, 40, 97, 41]
def sC : List UInt8 := [102, 40, 97, 41]
theorem parse_A : parseS nodE sA = .ok [⟨1, [97, 46, 42], 0, []⟩, ⟨2, [], 2000000, []⟩, ⟨4, [115, 99, 97, 108, 101], 0, [0, 1]⟩] := by kernel_rfl
theorem parse_B : parseS nodE sB = .error 18 := by kernel_rfl
theorem parse_C : parseS nodE sC = .error 15 := by kernel_rfl
theorem talive23_ok [GDec] [GSpcT] [GFam] : PCalls Tryz.prog n_isobarlaw23_alive [] (fun r => r = .bool true) := by
 refine pcalls_of_awp hmix c_isobarlaw23_alive rfl ?_
 have hA := tParse_ok (G := G) sA (by decide) (fun t h => (split_tkOk h).1)
 have hB := tParse_ok (G := G) sB (by decide) (fun t h => (split_tkOk h).1)
 have hC := tParse_ok (G := G) sC (by decide) (fun t h => (split_tkOk h).1)
 rw [parse_A] at hA
 rw [parse_B] at hB
 rw [parse_C] at hC
 simp [a_isobarlaw23_alive]
 refine ac_same hA (by simp) ?_
 rintro r rfl
 simp [treeAV]
 refine ac_same hB (by simp) ?_
 rintro r rfl
 simp [treeAV]
 refine ac_same hC (by simp) ?_
 rintro r rfl
 simp [treeAV, ndEls, ndC, intEls]
theorem len_sumW : ∀ l : List Nd, l.length ≤ sumW wTok l
 | [] => Nat.zero_le _
 | n :: l => by
  have e : sumW wTok (n :: l) = wTok n + sumW wTok l := by simp [sumW]
  have h1 : 1 ≤ wTok n := by unfold wTok; split <;> omega
  have ih := len_sumW l
  rw [e, List.length_cons]; omega
end Go.Proofs.YtalfhchbmhoagaaGreatDoor
end
section
set_option maxHeartbeats 4000000
set_option maxRecDepth 20000
namespace Go.Proofs.YtalfhchbmhoagaaGreatDoor
open Go.Abs Go.Tgt Go.Trail
variable {G : Globs}
theorem town_ok [GDec] (n : Nd) (hl : n.text.length ≤ 1000000000) : PCalls Tryz.prog n_target_own [ndA n] (fun r => r = .bool (ownB n)) := by
 refine pcalls_of_awp hmix c_target_own rfl ?_
 obtain ⟨k, s, v, a⟩ := n
 simp only at hl
 have hal := intEls_len a
 have hq1 := tright_ok (G := G) 1 0 s (by omega)
 have hq3 := tright_ok (G := G) 3 0 s (by omega)
 by_cases hv : v = 0
 ·by_cases ha : a = []
  ·subst hv ha
   by_cases h1 : k = 1
   ·subst h1
    simp [a_target_own, boxOp, ndA_eq, ownB, intEls]
    refine ac_same hq1 (by simp [tokA]) ?_
    rintro r rfl
    simp
   by_cases h2 : k = 2
   ·subst h2
    by_cases hs : s = []
    ·simp [a_target_own, boxOp, ndA_eq, ownB, intEls, hs]
    ·simp [a_target_own, boxOp, ndA_eq, ownB, intEls, hs]
   by_cases h3 : k = 3
   ·subst h3
    simp [a_target_own, boxOp, ndA_eq, ownB, intEls]
    refine ac_same hq3 (by simp [tokA]) ?_
    rintro r rfl
    simp
   by_cases h4 : k = 4
   ·subst h4; simp [a_target_own, boxOp, ndA_eq, ownB, intEls]
   ·simp [a_target_own, boxOp, ndA_eq, ownB, intEls, h1, h2, h3, h4]
  ·have hal0 : ¬ a.length = 0 := fun h => ha (List.length_eq_zero_iff.1 h)
   have hal0' : ¬ (a.length : Int) = 0 := by omega
   subst hv
   by_cases h1 : k = 1
   ·subst h1; simp [a_target_own, boxOp, ndA_eq, ownB, hal, hal0, hal0', ha]
   by_cases h2 : k = 2
   ·subst h2
    by_cases hs : s = []
    ·simp [a_target_own, boxOp, ndA_eq, ownB, hal, hal0, hal0', ha, hs]
    ·simp [a_target_own, boxOp, ndA_eq, ownB, hal, hal0, hal0', ha, hs]
   by_cases h3 : k = 3
   ·subst h3; simp [a_target_own, boxOp, ndA_eq, ownB, hal, hal0, hal0', ha]
   by_cases h4 : k = 4
   ·subst h4; simp [a_target_own, boxOp, ndA_eq, ownB, hal, hal0, hal0', ha]; omega
   ·simp [a_target_own, boxOp, ndA_eq, ownB, hal, hal0, hal0', ha, h1, h2, h3, h4]
 ·by_cases h1 : k = 1
  ·subst h1; simp [a_target_own, boxOp, ndA_eq, ownB, hv]
  by_cases h2 : k = 2
  ·subst h2
   by_cases hs : s = []
   ·by_cases ha : a = []
    ·subst ha
     by_cases hm : v = -9223372036854775808
     ·simp [a_target_own, boxOp, ndA_eq, ownB, hv, hs, hm, intEls]
     ·simp [a_target_own, boxOp, ndA_eq, ownB, hv, hs, hm, intEls]
    ·have hal0 : ¬ a.length = 0 := fun h => ha (List.length_eq_zero_iff.1 h)
     have hal0' : ¬ (a.length : Int) = 0 := by omega
     simp [a_target_own, boxOp, ndA_eq, ownB, hv, hs, hal, hal0, hal0', ha]
   ·simp [a_target_own, boxOp, ndA_eq, ownB, hv, hs]
  by_cases h3 : k = 3
  ·subst h3; simp [a_target_own, boxOp, ndA_eq, ownB, hv]
  by_cases h4 : k = 4
  ·subst h4; simp [a_target_own, boxOp, ndA_eq, ownB, hv]
  ·simp [a_target_own, boxOp, ndA_eq, ownB, hv, h1, h2, h3, h4]
def stEls (S : List (Nat × Nat)) : List (List AV) := S.map fun w => [.int .i64 w.1, .int .i64 w.2]
theorem stEls_len (S) : (stEls S).length = S.length := by simp [stEls]
def StkI (σ : Store) (v : AV) (S : List (Nat × Nat)) : Prop := (S = [] ∧ v = .nils) ∨ (S ≠ [] ∧ ∃ id, v = .row id S.length ∧ σ[id]? = some (.row 91 2 (stEls S) false))
theorem StkI.keep {σ σ' : Store} {v : AV} {S} (h : StkI σ v S) (hk : ∀ (i : Nat) (e : Entry), σ[i]? = some e → v = .row i S.length → σ'[i]? = some e) : StkI σ' v S := by
 rcases h with h | ⟨h1, id, h2, h3⟩
 ·exact .inl h
 ·exact .inr ⟨h1, id, h2, hk id _ h3 h2⟩
def shapedB (l : List Nd) : Bool := match shapeS ownB l with
 | some [w] => decide (w.2 ≤ 12)
 | _ => false
end Go.Proofs.YtalfhchbmhoagaaGreatDoor
end
section
set_option maxHeartbeats 4000000
set_option maxRecDepth 20000
namespace Go.Proofs.YtalfhchbmhoagaaGreatDoor
open Go.Abs Go.Tgt Go.Trail
variable {G : Globs}
theorem stEls_get {S : List (Nat × Nat)} {k : Nat} {w : Nat × Nat} (h : S[k]? = some w) : (stEls S)[k]? = some [.int .i64 w.1, .int .i64 w.2] := by simp [stEls, h]
theorem deepS_take (l : List (Nat × Nat)) (k : Nat) (w : Nat × Nat) (h : l[k]? = some w) : deepS (l.take (k + 1)) = max (deepS (l.take k)) (w.2 + 1) := by
 rw [List.take_add_one, h]
 exact deepS_snoc _ _
theorem shaped_some {l : List Nd} {S : List (Nat × Nat)} (h : shapeS ownB l = some S) : shapedB l = (decide (S.length = 1) && decide ((S.getD 0 (0, 0)).2 ≤ 12)) := by
 unfold shapedB
 rw [h]
 match S with
 | [] => rfl
 | [w] => simp
 | a :: b :: r => simp
theorem shaped_none {l : List Nd} {j : Nat} (h : shapeS ownB (l.take j) = none) : shapedB l = false := by
 have : shapeS ownB l = none := by
  conv => lhs; rw [← List.take_append_drop j l]
  unfold shapeS at h ⊢
  rw [shapeF_app, h]; rfl
 unfold shapedB
 rw [this]
theorem tshaped_ok [GDec] (l : List Nd) (hl : l.length ≤ 1000) (ht : ∀ n ∈ l, n.text.length ≤ 1000000 ∧ n.args.length ≤ 1000000) : PCalls Tryz.prog n_target_shaped [.lst (ndEls l)] (fun r => r = .bool (shapedB l)) := by
 refine pcalls_of_awp hmix c_target_shaped rfl ?_
 have hnl := ndEls_len l
 simp [a_target_shaped, hnl]
 refine lp_startx (fun x f σ => ∃ (j : Nat) (S : List (Nat × Nat)), x = l.length - j ∧ j ≤ l.length ∧ f 10 = .lst (ndEls l) ∧ f 11 = .int .i64 l.length ∧ f 12 = .int .i64 j ∧ StkI σ (f 3) S ∧ shapeS ownB (l.take j) = some S ∧ (∀ w ∈ S, w.1 < j ∧ w.2 ≤ j) ∧ S.length ≤ j) l.length ⟨0, [], by simp, by simp, by simp, by simp, by simp, .inl ⟨rfl, by simp⟩, rfl, by simp, by simp⟩ ?_
 rintro x f σ ⟨j, S, hx, hj, f10, f11, f12, hS, hsh, hlt, hSl⟩
 by_cases hjl : j < l.length
 ·obtain ⟨n, hn⟩ : ∃ n, l[j]? = some n := ⟨_, List.getElem?_eq_getElem hjl⟩
  have hge := ndEls_get hn
  obtain ⟨g1, g2⟩ := List.getElem?_eq_some_iff.1 hge
  have hlti : (j : Int) < (l.length : Int) := by omega
  have hw : IntKind.i64.wrap ((j : Int) + 1) = (j : Int) + 1 := wrap_i64 (by omega) (by omega)
  obtain ⟨ht1, ht2⟩ := ht n (List.mem_of_getElem? hn)
  have hal := intEls_len n.args
  have how := town_ok (G := G) n (by omega)
  rw [ndA_eq] at how
  have hsnoc : shapeS ownB (l.take (j + 1)) = if ownB n = true then stepS n S j else none := by
   rw [List.take_add_one, hn]
   show shapeS ownB (l.take j ++ [n]) = _
   rw [shapeS_snoc, hsh, List.length_take]
   simp only [Option.bind_some]
   rw [show min j l.length = j by omega]
  obtain ⟨C, hC⟩ : ∃ C : Entry, C = .var 44 [.int .i64 n.kind, .str n.text, .int .i64 n.num, .lst (intEls n.args)] := ⟨_, rfl⟩
  obtain ⟨σb, eb⟩ : ∃ σb, σb = σ ++ [C] := ⟨_, rfl⟩
  have hCb : σb[σ.length]? = some C := by rw [eb]; simp
  have hSb : StkI σb (f 3) S := hS.keep fun i e he _ => by rw [eb]; exact get_more he
  have hCb' : σb[σ.length]? = some (.var 44 [.int .i64 n.kind, .str n.text, .int .i64 n.num, .lst (intEls n.args)]) := by rw [hCb, hC]
  obtain ⟨hCc, hCd⟩ := List.getElem?_eq_some_iff.1 hCb'
  have hview : view σb (f 3) = some (stEls S) := by
   rcases hSb with ⟨rfl, h⟩ | ⟨_, id, h, h3⟩
   ·rw [h]; rfl
   ·rw [h]; simp [view, h3, stEls_len]
  have hsl := stEls_len S
  simp [f10, f11, f12, hjl, hlti, hge, g1, g2, hnl, boxOp, splice]
  refine ac_same how (by simp) ?_
  rintro r rfl
  rw [← hC, ← eb]
  cases hob : ownB n with
  | false =>
   rw [hob] at hsnoc
   simp [shaped_none hsnoc]
  | true =>
   rw [hob] at hsnoc
   simp only [if_true] at hsnoc
   by_cases hgt : S.length < n.args.length
   ·have hgti : (S.length : Int) < (n.args.length : Int) := by omega
    have hno : shapeS ownB (l.take (j + 1)) = none := by
     rw [hsnoc]; unfold stepS; rw [if_neg (fun h => by omega)]
    simp [hCb', hCd, hview, hal, hsl, hgt, hgti, shaped_none hno]
   ·have hgti : ¬ (S.length : Int) < (n.args.length : Int) := by omega
    obtain ⟨F, hF⟩ : ∃ F, F = S.length - n.args.length := ⟨_, rfl⟩
    have hws : IntKind.i64.wrap ((S.length : Int) - (n.args.length : Int)) = (F : Int) := by rw [wrap_i64 (by omega) (by omega)]; omega
    rcases hSb with ⟨rfl, h3⟩ | ⟨hS0, id, h3, hid⟩
    ·have ha0 : n.args = [] := List.length_eq_zero_iff.1 (Nat.le_zero.1 (Nat.not_lt.1 hgt))
     have hF0 : F = 0 := by simp at hF; omega
     subst hF0
     have hnew : shapeS ownB (l.take (j + 1)) = some [(j, 1)] := by
      rw [hsnoc]; simp [stepS, ha0, atsS, deepS]
     have hal0 : (intEls n.args).length = 0 := by rw [hal, ha0]; rfl
     have hgti2 : ¬ ((0 : Int) < 0) := by omega
     have hwz : IntKind.i64.wrap 0 = 0 := by decide
     rw [ha0] at hCb' hCd
     simp [hCb', hCd, h3, view, intEls, hwz]
     refine lp_startx (fun x f' σ' => f' 3 = .nils ∧ f' 4 = .int .i64 j ∧ f' 6 = .int .i64 0 ∧ f' 7 = .int .i64 1 ∧ f' 10 = .lst (ndEls l) ∧ f' 11 = .int .i64 l.length ∧ f' 12 = .int .i64 j ∧ f' 37 = .int .i64 0 ∧ f' 38 = .int .i64 0) 0 ⟨by simp [h3], by simp, by simp, by simp, by simp [f10], by simp [f11], by simp [f12], by simp, by simp⟩ ?_
     rintro x' f1 σ1 ⟨k3, k4, k6, k7, k10, k11, k12, k37, k38⟩
     simp [k3, k4, k6, k7, k37, k38]
     refine ap_new false [[.int .i64 j, .int .i64 1]] rfl (by decide) (by simp) (fun h => by cases h) (by simp) (by simp) ?_
     simp [k12, hw]
     exact nx_intro (l.length - (j + 1)) (by omega) ⟨j + 1, [(j, 1)], rfl, by omega, by simp [k10], by simp [k11], by simp, .inr ⟨by simp, σ1.length, by simp, by simp [stEls]⟩, hnew, by simp, by simp⟩
    ·have hsub : (atsS (S.drop F)).length = n.args.length := by simp [atsS]; omega
     have hFl : F ≤ S.length := by omega
     have hFli : (F : Int) ≤ (S.length : Int) := by omega
     have hse2 : ∀ x ∈ stEls S, x.length = 2 := fun x hx => by
      obtain ⟨y, _, rfl⟩ := List.mem_map.1 hx
      rfl
     have hidl := (List.getElem?_eq_some_iff.1 hid).1
     have hinl : id ≠ σ.length := fun e => by rw [e, hCb'] at hid; cases hid
     have hpos : 0 < S.length := List.length_pos_iff.2 hS0
     simp [hCb', hCd, h3, view, hid, hal, hsl, hgt, hgti, hws, hFl, hFli, hpos]
     refine lp_startx (fun x f' σ' => ∃ q : Nat, x = n.args.length - q ∧ q ≤ n.args.length ∧ f' 3 = .row id S.length ∧ f' 4 = .int .i64 j ∧ f' 5 = .ptr σ.length 0 ∧ f' 6 = .int .i64 F ∧ f' 7 = .int .i64 (deepS ((S.drop F).take q) : Nat) ∧ f' 10 = .lst (ndEls l) ∧ f' 11 = .int .i64 l.length ∧ f' 12 = .int .i64 j ∧ f' 36 = .sub id S.length 2 F S.length ∧ f' 37 = .int .i64 n.args.length ∧ f' 38 = .int .i64 q ∧ σ'[id]? = some (.row 91 2 (stEls S) false) ∧ σ'[σ.length]? = some (.var 44 [.int .i64 n.kind, .str n.text, .int .i64 n.num, .lst (intEls n.args)]) ∧ (atsS (S.drop F)).take q = n.args.take q) n.args.length ?_ ?_
     ·exact ⟨0, by simp, by simp, by simp [h3], by simp, by simp, by simp, by simp [deepS], by simp [f10], by simp [f11], by simp [f12], by simp, by simp; omega, by simp, hid, hCb', by simp⟩
     rintro x' f1 σ1 ⟨q, hx', hq, k3, k4, k5, k6, k7, k10, k11, k12, k36, k37, k38, hid1, hC1, hmat⟩
     obtain ⟨hC2, hC3⟩ := List.getElem?_eq_some_iff.1 hC1
     obtain ⟨hid2, hid3⟩ := List.getElem?_eq_some_iff.1 hid1
     by_cases hqa : q < n.args.length
     ·have hqai : (q : Int) < (n.args.length : Int) := by omega
      obtain ⟨w, hwk⟩ : ∃ w, S[F + q]? = some w := ⟨_, List.getElem?_eq_getElem (by omega)⟩
      have hws2 := stEls_get hwk
      obtain ⟨v1, v2⟩ := List.getElem?_eq_some_iff.1 hws2
      have hwd : (S.drop F)[q]? = some w := by rw [List.getElem?_drop]; exact hwk
      obtain ⟨wl1, wl2⟩ := hlt w (List.mem_of_getElem? hwk)
      obtain ⟨y, hy⟩ : ∃ y, n.args[q]? = some y := ⟨_, List.getElem?_eq_getElem hqa⟩
      have hie : (intEls n.args)[q]? = some [.int .i64 y] := by simp [intEls, hy]
      obtain ⟨i1, i2⟩ := List.getElem?_eq_some_iff.1 hie
      have hwq : IntKind.i64.wrap ((q : Int) + 1) = (q : Int) + 1 := wrap_i64 (by omega) (by omega)
      have hww : IntKind.i64.wrap ((w.2 : Int) + 1) = (w.2 : Int) + 1 := wrap_i64 (by omega) (by omega)
      have hFq : F + q < S.length := by omega
      have hm : ∀ e : Entry, (σ1 ++ [e])[σ.length]? = some (.var 44 [.int .i64 n.kind, .str n.text, .int .i64 n.num, .lst (intEls n.args)]) := fun e => get_more hC1
      have hmid : ∀ e : Entry, (σ1 ++ [e])[id]? = some (.row 91 2 (stEls S) false) := fun e => get_more hid1
      by_cases hyw : y = (w.1 : Int)
      ·have hdd := deepS_take (S.drop F) q w hwd
       have hdp := deepS_pos ((S.drop F).take q)
       have hmat2 : (atsS (S.drop F)).take (q + 1) = n.args.take (q + 1) := by
        rw [List.take_add_one, List.take_add_one, hmat, hy]
        have : (atsS (S.drop F))[q]? = some (w.1 : Int) := by simp [atsS, hwk]
        rw [this, hyw]
       obtain ⟨dq, hdq⟩ : ∃ dq, dq = deepS ((S.drop F).take q) := ⟨_, rfl⟩
       rw [← hdq] at k7 hdd hdp
       by_cases hmx : (dq : Int) < (w.2 : Int) + 1
       ·have hmx' : dq < w.2 + 1 := by omega
        have hmx2 : dq ≤ w.2 := by omega
        simp [k3, k5, k7, k36, k37, k38, hqa, hqai, hid1, hid3, hC1, hC2, hC3, hws2, v1, v2, hie, i1, i2, hal, hsl, boxOp, splice, hFq, hww, hm, hmid, hyw, hmx, hmx', hmx2, hwq]
        refine nx_intro (n.args.length - (q + 1)) (by omega) ⟨q + 1, rfl, by omega, by simp [k3], by simp [k4], by simp [k5], by simp [k6], ?_, by simp [k10], by simp [k11], by simp [k12], by simp [k36], by simp [k37], by simp, hmid _, hm _, hmat2⟩
        simp [hdd]; omega
       ·have hmx' : ¬ dq < w.2 + 1 := by omega
        have hmx2 : ¬ dq ≤ w.2 := by omega
        simp [k3, k5, k7, k36, k37, k38, hqa, hqai, hid1, hid3, hC1, hC2, hC3, hws2, v1, v2, hie, i1, i2, hal, hsl, boxOp, splice, hFq, hww, hm, hmid, hyw, hmx, hmx', hmx2, hwq]
        refine nx_intro (n.args.length - (q + 1)) (by omega) ⟨q + 1, rfl, by omega, by simp [k3], by simp [k4], by simp [k5], by simp [k6], ?_, by simp [k10], by simp [k11], by simp [k12], by simp [k36], by simp [k37], by simp, hmid _, hm _, hmat2⟩
        simp [hdd]; omega
      ·have hno : shapeS ownB (l.take (j + 1)) = none := by
        rw [hsnoc]; unfold stepS; rw [← hF, if_neg]
        rintro ⟨_, h⟩
        have h2 := congrArg (fun l => l[q]?) h
        simp only [hy] at h2
        have : (atsS (S.drop F))[q]? = some (w.1 : Int) := by simp [atsS, hwk]
        rw [this] at h2
        exact hyw (Option.some.inj h2).symm
       simp [k3, k5, k7, k36, k37, k38, hqa, hqai, hid1, hid3, hC1, hC2, hC3, hws2, v1, v2, hie, i1, i2, hal, hsl, boxOp, splice, hFq, hww, hm, hmid, hyw, shaped_none hno]
     ·have hqe : q = n.args.length := by omega
      subst hqe
      have hFn : F + n.args.length = S.length := by omega
      have hall : atsS (S.drop F) = n.args := by
       rw [List.take_of_length_le (Nat.le_refl _), List.take_of_length_le (by omega)] at hmat; exact hmat
      have htd : (S.drop F).take n.args.length = S.drop F := List.take_of_length_le (by simp; omega)
      rw [htd] at k7
      have hnew : shapeS ownB (l.take (j + 1)) = some (S.take F ++ [(j, deepS (S.drop F))]) := by
       rw [hsnoc]; unfold stepS; rw [← hF, if_pos ⟨by omega, hall⟩]
      have hdl : deepS (S.drop F) ≤ j + 1 := deepS_le fun w hw => (hlt w (List.mem_of_mem_drop hw)).2
      simp [k3, k4, k6, k7, k37, k38, hid1, hsl, hFl, hFli, hpos]
      refine ap_sub (stEls S) [[.int .i64 j, .int .i64 (deepS (S.drop F) : Nat)]] hid1 rfl (by decide) (by simp) hsl hpos (by simp; omega) (by simp; omega) ?_
      simp [k12, hw]
      refine nx_intro (l.length - (j + 1)) (by omega) ⟨j + 1, S.take F ++ [(j, deepS (S.drop F))], rfl, by omega, by simp [k10], by simp [k11], by simp, .inr ⟨by simp, σ1.length, ?_, ?_⟩, hnew, ?_, ?_⟩
      ·simp; omega
      ·simp [stEls, List.map_take]
      ·intro w hw
       rcases List.mem_append.1 hw with hw | hw
       ·have := hlt w (List.mem_of_mem_take hw); omega
       ·simp at hw; subst hw; simp; omega
      ·simp; omega
 ·have hjl2 : j = l.length := by omega
  subst hjl2
  rw [List.take_length] at hsh
  have hview : view σ (f 3) = some (stEls S) := by
   rcases hS with ⟨rfl, h⟩ | ⟨_, id, h, h3⟩
   ·rw [h]; rfl
   ·rw [h]; simp [view, h3, stEls_len]
  have hsl := stEls_len S
  rw [shaped_some hsh]
  rcases hS with ⟨rfl, h3⟩ | ⟨hS0, id, h3, hid⟩
  ·simp [f11, f12, h3, view]
  ·match S, hS0 with
   | [w], _ =>
    have hwl := (hlt w (by simp)).2
    simp [f11, f12, h3, view, hid, stEls]
    omega
   | a :: b :: r, _ =>
    have h1 : ¬ ((r.length : Int) + 1 + 1 = 1) := by omega
    have h2 : ¬ (r.length + 1 + 1 = 1) := by omega
    simp [f11, f12, h3, view, hid, stEls, h1, h2]
end Go.Proofs.YtalfhchbmhoagaaGreatDoor
end
