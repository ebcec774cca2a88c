/- A target's tokens: the document's row and Split; the law that any target is split as the document says. -/
import Derived.Test.YtkclehdmdnfikaaDoorTkD
import Derived.ProofKit
set_option linter.unusedSimpArgs false
set_option linter.unusedVariables false
set_option linter.constructorNameAsVariable false
set_option maxHeartbeats 4000000
namespace Go.Proofs.YtkclehdmdnfikaaDoor
open Go.Abs Go.Glob Go.Tok
variable {G : Globs}

theorem refRow_ok (t : List UInt8) (k0 n : Nat) (h2 : k0 ≤ t.length) (h3 : t.length ≤ 1000000) (hn : t.length - k0 ≤ n) :
    PCalls Tryd.prog n_isobarref22_row [.str t, .int .i64 k0] (fun r => r = .int .i64 (match rowF n (t.drop k0) with | some m => ((k0 + m : Nat) : Int) | none => -1)) := by
  refine pcalls_of_awp hmix c_isobarref22_row rfl ?_
  simp [a_isobarref22_row]
  refine lp_startx (fun x f σ => ∃ (k m : Nat), x = t.length - k ∧ k0 ≤ k ∧ k ≤ t.length ∧ t.length - k ≤ m ∧ rowF n (t.drop k0) = (rowF m (t.drop k)).map (· + (k - k0)) ∧ f 0 = .str t ∧ f 1 = .int .i64 k ∧ σ = []) (t.length - k0) ?_ ?_
  · exact ⟨k0, n, rfl, Nat.le_refl _, h2, hn, by simp, by simp, by simp, rfl⟩
  rintro x f σ ⟨k, m, hx, hk1, hk2, hm, hrow, h0, h1, rfl⟩
  by_cases hk : k < t.length
  · obtain ⟨c, hc⟩ : ∃ c, t[k]? = some c := ⟨_, List.getElem?_eq_getElem hk⟩
    have hd := drop_cons hc
    obtain ⟨_, hc2⟩ := List.getElem?_eq_some_iff.1 hc
    obtain ⟨m, rfl⟩ : ∃ j, m = j + 1 := ⟨m - 1, by omega⟩
    have hwk : IntKind.i64.wrap ((k : Int) + 1) = (k : Int) + 1 := wrap_i64 (by omega) (by omega)
    have hword : bword c = true → rowF n (t.drop k0) = (rowF m (t.drop (k + 1))).map (· + (k + 1 - k0)) := fun hw => by
      rw [hrow, hd, rowF, if_pos hw]
      cases rowF m (List.drop (k + 1) t) with
      | none => simp
      | some j => simp; omega
    simp [hk, h0, h1, hc, hc2]
    refine ac_same (refByte_ok c) (by simp) ?_
    rintro r rfl
    by_cases hb : nb c = true
    · simp [hb, h0, h1, hwk]
      refine nx_intro (t.length - (k + 1)) (by omega) ⟨k + 1, m, rfl, by omega, by omega, by omega, hword (by simp [bword, hb]), by simp [h0], by simp, rfl⟩
    by_cases h46 : c = 46
    · subst h46
      simp [hb, h0, h1, hwk, hc, hc2]
      refine nx_intro (t.length - (k + 1)) (by omega) ⟨k + 1, m, rfl, by omega, by omega, by omega, hword (by simp [bword]), by simp [h0], by simp, rfl⟩
    have h46' := ne_nat (z := 46) rfl h46
    by_cases h63 : c = 63
    · subst h63
      simp [hb, h0, h1, hwk, hc, hc2]
      refine nx_intro (t.length - (k + 1)) (by omega) ⟨k + 1, m, rfl, by omega, by omega, by omega, hword (by simp [bword]), by simp [h0], by simp, rfl⟩
    have h63' := ne_nat (z := 63) rfl h63
    by_cases h42 : c = 42
    · subst h42
      simp [hb, h0, h1, hwk, hc, hc2]
      refine nx_intro (t.length - (k + 1)) (by omega) ⟨k + 1, m, rfl, by omega, by omega, by omega, hword (by simp [bword]), by simp [h0], by simp, rfl⟩
    have h42' := ne_nat (z := 42) rfl h42
    have hnw : bword c = false := by simp [bword, hb, h46, h63, h42]
    by_cases h91 : c = 91
    · subst h91
      simp [hb, h0, h1, hwk, hc, hc2]
      have hstop : bstop 91 = false := by decide
      have hcl0 : clsN (91 :: t.drop (k + 1)) = (clsN (t.drop (k + 1))).map (· + 1) := by rw [clsN]; simp [hstop]
      have hsome : ∀ a, clsN (91 :: t.drop (k + 1)) = some a → rowF n (t.drop k0) = (rowF m (t.drop (k + a))).map (· + (k + a - k0)) := fun a ha => by
        rw [hrow, hd, rowF, hnw, ha]
        simp only [Bool.false_eq_true, if_false, if_true, Option.bind_some]
        rw [← hd, List.drop_drop]
        cases rowF m (List.drop (k + a) t) with
        | none => simp
        | some i => simp; omega
      have hnone : clsN (91 :: t.drop (k + 1)) = none → rowF n (t.drop k0) = none := fun ha => by rw [hrow, hd, rowF, hnw, ha]; simp
      refine lp_gen (fun f' => f' 0 = .str t ∧ f' 1 = .int .i64 (k + 1 : Nat)) ⟨by simp [h0], by simp⟩ ?_
      rintro f0 ⟨u0, u1⟩
      refine lp_startx (fun x f σ => ∃ (j : Nat), x = t.length - j ∧ k + 1 ≤ j ∧ j ≤ t.length ∧ clsN (t.drop (k + 1)) = (clsN (t.drop j)).map (· + (j - (k + 1))) ∧ f 0 = .str t ∧ f 1 = .int .i64 j ∧ σ = []) (t.length - (k + 1)) ?_ ?_
      · exact ⟨k + 1, rfl, Nat.le_refl _, by omega, by simp, u0, u1, rfl⟩
      rintro x' f1 σ' ⟨j, hx', hj1, hj2, hcls, w0, w1, rfl⟩
      by_cases hj : j < t.length
      · obtain ⟨d, hcd⟩ : ∃ d, t[j]? = some d := ⟨_, List.getElem?_eq_getElem hj⟩
        have hdd := drop_cons hcd
        obtain ⟨_, hcd2⟩ := List.getElem?_eq_some_iff.1 hcd
        have hwj : IntKind.i64.wrap ((j : Int) + 1) = (j : Int) + 1 := wrap_i64 (by omega) (by omega)
        rw [hdd, clsN] at hcls
        have hge : ¬ t.length ≤ j := by omega
        have hge' : ¬ (t.length : Int) ≤ (j : Int) := by omega
        by_cases h93 : d = 93
        · subst h93
          have hs93 : bstop 93 = false := by decide
          have hc1 : clsN (91 :: t.drop (k + 1)) = some (j + 1 - k) := by
            rw [hcl0, hcls]; simp [hs93]; omega
          have hfin := hsome _ hc1
          rw [show k + (j + 1 - k) = j + 1 by omega] at hfin
          simp [w0, w1, hj, hge, hge', hcd, hcd2, hwj]
          refine nx_intro (t.length - (j + 1)) (by omega) ⟨j + 1, m, rfl, by omega, by omega, by omega, hfin, by simp [w0], by simp, rfl⟩
        · have h93' := ne_nat (z := 93) rfl h93
          simp [w0, w1, hj, hcd, hcd2, h93']
          refine ac_same (refStop_ok d) (by simp) ?_
          rintro r rfl
          by_cases hs : bstop d = true
          · have hc1 : clsN (91 :: t.drop (k + 1)) = none := by rw [hcl0, hcls]; simp [hs]
            have hfin := hnone hc1
            simp [w0, w1, hj, hcd, hcd2, h93', hs, hge, hge', hfin]
          · simp [w0, w1, hs, hwj]
            refine nx_intro (t.length - (j + 1)) (by omega) ⟨j + 1, rfl, by omega, by omega, ?_, by simp [w0], by simp, rfl⟩
            rw [hcls]
            cases clsN (List.drop (j + 1) t) with
            | none => simp [hs, h93]
            | some i => simp [hs, h93]; omega
      · have hc1 : clsN (91 :: t.drop (k + 1)) = none := by rw [hcl0, hcls, List.drop_of_length_le (by omega)]; simp [clsN]
        have hfin := hnone hc1
        have hge : t.length ≤ j := by omega
        simp [w0, w1, hj, hge, hfin]
    have h91' := ne_nat (z := 91) rfl h91
    by_cases h123 : c = 123
    · subst h123
      simp [hb, h0, h1, hwk, hc, hc2]
      have n91 : ¬ ((123 : UInt8) = 91) := by decide
      have hsome : ∀ a, brcN 0 (123 :: t.drop (k + 1)) = some a → rowF n (t.drop k0) = (rowF m (t.drop (k + a))).map (· + (k + a - k0)) := fun a ha => by
        rw [hrow, hd, rowF, hnw, ha]
        simp only [Bool.false_eq_true, if_false, if_true, Option.bind_some, n91]
        rw [← hd, List.drop_drop]
        cases rowF m (List.drop (k + a) t) with
        | none => simp
        | some i => simp; omega
      have hnone : brcN 0 (123 :: t.drop (k + 1)) = none → rowF n (t.drop k0) = none := fun ha => by rw [hrow, hd, rowF, hnw, ha]; simp
      generalize hB : brcN 0 (123 :: t.drop (k + 1)) = B at hsome hnone
      refine lp_gen (fun f' => f' 0 = .str t ∧ f' 1 = .int .i64 (k : Nat) ∧ f' 5 = .int .i64 0) ⟨by simp [h0], by simp [h1], by simp⟩ ?_
      rintro f0 ⟨u0, u1, u5⟩
      refine lp_startx (fun x f σ => ∃ (j d : Nat), x = t.length - j ∧ k ≤ j ∧ j ≤ t.length ∧ d ≤ j - k ∧ (j = k ∨ 0 < d) ∧ B = (brcN d (t.drop j)).map (· + (j - k)) ∧ f 0 = .str t ∧ f 1 = .int .i64 j ∧ f 5 = .int .i64 d ∧ σ = []) (t.length - k) ?_ ?_
      · exact ⟨k, 0, rfl, Nat.le_refl _, by omega, by omega, .inl rfl, by rw [← hB, ← hd]; simp, u0, u1, u5, rfl⟩
      rintro x' f1 σ' ⟨j, d, hx', hj1, hj2, hdj, hd0, hcls, w0, w1, w5, rfl⟩
      by_cases hj : j < t.length
      · obtain ⟨e, hcd⟩ : ∃ e, t[j]? = some e := ⟨_, List.getElem?_eq_getElem hj⟩
        have hdd := drop_cons hcd
        obtain ⟨_, hcd2⟩ := List.getElem?_eq_some_iff.1 hcd
        have hwj : IntKind.i64.wrap ((j : Int) + 1) = (j : Int) + 1 := wrap_i64 (by omega) (by omega)
        have hwd : IntKind.i64.wrap ((d : Int) + 1) = (d : Int) + 1 := wrap_i64 (by omega) (by omega)
        have hwm : IntKind.i64.wrap ((d : Int) - 1) = (d : Int) - 1 := wrap_i64 (by omega) (by omega)
        have he0 : j = k → e = 123 := fun h => by subst h; rw [hc] at hcd; cases hcd; rfl
        rw [hdd, brcN] at hcls
        simp [w0, w1, hj, hcd, hcd2]
        refine ac_same (refStop_ok e) (by simp) ?_
        rintro r rfl
        by_cases hs : bstop e = true
        · have hd1 : 0 < d := by
            rcases hd0 with h | h
            · have := he0 h; subst this; exact absurd hs (by decide)
            · exact h
          have hdz : ¬ ((d : Int) = 0) := by omega
          have hdz' : ¬ (d = 0) := by omega
          have hfin := hnone (by rw [hcls]; simp [hs])
          simp [w0, w1, w5, hs, hdz, hdz', hfin]
        · have hnext : ∀ d' : Nat, deeper d e = d' → d' ≠ 0 → B = (brcN d' (t.drop (j + 1))).map (· + (j + 1 - k)) := fun d' hd' hz => by
            rw [hcls, hd', if_neg hs, if_neg hz]
            cases brcN d' (List.drop (j + 1) t) with
            | none => simp
            | some i => simp; omega
          have hend : deeper d e = 0 → rowF n (t.drop k0) = (rowF m (t.drop (j + 1))).map (· + (j + 1 - k0)) := fun hz => by
            have := hsome (j + 1 - k) (by rw [hcls, if_neg hs, hz]; simp; omega)
            rwa [show k + (j + 1 - k) = j + 1 by omega] at this
          by_cases e123 : e = 123
          · subst e123
            have hdp : deeper d 123 = d + 1 := by simp [deeper]
            have hdz : ¬ ((d : Int) + 1 = 0) := by omega
            simp [w0, w1, w5, hj, hcd, hcd2, hs, hwj, hwd, hdz]
            refine nx_intro (t.length - (j + 1)) (by omega) ⟨j + 1, d + 1, rfl, by omega, by omega, by omega, .inr (by omega), hnext _ hdp (by omega), by simp [w0], by simp, by simp, rfl⟩
          · have e123' := ne_nat (z := 123) rfl e123
            have hd1 : 0 < d := by
              rcases hd0 with h | h
              · exact absurd (he0 h) e123
              · exact h
            by_cases e125 : e = 125
            · subst e125
              have hdp : deeper d 125 = d - 1 := by simp [deeper]
              by_cases hz : d = 1
              · have hz1 : (d : Int) = 1 := by omega
                have hw0 : IntKind.i64.wrap 0 = 0 := wrap_i64 (by omega) (by omega)
                have hfin := hend (by rw [hdp]; omega)
                simp [w0, w1, w5, hj, hcd, hcd2, hs, hwj, hz1, hw0]
                refine nx_intro (t.length - (j + 1)) (by omega) ⟨j + 1, m, rfl, by omega, by omega, by omega, hfin, by simp [w0], by simp, rfl⟩
              · have hdz : ¬ ((d : Int) - 1 = 0) := by omega
                simp [w0, w1, w5, hj, hcd, hcd2, hs, hwj, hwm, hdz]
                refine nx_intro (t.length - (j + 1)) (by omega) ⟨j + 1, d - 1, rfl, by omega, by omega, by omega, .inr (by omega), hnext _ hdp (by omega), by simp [w0], by simp, by simp; omega, rfl⟩
            · have e125' := ne_nat (z := 125) rfl e125
              have hdp : deeper d e = d := by simp [deeper, e123, e125]
              have hdz : ¬ ((d : Int) = 0) := by omega
              have hdz' : ¬ (d = 0) := by omega
              simp [w0, w1, w5, hj, hcd, hcd2, hs, hwj, e123', e125', hdz, hdz']
              refine nx_intro (t.length - (j + 1)) (by omega) ⟨j + 1, d, rfl, by omega, by omega, by omega, .inr (by omega), hnext _ hdp (by omega), by simp [w0], by simp, by simp [w5], rfl⟩
      · have hd1 : 0 < d := by omega
        have hdz : ¬ ((d : Int) = 0) := by omega
        have hdz' : ¬ (d = 0) := by omega
        have hfin := hnone (by rw [hcls, List.drop_of_length_le (by omega)]; simp [brcN])
        simp [w0, w1, w5, hj, hdz, hdz', hfin]
    have h123' := ne_nat (z := 123) rfl h123
    have hz : rowF (m + 1) (t.drop k) = some 0 := by rw [hd, rowF, hnw]; simp [h91, h123]
    have e : k0 + (k - k0) = k := by omega
    simp [hb, h0, h1, hwk, hc, hc2, h46', h63', h42', h91', h123', hrow, hz, e]
    omega
  · have hz : rowF m (t.drop k) = some 0 := by rw [List.drop_of_length_le (by omega)]; exact rowF_nil m
    have e : k0 + (k - k0) = k := by omega
    simp [hk, h0, h1, hrow, hz, e]
    omega
end Go.Proofs.YtkclehdmdnfikaaDoor
namespace Go.Proofs.YtkclehdmdnfikaaDoor
open Go.Abs Go.Glob Go.Tok
variable {G : Globs}

/-- A slice that grows, somewhere. -/
def Acc0 (e size : Nat) (σ : Store) (v : AV) (l : List (List AV)) : Prop := (l = [] ∧ v = .nils) ∨ (l ≠ [] ∧ ∃ rid, v = .row rid l.length ∧ σ[rid]? = some (.row e size l true))
theorem ap_acc0 {K : AV → Store → Prop} {t : Tg K} {e size bytes : Nat} {σ : Store} {v : AV} {l : List (List AV)} (ex : Store) (h : Acc0 e size σ v l) (x : List AV) (hs : 0 < size) (hx : x.length = size) (hb : (l.length + 1) * bytes ≤ 140737488355328) (h63 : l.length + 1 ≤ 9223372036854775807)
    (hK : ∀ v' σ', Acc0 e size σ' v' (l ++ [x]) → K v' σ') : ap K t (σ ++ ex) e size bytes v (.lst [x]) := by
  rcases h with ⟨rfl, rfl⟩ | ⟨h1, rid, rfl, h4⟩
  · refine ap_new true [x] rfl hs (by simp [hx]) (fun _ => .inl rfl) (by simpa using hb) (by simp) ?_
    exact hK (.row (σ ++ ex).length 1) (σ ++ ex ++ [.row e size [x] true]) (.inr ⟨by simp, (σ ++ ex).length, by simp, by rw [List.getElem?_append_right (Nat.le_refl _)]; simp⟩)
  · have hlt := (List.getElem?_eq_some_iff.1 h4).1
    have h4' : (σ ++ ex)[rid]? = some (.row e size l true) := by rw [List.getElem?_append_left hlt]; exact h4
    have hlt' := (List.getElem?_eq_some_iff.1 h4').1
    refine ap_row l [x] true h4' rfl hs (by simp [hx]) (fun _ => .inl rfl) rfl (by simpa using hb) (by simpa using h63) ?_
    exact hK (.row rid (l.length + 1)) ((σ ++ ex).set rid (.row e size (l ++ [x]) true)) (.inr ⟨by simp, rid, by simp, by rw [List.getElem?_set_self hlt']⟩)
theorem ap_acc00 {K : AV → Store → Prop} {t : Tg K} {e size bytes : Nat} {σ : Store} {v : AV} {l : List (List AV)} (h : Acc0 e size σ v l) (x : List AV) (hs : 0 < size) (hx : x.length = size) (hb : (l.length + 1) * bytes ≤ 140737488355328) (h63 : l.length + 1 ≤ 9223372036854775807)
    (hK : ∀ v' σ', Acc0 e size σ' v' (l ++ [x]) → K v' σ') : ap K t σ e size bytes v (.lst [x]) := by
  have := ap_acc0 (t := t) (bytes := bytes) [] h x hs hx hb h63 hK
  simpa using this

theorem refSplit_ok [GDec] (s : List UInt8) (hs : s.length ≤ 9223372036854775807) : PCalls Tryd.prog n_isobarref22_Split [.str s] (fun r => r = splitAV (Tok.split s)) := by
  refine pcalls_of_awp hmix c_isobarref22_Split rfl ?_
  simp [a_isobarref22_Split]
  by_cases h1k : 1024 < s.length
  · have h1k' : (1024 : Int) < (s.length : Int) := by omega
    simp [h1k, h1k', Tok.split, splitAV]
  have h1k' : ¬ (1024 : Int) < (s.length : Int) := by omega
  simp [h1k, h1k']
  have h3 : s.length ≤ 1000000 := by omega
  refine lp_startx (fun x f σ => ∃ (k n : Nat) (l : List Tk), x = s.length - k ∧ k ≤ s.length ∧ s.length - k ≤ n ∧ l.length ≤ k ∧ splitF s.length 0 s = (splitF n k (s.drop k)).map (l ++ ·) ∧ f 0 = .str s ∧ f 5 = .int .i64 k ∧ Acc0 39 3 σ (f 4) (tkEls l)) s.length ?_ ?_
  · exact ⟨0, s.length, [], by simp, by simp, by simp, by simp, by simp, by simp, by simp, .inl ⟨rfl, by simp⟩⟩
  rintro x f σ ⟨k, n, l, hx, hk2, hn, hlk, hspl, h0, h5, hacc⟩
  have htl : (tkEls l).length = l.length := by simp [tkEls]
  by_cases hk : k < s.length
  · obtain ⟨c, hc⟩ : ∃ c, s[k]? = some c := ⟨_, List.getElem?_eq_getElem hk⟩
    have hd := drop_cons hc
    obtain ⟨_, hc2⟩ := List.getElem?_eq_some_iff.1 hc
    obtain ⟨n, rfl⟩ : ∃ j, n = j + 1 := ⟨n - 1, by omega⟩
    have hwk : IntKind.i64.wrap ((k : Int) + 1) = (k : Int) + 1 := wrap_i64 (by omega) (by omega)
    have hsome : ∀ y, c ≠ 32 → nextT (s.drop k) = some y → splitF s.length 0 s = (splitF n (k + y.2.2) (s.drop (k + y.2.2))).map ((l ++ [⟨y.1, y.2.1, k⟩]) ++ ·) := fun y h32 hy => by
      rw [hspl, hd, splitF, if_neg h32, ← hd, hy]
      simp only [Option.bind_some, List.drop_drop]
      cases splitF n (k + y.2.2) (List.drop (k + y.2.2) s) with
      | none => simp
      | some z => simp
    have hnone : c ≠ 32 → nextT (s.drop k) = none → Tok.split s = .error 16 := fun h32 hy => by
      have : splitF s.length 0 s = none := by rw [hspl, hd, splitF, if_neg h32, ← hd, hy]; rfl
      simp [Tok.split, h1k, this]
    by_cases h32 : c = 32
    · subst h32
      simp [hk, h0, h5, hc, hc2, hwk]
      refine nx_intro (s.length - (k + 1)) (by omega) ⟨k + 1, n, l, rfl, by omega, by omega, by omega, ?_, by simp [h0], by simp, by simpa using hacc⟩
      rw [hspl, hd, splitF, if_pos rfl]
    have h32' := ne_nat (z := 32) rfl h32
    by_cases h40 : c = 40
    · subst h40
      have hn1 : nextT (s.drop k) = some (4, [], 1) := by rw [hd, nextT]; simp
      simp [hk, h0, h5, hc, hc2, hwk]
      refine ap_acc00 hacc _ (by omega) rfl (by omega) (by omega) ?_
      intro v' σ' hacc'
      simp [h5, hwk]
      refine nx_intro (s.length - (k + 1)) (by omega) ⟨k + 1, n, l ++ [⟨4, [], k⟩], rfl, by omega, by omega, by simp; omega, hsome _ h32 hn1, by simp [h0], by simp, by simpa [tkEls] using hacc'⟩
    have h40' := ne_nat (z := 40) rfl h40
    by_cases h41 : c = 41
    · subst h41
      have hn1 : nextT (s.drop k) = some (5, [], 1) := by rw [hd, nextT]; simp
      simp [hk, h0, h5, hc, hc2, hwk]
      refine ap_acc00 hacc _ (by omega) rfl (by omega) (by omega) ?_
      intro v' σ' hacc'
      simp [h5, hwk]
      refine nx_intro (s.length - (k + 1)) (by omega) ⟨k + 1, n, l ++ [⟨5, [], k⟩], rfl, by omega, by omega, by simp; omega, hsome _ h32 hn1, by simp [h0], by simp, by simpa [tkEls] using hacc'⟩
    have h41' := ne_nat (z := 41) rfl h41
    by_cases h44 : c = 44
    · subst h44
      have hn1 : nextT (s.drop k) = some (6, [], 1) := by rw [hd, nextT]; simp
      simp [hk, h0, h5, hc, hc2, hwk]
      refine ap_acc00 hacc _ (by omega) rfl (by omega) (by omega) ?_
      intro v' σ' hacc'
      simp [h5, hwk]
      refine nx_intro (s.length - (k + 1)) (by omega) ⟨k + 1, n, l ++ [⟨6, [], k⟩], rfl, by omega, by omega, by simp; omega, hsome _ h32 hn1, by simp [h0], by simp, by simpa [tkEls] using hacc'⟩
    have h44' := ne_nat (z := 44) rfl h44
    by_cases hqq : c = 39 ∨ c = 34
    · have hq34 : ¬ c = 39 → c = 34 := fun h => hqq.resolve_left h
      have hsu : splitF s.length 0 s = splitF s.length 0 s := rfl
      have hnx : nextT (s.drop k) = if Lib.indexByte (s.drop (k + 1)) c < 0 then none else some (3, (s.drop (k + 1)).take (Lib.indexByte (s.drop (k + 1)) c).toNat, (Lib.indexByte (s.drop (k + 1)) c).toNat + 2) := by
        rw [hd, nextT, if_neg h40, if_neg h41, if_neg h44, if_pos hqq]
      have hgo : ∀ (P : Prop), (c = 39 → P) → (¬ c = 39 → c = 34 → P) → P := fun P h1 h2 => by
        by_cases h : c = 39
        · exact h1 h
        · exact h2 h (hq34 h)
      have hloop : ∀ (f0 : Abs.Frame), True := fun _ => trivial
      refine hgo _ (fun h39 => ?_) (fun h39 h34 => ?_)
      · subst h39
        have hne32 : ¬ ((39 : UInt8) = 32) := by decide
        simp [hk, h0, h5, hc, hc2, hwk]
        refine lp_gen (fun f' => f' 0 = .str s ∧ f' 5 = .int .i64 k ∧ f' 6 = .int .i64 (k + 1 : Nat) ∧ Acc0 39 3 σ (f' 4) (tkEls l)) ⟨by simp [h0], by simp [h5], by simp, by simpa using hacc⟩ ?_
        rintro f0 ⟨u0, u5, u6, u4⟩
        refine lp_startx (fun x f σ' => ∃ (e : Nat), x = s.length - e ∧ k + 1 ≤ e ∧ e ≤ s.length ∧ ((Lib.indexByte (s.drop e) 39 < 0 ∧ Lib.indexByte (s.drop (k + 1)) 39 < 0) ∨ (0 ≤ Lib.indexByte (s.drop e) 39 ∧ Lib.indexByte (s.drop (k + 1)) 39 = Lib.indexByte (s.drop e) 39 + ((e : Int) - (k + 1)))) ∧ f 0 = .str s ∧ f 5 = .int .i64 k ∧ f 6 = .int .i64 e ∧ Acc0 39 3 σ (f 4) (tkEls l) ∧ σ' = σ) (s.length - (k + 1)) ?_ ?_
        · exact ⟨k + 1, rfl, Nat.le_refl _, by omega, by omega, u0, u5, u6, u4, rfl⟩
        rintro x' f1 σ' ⟨e, hx', he1, he2, hidx, w0, w5, w6, w4, rfl⟩
        by_cases he : e < s.length
        · obtain ⟨d, hcd⟩ : ∃ d, s[e]? = some d := ⟨_, List.getElem?_eq_getElem he⟩
          have hdd := drop_cons hcd
          obtain ⟨_, hcd2⟩ := List.getElem?_eq_some_iff.1 hcd
          have hwe : IntKind.i64.wrap ((e : Int) + 1) = (e : Int) + 1 := wrap_i64 (by omega) (by omega)
          have hge : ¬ s.length ≤ e := by omega
          have hge' : ¬ (s.length : Int) ≤ (e : Int) := by omega
          rw [hdd, Lib.indexByte] at hidx
          by_cases hdc : d = 39
          · have hb : (d == 39) = true := by simpa using hdc
            rw [if_pos hb] at hidx
            have hI : Lib.indexByte (s.drop (k + 1)) 39 = (e : Int) - (k + 1) := by omega
            have hneg : ¬ Lib.indexByte (s.drop (k + 1)) 39 < 0 := by omega
            rw [if_neg hneg] at hnx
            have hT : (Lib.indexByte (s.drop (k + 1)) 39).toNat = e - (k + 1) := by omega
            rw [hT] at hnx
            subst hdc
            have q1 : (0 : Int) ≤ (k : Int) + 1 := by omega
            have q2 : (k : Int) + 1 ≤ (e : Int) := by omega
            have q5 : k + 1 ≤ e := he1
            simp [w0, w5, w6, he, hge, hge', hcd, hcd2, hc, hc2, hwk, hwe, q1, q2, q5, he2, List.drop_take]
            refine ap_acc00 w4 _ (by omega) rfl (by omega) (by omega) ?_
            intro v' σ'' hacc'
            simp [w5, w6, hwe]
            refine nx_intro (s.length - (e + 1)) (by omega) ⟨e + 1, n, l ++ [⟨3, (s.drop (k + 1)).take (e - (k + 1)), k⟩], rfl, by omega, by omega, by simp; omega, ?_, by simp [w0], by simp, by simpa [tkEls] using hacc'⟩
            have := hsome _ hne32 hnx
            rw [this]
            have ee : k + (e - (k + 1) + 2) = e + 1 := by omega
            simp only [ee]
          · have hb : (d == 39) = false := by simpa using hdc
            have hge1 := Lib.indexByte_ge (s.drop (e + 1)) 39
            have hdc' : ¬ ((d.toNat : Int) = 39) := ne_nat (z := 39) rfl hdc
            simp only [hb, Bool.false_eq_true, if_false, beq_iff_eq] at hidx
            simp [w0, w5, w6, he, hcd, hcd2, hc, hc2, hwe, hdc']
            refine nx_intro (s.length - (e + 1)) (by omega) ⟨e + 1, rfl, by omega, by omega, ?_, by simp [w0], by simp [w5], by simp, by simpa using w4, rfl⟩
            by_cases hm1 : Lib.indexByte (s.drop (e + 1)) 39 = -1
            · rw [if_pos hm1] at hidx
              left; omega
            · rw [if_neg hm1] at hidx
              right; omega
        · rw [List.drop_of_length_le (by omega), Lib.indexByte] at hidx
          have hneg : Lib.indexByte (s.drop (k + 1)) 39 < 0 := by omega
          rw [if_pos hneg] at hnx
          have hsp := hnone hne32 hnx
          have hge : s.length ≤ e := by omega
          simp [w0, w5, w6, he, hge, hsp, splitAV]
      · subst h34
        have hne32 : ¬ ((34 : UInt8) = 32) := by decide
        simp [hk, h0, h5, hc, hc2, hwk]
        refine lp_gen (fun f' => f' 0 = .str s ∧ f' 5 = .int .i64 k ∧ f' 6 = .int .i64 (k + 1 : Nat) ∧ Acc0 39 3 σ (f' 4) (tkEls l)) ⟨by simp [h0], by simp [h5], by simp, by simpa using hacc⟩ ?_
        rintro f0 ⟨u0, u5, u6, u4⟩
        refine lp_startx (fun x f σ' => ∃ (e : Nat), x = s.length - e ∧ k + 1 ≤ e ∧ e ≤ s.length ∧ ((Lib.indexByte (s.drop e) 34 < 0 ∧ Lib.indexByte (s.drop (k + 1)) 34 < 0) ∨ (0 ≤ Lib.indexByte (s.drop e) 34 ∧ Lib.indexByte (s.drop (k + 1)) 34 = Lib.indexByte (s.drop e) 34 + ((e : Int) - (k + 1)))) ∧ f 0 = .str s ∧ f 5 = .int .i64 k ∧ f 6 = .int .i64 e ∧ Acc0 39 3 σ (f 4) (tkEls l) ∧ σ' = σ) (s.length - (k + 1)) ?_ ?_
        · exact ⟨k + 1, rfl, Nat.le_refl _, by omega, by omega, u0, u5, u6, u4, rfl⟩
        rintro x' f1 σ' ⟨e, hx', he1, he2, hidx, w0, w5, w6, w4, rfl⟩
        by_cases he : e < s.length
        · obtain ⟨d, hcd⟩ : ∃ d, s[e]? = some d := ⟨_, List.getElem?_eq_getElem he⟩
          have hdd := drop_cons hcd
          obtain ⟨_, hcd2⟩ := List.getElem?_eq_some_iff.1 hcd
          have hwe : IntKind.i64.wrap ((e : Int) + 1) = (e : Int) + 1 := wrap_i64 (by omega) (by omega)
          have hge : ¬ s.length ≤ e := by omega
          have hge' : ¬ (s.length : Int) ≤ (e : Int) := by omega
          rw [hdd, Lib.indexByte] at hidx
          by_cases hdc : d = 34
          · have hb : (d == 34) = true := by simpa using hdc
            rw [if_pos hb] at hidx
            have hI : Lib.indexByte (s.drop (k + 1)) 34 = (e : Int) - (k + 1) := by omega
            have hneg : ¬ Lib.indexByte (s.drop (k + 1)) 34 < 0 := by omega
            rw [if_neg hneg] at hnx
            have hT : (Lib.indexByte (s.drop (k + 1)) 34).toNat = e - (k + 1) := by omega
            rw [hT] at hnx
            subst hdc
            have q1 : (0 : Int) ≤ (k : Int) + 1 := by omega
            have q2 : (k : Int) + 1 ≤ (e : Int) := by omega
            have q5 : k + 1 ≤ e := he1
            simp [w0, w5, w6, he, hge, hge', hcd, hcd2, hc, hc2, hwk, hwe, q1, q2, q5, he2, List.drop_take]
            refine ap_acc00 w4 _ (by omega) rfl (by omega) (by omega) ?_
            intro v' σ'' hacc'
            simp [w5, w6, hwe]
            refine nx_intro (s.length - (e + 1)) (by omega) ⟨e + 1, n, l ++ [⟨3, (s.drop (k + 1)).take (e - (k + 1)), k⟩], rfl, by omega, by omega, by simp; omega, ?_, by simp [w0], by simp, by simpa [tkEls] using hacc'⟩
            have := hsome _ hne32 hnx
            rw [this]
            have ee : k + (e - (k + 1) + 2) = e + 1 := by omega
            simp only [ee]
          · have hb : (d == 34) = false := by simpa using hdc
            have hge1 := Lib.indexByte_ge (s.drop (e + 1)) 34
            have hdc' : ¬ ((d.toNat : Int) = 34) := ne_nat (z := 34) rfl hdc
            simp only [hb, Bool.false_eq_true, if_false, beq_iff_eq] at hidx
            simp [w0, w5, w6, he, hcd, hcd2, hc, hc2, hwe, hdc']
            refine nx_intro (s.length - (e + 1)) (by omega) ⟨e + 1, rfl, by omega, by omega, ?_, by simp [w0], by simp [w5], by simp, by simpa using w4, rfl⟩
            by_cases hm1 : Lib.indexByte (s.drop (e + 1)) 34 = -1
            · rw [if_pos hm1] at hidx
              left; omega
            · rw [if_neg hm1] at hidx
              right; omega
        · rw [List.drop_of_length_le (by omega), Lib.indexByte] at hidx
          have hneg : Lib.indexByte (s.drop (k + 1)) 34 < 0 := by omega
          rw [if_pos hneg] at hnx
          have hsp := hnone hne32 hnx
          have hge : s.length ≤ e := by omega
          simp [w0, w5, w6, he, hge, hsp, splitAV]
    · have h39' := ne_nat (c := c) (n := 39) (z := 39) rfl (fun h => hqq (.inl h))
      have h34' := ne_nat (c := c) (n := 34) (z := 34) rfl (fun h => hqq (.inr h))
      simp [hk, h0, h5, hc, hc2, hwk, h32', h40', h41', h44', h39', h34']
      refine ac_same (refRow_ok s k (s.length - k) (by omega) h3 (Nat.le_refl _)) (by simp) ?_
      rintro r rfl
      have hlen : (s.drop (k + 1)).length + 1 = s.length - k := by rw [List.length_drop]; omega
      have hnx : nextT (s.drop k) = match rowF (s.length - k) (s.drop k) with
        | none => none
        | some 0 => none
        | some (j + 1) => some (if isNum ((s.drop k).take (j + 1)) then 2 else 1, (s.drop k).take (j + 1), j + 1) := by
        rw [hd, nextT, if_neg h40, if_neg h41, if_neg h44, if_neg hqq, hlen]
        cases rowF (s.length - k) (c :: s.drop (k + 1)) with
        | none => rfl
        | some m => cases m <;> rfl
      cases hrw : rowF (s.length - k) (s.drop k) with
      | none =>
        rw [hrw] at hnx
        have hsp := hnone h32 hnx
        have hneg : (-1 : Int) ≤ (k : Int) := by omega
        simp [h5, hneg, hsp, splitAV]
      | some m =>
        have hml := rowF_le _ _ _ hrw
        rw [List.length_drop] at hml
        rw [hrw] at hnx
        cases m with
        | zero =>
          have hsp := hnone h32 hnx
          simp [h5, hsp, splitAV]
        | succ j =>
          have hgt : ¬ (k : Int) + ((j : Int) + 1) ≤ (k : Int) := by omega
          have hgt2 : ¬ (k : Int) + (j : Int) + 1 ≤ (k : Int) := by omega
          have q1 : (0 : Int) ≤ (k : Int) + ((j : Int) + 1) := by omega
          have q2 : (k : Int) ≤ (k : Int) + ((j : Int) + 1) := by omega
          have q3 : ((k : Int) + ((j : Int) + 1)).toNat = k + (j + 1) := by omega
          have q4 : k + (j + 1) ≤ s.length := by omega
          have e1 : ((s.take (k + (j + 1))).drop k) = (s.drop k).take (j + 1) := by rw [List.drop_take]; congr 1; omega
          simp [h0, h5, hgt, hgt2, q1, q2, q3, q4, e1]
          refine ac_same (rParse_ok ((s.drop k).take (j + 1)) (by simp; omega)) (by simp) ?_
          rintro r rfl
          cases hp : Dec.parse ((s.drop k).take (j + 1)) with
          | ok z =>
            have hin : isNum ((s.drop k).take (j + 1)) = true := by simp [isNum, hp]
            have hnx2 : nextT (s.drop k) = some (2, (s.drop k).take (j + 1), j + 1) := by rw [hnx]; simp [hin]
            simp [numAV, h5]
            refine ap_acc0 _ hacc _ (by omega) rfl (by omega) (by omega) ?_
            intro v' σ' hacc'
            simp [h5]
            refine nx_intro (s.length - (k + (j + 1))) (by omega) ⟨k + (j + 1), n, l ++ [⟨2, (s.drop k).take (j + 1), k⟩], rfl, by omega, by omega, by simp; omega, hsome _ h32 hnx2, by simp [h0], by simp, by simpa [tkEls] using hacc'⟩
          | error e =>
            have he : ¬ e = 0 := Dec.parse_err hp
            have hin : isNum ((s.drop k).take (j + 1)) = false := by simp [isNum, hp]
            have hnx2 : nextT (s.drop k) = some (1, (s.drop k).take (j + 1), j + 1) := by rw [hnx]; simp [hin]
            simp [numAV, h5, he]
            refine ap_acc0 _ hacc _ (by omega) rfl (by omega) (by omega) ?_
            intro v' σ' hacc'
            simp [h5]
            refine nx_intro (s.length - (k + (j + 1))) (by omega) ⟨k + (j + 1), n, l ++ [⟨1, (s.drop k).take (j + 1), k⟩], rfl, by omega, by omega, by simp; omega, hsome _ h32 hnx2, by simp [h0], by simp, by simpa [tkEls] using hacc'⟩
  · have hsp : Tok.split s = if 256 < l.length then .error 11 else .ok l := by
      have h0 : splitF s.length 0 s = some l := by
        rw [hspl, List.drop_of_length_le (by omega)]
        cases n <;> simp [splitF]
      simp [Tok.split, h1k, h0]
    rw [hsp]
    rcases hacc with ⟨h1, h4⟩ | ⟨h1, rid, h4, he⟩
    · have hl0 : l = [] := by simpa [tkEls] using h1
      subst hl0
      simp [hk, h0, h5, h4, splitAV, view, tkEls]
    · by_cases h256 : 256 < l.length
      · have h256' : (256 : Int) < (l.length : Int) := by omega
        simp [hk, h0, h5, h4, view, he, htl, h256, h256', splitAV]
      · have h256' : ¬ (256 : Int) < (l.length : Int) := by omega
        simp [hk, h0, h5, h4, view, he, htl, h256, h256', splitAV]
end Go.Proofs.YtkclehdmdnfikaaDoor
namespace Go.Tok
def text0 : List UInt8 := [115, 117, 109, 40, 97, 46, 123, 98, 44, 99, 125, 44, 32, 49, 46, 53, 44, 32, 39, 120, 32, 121, 39, 41]
def list0 : List Tk := [⟨1, [115, 117, 109], 0⟩, ⟨4, [], 3⟩, ⟨1, [97, 46, 123, 98, 44, 99, 125], 4⟩, ⟨6, [], 11⟩, ⟨2, [49, 46, 53], 13⟩, ⟨6, [], 16⟩, ⟨3, [120, 32, 121], 18⟩, ⟨5, [], 23⟩]
set_option maxRecDepth 100000 in
theorem split0 : split text0 = .ok list0 := by kernel_rfl
end Go.Tok
namespace Go.Proofs.YtkclehdmdnfikaaDoor
open Go.Abs Go.Glob Go.Tok
variable {G : Globs}

theorem talive_ok [GDec] : PCalls Tryd.prog n_isobarlaw22_alive [] (fun r => r = .bool true) := by
  refine pcalls_of_awp hmix c_isobarlaw22_alive rfl ?_
  simp [a_isobarlaw22_alive]
  refine ac_same (tsplit_ok text0 (by simp [text0])) (by simp [text0]) ?_
  rintro r rfl
  rw [split0]
  simp [splitAV, tkEls, list0]

theorem refSame_ok (l : List Tk) (hl : l.length ≤ 1000000) : PCalls Tryd.prog n_isobarref22_Same [.lst (tkEls l), .lst (tkEls l)] (fun r => r = .bool true) := by
  refine pcalls_of_awp hmix c_isobarref22_Same rfl ?_
  have htl : (tkEls l).length = l.length := by simp [tkEls]
  simp [a_isobarref22_Same, htl]
  refine lp_startx (fun x f σ => ∃ (i : Nat), x = l.length - i ∧ i ≤ l.length ∧ f 0 = .lst (tkEls l) ∧ f 1 = .lst (tkEls l) ∧ f 5 = .int .i64 i ∧ σ = []) l.length ?_ ?_
  · exact ⟨0, by simp, by simp, by simp, by simp, by simp, rfl⟩
  rintro x f σ ⟨i, hx, hi, h0, h1, h5, rfl⟩
  have hwi : IntKind.i64.wrap ((i : Int) + 1) = (i : Int) + 1 := wrap_i64 (by omega) (by omega)
  by_cases hk : i < l.length
  · obtain ⟨y, hy⟩ : ∃ y, l[i]? = some y := ⟨_, List.getElem?_eq_getElem hk⟩
    have hse : (tkEls l)[i]? = some [.int .i64 y.kind, .str y.text, .int .i64 y.place] := by simp [tkEls, hy]
    obtain ⟨hx1, hx2⟩ := List.getElem?_eq_some_iff.1 hse
    simp [h0, h1, h5, htl, hk, hx1, hx2, hwi]
    refine nx_intro (l.length - (i + 1)) (by omega) ⟨i + 1, rfl, by omega, by simp [h0], by simp [h1], by simp, rfl⟩
  · simp [h0, h1, h5, htl, hk]

/-- Any target is split as the document says. -/
theorem tsplits_law [GDec] (s : List UInt8) (hs : s.length ≤ 9223372036854775807) : PCalls Tryd.prog n_isobarlaw22_TokensSplit [.str s] (fun r => r = .bool true) := by
  refine pcalls_of_awp hmix c_isobarlaw22_TokensSplit rfl ?_
  simp [a_isobarlaw22_TokensSplit]
  refine ac_same talive_ok (by simp) ?_
  rintro r rfl
  simp
  refine ac_same (tsplit_ok s hs) (by simp) ?_
  rintro r rfl
  obtain ⟨l, e, hl, h1⟩ : ∃ (l : List Tk) (e : Int), l.length ≤ 256 ∧ splitAV (Tok.split s) = .tup [.lst (tkEls l), .int .i64 e] := by
    unfold Tok.split
    by_cases h : 1024 < s.length
    · exact ⟨[], 12, by simp, by rw [if_pos h]; rfl⟩
    rw [if_neg h]
    cases splitF s.length 0 s with
    | none => exact ⟨[], 16, by simp, rfl⟩
    | some l =>
      by_cases h2 : 256 < l.length
      · exact ⟨[], 11, by simp, by simp [h2]; rfl⟩
      · exact ⟨l, 0, by omega, by simp [h2]; rfl⟩
  rw [h1]
  simp
  refine ac_same (refSplit_ok s hs) (by simp) ?_
  rintro r rfl
  rw [h1]
  simp
  refine ac_same (refSame_ok l (by omega)) (by simp [tkEls]) ?_
  rintro r rfl
  simp
end Go.Proofs.YtkclehdmdnfikaaDoor
