/- A target's tokens: the laws of Join, of what is joined and split, and of blanks. -/
import Derived.Test.YtkclehdmdnfikaaDoorTkQ
set_option linter.unusedSimpArgs false
set_option linter.unusedVariables false
set_option linter.constructorNameAsVariable false
set_option maxHeartbeats 4000000
namespace Go.Proofs.YtkclehdmdnfikaaDoor
open Go.Abs Go.Glob Go.Tok Go.Joi
variable {G : Globs}

theorem tjoin_law [GDec] (l : List TkA) (hl : l.length ≤ 9223372036854775807) (ht : ∀ x ∈ l, x.2.1.length ≤ 9223372036854775807) : PCalls Tryd.prog n_isobarlaw22_TokensJoin [.lst (tkA l)] (fun r => r = .bool true) := by
  refine pcalls_of_awp hmix c_isobarlaw22_TokensJoin rfl ?_
  simp [a_isobarlaw22_TokensJoin]
  have hle : (tkA l).length = l.length := by simp [tkA]
  refine ac_same talive_ok (by simp) ?_
  rintro r rfl
  simp
  refine ac_same (great_ok l hl ht) (by simp) ?_
  rintro r rfl
  cases hg : greatB l with
  | true => simp
  | false =>
  have hs := small_of hg
  have hl5 := hs.len
  simp
  refine lp_startx (fun x f σ => ∃ (i : Nat), x = l.length - i ∧ i ≤ l.length ∧ f 0 = .lst (tkA l) ∧ f 3 = .int .i64 i ∧ σ = []) l.length ?_ ?_
  · exact ⟨0, by simp, by simp, by simp, by simp, rfl⟩
  rintro x f σ ⟨i, hx, hi, h0, h3, rfl⟩
  have hwi : IntKind.i64.wrap ((i : Int) + 1) = (i : Int) + 1 := wrap_i64 (by omega) (by omega)
  by_cases hlt : i < l.length
  · obtain ⟨y, hy⟩ : ∃ y, l[i]? = some y := ⟨_, List.getElem?_eq_getElem hlt⟩
    have hse : (tkA l)[i]? = some [.int .i64 y.1, .str y.2.1, .int .i64 y.2.2] := by simp [tkA, hy]
    obtain ⟨hx1, hx2⟩ := List.getElem?_eq_some_iff.1 hse
    have hyk := ht y (List.mem_of_getElem? hy)
    have hlt' : (i : Int) < (l.length : Int) := by omega
    simp [h0, h3, hle, hlt, hlt', hx1, hx2]
    refine qc_same (tright_ok y.1 y.2.2 y.2.1 hyk) (by simp [tokA]) (by simp) ?_
    simp [h0, h3, hle, hlt, hlt', hx1, hx2]
    refine qc_same (rright_ok y.1 y.2.2 y.2.1 hyk) (by simp [tokA]) (by simp) ?_
    simp [h3, hwi]
    refine nx_intro (l.length - (i + 1)) (by omega) ⟨i + 1, rfl, by omega, by simp [h0], by simp, rfl⟩
  · have hlt' : ¬ (i : Int) < (l.length : Int) := by omega
    simp [h0, h3, hle, hlt, hlt']
    refine ac_same (tJoin_ok l hs) (by simp) ?_
    rintro r rfl
    cases hr : allRight l with
    | true =>
      simp [joinAV, hr, h0]
      refine ac_same (rtJoin_ok l hs) (by simp) ?_
      rintro r rfl
      simp [joinAV, hr]
    | false =>
      simp [joinAV, hr, h0]
      refine ac_same (rtJoin_ok l hs) (by simp) ?_
      rintro r rfl
      simp [joinAV, hr]

def ktA (x : TkA) : Int × List UInt8 := (x.1, x.2.1)
theorem alike_ok (l m : List TkA) (hl : l.length ≤ 1000000) (h : l.map ktA = m.map ktA) : PCalls Tryd.prog n_isobarref22_Alike [.lst (tkA l), .lst (tkA m)] (fun r => r = .bool true) := by
  refine pcalls_of_awp hmix c_isobarref22_Alike rfl ?_
  have hle : (tkA l).length = l.length := by simp [tkA]
  have hlm : (tkA m).length = l.length := by
    have := congrArg List.length h
    simp at this
    simp [tkA, this]
  simp [a_isobarref22_Alike, hle, hlm]
  refine lp_startx (fun x f σ => ∃ (i : Nat), x = l.length - i ∧ i ≤ l.length ∧ f 0 = .lst (tkA l) ∧ f 1 = .lst (tkA m) ∧ f 5 = .int .i64 i ∧ σ = []) l.length ?_ ?_
  · exact ⟨0, by simp, by simp, by simp, by simp, by simp, rfl⟩
  rintro x f σ ⟨i, hx, hi, h0, h1, h5, rfl⟩
  have hwi : IntKind.i64.wrap ((i : Int) + 1) = (i : Int) + 1 := wrap_i64 (by omega) (by omega)
  by_cases hlt : i < l.length
  · obtain ⟨y, hy⟩ : ∃ y, l[i]? = some y := ⟨_, List.getElem?_eq_getElem hlt⟩
    have hm1 : (m.map ktA)[i]? = some (ktA y) := by rw [← h]; simp [hy]
    rw [List.getElem?_map, Option.map_eq_some_iff] at hm1
    obtain ⟨z, hz, hzy⟩ := hm1
    have z1 : z.1 = y.1 := show (ktA z).1 = (ktA y).1 by rw [hzy]
    have z2 : z.2.1 = y.2.1 := show (ktA z).2 = (ktA y).2 by rw [hzy]
    have hse : (tkA l)[i]? = some [.int .i64 y.1, .str y.2.1, .int .i64 y.2.2] := by simp [tkA, hy]
    have hsm : (tkA m)[i]? = some [.int .i64 y.1, .str y.2.1, .int .i64 z.2.2] := by simp [tkA, hz, z1, z2]
    obtain ⟨hx1, hx2⟩ := List.getElem?_eq_some_iff.1 hse
    obtain ⟨hy1, hy2⟩ := List.getElem?_eq_some_iff.1 hsm
    have hlt' : (i : Int) < (l.length : Int) := by omega
    simp [h0, h1, h5, hle, hlm, hlt, hlt', hx1, hx2, hy1, hy2, hwi]
    refine nx_intro (l.length - (i + 1)) (by omega) ⟨i + 1, rfl, by omega, by simp [h0], by simp [h1], by simp, rfl⟩
  · have hlt' : ¬ (i : Int) < (l.length : Int) := by omega
    simp [h0, h5, hle, hlt, hlt']
def ofTk (l : List Tk) : List TkA := l.map fun x => (x.kind, x.text, (x.place : Int))
theorem tkEls_of (l : List Tk) : tkEls l = tkA (ofTk l) := by simp [tkEls, tkA, ofTk]
theorem ofTk_kt (l : List Tk) : (ofTk l).map ktA = l.map kt := by simp [ofTk, ktA, kt]

theorem tback_law [GDec] (l : List TkA) (hl : l.length ≤ 9223372036854775807) (ht : ∀ x ∈ l, x.2.1.length ≤ 9223372036854775807) : PCalls Tryd.prog n_isobarlaw22_TokensBack [.lst (tkA l)] (fun r => r = .bool true) := by
  refine pcalls_of_awp hmix c_isobarlaw22_TokensBack rfl ?_
  simp [a_isobarlaw22_TokensBack]
  have hle : (tkA l).length = l.length := by simp [tkA]
  refine ac_same talive_ok (by simp) ?_
  rintro r rfl
  simp
  refine ac_same (great_ok l hl ht) (by simp) ?_
  rintro r rfl
  cases hg : greatB l with
  | true => simp
  | false =>
  have hs := small_of hg
  have hl5 := hs.len
  simp
  refine ac_same (tJoin_ok l hs) (by simp) ?_
  rintro r rfl
  cases hr : allRight l with
  | false => simp [joinAV, hr]
  | true =>
  simp [joinAV, hr]
  have hjl := hs.join l.length
  rw [List.take_of_length_le (Nat.le_refl _)] at hjl
  refine ac_same (tsplit_ok (jT l) (by omega)) (by simp) ?_
  rintro r rfl
  have hsp := spl_split (join_spl l (fun x hx => by rw [allRight, List.all_eq_true] at hr; exact hr x hx))
  rw [show Lib.join (l.map fun x => textOf x.1 x.2.1) [32] = jT l from rfl, List.length_map] at hsp
  rcases hsp with ⟨h1, h2⟩ | ⟨h1, h2, h3⟩ | ⟨h1, h2, m, h3, h4⟩
  · have h1' : (1024 : Int) < ((jT l).length : Int) := by omega
    simp [h2, splitAV, h1, h1']
  · have h1' : ¬ (1024 : Int) < ((jT l).length : Int) := by omega
    have h2' : (256 : Int) < (l.length : Int) := by omega
    simp [h3, splitAV, h1, h1', hle, h2, h2']
  · have h1' : ¬ (1024 : Int) < ((jT l).length : Int) := by omega
    have h2' : ¬ (256 : Int) < (l.length : Int) := by omega
    simp [h3, splitAV, h1, h1', hle, h2, h2']
    rw [tkEls_of]
    refine ac_same (alike_ok l (ofTk m) (by omega) (by rw [ofTk_kt, h4]; rfl)) (by simp) ?_
    rintro r rfl
    simp

theorem tblanks_law [GDec] (s : List UInt8) (g : UInt8) (hs : s.length ≤ 9223372036854775807) : PCalls Tryd.prog n_isobarlaw22_TokensBlanks [.str s, .int .u8 g.toNat] (fun r => r = .bool true) := by
  refine pcalls_of_awp hmix c_isobarlaw22_TokensBlanks rfl ?_
  simp [a_isobarlaw22_TokensBlanks]
  refine ac_same talive_ok (by simp) ?_
  rintro r rfl
  simp
  refine ac_same (tsplit_ok s hs) (by simp) ?_
  rintro r rfl
  cases hsp : Tok.split s with
  | error e =>
    have he := split_err hsp
    have he' : ¬ ((e : Int) = 0) := by omega
    simp [splitAV, he, he']
  | ok l =>
  obtain ⟨hl1, hl2, hl3⟩ := split_lens hsp
  simp [splitAV]
  have hch : Chain s 0 l := by
    unfold Tok.split at hsp
    split at hsp
    · cases hsp
    cases hs : splitF s.length 0 s with
    | none => rw [hs] at hsp; cases hsp
    | some m =>
      rw [hs] at hsp
      simp only at hsp
      split at hsp
      · cases hsp
      · cases hsp
        exact split_chain s _ _ _ _ hs (Nat.le_refl _) rfl (Nat.zero_le _)
  have htl : (tkEls l).length = l.length := by simp [tkEls]
  have hwl := wide_len s g.toNat l 0 0 hch
  refine lp_startx (fun x f σ => ∃ (i : Nat) (acc : List UInt8), x = l.length - i ∧ i ≤ l.length ∧ wideL s g.toNat 0 l = acc ++ wideL s g.toNat i (l.drop i) ∧ (∃ a, Chain s a (l.drop i)) ∧ f 0 = .str s ∧ f 1 = .int .u8 g.toNat ∧ f 5 = .lst (tkEls l) ∧ f 7 = .str acc ∧ f 8 = .int .i64 i ∧ σ = []) l.length ?_ ?_
  · exact ⟨0, [], by simp, by simp, by simp, ⟨0, by simpa using hch⟩, by simp, by simp, by simp, by simp, by simp, rfl⟩
  rintro x f σ ⟨i, acc, hx, hi, hw, ⟨a, hca⟩, h0, h1, h5, h7, h8, rfl⟩
  have hwi : IntKind.i64.wrap ((i : Int) + 1) = (i : Int) + 1 := wrap_i64 (by omega) (by omega)
  have hacc : acc.length ≤ 5000 := by
    have := congrArg List.length hw
    rw [List.length_append] at this
    omega
  by_cases hlt : i < l.length
  · obtain ⟨y, hy⟩ : ∃ y, l[i]? = some y := ⟨_, List.getElem?_eq_getElem hlt⟩
    have hse : (tkEls l)[i]? = some [.int .i64 y.kind, .str y.text, .int .i64 y.place] := by simp [tkEls, hy]
    obtain ⟨hx1, hx2⟩ := List.getElem?_eq_some_iff.1 hse
    have hdl : l.drop i = y :: l.drop (i + 1) := drop_cons hy
    have hlt' : (i : Int) < (l.length : Int) := by omega
    have hg := g.toNat_lt
    rw [hdl] at hw hca
    obtain ⟨c1, c2, c3, m, c4, c5, c6⟩ := hca
    obtain ⟨q1, q2, q3⟩ := chain_nx c6
    rw [wideL] at hw
    generalize hE : nx s (l.drop (i + 1)) = E at q1 q2 q3 hw
    have hacc2 : acc.length + 5 + (E - y.place) ≤ 10000 := by omega
    have hwg : IntKind.i64.wrap ((g.toNat : Int) + (i : Int)) = (g.toNat : Int) + (i : Int) := wrap_i64 (by omega) (by omega)
    obtain ⟨Q, hQ⟩ : ∃ Q : Nat, (g.toNat + i) % 5 = Q := ⟨_, rfl⟩
    have hQ5 : Q < 5 := by omega
    have hmd : ((g.toNat : Int) + (i : Int)).tmod 5 = (Q : Int) := by rw [Int.tmod_eq_emod_of_nonneg (by omega)]; omega
    have hwm : IntKind.i64.wrap (Q : Int) = (Q : Int) := wrap_i64 (by omega) (by omega)
    have hwm1 : IntKind.i64.wrap ((Q : Int) + 1) = (Q : Int) + 1 := wrap_i64 (by omega) (by omega)
    have hwg0 : IntKind.i64.wrap (g.toNat : Int) = (g.toNat : Int) := wrap_i64 (by omega) (by omega)
    rw [hQ] at hw
    simp [h0, h1, h5, h7, h8, htl, hlt, hlt']
    refine lp_gen (fun f' => f' 0 = .str s ∧ f' 1 = .int .u8 g.toNat ∧ f' 5 = .lst (tkEls l) ∧ f' 7 = .str acc ∧ f' 8 = .int .i64 i ∧ f' 9 = .int .i64 0) ⟨by simp [h0], by simp [h1], by simp [h5], by simp [h7], by simp [h8], by simp⟩ ?_
    rintro f0 ⟨u0, u1, u5, u7, u8, u9⟩
    refine lp_startx (fun x f σ => ∃ (j : Nat), x = Q + 1 - j ∧ j ≤ Q + 1 ∧ f 0 = .str s ∧ f 1 = .int .u8 g.toNat ∧ f 5 = .lst (tkEls l) ∧ f 7 = .str (acc ++ List.replicate j 32) ∧ f 8 = .int .i64 i ∧ f 9 = .int .i64 j ∧ σ = []) (Q + 1) ?_ ?_
    · exact ⟨0, rfl, by omega, u0, u1, u5, by simp [u7], u8, u9, rfl⟩
    rintro x' f1 σ' ⟨j, hx', hj, w0, w1, w5, w7, w8, w9, rfl⟩
    by_cases hjl : j < Q + 1
    · have hjl' : (j : Int) < (Q : Int) + 1 := by omega
      have hwj : IntKind.i64.wrap ((j : Int) + 1) = (j : Int) + 1 := wrap_i64 (by omega) (by omega)
      have hln : acc.length + j ≤ 9223372036854775806 := by omega
      have hln2 : acc.length + j + 1 ≤ 9223372036854775807 := by omega
      simp [w0, w1, w5, w7, w8, w9, hwg0, hwg, hmd, hwm, hwm1, hjl, hjl', hwj, hln, hln2]
      refine nx_intro (Q + 1 - (j + 1)) (by omega) ⟨j + 1, rfl, by omega, by simp [w0], by simp [w1], by simp [w5], ?_, by simp [w8], by simp, rfl⟩
      simp [List.replicate_succ', List.append_assoc]
    · have hjl' : ¬ (j : Int) < (Q : Int) + 1 := by omega
      have hjq : j = Q + 1 := by omega
      subst hjq
      have hwnew : wideL s g.toNat 0 l = (acc ++ (List.replicate (Q + 1) 32 ++ (s.drop y.place).take (E - y.place))) ++ wideL s g.toNat (i + 1) (l.drop (i + 1)) := by rw [hw]; simp only [List.append_assoc]
      have hp0 : (y.place : Int) ≤ (E : Int) := by omega
      have hp1 : y.place ≤ E := by omega
      have hp2 : (E : Int) ≤ (s.length : Int) := by omega
      have hln : acc.length + (Q + 1) + (E - y.place) ≤ 9223372036854775807 := by omega
      have hchn : ∃ a, Chain s a (l.drop (i + 1)) := ⟨_, c6⟩
      by_cases hn : i + 1 < l.length
      · obtain ⟨z, hz⟩ : ∃ z, l[i + 1]? = some z := ⟨_, List.getElem?_eq_getElem hn⟩
        have hsz : (tkEls l)[i + 1]? = some [.int .i64 z.kind, .str z.text, .int .i64 z.place] := by simp [tkEls, hz]
        obtain ⟨hz1, hz2⟩ := List.getElem?_eq_some_iff.1 hsz
        have hEz : E = z.place := by rw [← hE, drop_cons hz]; rfl
        have hn' : (i : Int) + 1 < (l.length : Int) := by omega
        have ht1 : ((i : Int) + 1).toNat = i + 1 := by omega
        have ht2 : (0 : Int) ≤ (i : Int) + 1 := by omega
        subst hEz
        simp [ht1, ht2, w0, w1, w5, w7, w8, w9, hwg0, hwg, hmd, hwm, hwm1, hjl', hwi, htl, hn, hn', hz1, hz2, hx1, hx2, hlt, hp0, hp1, hp2, q2, hln]
        refine nx_intro (l.length - (i + 1)) (by omega) ⟨i + 1, _, rfl, by omega, ?_, hchn, by simp [w0], by simp [w1], by simp [w5], by simp; rfl, by simp, rfl⟩
        simpa [List.append_assoc, List.drop_take] using hwnew
      · have hEz : E = s.length := by rw [← hE, List.drop_of_length_le (by omega)]; rfl
        have hn' : ¬ (i : Int) + 1 < (l.length : Int) := by omega
        subst hEz
        simp [w0, w1, w5, w7, w8, w9, hwg0, hwg, hmd, hwm, hwm1, hjl', hwi, htl, hn, hn', hx1, hx2, hlt, hp0, hp1, hp2, q2, hln]
        refine nx_intro (l.length - (i + 1)) (by omega) ⟨i + 1, _, rfl, by omega, ?_, hchn, by simp [w0], by simp [w1], by simp [w5], by simp; rfl, by simp, rfl⟩
        have e2 : (s.drop y.place).take (s.length - y.place) = s.drop y.place := List.take_of_length_le (by simp)
        rw [e2] at hwnew
        simpa [List.append_assoc] using hwnew
  · have hil : i = l.length := by omega
    subst hil
    have hlt' : ¬ (l.length : Int) < (l.length : Int) := by omega
    rw [List.drop_length] at hw
    simp only [wideL, List.append_nil] at hw
    obtain ⟨hsplw, _⟩ := wide_spl s g.toNat l 0 0 hch
    rw [hw] at hsplw
    simp [h0, h5, h7, h8, htl, hlt, hlt']
    refine ac_same (tsplit_ok acc (by omega)) (by simp) ?_
    rintro r rfl
    have hsp2 := spl_split hsplw
    rw [List.length_map] at hsp2
    rcases hsp2 with ⟨g1, g2⟩ | ⟨g1, g2, g3⟩ | ⟨g1, g2, m, g3, g4⟩
    · have g1' : (1024 : Int) < (acc.length : Int) := by omega
      simp [g2, splitAV, h7, g1, g1']
    · omega
    · have g1' : ¬ (1024 : Int) < (acc.length : Int) := by omega
      simp [g3, splitAV, h5, h7, g1, g1']
      rw [tkEls_of, tkEls_of]
      refine ac_same (alike_ok (ofTk l) (ofTk m) (by simp [ofTk]; omega) (by rw [ofTk_kt, ofTk_kt, g4])) (by simp) ?_
      rintro r rfl
      simp
end Go.Proofs.YtkclehdmdnfikaaDoor
