/- Points as lines: the document's Right and Words; alive; the laws of what is printed and parsed. -/
import Derived.Test.YtddpegkbmdcgbaaGreatDoorLnB
set_option linter.unusedSimpArgs false
set_option linter.unusedVariables false
set_option linter.constructorNameAsVariable false
set_option maxHeartbeats 4000000
namespace Go.Proofs.YtddpegkbmdcgbaaGreatDoor
open Go.Abs Go.Glob Go.Line Go.Dec Go.Trail
variable {G : Globs}

theorem rplain_ok (s : List UInt8) (hs : s.length ≤ 9223372036854775807) : PCalls Tryz.prog n_isobarref15_Plain [.str s] (fun r => r = .bool (s.all nb && !s.isEmpty)) := by
  refine pcalls_of_awp hmix c_isobarref15_Plain rfl ?_
  simp [a_isobarref15_Plain]
  refine lp_startx (fun x f σ => ∃ (i : Nat), x = s.length - i ∧ i ≤ s.length ∧ s.all nb = (s.drop i).all nb ∧ f 0 = .str s ∧ f 3 = .int .i64 i ∧ σ = []) s.length ?_ ?_
  · exact ⟨0, by simp, by simp, by simp, by simp, by simp, rfl⟩
  rintro x f σ ⟨i, hx, hi, hall, h0, h3, rfl⟩
  have hwi : i < s.length → IntKind.i64.wrap ((i : Int) + 1) = (i : Int) + 1 := fun h => wrap_i64 (by omega) (by omega)
  by_cases hlt : i < s.length
  · obtain ⟨c, hc⟩ : ∃ c, s[i]? = some c := ⟨_, List.getElem?_eq_getElem hlt⟩
    have hd := drop_cons hc
    obtain ⟨_, hc2⟩ := List.getElem?_eq_some_iff.1 hc
    have hlt' : (i : Int) < (s.length : Int) := by omega
    rw [hd, List.all_cons] at hall
    simp [h0, h3, hlt, hlt', hc, hc2]
    refine ac_same (refByte_ok c) (by simp) ?_
    rintro r rfl
    cases hn : nb c with
    | false =>
      rw [hn] at hall
      have hall' : s.all nb = false := by rw [hall]; rfl
      rw [hall']
      simp
    | true =>
      simp [h3, hwi hlt]
      refine nx_intro (s.length - (i + 1)) (by omega) ⟨i + 1, rfl, by omega, by rw [hall, hn]; rfl, by simp [h0], by simp, rfl⟩
  · have hlt' : ¬ (i : Int) < (s.length : Int) := by omega
    rw [List.drop_of_length_le (by omega)] at hall
    rw [hall]
    by_cases hs0 : s = []
    · subst hs0
      obtain rfl : i = 0 := by simpa using hi
      simp [h0, h3]
    · simp [h0, h3, hlt, hlt', hs0]
theorem rname_ok (s : List UInt8) (hs : s.length ≤ 9223372036854775807) : PCalls Tryz.prog n_isobarref15_Name [.str s] (fun r => r = .bool (nameB s)) := by
  refine pcalls_of_awp hmix c_isobarref15_Name rfl ?_
  simp [a_isobarref15_Name]
  refine ac_same (rplain_ok s hs) (by simp) ?_
  rintro r rfl
  cases h : (s.all nb && !s.isEmpty) with
  | false => simp [nameB, h]
  | true =>
    have e : decide ((s.length : Int) ≤ 32) = decide (s.length ≤ 32) := decide_eq_decide.2 (by omega)
    simp [nameB, h, e]
theorem timed_ok (t : Int) : PCalls Tryz.prog n_isobarref13_Timed [.int .i64 t] (fun r => r = .bool (decide (0 ≤ t) && decide (t ≤ 1099511627776))) := by
  refine pcalls_of_awp hmix c_isobarref13_Timed rfl ?_
  simp [a_isobarref13_Timed]
  by_cases h : 0 ≤ t <;> simp [h]

/-- A slice that grows, somewhere. -/
def AccW (e size : Nat) (σ : Store) (v : AV) (l : List (List AV)) : Prop := (l = [] ∧ v = .nils) ∨ (l ≠ [] ∧ ∃ rid, v = .row rid l.length ∧ σ[rid]? = some (.row e size l true))
theorem ap_accW {K : AV → Store → Prop} {t : Tg K} {e size bytes : Nat} {σ : Store} {v : AV} {l : List (List AV)} (h : AccW e size σ v l) (x : List AV) (hs : 0 < size) (hx : x.length = size) (hb : (l.length + 1) * bytes ≤ 140737488355328) (h63 : l.length + 1 ≤ 9223372036854775807)
    (hK : ∀ v' σ', AccW e size σ' v' (l ++ [x]) → K v' σ') : ap K t σ e size bytes v (.lst [x]) := by
  rcases h with ⟨rfl, rfl⟩ | ⟨h1, rid, rfl, h4⟩
  · refine ap_new true [x] rfl hs (by simp [hx]) (fun _ => .inl rfl) (by simpa using hb) (by simp) ?_
    exact hK (.row σ.length 1) (σ ++ [.row e size [x] true]) (.inr ⟨by simp, σ.length, by simp, by simp⟩)
  · have hlt := (List.getElem?_eq_some_iff.1 h4).1
    refine ap_row l [x] true h4 rfl hs (by simp [hx]) (fun _ => .inl rfl) rfl (by simpa using hb) (by simpa using h63) ?_
    exact hK (.row rid (l.length + 1)) (σ.set rid (.row e size (l ++ [x]) true)) (.inr ⟨by simp, rid, by simp, by rw [List.getElem?_set_self hlt]⟩)
theorem take_snoc {s : List UInt8} {i a : Nat} {c : UInt8} (hc : s[i]? = some c) (ha : a ≤ i) : (s.take (i + 1)).drop a = (s.take i).drop a ++ [c] := by
  have hl := (List.getElem?_eq_some_iff.1 hc).1
  rw [List.take_add_one, hc, List.drop_append_of_le_length (by rw [List.length_take]; omega)]
  rfl
theorem no_point {s : List UInt8} {i a : Nat} {c : UInt8} (hc : s[i]? = some c) (ha : a ≤ i) (h : ∀ d ∈ (s.take i).drop a, d ≠ 46) (hn : c ≠ 46) : ∀ d ∈ (s.take (i + 1)).drop a, d ≠ 46 := by
  rw [take_snoc hc ha]
  intro d hd
  rcases List.mem_append.1 hd with hd | hd
  · exact h d hd
  · simp only [List.mem_singleton] at hd; subst hd; exact hn
theorem r16cut_ok (s : List UInt8) (hs : s.length ≤ 9000000000000000000) : PCalls Tryz.prog n_isobarref16_cut [.str s] (fun r => r = .lst (txtW ((sp s).take 10))) := by
  refine pcalls_of_awp hmix c_isobarref16_cut rfl ?_
  simp [a_isobarref16_cut]
  refine lp_startx (fun x f σ => ∃ (i fr : Nat) (out : List (List UInt8)), x = s.length + 1 - i ∧ i ≤ s.length + 1 ∧ out.length ≤ 10 ∧ ((i = s.length + 1 ∧ sp s = out) ∨ (i ≤ s.length ∧ fr ≤ i ∧ sp s = out ++ sp (s.drop fr) ∧ ∀ d ∈ (s.take i).drop fr, d ≠ 46)) ∧ f 0 = .str s ∧ AccW 9 1 σ (f 3) (txtW out) ∧ f 4 = .int .i64 fr ∧ f 5 = .int .i64 i) (s.length + 1) ?_ ?_
  · exact ⟨0, 0, [], by simp, by simp, by simp, .inr ⟨by simp, by simp, by simp, by simp⟩, by simp, .inl ⟨rfl, by simp⟩, by simp, by simp⟩
  rintro x f σ ⟨i, fr, out, hx, hi, ho, hinv, h0, h3, h4, h5⟩
  have htl : (txtW out).length = out.length := by simp [txtW]
  have hend : ∀ (_ : sp s = out ∨ (out.length = 10 ∧ ∃ r, sp s = out ++ r)), (sp s).take 10 = out := by
    rintro (h | ⟨h1, r, h2⟩)
    · rw [h]; exact List.take_of_length_le ho
    · rw [h2, List.take_append_of_le_length (by omega)]; exact List.take_of_length_le ho
  by_cases hil : i ≤ s.length
  · obtain ⟨_, hfr, hsp, hno⟩ := hinv.resolve_left (fun h => by omega)
    have hil' : (i : Int) ≤ (s.length : Int) := by omega
    have hwi : IntKind.i64.wrap ((i : Int) + 1) = (i : Int) + 1 := wrap_i64 (by omega) (by omega)
    have hfi : (fr : Int) ≤ (i : Int) := by omega
    by_cases h10 : out.length < 10
    · have h10' : (out.length : Int) < 10 := by omega
      have hview : view σ (f 3) = some (txtW out) := by
        rcases h3 with ⟨h1, h2⟩ | ⟨h1, rid, h2, he⟩
        · rw [h2, h1]; rfl
        · rw [h2]; simp [view, he]
      by_cases hie : i = s.length
      · subst hie
        have hpl : sp (s.drop fr) = [s.drop fr] := sp_plain _ (by rw [List.take_of_length_le (Nat.le_refl _)] at hno; exact hno)
        simp [h0, h3, h4, h5, hil, hil', hview, htl, h10, h10', hfi, hfr]
        refine ap_accW h3 _ (by omega) rfl (by rw [htl]; omega) (by rw [htl]; omega) ?_
        intro v' σ' hacc
        simp [h4, h5, hwi]
        refine nx_intro 0 (by omega) ⟨s.length + 1, s.length + 1, out ++ [s.drop fr], by omega, by omega, by simp; omega, .inl ⟨rfl, by rw [hsp, hpl]⟩, by simp [h0], by simpa [txtW] using hacc, by simp, by simp⟩
      · have hlt : i < s.length := by omega
        obtain ⟨c, hc⟩ : ∃ c, s[i]? = some c := ⟨_, List.getElem?_eq_getElem hlt⟩
        obtain ⟨_, hc2⟩ := List.getElem?_eq_some_iff.1 hc
        have hd := drop_cons hc
        have hne : ¬ (i : Int) = (s.length : Int) := by omega
        by_cases h46 : c = 46
        · subst h46
          have hdd : s.drop fr = (s.take i).drop fr ++ 46 :: s.drop (i + 1) := by
            rw [← hd]
            conv => lhs; rw [← List.take_append_drop i s]
            rw [List.drop_append_of_le_length (by rw [List.length_take]; omega)]
          have hspn : sp (s.drop fr) = (s.take i).drop fr :: sp (s.drop (i + 1)) := by rw [hdd, sp_app _ _ hno]
          simp [h0, h3, h4, h5, hil, hil', hview, htl, h10, h10', hne, hie, hc, hc2, hfi, hfr]
          refine ap_accW h3 _ (by omega) rfl (by rw [htl]; omega) (by rw [htl]; omega) ?_
          intro v' σ' hacc
          simp [h4, h5, hwi]
          refine nx_intro (s.length + 1 - (i + 1)) (by omega) ⟨i + 1, i + 1, out ++ [(s.take i).drop fr], by omega, by omega, by simp; omega, .inr ⟨by omega, Nat.le_refl _, by rw [hsp, hspn]; simp, by simp⟩, by simp [h0], by simpa [txtW] using hacc, by simp, by simp⟩
        · have h46' : ¬ ((c.toNat : Int) = 46) := fun e => h46 (UInt8.toNat_inj.1 (show c.toNat = 46 by omega))
          simp [h0, h3, h4, h5, hil, hil', hview, htl, h10, h10', hne, hie, hc, hc2, h46', hwi]
          refine nx_intro (s.length + 1 - (i + 1)) (by omega) ⟨i + 1, fr, out, by omega, by omega, ho, .inr ⟨by omega, by omega, hsp, no_point hc hfr hno h46⟩, by simp [h0], by simpa using h3, by simp [h4], by simp⟩
    · have h10' : ¬ (out.length : Int) < 10 := by omega
      have he := hend (.inr ⟨by omega, _, hsp⟩)
      rw [he]
      rcases h3 with ⟨h1, h2⟩ | ⟨h1, rid, h2, hr⟩
      · rw [h1] at htl; simp at htl; omega
      · simp [h0, h2, h5, hil, hil', view, hr, htl, h10, h10']
  · obtain ⟨hie, hsp⟩ := hinv.resolve_right (fun h => by omega)
    have hil' : ¬ (i : Int) ≤ (s.length : Int) := by omega
    have he := hend (.inl hsp)
    rw [he]
    rcases h3 with ⟨h1, h2⟩ | ⟨h1, rid, h2, hr⟩
    · rw [h1]
      simp [h0, h2, h5, hil, hil']
    · simp [h0, h2, h5, hil, hil', view, hr, htl]
theorem r16split_ok (s : List UInt8) (hs : s.length ≤ 9000000000000000000) : PCalls Tryz.prog n_isobarref16_Split [.str s] (fun r => r = pathAV (path s) 13) := by
  refine pcalls_of_awp hmix c_isobarref16_Split rfl ?_
  simp [a_isobarref16_Split]
  refine ac_same (r16cut_ok s hs) (by simp) ?_
  rintro r rfl
  obtain ⟨L, hL⟩ : ∃ L, (sp s).take 10 = L := ⟨_, rfl⟩
  have hLl : L.length = min 10 (sp s).length := by rw [← hL, List.length_take]
  have hLm : ∀ p ∈ L, p ∈ sp s := fun p hp => by rw [← hL] at hp; exact List.mem_of_mem_take hp
  rw [hL]
  have htl : (txtW L).length = L.length := by simp [txtW]
  simp
  refine lp_startx (fun x f σ => ∃ (i : Nat), x = L.length - i ∧ i ≤ L.length ∧ (∀ p ∈ L.take i, nameB p = true) ∧ f 4 = .lst (txtW L) ∧ f 5 = .int .i64 i ∧ σ = []) L.length ?_ ?_
  · exact ⟨0, by simp, by simp, by simp, by simp, by simp, rfl⟩
  rintro x f σ ⟨i, hx, hi, hall, h4, h5, rfl⟩
  by_cases hlt : i < L.length
  · obtain ⟨p, hp⟩ : ∃ p, L[i]? = some p := ⟨_, List.getElem?_eq_getElem hlt⟩
    have hse : (txtW L)[i]? = some [.str p] := by simp [txtW, hp]
    obtain ⟨hx1, hx2⟩ := List.getElem?_eq_some_iff.1 hse
    have hpm := hLm p (List.mem_of_getElem? hp)
    have hpl := sp_mem_len s p hpm
    have hlt' : (i : Int) < (L.length : Int) := by omega
    have hwi : IntKind.i64.wrap ((i : Int) + 1) = (i : Int) + 1 := wrap_i64 (by omega) (by omega)
    simp [h4, h5, htl, hlt, hlt', hx1, hx2]
    refine ac_same (rname_ok p (by omega)) (by simp) ?_
    rintro r rfl
    cases hn : nameB p with
    | false =>
      have hno : path s = none := by
        unfold path
        rw [if_neg]
        rintro ⟨_, h⟩
        have := List.all_eq_true.1 h p hpm
        rw [hn] at this; cases this
      simp [hno, pathAV]
    | true =>
      simp [h5, hwi]
      refine nx_intro (L.length - (i + 1)) (by omega) ⟨i + 1, rfl, by omega, ?_, by simp [h4], by simp, rfl⟩
      intro q hq
      rw [List.take_add_one, hp] at hq
      rcases List.mem_append.1 hq with hq | hq
      · exact hall q hq
      · simp at hq; subst hq; exact hn
  · have hlt' : ¬ (i : Int) < (L.length : Int) := by omega
    rw [List.take_of_length_le (by omega)] at hall
    by_cases h8 : 8 < L.length
    · have h8' : (8 : Int) < (L.length : Int) := by omega
      have hno : path s = none := by
        unfold path
        rw [if_neg]
        rintro ⟨h, _⟩
        omega
      simp [h4, h5, htl, hlt, hlt', h8, h8', hno, pathAV]
    · have h8' : ¬ (8 : Int) < (L.length : Int) := by omega
      have hLs : L = sp s := by rw [← hL]; exact List.take_of_length_le (by omega)
      have hyes : path s = some L := by
        unfold path
        rw [if_pos, hLs]
        exact ⟨by rw [← hLs]; omega, by rw [← hLs]; exact List.all_eq_true.2 hall⟩
      have e : strEls L = txtW L := rfl
      simp [h4, h5, htl, hlt, hlt', h8, h8', hyes, pathAV, e]
theorem r16right_ok (s : List UInt8) (hs : s.length ≤ 9000000000000000000) : PCalls Tryz.prog n_isobarref16_Right [.str s] (fun r => r = .bool (path s).isSome) := by
  refine pcalls_of_awp hmix c_isobarref16_Right rfl ?_
  simp [a_isobarref16_Right]
  refine ac_same (r16split_ok s hs) (by simp) ?_
  rintro r rfl
  cases path s <;> simp [pathAV]
theorem rsRight_ok (p : List UInt8) (v t : Int) (hp : p.length ≤ 1000000000) : PCalls Tryz.prog n_isobarref18_Right [sampAV p v t] (fun r => r = .bool (sampR p v t)) := by
  refine pcalls_of_awp hmix c_isobarref18_Right rfl ?_
  simp [a_isobarref18_Right, sampAV]
  refine ac_same (r16right_ok p (by omega)) (by simp) ?_
  rintro r rfl
  cases h : (path p).isSome with
  | false => simp [sampR, h]
  | true =>
  by_cases h1 : v = -9223372036854775808
  · simp [h1, sampR]
  by_cases h2 : t = -1
  · simp [h1, h2, sampR, h]
  simp [h1, h2]
  refine ac_same (timed_ok t) (by simp) ?_
  rintro r rfl
  have e : decide (0 ≤ t) = decide (-1 ≤ t) := decide_eq_decide.2 (by omega)
  simp [sampR, h, h1, e]
end Go.Proofs.YtddpegkbmdcgbaaGreatDoor
