/- Patterns of one name: expanding. -/
import Derived.Test.YtkclehdmdnfikaaDoorGlH
set_option linter.unusedSimpArgs false
set_option linter.unusedVariables false
set_option linter.constructorNameAsVariable false
namespace Go.Proofs.YtkclehdmdnfikaaDoor
open Go.Abs Go.Glob
variable {G : Globs}

/-- The slots of the innermost loop. -/
def S8 : List Nat := [7, 13, 56, 57, 58, 59, 60, 61, 62, 63, 64, 65, 66, 67]
def S6 : List Nat := [7, 11, 13, 49, 50, 51, 52, 53, 54, 55, 56, 57, 58, 59, 60, 61, 62, 63, 64, 65, 66, 67, 68]
def S4 : List Nat := [7, 9, 11, 13, 42, 43, 44, 45, 46, 47, 48, 49, 50, 51, 52, 53, 54, 55, 56, 57, 58, 59, 60, 61, 62, 63, 64, 65, 66, 67, 68, 69]

theorem flat_take {α β : Type} {l : List α} {i : Nat} {a : α} (g : α → List β) (h : l[i]? = some a) : (l.take (i + 1)).flatMap g = (l.take i).flatMap g ++ g a := by
  rw [List.take_add_one, h]; simp

theorem expand_ok : ∀ (N : Nat) (l : List Pc), szL l ≤ N → N ≤ 1000000 → neL l → cnt 1 l ≤ 64 → PCalls Tryd.prog n_glob_expand [.lst (encL l)] (fun r => r = .lst (encA (expd [[]] l))) := by
  intro N
  induction N using Nat.strongRecOn with
  | _ N ih =>
  intro l hl hN hne hcn
  have hll := szL_length l
  refine pcalls_of_awp hmix c_glob_expand rfl ?_
  simp [a_glob_expand, encL_length]
  refine lp_startx (fun x f σ => ∃ (i : Nat) (out : List (List Pc)) (els : List (List AV)) (oid : Nat), x = l.length - i ∧ i ≤ l.length ∧ f 15 = .lst (encL l) ∧ f 16 = .int .i64 l.length ∧ f 17 = .int .i64 i ∧ f 3 = .row oid out.length ∧ σ[oid]? = some (.row 84 1 els false) ∧
    RowsAt σ els out ∧ expd out (l.drop i) = expd [[]] l ∧ cnt out.length (l.drop i) = cnt 1 l ∧ 1 ≤ out.length ∧ (∀ o ∈ out, o.length + szL (l.drop i) ≤ szL l)) l.length ?_ ?_
  · refine ⟨0, [[]], [[.nils]], 0, rfl, by omega, by simp, by simp, by simp, by simp, by simp, ⟨rfl, fun j o h => ?_, fun i j id n m h => ?_⟩, rfl, rfl, by simp, by simp⟩
    · match j with
      | 0 => simp at h; exact .inl ⟨rfl, h⟩
      | j + 1 => simp at h
    · match i with
      | 0 => simp at h
      | i + 1 => simp at h
  rintro x f σ ⟨i, out, els, oid, rfl, hi, h15, h16, h17, h3, hoid, hrows, hex, hcnt, hout1, hlens⟩
  have hlen := hrows.len
  have hneD := neL_drop i hne
  have hout64 : out.length ≤ 64 := by
    by_cases h65 : out.length ≤ 65
    · have := cnt_ge (l.drop i) out.length hneD hout1 h65; omega
    · exfalso
      have : ∀ (l : List Pc) (n : Nat), neL l → 65 ≤ n → 65 ≤ cnt n l := by
        intro l
        induction l with
        | nil => intro n _ h; simpa [cnt] using h
        | cons p l ihl =>
          intro n hn h
          by_cases hk : p.kind = 4
          · rw [kind4 hk] at hn ⊢
            simp only [neL] at hn
            simp only [cnt]
            have hx := cntA_ge p.alts 0 hn.2.1 (by omega)
            have hp : 1 ≤ cntA 0 p.alts := by have := List.length_pos_iff.2 hn.1; omega
            have := Nat.mul_le_mul_left n hp
            exact ihl _ hn.2.2 (by omega)
          · rw [cnt_other hk]
            exact ihl n (by simpa using neL_drop 1 hn) h
      have := this (l.drop i) out.length hneD (by omega)
      omega
  simp [h16, h17]
  refine cb_dec (fun hlt => ?_) (fun hge => ?_)
  · have hlt' : i < l.length := by omega
    obtain ⟨p, hp⟩ : ∃ p, l[i]? = some p := ⟨_, List.getElem?_eq_getElem hlt'⟩
    have hm : p ∈ l := List.mem_of_getElem? hp
    have hd := drop_cons hp
    obtain ⟨hx, hga⟩ := List.getElem?_eq_some_iff.1 (encL_get hp)
    have hoidlt := (List.getElem?_eq_some_iff.1 hoid).1
    rw [hd] at hex hcnt hlens hneD
    have he5 : p.enc.length = 5 := rfl
    have hp5 : (∀ (x : AV), x ∈ p.enc → x.one = true) ↔ True := by
      refine iff_true_intro fun x hx => ?_
      simp only [Pc.enc, List.mem_cons, List.not_mem_nil, or_false] at hx
      rcases hx with rfl | rfl | rfl | rfl | rfl <;> rfl
    have hwi : IntKind.i64.wrap ((i : Int) + 1) = (i : Int) + 1 := wrap_i64 (by omega) (by omega)
    have ht5 : List.take 5 p.enc = p.enc := rfl
    have ht1 : List.take 1 p.enc = [.int .i64 p.kind] := rfl
    have ht3 : List.take 1 (List.drop 3 p.enc) = [.lst (encA p.alts)] := rfl
    simp [h15, h17, encL_get hp, hga, he5, ht5, hp5, ht1]
    by_cases hk : p.kind = 4
    · have hp4 := kind4 hk
      have hszm := szL_mem (hp4 ▸ hm)
      have hnem := neL_mem hne (hp4 ▸ hm)
      rw [hp4] at hex hcnt hlens hneD
      rw [expd_cons_br] at hex
      simp only [cnt] at hcnt
      simp only [neL] at hneD
      -- how many
      have hx1 := cntA_ge p.alts 0 hneD.2.1 (by omega)
      have hx2 : 1 ≤ cntA 0 p.alts := by have := List.length_pos_iff.2 hneD.1; omega
      have hmul : out.length ≤ out.length * cntA 0 p.alts := by have := Nat.mul_le_mul_left out.length hx2; omega
      have hmul2 : cntA 0 p.alts ≤ out.length * cntA 0 p.alts := by have := Nat.mul_le_mul_right (cntA 0 p.alts) hout1; omega
      have hgg := cnt_ge (l.drop (i + 1)) (min 65 (out.length * cntA 0 p.alts)) hneD.2.2 (by omega) (Nat.min_le_left _ _)
      have hmin : min 65 (out.length * cntA 0 p.alts) = out.length * cntA 0 p.alts := by omega
      have hE64 : cntA 0 p.alts ≤ 64 := by omega
      have hE := expdA_count p.alts 0 hneD.2.1 hE64
      rw [hmin] at hcnt hgg
      have hszx : szA p.alts ≤ N := by omega
      have hal := szA_length p.alts
      have hxlt0 : σ.length < (σ ++ [Entry.var 126 p.enc]).length := by simp
      simp [hk, h3, hoid, hlen, List.getElem?_append_left hoidlt]
      refine lp_gen (fun f0 => f0 3 = .row oid out.length ∧ f0 5 = .ptr σ.length 0 ∧ f0 7 = .nils ∧ f0 15 = .lst (encL l) ∧ f0 16 = .int .i64 l.length ∧ f0 17 = .int .i64 i ∧ f0 40 = .row oid out.length ∧ f0 41 = .int .i64 out.length ∧ f0 42 = .int .i64 0) (by simp [h3, h15, h16, h17]) ?_
      clear h15 h16 h17 h3
      rintro f0 ⟨z3, z5, z7, z15, z16, z17, z40, z41, z42⟩
      have hko : ∀ {σ' : Store}, Keep (σ ++ [Entry.var 126 p.enc]) σ' → σ'[oid]? = some (.row 84 1 els false) ∧ σ'[σ.length]? = some (.var 126 p.enc) ∧ RowsAt σ' els out := fun {σ'} hk => by
        refine ⟨hk _ _ (by rw [List.getElem?_append_left hoidlt]; exact hoid), hk _ _ (by simp), hrows.mono fun id l h => hk _ _ ?_⟩
        rw [List.getElem?_append_left (List.getElem?_eq_some_iff.1 h).1]; exact h
      refine lp_startx (fun x f σ' => ∃ (j : Nat) (mels : List (List AV)) (mout : List (List Pc)), x = out.length - j ∧ j ≤ out.length ∧ (∀ t, ¬ t ∈ S4 → f t = f0 t) ∧ f 42 = .int .i64 j ∧ Sl (σ ++ [.var 126 p.enc]) σ' (f 7) mels ∧ RowsAt σ' mels mout ∧
        mout = (out.take j).flatMap (fun h => (expdA p.alts).map (h ++ ·)) ∧ Keep (σ ++ [.var 126 p.enc]) σ' ∧ (σ ++ [Entry.var 126 p.enc]).length ≤ σ'.length) out.length ?_ ?_
      · exact ⟨0, [], [], rfl, by omega, fun _ _ => rfl, by simpa using z42, .inl ⟨z7, rfl⟩, RowsAt.nil _, by simp, Keep.refl _, Nat.le_refl _⟩
      rintro x f σ' ⟨j, mels, mout, rfl, hj, hf, h42, hsl, hro, rfl, hkp, hle⟩
      obtain ⟨hov, hxv, hrw⟩ := hko hkp
      have h40 := (hf 40 (by decide)).trans z40
      have h41 := (hf 41 (by decide)).trans z41
      have h5 := (hf 5 (by decide)).trans z5
      simp [h41, h42]
      refine cb_dec (fun hjl => ?_) (fun hjg => ?_)
      · have hjl' : j < out.length := by omega
        obtain ⟨h, hh⟩ : ∃ h, out[j]? = some h := ⟨_, List.getElem?_eq_getElem hjl'⟩
        have hmh : h ∈ out := List.mem_of_getElem? hh
        have hhl := hlens h hmh
        obtain ⟨v, hv, hvc, hvo, hvv⟩ := hrw.elem hh
        obtain ⟨hjx, hvx⟩ := List.getElem?_eq_some_iff.1 hv
        have hwj : IntKind.i64.wrap ((j : Int) + 1) = (j : Int) + 1 := wrap_i64 (by omega) (by omega)
        have hvk : ∀ {σ' : Store}, Keep (σ ++ [Entry.var 126 p.enc]) σ' → view σ' v = some (encL h) := fun {σ'} hk => by
          obtain ⟨v', q1, _, _, q4⟩ := (hko hk).2.2.elem hh
          rw [hv] at q1
          simp only [Option.some.injEq, List.cons.injEq, and_true] at q1
          rw [q1]; exact q4
        simp [h40, h41, h42, h5, hov, hlen, hjl', hv, hvx, hxv, ht3, hvc, he5, encA_length]
        refine lp_gen (fun f1 => (∀ t, ¬ t ∈ S4 → f1 t = f0 t) ∧ f1 7 = f 7 ∧ f1 9 = v ∧ f1 42 = .int .i64 j ∧ f1 47 = .lst (encA p.alts) ∧ f1 48 = .int .i64 p.alts.length ∧ f1 49 = .int .i64 0) ⟨fun t ht => ?_, by simp, by simp, by simp [h42], by simp, by simp, by simp⟩ ?_
        · have := hf t ht
          simp only [S4, List.mem_cons, List.not_mem_nil, or_false, not_or] at ht
          simp [ht, this]
        rintro f1 ⟨y0, y7, y9, y42, y47, y48, y49⟩
        rw [← y7] at hsl
        clear hf h40 h41 h42 h5 y7
        have hbase : ((out.take j).flatMap (fun h => (expdA p.alts).map (h ++ ·))).length ≤ 5000 := by
          rw [List.length_flatMap]
          simp only [List.length_map]
          have : ∀ (o : List (List Pc)), (o.map fun _ => (expdA p.alts).length).sum = o.length * (expdA p.alts).length := fun o => by
            induction o with
            | nil => simp
            | cons a o ih => simp only [List.map_cons, List.sum_cons, List.length_cons, ih]; rw [Nat.add_mul]; omega
          rw [this]
          have h1 : (out.take j).length ≤ 64 := by simp; omega
          have := Nat.mul_le_mul h1 (show (expdA p.alts).length ≤ 64 by omega)
          omega
        have hnext : (out.take (j + 1)).flatMap (fun h => (expdA p.alts).map (h ++ ·)) = (out.take j).flatMap (fun h => (expdA p.alts).map (h ++ ·)) ++ (expdA p.alts).map (h ++ ·) := flat_take _ hh
        generalize hB : (out.take j).flatMap (fun h => (expdA p.alts).map (h ++ ·)) = B at hro hbase hnext
        refine lp_startx (fun x f σ' => ∃ (a : Nat) (mels : List (List AV)) (mout : List (List Pc)), x = p.alts.length - a ∧ a ≤ p.alts.length ∧ (∀ t, ¬ t ∈ S6 → f t = f1 t) ∧ f 49 = .int .i64 a ∧ Sl (σ ++ [.var 126 p.enc]) σ' (f 7) mels ∧ RowsAt σ' mels mout ∧
          mout = B ++ (expdA (p.alts.take a)).map (h ++ ·) ∧ Keep (σ ++ [.var 126 p.enc]) σ' ∧ (σ ++ [Entry.var 126 p.enc]).length ≤ σ'.length ∧ view σ' v = some (encL h)) p.alts.length ?_ ?_
        · exact ⟨0, mels, B, rfl, by omega, fun _ _ => rfl, by simpa using y49, hsl, hro, by simp [expdA], hkp, hle, hvv⟩
        clear hsl hro hkp hle hvv hov hxv hrw hv hvx
        rintro x f σ' ⟨a, mels, mout, rfl, ha, hf, h49, hsl, hro, rfl, hkp, hle, hvv⟩
        have h47 := (hf 47 (by decide)).trans y47
        have h48 := (hf 48 (by decide)).trans y48
        have h9 := (hf 9 (by decide)).trans y9
        simp [h48, h49]
        refine cb_dec (fun hal2 => ?_) (fun hag => ?_)
        · have hal' : a < p.alts.length := by omega
          obtain ⟨alt, halt⟩ : ∃ alt, p.alts[a]? = some alt := ⟨_, List.getElem?_eq_getElem hal'⟩
          have hma : alt ∈ p.alts := List.mem_of_getElem? halt
          have hsa := szA_mem hma
          have hna := neA_mem hneD.2.1 hma
          have hca := cntA_mem hneD.2.1 hE64 hma
          have hcE := expd_count alt [[]] hna (by simp) (by simpa using hca)
          have hlE := expd_len alt [[]] 0 (by simp)
          have hwa : IntKind.i64.wrap ((a : Int) + 1) = (a : Int) + 1 := wrap_i64 (by omega) (by omega)
          simp only [List.length_singleton] at hcE
          simp [h47, h48, h49, encA_get halt]
          refine ac_same (ih (szL alt) (by omega) alt (Nat.le_refl _) (by omega) hna hca) (by simp) ?_
          rintro r rfl
          simp [encA_length]
          have hstep : expdA (p.alts.take (a + 1)) = expdA (p.alts.take a) ++ expd [[]] alt := by
            rw [List.take_add_one, halt]; simp [expdA_append, expdA]
          have hpre : (expdA (p.alts.take a)).length ≤ 64 := by
            have : expdA p.alts = expdA (p.alts.take a) ++ expdA (p.alts.drop a) := by rw [← expdA_append, List.take_append_drop]
            have := congrArg List.length this
            simp at this; omega
          generalize hT : expd [[]] alt = T at hcE hlE hstep
          refine lp_gen (fun f2 => (∀ t, ¬ t ∈ S6 → f2 t = f1 t) ∧ f2 7 = f 7 ∧ f2 49 = .int .i64 a ∧ f2 54 = .lst (encA T) ∧ f2 55 = .int .i64 T.length ∧ f2 56 = .int .i64 0) ⟨fun t ht => ?_, by simp, by simp [h49], by simp, by simp, by simp⟩ ?_
          · have := hf t ht
            simp only [S6, List.mem_cons, List.not_mem_nil, or_false, not_or] at ht
            simp [ht, this]
          rintro f2 ⟨w0, w7, w49, w54, w55, w56⟩
          rw [← w7] at hsl
          clear hf h47 h48 h49 h9 w7
          generalize hC : B ++ (expdA (p.alts.take a)).map (h ++ ·) = C at hro
          have hCl : C.length ≤ 5064 := by rw [← hC]; simp; omega
          refine lp_startx (fun x f σ' => ∃ (t : Nat) (mels : List (List AV)) (mout : List (List Pc)), x = T.length - t ∧ t ≤ T.length ∧ (∀ s, ¬ s ∈ S8 → f s = f2 s) ∧ f 56 = .int .i64 t ∧ Sl (σ ++ [.var 126 p.enc]) σ' (f 7) mels ∧ RowsAt σ' mels mout ∧
            mout = C ++ (T.take t).map (h ++ ·) ∧ Keep (σ ++ [.var 126 p.enc]) σ' ∧ (σ ++ [Entry.var 126 p.enc]).length ≤ σ'.length ∧ view σ' v = some (encL h)) T.length ?_ ?_
          · exact ⟨0, mels, C, rfl, by omega, fun _ _ => rfl, by simpa using w56, hsl, hro, by simp, hkp, hle, hvv⟩
          clear hsl hro hkp hle hvv
          rintro x f σ' ⟨t, mels, mout, rfl, ht, hf, h56, hsl, hro, rfl, hkp, hle, hvv⟩
          have h54 := (hf 54 (by decide)).trans w54
          have h55 := (hf 55 (by decide)).trans w55
          have h9 := ((hf 9 (by decide)).trans (w0 9 (by decide))).trans y9
          simp [h55, h56]
          refine cb_dec (fun htl => ?_) (fun htg => ?_)
          · have htl' : t < T.length := by omega
            obtain ⟨o, ho⟩ : ∃ o, T[t]? = some o := ⟨_, List.getElem?_eq_getElem htl'⟩
            have hmo : o ∈ T := List.mem_of_getElem? ho
            have hlo := hlE o hmo
            have hwt : IntKind.i64.wrap ((t : Int) + 1) = (t : Int) + 1 := wrap_i64 (by omega) (by omega)
            have hml := hro.len
            simp [h9, h54, h55, h56, encA_get ho, hvc, hvo]
            have hcc := concat_ok (G := G) (σ := σ' ++ [.row 84 1 [[v], [.lst (encL o)]] false]) (rid := σ'.length) (e := 84) (x := v) (y := .lst (encL o)) (mx := encL h) (my := encL o) (by simp) (view_more hvv) rfl (encL_pure h) (encL_pure o) (by rw [encL_length]; omega) (by rw [encL_length]; omega)
            refine ac_eff hcc ?_
            rintro r σ2 ⟨rfl, rfl⟩
            simp
            refine ap_sl (m := [.row (σ'.length + 1) ((encL h).length + (encL o).length)]) hsl.more hkp.more (by simp at hle ⊢; omega) (by simp) rfl (by rw [hml]; simp; omega) ?_
            intro v' σ3 hsl3 hkp3 hle3 hrow3
            have hS : ∀ (id : Nat) (l : List (List AV)), σ'[id]? = some (.row 126 5 l true) → σ3[id]? = some (.row 126 5 l true) := fun id l he => hrow3 _ _ (by rw [List.getElem?_append_left (List.getElem?_eq_some_iff.1 he).1]; exact he)
            have henc : encL (h ++ o) = encL h ++ encL o := by simp [encL_map]
            simp [h56, hwt]
            refine nx_intro (T.length - (t + 1)) (by omega) ⟨t + 1, _, _, rfl, by omega, fun s hs => ?_, by simp, by simpa using hsl3, (hro.mono hS).snoc (o := h ++ o) (n := (encL h).length + (encL o).length) (by simp [encL_length]) (by rw [henc]; exact hrow3 _ _ (by simp)) (fun j n hj => ?_), ?_, hkp3, hle3, hvk hkp3⟩
            · have := hf s hs
              simp only [S8, List.mem_cons, List.not_mem_nil, or_false, not_or] at hs
              simp [hs, this]
            · obtain ⟨o', _, _, q⟩ := hro.ent hj
              have := (List.getElem?_eq_some_iff.1 q).1
              omega
            · rw [List.take_add_one, ho]; simp
          · have et : t = T.length := by omega
            subst et
            have h49' := (hf 49 (by decide)).trans w49
            simp [h49', hwa]
            refine nx_intro (p.alts.length - (a + 1)) (by omega) ⟨a + 1, mels, _, rfl, by omega, fun s hs => ?_, by simp, by simpa using hsl, hro, ?_, hkp, hle, hvk hkp⟩
            · have h1 : ¬ s ∈ S8 := by
                simp only [S6, S8, List.mem_cons, List.not_mem_nil, or_false, not_or] at hs ⊢
                simp [hs]
              have := (hf s h1).trans (w0 s hs)
              simp only [S6, List.mem_cons, List.not_mem_nil, or_false, not_or] at hs
              simp [hs, this]
            · rw [hstep, List.take_length, ← hC]; simp
        · have ea : a = p.alts.length := by omega
          subst ea
          have h42' := (hf 42 (by decide)).trans y42
          simp [h42', hwj]
          refine nx_intro (out.length - (j + 1)) (by omega) ⟨j + 1, mels, _, rfl, by omega, fun s hs => ?_, by simp, by simpa using hsl, hro, ?_, hkp, hle⟩
          · have h1 : ¬ s ∈ S6 := by
              simp only [S4, S6, List.mem_cons, List.not_mem_nil, or_false, not_or] at hs ⊢
              simp [hs]
            have := (hf s h1).trans (y0 s hs)
            simp only [S4, List.mem_cons, List.not_mem_nil, or_false, not_or] at hs
            simp [hs, this]
          · rw [hnext, List.take_length]
      · have ej : j = out.length := by omega
        subst ej
        rw [List.take_length] at hro
        have hlo : (out.flatMap fun h => (expdA p.alts).map (h ++ ·)).length = out.length * cntA 0 p.alts := by
          rw [List.length_flatMap]
          simp only [List.length_map]
          have : ∀ (o : List (List Pc)), (o.map fun _ => (expdA p.alts).length).sum = o.length * (expdA p.alts).length := fun o => by
            induction o with
            | nil => simp
            | cons a o ih => simp only [List.map_cons, List.sum_cons, List.length_cons, ih]; rw [Nat.add_mul]; omega
          rw [this]; congr 1; omega
        rcases hsl with ⟨q1, q2⟩ | ⟨mid, q0, q1, q2⟩
        · exfalso
          have := hro.len
          rw [q2, hlo] at this
          simp at this
          omega
        · have h15 := (hf 15 (by decide)).trans z15
          have h16 := (hf 16 (by decide)).trans z16
          have h17 := (hf 17 (by decide)).trans z17
          have hml := hro.len
          simp [q1, h17, hwi]
          refine nx_intro (l.length - (i + 1)) (by omega) ⟨i + 1, _, mels, mid, rfl, by omega, by simp [h15], by simp [h16], by simp, by simp [hml], q2, hro, hex, ?_, ?_, ?_⟩
          · rw [hlo]; exact hcnt
          · rw [hlo]; omega
          · intro o ho
            obtain ⟨x, hx, hz⟩ := List.mem_flatMap.1 ho
            obtain ⟨y, hy, rfl⟩ := List.mem_map.1 hz
            have r1 := hlens x hx
            have r2 := expdA_len p.alts y hy
            simp only [szL] at r1
            simp; omega
    · have hk1 : ¬ ((p.kind : Int) = 4) := by omega
      simp [hk1, h3, hoid, hlen, List.getElem?_append_left hoidlt]
      refine lp_startx (fun x f σ' => ∃ (j : Nat) (els' : List (List AV)), x = out.length - j ∧ j ≤ out.length ∧ f 15 = .lst (encL l) ∧ f 16 = .int .i64 l.length ∧ f 17 = .int .i64 i ∧ f 3 = .row oid out.length ∧ f 5 = .ptr σ.length 0 ∧ f 25 = .int .i64 out.length ∧ f 26 = .int .i64 j ∧
        σ'[σ.length]? = some (.var 126 p.enc) ∧ σ'[oid]? = some (.row 84 1 els' false) ∧ RowsAt σ' els' (mix out p j)) out.length ?_ ?_
      · refine ⟨0, els, rfl, by omega, by simp [h15], by simp [h16], by simp [h17], by simp [h3], by simp, by simp, by simp, by simp, by rw [List.getElem?_append_left hoidlt]; exact hoid, ?_⟩
        rw [mix_zero]
        exact hrows.mono fun id l h => by rw [List.getElem?_append_left (List.getElem?_eq_some_iff.1 h).1]; exact h
      clear h15 h16 h17 h3
      rintro x f σ' ⟨j, els', rfl, hj, h15, h16, h17, h3, h5, h25, h26, hxv, hov, hro⟩
      have hxlt := (List.getElem?_eq_some_iff.1 hxv).1
      have holt := (List.getElem?_eq_some_iff.1 hov).1
      have hx' : ∀ t : Store, (σ' ++ t)[σ.length]? = some (.var 126 p.enc) := fun t => by rw [List.getElem?_append_left hxlt]; exact hxv
      have ho' : ∀ t : Store, (σ' ++ t)[oid]? = some (.row 84 1 els' false) := fun t => by rw [List.getElem?_append_left holt]; exact hov
      have hs' : ∀ (e : Entry) (t : Store), (σ' ++ t).set oid e = σ'.set oid e ++ t := fun e t => List.set_append_left _ _ holt
      have hel : els'.length = out.length := by rw [hro.len, mix_length]
      simp [h25, h26]
      refine cb_dec (fun hjl => ?_) (fun hjg => ?_)
      · have hjl' : j < out.length := by omega
        obtain ⟨o, ho⟩ : ∃ o, out[j]? = some o := ⟨_, List.getElem?_eq_getElem hjl'⟩
        have hmo : o ∈ out := List.mem_of_getElem? ho
        have hol := hlens o hmo
        have hwj : IntKind.i64.wrap ((j : Int) + 1) = (j : Int) + 1 := wrap_i64 (by omega) (by omega)
        have hgo := mix_get (p := p) ho
        rcases hro.at_ j o hgo with ⟨hv, rfl⟩ | ⟨id, hv, hidv⟩
        · obtain ⟨hjx, hvx⟩ := List.getElem?_eq_some_iff.1 hv
          simp [h3, h5, h25, h26, hov, hel, hjl', hv, hvx, hxv, hx', ho', he5, ht5, hp5]
          refine ap_new true [p.enc] (by simp) (by omega) (by simp [he5]) (fun _ => .inr fun c hc x hx => by simp at hc; subst hc; exact enc_pure p x hx) (by simp) (by simp) ?_
          simp [h3, h5, h25, h26, hov, hel, hjl', hv, hvx, hxv, hx', ho', hs', he5, ht5, hp5, hwj]
          refine nx_intro (out.length - (j + 1)) (by omega) ⟨j + 1, els'.set j [.row (σ'.length + 1) 1], rfl, by omega, by simp [h15], by simp [h16], by simp [h17], by simp [h3], by simp [h5], by simp [h25], by simp, ?_, ?_, ?_⟩
          · rw [List.getElem?_append_left (by simpa using hxlt), List.getElem?_set_ne (by intro e; rw [e] at hoidlt; exact absurd hoidlt (Nat.lt_irrefl _))]; exact hxv
          · rw [List.getElem?_append_left (by simpa using holt), List.getElem?_set_self holt]
          · rw [← mix_set ho]
            refine hro.put (by rw [mix_length]; exact hjl') rfl ?_ ?_
            · rw [List.getElem?_append_right (by simp)]; simp [encL_cons, encL]
            · intro i2 id' n l2 hne he h
              have hlt2 := (List.getElem?_eq_some_iff.1 h).1
              refine ⟨by omega, ?_⟩
              rw [List.getElem?_append_left (by simpa using hlt2), List.getElem?_set_ne (by rintro rfl; rw [hov] at h; cases h)]
              exact h
        · obtain ⟨hjx, hvx⟩ := List.getElem?_eq_some_iff.1 hv
          have hidlt := (List.getElem?_eq_some_iff.1 hidv).1
          have hne1 : id ≠ oid := by rintro rfl; rw [hov] at hidv; cases hidv
          have hne2 : id ≠ σ.length := by rintro rfl; rw [hxv] at hidv; cases hidv
          have hid' : ∀ t : Store, (σ' ++ t)[id]? = some (.row 126 5 (encL o) true) := fun t => by rw [List.getElem?_append_left hidlt]; exact hidv
          have hsi : ∀ (e : Entry) (t : Store), (σ' ++ t).set id e = σ'.set id e ++ t := fun e t => List.set_append_left _ _ hidlt
          have ho2 : ∀ (e : Entry) (t : Store), (σ'.set id e ++ t)[oid]? = some (.row 84 1 els' false) := fun e t => by
            rw [List.getElem?_append_left (by simpa using holt), List.getElem?_set_ne hne1]; exact hov
          have hs2 : ∀ (e e' : Entry) (t : Store), (σ'.set id e ++ t).set oid e' = (σ'.set id e).set oid e' ++ t := fun e e' t => List.set_append_left _ _ (by simpa using holt)
          simp [h3, h5, h25, h26, hov, hel, hjl', hv, hvx, hxv, hx', ho', hs', he5, ht5, hp5, hwj]
          refine ap_row (encL o) [p.enc] true (hid' _) (by simp) (by omega) (by simp [he5]) (fun _ => .inr fun c hc x hx => by simp at hc; subst hc; exact enc_pure p x hx) (encL_length o) (by simp; omega) (by simp; omega) ?_
          simp [h3, h5, h25, h26, hov, hel, hjl', hv, hvx, hxv, hx', ho', hs', he5, ht5, hp5, hwj, hsi, ho2, hs2]
          refine nx_intro (out.length - (j + 1)) (by omega) ⟨j + 1, els'.set j [.row id (o.length + 1)], rfl, by omega, by simp [h15], by simp [h16], by simp [h17], by simp [h3], by simp [h5], by simp [h25], by simp, ?_, ?_, ?_⟩
          · rw [List.getElem?_append_left (by simpa using hxlt), List.getElem?_set_ne (by intro e; rw [e] at hoidlt; exact absurd hoidlt (Nat.lt_irrefl _)), List.getElem?_set_ne hne2]; exact hxv
          · rw [List.getElem?_append_left (by simpa using holt), List.getElem?_set_self (by simpa using holt)]
          · rw [← mix_set ho]
            refine hro.put (by rw [mix_length]; exact hjl') (by simp) ?_ ?_
            · rw [List.getElem?_append_left (by simpa using hidlt), List.getElem?_set_ne hne1.symm, List.getElem?_set_self hidlt]
              simp [encL_map]
            · intro i2 id' n l2 hne he h
              have hlt2 := (List.getElem?_eq_some_iff.1 h).1
              have hdd : id' ≠ id := by
                rintro rfl
                exact hne (hro.dist _ _ _ _ _ he hv)
              refine ⟨hdd, ?_⟩
              rw [List.getElem?_append_left (by simpa using hlt2), List.getElem?_set_ne (by rintro rfl; rw [hov] at h; cases h), List.getElem?_set_ne (Ne.symm hdd)]
              exact h
      · have ej : j = out.length := by omega
        subst ej
        rw [mix_end] at hro
        rw [cnt_other hk] at hcnt
        rw [expd_cons_other hk] at hex
        simp [h17, hwi]
        refine nx_intro (l.length - (i + 1)) (by omega) ⟨i + 1, out.map (· ++ [p]), els', oid, rfl, by omega, by simp [h15], by simp [h16], by simp, by simp [h3], hov, hro, hex, by simpa using hcnt, by simpa using hout1, ?_⟩
        intro o ho
        obtain ⟨o', ho', rfl⟩ := List.mem_map.1 ho
        have := hlens o' ho'
        have hsz : 1 + szL (l.drop (i + 1)) ≤ szL (p :: l.drop (i + 1)) := by cases p <;> simp [szL] <;> omega
        simp; omega
  · have e : l.drop i = [] := List.drop_eq_nil_of_le (by omega)
    rw [e] at hex
    simp only [expd] at hex
    have hz := hrows.fz 0 1
    rw [hex] at hz
    simp [h3, hoid, hlen, hz]
end Go.Proofs.YtkclehdmdnfikaaDoor
