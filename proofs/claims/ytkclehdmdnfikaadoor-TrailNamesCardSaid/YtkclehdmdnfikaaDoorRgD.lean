/- Patterns of one name, as the document has them: expanding. -/
import Derived.Test.YtkclehdmdnfikaaDoorRgC
import Derived.Test.YtkclehdmdnfikaaDoorCodeX
set_option linter.unusedSimpArgs false
set_option linter.unusedVariables false
set_option linter.constructorNameAsVariable false
set_option maxHeartbeats 8000000
namespace Go.Proofs.YtkclehdmdnfikaaDoor
open Go.Abs Go.Glob
variable {G : Globs}

def tx (O : List (List Pc)) : List (List AV) := strEls (O.map texts)
theorem tx_len (O : List (List Pc)) : (tx O).length = O.length := by simp [tx, strEls]
theorem tx_app (A B : List (List Pc)) : tx (A ++ B) = tx A ++ tx B := by simp [tx, strEls]
theorem tx_get {O : List (List Pc)} {j : Nat} {o : List Pc} (h : O[j]? = some o) : (tx O)[j]? = some [.str (texts o)] := by simp [tx, strEls, h]
theorem tx_one {O : List (List Pc)} : ∀ c ∈ tx O, c.length = 1 := by
  intro c hc
  simp only [tx, strEls, List.mem_map] at hc
  obtain ⟨x, _, rfl⟩ := hc; rfl
theorem fz_strs (σ : Store) (m k : Nat) (l : List (List UInt8)) : ((strEls l).mapM fun (c : List AV) => c.mapM (fz σ m k)) = some (strEls l) := by
  have h1 : ∀ s : List UInt8, fz σ m k (.str s) = some (.str s) := fun s => by cases k <;> simp [fz, AV.pure]
  induction l with
  | nil => rfl
  | cons a l ih =>
    simp only [strEls, List.map_cons] at ih ⊢
    rw [List.mapM_cons, ih]
    simp [h1]
theorem fz_tx (σ : Store) (m k : Nat) (O : List (List Pc)) : ((tx O).mapM fun (c : List AV) => c.mapM (fz σ m k)) = some (tx O) := fz_strs σ m k _
theorem out64 {l : List Pc} {n : Nat} (h : neL l) (h1 : 1 ≤ n) (hc : cnt n l ≤ 64) : n ≤ 64 := by
  by_cases h65 : n ≤ 65
  · have := cnt_ge l n h h1 h65; omega
  · exfalso
    have : ∀ (l : List Pc) (n : Nat), neL l → 65 ≤ n → 65 ≤ cnt n l := by
      intro l
      induction l with
      | nil => intro n _ h; simpa [cnt] using h
      | cons p l ihl =>
        intro n hn h
        by_cases hk : p.kind = 4
        · rw [kind4 hk] at hn ⊢
          simp only [neL] at hn
          simp only [cnt]
          have hx := cntA_ge p.alts 0 hn.2.1 (by omega)
          have hp : 1 ≤ cntA 0 p.alts := by have := List.length_pos_iff.2 hn.1; omega
          have := Nat.mul_le_mul_left n hp
          exact ihl _ hn.2.2 (by omega)
        · rw [cnt_other hk]
          exact ihl n (by simpa using neL_drop 1 hn) h
    have := this l n h (by omega)
    omega
/-- The first j lists have one piece more. -/
def mixP (pc : Pc) (O : List (List Pc)) (j : Nat) : List (List Pc) := (O.take j).map (· ++ [pc]) ++ O.drop j
theorem mixP_len (pc : Pc) (O : List (List Pc)) (j : Nat) (hj : j ≤ O.length) : (mixP pc O j).length = O.length := by simp [mixP]; omega
theorem mixP_zero (pc : Pc) (O : List (List Pc)) : mixP pc O 0 = O := by simp [mixP]
theorem mixP_all (pc : Pc) (O : List (List Pc)) : mixP pc O O.length = O.map (· ++ [pc]) := by simp [mixP]
theorem mixP_get (pc : Pc) {O : List (List Pc)} {j : Nat} {o : List Pc} (h : O[j]? = some o) : (tx (mixP pc O j))[j]? = some [.str (texts o)] := by
  have hl := (List.getElem?_eq_some_iff.1 h).1
  refine tx_get ?_
  unfold mixP
  rw [List.getElem?_append_right (by simp; omega)]
  simp [Nat.min_eq_left (Nat.le_of_lt hl), h]
theorem mixP_set (pc : Pc) {O : List (List Pc)} {j : Nat} {o : List Pc} (h : O[j]? = some o) : (tx (mixP pc O j)).set j [.str (texts o ++ pc.text)] = tx (mixP pc O (j + 1)) := by
  have hl := (List.getElem?_eq_some_iff.1 h).1
  have hd : O.drop j = o :: O.drop (j + 1) := drop_cons h
  have ht : O.take (j + 1) = O.take j ++ [o] := by rw [List.take_add_one, h]; rfl
  have hlen : (tx ((O.take j).map (· ++ [pc]))).length = j := by rw [tx_len]; simp; omega
  unfold mixP
  rw [tx_app, List.set_append_right _ _ (by omega), hlen, Nat.sub_self, hd, ht, tx_app]
  simp [tx, strEls, texts]

/-- A slice of texts that grows, apart from some entries. -/
def AccF (Pr : List Nat) (e size : Nat) (σ : Store) (v : AV) (l : List (List AV)) : Prop := (l = [] ∧ v = .nils) ∨ (l ≠ [] ∧ ∃ rid, ¬ rid ∈ Pr ∧ v = .row rid l.length ∧ σ[rid]? = some (.row e size l false))
theorem AccF.more {Pr : List Nat} {e size : Nat} {σ : Store} {v : AV} {l : List (List AV)} (h : AccF Pr e size σ v l) (x : Store) : AccF Pr e size (σ ++ x) v l := by
  rcases h with h | ⟨h1, rid, h2, h3, h4⟩
  · exact .inl h
  · refine .inr ⟨h1, rid, h2, h3, ?_⟩
    rw [List.getElem?_append_left (List.getElem?_eq_some_iff.1 h4).1]; exact h4
theorem AccF.view {Pr : List Nat} {e size : Nat} {σ : Store} {v : AV} {l : List (List AV)} (h : AccF Pr e size σ v l) : view σ v = some l := by
  rcases h with ⟨h1, h2⟩ | ⟨h1, rid, _, h2, he⟩
  · rw [h2, h1]; rfl
  · rw [h2]; simp [Abs.view, he]
theorem apF {K : AV → Store → Prop} {t : Tg K} (Pr : List Nat) {e size bytes : Nat} {σ : Store} {v y : AV} {l m : List (List AV)} (h : AccF Pr e size σ v l) (hv : Abs.view σ y = some m) (hm : m ≠ []) (hs : 0 < size) (hx : ∀ c ∈ m, c.length = size)
    (hb : (l.length + m.length) * bytes ≤ 140737488355328) (h63 : l.length + m.length ≤ 9223372036854775807) (hp : ∀ q ∈ Pr, q < σ.length)
    (hK : ∀ v' σ', AccF Pr e size σ' v' (l ++ m) → (∀ q ∈ Pr, σ'[q]? = σ[q]?) → σ.length ≤ σ'.length → K v' σ') : ap K t σ e size bytes v y := by
  rcases h with ⟨rfl, rfl⟩ | ⟨h1, rid, h2, rfl, h4⟩
  · refine ap_new false m hv hs hx (fun h => by cases h) (by simpa using hb) (by simpa using h63) ?_
    refine hK (.row σ.length m.length) (σ ++ [.row e size m false]) (.inr ⟨by simpa using hm, σ.length, fun hq => Nat.lt_irrefl _ (hp _ hq), by simp, by simp⟩) (fun q hq => List.getElem?_append_left (hp q hq)) (by simp)
  · have hlt := (List.getElem?_eq_some_iff.1 h4).1
    refine ap_row l m false h4 hv hs hx (fun h => by cases h) rfl hb h63 ?_
    exact hK (.row rid (l.length + m.length)) (σ.set rid (.row e size (l ++ m) false)) (.inr ⟨by simp [h1], rid, h2, by simp, by rw [List.getElem?_set_self hlt]⟩) (fun q hq => List.getElem?_set_ne (fun e => h2 (by rw [e]; exact hq))) (by simp)

def prod (O A : List (List Pc)) : List (List Pc) := O.flatMap fun h => A.map (h ++ ·)
theorem prod_len (O A : List (List Pc)) : (prod O A).length = O.length * A.length := by
  induction O with
  | nil => simp [prod]
  | cons h O ih =>
    have e : prod (h :: O) A = A.map (h ++ ·) ++ prod O A := by simp [prod]
    rw [e, List.length_append, ih, List.length_map, List.length_cons, Nat.succ_mul]; omega
theorem prod_succ {O A : List (List Pc)} {j : Nat} {h : List Pc} (hh : O[j]? = some h) : prod (O.take (j + 1)) A = prod (O.take j) A ++ A.map (h ++ ·) := by
  unfold prod
  rw [List.take_add_one, hh]; simp
theorem prod_all (O A : List (List Pc)) : prod (O.take O.length) A = prod O A := by rw [List.take_of_length_le (Nat.le_refl _)]
/-- Behind the first j lists, the first t of the next one's. -/
def moreP (O A : List (List Pc)) (j : Nat) (h : List Pc) (t : Nat) : List (List Pc) := prod (O.take j) A ++ (A.take t).map (h ++ ·)
theorem moreP_zero (O A : List (List Pc)) (j : Nat) (h : List Pc) : moreP O A j h 0 = prod (O.take j) A := by simp [moreP]
theorem moreP_all {O A : List (List Pc)} {j : Nat} {h : List Pc} (hh : O[j]? = some h) : moreP O A j h A.length = prod (O.take (j + 1)) A := by rw [prod_succ hh, moreP, List.take_of_length_le (Nat.le_refl _)]
theorem moreP_succ {O A : List (List Pc)} {j t : Nat} {h o : List Pc} (ho : A[t]? = some o) : tx (moreP O A j h (t + 1)) = tx (moreP O A j h t) ++ [[.str (texts h ++ texts o)]] := by
  unfold moreP
  rw [List.take_add_one, ho]
  simp [tx, strEls, texts_append]
theorem moreP_len (O A : List (List Pc)) (j : Nat) (h : List Pc) (t : Nat) : (moreP O A j h t).length ≤ O.length * A.length + A.length := by
  unfold moreP
  rw [List.length_append, prod_len, List.length_map, List.length_take, List.length_take]
  have := Nat.mul_le_mul_right A.length (Nat.min_le_right j O.length)
  omega
def ExpAt [Globs] (L : Nat) : Prop := ∀ (p : List UInt8) (i m : Nat) (l : List Pc) (r : List UInt8) (d : Nat), p.length - i ≤ L → i ≤ p.length → p.length ≤ 1000 → cnt 1 l ≤ 64 → pcs m (p.drop i) = some (l, r, d) →
    PCalls Tryd.prog n_isobarref15_expandX [.str p, .int .i64 i] (fun v => v = .tup [.lst (tx (expd [[]] l)), .int .i64 (p.length - r.length : Nat)])

def EInv (p : List UInt8) (i : Nat) (l : List Pc) (r : List UInt8) (x : Nat) (f : Abs.Frame) (σ : Store) : Prop := ∃ (k m' d2 : Nat) (l2 : List Pc) (O : List (List Pc)) (id : Nat), x = p.length - k ∧ i ≤ k ∧ k ≤ p.length ∧ pcs m' (p.drop k) = some (l2, r, d2) ∧ expd O l2 = expd [[]] l ∧ 1 ≤ O.length ∧ cnt O.length l2 ≤ 64 ∧
    (∀ o ∈ O, (texts o).length + srcL l2 ≤ 1000) ∧ f 0 = .str p ∧ f 1 = .int .i64 k ∧ f 6 = .row id O.length ∧ σ[id]? = some (.row 9 1 (tx O) false)
theorem rexpand_step (L : Nat) (ih : ∀ L', L' < L → ExpAt L') : ExpAt L := by
  intro p i m l r d hL hi hp hc1 hpcs
  refine pcalls_of_awp hmix c_isobarref15_expandX rfl ?_
  have hg := (pcs_local _).1 _ _ _ _ hpcs
  have hsz := (pcs_size _).1 _ _ _ _ hpcs
  simp [a_isobarref15_expandX]
  refine lp_startx (EInv p i l r) (p.length - i) ?_ ?_
  · refine ⟨i, m, d, l, [[]], 0, rfl, Nat.le_refl _, hi, hpcs, rfl, by simp, by simpa using hc1, ?_, by simp, by simp, by simp, by simp [tx, strEls, texts]⟩
    intro o ho
    simp at ho; subst ho
    have := hg.2.2.1
    rw [List.length_drop] at this
    simp [texts]; omega
  rintro x f σ ⟨k, m', d2, l2, O, id, hx, hik, hkl, hpc, hex, hO1, hcO, hW, h0, h1, h6, hrow⟩
  obtain ⟨lf1, lf2, lf3⟩ := left_at hpc hkl
  have hg2 := (pcs_local _).1 _ _ _ _ hpc
  have hne := ((pcs_size _).1 _ _ _ _ hpc).2
  have hO64 := out64 hne hO1 hcO
  have hidl := (List.getElem?_eq_some_iff.1 hrow).1
  have hfin : l2 = [] → O = expd [[]] l := fun e => by rw [← hex, e]; simp [expd]
  rcases pcs_some hpc with ⟨he, rfl, rfl, rfl⟩ | ⟨m', c, t, rfl, hdk, hcase⟩
  · have hke : p.length ≤ k := by have := congrArg List.length he; simp at this; omega
    have hlt : ¬ (k : Int) < (p.length : Int) := by omega
    have hlt' : ¬ k < p.length := by omega
    have hkp : k = p.length := by omega
    rw [← hfin rfl]
    simp [h0, h1, h6, hlt, hlt', hrow, tx_len, fz_tx, hkp]
  · obtain ⟨hc, hdk1, hlt⟩ := drop_one hdk
    obtain ⟨_, hc2⟩ := List.getElem?_eq_some_iff.1 hc
    have hlt' : (k : Int) < (p.length : Int) := by omega
    have hwk : IntKind.i64.wrap ((k : Int) + 1) = (k : Int) + 1 := wrap_i64 (by omega) (by omega)
    have hsame : σ.set id (.row 9 1 (tx O) false) = σ := by
      refine List.ext_getElem? fun n => ?_
      by_cases hn : id = n
      · subst hn; rw [List.getElem?_set_self hidl, hrow]
      · rw [List.getElem?_set_ne hn]
    rcases hcase with ⟨hst, rfl, rfl, rfl⟩ | ⟨hst, hcase⟩
    · rw [← hfin rfl]
      have hr : ((p.length - (c :: t).length : Nat) : Int) = (k : Int) := by
        have : (c :: t).length = p.length - k := by rw [← hdk]; simp
        omega
      rw [hr]
      rcases hst with rfl | rfl
      · simp [h0, h1, h6, hlt, hlt', hc, hc2, hrow, tx_len, fz_tx]
      · simp [h0, h1, h6, hlt, hlt', hc, hc2, hrow, tx_len, fz_tx]
    · have n44 : ¬ ((c.toNat : Int) = 44) := u8_ne (n := 44) rfl (fun h => hst (.inl h))
      have n125 : ¬ ((c.toNat : Int) = 125) := u8_ne (n := 125) rfl (fun h => hst (.inr h))
      by_cases h123 : c = 123
      · subst h123
        have hb : ∃ xs r1 d1 l' d3, alts m' t = some (xs, r1, d1) ∧ pcs m' r1 = some (l', r, d3) ∧ l2 = .br xs :: l' := by
          rcases hcase with ⟨h, _⟩ | ⟨h, _⟩ | ⟨h, _⟩ | ⟨h, _⟩ | ⟨_, xs, r1, d1, l', d3, h1, h2, h3, _⟩
          · exact absurd h (by decide)
          · exact absurd h (by decide)
          · exact absurd h (by decide)
          · exact absurd h (by decide)
          · exact ⟨xs, r1, d1, l', d3, h1, h2, h3⟩
        obtain ⟨xs, r1, d1, l', d3, hal, hp', rfl⟩ := hb
        have hal0 : alts m' (p.drop (k + 1)) = some (xs, r1, d1) := by rw [hdk1]; exact hal
        rw [expd_cons_br] at hex
        simp only [cnt] at hcO
        simp only [neL] at hne
        have hokA : okA xs := by have := hg2.2.1; simp only [okL] at this; exact this.1
        have hx1 := cntA_ge xs 0 hne.2.1 (by omega)
        have hx2 : 1 ≤ cntA 0 xs := by have := List.length_pos_iff.2 hne.1; omega
        have hmul : O.length ≤ O.length * cntA 0 xs := by have := Nat.mul_le_mul_left O.length hx2; omega
        have hmul2 : cntA 0 xs ≤ O.length * cntA 0 xs := by have := Nat.mul_le_mul_right (cntA 0 xs) hO1; omega
        have hgg := cnt_ge l' (min 65 (O.length * cntA 0 xs)) hne.2.2 (by omega) (Nat.min_le_left _ _)
        have hmin : min 65 (O.length * cntA 0 xs) = O.length * cntA 0 xs := by omega
        have hE64 : cntA 0 xs ≤ 64 := by omega
        have hEl := expdA_count xs 0 hne.2.1 hE64
        rw [hmin] at hcO hgg
        obtain ⟨A, hA⟩ : ∃ A, expdA xs = A := ⟨_, rfl⟩
        rw [hA] at hex hEl
        have hAl : A.length = cntA 0 xs := by omega
        have hPl : (prod O A).length = O.length * cntA 0 xs := by rw [prod_len, hAl]
        have hsrcB : srcL (.br xs :: l') = srcA xs + srcL l' := by simp [srcL]
        have hAb : ∀ o ∈ A, (texts o).length ≤ srcA xs := fun o ho => (expdA_good xs hokA o (by rw [hA]; exact ho)).2.2
        rw [hsrcB] at hW
        simp [h0, h1, h6, hlt, hlt', hc, hc2]
        refine lp_gen (fun f' => f' 0 = .str p ∧ f' 1 = .int .i64 k ∧ f' 6 = .row id O.length ∧ f' 9 = .nils) ⟨by simp [h0], by simp [h1], by simp [h6], by simp⟩ ?_
        rintro f0 ⟨u0, u1, u6, u9⟩
        refine lp_startx (fun x f σ' => ∃ (q m2 da2 : Nat) (as2 done : List (List Pc)), x = p.length - q ∧ k ≤ q ∧ q < p.length ∧ alts m2 (p.drop (q + 1)) = some (as2, r1, da2) ∧ A = done ++ expdA as2 ∧ (∀ a ∈ as2, a ∈ xs) ∧ f 0 = .str p ∧ f 1 = .int .i64 q ∧ f 6 = .row id O.length ∧ AccF [id] 9 1 σ' (f 9) (tx done) ∧ σ'[id]? = some (.row 9 1 (tx O) false)) (p.length - k) ?_ ?_
        · exact ⟨k, m', d1, xs, [], rfl, Nat.le_refl _, hlt, hal0, by rw [← hA]; rfl, fun a h => h, u0, u1, u6, .inl ⟨rfl, u9⟩, hrow⟩
        rintro x' f1 σ1 ⟨q, m2, da2, as2, done, hx', hkq, hql, ha2, hdone, hmem, w0, w1, w6, hacc, wrow⟩
        obtain ⟨m3, a, c', t', da1, rfl, hpa, hcase2⟩ := alts_some ha2
        obtain ⟨e1, e2, e3⟩ := left_at hpa (by omega)
        have hax : a ∈ xs := by
          rcases hcase2 with ⟨_, rfl, _⟩ | ⟨_, as', d2', _, rfl, _⟩
          · exact hmem a (by simp)
          · exact hmem a (by simp)
        have hnea := neA_mem hne.2.1 hax
        have hca := cntA_mem hne.2.1 hE64 hax
        have hEa := expd_count a [[]] hnea (by simp) (by simpa using hca)
        have hEa1 := cnt_ge a 1 hnea (by omega) (by omega)
        have hih := ih (p.length - (q + 1)) (by omega) p (q + 1) m3 a (c' :: t') da1 (Nat.le_refl _) (by omega) hp hca hpa
        simp only [Int.natCast_add, Int.cast_ofNat_Int] at hih
        have hE1 : p.length - (c' :: t').length < p.length := by simp only [List.length_cons] at e3 ⊢; omega
        generalize hE : p.length - (c' :: t').length = E at *
        obtain ⟨hcE, hdE, _⟩ := drop_one e1
        obtain ⟨_, hcE2⟩ := List.getElem?_eq_some_iff.1 hcE
        have hwq : IntKind.i64.wrap ((q : Int) + 1) = (q : Int) + 1 := wrap_i64 (by omega) (by omega)
        have hwE : IntKind.i64.wrap ((E : Int) + 1) = (E : Int) + 1 := wrap_i64 (by omega) (by omega)
        have hdl : done.length ≤ 64 := by have := congrArg List.length hdone; rw [List.length_append] at this; omega
        have hid1 := (List.getElem?_eq_some_iff.1 wrow).1
        simp [w0, w1, w6, hwq]
        refine ac_same hih (by simp) ?_
        rintro v rfl
        simp [w0, w1, w6]
        simp at hEa
        refine apF [id] (m := tx (expd [[]] a)) hacc (by simp) (fun h => by have := congrArg List.length h; rw [tx_len] at this; simp at this; rw [this] at hEa; simp at hEa; omega) (by omega) tx_one (by rw [tx_len, tx_len, hEa]; omega) (by rw [tx_len, tx_len, hEa]; omega) (by simp; exact hid1) ?_
        intro v2 σ2 hacc2 hkeep hle
        have wrow2 : σ2[id]? = some (.row 9 1 (tx O) false) := by rw [hkeep id (by simp)]; exact wrow
        rw [← tx_app] at hacc2
        by_cases h125 : c' = 125
        · have h125i : (c'.toNat : Int) = 125 := by rw [h125]; rfl
          obtain ⟨hdA, hr1⟩ : A = done ++ expd [[]] a ∧ r1 = t' := by
            rcases hcase2 with ⟨_, rfl, rfl, _⟩ | ⟨h, _⟩
            · exact ⟨by rw [hdone]; simp [expdA], rfl⟩
            · exact absurd h125 h
          rw [← hdA] at hacc2
          have hr1d : p.drop (E + 1) = r1 := by rw [hr1]; exact hdE
          obtain ⟨aid, haid, rfl, hall⟩ : ∃ aid, ¬ aid = id ∧ v2 = .row aid A.length ∧ σ2[aid]? = some (.row 9 1 (tx A) false) := by
            rcases hacc2 with ⟨h1, _⟩ | ⟨_, rid, h2, h3, h4⟩
            · have := congrArg List.length h1; rw [tx_len] at this; simp at this
              rw [this] at hAl; simp at hAl; omega
            · exact ⟨rid, by simpa using h2, by rw [h3, tx_len], h4⟩
          subst h125
          simp [w0, w6, hcE, hcE2, hE1, hwE]
          refine lp_gen (fun f' => f' 0 = .str p ∧ f' 1 = .int .i64 ((E : Int) + 1) ∧ f' 6 = .row id O.length ∧ f' 9 = .row aid A.length ∧ f' 12 = .nils ∧ f' 13 = .int .i64 0) ⟨by simp [w0], by simp, by simp [w6], by simp, by simp, by simp⟩ ?_
          rintro fB ⟨y0, y1, y6, y9, y12, y13⟩
          have hidA := (List.getElem?_eq_some_iff.1 hall).1
          have hid2 := (List.getElem?_eq_some_iff.1 wrow2).1
          refine lp_startx (fun x f σ' => ∃ (j : Nat), x = O.length - j ∧ j ≤ O.length ∧ f 0 = .str p ∧ f 1 = .int .i64 ((E : Int) + 1) ∧ f 6 = .row id O.length ∧ f 9 = .row aid A.length ∧ f 13 = .int .i64 j ∧ AccF [id, aid] 9 1 σ' (f 12) (tx (prod (O.take j) A)) ∧ σ'[id]? = some (.row 9 1 (tx O) false) ∧ σ'[aid]? = some (.row 9 1 (tx A) false)) O.length ?_ ?_
          · exact ⟨0, by simp, by simp, y0, y1, y6, y9, y13, .inl ⟨by simp [prod, tx, strEls], y12⟩, wrow2, hall⟩
          rintro xB f2 σ3 ⟨j, hxB, hjO, z0, z1, z6, z9, z13, zacc, zrow, zall⟩
          by_cases hjl : j < O.length
          · obtain ⟨h, hh⟩ : ∃ h, O[j]? = some h := ⟨_, List.getElem?_eq_getElem hjl⟩
            have hhW := hW h (List.mem_of_getElem? hh)
            have g1 := tx_get hh
            obtain ⟨g1a, g1b⟩ := List.getElem?_eq_some_iff.1 g1
            have hjl' : (j : Int) < (O.length : Int) := by omega
            have hwj : IntKind.i64.wrap ((j : Int) + 1) = (j : Int) + 1 := wrap_i64 (by omega) (by omega)
            simp [z0, z1, z6, z9, z13, zrow, tx_len, hjl, hjl']
            refine lp_gen (fun f' => f' 0 = .str p ∧ f' 1 = .int .i64 ((E : Int) + 1) ∧ f' 6 = .row id O.length ∧ f' 9 = .row aid A.length ∧ f' 12 = f2 12 ∧ f' 13 = .int .i64 j ∧ f' 14 = .int .i64 0) ⟨by simp [z0], by simp [z1], by simp [z6], by simp [z9], by simp, by simp [z13], by simp⟩ ?_
            rintro fC ⟨c0, c1, c6, c9, c12, c13, c14⟩
            refine lp_startx (fun x f σ' => ∃ (t : Nat), x = A.length - t ∧ t ≤ A.length ∧ f 0 = .str p ∧ f 1 = .int .i64 ((E : Int) + 1) ∧ f 6 = .row id O.length ∧ f 9 = .row aid A.length ∧ f 13 = .int .i64 j ∧ f 14 = .int .i64 t ∧ AccF [id, aid] 9 1 σ' (f 12) (tx (moreP O A j h t)) ∧ σ'[id]? = some (.row 9 1 (tx O) false) ∧ σ'[aid]? = some (.row 9 1 (tx A) false)) A.length ?_ ?_
            · exact ⟨0, by simp, by simp, c0, c1, c6, c9, c13, c14, by rw [c12, moreP_zero]; exact zacc, zrow, zall⟩
            rintro xC f3 σ4 ⟨t, hxC, htA, d0, d1', d6, d9, d13, d14, dacc, drow, dall⟩
            have hidd := (List.getElem?_eq_some_iff.1 drow).1
            have haidd := (List.getElem?_eq_some_iff.1 dall).1
            by_cases htl : t < A.length
            · obtain ⟨o, ho⟩ : ∃ o, A[t]? = some o := ⟨_, List.getElem?_eq_getElem htl⟩
              have hob := hAb o (List.mem_of_getElem? ho)
              have g2 := tx_get ho
              obtain ⟨g2a, g2b⟩ := List.getElem?_eq_some_iff.1 g2
              have htl' : (t : Int) < (A.length : Int) := by omega
              have hwt : IntKind.i64.wrap ((t : Int) + 1) = (t : Int) + 1 := wrap_i64 (by omega) (by omega)
              have hsum : (texts h).length + (texts o).length ≤ 9223372036854775807 := by omega
              have hml := moreP_len O A j h t
              rw [hAl] at hml
              simp [d0, d1', d6, d9, d13, d14, drow, dall, tx_len, hjl, htl, htl', g1, g1b, g2, g2b, hsum]
              refine apF [id, aid] (m := [[.str (texts h ++ texts o)]]) (dacc.more _) (by simp) (by simp) (by omega) (by simp) (by rw [tx_len]; simp; omega) (by rw [tx_len]; simp; omega) (by simp; omega) ?_
              intro v5 σ5 hacc5 hkeep5 hle5
              rw [← moreP_succ ho] at hacc5
              have k1 : σ5[id]? = some (.row 9 1 (tx O) false) := by rw [hkeep5 id (by simp), List.getElem?_append_left hidd]; exact drow
              have k2 : σ5[aid]? = some (.row 9 1 (tx A) false) := by rw [hkeep5 aid (by simp), List.getElem?_append_left haidd]; exact dall
              simp [d14, hwt]
              exact nx_intro (A.length - (t + 1)) (by omega) ⟨t + 1, rfl, by omega, by simp [d0], by simp [d1'], by simp [d6], by simp [d9], by simp [d13], by simp, by simpa using hacc5, k1, k2⟩
            · have hte : t = A.length := by omega
              have htl' : ¬ (t : Int) < (A.length : Int) := by omega
              subst hte
              rw [moreP_all hh] at dacc
              simp [d0, d1', d6, d9, d13, d14, dall, tx_len, htl, htl', hwj]
              exact nx_intro (O.length - (j + 1)) (by omega) ⟨j + 1, rfl, by omega, by simp [d0], by simp [d1'], by simp [d6], by simp [d9], by simp, by simpa using dacc, drow, dall⟩
          · have hje : j = O.length := by omega
            have hjl' : ¬ (j : Int) < (O.length : Int) := by omega
            subst hje
            rw [prod_all] at zacc
            obtain ⟨nid, hnv, hnrow⟩ : ∃ nid, f2 12 = .row nid (prod O A).length ∧ σ3[nid]? = some (.row 9 1 (tx (prod O A)) false) := by
              rcases zacc with ⟨h1, _⟩ | ⟨_, rid, _, h3, h4⟩
              · have := congrArg List.length h1; rw [tx_len, hPl] at this; simp at this; omega
              · exact ⟨rid, by rw [h3, tx_len], h4⟩
            simp [z0, z1, z6, z9, z13, zrow, tx_len, hjl, hjl']
            refine nx_intro (p.length - (E + 1)) (by omega) ⟨E + 1, m', d3, l', prod O A, nid, rfl, by omega, by omega, by rw [hr1d]; exact hp', hex, by rw [hPl]; omega, by rw [hPl]; exact hcO, ?_, by simp [z0], by simp [z1], by simp [hnv], hnrow⟩
            intro o' ho'
            simp only [prod, List.mem_flatMap, List.mem_map] at ho'
            obtain ⟨h, hh, o, ho, rfl⟩ := ho'
            have q1 := hW h hh
            have q2 := hAb o ho
            rw [texts_append, List.length_append]; omega
        · have h125i : ¬ (c'.toNat : Int) = 125 := u8_ne (n := 125) rfl h125
          obtain ⟨as', d2', ha', rfl⟩ : ∃ as' d2', alts m3 t' = some (as', r1, d2') ∧ as2 = a :: as' := by
            rcases hcase2 with ⟨h, _⟩ | ⟨_, as', d2', h1, h2, _⟩
            · exact absurd h h125
            · exact ⟨as', d2', h1, h2⟩
          simp [w0, w6, hcE, hcE2, hE1, h125i]
          exact nx_intro (p.length - E) (by omega) ⟨E, m3, d2', as', done ++ expd [[]] a, rfl, by omega, by omega, by rw [hdE]; exact ha', by rw [hdone]; simp [expdA], fun b hb => hmem b (by simp [hb]), by simp [w0], by simp, by simp [w6], by simpa using hacc2, wrow2⟩
      have n123 : ¬ ((c.toNat : Int) = 123) := u8_ne (n := 123) rfl h123
      by_cases h91 : c = 91
      · subst h91
        obtain ⟨rs, r1, l', hcl, hp', rfl⟩ : ∃ rs r1 l', cls m' false t = some (rs, r1) ∧ pcs m' r1 = some (l', r, d2) ∧ l2 = .cls rs ((91 :: t).take (t.length + 1 - r1.length)) :: l' := by
          rcases hcase with ⟨h, _⟩ | ⟨h, _⟩ | ⟨h, _⟩ | ⟨_, rs, r1, l', h1, h2, h3⟩ | ⟨h, _⟩
          · exact absurd h (by decide)
          · exact absurd h (by decide)
          · exact absurd h (by decide)
          · exact ⟨rs, r1, l', h1, h2, h3⟩
          · exact absurd h (by decide)
        obtain ⟨pc, hpce⟩ : ∃ pc : Pc, pc = .cls rs ((91 :: t).take (t.length + 1 - r1.length)) := ⟨_, rfl⟩
        rw [← hpce] at hex hcO hW hne
        have hk4 : pc.kind ≠ 4 := by rw [hpce]; simp [Pc.kind]
        rw [← hdk1] at hcl
        have hclass := rclass_ok (G := G) p (k + 1) m' rs r1 hcl (by omega)
        obtain ⟨cd1, cd2⟩ := cls_drop hcl
        simp only [Int.natCast_add, Int.cast_ofNat_Int] at hclass
        have htl : t.length = p.length - (k + 1) := by rw [← hdk1]; simp
        obtain ⟨nxt, hE⟩ : ∃ nxt, nxt = p.length - r1.length := ⟨_, rfl⟩
        rw [← hE] at hclass cd1
        have hpt : (p.take nxt).drop k = pc.text := by
          rw [hpce]
          show _ = (91 :: t).take (t.length + 1 - r1.length)
          rw [← hdk, List.drop_take]
          congr 1; omega
        have hptl : pc.text.length = nxt - k := by rw [← hpt]; simp; omega
        have hsrc : srcL (pc :: l') = pc.text.length + srcL l' := by rw [hpce]; simp [srcL, Pc.text]
        have hnl : nxt ≤ p.length := by omega
        have hp' : pcs m' (p.drop nxt) = some (l', r, d2) := by rw [cd1]; exact hp'
        have hnI : (nxt : Int) = (nxt : Int) := rfl
        rw [hsrc] at hW
        simp [h0, h1, h6, hlt, hlt', hc, hc2, hwk]
        refine ac_same hclass (by simp) ?_
        rintro v rfl
        simp [h0, h1, h6]
        refine lp_gen (fun f' => f' 0 = .str p ∧ f' 1 = .int .i64 k ∧ f' 6 = .row id O.length ∧ f' 7 = .int .i64 nxt ∧ f' 8 = .int .i64 0) ⟨by simp [h0], by simp [h1], by simp [h6], by simp [hnI], by simp⟩ ?_
        rintro f0 ⟨u0, u1, u6, u7, u8⟩
        refine lp_startx (fun x f σ' => ∃ (j : Nat), x = O.length - j ∧ j ≤ O.length ∧ f 0 = .str p ∧ f 1 = .int .i64 k ∧ f 6 = .row id O.length ∧ f 7 = .int .i64 nxt ∧ f 8 = .int .i64 j ∧ σ' = σ.set id (.row 9 1 (tx (mixP pc O j)) false)) O.length ?_ ?_
        · exact ⟨0, by simp, by simp, u0, u1, u6, u7, u8, by rw [mixP_zero]; exact hsame.symm⟩
        rintro x' f1 σ' ⟨j, hx', hj, w0, w1, w6, w7, w8, rfl⟩
        have v1 : ∀ e : Entry, (σ.set id e)[id]? = some e := fun e => by simp [hidl]
        have v2 : ∀ e e' : Entry, (σ.set id e).set id e' = σ.set id e' := fun e e' => by simp
        have v3 : (tx (mixP pc O j)).length = O.length := (tx_len _).trans (mixP_len pc O j hj)
        by_cases hjl : j < O.length
        · obtain ⟨o, ho⟩ : ∃ o, O[j]? = some o := ⟨_, List.getElem?_eq_getElem hjl⟩
          have hob := hW o (List.mem_of_getElem? ho)
          have m1 := mixP_get pc ho
          have m2 := mixP_set pc ho
          obtain ⟨m1a, m1b⟩ := List.getElem?_eq_some_iff.1 m1
          have hjl' : (j : Int) < (O.length : Int) := by omega
          have hwj : IntKind.i64.wrap ((j : Int) + 1) = (j : Int) + 1 := wrap_i64 (by omega) (by omega)
          have hq1 : (texts o).length + pc.text.length ≤ 9223372036854775807 := by omega
          have hkn : (k : Int) ≤ (nxt : Int) := by omega
          have hkn2 : k ≤ nxt := by omega
          have hnp : (nxt : Int) ≤ (p.length : Int) := by omega
          simp [w0, w1, w6, w7, w8, v1, v2, v3, hjl, hjl', m1, m1b, hkn, hkn2, hnp, hnl, hpt, hq1, m2, hwj]
          exact nx_intro (O.length - (j + 1)) (by omega) ⟨j + 1, rfl, by omega, by simp [w0], by simp [w1], by simp [w6], by simp [w7], by simp, by simp⟩
        · have hje : j = O.length := by omega
          have hjl' : ¬ (j : Int) < (O.length : Int) := by omega
          subst hje
          simp [w0, w1, w6, w7, w8, v1, v2, v3, mixP_all, tx_len, hjl, hjl']
          refine nx_intro (p.length - nxt) (by omega) ⟨nxt, m', d2, l', O.map (· ++ [pc]), id, rfl, by omega, by omega, hp', ?_, by simpa using hO1, ?_, ?_, by simp [w0], by simp, by simp [w6], by simp [hidl, mixP_all]⟩
          · rw [← hex, expd_cons_other hk4]
          · rw [List.length_map]; rw [cnt_other hk4] at hcO; exact hcO
          · intro o' ho'
            obtain ⟨o, ho, rfl⟩ := List.mem_map.1 ho'
            have := hW o ho
            rw [texts_append]
            have e : (texts [pc]).length = pc.text.length := by simp [texts]
            rw [List.length_append, e]; omega
      · have n91 : ¬ ((c.toNat : Int) = 91) := u8_ne (n := 91) rfl h91
        obtain ⟨pc, l', hpx, hk4, rfl, hp', hsrc1⟩ : ∃ (pc : Pc) (l' : List Pc), pc.text = [c] ∧ pc.kind ≠ 4 ∧ l2 = pc :: l' ∧ pcs m' t = some (l', r, d2) ∧ srcL (pc :: l') = 1 + srcL l' := by
          rcases hcase with ⟨rfl, l', h, e⟩ | ⟨rfl, l', h, e⟩ | ⟨_, l', h, e⟩ | ⟨h, _⟩ | ⟨h, _⟩
          · exact ⟨.q, l', rfl, by simp [Pc.kind], e, h, by simp [srcL]⟩
          · exact ⟨.star, l', rfl, by simp [Pc.kind], e, h, by simp [srcL]⟩
          · exact ⟨.lit c, l', rfl, by simp [Pc.kind], e, h, by simp [srcL]⟩
          · exact absurd h h91
          · exact absurd h h123
        obtain ⟨nxt, hE⟩ : ∃ nxt, nxt = k + 1 := ⟨_, rfl⟩
        have hpt : (p.take nxt).drop k = pc.text := by
          rw [hpx, hE, List.take_add_one, hc, List.drop_append_of_le_length (by rw [List.length_take]; omega), List.drop_of_length_le (by rw [List.length_take]; omega)]
          rfl
        have hptl : pc.text.length = nxt - k := by rw [hpx, hE]; simp
        have hsrc : srcL (pc :: l') = pc.text.length + srcL l' := by rw [hsrc1, hpx]; rfl
        have hnl : nxt ≤ p.length := by omega
        have hp' : pcs m' (p.drop nxt) = some (l', r, d2) := by rw [hE, hdk1]; exact hp'
        have hnI : (k : Int) + 1 = (nxt : Int) := by omega
        rw [hsrc] at hW
        simp [h0, h1, h6, hlt, hlt', hc, hc2, hwk, n44, n125, n123, n91]
        refine lp_gen (fun f' => f' 0 = .str p ∧ f' 1 = .int .i64 k ∧ f' 6 = .row id O.length ∧ f' 7 = .int .i64 nxt ∧ f' 8 = .int .i64 0) ⟨by simp [h0], by simp [h1], by simp [h6], by simp [hnI], by simp⟩ ?_
        rintro f0 ⟨u0, u1, u6, u7, u8⟩
        refine lp_startx (fun x f σ' => ∃ (j : Nat), x = O.length - j ∧ j ≤ O.length ∧ f 0 = .str p ∧ f 1 = .int .i64 k ∧ f 6 = .row id O.length ∧ f 7 = .int .i64 nxt ∧ f 8 = .int .i64 j ∧ σ' = σ.set id (.row 9 1 (tx (mixP pc O j)) false)) O.length ?_ ?_
        · exact ⟨0, by simp, by simp, u0, u1, u6, u7, u8, by rw [mixP_zero]; exact hsame.symm⟩
        rintro x' f1 σ' ⟨j, hx', hj, w0, w1, w6, w7, w8, rfl⟩
        have v1 : ∀ e : Entry, (σ.set id e)[id]? = some e := fun e => by simp [hidl]
        have v2 : ∀ e e' : Entry, (σ.set id e).set id e' = σ.set id e' := fun e e' => by simp
        have v3 : (tx (mixP pc O j)).length = O.length := (tx_len _).trans (mixP_len pc O j hj)
        by_cases hjl : j < O.length
        · obtain ⟨o, ho⟩ : ∃ o, O[j]? = some o := ⟨_, List.getElem?_eq_getElem hjl⟩
          have hob := hW o (List.mem_of_getElem? ho)
          have m1 := mixP_get pc ho
          have m2 := mixP_set pc ho
          obtain ⟨m1a, m1b⟩ := List.getElem?_eq_some_iff.1 m1
          have hjl' : (j : Int) < (O.length : Int) := by omega
          have hwj : IntKind.i64.wrap ((j : Int) + 1) = (j : Int) + 1 := wrap_i64 (by omega) (by omega)
          have hq1 : (texts o).length + pc.text.length ≤ 9223372036854775807 := by omega
          have hkn : (k : Int) ≤ (nxt : Int) := by omega
          have hkn2 : k ≤ nxt := by omega
          have hnp : (nxt : Int) ≤ (p.length : Int) := by omega
          simp [w0, w1, w6, w7, w8, v1, v2, v3, hjl, hjl', m1, m1b, hkn, hkn2, hnp, hnl, hpt, hq1, m2, hwj]
          exact nx_intro (O.length - (j + 1)) (by omega) ⟨j + 1, rfl, by omega, by simp [w0], by simp [w1], by simp [w6], by simp [w7], by simp, by simp⟩
        · have hje : j = O.length := by omega
          have hjl' : ¬ (j : Int) < (O.length : Int) := by omega
          subst hje
          simp [w0, w1, w6, w7, w8, v1, v2, v3, mixP_all, tx_len, hjl, hjl']
          refine nx_intro (p.length - nxt) (by omega) ⟨nxt, m', d2, l', O.map (· ++ [pc]), id, rfl, by omega, by omega, hp', ?_, by simpa using hO1, ?_, ?_, by simp [w0], by simp, by simp [w6], by simp [hidl, mixP_all]⟩
          · rw [← hex, expd_cons_other hk4]
          · rw [List.length_map]; rw [cnt_other hk4] at hcO; exact hcO
          · intro o' ho'
            obtain ⟨o, ho, rfl⟩ := List.mem_map.1 ho'
            have := hW o ho
            rw [texts_append]
            have e : (texts [pc]).length = pc.text.length := by simp [texts]
            rw [List.length_append, e]; omega
end Go.Proofs.YtkclehdmdnfikaaDoor
