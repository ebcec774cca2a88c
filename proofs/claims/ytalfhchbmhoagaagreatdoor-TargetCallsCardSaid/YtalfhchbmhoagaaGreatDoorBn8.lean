/- Targets: Calls; the law of the calls. Targets: the law of the calls. -/
import Derived.Test.YtalfhchbmhoagaaGreatDoorBn1
import Derived.Test.YtalfhchbmhoagaaGreatDoorBn2
import Derived.Test.YtalfhchbmhoagaaGreatDoorBn3
import Derived.Test.YtalfhchbmhoagaaGreatDoorBn4
import Derived.Test.YtalfhchbmhoagaaGreatDoorBn5
import Derived.Test.YtalfhchbmhoagaaGreatDoorBn6
import Derived.Test.YtalfhchbmhoagaaGreatDoorBn7
set_option linter.unusedSimpArgs false
set_option linter.unusedVariables false
set_option linter.constructorNameAsVariable false
section
set_option maxHeartbeats 4000000
set_option maxRecDepth 20000
namespace Go.Proofs.YtalfhchbmhoagaaGreatDoor
open Go.Abs Go.Tgt Go.Trail Go.Tok
variable {G : Globs}
def sortedW : List (List UInt8) := wordsS.mergeSort fun x y => decide (x ≤ y)
theorem sortedW_perm : sortedW.Perm wordsS := List.mergeSort_perm _ _
theorem wordsS_len : wordsS.length = 61 := by kernel_rfl
theorem sortedW_len : sortedW.length = 61 := by rw [sortedW_perm.length_eq, wordsS_len]
theorem wordsS_nodup : wordsS.Nodup := of_decide_eq_true (by kernel_rfl)
theorem sortedW_less {i j : Nat} {a b : List UInt8} (hij : i < j) (ha : sortedW[i]? = some a) (hb : sortedW[j]? = some b) : Op.bytesLess a b = true := by
 have hp : sortedW.Pairwise fun a b => decide (a ≤ b) = true := List.pairwise_mergeSort (fun a b c h1 h2 => by
  simp only [decide_eq_true_eq] at *
  exact List.le_trans h1 h2) (fun a b => by
  simp only [Bool.or_eq_true, decide_eq_true_eq]
  exact List.le_total a b) _
 have hn : sortedW.Nodup := sortedW_perm.nodup_iff.2 wordsS_nodup
 obtain ⟨h1, rfl⟩ := List.getElem?_eq_some_iff.1 ha
 obtain ⟨h2, rfl⟩ := List.getElem?_eq_some_iff.1 hb
 have hle := List.pairwise_iff_getElem.1 hp i j h1 h2 hij
 have hne := List.pairwise_iff_getElem.1 hn i j h1 h2 hij
 simp only [decide_eq_true_eq] at hle
 rw [bytesLess_eq, decide_eq_true_eq]
 apply Classical.byContradiction
 intro hlt
 exact hne (List.le_antisymm hle hlt)
theorem sortedW_mem {i : Nat} {a : List UInt8} (ha : sortedW[i]? = some a) : a ∈ wordsS := sortedW_perm.mem_iff.1 (List.mem_of_getElem? ha)
theorem fam_some : (famT.all fun p => !(Lib.fields p.2).isEmpty) = true := by kernel_rfl
def RowI (σ : Store) (v : AV) (l : List (List UInt8)) : Prop := (l = [] ∧ v = .nils) ∨ (l ≠ [] ∧ ∃ id, v = .row id l.length ∧ σ[id]? = some (.row 9 1 (strEls l) false))
theorem strEls_app (l m : List (List UInt8)) : strEls l ++ strEls m = strEls (l ++ m) := by simp [strEls]
theorem words_take : ∀ j, (famT.take j).flatMap (fun p => Lib.fields p.2) ++ (famT.drop j).flatMap (fun p => Lib.fields p.2) = wordsS := fun j => by
 rw [← List.flatMap_append, List.take_append_drop]; rfl
theorem tCalls_ok [GSpcT] [GFam] : PCalls Tryz.prog n_target_Calls [] (fun r => r = .lst (strEls sortedW)) := by
 refine pcalls_of_awp hmix c_target_Calls rfl ?_
 have hg := GFam.fam (self := ‹GFam›)
 have hcl : famCells.length = 22 := rfl
 have hcl2 : famT.length = 11 := rfl
 have htk : famCells.take 22 = famCells := rfl
 simp [a_target_Calls, hg, hcl, htk]
 refine lp_startx (fun x f σ => ∃ j : Nat, x = 11 - j ∧ j ≤ 11 ∧ f 4 = .agg famCells ∧ f 5 = .int .i64 j ∧ RowI σ (f 1) ((famT.take j).flatMap fun p => Lib.fields p.2)) 11 ⟨0, by simp, by simp, by simp, by simp, .inl ⟨by simp, by simp⟩⟩ ?_
 rintro x f σ ⟨j, hx, hj, f4, f5, hR⟩
 by_cases hlt : j < 11
 ·obtain ⟨p, hp⟩ : ∃ p, famT[j]? = some p := ⟨_, List.getElem?_eq_getElem (by rw [hcl2]; exact hlt)⟩
  have hlti : (j : Int) < 11 := by omega
  have hc3 : (famCells.drop (j * 2)).take 2 = [.str p.1, .str p.2] := cells_at famT j p hp
  have hw : IntKind.i64.wrap ((j : Int) + 1) = (j : Int) + 1 := wrap_i64 (by omega) (by omega)
  have hal := List.all_eq_true.1 fam_ok p (List.mem_of_getElem? hp)
  simp only [Bool.and_eq_true, decide_eq_true_eq, List.all_eq_true] at hal
  have hso := List.all_eq_true.1 fam_some p (List.mem_of_getElem? hp)
  have hne : Lib.fields p.2 ≠ [] := by
   intro e; rw [e] at hso; simp at hso
  have h20 : j * 2 ≤ 20 := by omega
  have hnext : (famT.take (j + 1)).flatMap (fun p => Lib.fields p.2) = (famT.take j).flatMap (fun p => Lib.fields p.2) ++ Lib.fields p.2 := by
   rw [List.take_add_one, hp]; simp
  have hwl := congrArg List.length (words_take j)
  rw [List.length_append, wordsS_len] at hwl
  have hone : ∀ c ∈ strEls (Lib.fields p.2), c.length = 1 := fun c hc => by
   obtain ⟨y, _, rfl⟩ := List.mem_map.1 hc
   rfl
  have hsl := strEls_length (Lib.fields p.2)
  simp [f4, f5, hlt, hlti, hcl, hc3, boxOp, splice, h20]
  refine ac_same (fieldsT_ok p.2 (by omega) hal.1.2 (by omega)) (by simp) ?_
  rintro r rfl
  obtain ⟨L, hL⟩ : ∃ L, L = (famT.take j).flatMap fun p => Lib.fields p.2 := ⟨_, rfl⟩
  rw [← hL] at hR hnext hwl
  rcases hR with ⟨rfl, h1⟩ | ⟨hL0, id, h1, hid⟩
  ·simp [h1]
   refine ap_new false (strEls (Lib.fields p.2)) rfl (by decide) hone (fun h => by cases h) (by rw [hsl]; omega) (by rw [hsl]; omega) ?_
   simp [f5, hw]
   refine nx_intro (11 - (j + 1)) (by omega) ⟨j + 1, rfl, by omega, by simp [f4], by simp, ?_⟩
   rw [hnext]
   refine .inr ⟨by simpa using hne, _, by rw [hsl]; simp; rfl, ?_⟩
   simp
  ·simp [h1]
   have hidl := (List.getElem?_eq_some_iff.1 hid).1
   have hLl := strEls_length L
   refine ap_row (strEls L) (strEls (Lib.fields p.2)) false (by rw [List.getElem?_append_left hidl]; exact hid) rfl (by decide) hone (fun h => by cases h) hLl (by rw [hsl]; omega) (by rw [hsl]; omega) ?_
   simp [f5, hw]
   refine nx_intro (11 - (j + 1)) (by omega) ⟨j + 1, rfl, by omega, by simp [f4], by simp, ?_⟩
   rw [hnext]
   refine .inr ⟨by simp [hL0], id, by rw [hsl]; simp, ?_⟩
   rw [List.getElem?_set_self (by simp; omega), strEls_app]
 ·have hj11 : j = 11 := by omega
  subst hj11
  have hW : (famT.take 11).flatMap (fun p => Lib.fields p.2) = wordsS := rfl
  rw [hW] at hR
  rcases hR with ⟨h0, _⟩ | ⟨h0, id, h1, hid⟩
  ·have := congrArg List.length h0
   rw [wordsS_len] at this; simp at this
  ·have hidl := (List.getElem?_eq_some_iff.1 hid).1
   simp [f5, h1]
   refine ac_eff (sortStr_ok hid h0 (by rw [wordsS_len]; omega)) ?_
   rintro r σ' ⟨rfl, rfl⟩
   have hfz : ∀ (σ : Store) (l : List (List UInt8)), ((strEls l).mapM fun (c : List AV) => c.mapM (fz σ 0 2)) = some (strEls l) := by
    intro σ l
    induction l with
    | nil => rfl
    | cons a l ih =>
     have e : strEls (a :: l) = [.str a] :: strEls l := rfl
     rw [e, List.mapM_cons, ih]
     simp [fz, AV.pure]
   have hsl := strEls_length sortedW
   have hll : sortedW.length = wordsS.length := sortedW_perm.length_eq
   have hfin : fin (σ.set id (.row 9 1 (strEls sortedW) false)) 0 (.row id wordsS.length) = some (.lst (strEls sortedW)) := by
    simp [fin, finT, fin1, fz, List.getElem?_set_self hidl, hsl, hll, hfz]
   unfold sortedW at hfin ⊢
   simp [h1, hfin]
def lettersF : Bool → List UInt8 → List UInt8
 | _, [] => []
 | first, c :: r => if c = 43 then lettersF first r else (if first = true then [] else [44]) ++ ((if c = 78 ∨ c = 110 then [49] else if c = 84 ∨ c = 116 then [39, 120, 39] else [97, 46, 42]) ++ lettersF false r)
def callT (w k : List UInt8) : List UInt8 := w ++ [40] ++ lettersF true k
def callOK (w : List UInt8) : Bool := match kindsS w with
 | none => false
 | some k => (match parseS nodE (callT w k ++ [41]) with
  | .ok _ => true
  | .error _ => false) && (match parseS nodE (callT w k ++ [44, 39, 120, 39, 44, 39, 121, 39, 41]) with
  | .error e => e == 18
  | .ok _ => false)
theorem calls_ok : (wordsS.all callOK) = true := by kernel_rfl
end Go.Proofs.YtalfhchbmhoagaaGreatDoor
end
section
set_option maxHeartbeats 4000000
set_option maxRecDepth 20000
namespace Go.Proofs.YtalfhchbmhoagaaGreatDoor
open Go.Abs Go.Tgt Go.Trail Go.Tok
variable {G : Globs}
theorem call_facts {w : List UInt8} (h : w ∈ wordsS) : w.length ≤ 100 ∧ ∃ k, kindsS w = some k ∧ k ∈ famT.map (·.1) ∧ (∃ m, parseS nodE (callT w k ++ [41]) = .ok m) ∧ parseS nodE (callT w k ++ [44, 39, 120, 39, 44, 39, 121, 39, 41]) = .error 18 := by
 have h1 := List.all_eq_true.1 calls_ok w h
 have hlen : (wordsS.all fun w => decide (w.length ≤ 100)) = true := by kernel_rfl
 have h2 := List.all_eq_true.1 hlen w h
 refine ⟨by simpa using h2, ?_⟩
 unfold callOK at h1
 cases hk : kindsS w with
 | none => rw [hk] at h1; cases h1
 | some k =>
  rw [hk] at h1
  simp only [Bool.and_eq_true] at h1
  refine ⟨k, rfl, kinds_mem hk, ?_, ?_⟩
  ·cases hp : parseS nodE (callT w k ++ [41]) with
   | ok m => exact ⟨m, rfl⟩
   | error e => rw [hp] at h1; simp at h1
  ·cases hp : parseS nodE (callT w k ++ [44, 39, 120, 39, 44, 39, 121, 39, 41]) with
   | ok m => rw [hp] at h1; simp at h1
   | error e => rw [hp] at h1; simp at h1; rw [h1.2]
theorem letters_len : ∀ (k : List UInt8) (b : Bool), (lettersF b k).length ≤ 4 * k.length
 | [], b => by simp [lettersF]
 | c :: r, b => by
  have h1 := letters_len r b
  have h2 := letters_len r false
  simp only [lettersF, List.length_cons]
  split
  ·omega
  ·simp only [List.length_append]
   have : (if b = true then ([] : List UInt8) else [44]).length ≤ 1 := by split <;> simp
   have : (if c = 78 ∨ c = 110 then ([49] : List UInt8) else if c = 84 ∨ c = 116 then [39, 120, 39] else [97, 46, 42]).length ≤ 3 := by
    split
    ·simp
    ·split <;> simp
   omega
theorem tcalls_law [GDec] [GSpcT] [GFam] (c : UInt8) : PCalls Tryz.prog n_isobarlaw23_TargetCalls [.int .u8 c.toNat] (fun r => r = .bool true) := by
 refine pcalls_of_awp hmix c_isobarlaw23_TargetCalls rfl ?_
 have htk := fun s t (h : Tok.split s = .ok t) => (split_tkOk h).1
 have hsl := strEls_length sortedW
 have hs61 := sortedW_len
 simp [a_isobarlaw23_TargetCalls]
 refine ac_same talive23_ok (by simp) ?_
 rintro r rfl
 simp
 refine ac_same tCalls_ok (by simp) ?_
 rintro r rfl
 simp [hsl, hs61]
 refine lp_startx (fun x f σ => ∃ k : Nat, x = 61 - k ∧ k ≤ 61 ∧ f 0 = .int .u8 c.toNat ∧ f 3 = .lst (strEls sortedW) ∧ f 4 = .int .i64 k ∧ σ = []) 61 ⟨0, by simp⟩ ?_
 rintro x f σ ⟨k, hx, hk, f0, f3, f4, rfl⟩
 by_cases hk61 : k < 61
 ·have hki : (k : Int) < 61 := by omega
  obtain ⟨w, hw⟩ : ∃ w, sortedW[k]? = some w := ⟨_, List.getElem?_eq_getElem (by omega)⟩
  have hwm := sortedW_mem hw
  obtain ⟨hwl, ks, hks, _⟩ := call_facts hwm
  have hse : (strEls sortedW)[k]? = some [.str w] := by simp [strEls, hw]
  obtain ⟨g1, g2⟩ := List.getElem?_eq_some_iff.1 hse
  have hrk := rKinds_ok (G := G) w
  rw [hks] at hrk
  have hwk : IntKind.i64.wrap ((k : Int) + 1) = (k : Int) + 1 := wrap_i64 (by omega) (by omega)
  simp [f3, f4, hsl, hs61, hk61, hki, hse, g1, g2]
  refine ac_same hrk (by simp [kindsAV]) ?_
  rintro r rfl
  simp only [kindsAV]
  by_cases hk0 : k = 0
  ·subst hk0
   have hw1 : IntKind.i64.wrap 1 = 1 := by decide
   simp [f3, f4, hw1]
   refine nx_intro 60 (by omega) ⟨1, rfl, by omega, by simp [f0], by simp [f3], by simp, rfl⟩
  ·have hk0i : (0 : Int) < (k : Int) := by omega
   have hk0n : 0 < k := by omega
   obtain ⟨q, rfl⟩ : ∃ q, k = q + 1 := ⟨k - 1, by omega⟩
   have hwq : IntKind.i64.wrap (((q + 1 : Nat) : Int) - 1) = (q : Int) := by rw [wrap_i64 (by omega) (by omega)]; omega
   have hwq2 : IntKind.i64.wrap ((q : Int) + 1 - 1) = (q : Int) := by rw [wrap_i64 (by omega) (by omega)]; omega
   have hwq3 : IntKind.i64.wrap (q : Int) = (q : Int) := wrap_i64 (by omega) (by omega)
   obtain ⟨v, hv⟩ : ∃ v, sortedW[q]? = some v := ⟨_, List.getElem?_eq_getElem (by omega)⟩
   have hve : (strEls sortedW)[q]? = some [.str v] := by simp [strEls, hv]
   obtain ⟨u1, u2⟩ := List.getElem?_eq_some_iff.1 hve
   have hless := sortedW_less (Nat.lt_succ_self q) hv hw
   have hq61 : q < 61 := by omega
   have hqi : (q : Int) < 61 := by omega
   have hp1 : (0 : Int) < (q : Int) + 1 := by omega
   have hp2 : (0 : Int) ≤ (q : Int) + 1 := by omega
   have tk1 : ((q : Int) + 1).toNat = q + 1 := by omega
   have hq1i : (q : Int) + 1 < 61 := by omega
   simp only [Int.natCast_add, Int.cast_ofNat_Int] at hwk
   simp [f3, f4, hsl, hs61, hk61, hki, hse, g1, g2, hwq, hwq2, hwq3, hve, u1, u2, hless, hq61, hqi, hp1, hp2, tk1, hq1i, hwk]
   refine nx_intro (61 - (q + 1 + 1)) (by omega) ⟨q + 1 + 1, rfl, by omega, by simp [f0], by simp [f3], by simp, rfl⟩
 ·have hke : k = 61 := by omega
  subst hke
  obtain ⟨i, hi⟩ : ∃ i, i = c.toNat % 61 := ⟨_, rfl⟩
  have hi61 : i < 61 := by rw [hi]; exact Nat.mod_lt _ (by decide)
  obtain ⟨w, hw⟩ : ∃ w, sortedW[i]? = some w := ⟨_, List.getElem?_eq_getElem (by omega)⟩
  have hwm := sortedW_mem hw
  obtain ⟨hwl, ks, hks, hkm, ⟨m, hok⟩, herr⟩ := call_facts hwm
  have hse : (strEls sortedW)[i]? = some [.str w] := by simp [strEls, hw]
  obtain ⟨g1, g2⟩ := List.getElem?_eq_some_iff.1 hse
  have hcl : c.toNat < 256 := c.toNat_lt
  have hrem : ((c.toNat : Int)).tmod 61 = (i : Int) := by rw [hi]; rfl
  have hii : (i : Int) < 61 := by omega
  have hwc : IntKind.i64.wrap (c.toNat : Int) = (c.toNat : Int) := wrap_i64 (by omega) (by omega)
  have hwi : IntKind.i64.wrap (i : Int) = (i : Int) := wrap_i64 (by omega) (by omega)
  have hkd := tKinds_ok (G := G) w
  rw [hks] at hkd
  have hkl : ks.length ≤ 3 := by
   rw [fam_kinds] at hkm
   simp only [List.mem_cons, List.mem_nil_iff, or_false] at hkm
   rcases hkm with rfl | rfl | rfl | rfl | rfl | rfl | rfl | rfl | rfl | rfl | rfl <;> decide
  have hwl2 : w.length ≤ 9223372036854775806 := by omega
  simp [f0, f3, f4, hsl, hs61, hrem, hii, hi61, hse, g1, g2, hwc, hwi]
  refine ac_same hkd (by simp [kindsAV]) ?_
  rintro r rfl
  simp [kindsAV, hwl2]
  refine lp_startx (fun x f σ => ∃ (q : Nat) (b : Bool) (T : List UInt8), x = ks.length - q ∧ q ≤ ks.length ∧ f 8 = .str ks ∧ f 10 = .str T ∧ f 11 = .bool b ∧ f 12 = .int .i64 q ∧ T ++ lettersF b (ks.drop q) = callT w ks ∧ σ = []) ks.length ⟨0, true, w ++ [40], by simp, by simp, by simp, by simp, by simp, by simp, by simp [callT], rfl⟩ ?_
  rintro x f σ ⟨q, b, T, hx, hq, f8, f10, f11, f12, hT, rfl⟩
  have hTl : T.length ≤ 200 := by
   have h1 := congrArg List.length hT
   have h2 := letters_len ks true
   simp only [callT, List.length_append, List.length_singleton] at h1
   omega
  by_cases hqk : q < ks.length
  ·obtain ⟨c0, hc0⟩ : ∃ c, ks[q]? = some c := ⟨_, List.getElem?_eq_getElem hqk⟩
   obtain ⟨_, hc1⟩ := List.getElem?_eq_some_iff.1 hc0
   have hqi : (q : Int) < (ks.length : Int) := by omega
   have hwq : IntKind.i64.wrap ((q : Int) + 1) = (q : Int) + 1 := wrap_i64 (by omega) (by omega)
   have hdr : ks.drop q = c0 :: ks.drop (q + 1) := by
    obtain ⟨h1, rfl⟩ := List.getElem?_eq_some_iff.1 hc0
    exact List.drop_eq_getElem_cons h1
   rw [hdr] at hT
   have q1 : T.length ≤ 9223372036854775806 := by omega
   have q2 : T.length ≤ 9223372036854775804 := by omega
   have q3 : T.length + 1 ≤ 9223372036854775806 := by omega
   have q4 : T.length + 1 ≤ 9223372036854775804 := by omega
   have q5 : T.length ≤ 9223372036854775805 := by omega
   have q6 : T.length ≤ 9223372036854775803 := by omega
   have q7 : T.length + 1 + 1 ≤ 9223372036854775807 := by omega
   have q8 : T.length + 1 + 3 ≤ 9223372036854775807 := by omega
   by_cases h43 : c0 = 43
   ·subst h43
    simp [f8, f10, f11, f12, hqk, hqi, hc0, hc1, hwq]
    exact nx_intro (ks.length - (q + 1)) (by omega) ⟨q + 1, b, T, rfl, by omega, by simp [f8], by simp [f10], by simp [f11], by simp, by rw [← hT]; simp [lettersF], rfl⟩
   have n43 : ¬ (c0.toNat : Int) = 43 := fun e => h43 (UInt8.toNat_inj.1 (show c0.toNat = 43 by omega))
   have hcase : c0 = 78 ∨ c0 = 110 ∨ c0 = 84 ∨ c0 = 116 ∨ (c0 ≠ 78 ∧ c0 ≠ 110 ∧ c0 ≠ 84 ∧ c0 ≠ 116) := by
    by_cases h1 : c0 = 78
    ·exact .inl h1
    ·by_cases h2 : c0 = 110
     ·exact .inr (.inl h2)
     ·by_cases h3 : c0 = 84
      ·exact .inr (.inr (.inl h3))
      ·by_cases h4 : c0 = 116
       ·exact .inr (.inr (.inr (.inl h4)))
       ·exact .inr (.inr (.inr (.inr ⟨h1, h2, h3, h4⟩)))
   cases b with
   | true =>
    rcases hcase with rfl | rfl | rfl | rfl | ⟨h1, h2, h3, h4⟩
    ·simp [f8, f10, f11, f12, hqk, hqi, hc0, hc1, hwq, q1, q2, q3, q4, q5, q6, q7, q8]
     exact nx_intro (ks.length - (q + 1)) (by omega) ⟨q + 1, false, T ++ [49], rfl, by omega, by simp [f8], by simp, by simp, by simp, by rw [← hT]; simp [lettersF], rfl⟩
    ·simp [f8, f10, f11, f12, hqk, hqi, hc0, hc1, hwq, q1, q2, q3, q4, q5, q6, q7, q8]
     exact nx_intro (ks.length - (q + 1)) (by omega) ⟨q + 1, false, T ++ [49], rfl, by omega, by simp [f8], by simp, by simp, by simp, by rw [← hT]; simp [lettersF], rfl⟩
    ·simp [f8, f10, f11, f12, hqk, hqi, hc0, hc1, hwq, q1, q2, q3, q4, q5, q6, q7, q8]
     exact nx_intro (ks.length - (q + 1)) (by omega) ⟨q + 1, false, T ++ [39, 120, 39], rfl, by omega, by simp [f8], by simp, by simp, by simp, by rw [← hT]; simp [lettersF], rfl⟩
    ·simp [f8, f10, f11, f12, hqk, hqi, hc0, hc1, hwq, q1, q2, q3, q4, q5, q6, q7, q8]
     exact nx_intro (ks.length - (q + 1)) (by omega) ⟨q + 1, false, T ++ [39, 120, 39], rfl, by omega, by simp [f8], by simp, by simp, by simp, by rw [← hT]; simp [lettersF], rfl⟩
    ·have n1 : ¬ (c0.toNat : Int) = 78 := fun e => h1 (UInt8.toNat_inj.1 (show c0.toNat = 78 by omega))
     have n2 : ¬ (c0.toNat : Int) = 110 := fun e => h2 (UInt8.toNat_inj.1 (show c0.toNat = 110 by omega))
     have n3 : ¬ (c0.toNat : Int) = 84 := fun e => h3 (UInt8.toNat_inj.1 (show c0.toNat = 84 by omega))
     have n4 : ¬ (c0.toNat : Int) = 116 := fun e => h4 (UInt8.toNat_inj.1 (show c0.toNat = 116 by omega))
     simp [f8, f10, f11, f12, hqk, hqi, hc0, hc1, hwq, n43, n1, n2, n3, n4, q1, q2, q3, q4, q5, q6, q7, q8]
     exact nx_intro (ks.length - (q + 1)) (by omega) ⟨q + 1, false, T ++ [97, 46, 42], rfl, by omega, by simp [f8], by simp, by simp, by simp, by rw [← hT]; simp [lettersF, h43, h1, h2, h3, h4], rfl⟩
   | false =>
    rcases hcase with rfl | rfl | rfl | rfl | ⟨h1, h2, h3, h4⟩
    ·simp [f8, f10, f11, f12, hqk, hqi, hc0, hc1, hwq, q1, q2, q3, q4, q5, q6, q7, q8]
     exact nx_intro (ks.length - (q + 1)) (by omega) ⟨q + 1, false, T ++ [44, 49], rfl, by omega, by simp [f8], by simp, by simp, by simp, by rw [← hT]; simp [lettersF], rfl⟩
    ·simp [f8, f10, f11, f12, hqk, hqi, hc0, hc1, hwq, q1, q2, q3, q4, q5, q6, q7, q8]
     exact nx_intro (ks.length - (q + 1)) (by omega) ⟨q + 1, false, T ++ [44, 49], rfl, by omega, by simp [f8], by simp, by simp, by simp, by rw [← hT]; simp [lettersF], rfl⟩
    ·simp [f8, f10, f11, f12, hqk, hqi, hc0, hc1, hwq, q1, q2, q3, q4, q5, q6, q7, q8]
     exact nx_intro (ks.length - (q + 1)) (by omega) ⟨q + 1, false, T ++ [44, 39, 120, 39], rfl, by omega, by simp [f8], by simp, by simp, by simp, by rw [← hT]; simp [lettersF], rfl⟩
    ·simp [f8, f10, f11, f12, hqk, hqi, hc0, hc1, hwq, q1, q2, q3, q4, q5, q6, q7, q8]
     exact nx_intro (ks.length - (q + 1)) (by omega) ⟨q + 1, false, T ++ [44, 39, 120, 39], rfl, by omega, by simp [f8], by simp, by simp, by simp, by rw [← hT]; simp [lettersF], rfl⟩
    ·have n1 : ¬ (c0.toNat : Int) = 78 := fun e => h1 (UInt8.toNat_inj.1 (show c0.toNat = 78 by omega))
     have n2 : ¬ (c0.toNat : Int) = 110 := fun e => h2 (UInt8.toNat_inj.1 (show c0.toNat = 110 by omega))
     have n3 : ¬ (c0.toNat : Int) = 84 := fun e => h3 (UInt8.toNat_inj.1 (show c0.toNat = 84 by omega))
     have n4 : ¬ (c0.toNat : Int) = 116 := fun e => h4 (UInt8.toNat_inj.1 (show c0.toNat = 116 by omega))
     simp [f8, f10, f11, f12, hqk, hqi, hc0, hc1, hwq, n43, n1, n2, n3, n4, q1, q2, q3, q4, q5, q6, q7, q8]
     exact nx_intro (ks.length - (q + 1)) (by omega) ⟨q + 1, false, T ++ [44, 97, 46, 42], rfl, by omega, by simp [f8], by simp, by simp, by simp, by rw [← hT]; simp [lettersF, h43, h1, h2, h3, h4], rfl⟩
  ·have hqe : q = ks.length := by omega
   subst hqe
   rw [List.drop_length] at hT
   simp only [lettersF, List.append_nil] at hT
   subst hT
   have q1 : (callT w ks).length ≤ 9223372036854775806 := by omega
   have q2 : (callT w ks).length ≤ 9223372036854775798 := by omega
   have hA := tParse_ok (G := G) (callT w ks ++ [41]) (by simp; omega) (htk _)
   have hB := tParse_ok (G := G) (callT w ks ++ [44, 39, 120, 39, 44, 39, 121, 39, 41]) (by simp; omega) (htk _)
   rw [hok] at hA
   rw [herr] at hB
   simp [f8, f10, f12, q1]
   refine ac_same hA (by simp) ?_
   rintro r rfl
   simp [treeAV, f10, q2]
   refine ac_same hB (by simp) ?_
   rintro r rfl
   simp [treeAV]
end Go.Proofs.YtalfhchbmhoagaaGreatDoor
end
