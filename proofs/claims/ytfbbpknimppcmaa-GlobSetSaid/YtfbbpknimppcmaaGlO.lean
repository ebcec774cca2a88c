/- GlobSet returns true at every input. No conditions. -/
import Derived.Test.YtfbbpknimppcmaaGlL
import Derived.Test.YtfbbpknimppcmaaLift
import Derived.Test.YtfbbpknimppcmaaRows
import Derived.ProofKit
set_option linter.unusedSimpArgs false
set_option linter.unusedVariables false
set_option linter.constructorNameAsVariable false
namespace Go.Proofs.Ytfbbpknimppcmaa
open Go.Abs Go.Glob

theorem set_law (p q name : List UInt8) (hp : p.length ≤ 9223372036854775807) (hq : q.length ≤ 9223372036854775807) (hn : name.length ≤ 9223372036854775807) : PCalls Try.prog n_isobarlaw15_GlobSet [.str p, .str q, .str name] (fun r => r = .bool true) := by
  refine pcalls_of_awp hmix c_isobarlaw15_GlobSet rfl ?_
  simp [a_isobarlaw15_GlobSet]
  refine ac_same alive_ok (by simp) ?_
  rintro r rfl
  simp
  by_cases h200 : 200 < name.length
  · have h200' : (200 : Int) < name.length := by omega
    simp [h200, h200']
  have h200' : ¬ (200 : Int) < name.length := by omega
  by_cases hp60 : 60 < p.length
  · have hp60' : (60 : Int) < p.length := by omega
    simp [h200, h200', hp60, hp60']
  have hp60' : ¬ (60 : Int) < p.length := by omega
  by_cases hq60 : 60 < q.length
  · have hq60' : (60 : Int) < q.length := by omega
    simp [h200, h200', hp60, hp60', hq60, hq60']
  have hq60' : ¬ (60 : Int) < q.length := by omega
  simp [h200, h200', hp60, hp60', hq60, hq60']
  refine ac_same (Match_ok p name hp (by omega)) (by simp) ?_
  rintro r rfl
  simp
  refine ac_same (Match_ok q name hq (by omega)) (by simp) ?_
  rintro r rfl
  have herr : ∀ {s : List UInt8} {e : Nat}, parse s = .error e → e ≠ 0 := by
    intro s e h
    unfold parse at h
    repeat' split at h
    all_goals first | (cases h; decide) | cases h
  cases hpp : parse p with
  | error e =>
    have he := herr hpp
    have he' : ¬ ((e : Int) = 0) := by omega
    have hm : matchF p name = (false, e) := by simp [matchF, hpp]
    simp [hm, he, he']
  | ok l =>
    have hm := match_ok (name := name) hpp
    cases hqq : parse q with
    | error e =>
      have he := herr hqq
      have he' : ¬ ((e : Int) = 0) := by omega
      have hm2 : matchF q name = (false, e) := by simp [matchF, hqq]
      simp [hm, hm2, he, he']
      generalize ((expd [[]] l).any fun o => mt o name) = a
      cases a <;> simp
    | ok m =>
      have hm2 := match_ok (name := name) hqq
      simp [hm, hm2]
      refine ac_same (Expand_ok p hp) (by simp) ?_
      rintro r rfl
      have hgood := parse_good hpp
      obtain ⟨hE64, hE⟩ : (expd [[]] l).length ≤ 64 ∧ True := ⟨(expand_parsed hpp).2.2.2.1, trivial⟩
      have hboth : ∀ x, parse ([123] ++ p ++ [44] ++ q ++ [125]) = .ok x → x = [.br [l, m]] := fun x hx => by
        rcases parse_two hpp hqq (by omega) (by omega) with h | h | h <;> rw [h] at hx <;> cases hx
        rfl
      have htwo := parse_two hpp hqq (by omega) (by omega)
      have hexp2 : expd [[]] [.br [l, m]] = expd [[]] l ++ expd [[]] m := by
        simp [expd, expdA]
      rw [hpp]
      simp [expandAV]
      generalize expd [[]] l = E at *
      generalize expd [[]] m = F at *
      have hlen : (strEls (E.map texts)).length = E.length := by simp [strEls]
      have hsl : ∀ {i : Nat} {o : List Pc}, E[i]? = some o → (strEls (E.map texts))[i]? = some [.str (texts o)] := fun {i o} h => by simp [strEls, h]
      refine lp_startx (fun x f σ => ∃ i : Nat, x = E.length - i ∧ i ≤ E.length ∧ f 0 = .str p ∧ f 1 = .str q ∧ f 2 = .str name ∧ f 7 = .bool (E.any fun o => mt o name) ∧ f 9 = .bool (F.any fun o => mt o name) ∧ f 11 = .lst (strEls (E.map texts)) ∧ f 14 = .int .i64 i ∧ f 13 = .bool ((E.take i).any fun o => mt o name) ∧ σ = []) E.length ⟨0, by simp [hm, hm2]⟩ ?_
      rintro x f σ ⟨i, rfl, hi, h0, h1, h2, h7, h9, h11, h14, h13, rfl⟩
      simp [h11, h14, hlen]
      refine cb_dec (fun hlt => ?_) (fun hge => ?_)
      · have hlt' : i < E.length := by omega
        obtain ⟨o, ho⟩ : ∃ o, E[i]? = some o := ⟨_, List.getElem?_eq_getElem hlt'⟩
        have hmo : o ∈ E := List.mem_of_getElem? ho
        have hgo := hgood o hmo
        obtain ⟨hx1, hx2⟩ := List.getElem?_eq_some_iff.1 (hsl ho)
        have hwi : IntKind.i64.wrap ((i : Int) + 1) = (i : Int) + 1 := wrap_i64 (by omega) (by omega)
        have hany : (E.take (i + 1)).any (fun o => mt o name) = ((E.take i).any (fun o => mt o name) || mt o name) := by
          rw [List.take_add_one, ho]; simp [List.any_append]
        by_cases ht : texts o = []
        · have ho0 := texts_nil hgo.1 hgo.2.1 ht
          have hmt : mt o name = decide (name = []) := by
            rw [ho0, mt_nil]; cases name <;> simp
          simp [h11, h13, h14, hlen, hsl ho, hx2, ht]
          generalize hb : (E.take i).any (fun o => mt o name) = b at *
          have hfin : ∀ {f' : Abs.Frame} {tf : Tg f'} {tI} , f' 0 = .str p → f' 1 = .str q → f' 2 = .str name → f' 7 = .bool (E.any fun o => mt o name) → f' 9 = .bool (F.any fun o => mt o name) → f' 11 = .lst (strEls (E.map texts)) → f' 14 = .int .i64 ((i : Int) + 1) → f' 13 = .bool (b || mt o name) →
              nx (E.length - i) (fun x f σ => ∃ i : Nat, x = E.length - i ∧ i ≤ E.length ∧ f 0 = .str p ∧ f 1 = .str q ∧ f 2 = .str name ∧ f 7 = .bool (E.any fun o => mt o name) ∧ f 9 = .bool (F.any fun o => mt o name) ∧ f 11 = .lst (strEls (E.map texts)) ∧ f 14 = .int .i64 i ∧ f 13 = .bool ((E.take i).any fun o => mt o name) ∧ σ = []) tI f' tf [] :=
            fun a0 a1 a2 a3 a4 a5 a6 a7 => nx_intro (E.length - (i + 1)) (by omega) ⟨i + 1, rfl, by omega, a0, a1, a2, a3, a4, a5, by simpa using a6, by rw [hany]; exact a7, rfl⟩
          cases b with
          | true =>
            simp [h14, hwi]
            exact hfin (by simp [h0]) (by simp [h1]) (by simp [h2]) (by simp [h7]) (by simp [h9]) (by simp [h11]) (by simp) (by simp)
          | false =>
            simp [h2, h14, hwi]
            exact hfin (by simp [h0]) (by simp [h1]) (by simp [h2]) (by simp [h7]) (by simp [h9]) (by simp [h11]) (by simp) (by simp [hmt])
        · have hpo := parse_texts hgo (by omega) ht
          have hmo2 : matchF (texts o) name = (mt o name, 0) := by
            rw [match_ok hpo, expd_flat _ _ hgo.1]; simp
          have htl : (texts o).length ≤ 128 := by have := hgo.2.2; omega
          simp [h2, h11, h13, h14, hlen, hsl ho, hx2, ht]
          refine ac_same (Match_ok (texts o) name (by omega) (by omega)) (by simp) ?_
          rintro r rfl
          rw [hmo2]
          simp [h13]
          generalize hb : (E.take i).any (fun o => mt o name) = b at *
          cases b with
          | true =>
            simp [h14, hwi]
            exact nx_intro (E.length - (i + 1)) (by omega) ⟨i + 1, rfl, by omega, by simp [h0], by simp [h1], by simp [h2], by simp [h7], by simp [h9], by simp [h11], by simp, by rw [hany]; simp, rfl⟩
          | false =>
            simp [h14, hwi]
            exact nx_intro (E.length - (i + 1)) (by omega) ⟨i + 1, rfl, by omega, by simp [h0], by simp [h1], by simp [h2], by simp [h7], by simp [h9], by simp [h11], by simp, by rw [hany]; simp, rfl⟩
      · have ei : i = E.length := by omega
        subst ei
        rw [List.take_length] at h13
        have c1 : 1 + p.length ≤ 9223372036854775807 := by omega
        have c2 : p.length + 1 ≤ 9223372036854775807 := by omega
        have c3 : p.length + 1 + 1 ≤ 9223372036854775807 := by omega
        have c4 : p.length + 1 + 1 + q.length ≤ 9223372036854775807 := by omega
        have c5 : p.length + 1 + 1 + q.length + 1 ≤ 9223372036854775807 := by omega
        have c6 : p.length + (q.length + 1) ≤ 9223372036854775805 := by omega
        have ecat : (123 :: (p ++ 44 :: (q ++ [125])) : List UInt8) = [123] ++ p ++ [44] ++ q ++ [125] := by simp
        simp [h0, h1, h2, h7, h9, h13, c1, c2, c3, c4, c5, c6]
        have hlc : (123 :: (p ++ 44 :: (q ++ [125])) : List UInt8).length ≤ 9223372036854775807 := by simp; omega
        refine ac_same (Match_ok _ name hlc (by omega)) (by simp) ?_
        rintro r rfl
        rw [ecat]
        rcases htwo with hx | hx | hx
        · have hmx : matchF ([123] ++ p ++ [44] ++ q ++ [125]) name = ((E.any fun o => mt o name) || (F.any fun o => mt o name), 0) := by
            rw [match_ok hx, hexp2, List.any_append]
          rw [hmx]
          simp [h7, h9, h13]
          generalize (E.any fun o => mt o name) = a at *
          generalize (F.any fun o => mt o name) = b at *
          cases a <;> cases b <;> simp [h7, h9, h13]
        · have hmx : matchF ([123] ++ p ++ [44] ++ q ++ [125]) name = (false, 19) := by simp only [matchF, hx]
          rw [hmx]
          simp [h7, h13]
        · have hmx : matchF ([123] ++ p ++ [44] ++ q ++ [125]) name = (false, 11) := by simp only [matchF, hx]
          rw [hmx]
          simp [h7, h13]

open Go.ChangeShapes Go.WideShapes Go.ChangeAt Go.RowKit Go.ChangeMaps
theorem Try.own : ownKnob Try.prog.godebug = none := by kernel_rfl
theorem Try.laidOut : laidOutB Try.prog = true := by kernel_rfl

set_option maxRecDepth 100000 in
theorem set_lifted (os : Os) (started : os.Started) (H : Type) (enc : TypeId × Value → H) :
    ReturnsInHanded {} Try.checked os 3 .any (Rows.globSetSpec.pre6 enc Try.prog Try.f3 Rows.globSetRow.domain false) (Rows.globSetSpec.post enc Try.prog Try.f3 false true false false) := by
  refine returnsInHanded_of_change (C := Try.checked) Try.own started (by kernel_rfl) Try.func3
    (ChangeSpec.witness6 (enc := enc) (C := Try.checked) false ⟨#[], #[.string ⟨#[]⟩, .string ⟨#[]⟩, .string ⟨#[]⟩], []⟩ 8 (by kernel_rfl) (by kernel_rfl) (by kernel_rfl) (by kernel_rfl)) ?_
  intro W base args ds gs before hval0 hW _ _
  have hval : ∀ (j : Nat) t v, Try.f3.params[j]? = some t → args[j]? = some v → Value.okWide Try.prog W .any base t v := hval0
  have hW' := hW
  obtain ⟨p, q, hA0, hV, rfl, hfz, hnd⟩ := hW
  have hA : DataW.TrodAll enc Try.prog W 0 (fun _ => true) true Try.f3.params.toList args.toList ds p := hA0
  rw [Try.params3] at hA hval
  obtain ⟨v0, v1, v2, d0, d1, d2, p0, p1, p2, rfl, rfl, rfl, h0, h1, h2⟩ := trodAll_three hA
  obtain ⟨rfl, rfl⟩ := trodVars_none hV
  obtain ⟨a, rfl, rfl, rfl, wa⟩ := open_string Try.underlying9 (hval 0 _ v0 rfl rfl) h0
  obtain ⟨b, rfl, rfl, rfl, wb⟩ := open_string Try.underlying9 (hval 1 _ v1 rfl rfl) h1
  obtain ⟨c, rfl, rfl, rfl, wc⟩ := open_string Try.underlying9 (hval 2 _ v2 rfl rfl) h2
  clear hA0 hval0
  simp only [List.append_nil] at hW'
  refine (law_calls (set_law a.data.toList b.data.toList c.data.toList wa wb wc) (irl_cons (ir_str W a) (irl_cons (ir_str W b) (irl_cons (ir_str W c) (irl_nil W))))).mono fun e W' ⟨he, hb⟩ => ?_
  subst he
  refine ⟨_, rfl, _, _, _, [] ++ [], [], [], hW', ?_, ?_, rfl, hb.frame _, fun h => by cases h⟩
  · exact trodAll_mk1 (shut_bool Try.underlying4 true)
  · exact trodAll_mk3 (shut_string Try.underlying9 wa) (shut_string Try.underlying9 wb) (shut_string Try.underlying9 wc)

theorem set_holds : Rows.GlobSetSaid :=
  OpenClaim.holds_of_wide 3 Try.f3 rfl rfl rfl rfl rfl rfl rfl ⟨rfl, rfl, rfl, rfl, rfl⟩ rfl rfl rfl rfl rfl (by kernel_rfl) Try.func3 (by kernel_rfl)
    (of_decide_eq_true (by kernel_rfl)) (by unfold Func.isWrapper; first | (rw [if_pos (by decide +kernel)]; kernel_rfl) | (rw [if_neg (by decide +kernel)]; exact ⟨rfl, rfl⟩))
    (fun os started H enc _ => set_lifted os started H enc)
end Go.Proofs.Ytfbbpknimppcmaa
