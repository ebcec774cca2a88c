/- TokensSplit returns true at every input: the row, and its card. -/
import Derived.Test.YtkclehdmdnfikaaDoorTkE
import Derived.Test.YtkclehdmdnfikaaDoorDcN
import Derived.Carry
import Derived.Test.YtkclehdmdnfikaaDoorCards
import Derived.Test.YtkclehdmdnfikaaDoorTie
import Derived.Handed
import Derived.SevenTiedAt
set_option linter.unusedSimpArgs false
set_option linter.unusedVariables false
set_option linter.constructorNameAsVariable false
namespace Go.Proofs.YtkclehdmdnfikaaDoor
open Go.ChangeShapes Go.WideShapes Go.ChangeAt Go.RowKit Go.ChangeMaps Go.Abs

theorem Tryd.own : ownKnob Tryd.prog.godebug = none := by kernel_rfl
theorem Tryd.laidOut : laidOutB Tryd.prog = true := by kernel_rfl

set_option maxRecDepth 1000000 in
theorem tsplits_met (os : Os) (args : Array Value) : laidMet Tryd.prog Rows.tokensSplitRow.laid ((decWorld os).forCall (fun _ _ => 0) ⟨#[], args, []⟩).memory :=
  (LaidIn.of_run (l := Rows.tokensSplitRow.laid) decBlocks 8 (by kernel_rfl) (by kernel_rfl) (by kernel_rfl) (by kernel_rfl)).met

set_option maxRecDepth 100000 in
theorem tsplits_lifted (os : Os) (started : os.Started) (H : Type) (enc : TypeId × Value → H) :
    ReturnsInHanded {} Tryd.checked os 5 .any (fun w args => (Rows.tokensSplitSpec.pre enc Tryd.prog Tryd.f5 Rows.tokensSplitRow.domain false w args ∧ laidMet Tryd.prog Rows.tokensSplitRow.laid w) ∧ sizedMet enc Tryd.prog Tryd.f5 (OpenSpec.ofChange Rows.tokensSplitSpec) false w args)
      (Rows.tokensSplitSpec.post enc Tryd.prog Tryd.f5 false true false false) := by
  refine returnsInHanded_of_change_and (C := Tryd.checked) (X := fun w _ => laidMet Tryd.prog Rows.tokensSplitRow.laid w) (fun _ _ _ hh h => h.of_heap hh) Tryd.own started (by kernel_rfl) Tryd.func5
    (ChangeSpec.witness_at (enc := enc) (C := Tryd.checked) (os := os) (X := fun w _ => laidMet Tryd.prog Rows.tokensSplitRow.laid w) false (decWorld os) #[.string ⟨#[]⟩] 8 rfl (by kernel_rfl) (by kernel_rfl) (by kernel_rfl) (by kernel_rfl) (by kernel_rfl) (tsplits_met os _)) ?_
  intro W base args ds gs before hval0 hW _ _ _ _
  have hX : laidMet Tryd.prog Rows.tokensSplitRow.laid W := by assumption
  have hval : ∀ (j : Nat) t v, Tryd.f5.params[j]? = some t → args[j]? = some v → Value.okWide Tryd.prog W .any base t v := hval0
  have hW' := hW
  obtain ⟨p, q, hA0, hV, rfl, hfz, hnd⟩ := hW
  have hA : DataW.TrodAll enc Tryd.prog W 0 (fun _ => true) true Tryd.f5.params.toList args.toList ds p := hA0
  rw [Tryd.params5] at hA hval
  obtain ⟨v0, d0, rfl, rfl, h0⟩ := trodAll_one hA
  obtain ⟨rfl, rfl⟩ := trodVars_none hV
  obtain ⟨a0, rfl, rfl, rfl, wa0⟩ := open_string Tryd.underlying9 (hval 0 _ v0 rfl rfl) h0
  have wl0 : a0.data.toList.length ≤ 9223372036854775807 := by rw [Array.length_toList]; exact wa0
  clear hA0 hval0
  refine (law_calls (tsplits_law (G := decGlobs) a0.data.toList wl0) (gin_dec hX (.tail _ (.tail _ (.tail _ (.tail _ (List.Mem.head _))))) (.tail _ (.tail _ (.tail _ (List.Mem.head _)))) (.tail _ (.tail _ (List.Mem.head _)))) (irl_cons (ir_str W a0) (irl_nil W))).mono fun e W' ⟨he, hb⟩ => ?_
  subst he
  refine ⟨_, rfl, _, _, _, [], [], [], hW', ?_, ?_, rfl, hb.frame _, fun h => by cases h⟩
  · exact trodAll_mk1 (shut_bool Tryd.underlying4 true)
  · exact trodAll_mk1 (shut_string Tryd.underlying9 wa0)

theorem tsplits_row : Rows.TokensSplitSaid :=
  OpenClaim.holds_of_wide 5 Tryd.f5 rfl rfl rfl rfl rfl rfl rfl ⟨rfl, rfl, rfl, rfl, rfl⟩ rfl rfl rfl rfl rfl (by kernel_rfl) Tryd.func5 (by kernel_rfl)
    (of_decide_eq_true (by kernel_rfl)) (by unfold Func.isWrapper; first | (rw [if_pos (by decide +kernel)]; kernel_rfl) | (rw [if_neg (by decide +kernel)]; exact ⟨rfl, rfl⟩))
    (fun os started H enc _ => tsplits_lifted os started H enc)

theorem tsplits_holds : Rows.TokensSplitCardSaid :=
  Claim7.holds_tied_plain_at .later [] [.data, .data, .data, .sentinel, .sentinel] true (true, "ff9c5384adb907113457203b5e08e2e90eac70c7396dc757d47a17a81a9c6694") true
    tsplits_row (fun _ h => by cases h) (by kernel_rfl) (fun _ h => by cases h) tokensSplit_row_tie rfl ⟨rfl, rfl⟩ (by kernel_rfl) rfl
    (fun f fn hf hfn => by
      obtain rfl : f = 5 := Option.some.inj ((show Tryd.prog.funcNamed "isobar/isobarlaw22.TokensSplit" = some 5 by kernel_rfl).symm.trans hf) |>.symm
      obtain rfl : fn = Tryd.f5 := (Option.some.inj (Tryd.func5.symm.trans hfn)).symm
      exact ⟨by kernel_rfl, fun j t ht => by
        rw [Tryd.params5] at ht
        have h3 : t = 9 := by
          rcases j with _ | j
          · simpa using ht.symm
          · simp at ht
        subst h3
        exact (show Tryd.prog.wantsStandIn 9 = false by kernel_rfl)⟩)
    (by kernel_rfl)
end Go.Proofs.YtkclehdmdnfikaaDoor
