/- DecimalShort returns true at every input: the row, and its card. -/
import Derived.Test.YtkclehdmdnfikaaDoorDcJ
import Derived.Test.YtkclehdmdnfikaaDoorDcN
import Derived.Test.YtkclehdmdnfikaaDoorCards
import Derived.Test.YtkclehdmdnfikaaDoorTie
import Derived.Handed
import Derived.SevenTiedAt
set_option linter.unusedSimpArgs false
set_option linter.unusedVariables false
set_option linter.constructorNameAsVariable false
namespace Go.Proofs.YtkclehdmdnfikaaDoor
open Go.ChangeShapes Go.WideShapes Go.ChangeAt Go.RowKit Go.ChangeMaps Go.Abs

theorem Tryd.own : ownKnob Tryd.prog.godebug = none := by kernel_rfl
theorem Tryd.laidOut : laidOutB Tryd.prog = true := by kernel_rfl

set_option maxRecDepth 1000000 in
theorem short_met (os : Os) (args : Array Value) : laidMet Tryd.prog Rows.decimalShortRow.laid ((decWorld os).forCall (fun _ _ => 0) ⟨#[], args, []⟩).memory :=
  (LaidIn.of_run (l := Rows.decimalShortRow.laid) decBlocks 8 (by kernel_rfl) (by kernel_rfl) (by kernel_rfl) (by kernel_rfl)).met

set_option maxRecDepth 100000 in
theorem short_lifted (os : Os) (started : os.Started) (H : Type) (enc : TypeId × Value → H) :
    ReturnsInHanded {} Tryd.checked os 8 .any (fun w args => (Rows.decimalShortSpec.pre enc Tryd.prog Tryd.f8 Rows.decimalShortRow.domain false w args ∧ laidMet Tryd.prog Rows.decimalShortRow.laid w) ∧ sizedMet enc Tryd.prog Tryd.f8 (OpenSpec.ofChange Rows.decimalShortSpec) false w args)
      (Rows.decimalShortSpec.post enc Tryd.prog Tryd.f8 false true false false) := by
  refine returnsInHanded_of_change_and (C := Tryd.checked) (X := fun w _ => laidMet Tryd.prog Rows.decimalShortRow.laid w) (fun _ _ _ hh h => h.of_heap hh) Tryd.own started (by kernel_rfl) Tryd.func8
    (ChangeSpec.witness_at (enc := enc) (C := Tryd.checked) (os := os) (X := fun w _ => laidMet Tryd.prog Rows.decimalShortRow.laid w) false (decWorld os) #[.agg #[.bool false, .int .i64 0]] 8 rfl (by kernel_rfl) (by kernel_rfl) (by kernel_rfl) (by kernel_rfl) (by kernel_rfl) (short_met os _)) ?_
  intro W base args ds gs before hval0 hW _ _ _ _
  have hX : laidMet Tryd.prog Rows.decimalShortRow.laid W := by assumption
  have hval : ∀ (j : Nat) t v, Tryd.f8.params[j]? = some t → args[j]? = some v → Value.okWide Tryd.prog W .any base t v := hval0
  have hW' := hW
  obtain ⟨p, q, hA0, hV, rfl, hfz, hnd⟩ := hW
  have hA : DataW.TrodAll enc Tryd.prog W 0 (fun _ => true) true Tryd.f8.params.toList args.toList ds p := hA0
  rw [Tryd.params8] at hA hval
  obtain ⟨v0, d0, rfl, rfl, h0⟩ := trodAll_one hA
  obtain ⟨rfl, rfl⟩ := trodVars_none hV
  obtain ⟨b0, n0, rfl, rfl, rfl, wn0⟩ := open_num (hval 0 _ v0 rfl rfl) h0
  obtain ⟨wl0, wh0⟩ := wf_i64 wn0
  clear hA0 hval0
  refine (law_calls (short_law (G := decGlobs) b0 n0 wl0 wh0) (gin_dec hX (.tail _ (.tail _ (.tail _ (.tail _ (.tail _ (List.Mem.head _)))))) (.tail _ (.tail _ (.tail _ (.tail _ (List.Mem.head _))))) (.tail _ (.tail _ (List.Mem.head _)))) (irl_cons (ir_num W b0 n0) (irl_nil W))).mono fun e W' ⟨he, hb⟩ => ?_
  subst he
  refine ⟨_, rfl, _, _, _, [], [], [], hW', ?_, ?_, rfl, hb.frame _, fun h => by cases h⟩
  · exact trodAll_mk1 (shut_bool Tryd.underlying4 true)
  · exact trodAll_mk1 (shut_num b0 wn0)

theorem short_row : Rows.DecimalShortSaid :=
  OpenClaim.holds_of_wide 8 Tryd.f8 rfl rfl rfl rfl rfl rfl rfl ⟨rfl, rfl, rfl, rfl, rfl⟩ rfl rfl rfl rfl rfl (by kernel_rfl) Tryd.func8 (by kernel_rfl)
    (of_decide_eq_true (by kernel_rfl)) (by unfold Func.isWrapper; first | (rw [if_pos (by decide +kernel)]; kernel_rfl) | (rw [if_neg (by decide +kernel)]; exact ⟨rfl, rfl⟩))
    (fun os started H enc _ => short_lifted os started H enc)

theorem short_holds : Rows.DecimalShortCardSaid :=
  Claim7.holds_tied_plain_at .later [] [.data, .data, .data, .data, .sentinel, .sentinel, .pinned] true (true, "ff9c5384adb907113457203b5e08e2e90eac70c7396dc757d47a17a81a9c6694") true
    short_row (fun _ h => by cases h) (by kernel_rfl) (fun _ h => by cases h) decimalShort_row_tie rfl ⟨rfl, rfl⟩ (by kernel_rfl) rfl
    (fun f fn hf hfn => by
      obtain rfl : f = 8 := Option.some.inj ((show Tryd.prog.funcNamed "isobar/isobarlaw03.DecimalShort" = some 8 by kernel_rfl).symm.trans hf) |>.symm
      obtain rfl : fn = Tryd.f8 := (Option.some.inj (Tryd.func8.symm.trans hfn)).symm
      exact ⟨by kernel_rfl, fun j t ht => by
        rw [Tryd.params8] at ht
        have h3 : t = 42 := by
          rcases j with _ | j
          · simpa using ht.symm
          · simp at ht
        subst h3
        exact (show Tryd.prog.wantsStandIn 42 = false by kernel_rfl)⟩)
    (by kernel_rfl)
end Go.Proofs.YtkclehdmdnfikaaDoor
