/- TargetCalls returns true at every input: the row, and its card. No conditions. -/
import Derived.Test.YtalfhchbmhoagaaGreatDoorBn1
import Derived.Test.YtalfhchbmhoagaaGreatDoorBn2
import Derived.Test.YtalfhchbmhoagaaGreatDoorBn3
import Derived.Test.YtalfhchbmhoagaaGreatDoorBn4
import Derived.Test.YtalfhchbmhoagaaGreatDoorBn5
import Derived.Test.YtalfhchbmhoagaaGreatDoorBn6
import Derived.Test.YtalfhchbmhoagaaGreatDoorBn7
import Derived.Test.YtalfhchbmhoagaaGreatDoorBn8
import Derived.Carry
import Derived.Test.YtalfhchbmhoagaaGreatDoorCards
import Derived.Test.YtalfhchbmhoagaaGreatDoorTie
import Derived.Handed
import Derived.SevenTiedAt
set_option linter.unusedSimpArgs false
set_option linter.unusedVariables false
set_option linter.constructorNameAsVariable false
namespace Go.Proofs.YtalfhchbmhoagaaGreatDoor
open Go.ChangeShapes Go.WideShapes Go.ChangeAt Go.RowKit Go.ChangeMaps Go.Abs
theorem Tryz.own : ownKnob Tryz.prog.godebug = none := by kernel_rfl
theorem Tryz.laidOut : laidOutB Tryz.prog = true := by kernel_rfl
set_option maxRecDepth 1000000 in
theorem tcalls_met (os : Os) (args : Array Value) : laidMet Tryz.prog Rows.targetCallsRow.laid ((World.laidAll Tryz.prog os Rows.targetCallsRow.laid).forCall (fun _ _ => 0) ⟨#[], args, []⟩).memory :=
  laidMet_laidAll args (by kernel_rfl) (by kernel_rfl)
set_option maxRecDepth 100000 in
theorem tcalls_lifted (os : Os) (started : os.Started) (H : Type) (enc : TypeId × Value → H) :
    ReturnsInHanded {} Tryz.checked os 6 .any (fun w args => (Rows.targetCallsSpec.pre enc Tryz.prog Tryz.f6 Rows.targetCallsRow.domain false w args ∧ laidMet Tryz.prog Rows.targetCallsRow.laid w) ∧ sizedMet enc Tryz.prog Tryz.f6 (OpenSpec.ofChange Rows.targetCallsSpec) false w args)
      (Rows.targetCallsSpec.post enc Tryz.prog Tryz.f6 false true false false) := by
  refine returns_shaped (C := Tryz.checked) (X := fun w _ => laidMet Tryz.prog Rows.targetCallsRow.laid w) (fun _ _ _ hh h => h.of_heap hh) Tryz.own started (by kernel_rfl) Tryz.func6
    (witness_zip (enc := enc) (C := Tryz.checked) (os := os) (X := fun w _ => laidMet Tryz.prog Rows.targetCallsRow.laid w) (World.laidAll Tryz.prog os Rows.targetCallsRow.laid) #[.int .u8 0] 8 (World.laidAll_os _ _ _) (by kernel_rfl) (by kernel_rfl) (by kernel_rfl) (by kernel_rfl) (by kernel_rfl) (tcalls_met os _)) ?_
  intro W base args ds gs before hshp hval0 hW hX
  have hval : ∀ (j : Nat) t v, Tryz.f6.params[j]? = some t → args[j]? = some v → Value.okWide Tryz.prog W .any base t v := hval0
  have hW' := hW
  obtain ⟨p, q, hA0, hV, rfl, hfz, hnd⟩ := hW
  have hA : DataW.TrodAll enc Tryz.prog W 0 (fun _ => true) true Tryz.f6.params.toList args.toList ds p := hA0
  rw [Tryz.params6] at hA hval
  obtain ⟨v0, d0, rfl, rfl, h0⟩ := trodAll_one hA
  obtain ⟨rfl, rfl⟩ := trodVars_none hV
  simp only [List.append_nil] at hW'
  have hlt0 : ∀ x ∈ p, x.block < W.heap.size := fun x hx => by simpa using hW'.lt x hx
  have h0k := h0
  obtain ⟨n0, rfl, _, _, wn0⟩ := open_int Tryz.underlying5 (hval 0 _ v0 rfl rfl) h0
  obtain ⟨c0, hc0⟩ := u8_of wn0
  subst hc0
  clear hA0 hval0
  have hgin := (gin_tg hX (.tail _ (.tail _ (.tail _ (.tail _ (.tail _ (List.Mem.head _)))))) (.tail _ (.tail _ (.tail _ (.tail _ (List.Mem.head _))))) (.tail _ (.tail _ (List.Mem.head _))) (.tail _ (.tail _ (.tail _ (.tail _ (.tail _ (.tail _ (.tail _ (List.Mem.head _)))))))) (.tail _ (.tail _ (.tail _ (.tail _ (.tail _ (.tail _ (.tail _ (.tail _ (List.Mem.head _))))))))))
  refine (law_calls_old (tcalls_law (G := tgGlobs) c0) hgin (iro_cons (.int _ _) (iro_nil W))).mono fun e W' ⟨he, hb⟩ => ?_
  subst he
  refine ⟨_, rfl, _, _, _, [], p, [], hW', ?_, ?_, rfl, hb.frame _, fun h => by cases h⟩
  · exact trodAll_mk1 (shut_bool Tryz.underlying4 true)
  · exact trodAll_mk1 (Below.trod Tryz.laidOut (by kernel_rfl) (of_decide_eq_true (by kernel_rfl)) h0k hb hlt0)
theorem tcalls_row : Rows.TargetCallsSaid :=
  OpenClaim.holds_of_wide 6 Tryz.f6 rfl rfl rfl rfl rfl rfl rfl ⟨rfl, rfl, rfl, rfl, rfl⟩ rfl rfl rfl rfl rfl (by kernel_rfl) Tryz.func6 (by kernel_rfl)
    (of_decide_eq_true (by kernel_rfl)) (by unfold Func.isWrapper; first | (rw [if_pos (by decide +kernel)]; kernel_rfl) | (rw [if_neg (by decide +kernel)]; exact ⟨rfl, rfl⟩))
    (fun os started H enc _ => tcalls_lifted os started H enc)
theorem tcalls_holds : Rows.TargetCallsCardSaid :=
  Claim7.holds_tied_plain_at .later [] [.data, .data, .data, .data, .sentinel, .sentinel, .listed, .data, .data, .pinned, .pinned] true (true, "eec37eaaeb2f5d6c741b77cd7ae6aa761565a0c138b12b40530b224dabc25693") true
    tcalls_row (fun _ h => by cases h) (by kernel_rfl) (fun _ h => by cases h) targetCalls_row_tie rfl ⟨rfl, rfl⟩ (by kernel_rfl) rfl
    (fun f fn hf hfn => by
      obtain rfl : f = 6 := Option.some.inj ((show Tryz.prog.funcNamed "isobar/isobarlaw23.TargetCalls" = some 6 by kernel_rfl).symm.trans hf) |>.symm
      obtain rfl : fn = Tryz.f6 := (Option.some.inj (Tryz.func6.symm.trans hfn)).symm
      exact ⟨by kernel_rfl, fun j t ht => by
        rw [Tryz.params6] at ht
        match j, ht with
        | 0, ht =>
          obtain rfl : t = 5 := by simpa using ht.symm
          exact (show Tryz.prog.wantsStandIn 5 = false by kernel_rfl)
        | j + 1, ht => simp at ht⟩)
    (by kernel_rfl)
end Go.Proofs.YtalfhchbmhoagaaGreatDoor
