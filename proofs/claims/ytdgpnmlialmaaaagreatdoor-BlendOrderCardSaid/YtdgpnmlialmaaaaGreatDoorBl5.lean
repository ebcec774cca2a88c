/- BlendOrder returns true at every input: the row, and its card. No conditions. -/
import Derived.Test.YtdgpnmlialmaaaaGreatDoorBn1
import Derived.Test.YtdgpnmlialmaaaaGreatDoorBn2
import Derived.Test.YtdgpnmlialmaaaaGreatDoorBn3
import Derived.Test.YtdgpnmlialmaaaaGreatDoorBn4
import Derived.Test.YtdgpnmlialmaaaaGreatDoorBn5
import Derived.Test.YtdgpnmlialmaaaaGreatDoorBn6
import Derived.Test.YtdgpnmlialmaaaaGreatDoorBn7
import Derived.Test.YtdgpnmlialmaaaaGreatDoorBn8
import Derived.Test.YtdgpnmlialmaaaaGreatDoorBn9
import Derived.Test.YtdgpnmlialmaaaaGreatDoorBn10
import Derived.Carry
import Derived.Test.YtdgpnmlialmaaaaGreatDoorCards
import Derived.Test.YtdgpnmlialmaaaaGreatDoorTie
import Derived.Handed
import Derived.SevenTiedAt
set_option linter.unusedSimpArgs false
set_option linter.unusedVariables false
set_option linter.constructorNameAsVariable false
namespace Go.Proofs.YtdgpnmlialmaaaaGreatDoor
open Go.ChangeShapes Go.WideShapes Go.ChangeAt Go.RowKit Go.ChangeMaps Go.Abs
theorem Tryz.own : ownKnob Tryz.prog.godebug = none := by kernel_rfl
theorem Tryz.laidOut : laidOutB Tryz.prog = true := by kernel_rfl
set_option maxRecDepth 1000000 in
theorem border_met (os : Os) (args : Array Value) : laidMet Tryz.prog Rows.blendOrderRow.laid ((bleWorld os).forCall (fun _ _ => 0) ⟨#[], args, []⟩).memory :=
  (LaidIn.of_run (l := Rows.blendOrderRow.laid) bleBlocks 8 (by kernel_rfl) (by kernel_rfl) (by kernel_rfl) (by kernel_rfl)).met
set_option maxRecDepth 100000 in
theorem border_lifted (os : Os) (started : os.Started) (H : Type) (enc : TypeId × Value → H) :
    ReturnsInHanded {} Tryz.checked os 5 .any (fun w args => (Rows.blendOrderSpec.pre enc Tryz.prog Tryz.f5 Rows.blendOrderRow.domain false w args ∧ laidMet Tryz.prog Rows.blendOrderRow.laid w) ∧ sizedMet enc Tryz.prog Tryz.f5 (OpenSpec.ofChange Rows.blendOrderSpec) false w args)
      (Rows.blendOrderSpec.post enc Tryz.prog Tryz.f5 false true false false) := by
  refine returns_shaped (C := Tryz.checked) (X := fun w _ => laidMet Tryz.prog Rows.blendOrderRow.laid w) (fun _ _ _ hh h => h.of_heap hh) Tryz.own started (by kernel_rfl) Tryz.func5
    (witness_ref (enc := enc) (C := Tryz.checked) (os := os) (X := fun w _ => laidMet Tryz.prog Rows.blendOrderRow.laid w) (bleWorld os) #[.slice none 0 0, .int .u8 0, .int .u8 0] 8 rfl (by kernel_rfl) (by kernel_rfl) (by kernel_rfl) (by kernel_rfl) (by kernel_rfl) (border_met os _)) ?_
  intro W base args ds gs before hshp hval0 hW hX
  have hval : ∀ (j : Nat) t v, Tryz.f5.params[j]? = some t → args[j]? = some v → Value.okWide Tryz.prog W .any base t v := hval0
  have hW' := hW
  obtain ⟨p, q, hA0, hV, rfl, hfz, hnd⟩ := hW
  have hA : DataW.TrodAll enc Tryz.prog W 0 (fun _ => true) true Tryz.f5.params.toList args.toList ds p := hA0
  rw [Tryz.params5] at hA hval
  obtain ⟨v0, v1, v2, d0, d1, d2, pl0, pl1, pl2, rfl, rfl, rfl, h0, h1, h2⟩ := trodAll_three hA
  obtain ⟨rfl, rfl⟩ := trodVars_none hV
  rw [List.append_nil, List.append_assoc] at hW'
  have hlt0 : ∀ x ∈ pl0, x.block < W.heap.size := fun x hx => by simpa using hW'.lt x (by simp [hx])
  have hlt1 : ∀ x ∈ pl1, x.block < W.heap.size := fun x hx => by simpa using hW'.lt x (by simp [hx])
  have hlt2 : ∀ x ∈ pl2, x.block < W.heap.size := fun x hx => by simpa using hW'.lt x (by simp [hx])
  have h0k := h0
  obtain ⟨l0, wl0, wk0, hir0⟩ := open_sers (fun _ => rfl) (hval 0 _ v0 rfl rfl) h0
  have h1k := h1
  obtain ⟨n1, rfl, _, _, wn1⟩ := open_int Tryz.underlying5 (hval 1 _ v1 rfl rfl) h1
  obtain ⟨c1, hc1⟩ := u8_of wn1
  subst hc1
  have h2k := h2
  obtain ⟨n2, rfl, _, _, wn2⟩ := open_int Tryz.underlying5 (hval 2 _ v2 rfl rfl) h2
  obtain ⟨c2, hc2⟩ := u8_of wn2
  subst hc2
  clear hA0 hval0
  obtain ⟨m, hgin⟩ := (gin_ble hX (.tail _ (.tail _ (List.Mem.head _))) (.tail _ (.tail _ (.tail _ (.tail _ (.tail _ (List.Mem.head _)))))) hshp)
  refine (law_calls_old (@border_law (bleGlobs m) (bleS m) (bleP m) (bleM m) l0 wl0 wk0 c1 c2) hgin (iro_cons hir0 (iro_cons (.int _ _) (iro_cons (.int _ _) (iro_nil W))))).mono fun e W' ⟨he, hb⟩ => ?_
  subst he
  refine ⟨_, rfl, _, _, _, [], pl0 ++ (pl1 ++ pl2), [], hW', ?_, ?_, rfl, hb.frame _, fun h => by cases h⟩
  · exact trodAll_mk1 (shut_bool Tryz.underlying4 true)
  · exact trodAll_mk3 (Below.trod Tryz.laidOut (by kernel_rfl) (of_decide_eq_true (by kernel_rfl)) h0k hb hlt0) (Below.trod Tryz.laidOut (by kernel_rfl) (of_decide_eq_true (by kernel_rfl)) h1k hb hlt1) (Below.trod Tryz.laidOut (by kernel_rfl) (of_decide_eq_true (by kernel_rfl)) h2k hb hlt2)
theorem border_row : Rows.BlendOrderSaid :=
  OpenClaim.holds_of_wide 5 Tryz.f5 rfl rfl rfl rfl rfl rfl rfl ⟨rfl, rfl, rfl, rfl, rfl⟩ rfl rfl rfl rfl rfl (by kernel_rfl) Tryz.func5 (by kernel_rfl)
    (of_decide_eq_true (by kernel_rfl)) (by unfold Func.isWrapper; first | (rw [if_pos (by decide +kernel)]; kernel_rfl) | (rw [if_neg (by decide +kernel)]; exact ⟨rfl, rfl⟩))
    (fun os started H enc _ => border_lifted os started H enc)
theorem border_holds : Rows.BlendOrderCardSaid :=
  Claim7.holds_tied_plain_at .later [] [.data, .data, .data, .data, .listed, .data, .pinned] true (true, "351b96c8d04eb1a20871166d34f7500c682a62c65174d467b4bec1461231aae0") false
    border_row (fun _ h => by cases h) (by kernel_rfl) (fun _ h => by cases h) blendOrder_row_tie rfl ⟨rfl, rfl⟩ (by kernel_rfl) rfl
    (fun f fn hf hfn => by
      obtain rfl : f = 5 := Option.some.inj ((show Tryz.prog.funcNamed "isobar/isobarlaw26.BlendOrder" = some 5 by kernel_rfl).symm.trans hf) |>.symm
      obtain rfl : fn = Tryz.f5 := (Option.some.inj (Tryz.func5.symm.trans hfn)).symm
      exact ⟨by kernel_rfl, fun j t ht => by
        rw [Tryz.params5] at ht
        match j, ht with
        | 0, ht =>
          obtain rfl : t = 25 := by simpa using ht.symm
          exact (show Tryz.prog.wantsStandIn 25 = false by kernel_rfl)
        | 1, ht =>
          obtain rfl : t = 5 := by simpa using ht.symm
          exact (show Tryz.prog.wantsStandIn 5 = false by kernel_rfl)
        | 2, ht =>
          obtain rfl : t = 5 := by simpa using ht.symm
          exact (show Tryz.prog.wantsStandIn 5 = false by kernel_rfl)
        | j + 3, ht => simp at ht⟩)
    (by kernel_rfl)
end Go.Proofs.YtdgpnmlialmaaaaGreatDoor
