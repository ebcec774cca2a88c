/- ShapeTogether returns true at every input: the row, and its card. No conditions. -/
import Derived.Test.YtipncibiodfmdaaGreatDoorBn1
import Derived.Test.YtipncibiodfmdaaGreatDoorBn2
import Derived.Test.YtipncibiodfmdaaGreatDoorBn3
import Derived.Test.YtipncibiodfmdaaGreatDoorBn4
import Derived.Test.YtipncibiodfmdaaGreatDoorBn5
import Derived.Test.YtipncibiodfmdaaGreatDoorBn6
import Derived.Test.YtipncibiodfmdaaGreatDoorBn7
import Derived.Test.YtipncibiodfmdaaGreatDoorBn8
import Derived.Carry
import Derived.Test.YtipncibiodfmdaaGreatDoorCards
import Derived.Test.YtipncibiodfmdaaGreatDoorTie
import Derived.Handed
import Derived.SevenTiedAt
set_option linter.unusedSimpArgs false
set_option linter.unusedVariables false
set_option linter.constructorNameAsVariable false
namespace Go.Proofs.YtipncibiodfmdaaGreatDoor
open Go.ChangeShapes Go.WideShapes Go.ChangeAt Go.RowKit Go.ChangeMaps Go.Abs
theorem Tryz.own : ownKnob Tryz.prog.godebug = none := by kernel_rfl
theorem Tryz.laidOut : laidOutB Tryz.prog = true := by kernel_rfl
set_option maxRecDepth 1000000 in
theorem shtog_met (os : Os) (args : Array Value) : laidMet Tryz.prog Rows.shapeTogetherRow.laid ((shpWorld os).forCall (fun _ _ => 0) ⟨#[], args, []⟩).memory :=
  (LaidIn.of_run (l := Rows.shapeTogetherRow.laid) shpBlocks 8 (by kernel_rfl) (by kernel_rfl) (by kernel_rfl) (by kernel_rfl)).met
set_option maxRecDepth 100000 in
theorem shtog_lifted (os : Os) (started : os.Started) (H : Type) (enc : TypeId × Value → H) :
    ReturnsInHanded {} Tryz.checked os 7 .any (fun w args => (Rows.shapeTogetherSpec.pre enc Tryz.prog Tryz.f7 Rows.shapeTogetherRow.domain false w args ∧ laidMet Tryz.prog Rows.shapeTogetherRow.laid w) ∧ sizedMet enc Tryz.prog Tryz.f7 (OpenSpec.ofChange Rows.shapeTogetherSpec) false w args)
      (Rows.shapeTogetherSpec.post enc Tryz.prog Tryz.f7 false true false false) := by
  refine returnsInHanded_of_change_and (C := Tryz.checked) (X := fun w _ => laidMet Tryz.prog Rows.shapeTogetherRow.laid w) (fun _ _ _ hh h => h.of_heap hh) Tryz.own started (by kernel_rfl) Tryz.func7
    (witness_ref (enc := enc) (C := Tryz.checked) (os := os) (X := fun w _ => laidMet Tryz.prog Rows.shapeTogetherRow.laid w) (shpWorld os) #[.agg #[.string ⟨#[]⟩, .int .i64 0, .int .i64 0, .slice none 0 0], .int .u8 0] 8 rfl (by kernel_rfl) (by kernel_rfl) (by kernel_rfl) (by kernel_rfl) (by kernel_rfl) (shtog_met os _)) ?_
  intro W base args ds gs before hval0 hW _ _ _ _
  have hX : laidMet Tryz.prog Rows.shapeTogetherRow.laid W := by assumption
  have hval : ∀ (j : Nat) t v, Tryz.f7.params[j]? = some t → args[j]? = some v → Value.okWide Tryz.prog W .any base t v := hval0
  have hW' := hW
  obtain ⟨p, q, hA0, hV, rfl, hfz, hnd⟩ := hW
  have hA : DataW.TrodAll enc Tryz.prog W 0 (fun _ => true) true Tryz.f7.params.toList args.toList ds p := hA0
  rw [Tryz.params7] at hA hval
  obtain ⟨v0, v1, d0, d1, pl0, pl1, rfl, rfl, rfl, h0, h1⟩ := trodAll_two hA
  obtain ⟨rfl, rfl⟩ := trodVars_none hV
  simp only [List.append_nil] at hW'
  have hlt0 : ∀ x ∈ pl0, x.block < W.heap.size := fun x hx => by simpa using hW'.lt x (by simp [hx])
  have hlt1 : ∀ x ∈ pl1, x.block < W.heap.size := fun x hx => by simpa using hW'.lt x (by simp [hx])
  have h0k := h0
  obtain ⟨s0, ws0, hir0⟩ := open_ser (hval 0 _ v0 rfl rfl) h0
  have h1k := h1
  obtain ⟨n1, rfl, _, _, wn1⟩ := open_int Tryz.underlying5 (hval 1 _ v1 rfl rfl) h1
  obtain ⟨c1, hc1⟩ := u8_of wn1
  subst hc1
  clear hA0 hval0
  refine (law_calls_old (together_law (G := shpGlobs) s0 ws0 c1) (gin_shp hX (.tail _ (.tail _ (List.Mem.head _))) (.tail _ (.tail _ (.tail _ (.tail _ (.tail _ (List.Mem.head _))))))) (iro_cons hir0 (iro_cons (.int _ _) (iro_nil W)))).mono fun e W' ⟨he, hb⟩ => ?_
  subst he
  refine ⟨_, rfl, _, _, _, [], pl0 ++ pl1, [], hW', ?_, ?_, rfl, hb.frame _, fun h => by cases h⟩
  · exact trodAll_mk1 (shut_bool Tryz.underlying4 true)
  · exact trodAll_mk2 (Below.trod Tryz.laidOut (by kernel_rfl) (of_decide_eq_true (by kernel_rfl)) h0k hb hlt0) (Below.trod Tryz.laidOut (by kernel_rfl) (of_decide_eq_true (by kernel_rfl)) h1k hb hlt1)
theorem shtog_row : Rows.ShapeTogetherSaid :=
  OpenClaim.holds_of_wide 7 Tryz.f7 rfl rfl rfl rfl rfl rfl rfl ⟨rfl, rfl, rfl, rfl, rfl⟩ rfl rfl rfl rfl rfl (by kernel_rfl) Tryz.func7 (by kernel_rfl)
    (of_decide_eq_true (by kernel_rfl)) (by unfold Func.isWrapper; first | (rw [if_pos (by decide +kernel)]; kernel_rfl) | (rw [if_neg (by decide +kernel)]; exact ⟨rfl, rfl⟩))
    (fun os started H enc _ => shtog_lifted os started H enc)
theorem shtog_holds : Rows.ShapeTogetherCardSaid :=
  Claim7.holds_tied_plain_at .later [] [.data, .data, .data, .data, .listed, .data, .pinned] true (true, "19e98535d96c2eb95cd21eb6899689f8fe720e949684122cc4c810d87bbebbe4") false
    shtog_row (fun _ h => by cases h) (by kernel_rfl) (fun _ h => by cases h) shapeTogether_row_tie rfl ⟨rfl, rfl⟩ (by kernel_rfl) rfl
    (fun f fn hf hfn => by
      obtain rfl : f = 7 := Option.some.inj ((show Tryz.prog.funcNamed "isobar/isobarlaw25.ShapeTogether" = some 7 by kernel_rfl).symm.trans hf) |>.symm
      obtain rfl : fn = Tryz.f7 := (Option.some.inj (Tryz.func7.symm.trans hfn)).symm
      exact ⟨by kernel_rfl, fun j t ht => by
        rw [Tryz.params7] at ht
        match j, ht with
        | 0, ht =>
          obtain rfl : t = 24 := by simpa using ht.symm
          exact (show Tryz.prog.wantsStandIn 24 = false by kernel_rfl)
        | 1, ht =>
          obtain rfl : t = 5 := by simpa using ht.symm
          exact (show Tryz.prog.wantsStandIn 5 = false by kernel_rfl)
        | j + 2, ht => simp at ht⟩)
    (by kernel_rfl)
end Go.Proofs.YtipncibiodfmdaaGreatDoor
