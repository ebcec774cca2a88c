/- RenderLines: the lift. -/
import Derived.Test.YtigkchpjpdbodaaGreatDoorBn1
import Derived.Test.YtigkchpjpdbodaaGreatDoorBn2
import Derived.Test.YtigkchpjpdbodaaGreatDoorBn3
import Derived.Test.YtigkchpjpdbodaaGreatDoorBn4
import Derived.Test.YtigkchpjpdbodaaGreatDoorBn5
import Derived.Test.YtigkchpjpdbodaaGreatDoorBn6
import Derived.Test.YtigkchpjpdbodaaGreatDoorBn7
import Derived.Test.YtigkchpjpdbodaaGreatDoorRnM
import Derived.Carry
import Derived.Test.YtigkchpjpdbodaaGreatDoorRows
import Derived.Handed
import Derived.SevenTiedAt
set_option linter.unusedSimpArgs false
set_option linter.unusedVariables false
set_option linter.constructorNameAsVariable false
namespace Go.Proofs.YtigkchpjpdbodaaGreatDoor
open Go.ChangeShapes Go.WideShapes Go.ChangeAt Go.RowKit Go.ChangeMaps Go.Abs
theorem Tryz.own : ownKnob Tryz.prog.godebug = none := by kernel_rfl
theorem Tryz.laidOut : laidOutB Tryz.prog = true := by kernel_rfl
set_option maxRecDepth 1000000 in
theorem rlines_met (os : Os) (args : Array Value) : laidMet Tryz.prog Rows.renderLinesRow.laid ((World.laidAll Tryz.prog os Rows.renderLinesRow.laid).forCall (fun _ _ => 0) ⟨#[], args, []⟩).memory :=
  laidMet_laidAll args (by kernel_rfl) (by kernel_rfl)
set_option maxRecDepth 100000 in
theorem rlines_lifted (os : Os) (started : os.Started) (H : Type) (enc : TypeId × Value → H) :
    ReturnsInHanded {} Tryz.checked os 3 .any (fun w args => (Rows.renderLinesSpec.pre enc Tryz.prog Tryz.f3 Rows.renderLinesRow.domain false w args ∧ laidMet Tryz.prog Rows.renderLinesRow.laid w) ∧ sizedMet enc Tryz.prog Tryz.f3 (OpenSpec.ofChange Rows.renderLinesSpec) false w args)
      (Rows.renderLinesSpec.post enc Tryz.prog Tryz.f3 false true false false) := by
  refine returns_shaped (C := Tryz.checked) (X := fun w _ => laidMet Tryz.prog Rows.renderLinesRow.laid w) (fun _ _ _ hh h => h.of_heap hh) Tryz.own started (by kernel_rfl) Tryz.func3
    (witness_zip (enc := enc) (C := Tryz.checked) (os := os) (X := fun w _ => laidMet Tryz.prog Rows.renderLinesRow.laid w) (World.laidAll Tryz.prog os Rows.renderLinesRow.laid) #[.agg #[.bool false, .int .i64 0], .int .u16 0, .int .u16 0] 8 (World.laidAll_os _ _ _) (by kernel_rfl) (by kernel_rfl) (by kernel_rfl) (by kernel_rfl) (by kernel_rfl) (rlines_met os _)) ?_
  intro W base args ds gs before hshp hval0 hW hX
  have hval : ∀ (j : Nat) t v, Tryz.f3.params[j]? = some t → args[j]? = some v → Value.okWide Tryz.prog W .any base t v := hval0
  have hW' := hW
  obtain ⟨p, q, hA0, hV, rfl, hfz, hnd⟩ := hW
  have hA : DataW.TrodAll enc Tryz.prog W 0 (fun _ => true) true Tryz.f3.params.toList args.toList ds p := hA0
  rw [Tryz.params3] at hA hval
  obtain ⟨v0, v1, v2, d0, d1, d2, pl0, pl1, pl2, rfl, rfl, rfl, h0, h1, h2⟩ := trodAll_three hA
  obtain ⟨rfl, rfl⟩ := trodVars_none hV
  rw [List.append_nil, List.append_assoc] at hW'
  have hlt0 : ∀ x ∈ pl0, x.block < W.heap.size := fun x hx => by simpa using hW'.lt x (by simp [hx])
  have hlt1 : ∀ x ∈ pl1, x.block < W.heap.size := fun x hx => by simpa using hW'.lt x (by simp [hx])
  have hlt2 : ∀ x ∈ pl2, x.block < W.heap.size := fun x hx => by simpa using hW'.lt x (by simp [hx])
  have h0k := h0
  obtain ⟨b0, n0, rfl, _, _, wn0⟩ := open_num (hval 0 _ v0 rfl rfl) h0
  obtain ⟨wl0, wh0⟩ := wf_i64 wn0
  have h1k := h1
  obtain ⟨n1, rfl, _, _, wn1⟩ := open_int Tryz.underlying24 (hval 1 _ v1 rfl rfl) h1
  obtain ⟨k1, rfl, wk1⟩ := u16_of wn1
  have h2k := h2
  obtain ⟨n2, rfl, _, _, wn2⟩ := open_int Tryz.underlying24 (hval 2 _ v2 rfl rfl) h2
  obtain ⟨k2, rfl, wk2⟩ := u16_of wn2
  clear hA0 hval0
  have hgin := (gin_tg hX (.tail _ (.tail _ (List.Mem.head _))) (.tail _ (.tail _ (.tail _ (List.Mem.head _)))) (.tail _ (.tail _ (.tail _ (.tail _ (List.Mem.head _))))) (.tail _ (.tail _ (.tail _ (.tail _ (.tail _ (.tail _ (.tail _ (.tail _ (List.Mem.head _))))))))) (.tail _ (.tail _ (.tail _ (.tail _ (.tail _ (.tail _ (.tail _ (List.Mem.head _)))))))))
  refine (law_calls_old (lines28_law (G := tgGlobs) b0 n0 wl0 wh0 k1 k2 wk1 wk2) hgin (iro_cons (ir_numR _ _) (iro_cons (.int _ _) (iro_cons (.int _ _) (iro_nil W))))).mono fun e W' ⟨he, hb⟩ => ?_
  subst he
  refine ⟨_, rfl, _, _, _, [], pl0 ++ (pl1 ++ pl2), [], hW', ?_, ?_, rfl, hb.frame _, fun h => by cases h⟩
  · exact trodAll_mk1 (shut_bool Tryz.underlying4 true)
  · exact trodAll_mk3 (Below.trod Tryz.laidOut (by kernel_rfl) (of_decide_eq_true (by kernel_rfl)) h0k hb hlt0) (Below.trod Tryz.laidOut (by kernel_rfl) (of_decide_eq_true (by kernel_rfl)) h1k hb hlt1) (Below.trod Tryz.laidOut (by kernel_rfl) (of_decide_eq_true (by kernel_rfl)) h2k hb hlt2)
end Go.Proofs.YtigkchpjpdbodaaGreatDoor
