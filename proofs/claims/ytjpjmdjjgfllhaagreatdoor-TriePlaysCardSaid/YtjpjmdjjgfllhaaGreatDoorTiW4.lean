/- TriePlays returns true at every input: the row, and its card. No conditions. -/
import Derived.Test.YtjpjmdjjgfllhaaGreatDoorBn1
import Derived.Test.YtjpjmdjjgfllhaaGreatDoorBn2
import Derived.Test.YtjpjmdjjgfllhaaGreatDoorBn3
import Derived.Test.YtjpjmdjjgfllhaaGreatDoorBn4
import Derived.Test.YtjpjmdjjgfllhaaGreatDoorBn5
import Derived.Test.YtjpjmdjjgfllhaaGreatDoorBn6
import Derived.Carry
import Derived.Test.YtjpjmdjjgfllhaaGreatDoorCards
import Derived.Test.YtjpjmdjjgfllhaaGreatDoorTie
import Derived.Handed
import Derived.SevenTiedAt
set_option linter.unusedSimpArgs false
set_option linter.unusedVariables false
set_option linter.constructorNameAsVariable false
namespace Go.Proofs.YtjpjmdjjgfllhaaGreatDoor
open Go.ChangeShapes Go.WideShapes Go.ChangeAt Go.RowKit Go.ChangeMaps Go.Abs
theorem Tryz.own : ownKnob Tryz.prog.godebug = none := by kernel_rfl
theorem Tryz.laidOut : laidOutB Tryz.prog = true := by kernel_rfl
set_option maxRecDepth 1000000 in
theorem tplays_met (os : Os) (args : Array Value) : laidMet Tryz.prog Rows.triePlaysRow.laid ((World.laidAll Tryz.prog os Rows.triePlaysRow.laid).forCall (fun _ _ => 0) ⟨#[], args, []⟩).memory :=
  laidMet_laidAll args (by kernel_rfl) (by kernel_rfl)
set_option maxRecDepth 100000 in
theorem tplays_lifted (os : Os) (started : os.Started) (H : Type) (enc : TypeId × Value → H) :
    ReturnsInHanded {} Tryz.checked os 5 .any (fun w args => (Rows.triePlaysSpec.pre enc Tryz.prog Tryz.f5 Rows.triePlaysRow.domain false w args ∧ laidMet Tryz.prog Rows.triePlaysRow.laid w) ∧ sizedMet enc Tryz.prog Tryz.f5 (OpenSpec.ofChange Rows.triePlaysSpec) false w args)
      (Rows.triePlaysSpec.post enc Tryz.prog Tryz.f5 false true false false) := by
  refine returns_shaped_sz (C := Tryz.checked) (X := fun w _ => laidMet Tryz.prog Rows.triePlaysRow.laid w) (fun _ _ _ hh h => h.of_heap hh) Tryz.own started (by kernel_rfl) Tryz.func5
    (witness_zip (enc := enc) (C := Tryz.checked) (os := os) (X := fun w _ => laidMet Tryz.prog Rows.triePlaysRow.laid w) (World.laidAll Tryz.prog os Rows.triePlaysRow.laid) #[.slice none 0 0, .string ⟨#[]⟩, .string ⟨#[]⟩] 8 (World.laidAll_os _ _ _) (by kernel_rfl) (by kernel_rfl) (by kernel_rfl) (by kernel_rfl) (by kernel_rfl) (tplays_met os _)) ?_
  intro W base args ds gs before hshp hval0 hW hX hsz
  have hval : ∀ (j : Nat) t v, Tryz.f5.params[j]? = some t → args[j]? = some v → Value.okWide Tryz.prog W .any base t v := hval0
  have hW' := hW
  obtain ⟨p, q, hA0, hV, rfl, hfz, hnd⟩ := hW
  have hA : DataW.TrodAll enc Tryz.prog W 0 (fun _ => true) true Tryz.f5.params.toList args.toList ds p := hA0
  rw [Tryz.params5] at hA hval
  obtain ⟨v0, v1, v2, d0, d1, d2, pl0, pl1, pl2, rfl, rfl, rfl, h0, h1, h2⟩ := trodAll_three hA
  obtain ⟨rfl, rfl⟩ := trodVars_none hV
  rw [List.append_nil, List.append_assoc] at hW'
  have hlt0 : ∀ x ∈ pl0, x.block < W.heap.size := fun x hx => by simpa using hW'.lt x (by simp [hx])
  have hlt1 : ∀ x ∈ pl1, x.block < W.heap.size := fun x hx => by simpa using hW'.lt x (by simp [hx])
  have hlt2 : ∀ x ∈ pl2, x.block < W.heap.size := fun x hx => by simpa using hW'.lt x (by simp [hx])
  have h0k := h0
  obtain ⟨l0, wl0, hir0⟩ := open_acts (hval 0 _ v0 rfl rfl) h0
  have h1k := h1
  obtain ⟨a1, rfl, _, _, wa1⟩ := open_string Tryz.underlying9 (hval 1 _ v1 rfl rfl) h1
  have wl1 : a1.data.toList.length ≤ 9223372036854775807 := by rw [Array.length_toList]; exact wa1
  have h2k := h2
  obtain ⟨a2, rfl, hd2, _, wa2⟩ := open_string Tryz.underlying9 (hval 2 _ v2 rfl rfl) h2
  have wl2 : a2.data.toList.length ≤ 1000000000000000000 := by
    have hq := of_decide_eq_true (List.all_eq_true.1 hsz a2.data.toList.length (DataW.weights_mem_each (j := 2) (by rw [Tryz.params5]; rfl) (by rw [hd2]; rfl) _ (by simp [DataW.weights])))
    have : reachBytes = 140737488351232 := rfl
    omega
  clear hA0 hval0
  have hgin := no_globs W
  refine (law_calls_old (plays_law (G := noGlobs) l0 a1.data.toList a2.data.toList wl0 wl2) hgin (iro_cons hir0 (iro_cons (ir_bytes4 a1) (iro_cons (ir_bytes4 a2) (iro_nil W))))).mono fun e W' ⟨he, hb⟩ => ?_
  subst he
  refine ⟨_, rfl, _, _, _, [], pl0 ++ (pl1 ++ pl2), [], hW', ?_, ?_, rfl, hb.frame _, fun h => by cases h⟩
  · exact trodAll_mk1 (shut_bool Tryz.underlying4 true)
  · exact trodAll_mk3 (Below.trod Tryz.laidOut (by kernel_rfl) (of_decide_eq_true (by kernel_rfl)) h0k hb hlt0) (Below.trod Tryz.laidOut (by kernel_rfl) (of_decide_eq_true (by kernel_rfl)) h1k hb hlt1) (Below.trod Tryz.laidOut (by kernel_rfl) (of_decide_eq_true (by kernel_rfl)) h2k hb hlt2)
theorem tplays_row : Rows.TriePlaysSaid :=
  OpenClaim.holds_of_wide 5 Tryz.f5 rfl rfl rfl rfl rfl rfl rfl ⟨rfl, rfl, rfl, rfl, rfl⟩ rfl rfl rfl rfl rfl (by kernel_rfl) Tryz.func5 (by kernel_rfl)
    (of_decide_eq_true (by kernel_rfl)) (by unfold Func.isWrapper; first | (rw [if_pos (by decide +kernel)]; kernel_rfl) | (rw [if_neg (by decide +kernel)]; exact ⟨rfl, rfl⟩))
    (fun os started H enc _ => tplays_lifted os started H enc)
theorem tplays_holds : Rows.TriePlaysCardSaid :=
  Claim7.holds_tied_plain_at .later [] [.data, .pinned] true (true, "88992afb99fb729f93e7b46395aab2fc17e7828d7801f5bf420f51e743c13e32") false
    tplays_row (fun _ h => by cases h) (by kernel_rfl) (fun _ h => by cases h) triePlays_row_tie rfl ⟨rfl, rfl⟩ (by kernel_rfl) rfl
    (fun f fn hf hfn => by
      obtain rfl : f = 5 := Option.some.inj ((show Tryz.prog.funcNamed "isobar/isobarlaw17.TriePlays" = some 5 by kernel_rfl).symm.trans hf) |>.symm
      obtain rfl : fn = Tryz.f5 := (Option.some.inj (Tryz.func5.symm.trans hfn)).symm
      exact ⟨by kernel_rfl, fun j t ht => by
        rw [Tryz.params5] at ht
        match j, ht with
        | 0, ht =>
          obtain rfl : t = 40 := by simpa using ht.symm
          exact (show Tryz.prog.wantsStandIn 40 = false by kernel_rfl)
        | 1, ht =>
          obtain rfl : t = 9 := by simpa using ht.symm
          exact (show Tryz.prog.wantsStandIn 9 = false by kernel_rfl)
        | 2, ht =>
          obtain rfl : t = 9 := by simpa using ht.symm
          exact (show Tryz.prog.wantsStandIn 9 = false by kernel_rfl)
        | j + 3, ht => simp at ht⟩)
    (by kernel_rfl)
end Go.Proofs.YtjpjmdjjgfllhaaGreatDoor
