/- TokensBlanks returns true at every input: the row, and its card. -/
import Derived.Test.YtkclehdmdnfikaaDoorTkR
import Derived.Test.YtkclehdmdnfikaaDoorDcN
import Derived.Carry
import Derived.Test.YtkclehdmdnfikaaDoorCards
import Derived.Test.YtkclehdmdnfikaaDoorTie
import Derived.Handed
import Derived.SevenTiedAt
set_option linter.unusedSimpArgs false
set_option linter.unusedVariables false
set_option linter.constructorNameAsVariable false
namespace Go.Proofs.YtkclehdmdnfikaaDoor
open Go.ChangeShapes Go.WideShapes Go.ChangeAt Go.RowKit Go.ChangeMaps Go.Abs

theorem Tryd.own : ownKnob Tryd.prog.godebug = none := by kernel_rfl
theorem Tryd.laidOut : laidOutB Tryd.prog = true := by kernel_rfl

set_option maxRecDepth 1000000 in
theorem tblanks_met (os : Os) (args : Array Value) : laidMet Tryd.prog Rows.tokensBlanksRow.laid ((decWorld os).forCall (fun _ _ => 0) ⟨#[], args, []⟩).memory :=
  (LaidIn.of_run (l := Rows.tokensBlanksRow.laid) decBlocks 8 (by kernel_rfl) (by kernel_rfl) (by kernel_rfl) (by kernel_rfl)).met

set_option maxRecDepth 100000 in
theorem tblanks_lifted (os : Os) (started : os.Started) (H : Type) (enc : TypeId × Value → H) :
    ReturnsInHanded {} Tryd.checked os 6 .any (fun w args => (Rows.tokensBlanksSpec.pre enc Tryd.prog Tryd.f6 Rows.tokensBlanksRow.domain false w args ∧ laidMet Tryd.prog Rows.tokensBlanksRow.laid w) ∧ sizedMet enc Tryd.prog Tryd.f6 (OpenSpec.ofChange Rows.tokensBlanksSpec) false w args)
      (Rows.tokensBlanksSpec.post enc Tryd.prog Tryd.f6 false true false false) := by
  refine returnsInHanded_of_change_and (C := Tryd.checked) (X := fun w _ => laidMet Tryd.prog Rows.tokensBlanksRow.laid w) (fun _ _ _ hh h => h.of_heap hh) Tryd.own started (by kernel_rfl) Tryd.func6
    (ChangeSpec.witness_at (enc := enc) (C := Tryd.checked) (os := os) (X := fun w _ => laidMet Tryd.prog Rows.tokensBlanksRow.laid w) false (decWorld os) #[.string ⟨#[]⟩, .int .u8 0] 8 rfl (by kernel_rfl) (by kernel_rfl) (by kernel_rfl) (by kernel_rfl) (by kernel_rfl) (tblanks_met os _)) ?_
  intro W base args ds gs before hval0 hW _ _ _ _
  have hX : laidMet Tryd.prog Rows.tokensBlanksRow.laid W := by assumption
  have hval : ∀ (j : Nat) t v, Tryd.f6.params[j]? = some t → args[j]? = some v → Value.okWide Tryd.prog W .any base t v := hval0
  have hW' := hW
  obtain ⟨p, q, hA0, hV, rfl, hfz, hnd⟩ := hW
  have hA : DataW.TrodAll enc Tryd.prog W 0 (fun _ => true) true Tryd.f6.params.toList args.toList ds p := hA0
  rw [Tryd.params6] at hA hval
  obtain ⟨v0, v1, d0, d1, p0, p1, rfl, rfl, rfl, h0, h1⟩ := trodAll_two hA
  simp only [List.append_nil] at hW'
  obtain ⟨rfl, rfl⟩ := trodVars_none hV
  obtain ⟨a0, rfl, rfl, rfl, wa0⟩ := open_string Tryd.underlying9 (hval 0 _ v0 rfl rfl) h0
  have wl0 : a0.data.toList.length ≤ 9223372036854775807 := by rw [Array.length_toList]; exact wa0
  obtain ⟨b1, rfl, rfl, rfl, wb1⟩ := open_int Tryd.underlying5 (hval 1 _ v1 rfl rfl) h1
  obtain ⟨n1, hn1⟩ : ∃ n : UInt8, b1 = n.toNat := by
    have h1 : IntKind.u8.min = 0 := rfl
    have h2 : IntKind.u8.max = 255 := rfl
    have wa := wb1
    simp only [Lit.wf, Bool.and_eq_true, decide_eq_true_eq] at wa
    exact ⟨b1.toNat.toUInt8, by simp; omega⟩
  subst hn1
  clear hA0 hval0
  refine (law_calls (tblanks_law (G := decGlobs) a0.data.toList n1 wl0) (gin_dec hX (.tail _ (.tail _ (.tail _ (.tail _ (List.Mem.head _))))) (.tail _ (.tail _ (.tail _ (List.Mem.head _)))) (.tail _ (.tail _ (List.Mem.head _)))) (irl_cons (ir_str W a0) (irl_cons (.int .u8 _) (irl_nil W)))).mono fun e W' ⟨he, hb⟩ => ?_
  subst he
  refine ⟨_, rfl, _, _, _, [], [], [], hW', ?_, ?_, rfl, hb.frame _, fun h => by cases h⟩
  · exact trodAll_mk1 (shut_bool Tryd.underlying4 true)
  · exact trodAll_mk2 (shut_string Tryd.underlying9 wa0) (shut_int Tryd.underlying5 wb1)

theorem tblanks_row : Rows.TokensBlanksSaid :=
  OpenClaim.holds_of_wide 6 Tryd.f6 rfl rfl rfl rfl rfl rfl rfl ⟨rfl, rfl, rfl, rfl, rfl⟩ rfl rfl rfl rfl rfl (by kernel_rfl) Tryd.func6 (by kernel_rfl)
    (of_decide_eq_true (by kernel_rfl)) (by unfold Func.isWrapper; first | (rw [if_pos (by decide +kernel)]; kernel_rfl) | (rw [if_neg (by decide +kernel)]; exact ⟨rfl, rfl⟩))
    (fun os started H enc _ => tblanks_lifted os started H enc)

theorem tblanks_holds : Rows.TokensBlanksCardSaid :=
  Claim7.holds_tied_plain_at .later [] [.data, .data, .data, .sentinel, .sentinel] true (true, "ff9c5384adb907113457203b5e08e2e90eac70c7396dc757d47a17a81a9c6694") true
    tblanks_row (fun _ h => by cases h) (by kernel_rfl) (fun _ h => by cases h) tokensBlanks_row_tie rfl ⟨rfl, rfl⟩ (by kernel_rfl) rfl
    (fun f fn hf hfn => by
      obtain rfl : f = 6 := Option.some.inj ((show Tryd.prog.funcNamed "isobar/isobarlaw22.TokensBlanks" = some 6 by kernel_rfl).symm.trans hf) |>.symm
      obtain rfl : fn = Tryd.f6 := (Option.some.inj (Tryd.func6.symm.trans hfn)).symm
      exact ⟨by kernel_rfl, fun j t ht => by
        rw [Tryd.params6] at ht
        have h3 : t = 9 ∨ t = 5 := by
          rcases j with _ | _ | j
          · exact .inl (by simpa using ht.symm)
          · exact .inr (by simpa using ht.symm)
          · simp at ht
        rcases h3 with rfl | rfl
        · exact (show Tryd.prog.wantsStandIn 9 = false by kernel_rfl)
        · exact (show Tryd.prog.wantsStandIn 5 = false by kernel_rfl)⟩)
    (by kernel_rfl)
end Go.Proofs.YtkclehdmdnfikaaDoor
