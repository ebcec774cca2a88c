/- Numbers as text: the library's functions. -/
import Derived.Test.YtipncibiodfmdaaGreatDoorCode
import Derived.Test.YtipncibiodfmdaaGreatDoorShelf
import Derived.Test.YtipncibiodfmdaaGreatDoorDcSpec
import Derived.Test.YtipncibiodfmdaaGreatDoorAbs2
set_option linter.unusedSimpArgs false
set_option linter.unusedVariables false
set_option linter.constructorNameAsVariable false
namespace Go.Proofs.YtipncibiodfmdaaGreatDoor
open Go.Abs Go.Dec
/-- The package's variables that numbers' texts ask for. -/
class GPow [Globs] : Prop where
  pow : (2, Lib.pow10Tab.map (AV.int .u64)) ∈ Globs.tab
theorem trimRight_ok {G : Globs} (s : List UInt8) (hs : s.length ≤ 9223372036854775807) : PCalls Tryz.prog 76 [.str s, .str [48]] (fun r => r = .str (Lib.trimRightB s 48)) :=
  pcalls2 fun base κ Im w v u _ h1 h2 => by
    cases h1.str_inv; cases h2.str_inv
    refine (Tryz.strings_TrimRight_one ⟨s.toArray⟩ 48 (by decide) w (by simpa [ByteArray.size] using hs)).mono ?_
    rintro e w' ⟨rfl, rfl⟩
    exact ⟨_, _, rfl, rfl, Go.RowKit.Below.refl _ _, fun Im' => .str _⟩

theorem tab_ok {G : Globs} [GPow] {base : Nat} {κ : Key} {Im : Addr → Prop} {σ : Store} {w : World} (hs : SRel base κ Im σ w) : Lib.TabIs Tryz.prog w "internal/strconv.uint64pow10" .u64 Lib.pow10Tab := by
  obtain ⟨t, fz, h, _⟩ := glob_ints hs GPow.pow
  unfold Lib.TabIs World.var?
  rw [show Tryz.prog.globalNamed "internal/strconv.uint64pow10" = some 2 by kernel_rfl]
  simp only [Option.bind_some, h]

/-- strconv.FormatInt. -/
theorem formatIntI_ok {G : Globs} [GPow] (n : Int) (h0 : -9223372036854775808 ≤ n) (h1 : n ≤ 9223372036854775807) : PCalls Tryz.prog 133 [.int .i64 n, .int .i64 10] (fun r => r = .str (Lib.itoa n)) :=
  pcalls2 fun base κ Im w v u hs e1 e2 => by
    cases e1.int_inv; cases e2.int_inv
    refine (Tryz.internal_strconv_FormatInt_10 n h0 h1 w (tab_ok hs)).mono ?_
    rintro e w' ⟨rfl, k, os, rfl⟩
    exact ⟨_, _, rfl, rfl, Lib.below_grow _ w (Nat.le_refl _) k os, fun Im' => .str _⟩
theorem formatInt_ok {G : Globs} [GPow] (n : Int) (h0 : -9223372036854775808 ≤ n) (h1 : n ≤ 9223372036854775807) : PCalls Tryz.prog n_strconv_FormatInt [.int .i64 n, .int .i64 10] (fun r => r = .str (Lib.itoa n)) := by
  refine pcalls_of_awp hmix c_strconv_FormatInt rfl ?_
  simp [a_strconv_FormatInt]
  refine ac_same (formatIntI_ok n h0 h1) (by simp) ?_
  rintro r rfl
  simp
end Go.Proofs.YtipncibiodfmdaaGreatDoor
