/- Numbers as text: the library's functions. -/
import Derived.Test.YtddpegkbmdcgbaaGreatDoorCode
import Derived.Test.YtddpegkbmdcgbaaGreatDoorShelf
import Derived.Test.YtddpegkbmdcgbaaGreatDoorDcSpec
import Derived.Test.YtddpegkbmdcgbaaGreatDoorAbs2
set_option linter.unusedSimpArgs false
set_option linter.unusedVariables false
set_option linter.constructorNameAsVariable false
namespace Go.Proofs.YtddpegkbmdcgbaaGreatDoor
open Go.Abs Go.Dec
/-- The package's variables that numbers' texts ask for. -/
class GDec [Globs] : Prop where
  syn : (0, [.iface 116 .junk]) ∈ Globs.tab
  rng : (1, [.iface 116 .junk]) ∈ Globs.tab
  pow : (2, Lib.pow10Tab.map (AV.int .u64)) ∈ Globs.tab

theorem cutPrefix_ok {G : Globs} (s p : List UInt8) : PCalls Tryz.prog 46 [.str s, .str p] (fun r => r = .tup [.str (Lib.trimPrefix s p), .bool (Lib.hasPrefix s p)]) :=
  pcalls2 fun base κ Im w v u hs h1 h2 => by
    cases h1.str_inv; cases h2.str_inv
    refine (Tryz.strings_CutPrefix ⟨s.toArray⟩ ⟨p.toArray⟩ w).mono ?_
    rintro e w' ⟨rfl, rfl⟩
    exact ⟨_, _, rfl, rfl, Go.RowKit.Below.refl _ _, fun Im' => .tup _ [_, _] rfl fun j hj hj' => by
      match j, hj with
      | 0, _ => exact .str _
      | 1, _ => exact .bool _⟩
theorem trimPrefix_ok {G : Globs} (s p : List UInt8) : PCalls Tryz.prog 47 [.str s, .str p] (fun r => r = .str (Lib.trimPrefix s p)) :=
  pcalls2 fun base κ Im w v u hs h1 h2 => by
    cases h1.str_inv; cases h2.str_inv
    refine (Tryz.strings_TrimPrefix ⟨s.toArray⟩ ⟨p.toArray⟩ w).mono ?_
    rintro e w' ⟨rfl, rfl⟩
    exact ⟨_, _, rfl, rfl, Go.RowKit.Below.refl _ _, fun Im' => .str _⟩
theorem trimRight_ok {G : Globs} (s : List UInt8) (hs : s.length ≤ 9223372036854775807) : PCalls Tryz.prog 40 [.str s, .str [48]] (fun r => r = .str (Lib.trimRightB s 48)) :=
  pcalls2 fun base κ Im w v u _ h1 h2 => by
    cases h1.str_inv; cases h2.str_inv
    refine (Tryz.strings_TrimRight_one ⟨s.toArray⟩ 48 (by decide) w (by simpa [ByteArray.size] using hs)).mono ?_
    rintro e w' ⟨rfl, rfl⟩
    exact ⟨_, _, rfl, rfl, Go.RowKit.Below.refl _ _, fun Im' => .str _⟩

/-- strconv.ParseInt at digits. -/
def pIntAV (n : Nat) (r : AV) : Prop := if n ≤ 9223372036854775807 then r = .tup [.int .i64 n, .nili] else ∃ z, r = .tup [.int .i64 z, .iface 87 .junk]
theorem parseInt_ok {G : Globs} [GDec] (s : List UInt8) (hl : s.length ≤ 1000000) (hd : s.all isD = true) (hne : s ≠ []) : PCalls Tryz.prog 33 [.str s, .int .i64 10, .int .i64 64] (pIntAV (dval 0 s)) :=
  pcalls3 fun base κ Im w v u x hs h1 h2 h3 => by
    cases h1.str_inv; cases h2.int_inv; cases h3.int_inv
    have hp := parseIntB_digits hd hne
    by_cases hle : dval 0 s ≤ 9223372036854775807
    · rw [if_pos hle] at hp
      refine (Tryz.strconv_ParseInt_10_at64_ok ⟨s.toArray⟩ (by simp [ByteArray.size]; omega) (dval 0 s) (by simpa using hp) w).mono ?_
      rintro e w' ⟨rfl, hw⟩
      refine ⟨.tup [.int .i64 (dval 0 s), .nili], _, rfl, by simp [pIntAV, hle], ?_, fun Im' => .tup _ [_, _] rfl fun j hj hj' => by
        match j, hj with
        | 0, _ => exact .int _ _
        | 1, _ => exact .nili⟩
      rcases hw with rfl | ⟨t, rfl⟩
      · exact Go.RowKit.Below.refl _ _
      · exact Lib.bytesWorld_below _ _ _
    · rw [if_neg hle] at hp
      obtain ⟨vals, hc, hv⟩ := glob_cell hs GDec.rng
      have hc0 := hc 0 (by simp)
      have hv0 := hv 0 (by simp)
      simp only [List.getElem_cons_zero] at hv0
      obtain ⟨q, hq⟩ : ∃ q, vals 0 = .iface 116 q := by
        generalize vals 0 = y at hv0
        cases hv0; exact ⟨_, rfl⟩
      refine (Tryz.strconv_ParseInt_10_at64_range ⟨s.toArray⟩ (by simp [ByteArray.size]; omega) (by simpa using hp) _ w hc0 (.inr ⟨_, _, hq⟩)).mono ?_
      rintro e w' ⟨N, rfl, _, _, hb⟩
      exact ⟨.tup [.int .i64 (Lib.intSat 64 s), .iface 87 .junk], _, rfl, by simp only [pIntAV, if_neg hle]; exact ⟨_, rfl⟩, hb, fun Im' => .tup _ [_, _] rfl fun j hj hj' => by
        match j, hj with
        | 0, _ => exact .int _ _
        | 1, _ => exact .iface _ _ _ (.junk _)⟩

theorem tab_ok {G : Globs} [GDec] {base : Nat} {κ : Key} {Im : Addr → Prop} {σ : Store} {w : World} (hs : SRel base κ Im σ w) : Lib.TabIs Tryz.prog w "internal/strconv.uint64pow10" .u64 Lib.pow10Tab := by
  obtain ⟨t, fz, h, _⟩ := glob_ints hs GDec.pow
  unfold Lib.TabIs World.var?
  rw [show Tryz.prog.globalNamed "internal/strconv.uint64pow10" = some 2 by kernel_rfl]
  simp only [Option.bind_some, h]

/-- strconv.FormatInt. -/
theorem formatIntI_ok {G : Globs} [GDec] (n : Int) (h0 : -9223372036854775808 ≤ n) (h1 : n ≤ 9223372036854775807) : PCalls Tryz.prog 55 [.int .i64 n, .int .i64 10] (fun r => r = .str (Lib.itoa n)) :=
  pcalls2 fun base κ Im w v u hs e1 e2 => by
    cases e1.int_inv; cases e2.int_inv
    refine (Tryz.internal_strconv_FormatInt_10 n h0 h1 w (tab_ok hs)).mono ?_
    rintro e w' ⟨rfl, k, os, rfl⟩
    exact ⟨_, _, rfl, rfl, Lib.below_grow _ w (Nat.le_refl _) k os, fun Im' => .str _⟩
theorem formatInt_ok {G : Globs} [GDec] (n : Int) (h0 : -9223372036854775808 ≤ n) (h1 : n ≤ 9223372036854775807) : PCalls Tryz.prog n_strconv_FormatInt [.int .i64 n, .int .i64 10] (fun r => r = .str (Lib.itoa n)) := by
  refine pcalls_of_awp hmix c_strconv_FormatInt rfl ?_
  simp [a_strconv_FormatInt]
  refine ac_same (formatIntI_ok n h0 h1) (by simp) ?_
  rintro r rfl
  simp
end Go.Proofs.YtddpegkbmdcgbaaGreatDoor
