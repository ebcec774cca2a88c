/- The tie of the package's variables: what is listed, and the small facts. -/
import Derived.Test.YtigkchpjpdbodaaGreatDoorRows
import Derived.LaidByTextLater
set_option linter.unusedVariables false
namespace Go.Proofs.YtigkchpjpdbodaaGreatDoor
open Go
abbrev tieL : List (String × DataW Unit) := [("unicode/utf8.acceptRanges", Rows.laid_unicode_utf8_acceptRanges), ("strconv.ErrSyntax", Rows.laid_strconv_ErrSyntax), ("strconv.ErrRange", Rows.laid_strconv_ErrRange), ("internal/strconv.uint64pow10", Rows.laid_internal_strconv_uint64pow10), ("math/bits.deBruijn32tab", Rows.laid_math_bits_deBruijn32tab), ("math/bits.deBruijn64tab", Rows.laid_math_bits_deBruijn64tab), ("isobar/target.families", Rows.laid_isobar_target_families), ("strings.asciiSpace", Rows.laid_strings_asciiSpace), ("unicode.White_Space", Rows.laid_unicode_White_Space)]
abbrev tieK : List LaidKind := [.data, .sentinel, .sentinel, .data, .data, .data, .data, .data, .listed]
theorem tie_w : Tryz.prog.worded (varsWordLater true) = true := by kernel_rfl
theorem tie_w2 : Tryz.prog.worded (varsWordLater !true) = false := by kernel_rfl
theorem tie_root : Tryz.prog.worded rootWordLater = true := by kernel_rfl
theorem tie_kinds : tieL.map (fun x => Tryz.prog.kindOfLater x.1) = tieK.map some := by kernel_rfl
theorem tie_g : (Tryz.prog.funcNamed "gosem.cut.vars").isSome = true := by kernel_rfl
theorem tie_n : varsNamedLaterB Tryz.prog (varsId Tryz.prog) tieL = true := by kernel_rfl
theorem tie_p : (tieL.all fun x => x.2.handleName?.isNone) = true := by kernel_rfl
/-- Are numbers told apart? -/
def noneB (a : Nat) : List Nat → Bool
  | [] => true
  | b :: l => match Nat.beq a b with
    | true => false
    | false => noneB a l
def ndB : List Nat → Bool
  | [] => true
  | a :: l => match noneB a l with
    | true => ndB l
    | false => false
theorem noneB_ok {a : Nat} : ∀ {l : List Nat}, noneB a l = true → ∀ b ∈ l, a ≠ b
  | [], _, b, hb => by cases hb
  | c :: l, h, b, hb => by
    unfold noneB at h
    split at h
    · cases h
    · rename_i hc
      rcases List.mem_cons.1 hb with rfl | hb
      · exact fun e => by rw [e] at hc; simp at hc
      · exact noneB_ok h b hb
theorem ndB_ok : ∀ {l : List Nat}, ndB l = true → l.Nodup
  | [], _ => List.nodup_nil
  | a :: l, h => by
    unfold ndB at h
    split at h
    · rename_i hc
      exact List.nodup_cons.2 ⟨fun hm => noneB_ok hc a hm rfl, ndB_ok h⟩
    · cases h
def keyP : MemPlace → Nat
  | .cell b off => b * 4294967296 + off
  | .map b => b
theorem nodup_of_keys {l : List MemPlace} (h : ndB (l.map keyP) = true) : l.Nodup :=
  List.Pairwise.of_map keyP (fun a b hne e => hne (by rw [e])) (ndB_ok h)
theorem join_facts {α : Type} {o : Option (α × List MemPlace)} {p : List MemPlace → Bool} (h1 : o.map (fun x => ndB (x.2.map keyP)) = some true) (h2 : o.map (fun x => p x.2) = some true) : o.map (fun x => decide x.2.Nodup && p x.2) = some true := by
  cases o with
  | none => cases h1
  | some x =>
    simp only [Option.map_some, Option.some.injEq] at h1 h2 ⊢
    rw [h2, decide_eq_true (nodup_of_keys h1)]; rfl
end Go.Proofs.YtigkchpjpdbodaaGreatDoor
