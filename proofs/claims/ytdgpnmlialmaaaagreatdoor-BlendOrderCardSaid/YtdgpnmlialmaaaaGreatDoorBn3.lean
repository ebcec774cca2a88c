/- What is printed is parsed as it was; a text without its first or its last byte says something else. Numbers as text: the laws of what is printed and p -/
import Derived.Test.YtdgpnmlialmaaaaGreatDoorAbs2
import Derived.Test.YtdgpnmlialmaaaaGreatDoorRows
import Derived.ProofKit
import Derived.LaidLaws
import Derived.Lib.LaidIn
import Derived.Lib.LaidU8
import Derived.Stop.LaidErr
import Derived.Test.YtdgpnmlialmaaaaGreatDoorBn1
import Derived.Test.YtdgpnmlialmaaaaGreatDoorBn2
set_option linter.unusedSimpArgs false
set_option linter.unusedVariables false
set_option linter.constructorNameAsVariable false
section
namespace Go.Dec
theorem dig_of {d : Nat} (h : d < 10) : dig (UInt8.ofNat (48 + d)) = d := by
  unfold dig
  rw [UInt8.toNat_ofNat', Nat.mod_eq_of_lt (by omega)]
  omega
theorem isD_of {d : Nat} (h : d < 10) : isD (UInt8.ofNat (48 + d)) = true := by
  rw [isD_iff, UInt8.toNat_ofNat', Nat.mod_eq_of_lt (by omega)]
  omega
theorem dval_from (n : Nat) (l : List UInt8) : dval n l = n * 10 ^ l.length + dval 0 l := by
  induction l generalizing n with
  | nil => simp [dval_nil]
  | cons c l ih =>
    rw [dval_cons, dval_cons, ih, ih (0 * 10 + dig c)]
    simp only [List.length_cons, Nat.pow_succ, Nat.zero_mul, Nat.zero_add, Nat.add_mul]
    rw [Nat.mul_assoc n 10, Nat.mul_comm 10, Nat.add_assoc]
theorem dval_snoc (n : Nat) (l : List UInt8) (c : UInt8) : dval n (l ++ [c]) = dval n l * 10 + dig c := by
  rw [dval_append, dval_cons, dval_nil]
theorem dd_all : ∀ (n : Nat), (Lib.decDigits n).all isD = true ∧ dval 0 (Lib.decDigits n) = n := by
  intro n
  induction n using Nat.strongRecOn with
  | _ n ih =>
    rw [Lib.decDigits]
    split
    · rename_i h
      refine ⟨by simp only [List.all_cons, List.all_nil, isD_of h, Bool.and_self], ?_⟩
      rw [dval_cons, dval_nil, dig_of h]; omega
    · rename_i h
      obtain ⟨h1, h2⟩ := ih (n / 10) (by omega)
      have h10 : n % 10 < 10 := by omega
      refine ⟨by simp only [List.all_append, List.all_cons, List.all_nil, h1, isD_of h10, Bool.and_self], ?_⟩
      rw [dval_snoc, h2, dig_of h10]; omega
theorem dd_ne (n : Nat) : Lib.decDigits n ≠ [] := by
  rw [Lib.decDigits]
  split <;> simp
theorem dd_head : ∀ (n : Nat), 0 < n → ∃ c t, Lib.decDigits n = c :: t ∧ 1 ≤ dig c := by
  intro n
  induction n using Nat.strongRecOn with
  | _ n ih =>
    intro h0
    rw [Lib.decDigits]
    split
    · rename_i h
      exact ⟨_, _, rfl, by rw [dig_of h]; omega⟩
    · rename_i h
      obtain ⟨c, t, he, hc⟩ := ih (n / 10) (by omega) (by omega)
      exact ⟨c, t ++ [UInt8.ofNat (48 + n % 10)], by rw [he]; rfl, hc⟩
theorem dd_len13 {n : Nat} (h : n ≤ 9223372036854) : (Lib.decDigits n).length ≤ 13 := by
  rcases Nat.lt_or_ge n 10 with h10 | h10
  · rw [Lib.decDigits_one h10]; simp
  · have hne := dd_ne n
    obtain ⟨c, t, he, hc⟩ := dd_head n (by omega)
    have hv := (dd_all n).2
    rw [he, dval_cons, dval_from] at hv
    rw [he]
    rcases Nat.lt_or_ge 12 t.length with hl | hl
    · exfalso
      have h1 : 10 ^ 13 ≤ 10 ^ t.length := Nat.pow_le_pow_right (by omega) (by omega)
      have h2 : 1 * 10 ^ t.length ≤ (0 * 10 + dig c) * 10 ^ t.length := Nat.mul_le_mul_right _ (by omega)
      have h3 : (10 : Nat) ^ 13 = 10000000000000 := by decide
      omega
    · simp; omega
theorem frac_len (p : Nat) : (frac p).length ≤ 7 := by
  have := fr_len 6 p
  unfold frac
  split <;> simp
  omega
theorem prn_eq {v : Int} (h0 : v ≠ -9223372036854775808) : prn false v = (if decide (v < 0) then [45] else []) ++ (Lib.decDigits (v.natAbs / 1000000) ++ frac (v.natAbs % 1000000)) := by
  simp [prn, h0]
theorem prn_len {v : Int} (h0 : v ≠ -9223372036854775808) (hb : v.natAbs ≤ 9223372036854775807) : (prn false v).length ≤ 21 := by
  rw [prn_eq h0]
  have h1 := dd_len13 (n := v.natAbs / 1000000) (by omega)
  have h2 := frac_len (v.natAbs % 1000000)
  simp only [List.length_append]
  split <;> simp <;> omega
theorem parse_none (h : Bool) (v : Int) (hn : h = true ∨ v = -9223372036854775808) : prn h v = [78, 111, 110, 101] := by
  simp [prn, hn]
end Go.Dec
end
section
set_option maxHeartbeats 2000000
namespace Go.Dec
end Go.Dec
namespace Go.Proofs.YtdgpnmlialmaaaaGreatDoor
open Go.Abs Go.Dec
variable {G : Globs}
end Go.Proofs.YtdgpnmlialmaaaaGreatDoor
end
section
set_option maxHeartbeats 2000000
namespace Go.Dec
end Go.Dec
namespace Go.Proofs.YtdgpnmlialmaaaaGreatDoor
open Go.Abs Go.Dec
variable {G : Globs}
end Go.Proofs.YtdgpnmlialmaaaaGreatDoor
end
section
namespace Go.Abs
open Go.RowKit
def noKey : Key := fun _ _ => none
/-- The cells of the package's variables. -/
def gIm [Globs] : Addr → Prop := fun a => a.spot = none ∧ ∃ p ∈ Globs.tab, a.block = p.1
/-- The package's variables hold what the table says. -/
def GlobsIn [Globs] (w : World) : Prop := GOK w.heap.size gIm w
end Go.Abs
end
section
namespace Go.Proofs.YtdgpnmlialmaaaaGreatDoor
open Go.ChangeShapes Go.WideShapes Go.ChangeAt Go.RowKit Go.ChangeMaps Go.Abs
theorem laidAt {P : Program} {w : World} {n : String} {d : DataW Unit} : ∀ {l : List (String × DataW Unit)}, laidMet P l w → (n, d) ∈ l → ∃ r, laidMet P ((n, d) :: r) w
  | [], _, hm => by cases hm
  | x :: l, h, hm => by
    rcases List.mem_cons.1 hm with e | e
    · subst e; exact ⟨l, h⟩
    · exact laidAt h.tail e
theorem gok_one {P : Program} {w : World} {n : String} {g : Nat} {cs : Array Value} {avs : List AV} {Im : Addr → Prop} (hg : P.globalNamed n = some g) (hv : w.var? P n = some cs) (hlen : cs.size = avs.length)
    (hone : ∀ c ∈ avs, c.one = true) (hr : ∀ j (h : j < avs.length), IR Im w (avs[j]) ((cs[j]?).getD (.bool false))) (hIm : ∀ j, Im ⟨g, j, none⟩) :
    g < w.heap.size ∧ (∃ cs t fz, w.heap[g]? = some (.cells cs t fz) ∧ cs.size = avs.length) ∧ IR Im w (.rptr avs) (.pointer (some ⟨g, 0, none⟩)) := by
  have h0 : ∃ t fz, w.heap[g]? = some (.cells cs t fz) := by
    unfold World.var? at hv
    simp only [hg, Option.bind_some] at hv
    split at hv
    · rename_i c t fz hh
      cases hv
      exact ⟨t, fz, hh⟩
    · cases hv
  obtain ⟨t, fz, hh⟩ := h0
  refine ⟨?_, ⟨cs, t, fz, hh, hlen⟩, ?_⟩
  · rcases Nat.lt_or_ge g w.heap.size with h | h
    · exact h
    · rw [Array.getElem?_eq_none h] at hh; cases hh
  · refine .rptr avs g 0 (fun j => (cs[j]?).getD (.bool false)) hone (fun j hj => ⟨?_, ?_⟩) hr
    · simpa using hIm j
    · have : j < cs.size := by omega
      simp [World.cell?, hh, this]
abbrev gPow : Nat := 4
def litCells : DataW Unit → List Value
  | .agg l => l.flatMap fun
    | .lit (.int k z) => [.int k z]
    | .agg l2 => l2.flatMap fun
      | .lit (.int k z) => [.int k z]
      | _ => []
    | _ => []
  | _ => []
end Go.Proofs.YtdgpnmlialmaaaaGreatDoor
end
section
namespace Go.Proofs.YtdgpnmlialmaaaaGreatDoor
open Go.ChangeShapes Go.WideShapes Go.ChangeAt Go.RowKit Go.ChangeMaps Go.Abs
section
variable {H : Type} {enc : TypeId × Value → H} {w : World} {base : Nat} {spare : Nat → Bool} {held : Bool}
theorem num_size : Tryz.prog.cellsOf 35 = 2 := by kernel_rfl
theorem bool_size : Tryz.prog.cellsOf 4 = 1 := by kernel_rfl
theorem i64_size : Tryz.prog.cellsOf 2 = 1 := by kernel_rfl
end
theorem wf_i64 {n : Int} (h : (Lit.int .i64 n).wf = true) : -9223372036854775808 ≤ n ∧ n ≤ 9223372036854775807 := by
  simp only [Lit.wf, Bool.and_eq_true, decide_eq_true_eq] at h
  have h1 : IntKind.i64.min = -9223372036854775808 := rfl
  have h2 : IntKind.i64.max = 9223372036854775807 := rfl
  omega
end Go.Proofs.YtdgpnmlialmaaaaGreatDoor
end
section
namespace Go.Abs
open Go.RowKit
/-- The cells that were there ahead of the call. -/
def oldIm (w : World) : Addr → Prop := fun a => a.spot = none ∧ a.block < w.heap.size
theorem law_calls_old {G : Globs} {P : Program} {f : FuncId} {args : List AV} {vs : List Value} {w : World} (h : PCalls P f args (fun r => r = .bool true)) (hg : GlobsIn w) (hv : IRL (oldIm w) w args vs) : Calls P f vs.toArray w fun e w' => e = .returned (.bool true) ∧ Below w.heap.size w w' := by
  have hG : GOK w.heap.size (oldIm w) w := fun p hp => by
    obtain ⟨h1, h2, h3⟩ := hg p hp
    refine ⟨h1, h2, h3.mono (fun a ha => ?_) (fun _ _ => rfl)⟩
    obtain ⟨ha1, q, hq, ha2⟩ := ha
    exact ⟨ha1, by rw [ha2]; exact (hg q hq).1⟩
  have hS : SRel w.heap.size noKey (oldIm w) [] w := ⟨Nat.le_refl _, fun id n v h => by simp [noKey] at h, fun id e h => by simp at h, fun i j e e' b _ h => by simp at h, fun a h => ⟨h.2, h.1⟩, hG⟩
  refine (h w.heap.size noKey (oldIm w) w vs hS ⟨hv.1, fun j h h' => .im _ _ (hv.2 j h h')⟩).mono ?_
  rintro e w' ⟨r, σ', v, κ', Im', rfl, ⟨_, rfl⟩, _, hg, hr⟩
  exact ⟨by rw [hr.bool_inv], hg.below⟩
theorem iro_nil {Im : Addr → Prop} (w : World) : IRL Im w [] [] := ⟨rfl, fun j h => by simp at h⟩
theorem iro_cons {Im : Addr → Prop} {w : World} {a : AV} {v : Value} {l : List AV} {vs : List Value} (h : IR Im w a v) (hl : IRL Im w l vs) : IRL Im w (a :: l) (v :: vs) := by
  refine ⟨by simp [hl.1], fun j hj hj' => ?_⟩
  cases j with
  | zero => exact h
  | succ j => exact hl.2 j (by simpa using hj) (by simpa using hj')
end Go.Abs
namespace Go.Proofs.YtdgpnmlialmaaaaGreatDoor
open Go.ChangeShapes Go.WideShapes Go.ChangeAt Go.RowKit Go.ChangeMaps Go.Abs
def numEls (l : List (Bool × Int)) : List (List AV) := l.map fun x => [.bool x.1, .int .i64 x.2]
section
variable {H : Type} {enc : TypeId × Value → H} {w : World} {base : Nat} {spare : Nat → Bool} {held : Bool}
set_option maxRecDepth 100000 in
theorem num_cells {n : Nat} {cs : List Value} {y : DataW H × List MemPlace} (hf : DataW.trod enc Tryz.prog w base spare held n 35 cs = some y) : ∃ (b : Bool) (m : Int), cs = [.bool b, .int .i64 m] ∧ (Lit.int .i64 m).wf = true := by
  obtain ⟨xs, n, rfl, hx, hl, hxl, hall⟩ := DataW.trod_struct Tryz.underlying35 hf
  have hx2 : xs.length = 2 := hxl
  obtain ⟨x0, x1, rfl⟩ : ∃ x0 x1, xs = [x0, x1] := by
    match xs, hx2 with
    | [a, b], _ => exact ⟨a, b, rfl⟩
  have hl2 : cs.length = 2 := by rw [hl, num_size]
  obtain ⟨c0, c1, rfl⟩ : ∃ c0 c1, cs = [c0, c1] := by
    match cs, hl2 with
    | [a, b], _ => exact ⟨a, b, rfl⟩
  have h0 : DataW.trod enc Tryz.prog w base spare held n 4 [c0] = some x0 := by simpa [bool_size, Value.cells] using hall 0 _ rfl
  have h1 : DataW.trod enc Tryz.prog w base spare held n 2 [c1] = some x1 := by simpa [i64_size, Value.cells] using hall 1 _ rfl
  obtain ⟨b, e0, _⟩ := DataW.trod_bool Tryz.underlying4 h0
  obtain ⟨m, e1, _, hw⟩ := DataW.trod_int Tryz.underlying2 h1
  simp only [List.cons.injEq, and_true] at e0 e1
  subst e0 e1
  exact ⟨b, m, rfl, hw⟩
def cellB (w : World) (a : Addr) : Bool := match w.cell? a with | some (.bool b) => b | _ => false
def cellI (w : World) (a : Addr) : Int := match w.cell? a with | some (.int _ n) => n | _ => 0
end
end Go.Proofs.YtdgpnmlialmaaaaGreatDoor
end
section
set_option maxHeartbeats 2000000
namespace Go.Dec
theorem prn_le21 (nl : Bool) {v : Int} (h0 : -9223372036854775808 ≤ v) (h1 : v ≤ 9223372036854775807) : (prn nl v).length ≤ 21 := by
  by_cases hn : nl = true ∨ v = -9223372036854775808
  · rw [parse_none nl v hn]; decide
  · have hnl : nl = false := by cases nl <;> simp_all
    subst hnl
    exact prn_len (by simpa using hn) (by omega)
/-- The texts of numbers. -/
def prns (l : List (Bool × Int)) : List (List UInt8) := l.map fun x => prn x.1 x.2
end Go.Dec
namespace Go.Abs
def txts (l : List (List UInt8)) : List (List AV) := l.map fun s => [.str s]
end Go.Abs
namespace Go.Proofs.YtdgpnmlialmaaaaGreatDoor
open Go.Abs Go.Dec
variable {G : Globs}
/-- strings.Join, commas between. -/
theorem joinC_ok (l : List (List UInt8)) (hl : (Lib.join l [44]).length ≤ 140737488355328) (hk : l.length ≤ 140737488355328) : PCalls Tryz.prog 84 [.lst (txts l), .str [44]] (fun r => r = .str (Lib.join l [44])) := by
  intro base κ Im w vs hs hv
  obtain ⟨v0, v1, rfl⟩ : ∃ v0 v1, vs = [v0, v1] := by
    match vs, hv.1 with
    | [a, b], _ => exact ⟨a, b, rfl⟩
  have e0 := (hv.2 0 (by simp) (by simp)).lst_inv
  have e1 := (hv.2 1 (by simp) (by simp)).str_inv
  simp only [List.getElem_cons_zero, List.getElem_cons_succ] at e0 e1
  subst e1
  have hel : (txts l).length = l.length := by simp [txts]
  rcases e0 with ⟨⟨g, rfl⟩, h0⟩ | ⟨size, b, o, cap, vals, rfl, h1, h2, h3, h4, h5, h6⟩
  · have hl0 : l = [] := by simpa [txts] using h0
    subst hl0
    refine (Tryz.strings_Join_none g 0 ⟨#[44]⟩ w).mono ?_
    rintro e w' ⟨rfl, rfl⟩
    exact ⟨_, [], _, κ, Im, rfl, ⟨rfl, rfl⟩, hs, Grow.refl _ _ _ _, .im _ _ (.str [])⟩
  · cases hln : l with
    | nil =>
      subst hln
      refine (Tryz.strings_Join_none _ cap ⟨#[44]⟩ w).mono ?_
      rintro e w' ⟨rfl, rfl⟩
      exact ⟨_, [], _, κ, Im, rfl, ⟨rfl, rfl⟩, hs, Grow.refl _ _ _ _, .im _ _ (.str [])⟩
    | cons p0 ps0 =>
      have hpos : 0 < l.length := by simp [hln]
      rw [← hln]
      have hsz : size = 1 := by
        have := h3 [.str p0] (by simp [txts, hln])
        simpa using this.symm
      subst hsz
      rw [hel] at h1 h5
      have hval : ∀ k (hk : k < l.length), vals k 0 = .string ⟨(l[k]).toArray⟩ := fun k hk => by
        have := h6 k 0 (by simpa [txts] using hk) (by simp [txts])
        simp only [txts, List.getElem_map, List.getElem_cons_zero] at this
        generalize vals k 0 = v at this ⊢
        cases this; rfl
      have hcell := fun k (hk : k < l.length) => h5 k 0 hk (by omega)
      have hbk : b < w.heap.size := (hs.imlt _ (hcell 0 hpos).1).1
      have hdat : (l.map fun s => (⟨s.toArray⟩ : ByteArray)).map (·.data.toList) = l := by simp [List.map_map, Function.comp_def]
      have hj : Lib.join ((l.map fun s => (⟨s.toArray⟩ : ByteArray)).map (·.data.toList)) (⟨#[44]⟩ : ByteArray).data.toList = Lib.join l [44] := by rw [hdat]
      have := Tryz.strings_Join b o cap (l.map fun s => (⟨s.toArray⟩ : ByteArray)) ⟨#[44]⟩ w (fun j x hx => by
          simp only [List.getElem?_map, Option.map_eq_some_iff] at hx
          obtain ⟨s, hs', rfl⟩ := hx
          obtain ⟨hj1, rfl⟩ := List.getElem?_eq_some_iff.1 hs'
          have := (hcell j hj1).2
          rw [hval j hj1] at this
          simpa using this) hbk (by simpa using hk) (by simpa using h1) (by rw [hj]; exact hl)
      rw [hj] at this
      simp only [List.length_map] at this
      rw [hel]
      refine this.mono ?_
      rintro e w' ⟨rfl, hb⟩
      obtain ⟨g1, g2⟩ := srel_grow hs hb
      exact ⟨_, [], _, κ, Im, rfl, ⟨rfl, rfl⟩, g1, g2, .im _ _ (.str (Lib.join l [44]))⟩
end Go.Proofs.YtdgpnmlialmaaaaGreatDoor
end
section
set_option maxHeartbeats 2000000
namespace Go.Num
open Go.Abs
def oksN (l : List N) : Prop := ∀ n ∈ l, okN n
/-- The first place where something holds, or -1. -/
def idxP (p : N → Bool) : List N → Int
  | [] => -1
  | n :: l => if p n then 0 else if idxP p l < 0 then -1 else idxP p l + 1
theorem idxP_none {p : N → Bool} : ∀ {l : List N}, (∀ n ∈ l, p n = false) → idxP p l = -1
  | [], _ => rfl
  | n :: l, h => by
    have h1 := h n (by simp)
    have h2 := idxP_none (p := p) (l := l) fun m hm => h m (by simp [hm])
    simp [idxP, h1, h2]
theorem idxP_some {p : N → Bool} : ∀ {l : List N} {i : Nat} {n : N}, l[i]? = some n → p n = true → (∀ m ∈ l.take i, p m = false) → idxP p l = i
  | [], i, n, h, _, _ => by simp at h
  | m :: l, 0, n, h, hp, _ => by simp at h; subst h; simp [idxP, hp]
  | m :: l, i + 1, n, h, hp, ha => by
    have h1 := ha m (by simp)
    have h2 := idxP_some (p := p) (l := l) (i := i) (by simpa using h) hp fun x hx => ha x (by simp [hx])
    simp [idxP, h1, h2]
    omega
theorem idxP_cases (p : N → Bool) : ∀ l : List N, (idxP p l = -1 ∧ ∀ n ∈ l, p n = false) ∨ ∃ i n, l[i]? = some n ∧ p n = true ∧ (∀ m ∈ l.take i, p m = false) ∧ idxP p l = i
  | [] => .inl ⟨rfl, by simp⟩
  | m :: l => by
    by_cases hm : p m = true
    · exact .inr ⟨0, m, by simp, hm, by simp, by simp [idxP, hm]⟩
    · have hm' : p m = false := by simpa using hm
      rcases idxP_cases p l with ⟨h1, h2⟩ | ⟨i, n, h1, h2, h3, h4⟩
      · refine .inl ⟨by simp [idxP, hm', h1], fun n hn => ?_⟩
        rcases List.mem_cons.1 hn with rfl | hn
        · exact hm'
        · exact h2 n hn
      · refine .inr ⟨i + 1, n, by simpa using h1, h2, fun x hx => ?_, ?_⟩
        · rw [List.take_succ_cons] at hx
          rcases List.mem_cons.1 hx with rfl | hx
          · exact hm'
          · exact h3 x hx
        · simp [idxP, hm', h4]; omega
end Go.Num
namespace Go.Proofs.YtdgpnmlialmaaaaGreatDoor
open Go.Abs Go.Num
variable {G : Globs}
theorem numEls_len (l : List N) : (numEls l).length = l.length := by simp [numEls]
theorem numEls_get {l : List N} {i : Nat} {n : N} (h : l[i]? = some n) : (numEls l)[i]? = some [.bool n.1, .int .i64 n.2] := by simp [numEls, h]
theorem numEls_app (a b : List N) : numEls (a ++ b) = numEls a ++ numEls b := by simp [numEls]
theorem numEls_cons (n : N) (b : List N) : numEls (n :: b) = [.bool n.1, .int .i64 n.2] :: numEls b := by simp [numEls]
theorem numEls_take (l : List N) (i : Nat) : (numEls l).take i = numEls (l.take i) := by simp [numEls]
theorem numEls_drop (l : List N) (i : Nat) : (numEls l).drop i = numEls (l.drop i) := by simp [numEls]
theorem numEls_pure (l : List N) : ∀ c ∈ numEls l, ∀ x ∈ c, x.pure = true := fun c hc x hx => by
  simp only [numEls, List.mem_map] at hc
  obtain ⟨n, _, rfl⟩ := hc
  simp at hx
  rcases hx with rfl | rfl <;> simp [AV.pure]
theorem numEls_two (l : List N) : ∀ c ∈ numEls l, c.length = 2 := fun c hc => by
  simp only [numEls, List.mem_map] at hc
  obtain ⟨n, _, rfl⟩ := hc; rfl
theorem numEls_fz (σ : Store) (m k : Nat) (l : List N) : ((numEls l).mapM fun (c : List AV) => c.mapM (fz σ m (k + 1))) = some (numEls l) := by
  induction l with
  | nil => rfl
  | cons a l ih =>
    rw [numEls_cons, List.mapM_cons, ih]
    simp [fz]
theorem unknown_ok (n : N) (h : okN n) : PCalls Tryz.prog n_series_unknown [numA n] (fun r => r = .bool (!good n)) := by
  refine pcalls_of_awp hmix c_series_unknown rfl ?_
  have k := fRight_ok (G := G) n
  have hg := right_good n
  rw [numA_eq] at k ⊢
  obtain ⟨b, v⟩ := n
  simp [a_series_unknown]
  cases b
  · simp
    refine ac_same k (by simp) ?_
    rintro r rfl
    simp at hg
    simp [hg]
  · simp at hg
    simp [hg]
theorem indexFunc_ok (l : List N) (hl : l.length ≤ 9223372036854775807) (p : N → Bool) (g : Nat) (hb : hasBody Tryz.prog g = true) (hg : ∀ n ∈ l, PCalls Tryz.prog g [numA n] (fun r => r = .bool (p n))) :
    PCalls Tryz.prog n_slices_IndexFunc_api_Num_api_Num [.lst (numEls l), .fn (.func g) [] []] (fun r => r = .int .i64 (idxP p l)) := by
  refine pcalls_of_awp hmix c_slices_IndexFunc_api_Num_api_Num rfl ?_
  simp [a_slices_IndexFunc_api_Num_api_Num]
  have hle := numEls_len l
  refine lp_startx (fun x f σ => ∃ (i : Nat), x = l.length - i ∧ i ≤ l.length ∧ f 0 = .lst (numEls l) ∧ f 1 = .fn (.func g) [] [] ∧ f 7 = .int .i64 l.length ∧ f 8 = .int .i64 i ∧ (∀ m ∈ l.take i, p m = false) ∧ σ = []) l.length ?_ ?_
  · exact ⟨0, by simp, by simp, by simp, by simp, by simp [hle], by simp, by simp, by simp⟩
  rintro x f σ ⟨i, hx, hi, h0, h1, h7, h8, hall, rfl⟩
  simp [h7, h8]
  refine cb_dec (fun hlt => ?_) (fun hge => ?_)
  · have hlt' : i < l.length := by omega
    have hwi : IntKind.i64.wrap ((i : Int) + 1) = ((i + 1 : Nat) : Int) := by rw [wrap_i64 (by omega) (by omega)]; omega
    obtain ⟨y, hy⟩ : ∃ y, l[i]? = some y := ⟨_, List.getElem?_eq_getElem hlt'⟩
    have hse := numEls_get hy
    obtain ⟨hx1, hx2⟩ := List.getElem?_eq_some_iff.1 hse
    have hk := hg y (List.mem_of_getElem? hy)
    rw [numA_eq] at hk
    simp [h0, h1, h8, hx1, hx2]
    refine cv_fn hb ?_
    refine ac_same hk (by simp) ?_
    rintro r rfl
    cases hp : p y with
    | true =>
      have := idxP_some hy hp hall
      simp [this]
    | false =>
      simp [h8, hwi]
      refine nx_intro (l.length - (i + 1)) (by omega) ⟨i + 1, rfl, by omega, by simp [h0], by simp [h1], by simp [h7], by simp, fun m hm => ?_, rfl⟩
      rw [List.take_add_one, hy] at hm
      simp only [Option.toList_some, List.mem_append, List.mem_singleton] at hm
      rcases hm with hm | rfl
      · exact hall m hm
      · exact hp
  · have hil : i = l.length := by omega
    rw [hil, List.take_length] at hall
    simp [idxP_none hall]
theorem clone_nil : PCalls Tryz.prog n_slices_Clone_api_Num_api_Num [.lst []] (fun r => r = .lst []) := by
  refine pcalls_of_awp hmix c_slices_Clone_api_Num_api_Num rfl ?_
  simp [a_slices_Clone_api_Num_api_Num]
  refine nl_of fun b _ => ?_
  cases b
  · simp
    refine ap_row [] [] false (by simp) rfl (by decide) (by simp) (fun h => by cases h) rfl (by simp) (by simp) ?_
    simp
  · simp
theorem clone_cons (l : List N) (h0 : l ≠ []) (hl : l.length ≤ 1000000000) : ACalls Tryz.prog n_slices_Clone_api_Num_api_Num [.lst (numEls l)] [] (fun r σ' => r = .row 0 l.length ∧ σ' = [.row 35 2 (numEls l) false]) := by
  refine acalls_of_awp_e hmix c_slices_Clone_api_Num_api_Num rfl ?_
  obtain ⟨k, ks, rfl⟩ : ∃ k ks, l = k :: ks := by
    cases l with
    | nil => exact absurd rfl h0
    | cons k ks => exact ⟨k, ks, rfl⟩
  have hle := numEls_len (k :: ks)
  simp only [List.length_cons] at hl hle
  simp [a_slices_Clone_api_Num_api_Num]
  rw [numEls_cons] at hle ⊢
  simp
  refine ap_row [] ([.bool k.1, .int .i64 k.2] :: numEls ks) false (by simp) rfl (by decide) (fun c hc => ?_) (fun h => by cases h) rfl ?_ ?_ ?_
  · rw [← numEls_cons] at hc; exact numEls_two _ c hc
  · simp [numEls_len]; omega
  · simp [numEls_len]; omega
  simp [numEls_len]
  refine er_keep [.row 35 2 ([.bool k.1, .int .i64 k.2] :: numEls ks) false] (.row 0 (ks.length + 1)) (by simp [tupOf, numEls_len]) [] (by simp) (by simp) (by simp [AV.under]) (fun i e he => ?_) ⟨rfl, rfl⟩
  refine .inr ?_
  match i, he with
  | 0, he =>
    simp only [List.getElem?_cons_zero, Option.some.injEq] at he
    subst he
    rw [← numEls_cons]
    exact row_under (numEls_pure _)
  | i + 1, he => simp at he
theorem set_mid (A mid rest : List N) (v : N) : ∃ mid', (A ++ (mid ++ v :: rest)).set A.length v = A ++ v :: (mid' ++ rest) ∧ mid'.length = mid.length := by
  cases mid with
  | nil => exact ⟨[], by simp, rfl⟩
  | cons m ms => exact ⟨ms ++ [v], by simp, by simp⟩
theorem numEls_set (l : List N) (i : Nat) (v : N) : (numEls l).set i [.bool v.1, .int .i64 v.2] = numEls (l.set i v) := by
  simp [numEls, List.map_set]
/-- slices.DeleteFunc, of a slice of the caller's own. -/
theorem delete_ok (l : List N) (hne : l ≠ []) (hl : l.length ≤ 1000000000) (p : N → Bool) (g : Nat) (hb : hasBody Tryz.prog g = true) (hg : ∀ n ∈ l, PCalls Tryz.prog g [numA n] (fun r => r = .bool (p n))) :
    ACalls Tryz.prog n_slices_DeleteFunc_api_Num_api_Num [.row 0 l.length, .fn (.func g) [] []] [.row 35 2 (numEls l) false]
      (fun r σ' => ∃ X : List N, σ' = [.row 35 2 (numEls X) false] ∧ X.length = l.length ∧ ((r = .row 0 l.length ∧ X = l.filter fun n => !p n) ∨ (r = .sub 0 l.length 2 0 (l.filter fun n => !p n).length ∧ X.take (l.filter fun n => !p n).length = l.filter fun n => !p n))) := by
  refine acalls_of_awp_e hmix c_slices_DeleteFunc_api_Num_api_Num rfl ?_
  simp [a_slices_DeleteFunc_api_Num_api_Num]
  refine ac_lent (indexFunc_ok l (by omega) p g hb hg) (.cons (.row 0 l.length 35 2 (numEls l) false rfl (numEls_len l) (.inr ⟨rfl, numEls_pure l⟩)) (.cons (.pure _ (by simp)) .nil)) ?_
  rintro r rfl
  refine ⟨by simp, ?_⟩
  have hpos : 0 < l.length := by
    cases l with
    | nil => exact absurd rfl hne
    | cons a b => simp
  rcases idxP_cases p l with ⟨hi1, hall⟩ | ⟨k, n, hk, hpn, hbefore, hi2⟩
  · have hf : (l.filter fun n => !p n) = l := List.filter_eq_self.2 fun n hn => by simp [hall n hn]
    rw [hf]
    simp [hi1]
    refine er_keep [.row 35 2 (numEls l) false] (.row 0 l.length) (by simp [tupOf]) [] (by simp) (by simp) (by simp [AV.under]) (fun i e he => .inl he) ⟨l, rfl, rfl, .inl ⟨rfl, rfl⟩⟩
  · have hkl : k < l.length := (List.getElem?_eq_some_iff.1 hk).1
    have hkn : ¬ ((k : Int) = -1) := by omega
    have hwk : IntKind.i64.wrap ((k : Int) + 1) = ((k + 1 : Nat) : Int) := by rw [wrap_i64 (by omega) (by omega)]; omega
    simp [hi2, hkn, hwk]
    have hfk : ((l.take k).filter fun n => !p n) = l.take k := List.filter_eq_self.2 fun n hn => by simp [hbefore n hn]
    refine lp_startx (fun x f σ => ∃ (j : Nat) (mid : List N) (tl : Store), x = l.length - j ∧ j ≤ l.length ∧ f 0 = .row 0 l.length ∧ f 1 = .fn (.func g) [] [] ∧ f 5 = .int .i64 ((l.take j).filter fun n => !p n).length ∧ f 6 = .int .i64 j ∧ ((l.take j).filter fun n => !p n).length + mid.length = j ∧
      σ = .row 35 2 (numEls (((l.take j).filter fun n => !p n) ++ (mid ++ l.drop j))) false :: tl) (l.length - (k + 1)) ?_ ?_
    · have ht1 : l.take (k + 1) = l.take k ++ [n] := by rw [List.take_add_one, hk]; rfl
      have hf1 : ((l.take (k + 1)).filter fun n => !p n) = l.take k := by
        rw [ht1, List.filter_append, hfk]; simp [hpn]
      refine ⟨k + 1, [n], [], by omega, by omega, by simp, by simp, ?_, by simp, ?_, ?_⟩
      · rw [hf1]; simp [hi2, Nat.min_eq_left (Nat.le_of_lt hkl)]
      · rw [hf1]; simp [Nat.min_eq_left (Nat.le_of_lt hkl)]
      · rw [hf1]
        have : l.take k ++ ([n] ++ l.drop (k + 1)) = l := by
          rw [← List.append_assoc, ← ht1, List.take_append_drop]
        rw [this]
    rintro x f σ ⟨j, mid, tl, hx, hj, h0, h1, h5, h6, hmid, rfl⟩
    obtain ⟨A, hA⟩ : ∃ A, A = (l.take j).filter fun n => !p n := ⟨_, rfl⟩
    rw [← hA] at h5 hmid
    rw [← hA]
    have hlen : (numEls (A ++ (mid ++ l.drop j))).length = l.length := by rw [numEls_len]; simp; omega
    simp [h0, h6, hlen]
    refine cb_dec (fun hlt => ?_) (fun hge => ?_)
    · have hlt' : j < l.length := by omega
      have hwj : IntKind.i64.wrap ((j : Int) + 1) = ((j + 1 : Nat) : Int) := by rw [wrap_i64 (by omega) (by omega)]; omega
      obtain ⟨v, hv⟩ : ∃ v, l[j]? = some v := ⟨_, List.getElem?_eq_getElem hlt'⟩
      have hdrop : l.drop j = v :: l.drop (j + 1) := by
        obtain ⟨h1, h2⟩ := List.getElem?_eq_some_iff.1 hv
        rw [List.drop_eq_getElem_cons h1, h2]
      have hget : (A ++ (mid ++ l.drop j))[j]? = some v := by
        rw [← List.append_assoc, List.getElem?_append_right (by simp; omega)]
        have : j - (A ++ mid).length = 0 := by simp; omega
        rw [this, hdrop]; rfl
      have hse := numEls_get hget
      obtain ⟨hx1, hx2⟩ := List.getElem?_eq_some_iff.1 hse
      have hk2 := hg v (List.mem_of_getElem? hv)
      rw [numA_eq] at hk2
      have htake : l.take (j + 1) = l.take j ++ [v] := by rw [List.take_add_one, hv]; rfl
      simp [h0, h1, h6, hlen, hlt', hse, hx2]
      refine cv_fn hb ?_
      refine ac_same hk2 (by simp) ?_
      rintro r rfl
      cases hpv : p v with
      | true =>
        have hf1 : ((l.take (j + 1)).filter fun n => !p n) = A := by rw [htake, List.filter_append, ← hA]; simp [hpv]
        simp [h6, hwj]
        refine nx_intro (l.length - (j + 1)) (by omega) ⟨j + 1, mid ++ [v], tl ++ [.var 35 [.bool v.1, .int .i64 v.2]], rfl, by omega, by simp [h0], by simp [h1], by rw [hf1]; simp [h5], by simp, by rw [hf1]; simp; omega, ?_⟩
        rw [hf1, hdrop]; simp
      | false =>
        have hf1 : ((l.take (j + 1)).filter fun n => !p n) = A ++ [v] := by rw [htake, List.filter_append, ← hA]; simp [hpv]
        obtain ⟨mid', hs1, hs2⟩ := set_mid A mid (l.drop (j + 1)) v
        have hAl : A.length < l.length := by omega
        have hA1 : (numEls (A ++ (mid ++ l.drop j)))[A.length]? ≠ none := by
          rw [List.getElem?_eq_getElem (by rw [hlen]; exact hAl)]; simp
        obtain ⟨c0, hc0⟩ : ∃ c0, (numEls (A ++ (mid ++ l.drop j)))[A.length]? = some c0 := ⟨_, List.getElem?_eq_getElem (by rw [hlen]; exact hAl)⟩
        have hc02 := numEls_two _ c0 (List.mem_of_getElem? hc0)
        obtain ⟨c00, c01, rfl⟩ : ∃ a b, c0 = [a, b] := by
          match c0, hc02 with
          | [a, b], _ => exact ⟨a, b, rfl⟩
        have hwA : IntKind.i64.wrap ((A.length : Int) + 1) = ((A.length + 1 : Nat) : Int) := by rw [wrap_i64 (by omega) (by omega)]; omega
        simp [h0, h5, h6, hlen, hAl, hc0, hwj, hwA]
        refine nx_intro (l.length - (j + 1)) (by omega) ⟨j + 1, mid', tl ++ [.var 35 [.bool v.1, .int .i64 v.2]], rfl, by omega, by simp [h0], by simp [h1], by rw [hf1]; simp, by simp, by rw [hf1]; simp; omega, ?_⟩
        rw [hf1]
        have hs3 : (A ++ (mid ++ l.drop j)).set A.length v = A ++ [v] ++ (mid' ++ l.drop (j + 1)) := by
          rw [hdrop, hs1]; simp
        rw [← hs3, ← numEls_set]
        obtain ⟨hc1, hc2⟩ := List.getElem?_eq_some_iff.1 hc0
        simp [splice, hc2]
    · have hjl : j = l.length := by omega
      subst hjl
      rw [List.take_length] at hA
      rw [List.drop_length, List.append_nil] at hlen ⊢
      have hAle : A.length ≤ l.length := by omega
      simp [h0, h5, hlen, hpos, hAle]
      have hrow : (numEls (A ++ mid)).take A.length ++ (List.replicate (l.length - A.length) [AV.bool false, AV.int IntKind.i64 0] ++ (numEls (A ++ mid)).drop l.length) = numEls (A ++ List.replicate (l.length - A.length) (false, 0)) := by
        rw [List.drop_of_length_le (by rw [hlen]; exact Nat.le_refl _), List.append_nil, numEls_take, List.take_append_of_le_length (Nat.le_refl _), List.take_length, numEls_app]
        simp [numEls]
      rw [hrow]
      rw [← hA]
      refine er_keep [.row 35 2 (numEls (A ++ List.replicate (l.length - A.length) (false, 0))) false] (.sub 0 l.length 2 0 A.length) (by simp [tupOf]) tl (by simp) (by simp) (by simp [AV.under]) (fun i e he => ?_) ⟨A ++ List.replicate (l.length - A.length) (false, 0), rfl, by simp; omega, .inr ⟨rfl, by simp⟩⟩
      refine .inr ?_
      match i, he with
      | 0, he =>
        simp only [List.getElem?_cons_zero, Option.some.injEq] at he
        subst he
        exact row_under (numEls_pure _)
      | i + 1, he => simp at he
theorem known_nots (l : List N) : (l.filter fun n => !!good n) = known l := by unfold known; simp
theorem deleteNil_ok (p : N → Bool) (g : Nat) (hb : hasBody Tryz.prog g = true) : PCalls Tryz.prog n_slices_DeleteFunc_api_Num_api_Num [.lst [], .fn (.func g) [] []] (fun r => r = .lst []) := by
  refine pcalls_of_awp hmix c_slices_DeleteFunc_api_Num_api_Num rfl ?_
  simp [a_slices_DeleteFunc_api_Num_api_Num]
  refine ac_same (indexFunc_ok [] (by simp) p g hb (by simp)) (by simp [numEls]) ?_
  rintro r rfl
  simp [idxP]
theorem known_ok (l : List N) (hok : oksN l) (hl : l.length ≤ 1000000000) : PCalls Tryz.prog n_series_known [.lst (numEls l)] (fun r => r = .lst (numEls (known l))) := by
  refine pcalls_of_awp hmix c_series_known rfl ?_
  by_cases h0 : l = []
  · subst h0
    have e : numEls [] = [] := rfl
    rw [e]
    simp [a_series_known]
    refine ac_same clone_nil (by simp) ?_
    rintro r rfl
    simp
    refine ac_same (deleteNil_ok (fun n => !good n) n_series_unknown b_series_unknown) (by simp) ?_
    rintro r rfl
    simp [known, numEls]
  · simp [a_series_known]
    refine ac_eff (clone_cons l h0 hl) ?_
    rintro r σ' ⟨rfl, rfl⟩
    simp
    refine ac_eff (delete_ok l h0 hl (fun n => !good n) n_series_unknown b_series_unknown (fun n hn => unknown_ok n (hok n hn))) ?_
    rintro r σ' ⟨X, rfl, hX, hr⟩
    rw [known_nots] at hr
    rcases hr with ⟨rfl, rfl⟩ | ⟨rfl, hX2⟩
    · simp
      rw [← hX]
      simp [numEls_len, numEls_fz]
    · simp
      have e := numEls_two X
      simp [numEls_len, hX, numEls_fz, numEls_take, hX2]
      rw [if_pos e]; simp
theorem gather_ok (k : N) (ks : List N) (hok : oksN (k :: ks)) (hl : ks.length ≤ 1000000000) (two : N → N → N) (h2 : ∀ a b, okN a → okN b → okN (two a b)) (g : Nat) (hb : hasBody Tryz.prog g = true)
    (hg : ∀ a b, okN a → okN b → PCalls Tryz.prog g [numA a, numA b] (fun r => r = numA (two a b))) : PCalls Tryz.prog n_series_gather [.lst (numEls (k :: ks)), .fn (.func g) [] []] (fun r => r = numA (ks.foldl two k)) := by
  refine pcalls_of_awp hmix c_series_gather rfl ?_
  have hlen := numEls_len ks
  have hkk := hok k (by simp)
  have hks : oksN ks := fun n hn => hok n (by simp [hn])
  rw [numEls_cons]
  have e2 := numEls_two ks
  simp [a_series_gather, hlen]
  have e2' : ∀ c ∈ [AV.bool k.1, AV.int .i64 k.2] :: numEls ks, c.length = 2 := by
    intro c hc
    rcases List.mem_cons.1 hc with rfl | hc
    · rfl
    · exact e2 c hc
  rw [if_pos e2, List.take_of_length_le (by rw [hlen]; exact Nat.le_refl _)]
  simp [hlen]
  refine lp_startx (fun x f σ => ∃ (i : Nat) (tl : Store), x = ks.length - i ∧ i ≤ ks.length ∧ f 1 = .fn (.func g) [] [] ∧ f 4 = .ptr 0 0 ∧ f 5 = .ptr 1 0 ∧ f 12 = .lst (numEls ks) ∧ f 13 = .int .i64 ks.length ∧ f 14 = .int .i64 i ∧ okN ((ks.take i).foldl two k) ∧
    σ = .var 35 [.bool false, .int .i64 0] :: .var 35 [.bool ((ks.take i).foldl two k).1, .int .i64 ((ks.take i).foldl two k).2] :: tl) ks.length ?_ ?_
  · exact ⟨0, [], by simp, by simp, by simp, by simp, by simp, by simp, by simp, by simp, by simpa using hkk, by simp⟩
  rintro x f σ ⟨i, tl, hx, hi, h1, h4, h5, h12, h13, h14, hokf, rfl⟩
  obtain ⟨s, hs⟩ : ∃ s, s = (ks.take i).foldl two k := ⟨_, rfl⟩
  rw [← hs] at hokf ⊢
  simp [h13, h14]
  refine cb_dec (fun hlt => ?_) (fun hge => ?_)
  · have hlt' : i < ks.length := by omega
    have hwi : IntKind.i64.wrap ((i : Int) + 1) = ((i + 1 : Nat) : Int) := by rw [wrap_i64 (by omega) (by omega)]; omega
    obtain ⟨v, hv⟩ : ∃ v, ks[i]? = some v := ⟨_, List.getElem?_eq_getElem hlt'⟩
    have hse := numEls_get hv
    obtain ⟨hx1, hx2⟩ := List.getElem?_eq_some_iff.1 hse
    have hvk := hks v (List.mem_of_getElem? hv)
    have hk2 := hg s v hokf hvk
    have hst : (ks.take (i + 1)).foldl two k = two s v := by rw [List.take_add_one, hv, hs]; simp
    rw [numA_eq, numA_eq, numA_eq] at hk2
    simp [h1, h4, h5, h12, h14, hse, hx1, hx2]
    refine cv_fn hb ?_
    refine ac_same hk2 (by simp) ?_
    rintro r rfl
    simp [h5, h14, hwi]
    refine nx_intro (ks.length - (i + 1)) (by omega) ⟨i + 1, tl ++ [.var 35 [.bool v.1, .int .i64 v.2]], rfl, by omega, by simp [h1], by simp [h4], by simp [h5], by simp [h12], by simp [h13], by simp, by rw [hst]; exact h2 s v hokf hvk, ?_⟩
    rw [hst]
  · have hil : i = ks.length := by omega
    have e : s = ks.foldl two k := by rw [hs, hil, List.take_length]
    simp [h4, h5, ← e, numA]
/-- Reckon. -/
theorem known_oks {l : List N} (h : oksN l) : oksN (known l) := fun n hn => h n (List.mem_filter.1 hn).1
theorem foldl_ok {two : N → N → N} (h2 : ∀ a b, okN a → okN b → okN (two a b)) : ∀ (l : List N) (k : N), okN k → oksN l → okN (l.foldl two k)
  | [], k, hk, _ => hk
  | n :: l, k, hk, h => by rw [List.foldl_cons]; exact foldl_ok h2 l _ (h2 k n hk (h n (by simp))) fun m hm => h m (by simp [hm])
theorem reckon_ok (way : Int) (l : List N) (hok : oksN l) (hl : l.length ≤ 1000000000) : PCalls Tryz.prog n_series_Reckon [.int .i64 way, .lst (numEls l)] (fun r => r = numA (reckon way l)) := by
  refine pcalls_of_awp hmix c_series_Reckon rfl ?_
  simp [a_series_Reckon]
  refine ac_same (known_ok l hok hl) (by simp) ?_
  rintro r rfl
  have hko := known_oks hok
  have hkl : (known l).length ≤ l.length := List.length_filter_le _ _
  have hkg := known_good l
  unfold reckon
  generalize known l = K at *
  cases K with
  | nil => simp [numEls, numA, nothing]
  | cons k ks =>
    have hlen := numEls_len (k :: ks)
    simp only [List.length_cons] at hlen hkl
    have hk := hko k (by simp)
    have hks : oksN ks := fun n hn => hko n (by simp [hn])
    have hadd := foldl_ok (fun a b _ _ => ok_add a b) ks k hk hks
    have gA := gather_ok (G := G) k ks hko (by omega) addN (fun a b _ _ => ok_add a b) n_fixed_Add b_fixed_Add (fun a b ha hb => fAdd_ok a b ha hb)
    have gL := gather_ok (G := G) k ks hko (by omega) lessN (fun a b ha hb => ok_less ha hb) n_fixed_Less b_fixed_Less (fun a b ha hb => fLess_ok a b)
    have gM := gather_ok (G := G) k ks hko (by omega) moreN (fun a b ha hb => ok_more ha hb) n_fixed_More b_fixed_More (fun a b ha hb => fMore_ok a b)
    rw [numEls_cons] at gA gL gM hlen
    have hn0 : ¬ ((ks.length : Int) + 1 = 0) := by omega
    simp only
    unfold reckonK
    rw [numEls_cons]
    by_cases w1 : way = 1
    · subst w1
      have kI := fInt_ok (G := G) ((ks.length : Int) + 1) (by omega) (by omega)
      have kD := fDiv_ok (G := G) (ks.foldl addN k) (tell (((ks.length : Int) + 1) * 1000000)) hadd (ok_tell _)
      simp [numEls_len, hn0]
      refine ac_same gA (by simp) ?_
      rintro r rfl
      simp [numEls_len]
      refine ac_same kI (by simp) ?_
      rintro r rfl
      simp
      refine ac_same kD (by simp [numA]) ?_
      rintro r rfl
      simp [numA]
    · by_cases w2 : way = 2
      · subst w2
        simp [numEls_len, hn0]
        refine ac_same gA (by simp) ?_
        rintro r rfl
        simp [numA]
      · by_cases w3 : way = 3
        · subst w3
          simp [numEls_len, hn0]
          refine ac_same gL (by simp) ?_
          rintro r rfl
          simp [numA]
        · by_cases w4 : way = 4
          · subst w4
            simp [numEls_len, hn0]
            refine ac_same gM (by simp) ?_
            rintro r rfl
            simp [numA]
          · by_cases w5 : way = 5
            · subst w5
              obtain ⟨z, hz⟩ : ∃ z, z = (k :: ks).getLast (by simp) := ⟨_, rfl⟩
              have hz1 : (k :: ks)[ks.length]? = some z := by
                rw [hz, List.getLast_eq_getElem, List.getElem?_eq_getElem (by simp)]; simp
              have hz2 := numEls_get hz1
              rw [numEls_cons] at hz2
              obtain ⟨hy1, hy2⟩ := List.getElem?_eq_some_iff.1 hz2
              have hw : IntKind.i64.wrap (ks.length : Int) = ks.length := wrap_i64 (by omega) (by omega)
              rw [← hz]
              simp [numEls_len, hn0, hw, hz2, hy2, numA]
            · simp [numEls_len, hn0, w1, w2, w3, w4, w5, nothing, numA]
end Go.Proofs.YtdgpnmlialmaaaaGreatDoor
end
section
namespace Go.Ser
open Go.Num
/-- How many values of a series (its start, its step, how many) stand ahead of a time. -/
def placeN (st sp : Int) (n : Nat) (t : Int) : Nat := if t ≤ st then 0 else min n ((t - st + sp - 1) / sp).toNat
theorem placeN_le (st sp : Int) (n : Nat) (t : Int) : placeN st sp n t ≤ n := by
  unfold placeN; split
  · omega
  · exact Nat.min_le_left _ _
theorem place_iff {st sp t : Int} {n i : Nat} (hs : 0 < sp) (hi : i < n) : placeN st sp n t ≤ i ↔ t ≤ st + i * sp := by
  unfold placeN
  have hip : 0 ≤ (i : Int) * sp := Int.mul_nonneg (Int.natCast_nonneg i) (by omega)
  split
  · constructor
    · intro _; omega
    · intro _; omega
  · have hq : 0 ≤ (t - st + sp - 1) / sp := Int.ediv_nonneg (by omega) (by omega)
    have key : (t - st + sp - 1) / sp < (i : Int) + 1 ↔ t - st + sp - 1 < ((i : Int) + 1) * sp := Int.ediv_lt_iff_lt_mul hs
    have e : ((i : Int) + 1) * sp = i * sp + sp := by rw [Int.add_mul, Int.one_mul]
    rw [e] at key
    constructor
    · intro h
      have : ((t - st + sp - 1) / sp).toNat ≤ i := by omega
      have := key.1 (by omega)
      omega
    · intro h
      have := key.2 (by omega)
      omega
end Go.Ser
end
