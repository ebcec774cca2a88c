/- Functions of many series: a percentage of values. Functions of many series: what becomes of values together (the program). Functions of one series: th -/
import Derived.Lib.ReplaceLaws
import Derived.Test.YtdgpnmlialmaaaaGreatDoorAbs2
import Derived.Shelf.Strings.Builder1
import Derived.Shelf.Spec.SlicesGrow
import Derived.WalkKit
import Derived.Test.YtdgpnmlialmaaaaGreatDoorCode
import Derived.Test.YtdgpnmlialmaaaaGreatDoorShelf
import Derived.Lib.IndexAny
import Derived.Test.YtdgpnmlialmaaaaGreatDoorBn1
import Derived.Test.YtdgpnmlialmaaaaGreatDoorBn2
import Derived.Test.YtdgpnmlialmaaaaGreatDoorBn3
import Derived.Test.YtdgpnmlialmaaaaGreatDoorBn4
import Derived.Test.YtdgpnmlialmaaaaGreatDoorBn5
set_option linter.unusedSimpArgs false
set_option linter.unusedVariables false
set_option linter.constructorNameAsVariable false
section
set_option maxHeartbeats 2000000
namespace Go.Proofs.YtdgpnmlialmaaaaGreatDoor
open Go.Abs Go.Num Go.Ser Go.Ble
variable {G : Globs}
theorem bRank_ok (l : List N) (hok : oksN l) (hl : l.length ≤ 1000000000) (n : N) (hno : okN n) : PCalls Tryz.prog n_blend_Rank [.lst (numEls l), numA n] (fun r => r = numA (rankS l n)) := by
  refine pcalls_of_awp hmix c_blend_Rank rfl ?_
  have kR := bRising_ok (G := G) l hok hl
  have hkl : (risingS l).length ≤ l.length := by rw [rising_len]; exact List.length_filter_le _ _
  have kU := bUnknown_ok (G := G) n hno
  have kN := bNothing_ok (G := G)
  rw [numA_eq] at kN
  obtain ⟨R, hR0⟩ : ∃ R, R = rankS l n := ⟨_, rfl⟩
  rw [← hR0]
  have hR : R = if risingS l = [] ∨ good n = false then nothing else (risingS l).getD (rankI n.2 (risingS l).length) nothing := hR0
  generalize risingS l = k at *
  have hlen := numEls_len k
  rw [numA_eq n] at kU ⊢
  simp [a_blend_Rank]
  refine ac_same kR (by simp) ?_
  rintro r rfl
  by_cases h0 : k = []
  · rw [if_pos (.inl h0)] at hR
    subst h0; subst hR
    have e0 : numEls [] = [] := rfl
    simp [e0]
    refine ac_same kN (by simp) ?_
    rintro r rfl
    simp [splice, numA]
  have hpos : 0 < k.length := List.length_pos_iff.2 h0
  have hne : ¬ (k.length : Int) = 0 := by omega
  simp [hlen, hne, h0]
  refine ac_same kU (by simp) ?_
  rintro r rfl
  cases hg : good n with
  | false =>
    rw [if_pos (.inr hg)] at hR
    subst hR
    simp
    refine ac_same kN (by simp) ?_
    rintro r rfl
    simp [splice, numA]
  | true =>
  rw [if_neg (by rintro (h | h); exact h0 h; rw [hg] at h; cases h)] at hR
  have hget : ∀ i, i < k.length → ∃ y, k[i]? = some y ∧ k.getD i nothing = y := fun i hi => ⟨k[i], List.getElem?_eq_getElem hi, by rw [List.getD_eq_getElem?_getD, List.getElem?_eq_getElem hi]; rfl⟩
  by_cases hv : n.2 ≤ 0
  · have hi : rankI n.2 k.length = 0 := by unfold rankI; rw [if_pos hv]
    rw [hi] at hR
    obtain ⟨y, hy, hgy⟩ := hget 0 hpos
    rw [hgy] at hR
    subst hR
    obtain ⟨hx1, hx2⟩ := List.getElem?_eq_some_iff.1 (numEls_get hy)
    simp [hv, hlen, hpos, hx1, hx2, splice, numA]
  obtain ⟨v, hvn⟩ : ∃ v : Nat, n.2 = v := ⟨n.2.toNat, by omega⟩
  have hv1 : v ≤ 9223372036854775807 := by have := hno.2; omega
  have hv2 : ¬ (v : Int) ≤ 0 := by omega
  obtain ⟨x, hx⟩ : ∃ x, x = v * k.length := ⟨_, rfl⟩
  have hxb : x < 340282366920938463463374607431768211456 := by
    have : v * k.length ≤ 9223372036854775807 * 1000000000 := Nat.mul_le_mul hv1 (by omega)
    omega
  have kM := wMul_ok (G := G) v k.length (by omega) (by omega)
  have kD := wDiv_ok (G := G) x 100000000 hxb (by decide)
  rw [← hx] at kM
  rw [if_neg (by decide)] at kD
  have hI : rankI n.2 k.length = if k.length ≤ x / 100000000 then k.length - 1 else if x % 100000000 = 0 then x / 100000000 - 1 else x / 100000000 := by
    unfold rankI
    rw [if_neg hv, hvn, Int.toNat_natCast, ← hx]
  obtain ⟨q, hq⟩ : ∃ q, q = x / 100000000 := ⟨_, rfl⟩
  obtain ⟨m, hm⟩ : ∃ m, m = x % 100000000 := ⟨_, rfl⟩
  rw [← hq, ← hm] at kD hI
  have wv : IntKind.u64.wrap (v : Int) = (v : Int) := wrap_u64 (by omega) (by omega)
  have wl : IntKind.u64.wrap (k.length : Int) = (k.length : Int) := wrap_u64 (by omega) (by omega)
  rw [hvn] at hR hI ⊢
  obtain ⟨qh, hqh⟩ : ∃ h, h = q / 18446744073709551616 := ⟨_, rfl⟩
  obtain ⟨ql, hql⟩ : ∃ h, h = q % 18446744073709551616 := ⟨_, rfl⟩
  have hwq : wA q = .agg [.int .u64 (qh : Int), .int .u64 (ql : Int)] := by rw [hqh, hql]; rfl
  rw [hwq] at kD
  obtain ⟨L, hL⟩ : ∃ L, L = k.length := ⟨_, rfl⟩
  have hv3 : ¬ v = 0 := by omega
  simp [hv2, hv3, wv, wl, hlen]
  refine ac_same kM (by simp [wA]) ?_
  rintro r rfl
  simp
  refine ac_same kD (by simp [wA]) ?_
  rintro r rfl
  have hLq : (0 < qh ∨ k.length ≤ ql) ↔ k.length ≤ q := by omega
  obtain ⟨z, hz, hgz⟩ := hget (k.length - 1) (by omega)
  obtain ⟨hz1, hz2⟩ := List.getElem?_eq_some_iff.1 (numEls_get hz)
  obtain ⟨t, ht⟩ : ∃ t, t = k.length - 1 := ⟨_, rfl⟩
  have wt : IntKind.i64.wrap ((k.length : Int) - 1) = (t : Int) := by rw [wrap_i64 (by omega) (by omega)]; omega
  have htk : t < k.length := by omega
  simp [splice]
  by_cases hqL : k.length ≤ q
  · rw [hI, if_pos hqL, hgz] at hR
    subst hR
    simp only [← ht] at hz1 hz2
    by_cases hq0 : 0 < qh
    · simp [hq0, hlen, wt, htk, hz1, hz2, numA, splice]
    · have hql2 : k.length ≤ ql := (hLq.2 hqL).resolve_left hq0
      simp [hq0, hql2, hlen, wl, wt, htk, hz1, hz2, numA, splice]
  · have hq0 : ¬ 0 < qh := fun h => hqL (hLq.1 (.inl h))
    have hql2 : ¬ k.length ≤ ql := fun h => hqL (hLq.1 (.inr h))
    have hqe : ql = q := by omega
    rw [hI, if_neg hqL] at hR
    have hqk : q < k.length := by omega
    have wq : IntKind.i64.wrap (q : Int) = (q : Int) := wrap_i64 (by omega) (by omega)
    obtain ⟨y, hy, hgy⟩ := hget q hqk
    obtain ⟨hy1, hy2⟩ := List.getElem?_eq_some_iff.1 (numEls_get hy)
    by_cases hm0 : m = 0
    · obtain ⟨r1, hr1⟩ : ∃ r1, r1 = q - 1 := ⟨_, rfl⟩
      have hrk : r1 < k.length := by omega
      rw [if_pos hm0, ← hr1] at hR
      obtain ⟨u, hu, hgu⟩ := hget r1 hrk
      obtain ⟨hu1, hu2⟩ := List.getElem?_eq_some_iff.1 (numEls_get hu)
      rw [hgu] at hR
      subst hR
      have wq1 : IntKind.i64.wrap ((q : Int) - 1) = (q : Int) - 1 := wrap_i64 (by omega) (by omega)
      have hmx : (if (0 : Int) < (q : Int) - 1 then (q : Int) - 1 else 0) = (r1 : Int) := by split <;> omega
      have hmx2 : (if 1 < q then (q : Int) - 1 else 0) = (r1 : Int) := by split <;> omega
      have hmx3 : (if (1 : Int) < (q : Int) then (q : Int) - 1 else 0) = (r1 : Int) := by split <;> omega
      simp [hq0, hql2, hqe, hqL, hlen, wl, wq, wq1, hm0, hmx, hmx2, hmx3, hrk, hu1, hu2, numA, splice]
    · rw [if_neg hm0, hgy] at hR
      subst hR
      have hmx : (if (0 : Int) < (q : Int) then (q : Int) else 0) = (q : Int) := by split <;> omega
      have hmx2 : (if 0 < q then (q : Int) else 0) = (q : Int) := by split <;> omega
      simp [hq0, hql2, hqe, hqL, hlen, wl, wq, hm0, hmx, hmx2, hqk, hy1, hy2, numA, splice]
end Go.Proofs.YtdgpnmlialmaaaaGreatDoor
end
section
set_option maxHeartbeats 4000000
namespace Go.Proofs.YtdgpnmlialmaaaaGreatDoor
open Go.Abs Go.Num Go.Ser Go.Ble
variable {G : Globs}
def wayI : Cw → Option Int
  | .sum => some 2 | .average => some 1 | .least => some 3 | .greatest => some 4 | _ => none
theorem bWay_ok (w : Cw) : PCalls Tryz.prog n_blend_way [.str w.txt] (fun r => r = .tup [.int .i64 ((wayI w).getD 0), .bool (wayI w).isSome]) := by
  refine pcalls_of_awp hmix c_blend_way rfl ?_
  cases w <;> simp [a_blend_way, Cw.txt, wayI]
theorem value_way {w : Cw} {n : Int} (h : wayI w = some n) (args l : List N) : valueS w args l = reckon n l := by
  cases w <;> simp [wayI] at h <;> subst h <;> rfl
theorem bValue_ok (w : Cw) (hw : w ≠ .percent ∧ w ≠ .group) (args l : List N) (ha : oksN args) (hok : oksN l) (hl : l.length ≤ 1000000000) (h1 : w = .percentile → args ≠ []) (h2 : w = .diff → l ≠ []) (h3 : w = .divide → 2 ≤ l.length) :
    PCalls Tryz.prog n_blend_value [.str w.txt, .lst (numEls l), .lst (numEls args)] (fun r => r = numA (valueS w args l)) := by
  refine pcalls_of_awp hmix c_blend_value rfl ?_
  have kW := bWay_ok (G := G) w
  have hlen := numEls_len l
  cases hwi : wayI w with
  | some n =>
    have hv := value_way hwi args l
    rw [hwi] at kW
    have kR := reckon_ok (G := G) n l hok hl
    obtain ⟨z, hz⟩ : ∃ z, z = reckon n l := ⟨_, rfl⟩
    rw [← hz, numA_eq] at kR
    rw [hv, ← hz]
    simp at kW
    simp [a_blend_value]
    refine ac_same kW (by simp) ?_
    rintro r rfl
    simp
    refine ac_same kR (by simp) ?_
    rintro r rfl
    simp [splice, numA]
  | none =>
    rw [hwi] at kW
    simp at kW
    obtain ⟨z, hz⟩ : ∃ z, z = valueS w args l := ⟨_, rfl⟩
    rw [← hz]
    simp [a_blend_value]
    refine ac_same kW (by simp) ?_
    rintro r rfl
    simp
    cases w <;> first | (exfalso; revert hwi; simp [wayI]; done) | (exfalso; simp at hw; done) | skip
    case multiply =>
      have k := bProduct_ok (G := G) l hok hl
      have e : productS l = z := hz.symm
      rw [e, numA_eq] at k
      simp [Cw.txt]
      refine ac_same k (by simp) ?_
      rintro r rfl
      simp [splice, numA]
    case diff =>
      obtain ⟨a, t, rfl⟩ : ∃ a t, l = a :: t := by
        cases l with
        | nil => exact absurd rfl (h2 rfl)
        | cons a t => exact ⟨a, t, rfl⟩
      have k := bDifference_ok (G := G) a t (hok a (by simp)) (fun n hn => hok n (by simp [hn])) (by simp at hl; omega)
      have e : diffS (a :: t) = z := hz.symm
      rw [e, numA_eq] at k
      simp [Cw.txt]
      refine ac_same k (by simp) ?_
      rintro r rfl
      simp [splice, numA]
    case range =>
      have k4 := reckon_ok (G := G) 4 l hok hl
      have k3 := reckon_ok (G := G) 3 l hok hl
      have kS := fSub_ok (G := G) (reckon 4 l) (reckon 3 l) (reckon_oks 4 hok) (reckon_oks 3 hok)
      have e : subN (reckon 4 l) (reckon 3 l) = z := hz.symm
      rw [e] at kS
      obtain ⟨x, hx⟩ : ∃ x, x = reckon 4 l := ⟨_, rfl⟩
      obtain ⟨y, hy⟩ : ∃ y, y = reckon 3 l := ⟨_, rfl⟩
      rw [← hx] at k4 kS
      rw [← hy] at k3 kS
      rw [numA_eq x] at k4
      rw [numA_eq y] at k3
      rw [numA_eq x, numA_eq y, numA_eq z] at kS
      simp [Cw.txt]
      refine ac_same k4 (by simp) ?_
      rintro r rfl
      simp
      refine ac_same k3 (by simp) ?_
      rintro r rfl
      simp
      refine ac_same kS (by simp) ?_
      rintro r rfl
      simp [splice, numA]
    case count =>
      have kK := bKnown_ok (G := G) l hok hl
      have hkl : (known l).length ≤ l.length := List.length_filter_le _ _
      have kI := fInt_ok (G := G) (known l).length (by omega) (by omega)
      have e : tell (((known l).length : Int) * 1000000) = z := hz.symm
      rw [e, numA_eq] at kI
      have hkn := numEls_len (known l)
      simp [Cw.txt]
      refine ac_same kK (by simp) ?_
      rintro r rfl
      simp [hkn]
      refine ac_same kI (by simp) ?_
      rintro r rfl
      simp [splice, numA]
    case median =>
      have k := bMiddle_ok (G := G) l hok hl
      have e : middleS l = z := hz.symm
      rw [e, numA_eq] at k
      simp [Cw.txt]
      refine ac_same k (by simp) ?_
      rintro r rfl
      simp [splice, numA]
    case percentile =>
      obtain ⟨a, t, rfl⟩ : ∃ a t, args = a :: t := by
        cases args with
        | nil => exact absurd rfl (h1 rfl)
        | cons a t => exact ⟨a, t, rfl⟩
      have k := bRank_ok (G := G) l hok hl a (ha a (by simp))
      have e : rankS l a = z := hz.symm
      rw [e, numA_eq, numA_eq] at k
      simp [Cw.txt, numEls_cons]
      refine ac_same k (by simp) ?_
      rintro r rfl
      simp [splice, numA]
    case divide =>
      obtain ⟨a, b, t, rfl⟩ : ∃ a b t, l = a :: b :: t := by
        match l, h3 rfl with
        | a :: b :: t, _ => exact ⟨a, b, t, rfl⟩
      have k := fDiv_ok (G := G) a b (hok a (by simp)) (hok b (by simp))
      have e : divN a b = z := hz.symm
      rw [e, numA_eq, numA_eq, numA_eq] at k
      simp [Cw.txt, numEls_cons]
      refine qc_same k (by simp) (by simp) ?_
      simp [splice, numA]
end Go.Proofs.YtdgpnmlialmaaaaGreatDoor
end
section
set_option maxHeartbeats 4000000
namespace Go.Abs
open Go.RowKit
/-- A new list of texts that the library hands back. -/
theorem own_strs {G : Globs} {base : Nat} {κ : Key} {Im : Addr → Prop} {w w' : World} {t : TypeId} {fz : Nat × Nat} {A : Nat} {cur : Array Value} {l : List (List UInt8)} (hs : SRel base κ Im [] w) (hb : Below w.heap.size w w') (hl : l.length ≤ 9223372036854775807)
    (hA : w.heap.size ≤ A) (hg : w'.heap[A]? = some (.cells cur t fz)) (hcur : cur.toList = l.map fun s => Value.string ⟨s.toArray⟩) :
    ∃ Im', SRel base κ Im' [] w' ∧ Grow base κ Im w κ Im' w' ∧ IR Im' w' (.lst (l.map fun s => [.str s])) (.slice (some ⟨A, 0, none⟩) l.length l.length) := by
  have hlt : A < w'.heap.size := by
    rcases Nat.lt_or_ge A w'.heap.size with h | h
    · exact h
    · rw [Array.getElem?_eq_none h] at hg; cases hg
  have hcell : ∀ k (hk : k < l.length), w'.cell? ⟨A, 0 + (k * 1 + 0), none⟩ = some (.string ⟨(l[k]).toArray⟩) := fun k hk => by
    have e : cur[0 + (k * 1 + 0)]? = some (.string ⟨(l[k]).toArray⟩) := by
      rw [← Array.getElem?_toList, hcur]; simp [hk]
    simp [World.cell?, hg]
    simpa using e
  refine ⟨fun a => Im a ∨ (a.block = A ∧ a.spot = none), hs.world (fun _ h => .inl h) (fun a h => h.imp id fun h => ⟨by rw [h.1]; exact hA, by rw [h.1]; exact hlt, h.2⟩) hb.size hb.block,
    ⟨fun _ _ _ h => h, fun _ h => .inl h, fun a ha => World.cell?_of_block (hb.block _ (hs.imlt a ha).1), fun a h => h.imp id fun h => by rw [h.1]; exact Nat.le_trans hs.hb hA, hb.mono hs.hb⟩, ?_⟩
  have hlen : (l.map fun s => [AV.str s]).length = l.length := by simp
  have := IR.lst (Im := fun a => Im a ∨ (a.block = A ∧ a.spot = none)) (w := w') (l.map fun s => [AV.str s]) 1 A 0 l.length (fun k _ => .string ⟨(l.getD k []).toArray⟩) (by simp) hl
    (fun c hc => by simp only [List.mem_map] at hc; obtain ⟨x, _, rfl⟩ := hc; rfl)
    (fun c hc x hx => by simp only [List.mem_map] at hc; obtain ⟨y, _, rfl⟩ := hc; simp at hx; subst hx; rfl)
    (fun k j hk hj => by
      rw [hlen] at hk
      have hj0 : j = 0 := by omega
      subst hj0
      exact ⟨.inr ⟨rfl, rfl⟩, by rw [hcell k hk]; simp [List.getD, hk]⟩)
    (fun k j hk hj => by
      rw [hlen] at hk
      have hj0 : j = 0 := by simpa using hj
      subst hj0
      simp only [List.getElem_map, List.getElem_cons_zero]
      have e : l.getD k [] = l[k] := by simp [List.getD, hk]
      rw [e]
      exact .str _)
  rw [hlen] at this
  exact this
end Go.Abs
namespace Go.Proofs.YtdgpnmlialmaaaaGreatDoor
open Go.Abs Go.Num Go.Ser Go.Dec Go.Shp
variable {G : Globs}
class GSpc [Globs] : Prop where
  spc : (0, Lib.asciiSpaceTab.map (AV.int .u8)) ∈ Globs.tab
theorem spc_ok {G : Globs} [GSpc] {base : Nat} {κ : Key} {Im : Addr → Prop} {σ : Store} {w : World} (hs : SRel base κ Im σ w) : Lib.TabIs Tryz.prog w "strings.asciiSpace" .u8 Lib.asciiSpaceTab := by
  obtain ⟨t, fz, h1, h2⟩ := glob_ints hs GSpc.spc
  unfold Lib.TabIs World.var?
  rw [show Tryz.prog.globalNamed "strings.asciiSpace" = some 0 by kernel_rfl]
  simp only [Option.bind_some, h1]
theorem fields_ok {G : Globs} [GSpc] (s : List UInt8) (hl : s.length ≤ 1000000) (ha : ∀ b ∈ s, b.toNat < 128) (hn : (Lib.fields s).length ≤ 1000000) : PCalls Tryz.prog 50 [.str s] (fun r => r = .lst (txts (Lib.fields s))) := by
  intro base κ Im w vs hsr hv
  obtain ⟨v0, rfl⟩ : ∃ v0, vs = [v0] := by
    match vs, hv.1 with
    | [a], _ => exact ⟨a, rfl⟩
  have e0 := (hv.2 0 (by simp) (by simp)).str_inv
  simp only [List.getElem_cons_zero] at e0
  subst e0
  refine (Tryz.strings_Fields ⟨s.toArray⟩ w (by show s.toArray.size < _; simp; omega) (fun j b hb => ha b (List.mem_of_getElem? (by simpa using hb))) (spc_ok hsr)).mono ?_
  rintro e w' ⟨rfl, rfl⟩
  obtain ⟨Im', g1, g2, g3⟩ := own_strs (A := w.heap.size) (l := Lib.fields s) (t := 9) (fz := (0, 0)) (cur := ((Lib.fields s).map fun l => Value.string ⟨l.toArray⟩).toArray) hsr (w' := w.alloc (.cells ((Lib.fields s).map fun l => Value.string ⟨l.toArray⟩).toArray 9)) (Go.RowKit.Below.alloc (Go.RowKit.Below.refl _ _) (Nat.le_refl _) _) (by omega) (Nat.le_refl _) (Go.MapKept.heap_alloc w _).1 (by simp)
  exact ⟨_, [], _, κ, Im', rfl, ⟨rfl, rfl⟩, g1, g2, .im _ _ g3⟩
theorem idxStr_ok (l : List (List UInt8)) (hl : l.length ≤ 1000000) (x : List UInt8) : PCalls Tryz.prog n_slices_Index_string_string [.lst (txts l), .str x] (fun r => ∃ z : Int, r = .int .i64 z ∧ (0 ≤ z ↔ x ∈ l)) := by
  refine pcalls_of_awp hmix c_slices_Index_string_string rfl ?_
  have hlen : (txts l).length = l.length := by simp [txts]
  simp [a_slices_Index_string_string, hlen]
  refine lp_startx (fun n f σ => ∃ k : Nat, n = l.length - k ∧ k ≤ l.length ∧ f 0 = .lst (txts l) ∧ f 1 = .str x ∧ f 7 = .int .i64 l.length ∧ f 8 = .int .i64 k ∧ x ∉ l.take k ∧ σ = []) l.length ?_ ?_
  · exact ⟨0, rfl, by omega, by simp, by simp, by simp, by simp, by simp, rfl⟩
  rintro n f σ ⟨k, rfl, hk, f0, f1, f7, f8, hx, rfl⟩
  simp [f7, f8]
  refine cb_dec (fun hlt => ?_) (fun hge => ?_)
  · have hlt' : k < l.length := by omega
    obtain ⟨y, hy⟩ : ∃ y, l[k]? = some y := ⟨_, List.getElem?_eq_getElem hlt'⟩
    have hte : (txts l)[k]? = some [.str y] := by simp [txts, hy]
    obtain ⟨h1, h2⟩ := List.getElem?_eq_some_iff.1 hte
    have hw : IntKind.i64.wrap ((k : Int) + 1) = (k : Int) + 1 := wrap_i64 (by omega) (by omega)
    by_cases he : x = y
    · subst he
      simp [f0, f1, f8, hte, h1, h2]
      exact List.mem_of_getElem? hy
    · simp [f0, f1, f8, hte, h1, h2, he, hw]
      refine nx_intro (l.length - (k + 1)) (by omega) ⟨k + 1, rfl, by omega, by simp [f0], by simp [f1], by simp [f7], by simp, ?_, rfl⟩
      rw [List.take_add_one, hy]
      simp [hx, he]
  · have : k = l.length := by omega
    subst this
    rw [List.take_length] at hx
    simp
    exact hx
theorem containsStr_ok (l : List (List UInt8)) (hl : l.length ≤ 1000000) (x : List UInt8) : PCalls Tryz.prog n_slices_Contains_string_string [.lst (txts l), .str x] (fun r => r = .bool (decide (x ∈ l))) := by
  refine pcalls_of_awp hmix c_slices_Contains_string_string rfl ?_
  simp [a_slices_Contains_string_string]
  refine ac_same (idxStr_ok l hl x) (by simp) ?_
  rintro r ⟨z, rfl, hz⟩
  simp [hz]
end Go.Proofs.YtdgpnmlialmaaaaGreatDoor
end
section
set_option maxHeartbeats 2000000
namespace Go.Ser
open Go.Num
end Go.Ser
namespace Go.Proofs.YtdgpnmlialmaaaaGreatDoor
open Go.Abs Go.Num Go.Ser
variable {G : Globs}
end Go.Proofs.YtdgpnmlialmaaaaGreatDoor
end
section
namespace Go.Proofs.YtdgpnmlialmaaaaGreatDoor
open Go.Abs Go.Num Go.Ser
variable {G : Globs}
class GMax [Globs] : Prop where
  mx : ∃ m : Int, (5, [AV.int .i64 m]) ∈ Globs.tab
end Go.Proofs.YtdgpnmlialmaaaaGreatDoor
end
section
namespace Go.Ser
end Go.Ser
end
section
namespace Go.Abs
open Go.RowKit Go.Proofs Go.Shelf
variable {G : Globs}
section
variable {P : Program} {ρ : Ren} {σ : Store}
end
end Go.Abs
end
section
namespace Go.Glob
/-- A name byte. -/
def nb (c : UInt8) : Bool := (97 ≤ c && c ≤ 122) || (65 ≤ c && c ≤ 90) || (48 ≤ c && c ≤ 57) || [95, 45, 58, 37, 35, 64, 43, 61].contains c
/-- A dash and a name byte behind it. -/
def rng : List UInt8 → Option (UInt8 × List UInt8)
  | d :: h :: s => if d = 45 ∧ nb h = true then some (h, s) else none
  | _ => none
/-- A class, behind its bracket: its ranges, and what stands behind it. -/
def cls : Nat → Bool → List UInt8 → Option (List (UInt8 × UInt8) × List UInt8)
  | 0, _, _ => none
  | _ + 1, _, [] => none
  | n + 1, ne, c :: s =>
    if c = 93 ∧ ne = true then some ([], s)
    else if nb c = false then none
    else match rng s with
      | some (h, s') => if h < c then none else (cls n true s').map fun x => ((c, h) :: x.1, x.2)
      | none => (cls n true s).map fun x => ((c, c) :: x.1, x.2)
inductive Pc where
  | lit (c : UInt8)
  | q
  | star
  | cls (rs : List (UInt8 × UInt8)) (text : List UInt8)
  | br (as_ : List (List Pc))
def stop (c : UInt8) : Bool := c = 44 || c = 125
def Pc.text : Pc → List UInt8
  | .lit c => [c]
  | .q => [63]
  | .star => [42]
  | .cls _ t => t
  | .br _ => []
def texts (l : List Pc) : List UInt8 := l.flatMap Pc.text
/-- Does a piece fit a byte? -/
def Pc.one : Pc → UInt8 → Bool
  | .q, _ => true
  | .lit l, c => decide (l = c)
  | .cls rs _, c => rs.any fun r => r.1 ≤ c && c ≤ r.2
  | .star, _ => false
  | .br _, _ => false
def tls {α : Type} : List α → List (List α)
  | [] => [[]]
  | a :: s => (a :: s) :: tls s
/-- Do pieces fit a name? -/
def mt : List Pc → List UInt8 → Bool
  | [], s => s.isEmpty
  | .star :: l, s => (tls s).any (mt l)
  | .lit _ :: _, [] => false
  | .q :: _, [] => false
  | .cls _ _ :: _, [] => false
  | .br _ :: _, [] => false
  | .lit p :: l, c :: s => (Pc.lit p).one c && mt l s
  | .q :: l, c :: s => Pc.q.one c && mt l s
  | .cls r t :: l, c :: s => (Pc.cls r t).one c && mt l s
  | .br a :: l, c :: s => (Pc.br a).one c && mt l s
end Go.Glob
end
section
namespace Go.Glob
mutual
/-- Pieces that may have been read: name bytes; classes whose text says them. -/
def okL : List Pc → Prop
  | [] => True
  | .lit c :: l => nb c = true ∧ okL l
  | .q :: l => okL l
  | .star :: l => okL l
  | .cls rs t :: l => (∃ b, t = 91 :: b ∧ ∀ m x, b.length < m → cls m false (b ++ x) = some (rs, x)) ∧ okL l
  | .br as_ :: l => okA as_ ∧ okL l
def okA : List (List Pc) → Prop
  | [] => True
  | a :: as_ => okL a ∧ okA as_
end
/-- Pieces without braces. -/
def flat : List Pc → Prop
  | [] => True
  | .br _ :: _ => False
  | .lit _ :: l => flat l
  | .q :: l => flat l
  | .star :: l => flat l
  | .cls _ _ :: l => flat l
theorem flat_append : ∀ {l m : List Pc}, flat l → flat m → flat (l ++ m)
  | [], _, _, h => h
  | .br _ :: _, _, h, _ => h.elim
  | .lit _ :: l, m, h, h' => flat_append (l := l) (m := m) h h'
  | .q :: l, m, h, h' => flat_append (l := l) (m := m) h h'
  | .star :: l, m, h, h' => flat_append (l := l) (m := m) h h'
  | .cls _ _ :: l, m, h, h' => flat_append (l := l) (m := m) h h'
theorem okL_append : ∀ {l m : List Pc}, okL l → okL m → okL (l ++ m)
  | [], _, _, h => h
  | .br _ :: l, m, h, h' => by simp only [List.cons_append, okL] at h ⊢; exact ⟨h.1, okL_append h.2 h'⟩
  | .lit _ :: l, m, h, h' => by simp only [List.cons_append, okL] at h ⊢; exact ⟨h.1, okL_append h.2 h'⟩
  | .q :: l, m, h, h' => by simp only [List.cons_append, okL] at h ⊢; exact okL_append h h'
  | .star :: l, m, h, h' => by simp only [List.cons_append, okL] at h ⊢; exact okL_append h h'
  | .cls _ _ :: l, m, h, h' => by simp only [List.cons_append, okL] at h ⊢; exact ⟨h.1, okL_append h.2 h'⟩
theorem texts_append (l m : List Pc) : texts (l ++ m) = texts l ++ texts m := by simp [texts]
/-- What an expansion is like: no braces, pieces as_ they must be, of at most n bytes. -/
def Good (n : Nat) (l : List Pc) : Prop := flat l ∧ okL l ∧ (texts l).length ≤ n
theorem Good.app {a b : Nat} {l m : List Pc} (h : Good a l) (h' : Good b m) : Good (a + b) (l ++ m) :=
  ⟨flat_append h.1 h'.1, okL_append h.2.1 h'.2.1, by rw [texts_append, List.length_append]; exact Nat.add_le_add h.2.2 h'.2.2⟩
theorem Good.le {a b : Nat} {l : List Pc} (h : Good a l) (hab : a ≤ b) : Good b l := ⟨h.1, h.2.1, Nat.le_trans h.2.2 hab⟩
theorem mt_star (l : List Pc) (s : List UInt8) : mt (.star :: l) s = (mt l s || match s with | [] => false | _ :: s' => mt (.star :: l) s') := by
  cases s <;> simp [mt, tls]
theorem mt_other {p : Pc} (hp : p ≠ .star) (l : List Pc) (c : UInt8) (s : List UInt8) : mt (p :: l) (c :: s) = (p.one c && mt l s) := by
  cases p <;> first | exact absurd rfl hp | rfl
theorem mt_other_nil {p : Pc} (hp : p ≠ .star) (l : List Pc) : mt (p :: l) [] = false := by
  cases p <;> first | exact absurd rfl hp | rfl
def starless (l : List Pc) : Prop := ∀ p ∈ l, p ≠ .star
theorem mt_skip : ∀ (M R : List Pc) (s : List UInt8), starless M → mt (M ++ R) s = true → M.length ≤ s.length ∧ mt R (s.drop M.length) = true
  | [], R, s, _, h => by simpa using h
  | p :: M, R, [], hM, h => by
    rw [List.cons_append, mt_other_nil (hM p (by simp))] at h
    cases h
  | p :: M, R, c :: s, hM, h => by
    rw [List.cons_append, mt_other (hM p (by simp)), Bool.and_eq_true] at h
    have := mt_skip M R s (fun x hx => hM x (by simp [hx])) h.2
    exact ⟨by simp; omega, by simpa using this.2⟩
/-- What the search for a fit keeps. -/
structure Fit (l : List Pc) (name : List UInt8) (at_ k : Nat) (back : Option Nat) (from_ : Nat) : Prop where
  hat : at_ ≤ l.length
  hk : k ≤ name.length
  hfk : from_ ≤ k
  f0 : back = none → mt l name = mt (l.drop at_) (name.drop k)
  f1 : ∀ b, back = some b → b < at_ ∧ l[b]? = some .star ∧ k - from_ = at_ - b - 1 ∧ starless ((l.take at_).drop (b + 1)) ∧
    mt l name = (mt (l.drop at_) (name.drop k) || (decide (from_ < name.length) && mt (l.drop b) (name.drop (from_ + 1))))
theorem drop_cons {α : Type} {l : List α} {i : Nat} {a : α} (h : l[i]? = some a) : l.drop i = a :: l.drop (i + 1) := by
  obtain ⟨hlt, rfl⟩ := List.getElem?_eq_some_iff.1 h
  exact List.drop_eq_getElem_cons hlt
/-- The piece that stands fits the byte that stands. -/
theorem Fit.step {l : List Pc} {name : List UInt8} {at_ k : Nat} {back : Option Nat} {from_ : Nat} {p : Pc} {c : UInt8} (h : Fit l name at_ k back from_) (hp : l[at_]? = some p) (hs : p ≠ .star) (hc : name[k]? = some c) (ho : p.one c = true) :
    Fit l name (at_ + 1) (k + 1) back from_ := by
  have h1 := (List.getElem?_eq_some_iff.1 hp).1
  have h2 := (List.getElem?_eq_some_iff.1 hc).1
  have e : mt (l.drop at_) (name.drop k) = mt (l.drop (at_ + 1)) (name.drop (k + 1)) := by
    rw [drop_cons hp, drop_cons hc, mt_other hs, ho, Bool.true_and]
  refine ⟨by omega, by omega, by have := h.hfk; omega, fun hn => by rw [← e]; exact h.f0 hn, fun b hb => ?_⟩
  obtain ⟨g1, g2, g3, g4, g5⟩ := h.f1 b hb
  refine ⟨by omega, g2, by have := h.hfk; omega, fun x hq => ?_, by rw [← e]; exact g5⟩
  have : l.take (at_ + 1) = l.take at_ ++ [p] := by rw [List.take_add_one, hp]; rfl
  rw [this, List.drop_append_of_le_length (by simp; omega)] at hq
  rcases List.mem_append.1 hq with hq | hq
  · exact g4 x hq
  · simp only [List.mem_singleton] at hq; subst hq; exact hs
/-- Nothing fits here. -/
def Stuck (l : List Pc) (name : List UInt8) (at_ k : Nat) : Prop := ∃ c, name[k]? = some c ∧ (l[at_]? = none ∨ ∃ p, l[at_]? = some p ∧ p ≠ .star ∧ p.one c = false)
theorem Stuck.mt {l : List Pc} {name : List UInt8} {at_ k : Nat} (h : Stuck l name at_ k) : Glob.mt (l.drop at_) (name.drop k) = false := by
  obtain ⟨c, hc, h⟩ := h
  rw [drop_cons hc]
  rcases h with h | ⟨p, hp, hs, ho⟩
  · rw [List.drop_eq_nil_of_le (List.getElem?_eq_none_iff.1 h)]; rfl
  · rw [drop_cons hp, mt_other hs, ho, Bool.false_and]
/-- The last star takes one byte more. -/
theorem Fit.back {l : List Pc} {name : List UInt8} {at_ k : Nat} {b from_ : Nat} (h : Fit l name at_ k (some b) from_) (hs : Stuck l name at_ k) : Fit l name (b + 1) (from_ + 1) (some b) (from_ + 1) := by
  obtain ⟨g1, g2, g3, g4, g5⟩ := h.f1 b rfl
  have hk : k < name.length := by obtain ⟨c, hc, _⟩ := hs; exact (List.getElem?_eq_some_iff.1 hc).1
  have hfk := h.hfk
  have hat := h.hat
  refine ⟨by omega, by omega, Nat.le_refl _, nofun, fun b' hb' => ?_⟩
  cases hb'
  refine ⟨by omega, g2, by omega, fun p hp => ?_, ?_⟩
  · rw [List.drop_eq_nil_of_le (by rw [List.length_take]; exact Nat.min_le_left _ _)] at hp; cases hp
  · rw [g5, hs.mt, Bool.false_or]
    have hfr : decide (from_ < name.length) = true := by simp; omega
    rw [hfr, Bool.true_and, drop_cons g2, mt_star]
    congr 1
    by_cases hf : from_ + 1 < name.length
    · rw [List.drop_eq_getElem_cons hf]; simp [hf]
    · rw [List.drop_eq_nil_of_le (by omega)]; simp [hf]
theorem Fit.done {l : List Pc} {name : List UInt8} {at_ from_ : Nat} {back : Option Nat} (h : Fit l name at_ name.length back from_) : mt l name = mt (l.drop at_) [] := by
  have e0 : name.drop name.length = [] := List.drop_eq_nil_of_le (Nat.le_refl _)
  cases hb : back with
  | none => rw [h.f0 hb, e0]
  | some b =>
    obtain ⟨g1, g2, g3, g4, g5⟩ := h.f1 b hb
    rw [g5, e0]
    cases hy : (decide (from_ < name.length) && mt (l.drop b) (name.drop (from_ + 1))) with
    | false => rw [Bool.or_false]
    | true =>
      exfalso
      simp only [Bool.and_eq_true, decide_eq_true_eq] at hy
      obtain ⟨hfr, hy⟩ := hy
      rw [drop_cons g2] at hy
      simp only [mt, List.any_eq_true] at hy
      obtain ⟨t, ht, hy⟩ := hy
      have htl : t.length ≤ (name.drop (from_ + 1)).length := by
        clear hy
        generalize name.drop (from_ + 1) = s at ht
        induction s with
        | nil => simp [tls] at ht; simp [ht]
        | cons c s ih =>
          simp only [tls, List.mem_cons] at ht
          rcases ht with rfl | ht
          · simp
          · have := ih ht; simp; omega
      have es : l.drop (b + 1) = (l.take at_).drop (b + 1) ++ l.drop at_ := by
        have : l.drop (b + 1) = ((l.take at_) ++ l.drop at_).drop (b + 1) := by rw [List.take_append_drop]
        rw [this, List.drop_append_of_le_length (by have := h.hat; simp; omega)]
      rw [es] at hy
      obtain ⟨m1, m2⟩ := mt_skip _ _ _ g4 hy
      have hat := h.hat
      simp at m1 htl
      omega
end Go.Glob
end
section
namespace Go.Proofs.YtdgpnmlialmaaaaGreatDoor
open Go.Abs Go.Glob
variable {G : Globs}
end Go.Proofs.YtdgpnmlialmaaaaGreatDoor
end
