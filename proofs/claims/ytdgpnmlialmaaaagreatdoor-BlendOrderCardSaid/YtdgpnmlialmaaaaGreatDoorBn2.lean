/- Numbers with six decimals: differences, products, roots, rounding, order, plainly. Functions of many series, plainly: what becomes of values together. -/
import Derived.WalkKit
import Derived.Lib.ParseIntB
import Derived.Lib.ItoaNum
import Derived.Test.YtdgpnmlialmaaaaGreatDoorCode
import Derived.Test.YtdgpnmlialmaaaaGreatDoorShelf
import Derived.Test.YtdgpnmlialmaaaaGreatDoorAbs2
import Derived.Lib.Itoa
import Derived.Lib.ItoaMem
import Derived.Lib.ItoaLen
import Derived.Test.YtdgpnmlialmaaaaGreatDoorBn1
set_option linter.unusedSimpArgs false
set_option linter.unusedVariables false
set_option linter.constructorNameAsVariable false
section
namespace Go.Num
def negN (a : N) : N := if good a then (false, -a.2) else nothing
def subN (a b : N) : N := addN a (negN b)
def mulN (a b : N) : N := if good a && good b then tell (sgn (decide (a.2 < 0) != decide (b.2 < 0)) (rnd (a.2.natAbs * b.2.natAbs) 1000000)) else nothing
theorem ok_neg (a : N) (h : okN a) : okN (negN a) := by
  unfold negN
  split
  · rename_i hg
    obtain ⟨_, h2⟩ := good_iff.1 hg
    unfold okN at *
    simp only [most] at h2
    simp only
    omega
  · exact ok_nothing
theorem ok_mul (a b : N) : okN (mulN a b) := by unfold mulN; split; exact ok_tell _; exact ok_nothing
end Go.Num
end
section
namespace Go.Ble
open Go.Num
def leN (a b : N) : Bool := decide (a.2 ≤ b.2)
/-- The values that count, by rising values. -/
def risingS (l : List N) : List N := (known l).mergeSort leN
theorem rising_perm (l : List N) : (risingS l).Perm (known l) := List.mergeSort_perm _ _
theorem rising_sorted (l : List N) : (risingS l).Pairwise fun a b => a.2 ≤ b.2 := by
  have := List.pairwise_mergeSort (le := leN) (fun a b c h1 h2 => by simp [leN] at *; omega) (fun a b => by simp [leN]; omega) (known l)
  exact this.imp fun h => by simpa [leN] using h
theorem rising_good (l : List N) : ∀ n ∈ risingS l, good n = true := fun n hn => known_good l n ((rising_perm l).mem_iff.1 hn)
/-- What is a permutation of the known values, and sorted, is that list. -/
theorem rising_eq {l k : List N} (hp : k.Perm (known l)) (hs : k.Pairwise fun a b => a.2 ≤ b.2) : k = risingS l := by
  refine (hp.trans (rising_perm l).symm).eq_of_pairwise (fun a b ha hb h1 h2 => ?_) hs (rising_sorted l)
  have g1 := (good_iff.1 (known_good l a (hp.mem_iff.1 ha))).1
  have g2 := (good_iff.1 (rising_good l b hb)).1
  exact Prod.ext (g1.trans g2.symm) (by omega)
theorem rising_len (l : List N) : (risingS l).length = (known l).length := (rising_perm l).length_eq
def middleS (l : List N) : N :=
  if risingS l = [] then nothing
  else if (risingS l).length % 2 = 1 then (risingS l).getD ((risingS l).length / 2) nothing
  else divN (addN ((risingS l).getD ((risingS l).length / 2 - 1) nothing) ((risingS l).getD ((risingS l).length / 2) nothing)) (tell 2000000)
/-- The place of a percentage among so many. -/
def rankI (v : Int) (n : Nat) : Nat := if v ≤ 0 then 0 else if n ≤ v.toNat * n / 100000000 then n - 1 else if v.toNat * n % 100000000 = 0 then v.toNat * n / 100000000 - 1 else v.toNat * n / 100000000
def rankS (l : List N) (n : N) : N := if risingS l = [] ∨ good n = false then nothing else (risingS l).getD (rankI n.2 (risingS l).length) nothing
/-- What many values make, multiplied. -/
def productS (l : List N) : N := match known l with
  | [] => nothing
  | k :: ks => ks.foldl mulN k
def diffS (l : List N) : N := if known l.tail = [] then l.headD nothing else subN (l.headD nothing) (reckon 2 l.tail)
inductive Cw where
  | sum | average | least | greatest | multiply | diff | range | count | median | divide | percent | percentile | group
  deriving DecidableEq
def valueS (w : Cw) (args : List N) (l : List N) : N := match w with
  | .sum => reckon 2 l
  | .average => reckon 1 l
  | .least => reckon 3 l
  | .greatest => reckon 4 l
  | .multiply => productS l
  | .diff => diffS l
  | .range => subN (reckon 4 l) (reckon 3 l)
  | .count => tell ((known l).length * 1000000)
  | .median => middleS l
  | .percentile => rankS l (args.headD nothing)
  | _ => divN (l.headD nothing) (l.tail.headD nothing)
end Go.Ble
end
section
namespace Go.Dec
def isD (c : UInt8) : Bool := 48 ≤ c && c ≤ 57
def dig (c : UInt8) : Nat := c.toNat - 48
def dval (n : Nat) (l : List UInt8) : Nat := l.foldl (fun n c => n * 10 + dig c) n
theorem dval_nil (n : Nat) : dval n [] = n := rfl
theorem dval_cons (n : Nat) (c : UInt8) (l : List UInt8) : dval n (c :: l) = dval (n * 10 + dig c) l := by unfold dval; rw [List.foldl_cons]
theorem dval_append (l m : List UInt8) (n : Nat) : dval n (l ++ m) = dval (dval n l) m := by unfold dval; rw [List.foldl_append]
theorem isD_iff (c : UInt8) : isD c = true ↔ 48 ≤ c.toNat ∧ c.toNat ≤ 57 := by
  simp [isD, UInt8.le_iff_toNat_le]
/-- A text's parts: the digits ahead of the point, and behind it; none: it is no number's text. -/
def parts (s : List UInt8) : Option (List UInt8 × List UInt8) :=
  let w := s.takeWhile isD
  match s.dropWhile isD with
  | [] => if w = [] then none else some (w, [])
  | c :: t => if c = 46 ∧ t.dropWhile isD = [] ∧ w ++ t ≠ [] then some (w, t) else none
def below (s : List UInt8) : Bool := match s with
  | c :: _ => decide (c = 45)
  | [] => false
end Go.Dec
end
section
namespace Go.Proofs.YtdgpnmlialmaaaaGreatDoor
open Go.Abs Go.Dec
/-- The package's variables that numbers' texts ask for. -/
class GPow [Globs] : Prop where
  pow : (4, Lib.pow10Tab.map (AV.int .u64)) ∈ Globs.tab
theorem trimRight_ok {G : Globs} (s : List UInt8) (hs : s.length ≤ 9223372036854775807) : PCalls Tryz.prog 124 [.str s, .str [48]] (fun r => r = .str (Lib.trimRightB s 48)) :=
  pcalls2 fun base κ Im w v u _ h1 h2 => by
    cases h1.str_inv; cases h2.str_inv
    refine (Tryz.strings_TrimRight_one ⟨s.toArray⟩ 48 (by decide) w (by simpa [ByteArray.size] using hs)).mono ?_
    rintro e w' ⟨rfl, rfl⟩
    exact ⟨_, _, rfl, rfl, Go.RowKit.Below.refl _ _, fun Im' => .str _⟩
theorem tab_ok {G : Globs} [GPow] {base : Nat} {κ : Key} {Im : Addr → Prop} {σ : Store} {w : World} (hs : SRel base κ Im σ w) : Lib.TabIs Tryz.prog w "internal/strconv.uint64pow10" .u64 Lib.pow10Tab := by
  obtain ⟨t, fz, h, _⟩ := glob_ints hs GPow.pow
  unfold Lib.TabIs World.var?
  rw [show Tryz.prog.globalNamed "internal/strconv.uint64pow10" = some 4 by kernel_rfl]
  simp only [Option.bind_some, h]
/-- strconv.FormatInt. -/
theorem formatIntI_ok {G : Globs} [GPow] (n : Int) (h0 : -9223372036854775808 ≤ n) (h1 : n ≤ 9223372036854775807) : PCalls Tryz.prog 146 [.int .i64 n, .int .i64 10] (fun r => r = .str (Lib.itoa n)) :=
  pcalls2 fun base κ Im w v u hs e1 e2 => by
    cases e1.int_inv; cases e2.int_inv
    refine (Tryz.internal_strconv_FormatInt_10 n h0 h1 w (tab_ok hs)).mono ?_
    rintro e w' ⟨rfl, k, os, rfl⟩
    exact ⟨_, _, rfl, rfl, Lib.below_grow _ w (Nat.le_refl _) k os, fun Im' => .str _⟩
theorem formatInt_ok {G : Globs} [GPow] (n : Int) (h0 : -9223372036854775808 ≤ n) (h1 : n ≤ 9223372036854775807) : PCalls Tryz.prog n_strconv_FormatInt [.int .i64 n, .int .i64 10] (fun r => r = .str (Lib.itoa n)) := by
  refine pcalls_of_awp hmix c_strconv_FormatInt rfl ?_
  simp [a_strconv_FormatInt]
  refine ac_same (formatIntI_ok n h0 h1) (by simp) ?_
  rintro r rfl
  simp
end Go.Proofs.YtdgpnmlialmaaaaGreatDoor
end
section
namespace Go.Proofs.YtdgpnmlialmaaaaGreatDoor
open Go.Abs Go.Dec
variable {G : Globs}
def u8c (l : List UInt8) : List AV := l.map fun b => .int .u8 b.toNat
theorem formatBase10_ok {σ : Store} {id t n u : Nat} {cells : List AV} (hent : σ[id]? = some (.var t cells)) (hcells : cells = List.replicate 24 (.int .u8 0)) (hn : n = Lib.nDigits u) (hle : n ≤ 24) (hu : u < 18446744073709551616) :
    ACalls Tryz.prog 170 [.asl id 0 n 1, .int .u64 u] σ (fun r σ' => r = .tup [] ∧ σ' = σ.set id (.var t (u8c (Lib.decDigits u) ++ cells.drop n))) := by
  intro base κ Im w vs hs hv
  obtain ⟨v0, v1, rfl⟩ : ∃ v0 v1, vs = [v0, v1] := by
    match vs, hv.1 with
    | [a, b], _ => exact ⟨a, b, rfl⟩
  have h0 := hv.2 0 (by simp) (by simp)
  have h1 := (hv.2 1 (by simp) (by simp)).int_inv
  simp only [List.getElem_cons_zero, List.getElem_cons_succ] at h0 h1
  subst h1
  obtain ⟨b, ad, c, rfl, hk, h3, h4, h5, h6⟩ := h0.asl_inv
  have hnpos : 0 < n := by rw [hn]; exact Lib.nDigits_pos u
  rw [h3 hnpos]
  obtain ⟨b', cs, hk', hbase, hheap, hvr, hone, him⟩ := hs.ent _ _ hent
  rw [hk] at hk'; cases hk'
  have hlen : cs.size = 24 := by have := hvr.1; rw [hcells] at this; simpa using this.symm
  have hz : ∀ j (h : j < cs.size), cs[j] = .int .u8 0 := fun j hj => by
    have hjc : j < cells.length := by rw [hcells]; simp; omega
    have := hvr.2 j hjc (by simpa using hj)
    simp only [hcells, List.getElem_replicate, Array.getElem_toList] at this
    exact this.int_inv
  have hH : Sort.Holds (fun (b : UInt8) => Value.int .u8 (b.toNat : Int)) w b 0 (Array.replicate n (0 : UInt8)) := fun j hj => by
    have hj' : j < n := by simpa using hj
    refine ⟨?_, by simp [World.frozen?, hheap]⟩
    rw [Nat.zero_add, cell_of_row w b j cs t (0, 0) hheap, Array.getElem?_eq_getElem (by omega), hz j (by omega), getElem!_pos _ j hj]
    simp
  have hpow : u < 10 ^ (Array.replicate n (0 : UInt8)).size := by
    rw [Array.size_replicate, hn]
    exact Lib.lt_pow_nDigits u
  have hcall := Tryz.internal_strconv_formatBase10 b 0 c u (Array.replicate n (0 : UInt8)) w hH hpow hu (by simp; omega)
  rw [Array.size_replicate] at hcall
  refine hcall.mono ?_
  rintro e w' ⟨rfl, k, v', dk, rfl, hinv⟩
  have hdk : dk.size = n := hinv.size
  rw [hn] at hinv
  have hnum := fun j hj => Lib.row_is_numeral hinv j hj
  have hdl : (Lib.decDigits u).length = n := by rw [Lib.decDigits_length, hn]
  obtain ⟨cs', hcs'⟩ : ∃ cs', cs' = Sort.putCells (fun (b : UInt8) => Value.int .u8 (b.toNat : Int)) 0 dk cs := ⟨_, rfl⟩
  have hnew : ((Sort.putRow (fun (b : UInt8) => Value.int .u8 (b.toNat : Int)) w b 0 dk).drewN k).heap[b]? = some (.cells cs' t (0, 0)) := by
    simp [World.drewN, Sort.putRow, Sort.mapBlock, Array.getElem?_modify, hheap, Sort.onCells, hcs']
  have hold : ∀ j, j ≠ b → ((Sort.putRow (fun (b : UInt8) => Value.int .u8 (b.toNat : Int)) w b 0 dk).drewN k).heap[j]? = w.heap[j]? := fun j hj => by
    simp [World.drewN, Sort.putRow, Sort.mapBlock, Array.getElem?_modify, Ne.symm hj]
  have hsize : ((Sort.putRow (fun (b : UInt8) => Value.int .u8 (b.toNat : Int)) w b 0 dk).drewN k).heap.size = w.heap.size := by
    simp [World.drewN, Sort.putRow, Sort.mapBlock]
  generalize hW : (Sort.putRow (fun (b : UInt8) => Value.int .u8 (b.toNat : Int)) w b 0 dk).drewN k = W at *
  have hcell : ∀ a, Im a → W.cell? a = w.cell? a := fun a ha => World.cell?_of_block (hold _ (him a ha))
  have hgrow : Grow base κ Im w κ Im W := ⟨fun _ _ _ h => h, fun _ h => h, hcell, fun _ h => .inl h, ⟨by rw [← hW]; rfl, by rw [← hW]; rfl, by rw [← hW]; rfl, by omega, fun j hj => hold j (by omega)⟩⟩
  refine ⟨.tup [], _, _, κ, Im, rfl, ⟨rfl, rfl⟩, ?_, hgrow, .tup [] [] rfl (fun j h => by simp at h)⟩
  refine hs.set hent _ (fun _ _ _ h => h) (fun _ _ _ h => .inl h) (Nat.le_refl _) (fun _ h => h) hcell (fun _ h => .inl h) (by omega) (fun j _ hj => hold j (fun he => hj (by simp [Entry.block, hk, he]))) ?_ (fun b' hb' => .inr (by simpa [Entry.block, hk] using hb'))
  refine ⟨b, cs', hk, hbase, hnew, ⟨?_, fun j hj hj' => ?_⟩, fun c hc => ?_, him⟩
  · rw [hcs', hcells]; simp [u8c, hdl, Sort.putCells, hlen]; omega
  · have hjs : j < 24 := by rw [hcs'] at hj'; simpa [Sort.putCells, hlen] using hj'
    have e1 : cs'.toList[j] = if j < n then .int .u8 (dk[j]!).toNat else cs[j]'(by omega) := by
      subst hcs'
      simp [Sort.putCells, hdk]
    rw [e1]
    by_cases hjn : j < n
    · rw [if_pos hjn, List.getElem_append_left (by simp [u8c, hdl]; exact hjn)]
      simp only [u8c, List.getElem_map]
      rw [hnum j (by omega)]
      exact .im _ _ (.int _ _)
    · rw [if_neg hjn, List.getElem_append_right (by simp [u8c, hdl]; omega)]
      simp only [List.getElem_drop, hcells, List.getElem_replicate]
      rw [hz j (by omega)]
      exact .im _ _ (.int _ _)
  · rw [hcells] at hc
    simp only [List.mem_append, u8c, List.mem_map] at hc
    rcases hc with ⟨x, _, rfl⟩ | hc
    · rfl
    · rw [(List.mem_replicate.1 (List.mem_of_mem_drop hc)).2]; rfl
theorem small_ok (u : Nat) (h : u < 100) : PCalls Tryz.prog 168 [.int .i64 u] (fun r => r = .str (Lib.decDigits u)) :=
  pcalls1 fun base κ Im w v hs h1 => by
    cases h1.int_inv
    refine (Tryz.internal_strconv_small u h w).mono ?_
    rintro e w' ⟨rfl, rfl⟩
    exact ⟨_, _, rfl, rfl, Go.RowKit.Below.refl _ _, fun Im' => .str _⟩
theorem numDigits_ok [GPow] (u : Nat) (h1 : 1 ≤ u) (h2 : u < 18446744073709551616) : PCalls Tryz.prog 169 [.int .u64 u] (fun r => r = .int .i64 (Lib.nDigits u)) :=
  pcalls1 fun base κ Im w v hs h => by
    cases h.int_inv
    refine (Tryz.internal_strconv_numDigits u h1 h2 w (tab_ok hs)).mono ?_
    rintro e w' ⟨rfl, rfl⟩
    exact ⟨_, _, rfl, rfl, Go.RowKit.Below.refl _ _, fun Im' => .int _ _⟩
theorem decDigits_le (u : Nat) (h : u < 18446744073709551616) : (Lib.decDigits u).length ≤ 20 := by
  rw [Lib.decDigits_length]; exact Lib.nDigits_le20 u h
theorem chunks1 : ∀ (l : List AV), chunks l.length 1 l = l.map fun c => [c]
  | [] => rfl
  | c :: l => by simp [chunks, chunks1 l]
theorem byteEls_chunks (l : List UInt8) : chunks l.length 1 (u8c l) = byteEls l := by
  have := chunks1 (u8c l)
  rw [show (u8c l).length = l.length by simp [u8c]] at this
  rw [this]; simp [u8c, byteEls]
theorem byteEls_pure (l : List UInt8) : ∀ c ∈ byteEls l, ∀ x ∈ c, x.pure = true := fun c hc x hx => by
  simp only [byteEls, List.mem_map] at hc
  obtain ⟨b, _, rfl⟩ := hc
  simp only [List.mem_singleton] at hx; subst hx; simp [AV.pure]
theorem row_under {e size m : Nat} {els : List (List AV)} {im : Bool} (h : ∀ c ∈ els, ∀ x ∈ c, x.pure = true) : (Entry.row e size els im).under m = true := by
  simp only [Entry.under, List.all_eq_true]
  exact fun c hc x hx => pure_under m (h c hc x hx)
/-- internal/strconv.AppendUint onto nothing. -/
theorem appendUint_nil [GPow] (u : Nat) (hu : u < 18446744073709551616) : PCalls Tryz.prog n_internal_strconv_AppendUint [.nils, .int .u64 u, .int .i64 10] (fun r => r = .lst (byteEls (Lib.decDigits u))) := by
  have hdl := decDigits_le u hu
  have hdp : 1 ≤ (Lib.decDigits u).length := by rw [Lib.decDigits_length]; exact Lib.nDigits_pos u
  have hdne : Lib.decDigits u ≠ [] := fun h => by rw [h] at hdp; simp at hdp
  refine pcalls_of_awp hmix c_internal_strconv_AppendUint rfl ?_
  simp [a_internal_strconv_AppendUint]
  refine cb_dec (fun hlt => ?_) (fun hge => ?_)
  · have h100 : u < 100 := by omega
    have hw : IntKind.i64.wrap (u : Int) = u := wrap_i64 (by omega) (by omega)
    simp [hw]
    refine ac_same (small_ok u h100) (by simp) ?_
    rintro r rfl
    simp
    refine aps_new true (by omega) ?_
    simp
    simp [byteEls]
  · have hu1 : 1 ≤ u := by omega
    have hnd : Lib.nDigits u ≤ 20 := Lib.nDigits_le20 u hu
    have hnd4 : Lib.nDigits u ≤ 24 := by omega
    have hdd := Lib.decDigits_length u
    simp
    refine ac_same (numDigits_ok u hu1 hu) (by simp) ?_
    rintro r rfl
    simp [hnd4]
    refine ac_eff (formatBase10_ok (n := Lib.nDigits u) rfl rfl rfl hnd4 hu) ?_
    rintro r σ' ⟨rfl, rfl⟩
    simp [hnd4]
    have hch := byteEls_chunks (Lib.decDigits u)
    rw [hdd] at hch
    refine ap_new true (byteEls (Lib.decDigits u)) ?_ (by omega) (fun c hc => ?_) (fun _ => .inr (byteEls_pure _)) (by simp [byteEls]; omega) (by simp [byteEls]; omega) ?_
    · have hul : (u8c (Lib.decDigits u)).length = Lib.nDigits u := by simp [u8c, hdd]
      simp
      refine ⟨by omega, ?_⟩
      rw [List.take_append_of_le_length (by omega), List.take_of_length_le (by omega)]
      exact hch
    · simp only [byteEls, List.mem_map] at hc; obtain ⟨b, _, rfl⟩ := hc; rfl
    · simp
/-- internal/strconv.AppendUint onto a slice of the caller's own. -/
theorem appendUint_row [GPow] {σ : Store} {id : Nat} {els : List (List AV)} (hent : σ[id]? = some (.row 5 1 els false)) (u : Nat) (hu : u < 18446744073709551616) (hl : els.length ≤ 1000) (h1 : ∀ c ∈ els, ∀ x ∈ c, x.pure = true) :
    ACalls Tryz.prog n_internal_strconv_AppendUint [.row id els.length, .int .u64 u, .int .i64 10] σ (fun r σ' => r = .row id (els.length + (Lib.decDigits u).length) ∧ σ' = σ.set id (.row 5 1 (els ++ byteEls (Lib.decDigits u)) false)) := by
  have hdl := decDigits_le u hu
  have hdp : 1 ≤ (Lib.decDigits u).length := by rw [Lib.decDigits_length]; exact Lib.nDigits_pos u
  have hdne : Lib.decDigits u ≠ [] := fun h => by rw [h] at hdp; simp at hdp
  have hlt : id < σ.length := (List.getElem?_eq_some_iff.1 hent).1
  have hpu : ∀ c ∈ els ++ byteEls (Lib.decDigits u), ∀ x ∈ c, x.pure = true := fun c hc x hx => by
    rcases List.mem_append.1 hc with h | h
    · exact h1 c h x hx
    · exact byteEls_pure _ c h x hx
  have hset : ∀ (E : Entry) (extra : Store) (i : Nat) (e : Entry), (σ.set id E)[i]? = some e → E.under σ.length = true → σ[i]? = some e ∨ e.under σ.length = true := by
    intro E extra i e he hE
    by_cases hi : i = id
    · subst hi; rw [List.getElem?_set_self hlt] at he; cases he; exact .inr hE
    · rw [List.getElem?_set_ne (fun h => hi h.symm)] at he; exact .inl he
  refine acalls_of_awp_e hmix c_internal_strconv_AppendUint rfl ?_
  simp [a_internal_strconv_AppendUint]
  refine cb_dec (fun hlt => ?_) (fun hge => ?_)
  · have h100 : u < 100 := by omega
    have hw : IntKind.i64.wrap (u : Int) = u := wrap_i64 (by omega) (by omega)
    simp [hw]
    refine ac_same (small_ok u h100) (by simp) ?_
    rintro r rfl
    simp
    refine aps_row els false hent rfl (by omega) ?_
    simp
    refine er_keep (σ.set id (.row 5 1 (els ++ byteEls (Lib.decDigits u)) false)) (.row id (els.length + (Lib.decDigits u).length)) (by simp [tupOf]) [] (by simp) (by simp) (by simpa [AV.under] using by assumption) (fun i e he => ?_) ⟨rfl, rfl⟩
    simpa using hset _ [] i e he (row_under hpu)
  · have hu1 : 1 ≤ u := by omega
    have hnd : Lib.nDigits u ≤ 20 := Lib.nDigits_le20 u hu
    have hnd4 : Lib.nDigits u ≤ 24 := by omega
    have hdd := Lib.decDigits_length u
    simp
    refine ac_same (numDigits_ok u hu1 hu) (by simp) ?_
    rintro r rfl
    simp [hnd4]
    refine ac_eff (formatBase10_ok (n := Lib.nDigits u) (by simp; rfl) rfl rfl hnd4 hu) ?_
    rintro r σ' ⟨rfl, rfl⟩
    simp [hnd4]
    have hch := byteEls_chunks (Lib.decDigits u)
    rw [hdd] at hch
    have hid : id < σ.length := by assumption
    refine ap_row els (byteEls (Lib.decDigits u)) false (by rw [List.getElem?_append_left hid]; exact hent) ?_ (by omega) (fun c hc => ?_) (fun h => by simp at h) rfl (by simp [byteEls]; omega) (by simp [byteEls]; omega) ?_
    · have hul : (u8c (Lib.decDigits u)).length = Lib.nDigits u := by simp [u8c, hdd]
      simp
      refine ⟨by omega, ?_⟩
      rw [List.take_append_of_le_length (by omega), List.take_of_length_le (by omega)]
      exact hch
    · simp only [byteEls, List.mem_map] at hc; obtain ⟨b, _, rfl⟩ := hc; rfl
    · simp
      rw [List.set_append_left _ _ hid]
      refine er_keep (σ.set id (.row 5 1 (els ++ byteEls (Lib.decDigits u)) false)) (.row id (els.length + (Lib.decDigits u).length)) (by simp [tupOf, byteEls]) _ rfl (by simp) (by simpa [AV.under] using hid) (fun i e he => ?_) ⟨rfl, rfl⟩
      simpa using hset _ [] i e he (row_under hpu)
/-- strconv.AppendInt, from nought on. -/
theorem wrap_u64_nat (u : Nat) (hu : u < 18446744073709551616) : IntKind.u64.wrap (u : Int) = u := by
  simp [IntKind.wrap, IntKind.signed, IntKind.bits]; omega
theorem itoa_nat (u : Nat) : Lib.itoa (u : Int) = Lib.decDigits u := by unfold Lib.itoa; rw [if_neg (by omega)]; simp
theorem appendIntI_nil [GPow] (u : Nat) (hu : u < 9223372036854775808) : PCalls Tryz.prog n_internal_strconv_AppendInt [.nils, .int .i64 u, .int .i64 10] (fun r => r = .lst (byteEls (Lib.decDigits u))) := by
  refine pcalls_of_awp hmix c_internal_strconv_AppendInt rfl ?_
  have hw := wrap_u64_nat u (by omega)
  have hn : ¬ ((u : Int) < 0) := by omega
  simp [a_internal_strconv_AppendInt, hw, hn]
  refine ac_same (appendUint_nil u (by omega)) (by simp) ?_
  rintro r rfl
  simp
theorem appendInt_nil [GPow] (u : Nat) (hu : u < 9223372036854775808) : PCalls Tryz.prog n_strconv_AppendInt [.nils, .int .i64 u, .int .i64 10] (fun r => r = .lst (byteEls (Lib.decDigits u))) := by
  refine pcalls_of_awp hmix c_strconv_AppendInt rfl ?_
  simp [a_strconv_AppendInt]
  refine ac_same (appendIntI_nil u hu) (by simp) ?_
  rintro r rfl
  simp
theorem appendIntI_row [GPow] {σ : Store} {id : Nat} {els : List (List AV)} (hent : σ[id]? = some (.row 5 1 els false)) (u : Nat) (hu : u < 9223372036854775808) (hl : els.length ≤ 1000) (h1 : ∀ c ∈ els, ∀ x ∈ c, x.pure = true) :
    ACalls Tryz.prog n_internal_strconv_AppendInt [.row id els.length, .int .i64 u, .int .i64 10] σ (fun r σ' => r = .row id (els.length + (Lib.decDigits u).length) ∧ σ' = σ.set id (.row 5 1 (els ++ byteEls (Lib.decDigits u)) false)) := by
  have hid : id < σ.length := (List.getElem?_eq_some_iff.1 hent).1
  refine acalls_of_awp_e hmix c_internal_strconv_AppendInt rfl ?_
  have hw := wrap_u64_nat u (by omega)
  have hn : ¬ ((u : Int) < 0) := by omega
  simp [a_internal_strconv_AppendInt, hw, hn]
  refine ac_eff (appendUint_row hent u (by omega) hl h1) ?_
  rintro r σ' ⟨rfl, rfl⟩
  simp
  refine er_keep (σ.set id (.row 5 1 (els ++ byteEls (Lib.decDigits u)) false)) (.row id (els.length + (Lib.decDigits u).length)) (by simp [tupOf]) [] (by simp) (by simp) (by simpa [AV.under] using hid) (fun i e he => ?_) ⟨rfl, rfl⟩
  by_cases hi : i = id
  · subst hi; rw [List.getElem?_set_self hid] at he; cases he
    refine .inr (row_under fun c hc x hx => ?_)
    rcases List.mem_append.1 hc with h | h
    · exact h1 c h x hx
    · exact byteEls_pure _ c h x hx
  · rw [List.getElem?_set_ne (fun h => hi h.symm)] at he; exact .inl he
theorem appendInt_row [GPow] {σ : Store} {id : Nat} {els : List (List AV)} (hent : σ[id]? = some (.row 5 1 els false)) (u : Nat) (hu : u < 9223372036854775808) (hl : els.length ≤ 1000) (h1 : ∀ c ∈ els, ∀ x ∈ c, x.pure = true) :
    ACalls Tryz.prog n_strconv_AppendInt [.row id els.length, .int .i64 u, .int .i64 10] σ (fun r σ' => r = .row id (els.length + (Lib.decDigits u).length) ∧ σ' = σ.set id (.row 5 1 (els ++ byteEls (Lib.decDigits u)) false)) := by
  have hid : id < σ.length := (List.getElem?_eq_some_iff.1 hent).1
  refine acalls_of_awp_e hmix c_strconv_AppendInt rfl ?_
  simp [a_strconv_AppendInt]
  refine ac_eff (appendIntI_row hent u hu hl h1) ?_
  rintro r σ' ⟨rfl, rfl⟩
  simp
  refine er_keep (σ.set id (.row 5 1 (els ++ byteEls (Lib.decDigits u)) false)) (.row id (els.length + (Lib.decDigits u).length)) (by simp [tupOf]) [] (by simp) (by simp) (by simpa [AV.under] using hid) (fun i e he => ?_) ⟨rfl, rfl⟩
  by_cases hi : i = id
  · subst hi; rw [List.getElem?_set_self hid] at he; cases he
    refine .inr (row_under fun c hc x hx => ?_)
    rcases List.mem_append.1 hc with h | h
    · exact h1 c h x hx
    · exact byteEls_pure _ c h x hx
  · rw [List.getElem?_set_ne (fun h => hi h.symm)] at he; exact .inl he
end Go.Proofs.YtdgpnmlialmaaaaGreatDoor
end
section
set_option maxHeartbeats 1000000
namespace Go.Dec
theorem tw_all : ∀ (s : List UInt8), s.dropWhile isD = [] → s.takeWhile isD = s
  | s, h => by have := List.takeWhile_append_dropWhile (p := isD) (l := s); rw [h, List.append_nil] at this; exact this
theorem all_tw (s : List UInt8) : (s.takeWhile isD).all isD = true := by
  exact List.all_takeWhile
end Go.Dec
namespace Go.Proofs.YtdgpnmlialmaaaaGreatDoor
open Go.Abs Go.Dec
variable {G : Globs}
end Go.Proofs.YtdgpnmlialmaaaaGreatDoor
end
section
set_option maxHeartbeats 2000000
namespace Go.Dec
/-- Digits, then what is none. -/
theorem tw_app {A R : List UInt8} (hA : A.all isD = true) (hR : ∀ c t, R = c :: t → isD c = false) : (A ++ R).takeWhile isD = A ∧ (A ++ R).dropWhile isD = R := by
  induction A with
  | nil =>
    cases R with
    | nil => simp
    | cons c t => simp [hR c t rfl]
  | cons a A ih =>
    simp only [List.all_cons, Bool.and_eq_true] at hA
    have := ih hA.2
    simp [hA.1, this.1, this.2]
theorem isD_pt : isD 46 = false := by decide
/-- How far a text has been read: the digits ahead of the first point, the digits behind it, the points. -/
def Rd (t A B : List UInt8) (pts : Nat) : Prop := A.all isD = true ∧ B.all isD = true ∧
  ((pts = 0 ∧ t = A ∧ B = []) ∨ (pts = 1 ∧ t = A ++ 46 :: B) ∨ (2 ≤ pts ∧ ∃ C, t = A ++ 46 :: C ∧ 46 ∈ C))
theorem Rd.end {t A B : List UInt8} {pts : Nat} (h : Rd t A B pts) : parts t = if A.length + B.length = 0 ∨ 1 < pts then none else some (A, B) := by
  obtain ⟨hA, hB, ⟨rfl, rfl, rfl⟩ | ⟨rfl, rfl⟩ | ⟨hp, C, rfl, hC⟩⟩ := h
  · have := tw_app (R := []) hA (fun c t h => by simp at h)
    simp only [List.append_nil] at this
    unfold parts
    simp only [this.1, this.2]
    by_cases h0 : t = []
    · simp [h0]
    · simp [h0]
  · have := tw_app (R := 46 :: B) hA (fun c t h => by cases h; exact isD_pt)
    have h2 := tw_app (R := []) hB (fun c t h => by simp at h)
    simp only [List.append_nil] at h2
    unfold parts
    simp only [this.1, this.2, h2.2]
    by_cases h0 : A = [] ∧ B = []
    · simp [h0.1, h0.2]
    · have : ¬ (A.length + B.length = 0) := fun he => h0 ⟨List.eq_nil_of_length_eq_zero (by omega), List.eq_nil_of_length_eq_zero (by omega)⟩
      have h3 : A = [] → ¬ B = [] := fun ha hb => h0 ⟨ha, hb⟩
      simp
      rw [if_pos h3, if_neg h0]
  · have := tw_app (R := 46 :: C) hA (fun c t h => by cases h; exact isD_pt)
    unfold parts
    simp only [this.1, this.2]
    have hd : ¬ C.dropWhile isD = [] := fun he => by
      have := tw_all C he
      have h1 := all_tw C
      rw [this, List.all_eq_true] at h1
      have := h1 46 hC
      simp [isD_pt] at this
    simp [hd]; omega
theorem Rd.bad {t A B r : List UInt8} {pts : Nat} {c : UInt8} (h : Rd t A B pts) (h1 : isD c = false) (h2 : c ≠ 46) : parts (t ++ c :: r) = none := by
  obtain ⟨hA, hB, ⟨rfl, rfl, rfl⟩ | ⟨rfl, rfl⟩ | ⟨hp, C, rfl, hC⟩⟩ := h
  · have := tw_app (R := c :: r) hA (fun c t h => by cases h; exact h1)
    unfold parts
    simp only [this.1, this.2]
    simp [h2]
  · have := tw_app (R := 46 :: (B ++ c :: r)) hA (fun c t h => by cases h; exact isD_pt)
    have h2 := tw_app (R := c :: r) hB (fun c t h => by cases h; exact h1)
    unfold parts
    simp only [List.append_assoc, List.cons_append, this.1, this.2, h2.2]
    simp
  · have := tw_app (R := 46 :: (C ++ c :: r)) hA (fun c t h => by cases h; exact isD_pt)
    unfold parts
    simp only [List.append_assoc, List.cons_append, this.1, this.2]
    have hd : ¬ (C ++ c :: r).dropWhile isD = [] := fun he => by
      have := tw_all _ he
      have h1 := all_tw (C ++ c :: r)
      rw [this, List.all_eq_true] at h1
      have := h1 46 (by simp [hC])
      simp [isD_pt] at this
    simp [hd]
theorem Rd.ahead {t A B : List UInt8} {c : UInt8} (h : Rd t A B 0) (hc : isD c = true) : Rd (t ++ [c]) (A ++ [c]) B 0 := by
  obtain ⟨hA, hB, ⟨_, rfl, rfl⟩ | ⟨h0, _⟩ | ⟨hp, _⟩⟩ := h
  · exact ⟨by simpa [hc] using hA, hB, .inl ⟨rfl, rfl, rfl⟩⟩
  · omega
  · omega
/-- The number so far, or far beyond. -/
def Num (l : List UInt8) (n : Nat) (far : Bool) : Prop := n ≤ 11529215046068469769 ∧ (far = false → n = dval 0 l) ∧ (far = true → 1152921504606846976 < n ∧ 9223372036854775807 < dval 0 l)
theorem Num.far {l : List UInt8} {n : Nat} {far : Bool} {c : UInt8} (h : Num l n far) (hn : 1152921504606846976 < n) : Num (l ++ [c]) n true := by
  refine ⟨h.1, by simp, fun _ => ⟨hn, ?_⟩⟩
  have e : dval 0 (l ++ [c]) = dval 0 l * 10 + dig c := by rw [dval_append, dval_cons, dval_nil]
  rw [e]
  cases far with
  | false => have := h.2.1 rfl; omega
  | true => have := (h.2.2 rfl).2; omega
theorem Num.step {l : List UInt8} {n : Nat} {far : Bool} {c : UInt8} (h : Num l n far) (hn : n ≤ 1152921504606846976) (hc : dig c ≤ 9) : far = false ∧ Num (l ++ [c]) (n * 10 + dig c) far := by
  have hf : far = false := by
    cases far with
    | false => rfl
    | true => have := (h.2.2 rfl).1; omega
  subst hf
  have e : dval 0 (l ++ [c]) = dval 0 l * 10 + dig c := by rw [dval_append, dval_cons, dval_nil]
  refine ⟨rfl, by omega, fun _ => ?_, by simp⟩
  rw [e, ← h.2.1 rfl]
end Go.Dec
namespace Go.Proofs.YtdgpnmlialmaaaaGreatDoor
open Go.Abs Go.Dec
variable {G : Globs}
theorem wrap_u64 {x : Int} (h1 : 0 ≤ x) (h2 : x ≤ 18446744073709551615) : IntKind.u64.wrap x = x := by
  simp [IntKind.wrap, IntKind.signed, IntKind.bits]; omega
end Go.Proofs.YtdgpnmlialmaaaaGreatDoor
end
section
set_option maxHeartbeats 2000000
namespace Go.Proofs.YtdgpnmlialmaaaaGreatDoor
open Go.Abs Go.Dec
variable {G : Globs}
end Go.Proofs.YtdgpnmlialmaaaaGreatDoor
end
section
set_option maxHeartbeats 2000000
namespace Go.Dec
/-- Digits of a part of one, to so many places. -/
def dgs : Nat → Nat → List UInt8
  | 0, _ => []
  | k + 1, p => UInt8.ofNat (48 + p / 100000) :: dgs k (p % 100000 * 10)
def fr : Nat → Nat → List UInt8
  | 0, _ => []
  | k + 1, p => if p = 0 then [] else UInt8.ofNat (48 + p / 100000) :: fr k (p % 100000 * 10)
def frac (p : Nat) : List UInt8 := if p = 0 then [] else 46 :: fr 6 p
def prn (null : Bool) (v : Int) : List UInt8 :=
  if null = true ∨ v = -9223372036854775808 then [78, 111, 110, 101]
  else (if v < 0 then [45] else []) ++ Lib.decDigits (v.natAbs / 1000000) ++ frac (v.natAbs % 1000000)
theorem trimR_cons (c : UInt8) (l : List UInt8) (d : UInt8) : Lib.trimRightB (d :: l) c = if Lib.trimRightB l c = [] then (if d = c then [] else [d]) else d :: Lib.trimRightB l c := by
  unfold Lib.trimRightB
  rw [List.reverse_cons, List.dropWhile_append]
  by_cases h : l.reverse.dropWhile (· == c) = []
  · simp only [h, List.reverse_nil, if_true, List.isEmpty_nil]
    by_cases hd : d = c
    · simp [hd]
    · have : (d == c) = false := by simpa using hd
      simp [hd, this]
  · have h' : ¬ (l.reverse.dropWhile (· == c)).reverse = [] := by simpa using h
    have h2 : (l.reverse.dropWhile (· == c)).isEmpty = false := by cases hx : l.reverse.dropWhile (· == c) with
      | nil => exact absurd hx h
      | cons => rfl
    simp only [h2, if_neg h']
    simp
theorem ofNat_inj {a b : Nat} (ha : a < 256) (hb : b < 256) (h : UInt8.ofNat a = UInt8.ofNat b) : a = b := by
  have := congrArg UInt8.toNat h
  simpa [UInt8.toNat_ofNat', Nat.mod_eq_of_lt ha, Nat.mod_eq_of_lt hb] using this
theorem fr_trim : ∀ (k p : Nat), p < 1000000 → p * 10 ^ k % 1000000 = 0 → Lib.trimRightB (dgs k p) 48 = fr k p ∧ (fr k p = [] ↔ p = 0)
  | 0, p, h, hm => by
    have : p = 0 := by simp at hm; omega
    exact ⟨rfl, by simp [fr, this]⟩
  | k + 1, p, h, hm => by
    have hq : (p % 100000 * 10) * 10 ^ k % 1000000 = 0 := by
      have e : p * 10 ^ (k + 1) = (p % 100000 * 10) * 10 ^ k + p / 100000 * 10 ^ k * 1000000 := by
        have := Nat.div_add_mod p 100000
        rw [Nat.pow_succ]
        generalize p / 100000 = a at *
        generalize p % 100000 = b at *
        rw [← this, Nat.add_mul, ← Nat.mul_assoc, ← Nat.mul_assoc, Nat.mul_assoc 100000, Nat.mul_right_comm b 10]
        omega
      rw [e] at hm
      omega
    obtain ⟨h1, h2⟩ := fr_trim k (p % 100000 * 10) (by omega) hq
    simp only [dgs, trimR_cons, h1, fr]
    by_cases hp : p = 0
    · subst hp
      have : fr k (0 % 100000 * 10) = [] := h2.2 rfl
      simp [this]
    · rw [if_neg hp]
      refine ⟨?_, by simp [hp]⟩
      by_cases hr : p % 100000 * 10 = 0
      · have hf : fr k (p % 100000 * 10) = [] := h2.2 hr
        rw [hf, if_pos rfl]
        have hd : ¬ UInt8.ofNat (48 + p / 100000) = 48 := fun he => by
          have := ofNat_inj (a := 48 + p / 100000) (b := 48) (by omega) (by omega) he
          omega
        rw [if_neg hd]
      · have hf : ¬ fr k (p % 100000 * 10) = [] := fun h => hr (h2.1 h)
        rw [if_neg hf]
theorem digits7 (p : Nat) (h : p < 1000000) : Lib.decDigits (1000000 + p) = 49 :: dgs 6 p := by
  have hn : Lib.nDigits (1000000 + p) = 7 := Lib.nDigits_unique 6 _ (by omega) (by omega)
  rw [Lib.decDigits_eq, hn]
  simp only [List.range, List.range.loop, List.map_cons, List.map_nil, Lib.dg, dgs, List.cons.injEq, and_true]
  refine ⟨?_, ?_, ?_, ?_, ?_, ?_, ?_⟩
  · rw [show 48 + (1000000 + p) / 10 ^ (7 - 1 - 0) % 10 = 49 by simp; omega]; rfl
  all_goals (congr 1; simp; omega)
theorem fr_len : ∀ (k p : Nat), (fr k p).length ≤ k
  | 0, p => by simp [fr]
  | k + 1, p => by
    have := fr_len k (p % 100000 * 10)
    unfold fr; split <;> simp; omega
end Go.Dec
namespace Go.Abs
theorem bytesOf_byteEls : ∀ l : List UInt8, bytesOf (byteEls l) = some l
  | [] => rfl
  | c :: l => by
    have := bytesOf_byteEls l
    simp only [byteEls, List.map_cons] at this ⊢
    simp only [bytesOf, this, Option.map_some]
    simp
end Go.Abs
namespace Go.Proofs.YtdgpnmlialmaaaaGreatDoor
open Go.Abs Go.Dec
variable {G : Globs}
theorem dPrint_ok [GPow] (nl : Bool) (v : Int) (h0 : -9223372036854775808 ≤ v) (h1 : v ≤ 9223372036854775807) : PCalls Tryz.prog n_decimal_Print [.agg [.bool nl, .int .i64 v]] (fun r => r = .str (prn nl v)) := by
  refine pcalls_of_awp hmix c_decimal_Print rfl ?_
  simp [a_decimal_Print]
  cases nl with
  | true => simp [prn]
  | false =>
  simp
  by_cases hmin : v = -9223372036854775808
  · simp [hmin, prn]
  simp [hmin]
  obtain ⟨u, hu⟩ : ∃ u : Nat, u = v.natAbs := ⟨_, rfl⟩
  have hu64 : u < 9223372036854775808 := by omega
  have hprn : prn false v = (if v < 0 then [45] else []) ++ Lib.decDigits (u / 1000000) ++ frac (u % 1000000) := by
    simp [prn, hmin, hu]
  obtain ⟨q, hq⟩ : ∃ q, q = u / 1000000 := ⟨_, rfl⟩
  obtain ⟨p, hpp⟩ : ∃ p, p = u % 1000000 := ⟨_, rfl⟩
  rw [← hq, ← hpp] at hprn
  have hdl := decDigits_le q (by omega)
  have hq1 : (u : Int).tdiv 1000000 = (q : Int) := by rw [Int.tdiv_eq_ediv_of_nonneg (by omega)]; omega
  have hq2 : (u : Int) / 1000000 = (q : Int) := by omega
  have hwq : IntKind.i64.wrap (q : Int) = (q : Int) := wrap_i64 (by omega) (by omega)
  have hp1 : (u : Int).tmod 1000000 = (p : Int) := by rw [Int.tmod_eq_emod_of_nonneg (by omega)]; omega
  have hp2 : (u : Int) % 1000000 = (p : Int) := by omega
  have hp : p < 1000000 := by omega
  have hwp : IntKind.i64.wrap (1000000 + (p : Int)) = 1000000 + (p : Int) := wrap_i64 (by omega) (by omega)
  have hitoa : Lib.itoa (1000000 + (p : Int)) = Lib.decDigits (1000000 + p) := by have := itoa_nat (1000000 + p); rwa [show ((1000000 + p : Nat) : Int) = 1000000 + (p : Int) by omega] at this
  have hd7 : (Lib.decDigits (1000000 + p)).length = 7 := by rw [digits7 _ hp]; rfl
  have hfrl := fr_len 6 p
  have htl : ((Lib.decDigits (1000000 + p)).drop 1).length ≤ 9223372036854775807 := by simp [hd7]
  by_cases hneg : v < 0
  · have hwn : IntKind.i64.wrap (-v) = (u : Int) := by rw [wrap_i64 (by omega) (by omega)]; omega
    simp [hneg]
    refine ap_new false [[.int .u8 45]] (by simp) (by omega) (by simp) (by simp) (by simp) (by simp) ?_
    simp [hwn, hq1, hq2, hwq]
    refine ac_eff (appendInt_row (els := [[.int .u8 45]]) (by simp) q (by omega) (by simp) (by simp [AV.pure])) ?_
    rintro r σ' ⟨rfl, rfl⟩
    have hby : [[AV.int .u8 45]] ++ byteEls (Lib.decDigits q) = byteEls (45 :: Lib.decDigits q) := by simp [byteEls]
    have hby2 : [AV.int .u8 45] :: byteEls (Lib.decDigits q) = byteEls (45 :: Lib.decDigits q) := by simp [byteEls]
    have hbl : (byteEls (Lib.decDigits q)).length + 1 = 1 + (Lib.decDigits q).length := by simp [byteEls]; omega
    have hb45 : bytesOf ([AV.int .u8 45] :: byteEls (Lib.decDigits q)) = some (45 :: Lib.decDigits q) := by rw [hby2]; exact bytesOf_byteEls _
    simp [hp1, hp2]
    by_cases hp0 : p = 0
    · have hp0' : (p : Int) = 0 := by omega
      simp [hp0, hbl, hb45, hprn, hneg, frac]
    · have hp0' : ¬ (p : Int) = 0 := by omega
      simp [hp0, hp0', hwp]
      refine ac_same (formatInt_ok _ (by omega) (by omega)) (by simp) ?_
      rintro r rfl
      rw [hitoa]
      have hD6 : (dgs 6 p).length = 6 := rfl
      have hD6' : (dgs 6 p).take 6 = dgs 6 p := List.take_of_length_le (by omega)
      have htr := (fr_trim 6 p hp (by omega)).1
      rw [digits7 _ hp]
      generalize dgs 6 p = D at *
      have hlenA2 : (Lib.decDigits q).length ≤ 9223372036854775805 := by omega
      have hlenB2 : (Lib.decDigits q).length + 1 + 1 + (fr 6 p).length ≤ 9223372036854775807 := by omega
      have hlenA : (Lib.decDigits q).length + 1 ≤ 9223372036854775807 := by omega
      have hlenB : (Lib.decDigits q).length + 1 + (fr 6 p).length ≤ 9223372036854775807 := by omega
      simp [hD6, hD6', hbl, hb45, hlenA, hlenA2]
      refine qc_same (trimRight_ok D (by rw [hD6]; omega)) (by simp) (by simp) ?_
      rw [htr]
      simp [hprn, hneg, frac, hp0, hlenB, hlenB2]
  · have hv : v = (u : Int) := by omega
    simp [hneg]
    rw [hv]
    simp [hq1, hq2, hwq]
    refine ac_same (appendInt_nil q (by omega)) (by simp) ?_
    rintro r rfl
    simp [hp1, hp2]
    by_cases hp0 : p = 0
    · have hp0' : (p : Int) = 0 := by omega
      simp [hp0, bytesOf_byteEls]
      rw [← hv, hprn]
      simp [hneg, hp0, frac]
    · have hp0' : ¬ (p : Int) = 0 := by omega
      simp [hp0, hp0', hwp]
      refine ac_same (formatInt_ok _ (by omega) (by omega)) (by simp) ?_
      rintro r rfl
      rw [hitoa]
      have hD6 : (dgs 6 p).length = 6 := rfl
      have hD6' : (dgs 6 p).take 6 = dgs 6 p := List.take_of_length_le (by omega)
      have htr := (fr_trim 6 p hp (by omega)).1
      rw [digits7 _ hp]
      generalize dgs 6 p = D at *
      have hlenA2 : (Lib.decDigits q).length ≤ 9223372036854775805 := by omega
      have hlenB2 : (Lib.decDigits q).length + 1 + 1 + (fr 6 p).length ≤ 9223372036854775807 := by omega
      have hlenA : (Lib.decDigits q).length + 1 ≤ 9223372036854775807 := by omega
      have hlenB : (Lib.decDigits q).length + 1 + (fr 6 p).length ≤ 9223372036854775807 := by omega
      simp [hD6, hD6', bytesOf_byteEls, hlenA, hlenA2]
      refine qc_same (trimRight_ok D (by rw [hD6]; omega)) (by simp) (by simp) ?_
      rw [htr]
      simp [hlenB]
      rw [← hv, hprn]
      simp [hneg, frac, hp0]
end Go.Proofs.YtdgpnmlialmaaaaGreatDoor
end
section
set_option maxHeartbeats 2000000
namespace Go.Proofs.YtdgpnmlialmaaaaGreatDoor
open Go.Abs Go.Dec
variable {G : Globs}
end Go.Proofs.YtdgpnmlialmaaaaGreatDoor
end
