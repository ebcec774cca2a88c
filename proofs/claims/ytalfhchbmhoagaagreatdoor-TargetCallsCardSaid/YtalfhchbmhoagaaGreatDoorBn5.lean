/- Patterns of one name: the lists without braces that come of one. Patterns of one name: expanding. Patterns of one name: whether a pattern fits a name. -/
import Derived.Test.YtalfhchbmhoagaaGreatDoorAbs2
import Derived.Test.YtalfhchbmhoagaaGreatDoorRows
import Derived.ProofKit
import Derived.LaidLaws
import Derived.Lib.LaidIn
import Derived.Lib.LaidU8
import Derived.Stop.LaidErr
import Derived.OpenShut
import Derived.Test.YtalfhchbmhoagaaGreatDoorBn1
import Derived.Test.YtalfhchbmhoagaaGreatDoorBn2
import Derived.Test.YtalfhchbmhoagaaGreatDoorBn3
import Derived.Test.YtalfhchbmhoagaaGreatDoorBn4
set_option linter.unusedSimpArgs false
set_option linter.unusedVariables false
set_option linter.constructorNameAsVariable false
section
namespace Go.Proofs.YtalfhchbmhoagaaGreatDoor
open Go.Abs Go.Glob
variable {G : Globs}
structure RowsAt (σ : Store) (els : List (List AV)) (out : List (List Pc)) : Prop where
 len : els.length = out.length
 at_ : ∀ (j : Nat) (o : List Pc), out[j]? = some o → (els[j]? = some [.nils] ∧ o = []) ∨ ∃ id, els[j]? = some [.row id o.length] ∧ σ[id]? = some (.row 230 5 (encL o) true)
 dist : ∀ (i j id n m : Nat), els[i]? = some [.row id n] → els[j]? = some [.row id m] → i = j
theorem RowsAt.mono {σ σ' : Store} {els : List (List AV)} {out : List (List Pc)} (h : RowsAt σ els out) (hk : ∀ (id : Nat) (l : List (List AV)), σ[id]? = some (.row 230 5 l true) → σ'[id]? = some (.row 230 5 l true)) : RowsAt σ' els out :=
 ⟨h.len, fun j o ho => (h.at_ j o ho).imp id fun ⟨id, h1, h2⟩ => ⟨id, h1, hk _ _ h2⟩, h.dist⟩
theorem RowsAt.nil (σ : Store) : RowsAt σ [] [] := ⟨rfl, fun j o h => by simp at h, fun i j id n m h => by simp at h⟩
theorem RowsAt.ent {σ : Store} {els : List (List AV)} {out : List (List Pc)} (h : RowsAt σ els out) {i id n : Nat} (he : els[i]? = some [.row id n]) : ∃ o, out[i]? = some o ∧ n = o.length ∧ σ[id]? = some (.row 230 5 (encL o) true) := by
 have hlt := (List.getElem?_eq_some_iff.1 he).1
 have hlt' : i < out.length := by rw [← h.len]; exact hlt
 obtain ⟨o, ho⟩ : ∃ o, out[i]? = some o := ⟨_, List.getElem?_eq_getElem hlt'⟩
 rcases h.at_ i o ho with ⟨h1, _⟩ | ⟨id', h1, h2⟩
 ·rw [he] at h1; simp at h1
 ·rw [he] at h1
  simp only [Option.some.injEq, List.cons.injEq, AV.row.injEq, and_true] at h1
  obtain ⟨rfl, rfl⟩ := h1
  exact ⟨o, ho, rfl, h2⟩
theorem RowsAt.put {σ σ' : Store} {els : List (List AV)} {out : List (List Pc)} (h : RowsAt σ els out) {j id : Nat} {o : List Pc} {n : Nat} (hj : j < out.length) (hn : n = o.length) (hid : σ'[id]? = some (.row 230 5 (encL o) true))
  (hother : ∀ (i : Nat) (id' n : Nat) (l : List (List AV)), i ≠ j → els[i]? = some [.row id' n] → σ[id']? = some (.row 230 5 l true) → id' ≠ id ∧ σ'[id']? = some (.row 230 5 l true)) : RowsAt σ' (els.set j [.row id n]) (out.set j o) := by
 subst hn
 have hl := h.len
 refine ⟨by simp [hl], fun i x hx => ?_, fun a b id' n m h1 h2 => ?_⟩
 ·by_cases hij : i = j
  ·subst hij
   rw [List.getElem?_set_self hj] at hx
   simp only [Option.some.injEq] at hx; subst hx
   rw [List.getElem?_set_self (by omega)]
   exact .inr ⟨id, rfl, hid⟩
  ·rw [List.getElem?_set_ne (Ne.symm hij)] at hx ⊢
   rcases h.at_ i x hx with h1 | ⟨id', h1, h2⟩
   ·exact .inl h1
   ·exact .inr ⟨id', h1, (hother i id' _ _ hij h1 h2).2⟩
 ·by_cases ha : a = j <;> by_cases hb : b = j
  ·omega
  ·subst ha
   rw [List.getElem?_set_self (by omega)] at h1
   rw [List.getElem?_set_ne (Ne.symm hb)] at h2
   simp at h1
   obtain ⟨o', _, _, h3⟩ := h.ent h2
   exact absurd h1.1.symm (hother b id' m _ hb h2 h3).1
  ·subst hb
   rw [List.getElem?_set_self (by omega)] at h2
   rw [List.getElem?_set_ne (Ne.symm ha)] at h1
   simp at h2
   obtain ⟨o', _, _, h3⟩ := h.ent h1
   exact absurd h2.1.symm (hother a id' n _ ha h1 h3).1
  ·rw [List.getElem?_set_ne (Ne.symm ha)] at h1
   rw [List.getElem?_set_ne (Ne.symm hb)] at h2
   exact h.dist _ _ _ _ _ h1 h2
theorem mapM_at {α β : Type} (f : α → Option β) : ∀ (l : List α) (m : List β), l.length = m.length → (∀ (j : Nat) (b : β), m[j]? = some b → ∃ a, l[j]? = some a ∧ f a = some b) → l.mapM f = some m
 | [], [], _, _ => rfl
 | [], _ :: _, h, _ => by simp at h
 | _ :: _, [], h, _ => by simp at h
 | a :: l, b :: m, h, hj => by
  rw [List.mapM_cons]
  obtain ⟨a', h1, h2⟩ := hj 0 b rfl
  simp at h1; subst h1
  have := mapM_at f l m (by simpa using h) (fun j x hx => by simpa using hj (j + 1) x (by simpa using hx))
  simp [h2, this]
theorem RowsAt.fz {σ : Store} {els : List (List AV)} {out : List (List Pc)} (h : RowsAt σ els out) (m k : Nat) : els.mapM (fun (c : List AV) => c.mapM (Abs.fz σ m (k + 1))) = some (encA out) := by
 refine mapM_at _ _ _ (by rw [h.len, encA_length]) fun j b hb => ?_
 rw [encA_map, List.getElem?_map] at hb
 obtain ⟨o, ho, rfl⟩ := Option.map_eq_some_iff.1 hb
 rcases h.at_ j o ho with ⟨h1, rfl⟩ | ⟨id, h1, h2⟩
 ·exact ⟨_, h1, by simp [Abs.fz, encL]⟩
 ·exact ⟨_, h1, by simp [Abs.fz, h2, encL_length]⟩
def Sl (σ₀ σ : Store) (v : AV) (els : List (List AV)) : Prop := (v = .nils ∧ els = []) ∨ ∃ id, σ₀.length ≤ id ∧ v = .row id els.length ∧ σ[id]? = some (.row 178 1 els false)
def Keep (σ₀ σ : Store) : Prop := ∀ (id : Nat) (e : Entry), σ₀[id]? = some e → σ[id]? = some e
theorem Keep.refl (σ : Store) : Keep σ σ := fun _ _ h => h
theorem Keep.more {σ₀ σ t : Store} (h : Keep σ₀ σ) : Keep σ₀ (σ ++ t) := fun id e he => by
 have := h id e he
 rw [List.getElem?_append_left (List.getElem?_eq_some_iff.1 this).1]; exact this
theorem Keep.set {σ₀ σ : Store} (h : Keep σ₀ σ) {id : Nat} (hid : σ₀.length ≤ id) (e : Entry) : Keep σ₀ (σ.set id e) := fun i x hx => by
 have hlt := (List.getElem?_eq_some_iff.1 hx).1
 rw [List.getElem?_set_ne (by omega)]; exact h i x hx
theorem Sl.more {σ₀ σ t : Store} {v : AV} {els : List (List AV)} (h : Sl σ₀ σ v els) : Sl σ₀ (σ ++ t) v els := by
 rcases h with h | ⟨id, h1, h2, h3⟩
 ·exact .inl h
 ·exact .inr ⟨id, h1, h2, by rw [List.getElem?_append_left (List.getElem?_eq_some_iff.1 h3).1]; exact h3⟩
end Go.Proofs.YtalfhchbmhoagaaGreatDoor
end
section
namespace Go.Proofs.YtalfhchbmhoagaaGreatDoor
open Go.Abs Go.Glob
variable {G : Globs}
end Go.Proofs.YtalfhchbmhoagaaGreatDoor
end
section
namespace Go.Glob
open Go.Abs
end Go.Glob
namespace Go.Proofs.YtalfhchbmhoagaaGreatDoor
open Go.Abs Go.Glob
variable {G : Globs}
end Go.Proofs.YtalfhchbmhoagaaGreatDoor
end
section
set_option maxHeartbeats 4000000
namespace Go.Trail
end Go.Trail
namespace Go.Proofs.YtalfhchbmhoagaaGreatDoor
open Go.Abs Go.Glob Go.Trail
variable {G : Globs}
def chk (s : List UInt8) : Nat := match parse s with | .error e => e | .ok _ => 0
theorem check_ok (s : List UInt8) (hs : s.length ≤ 1000000000) : PCalls Tryz.prog n_glob_Check [.str s] (fun r => r = .int .i64 (match parse s with | .error e => e | .ok _ => (0 : Nat))) := by
 refine pcalls_of_awp hmix c_glob_Check rfl ?_
 simp [a_glob_Check]
 refine ac_same (parse_ok_walk s (by omega)) (by simp) ?_
 rintro r rfl
 cases parse s <;> simp [parseAV]
theorem check_ok' (s : List UInt8) (hs : s.length ≤ 1000000000) : PCalls Tryz.prog n_glob_Check [.str s] (fun r => r = .int .i64 (chk s)) :=
 (check_ok s hs).mono fun r h => by rw [h]; unfold chk; cases parse s <;> rfl
def nodes (s : List UInt8) : Except Nat (List (List UInt8)) :=
 if (sp s).length ≤ 8 then match (sp s).find? (fun p => chk p != 0) with
  | some p => .error (chk p)
  | none => .ok (sp s)
 else .error 11
def nodesAV : Except Nat (List (List UInt8)) → AV
 | .ok l => .tup [.lst (strEls l), .int .i64 0]
 | .error e => .tup [.lst [], .int .i64 e]
theorem nodes_ok (s : List UInt8) (hs : s.length ≤ 1000000000) : PCalls Tryz.prog n_trail_Nodes [.str s] (fun r => r = nodesAV (nodes s)) := by
 refine pcalls_of_awp hmix c_trail_Nodes rfl ?_
 simp [a_trail_Nodes]
 refine ac_same (cut_ok s hs) (by simp) ?_
 rintro r rfl
 by_cases h8 : (sp s).length ≤ 8
 ·have h8' := (cut_le s).2 h8
  have ec := cutN_eq 8 s (by omega)
  rw [ec] at h8' ⊢
  have e : (strEls (sp s)).length = (sp s).length := by simp [strEls]
  simp [h8, e]
  have hml := sp_mem_len s
  have hp : nodes s = match (sp s).find? (fun p => chk p != 0) with | some p => .error (chk p) | none => .ok (sp s) := by unfold nodes; simp [h8]
  generalize hL : sp s = L at *
  refine lp_start (fun x f σ => ∃ i : Nat, x = L.length - i ∧ i ≤ L.length ∧ f 4 = .lst (strEls L) ∧ f 16 = .lst (strEls L) ∧ f 17 = .int .i64 L.length ∧ f 18 = .int .i64 i ∧ (∀ q ∈ L.take i, chk q = 0) ∧ σ = []) L.length ⟨0, by simp⟩ ?_
  rintro x f σ ⟨i, rfl, hi, h4, h15, h16, h17, hall, rfl⟩
  simp [h16, h17]
  refine cb_dec (fun hlt => ?_) (fun hge => ?_)
  ·have hlt' : i < L.length := by omega
   obtain ⟨p, hpp⟩ : ∃ p, L[i]? = some p := ⟨_, List.getElem?_eq_getElem hlt'⟩
   have hm : p ∈ L := List.mem_of_getElem? hpp
   have hse : (strEls L)[i]? = some [.str p] := by simp [strEls, hpp]
   obtain ⟨hx1, hx2⟩ := List.getElem?_eq_some_iff.1 hse
   simp [h15, h17, hse, hx2]
   refine ac_same (check_ok' p (by have := hml p hm; omega)) (by simp) ?_
   rintro r rfl
   simp
   by_cases hz : chk p = 0
   ·simp [hz, h4, h15, h16, h17]
    refine ⟨_, ?_, i + 1, rfl, by omega, by rw [wrap_i64 (by omega) (by omega)]; simp, ?_⟩
    ·omega
    ·intro x hx
     rw [List.take_add_one, hpp] at hx
     simp only [Option.toList_some, List.mem_append, List.mem_singleton] at hx
     rcases hx with hx | rfl
     ·exact hall x hx
     ·exact hz
   ·have hfind : L.find? (fun p => chk p != 0) = some p := by
     rw [List.find?_eq_some_iff_getElem]
     obtain ⟨g1, g2⟩ := List.getElem?_eq_some_iff.1 hpp
     refine ⟨by simpa using hz, i, g1, g2, fun j hj => ?_⟩
     have := hall L[j] (List.mem_take_iff_getElem.2 ⟨j, by omega, rfl⟩)
     simp [this]
    rw [hfind] at hp
    simp [hz, hp, nodesAV]
  ·have e : L.take i = L := List.take_of_length_le (by omega)
   rw [e] at hall
   have hfind : L.find? (fun p => chk p != 0) = none := by
    rw [List.find?_eq_none]; intro x hx; simp [hall x hx]
   rw [hfind] at hp
   simp [h4, hp, nodesAV]
 ·have h8' : ¬ (cutN 8 s).length ≤ 8 := fun h => h8 ((cut_le s).1 h)
  have hp : nodes s = .error 11 := by unfold nodes; simp [h8]
  simp [h8', hp, nodesAV]
end Go.Proofs.YtalfhchbmhoagaaGreatDoor
end
section
set_option maxHeartbeats 4000000
namespace Go.Abs
open Go.RowKit
theorem own_strsT {G : Globs} {base : Nat} {κ : Key} {Im : Addr → Prop} {w w' : World} {t : TypeId} {fz : Nat × Nat} {A : Nat} {cur : Array Value} {l : List (List UInt8)} (hs : SRel base κ Im [] w) (hb : Below w.heap.size w w') (hl : l.length ≤ 9223372036854775807)
  (hA : w.heap.size ≤ A) (hg : w'.heap[A]? = some (.cells cur t fz)) (hcur : cur.toList = l.map fun s => Value.string ⟨s.toArray⟩) :
  ∃ Im', SRel base κ Im' [] w' ∧ Grow base κ Im w κ Im' w' ∧ IR Im' w' (.lst (l.map fun s => [.str s])) (.slice (some ⟨A, 0, none⟩) l.length l.length) := by
 have hlt : A < w'.heap.size := by
  rcases Nat.lt_or_ge A w'.heap.size with h | h
  ·exact h
  ·rw [Array.getElem?_eq_none h] at hg; cases hg
 have hcell : ∀ k (hk : k < l.length), w'.cell? ⟨A, 0 + (k * 1 + 0), none⟩ = some (.string ⟨(l[k]).toArray⟩) := fun k hk => by
  have e : cur[0 + (k * 1 + 0)]? = some (.string ⟨(l[k]).toArray⟩) := by
   rw [← Array.getElem?_toList, hcur]; simp [hk]
  simp [World.cell?, hg]
  simpa using e
 refine ⟨fun a => Im a ∨ (a.block = A ∧ a.spot = none), hs.world (fun _ h => .inl h) (fun a h => h.imp id fun h => ⟨by rw [h.1]; exact hA, by rw [h.1]; exact hlt, h.2⟩) hb.size hb.block,
  ⟨fun _ _ _ h => h, fun _ h => .inl h, fun a ha => World.cell?_of_block (hb.block _ (hs.imlt a ha).1), fun a h => h.imp id fun h => by rw [h.1]; exact Nat.le_trans hs.hb hA, hb.mono hs.hb⟩, ?_⟩
 have hlen : (l.map fun s => [AV.str s]).length = l.length := by simp
 have := IR.lst (Im := fun a => Im a ∨ (a.block = A ∧ a.spot = none)) (w := w') (l.map fun s => [AV.str s]) 1 A 0 l.length (fun k _ => .string ⟨(l.getD k []).toArray⟩) (by simp) hl
  (fun c hc => by simp only [List.mem_map] at hc; obtain ⟨x, _, rfl⟩ := hc; rfl)
  (fun c hc x hx => by simp only [List.mem_map] at hc; obtain ⟨y, _, rfl⟩ := hc; simp at hx; subst hx; rfl)
  (fun k j hk hj => by
   rw [hlen] at hk
   have hj0 : j = 0 := by omega
   subst hj0
   exact ⟨.inr ⟨rfl, rfl⟩, by rw [hcell k hk]; simp [List.getD, hk]⟩)
  (fun k j hk hj => by
   rw [hlen] at hk
   have hj0 : j = 0 := by simpa using hj
   subst hj0
   simp only [List.getElem_map, List.getElem_cons_zero]
   have e : l.getD k [] = l[k] := by simp [List.getD, hk]
   rw [e]
   exact .str _)
 rw [hlen] at this
 exact this
end Go.Abs
namespace Go.Proofs.YtalfhchbmhoagaaGreatDoor
open Go.Abs Go.Tgt
variable {G : Globs}
class GSpcT [Globs] : Prop where
 spc : (1, Lib.asciiSpaceTab.map (AV.int .u8)) ∈ Globs.tab
theorem spcT_ok {G : Globs} [GSpcT] {base : Nat} {κ : Key} {Im : Addr → Prop} {σ : Store} {w : World} (hs : SRel base κ Im σ w) : Lib.TabIs Tryz.prog w "strings.asciiSpace" .u8 Lib.asciiSpaceTab := by
 obtain ⟨t, fz, h1, h2⟩ := glob_ints hs GSpcT.spc
 unfold Lib.TabIs World.var?
 rw [show Tryz.prog.globalNamed "strings.asciiSpace" = some 1 by kernel_rfl]
 simp only [Option.bind_some, h1]
theorem fieldsT_ok {G : Globs} [GSpcT] (s : List UInt8) (hl : s.length ≤ 1000000) (ha : ∀ b ∈ s, b.toNat < 128) (hn : (Lib.fields s).length ≤ 1000000) : PCalls Tryz.prog 30 [.str s] (fun r => r = .lst (strEls (Lib.fields s))) := by
 intro base κ Im w vs hsr hv
 obtain ⟨v0, rfl⟩ : ∃ v0, vs = [v0] := by
  match vs, hv.1 with
  | [a], _ => exact ⟨a, rfl⟩
 have e0 := (hv.2 0 (by simp) (by simp)).str_inv
 simp only [List.getElem_cons_zero] at e0
 subst e0
 refine (Tryz.strings_Fields ⟨s.toArray⟩ w (by show s.toArray.size < _; simp; omega) (fun j b hb => ha b (List.mem_of_getElem? (by simpa using hb))) (spcT_ok hsr)).mono ?_
 rintro e w' ⟨rfl, rfl⟩
 obtain ⟨Im', g1, g2, g3⟩ := own_strsT (A := w.heap.size) (l := Lib.fields s) (t := 9) (fz := (0, 0)) (cur := ((Lib.fields s).map fun l => Value.string ⟨l.toArray⟩).toArray) hsr (w' := w.alloc (.cells ((Lib.fields s).map fun l => Value.string ⟨l.toArray⟩).toArray 9)) (Go.RowKit.Below.alloc (Go.RowKit.Below.refl _ _) (Nat.le_refl _) _) (by omega) (Nat.le_refl _) (Go.MapKept.heap_alloc w _).1 (by simp)
 exact ⟨_, [], _, κ, Im', rfl, ⟨rfl, rfl⟩, g1, g2, .im _ _ g3⟩
theorem idxStrT_ok (l : List (List UInt8)) (hl : l.length ≤ 1000000) (x : List UInt8) : PCalls Tryz.prog n_slices_Index_string_string [.lst (strEls l), .str x] (fun r => ∃ z : Int, r = .int .i64 z ∧ (0 ≤ z ↔ x ∈ l)) := by
 refine pcalls_of_awp hmix c_slices_Index_string_string rfl ?_
 have hlen : (strEls l).length = l.length := by simp [strEls]
 simp [a_slices_Index_string_string, hlen]
 refine lp_startx (fun n f σ => ∃ k : Nat, n = l.length - k ∧ k ≤ l.length ∧ f 0 = .lst (strEls l) ∧ f 1 = .str x ∧ f 7 = .int .i64 l.length ∧ f 8 = .int .i64 k ∧ x ∉ l.take k ∧ σ = []) l.length ?_ ?_
 ·exact ⟨0, rfl, by omega, by simp, by simp, by simp, by simp, by simp, rfl⟩
 rintro n f σ ⟨k, rfl, hk, f0, f1, f7, f8, hx, rfl⟩
 simp [f7, f8]
 refine cb_dec (fun hlt => ?_) (fun hge => ?_)
 ·have hlt' : k < l.length := by omega
  obtain ⟨y, hy⟩ : ∃ y, l[k]? = some y := ⟨_, List.getElem?_eq_getElem hlt'⟩
  have hte : (strEls l)[k]? = some [.str y] := by simp [strEls, hy]
  obtain ⟨h1, h2⟩ := List.getElem?_eq_some_iff.1 hte
  have hw : IntKind.i64.wrap ((k : Int) + 1) = (k : Int) + 1 := wrap_i64 (by omega) (by omega)
  by_cases he : x = y
  ·subst he
   simp [f0, f1, f8, hte, h1, h2]
   exact List.mem_of_getElem? hy
  ·simp [f0, f1, f8, hte, h1, h2, he, hw]
   refine nx_intro (l.length - (k + 1)) (by omega) ⟨k + 1, rfl, by omega, by simp [f0], by simp [f1], by simp [f7], by simp, ?_, rfl⟩
   rw [List.take_add_one, hy]
   simp [hx, he]
 ·have : k = l.length := by omega
  subst this
  rw [List.take_length] at hx
  simp
  exact hx
theorem containsStrT_ok (l : List (List UInt8)) (hl : l.length ≤ 1000000) (x : List UInt8) : PCalls Tryz.prog n_slices_Contains_string_string [.lst (strEls l), .str x] (fun r => r = .bool (decide (x ∈ l))) := by
 refine pcalls_of_awp hmix c_slices_Contains_string_string rfl ?_
 simp [a_slices_Contains_string_string]
 refine ac_same (idxStrT_ok l hl x) (by simp) ?_
 rintro r ⟨z, rfl, hz⟩
 simp [hz]
theorem hasPre_ok (s p : List UInt8) : PCalls Tryz.prog n_strings_HasPrefix [.str s, .str p] (fun r => r = .bool (Lib.hasPrefix s p)) := by
 refine pcalls2 fun base κ Im w v u hs hv hu => ?_
 have e0 := hv.str_inv
 have e1 := hu.str_inv
 subst e0; subst e1
 refine (Tryz.strings_HasPrefix ⟨s.toArray⟩ ⟨p.toArray⟩ w).mono ?_
 rintro e w' ⟨rfl, rfl⟩
 exact ⟨_, _, rfl, rfl, Go.RowKit.Below.refl _ _, fun Im' => .bool _⟩
theorem cutSuf_ok (s p : List UInt8) (hl : s.length ≤ 1000000) : PCalls Tryz.prog n_strings_CutSuffix [.str s, .str p] (fun r => r = .tup [.str (Lib.trimSuffix s p), .bool (Lib.hasSuffix s p)]) := by
 refine pcalls2 fun base κ Im w v u hs hv hu => ?_
 have e0 := hv.str_inv
 have e1 := hu.str_inv
 subst e0; subst e1
 refine (Tryz.strings_CutSuffix ⟨s.toArray⟩ ⟨p.toArray⟩ w (by show s.toArray.size ≤ _; simp; omega)).mono ?_
 rintro e w' ⟨rfl, rfl⟩
 refine ⟨_, _, rfl, rfl, Go.RowKit.Below.refl _ _, fun Im' => ?_⟩
 exact IR.tup _ [_, _] rfl (fun j hj hj' => by
  match j, hj with
  | 0, _ => exact .str _
  | 1, _ => exact .bool _)
theorem trimT_ok (s : List UInt8) (c : UInt8) (hc : c.toNat < 128) (hl : s.length ≤ 1000000) : PCalls Tryz.prog n_strings_Trim [.str s, .str [c]] (fun r => r = .str (Lib.trimB s c)) := by
 refine pcalls2 fun base κ Im w v u hs hv hu => ?_
 have e0 := hv.str_inv
 have e1 := hu.str_inv
 subst e0; subst e1
 refine (Tryz.strings_Trim_one ⟨s.toArray⟩ c hc w (by show s.toArray.size ≤ _; simp; omega)).mono ?_
 rintro e w' ⟨rfl, hw⟩
 refine ⟨_, _, rfl, rfl, ?_, fun Im' => .str _⟩
 rcases hw with rfl | rfl
 ·exact Go.RowKit.Below.refl _ _
 ·exact (Go.RowKit.Below.refl _ _).drew
theorem upperT_ok (s : List UInt8) (ha : ∀ b ∈ s, b.toNat < 128) (hl : s.length ≤ 1000000) : PCalls Tryz.prog n_strings_ToUpper [.str s] (fun r => r = .str (Lib.toUpperA s)) := by
 refine pcalls1 fun base κ Im w v hs hv => ?_
 have e0 := hv.str_inv
 subst e0
 refine (Tryz.strings_ToUpper_ascii ⟨s.toArray⟩ w (by show s.toArray.size ≤ _; simp; omega) (fun j b hb => ha b (List.mem_of_getElem? (by simpa using hb)))).mono ?_
 rintro e w' ⟨rfl, hb⟩
 exact ⟨_, _, rfl, rfl, hb, fun Im' => .str _⟩
def CapK (b : Bool) (args k : List UInt8) : Prop := ∃ s c, k = s ++ [c] ∧ Lib.toUpperA s = s ∧ Lib.upperB c = c ∧ b = decide (args = k)
def LowK (b : Bool) (args k : List UInt8) : Prop := ∃ s c, k = s ++ [c] ∧ s ≠ [] ∧ Lib.toUpperA s = s ∧ Lib.upperB c ≠ c ∧ b = (decide (args = s) || decide (args = s ++ [Lib.upperB c]))
theorem upperA_app (s : List UInt8) (c : UInt8) : Lib.toUpperA (s ++ [c]) = Lib.toUpperA s ++ [Lib.upperB c] := by simp [Lib.toUpperA]
theorem tfits_plain (ks args : List UInt8) (b : Bool) (hn : Lib.hasSuffix ks [43] = false) (ha : ∀ x ∈ ks, x.toNat < 128) (hl : ks.length ≤ 10) (h : CapK b args ks ∨ LowK b args ks) :
  PCalls Tryz.prog n_target_fits [.str ks, .str args] (fun r => r = .bool b) := by
 refine pcalls_of_awp hmix c_target_fits rfl ?_
 simp [a_target_fits]
 refine ac_same (cutSuf_ok ks [43] (by omega)) (by simp) ?_
 rintro r rfl
 simp [hn]
 refine lp_startx (fun x f σ => ∃ k2, x = k2.length ∧ f 0 = .str k2 ∧ f 1 = .str args ∧ (∀ y ∈ k2, y.toNat < 128) ∧ k2.length ≤ 10 ∧ (CapK b args k2 ∨ LowK b args k2) ∧ σ = []) ks.length ⟨ks, rfl, by simp, by simp, ha, hl, h, rfl⟩ ?_
 rintro x f σ ⟨k2, rfl, h0, h1, ha2, hl2, hk, rfl⟩
 simp [h0, h1]
 refine ac_same (upperT_ok k2 ha2 (by omega)) (by simp) ?_
 rintro r rfl
 rcases hk with ⟨s, c, rfl, hs, hc, hb⟩ | ⟨s, c, rfl, hs0, hs, hc, hb⟩
 ·simp only [List.length_append, List.length_singleton] at hl2
  have hw : IntKind.i64.wrap ((s.length : Int) + 1 - 1) = (s.length : Int) := by rw [wrap_i64 (by omega) (by omega)]; omega
  have hw2 : IntKind.i64.wrap (s.length : Int) = (s.length : Int) := wrap_i64 (by omega) (by omega)
  have hdt : List.drop s.length (List.take (s.length + 1) (s ++ [c])) = [c] := by rw [List.take_of_length_le (by simp)]; simp
  have hac : ∀ y ∈ [c], y.toNat < 128 := fun y hy => ha2 y (by simp at hy; simp [hy])
  rw [upperA_app, hs, hc]
  by_cases he : args = s ++ [c]
  ·simp [he] at hb
   simp [h1, he, hb]
  ·have he' : ¬ s ++ [c] = args := fun e => he e.symm
   simp [he] at hb
   by_cases hs0 : s = []
   ·subst hs0
    simp at he'
    have hw0 : IntKind.i64.wrap 0 = 0 := by decide
    simp [h0, h1, he', hb, hw0]
   ·simp [h0, h1, he', hw, hw2, hdt, hs0]
    have hq := upperT_ok (G := G) [c] hac (by simp)
    have hcc : Lib.toUpperA [c] = [c] := by simp [Lib.toUpperA, hc]
    rw [hcc] at hq
    refine qc_same hq (by simp) (by simp [rig]) ?_
    simp [hb]
 ·simp only [List.length_append, List.length_singleton] at hl2
  have hw : IntKind.i64.wrap ((s.length : Int) + 1 - 1) = (s.length : Int) := by rw [wrap_i64 (by omega) (by omega)]; omega
  have hw2 : IntKind.i64.wrap (s.length : Int) = (s.length : Int) := wrap_i64 (by omega) (by omega)
  have hdt : List.drop s.length (List.take (s.length + 1) (s ++ [c])) = [c] := by rw [List.take_of_length_le (by simp)]; simp
  have hac : ∀ y ∈ [c], y.toNat < 128 := fun y hy => ha2 y (by simp at hy; simp [hy])
  rw [upperA_app, hs]
  by_cases he : args = s ++ [Lib.upperB c]
  ·simp [he] at hb
   simp [h1, he, hb]
  ·have he' : ¬ s ++ [Lib.upperB c] = args := fun e => he e.symm
   simp [he] at hb
   have hc' : ¬ c = Lib.upperB c := fun e => hc e.symm
   simp [h0, h1, he', hw, hw2, hdt, hs0]
   have hq := upperT_ok (G := G) [c] hac (by simp)
   have hcc : Lib.toUpperA [c] = [Lib.upperB c] := by simp [Lib.toUpperA]
   rw [hcc] at hq
   refine qc_same hq (by simp) (by simp [rig]) ?_
   simp [hc', h1]
   refine nx_intro s.length (by simp) ⟨s, rfl, by simp, by simp [h1], fun y hy => ha2 y (by simp [hy]), by omega, .inl ?_, rfl⟩
   obtain ⟨s', c', rfl⟩ : ∃ s' c', s = s' ++ [c'] := ⟨s.dropLast, s.getLast hs0, (List.dropLast_concat_getLast hs0).symm⟩
   rw [upperA_app] at hs
   have := List.append_inj' hs rfl
   exact ⟨s', c', rfl, this.1, by simpa using this.2, by simpa using hb⟩
theorem trimB_nil : ∀ (l : List UInt8) (c : UInt8), (Lib.trimB l c = [] ↔ ∀ x ∈ l, x = c) := by
 intro l c
 have key : ∀ m : List UInt8, (m.dropWhile (· == c) = [] ↔ ∀ x ∈ m, x = c) := by
  intro m
  induction m with
  | nil => simp
  | cons a m ih =>
   by_cases h : a = c
   ·subst h; simp [ih]
   ·have : (a == c) = false := by simpa using h
    simp [List.dropWhile_cons, this, h]
 unfold Lib.trimB Lib.trimLeftB Lib.trimRightB
 rw [key]
 constructor
 ·intro h
  have h2 : (l.reverse.dropWhile (· == c)) = [] := by
   cases hd : l.reverse.dropWhile (· == c) with
   | nil => rfl
   | cons a m =>
    have h1 : a = c := h a (by rw [hd]; simp)
    have := List.head?_dropWhile_not (p := (· == c)) l.reverse
    rw [hd] at this
    simp [h1] at this
  intro x hx
  exact (key _).1 h2 x (by simpa using hx)
 ·intro h x hx
  have h2 := (key l.reverse).2 (fun y hy => h y (by simpa using hy))
  rw [h2] at hx
  simp at hx
theorem tfits_plus (s : List UInt8) (c : UInt8) (args : List UInt8) (hc : c.toNat < 128) (hs : s.length ≤ 10) (hl : args.length ≤ 1000) :
  PCalls Tryz.prog n_target_fits [.str (s ++ [c] ++ [43]), .str args] (fun r => r = .bool (Lib.hasPrefix args (s ++ [c]) && decide (Lib.trimB (args.drop (s ++ [c]).length) c = []))) := by
 refine pcalls_of_awp hmix c_target_fits rfl ?_
 have hsuf : Lib.hasSuffix (s ++ [c] ++ [43]) [43] = true := by
  unfold Lib.hasSuffix; rw [List.isSuffixOf_iff_suffix]; exact ⟨s ++ [c], rfl⟩
 have htr : Lib.trimSuffix (s ++ [c] ++ [43]) [43] = s ++ [c] := by
  unfold Lib.trimSuffix
  have e : (s ++ [c] ++ [(43 : UInt8)]).length - [(43 : UInt8)].length = (s ++ [c]).length := by simp
  rw [if_pos hsuf, e, List.take_left]
 have hcut := cutSuf_ok (G := G) (s ++ [c] ++ [43]) [43] (by simp; omega)
 rw [hsuf, htr] at hcut
 simp [a_target_fits] at hcut ⊢
 refine ac_same hcut (by simp) ?_
 rintro r rfl
 have hw2 : IntKind.i64.wrap (s.length : Int) = (s.length : Int) := wrap_i64 (by omega) (by omega)
 have hdt : List.drop s.length (List.take (s.length + 1) (s ++ [c])) = [c] := by rw [List.take_of_length_le (by simp)]; simp
 simp [hw2, hdt]
 refine ac_same (hasPre_ok args (s ++ [c])) (by simp) ?_
 rintro r rfl
 cases hp : Lib.hasPrefix args (s ++ [c]) with
 | false => simp
 | true =>
  have hle : s.length + 1 ≤ args.length := by
   unfold Lib.hasPrefix at hp
   have := (List.isPrefixOf_iff_prefix.1 hp).length_le
   simpa using this
  have hle' : (s.length : Int) + 1 ≤ (args.length : Int) := by omega
  have hta : List.drop (s.length + 1) (List.take args.length args) = args.drop (s.length + 1) := by rw [List.take_of_length_le (by omega)]
  have hp0 : (0 : Int) ≤ (s.length : Int) + 1 := by omega
  simp [hle, hle', hta, hp0]
  refine ac_same (trimT_ok (args.drop (s.length + 1)) c hc (by simp; omega)) (by simp) ?_
  rintro r rfl
  simp
theorem pre_iff (args s : List UInt8) : Lib.hasPrefix args s = true ↔ ∃ r, args = s ++ r := by
 unfold Lib.hasPrefix
 rw [List.isPrefixOf_iff_prefix]
 exact ⟨fun ⟨r, h⟩ => ⟨r, h.symm⟩, fun ⟨r, h⟩ => ⟨r, h.symm⟩⟩
theorem fam_kinds : famT.map (·.1) = [[83], [83, 78], [83, 110], [83, 78, 78], [83, 78, 116], [83, 43], [83, 83], [83, 78, 84], [83, 84], [83, 78, 43], [78]] := rfl
theorem tfits_ok (ks args : List UInt8) (hk : ks ∈ famT.map (·.1)) (hl : args.length ≤ 1000) : PCalls Tryz.prog n_target_fits [.str ks, .str args] (fun r => r = .bool (fitK ks args)) := by
 have hcap : ∀ (k : List UInt8), (∃ s c, k = s ++ [c] ∧ Lib.toUpperA s = s ∧ Lib.upperB c = c) → CapK (decide (args = k)) args k := fun k ⟨s, c, h1, h2, h3⟩ => ⟨s, c, h1, h2, h3, rfl⟩
 rw [fam_kinds] at hk
 simp only [List.mem_cons, List.mem_nil_iff, or_false] at hk
 rcases hk with rfl | rfl | rfl | rfl | rfl | rfl | rfl | rfl | rfl | rfl | rfl
 ·rw [fit_S]; exact tfits_plain _ _ _ (by decide) (by decide) (by decide) (.inl (hcap _ ⟨[], 83, by decide⟩))
 ·rw [fit_SN]; exact tfits_plain _ _ _ (by decide) (by decide) (by decide) (.inl (hcap _ ⟨[83], 78, by decide⟩))
 ·rw [fit_Sn]; exact tfits_plain _ _ _ (by decide) (by decide) (by decide) (.inr ⟨[83], 110, rfl, by decide, by decide, by decide, rfl⟩)
 ·rw [fit_SNN]; exact tfits_plain _ _ _ (by decide) (by decide) (by decide) (.inl (hcap _ ⟨[83, 78], 78, by decide⟩))
 ·rw [fit_SNt]; exact tfits_plain _ _ _ (by decide) (by decide) (by decide) (.inr ⟨[83, 78], 116, rfl, by decide, by decide, by decide, rfl⟩)
 ·rw [fit_Sp]
  refine (tfits_plus [] 83 args (by decide) (by decide) hl).mono ?_
  rintro r rfl
  congr 1
  rw [Bool.eq_iff_iff]
  simp only [List.nil_append, Bool.and_eq_true, decide_eq_true_eq, trimB_nil, pre_iff]
  cases args with
  | nil => simp
  | cons a r =>
   simp
 ·rw [fit_SS]; exact tfits_plain _ _ _ (by decide) (by decide) (by decide) (.inl (hcap _ ⟨[83], 83, by decide⟩))
 ·rw [fit_SNT]; exact tfits_plain _ _ _ (by decide) (by decide) (by decide) (.inl (hcap _ ⟨[83, 78], 84, by decide⟩))
 ·rw [fit_ST]; exact tfits_plain _ _ _ (by decide) (by decide) (by decide) (.inl (hcap _ ⟨[83], 84, by decide⟩))
 ·rw [fit_SNp]
  refine (tfits_plus [83] 78 args (by decide) (by decide) hl).mono ?_
  rintro r rfl
  congr 1
  rw [Bool.eq_iff_iff]
  simp only [Bool.and_eq_true, decide_eq_true_eq, trimB_nil, pre_iff]
  match args with
  | [] => simp
  | [a] => simp
  | a :: b :: r =>
   simp [and_assoc]
 ·rw [fit_N]; exact tfits_plain _ _ _ (by decide) (by decide) (by decide) (.inl (hcap _ ⟨[], 78, by decide⟩))
def famCells : List AV := famT.flatMap fun p => [.str p.1, .str p.2]
class GFam [Globs] : Prop where
 fam : Globs.tab.lookup 0 = some famCells
theorem cells_at : ∀ (l : List (List UInt8 × List UInt8)) (j : Nat) (p : List UInt8 × List UInt8), l[j]? = some p → ((l.flatMap fun p => [AV.str p.1, .str p.2]).drop (j * 2)).take 2 = [.str p.1, .str p.2]
 | [], j, p, h => by simp at h
 | q :: l, 0, p, h => by simp at h; subst h; simp
 | q :: l, j + 1, p, h => by
  have ih := cells_at l j p (by simpa using h)
  rw [show (j + 1) * 2 = j * 2 + 2 by omega]
  simpa using ih
theorem fam_ok : (famT.all fun p => decide (p.2.length ≤ 1000) && p.2.all (fun b => decide (b.toNat < 128)) && decide ((Lib.fields p.2).length ≤ 100)) = true := by kernel_rfl
def kindsAV : Option (List UInt8) → AV
 | none => .tup [.str [], .bool false]
 | some k => .tup [.str k, .bool true]
theorem tKinds_ok [GSpcT] [GFam] (call : List UInt8) : PCalls Tryz.prog n_target_Kinds [.str call] (fun r => r = kindsAV (kindsS call)) := by
 refine pcalls_of_awp hmix c_target_Kinds rfl ?_
 have hg := GFam.fam (self := ‹GFam›)
 have hcl : famCells.length = 22 := rfl
 have hcl2 : famT.length = 11 := rfl
 have htk : famCells.take 22 = famCells := rfl
 simp [a_target_Kinds, hg, hcl, htk]
 refine lp_startx (fun x f σ => ∃ j : Nat, x = 11 - j ∧ j ≤ 11 ∧ f 0 = .str call ∧ f 6 = .agg famCells ∧ f 7 = .int .i64 j ∧ famT.find? (fun p => decide (call ∈ Lib.fields p.2)) = (famT.drop j).find? (fun p => decide (call ∈ Lib.fields p.2))) 11 ⟨0, by simp⟩ ?_
 rintro x f σ ⟨j, hx, hj, h0, h6, h7, hfind⟩
 by_cases hlt : j < 11
 ·obtain ⟨p, hp⟩ : ∃ p, famT[j]? = some p := ⟨_, List.getElem?_eq_getElem (by rw [hcl2]; exact hlt)⟩
  have hlti : (j : Int) < 11 := by omega
  have hc2 := cells_at famT j p hp
  have hc3 : (famCells.drop (j * 2)).take 2 = [.str p.1, .str p.2] := hc2
  have hw : IntKind.i64.wrap ((j : Int) + 1) = (j : Int) + 1 := wrap_i64 (by omega) (by omega)
  have hal := List.all_eq_true.1 fam_ok p (List.mem_of_getElem? hp)
  simp only [Bool.and_eq_true, decide_eq_true_eq, List.all_eq_true] at hal
  have hdr : famT.drop j = p :: famT.drop (j + 1) := by
   obtain ⟨h1, rfl⟩ := List.getElem?_eq_some_iff.1 hp
   exact List.drop_eq_getElem_cons h1
  rw [hdr, List.find?_cons] at hfind
  have h20 : j * 2 ≤ 20 := by omega
  simp [h0, h6, h7, hlt, hlti, hcl, hc3, boxOp, splice, h20]
  refine ac_same (fieldsT_ok p.2 (by omega) hal.1.2 (by omega)) (by simp) ?_
  rintro r rfl
  simp [h0]
  refine ac_same (containsStrT_ok (Lib.fields p.2) (by omega) call) (by simp) ?_
  rintro r rfl
  by_cases hin : call ∈ Lib.fields p.2
  ·have hk : kindsS call = some p.1 := by
    unfold kindsS; rw [hfind]; simp [hin]
   simp [hin, hk, kindsAV]
  ·simp [hin, h7, hw]
   refine nx_intro (11 - (j + 1)) (by omega) ⟨j + 1, rfl, by omega, by simp [h0], by simp [h6], by simp, ?_⟩
   rw [hfind]; simp [hin]
 ·have hj11 : j = 11 := by omega
  subst hj11
  have hk : kindsS call = none := by
   unfold kindsS; rw [hfind, List.drop_of_length_le (by rw [hcl2]; exact Nat.le_refl _)]; rfl
  simp [h7, hk, kindsAV]
end Go.Proofs.YtalfhchbmhoagaaGreatDoor
end
section
namespace Go.Proofs.YtalfhchbmhoagaaGreatDoor
open Go.ChangeShapes Go.WideShapes Go.ChangeAt Go.RowKit Go.ChangeMaps Go.Abs
abbrev gSpace : Nat := 1
abbrev gFam : Nat := 0
instance tgGlobs : Globs := ⟨[(gSyn, [.iface 221 .junk]), (gRng, [.iface 221 .junk]), (gPow, Lib.pow10Tab.map (AV.int .u64)), (gSpace, Lib.asciiSpaceTab.map (AV.int .u8)), (gFam, famCells)]⟩
instance tgG : GDec where
 syn := List.Mem.head _
 rng := .tail _ (List.Mem.head _)
 pow := .tail _ (.tail _ (List.Mem.head _))
instance tgS : GSpcT where
 spc := .tail _ (.tail _ (.tail _ (List.Mem.head _)))
instance tgF : GFam where
 fam := rfl
theorem one_errT {n : String} {g : Nat} {text : List UInt8} {l : List (String × DataW Unit)} {w : World} (h : laidMet Tryz.prog l w) (hm : (n, .iface "*errors.errorString" (.ptr (.agg [.lit (.string text)]))) ∈ l)
  (hg : Tryz.prog.globalNamed n = some g) (ht : (Tryz.prog.globals[g]?).map (·.type) = some 105) (hrow : ∀ u, Tryz.prog.typeName? 3 u = some "*errors.errorString" → u = 221) (hI : ∀ j, gIm ⟨g, j, none⟩) :
  g < w.heap.size ∧ (∃ cs t fz, w.heap[g]? = some (.cells cs t fz) ∧ cs.size = [AV.iface 221 .junk].length) ∧ IR gIm w (.rptr [.iface 221 .junk]) (.pointer (some ⟨g, 0, none⟩)) := by
 obtain ⟨r, h⟩ := laidAt h hm
 obtain ⟨a, s, hv, _⟩ := laid_sentinel h hg ht Tryz.underlying105 hrow Tryz.underlying221 Tryz.underlying223 rfl rfl Tryz.underlying9 (by kernel_rfl) (by kernel_rfl)
 refine gok_one hg hv rfl (by simp [AV.one]) ?_ hI
 intro j hj
 match j, hj with
 | 0, _ => exact .iface _ _ _ (.junk _)
theorem array_len {fuel : Nat} {P : Program} {w : World} {base : Nat} {sp : Nat → Bool} {held : Bool} {t e : TypeId} {n : Nat} {cs : List Value} {ds : List (DataW Unit)} {p : List MemPlace} (ht : P.underlying t = some (.array n e))
  (h : DataW.trod (fun _ => ()) P w base sp held fuel t cs = some (.agg ds, p)) : cs.length = P.cellsOf t := by
 cases fuel with
 | zero => simp [DataW.trod] at h
 | succ fuel =>
  simp only [DataW.trod, ht] at h
  split at h
  ·rename_i hc
   simpa using hc
  ·cases h
theorem strs_of_struct {fuel : Nat} {P : Program} {w : World} {base : Nat} {sp : Nat → Bool} {held : Bool} {t s : TypeId} {fs : Array Field} {cs : List Value} {a b : List UInt8} {p : List MemPlace} (ht : P.underlying t = some (.struct fs)) (hsz : fs.size = 2)
  (hs : P.underlying s = some .string) (hc : P.cellsOf s = 1) (h0 : ∃ f, fs[0]? = some f ∧ f.type = s ∧ f.offset = 0) (h1 : ∃ f, fs[1]? = some f ∧ f.type = s ∧ f.offset = 1) (hct : P.cellsOf t = 2)
  (h : DataW.trod (fun _ => ()) P w base sp held fuel t cs = some (.agg [.lit (.string a), .lit (.string b)], p)) : cs = [.string ⟨a.toArray⟩, .string ⟨b.toArray⟩] := by
 obtain ⟨xs, n, rfl, hx, hl, hxl, hall⟩ := DataW.trod_struct ht h
 have hxs : xs.map (·.1) = [.lit (.string a), .lit (.string b)] := by
  have := congrArg Prod.fst hx
  simpa using this.symm
 rw [hct] at hl
 obtain ⟨c0, c1, rfl⟩ : ∃ c0 c1, cs = [c0, c1] := by
  match cs, hl with
  | [x, y], _ => exact ⟨x, y, rfl⟩
 rw [hsz] at hxl
 obtain ⟨x0, x1, rfl⟩ : ∃ x0 x1, xs = [x0, x1] := by
  match xs, hxl with
  | [x, y], _ => exact ⟨x, y, rfl⟩
 obtain ⟨f0, g0, t0, o0⟩ := h0
 obtain ⟨f1, g1, t1, o1⟩ := h1
 have k0 := hall 0 f0 g0
 have k1 := hall 1 f1 g1
 rw [t0, o0, hc] at k0
 rw [t1, o1, hc] at k1
 obtain ⟨s0, e0, y0, _⟩ := DataW.trod_string hs k0
 obtain ⟨s1, e1, y1, _⟩ := DataW.trod_string hs k1
 simp at e0 e1
 subst e0 e1
 subst y0 y1
 simp at hxs
 obtain ⟨rfl, rfl⟩ := hxs
 rfl
theorem fam_len {w : World} {cs : Array Value} {fuel : Nat} {p : List MemPlace} (h : DataW.trod (fun _ => ()) Tryz.prog w 0 (fun _ => true) false fuel 56 cs.toList = some (Rows.laid_isobar_target_families, p)) :
  cs.toList.length = 22 ∧ ∀ i, i < 11 → ∃ q, Go.Tgt.famT[i]? = some q ∧ (cs.toList.drop (i * 2)).take 2 = [.string ⟨q.1.toArray⟩, .string ⟨q.2.toArray⟩] := by
 have hu : Tryz.prog.underlying 56 = some (.array 11 55) := by kernel_rfl
 have hce : Tryz.prog.cellsOf 55 = 2 := by kernel_rfl
 have e : (Rows.laid_isobar_target_families : DataW Unit) = .agg (Go.Tgt.famT.map fun q => .agg [.lit (.string q.1), .lit (.string q.2)]) := by kernel_rfl
 rw [e] at h
 refine ⟨by rw [array_len hu h]; kernel_rfl, fun i hi => ?_⟩
 obtain ⟨fuel', d, q, hdi, he⟩ := Lib.array_elem hu h i hi
 obtain ⟨f, hf⟩ : ∃ f, Go.Tgt.famT[i]? = some f := ⟨_, List.getElem?_eq_getElem (by have : Go.Tgt.famT.length = 11 := rfl; omega)⟩
 rw [List.getElem?_map, hf] at hdi
 simp only [Option.map_some, Option.some.injEq] at hdi
 subst hdi
 rw [hce] at he
 exact ⟨f, hf, strs_of_struct (s := 9) Tryz.underlying55 rfl Tryz.underlying9 (by kernel_rfl) ⟨_, rfl, rfl, rfl⟩ ⟨_, rfl, rfl, rfl⟩ hce he⟩
theorem gin_tg {l : List (String × DataW Unit)} {w : World} (h : laidMet Tryz.prog l w) (h1 : ("strconv.ErrSyntax", Rows.laid_strconv_ErrSyntax) ∈ l) (h2 : ("strconv.ErrRange", Rows.laid_strconv_ErrRange) ∈ l) (h3 : ("internal/strconv.uint64pow10", Rows.laid_internal_strconv_uint64pow10) ∈ l)
  (h4 : ("strings.asciiSpace", Rows.laid_strings_asciiSpace) ∈ l) (h5 : ("isobar/target.families", Rows.laid_isobar_target_families) ∈ l) : GlobsIn w := by
 intro p hp
 have hrow : ∀ u, Tryz.prog.typeName? 3 u = some "*errors.errorString" → u = 221 := Tryz.rowErr
 have hI : ∀ g, (∃ p ∈ Globs.tab, g = p.1) → ∀ j, gIm ⟨g, j, none⟩ := fun g hg j => ⟨rfl, hg⟩
 rcases hp with _ | ⟨_, _ | ⟨_, _ | ⟨_, _ | ⟨_, _ | ⟨_, hp⟩⟩⟩⟩⟩
 ·exact one_errT h h1 (by kernel_rfl) (by kernel_rfl) hrow (hI _ ⟨_, List.Mem.head _, rfl⟩)
 ·exact one_errT h h2 (by kernel_rfl) (by kernel_rfl) hrow (hI _ ⟨_, .tail _ (List.Mem.head _), rfl⟩)
 ·obtain ⟨r, h⟩ := laidAt h h3
  have e : (Rows.laid_internal_strconv_uint64pow10 : DataW Unit) = Lib.tabData .u64 Lib.pow10Tab := by kernel_rfl
  rw [e] at h
  have := Lib.tabIs_of_head (g := gPow) (by kernel_rfl) (by kernel_rfl) Tryz.underlying216 Tryz.underlying93 (by kernel_rfl) (by kernel_rfl) h
  refine gok_one (n := "internal/strconv.uint64pow10") (by kernel_rfl) this (by simp) (by simp [AV.one]) ?_ (hI _ ⟨_, .tail _ (.tail _ (List.Mem.head _)), rfl⟩)
  intro j hj
  have hj' : j < Lib.pow10Tab.length := by simpa using hj
  simp [hj']
  exact .int _ _
 ·obtain ⟨r, h⟩ := laidAt h h4
  have e : (Rows.laid_strings_asciiSpace : DataW Unit) = Lib.tabData .u8 Lib.asciiSpaceTab := by kernel_rfl
  rw [e] at h
  have := Lib.tabIs_of_head (g := gSpace) (by kernel_rfl) (by kernel_rfl) Tryz.underlying86 Tryz.underlying5 (by kernel_rfl) (by kernel_rfl) h
  refine gok_one (n := "strings.asciiSpace") (by kernel_rfl) this (by simp) (by simp [AV.one]) ?_ (hI _ ⟨_, .tail _ (.tail _ (.tail _ (List.Mem.head _))), rfl⟩)
  intro j hj
  have hj' : j < Lib.asciiSpaceTab.length := by simpa using hj
  simp [hj']
  exact .int _ _
 ·obtain ⟨g, t, cs, fuel, p, hg, hty, hvar, hd⟩ := Lib.laidMet.reads h h5
  obtain rfl := Option.some.inj ((show Tryz.prog.globalNamed "isobar/target.families" = some gFam by kernel_rfl).symm.trans hg)
  obtain rfl := Option.some.inj ((show (Tryz.prog.globals[gFam]?).map (·.type) = some 56 by kernel_rfl).symm.trans hty)
  obtain ⟨hl, hel⟩ := fam_len hd
  refine gok_one (n := "isobar/target.families") (by kernel_rfl) hvar (by rw [← Array.length_toList, hl]; rfl) (by intro c hc; obtain ⟨q, _, hq⟩ := List.mem_flatMap.1 hc; simp at hq; rcases hq with rfl | rfl <;> rfl) ?_ (hI _ ⟨_, .tail _ (.tail _ (.tail _ (.tail _ (List.Mem.head _)))), rfl⟩)
  intro j hj
  have hj22 : j < 22 := hj
  obtain ⟨q, hq, hcs⟩ := hel (j / 2) (by omega)
  have hav := cells_at Go.Tgt.famT (j / 2) q hq
  have hr : j % 2 = 0 ∨ j % 2 = 1 := by omega
  have e1 : cs[j]? = (List.take 2 (cs.toList.drop (j / 2 * 2)))[j % 2]? := by
   rw [List.getElem?_take, if_pos (by omega), List.getElem?_drop, Array.getElem?_toList]; congr 1; omega
  have e2 : famCells[j]? = (List.take 2 (famCells.drop (j / 2 * 2)))[j % 2]? := by
   rw [List.getElem?_take, if_pos (by omega), List.getElem?_drop]; congr 1; omega
  have e3 : (List.take 2 (famCells.drop (j / 2 * 2))) = [.str q.1, .str q.2] := hav
  rw [e3] at e2
  rw [hcs] at e1
  have hg2 : famCells[j] = ([AV.str q.1, AV.str q.2][j % 2]?).getD .nils := by rw [← e2, List.getElem?_eq_getElem hj]; rfl
  show IR gIm w famCells[j] _
  rw [hg2, e1]
  rcases hr with hr | hr <;> rw [hr]
  ·exact .str _
  ·exact .str _
 ·cases hp
def strCells : DataW Unit → List Value
 | .agg l => l.flatMap fun
  | .agg l2 => l2.flatMap fun
   | .lit (.string s) => [.string ⟨s.toArray⟩]
   | _ => []
  | _ => []
 | _ => []
end Go.Proofs.YtalfhchbmhoagaaGreatDoor
end
section
namespace Go.Proofs.YtalfhchbmhoagaaGreatDoor
open Go.ChangeShapes Go.WideShapes Go.ChangeAt Go.RowKit Go.ChangeMaps Go.Abs Go.Tgt
end Go.Proofs.YtalfhchbmhoagaaGreatDoor
end
section
namespace Go.Proofs.YtalfhchbmhoagaaGreatDoor
theorem u8_of {n : Int} (h : (Lit.int .u8 n).wf = true) : ∃ c : UInt8, n = c.toNat := by
 have h1 : IntKind.u8.min = 0 := rfl
 have h2 : IntKind.u8.max = 255 := rfl
 simp only [Lit.wf, Bool.and_eq_true, decide_eq_true_eq] at h
 exact ⟨n.toNat.toUInt8, by simp; omega⟩
end Go.Proofs.YtalfhchbmhoagaaGreatDoor
end
section
set_option maxHeartbeats 4000000
set_option maxRecDepth 20000
namespace Go.Tgt
def wordsS : List (List UInt8) := famT.flatMap fun p => Lib.fields p.2
theorem words_eq : wordsS = [[97, 98, 115, 111, 108, 117, 116, 101], [110, 101, 103, 97, 116, 101], [105, 110, 118, 101, 114, 116], [115, 113, 117, 97, 114, 101, 82, 111, 111, 116], [100, 101, 114, 105, 118, 97, 116, 105, 118, 101], [105, 110, 116, 101, 103, 114, 97, 108], [105, 115, 78, 111, 110, 78, 117, 108, 108], [97, 115, 80, 101, 114, 99, 101, 110, 116], [115, 111, 114, 116, 66, 121, 78, 97, 109, 101], [115, 111, 114, 116, 66, 121, 84, 111, 116, 97, 108], [115, 111, 114, 116, 66, 121, 77, 97, 120, 105, 109, 97], [115, 111, 114, 116, 66, 121, 77, 105, 110, 105, 109, 97], [115, 99, 97, 108, 101], [111, 102, 102, 115, 101, 116], [100, 101, 108, 97, 121], [109, 111, 118, 105, 110, 103, 65, 118, 101, 114, 97, 103, 101], [109, 111, 118, 105, 110, 103, 83, 117, 109], [109, 111, 118, 105, 110, 103, 77, 105, 110], [109, 111, 118, 105, 110, 103, 77, 97, 120], [114, 101, 109, 111, 118, 101, 65, 98, 111, 118, 101, 86, 97, 108, 117, 101], [114, 101, 109, 111, 118, 101, 66, 101, 108, 111, 119, 86, 97, 108, 117, 101], [114, 111, 117, 110, 100], [112, 101, 114, 99, 101, 110, 116, 105, 108, 101, 79, 102, 83, 101, 114, 105, 101, 115], [108, 105, 109, 105, 116], [104, 105, 103, 104, 101, 115, 116, 77, 97, 120], [104, 105, 103, 104, 101, 115, 116, 65, 118, 101, 114, 97, 103, 101], [104, 105, 103, 104, 101, 115, 116, 67, 117, 114, 114, 101, 110, 116], [108, 111, 119, 101, 115, 116, 65, 118, 101, 114, 97, 103, 101], [108, 111, 119, 101, 115, 116, 67, 117, 114, 114, 101, 110, 116], [97, 118, 101, 114, 97, 103, 101, 65, 98, 111, 118, 101], [97, 118, 101, 114, 97, 103, 101, 66, 101, 108, 111, 119], [109, 97, 120, 105, 109, 117, 109, 65, 98, 111, 118, 101], [109, 97, 120, 105, 109, 117, 109, 66, 101, 108, 111, 119], [109, 105, 110, 105, 109, 117, 109, 65, 98, 111, 118, 101], [109, 105, 110, 105, 109, 117, 109, 66, 101, 108, 111, 119], [99, 117, 114, 114, 101, 110, 116, 65, 98, 111, 118, 101], [99, 117, 114, 114, 101, 110, 116, 66, 101, 108, 111, 119], [116, 105, 109, 101, 83, 104, 105, 102, 116], [110, 111, 110, 78, 101, 103, 97, 116, 105, 118, 101, 68, 101, 114, 105, 118, 97, 116, 105, 118, 101], [112, 101, 114, 83, 101, 99, 111, 110, 100], [107, 101, 101, 112, 76, 97, 115, 116, 86, 97, 108, 117, 101], [116, 114, 97, 110, 115, 102, 111, 114, 109, 78, 117, 108, 108], [99, 108, 97, 109, 112], [115, 117, 109, 109, 97, 114, 105, 122, 101], [115, 117, 109, 83, 101, 114, 105, 101, 115], [97, 118, 101, 114, 97, 103, 101, 83, 101, 114, 105, 101, 115], [109, 105, 110, 83, 101, 114, 105, 101, 115], [109, 97, 120, 83, 101, 114, 105, 101, 115], [109, 117, 108, 116, 105, 112, 108, 121, 83, 101, 114, 105, 101, 115], [100, 105, 102, 102, 83, 101, 114, 105, 101, 115], [114, 97, 110, 103, 101, 79, 102, 83, 101, 114, 105, 101, 115], [99, 111, 117, 110, 116, 83, 101, 114, 105, 101, 115], [109, 101, 100, 105, 97, 110, 83, 101, 114, 105, 101, 115], [103, 114, 111, 117, 112], [100, 105, 118, 105, 100, 101, 83, 101, 114, 105, 101, 115], [103, 114, 111, 117, 112, 66, 121, 78, 111, 100, 101], [103, 114, 101, 112], [101, 120, 99, 108, 117, 100, 101], [97, 108, 105, 97, 115], [97, 108, 105, 97, 115, 66, 121, 78, 111, 100, 101], [99, 111, 110, 115, 116, 97, 110, 116, 76, 105, 110, 101]] := by kernel_rfl
theorem kinds_none {call : List UInt8} (h : call ∉ wordsS) : kindsS call = none := by
 unfold kindsS
 rw [Option.map_eq_none_iff, List.find?_eq_none]
 intro p hp
 simp only [decide_eq_true_eq]
 exact fun hc => h (List.mem_flatMap.2 ⟨p, hp, hc⟩)
end Go.Tgt
namespace Go.Proofs.YtalfhchbmhoagaaGreatDoor
open Go.Abs Go.Tgt
variable {G : Globs}
theorem rKinds_ok (call : List UInt8) : PCalls Tryz.prog n_isobarref23_Kinds [.str call] (fun r => r = kindsAV (kindsS call)) := by
 refine pcalls_of_awp hmix c_isobarref23_Kinds rfl ?_
 by_cases hw : call ∈ wordsS
 ·rw [words_eq] at hw
  simp only [List.mem_cons, List.mem_nil_iff, or_false] at hw
  rcases hw with rfl | rfl | rfl | rfl | rfl | rfl | rfl | rfl | rfl | rfl | rfl | rfl | rfl | rfl | rfl | rfl | rfl | rfl | rfl | rfl | rfl | rfl | rfl | rfl | rfl | rfl | rfl | rfl | rfl | rfl | rfl | rfl | rfl | rfl | rfl | rfl | rfl | rfl | rfl | rfl | rfl | rfl | rfl | rfl | rfl | rfl | rfl | rfl | rfl | rfl | rfl | rfl | rfl | rfl | rfl | rfl | rfl | rfl | rfl | rfl | rfl
  ·have e : kindsS [97, 98, 115, 111, 108, 117, 116, 101] = some [83] := by kernel_rfl
   rw [e]
   simp [a_isobarref23_Kinds, kindsAV]
  ·have e : kindsS [110, 101, 103, 97, 116, 101] = some [83] := by kernel_rfl
   rw [e]
   simp [a_isobarref23_Kinds, kindsAV]
  ·have e : kindsS [105, 110, 118, 101, 114, 116] = some [83] := by kernel_rfl
   rw [e]
   simp [a_isobarref23_Kinds, kindsAV]
  ·have e : kindsS [115, 113, 117, 97, 114, 101, 82, 111, 111, 116] = some [83] := by kernel_rfl
   rw [e]
   simp [a_isobarref23_Kinds, kindsAV]
  ·have e : kindsS [100, 101, 114, 105, 118, 97, 116, 105, 118, 101] = some [83] := by kernel_rfl
   rw [e]
   simp [a_isobarref23_Kinds, kindsAV]
  ·have e : kindsS [105, 110, 116, 101, 103, 114, 97, 108] = some [83] := by kernel_rfl
   rw [e]
   simp [a_isobarref23_Kinds, kindsAV]
  ·have e : kindsS [105, 115, 78, 111, 110, 78, 117, 108, 108] = some [83] := by kernel_rfl
   rw [e]
   simp [a_isobarref23_Kinds, kindsAV]
  ·have e : kindsS [97, 115, 80, 101, 114, 99, 101, 110, 116] = some [83] := by kernel_rfl
   rw [e]
   simp [a_isobarref23_Kinds, kindsAV]
  ·have e : kindsS [115, 111, 114, 116, 66, 121, 78, 97, 109, 101] = some [83] := by kernel_rfl
   rw [e]
   simp [a_isobarref23_Kinds, kindsAV]
  ·have e : kindsS [115, 111, 114, 116, 66, 121, 84, 111, 116, 97, 108] = some [83] := by kernel_rfl
   rw [e]
   simp [a_isobarref23_Kinds, kindsAV]
  ·have e : kindsS [115, 111, 114, 116, 66, 121, 77, 97, 120, 105, 109, 97] = some [83] := by kernel_rfl
   rw [e]
   simp [a_isobarref23_Kinds, kindsAV]
  ·have e : kindsS [115, 111, 114, 116, 66, 121, 77, 105, 110, 105, 109, 97] = some [83] := by kernel_rfl
   rw [e]
   simp [a_isobarref23_Kinds, kindsAV]
  ·have e : kindsS [115, 99, 97, 108, 101] = some [83, 78] := by kernel_rfl
   rw [e]
   simp [a_isobarref23_Kinds, kindsAV]
  ·have e : kindsS [111, 102, 102, 115, 101, 116] = some [83, 78] := by kernel_rfl
   rw [e]
   simp [a_isobarref23_Kinds, kindsAV]
  ·have e : kindsS [100, 101, 108, 97, 121] = some [83, 78] := by kernel_rfl
   rw [e]
   simp [a_isobarref23_Kinds, kindsAV]
  ·have e : kindsS [109, 111, 118, 105, 110, 103, 65, 118, 101, 114, 97, 103, 101] = some [83, 78] := by kernel_rfl
   rw [e]
   simp [a_isobarref23_Kinds, kindsAV]
  ·have e : kindsS [109, 111, 118, 105, 110, 103, 83, 117, 109] = some [83, 78] := by kernel_rfl
   rw [e]
   simp [a_isobarref23_Kinds, kindsAV]
  ·have e : kindsS [109, 111, 118, 105, 110, 103, 77, 105, 110] = some [83, 78] := by kernel_rfl
   rw [e]
   simp [a_isobarref23_Kinds, kindsAV]
  ·have e : kindsS [109, 111, 118, 105, 110, 103, 77, 97, 120] = some [83, 78] := by kernel_rfl
   rw [e]
   simp [a_isobarref23_Kinds, kindsAV]
  ·have e : kindsS [114, 101, 109, 111, 118, 101, 65, 98, 111, 118, 101, 86, 97, 108, 117, 101] = some [83, 78] := by kernel_rfl
   rw [e]
   simp [a_isobarref23_Kinds, kindsAV]
  ·have e : kindsS [114, 101, 109, 111, 118, 101, 66, 101, 108, 111, 119, 86, 97, 108, 117, 101] = some [83, 78] := by kernel_rfl
   rw [e]
   simp [a_isobarref23_Kinds, kindsAV]
  ·have e : kindsS [114, 111, 117, 110, 100] = some [83, 78] := by kernel_rfl
   rw [e]
   simp [a_isobarref23_Kinds, kindsAV]
  ·have e : kindsS [112, 101, 114, 99, 101, 110, 116, 105, 108, 101, 79, 102, 83, 101, 114, 105, 101, 115] = some [83, 78] := by kernel_rfl
   rw [e]
   simp [a_isobarref23_Kinds, kindsAV]
  ·have e : kindsS [108, 105, 109, 105, 116] = some [83, 78] := by kernel_rfl
   rw [e]
   simp [a_isobarref23_Kinds, kindsAV]
  ·have e : kindsS [104, 105, 103, 104, 101, 115, 116, 77, 97, 120] = some [83, 78] := by kernel_rfl
   rw [e]
   simp [a_isobarref23_Kinds, kindsAV]
  ·have e : kindsS [104, 105, 103, 104, 101, 115, 116, 65, 118, 101, 114, 97, 103, 101] = some [83, 78] := by kernel_rfl
   rw [e]
   simp [a_isobarref23_Kinds, kindsAV]
  ·have e : kindsS [104, 105, 103, 104, 101, 115, 116, 67, 117, 114, 114, 101, 110, 116] = some [83, 78] := by kernel_rfl
   rw [e]
   simp [a_isobarref23_Kinds, kindsAV]
  ·have e : kindsS [108, 111, 119, 101, 115, 116, 65, 118, 101, 114, 97, 103, 101] = some [83, 78] := by kernel_rfl
   rw [e]
   simp [a_isobarref23_Kinds, kindsAV]
  ·have e : kindsS [108, 111, 119, 101, 115, 116, 67, 117, 114, 114, 101, 110, 116] = some [83, 78] := by kernel_rfl
   rw [e]
   simp [a_isobarref23_Kinds, kindsAV]
  ·have e : kindsS [97, 118, 101, 114, 97, 103, 101, 65, 98, 111, 118, 101] = some [83, 78] := by kernel_rfl
   rw [e]
   simp [a_isobarref23_Kinds, kindsAV]
  ·have e : kindsS [97, 118, 101, 114, 97, 103, 101, 66, 101, 108, 111, 119] = some [83, 78] := by kernel_rfl
   rw [e]
   simp [a_isobarref23_Kinds, kindsAV]
  ·have e : kindsS [109, 97, 120, 105, 109, 117, 109, 65, 98, 111, 118, 101] = some [83, 78] := by kernel_rfl
   rw [e]
   simp [a_isobarref23_Kinds, kindsAV]
  ·have e : kindsS [109, 97, 120, 105, 109, 117, 109, 66, 101, 108, 111, 119] = some [83, 78] := by kernel_rfl
   rw [e]
   simp [a_isobarref23_Kinds, kindsAV]
  ·have e : kindsS [109, 105, 110, 105, 109, 117, 109, 65, 98, 111, 118, 101] = some [83, 78] := by kernel_rfl
   rw [e]
   simp [a_isobarref23_Kinds, kindsAV]
  ·have e : kindsS [109, 105, 110, 105, 109, 117, 109, 66, 101, 108, 111, 119] = some [83, 78] := by kernel_rfl
   rw [e]
   simp [a_isobarref23_Kinds, kindsAV]
  ·have e : kindsS [99, 117, 114, 114, 101, 110, 116, 65, 98, 111, 118, 101] = some [83, 78] := by kernel_rfl
   rw [e]
   simp [a_isobarref23_Kinds, kindsAV]
  ·have e : kindsS [99, 117, 114, 114, 101, 110, 116, 66, 101, 108, 111, 119] = some [83, 78] := by kernel_rfl
   rw [e]
   simp [a_isobarref23_Kinds, kindsAV]
  ·have e : kindsS [116, 105, 109, 101, 83, 104, 105, 102, 116] = some [83, 78] := by kernel_rfl
   rw [e]
   simp [a_isobarref23_Kinds, kindsAV]
  ·have e : kindsS [110, 111, 110, 78, 101, 103, 97, 116, 105, 118, 101, 68, 101, 114, 105, 118, 97, 116, 105, 118, 101] = some [83, 110] := by kernel_rfl
   rw [e]
   simp [a_isobarref23_Kinds, kindsAV]
  ·have e : kindsS [112, 101, 114, 83, 101, 99, 111, 110, 100] = some [83, 110] := by kernel_rfl
   rw [e]
   simp [a_isobarref23_Kinds, kindsAV]
  ·have e : kindsS [107, 101, 101, 112, 76, 97, 115, 116, 86, 97, 108, 117, 101] = some [83, 110] := by kernel_rfl
   rw [e]
   simp [a_isobarref23_Kinds, kindsAV]
  ·have e : kindsS [116, 114, 97, 110, 115, 102, 111, 114, 109, 78, 117, 108, 108] = some [83, 110] := by kernel_rfl
   rw [e]
   simp [a_isobarref23_Kinds, kindsAV]
  ·have e : kindsS [99, 108, 97, 109, 112] = some [83, 78, 78] := by kernel_rfl
   rw [e]
   simp [a_isobarref23_Kinds, kindsAV]
  ·have e : kindsS [115, 117, 109, 109, 97, 114, 105, 122, 101] = some [83, 78, 116] := by kernel_rfl
   rw [e]
   simp [a_isobarref23_Kinds, kindsAV]
  ·have e : kindsS [115, 117, 109, 83, 101, 114, 105, 101, 115] = some [83, 43] := by kernel_rfl
   rw [e]
   simp [a_isobarref23_Kinds, kindsAV]
  ·have e : kindsS [97, 118, 101, 114, 97, 103, 101, 83, 101, 114, 105, 101, 115] = some [83, 43] := by kernel_rfl
   rw [e]
   simp [a_isobarref23_Kinds, kindsAV]
  ·have e : kindsS [109, 105, 110, 83, 101, 114, 105, 101, 115] = some [83, 43] := by kernel_rfl
   rw [e]
   simp [a_isobarref23_Kinds, kindsAV]
  ·have e : kindsS [109, 97, 120, 83, 101, 114, 105, 101, 115] = some [83, 43] := by kernel_rfl
   rw [e]
   simp [a_isobarref23_Kinds, kindsAV]
  ·have e : kindsS [109, 117, 108, 116, 105, 112, 108, 121, 83, 101, 114, 105, 101, 115] = some [83, 43] := by kernel_rfl
   rw [e]
   simp [a_isobarref23_Kinds, kindsAV]
  ·have e : kindsS [100, 105, 102, 102, 83, 101, 114, 105, 101, 115] = some [83, 43] := by kernel_rfl
   rw [e]
   simp [a_isobarref23_Kinds, kindsAV]
  ·have e : kindsS [114, 97, 110, 103, 101, 79, 102, 83, 101, 114, 105, 101, 115] = some [83, 43] := by kernel_rfl
   rw [e]
   simp [a_isobarref23_Kinds, kindsAV]
  ·have e : kindsS [99, 111, 117, 110, 116, 83, 101, 114, 105, 101, 115] = some [83, 43] := by kernel_rfl
   rw [e]
   simp [a_isobarref23_Kinds, kindsAV]
  ·have e : kindsS [109, 101, 100, 105, 97, 110, 83, 101, 114, 105, 101, 115] = some [83, 43] := by kernel_rfl
   rw [e]
   simp [a_isobarref23_Kinds, kindsAV]
  ·have e : kindsS [103, 114, 111, 117, 112] = some [83, 43] := by kernel_rfl
   rw [e]
   simp [a_isobarref23_Kinds, kindsAV]
  ·have e : kindsS [100, 105, 118, 105, 100, 101, 83, 101, 114, 105, 101, 115] = some [83, 83] := by kernel_rfl
   rw [e]
   simp [a_isobarref23_Kinds, kindsAV]
  ·have e : kindsS [103, 114, 111, 117, 112, 66, 121, 78, 111, 100, 101] = some [83, 78, 84] := by kernel_rfl
   rw [e]
   simp [a_isobarref23_Kinds, kindsAV]
  ·have e : kindsS [103, 114, 101, 112] = some [83, 84] := by kernel_rfl
   rw [e]
   simp [a_isobarref23_Kinds, kindsAV]
  ·have e : kindsS [101, 120, 99, 108, 117, 100, 101] = some [83, 84] := by kernel_rfl
   rw [e]
   simp [a_isobarref23_Kinds, kindsAV]
  ·have e : kindsS [97, 108, 105, 97, 115] = some [83, 84] := by kernel_rfl
   rw [e]
   simp [a_isobarref23_Kinds, kindsAV]
  ·have e : kindsS [97, 108, 105, 97, 115, 66, 121, 78, 111, 100, 101] = some [83, 78, 43] := by kernel_rfl
   rw [e]
   simp [a_isobarref23_Kinds, kindsAV]
  ·have e : kindsS [99, 111, 110, 115, 116, 97, 110, 116, 76, 105, 110, 101] = some [78] := by kernel_rfl
   rw [e]
   simp [a_isobarref23_Kinds, kindsAV]
 ·rw [kinds_none hw]
  rw [words_eq] at hw
  simp only [List.mem_cons, List.mem_nil_iff, or_false, not_or] at hw
  obtain ⟨h0, h1, h2, h3, h4, h5, h6, h7, h8, h9, h10, h11, h12, h13, h14, h15, h16, h17, h18, h19, h20, h21, h22, h23, h24, h25, h26, h27, h28, h29, h30, h31, h32, h33, h34, h35, h36, h37, h38, h39, h40, h41, h42, h43, h44, h45, h46, h47, h48, h49, h50, h51, h52, h53, h54, h55, h56, h57, h58, h59, h60⟩ := hw
  simp [a_isobarref23_Kinds, kindsAV, h0, h1, h2, h3, h4, h5, h6, h7, h8, h9, h10, h11, h12, h13, h14, h15, h16, h17, h18, h19, h20, h21, h22, h23, h24, h25, h26, h27, h28, h29, h30, h31, h32, h33, h34, h35, h36, h37, h38, h39, h40, h41, h42, h43, h44, h45, h46, h47, h48, h49, h50, h51, h52, h53, h54, h55, h56, h57, h58, h59, h60]
end Go.Proofs.YtalfhchbmhoagaaGreatDoor
end
section
set_option maxHeartbeats 4000000
set_option maxRecDepth 20000
namespace Go.Proofs.YtalfhchbmhoagaaGreatDoor
open Go.Abs Go.Tgt
variable {G : Globs}
def RowR (σ σ' : Store) (V V' : AV) (n : Nat) (l' : List Nd) : Prop :=
 AccI 44 4 σ' V' (ndEls l') ∧ Kept σ σ' ∧ (∀ (i : Nat) (e : Entry), σ[i]? = some e → V ≠ .row i n → σ'[i]? = some e) ∧ ∀ (i m : Nat), V' = .row i m → i < σ.length → V = .row i n
theorem RowR.trans {σ σ1 σ2 : Store} {V V1 V2 : AV} {n n1 : Nat} {l' : List Nd} (hk : Kept σ σ1) (hs : ∀ (i : Nat) (e : Entry), σ[i]? = some e → V ≠ .row i n → σ1[i]? = some e) (hv1 : ∀ (i m : Nat), V1 = .row i m → i < σ.length → V = .row i n) (h : RowR σ1 σ2 V1 V2 n1 l') : RowR σ σ2 V V2 n l' := by
 obtain ⟨h2, h3, h4, h5⟩ := h
 refine ⟨h2, hk.trans h3, fun i e he hv => ?_, fun i m hm hi => ?_⟩
 ·have hlt := (List.getElem?_eq_some_iff.1 he).1
  exact h4 i e (hs i e he hv) fun e => hv (hv1 i _ e hlt)
 ·exact hv1 i _ (h5 i m hm (Nat.lt_of_lt_of_le hi hk.len)) hi
end Go.Proofs.YtalfhchbmhoagaaGreatDoor
end
