/- A row of numbers that slices.SortFunc has sorted: how the store lies in the world behind it. slices.SortFunc of a row of numbers: the shelf's contract -/
import Derived.Shelf.SlSortCmp.InsertionK
import Derived.Test.YtdgpnmlialmaaaaGreatDoorShelf
import Derived.Test.YtdgpnmlialmaaaaGreatDoorCode
import Derived.Shelf.SlSortCmp.NoneTotal
import Derived.Test.YtdgpnmlialmaaaaGreatDoorBn1
import Derived.Test.YtdgpnmlialmaaaaGreatDoorBn2
import Derived.Test.YtdgpnmlialmaaaaGreatDoorBn3
import Derived.Test.YtdgpnmlialmaaaaGreatDoorBn4
set_option linter.unusedSimpArgs false
set_option linter.unusedVariables false
set_option linter.constructorNameAsVariable false
section
set_option maxHeartbeats 2000000
namespace Go.Abs
open Go.Num Go.Proofs Go.Sort Go.Proofs.YtdgpnmlialmaaaaGreatDoor
def encN (n : N) : List Value := [.bool n.1, .int .i64 n.2]
def vals2 (l : List N) : List Value := l.flatMap encN
theorem vals2_len (l : List N) : (vals2 l).length = l.length * 2 := by
  induction l with
  | nil => rfl
  | cons n l ih => simp only [vals2, List.flatMap_cons, List.length_append, List.length_cons] at *; rw [ih]; simp [encN]; omega
theorem flat_vals2 (l : List N) : (flatK encN 2 l.toArray).toList = vals2 l := by
  apply List.ext_getElem?
  intro t
  by_cases h : t < l.length * 2
  · have h1 : t < (flatK encN 2 l.toArray).toList.length := by simp; omega
    have h2 : t < (vals2 l).length := by rw [vals2_len]; exact h
    rw [List.getElem?_eq_getElem h1, List.getElem?_eq_getElem h2]
    congr 1
    have e1 : (flatK encN 2 l.toArray).toList[t] = (flatK encN 2 l.toArray)[t]! := by
      rw [getElem!_pos _ t (by simpa using h1)]; simp
    rw [e1, get_flatK _ _ _ _ (by simpa using h)]
    clear h1 e1
    induction l generalizing t with
    | nil => simp at h
    | cons n l ih =>
      match t, h, h2 with
      | 0, h, h2 => simp [vals2, encN]
      | 1, h, h2 => simp [vals2, encN]
      | t + 2, h, h2 =>
        have h' : t < l.length * 2 := by simp at h; omega
        have h2' : t < (vals2 l).length := by rw [vals2_len]; exact h'
        have := ih t h' h2'
        have e2 : (t + 2) / 2 = t / 2 + 1 := by omega
        have e3 : (t + 2) % 2 = t % 2 := by omega
        rw [e2, e3]
        have e4 : (vals2 (n :: l))[t + 2] = (vals2 l)[t] := by simp [vals2, encN]
        rw [e4, ← this]
        have e5 : (n :: l).toArray[t / 2 + 1]! = l.toArray[t / 2]! := by
          have hq : t / 2 < l.length := by omega
          rw [getElem!_pos _ _ (by simp; omega), getElem!_pos _ _ (by simpa using hq)]
          simp
        rw [e5]
  · rw [List.getElem?_eq_none (by simp; omega), List.getElem?_eq_none (by rw [vals2_len]; omega)]
variable {G : Globs} {base : Nat} {κ : Key} {Im : Addr → Prop} {w : World} {σ : Store}
theorem vals2_of {l : List N} {xs : List Value} (h : VRL κ Im w (numEls l).flatten xs) : xs = vals2 l := by
  induction l generalizing xs with
  | nil =>
    have := h.1
    simp [numEls] at this
    rw [List.eq_nil_of_length_eq_zero this.symm]; rfl
  | cons n l ih =>
    rw [numEls_cons] at h
    simp only [List.flatten_cons] at h
    have hl := h.1
    simp at hl
    match xs, h, hl with
    | x :: y :: xs, h, _ =>
      obtain ⟨u, hu, h1⟩ := h.get? (i := 0) (a := .bool n.1) (by simp)
      obtain ⟨u2, hu2, h2⟩ := h.get? (i := 1) (a := .int .i64 n.2) (by simp)
      simp at hu hu2
      subst hu; subst hu2
      have h3 : VRL κ Im w (numEls l).flatten xs := by
        have := h.drop 2
        simpa using this
      rw [h1.bool_inv, h2.int_inv, ih h3]
      rfl
    | [x], h, hl => simp at hl
    | [], h, hl => simp at hl
theorem vals2_vr (l : List N) : VRL κ Im w (numEls l).flatten (vals2 l) := by
  induction l with
  | nil => exact VRL.nil
  | cons n l ih =>
    rw [numEls_cons]
    simp only [List.flatten_cons, vals2, List.flatMap_cons]
    exact VRL.append (.cons (.im _ _ (.bool _)) (.cons (.im _ _ (.int _ _)) .nil)) ih
theorem numEls_one (l : List N) : ∀ c ∈ numEls l, ∀ x ∈ c, x.one = true := fun c hc x hx => by
  simp only [numEls, List.mem_map] at hc
  obtain ⟨n, _, rfl⟩ := hc
  simp at hx
  rcases hx with rfl | rfl <;> rfl
/-- Where a row lies; and how the store lies behind the sort's write of as many numbers. -/
theorem srel_sorted {i e : Nat} {l A R : List N} (hlA : l = A ++ R) (hs : SRel base κ Im σ w) (he : σ[i]? = some (.row e 2 (numEls l) false)) (hne : l ≠ []) :
    ∃ g cap, κ i l.length = some (.slice (some ⟨g, 0, none⟩) l.length cap) ∧ g < w.heap.size ∧ HoldsK encN 2 w g 0 A.toArray ∧
      ∀ (A' : List N) n os, A'.length = A.length → SRel base κ Im (σ.set i (.row e 2 (numEls (A' ++ R)) false)) (sortWorldK encN 2 w g 0 n A'.toArray os) ∧ Grow base κ Im w κ Im (sortWorldK encN 2 w g 0 n A'.toArray os) := by
  have hE := hs.ent i _ he
  unfold EOK at hE
  obtain ⟨v, xs, hκ, hown, hvr, h0, h2, h1, -, hblk⟩ := hE
  rw [numEls_len] at hκ hown hblk
  have hxs := vals2_of hvr
  subst hxs
  obtain ⟨hlx, hown⟩ := hown
  rcases hown with ⟨_, h⟩ | ⟨g, cap, cur, rfl, hbase, hg, hc1, hc2, hc3, htk⟩
  · exact absurd (List.eq_nil_of_length_eq_zero h) hne
  have hgs : g < w.heap.size := (Array.getElem?_eq_some_iff.1 hg).1
  have hAl : A.length ≤ l.length := by rw [hlA]; simp
  have hvA : vals2 l = vals2 A ++ vals2 R := by rw [hlA]; simp [vals2]
  have hH : HoldsK encN 2 w g 0 A.toArray := by
    intro j hj
    have hjA : j < A.length * 2 := by simpa using hj
    have hj' : j < l.length * 2 := by omega
    refine ⟨?_, by simp [World.frozen?, hg]⟩
    have h3 : (cur.toList.take (l.length * 2))[j]? = (vals2 l)[j]? := by rw [htk]
    rw [List.getElem?_take_of_lt hj', hvA, List.getElem?_append_left (by rw [vals2_len]; exact hjA), ← flat_vals2] at h3
    simp only [World.cell?, hg, Nat.zero_add]
    simp only [Option.isSome_none, Bool.false_eq_true, if_false]
    rw [← Array.getElem?_toList, h3, Array.getElem?_toList, getElem!_pos _ j hj]
    simp [hj]
  refine ⟨g, cap, hκ, hgs, hH, fun A' n os hl => ?_⟩
  obtain ⟨F, hF⟩ : ∃ F, F = flatK encN 2 A'.toArray := ⟨_, rfl⟩
  have hFs : F.size = A.length * 2 := by rw [hF]; simp [hl]
  have hFl : F.toList = vals2 A' := by rw [hF, flat_vals2]
  obtain ⟨l', hl'⟩ : ∃ l', l' = A' ++ R := ⟨_, rfl⟩
  have hll : l'.length = l.length := by rw [hl', hlA]; simp [hl]
  have hv' : vals2 l' = F.toList ++ vals2 R := by rw [hl', hFl]; simp [vals2]
  rw [← hl']
  obtain ⟨w', hw'⟩ : ∃ w', w' = sortWorldK encN 2 w g 0 n A'.toArray os := ⟨_, rfl⟩
  have hw2 : w' = grow (mapBlock (Sort.ahead w n) g (putCells id 0 F)) os := by rw [hw', hF]; rfl
  have hheap : w'.heap[g]? = some (.cells (putCells id 0 F cur) e (0, 0)) := by
    rw [hw2, heap_grow_old _ _ (by simpa [mapBlock, Sort.ahead] using hgs)]
    simp [mapBlock, Sort.ahead, Array.getElem?_modify, hg, onCells]
  have hother : ∀ k, k < w.heap.size → k ≠ g → w'.heap[k]? = w.heap[k]? := fun k hk hne => by
    rw [hw2, heap_grow_old _ _ (by simpa [mapBlock, Sort.ahead] using hk)]
    simp [mapBlock, Sort.ahead, Array.getElem?_modify, Ne.symm hne]
  have hsize : w.heap.size ≤ w'.heap.size := by rw [hw2]; simp [grow, mapBlock, Sort.ahead]
  have htake : (putCells id 0 F cur).toList.take (l.length * 2) = vals2 l' := by
    rw [hv']
    apply List.ext_getElem?
    intro j
    have hR : (vals2 R).length = (l.length - A.length) * 2 := by rw [vals2_len, hlA]; simp
    by_cases hj : j < l.length * 2
    · rw [List.getElem?_take_of_lt hj, Array.getElem?_toList]
      have hjc : j < cur.size := by
        have : l.length * 2 ≤ cap * 2 := Nat.mul_le_mul_right _ hc1
        omega
      by_cases hjF : j < F.size
      · rw [List.getElem?_append_left (by simpa using hjF), Array.getElem?_toList]
        simp [putCells, hjF, hjc]
      · rw [List.getElem?_append_right (by simpa using Nat.le_of_not_lt hjF)]
        have h3 : (cur.toList.take (l.length * 2))[j]? = (vals2 l)[j]? := by rw [htk]
        rw [List.getElem?_take_of_lt hj, hvA, List.getElem?_append_right (by rw [vals2_len]; omega), Array.getElem?_toList, vals2_len] at h3
        rw [Array.length_toList, hFs, ← h3]
        simp [putCells, hjF, hjc]
    · rw [List.getElem?_take_eq_none (by omega), List.getElem?_eq_none (by rw [List.length_append, Array.length_toList, hR, hFs]; omega)]
  have hIm : ∀ a, Im a → a.block ≠ g := fun a ha hb => by
    have := ((hblk g rfl).1 a ha hb).1
    cases this
  have hcell : ∀ a, Im a → w'.cell? a = w.cell? a := fun a ha => World.cell?_of_block (hother _ (hs.imlt a ha).1 (hIm a ha))
  rw [← hw']
  have hbl : Go.RowKit.Below base w w' := ⟨by rw [hw2]; rfl, by rw [hw2]; rfl, by rw [hw2]; rfl, hsize, fun k hk => hother k (Nat.lt_of_lt_of_le hk hs.hb) (by omega)⟩
  have hbe : ∀ l'' : List N, l''.length = l.length → (Entry.row e 2 (numEls l'') false).block κ i = some g := fun l'' hl'' => by
    simp [Entry.block, numEls_len, hl'', hκ, Value.ownBlock]
  refine ⟨hs.set he (.row e 2 (numEls l') false) (fun _ _ _ h => h) (fun _ _ _ h => .inl h) (by simp [Entry.ver, numEls_len, hll]) (fun _ h => h) hcell (fun _ h => .inl h) hsize (fun k hk hne2 => hother k hk fun h => hne2 (by rw [hbe l rfl, h])) ?_ (fun b hb => .inr (by rw [hbe l rfl, ← hb, hbe l' hll])), ⟨fun _ _ _ h => h, fun _ h => h, hcell, fun _ h => .inl h, hbl⟩⟩
  unfold EOK
  refine ⟨.slice (some ⟨g, 0, none⟩) l.length cap, vals2 l', by rw [numEls_len, hll]; exact hκ, ⟨by rw [vals2_len, numEls_len], .inr ⟨g, cap, _, by rw [numEls_len, hll], hbase, hheap, by rw [numEls_len, hll]; exact hc1, hc2, by simp [putCells, hc3], by rw [numEls_len, hll]; exact htake⟩⟩, vals2_vr l', by decide, numEls_two l', numEls_one l', fun h => (by cases h), ?_⟩
  rw [numEls_len, hll]
  exact hblk
end Go.Abs
end
section
set_option maxHeartbeats 2000000
namespace Go.Proofs.YtdgpnmlialmaaaaGreatDoor
open Go.Shelf Go.RowKit Go.Lib Go.Sort Go.Proofs Go.Num
theorem ltV (x y : N) : ltOf (fun x y : N => Lib.compareInt x.2 y.2) x y = decide (x.2 < y.2) := by
  unfold ltOf Lib.compareInt
  by_cases h1 : x.2 < y.2
  · simp [h1]
  · by_cases h2 : y.2 < x.2 <;> simp [h1, h2]
/-- 'cmp.Compare(a.V, b.V) < 0' is a strict weak order. -/
theorem swoV : SWO (ltOf fun x y : N => Lib.compareInt x.2 y.2) where
  irrefl x := by rw [ltV]; simp
  trans x y z h1 h2 := by rw [ltV] at *; simp at *; omega
  ntrans x y z h1 h2 := by rw [ltV] at *; simp at *; omega
set_option maxHeartbeats 1000000 in
theorem rising1_lays (x y : N) (W : World) : Calls Tryz.prog 105 #[.agg #[.bool x.1, .int .i64 x.2], .agg #[.bool y.1, .int .i64 y.2]] W fun e w' => e = .returned (.int .i64 (Lib.compareInt x.2 y.2)) ∧ ∃ q os', w' = grow (W.drewN q) os' := by
  have hcon := fun W' => Tryz.cmp_Compare_int x.2 y.2 W'
  generalize Lib.compareInt x.2 y.2 = r at hcon ⊢
  go_enter Tryz.func105, Tryz.ntmps105
  go_wp2_with (go_at_call 106; refine (hcon _).mono ?_; rintro e w' ⟨rfl, rfl⟩)
  go_ret
  exact ⟨rfl, 0, _, by rw [alloc_eq_grow, alloc_eq_grow, grow_grow]; rfl⟩
theorem rising1_cmp (blk off size : Nat) (w : World) : CmpLays Tryz.prog 105 #[] Go.Abs.encN 2 (fun x y => Lib.compareInt x.2 y.2) blk off size w :=
  fun _ _ _ _ x y => rising1_lays x y _
theorem perm_of {l : List N} {d : Array N} (h : PermIn 0 l.toArray.size l.toArray d) : d.toList.Perm l := by
  obtain ⟨h1, _, h3⟩ := h
  have e1 : (d.extract 0 l.toArray.size).toList = d.toList := by
    rw [← h1]; simp
  have e2 : (l.toArray.extract 0 l.toArray.size).toList = l := by simp
  rw [e1, e2] at h3
  exact h3
theorem sorted_of {l : List N} {d : Array N} (hs : d.size = l.length) (h : SortedIn (ltOf fun x y : N => Lib.compareInt x.2 y.2) 0 l.toArray.size d) : d.toList.Pairwise fun a b => a.2 ≤ b.2 := by
  rw [List.pairwise_iff_getElem]
  intro i j hi hj hij
  have hj' : j < d.size := by simpa using hj
  have hi' : i < d.size := by simpa using hi
  have := h i j (Nat.zero_le _) hij (by simpa [hs] using hj')
  rw [ltV, getElem!_pos d j hj', getElem!_pos d i hi'] at this
  simpa using this
open Go.Abs in
variable {G : Globs} in
/-- Of a row, or of its beginning: the values that stand there come to stand sorted. -/
theorem sortFunc_ok {σ : Store} {id e : Nat} {A R : List N} {X : AV} (hX : (X = .row id (A ++ R).length ∧ R = []) ∨ X = .sub id (A ++ R).length 2 0 A.length) (he : σ[id]? = some (.row e 2 (numEls (A ++ R)) false)) (hA : A ≠ []) (hl : A.length < 4611686018427387904) :
    ACalls Tryz.prog 104 [X, .fn (.func 105) [] []] σ fun r σ' => r = .tup [] ∧ ∃ A' : List N, A'.Perm A ∧ (A'.Pairwise fun a b => a.2 ≤ b.2) ∧ σ' = σ.set id (.row e 2 (numEls (A' ++ R)) false) := by
  intro base κ Im w vs hs hv
  have hne : A ++ R ≠ [] := fun h => hA (List.append_eq_nil_iff.1 h).1
  have hA0 : 0 < A.length := List.length_pos_iff.2 hA
  obtain ⟨g, cap, hκ, hg, hH, hall⟩ := srel_sorted (A := A) (R := R) rfl hs he hne
  obtain ⟨u0, hu0, hv0⟩ := hv.get? (i := 0) (a := X) rfl
  obtain ⟨u1, hu1, hv1⟩ := hv.get? (i := 1) (a := .fn (.func 105) [] []) rfl
  obtain ⟨c0, hu⟩ : ∃ c0, u0 = .slice (some ⟨g, 0, none⟩) A.length c0 := by
    rcases hX with ⟨rfl, hR⟩ | rfl
    · obtain ⟨_, _, _, hk⟩ := hv0.row_inv
      rw [hκ] at hk
      have := Option.some.inj hk
      subst hR
      exact ⟨cap, by rw [← this]; simp⟩
    · obtain ⟨b, cap2, ad, c, rfl, hk, _, _, had, _, _, _⟩ := hv0.sub_inv
      have hkk := hκ.symm.trans hk
      simp only [Option.some.injEq, Value.slice.injEq, Addr.mk.injEq, true_and, and_true] at hkk
      rw [had hA0, ← hkk.1]
      exact ⟨c, by simp⟩
  subst hu
  obtain ⟨fs, us, rfl, hfs, hus⟩ := hv1.fn_inv
  have hfs0 : fs = [] := List.eq_nil_of_length_eq_zero hfs.1.symm
  have hus0 : us = [] := List.eq_nil_of_length_eq_zero hus.1.symm
  subst hfs0; subst hus0
  have hvs : vs = [.slice (some ⟨g, 0, none⟩) A.length c0, .func (.func 105) #[] #[]] := by
    have hlen := hv.1
    match vs, hlen with
    | [a, b], _ =>
      simp at hu0 hu1
      rw [hu0, hu1]
  subst hvs
  have eg : ∀ args w, (callFunc 105 args).run Tryz.prog w = .ok (.enter 105 args) w := enters_of Tryz.func105 (by kernel_rfl) rfl
  have hc := AnyQ.slices_SortFunc Tryz.sortNum 2 Tryz.isAgg35 Tryz.sizeOf35 encN (fun _ => rfl) (fun x v hv => by simp [encN] at hv; rcases hv with rfl | rfl <;> rfl) (fun x y => Lib.compareInt x.2 y.2) swoV 105 #[] g 0 c0 A.toArray w eg (rising1_cmp g 0 _ w) hH hg (by simpa using hl)
  refine Calls.mono hc ?_
  rintro e' w' ⟨rfl, d', n, os, hp, hsd, rfl⟩
  have hsz : d'.size = A.length := by simpa using hp.1
  obtain ⟨h1, h2⟩ := hall d'.toList n os (by simpa using hsz)
  have hd : d'.toList.toArray = d' := by simp
  rw [hd] at h1 h2
  exact ⟨.tup [], _, .tuple #[], κ, Im, rfl, ⟨rfl, d'.toList, perm_of hp, sorted_of hsz hsd, rfl⟩, h1, h2, .im _ _ (by first | exact .tup _ _ rfl (fun j h => by simp at h) | constructor <;> simp)⟩
end Go.Proofs.YtdgpnmlialmaaaaGreatDoor
end
section
set_option maxHeartbeats 2000000
namespace Go.Proofs.YtdgpnmlialmaaaaGreatDoor
open Go.Abs Go.Num Go.Ser Go.Ble
variable {G : Globs}
theorem bUnknown_ok (n : N) (h : okN n) : PCalls Tryz.prog n_blend_unknown [numA n] (fun r => r = .bool (!good n)) := by
  refine pcalls_of_awp hmix c_blend_unknown rfl ?_
  have k := fRight_ok (G := G) n
  have hg := right_good n
  rw [numA_eq] at k ⊢
  obtain ⟨b, v⟩ := n
  simp [a_blend_unknown]
  cases b
  · simp
    refine ac_same k (by simp) ?_
    rintro r rfl
    simp at hg
    simp [hg]
  · simp at hg
    simp [hg]
theorem bKnown_ok (l : List N) (hok : oksN l) (hl : l.length ≤ 1000000000) : PCalls Tryz.prog n_blend_known [.lst (numEls l)] (fun r => r = .lst (numEls (known l))) := by
  refine pcalls_of_awp hmix c_blend_known rfl ?_
  by_cases h0 : l = []
  · subst h0
    have e : numEls [] = [] := rfl
    rw [e]
    simp [a_blend_known]
    refine ac_same clone_nil (by simp) ?_
    rintro r rfl
    simp
    refine ac_same (deleteNil_ok (fun n => !good n) n_blend_unknown b_blend_unknown) (by simp) ?_
    rintro r rfl
    simp [known, numEls]
  · simp [a_blend_known]
    refine ac_eff (clone_cons l h0 hl) ?_
    rintro r σ' ⟨rfl, rfl⟩
    simp
    refine ac_eff (delete_ok l h0 hl (fun n => !good n) n_blend_unknown b_blend_unknown (fun n hn => bUnknown_ok n (hok n hn))) ?_
    rintro r σ' ⟨X, rfl, hX, hr⟩
    rw [known_nots] at hr
    rcases hr with ⟨rfl, rfl⟩ | ⟨rfl, hX2⟩
    · simp
      rw [← hX]
      simp [numEls_len, numEls_fz]
    · simp
      have e := numEls_two X
      simp [numEls_len, hX, numEls_fz, numEls_take, hX2]
      rw [if_pos e]; simp
/-- The known values, in a row of the caller's own. -/
theorem bKnown_row (l : List N) (h0 : l ≠ []) (hok : oksN l) (hl : l.length ≤ 1000000000) : ACalls Tryz.prog n_blend_known [.lst (numEls l)] [] (fun r σ' => ∃ X : List N, σ' = [.row 35 2 (numEls X) false] ∧ X.length = l.length ∧ ((r = .row 0 l.length ∧ X = known l) ∨ (r = .sub 0 l.length 2 0 (known l).length ∧ X.take (known l).length = known l))) := by
  refine acalls_of_awp_e hmix c_blend_known rfl ?_
  simp [a_blend_known]
  refine ac_eff (clone_cons l h0 hl) ?_
  rintro r σ' ⟨rfl, rfl⟩
  simp
  refine ac_eff (delete_ok l h0 hl (fun n => !good n) n_blend_unknown b_blend_unknown (fun n hn => bUnknown_ok n (hok n hn))) ?_
  rintro r σ' ⟨X, rfl, hX, hr⟩
  rw [known_nots] at hr
  simp
  refine er_keep [.row 35 2 (numEls X) false] r (by rcases hr with ⟨rfl, _⟩ | ⟨rfl, _⟩ <;> simp [tupOf]) [] (by simp) (by simp) (by rcases hr with ⟨rfl, _⟩ | ⟨rfl, _⟩ <;> simp [AV.under]) (fun i e he => ?_) ⟨X, rfl, hX, hr⟩
  refine .inr ?_
  match i, he with
  | 0, he =>
    simp only [List.getElem?_cons_zero, Option.some.injEq] at he
    subst he
    exact row_under (numEls_pure _)
  | i + 1, he => simp at he
end Go.Proofs.YtdgpnmlialmaaaaGreatDoor
end
section
set_option maxHeartbeats 4000000
namespace Go.Ble
open Go.Num Go.Ser
theorem togN_take {l : List Sr} {k i : Nat} {s : Sr} (h : l[i]? = some s) : togN (l.take (i + 1)) k = togN (l.take i) k ++ [s.vals.getD k nothing] := by
  unfold togN; rw [List.take_add_one, h]; simp
theorem togN_len (l : List Sr) (k : Nat) : (togN l k).length = l.length := by simp [togN]
end Go.Ble
namespace Go.Proofs.YtdgpnmlialmaaaaGreatDoor
open Go.Abs Go.Num Go.Ser Go.Ble
variable {G : Globs}
theorem numEls_app1 (l : List N) (n : N) : numEls l ++ [[.bool n.1, .int .i64 n.2]] = numEls (l ++ [n]) := by simp [numEls]
theorem bTogether_ok (name : List UInt8) (s0 : Sr) (l : List Sr) (hl : l.length ≤ 1000000) (hv : ∀ s ∈ s0 :: l, s.vals.length = s0.vals.length) (hn : s0.vals.length ≤ 1000000) (fN : List N → N) (g : Nat) (hb : hasBody Tryz.prog g = true) (σ : Store) (caps caps' : List AV)
    (hc : ∀ τ, CoeL (σ ++ τ) true caps caps') (hg : ∀ k, k < s0.vals.length → PCalls Tryz.prog g (.lst (numEls (togN (s0 :: l) k)) :: caps') (fun r => r = numA (fN (togN (s0 :: l) k)))) :
    ACalls Tryz.prog n_blend_together [.str name, serL (s0 :: l), .fn (.func g) [] caps] σ (fun r σ' => σ' = σ ∧ r = srA (oneG name fN (s0 :: l))) := by
  refine acalls_of_awp_e hmix c_blend_together rfl ?_
  obtain ⟨L, hL⟩ : ∃ L, L = s0 :: l := ⟨_, rfl⟩
  have hLl : L.length ≤ 1000001 := by rw [hL]; simp; omega
  have hle := serEls_len L
  have h00 : L[0]? = some s0 := by rw [hL]; rfl
  have hse0 := serEls_get h00
  obtain ⟨hz1, hz2⟩ := List.getElem?_eq_some_iff.1 hse0
  have hL0 : 0 < L.length := by rw [hL]; simp
  obtain ⟨n, hnn⟩ : ∃ n, n = s0.vals.length := ⟨_, rfl⟩
  rw [← hnn] at hv hn hg
  obtain ⟨tg, htg⟩ : ∃ tg : Nat → List N, tg = fun k => togN L k := ⟨_, rfl⟩
  obtain ⟨F, hF⟩ : ∃ F : Nat → N, F = fun k => fN (togN L k) := ⟨_, rfl⟩
  have hG : oneG name fN L = ⟨name, s0.start, s0.step, (List.range n).map F⟩ := by rw [hL, hF, hL, hnn]; rfl
  rw [← hL] at hv hg ⊢
  unfold serL
  rw [hG]
  have hn0 := numEls_len s0.vals
  rw [← hnn] at hn0
  simp [a_blend_together, hL0, hle, hz1, hz2, hn0, pre_get0, pre_get1, pre_set0, pre_set1]
  refine lp_startx (fun x f σ' => ∃ (k : Nat) (V : AV) (τ : Store), x = n - k ∧ k ≤ n ∧ f 1 = .lst (serEls L) ∧ f 2 = .fn (.func g) [] caps ∧ f 6 = .ptr σ.length 0 ∧ f 7 = .ptr (σ.length + 1) 0 ∧ f 26 = .int .i64 n ∧ f 27 = .int .i64 k ∧ AccT 35 2 (σ.length + 2) τ V (numEls ((List.range k).map F)) ∧
    σ' = σ ++ .var 41 [.str [], .int .i64 0, .int .i64 0, .nils] :: .var 41 [.str name, .int .i64 s0.start, .int .i64 s0.step, V] :: τ) n ?_ ?_
  · exact ⟨0, .nils, [], by simp, by simp, by simp, by simp, by simp, by simp, by simp, by simp, accT_nil, by simp [splice]⟩
  rintro x f σ' ⟨k, V, τ, hx, hk, f1, f2, f6, f7, f26, f27, hacc, rfl⟩
  simp [f26, f27]
  refine cb_dec (fun hlt => ?_) (fun hge => ?_)
  · have hlt' : k < n := by omega
    have hwk : IntKind.i64.wrap ((k : Int) + 1) = ((k + 1 : Nat) : Int) := by rw [wrap_i64 (by omega) (by omega)]; omega
    obtain ⟨Q, hQ⟩ : ∃ Q, Q = σ ++ Entry.var 41 [.str [], .int .i64 0, .int .i64 0, .nils] :: Entry.var 41 [.str name, .int .i64 s0.start, .int .i64 s0.step, V] :: τ := ⟨_, rfl⟩
    rw [← hQ]
    simp [f1, f27, hle]
    refine lp_startx (fun x f' σ' => ∃ (i : Nat) (W : AV) (τ2 : Store), x = L.length - i ∧ i ≤ L.length ∧ f' 1 = .lst (serEls L) ∧ f' 2 = .fn (.func g) [] caps ∧ f' 6 = .ptr σ.length 0 ∧ f' 7 = .ptr (σ.length + 1) 0 ∧ f' 8 = .int .i64 k ∧ f' 9 = W ∧ f' 26 = .int .i64 n ∧ f' 27 = .int .i64 k ∧ f' 30 = .lst (serEls L) ∧ f' 31 = .int .i64 L.length ∧ f' 32 = .int .i64 i ∧
      AccT 35 2 Q.length τ2 W (numEls (togN (L.take i) k)) ∧ σ' = Q ++ τ2) L.length ?_ ?_
    · exact ⟨0, .nils, [], by simp, by simp, by simp [f1], by simp [f2], by simp [f6], by simp [f7], by simp, by simp, by simp [f26], by simp [f27], by simp [f1], by simp [hle], by simp, accT_nil, by simp⟩
    rintro x f' σ' ⟨i, W, τ2, hx', hi, g1, g2, g6, g7, g8, g9, g26, g27, g30, g31, g32, hacc2, rfl⟩
    simp [g31, g32]
    refine cb_dec (fun hlt2 => ?_) (fun hge2 => ?_)
    · have hlti : i < L.length := by omega
      have hwi : IntKind.i64.wrap ((i : Int) + 1) = ((i + 1 : Nat) : Int) := by rw [wrap_i64 (by omega) (by omega)]; omega
      obtain ⟨y, hy⟩ : ∃ y, L[i]? = some y := ⟨_, List.getElem?_eq_getElem hlti⟩
      have hse := serEls_get hy
      obtain ⟨hx1, hx2⟩ := List.getElem?_eq_some_iff.1 hse
      have hyv := hv y (List.mem_of_getElem? hy)
      obtain ⟨v, hvv⟩ : ∃ v, y.vals[k]? = some v := ⟨_, List.getElem?_eq_getElem (by omega)⟩
      have hvg := numEls_get hvv
      obtain ⟨hv1, hv2⟩ := List.getElem?_eq_some_iff.1 hvg
      have hgd : y.vals.getD k nothing = v := by rw [List.getD_eq_getElem?_getD, hvv]; rfl
      have hyl := numEls_len y.vals
      have htl : (numEls (togN (L.take i) k)).length = i := by rw [numEls_len, togN_len, List.length_take]; omega
      simp [g8, g9, g30, g32, hx1, hx2, end_get, end_set, splice, hyl, hvg, hv1, hv2]
      refine ap_accT (bytes := 16) (hacc2.more [_]) [.bool v.1, .int .i64 v.2] (by decide) rfl (by rw [htl]; omega) (by rw [htl]; omega) fun W' τ3 hacc3 hlen hkeep => ?_
      simp [g32, hwi]
      refine nx_intro (L.length - (i + 1)) (by omega) ⟨i + 1, W', τ3, rfl, by omega, by simp [g1], by simp [g2], by simp [g6], by simp [g7], by simp [g8], by simp, by simp [g26], by simp [g27], by simp [g30], by simp [g31], by simp, ?_, rfl⟩
      rw [togN_take hy, hgd, ← numEls_app1]; exact hacc3
    · have hil : i = L.length := by omega
      subst hil
      rw [List.take_length] at hacc2
      have hcW := hacc2.coe true
      have e1 : Q ++ τ2 = σ ++ Entry.var 41 [.str [], .int .i64 0, .int .i64 0, .nils] :: Entry.var 41 [.str name, .int .i64 s0.start, .int .i64 s0.step, V] :: (τ ++ τ2) := by rw [hQ]; simp
      have hcC := hc (Entry.var 41 [.str [], .int .i64 0, .int .i64 0, .nils] :: Entry.var 41 [.str name, .int .i64 s0.start, .int .i64 s0.step, V] :: (τ ++ τ2))
      rw [e1] at hcW ⊢
      have hkg := hg k hlt'
      obtain ⟨z, hz⟩ : ∃ z, z = fN (togN L k) := ⟨_, rfl⟩
      have hFz : F k = z := by rw [hF, hz]
      rw [← hz, numA_eq] at hkg
      have hVl : (numEls ((List.range k).map F)).length = k := by rw [numEls_len]; simp
      simp [g2, g7, g9, pre_get0, pre_get1, pre_set0, pre_set1]
      refine qv_fn hb ?_
      refine qc_lent hkg (by simpa using CoeL.cons hcW hcC) (by simp [rig]) ?_
      have e2 : ∀ t : Store, σ ++ Entry.var 41 [.str [], .int .i64 0, .int .i64 0, .nils] :: Entry.var 41 [.str name, .int .i64 s0.start, .int .i64 s0.step, V] :: t = (σ ++ [Entry.var 41 [.str [], .int .i64 0, .int .i64 0, .nils], Entry.var 41 [.str name, .int .i64 s0.start, .int .i64 s0.step, V]]) ++ t := fun t => by simp
      simp
      rw [e2]
      refine ap_accT (bytes := 16) (l := numEls ((List.range k).map F)) (by simpa using hacc.more τ2) [.bool z.1, .int .i64 z.2] (by decide) rfl (by rw [hVl]; omega) (by rw [hVl]; omega) fun V' τ3 hacc3 hlen hkeep => ?_
      obtain ⟨c1, c2, c3⟩ := hacc3.pos
      rw [← e2]
      have hr : numEls ((List.range k).map F) ++ [[.bool z.1, .int .i64 z.2]] = numEls ((List.range (k + 1)).map F) := by rw [List.range_succ, List.map_append, List.map_singleton, hFz, ← numEls_app1]
      rw [hr] at hacc3
      simp [g7, g27, pre_get0, pre_get1, pre_set0, pre_set1, splice, hwk, c1, c2]
      exact nx_intro (n - (k + 1)) (by omega) ⟨k + 1, V', τ3, rfl, by omega, by simp [g1], by simp [g2], by simp [g6], by simp [g7], by simp [g26], by simp, by simpa using hacc3, rfl⟩
  · have hkn : k = n := by omega
    subst hkn
    have e2 : ∀ t : Store, σ ++ Entry.var 41 [.str name, .int .i64 s0.start, .int .i64 s0.step, V] :: Entry.var 41 [.str name, .int .i64 s0.start, .int .i64 s0.step, V] :: t = (σ ++ [Entry.var 41 [.str name, .int .i64 s0.start, .int .i64 s0.step, V], Entry.var 41 [.str name, .int .i64 s0.start, .int .i64 s0.step, V]]) ++ t := fun t => by simp
    obtain ⟨c1, c2, c3⟩ := hacc.pos
    have hf1 := AccT.fin1 (σ := σ ++ [Entry.var 41 [.str name, .int .i64 s0.start, .int .i64 s0.step, V], Entry.var 41 [.str name, .int .i64 s0.start, .int .i64 s0.step, V]]) (by simpa using hacc) σ.length
    rw [← e2] at hf1
    simp [f6, f7, pre_get0, pre_get1, pre_set0, pre_set1, splice, c1, c2]
    refine er_intro σ (srA ⟨name, s0.start, s0.step, (List.range k).map F⟩) ?_ _ rfl rfl (fun i e he => .inl he) ⟨rfl, rfl⟩
    simp [retAt, f6, pre_get0, hf1, srA_eq, finL, finT, fin, tupOf, evalRes]
end Go.Proofs.YtdgpnmlialmaaaaGreatDoor
end
section
set_option maxHeartbeats 2000000
namespace Go.Proofs.YtdgpnmlialmaaaaGreatDoor
open Go.Abs Go.Num Go.Ser Go.Ble
variable {G : Globs}
theorem sortNone_ok {σ : Store} {X : AV} (hX : X = .lst [] ∨ ∃ id n, X = .sub id n 2 0 0) :
    ACalls Tryz.prog 104 [X, .fn (.func 105) [] []] σ fun r σ' => r = .tup [] ∧ σ' = σ := by
  intro base κ Im w vs hs hv
  obtain ⟨u0, hu0, hv0⟩ := hv.get? (i := 0) (a := X) rfl
  obtain ⟨p, c0, hu⟩ : ∃ p c0, u0 = .slice p 0 c0 := by
    rcases hX with rfl | ⟨id, n, rfl⟩
    · rcases hv0.lst_inv with ⟨⟨g, rfl⟩, _⟩ | ⟨size, b, o, cap, vals, h, _⟩
      · exact ⟨_, _, rfl⟩
      · exact ⟨_, _, h⟩
    · obtain ⟨b, cap2, ad, c, rfl, _⟩ := hv0.sub_inv
      exact ⟨_, _, rfl⟩
  subst hu
  have hvs : ∃ u1, vs = [.slice p 0 c0, u1] := by
    have hlen := hv.1
    match vs, hlen with
    | [a, b], _ =>
      simp at hu0
      exact ⟨b, by rw [hu0]⟩
  obtain ⟨u1, rfl⟩ := hvs
  refine Calls.mono (AnyF.slices_SortFunc_none Tryz.sortNum p c0 u1 w) ?_
  rintro e' w' ⟨rfl, rfl⟩
  exact ⟨.tup [], _, .tuple #[], κ, Im, rfl, ⟨rfl, rfl⟩, hs, Grow.refl _ _ _ _, .im _ _ (by first | exact .tup _ _ rfl (fun j h => by simp at h) | constructor <;> simp)⟩
theorem bRising_ok (l : List N) (hok : oksN l) (hl : l.length ≤ 1000000000) : PCalls Tryz.prog n_blend_rising [.lst (numEls l)] (fun r => r = .lst (numEls (risingS l))) := by
  refine pcalls_of_awp hmix c_blend_rising rfl ?_
  have e0 : numEls [] = [] := rfl
  by_cases h0 : l = []
  · subst h0
    have k := bKnown_ok (G := G) [] (by intro n hn; simp at hn) (by simp)
    have e1 : known [] = [] := rfl
    have e2 : risingS [] = [] := List.eq_nil_of_length_eq_zero (by rw [rising_len]; rfl)
    rw [e1, e0] at k
    rw [e0, e2, e0]
    simp [a_blend_rising]
    refine ac_same k (by simp) ?_
    rintro r rfl
    simp
    refine ac_eff (sortNone_ok (.inl rfl)) ?_
    rintro r σ' ⟨rfl, rfl⟩
    simp
  · simp [a_blend_rising]
    refine ac_eff (bKnown_row l h0 hok hl) ?_
    rintro r σ' ⟨X, rfl, hX, hr⟩
    have hkl : (known l).length ≤ l.length := List.length_filter_le _ _
    by_cases hk : known l = []
    · rcases hr with ⟨rfl, rfl⟩ | ⟨rfl, hX2⟩
      · rw [hk] at hX; simp at hX; exact absurd hX.symm (by simpa using h0)
      · have e2 : risingS l = [] := List.eq_nil_of_length_eq_zero (by rw [rising_len, hk]; rfl)
        rw [hk, e2, e0]
        simp
        refine ac_eff (sortNone_ok (.inr ⟨_, _, rfl⟩)) ?_
        rintro r σ' ⟨rfl, rfl⟩
        have e := numEls_two X
        simp [numEls_len, hX, numEls_fz, numEls_take]
        rw [if_pos e]; simp
    · rcases hr with ⟨rfl, rfl⟩ | ⟨rfl, hX2⟩
      · have hlk : (known l).length = l.length := hX
        simp
        refine ac_eff (sortFunc_ok (id := 0) (e := 35) (A := known l) (R := []) (.inl ⟨by simp [hlk], rfl⟩) (by simp) hk (by omega)) ?_
        rintro r σ' ⟨rfl, A', hp, hsd, rfl⟩
        have hA := rising_eq hp hsd
        subst hA
        have hrl := rising_len l
        simp [numEls_len, numEls_fz, hrl, hlk]
      · have hXA : X = known l ++ X.drop (known l).length := by rw [← hX2, List.length_take, Nat.min_eq_left (by omega), List.take_append_drop]
        obtain ⟨T, hT⟩ : ∃ T, T = X.drop (known l).length := ⟨_, rfl⟩
        rw [← hT] at hXA
        subst hXA
        simp
        refine ac_eff (sortFunc_ok (id := 0) (e := 35) (A := known l) (R := T) (.inr (by rw [hX])) (by simp) hk (by omega)) ?_
        rintro r σ' ⟨rfl, A', hp, hsd, rfl⟩
        have hA := rising_eq hp hsd
        subst hA
        have hrl := rising_len l
        have e := numEls_two (risingS l ++ T)
        have hX' : (risingS l ++ T).length = l.length := by simp [hrl]; simpa using hX
        simp [numEls_len, hX', numEls_fz, numEls_take, hrl]
        rw [if_pos e]; simp
end Go.Proofs.YtdgpnmlialmaaaaGreatDoor
end
section
set_option maxHeartbeats 2000000
namespace Go.Num
end Go.Num
namespace Go.Proofs.YtdgpnmlialmaaaaGreatDoor
open Go.Abs Go.Num
variable {G : Globs}
theorem fNeg_ok (a : N) (ha : okN a) : PCalls Tryz.prog n_fixed_Neg [numA a] (fun r => r = numA (negN a)) := by
  refine pcalls_of_awp hmix c_fixed_Neg rfl ?_
  have kt := there_ok (G := G) a
  rw [numA_eq a] at kt ⊢
  simp [a_fixed_Neg]
  refine ac_same kt (by simp) ?_
  rintro r rfl
  cases hg : good a with
  | false =>
    simp
    refine ac_same nothing_ok (by simp) ?_
    rintro r rfl
    simp [negN, hg, numA, splice]
  | true =>
    obtain ⟨_, h2⟩ := good_iff.1 hg
    obtain ⟨a1, a2⟩ := ha
    simp only [most] at h2
    have hw : IntKind.i64.wrap (0 - a.2) = -a.2 := by rw [wrap_i (by omega) (by omega)]; omega
    have hw2 : IntKind.i64.wrap (-a.2) = -a.2 := wrap_i (by omega) (by omega)
    simp [hw, hw2, negN, hg, numA, splice]
theorem fSub_ok (a b : N) (ha : okN a) (hb : okN b) : PCalls Tryz.prog n_fixed_Sub [numA a, numA b] (fun r => r = numA (subN a b)) := by
  refine pcalls_of_awp hmix c_fixed_Sub rfl ?_
  have kn := fNeg_ok (G := G) b hb
  have ka := fAdd_ok (G := G) a (negN b) ha (ok_neg b hb)
  obtain ⟨n, hn⟩ : ∃ n, n = negN b := ⟨_, rfl⟩
  have hs : subN a b = addN a n := by rw [subN, hn]
  rw [← hn] at kn ka
  rw [hs]
  rw [numA_eq b, numA_eq n] at kn
  rw [numA_eq a, numA_eq n] at ka
  rw [numA_eq a, numA_eq b]
  simp [a_fixed_Sub]
  refine qc_same kn (by simp) (by simp) ?_
  simp
  refine qc_same ka (by simp) (by simp [numA]) ?_
  simp [numA, splice]
theorem fMul_ok (a b : N) (ha : okN a) (hb : okN b) : PCalls Tryz.prog n_fixed_Mul [numA a, numA b] (fun r => r = numA (mulN a b)) := by
  refine pcalls_of_awp hmix c_fixed_Mul rfl ?_
  obtain ⟨a1, a2⟩ := ha
  obtain ⟨b1, b2⟩ := hb
  simp [a_fixed_Mul, numA]
  refine ac_same (there_ok a) (by simp [numA]) ?_
  rintro r rfl
  cases hga : good a with
  | false =>
    simp
    refine ac_same nothing_ok (by simp) ?_
    rintro r rfl
    simp [mulN, hga, numA]
  | true =>
    simp
    refine ac_same (there_ok b) (by simp [numA]) ?_
    rintro r rfl
    cases hgb : good b with
    | false =>
      simp
      refine ac_same nothing_ok (by simp) ?_
      rintro r rfl
      simp [mulN, hga, hgb, numA]
    | true =>
      have va := (good_iff.1 hga).2
      have vb := (good_iff.1 hgb).2
      simp only [most] at va vb
      simp
      refine ac_same (size_ok a va a2) (by simp [numA]) ?_
      rintro r rfl
      simp
      refine ac_same (size_ok b vb b2) (by simp [numA]) ?_
      rintro r rfl
      simp
      refine ac_same (quotient_ok a.2.natAbs b.2.natAbs 1000000 (by omega) (by omega) (by omega) (decide (a.2 < 0) != decide (b.2 < 0))) (by simp) ?_
      rintro r rfl
      simp [mulN, hga, hgb, numA]
end Go.Proofs.YtdgpnmlialmaaaaGreatDoor
end
section
set_option maxHeartbeats 2000000
namespace Go.Proofs.YtdgpnmlialmaaaaGreatDoor
open Go.Abs Go.Num
variable {G : Globs}
end Go.Proofs.YtdgpnmlialmaaaaGreatDoor
end
section
set_option maxHeartbeats 2000000
namespace Go.Proofs.YtdgpnmlialmaaaaGreatDoor
open Go.Abs Go.Num Go.Ser Go.Ble
variable {G : Globs}
theorem bNothing_ok : PCalls Tryz.prog n_blend_nothing [] (fun r => r = numA nothing) := by
  refine pcalls_of_awp hmix c_blend_nothing rfl ?_
  simp [a_blend_nothing, numA, nothing, lay, splice]
theorem rising_oks {l : List N} (h : oksN l) : oksN (risingS l) := fun n hn => known_oks h n ((rising_perm l).mem_iff.1 hn)
theorem bMiddle_ok (l : List N) (hok : oksN l) (hl : l.length ≤ 1000000000) : PCalls Tryz.prog n_blend_Middle [.lst (numEls l)] (fun r => r = numA (middleS l)) := by
  refine pcalls_of_awp hmix c_blend_Middle rfl ?_
  have kR := bRising_ok (G := G) l hok hl
  have hko := rising_oks hok
  have hkl : (risingS l).length ≤ l.length := by rw [rising_len]; exact List.length_filter_le _ _
  obtain ⟨R, hR⟩ : ∃ R, R = middleS l := ⟨_, rfl⟩
  rw [← hR]
  unfold middleS at hR
  obtain ⟨k, hk⟩ : ∃ k, k = risingS l := ⟨_, rfl⟩
  rw [← hk] at kR hko hkl hR
  have hlen := numEls_len k
  simp [a_blend_Middle]
  refine ac_same kR (by simp) ?_
  rintro r rfl
  by_cases h0 : k = []
  · rw [if_pos h0] at hR
    have kN := bNothing_ok (G := G)
    rw [numA_eq] at kN
    subst h0
    subst hR
    have e0 : numEls [] = [] := rfl
    simp [e0]
    refine ac_same kN (by simp) ?_
    rintro r rfl
    simp [splice, numA]
  · rw [if_neg h0] at hR
    have hpos : 0 < k.length := List.length_pos_iff.2 h0
    have hne : ¬ (k.length : Int) = 0 := by omega
    have htm : ((k.length : Nat) : Int).tmod 2 = ((k.length % 2 : Nat) : Int) := by rw [Int.tmod_eq_emod_of_nonneg (by omega)]; omega
    have htd : ((k.length : Nat) : Int).tdiv 2 = ((k.length / 2 : Nat) : Int) := by rw [Int.tdiv_eq_ediv_of_nonneg (by omega)]; omega
    obtain ⟨m, hm⟩ : ∃ m, m = k.length / 2 := ⟨_, rfl⟩
    have hmk : m < k.length := by omega
    obtain ⟨y, hy⟩ : ∃ y, k[m]? = some y := ⟨_, List.getElem?_eq_getElem hmk⟩
    have hgy : k.getD m nothing = y := by rw [List.getD_eq_getElem?_getD, hy]; rfl
    obtain ⟨hx1, hx2⟩ := List.getElem?_eq_some_iff.1 (numEls_get hy)
    have wm : IntKind.i64.wrap (m : Int) = (m : Int) := wrap_i64 (by omega) (by omega)
    rw [← hm] at htd hR
    rw [hgy] at hR
    by_cases hodd : k.length % 2 = 1
    · rw [if_pos hodd] at hR
      subst hR
      rw [hodd] at htm
      simp [hlen, hne, h0, htm, htd, wm, hmk, hx1, hx2, splice, numA]
    · rw [if_neg hodd] at hR
      have hev : k.length % 2 = 0 := by omega
      rw [hev] at htm
      obtain ⟨q, hq⟩ : ∃ q, q = m - 1 := ⟨_, rfl⟩
      have hqk : q < k.length := by omega
      have wq : IntKind.i64.wrap ((m : Int) - 1) = (q : Int) := by rw [wrap_i64 (by omega) (by omega)]; omega
      obtain ⟨z, hz⟩ : ∃ z, k[q]? = some z := ⟨_, List.getElem?_eq_getElem hqk⟩
      have hgz : k.getD q nothing = z := by rw [List.getD_eq_getElem?_getD, hz]; rfl
      obtain ⟨hz1, hz2⟩ := List.getElem?_eq_some_iff.1 (numEls_get hz)
      have hyo := hko y (List.mem_of_getElem? hy)
      have hzo := hko z (List.mem_of_getElem? hz)
      rw [← hq, hgz] at hR
      have kA := fAdd_ok (G := G) z y hzo hyo
      have kI := fInt_ok (G := G) 2 (by decide) (by decide)
      have e2 : tell (2 * 1000000) = tell 2000000 := by decide
      rw [e2] at kI
      have kD := fDiv_ok (G := G) (addN z y) (tell 2000000) (ok_add _ _) (ok_tell _)
      obtain ⟨s, hs⟩ : ∃ s, s = addN z y := ⟨_, rfl⟩
      obtain ⟨t, ht⟩ : ∃ t, t = tell 2000000 := ⟨_, rfl⟩
      rw [← hs] at kA kD hR
      rw [← ht] at kI kD hR
      rw [← hR] at kD
      rw [numA_eq z, numA_eq y, numA_eq s] at kA
      rw [numA_eq t] at kI
      rw [numA_eq s, numA_eq t, numA_eq R] at kD
      simp [hlen, hne, h0, htm, htd, wm, wq, hmk, hqk, hx1, hx2, hz1, hz2]
      refine qc_same kA (by simp) (by simp) ?_
      simp
      refine qc_same kI (by simp) (by simp) ?_
      simp
      refine qc_same kD (by simp) (by simp) ?_
      simp [splice, numA]
end Go.Proofs.YtdgpnmlialmaaaaGreatDoor
end
section
set_option maxHeartbeats 8000000
namespace Go.Ble
open Go.Num
end Go.Ble
namespace Go.Proofs.YtdgpnmlialmaaaaGreatDoor
open Go.Abs Go.Num Go.Ser Go.Ble
variable {G : Globs}
end Go.Proofs.YtdgpnmlialmaaaaGreatDoor
end
section
set_option maxHeartbeats 2000000
namespace Go.Proofs.YtdgpnmlialmaaaaGreatDoor
open Go.Abs Go.Num Go.Ser Go.Ble
variable {G : Globs}
theorem bDifference_ok (a : N) (l : List N) (hao : okN a) (hok : oksN l) (hl : l.length ≤ 1000000000) : PCalls Tryz.prog n_blend_difference [.lst (numEls (a :: l))] (fun r => r = numA (diffS (a :: l))) := by
  refine pcalls_of_awp hmix c_blend_difference rfl ?_
  have kK := bKnown_ok (G := G) l hok hl
  have hlen := numEls_len l
  have h2 := numEls_two l
  have hko := known_oks hok
  have hkl : (known l).length ≤ l.length := List.length_filter_le _ _
  have hkn := numEls_len (known l)
  obtain ⟨R, hR0⟩ : ∃ R, R = diffS (a :: l) := ⟨_, rfl⟩
  rw [← hR0]
  have hR : R = if known l = [] then a else subN a (reckon 2 l) := hR0
  have h2' : ∀ c ∈ [AV.bool a.1, AV.int .i64 a.2] :: numEls l, c.length = 2 := by
    intro c hc
    rcases List.mem_cons.1 hc with rfl | hc
    · rfl
    · exact h2 c hc
  rw [numEls_cons]
  simp [a_blend_difference, hlen]
  rw [if_pos h2, List.take_of_length_le (by rw [hlen]; exact Nat.le_refl _)]
  simp
  refine ac_same kK (by simp) ?_
  rintro r rfl
  by_cases h0 : known l = []
  · rw [if_pos h0] at hR
    subst hR
    have e0 : numEls [] = [] := rfl
    simp [h0, e0, splice, numA]
  · rw [if_neg h0] at hR
    have hne : ¬ ((known l).length : Int) = 0 := by
      have := List.length_pos_iff.2 h0; omega
    have kR := reckon_ok (G := G) 2 (known l) hko (by omega)
    have e1 : reckon 2 (known l) = reckon 2 l := by
      unfold reckon known
      rw [List.filter_filter]
      simp
    rw [e1] at kR
    have kS := fSub_ok (G := G) a (reckon 2 l) hao (reckon_oks 2 hok)
    obtain ⟨s, hs⟩ : ∃ s, s = reckon 2 l := ⟨_, rfl⟩
    rw [← hs] at kR kS hR
    rw [← hR] at kS
    rw [numA_eq s] at kR
    rw [numA_eq a, numA_eq s, numA_eq R] at kS
    simp [hkn, hne, h0]
    refine qc_same kR (by simp) (by simp) ?_
    simp
    refine qc_same kS (by simp) (by simp) ?_
    simp [splice, numA]
theorem bProduct_ok (l : List N) (hok : oksN l) (hl : l.length ≤ 1000000000) : PCalls Tryz.prog n_blend_product [.lst (numEls l)] (fun r => r = numA (productS l)) := by
  refine pcalls_of_awp hmix c_blend_product rfl ?_
  have kK := bKnown_ok (G := G) l hok hl
  have hko := known_oks hok
  have hkl : (known l).length ≤ l.length := List.length_filter_le _ _
  obtain ⟨R, hR⟩ : ∃ R, R = productS l := ⟨_, rfl⟩
  rw [← hR]
  unfold productS at hR
  generalize known l = K at *
  cases K with
  | nil =>
    have kN := bNothing_ok (G := G)
    rw [numA_eq] at kN
    have e0 : numEls [] = [] := rfl
    simp only at hR
    subst hR
    rw [e0] at kK
    simp [a_blend_product]
    refine ac_same kK (by simp) ?_
    rintro r rfl
    simp
    refine ac_same kN (by simp) ?_
    rintro r rfl
    simp [splice, numA]
  | cons k ks =>
    simp only at hR
    have hlen := numEls_len ks
    have hkk := hko k (by simp)
    have hks : oksN ks := fun n hn => hko n (by simp [hn])
    have h2 := numEls_two ks
    have hne : ¬ ((ks.length : Int) + 1 = 0) := by omega
    have hksl : ks.length ≤ 1000000000 := by simp at hkl; omega
    rw [numEls_cons] at kK
    simp [a_blend_product]
    refine ac_same kK (by simp) ?_
    rintro r rfl
    simp [hlen, hne, splice]
    rw [if_pos h2, List.take_of_length_le (by rw [hlen]; exact Nat.le_refl _)]
    simp [hlen]
    refine lp_startx (fun x f σ => ∃ (i : Nat) (tl : Store), x = ks.length - i ∧ i ≤ ks.length ∧ f 2 = .ptr 0 0 ∧ f 4 = .ptr 1 0 ∧ f 17 = .lst (numEls ks) ∧ f 18 = .int .i64 ks.length ∧ f 19 = .int .i64 i ∧ okN ((ks.take i).foldl mulN k) ∧
      σ = .var 35 [.bool false, .int .i64 0] :: .var 35 [.bool ((ks.take i).foldl mulN k).1, .int .i64 ((ks.take i).foldl mulN k).2] :: tl) ks.length ?_ ?_
    · exact ⟨0, [], by simp, by simp, by simp, by simp, by simp, by simp, by simp, by simpa using hkk, by simp⟩
    rintro x f σ ⟨i, tl, hx, hi, h2', h4, h17, h18, h19, hokf, rfl⟩
    obtain ⟨s, hs⟩ : ∃ s, s = (ks.take i).foldl mulN k := ⟨_, rfl⟩
    rw [← hs] at hokf ⊢
    simp [h18, h19]
    refine cb_dec (fun hlt => ?_) (fun hge => ?_)
    · have hlt' : i < ks.length := by omega
      have hwi : IntKind.i64.wrap ((i : Int) + 1) = ((i + 1 : Nat) : Int) := by rw [wrap_i64 (by omega) (by omega)]; omega
      obtain ⟨v, hv⟩ : ∃ v, ks[i]? = some v := ⟨_, List.getElem?_eq_getElem hlt'⟩
      have hse := numEls_get hv
      obtain ⟨hx1, hx2⟩ := List.getElem?_eq_some_iff.1 hse
      have hvk := hks v (List.mem_of_getElem? hv)
      have kM := fMul_ok (G := G) s v hokf hvk
      have hst : (ks.take (i + 1)).foldl mulN k = mulN s v := by rw [List.take_add_one, hv, hs]; simp
      rw [numA_eq, numA_eq, numA_eq] at kM
      simp [h4, h17, h19, hse, hx1, hx2, splice]
      refine ac_same kM (by simp) ?_
      rintro r rfl
      simp [h4, h19, hwi, splice]
      refine nx_intro (ks.length - (i + 1)) (by omega) ⟨i + 1, tl ++ [.var 35 [.bool v.1, .int .i64 v.2]], rfl, by omega, by simp [h2'], by simp [h4], by simp [h17], by simp [h18], by simp, by rw [hst]; exact ok_mul _ _, ?_⟩
      rw [hst]
    · have hil : i = ks.length := by omega
      have e : s = R := by rw [hs, hil, List.take_length, hR]
      simp [h2', h4, ← e, numA, splice]
end Go.Proofs.YtdgpnmlialmaaaaGreatDoor
end
