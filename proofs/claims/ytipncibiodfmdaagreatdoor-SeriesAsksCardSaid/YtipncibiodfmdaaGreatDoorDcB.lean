/- Numbers as text: strconv.AppendInt. -/
import Derived.Test.YtipncibiodfmdaaGreatDoorDcA
import Derived.Lib.Itoa
import Derived.Lib.ItoaMem
import Derived.Lib.ItoaLen
set_option linter.unusedSimpArgs false
set_option linter.unusedVariables false
set_option linter.constructorNameAsVariable false
namespace Go.Proofs.YtipncibiodfmdaaGreatDoor
open Go.Abs Go.Dec
variable {G : Globs}
def u8c (l : List UInt8) : List AV := l.map fun b => .int .u8 b.toNat

theorem formatBase10_ok {σ : Store} {id t n u : Nat} {cells : List AV} (hent : σ[id]? = some (.var t cells)) (hcells : cells = List.replicate 24 (.int .u8 0)) (hn : n = Lib.nDigits u) (hle : n ≤ 24) (hu : u < 18446744073709551616) :
    ACalls Tryz.prog 171 [.asl id 0 n 1, .int .u64 u] σ (fun r σ' => r = .tup [] ∧ σ' = σ.set id (.var t (u8c (Lib.decDigits u) ++ cells.drop n))) := by
  intro base κ Im w vs hs hv
  obtain ⟨v0, v1, rfl⟩ : ∃ v0 v1, vs = [v0, v1] := by
    match vs, hv.1 with
    | [a, b], _ => exact ⟨a, b, rfl⟩
  have h0 := hv.2 0 (by simp) (by simp)
  have h1 := (hv.2 1 (by simp) (by simp)).int_inv
  simp only [List.getElem_cons_zero, List.getElem_cons_succ] at h0 h1
  subst h1
  obtain ⟨b, ad, c, rfl, hk, h3, h4, h5, h6⟩ := h0.asl_inv
  have hnpos : 0 < n := by rw [hn]; exact Lib.nDigits_pos u
  rw [h3 hnpos]
  obtain ⟨b', cs, hk', hbase, hheap, hvr, hone, him⟩ := hs.ent _ _ hent
  rw [hk] at hk'; cases hk'
  have hlen : cs.size = 24 := by have := hvr.1; rw [hcells] at this; simpa using this.symm
  have hz : ∀ j (h : j < cs.size), cs[j] = .int .u8 0 := fun j hj => by
    have hjc : j < cells.length := by rw [hcells]; simp; omega
    have := hvr.2 j hjc (by simpa using hj)
    simp only [hcells, List.getElem_replicate, Array.getElem_toList] at this
    exact this.int_inv
  have hH : Sort.Holds (fun (b : UInt8) => Value.int .u8 (b.toNat : Int)) w b 0 (Array.replicate n (0 : UInt8)) := fun j hj => by
    have hj' : j < n := by simpa using hj
    refine ⟨?_, by simp [World.frozen?, hheap]⟩
    rw [Nat.zero_add, cell_of_row w b j cs t (0, 0) hheap, Array.getElem?_eq_getElem (by omega), hz j (by omega), getElem!_pos _ j hj]
    simp
  have hpow : u < 10 ^ (Array.replicate n (0 : UInt8)).size := by
    rw [Array.size_replicate, hn]
    exact Lib.lt_pow_nDigits u
  have hcall := Tryz.internal_strconv_formatBase10 b 0 c u (Array.replicate n (0 : UInt8)) w hH hpow hu (by simp; omega)
  rw [Array.size_replicate] at hcall
  refine hcall.mono ?_
  rintro e w' ⟨rfl, k, v', dk, rfl, hinv⟩
  have hdk : dk.size = n := hinv.size
  rw [hn] at hinv
  have hnum := fun j hj => Lib.row_is_numeral hinv j hj
  have hdl : (Lib.decDigits u).length = n := by rw [Lib.decDigits_length, hn]
  obtain ⟨cs', hcs'⟩ : ∃ cs', cs' = Sort.putCells (fun (b : UInt8) => Value.int .u8 (b.toNat : Int)) 0 dk cs := ⟨_, rfl⟩
  have hnew : ((Sort.putRow (fun (b : UInt8) => Value.int .u8 (b.toNat : Int)) w b 0 dk).drewN k).heap[b]? = some (.cells cs' t (0, 0)) := by
    simp [World.drewN, Sort.putRow, Sort.mapBlock, Array.getElem?_modify, hheap, Sort.onCells, hcs']
  have hold : ∀ j, j ≠ b → ((Sort.putRow (fun (b : UInt8) => Value.int .u8 (b.toNat : Int)) w b 0 dk).drewN k).heap[j]? = w.heap[j]? := fun j hj => by
    simp [World.drewN, Sort.putRow, Sort.mapBlock, Array.getElem?_modify, Ne.symm hj]
  have hsize : ((Sort.putRow (fun (b : UInt8) => Value.int .u8 (b.toNat : Int)) w b 0 dk).drewN k).heap.size = w.heap.size := by
    simp [World.drewN, Sort.putRow, Sort.mapBlock]
  generalize hW : (Sort.putRow (fun (b : UInt8) => Value.int .u8 (b.toNat : Int)) w b 0 dk).drewN k = W at *
  have hcell : ∀ a, Im a → W.cell? a = w.cell? a := fun a ha => World.cell?_of_block (hold _ (him a ha))
  have hgrow : Grow base κ Im w κ Im W := ⟨fun _ _ _ h => h, fun _ h => h, hcell, fun _ h => .inl h, ⟨by rw [← hW]; rfl, by rw [← hW]; rfl, by rw [← hW]; rfl, by omega, fun j hj => hold j (by omega)⟩⟩
  refine ⟨.tup [], _, _, κ, Im, rfl, ⟨rfl, rfl⟩, ?_, hgrow, .tup [] [] rfl (fun j h => by simp at h)⟩
  refine hs.set hent _ (fun _ _ _ h => h) (fun _ _ _ h => .inl h) (Nat.le_refl _) (fun _ h => h) hcell (fun _ h => .inl h) (by omega) (fun j _ hj => hold j (fun he => hj (by simp [Entry.block, hk, he]))) ?_ (fun b' hb' => .inr (by simpa [Entry.block, hk] using hb'))
  refine ⟨b, cs', hk, hbase, hnew, ⟨?_, fun j hj hj' => ?_⟩, fun c hc => ?_, him⟩
  · rw [hcs', hcells]; simp [u8c, hdl, Sort.putCells, hlen]; omega
  · have hjs : j < 24 := by rw [hcs'] at hj'; simpa [Sort.putCells, hlen] using hj'
    have e1 : cs'.toList[j] = if j < n then .int .u8 (dk[j]!).toNat else cs[j]'(by omega) := by
      subst hcs'
      simp [Sort.putCells, hdk]
    rw [e1]
    by_cases hjn : j < n
    · rw [if_pos hjn, List.getElem_append_left (by simp [u8c, hdl]; exact hjn)]
      simp only [u8c, List.getElem_map]
      rw [hnum j (by omega)]
      exact .im _ _ (.int _ _)
    · rw [if_neg hjn, List.getElem_append_right (by simp [u8c, hdl]; omega)]
      simp only [List.getElem_drop, hcells, List.getElem_replicate]
      rw [hz j (by omega)]
      exact .im _ _ (.int _ _)
  · rw [hcells] at hc
    simp only [List.mem_append, u8c, List.mem_map] at hc
    rcases hc with ⟨x, _, rfl⟩ | hc
    · rfl
    · rw [(List.mem_replicate.1 (List.mem_of_mem_drop hc)).2]; rfl

theorem small_ok (u : Nat) (h : u < 100) : PCalls Tryz.prog 169 [.int .i64 u] (fun r => r = .str (Lib.decDigits u)) :=
  pcalls1 fun base κ Im w v hs h1 => by
    cases h1.int_inv
    refine (Tryz.internal_strconv_small u h w).mono ?_
    rintro e w' ⟨rfl, rfl⟩
    exact ⟨_, _, rfl, rfl, Go.RowKit.Below.refl _ _, fun Im' => .str _⟩
theorem numDigits_ok [GPow] (u : Nat) (h1 : 1 ≤ u) (h2 : u < 18446744073709551616) : PCalls Tryz.prog 170 [.int .u64 u] (fun r => r = .int .i64 (Lib.nDigits u)) :=
  pcalls1 fun base κ Im w v hs h => by
    cases h.int_inv
    refine (Tryz.internal_strconv_numDigits u h1 h2 w (tab_ok hs)).mono ?_
    rintro e w' ⟨rfl, rfl⟩
    exact ⟨_, _, rfl, rfl, Go.RowKit.Below.refl _ _, fun Im' => .int _ _⟩

theorem decDigits_le (u : Nat) (h : u < 18446744073709551616) : (Lib.decDigits u).length ≤ 20 := by
  rw [Lib.decDigits_length]; exact Lib.nDigits_le20 u h
theorem chunks1 : ∀ (l : List AV), chunks l.length 1 l = l.map fun c => [c]
  | [] => rfl
  | c :: l => by simp [chunks, chunks1 l]

theorem byteEls_chunks (l : List UInt8) : chunks l.length 1 (u8c l) = byteEls l := by
  have := chunks1 (u8c l)
  rw [show (u8c l).length = l.length by simp [u8c]] at this
  rw [this]; simp [u8c, byteEls]

theorem byteEls_pure (l : List UInt8) : ∀ c ∈ byteEls l, ∀ x ∈ c, x.pure = true := fun c hc x hx => by
  simp only [byteEls, List.mem_map] at hc
  obtain ⟨b, _, rfl⟩ := hc
  simp only [List.mem_singleton] at hx; subst hx; simp [AV.pure]
theorem row_under {e size m : Nat} {els : List (List AV)} {im : Bool} (h : ∀ c ∈ els, ∀ x ∈ c, x.pure = true) : (Entry.row e size els im).under m = true := by
  simp only [Entry.under, List.all_eq_true]
  exact fun c hc x hx => pure_under m (h c hc x hx)

/-- internal/strconv.AppendUint onto nothing. -/
theorem appendUint_nil [GPow] (u : Nat) (hu : u < 18446744073709551616) : PCalls Tryz.prog n_internal_strconv_AppendUint [.nils, .int .u64 u, .int .i64 10] (fun r => r = .lst (byteEls (Lib.decDigits u))) := by
  have hdl := decDigits_le u hu
  have hdp : 1 ≤ (Lib.decDigits u).length := by rw [Lib.decDigits_length]; exact Lib.nDigits_pos u
  have hdne : Lib.decDigits u ≠ [] := fun h => by rw [h] at hdp; simp at hdp
  refine pcalls_of_awp hmix c_internal_strconv_AppendUint rfl ?_
  simp [a_internal_strconv_AppendUint]
  refine cb_dec (fun hlt => ?_) (fun hge => ?_)
  · have h100 : u < 100 := by omega
    have hw : IntKind.i64.wrap (u : Int) = u := wrap_i64 (by omega) (by omega)
    simp [hw]
    refine ac_same (small_ok u h100) (by simp) ?_
    rintro r rfl
    simp
    refine aps_new true (by omega) ?_
    simp
    simp [byteEls]
  · have hu1 : 1 ≤ u := by omega
    have hnd : Lib.nDigits u ≤ 20 := Lib.nDigits_le20 u hu
    have hnd4 : Lib.nDigits u ≤ 24 := by omega
    have hdd := Lib.decDigits_length u
    simp
    refine ac_same (numDigits_ok u hu1 hu) (by simp) ?_
    rintro r rfl
    simp [hnd4]
    refine ac_eff (formatBase10_ok (n := Lib.nDigits u) rfl rfl rfl hnd4 hu) ?_
    rintro r σ' ⟨rfl, rfl⟩
    simp [hnd4]
    have hch := byteEls_chunks (Lib.decDigits u)
    rw [hdd] at hch
    refine ap_new true (byteEls (Lib.decDigits u)) ?_ (by omega) (fun c hc => ?_) (fun _ => .inr (byteEls_pure _)) (by simp [byteEls]; omega) (by simp [byteEls]; omega) ?_
    · have hul : (u8c (Lib.decDigits u)).length = Lib.nDigits u := by simp [u8c, hdd]
      simp
      refine ⟨by omega, ?_⟩
      rw [List.take_append_of_le_length (by omega), List.take_of_length_le (by omega)]
      exact hch
    · simp only [byteEls, List.mem_map] at hc; obtain ⟨b, _, rfl⟩ := hc; rfl
    · simp

/-- internal/strconv.AppendUint onto a slice of the caller's own. -/
theorem appendUint_row [GPow] {σ : Store} {id : Nat} {els : List (List AV)} (hent : σ[id]? = some (.row 5 1 els false)) (u : Nat) (hu : u < 18446744073709551616) (hl : els.length ≤ 1000) (h1 : ∀ c ∈ els, ∀ x ∈ c, x.pure = true) :
    ACalls Tryz.prog n_internal_strconv_AppendUint [.row id els.length, .int .u64 u, .int .i64 10] σ (fun r σ' => r = .row id (els.length + (Lib.decDigits u).length) ∧ σ' = σ.set id (.row 5 1 (els ++ byteEls (Lib.decDigits u)) false)) := by
  have hdl := decDigits_le u hu
  have hdp : 1 ≤ (Lib.decDigits u).length := by rw [Lib.decDigits_length]; exact Lib.nDigits_pos u
  have hdne : Lib.decDigits u ≠ [] := fun h => by rw [h] at hdp; simp at hdp
  have hlt : id < σ.length := (List.getElem?_eq_some_iff.1 hent).1
  have hpu : ∀ c ∈ els ++ byteEls (Lib.decDigits u), ∀ x ∈ c, x.pure = true := fun c hc x hx => by
    rcases List.mem_append.1 hc with h | h
    · exact h1 c h x hx
    · exact byteEls_pure _ c h x hx
  have hset : ∀ (E : Entry) (extra : Store) (i : Nat) (e : Entry), (σ.set id E)[i]? = some e → E.under σ.length = true → σ[i]? = some e ∨ e.under σ.length = true := by
    intro E extra i e he hE
    by_cases hi : i = id
    · subst hi; rw [List.getElem?_set_self hlt] at he; cases he; exact .inr hE
    · rw [List.getElem?_set_ne (fun h => hi h.symm)] at he; exact .inl he
  refine acalls_of_awp_e hmix c_internal_strconv_AppendUint rfl ?_
  simp [a_internal_strconv_AppendUint]
  refine cb_dec (fun hlt => ?_) (fun hge => ?_)
  · have h100 : u < 100 := by omega
    have hw : IntKind.i64.wrap (u : Int) = u := wrap_i64 (by omega) (by omega)
    simp [hw]
    refine ac_same (small_ok u h100) (by simp) ?_
    rintro r rfl
    simp
    refine aps_row els false hent rfl (by omega) ?_
    simp
    refine er_keep (σ.set id (.row 5 1 (els ++ byteEls (Lib.decDigits u)) false)) (.row id (els.length + (Lib.decDigits u).length)) (by simp [tupOf]) [] (by simp) (by simp) (by simpa [AV.under] using by assumption) (fun i e he => ?_) ⟨rfl, rfl⟩
    simpa using hset _ [] i e he (row_under hpu)
  · have hu1 : 1 ≤ u := by omega
    have hnd : Lib.nDigits u ≤ 20 := Lib.nDigits_le20 u hu
    have hnd4 : Lib.nDigits u ≤ 24 := by omega
    have hdd := Lib.decDigits_length u
    simp
    refine ac_same (numDigits_ok u hu1 hu) (by simp) ?_
    rintro r rfl
    simp [hnd4]
    refine ac_eff (formatBase10_ok (n := Lib.nDigits u) (by simp; rfl) rfl rfl hnd4 hu) ?_
    rintro r σ' ⟨rfl, rfl⟩
    simp [hnd4]
    have hch := byteEls_chunks (Lib.decDigits u)
    rw [hdd] at hch
    have hid : id < σ.length := by assumption
    refine ap_row els (byteEls (Lib.decDigits u)) false (by rw [List.getElem?_append_left hid]; exact hent) ?_ (by omega) (fun c hc => ?_) (fun h => by simp at h) rfl (by simp [byteEls]; omega) (by simp [byteEls]; omega) ?_
    · have hul : (u8c (Lib.decDigits u)).length = Lib.nDigits u := by simp [u8c, hdd]
      simp
      refine ⟨by omega, ?_⟩
      rw [List.take_append_of_le_length (by omega), List.take_of_length_le (by omega)]
      exact hch
    · simp only [byteEls, List.mem_map] at hc; obtain ⟨b, _, rfl⟩ := hc; rfl
    · simp
      rw [List.set_append_left _ _ hid]
      refine er_keep (σ.set id (.row 5 1 (els ++ byteEls (Lib.decDigits u)) false)) (.row id (els.length + (Lib.decDigits u).length)) (by simp [tupOf, byteEls]) _ rfl (by simp) (by simpa [AV.under] using hid) (fun i e he => ?_) ⟨rfl, rfl⟩
      simpa using hset _ [] i e he (row_under hpu)

/-- strconv.AppendInt, from nought on. -/
theorem wrap_u64_nat (u : Nat) (hu : u < 18446744073709551616) : IntKind.u64.wrap (u : Int) = u := by
  simp [IntKind.wrap, IntKind.signed, IntKind.bits]; omega
theorem itoa_nat (u : Nat) : Lib.itoa (u : Int) = Lib.decDigits u := by unfold Lib.itoa; rw [if_neg (by omega)]; simp
theorem appendIntI_nil [GPow] (u : Nat) (hu : u < 9223372036854775808) : PCalls Tryz.prog n_internal_strconv_AppendInt [.nils, .int .i64 u, .int .i64 10] (fun r => r = .lst (byteEls (Lib.decDigits u))) := by
  refine pcalls_of_awp hmix c_internal_strconv_AppendInt rfl ?_
  have hw := wrap_u64_nat u (by omega)
  have hn : ¬ ((u : Int) < 0) := by omega
  simp [a_internal_strconv_AppendInt, hw, hn]
  refine ac_same (appendUint_nil u (by omega)) (by simp) ?_
  rintro r rfl
  simp
theorem appendInt_nil [GPow] (u : Nat) (hu : u < 9223372036854775808) : PCalls Tryz.prog n_strconv_AppendInt [.nils, .int .i64 u, .int .i64 10] (fun r => r = .lst (byteEls (Lib.decDigits u))) := by
  refine pcalls_of_awp hmix c_strconv_AppendInt rfl ?_
  simp [a_strconv_AppendInt]
  refine ac_same (appendIntI_nil u hu) (by simp) ?_
  rintro r rfl
  simp
theorem appendIntI_row [GPow] {σ : Store} {id : Nat} {els : List (List AV)} (hent : σ[id]? = some (.row 5 1 els false)) (u : Nat) (hu : u < 9223372036854775808) (hl : els.length ≤ 1000) (h1 : ∀ c ∈ els, ∀ x ∈ c, x.pure = true) :
    ACalls Tryz.prog n_internal_strconv_AppendInt [.row id els.length, .int .i64 u, .int .i64 10] σ (fun r σ' => r = .row id (els.length + (Lib.decDigits u).length) ∧ σ' = σ.set id (.row 5 1 (els ++ byteEls (Lib.decDigits u)) false)) := by
  have hid : id < σ.length := (List.getElem?_eq_some_iff.1 hent).1
  refine acalls_of_awp_e hmix c_internal_strconv_AppendInt rfl ?_
  have hw := wrap_u64_nat u (by omega)
  have hn : ¬ ((u : Int) < 0) := by omega
  simp [a_internal_strconv_AppendInt, hw, hn]
  refine ac_eff (appendUint_row hent u (by omega) hl h1) ?_
  rintro r σ' ⟨rfl, rfl⟩
  simp
  refine er_keep (σ.set id (.row 5 1 (els ++ byteEls (Lib.decDigits u)) false)) (.row id (els.length + (Lib.decDigits u).length)) (by simp [tupOf]) [] (by simp) (by simp) (by simpa [AV.under] using hid) (fun i e he => ?_) ⟨rfl, rfl⟩
  by_cases hi : i = id
  · subst hi; rw [List.getElem?_set_self hid] at he; cases he
    refine .inr (row_under fun c hc x hx => ?_)
    rcases List.mem_append.1 hc with h | h
    · exact h1 c h x hx
    · exact byteEls_pure _ c h x hx
  · rw [List.getElem?_set_ne (fun h => hi h.symm)] at he; exact .inl he
theorem appendInt_row [GPow] {σ : Store} {id : Nat} {els : List (List AV)} (hent : σ[id]? = some (.row 5 1 els false)) (u : Nat) (hu : u < 9223372036854775808) (hl : els.length ≤ 1000) (h1 : ∀ c ∈ els, ∀ x ∈ c, x.pure = true) :
    ACalls Tryz.prog n_strconv_AppendInt [.row id els.length, .int .i64 u, .int .i64 10] σ (fun r σ' => r = .row id (els.length + (Lib.decDigits u).length) ∧ σ' = σ.set id (.row 5 1 (els ++ byteEls (Lib.decDigits u)) false)) := by
  have hid : id < σ.length := (List.getElem?_eq_some_iff.1 hent).1
  refine acalls_of_awp_e hmix c_strconv_AppendInt rfl ?_
  simp [a_strconv_AppendInt]
  refine ac_eff (appendIntI_row hent u hu hl h1) ?_
  rintro r σ' ⟨rfl, rfl⟩
  simp
  refine er_keep (σ.set id (.row 5 1 (els ++ byteEls (Lib.decDigits u)) false)) (.row id (els.length + (Lib.decDigits u).length)) (by simp [tupOf]) [] (by simp) (by simp) (by simpa [AV.under] using hid) (fun i e he => ?_) ⟨rfl, rfl⟩
  by_cases hi : i = id
  · subst hi; rw [List.getElem?_set_self hid] at he; cases he
    refine .inr (row_under fun c hc x hx => ?_)
    rcases List.mem_append.1 hc with h | h
    · exact h1 c h x hx
    · exact byteEls_pure _ c h x hx
  · rw [List.getElem?_set_ne (fun h => hi h.symm)] at he; exact .inl he
end Go.Proofs.YtipncibiodfmdaaGreatDoor
