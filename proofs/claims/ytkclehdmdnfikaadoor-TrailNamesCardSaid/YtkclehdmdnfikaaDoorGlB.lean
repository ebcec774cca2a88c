/- Patterns of one name: how pieces are laid, and the functions that read them. -/
import Derived.Test.YtkclehdmdnfikaaDoorGlA
set_option linter.unusedSimpArgs false
set_option linter.unusedVariables false
set_option linter.constructorNameAsVariable false
namespace Go.Glob
open Go.Abs
mutual
def encL : List Pc → List (List AV)
  | [] => []
  | .lit c :: l => [.int .i64 0, .int .u8 c.toNat, .lst [], .lst [], .str [c]] :: encL l
  | .q :: l => [.int .i64 1, .int .u8 0, .lst [], .lst [], .str [63]] :: encL l
  | .star :: l => [.int .i64 2, .int .u8 0, .lst [], .lst [], .str [42]] :: encL l
  | .cls rs t :: l => [.int .i64 3, .int .u8 0, .lst (rs.map fun r => [.int .u8 r.1.toNat, .int .u8 r.2.toNat]), .lst [], .str t] :: encL l
  | .br xs :: l => [.int .i64 4, .int .u8 0, .lst [], .lst (encA xs), .str []] :: encL l
def encA : List (List Pc) → List (List AV)
  | [] => []
  | a :: xs => [.lst (encL a)] :: encA xs
end
def Pc.kind : Pc → Nat
  | .lit _ => 0
  | .q => 1
  | .star => 2
  | .cls _ _ => 3
  | .br _ => 4
def Pc.low : Pc → UInt8
  | .lit c => c
  | _ => 0
def Pc.rs : Pc → List (UInt8 × UInt8)
  | .cls rs _ => rs
  | _ => []
def Pc.alts : Pc → List (List Pc)
  | .br xs => xs
  | _ => []
def encR (rs : List (UInt8 × UInt8)) : List (List AV) := rs.map fun r => [.int .u8 r.1.toNat, .int .u8 r.2.toNat]
def Pc.enc (p : Pc) : List AV := [.int .i64 p.kind, .int .u8 p.low.toNat, .lst (encR p.rs), .lst (encA p.alts), .str p.text]
theorem encL_cons (p : Pc) (l : List Pc) : encL (p :: l) = p.enc :: encL l := by
  cases p <;> simp [encL, Pc.enc, Pc.kind, Pc.low, Pc.rs, Pc.alts, Pc.text, encR, encA]
theorem encL_map : ∀ l, encL l = l.map Pc.enc
  | [] => by simp [encL]
  | p :: l => by rw [encL_cons, encL_map l]; rfl
theorem encA_map : ∀ xs, encA xs = xs.map fun a => [AV.lst (encL a)]
  | [] => by simp [encA]
  | a :: xs => by simp [encA, encA_map xs]
theorem encL_length (l : List Pc) : (encL l).length = l.length := by simp [encL_map]
theorem encA_length (l : List (List Pc)) : (encA l).length = l.length := by simp [encA_map]
theorem encL_get {l : List Pc} {i : Nat} {p : Pc} (h : l[i]? = some p) : (encL l)[i]? = some p.enc := by simp [encL_map, h]
theorem encA_get {l : List (List Pc)} {i : Nat} {a : List Pc} (h : l[i]? = some a) : (encA l)[i]? = some [.lst (encL a)] := by simp [encA_map, h]
theorem enc_q : Pc.q.enc = [.int .i64 1, .int .u8 0, .lst [], .lst [], .str [63]] := by simp [Pc.enc, Pc.kind, Pc.low, Pc.rs, Pc.alts, Pc.text, encR, encA]
theorem enc_star : Pc.star.enc = [.int .i64 2, .int .u8 0, .lst [], .lst [], .str [42]] := by simp [Pc.enc, Pc.kind, Pc.low, Pc.rs, Pc.alts, Pc.text, encR, encA]
theorem enc_lit (c : UInt8) : (Pc.lit c).enc = [.int .i64 0, .int .u8 c.toNat, .lst [], .lst [], .str [c]] := by simp [Pc.enc, Pc.kind, Pc.low, Pc.rs, Pc.alts, Pc.text, encR, encA]
theorem enc_cls (rs : List (UInt8 × UInt8)) (t : List UInt8) : (Pc.cls rs t).enc = [.int .i64 3, .int .u8 0, .lst (encR rs), .lst [], .str t] := by simp [Pc.enc, Pc.kind, Pc.low, Pc.rs, Pc.alts, Pc.text, encA]
theorem enc_br (xs : List (List Pc)) : (Pc.br xs).enc = [.int .i64 4, .int .u8 0, .lst [], .lst (encA xs), .str []] := by simp [Pc.enc, Pc.kind, Pc.low, Pc.rs, Pc.alts, Pc.text, encR]
theorem enc_len (p : Pc) : p.enc.length = 5 := rfl
end Go.Glob
namespace Go.Proofs.YtkclehdmdnfikaaDoor
open Go.Abs Go.Glob
variable {G : Globs}

theorem one1_ok (r : UInt8 × UInt8) (c : UInt8) : PCalls Tryd.prog n_glob_piece_one_1 [.agg [.int .u8 r.1.toNat, .int .u8 r.2.toNat], .rptr [.int .u8 c.toNat]] (fun x => x = .bool (r.1 ≤ c && c ≤ r.2)) := by
  refine pcalls_of_awp hmix c_glob_piece_one_1 rfl ?_
  simp [a_glob_piece_one_1]
  refine gd_dt (fun h => ?_) (fun h => ?_)
  · have h' : r.1 ≤ c := UInt8.le_iff_toNat_le.2 (by omega)
    simp [h, h']
    simp [UInt8.le_iff_toNat_le]
  · have h' : ¬ r.1 ≤ c := fun h1 => h (by have := UInt8.le_iff_toNat_le.1 h1; omega)
    simp [h, h']

/-- The place of the first element of which a test holds. -/
def firstAt {α : Type} (p : α → Bool) : List α → Int
  | [] => -1
  | a :: l => if p a then 0 else if firstAt p l = -1 then -1 else firstAt p l + 1
theorem firstAt_ge {α : Type} (p : α → Bool) : ∀ l, -1 ≤ firstAt p l
  | [] => by simp [firstAt]
  | a :: l => by
    have := firstAt_ge p l
    simp only [firstAt]
    split
    · omega
    · split <;> omega
theorem firstAt_any {α : Type} (p : α → Bool) : ∀ l : List α, decide (0 ≤ firstAt p l) = l.any p
  | [] => by simp [firstAt]
  | a :: l => by
    have h1 := firstAt_any p l
    have h2 := firstAt_ge p l
    simp only [firstAt, List.any_cons, ← h1]
    by_cases h : p a = true
    · simp [h]
    · simp only [Bool.not_eq_true] at h
      simp only [h, Bool.false_or, Bool.false_eq_true, if_false]
      congr 1
      apply propext
      split <;> omega
theorem firstAt_some {α : Type} (p : α → Bool) : ∀ (l : List α) (i : Nat) (a : α), l[i]? = some a → p a = true → (∀ x ∈ l.take i, p x = false) → firstAt p l = i
  | [], i, a, h, _, _ => by simp at h
  | b :: l, 0, a, h, hp, _ => by simp at h; subst h; simp [firstAt, hp]
  | b :: l, i + 1, a, h, hp, hf => by
    have hb := hf b (by simp)
    have := firstAt_some p l i a (by simpa using h) hp (fun x hx => hf x (by simp [hx]))
    simp [firstAt, hb, this]
theorem firstAt_none {α : Type} (p : α → Bool) : ∀ (l : List α), (∀ x ∈ l, p x = false) → firstAt p l = -1
  | [], _ => rfl
  | b :: l, h => by
    have hb := h b (by simp)
    have := firstAt_none p l (fun x hx => h x (by simp [hx]))
    simp [firstAt, hb, this]

theorem index2_ok {l : List (List AV)} {g : FuncId} {cap : List AV} {p : List AV → Bool} (hlen : l.length ≤ 9223372036854775807) (hs : ∀ c ∈ l, c.length = 2) (hb : hasBody Tryd.prog g = true) (hp : l.all (fun c => c.all AV.pure) = true) (hcap : cap.all AV.pure = true)
    (hc : ∀ c ∈ l, PCalls Tryd.prog g ([.agg c] ++ cap) (fun r => r = .bool (p c))) :
    PCalls Tryd.prog n_slices_IndexFunc_2_byte_2_byte [.lst l, .fn (.func g) [] cap] (fun r => r = .int .i64 (firstAt p l)) := by
  refine pcalls_of_awp hmix c_slices_IndexFunc_2_byte_2_byte rfl ?_
  simp [a_slices_IndexFunc_2_byte_2_byte]
  refine lp_start (fun n f σ => ∃ i : Nat, n = l.length - i ∧ i ≤ l.length ∧ f 0 = .lst l ∧ f 1 = .fn (.func g) [] cap ∧ f 7 = .int .i64 l.length ∧ f 8 = .int .i64 i ∧ (∀ x ∈ l.take i, p x = false) ∧ σ = []) l.length ⟨0, by simp⟩ ?_
  rintro n f σ ⟨i, rfl, hi, h0, h1, h7, h8, hall, rfl⟩
  simp [h0, h7, h8]
  refine cb_dec (fun hlt => ?_) (fun hge => ?_)
  · have hlt' : i < l.length := by omega
    have hm := List.getElem_mem hlt'
    have hsz := hs _ hm
    simp [h0, h1, h8, List.getElem?_eq_getElem hlt', hsz]
    rw [show List.take 2 l[i] = l[i] from List.take_of_length_le (by omega)]
    refine cv_fn hb (ac_same (hc _ hm) ?_ ?_)
    · have h2 : ∀ x ∈ l[i], x.pure = true := List.all_eq_true.1 (List.all_eq_true.1 hp _ hm)
      have h3 := List.all_eq_true.1 hcap
      simp only [List.nil_append, List.cons_append, List.all_cons, AV.pure, Bool.and_eq_true, List.all_eq_true, List.mem_attach, forall_const, Subtype.forall]
      exact ⟨h2, h3⟩
    · rintro r rfl
      simp
      refine cb_intro (fun h => ?_) (fun h => ?_)
      · simp
        exact (firstAt_some p l i _ (List.getElem?_eq_getElem hlt') h hall).symm
      · simp [h0, h1, h7, h8]
        refine ⟨_, ?_, i + 1, rfl, by omega, by rw [wrap_i64 (by omega) (by omega)]; simp, ?_⟩
        · omega
        · intro x hx
          rw [List.take_add_one, List.getElem?_eq_getElem hlt'] at hx
          simp only [Option.toList_some, List.mem_append, List.mem_singleton] at hx
          rcases hx with hx | rfl
          · exact hall x hx
          · exact h
  · have e : l.take i = l := List.take_of_length_le (by omega)
    rw [e] at hall
    simp [firstAt_none p l hall]

theorem contains2_ok {l : List (List AV)} {g : FuncId} {cap : List AV} {p : List AV → Bool} (hlen : l.length ≤ 9223372036854775807) (hs : ∀ c ∈ l, c.length = 2) (hb : hasBody Tryd.prog g = true) (hp : l.all (fun c => c.all AV.pure) = true) (hcap : cap.all AV.pure = true)
    (hc : ∀ c ∈ l, PCalls Tryd.prog g ([.agg c] ++ cap) (fun r => r = .bool (p c))) :
    PCalls Tryd.prog n_slices_ContainsFunc_2_byte_2_byte [.lst l, .fn (.func g) [] cap] (fun r => r = .bool (l.any p)) := by
  refine pcalls_of_awp hmix c_slices_ContainsFunc_2_byte_2_byte rfl ?_
  simp [a_slices_ContainsFunc_2_byte_2_byte]
  refine ac_same (index2_ok hlen hs hb hp hcap hc) ?_ ?_
  · have h3 := List.all_eq_true.1 hcap
    simpa using h3
  · rintro r rfl
    simp [← firstAt_any]

theorem index1_ok {l : List (List AV)} {g : FuncId} {cap : List AV} {p : AV → Bool} (hlen : l.length ≤ 9223372036854775807) (hb : hasBody Tryd.prog g = true) (hp : l.all (fun c => c.all AV.pure) = true) (hcap : cap.all AV.pure = true)
    (hc : ∀ c ∈ l, ∃ x, c = [x] ∧ PCalls Tryd.prog g ([x] ++ cap) (fun r => r = .bool (p x))) :
    PCalls Tryd.prog n_slices_IndexFunc_glob_piece_glob_piece [.lst l, .fn (.func g) [] cap] (fun r => r = .int .i64 (firstAt (fun c => p (c.headD .junk)) l)) := by
  refine pcalls_of_awp hmix c_slices_IndexFunc_glob_piece_glob_piece rfl ?_
  simp [a_slices_IndexFunc_glob_piece_glob_piece]
  refine lp_start (fun n f σ => ∃ i : Nat, n = l.length - i ∧ i ≤ l.length ∧ f 0 = .lst l ∧ f 1 = .fn (.func g) [] cap ∧ f 7 = .int .i64 l.length ∧ f 8 = .int .i64 i ∧ (∀ x ∈ l.take i, p (x.headD .junk) = false) ∧ σ = []) l.length ⟨0, by simp⟩ ?_
  rintro n f σ ⟨i, rfl, hi, h0, h1, h7, h8, hall, rfl⟩
  simp [h7, h8]
  refine cb_dec (fun hlt => ?_) (fun hge => ?_)
  · have hlt' : i < l.length := by omega
    have hm := List.getElem_mem hlt'
    obtain ⟨x, hx, hcx⟩ := hc _ hm
    simp [h0, h1, h8, List.getElem?_eq_getElem hlt', hx]
    refine cv_fn hb (ac_same hcx ?_ ?_)
    · have h2 : ∀ y ∈ l[i], y.pure = true := List.all_eq_true.1 (List.all_eq_true.1 hp _ hm)
      have h3 := List.all_eq_true.1 hcap
      simp only [List.nil_append, List.cons_append, List.all_cons, Bool.and_eq_true, List.all_eq_true]
      exact ⟨h2 x (by rw [hx]; simp), h3⟩
    · rintro r rfl
      simp
      have hpx : p (l[i].headD .junk) = p x := by rw [hx]; rfl
      refine cb_intro (fun h => ?_) (fun h => ?_)
      · simp
        simpa using (firstAt_some _ l i _ (List.getElem?_eq_getElem hlt') (hpx.trans h) hall).symm
      · simp [h0, h1, h7, h8]
        refine ⟨_, ?_, i + 1, rfl, by omega, by rw [wrap_i64 (by omega) (by omega)]; simp, ?_⟩
        · omega
        · intro y hy
          rw [List.take_add_one, List.getElem?_eq_getElem hlt'] at hy
          simp only [Option.toList_some, List.mem_append, List.mem_singleton] at hy
          rcases hy with hy | rfl
          · have := hall y hy
            simpa using this
          · simpa using hpx.trans h
  · have e : l.take i = l := List.take_of_length_le (by omega)
    rw [e] at hall
    have := firstAt_none (fun c => p (c.headD .junk)) l hall
    simp at this
    simp [this]

theorem contains1_ok {l : List (List AV)} {g : FuncId} {cap : List AV} {p : AV → Bool} (hlen : l.length ≤ 9223372036854775807) (hb : hasBody Tryd.prog g = true) (hp : l.all (fun c => c.all AV.pure) = true) (hcap : cap.all AV.pure = true)
    (hc : ∀ c ∈ l, ∃ x, c = [x] ∧ PCalls Tryd.prog g ([x] ++ cap) (fun r => r = .bool (p x))) :
    PCalls Tryd.prog n_slices_ContainsFunc_glob_piece_glob_piece [.lst l, .fn (.func g) [] cap] (fun r => r = .bool (l.any fun c => p (c.headD .junk))) := by
  refine pcalls_of_awp hmix c_slices_ContainsFunc_glob_piece_glob_piece rfl ?_
  simp [a_slices_ContainsFunc_glob_piece_glob_piece]
  refine ac_same (index1_ok hlen hb hp hcap hc) ?_ ?_
  · have h3 := List.all_eq_true.1 hcap
    simpa using h3
  · rintro r rfl
    simp [← firstAt_any]

theorem one_ok (p : Pc) (c : UInt8) (hlen : p.rs.length ≤ 9223372036854775807) : PCalls Tryd.prog n_glob_piece_one [.agg p.enc, .int .u8 c.toNat] (fun r => r = .bool (p.one c)) := by
  refine pcalls_of_awp hmix c_glob_piece_one rfl ?_
  have hrs : (encR p.rs).length = p.rs.length := by simp [encR]
  have hR : PCalls Tryd.prog n_slices_ContainsFunc_2_byte_2_byte [.lst (encR p.rs), .fn (.func n_glob_piece_one_1) [] [.rptr [.int .u8 c.toNat]]] (fun r => r = .bool (p.rs.any fun r => r.1 ≤ c && c ≤ r.2)) := by
    have hp : ∀ r : UInt8 × UInt8, (fun (l : List AV) => match l with | [.int _ a, .int _ b] => decide (a ≤ c.toNat) && decide (c.toNat ≤ b) | _ => false) [.int .u8 r.1.toNat, .int .u8 r.2.toNat] = (decide (r.1 ≤ c) && decide (c ≤ r.2)) := fun r => by
      simp [UInt8.le_iff_toNat_le]
    refine PCalls.mono (contains2_ok (p := fun (l : List AV) => match l with | [.int _ a, .int _ b] => decide (a ≤ c.toNat) && decide (c.toNat ≤ b) | _ => false) (by omega) ?_ b_glob_piece_one_1 ?_ ?_ ?_) ?_
    · intro x hx; simp [encR] at hx; obtain ⟨a, b, _, rfl⟩ := hx; rfl
    · simp [encR]
    · simp
    · intro x hx
      simp only [encR, List.mem_map] at hx
      obtain ⟨r, _, rfl⟩ := hx
      have := one1_ok (G := G) r c
      simp only [← hp] at this
      exact this
    · rintro r rfl
      simp only [encR, List.any_map]
      congr 2
      funext r
      exact hp r
  simp [a_glob_piece_one, Pc.enc]
  cases p with
  | lit l =>
    simp [Pc.kind, Pc.low, Pc.one]
    exact ⟨fun h => UInt8.toNat_inj.1 (by omega), fun h => by rw [h]⟩
  | q => simp [Pc.kind, Pc.one]
  | star =>
    simp [Pc.kind]
    refine ac_lent hR ?_ ?_
    · exact .cons (.pure _ (by simp)) (.cons (coe_fn1 (coe_ptr rfl (by simp) rfl)) .nil)
    · rintro r rfl; simp [Pc.one, Pc.rs]
  | cls rs t =>
    simp [Pc.kind]
    refine ac_lent hR ?_ ?_
    · exact .cons (.pure _ (by simp)) (.cons (coe_fn1 (coe_ptr rfl (by simp) rfl)) .nil)
    · rintro r rfl; simp [Pc.one, Pc.rs]
  | br xs =>
    simp [Pc.kind]
    refine ac_lent hR ?_ ?_
    · exact .cons (.pure _ (by simp)) (.cons (coe_fn1 (coe_ptr rfl (by simp) rfl)) .nil)
    · rintro r rfl; simp [Pc.one, Pc.rs]
end Go.Proofs.YtkclehdmdnfikaaDoor
