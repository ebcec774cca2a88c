/- A target as a tree, in plain Lean: calls and their kinds, parsing, checking, printing. Slices that grow behind a part of the store that stays. The sto -/
import Derived.Lib.FieldsP
import Derived.Test.YtigkchpjpdbodaaGreatDoorAbs2
import Derived.Test.YtigkchpjpdbodaaGreatDoorCode
import Derived.Test.YtigkchpjpdbodaaGreatDoorShelf
import Derived.Lib.IndexAny
import Derived.Lib.Itoa
import Derived.Lib.ItoaMem
import Derived.Lib.ItoaLen
import Derived.Test.YtigkchpjpdbodaaGreatDoorBn1
set_option linter.unusedSimpArgs false
set_option linter.unusedVariables false
set_option linter.constructorNameAsVariable false
section
namespace Go.Tgt
/-- The calls' families: their arguments' kinds, and their words with blanks between. -/
def famT : List (List UInt8 × List UInt8) := [
  ([83], [97, 98, 115, 111, 108, 117, 116, 101, 32, 110, 101, 103, 97, 116, 101, 32, 105, 110, 118, 101, 114, 116, 32, 115, 113, 117, 97, 114, 101, 82, 111, 111, 116, 32, 100, 101, 114, 105, 118, 97, 116, 105, 118, 101, 32, 105, 110, 116, 101, 103, 114, 97, 108, 32, 105, 115, 78, 111, 110, 78, 117, 108, 108, 32, 97, 115, 80, 101, 114, 99, 101, 110, 116, 32, 115, 111, 114, 116, 66, 121, 78, 97, 109, 101, 32, 115, 111, 114, 116, 66, 121, 84, 111, 116, 97, 108, 32, 115, 111, 114, 116, 66, 121, 77, 97, 120, 105, 109, 97, 32, 115, 111, 114, 116, 66, 121, 77, 105, 110, 105, 109, 97]),
  ([83, 78], [115, 99, 97, 108, 101, 32, 111, 102, 102, 115, 101, 116, 32, 100, 101, 108, 97, 121, 32, 109, 111, 118, 105, 110, 103, 65, 118, 101, 114, 97, 103, 101, 32, 109, 111, 118, 105, 110, 103, 83, 117, 109, 32, 109, 111, 118, 105, 110, 103, 77, 105, 110, 32, 109, 111, 118, 105, 110, 103, 77, 97, 120, 32, 114, 101, 109, 111, 118, 101, 65, 98, 111, 118, 101, 86, 97, 108, 117, 101, 32, 114, 101, 109, 111, 118, 101, 66, 101, 108, 111, 119, 86, 97, 108, 117, 101, 32, 114, 111, 117, 110, 100, 32, 112, 101, 114, 99, 101, 110, 116, 105, 108, 101, 79, 102, 83, 101, 114, 105, 101, 115, 32, 108, 105, 109, 105, 116, 32, 104, 105, 103, 104, 101, 115, 116, 77, 97, 120, 32, 104, 105, 103, 104, 101, 115, 116, 65, 118, 101, 114, 97, 103, 101, 32, 104, 105, 103, 104, 101, 115, 116, 67, 117, 114, 114, 101, 110, 116, 32, 108, 111, 119, 101, 115, 116, 65, 118, 101, 114, 97, 103, 101, 32, 108, 111, 119, 101, 115, 116, 67, 117, 114, 114, 101, 110, 116, 32, 97, 118, 101, 114, 97, 103, 101, 65, 98, 111, 118, 101, 32, 97, 118, 101, 114, 97, 103, 101, 66, 101, 108, 111, 119, 32, 109, 97, 120, 105, 109, 117, 109, 65, 98, 111, 118, 101, 32, 109, 97, 120, 105, 109, 117, 109, 66, 101, 108, 111, 119, 32, 109, 105, 110, 105, 109, 117, 109, 65, 98, 111, 118, 101, 32, 109, 105, 110, 105, 109, 117, 109, 66, 101, 108, 111, 119, 32, 99, 117, 114, 114, 101, 110, 116, 65, 98, 111, 118, 101, 32, 99, 117, 114, 114, 101, 110, 116, 66, 101, 108, 111, 119, 32, 116, 105, 109, 101, 83, 104, 105, 102, 116]),
  ([83, 110], [110, 111, 110, 78, 101, 103, 97, 116, 105, 118, 101, 68, 101, 114, 105, 118, 97, 116, 105, 118, 101, 32, 112, 101, 114, 83, 101, 99, 111, 110, 100, 32, 107, 101, 101, 112, 76, 97, 115, 116, 86, 97, 108, 117, 101, 32, 116, 114, 97, 110, 115, 102, 111, 114, 109, 78, 117, 108, 108]),
  ([83, 78, 78], [99, 108, 97, 109, 112]),
  ([83, 78, 116], [115, 117, 109, 109, 97, 114, 105, 122, 101]),
  ([83, 43], [115, 117, 109, 83, 101, 114, 105, 101, 115, 32, 97, 118, 101, 114, 97, 103, 101, 83, 101, 114, 105, 101, 115, 32, 109, 105, 110, 83, 101, 114, 105, 101, 115, 32, 109, 97, 120, 83, 101, 114, 105, 101, 115, 32, 109, 117, 108, 116, 105, 112, 108, 121, 83, 101, 114, 105, 101, 115, 32, 100, 105, 102, 102, 83, 101, 114, 105, 101, 115, 32, 114, 97, 110, 103, 101, 79, 102, 83, 101, 114, 105, 101, 115, 32, 99, 111, 117, 110, 116, 83, 101, 114, 105, 101, 115, 32, 109, 101, 100, 105, 97, 110, 83, 101, 114, 105, 101, 115, 32, 103, 114, 111, 117, 112]),
  ([83, 83], [100, 105, 118, 105, 100, 101, 83, 101, 114, 105, 101, 115]),
  ([83, 78, 84], [103, 114, 111, 117, 112, 66, 121, 78, 111, 100, 101]),
  ([83, 84], [103, 114, 101, 112, 32, 101, 120, 99, 108, 117, 100, 101, 32, 97, 108, 105, 97, 115]),
  ([83, 78, 43], [97, 108, 105, 97, 115, 66, 121, 78, 111, 100, 101]),
  ([78], [99, 111, 110, 115, 116, 97, 110, 116, 76, 105, 110, 101])]
def kindsS (call : List UInt8) : Option (List UInt8) := (famT.find? fun p => decide (call ∈ Lib.fields p.2)).map (·.1)
structure Nd where
  kind : Int
  text : List UInt8
  num : Int
  args : List Int
def letterS (n : Nd) : UInt8 := if n.kind = 2 then 78 else if n.kind = 3 then 84 else 83
/-- Are arguments of such kinds as a call's table says? (As the document tells it.) -/
def fitS : Nat → List UInt8 → List UInt8 → Bool
  | _, [], args => args.isEmpty
  | 0, _, _ => false
  | n + 1, k :: ks, args =>
    match args with
    | [] => decide (97 ≤ k) && fitS n ks []
    | a :: as_ =>
      if a ≠ (if 97 ≤ k then k - 32 else k) then false
      else match ks with
        | [] => as_.isEmpty
        | c :: ks' => if c = 43 then (as_.isEmpty || fitS n (k :: c :: ks') as_) else fitS n (c :: ks') as_
def fitK (kinds args : List UInt8) : Bool := fitS (kinds.length + args.length + 1) kinds args
/-- An argument's tokens: nodes so far and with it, and the tokens behind. Errors: 17 parse, 19 too deep, 11 too many. -/
def argsP (sub : List Tok.Tk → List Nd → Except Nat (List Nd × List Tok.Tk)) (word : List UInt8) : Nat → List Int → List Tok.Tk → List Nd → Except Nat (List Nd × List Tok.Tk)
  | 0, _, _, _ => .error 17
  | n + 1, args, t, l => match sub t l with
    | .error e => .error e
    | .ok (l', t') => match t' with
      | [] => .error 17
      | y :: r =>
        if y.kind = 5 then .ok (l' ++ [⟨4, word, 0, args ++ [(l'.length : Int) - 1]⟩], r)
        else if y.kind = 6 then (if args.length + 1 = 16 then .error 11 else argsP sub word n (args ++ [(l'.length : Int) - 1]) r l')
        else .error 17
def numOf (t : List UInt8) : Int := match Dec.parse t with
  | .ok v => v
  | .error _ => 0
/-- lv: how many levels more there may be. -/
def argP : Nat → List Tok.Tk → List Nd → Except Nat (List Nd × List Tok.Tk)
  | lv, [], l => .error 17
  | lv, x :: r, l =>
    if ¬ (x.kind = 1 ∨ x.kind = 2 ∨ x.kind = 3) then .error 17
    else match lv with
      | 0 => .error 19
      | lv + 1 =>
        if x.kind = 2 then .ok (l ++ [⟨2, [], numOf x.text, []⟩], r)
        else if x.kind = 3 then .ok (l ++ [⟨3, x.text, 0, []⟩], r)
        else match r with
          | [] => .ok (l ++ [⟨1, x.text, 0, []⟩], r)
          | y :: r' =>
            if y.kind ≠ 4 then .ok (l ++ [⟨1, x.text, 0, []⟩], r)
            else match r' with
              | [] => .error 17
              | z :: r'' => if z.kind = 5 then .ok (l ++ [⟨4, x.text, 0, []⟩], r'') else argsP (argP lv) x.text r'.length [] r' l
/-- What a node's check says; 0: nothing. 'nodeE': what the check of a path pattern says. -/
def nodeS (nodeE : List UInt8 → Nat) (l : List Nd) (n : Nd) : Nat :=
  if n.kind = 1 then nodeE n.text
  else if n.kind = 4 then match kindsS n.text with
    | none => 15
    | some k => if fitK k (n.args.map fun a => letterS (l.getD a.toNat ⟨0, [], 0, []⟩)) = true then 0 else 18
  else 0
def checkS (nodeE : List UInt8 → Nat) (l : List Nd) : List Nd → Nat
  | [] => 0
  | n :: r => if nodeS nodeE l n = 0 then checkS nodeE l r else nodeS nodeE l n
def parseS (nodeE : List UInt8 → Nat) (s : List UInt8) : Except Nat (List Nd) := match Tok.split s with
  | .error e => .error e
  | .ok t => match t with
    | [] => .error 17
    | x :: _ => if x.kind ≠ 1 then .error 17 else match argP 12 t [] with
      | .error e => .error e
      | .ok (l, r) => if r ≠ [] then .error 17 else if checkS nodeE l l = 0 then .ok l else .error (checkS nodeE l l)
theorem isE (r : List UInt8) : r.isEmpty = decide (r = []) := by cases r <;> simp
theorem fit_S (args : List UInt8) : fitK [83] args = decide (args = [83]) := by
  cases args with
  | nil => rfl
  | cons a r => simp [fitK, fitS]; by_cases h : a = 83 <;> simp [h, isE]
theorem fit_N (args : List UInt8) : fitK [78] args = decide (args = [78]) := by
  cases args with
  | nil => rfl
  | cons a r => simp [fitK, fitS]; by_cases h : a = 78 <;> simp [h, isE]
theorem fit_SN (args : List UInt8) : fitK [83, 78] args = decide (args = [83, 78]) := by
  match args with
  | [] => rfl
  | [a] => simp [fitK, fitS]
  | a :: b :: r => simp [fitK, fitS]; by_cases h : a = 83 <;> by_cases h2 : b = 78 <;> simp [h, h2, isE]
theorem fit_Sn (args : List UInt8) : fitK [83, 110] args = (decide (args = [83]) || decide (args = [83, 78])) := by
  match args with
  | [] => rfl
  | [a] => simp [fitK, fitS]
  | a :: b :: r => simp [fitK, fitS]; by_cases h : a = 83 <;> by_cases h2 : b = 78 <;> simp [h, h2, isE]
theorem fit_SS (args : List UInt8) : fitK [83, 83] args = decide (args = [83, 83]) := by
  match args with
  | [] => rfl
  | [a] => simp [fitK, fitS]
  | a :: b :: r => simp [fitK, fitS]; by_cases h : a = 83 <;> by_cases h2 : b = 83 <;> simp [h, h2, isE]
theorem fit_ST (args : List UInt8) : fitK [83, 84] args = decide (args = [83, 84]) := by
  match args with
  | [] => rfl
  | [a] => simp [fitK, fitS]
  | a :: b :: r => simp [fitK, fitS]; by_cases h : a = 83 <;> by_cases h2 : b = 84 <;> simp [h, h2, isE]
theorem fit_SNN (args : List UInt8) : fitK [83, 78, 78] args = decide (args = [83, 78, 78]) := by
  match args with
  | [] => rfl
  | [a] => simp [fitK, fitS]
  | [a, b] => simp [fitK, fitS]
  | a :: b :: c :: r => simp [fitK, fitS]; by_cases h : a = 83 <;> by_cases h2 : b = 78 <;> by_cases h3 : c = 78 <;> simp [h, h2, h3, isE]
theorem fit_SNT (args : List UInt8) : fitK [83, 78, 84] args = decide (args = [83, 78, 84]) := by
  match args with
  | [] => rfl
  | [a] => simp [fitK, fitS]
  | [a, b] => simp [fitK, fitS]
  | a :: b :: c :: r => simp [fitK, fitS]; by_cases h : a = 83 <;> by_cases h2 : b = 78 <;> by_cases h3 : c = 84 <;> simp [h, h2, h3, isE]
theorem fit_SNt (args : List UInt8) : fitK [83, 78, 116] args = (decide (args = [83, 78]) || decide (args = [83, 78, 84])) := by
  match args with
  | [] => rfl
  | [a] => simp [fitK, fitS]
  | [a, b] => simp [fitK, fitS] <;> (try (by_cases h : a = 83 <;> by_cases h2 : b = 78 <;> simp [h, h2, isE]))
  | a :: b :: c :: r => simp [fitK, fitS]; by_cases h : a = 83 <;> by_cases h2 : b = 78 <;> by_cases h3 : c = 84 <;> simp [h, h2, h3, isE]
theorem fit_more (c : UInt8) (hc : ¬ 97 ≤ c) : ∀ (n : Nat) (args : List UInt8), args.length < n → fitS n [c, 43] args = (!args.isEmpty && args.all fun a => a == c)
  | 0, _, h => by omega
  | n + 1, [], _ => by simp [fitS, hc]
  | n + 1, a :: r, h => by
    have ih := fit_more c hc n r (by simp at h; omega)
    simp only [fitS, if_neg hc]
    by_cases ha : a = c
    · subst ha
      simp only [ne_eq, not_true, if_false, if_true, ih]
      cases r <;> simp
    · simp [ha]
theorem fit_Sp (args : List UInt8) : fitK [83, 43] args = (!args.isEmpty && args.all fun a => a == 83) := fit_more 83 (by decide) _ args (by simp; omega)
theorem fit_step (n : Nat) (k c : UInt8) (ks : List UInt8) (a : UInt8) (as_ : List UInt8) (hk : ¬ 97 ≤ k) (hc : c ≠ 43) : fitS (n + 1) (k :: c :: ks) (a :: as_) = if a ≠ k then false else fitS n (c :: ks) as_ := by
  rw [fitS]
  simp only [if_neg hk, if_neg hc]
theorem fit_SNp (args : List UInt8) : fitK [83, 78, 43] args = match args with
    | [] => false
    | a :: r => a == 83 && (!r.isEmpty && r.all fun a => a == 78) := by
  cases args with
  | nil => rfl
  | cons a r =>
    have := fit_more 78 (by decide) (r.length + 4) r (by omega)
    unfold fitK
    rw [show [83, 78, (43 : UInt8)].length + (a :: r).length + 1 = (r.length + 4) + 1 by simp; omega, fit_step _ _ _ _ _ _ (by decide) (by decide)]
    by_cases ha : a = 83
    · subst ha
      rw [if_neg (by simp), this]; rfl
    · rw [if_pos ha]
      have : (a == 83) = false := by simpa using ha
      simp only [this, Bool.false_and]
end Go.Tgt
end
section
namespace Go.Abs
/-- A slice that grows: its elements never change; τ lies behind lo entries. -/
def AccT (e size lo : Nat) (τ : Store) (v : AV) (l : List (List AV)) : Prop := (l = [] ∧ v = .nils) ∨ (l ≠ [] ∧ ∃ p, v = .row (lo + p) l.length ∧ τ[p]? = some (.row e size l true))
theorem AccT.more {e size lo : Nat} {τ : Store} {v : AV} {l : List (List AV)} (h : AccT e size lo τ v l) (x : Store) : AccT e size lo (τ ++ x) v l := by
  rcases h with h | ⟨h1, p, h2, h3⟩
  · exact .inl h
  · exact .inr ⟨h1, p, h2, by rw [List.getElem?_append_left (List.getElem?_eq_some_iff.1 h3).1]; exact h3⟩
theorem AccT.get {e size : Nat} {σ τ : Store} {v : AV} {l : List (List AV)} (h : AccT e size σ.length τ v l) : (l = [] ∧ v = .nils) ∨ (l ≠ [] ∧ ∃ id, σ.length ≤ id ∧ v = .row id l.length ∧ (σ ++ τ)[id]? = some (.row e size l true)) := by
  rcases h with h | ⟨h1, p, h2, h3⟩
  · exact .inl h
  · exact .inr ⟨h1, _, by omega, h2, by rw [List.getElem?_append_right (by omega), Nat.add_sub_cancel_left]; exact h3⟩
theorem AccT.coe {e size : Nat} {σ τ : Store} {v : AV} {l : List (List AV)} (h : AccT e size σ.length τ v l) (lend : Bool) : Coe (σ ++ τ) lend v (.lst l) := by
  rcases h.get with ⟨rfl, rfl⟩ | ⟨h1, id, _, rfl, h3⟩
  · exact .nils
  · exact .row id _ e size l true h3 rfl (.inl rfl)
theorem AccT.fin1 {e size : Nat} {σ τ : Store} {v : AV} {l : List (List AV)} (h : AccT e size σ.length τ v l) (m : Nat) : fin1 (σ ++ τ) m v = some (.lst l) := by
  rcases h.get with ⟨rfl, rfl⟩ | ⟨h1, id, _, rfl, h3⟩
  · rfl
  · simp [Abs.fin1, fz, h3]
theorem AccT.view {e size : Nat} {σ τ : Store} {v : AV} {l : List (List AV)} (h : AccT e size σ.length τ v l) : view (σ ++ τ) v = some l := by
  rcases h.get with ⟨rfl, rfl⟩ | ⟨h1, id, _, rfl, h3⟩
  · rfl
  · simp [Abs.view, h3]
theorem AccT.share {e size : Nat} {σ τ : Store} {v : AV} {l : List (List AV)} (h : AccT e size σ.length τ v l) : share1 (σ ++ τ) v = some (.lst l) := by
  rcases h.get with ⟨rfl, rfl⟩ | ⟨h1, id, _, rfl, h3⟩
  · rfl
  · simp [share1, h3]
theorem AccT.under {e size lo : Nat} {τ : Store} {v : AV} {l : List (List AV)} (h : AccT e size lo τ v l) {m : Nat} (hm : lo + τ.length ≤ m) : v.under m = true := by
  rcases h with ⟨_, rfl⟩ | ⟨_, p, rfl, h3⟩
  · simp [AV.under]
  · have := (List.getElem?_eq_some_iff.1 h3).1
    simp [AV.under]; omega
theorem AccT.finT {e size : Nat} {σ τ : Store} {v : AV} {l : List (List AV)} (h : AccT e size σ.length τ v l) (m : Nat) : Abs.finT (σ ++ τ) m v = some (.lst l) := by
  have h1 := h.fin1 m
  rcases h.get with ⟨_, rfl⟩ | ⟨_, id, _, rfl, _⟩ <;> exact h1
def joinB (J : Frame → Store → Prop) (_ : Tg J) (Q : AExit → Frame → Store → Prop) : AExit → Frame → Store → Prop
  | .normal, f, σ => jn J (.mk J) f (.mk f) σ
  | e, f, σ => Q e f σ
theorem joinB_normal {J : Frame → Store → Prop} {t : Tg J} {Q : AExit → Frame → Store → Prop} {f : Frame} {σ : Store} : joinB J t Q .normal f σ = jn J (.mk J) f (.mk f) σ := rfl
theorem joinB_ret {J : Frame → Store → Prop} {t : Tg J} {Q : AExit → Frame → Store → Prop} {f : Frame} {σ : Store} : joinB J t Q .ret f σ = Q .ret f σ := rfl
theorem joinB_exit {J : Frame → Store → Prop} {t : Tg J} {Q : AExit → Frame → Store → Prop} {f : Frame} {σ : Store} {i : Nat} : joinB J t Q (.exit i) f σ = Q (.exit i) f σ := rfl
attribute [simp ↓] joinB_normal joinB_ret joinB_exit
end Go.Abs
end
section
namespace Go.Abs
theorem under_le {m m' : Nat} (h : m ≤ m') : ∀ (v : AV), v.under m = true → v.under m' = true
  | .ptr id _, hv => by simp [AV.under] at hv ⊢; omega
  | .row id _, hv => by simp [AV.under] at hv ⊢; omega
  | .rowp id _ _ _ _, hv => by simp [AV.under] at hv ⊢; omega
  | .map id, hv => by simp [AV.under] at hv ⊢; omega
  | .sub id _ _ _ _, hv => by simp [AV.under] at hv ⊢; omega
  | .asl id _ _ _, hv => by simp [AV.under] at hv ⊢; omega
  | .fn g a b, hv => by
    simp only [AV.under, Bool.and_eq_true, List.all_eq_true] at hv ⊢
    exact ⟨fun x hx => under_le h x.1 (hv.1 x hx), fun x hx => under_le h x.1 (hv.2 x hx)⟩
  | .iface t v, hv => by
    simp only [AV.under] at hv ⊢
    exact under_le h v hv
  | .agg l, hv => by
    simp only [AV.under, List.all_eq_true] at hv ⊢
    exact fun x hx => under_le h x.1 (hv x hx)
  | .tup l, hv => by
    simp only [AV.under, List.all_eq_true] at hv ⊢
    exact fun x hx => under_le h x.1 (hv x hx)
  | .junk, _ => by simp [AV.under]
  | .int _ _, _ => by simp [AV.under]
  | .bool _, _ => by simp [AV.under]
  | .str _, _ => by simp [AV.under]
  | .flt _ _, _ => by simp [AV.under]
  | .nilp, _ => by simp [AV.under]
  | .rptr _, _ => by simp [AV.under]
  | .nils, _ => by simp [AV.under]
  | .lst _, _ => by simp [AV.under]
  | .nilm, _ => by simp [AV.under]
  | .nilf, _ => by simp [AV.under]
  | .nili, _ => by simp [AV.under]
  | .any _, _ => by simp [AV.under]
  | .gp _ _, _ => by simp [AV.under]
  | .tight _, _ => by simp [AV.under]
termination_by v _ => SizeOf.sizeOf v
decreasing_by
  all_goals simp_wf
  all_goals (first | omega | (have := List.sizeOf_lt_of_mem x.2; omega))
theorem eunder_le {m m' : Nat} (h : m ≤ m') : ∀ (e : Entry), e.under m = true → e.under m' = true
  | .dead _, _ => rfl
  | .var _ cells, he => by
    simp only [Entry.under, List.all_eq_true] at he ⊢
    exact fun x hx => under_le h x (he x hx)
  | .row _ _ els _, he => by
    simp only [Entry.under, List.all_eq_true] at he ⊢
    exact fun c hc x hx => under_le h x (he c hc x hx)
  | .mp kv, he => by
    simp only [Entry.under, List.all_eq_true] at he ⊢
    exact fun x hx => under_le h x.2 (he x hx)
  | .itr none _ _ _, _ => rfl
  | .itr (some i) _ _ _, he => by
    simp only [Entry.under, Option.all_some, decide_eq_true_eq] at he ⊢
    omega
/-- What was there is there still, or what is there now points at nothing beyond. -/
structure Kept (σ₀ σ : Store) : Prop where
  len : σ₀.length ≤ σ.length
  und : ∀ (i : Nat) (e : Entry), σ[i]? = some e → σ₀[i]? = some e ∨ e.under σ.length = true
theorem Kept.refl (σ : Store) : Kept σ σ := ⟨Nat.le_refl _, fun _ _ h => .inl h⟩
theorem Kept.app {σ₀ σ : Store} (h : Kept σ₀ σ) {x : Entry} (hx : x.under (σ.length + 1) = true) : Kept σ₀ (σ ++ [x]) :=
  ⟨by have := h.len; simp; omega, fun i e he => by
    by_cases hi : i < σ.length
    · rw [List.getElem?_append_left hi] at he
      exact (h.und i e he).imp id fun h2 => eunder_le (by simp) e h2
    · rw [List.getElem?_append_right (by omega)] at he
      have := List.mem_of_getElem? he
      simp at this; subst this
      exact .inr (by simpa using hx)⟩
theorem Kept.set {σ₀ σ : Store} (h : Kept σ₀ σ) (i : Nat) {x : Entry} (hx : x.under σ.length = true) : Kept σ₀ (σ.set i x) :=
  ⟨by have := h.len; simpa using this, fun j e he => by
    by_cases hij : i = j
    · subst hij
      by_cases hl : i < σ.length
      · rw [List.getElem?_set_self hl] at he
        simp at he; subst he
        exact .inr (by simpa using hx)
      · rw [List.getElem?_eq_none (by simp; omega)] at he; cases he
    · rw [List.getElem?_set_ne hij] at he
      exact (h.und j e he).imp id fun h2 => by simpa using h2⟩
theorem Kept.trans {σ₀ σ₁ σ₂ : Store} (h : Kept σ₀ σ₁) (h' : Kept σ₁ σ₂) : Kept σ₀ σ₂ :=
  ⟨Nat.le_trans h.len h'.len, fun i e he => by
    rcases h'.und i e he with h1 | h1
    · exact (h.und i e h1).imp id fun h2 => eunder_le h'.len e h2
    · exact .inr h1⟩
/-- A slice that grows, anywhere in the store: its elements never change. -/
def AccI (te size : Nat) (σ : Store) (v : AV) (l : List (List AV)) : Prop := (l = [] ∧ v = .nils) ∨ (l ≠ [] ∧ ∃ id, v = .row id l.length ∧ σ[id]? = some (.row te size l true))
theorem accI_nil {te size : Nat} {σ : Store} : AccI te size σ .nils [] := .inl ⟨rfl, rfl⟩
theorem AccI.keep {te size : Nat} {σ σ' : Store} {v : AV} {l : List (List AV)} (h : AccI te size σ v l) (hk : ∀ (i : Nat) (e : Entry), σ[i]? = some e → v = .row i l.length → σ'[i]? = some e) : AccI te size σ' v l := by
  rcases h with h | ⟨h1, id, h2, h3⟩
  · exact .inl h
  · exact .inr ⟨h1, id, h2, hk id _ h3 h2⟩
theorem AccI.view {te size : Nat} {σ : Store} {v : AV} {l : List (List AV)} (h : AccI te size σ v l) : view σ v = some l := by
  rcases h with ⟨rfl, rfl⟩ | ⟨h1, id, rfl, h3⟩
  · rfl
  · simp [Abs.view, h3]
theorem AccI.share {te size : Nat} {σ : Store} {v : AV} {l : List (List AV)} (h : AccI te size σ v l) : share1 σ v = some (.lst l) := by
  rcases h with ⟨rfl, rfl⟩ | ⟨h1, id, rfl, h3⟩
  · rfl
  · simp [share1, h3]
theorem AccI.coe {te size : Nat} {σ : Store} {v : AV} {l : List (List AV)} (h : AccI te size σ v l) (lend : Bool) : Coe σ lend v (.lst l) := by
  rcases h with ⟨rfl, rfl⟩ | ⟨h1, id, rfl, h3⟩
  · exact .nils
  · exact .row id _ te size l true h3 rfl (.inl rfl)
theorem AccI.fin1 {te size : Nat} {σ : Store} {v : AV} {l : List (List AV)} (h : AccI te size σ v l) (m : Nat) : Abs.fin1 σ m v = some (.lst l) := by
  rcases h with ⟨rfl, rfl⟩ | ⟨h1, id, rfl, h3⟩
  · rfl
  · simp [Abs.fin1, fz, h3]
theorem AccI.under {te size : Nat} {σ : Store} {v : AV} {l : List (List AV)} (h : AccI te size σ v l) : v.under σ.length = true := by
  rcases h with ⟨_, rfl⟩ | ⟨_, id, rfl, h3⟩
  · simp [AV.under]
  · have := (List.getElem?_eq_some_iff.1 h3).1
    simp [AV.under]; omega
theorem AccI.one {te size : Nat} {σ : Store} {v : AV} {l : List (List AV)} (h : AccI te size σ v l) : v.one = true ∧ v.cells = [v] := by
  rcases h with ⟨_, rfl⟩ | ⟨_, id, rfl, _⟩ <;> exact ⟨rfl, rfl⟩
theorem pure_underS (m : Nat) : ∀ (v : AV), v.pure = true → v.under m = true
  | .ptr _ _, hv => by simp [AV.pure] at hv
  | .row _ _, hv => by simp [AV.pure] at hv
  | .rowp _ _ _ _ _, hv => by simp [AV.pure] at hv
  | .map _, hv => by simp [AV.pure] at hv
  | .sub _ _ _ _ _, hv => by simp [AV.pure] at hv
  | .asl _ _ _ _, hv => by simp [AV.pure] at hv
  | .fn g a b, hv => by
    simp only [AV.pure, AV.under, Bool.and_eq_true, List.all_eq_true] at hv ⊢
    exact ⟨fun x hx => pure_underS m x.1 (hv.1 x hx), fun x hx => pure_underS m x.1 (hv.2 x hx)⟩
  | .iface t v, hv => by
    simp only [AV.pure, AV.under] at hv ⊢
    exact pure_underS m v hv
  | .agg l, hv => by
    simp only [AV.pure, AV.under, List.all_eq_true] at hv ⊢
    exact fun x hx => pure_underS m x.1 (hv x hx)
  | .tup l, hv => by
    simp only [AV.pure, AV.under, List.all_eq_true] at hv ⊢
    exact fun x hx => pure_underS m x.1 (hv x hx)
  | .junk, _ => by simp [AV.under]
  | .int _ _, _ => by simp [AV.under]
  | .bool _, _ => by simp [AV.under]
  | .str _, _ => by simp [AV.under]
  | .flt _ _, _ => by simp [AV.under]
  | .nilp, _ => by simp [AV.under]
  | .rptr _, _ => by simp [AV.under]
  | .nils, _ => by simp [AV.under]
  | .lst _, _ => by simp [AV.under]
  | .nilm, _ => by simp [AV.under]
  | .nilf, _ => by simp [AV.under]
  | .nili, _ => by simp [AV.under]
  | .any _, _ => by simp [AV.under]
  | .gp _ _, _ => by simp [AV.under]
  | .tight _, _ => by simp [AV.under]
termination_by v _ => SizeOf.sizeOf v
decreasing_by
  all_goals simp_wf
  all_goals (first | omega | (have := List.sizeOf_lt_of_mem x.2; omega))
theorem pure_under' {v : AV} (h : v.pure = true) (m : Nat) : v.under m = true := pure_underS m v h
theorem ap_accI {K : AV → Store → Prop} {t : Tg K} {te size bytes : Nat} {σ : Store} {v : AV} {l : List (List AV)} (h : AccI te size σ v l) (x : List AV) (hs : 0 < size) (hx : x.length = size) (hp : ∀ c ∈ l ++ [x], ∀ a ∈ c, a.pure = true) (hb : (l.length + 1) * bytes ≤ 140737488355328) (h63 : l.length + 1 ≤ 9223372036854775807)
    (hK : ∀ v' σ', AccI te size σ' v' (l ++ [x]) → Kept σ σ' → (∀ (i : Nat) (e : Entry), σ[i]? = some e → v ≠ .row i l.length → σ'[i]? = some e) → (∀ (i m : Nat), v' = .row i m → i < σ.length → v = .row i l.length) → K v' σ') : ap K t σ te size bytes v (.lst [x]) := by
  have hu : ∀ m, (Entry.row te size (l ++ [x]) true).under m = true := fun m => by
    simp only [Entry.under, List.all_eq_true]
    exact fun c hc a ha => pure_under' (hp c hc a ha) m
  rcases h with ⟨rfl, rfl⟩ | ⟨h1, id, rfl, h3⟩
  · refine ap_new true [x] rfl hs (by simp [hx]) (fun _ => .inl rfl) (by simpa using hb) (by simp) ?_
    exact hK (.row σ.length 1) (σ ++ [.row te size [x] true]) (.inr ⟨by simp, σ.length, by simp, by simp⟩) ((Kept.refl σ).app (hu _)) (fun i e he _ => by rw [List.getElem?_append_left (List.getElem?_eq_some_iff.1 he).1]; exact he) fun i m hm hi => by cases hm; omega
  · have hlt := (List.getElem?_eq_some_iff.1 h3).1
    refine ap_row l [x] true h3 rfl hs (by simp [hx]) (fun _ => .inl rfl) rfl (by simpa using hb) (by simpa using h63) ?_
    exact hK (.row id (l.length + 1)) (σ.set id (.row te size (l ++ [x]) true)) (.inr ⟨by simp, id, by simp, by simp [hlt]⟩) ((Kept.refl σ).set id (hu _)) (fun i e he hv => by
      have hne : id ≠ i := fun e => hv (by rw [e])
      rw [List.getElem?_set_ne hne]; exact he) fun i m hm _ => by cases hm; rfl
end Go.Abs
end
section
namespace Go.Proofs.YtigkchpjpdbodaaGreatDoor
open Go.Abs Go.Glob
variable {G : Globs}
/-- strings.IndexByte. -/
theorem indexByte_ok (s : List UInt8) (c : UInt8) : PCalls Tryz.prog 104 [.str s, .int .u8 c.toNat] (fun r => r = .int .i64 (Lib.indexByte s c)) := by
  intro base κ Im w vs hs hv
  obtain ⟨v0, v1, rfl⟩ : ∃ v0 v1, vs = [v0, v1] := by
    match vs, hv.1 with
    | [a, b], _ => exact ⟨a, b, rfl⟩
  have e0 := (hv.2 0 (by simp) (by simp)).str_inv
  have e1 := (hv.2 1 (by simp) (by simp)).int_inv
  simp only [List.getElem_cons_zero, List.getElem_cons_succ] at e0 e1
  subst e0; subst e1
  refine (Tryz.strings_IndexByte ⟨s.toArray⟩ c.toNat w).mono ?_
  rintro e w' ⟨rfl, rfl⟩
  exact ⟨_, [], _, κ, Im, rfl, ⟨rfl, rfl⟩, hs, Grow.refl _ _ _ _, .im _ _ (by simpa using IR.int (Im := Im) (w := w') .i64 (Lib.indexByte s c))⟩
theorem nb_index (c : UInt8) : nb c = ((97 ≤ c && c ≤ 122) || (65 ≤ c && c ≤ 90) || (48 ≤ c && c ≤ 57) || decide (0 ≤ Lib.indexByte [95, 45, 58, 37, 35, 64, 43, 61] c)) := by
  unfold nb
  rw [Lib.contains_iff_indexByte]
theorem byte_ok (c : UInt8) : PCalls Tryz.prog n_glob_Byte [.int .u8 c.toNat] (fun r => r = .bool (nb c)) := by
  refine pcalls_of_awp hmix c_glob_Byte rfl ?_
  simp [a_glob_Byte]
  repeat' (first
    | (refine gd_dt (fun _ => ?_) (fun _ => ?_))
    | (refine cb_dec (fun _ => ?_) (fun _ => ?_))
    | (refine ac_same (indexByte_ok _ _) (by simp) ?_; rintro r rfl)
    | simp [*])
  all_goals (simp [nb_index, UInt8.le_iff_toNat_le]; omega)
theorem peek_some (s : List UInt8) (k : Nat) (c : UInt8) (bad depth deepest : AV) (h : s[k]? = some c) : PCalls Tryz.prog n_glob_parser_peek [.rptr [.str s, .int .i64 k, bad, depth, deepest]] (fun r => r = .tup [.int .u8 c.toNat, .bool true]) := by
  refine pcalls_of_awp hmix c_glob_parser_peek rfl ?_
  have hk : k < s.length := (List.getElem?_eq_some_iff.1 h).1
  simp [a_glob_parser_peek]
  refine cb_dec (fun hh => by omega) (fun _ => ?_)
  simp [h]
theorem peek_none (s : List UInt8) (k : Nat) (bad depth deepest : AV) (h : s.length ≤ k) : PCalls Tryz.prog n_glob_parser_peek [.rptr [.str s, .int .i64 k, bad, depth, deepest]] (fun r => r = .tup [.int .u8 0, .bool false]) := by
  refine pcalls_of_awp hmix c_glob_parser_peek rfl ?_
  simp [a_glob_parser_peek, h]
/-- A list of texts. -/
def strEls (l : List (List UInt8)) : List (List AV) := l.map fun s => [.str s]
end Go.Proofs.YtigkchpjpdbodaaGreatDoor
end
section
namespace Go.Glob
open Go.Abs
mutual
def encL : List Pc → List (List AV)
  | [] => []
  | .lit c :: l => [.int .i64 0, .int .u8 c.toNat, .lst [], .lst [], .str [c]] :: encL l
  | .q :: l => [.int .i64 1, .int .u8 0, .lst [], .lst [], .str [63]] :: encL l
  | .star :: l => [.int .i64 2, .int .u8 0, .lst [], .lst [], .str [42]] :: encL l
  | .cls rs t :: l => [.int .i64 3, .int .u8 0, .lst (rs.map fun r => [.int .u8 r.1.toNat, .int .u8 r.2.toNat]), .lst [], .str t] :: encL l
  | .br xs :: l => [.int .i64 4, .int .u8 0, .lst [], .lst (encA xs), .str []] :: encL l
def encA : List (List Pc) → List (List AV)
  | [] => []
  | a :: xs => [.lst (encL a)] :: encA xs
end
def Pc.kind : Pc → Nat
  | .lit _ => 0
  | .q => 1
  | .star => 2
  | .cls _ _ => 3
  | .br _ => 4
def Pc.low : Pc → UInt8
  | .lit c => c
  | _ => 0
def Pc.rs : Pc → List (UInt8 × UInt8)
  | .cls rs _ => rs
  | _ => []
def Pc.alts : Pc → List (List Pc)
  | .br xs => xs
  | _ => []
def encRg (rs : List (UInt8 × UInt8)) : List (List AV) := rs.map fun r => [.int .u8 r.1.toNat, .int .u8 r.2.toNat]
def Pc.enc (p : Pc) : List AV := [.int .i64 p.kind, .int .u8 p.low.toNat, .lst (encRg p.rs), .lst (encA p.alts), .str p.text]
theorem encL_cons (p : Pc) (l : List Pc) : encL (p :: l) = p.enc :: encL l := by
  cases p <;> simp [encL, Pc.enc, Pc.kind, Pc.low, Pc.rs, Pc.alts, Pc.text, encRg, encA]
theorem encL_map : ∀ l, encL l = l.map Pc.enc
  | [] => by simp [encL]
  | p :: l => by rw [encL_cons, encL_map l]; rfl
theorem encA_map : ∀ xs, encA xs = xs.map fun a => [AV.lst (encL a)]
  | [] => by simp [encA]
  | a :: xs => by simp [encA, encA_map xs]
theorem encL_length (l : List Pc) : (encL l).length = l.length := by simp [encL_map]
theorem encA_length (l : List (List Pc)) : (encA l).length = l.length := by simp [encA_map]
theorem encL_get {l : List Pc} {i : Nat} {p : Pc} (h : l[i]? = some p) : (encL l)[i]? = some p.enc := by simp [encL_map, h]
theorem encA_get {l : List (List Pc)} {i : Nat} {a : List Pc} (h : l[i]? = some a) : (encA l)[i]? = some [.lst (encL a)] := by simp [encA_map, h]
theorem enc_q : Pc.q.enc = [.int .i64 1, .int .u8 0, .lst [], .lst [], .str [63]] := by simp [Pc.enc, Pc.kind, Pc.low, Pc.rs, Pc.alts, Pc.text, encRg, encA]
theorem enc_star : Pc.star.enc = [.int .i64 2, .int .u8 0, .lst [], .lst [], .str [42]] := by simp [Pc.enc, Pc.kind, Pc.low, Pc.rs, Pc.alts, Pc.text, encRg, encA]
theorem enc_lit (c : UInt8) : (Pc.lit c).enc = [.int .i64 0, .int .u8 c.toNat, .lst [], .lst [], .str [c]] := by simp [Pc.enc, Pc.kind, Pc.low, Pc.rs, Pc.alts, Pc.text, encRg, encA]
theorem enc_cls (rs : List (UInt8 × UInt8)) (t : List UInt8) : (Pc.cls rs t).enc = [.int .i64 3, .int .u8 0, .lst (encRg rs), .lst [], .str t] := by simp [Pc.enc, Pc.kind, Pc.low, Pc.rs, Pc.alts, Pc.text, encA]
theorem enc_br (xs : List (List Pc)) : (Pc.br xs).enc = [.int .i64 4, .int .u8 0, .lst [], .lst (encA xs), .str []] := by simp [Pc.enc, Pc.kind, Pc.low, Pc.rs, Pc.alts, Pc.text, encRg]
end Go.Glob
namespace Go.Proofs.YtigkchpjpdbodaaGreatDoor
open Go.Abs Go.Glob
variable {G : Globs}
end Go.Proofs.YtigkchpjpdbodaaGreatDoor
end
section
namespace Go.Glob
mutual
/-- How many pieces and alternatives there are. -/
def szL : List Pc → Nat
  | [] => 0
  | .lit _ :: l => 1 + szL l
  | .q :: l => 1 + szL l
  | .star :: l => 1 + szL l
  | .cls _ _ :: l => 1 + szL l
  | .br xs :: l => 1 + szA xs + szL l
def szA : List (List Pc) → Nat
  | [] => 0
  | a :: xs => 1 + szL a + szA xs
end
theorem szL_length : ∀ l, l.length ≤ szL l
  | [] => Nat.zero_le _
  | p :: l => by have := szL_length l; cases p <;> simp [szL] <;> omega
theorem szA_length : ∀ l, l.length ≤ szA l
  | [] => Nat.zero_le _
  | p :: l => by have := szA_length l; simp [szA]; omega
theorem szA_mem : ∀ {xs : List (List Pc)} {a : List Pc}, a ∈ xs → szL a < szA xs
  | b :: xs, a, h => by
    simp only [szA]
    rcases List.mem_cons.1 h with rfl | h
    · omega
    · have := szA_mem h; omega
theorem szL_mem : ∀ {l : List Pc} {xs : List (List Pc)}, Pc.br xs ∈ l → szA xs < szL l
  | p :: l, xs, h => by
    rcases List.mem_cons.1 h with rfl | h
    · simp [szL]; omega
    · have := szL_mem h
      cases p <;> simp [szL] <;> omega
mutual
theorem cnt_le : ∀ (l : List Pc) (n : Nat), n ≤ 65 → cnt n l ≤ 65
  | [], n, h => by simpa [cnt] using h
  | .br xs :: l, n, _ => by simp only [cnt]; exact cnt_le l _ (Nat.min_le_left _ _)
  | .lit _ :: l, n, h => by simp only [cnt]; exact cnt_le l n h
  | .q :: l, n, h => by simp only [cnt]; exact cnt_le l n h
  | .star :: l, n, h => by simp only [cnt]; exact cnt_le l n h
  | .cls _ _ :: l, n, h => by simp only [cnt]; exact cnt_le l n h
theorem cntA_le : ∀ (l : List (List Pc)) (n : Nat), n ≤ 65 → cntA n l ≤ 65
  | [], n, h => by simpa [cntA] using h
  | a :: l, n, _ => by simp only [cntA]; exact cntA_le l _ (Nat.min_le_left _ _)
end
theorem cnt_other {p : Pc} (h : p.kind ≠ 4) (n : Nat) (l : List Pc) : cnt n (p :: l) = cnt n l := by
  cases p <;> simp_all [cnt, Pc.kind]
theorem kind4 {p : Pc} (h : p.kind = 4) : p = .br p.alts := by
  cases p <;> simp_all [Pc.kind, Pc.alts]
mutual
/-- Braces have alternatives. -/
def neL : List Pc → Prop
  | [] => True
  | .lit _ :: l => neL l
  | .q :: l => neL l
  | .star :: l => neL l
  | .cls _ _ :: l => neL l
  | .br xs :: l => xs ≠ [] ∧ neA xs ∧ neL l
def neA : List (List Pc) → Prop
  | [] => True
  | a :: xs => neL a ∧ neA xs
end
theorem pcs_size : ∀ (n : Nat), (∀ (s : List UInt8) (l : List Pc) (r : List UInt8) (d : Nat), pcs n s = some (l, r, d) → szL l + r.length ≤ s.length ∧ neL l) ∧
    (∀ (s : List UInt8) (l : List (List Pc)) (r : List UInt8) (d : Nat), alts n s = some (l, r, d) → szA l + r.length ≤ s.length ∧ l ≠ [] ∧ neA l) := by
  intro n
  induction n with
  | zero => exact ⟨fun s l r d h => by simp [pcs] at h, fun s l r d h => by simp [alts] at h⟩
  | succ n ih =>
    obtain ⟨ihp, iha⟩ := ih
    refine ⟨fun s l r d h => ?_, fun s l r d h => ?_⟩
    · cases s with
      | nil =>
        simp only [pcs, Option.some.injEq, Prod.mk.injEq] at h
        obtain ⟨rfl, rfl, rfl⟩ := h
        simp [szL, neL]
      | cons c s =>
        by_cases h1 : c = 44 ∨ c = 125
        · rw [pcs_stop h1] at h
          simp only [Option.some.injEq, Prod.mk.injEq] at h
          obtain ⟨rfl, rfl, rfl⟩ := h
          simp [szL, neL]
        by_cases h2 : c = 63
        · subst h2
          rw [pcs_q] at h
          simp only [Option.map_eq_some_iff, Prod.mk.injEq] at h
          obtain ⟨⟨l', r', d'⟩, hv, rfl, rfl, rfl⟩ := h
          have := ihp _ _ _ _ hv
          simp only [szL, neL, List.length_cons]; exact ⟨by omega, this.2⟩
        by_cases h3 : c = 42
        · subst h3
          rw [pcs_star] at h
          simp only [Option.map_eq_some_iff, Prod.mk.injEq] at h
          obtain ⟨⟨l', r', d'⟩, hv, rfl, rfl, rfl⟩ := h
          have := ihp _ _ _ _ hv
          simp only [szL, neL, List.length_cons]; exact ⟨by omega, this.2⟩
        by_cases h4 : c = 91
        · subst h4
          rw [pcs_cls] at h
          simp only [Option.bind_eq_some_iff, Option.map_eq_some_iff, Prod.mk.injEq] at h
          obtain ⟨⟨rs, r1⟩, hc, ⟨l', r', d'⟩, hv, rfl, rfl, rfl⟩ := h
          have := ihp _ _ _ _ hv
          obtain ⟨b, rfl, _⟩ := cls_local _ _ _ _ _ hc
          simp only [szL, neL, List.length_cons, List.length_append] at this ⊢; exact ⟨by omega, this.2⟩
        by_cases h5 : c = 123
        · subst h5
          rw [pcs_br] at h
          simp only [Option.bind_eq_some_iff, Option.map_eq_some_iff, Prod.mk.injEq] at h
          obtain ⟨⟨xs, r1, d1⟩, hc, ⟨l', r', d'⟩, hv, rfl, rfl, rfl⟩ := h
          have h1 := ihp _ _ _ _ hv
          have h2 := iha _ _ _ _ hc
          simp only [szL, neL, List.length_cons] at h1 h2 ⊢; exact ⟨by omega, h2.2.1, h2.2.2, h1.2⟩
        by_cases h6 : nb c = true
        · rw [pcs_lit h6] at h
          simp only [Option.map_eq_some_iff, Prod.mk.injEq] at h
          obtain ⟨⟨l', r', d'⟩, hv, rfl, rfl, rfl⟩ := h
          have := ihp _ _ _ _ hv
          simp only [szL, neL, List.length_cons]; exact ⟨by omega, this.2⟩
        · rw [pcs_no h1 h2 h3 h4 h5 (by simpa using h6)] at h
          cases h
    · rw [alts_step] at h
      simp only [Option.bind_eq_some_iff] at h
      obtain ⟨⟨l', r', d'⟩, hv, h⟩ := h
      have h1 := ihp _ _ _ _ hv
      dsimp only at h
      split at h
      · cases h
      · split at h
        · simp only [Option.some.injEq, Prod.mk.injEq] at h
          obtain ⟨rfl, rfl, rfl⟩ := h
          simp only [szA, neA, List.length_cons] at h1 ⊢
          exact ⟨by omega, by simp, h1.2, trivial⟩
        · simp only [Option.map_eq_some_iff, Prod.mk.injEq] at h
          obtain ⟨⟨xs, r2, d2⟩, hw, rfl, rfl, rfl⟩ := h
          have h2 := iha _ _ _ _ hw
          simp only [szA, neA, List.length_cons] at h1 h2 ⊢
          exact ⟨by omega, by simp, h1.2, h2.2.2⟩
end Go.Glob
namespace Go.Proofs.YtigkchpjpdbodaaGreatDoor
open Go.Abs Go.Glob
variable {G : Globs}
theorem count_ok : ∀ (N : Nat) (l : List Pc), szL l ≤ N → N ≤ 1000000000000 → PCalls Tryz.prog n_glob_count [.lst (encL l)] (fun r => r = .int .i64 (cnt 1 l)) := by
  intro N
  induction N using Nat.strongRecOn with
  | _ N ih =>
  intro l hl hN
  have hll := szL_length l
  refine pcalls_of_awp hmix c_glob_count rfl ?_
  simp [a_glob_count, encL_length]
  refine lp_start (fun n f σ => ∃ i acc : Nat, n = l.length - i ∧ i ≤ l.length ∧ f 9 = .lst (encL l) ∧ f 10 = .int .i64 l.length ∧ f 11 = .int .i64 i ∧ f 3 = .int .i64 acc ∧ acc ≤ 65 ∧ cnt acc (l.drop i) = cnt 1 l) l.length ⟨0, 1, by simp⟩ ?_
  rintro n f σ ⟨i, acc, rfl, hi, h9, h10, h11, h3, hacc, hc⟩
  simp [h10, h11]
  refine cb_dec (fun hlt => ?_) (fun hge => ?_)
  · have hlt' : i < l.length := by omega
    obtain ⟨p, hp⟩ : ∃ p, l[i]? = some p := ⟨_, List.getElem?_eq_getElem hlt'⟩
    have hm : p ∈ l := List.mem_of_getElem? hp
    have hdrop := drop_cons hp
    simp [h9, h11, encL_get hp, Pc.enc]
    by_cases hk : p.kind = 4
    · have hp4 := kind4 hk
      have hsz := szL_mem (hp4 ▸ hm)
      have hal := szA_length p.alts
      simp [hk, encA_length]
      refine lp_start (fun n f σ => ∃ k sum : Nat, n = p.alts.length - k ∧ k ≤ p.alts.length ∧ f 9 = .lst (encL l) ∧ f 10 = .int .i64 l.length ∧ f 11 = .int .i64 i ∧ f 3 = .int .i64 acc ∧ f 19 = .lst (encA p.alts) ∧ f 20 = .int .i64 p.alts.length ∧ f 21 = .int .i64 k ∧ f 6 = .int .i64 sum ∧ sum ≤ 65 ∧ cntA sum (p.alts.drop k) = cntA 0 p.alts) p.alts.length ⟨0, 0, by simp [h9, h10, h11, h3]⟩ ?_
      clear h9 h10 h11 h3
      rintro n f σ ⟨k, sum, rfl, hk, h9, h10, h11, h3, h19, h20, h21, h6, hsum, hcs⟩
      simp [h20, h21]
      refine cb_dec (fun hlt => ?_) (fun hge => ?_)
      · have hlt2 : k < p.alts.length := by omega
        obtain ⟨a, ha⟩ : ∃ a, p.alts[k]? = some a := ⟨_, List.getElem?_eq_getElem hlt2⟩
        have ham : a ∈ p.alts := List.mem_of_getElem? ha
        have has := szA_mem ham
        have hd2 := drop_cons ha
        have hcl := cnt_le a 1 (by omega)
        simp [h19, h21, h6, encA_get ha]
        refine ac_same (ih (szL a) (by omega) a (Nat.le_refl _) (by omega)) (by simp) ?_
        rintro r rfl
        simp [h21, h9, h10, h11, h3, h19, h20]
        rw [hd2] at hcs
        simp only [cntA] at hcs
        refine ⟨_, ?_, k + 1, rfl, by omega, by rw [wrap_i64 (by omega) (by omega)]; simp, min 65 (sum + cnt 1 a), ?_, Nat.min_le_left _ _, hcs⟩
        · omega
        · rw [wrap_i64 (by omega) (by omega)]
          split <;> omega
      · have e : p.alts.drop k = [] := List.drop_eq_nil_of_le (by omega)
        rw [e] at hcs
        simp only [cntA] at hcs
        have hb : (acc : Int) * sum ≤ 65 * 65 := by
          have : acc * sum ≤ 65 * 65 := Nat.mul_le_mul hacc hsum
          exact_mod_cast this
        have hb0 : (0 : Int) ≤ (acc : Int) * sum := by exact_mod_cast Nat.zero_le (acc * sum)
        simp [h3, h6, h9, h10, h11]
        rw [hdrop, hp4] at hc
        simp only [cnt] at hc
        rw [← hcs] at hc
        refine ⟨_, ?_, i + 1, rfl, by omega, by rw [wrap_i64 (by omega) (by omega)]; simp, min 65 (acc * sum), ?_, Nat.min_le_left _ _, hc⟩
        · omega
        · rw [wrap_i64 (by omega) (by omega)]
          have : ((acc * sum : Nat) : Int) = (acc : Int) * sum := by simp
          split <;> omega
    · have hk1 : ¬ ((p.kind : Int) = 4) := by omega
      simp [hk1, h9, h10, h11, h3]
      rw [hdrop, cnt_other hk] at hc
      refine ⟨_, ?_, i + 1, rfl, by omega, by rw [wrap_i64 (by omega) (by omega)]; simp, acc, rfl, hacc, hc⟩
      omega
  · have e : l.drop i = [] := List.drop_eq_nil_of_le (by omega)
    rw [e] at hc
    simp [h3]
    simp [cnt] at hc
    rw [hc]
end Go.Proofs.YtigkchpjpdbodaaGreatDoor
end
section
namespace Go.Proofs.YtigkchpjpdbodaaGreatDoor
open Go.Abs Go.Glob
variable {G : Globs}
/-- A parser. -/
def PV (text : List UInt8) (k : Nat) (bad : Bool) (depth deepest : Int) : Entry := .var 360 [.str text, .int .i64 k, .bool bad, .int .i64 depth, .int .i64 deepest]
theorem PV_under (text : List UInt8) (k : Nat) (bad : Bool) (depth deepest : Int) (m : Nat) : (PV text k bad depth deepest).under m = true := by simp [PV, Entry.under]
theorem set_get {σ : Store} {id : Nat} (hid : id < σ.length) (e : Entry) (l : Store) : (σ.set id e ++ l)[id]? = some e := by
  rw [List.getElem?_append_left (by simpa using hid)]; simp [hid]
theorem set_get' {σ : Store} {id : Nat} (hid : id < σ.length) (e : Entry) : (σ.set id e)[id]? = some e := by simp [hid]
theorem set_set {σ : Store} {id : Nat} (hid : id < σ.length) (e e' : Entry) (l : Store) : (σ.set id e ++ l).set id e' = σ.set id e' ++ l := by
  rw [List.set_append_left _ _ (by simpa using hid), List.set_set]
theorem get_0 {σ : Store} (id : Nat) (e a : Entry) (l : Store) : (σ.set id e ++ a :: l)[σ.length]? = some a := by
  rw [List.getElem?_append_right (by simp)]; simp
theorem get_1 {σ : Store} (id : Nat) (e a b : Entry) (l : Store) : (σ.set id e ++ a :: b :: l)[σ.length + 1]? = some b := by
  rw [List.getElem?_append_right (by simp)]; simp
theorem set_0 {σ : Store} (id : Nat) (e a a' : Entry) (l : Store) : (σ.set id e ++ a :: l).set σ.length a' = σ.set id e ++ a' :: l := by
  rw [List.set_append_right _ _ (by simp)]; simp
theorem set_1 {σ : Store} (id : Nat) (e a b b' : Entry) (l : Store) : (σ.set id e ++ a :: b :: l).set (σ.length + 1) b' = σ.set id e ++ a :: b' :: l := by
  rw [List.set_append_right _ _ (by simp)]; simp
theorem class_ok {σ : Store} {id : Nat} (hid : id < σ.length) (text : List UInt8) (at_ : Nat) (depth deepest : Int) (h1 : 1 ≤ at_) (h2 : at_ ≤ text.length) (h3 : text.length ≤ 1000000) (n : Nat) (hn : text.length - at_ < n) :
    ACalls Tryz.prog n_glob_parser_class [.ptr id 0] (σ.set id (PV text at_ false depth deepest)) (fun r σ' =>
      match cls n false (text.drop at_) with
      | some (rs, r') => r = .agg (Pc.cls rs ((text.drop (at_ - 1)).take (text.length - at_ + 1 - r'.length))).enc ∧ σ' = σ.set id (PV text (text.length - r'.length) false depth deepest)
      | none => ∃ rs k, k ≤ text.length ∧ r = .agg (Pc.cls rs []).enc ∧ σ' = σ.set id (PV text k true depth deepest)) := by
  refine acalls_of_awp_e hmix c_glob_parser_class rfl ?_
  have g0 := @set_get σ id hid
  have g00 := @set_get' σ id hid
  have q0 := @set_set σ id hid
  have hw1 : IntKind.i64.wrap ((at_ : Int) - 1) = (at_ : Int) - 1 := wrap_i64 (by omega) (by omega)
  simp [a_glob_parser_class, g0, g00, PV, hw1, get_0, get_1, set_0, set_1]
  refine lp_startx (fun x f σ' => ∃ (k : Nat) (rs : List (UInt8 × UInt8)) (m : Nat), x = text.length - k ∧ at_ ≤ k ∧ k ≤ text.length ∧ text.length - k < m ∧ rs.length ≤ k ∧
    cls n false (text.drop at_) = ((cls m (!rs.isEmpty) (text.drop k)).map fun x => (rs ++ x.1, x.2)) ∧ f 0 = .ptr id 0 ∧ f 2 = .ptr σ.length 0 ∧ f 3 = .int .i64 ((at_ : Int) - 1) ∧ f 4 = .ptr (σ.length + 1) 0 ∧
    σ' = σ.set id (PV text k false depth deepest) ++ .var 366 [.int .i64 0, .int .u8 0, .nils, .nils, .str []] :: .var 366 [.int .i64 3, .int .u8 0, rowV (σ.length + 2) (encRg rs), .nils, .str []] :: rowE 413 2 (encRg rs) true) (text.length - at_) ?_ ?_
  · refine ⟨at_, [], n, rfl, Nat.le_refl _, h2, hn, by simp, ?_, ?_⟩
    · simp
    · simp [PV, encRg, rowV, rowE]
  · rintro x f σ' ⟨k, rs, m, rfl, hk1, hk2, hm, hrk, hcls, h0, h2, h3', h4, rfl⟩
    have hview : ∀ e a b, view (σ.set id e ++ a :: b :: rowE 413 2 (encRg rs) true) (rowV (σ.length + 2) (encRg rs)) = some (encRg rs) := fun e a b => by
      have := view_acc (σ := σ.set id e ++ [a, b]) (e := 413) (size := 2) (l := encRg rs) (im := true)
      simpa using this
    have hfin : ∀ e a b, fin1 (σ.set id e ++ a :: b :: rowE 413 2 (encRg rs) true) σ.length (rowV (σ.length + 2) (encRg rs)) = some (.lst (encRg rs)) := fun e a b => by
      have := fin1_acc (σ := σ.set id e ++ [a, b]) (e := 413) (size := 2) (l := encRg rs) (m := σ.length)
      simpa using this
    simp [h0]
    by_cases hlt : k < text.length
    · have hlt' : k < text.length := hlt
      obtain ⟨c, hc⟩ : ∃ c, text[k]? = some c := ⟨_, List.getElem?_eq_getElem hlt⟩
      have hd := drop_cons hc
      have hrs : (encRg rs).length = rs.length := by simp [encRg]
      obtain ⟨m, rfl⟩ : ∃ j, m = j + 1 := ⟨m - 1, by omega⟩
      refine ac_lent (peek_some text k c _ _ _ hc) (.cons (coe_ptr (g0 _ _) (by simp) rfl) .nil) ?_
      rintro r rfl
      refine ⟨by simp, ?_⟩
      have hwk : IntKind.i64.wrap ((k : Int) + 1) = (k : Int) + 1 := wrap_i64 (by omega) (by omega)
      have hw2 : IntKind.i64.wrap ((k : Int) + 1 + 1) = (k : Int) + 1 + 1 := wrap_i64 (by omega) (by omega)
      have ht2 : ((k : Int) + 1 + 1).toNat = k + 1 + 1 := by omega
      have hp1 : (0 : Int) ≤ (k : Int) + 1 := by omega
      have hp2 : (0 : Int) ≤ (k : Int) + 1 + 1 := by omega
      have hw3 : IntKind.i64.wrap ((k : Int) + 1 + 2) = (k : Int) + 3 := by rw [wrap_i64 (by omega) (by omega)]; omega
      rw [hd] at hcls
      by_cases hc1 : c = 93 ∧ rs ≠ []
      · obtain ⟨rfl, hr0⟩ := hc1
        have hpos : 0 < rs.length := List.length_pos_iff.2 hr0
        have f1 : (0 : Int) ≤ (k : Int) + 1 := by omega
        have f2 : (1 : Int) ≤ (at_ : Int) := by omega
        have f3 : k + 1 ≤ text.length := by omega
        have f4 : at_ ≤ k + 1 + 1 := by omega
        simp [h0, g0, q0, PV, h4, h2, h3', get_1, set_0, get_0, set_1, hview, hrs, hpos, hwk, f1, f2, f3, f4]
        refine er_set id (PV text (k + 1) false depth deepest) (.agg (Pc.cls rs ((text.drop (at_ - 1)).take (text.length - at_ + 1 - (text.length - (k + 1))))).enc) (.var 366 [.int .i64 3, .int .u8 0, rowV (σ.length + 2) (encRg rs), .nils, .str ((text.take (k + 1)).drop (at_ - 1))] :: .var 366 [.int .i64 3, .int .u8 0, rowV (σ.length + 2) (encRg rs), .nils, .str ((text.take (k + 1)).drop (at_ - 1))] :: rowE 413 2 (encRg rs) true) ?_ ?_ ?_ ?_
        · simp [retAt, a_glob_parser_class, h2, get_0, hfin, Pc.enc, Pc.kind, Pc.low, Pc.rs, Pc.alts, Pc.text, encA]
          rw [List.drop_take]
          congr 1
          omega
        · rfl
        · exact PV_under _ _ _ _ _ _
        · rw [hcls]
          have : (!rs.isEmpty) = true := by simpa using hr0
          simp only [cls, this, and_self, if_true, Option.map_some, List.append_nil, List.length_drop]
          have e : text.length - (text.length - (k + 1)) = k + 1 := by omega
          simp [PV, e]
      · have hst : ∀ e a b l, σ.set id e ++ a :: b :: l = (σ.set id e ++ [a, b]) ++ l := fun e a b l => by simp
        have hap : ∀ {K : AV → Store → Prop} {t : Tg K} {e a b : Entry} (c h : UInt8), K (rowV (σ.length + 2) (encRg (rs ++ [(c, h)]))) (σ.set id e ++ a :: b :: rowE 413 2 (encRg (rs ++ [(c, h)])) true) →
            ap K t (σ.set id e ++ a :: b :: rowE 413 2 (encRg rs) true) 413 2 2 (rowV (σ.length + 2) (encRg rs)) (.lst [[.int .u8 c.toNat, .int .u8 h.toNat]]) := by
          intro K t e a b c h hK
          have e1 : encRg (rs ++ [(c, h)]) = encRg rs ++ [[.int .u8 c.toNat, .int .u8 h.toNat]] := by simp [encRg]
          rw [hst, e1] at hK
          rw [hst]
          exact ap_acc_at (by simp) (encRg rs) [[.int .u8 c.toNat, .int .u8 h.toNat]] true (by omega) (by simp) (by simp) (by simp [hrs]; omega) (by simp [hrs]; omega) hK
        have hne : ¬ (c = 93 ∧ (!rs.isEmpty) = true) := fun h => hc1 ⟨h.1, by simpa using h.2⟩
        by_cases h93 : c = 93
        · have hr0 : rs = [] := Classical.byContradiction fun h => hc1 ⟨h93, h⟩
          subst hr0
          have hnb : nb c = false := by rw [h93]; decide
          subst h93
          simp [h0, g0, q0, PV, h4, h2, h3', get_1, set_0, get_0, set_1, hview, hrs]
          refine ac_same (byte_ok 93) (by simp) ?_
          rintro r rfl
          simp [h0, g0, q0, PV, h4, h2, h3', get_1, set_0, get_0, set_1, hnb]
          refine er_set id (PV text k true depth deepest) (.agg (Pc.cls [] []).enc) (.var 366 [.int .i64 3, .int .u8 0, rowV (σ.length + 2) (encRg []), .nils, .str []] :: .var 366 [.int .i64 3, .int .u8 0, rowV (σ.length + 2) (encRg []), .nils, .str []] :: rowE 413 2 (encRg []) true) ?_ ?_ ?_ ?_
          · simp [retAt, a_glob_parser_class, h2, get_0, hfin, Pc.enc, Pc.kind, Pc.low, Pc.rs, Pc.alts, Pc.text, encA]
          · rfl
          · exact PV_under _ _ _ _ _ _
          · rw [hcls, cls_no hne hnb]
            exact ⟨[], k, hk2, rfl, rfl⟩
        · have h93' : ¬ ((c.toNat : Int) = 93) := fun h => h93 (UInt8.toNat_inj.1 (show c.toNat = 93 by omega))
          simp [h0, g0, q0, PV, h4, h2, h3', get_1, set_0, get_0, set_1, hview, hrs, h93']
          refine ac_same (byte_ok c) (by simp) ?_
          rintro r rfl
          by_cases hnb : nb c = true
          · simp [h0, g0, q0, PV, h4, h2, h3', get_1, set_0, get_0, set_1, hnb, hwk, hw2, hw3, hp1, hp2, ht2]
            by_cases hk2' : k + 2 < text.length
            · obtain ⟨d, hdd⟩ : ∃ d, text[k + 1]? = some d := ⟨_, List.getElem?_eq_getElem (by omega)⟩
              obtain ⟨h, hhh⟩ : ∃ h, text[k + 1 + 1]? = some h := ⟨_, List.getElem?_eq_getElem (by omega)⟩
              have hd2 : text.drop (k + 1) = d :: h :: text.drop (k + 3) := by rw [drop_cons hdd, drop_cons hhh]
              have hk3 : (k : Int) + 1 + 1 < text.length := by omega
              simp [h0, g0, q0, PV, h4, h2, h3', get_1, set_0, get_0, set_1, hnb, hwk, hw2, hw3, hp1, hp2, ht2, hk3, hdd]
              by_cases h45 : d = 45
              · have h45' : (d.toNat : Int) = 45 := by rw [h45]; rfl
                simp [h0, g0, q0, PV, h4, h2, h3', get_1, set_0, get_0, set_1, hnb, hwk, hw2, hw3, hp1, hp2, ht2, h45', hhh]
                refine qc_same (byte_ok h) (by simp) (by simp) ?_
                by_cases hnh : nb h = true
                · have hr : rng (text.drop (k + 1)) = some (h, text.drop (k + 3)) := by rw [hd2]; simp [rng, h45, hnh]
                  simp [h0, g0, q0, PV, h4, h2, h3', get_1, set_0, get_0, set_1, hnb, hwk, hw2, hw3, hp1, hp2, ht2, h45', hnh, hhh]
                  by_cases hlt2 : h < c
                  · have hlt3 : h.toNat < c.toNat := UInt8.lt_iff_toNat_lt.1 hlt2
                    have hlt3' : (h.toNat : Int) < c.toNat := by omega
                    simp [h0, g0, q0, PV, h4, h2, h3', get_1, set_0, get_0, set_1, hnb, hwk, hw2, hw3, hp1, hp2, ht2, h45', hhh, hlt3, hlt3']
                    refine er_set id (PV text (k + 3) true depth deepest) (.agg (Pc.cls rs []).enc) (.var 366 [.int .i64 3, .int .u8 0, rowV (σ.length + 2) (encRg rs), .nils, .str []] :: .var 366 [.int .i64 3, .int .u8 0, rowV (σ.length + 2) (encRg rs), .nils, .str []] :: rowE 413 2 (encRg rs) true) ?_ ?_ ?_ ?_
                    · simp [retAt, a_glob_parser_class, h2, get_0, hfin, Pc.enc, Pc.kind, Pc.low, Pc.rs, Pc.alts, Pc.text, encA]
                    · simp [PV]
                    · exact PV_under _ _ _ _ _ _
                    · rw [hcls, cls_step hne hnb, hr]
                      simp only [if_pos hlt2]
                      exact ⟨rs, k + 3, by omega, rfl, rfl⟩
                  · have hlt3 : ¬ h.toNat < c.toNat := fun hx => hlt2 (UInt8.lt_iff_toNat_lt.2 hx)
                    have hlt3' : ¬ (h.toNat : Int) < c.toNat := by omega
                    simp [h0, g0, q0, PV, h4, h2, h3', get_1, set_0, get_0, set_1, hnb, hwk, hw2, hw3, hp1, hp2, ht2, h45', hhh, hlt3, hlt3']
                    refine hap c h ?_
                    simp [h0, g0, q0, PV, h4, h2, h3', get_1, set_0, get_0, set_1, hnb, hwk, hw2, hw3, hp1, hp2, ht2, h45']
                    refine nx_intro (text.length - (k + 3)) (by omega) ⟨k + 3, rs ++ [(c, h)], m, rfl, by omega, by omega, by omega, by simp; omega, ?_, by simp [h0], by simp [h2], by simp [h3'], by simp [h4], by simp [PV]⟩
                    rw [hcls, cls_step hne hnb, hr]
                    have hq : (!(rs ++ [(c, h)]).isEmpty) = true := by simp
                    rw [hq]
                    simp only [if_neg hlt2]
                    cases cls m true (text.drop (k + 3)) <;> simp
                · have hr : rng (text.drop (k + 1)) = none := by rw [hd2]; simp [rng, hnh]
                  simp [h0, g0, q0, PV, h4, h2, h3', get_1, set_0, get_0, set_1, hnb, hwk, hw2, hw3, hp1, hp2, ht2, h45', hnh]
                  refine hap c c ?_
                  simp [h0, g0, q0, PV, h4, h2, h3', get_1, set_0, get_0, set_1, hnb, hwk, hw2, hw3, hp1, hp2, ht2, h45']
                  refine nx_intro (text.length - (k + 1)) (by omega) ⟨k + 1, rs ++ [(c, c)], m, rfl, by omega, by omega, by omega, by simp; omega, ?_, by simp [h0], by simp [h2], by simp [h3'], by simp [h4], by simp [PV]⟩
                  rw [hcls, cls_step hne hnb, hr]
                  have hq : (!(rs ++ [(c, c)]).isEmpty) = true := by simp
                  rw [hq]
                  cases cls m true (text.drop (k + 1)) <;> simp
              · have h45' : ¬ (d.toNat : Int) = 45 := fun hx => h45 (UInt8.toNat_inj.1 (show d.toNat = 45 by omega))
                have hr : rng (text.drop (k + 1)) = none := by rw [hd2]; simp [rng, h45]
                simp [h0, g0, q0, PV, h4, h2, h3', get_1, set_0, get_0, set_1, hnb, hwk, hw2, hw3, hp1, hp2, ht2, h45']
                refine hap c c ?_
                simp [h0, g0, q0, PV, h4, h2, h3', get_1, set_0, get_0, set_1, hnb, hwk, hw2, hw3, hp1, hp2, ht2]
                refine nx_intro (text.length - (k + 1)) (by omega) ⟨k + 1, rs ++ [(c, c)], m, rfl, by omega, by omega, by omega, by simp; omega, ?_, by simp [h0], by simp [h2], by simp [h3'], by simp [h4], by simp [PV]⟩
                rw [hcls, cls_step hne hnb, hr]
                have hq : (!(rs ++ [(c, c)]).isEmpty) = true := by simp
                rw [hq]
                cases cls m true (text.drop (k + 1)) <;> simp
            · have hr : rng (text.drop (k + 1)) = none := by
                have hl : (text.drop (k + 1)).length ≤ 1 := by simp; omega
                match text.drop (k + 1), hl with
                | [], _ => rfl
                | [_], _ => rfl
              have hk3 : ¬ (k : Int) + 1 + 1 < text.length := by omega
              simp [h0, g0, q0, PV, h4, h2, h3', get_1, set_0, get_0, set_1, hnb, hwk, hw2, hw3, hp1, hp2, ht2, hk3]
              refine hap c c ?_
              simp [h0, g0, q0, PV, h4, h2, h3', get_1, set_0, get_0, set_1, hnb, hwk, hw2, hw3, hp1, hp2, ht2]
              refine nx_intro (text.length - (k + 1)) (by omega) ⟨k + 1, rs ++ [(c, c)], m, rfl, by omega, by omega, by omega, by simp; omega, ?_, by simp [h0], by simp [h2], by simp [h3'], by simp [h4], by simp [PV]⟩
              rw [hcls, cls_step hne hnb, hr]
              have hq : (!(rs ++ [(c, c)]).isEmpty) = true := by simp
              rw [hq]
              cases cls m true (text.drop (k + 1)) <;> simp
          · simp only [Bool.not_eq_true] at hnb
            simp [h0, g0, q0, PV, h4, h2, h3', get_1, set_0, get_0, set_1, hnb]
            refine er_set id (PV text k true depth deepest) (.agg (Pc.cls rs []).enc) (.var 366 [.int .i64 3, .int .u8 0, rowV (σ.length + 2) (encRg rs), .nils, .str []] :: .var 366 [.int .i64 3, .int .u8 0, rowV (σ.length + 2) (encRg rs), .nils, .str []] :: rowE 413 2 (encRg rs) true) ?_ ?_ ?_ ?_
            · simp [retAt, a_glob_parser_class, h2, get_0, hfin, Pc.enc, Pc.kind, Pc.low, Pc.rs, Pc.alts, Pc.text, encA]
            · rfl
            · exact PV_under _ _ _ _ _ _
            · rw [hcls, cls_no hne hnb]
              exact ⟨rs, k, hk2, rfl, rfl⟩
    · refine ac_lent (peek_none text k _ _ _ (by omega)) (.cons (coe_ptr (g0 _ _) (by simp) rfl) .nil) ?_
      rintro r rfl
      refine ⟨by simp, ?_⟩
      simp [h0, g0, q0, PV, h4, h2, get_1, set_0, get_0]
      refine er_set id (PV text k true depth deepest) (.agg (Pc.cls rs []).enc) (.var 366 [.int .i64 3, .int .u8 0, rowV (σ.length + 2) (encRg rs), .nils, .str []] :: .var 366 [.int .i64 3, .int .u8 0, rowV (σ.length + 2) (encRg rs), .nils, .str []] :: rowE 413 2 (encRg rs) true) ?_ ?_ ?_ ?_
      · simp [retAt, a_glob_parser_class, h2, get_0, hfin, Pc.enc, Pc.kind, Pc.low, Pc.rs, Pc.alts, Pc.text, encA]
      · rfl
      · exact PV_under _ _ _ _ _ _
      · obtain ⟨m, rfl⟩ : ∃ j, m = j + 1 := ⟨m - 1, by omega⟩
        rw [hcls, List.drop_eq_nil_of_le (by omega)]
        exact ⟨rs, k, hk2, rfl, rfl⟩
end Go.Proofs.YtigkchpjpdbodaaGreatDoor
end
section
namespace Go.Proofs.YtigkchpjpdbodaaGreatDoor
open Go.Abs Go.Dec
/-- The package's variables that numbers' texts ask for. -/
class GPow [Globs] : Prop where
  pow : (6, Lib.pow10Tab.map (AV.int .u64)) ∈ Globs.tab
class GDec [Globs] : Prop extends GPow where
  syn : (7, [.iface 418 .junk]) ∈ Globs.tab
  rng : (8, [.iface 418 .junk]) ∈ Globs.tab
theorem cutPrefix_ok {G : Globs} (s p : List UInt8) : PCalls Tryz.prog 169 [.str s, .str p] (fun r => r = .tup [.str (Lib.trimPrefix s p), .bool (Lib.hasPrefix s p)]) :=
  pcalls2 fun base κ Im w v u hs h1 h2 => by
    cases h1.str_inv; cases h2.str_inv
    refine (Tryz.strings_CutPrefix ⟨s.toArray⟩ ⟨p.toArray⟩ w).mono ?_
    rintro e w' ⟨rfl, rfl⟩
    exact ⟨_, _, rfl, rfl, Go.RowKit.Below.refl _ _, fun Im' => .tup _ [_, _] rfl fun j hj hj' => by
      match j, hj with
      | 0, _ => exact .str _
      | 1, _ => exact .bool _⟩
theorem trimPrefix_ok {G : Globs} (s p : List UInt8) : PCalls Tryz.prog 170 [.str s, .str p] (fun r => r = .str (Lib.trimPrefix s p)) :=
  pcalls2 fun base κ Im w v u hs h1 h2 => by
    cases h1.str_inv; cases h2.str_inv
    refine (Tryz.strings_TrimPrefix ⟨s.toArray⟩ ⟨p.toArray⟩ w).mono ?_
    rintro e w' ⟨rfl, rfl⟩
    exact ⟨_, _, rfl, rfl, Go.RowKit.Below.refl _ _, fun Im' => .str _⟩
theorem trimRight_ok {G : Globs} (s : List UInt8) (hs : s.length ≤ 9223372036854775807) : PCalls Tryz.prog 94 [.str s, .str [48]] (fun r => r = .str (Lib.trimRightB s 48)) :=
  pcalls2 fun base κ Im w v u _ h1 h2 => by
    cases h1.str_inv; cases h2.str_inv
    refine (Tryz.strings_TrimRight_one ⟨s.toArray⟩ 48 (by decide) w (by simpa [ByteArray.size] using hs)).mono ?_
    rintro e w' ⟨rfl, rfl⟩
    exact ⟨_, _, rfl, rfl, Go.RowKit.Below.refl _ _, fun Im' => .str _⟩
/-- strconv.ParseInt at digits. -/
def pIntAV (n : Nat) (r : AV) : Prop := if n ≤ 9223372036854775807 then r = .tup [.int .i64 n, .nili] else ∃ z, r = .tup [.int .i64 z, .iface 307 .junk]
theorem parseInt_ok {G : Globs} [GDec] (s : List UInt8) (hl : s.length ≤ 1000000) (hd : s.all isD = true) (hne : s ≠ []) : PCalls Tryz.prog 110 [.str s, .int .i64 10, .int .i64 64] (pIntAV (dval 0 s)) :=
  pcalls3 fun base κ Im w v u x hs h1 h2 h3 => by
    cases h1.str_inv; cases h2.int_inv; cases h3.int_inv
    have hp := parseIntB_digits hd hne
    by_cases hle : dval 0 s ≤ 9223372036854775807
    · rw [if_pos hle] at hp
      refine (Tryz.strconv_ParseInt_10_at64_ok ⟨s.toArray⟩ (by simp [ByteArray.size]; omega) (dval 0 s) (by simpa using hp) w).mono ?_
      rintro e w' ⟨rfl, hw⟩
      refine ⟨.tup [.int .i64 (dval 0 s), .nili], _, rfl, by simp [pIntAV, hle], ?_, fun Im' => .tup _ [_, _] rfl fun j hj hj' => by
        match j, hj with
        | 0, _ => exact .int _ _
        | 1, _ => exact .nili⟩
      rcases hw with rfl | ⟨t, rfl⟩
      · exact Go.RowKit.Below.refl _ _
      · exact Lib.bytesWorld_below _ _ _
    · rw [if_neg hle] at hp
      obtain ⟨vals, hc, hv⟩ := glob_cell hs GDec.rng
      have hc0 := hc 0 (by simp)
      have hv0 := hv 0 (by simp)
      simp only [List.getElem_cons_zero] at hv0
      obtain ⟨q, hq⟩ : ∃ q, vals 0 = .iface 418 q := by
        generalize vals 0 = y at hv0
        cases hv0; exact ⟨_, rfl⟩
      refine (Tryz.strconv_ParseInt_10_at64_range ⟨s.toArray⟩ (by simp [ByteArray.size]; omega) (by simpa using hp) _ w hc0 (.inr ⟨_, _, hq⟩)).mono ?_
      rintro e w' ⟨N, rfl, _, _, hb⟩
      exact ⟨.tup [.int .i64 (Lib.intSat 64 s), .iface 307 .junk], _, rfl, by simp only [pIntAV, if_neg hle]; exact ⟨_, rfl⟩, hb, fun Im' => .tup _ [_, _] rfl fun j hj hj' => by
        match j, hj with
        | 0, _ => exact .int _ _
        | 1, _ => exact .iface _ _ _ (.junk _)⟩
theorem tab_ok {G : Globs} [GPow] {base : Nat} {κ : Key} {Im : Addr → Prop} {σ : Store} {w : World} (hs : SRel base κ Im σ w) : Lib.TabIs Tryz.prog w "internal/strconv.uint64pow10" .u64 Lib.pow10Tab := by
  obtain ⟨t, fz, h, _⟩ := glob_ints hs GPow.pow
  unfold Lib.TabIs World.var?
  rw [show Tryz.prog.globalNamed "internal/strconv.uint64pow10" = some 6 by kernel_rfl]
  simp only [Option.bind_some, h]
/-- strconv.FormatInt. -/
theorem formatIntI_ok {G : Globs} [GPow] (n : Int) (h0 : -9223372036854775808 ≤ n) (h1 : n ≤ 9223372036854775807) : PCalls Tryz.prog 155 [.int .i64 n, .int .i64 10] (fun r => r = .str (Lib.itoa n)) :=
  pcalls2 fun base κ Im w v u hs e1 e2 => by
    cases e1.int_inv; cases e2.int_inv
    refine (Tryz.internal_strconv_FormatInt_10 n h0 h1 w (tab_ok hs)).mono ?_
    rintro e w' ⟨rfl, k, os, rfl⟩
    exact ⟨_, _, rfl, rfl, Lib.below_grow _ w (Nat.le_refl _) k os, fun Im' => .str _⟩
theorem formatInt_ok {G : Globs} [GPow] (n : Int) (h0 : -9223372036854775808 ≤ n) (h1 : n ≤ 9223372036854775807) : PCalls Tryz.prog n_strconv_FormatInt [.int .i64 n, .int .i64 10] (fun r => r = .str (Lib.itoa n)) := by
  refine pcalls_of_awp hmix c_strconv_FormatInt rfl ?_
  simp [a_strconv_FormatInt]
  refine ac_same (formatIntI_ok n h0 h1) (by simp) ?_
  rintro r rfl
  simp
end Go.Proofs.YtigkchpjpdbodaaGreatDoor
end
section
namespace Go.Proofs.YtigkchpjpdbodaaGreatDoor
open Go.Abs Go.Dec
variable {G : Globs}
def u8c (l : List UInt8) : List AV := l.map fun b => .int .u8 b.toNat
theorem formatBase10_ok {σ : Store} {id t n u : Nat} {cells : List AV} (hent : σ[id]? = some (.var t cells)) (hcells : cells = List.replicate 24 (.int .u8 0)) (hn : n = Lib.nDigits u) (hle : n ≤ 24) (hu : u < 18446744073709551616) :
    ACalls Tryz.prog 240 [.asl id 0 n 1, .int .u64 u] σ (fun r σ' => r = .tup [] ∧ σ' = σ.set id (.var t (u8c (Lib.decDigits u) ++ cells.drop n))) := by
  intro base κ Im w vs hs hv
  obtain ⟨v0, v1, rfl⟩ : ∃ v0 v1, vs = [v0, v1] := by
    match vs, hv.1 with
    | [a, b], _ => exact ⟨a, b, rfl⟩
  have h0 := hv.2 0 (by simp) (by simp)
  have h1 := (hv.2 1 (by simp) (by simp)).int_inv
  simp only [List.getElem_cons_zero, List.getElem_cons_succ] at h0 h1
  subst h1
  obtain ⟨b, ad, c, rfl, hk, h3, h4, h5, h6⟩ := h0.asl_inv
  have hnpos : 0 < n := by rw [hn]; exact Lib.nDigits_pos u
  rw [h3 hnpos]
  obtain ⟨b', cs, hk', hbase, hheap, hvr, hone, him⟩ := hs.ent _ _ hent
  rw [hk] at hk'; cases hk'
  have hlen : cs.size = 24 := by have := hvr.1; rw [hcells] at this; simpa using this.symm
  have hz : ∀ j (h : j < cs.size), cs[j] = .int .u8 0 := fun j hj => by
    have hjc : j < cells.length := by rw [hcells]; simp; omega
    have := hvr.2 j hjc (by simpa using hj)
    simp only [hcells, List.getElem_replicate, Array.getElem_toList] at this
    exact this.int_inv
  have hH : Sort.Holds (fun (b : UInt8) => Value.int .u8 (b.toNat : Int)) w b 0 (Array.replicate n (0 : UInt8)) := fun j hj => by
    have hj' : j < n := by simpa using hj
    refine ⟨?_, by simp [World.frozen?, hheap]⟩
    rw [Nat.zero_add, cell_of_row w b j cs t (0, 0) hheap, Array.getElem?_eq_getElem (by omega), hz j (by omega), getElem!_pos _ j hj]
    simp
  have hpow : u < 10 ^ (Array.replicate n (0 : UInt8)).size := by
    rw [Array.size_replicate, hn]
    exact Lib.lt_pow_nDigits u
  have hcall := Tryz.internal_strconv_formatBase10 b 0 c u (Array.replicate n (0 : UInt8)) w hH hpow hu (by simp; omega)
  rw [Array.size_replicate] at hcall
  refine hcall.mono ?_
  rintro e w' ⟨rfl, k, v', dk, rfl, hinv⟩
  have hdk : dk.size = n := hinv.size
  rw [hn] at hinv
  have hnum := fun j hj => Lib.row_is_numeral hinv j hj
  have hdl : (Lib.decDigits u).length = n := by rw [Lib.decDigits_length, hn]
  obtain ⟨cs', hcs'⟩ : ∃ cs', cs' = Sort.putCells (fun (b : UInt8) => Value.int .u8 (b.toNat : Int)) 0 dk cs := ⟨_, rfl⟩
  have hnew : ((Sort.putRow (fun (b : UInt8) => Value.int .u8 (b.toNat : Int)) w b 0 dk).drewN k).heap[b]? = some (.cells cs' t (0, 0)) := by
    simp [World.drewN, Sort.putRow, Sort.mapBlock, Array.getElem?_modify, hheap, Sort.onCells, hcs']
  have hold : ∀ j, j ≠ b → ((Sort.putRow (fun (b : UInt8) => Value.int .u8 (b.toNat : Int)) w b 0 dk).drewN k).heap[j]? = w.heap[j]? := fun j hj => by
    simp [World.drewN, Sort.putRow, Sort.mapBlock, Array.getElem?_modify, Ne.symm hj]
  have hsize : ((Sort.putRow (fun (b : UInt8) => Value.int .u8 (b.toNat : Int)) w b 0 dk).drewN k).heap.size = w.heap.size := by
    simp [World.drewN, Sort.putRow, Sort.mapBlock]
  generalize hW : (Sort.putRow (fun (b : UInt8) => Value.int .u8 (b.toNat : Int)) w b 0 dk).drewN k = W at *
  have hcell : ∀ a, Im a → W.cell? a = w.cell? a := fun a ha => World.cell?_of_block (hold _ (him a ha))
  have hgrow : Grow base κ Im w κ Im W := ⟨fun _ _ _ h => h, fun _ h => h, hcell, fun _ h => .inl h, ⟨by rw [← hW]; rfl, by rw [← hW]; rfl, by rw [← hW]; rfl, by omega, fun j hj => hold j (by omega)⟩⟩
  refine ⟨.tup [], _, _, κ, Im, rfl, ⟨rfl, rfl⟩, ?_, hgrow, .tup [] [] rfl (fun j h => by simp at h)⟩
  refine hs.set hent _ (fun _ _ _ h => h) (fun _ _ _ h => .inl h) (Nat.le_refl _) (fun _ h => h) hcell (fun _ h => .inl h) (by omega) (fun j _ hj => hold j (fun he => hj (by simp [Entry.block, hk, he]))) ?_ (fun b' hb' => .inr (by simpa [Entry.block, hk] using hb'))
  refine ⟨b, cs', hk, hbase, hnew, ⟨?_, fun j hj hj' => ?_⟩, fun c hc => ?_, him⟩
  · rw [hcs', hcells]; simp [u8c, hdl, Sort.putCells, hlen]; omega
  · have hjs : j < 24 := by rw [hcs'] at hj'; simpa [Sort.putCells, hlen] using hj'
    have e1 : cs'.toList[j] = if j < n then .int .u8 (dk[j]!).toNat else cs[j]'(by omega) := by
      subst hcs'
      simp [Sort.putCells, hdk]
    rw [e1]
    by_cases hjn : j < n
    · rw [if_pos hjn, List.getElem_append_left (by simp [u8c, hdl]; exact hjn)]
      simp only [u8c, List.getElem_map]
      rw [hnum j (by omega)]
      exact .im _ _ (.int _ _)
    · rw [if_neg hjn, List.getElem_append_right (by simp [u8c, hdl]; omega)]
      simp only [List.getElem_drop, hcells, List.getElem_replicate]
      rw [hz j (by omega)]
      exact .im _ _ (.int _ _)
  · rw [hcells] at hc
    simp only [List.mem_append, u8c, List.mem_map] at hc
    rcases hc with ⟨x, _, rfl⟩ | hc
    · rfl
    · rw [(List.mem_replicate.1 (List.mem_of_mem_drop hc)).2]; rfl
theorem small_ok (u : Nat) (h : u < 100) : PCalls Tryz.prog 238 [.int .i64 u] (fun r => r = .str (Lib.decDigits u)) :=
  pcalls1 fun base κ Im w v hs h1 => by
    cases h1.int_inv
    refine (Tryz.internal_strconv_small u h w).mono ?_
    rintro e w' ⟨rfl, rfl⟩
    exact ⟨_, _, rfl, rfl, Go.RowKit.Below.refl _ _, fun Im' => .str _⟩
theorem numDigits_ok [GPow] (u : Nat) (h1 : 1 ≤ u) (h2 : u < 18446744073709551616) : PCalls Tryz.prog 239 [.int .u64 u] (fun r => r = .int .i64 (Lib.nDigits u)) :=
  pcalls1 fun base κ Im w v hs h => by
    cases h.int_inv
    refine (Tryz.internal_strconv_numDigits u h1 h2 w (tab_ok hs)).mono ?_
    rintro e w' ⟨rfl, rfl⟩
    exact ⟨_, _, rfl, rfl, Go.RowKit.Below.refl _ _, fun Im' => .int _ _⟩
theorem decDigits_le (u : Nat) (h : u < 18446744073709551616) : (Lib.decDigits u).length ≤ 20 := by
  rw [Lib.decDigits_length]; exact Lib.nDigits_le20 u h
theorem chunks1 : ∀ (l : List AV), chunks l.length 1 l = l.map fun c => [c]
  | [] => rfl
  | c :: l => by simp [chunks, chunks1 l]
theorem byteEls_chunks (l : List UInt8) : chunks l.length 1 (u8c l) = byteEls l := by
  have := chunks1 (u8c l)
  rw [show (u8c l).length = l.length by simp [u8c]] at this
  rw [this]; simp [u8c, byteEls]
theorem byteEls_pure (l : List UInt8) : ∀ c ∈ byteEls l, ∀ x ∈ c, x.pure = true := fun c hc x hx => by
  simp only [byteEls, List.mem_map] at hc
  obtain ⟨b, _, rfl⟩ := hc
  simp only [List.mem_singleton] at hx; subst hx; simp [AV.pure]
theorem row_under {e size m : Nat} {els : List (List AV)} {im : Bool} (h : ∀ c ∈ els, ∀ x ∈ c, x.pure = true) : (Entry.row e size els im).under m = true := by
  simp only [Entry.under, List.all_eq_true]
  exact fun c hc x hx => pure_under m (h c hc x hx)
/-- internal/strconv.AppendUint onto nothing. -/
theorem appendUint_nil [GPow] (u : Nat) (hu : u < 18446744073709551616) : PCalls Tryz.prog n_internal_strconv_AppendUint [.nils, .int .u64 u, .int .i64 10] (fun r => r = .lst (byteEls (Lib.decDigits u))) := by
  have hdl := decDigits_le u hu
  have hdp : 1 ≤ (Lib.decDigits u).length := by rw [Lib.decDigits_length]; exact Lib.nDigits_pos u
  have hdne : Lib.decDigits u ≠ [] := fun h => by rw [h] at hdp; simp at hdp
  refine pcalls_of_awp hmix c_internal_strconv_AppendUint rfl ?_
  simp [a_internal_strconv_AppendUint]
  refine cb_dec (fun hlt => ?_) (fun hge => ?_)
  · have h100 : u < 100 := by omega
    have hw : IntKind.i64.wrap (u : Int) = u := wrap_i64 (by omega) (by omega)
    simp [hw]
    refine ac_same (small_ok u h100) (by simp) ?_
    rintro r rfl
    simp
    refine aps_new true (by omega) ?_
    simp
    simp [byteEls]
  · have hu1 : 1 ≤ u := by omega
    have hnd : Lib.nDigits u ≤ 20 := Lib.nDigits_le20 u hu
    have hnd4 : Lib.nDigits u ≤ 24 := by omega
    have hdd := Lib.decDigits_length u
    simp
    refine ac_same (numDigits_ok u hu1 hu) (by simp) ?_
    rintro r rfl
    simp [hnd4]
    refine ac_eff (formatBase10_ok (n := Lib.nDigits u) rfl rfl rfl hnd4 hu) ?_
    rintro r σ' ⟨rfl, rfl⟩
    simp [hnd4]
    have hch := byteEls_chunks (Lib.decDigits u)
    rw [hdd] at hch
    refine ap_new true (byteEls (Lib.decDigits u)) ?_ (by omega) (fun c hc => ?_) (fun _ => .inr (byteEls_pure _)) (by simp [byteEls]; omega) (by simp [byteEls]; omega) ?_
    · have hul : (u8c (Lib.decDigits u)).length = Lib.nDigits u := by simp [u8c, hdd]
      simp
      refine ⟨by omega, ?_⟩
      rw [List.take_append_of_le_length (by omega), List.take_of_length_le (by omega)]
      exact hch
    · simp only [byteEls, List.mem_map] at hc; obtain ⟨b, _, rfl⟩ := hc; rfl
    · simp
/-- internal/strconv.AppendUint onto a slice of the caller's own. -/
theorem appendUint_row [GPow] {σ : Store} {id : Nat} {els : List (List AV)} (hent : σ[id]? = some (.row 5 1 els false)) (u : Nat) (hu : u < 18446744073709551616) (hl : els.length ≤ 1000) (h1 : ∀ c ∈ els, ∀ x ∈ c, x.pure = true) :
    ACalls Tryz.prog n_internal_strconv_AppendUint [.row id els.length, .int .u64 u, .int .i64 10] σ (fun r σ' => r = .row id (els.length + (Lib.decDigits u).length) ∧ σ' = σ.set id (.row 5 1 (els ++ byteEls (Lib.decDigits u)) false)) := by
  have hdl := decDigits_le u hu
  have hdp : 1 ≤ (Lib.decDigits u).length := by rw [Lib.decDigits_length]; exact Lib.nDigits_pos u
  have hdne : Lib.decDigits u ≠ [] := fun h => by rw [h] at hdp; simp at hdp
  have hlt : id < σ.length := (List.getElem?_eq_some_iff.1 hent).1
  have hpu : ∀ c ∈ els ++ byteEls (Lib.decDigits u), ∀ x ∈ c, x.pure = true := fun c hc x hx => by
    rcases List.mem_append.1 hc with h | h
    · exact h1 c h x hx
    · exact byteEls_pure _ c h x hx
  have hset : ∀ (E : Entry) (extra : Store) (i : Nat) (e : Entry), (σ.set id E)[i]? = some e → E.under σ.length = true → σ[i]? = some e ∨ e.under σ.length = true := by
    intro E extra i e he hE
    by_cases hi : i = id
    · subst hi; rw [List.getElem?_set_self hlt] at he; cases he; exact .inr hE
    · rw [List.getElem?_set_ne (fun h => hi h.symm)] at he; exact .inl he
  refine acalls_of_awp_e hmix c_internal_strconv_AppendUint rfl ?_
  simp [a_internal_strconv_AppendUint]
  refine cb_dec (fun hlt => ?_) (fun hge => ?_)
  · have h100 : u < 100 := by omega
    have hw : IntKind.i64.wrap (u : Int) = u := wrap_i64 (by omega) (by omega)
    simp [hw]
    refine ac_same (small_ok u h100) (by simp) ?_
    rintro r rfl
    simp
    refine aps_row els false hent rfl (by omega) ?_
    simp
    refine er_keep (σ.set id (.row 5 1 (els ++ byteEls (Lib.decDigits u)) false)) (.row id (els.length + (Lib.decDigits u).length)) (by simp [tupOf]) [] (by simp) (by simp) (by simpa [AV.under] using by assumption) (fun i e he => ?_) ⟨rfl, rfl⟩
    simpa using hset _ [] i e he (row_under hpu)
  · have hu1 : 1 ≤ u := by omega
    have hnd : Lib.nDigits u ≤ 20 := Lib.nDigits_le20 u hu
    have hnd4 : Lib.nDigits u ≤ 24 := by omega
    have hdd := Lib.decDigits_length u
    simp
    refine ac_same (numDigits_ok u hu1 hu) (by simp) ?_
    rintro r rfl
    simp [hnd4]
    refine ac_eff (formatBase10_ok (n := Lib.nDigits u) (by simp; rfl) rfl rfl hnd4 hu) ?_
    rintro r σ' ⟨rfl, rfl⟩
    simp [hnd4]
    have hch := byteEls_chunks (Lib.decDigits u)
    rw [hdd] at hch
    have hid : id < σ.length := by assumption
    refine ap_row els (byteEls (Lib.decDigits u)) false (by rw [List.getElem?_append_left hid]; exact hent) ?_ (by omega) (fun c hc => ?_) (fun h => by simp at h) rfl (by simp [byteEls]; omega) (by simp [byteEls]; omega) ?_
    · have hul : (u8c (Lib.decDigits u)).length = Lib.nDigits u := by simp [u8c, hdd]
      simp
      refine ⟨by omega, ?_⟩
      rw [List.take_append_of_le_length (by omega), List.take_of_length_le (by omega)]
      exact hch
    · simp only [byteEls, List.mem_map] at hc; obtain ⟨b, _, rfl⟩ := hc; rfl
    · simp
      rw [List.set_append_left _ _ hid]
      refine er_keep (σ.set id (.row 5 1 (els ++ byteEls (Lib.decDigits u)) false)) (.row id (els.length + (Lib.decDigits u).length)) (by simp [tupOf, byteEls]) _ rfl (by simp) (by simpa [AV.under] using hid) (fun i e he => ?_) ⟨rfl, rfl⟩
      simpa using hset _ [] i e he (row_under hpu)
/-- strconv.AppendInt, from nought on. -/
theorem wrap_u64_nat (u : Nat) (hu : u < 18446744073709551616) : IntKind.u64.wrap (u : Int) = u := by
  simp [IntKind.wrap, IntKind.signed, IntKind.bits]; omega
theorem itoa_nat (u : Nat) : Lib.itoa (u : Int) = Lib.decDigits u := by unfold Lib.itoa; rw [if_neg (by omega)]; simp
theorem appendIntI_nil [GPow] (u : Nat) (hu : u < 9223372036854775808) : PCalls Tryz.prog n_internal_strconv_AppendInt [.nils, .int .i64 u, .int .i64 10] (fun r => r = .lst (byteEls (Lib.decDigits u))) := by
  refine pcalls_of_awp hmix c_internal_strconv_AppendInt rfl ?_
  have hw := wrap_u64_nat u (by omega)
  have hn : ¬ ((u : Int) < 0) := by omega
  simp [a_internal_strconv_AppendInt, hw, hn]
  refine ac_same (appendUint_nil u (by omega)) (by simp) ?_
  rintro r rfl
  simp
theorem appendInt_nil [GPow] (u : Nat) (hu : u < 9223372036854775808) : PCalls Tryz.prog n_strconv_AppendInt [.nils, .int .i64 u, .int .i64 10] (fun r => r = .lst (byteEls (Lib.decDigits u))) := by
  refine pcalls_of_awp hmix c_strconv_AppendInt rfl ?_
  simp [a_strconv_AppendInt]
  refine ac_same (appendIntI_nil u hu) (by simp) ?_
  rintro r rfl
  simp
theorem appendIntI_row [GPow] {σ : Store} {id : Nat} {els : List (List AV)} (hent : σ[id]? = some (.row 5 1 els false)) (u : Nat) (hu : u < 9223372036854775808) (hl : els.length ≤ 1000) (h1 : ∀ c ∈ els, ∀ x ∈ c, x.pure = true) :
    ACalls Tryz.prog n_internal_strconv_AppendInt [.row id els.length, .int .i64 u, .int .i64 10] σ (fun r σ' => r = .row id (els.length + (Lib.decDigits u).length) ∧ σ' = σ.set id (.row 5 1 (els ++ byteEls (Lib.decDigits u)) false)) := by
  have hid : id < σ.length := (List.getElem?_eq_some_iff.1 hent).1
  refine acalls_of_awp_e hmix c_internal_strconv_AppendInt rfl ?_
  have hw := wrap_u64_nat u (by omega)
  have hn : ¬ ((u : Int) < 0) := by omega
  simp [a_internal_strconv_AppendInt, hw, hn]
  refine ac_eff (appendUint_row hent u (by omega) hl h1) ?_
  rintro r σ' ⟨rfl, rfl⟩
  simp
  refine er_keep (σ.set id (.row 5 1 (els ++ byteEls (Lib.decDigits u)) false)) (.row id (els.length + (Lib.decDigits u).length)) (by simp [tupOf]) [] (by simp) (by simp) (by simpa [AV.under] using hid) (fun i e he => ?_) ⟨rfl, rfl⟩
  by_cases hi : i = id
  · subst hi; rw [List.getElem?_set_self hid] at he; cases he
    refine .inr (row_under fun c hc x hx => ?_)
    rcases List.mem_append.1 hc with h | h
    · exact h1 c h x hx
    · exact byteEls_pure _ c h x hx
  · rw [List.getElem?_set_ne (fun h => hi h.symm)] at he; exact .inl he
theorem appendInt_row [GPow] {σ : Store} {id : Nat} {els : List (List AV)} (hent : σ[id]? = some (.row 5 1 els false)) (u : Nat) (hu : u < 9223372036854775808) (hl : els.length ≤ 1000) (h1 : ∀ c ∈ els, ∀ x ∈ c, x.pure = true) :
    ACalls Tryz.prog n_strconv_AppendInt [.row id els.length, .int .i64 u, .int .i64 10] σ (fun r σ' => r = .row id (els.length + (Lib.decDigits u).length) ∧ σ' = σ.set id (.row 5 1 (els ++ byteEls (Lib.decDigits u)) false)) := by
  have hid : id < σ.length := (List.getElem?_eq_some_iff.1 hent).1
  refine acalls_of_awp_e hmix c_strconv_AppendInt rfl ?_
  simp [a_strconv_AppendInt]
  refine ac_eff (appendIntI_row hent u hu hl h1) ?_
  rintro r σ' ⟨rfl, rfl⟩
  simp
  refine er_keep (σ.set id (.row 5 1 (els ++ byteEls (Lib.decDigits u)) false)) (.row id (els.length + (Lib.decDigits u).length)) (by simp [tupOf]) [] (by simp) (by simp) (by simpa [AV.under] using hid) (fun i e he => ?_) ⟨rfl, rfl⟩
  by_cases hi : i = id
  · subst hi; rw [List.getElem?_set_self hid] at he; cases he
    refine .inr (row_under fun c hc x hx => ?_)
    rcases List.mem_append.1 hc with h | h
    · exact h1 c h x hx
    · exact byteEls_pure _ c h x hx
  · rw [List.getElem?_set_ne (fun h => hi h.symm)] at he; exact .inl he
end Go.Proofs.YtigkchpjpdbodaaGreatDoor
end
section
set_option maxHeartbeats 1000000
namespace Go.Dec
theorem tw_take (s : List UInt8) : s.take (s.takeWhile isD).length = s.takeWhile isD :=
  (congrArg (List.take (s.takeWhile isD).length) (List.takeWhile_append_dropWhile (p := isD) (l := s)).symm).trans (List.take_left' rfl)
theorem tw_drop (s : List UInt8) : s.drop (s.takeWhile isD).length = s.dropWhile isD :=
  (congrArg (List.drop (s.takeWhile isD).length) (List.takeWhile_append_dropWhile (p := isD) (l := s)).symm).trans (List.drop_left' rfl)
theorem tw_len (s : List UInt8) : (s.takeWhile isD).length ≤ s.length := List.Sublist.length_le (List.takeWhile_sublist _)
/-- Where the digits end. -/
theorem tw_at : ∀ (s : List UInt8) (i : Nat), i ≤ s.length → (s.take i).all isD = true → (∀ h : i < s.length, isD s[i] = false) → (s.takeWhile isD).length = i
  | [], i, h, _, _ => by simp at h; simp [h]
  | c :: s, 0, _, _, hn => by
    have := hn (by simp)
    simp only [List.getElem_cons_zero] at this
    simp [List.takeWhile_cons, this]
  | c :: s, i + 1, h, ha, hn => by
    simp only [List.take_succ_cons, List.all_cons, Bool.and_eq_true] at ha
    simp only [List.takeWhile_cons, ha.1, if_true, List.length_cons]
    rw [tw_at s i (by simpa using h) ha.2 (fun h' => by have := hn (by simpa using h'); rw [List.getElem_cons_succ] at this; exact this)]
/-- What the program's split makes of a text. -/
def splitW (s : List UInt8) : List UInt8 := s.takeWhile isD
def splitP (s : List UInt8) : List UInt8 := match s.dropWhile isD with
  | c :: t => if c = 46 then t.takeWhile isD else []
  | [] => []
def splitR (s : List UInt8) : List UInt8 := match s.dropWhile isD with
  | c :: t => if c = 46 then t.dropWhile isD else c :: t
  | [] => []
theorem tw_all : ∀ (s : List UInt8), s.dropWhile isD = [] → s.takeWhile isD = s
  | s, h => by have := List.takeWhile_append_dropWhile (p := isD) (l := s); rw [h, List.append_nil] at this; exact this
theorem parts_some {s : List UInt8} : (splitR s = [] ∧ splitW s ++ splitP s ≠ []) ↔ parts s = some (splitW s, splitP s) := by
  unfold splitR splitW splitP parts
  cases hd : s.dropWhile isD with
  | nil => simp
  | cons c t =>
    by_cases hc : c = 46
    · subst hc
      by_cases ht : t.dropWhile isD = []
      · simp only [ht, if_true, true_and]
        rw [tw_all t ht]
        by_cases hw : s.takeWhile isD ++ t = []
        · simp [hw]
        · simp [hw]
      · simp [ht]
    · simp [hc]
theorem parts_none {s : List UInt8} (h : ¬ (splitR s = [] ∧ splitW s ++ splitP s ≠ [])) : parts s = none := by
  cases hp : parts s with
  | none => rfl
  | some x =>
    exfalso
    apply h
    rw [parts_some, hp]
    unfold parts at hp
    unfold splitW splitP
    cases hd : s.dropWhile isD with
    | nil =>
      rw [hd] at hp; simp only at hp
      split at hp
      · cases hp
      · simpa using hp.symm
    | cons c t =>
      rw [hd] at hp; simp only at hp
      split at hp
      · rename_i hc
        obtain ⟨rfl, h2, h3⟩ := hc
        simp only [if_true, tw_all t h2]
        simpa using hp.symm
      · cases hp
theorem all_tw (s : List UInt8) : (s.takeWhile isD).all isD = true := by
  exact List.all_takeWhile
end Go.Dec
namespace Go.Proofs.YtigkchpjpdbodaaGreatDoor
open Go.Abs Go.Dec
variable {G : Globs}
theorem hp_cons (c d : UInt8) (t : List UInt8) : Lib.hasPrefix (c :: t) [d] = decide (c = d) := by
  by_cases h : c = d
  · subst h; simp [Lib.hasPrefix]
  · have : ¬ d = c := fun h' => h h'.symm
    have e : (d == c) = false := by simpa using this
    show (d == c && List.isPrefixOf [] t) = decide (c = d)
    simp [e, h]
theorem tp_cons (c d : UInt8) (t : List UInt8) : Lib.trimPrefix (c :: t) [d] = if c = d then t else c :: t := by
  simp only [Lib.trimPrefix, hp_cons]; split <;> simp_all
theorem hp_nil (d : UInt8) : Lib.hasPrefix [] [d] = false := rfl
theorem tp_nil (d : UInt8) : Lib.trimPrefix [] [d] = [] := rfl
theorem digits_ok (s : List UInt8) (hs : s.length ≤ 1000000) : PCalls Tryz.prog n_decimal_digits [.str s] (fun r => r = .int .i64 (s.takeWhile isD).length) := by
  refine pcalls_of_awp hmix c_decimal_digits rfl ?_
  simp [a_decimal_digits]
  refine lp_start (fun n f σ => ∃ i : Nat, n = s.length - i ∧ i ≤ s.length ∧ f 0 = .str s ∧ f 3 = .int .i64 i ∧ (s.take i).all isD = true ∧ σ = []) s.length ⟨0, by simp⟩ ?_
  rintro n f σ ⟨i, rfl, hi, h0, h3, hall, rfl⟩
  simp [h0, h3]
  by_cases hlt : i < s.length
  · have hlt' : (i : Int) < s.length := by omega
    have hge := (isD_iff s[i])
    simp [hlt, hlt', h0, h3, List.getElem?_eq_getElem hlt]
    by_cases hd : isD s[i] = true
    · obtain ⟨g1, g2⟩ := hge.1 hd
      have g1' : (48 : Int) ≤ (s[i].toNat : Int) := by omega
      have g2' : (s[i].toNat : Int) ≤ 57 := by omega
      simp [g1, g2, g1', g2', h0, h3, List.getElem?_eq_getElem hlt]
      refine ⟨_, ?_, i + 1, rfl, by omega, by rw [wrap_i64 (by omega) (by omega)]; simp, ?_⟩
      · omega
      · intro x hx
        rw [List.take_add_one, List.getElem?_eq_getElem hlt] at hx
        simp only [Option.toList_some, List.mem_append, List.mem_singleton] at hx
        rcases hx with hx | rfl
        · exact List.all_eq_true.1 hall x hx
        · exact hd
    · have hend := tw_at s i hi hall (fun _ => by simpa using hd)
      by_cases g1 : 48 ≤ s[i].toNat
      · have g2 : ¬ s[i].toNat ≤ 57 := fun h => hd (hge.2 ⟨g1, h⟩)
        have g1' : (48 : Int) ≤ (s[i].toNat : Int) := by omega
        have g2' : ¬ (s[i].toNat : Int) ≤ 57 := by omega
        simp [g1, g2, g1', g2', h0, h3, List.getElem?_eq_getElem hlt, hend]
      · have g1' : ¬ (48 : Int) ≤ (s[i].toNat : Int) := by omega
        simp [g1, g1', h0, h3, hend]
  · have hlt' : ¬ (i : Int) < s.length := by omega
    have hend := tw_at s i hi hall (fun h => absurd h hlt)
    simp [hlt, hlt', h0, h3, hend]
theorem sign_ok (s : List UInt8) : PCalls Tryz.prog n_decimal_sign [.str s] (fun r => r = .tup [.str (unsign s), .bool (below s)]) := by
  refine pcalls_of_awp hmix c_decimal_sign rfl ?_
  simp [a_decimal_sign]
  refine ac_same (cutPrefix_ok s [45]) (by simp) ?_
  rintro r rfl
  cases s with
  | nil =>
    simp [hp_nil, tp_nil]
    refine ac_same (trimPrefix_ok [] [43]) (by simp) ?_
    rintro r rfl
    simp [tp_nil, unsign, below]
  | cons c t =>
    by_cases hc : c = 45
    · subst hc
      simp [hp_cons, tp_cons, unsign, below]
    · simp [hp_cons, tp_cons, hc]
      refine ac_same (trimPrefix_ok (c :: t) [43]) (by simp) ?_
      rintro r rfl
      by_cases h43 : c = 43
      · subst h43; simp [tp_cons, unsign, below]
      · simp [tp_cons, unsign, below, hc, h43]
theorem split_okD (s : List UInt8) (hs : s.length ≤ 1000000) : PCalls Tryz.prog n_decimal_split [.str s] (fun r => r = .tup [.str (splitW s), .str (splitP s), .bool (decide (splitR s = [] ∧ splitW s ++ splitP s ≠ []))]) := by
  refine pcalls_of_awp hmix c_decimal_split rfl ?_
  simp [a_decimal_split]
  refine ac_same (digits_ok s hs) (by simp) ?_
  rintro r rfl
  have hl := tw_len s
  simp [hl, tw_take, tw_drop]
  refine ac_same (cutPrefix_ok (s.dropWhile isD) [46]) (by simp) ?_
  rintro r rfl
  have hadd : ∀ a b : List UInt8, a.length ≤ s.length → b.length ≤ s.length → a.length + b.length ≤ 9223372036854775807 := fun a b h1 h2 => by omega
  cases hd : s.dropWhile isD with
  | nil =>
    simp [hp_nil, tp_nil]
    have := hadd (s.takeWhile isD) [] hl (by simp)
    simp at this
    simp [this, splitW, splitP, splitR, hd]
  | cons c t =>
    have hdl : (c :: t).length ≤ s.length := by rw [← hd]; exact List.Sublist.length_le (List.dropWhile_sublist _)
    simp only [List.length_cons] at hdl
    by_cases hc : c = 46
    · subst hc
      simp [hp_cons, tp_cons]
      refine ac_same (digits_ok t (by omega)) (by simp) ?_
      rintro r rfl
      have hl2 := tw_len t
      simp [hl2, tw_take, tw_drop]
      have := hadd (s.takeWhile isD) (t.takeWhile isD) hl (by omega)
      by_cases he : t.dropWhile isD = []
      · simp [he, this, splitW, splitP, splitR, hd]
      · simp [he, splitW, splitP, splitR, hd]
    · simp [hp_cons, tp_cons, hc]
      simp [splitW, splitP, splitR, hd, hc]
theorem unsign_len (s : List UInt8) : (unsign s).length ≤ s.length := by
  unfold unsign; split
  · split <;> simp
  · simp
theorem pad_len (p : List UInt8) : (pad p).length = 6 := by simp [pad]
theorem splitW_len (s : List UInt8) : (splitW s).length ≤ s.length := tw_len s
theorem splitP_len (s : List UInt8) : (splitP s).length ≤ s.length := by
  unfold splitP
  have h := List.Sublist.length_le (List.dropWhile_sublist (p := isD) (l := s))
  split
  · rename_i c t hd
    rw [hd] at h; simp only [List.length_cons] at h
    split
    · have := tw_len t; omega
    · simp
  · simp
theorem pad_all {p : List UInt8} (h : p.all isD = true) : (pad p).all isD = true := by
  rw [List.all_eq_true] at h ⊢
  intro x hx
  have := List.mem_of_mem_take hx
  rcases List.mem_append.1 this with h1 | h1
  · exact h x h1
  · simp at h1; subst h1; decide
theorem splitP_all (s : List UInt8) : (splitP s).all isD = true := by
  unfold splitP
  split
  · split
    · exact all_tw _
    · rfl
  · rfl
def numAV (x : Except Nat Int) : AV := match x with
  | .ok n => .tup [.agg [.bool false, .int .i64 n], .int .i64 0]
  | .error e => .tup [.agg [.bool false, .int .i64 0], .int .i64 e]
theorem dParse_ok [GDec] (s : List UInt8) (hs : s.length ≤ 9223372036854775807) : PCalls Tryz.prog n_decimal_Parse [.str s] (fun r => r = numAV (parse s)) := by
  refine pcalls_of_awp hmix c_decimal_Parse rfl ?_
  simp [a_decimal_Parse]
  by_cases h64 : 64 < s.length
  · have h64' : (64 : Int) < s.length := by omega
    simp [h64, h64', parse, numAV]
  have h64' : ¬ (64 : Int) < s.length := by omega
  simp [h64, h64']
  refine ac_same (sign_ok s) (by simp) ?_
  rintro r rfl
  simp
  have hul := unsign_len s
  refine ac_same (split_okD (unsign s) (by omega)) (by simp) ?_
  rintro r rfl
  generalize hU : unsign s = U at *
  by_cases hp : splitR U = [] ∧ splitW U ++ splitP U ≠ []
  · rw [decide_eq_true hp]
    have hparts := parts_some.1 hp
    have hWl := splitW_len U
    have hPl := splitP_len U
    have hWa : (splitW U).all isD = true := all_tw U
    have hPa := splitP_all U
    generalize splitW U = W at *
    generalize splitP U = P at *
    have hpar : parse s = if 9223372036854775807 < dval 0 (W ++ pad P) + (if upB P then 1 else 0) then .error 3 else .ok (if below s then -((dval 0 (W ++ pad P) + (if upB P then 1 else 0) : Nat) : Int) else ((dval 0 (W ++ pad P) + (if upB P then 1 else 0) : Nat) : Int)) := by
      unfold parse; rw [if_neg h64, hU, hparts]
    have hadd1 : P.length + 6 ≤ 9223372036854775807 := by omega
    have hadd2 : W.length + 1 ≤ 9223372036854775807 := by omega
    have hadd2' : 1 + W.length ≤ 9223372036854775807 := by omega
    have hpl := pad_len P
    have hadd3 : W.length + 1 + (pad P).length ≤ 9223372036854775807 := by omega
    have hmin : 6 ≤ P.length + 6 := by omega
    have hdv : dval 0 (48 :: (W ++ pad P)) = dval 0 (W ++ pad P) := by rw [dval_cons]; rfl
    have hdall : (48 :: (W ++ pad P)).all isD = true := by
      simp only [List.all_cons, List.all_append, Bool.and_eq_true]
      exact ⟨by decide, hWa, pad_all hPa⟩
    have hpadeq : (P ++ [48, 48, 48, 48, 48, 48]).take 6 = pad P := rfl
    have hpi := parseInt_ok (48 :: (W ++ pad P)) (by simp; omega) hdall (by simp)
    rw [hdv] at hpi
    generalize hV : dval 0 (W ++ pad P) = V at *
    have hup : ∀ (h6 : 6 < P.length), upB P = decide ((53 : Int) ≤ (P[6].toNat : Int)) := fun h6 => by
      unfold upB
      rw [List.getElem?_eq_getElem h6]
      simp [UInt8.le_iff_toNat_le]
      omega
    have hup0 : ¬ 6 < P.length → upB P = false := fun h6 => by
      unfold upB
      rw [List.getElem?_eq_none (by omega)]
    by_cases h6 : 6 < P.length
    · have h6' : (6 : Int) < P.length := by omega
      simp [h6, h6', List.getElem?_eq_getElem h6, ← hup h6, hadd1, hmin, hpadeq, hadd2', hadd2, hadd3]
      cases hub : upB P with
      | true =>
        refine ac_same hpi (by simp) ?_
        intro r hr
        unfold pIntAV at hr
        by_cases hle : V ≤ 9223372036854775807
        · rw [if_pos hle] at hr
          subst hr
          have hnw : IntKind.i64.wrap (-(V : Int)) = -(V : Int) := by rw [wrap_i64 (by omega) (by omega)]
          simp
          by_cases hmax : V = 9223372036854775807
          · subst hmax
            simp [hpar, hub, numAV]
          · have hmax' : ¬ (V : Int) = 9223372036854775807 := by omega
            have hlt : ¬ 9223372036854775807 < V + 1 := by omega
            have hw1 : IntKind.i64.wrap ((V : Int) + 1) = (V : Int) + 1 := wrap_i64 (by omega) (by omega)
            have hw2 : IntKind.i64.wrap (-((V : Int) + 1)) = -((V : Int) + 1) := by rw [wrap_i64 (by omega) (by omega)]
            simp [hmax, hmax', hw1]
            refine cb_intro (fun hb => ?_) (fun hb => ?_)
            · simp [hpar, hub, hb, hlt, hw1, hw2, numAV]
            · simp [hpar, hub, hb, hlt, hw1, numAV]
        · rw [if_neg hle] at hr
          obtain ⟨z, rfl⟩ := hr
          have hgt : 9223372036854775807 < V := by omega
          have hgt1 : 9223372036854775807 < V + 1 := by omega
          simp [hpar, hub, hgt, hgt1, numAV]
      | false =>
        refine ac_same hpi (by simp) ?_
        intro r hr
        unfold pIntAV at hr
        by_cases hle : V ≤ 9223372036854775807
        · rw [if_pos hle] at hr
          subst hr
          have hnw : IntKind.i64.wrap (-(V : Int)) = -(V : Int) := by rw [wrap_i64 (by omega) (by omega)]
          simp
          have hlt : ¬ 9223372036854775807 < V := by omega
          refine cb_intro (fun hb => ?_) (fun hb => ?_)
          · simp [hpar, hub, hb, hlt, hnw, numAV]
          · simp [hpar, hub, hb, hlt, numAV]
        · rw [if_neg hle] at hr
          obtain ⟨z, rfl⟩ := hr
          have hgt : 9223372036854775807 < V := by omega
          have hgt1 : 9223372036854775807 < V + 1 := by omega
          simp [hpar, hub, hgt, hgt1, numAV]
    · have h6' : ¬ (6 : Int) < P.length := by omega
      have hub := hup0 h6
      simp [h6, h6', hadd1, hmin, hpadeq, hadd2', hadd2, hadd3]
      refine ac_same hpi (by simp) ?_
      intro r hr
      unfold pIntAV at hr
      by_cases hle : V ≤ 9223372036854775807
      · rw [if_pos hle] at hr
        subst hr
        have hnw : IntKind.i64.wrap (-(V : Int)) = -(V : Int) := by rw [wrap_i64 (by omega) (by omega)]
        simp
        have hlt : ¬ 9223372036854775807 < V := by omega
        refine cb_intro (fun hb => ?_) (fun hb => ?_)
        · simp [hpar, hub, hb, hlt, hnw, numAV]
        · simp [hpar, hub, hb, hlt, numAV]
      · rw [if_neg hle] at hr
        obtain ⟨z, rfl⟩ := hr
        have hgt : 9223372036854775807 < V := by omega
        have hgt1 : 9223372036854775807 < V + 1 := by omega
        simp [hpar, hub, hgt, hgt1, numAV]
  · rw [decide_eq_false hp]
    have hparts := parts_none hp
    have hpar : parse s = .error 2 := by unfold parse; rw [if_neg h64, hU, hparts]
    simp [hpar, numAV]
end Go.Proofs.YtigkchpjpdbodaaGreatDoor
end
