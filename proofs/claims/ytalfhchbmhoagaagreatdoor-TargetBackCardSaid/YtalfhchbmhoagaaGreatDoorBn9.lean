/- Targets: what is printed is parsed back (plain). Targets: the law of what is parsed back. -/
import Derived.Test.YtalfhchbmhoagaaGreatDoorBn1
import Derived.Test.YtalfhchbmhoagaaGreatDoorBn2
import Derived.Test.YtalfhchbmhoagaaGreatDoorBn3
import Derived.Test.YtalfhchbmhoagaaGreatDoorBn4
import Derived.Test.YtalfhchbmhoagaaGreatDoorBn5
import Derived.Test.YtalfhchbmhoagaaGreatDoorBn6
import Derived.Test.YtalfhchbmhoagaaGreatDoorBn7
import Derived.Test.YtalfhchbmhoagaaGreatDoorBn8
set_option linter.unusedSimpArgs false
set_option linter.unusedVariables false
set_option linter.constructorNameAsVariable false
section
set_option maxHeartbeats 4000000
namespace Go.Tgt
theorem tree_sizeN {α : Type} {body : Nd → List α → α} {d : α} (size : α → Nat) (W : Nd → Nat) (hW : ∀ (n : Nd) (as_ : List α), as_.length = n.args.length → size (body n as_) ≤ W n + (as_.map size).sum) {own : Nd → Bool} {l : List Nd} {B D : Nat → Nat} (hL : Linked own l B D) (i : Nat) :
  i < l.length → size (treeS body d l i) + sumW W (l.take (B i)) ≤ sumW W (l.take (i + 1)) := by
 induction i using Nat.strongRecOn with
 | _ i ih =>
  intro hi
  obtain ⟨n, hn⟩ : ∃ n, l[i]? = some n := ⟨_, List.getElem?_eq_getElem hi⟩
  have hch : ∀ (as_ : List Int) (b : Nat), ChainP B b i as_ → ((as_.map fun a => treeS body d l a.toNat).map size).sum + sumW W (l.take b) ≤ sumW W (l.take i) := by
   intro as_
   induction as_ with
   | nil => intro b hb; cases hb; simp
   | cons a as_ ih2 =>
    intro b hb
    obtain ⟨k, rfl, h1, h2, h3, h4⟩ := hb
    have := ih2 _ h4
    have := ih k h3 (by omega)
    rw [h1] at this
    simp only [List.map_cons, List.sum_cons, Int.toNat_natCast]
    omega
  have h1 := hch _ _ (hL.chain i n hn)
  have h2 := hW n (n.args.map fun a => treeS body d l a.toNat) (by simp)
  rw [treeS_eq hL.back hn, sumW_take hn]
  omega
theorem commas_len : ∀ (as_ : List (List Kt)), (commas as_).length ≤ (as_.map List.length).sum + (as_.length - 1)
 | [] => by simp [commas]
 | x :: r => by
  have : ∀ r : List (List Kt), (r.flatMap fun y => ((6 : Int), ([] : List UInt8)) :: y).length = (r.map List.length).sum + r.length := by
   intro r
   induction r with
   | nil => rfl
   | cons y r ih => simp [ih]; omega
  simp only [commas, List.length_append, this, List.map_cons, List.sum_cons, List.length_cons]
  omega
theorem toks_len {P : Int → List UInt8} (n : Nd) (as_ : List (List Kt)) (h : as_.length = n.args.length) : (toksB P n as_).length ≤ wTok n + (as_.map List.length).sum := by
 have := commas_len as_
 unfold toksB wTok
 split
 ·rename_i h2
  have : ¬ n.kind = 4 := by omega
  simp [this]
 ·split
  ·rename_i h3
   have : ¬ n.kind = 4 := by omega
   simp [this]
  ·split
   ·simp; omega
   ·simp
theorem argsP_last {sub : List Tok.Tk → List Nd → Except Nat (List Nd × List Tok.Tk)} {word : List UInt8} : ∀ (f : Nat) (args : List Int) (t : List Tok.Tk) (l l' : List Nd) (t' : List Tok.Tk), argsP sub word f args t l = .ok (l', t') → ∃ l0 n, l' = l0 ++ [n] ∧ n.kind = 4
 | 0, args, t, l, l', t', h => by simp [argsP] at h
 | f + 1, args, t, l, l', t', h => by
  rw [argsP] at h
  cases hx : sub t l with
  | error e => rw [hx] at h; cases h
  | ok y =>
   obtain ⟨l1, t1⟩ := y
   rw [hx] at h
   cases t1 with
   | nil => cases h
   | cons y r =>
    simp only at h
    split at h
    ·cases h; exact ⟨_, _, rfl, rfl⟩
    ·split at h
     ·split at h
      ·cases h
      ·exact argsP_last f _ _ _ _ _ h
     ·cases h
theorem argP_last {lv : Nat} {x : Tok.Tk} {r : List Tok.Tk} {l l' : List Nd} {t' : List Tok.Tk} (hx : x.kind = 1) (h : argP lv (x :: r) l = .ok (l', t')) : ∃ l0 n, l' = l0 ++ [n] ∧ (n.kind = 1 ∨ n.kind = 4) := by
 cases lv with
 | zero => unfold argP at h; simp [hx] at h
 | succ lv =>
  unfold argP at h
  simp [hx] at h
  cases r with
  | nil => simp at h; exact ⟨l, _, h.1.symm, .inl rfl⟩
  | cons y r' =>
   simp only at h
   split at h
   ·cases r' with
    | nil => cases h
    | cons z r'' =>
     simp only at h
     split at h
     ·cases h; exact ⟨l, _, rfl, .inr rfl⟩
     ·obtain ⟨l0, n, h1, h2⟩ := argsP_last _ _ _ _ _ _ h
      exact ⟨l0, n, h1, .inr h2⟩
   ·cases h; exact ⟨l, _, rfl, .inl rfl⟩
theorem check_all {E : List UInt8 → Nat} {l : List Nd} : ∀ {r : List Nd}, checkS E l r = 0 → ∀ n ∈ r, nodeS E l n = 0
 | m :: r, h, n, hn => by
  rw [checkS] at h
  split at h
  ·rename_i h0
   rcases List.mem_cons.1 hn with rfl | hn
   ·exact h0
   ·exact check_all h n hn
  ·rename_i h0; exact absurd h h0
end Go.Tgt
namespace Go.Proofs.YtalfhchbmhoagaaGreatDoor
open Go.Abs Go.Tgt Go.Trail Go.Tok
variable {G : Globs}
theorem words_right : (wordsS.all fun w => rightB 1 0 w && decide (w.length ≤ 100)) = true := by kernel_rfl
theorem kinds_word {s k : List UInt8} (h : kindsS s = some k) : rightB 1 0 s = true ∧ s.length ≤ 100 := by
 have hs : s ∈ wordsS := by
  by_cases hs : s ∈ wordsS
  ·exact hs
  ·rw [kinds_none hs] at h; cases h
 have := List.all_eq_true.1 words_right s hs
 simpa using this
theorem node_word {l : List Nd} {n : Nd} (h : nodeS nodE l n = 0) (hk : n.kind = 4) : rightB 1 0 n.text = true ∧ n.text.length ≤ 100 := by
 unfold nodeS at h
 rw [if_neg (by omega), if_pos hk] at h
 cases hks : kindsS n.text with
 | none => rw [hks] at h; cases h
 | some k => exact kinds_word hks
def ownZ (n : Nd) : Bool := decide (n.args.length ≤ 16) && (decide (n.kind = 4) || decide (n.text.length ≤ 1024)) && decide (n.num.natAbs ≤ 9223372036854775807)
theorem ownZ_owns {t : List Tk} (ht : TkOk t) : Owns ownZ t := by
 refine ⟨fun x hx _ => by simp [ownZ, ht.txt x hx], fun x hx hk => ?_, fun x hx _ => by simp [ownZ, ht.txt x hx], fun s as_ h => by simp [ownZ, h]⟩
 have := ht.num x hx hk
 cases hp : Dec.parse x.text with
 | error e => simp [isNum, hp] at this
 | ok v =>
  have := (Dec.parse_bound hp).2
  simp [ownZ, numOf, hp, this]
theorem sumW_bound (W : Nd → Nat) (c : Nat) : ∀ (l : List Nd), (∀ n ∈ l, W n ≤ c) → sumW W l ≤ c * l.length
 | [], _ => by simp [sumW]
 | n :: l, h => by
  have ih := sumW_bound W c l fun m hm => h m (by simp [hm])
  have h1 := h n (by simp)
  have e : sumW W (n :: l) = W n + sumW W l := by simp [sumW]
  rw [e, List.length_cons, Nat.mul_succ]; omega
theorem parsed_right {s : List UInt8} {m : List Nd} (h : parseS nodE s = .ok m) : rightT m = true ∧ TOk m ∧ sumW wTok m ≤ 256 := by
 unfold parseS at h
 cases hsp : Tok.split s with
 | error e => rw [hsp] at h; cases h
 | ok t =>
  obtain ⟨ht, hown⟩ := split_tkOk hsp
  have hfew := ht.few
  rw [hsp] at h
  cases t with
  | nil => cases h
  | cons x tl =>
   simp only at h
   split at h
   ·cases h
   rename_i hx1
   have hx1 : x.kind = 1 := by simpa using hx1
   cases hp : argP 12 (x :: tl) [] with
   | error e => rw [hp] at h; cases h
   | ok y =>
    obtain ⟨l', r⟩ := y
    rw [hp] at h
    simp only at h
    split at h
    ·cases h
    split at h
    ·rename_i hr0 hck
     cases h
     obtain ⟨⟨d, hd, hS⟩, hl0, hw, _⟩ := argP_more hown 12 (x :: tl) [] m r [] (fun _ h => h) rfl hp
     obtain ⟨⟨_, _, hSZ⟩, _⟩ := argP_more (ownZ_owns ht) 12 (x :: tl) [] m r [] (fun _ h => h) rfl hp
     obtain ⟨BZ, DZ, hLZ, _⟩ := linked_of ownZ m _ hSZ
     have h0 : sumW wTok [] = 0 := rfl
     have hsum : sumW wTok m ≤ 256 := by omega
     have hlen := len_sumW m
     have hz : ∀ n ∈ m, n.args.length ≤ 16 ∧ n.text.length ≤ 1024 ∧ n.num.natAbs ≤ 9223372036854775807 := fun n hn => by
      obtain ⟨i, hi⟩ := List.getElem?_of_mem hn
      have := hLZ.own i n hi
      simp only [ownZ, Bool.and_eq_true, Bool.or_eq_true, decide_eq_true_eq] at this
      refine ⟨this.1.1, ?_, this.2⟩
      rcases this.1.2 with h4 | h4
      ·have := (node_word (check_all hck n hn) h4).2; omega
      ·exact h4
     have hT : TOk m := by
      refine ⟨by omega, fun n hn => by have := hz n hn; omega, fun n hn => by have := (hz n hn).2.2; omega, ?_⟩
      have := sumW_bound wTxt 1200 m fun n hn => by
       have h1 := hz n hn
       have h2 := prn_short (v := n.num) (by omega) (by omega)
       unfold wTxt
       omega
      omega
     refine ⟨?_, hT, hsum⟩
     obtain ⟨l0, n, rfl, hk⟩ := argP_last hx1 hp
     have hlast : (l0 ++ [n]).getD ((l0 ++ [n]).length - 1) nd0 = n := by simp [List.getD]
     have hlet : letterS n = 83 := by
      unfold letterS
      rw [if_neg (by omega), if_neg (by omega)]
     have hsb := shaped_some hS
     have h1 : shapedB (l0 ++ [n]) = true := by rw [hsb]; simp; omega
     unfold rightT
     rw [hlast, hlet, h1, hck]
     have := hT.len
     simp at this
     simp
     omega
    ·cases h
theorem text_back {m : List Nd} (hr : rightT m = true) (hT : TOk m) (hl : (textS m (m.length - 1)).length ≤ 1024) :
  (Tok.split (textS m (m.length - 1)) = .error 11 ∧ parseS nodE (textS m (m.length - 1)) = .error 11 ∧ 256 < sumW wTok m) ∨ ((∃ t, Tok.split (textS m (m.length - 1)) = .ok t ∧ t ≠ []) ∧ parseS nodE (textS m (m.length - 1)) = .ok m) := by
 obtain ⟨B, D, w, h0, hL, hS, h12, hO, h83, hck⟩ := rightT_link hr
 have hpos : 0 < m.length := List.length_pos_iff.2 h0
 obtain ⟨q, hq⟩ : ∃ q, q = m.length - 1 := ⟨_, rfl⟩
 rw [← hq] at hl h83 ⊢
 obtain ⟨n, hn⟩ : ∃ n, m[q]? = some n := ⟨_, List.getElem?_eq_getElem (by omega)⟩
 have htop : bOf [w] 1 = m.length := hO.top
 have hw1 : w.1 = q := by simp [bOf] at htop; omega
 obtain ⟨hB, hD, _⟩ := hO.beg 0 w rfl
 rw [hw1] at hB hD
 have hB0 : B q = 0 := hB
 have hgn : m.getD q nd0 = n := by simp [List.getD, hn]
 rw [hgn] at h83
 have hall := check_all hck
 have h64 : ∀ x ∈ m, Num64 x := fun x hx => hT.num x hx
 have hspl := spl_tree hL h64 (fun x hx hk => (node_word (hall x hx) hk).1) q (by omega) [] [] spl_nil (.inl rfl)
 simp only [List.append_nil] at hspl
 have hown := hL.own q n hn
 have hpl := own_plain hown (h64 n (List.mem_of_getElem? hn))
 have hkind : n.kind = 1 ∨ n.kind = 4 := by
  have h1 : n.kind ≠ 2 := fun e => by rw [letterS, if_pos e] at h83; cases h83
  have h2 : n.kind ≠ 3 := fun e => by rw [letterS, if_neg h1, if_pos e] at h83; cases h83
  rcases hpl.kind with h | h | h | h
  ·exact .inl h
  ·exact absurd h h1
  ·exact absurd h h2
  ·exact .inr h
 have htree := treeS_eq (body := toksB (Dec.prn false)) (d := ([] : List Kt)) hL.back hn
 have hhead : ∃ s r, toksS m q = (1, s) :: r := by
  show ∃ s r, treeS (toksB (Dec.prn false)) [] m q = (1, s) :: r
  rw [htree]
  unfold toksB
  rcases hkind with h | h <;> simp [h]
 have hsize := tree_sizeN (d := ([] : List Kt)) (body := toksB (Dec.prn false)) List.length wTok (fun n as_ h => toks_len n as_ h) hL q (by omega)
 rw [hB0, show q + 1 = m.length by omega, List.take_length] at hsize
 have hs0 : sumW wTok (m.take 0) = 0 := rfl
 have hlt : (toksS m q).length = (treeS (toksB (Dec.prn false)) [] m q).length := rfl
 rcases spl_split hspl with ⟨h1, _⟩ | ⟨_, h2, h3⟩ | ⟨_, _, t, h3, h4⟩
 ·omega
 ·refine .inl ⟨h3, ?_, by omega⟩
  unfold parseS; rw [h3]
 ·refine .inr ⟨⟨t, h3, ?_⟩, ?_⟩
  ·rintro rfl
   obtain ⟨s, r, hh⟩ := hhead
   rw [hh] at h4; cases h4
  ·have hkt : t.map ktT = treeS (toksB (Dec.prn false)) [] m q ++ [] := by rw [List.append_nil]; exact h4
   have hback := argP_back hL (fun x hx => by
    obtain ⟨i, hi⟩ := List.getElem?_of_mem hx
    exact own_plain (hL.own i x hi) (h64 x hx)) q n 12 t [] hn (by omega) hkt (by simp)
   rw [hB0, List.take_zero, show q + 1 = m.length by omega, List.take_length] at hback
   have hdr : t.drop (treeS (toksB (Dec.prn false)) [] m q).length = [] := by
    rw [List.append_nil] at hkt
    rw [← hkt, List.length_map, List.drop_length]
   rw [hdr] at hback
   obtain ⟨s, r, hh⟩ := hhead
   unfold parseS
   rw [h3]
   cases t with
   | nil => rw [hh] at h4; cases h4
   | cons x tl =>
    rw [hh] at h4
    have hx1 : x.kind = 1 := by
     have := congrArg List.head? h4
     simp [kt] at this
     exact this.1
    simp only [hx1, ne_eq, not_true, if_false, hback, hck, if_true]
end Go.Proofs.YtalfhchbmhoagaaGreatDoor
end
section
set_option maxHeartbeats 4000000
set_option maxRecDepth 20000
namespace Go.Proofs.YtalfhchbmhoagaaGreatDoor
open Go.Abs Go.Tgt Go.Trail Go.Tok
variable {G : Globs}
theorem parseS_ne {E : List UInt8 → Nat} {s : List UInt8} {e : Nat} (h : parseS E s = .error e) : e ≠ 0 := by
 unfold parseS at h
 cases hsp : Tok.split s with
 | error e' => rw [hsp] at h; cases h; exact split_ne hsp
 | ok t =>
  rw [hsp] at h
  cases t with
  | nil => cases h; decide
  | cons x tl =>
   simp only at h
   split at h
   ·cases h; decide
   cases hp : argP 12 (x :: tl) [] with
   | error e' => rw [hp] at h; cases h; exact argP_ne _ _ _ _ hp
   | ok y =>
    obtain ⟨l', r⟩ := y
    rw [hp] at h
    simp only at h
    split at h
    ·cases h; decide
    split at h
    ·cases h
    ·rename_i hne
     cases h; exact hne
theorem print_cases {l : List Nd} (hT : TOk l) : (∃ e, printT l = ([], e) ∧ e ≠ 0) ∨ (printT l = (textS l (l.length - 1), 0) ∧ (textS l (l.length - 1)).length ≤ 1024 ∧ ((Tok.split (textS l (l.length - 1)) = .error 11 ∧ parseS nodE (textS l (l.length - 1)) = .error 11 ∧ 256 < sumW wTok l) ∨ ((∃ t, Tok.split (textS l (l.length - 1)) = .ok t ∧ t ≠ []) ∧ parseS nodE (textS l (l.length - 1)) = .ok l))) := by
 unfold printT
 by_cases hr : rightT l = true
 ·rw [if_pos hr]
  by_cases hl : 1024 < (textS l (l.length - 1)).length
  ·rw [if_pos hl]; exact .inl ⟨12, rfl, by decide⟩
  ·rw [if_neg hl]; exact .inr ⟨rfl, by omega, text_back hr hT (by omega)⟩
 ·rw [if_neg hr]; exact .inl ⟨1, rfl, by decide⟩
theorem tback_law [GDec] [GSpcT] [GFam] (l : List Nd) (h : FitsN l) (s : List UInt8) (hs : s.length ≤ 9223372036854775807) : PCalls Tryz.prog n_isobarlaw23_TargetBack [.lst (ndEls l), .str s] (fun r => r = .bool true) := by
 refine pcalls_of_awp hmix c_isobarlaw23_TargetBack rfl ?_
 have htk := fun s t (h : Tok.split s = .ok t) => (split_tkOk h).1
 simp [a_isobarlaw23_TargetBack]
 refine ac_same talive23_ok (by simp) ?_
 rintro r rfl
 simp
 refine ac_same (great23_ok l h) (by simp) ?_
 rintro r rfl
 cases hg : grN l with
 | true => simp
 | false =>
  have hT := tok_of h hg
  have hpl := tPrint23_ok (G := G) l hT
  have hsame := rtSame_ok (G := G) l (by have := hT.len; omega) (fun n hn => (hT.text n hn).2)
  have hcs := print_cases hT
  simp
  refine ac_same (tParse_ok s hs (htk s)) (by simp) ?_
  rintro r rfl
  cases hp : parseS nodE s with
  | error e =>
   have he := parseS_ne hp
   have he' : ¬ (e : Int) = 0 := by omega
   simp [treeAV, he, he']
   refine ac_same hpl (by simp) ?_
   rintro r rfl
   rcases hcs with ⟨e', he1, he2⟩ | ⟨hpr2, hl2, ⟨h11, hp11, _⟩ | ⟨⟨t, ht, htne⟩, hpok⟩⟩
   ·have he3 : ¬ (e' : Int) = 0 := by omega
    rw [he1]
    simp [printAV, he2, he3]
   ·rw [hpr2]
    have hq := tParse_ok (G := G) (textS l (l.length - 1)) (by omega) (htk _)
    have hsq := refSplit_ok (G := G) (textS l (l.length - 1)) (by omega)
    rw [hp11] at hq
    rw [h11] at hsq
    simp [printAV]
    refine ac_same hq (by simp) ?_
    rintro r rfl
    simp [treeAV]
    refine ac_same hsq (by simp) ?_
    rintro r rfl
    simp [splitAV]
   ·rw [hpr2]
    have hq := tParse_ok (G := G) (textS l (l.length - 1)) (by omega) (htk _)
    have hsq := refSplit_ok (G := G) (textS l (l.length - 1)) (by omega)
    rw [hpok] at hq
    rw [ht] at hsq
    have htl := tkEls_len' t
    have htz : ¬ t.length = 0 := fun e => htne (List.length_eq_zero_iff.1 e)
    have htz' : ¬ (t.length : Int) = 0 := by omega
    simp [printAV]
    refine ac_same hq (by simp) ?_
    rintro r rfl
    simp [treeAV]
    refine ac_same hsq (by simp) ?_
    rintro r rfl
    simp [splitAV, htl, htz, htz']
    refine ac_same hsame (by simp) ?_
    rintro r rfl
    simp
  | ok m =>
   obtain ⟨hrm, hTm, hsm⟩ := parsed_right hp
   simp [treeAV]
   refine ac_same (tPrint23_ok m hTm) (by simp) ?_
   rintro r rfl
   simp [printAV]
   refine ac_same (tRight23_ok m hTm) (by simp) ?_
   rintro r rfl
   rcases print_cases hTm with ⟨e, he, he0⟩ | ⟨hpr, _, hb⟩
   ·have he12 : e = 12 := by
     unfold printT at he
     rw [if_pos hrm] at he
     split at he
     ·cases he; rfl
     ·rename_i hx
      have := congrArg Prod.snd he
      simp at this
      exact absurd this.symm he0
    subst he12
    simp [hrm, he]
    refine ac_same hpl (by simp) ?_
    rintro r rfl
    rcases hcs with ⟨e', he1, he2⟩ | ⟨hpr2, hl2, ⟨h11, hp11, _⟩ | ⟨⟨t, ht, htne⟩, hpok⟩⟩
    ·have he3 : ¬ (e' : Int) = 0 := by omega
     rw [he1]
     simp [printAV, he2, he3]
    ·rw [hpr2]
     have hq := tParse_ok (G := G) (textS l (l.length - 1)) (by omega) (htk _)
     have hsq := refSplit_ok (G := G) (textS l (l.length - 1)) (by omega)
     rw [hp11] at hq
     rw [h11] at hsq
     simp [printAV]
     refine ac_same hq (by simp) ?_
     rintro r rfl
     simp [treeAV]
     refine ac_same hsq (by simp) ?_
     rintro r rfl
     simp [splitAV]
    ·rw [hpr2]
     have hq := tParse_ok (G := G) (textS l (l.length - 1)) (by omega) (htk _)
     have hsq := refSplit_ok (G := G) (textS l (l.length - 1)) (by omega)
     rw [hpok] at hq
     rw [ht] at hsq
     have htl := tkEls_len' t
     have htz : ¬ t.length = 0 := fun e => htne (List.length_eq_zero_iff.1 e)
     have htz' : ¬ (t.length : Int) = 0 := by omega
     simp [printAV]
     refine ac_same hq (by simp) ?_
     rintro r rfl
     simp [treeAV]
     refine ac_same hsq (by simp) ?_
     rintro r rfl
     simp [splitAV, htl, htz, htz']
     refine ac_same hsame (by simp) ?_
     rintro r rfl
     simp
   ·rcases hb with ⟨_, _, h256⟩ | ⟨_, hok⟩
    ·omega
    have hsamem := rtSame_ok (G := G) m (by have := hTm.len; omega) (fun n hn => (hTm.text n hn).2)
    obtain ⟨B, D, w, h0, hL, _⟩ := rightT_link hrm
    have htm := text_size hTm hL (i := m.length - 1) (by have := List.length_pos_iff.2 h0; omega)
    have hpm := tParse_ok (G := G) (textS m (m.length - 1)) (by omega) (htk _)
    rw [hok] at hpm
    simp [hrm, hpr]
    refine ac_same hpm (by simp) ?_
    rintro r rfl
    simp [treeAV]
    refine ac_same hsamem (by simp) ?_
    rintro r rfl
    simp
    refine ac_same hpl (by simp) ?_
    rintro r rfl
    rcases hcs with ⟨e', he1, he2⟩ | ⟨hpr2, hl2, ⟨h11, hp11, _⟩ | ⟨⟨t, ht, htne⟩, hpok⟩⟩
    ·have he3 : ¬ (e' : Int) = 0 := by omega
     rw [he1]
     simp [printAV, he2, he3]
    ·rw [hpr2]
     have hq := tParse_ok (G := G) (textS l (l.length - 1)) (by omega) (htk _)
     have hsq := refSplit_ok (G := G) (textS l (l.length - 1)) (by omega)
     rw [hp11] at hq
     rw [h11] at hsq
     simp [printAV]
     refine ac_same hq (by simp) ?_
     rintro r rfl
     simp [treeAV]
     refine ac_same hsq (by simp) ?_
     rintro r rfl
     simp [splitAV]
    ·rw [hpr2]
     have hq := tParse_ok (G := G) (textS l (l.length - 1)) (by omega) (htk _)
     have hsq := refSplit_ok (G := G) (textS l (l.length - 1)) (by omega)
     rw [hpok] at hq
     rw [ht] at hsq
     have htl := tkEls_len' t
     have htz : ¬ t.length = 0 := fun e => htne (List.length_eq_zero_iff.1 e)
     have htz' : ¬ (t.length : Int) = 0 := by omega
     simp [printAV]
     refine ac_same hq (by simp) ?_
     rintro r rfl
     simp [treeAV]
     refine ac_same hsq (by simp) ?_
     rintro r rfl
     simp [splitAV, htl, htz, htz']
     refine ac_same hsame (by simp) ?_
     rintro r rfl
     simp
end Go.Proofs.YtalfhchbmhoagaaGreatDoor
end
