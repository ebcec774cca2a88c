/- A target's tokens: Split. -/
import Derived.Test.YtkclehdmdnfikaaDoorTkC
set_option linter.unusedSimpArgs false
set_option linter.unusedVariables false
set_option linter.constructorNameAsVariable false
set_option maxHeartbeats 4000000
namespace Go.Tok
theorem nextT_le {s : List UInt8} {x : Int × List UInt8 × Nat} (h : nextT s = some x) : 1 ≤ x.2.2 ∧ x.2.2 ≤ s.length := by
  cases s with
  | nil => simp [nextT] at h
  | cons c r =>
    rw [nextT] at h
    by_cases h1 : c = 40
    · rw [if_pos h1] at h; cases h; simp
    rw [if_neg h1] at h
    by_cases h2 : c = 41
    · rw [if_pos h2] at h; cases h; simp
    rw [if_neg h2] at h
    by_cases h3 : c = 44
    · rw [if_pos h3] at h; cases h; simp
    rw [if_neg h3] at h
    by_cases h4 : c = 39 ∨ c = 34
    · rw [if_pos h4] at h
      by_cases hneg : Lib.indexByte r c < 0
      · rw [if_pos hneg] at h; cases h
      · rw [if_neg hneg] at h
        cases h
        have hi : Lib.indexByte r c = ((Lib.indexByte r c).toNat : Int) := by omega
        have := (List.getElem?_eq_some_iff.1 (Lib.indexByte_some hi).1).1
        simp
        omega
    · rw [if_neg h4] at h
      cases hr : rowF (r.length + 1) (c :: r) with
      | none => rw [hr] at h; cases h
      | some m =>
        rw [hr] at h
        have hm := rowF_le _ _ _ hr
        cases m with
        | zero => cases h
        | succ j => cases h; exact ⟨by simp, hm⟩
end Go.Tok
namespace Go.Proofs.YtkclehdmdnfikaaDoor
open Go.Abs Go.Glob Go.Tok
variable {G : Globs}

def tkEls (l : List Tk) : List (List AV) := l.map fun x => [.int .i64 x.kind, .str x.text, .int .i64 x.place]
def splitAV : Except Nat (List Tk) → AV
  | .ok l => .tup [.lst (tkEls l), .int .i64 0]
  | .error e => .tup [.lst [], .int .i64 e]
/-- A slice that grows somewhere behind the first entry. -/
def AccR (e size : Nat) (σ : Store) (v : AV) (l : List (List AV)) : Prop := (l = [] ∧ v = .nils) ∨ (l ≠ [] ∧ ∃ rid, 0 < rid ∧ v = .row rid l.length ∧ σ[rid]? = some (.row e size l true))
theorem AccR.more {e size : Nat} {σ : Store} {v : AV} {l : List (List AV)} (h : AccR e size σ v l) (x : Store) : AccR e size (σ ++ x) v l := by
  rcases h with h | ⟨h1, rid, h2, h3, h4⟩
  · exact .inl h
  · refine .inr ⟨h1, rid, h2, h3, ?_⟩
    rw [List.getElem?_append_left (List.getElem?_eq_some_iff.1 h4).1]; exact h4
theorem ap_accR {K : AV → Store → Prop} {t : Tg K} {e size bytes : Nat} {σ : Store} {v : AV} {l : List (List AV)} {e0 : Entry} (h : AccR e size σ v l) (x : List AV) (hs : 0 < size) (hx : x.length = size) (h0 : 0 < σ.length) (hb : (l.length + 1) * bytes ≤ 140737488355328) (h63 : l.length + 1 ≤ 9223372036854775807)
    (hK : ∀ v' σ', AccR e size σ' v' (l ++ [x]) → 0 < σ'.length → K v' (σ'.set 0 e0)) : ap K t (σ.set 0 e0) e size bytes v (.lst [x]) := by
  rcases h with ⟨rfl, rfl⟩ | ⟨h1, rid, h2, rfl, h4⟩
  · refine ap_new true [x] rfl hs (by simp [hx]) (fun _ => .inl rfl) (by simpa using hb) (by simp) ?_
    have := hK (.row σ.length 1) (σ ++ [.row e size [x] true]) (.inr ⟨by simp, σ.length, h0, by simp, by simp⟩) (by simp)
    rw [List.set_append_left _ _ h0] at this
    simpa using this
  · have hlt := (List.getElem?_eq_some_iff.1 h4).1
    have hne : 0 ≠ rid := by omega
    refine ap_row l [x] true (by rw [List.getElem?_set_ne hne]; exact h4) rfl hs (by simp [hx]) (fun _ => .inl rfl) rfl (by simpa using hb) (by simpa using h63) ?_
    have := hK (.row rid (l.length + 1)) (σ.set rid (.row e size (l ++ [x]) true)) (.inr ⟨by simp, rid, h2, by simp, by simp [hlt]⟩) (by simpa using h0)
    rw [List.set_comm _ _ hne.symm] at this
    simpa using this

theorem ap_accR' {K : AV → Store → Prop} {t : Tg K} {e size bytes : Nat} {σ : Store} {v : AV} {l : List (List AV)} {e0 : Entry} (ex : Store) (h : AccR e size σ v l) (x : List AV) (hs : 0 < size) (hx : x.length = size) (h0 : 0 < σ.length) (hb : (l.length + 1) * bytes ≤ 140737488355328) (h63 : l.length + 1 ≤ 9223372036854775807)
    (hK : ∀ v' σ', AccR e size σ' v' (l ++ [x]) → 0 < σ'.length → K v' (σ'.set 0 e0)) : ap K t (σ.set 0 e0 ++ ex) e size bytes v (.lst [x]) := by
  rw [set_app e0 h0]
  exact ap_accR (h.more ex) x hs hx (by simp; omega) hb h63 hK

theorem tsplit_ok [GDec] (s : List UInt8) (hs : s.length ≤ 9223372036854775807) : PCalls Tryd.prog n_tokens_Split [.str s] (fun r => r = splitAV (Tok.split s)) := by
  refine pcalls_of_awp hmix c_tokens_Split rfl ?_
  simp [a_tokens_Split]
  by_cases h1k : 1024 < s.length
  · have h1k' : (1024 : Int) < (s.length : Int) := by omega
    simp [h1k, h1k', Tok.split, splitAV]
  have h1k' : ¬ (1024 : Int) < (s.length : Int) := by omega
  simp [h1k, h1k']
  have h3 : s.length ≤ 1000000 := by omega
  refine lp_startx (fun x f σ => ∃ (k n : Nat) (l : List Tk) (σ0 : Store), x = s.length - k ∧ k ≤ s.length ∧ s.length - k ≤ n ∧ l.length ≤ k ∧ splitF s.length 0 s = (splitF n k (s.drop k)).map (l ++ ·) ∧ f 5 = .ptr 0 0 ∧ AccR 39 3 σ0 (f 4) (tkEls l) ∧ 0 < σ0.length ∧ σ = σ0.set 0 (SV s k)) s.length ?_ ?_
  · exact ⟨0, s.length, [], [SV s 0], by simp, by simp, by simp, by simp, by simp, by simp, .inl ⟨rfl, by simp⟩, by simp, by simp [SV]⟩
  rintro x f σ ⟨k, n, l, σ0, hx, hk2, hn, hlk, hspl, h5, hacc, hid, rfl⟩
  have g0 := @set_get σ0 0 hid
  have g00 := @set_get' σ0 0 hid
  have q0 := @set_set σ0 0 hid
  simp [h5]
  refine ac_lent (more_ok s k) (.cons (coe_ptr (g00 _) (by simp) rfl) .nil) ?_
  rintro r rfl
  refine ⟨by simp, ?_⟩
  by_cases hk : k < s.length
  · obtain ⟨c, hc⟩ : ∃ c, s[k]? = some c := ⟨_, List.getElem?_eq_getElem hk⟩
    have hd := drop_cons hc
    obtain ⟨_, hc2⟩ := List.getElem?_eq_some_iff.1 hc
    obtain ⟨n, rfl⟩ : ∃ j, n = j + 1 := ⟨n - 1, by omega⟩
    have hwk : IntKind.i64.wrap ((k : Int) + 1) = (k : Int) + 1 := wrap_i64 (by omega) (by omega)
    by_cases h32 : c = 32
    · subst h32
      simp [hk, h5, g00, SV, hc, hc2, hwk]
      refine nx_intro (s.length - (k + 1)) (by omega) ⟨k + 1, n, l, σ0, rfl, by omega, by omega, by omega, ?_, by simp [h5], by simpa using hacc, hid, by simp [SV]⟩
      rw [hspl, hd, splitF, if_pos rfl]
    · have h32' := ne_nat (z := 32) rfl h32
      simp [hk, h5, g00, SV, hc, hc2, hwk, h32']
      refine ac_eff (tnext_ok hid s k hk h3) ?_
      intro r σ1 hr
      cases hnx : nextT (s.drop k) with
      | none =>
        rw [hnx] at hr
        obtain ⟨kd, tx, k', hk', rfl, rfl⟩ := hr
        have hnone : Tok.split s = .error 16 := by
          have : splitF s.length 0 s = none := by rw [hspl, hd, splitF, if_neg h32, ← hd, hnx]; rfl
          simp [Tok.split, h1k, this]
        simp [tokA, hnone, splitAV]
      | some y =>
        rw [hnx] at hr
        obtain ⟨rfl, rfl⟩ := hr
        have hyl := nextT_le hnx
        rw [List.length_drop] at hyl
        simp [tokA]
        have htl : (tkEls l).length = l.length := by simp [tkEls]
        refine ap_accR' _ hacc _ (by omega) rfl hid (by omega) (by omega) ?_
        intro v' σ' hacc' hid'
        simp
        refine nx_intro (s.length - (k + y.2.2)) (by omega) ⟨k + y.2.2, n, l ++ [⟨y.1, y.2.1, k⟩], σ', rfl, by omega, by omega, by simp; omega, ?_, by simp [h5], by simpa [tkEls] using hacc', hid', by simp [SV]⟩
        rw [hspl, hd, splitF, if_neg h32, ← hd, hnx]
        simp only [Option.bind_some, List.drop_drop]
        cases splitF n (k + y.2.2) (List.drop (k + y.2.2) s) with
        | none => simp
        | some z => simp
  · have htl : (tkEls l).length = l.length := by simp [tkEls]
    have hsp : Tok.split s = if 256 < l.length then .error 11 else .ok l := by
      have h0 : splitF s.length 0 s = some l := by
        rw [hspl, List.drop_of_length_le (by omega)]
        cases n <;> simp [splitF]
      simp [Tok.split, h1k, h0]
    rw [hsp]
    rcases hacc with ⟨h1, h4⟩ | ⟨h1, rid, h2, h4, he⟩
    · have hl0 : l = [] := by simpa [tkEls] using h1
      subst hl0
      simp [hk, h4, splitAV, view, tkEls]
    · have he' : (σ0.set 0 (SV s k))[rid]? = some (.row 39 3 (tkEls l) true) := by rw [List.getElem?_set_ne (by omega)]; exact he
      by_cases h256 : 256 < l.length
      · have h256' : (256 : Int) < (l.length : Int) := by omega
        simp [hk, h4, view, he', htl, h256, h256', splitAV]
      · have h256' : ¬ (256 : Int) < (l.length : Int) := by omega
        simp [hk, h4, view, he', htl, h256, h256', splitAV]
end Go.Proofs.YtkclehdmdnfikaaDoor
