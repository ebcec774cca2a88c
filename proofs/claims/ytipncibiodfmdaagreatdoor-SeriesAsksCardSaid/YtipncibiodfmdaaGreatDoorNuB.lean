/- Numbers: a quotient of 128 bits. -/
import Derived.Test.YtipncibiodfmdaaGreatDoorNuA
set_option linter.unusedSimpArgs false
set_option linter.unusedVariables false
set_option linter.constructorNameAsVariable false
set_option maxHeartbeats 4000000
namespace Go.Proofs.YtipncibiodfmdaaGreatDoor
open Go.Abs Go.Num
variable {G : Globs}
theorem lead_ok (y s : Nat) (hy : y < 18446744073709551616) (hs : s ≤ 63) (hb : Lib.bitLen y = 64 - s) : PCalls Tryz.prog 219 [.int .u64 y] (fun r => r = .int .i64 s) :=
  pcalls1 fun base κ Im w v hh e1 => by
    cases e1.int_inv
    refine (Tryz.bits_LeadingZeros64 y w (by omega) (by omega)).mono ?_
    rintro e w' ⟨rfl, rfl⟩
    refine ⟨_, _, rfl, rfl, Go.RowKit.Below.refl _ _, fun Im' => ?_⟩
    have e : (64 - (Lib.bitLen (y : Int).toNat : Int)) = s := by rw [Int.toNat_natCast, hb]; omega
    rw [e]
    exact .int _ _
theorem u_div (n a : Nat) (hn : n < 18446744073709551616) : IntKind.u64.wrap ((n : Int) / a) = ((n / a : Nat) : Int) := by
  have h2 : n / a ≤ n := Nat.div_le_self _ _
  have h3 : ((n / a : Nat) : Int) = (n : Int) / a := Int.natCast_ediv n a
  rw [wrap_u, ← h3]
  generalize n / a = k at *
  omega
theorem u_mod (n a : Nat) : (n : Int) % a = ((n % a : Nat) : Int) := (Int.natCast_emod n a).symm
/-- One digit: the guess, and a step. -/
theorem dg_lt {u a q r v B b Y : Nat} (hB : B = 4294967296) (ha : a < B) (hq : q ≤ B + 1) (hr : r < B) (hv : v < B) (hb : b < B) (hqa : q * a + r = u) (huM : u < 18446744073709551616) : (q : Int) * a % 18446744073709551616 = q * a ∧ (B : Int) * r % 18446744073709551616 = B * r ∧ ((B : Int) * r + v) % 18446744073709551616 = B * r + v := by
  have h1 : ((q * a : Nat) : Int) = (q : Int) * a := by push_cast; rfl
  have h2 : ((B * r : Nat) : Int) = (B : Int) * r := by push_cast; rfl
  have h3 : B * r ≤ B * (B - 1) := Nat.mul_le_mul_left B (by omega)
  subst hB
  rw [← h1, ← h2]
  omega
theorem div64_ok (hi lo y : Nat) (hhi : hi < y) (hyM : y < 18446744073709551616) (hlo : lo < 18446744073709551616) :
    PCalls Tryz.prog n_math_bits_Div64 [.int .u64 hi, .int .u64 lo, .int .u64 y] (fun r => r = .tup [.int .u64 (((hi * 18446744073709551616 + lo) / y : Nat) : Int), .int .u64 (((hi * 18446744073709551616 + lo) % y : Nat) : Int)]) := by
  obtain ⟨Q, hQ⟩ : ∃ Q, Q = (hi * 18446744073709551616 + lo) / y := ⟨_, rfl⟩
  obtain ⟨R, hR⟩ : ∃ R, R = (hi * 18446744073709551616 + lo) % y := ⟨_, rfl⟩
  rw [← hQ, ← hR]
  refine pcalls_of_awp hmix c_math_bits_Div64 rfl ?_
  have hy0 : ¬ (y : Int) = 0 := by omega
  have hy0n : ¬ y = 0 := by omega
  have hyh : ¬ (y : Int) ≤ hi := by omega
  have hyh2 : ¬ y ≤ hi := by omega
  by_cases h0 : hi = 0
  · subst h0
    have e1 : IntKind.u64.wrap ((lo : Int) / y) = Q := by rw [u_div lo y hlo, hQ, Nat.zero_mul, Nat.zero_add]
    have e2 : (lo : Int).tmod y = R := by rw [Int.tmod_eq_emod_of_nonneg (by omega), u_mod, hR, Nat.zero_mul, Nat.zero_add]
    simp [a_math_bits_Div64, hy0, hy0n, hyh, hyh2, e1, e2]
  have h0' : ¬ (hi : Int) = 0 := by omega
  obtain ⟨s, hs, hbl, hY1, hY2⟩ := bitLen_norm (y := y) (by omega) hyM
  obtain ⟨Y, hYd⟩ : ∃ Y, Y = y * 2 ^ s := ⟨_, rfl⟩
  obtain ⟨B, hB⟩ : ∃ B : Nat, B = 4294967296 := ⟨_, rfl⟩
  rw [← hYd] at hY1 hY2
  have hsw : IntKind.u64.wrap (s : Int) = s := by rw [wrap_u]; omega
  have s2 : shiftOp .shl .u64 (y : Int) s = some (Y : Int) := by rw [shl_nat y s (by omega), hYd, Nat.mod_eq_of_lt (by rw [← hYd]; exact hY2)]
  obtain ⟨a, ha⟩ : ∃ a, a = Y / 4294967296 := ⟨_, rfl⟩
  obtain ⟨b, hb⟩ : ∃ b, b = Y % 4294967296 := ⟨_, rfl⟩
  have s9 : shiftOp .shr .u64 (Y : Int) 32 = some (a : Int) := by rw [shr_nat Y 32 hY2 (by decide), ha]
  have s10 : bitOp .and .u64 (Y : Int) 4294967295 = some (b : Int) := by rw [and_mask Y hY2, hb]
  obtain ⟨uh, huh⟩ : ∃ uh, uh = hi * 2 ^ s % 18446744073709551616 := ⟨_, rfl⟩
  obtain ⟨ul, hul⟩ : ∃ ul, ul = lo / 2 ^ (64 - s) := ⟨_, rfl⟩
  obtain ⟨u, hu⟩ : ∃ u, u = hi * 2 ^ s + lo / 2 ^ (64 - s) := ⟨_, rfl⟩
  have hor := norm_or (lo := lo) hhi (by rw [← hYd]; exact hY2) hs hlo
  rw [← huh, ← hul] at hor
  have huY : u < Y := by
    rw [hu, hYd]
    have h1 : lo / 2 ^ (64 - s) < 2 ^ s := by
      rw [Nat.div_lt_iff_lt_mul (Nat.two_pow_pos _), ← Nat.pow_add, show s + (64 - s) = 64 by omega]; exact hlo
    have h2 : (hi + 1) * 2 ^ s ≤ y * 2 ^ s := Nat.mul_le_mul_right _ hhi
    rw [Nat.add_mul] at h2; omega
  have hulM : ul < 18446744073709551616 := by rw [hul]; exact Nat.lt_of_le_of_lt (Nat.div_le_self _ _) hlo
  have huhM : uh < 18446744073709551616 := by rw [huh]; exact Nat.mod_lt _ (by decide)
  have s46 : shiftOp .shl .u64 (hi : Int) s = some (uh : Int) := by rw [shl_nat hi s (by omega), huh]
  have s49 : IntKind.u64.wrap (64 - (s : Int)) = ((64 - s : Nat) : Int) := by rw [wrap_u]; omega
  have s50 : shiftOp .shr .u64 (lo : Int) (64 - s) = some (ul : Int) := by rw [shr_nat lo (64 - s) hlo (by omega), hul]
  have s51 : bitOp .or .u64 (uh : Int) (ul : Int) = some (u : Int) := by rw [or_nat uh ul huhM hulM, hor, hul, hu]
  obtain ⟨u10, hu10⟩ : ∃ u10, u10 = lo * 2 ^ s % 18446744073709551616 := ⟨_, rfl⟩
  have hu10M : u10 < 18446744073709551616 := by rw [hu10]; exact Nat.mod_lt _ (by decide)
  have s54 : shiftOp .shl .u64 (lo : Int) s = some (u10 : Int) := by rw [shl_nat lo s (by omega), hu10]
  obtain ⟨u1, hu1⟩ : ∃ u1, u1 = u10 / 4294967296 := ⟨_, rfl⟩
  obtain ⟨u0, hu0⟩ : ∃ u0, u0 = u10 % 4294967296 := ⟨_, rfl⟩
  have s56 : shiftOp .shr .u64 (u10 : Int) 32 = some (u1 : Int) := by rw [shr_nat u10 32 hu10M (by decide), hu1]
  have s58 : bitOp .and .u64 (u10 : Int) 4294967295 = some (u0 : Int) := by rw [and_mask u10 hu10M, hu0]
  have haB : a < B := by omega
  have hbB : b < B := by omega
  have hu1B : u1 < B := by omega
  have hu0B : u0 < B := by omega
  have ha2 : B ≤ 2 * a := by omega
  have hYab : a * B + b = Y := by rw [ha, hb, hB]; omega
  have ha0 : 0 < a := by omega
  have ha0' : ¬ (a : Int) = 0 := by omega
  have ha0n : ¬ a = 0 := by omega
  have hY0 : 0 < a * B + b := by omega
  -- a digit's first guess
  have guess : ∀ n : Nat, n < Y → ∃ q r : Nat, IntKind.u64.wrap ((n : Int) / a) = q ∧ IntKind.u64.wrap ((n : Int) - IntKind.u64.wrap ((q : Int) * a)) = r ∧ q * a + r = n ∧ r < B ∧ q ≤ B + 1 ∧ n / a ≤ q := by
    intro n hn
    refine ⟨n / a, n % a, ?_, ?_, ?_, ?_, ?_, Nat.le_refl _⟩
    · exact u_div n a (by omega)
    · have e : ((n / a * a : Nat) : Int) = ((n / a : Nat) : Int) * a := by push_cast; rfl
      rw [wrap_u, wrap_u, ← e]
      have := Nat.div_add_mod n a
      rw [Nat.mul_comm] at this
      omega
    · rw [Nat.mul_comm]; exact Nat.div_add_mod n a
    · have := Nat.mod_lt n ha0; omega
    · exact kn_first (b := b) ha2 hbB (by rw [hYab]; exact hn)
  simp [a_math_bits_Div64, hy0, hy0n, hyh, hyh2, h0, h0']
  refine ac_same (lead_ok y s hyM hs hbl) (by simp) ?_
  rintro r rfl
  obtain ⟨q0, r0, g1, g2, g3, g4, g5, g6⟩ := guess u huY
  have hg0 := Nat.le_trans (kn_guess (b := b) (u := u) (v := u1) ha0 hu1B) g6
  simp [-shiftOp, -bitOp, hsw, s2, s9, s10, s46, s49, s50, s51, s54, s56, s58, ha0, ha0', ha0n, g1, g2, Int.toNat_natCast]
  -- the first digit
  refine lp_join 0 (fun f σ => ∃ q : Nat, f 15 = .int .u64 q ∧ q = (u * B + u1) / Y ∧ f 2 = .int .u64 Y ∧ f 8 = .int .u64 s ∧ f 9 = .int .u64 a ∧ f 10 = .int .u64 b ∧ f 11 = .int .u64 u ∧ f 13 = .int .u64 u1 ∧ f 14 = .int .u64 u0 ∧ σ = []) ?_ ?_
  · rintro f σ ⟨q1, f15, hq1, f2, f8, f9, f10, f11, f13, f14, rfl⟩
    obtain ⟨u21, hu21d⟩ : ∃ u21, u21 = (u * B + u1) % Y := ⟨_, rfl⟩
    have hYpos : 0 < Y := by omega
    have hu21 : u21 < Y := by rw [hu21d]; exact Nat.mod_lt _ hYpos
    have hdm := Nat.div_add_mod (u * B + u1) Y
    rw [← hq1, ← hu21d] at hdm
    obtain ⟨p1, hp1⟩ : ∃ p1, p1 = Y * q1 := ⟨_, rfl⟩
    have hp1i : (q1 : Int) * Y = p1 := by rw [hp1, Nat.mul_comm]; push_cast; rfl
    have e17 : IntKind.u64.wrap (IntKind.u64.wrap (IntKind.u64.wrap ((u : Int) * 4294967296) + u1) - IntKind.u64.wrap ((q1 : Int) * Y)) = u21 := by
      rw [hp1i]
      simp only [wrap_u]
      rw [← hp1] at hdm
      subst hB
      omega
    obtain ⟨q2, r2, e1, e2, e3, e4, e5, e6⟩ := guess u21 hu21
    have hg2 := Nat.le_trans (kn_guess (b := b) (u := u21) (v := u0) ha0 hu0B) e6
    simp [-shiftOp, -bitOp, f2, f8, f9, f10, f11, f13, f14, f15, e17, ha0', ha0n, e1, e2]
    refine lp_join 2 (fun f σ => ∃ q : Nat, f 18 = .int .u64 q ∧ q = (u21 * B + u0) / Y ∧ f 2 = .int .u64 Y ∧ f 8 = .int .u64 s ∧ f 10 = .int .u64 b ∧ f 14 = .int .u64 u0 ∧ f 9 = .int .u64 a ∧ f 15 = .int .u64 q1 ∧ f 17 = .int .u64 u21 ∧ σ = []) ?_ ?_
    · clear f2 f8 f9 f10 f11 f13 f14 f15
      rintro f σ ⟨q3, f18, hq3, f2, f8, f10, f14, f9, f15, f17, rfl⟩
      obtain ⟨j1, j2⟩ := div64_join (hi := hi) (lo := lo) (y := y) (M := 18446744073709551616) (B := B) (P := 2 ^ s) (R := 2 ^ (64 - s)) (by rw [← Nat.pow_add, show 64 - s + s = 64 by omega]) (by rw [hB]) (Nat.two_pow_pos _) (by omega) (u32 := u) (u10 := u10) (h := u * B + u1) (q1 := q1) (u21 := u21) (g := u21 * B + u0) hu hu10 (by rw [hu1, hB]) (by rw [hq1, hYd]) (by rw [hu21d, hYd]) (by rw [hu0, hB])
      rw [← hYd, ← hq3, ← hQ] at j1
      obtain ⟨gm, hgm⟩ : ∃ gm, gm = (u21 * B + u0) % Y := ⟨_, rfl⟩
      rw [← hYd, ← hgm, ← hR] at j2
      have hQM : Q < 18446744073709551616 := by
        rw [hQ, Nat.div_lt_iff_lt_mul (by omega)]
        have : (hi + 1) * 18446744073709551616 ≤ y * 18446744073709551616 := Nat.mul_le_mul_right _ hhi
        rw [Nat.mul_comm 18446744073709551616 y]; omega
      have k6 : IntKind.u64.wrap (IntKind.u64.wrap ((q1 : Int) * 4294967296) + q3) = Q := by
        simp only [wrap_u]
        subst hB
        omega
      have hgmY : gm < Y := by rw [hgm]; exact Nat.mod_lt _ hYpos
      have hdm2 := Nat.div_add_mod (u21 * B + u0) Y
      rw [← hq3, ← hgm] at hdm2
      obtain ⟨p3, hp3⟩ : ∃ p3, p3 = Y * q3 := ⟨_, rfl⟩
      have hp3i : (q3 : Int) * Y = p3 := by rw [hp3, Nat.mul_comm]; push_cast; rfl
      have k132 : IntKind.u64.wrap (IntKind.u64.wrap (IntKind.u64.wrap ((u21 : Int) * 4294967296) + u0) - IntKind.u64.wrap ((q3 : Int) * Y)) = gm := by
        rw [hp3i]
        simp only [wrap_u]
        rw [← hp3] at hdm2
        subst hB
        omega
      have k134 : shiftOp .shr .u64 (gm : Int) s = some (R : Int) := by rw [shr_nat gm s (by omega) (by omega), j2]
      simp [-shiftOp, -bitOp, f2, f8, f9, f10, f14, f15, f17, f18, k6, k132, k134]
    · -- its loop
      refine lp_startx (fun x f σ => ∃ q r : Nat, x = q ∧ f 18 = .int .u64 q ∧ f 16 = .int .u64 r ∧ (u21 * B + u0) / Y ≤ q ∧ q * a + r = u21 ∧ r < B ∧ q ≤ B + 1 ∧ f 2 = .int .u64 Y ∧ f 8 = .int .u64 s ∧ f 10 = .int .u64 b ∧ f 14 = .int .u64 u0 ∧ f 9 = .int .u64 a ∧ f 15 = .int .u64 q1 ∧ f 17 = .int .u64 u21 ∧ σ = []) q2 ?_ ?_
      · exact ⟨q2, r2, rfl, by simp, by simp, by rw [← hYab]; exact hg2, e3, e4, e5, by simp [f2], by simp [f8], by simp [f10], by simp [f14], by simp [f9], by simp [f15], by simp, rfl⟩
      rintro x f σ ⟨q, r, hxq, fq, fr, hle, hqr, hr, hqB, f2, f8, f10, f14, f9, f15, f17, rfl⟩
      obtain ⟨m1, m2, m3⟩ := dg_lt (Y := Y) hB haB hqB hr hu0B hbB hqr (by omega)
      rw [← hYab] at hle
      obtain ⟨r', hr'⟩ : ∃ r', r' = r + a := ⟨_, rfl⟩
      have hra : IntKind.u64.wrap ((r : Int) + a) = (r' : Int) := by rw [wrap_u]; omega
      have hmB : IntKind.u64.wrap (4294967296 * (r : Int)) = 4294967296 * r := by rw [wrap_u]; omega
      have hmBv : IntKind.u64.wrap (4294967296 * (r : Int) + u0) = 4294967296 * r + u0 := by rw [wrap_u]; omega
      have body : B ≤ q ∨ B * r + u0 < q * b → 1 ≤ q ∧ (u21 * B + u0) / (a * B + b) ≤ q - 1 ∧ (q - 1) * a + r' = u21 ∧ IntKind.u64.wrap ((q : Int) - 1) = ((q - 1 : Nat) : Int) := by
        intro h
        have hn := kn_next (v := u0) hY0 (by rw [hYab]; exact hu21) hu0B hqr h
        have h1q : 1 ≤ q := Nat.lt_of_le_of_lt (Nat.zero_le _) hn
        refine ⟨h1q, Nat.le_sub_one_of_lt hn, ?_, by rw [wrap_u]; omega⟩
        obtain ⟨k, rfl⟩ : ∃ k, q = k + 1 := ⟨q - 1, by omega⟩
        rw [Nat.add_mul] at hqr
        simp only [Nat.add_sub_cancel]; omega
      by_cases hqb : B ≤ q
      · obtain ⟨b1, b2, b3, b4⟩ := body (.inl hqb)
        have hqb' : (4294967296 : Int) ≤ q := by omega
        have hqb'' : 4294967296 ≤ q := by omega
        simp [fq, fr, f2, f8, f10, f14, f9, f15, f17, hqb', hqb'', b4, hra]
        refine cb_dec (fun h => ?_) (fun h => ?_)
        · simp
          refine jn_intro ⟨q - 1, by simp, ?_, by simp [f2], by simp [f8], by simp [f10], by simp [f14], by simp [f9], by simp [f15], by simp [f17], rfl⟩
          rw [← hYab]
          exact kn_break hY0 b2 b3 (by omega) (by omega) hbB
        · simp
          refine nx_intro (q - 1) (by omega) ⟨q - 1, r', rfl, by simp, by simp, by rw [← hYab]; exact b2, b3, by omega, by omega, by simp [f2], by simp [f8], by simp [f10], by simp [f14], by simp [f9], by simp [f15], by simp [f17], rfl⟩
      · have hqb' : ¬ (4294967296 : Int) ≤ q := by omega
        have hqb'' : ¬ 4294967296 ≤ q := by omega
        have hqbM : q * b < 18446744073709551616 := by
          have h1 : q * b ≤ (B - 1) * (B - 1) := Nat.mul_le_mul (by omega) (by omega)
          subst hB; omega
        obtain ⟨p, hp⟩ : ∃ p, p = q * b := ⟨_, rfl⟩
        have hpi : (q : Int) * b = p := by rw [hp]; push_cast; rfl
        have hwp : IntKind.u64.wrap ((q : Int) * b) = p := by rw [hpi, wrap_u]; omega
        simp [fq, fr, f2, f8, f10, f14, f9, f15, f17, hqb', hqb'', hwp, hmB, hmBv]
        refine cb_dec (fun h => ?_) (fun h => ?_)
        · have h' : B * r + u0 < q * b := by rw [← hp, hB]; omega
          obtain ⟨b1, b2, b3, b4⟩ := body (.inr h')
          simp [fq, fr, f2, f8, f10, f14, f9, f15, f17, b4, hra]
          refine cb_dec (fun h => ?_) (fun h => ?_)
          · simp
            refine jn_intro ⟨q - 1, by simp, ?_, by simp [f2], by simp [f8], by simp [f10], by simp [f14], by simp [f9], by simp [f15], by simp [f17], rfl⟩
            rw [← hYab]
            exact kn_break hY0 b2 b3 (by omega) (by omega) hbB
          · simp
            refine nx_intro (q - 1) (by omega) ⟨q - 1, r', rfl, by simp, by simp, by rw [← hYab]; exact b2, b3, by omega, by omega, by simp [f2], by simp [f8], by simp [f10], by simp [f14], by simp [f9], by simp [f15], by simp [f17], rfl⟩
        · simp
          refine jn_intro ⟨q, by simp [fq], ?_, by simp [f2], by simp [f8], by simp [f10], by simp [f14], by simp [f9], by simp [f15], by simp [f17], rfl⟩
          rw [← hYab]
          exact kn_exit hY0 hle hqr (by rw [← hp, hB]; omega)
  · -- its loop
    refine lp_startx (fun x f σ => ∃ q r : Nat, x = q ∧ f 15 = .int .u64 q ∧ f 16 = .int .u64 r ∧ (u * B + u1) / Y ≤ q ∧ q * a + r = u ∧ r < B ∧ q ≤ B + 1 ∧ f 2 = .int .u64 Y ∧ f 8 = .int .u64 s ∧ f 9 = .int .u64 a ∧ f 10 = .int .u64 b ∧ f 11 = .int .u64 u ∧ f 13 = .int .u64 u1 ∧ f 14 = .int .u64 u0 ∧ σ = []) q0 ?_ ?_
    · exact ⟨q0, r0, rfl, by simp, by simp, by rw [← hYab]; exact hg0, g3, g4, g5, by simp [hsw], by simp [hsw], by simp [hsw], by simp [hsw], by simp [hsw], by simp [hsw], by simp [hsw], rfl⟩
    rintro x f σ ⟨q, r, hxq, fq, fr, hle, hqr, hr, hqB, f2, f8, f9, f10, f11, f13, f14, rfl⟩
    obtain ⟨m1, m2, m3⟩ := dg_lt (Y := Y) hB haB hqB hr hu1B hbB hqr (by omega)
    rw [← hYab] at hle
    obtain ⟨r', hr'⟩ : ∃ r', r' = r + a := ⟨_, rfl⟩
    have hra : IntKind.u64.wrap ((r : Int) + a) = (r' : Int) := by rw [wrap_u]; omega
    have hmB : IntKind.u64.wrap (4294967296 * (r : Int)) = 4294967296 * r := by rw [wrap_u]; omega
    have hmBv : IntKind.u64.wrap (4294967296 * (r : Int) + u1) = 4294967296 * r + u1 := by rw [wrap_u]; omega
    have body : B ≤ q ∨ B * r + u1 < q * b → 1 ≤ q ∧ (u * B + u1) / (a * B + b) ≤ q - 1 ∧ (q - 1) * a + r' = u ∧ IntKind.u64.wrap ((q : Int) - 1) = ((q - 1 : Nat) : Int) := by
      intro h
      have hn := kn_next (v := u1) hY0 (by rw [hYab]; exact huY) hu1B hqr h
      have h1q : 1 ≤ q := Nat.lt_of_le_of_lt (Nat.zero_le _) hn
      refine ⟨h1q, Nat.le_sub_one_of_lt hn, ?_, by rw [wrap_u]; omega⟩
      obtain ⟨k, rfl⟩ : ∃ k, q = k + 1 := ⟨q - 1, by omega⟩
      rw [Nat.add_mul] at hqr
      simp only [Nat.add_sub_cancel]; omega
    by_cases hqb : B ≤ q
    · obtain ⟨b1, b2, b3, b4⟩ := body (.inl hqb)
      have hqb' : (4294967296 : Int) ≤ q := by omega
      have hqb'' : 4294967296 ≤ q := by omega
      simp [fq, fr, f2, f8, f9, f10, f11, f13, f14, hqb', hqb'', b4, hra]
      refine cb_dec (fun h => ?_) (fun h => ?_)
      · simp
        refine jn_intro ⟨q - 1, by simp, ?_, by simp [f2], by simp [f8], by simp [f9], by simp [f10], by simp [f11], by simp [f13], by simp [f14], rfl⟩
        rw [← hYab]
        exact kn_break hY0 b2 b3 (by omega) (by omega) hbB
      · simp
        refine nx_intro (q - 1) (by omega) ⟨q - 1, r', rfl, by simp, by simp, by rw [← hYab]; exact b2, b3, by omega, by omega, by simp [f2], by simp [f8], by simp [f9], by simp [f10], by simp [f11], by simp [f13], by simp [f14], rfl⟩
    · have hqb' : ¬ (4294967296 : Int) ≤ q := by omega
      have hqb'' : ¬ 4294967296 ≤ q := by omega
      have hqbM : q * b < 18446744073709551616 := by
        have h1 : q * b ≤ (B - 1) * (B - 1) := Nat.mul_le_mul (by omega) (by omega)
        subst hB; omega
      obtain ⟨p, hp⟩ : ∃ p, p = q * b := ⟨_, rfl⟩
      have hpi : (q : Int) * b = p := by rw [hp]; push_cast; rfl
      have hwp : IntKind.u64.wrap ((q : Int) * b) = p := by rw [hpi, wrap_u]; omega
      simp [fq, fr, f2, f8, f9, f10, f11, f13, f14, hqb', hqb'', hwp, hmB, hmBv]
      refine cb_dec (fun h => ?_) (fun h => ?_)
      · have h' : B * r + u1 < q * b := by rw [← hp, hB]; omega
        obtain ⟨b1, b2, b3, b4⟩ := body (.inr h')
        simp [fq, fr, f2, f8, f9, f10, f11, f13, f14, b4, hra]
        refine cb_dec (fun h => ?_) (fun h => ?_)
        · simp
          refine jn_intro ⟨q - 1, by simp, ?_, by simp [f2], by simp [f8], by simp [f9], by simp [f10], by simp [f11], by simp [f13], by simp [f14], rfl⟩
          rw [← hYab]
          exact kn_break hY0 b2 b3 (by omega) (by omega) hbB
        · simp
          refine nx_intro (q - 1) (by omega) ⟨q - 1, r', rfl, by simp, by simp, by rw [← hYab]; exact b2, b3, by omega, by omega, by simp [f2], by simp [f8], by simp [f9], by simp [f10], by simp [f11], by simp [f13], by simp [f14], rfl⟩
      · simp
        refine jn_intro ⟨q, by simp [fq], ?_, by simp [f2], by simp [f8], by simp [f9], by simp [f10], by simp [f11], by simp [f13], by simp [f14], rfl⟩
        rw [← hYab]
        exact kn_exit hY0 hle hqr (by rw [← hp, hB]; omega)
end Go.Proofs.YtipncibiodfmdaaGreatDoor
