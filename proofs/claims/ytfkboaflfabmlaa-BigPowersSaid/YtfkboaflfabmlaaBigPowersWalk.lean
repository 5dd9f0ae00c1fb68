/-
  The walk of typecasekeep.BigPowers. No conditions.
-/
import Derived.Test.YtfkboaflfabmlaaBigLawsWalk
import Derived.Test.YtfkboaflfabmlaaBigShift
import Derived.Test.YtfkboaflfabmlaaBigLen
import Derived.Test.YtfkboaflfabmlaaBigPow
namespace Go.Proofs.Ytfkboaflfabmlaa
open Go.RowKit Gx

theorem pow_sum (b M N : Nat) (w : World) (hb : b < 4294967296) (hN : M + N ≤ 1000) :
    Calls Try.prog 16 #[.int .u32 b, .int .i64 ((M : Int) + N)] w (SubPost (b ^ (M + N)) w) := by
  have h := bigPow_any b (M + N) w hb hN
  rwa [Int.natCast_add] at h
theorem pow_of_two (N : Nat) (w : World) (hN : N ≤ 1000) :
    Calls Try.prog 16 #[.int .u32 2, .int .i64 N] w (SubPost (2 ^ N) w) := bigPow_any 2 N w (by decide) hN
theorem shift_up (ad : Option Addr) (ca : Nat) (xs : List Int) (w : World) (v n : Nat) (h : Rd .u32 w ad ca xs) (hv : bval xs = v) (hl : xs.length ≤ 262144) (hn : n ≤ 4000) :
    Calls Try.prog 17 #[.slice ad xs.length ca, .int .i64 n] w (SubPost (v * 2 ^ n) w) := by
  subst hv; exact bigShift_left ad ca xs n w h hl hn
theorem shift_back (ad : Option Addr) (ca : Nat) (xs : List Int) (w : World) (v n : Nat) (h : Rd .u32 w ad ca xs) (hv : bval xs = v * 2 ^ n) (hl : xs.length ≤ 262144) (hn : n ≤ 4000) :
    Calls Try.prog 17 #[.slice ad xs.length ca, .int .i64 (-(n : Int))] w (SubPost v w) := by
  by_cases h0 : n = 0
  · subst h0
    have h2 := bigShift_left ad ca xs 0 w h hl hn
    rw [hv, Nat.pow_zero, Nat.mul_one, Nat.mul_one] at h2
    exact h2
  · have h2 := bigShift_right ad ca xs n w h hl (by omega) hn
    rwa [hv, Nat.mul_div_cancel _ (Nat.two_pow_pos n)] at h2
theorem len_one (ad : Option Addr) (ca : Nat) (xs : List Int) (w : World) (v : Nat) (h : Rd .u32 w ad ca xs) (hv : bval xs = v) (hl : xs.length ≤ 1048576) :
    Calls Try.prog 18 #[.slice ad xs.length ca] w (LenPost v w) := by
  subst hv; exact bigLen_any ad ca xs w h hl

set_option maxHeartbeats 4000000 in
theorem bigPowers_small (ad0 : Option Addr) (cap0 : Nat) (L0 : List Int) (b M N : Nat) (w : World)
    (h0 : Rd .u32 w ad0 cap0 L0) (l0 : L0.length ≤ 40) (hb : b < 4294967296) (hM : M ≤ 200) (hN : N ≤ 200) :
    Calls Try.prog 5 #[.slice ad0 L0.length cap0, .int .u32 b, .int .i64 M, .int .i64 N] w (TruePost w) := by
  have HBB := Lib.hid hb
  clear hb
  have T0 : Fits (bval L0) 40 := (Fits.words (words_of_rd h0)).mono l0
  have F0 : Hid (L0.length ≤ 262144) := Nat.le_trans l0 (by decide)
  have F1 : Hid (L0.length ≤ 1048576) := Nat.le_trans l0 (by decide)
  have R0 := Lib.hid h0
  obtain ⟨n0, hn0⟩ : ∃ n, n = bval L0 := ⟨_, rfl⟩
  rw [← hn0] at T0
  have V0 : Hid (bval L0 = n0) := hn0.symm
  have t0 : decide ((40 : Int) < (L0.length : Int)) = false := by simp; omega
  have t1 : decide ((M : Int) < 0) = false := decide_eq_false (by omega)
  have t2 : decide ((N : Int) < 0) = false := decide_eq_false (by omega)
  have t3 : decide ((200 : Int) < (M : Int)) = false := decide_eq_false (by omega)
  have t4 : decide ((200 : Int) < (N : Int)) = false := decide_eq_false (by omega)
  clear h0 hn0
  go_enter Try.func5, Try.ntmps5
  go_wp2_with fail
  refine (bigs_any w).mono ?_
  rintro e w1 ⟨rfl, hb⟩
  replace R0 := Lib.hid (R0.out.keep hb)
  have HB := Lib.hid hb
  clear hb
  go_wp2_with fail
  refine (bigPow_any b M w1 HBB.out (by omega)).mono ?_
  rintro e w2 ⟨adx, capx, rfl, rd, hb⟩
  replace R0 := Lib.hid (R0.out.keep hb)
  replace HB := Lib.hid (HB.out.trans (hb.mono HB.out.size))
  clear hb
  obtain ⟨Lx, eL⟩ : ∃ L, L = canon (b ^ M) := ⟨_, rfl⟩
  rw [← eL] at rd ⊢
  have Ex := Lib.hid eL
  have Vx : Hid (bval Lx = b ^ M) := by show _ = _; rw [eL, bval_canon]
  have Fx : Hid (Lx.length ≤ 1048576) := by show _ ≤ _; rw [eL]; exact Nat.le_trans (Fits.len ((pow_fits b M HBB.out).mono (Nat.succ_le_succ hM))) (by decide)
  have Rx := Lib.hid rd
  clear eL rd
  go_wp2_with fail
  refine (bigPow_any b N w2 HBB.out (by omega)).mono ?_
  rintro e w3 ⟨ady, capy, rfl, rd, hb⟩
  replace R0 := Lib.hid (R0.out.keep hb)
  replace Rx := Lib.hid (Rx.out.keep hb)
  replace HB := Lib.hid (HB.out.trans (hb.mono HB.out.size))
  clear hb
  obtain ⟨Ly, eL⟩ : ∃ L, L = canon (b ^ N) := ⟨_, rfl⟩
  rw [← eL] at rd ⊢
  have Ey := Lib.hid eL
  have Vy : Hid (bval Ly = b ^ N) := by show _ = _; rw [eL, bval_canon]
  have Fy : Hid (Ly.length ≤ 1048576) := by show _ ≤ _; rw [eL]; exact Nat.le_trans (Fits.len ((pow_fits b N HBB.out).mono (Nat.succ_le_succ hN))) (by decide)
  have Ry := Lib.hid rd
  clear eL rd
  go_wp2_with fail
  refine (pow_sum b M N w3 HBB.out (by omega)).mono ?_
  rintro e w4 ⟨adz, capz, rfl, rd, hb⟩
  replace R0 := Lib.hid (R0.out.keep hb)
  replace Rx := Lib.hid (Rx.out.keep hb)
  replace Ry := Lib.hid (Ry.out.keep hb)
  replace HB := Lib.hid (HB.out.trans (hb.mono HB.out.size))
  clear hb
  obtain ⟨Lz, eL⟩ : ∃ L, L = canon (b ^ (M + N)) := ⟨_, rfl⟩
  rw [← eL] at rd ⊢
  have Ez := Lib.hid eL
  have Vz : Hid (bval Lz = b ^ (M + N)) := by show _ = _; rw [eL, bval_canon]
  have Fz : Hid (Lz.length ≤ 1048576) := by show _ ≤ _; rw [eL]; exact Nat.le_trans (Fits.len ((pow_fits b (M + N) HBB.out).mono (show M + N + 1 ≤ 401 by omega))) (by decide)
  have Rz := Lib.hid rd
  clear eL rd
  go_wp2_with fail
  refine (pow_of_two N w4 (by omega)).mono ?_
  rintro e w5 ⟨ado, capo, rfl, rd, hb⟩
  replace R0 := Lib.hid (R0.out.keep hb)
  replace Rx := Lib.hid (Rx.out.keep hb)
  replace Ry := Lib.hid (Ry.out.keep hb)
  replace Rz := Lib.hid (Rz.out.keep hb)
  replace HB := Lib.hid (HB.out.trans (hb.mono HB.out.size))
  clear hb
  obtain ⟨Lo, eL⟩ : ∃ L, L = canon (2 ^ N) := ⟨_, rfl⟩
  rw [← eL] at rd ⊢
  have Eo := Lib.hid eL
  have Vo : Hid (bval Lo = 2 ^ N) := by show _ = _; rw [eL, bval_canon]
  have Fo : Hid (Lo.length ≤ 1048576) := by show _ ≤ _; rw [eL]; exact Nat.le_trans (Fits.len ((pow_fits 2 N (by decide)).mono (Nat.succ_le_succ hN))) (by decide)
  have Ro := Lib.hid rd
  clear eL rd
  go_wp2_with fail
  refine (shift_up ad0 cap0 L0 w5 _ N R0.out V0.out F0.out (by omega)).mono ?_
  rintro e w6 ⟨ads, caps, rfl, rd, hb⟩
  replace R0 := Lib.hid (R0.out.keep hb)
  replace Rx := Lib.hid (Rx.out.keep hb)
  replace Ry := Lib.hid (Ry.out.keep hb)
  replace Rz := Lib.hid (Rz.out.keep hb)
  replace Ro := Lib.hid (Ro.out.keep hb)
  replace HB := Lib.hid (HB.out.trans (hb.mono HB.out.size))
  clear hb
  obtain ⟨Ls, eL⟩ : ∃ L, L = canon (n0 * 2 ^ N) := ⟨_, rfl⟩
  rw [← eL] at rd ⊢
  have Es := Lib.hid eL
  have Vs : Hid (bval Ls = n0 * 2 ^ N) := by show _ = _; rw [eL, bval_canon]
  have Fs : Hid (Ls.length ≤ 1048576) := by show _ ≤ _; rw [eL]; exact Nat.le_trans (Fits.len (T0.mul ((pow_fits 2 N (by decide)).mono (Nat.succ_le_succ hN)))) (by decide)
  have Rs := Lib.hid rd
  clear eL rd
  have Fs2 : Hid (Ls.length ≤ 262144) := by show _ ≤ _; rw [Es.out]; exact Nat.le_trans (Fits.len (T0.mul ((pow_fits 2 N (by decide)).mono (Nat.succ_le_succ hN)))) (by decide)
  go_wp2_with fail
  refine (shift_back ads caps Ls w6 n0 N Rs.out Vs.out Fs2.out (by omega)).mono ?_
  rintro e w7 ⟨adt, capt, rfl, rd, hb⟩
  replace R0 := Lib.hid (R0.out.keep hb)
  replace Rx := Lib.hid (Rx.out.keep hb)
  replace Ry := Lib.hid (Ry.out.keep hb)
  replace Rz := Lib.hid (Rz.out.keep hb)
  replace Ro := Lib.hid (Ro.out.keep hb)
  replace Rs := Lib.hid (Rs.out.keep hb)
  replace HB := Lib.hid (HB.out.trans (hb.mono HB.out.size))
  clear hb
  obtain ⟨Lt, eL⟩ : ∃ L, L = canon (n0) := ⟨_, rfl⟩
  rw [← eL] at rd ⊢
  have Et := Lib.hid eL
  have Vt : Hid (bval Lt = n0) := by show _ = _; rw [eL, bval_canon]
  have Ft : Hid (Lt.length ≤ 1048576) := by show _ ≤ _; rw [eL]; exact Nat.le_trans (Fits.len (T0)) (by decide)
  have Rt := Lib.hid rd
  clear eL rd
  go_wp2_with fail
  refine (mul_two adx ady capx capy Lx Ly w7 _ _ Rx.out Ry.out Vx.out Vy.out Fx.out Fy.out).mono ?_
  rintro e w8 ⟨adu, capu, rfl, rd, hb⟩
  replace R0 := Lib.hid (R0.out.keep hb)
  replace Rx := Lib.hid (Rx.out.keep hb)
  replace Ry := Lib.hid (Ry.out.keep hb)
  replace Rz := Lib.hid (Rz.out.keep hb)
  replace Ro := Lib.hid (Ro.out.keep hb)
  replace Rs := Lib.hid (Rs.out.keep hb)
  replace Rt := Lib.hid (Rt.out.keep hb)
  replace HB := Lib.hid (HB.out.trans (hb.mono HB.out.size))
  clear hb
  obtain ⟨Lu, eL⟩ : ∃ L, L = canon (b ^ M * b ^ N) := ⟨_, rfl⟩
  rw [← eL] at rd ⊢
  have Eu := Lib.hid eL
  have Vu : Hid (bval Lu = b ^ M * b ^ N) := by show _ = _; rw [eL, bval_canon]
  have Fu : Hid (Lu.length ≤ 1048576) := by show _ ≤ _; rw [eL]; exact Nat.le_trans (Fits.len (((pow_fits b M HBB.out).mono (Nat.succ_le_succ hM)).mul ((pow_fits b N HBB.out).mono (Nat.succ_le_succ hN)))) (by decide)
  have Ru := Lib.hid rd
  clear eL rd
  go_wp2_with fail
  refine (equal_two adu adz capu capz Lu Lz w8 Ru.out Rz.out (by rw [Eu.out, Ez.out]; congr 1; exact (Nat.pow_add b M N).symm)).mono ?_
  rintro e w9 ⟨rfl, hb⟩
  replace R0 := Lib.hid (R0.out.keep hb)
  replace Rx := Lib.hid (Rx.out.keep hb)
  replace Ry := Lib.hid (Ry.out.keep hb)
  replace Rz := Lib.hid (Rz.out.keep hb)
  replace Ro := Lib.hid (Ro.out.keep hb)
  replace Rs := Lib.hid (Rs.out.keep hb)
  replace Rt := Lib.hid (Rt.out.keep hb)
  replace Ru := Lib.hid (Ru.out.keep hb)
  replace HB := Lib.hid (HB.out.trans (hb.mono HB.out.size))
  clear hb
  clear Eu Vu Fu Ru
  go_wp2_with fail
  refine (mul_two ad0 ado cap0 capo L0 Lo w9 _ _ R0.out Ro.out V0.out Vo.out F1.out Fo.out).mono ?_
  rintro e w10 ⟨adu, capu, rfl, rd, hb⟩
  replace R0 := Lib.hid (R0.out.keep hb)
  replace Rx := Lib.hid (Rx.out.keep hb)
  replace Ry := Lib.hid (Ry.out.keep hb)
  replace Rz := Lib.hid (Rz.out.keep hb)
  replace Ro := Lib.hid (Ro.out.keep hb)
  replace Rs := Lib.hid (Rs.out.keep hb)
  replace Rt := Lib.hid (Rt.out.keep hb)
  replace HB := Lib.hid (HB.out.trans (hb.mono HB.out.size))
  clear hb
  obtain ⟨Lu, eL⟩ : ∃ L, L = canon (n0 * 2 ^ N) := ⟨_, rfl⟩
  rw [← eL] at rd ⊢
  have Eu := Lib.hid eL
  have Vu : Hid (bval Lu = n0 * 2 ^ N) := by show _ = _; rw [eL, bval_canon]
  have Fu : Hid (Lu.length ≤ 1048576) := by show _ ≤ _; rw [eL]; exact Nat.le_trans (Fits.len (T0.mul ((pow_fits 2 N (by decide)).mono (Nat.succ_le_succ hN)))) (by decide)
  have Ru := Lib.hid rd
  clear eL rd
  go_wp2_with fail
  refine (equal_two ads adu caps capu Ls Lu w10 Rs.out Ru.out (by rw [Es.out, Eu.out])).mono ?_
  rintro e w11 ⟨rfl, hb⟩
  replace R0 := Lib.hid (R0.out.keep hb)
  replace Rx := Lib.hid (Rx.out.keep hb)
  replace Ry := Lib.hid (Ry.out.keep hb)
  replace Rz := Lib.hid (Rz.out.keep hb)
  replace Ro := Lib.hid (Ro.out.keep hb)
  replace Rs := Lib.hid (Rs.out.keep hb)
  replace Rt := Lib.hid (Rt.out.keep hb)
  replace Ru := Lib.hid (Ru.out.keep hb)
  replace HB := Lib.hid (HB.out.trans (hb.mono HB.out.size))
  clear hb
  clear Eu Vu Fu Ru
  go_wp2_with fail
  refine (trim_one ad0 cap0 L0 w11 _ R0.out V0.out F1.out).mono ?_
  rintro e w12 ⟨adu, capu, rfl, rd, hb⟩
  replace R0 := Lib.hid (R0.out.keep hb)
  replace Rx := Lib.hid (Rx.out.keep hb)
  replace Ry := Lib.hid (Ry.out.keep hb)
  replace Rz := Lib.hid (Rz.out.keep hb)
  replace Ro := Lib.hid (Ro.out.keep hb)
  replace Rs := Lib.hid (Rs.out.keep hb)
  replace Rt := Lib.hid (Rt.out.keep hb)
  replace HB := Lib.hid (HB.out.trans (hb.mono HB.out.size))
  clear hb
  obtain ⟨Lu, eL⟩ : ∃ L, L = canon (n0) := ⟨_, rfl⟩
  rw [← eL] at rd ⊢
  have Eu := Lib.hid eL
  have Vu : Hid (bval Lu = n0) := by show _ = _; rw [eL, bval_canon]
  have Fu : Hid (Lu.length ≤ 1048576) := by show _ ≤ _; rw [eL]; exact Nat.le_trans (Fits.len (T0)) (by decide)
  have Ru := Lib.hid rd
  clear eL rd
  go_wp2_with fail
  refine (equal_two adt adu capt capu Lt Lu w12 Rt.out Ru.out (by rw [Et.out, Eu.out])).mono ?_
  rintro e w13 ⟨rfl, hb⟩
  replace R0 := Lib.hid (R0.out.keep hb)
  replace Rx := Lib.hid (Rx.out.keep hb)
  replace Ry := Lib.hid (Ry.out.keep hb)
  replace Rz := Lib.hid (Rz.out.keep hb)
  replace Ro := Lib.hid (Ro.out.keep hb)
  replace Rs := Lib.hid (Rs.out.keep hb)
  replace Rt := Lib.hid (Rt.out.keep hb)
  replace Ru := Lib.hid (Ru.out.keep hb)
  replace HB := Lib.hid (HB.out.trans (hb.mono HB.out.size))
  clear hb
  clear Eu Vu Fu Ru
  have hla := len_one ad0 cap0 L0 w13 n0 R0.out V0.out F1.out
  have hls := len_one ads caps Ls w13 (n0 * 2 ^ N) Rs.out Vs.out Fs.out
  unfold LenPost at hla hls
  have HLA := Lib.hid hla
  have HLS := Lib.hid hls
  clear hla hls
  by_cases hz : n0 = 0
  · have hbz : ((blen n0 : Nat) : Int) = 0 := by rw [hz]; rfl
    rw [hbz] at HLA
    clear hbz
    go_wp2_with fail
    refine HLA.out.mono ?_
    rintro e w' ⟨rfl, rfl⟩
    go_wp2
    go_ret
    exact ⟨rfl, HB.out⟩
  · have hbn : blen n0 ≠ 0 := fun e => hz ((blen_zero n0).1 e)
    have hbs : blen (n0 * 2 ^ N) = blen n0 + N := blen_shift n0 N hz
    rw [hbs] at HLS
    have hsm : blen n0 ≤ 2000 := by
      have h1 := (blen_bounds n0 hz).2.1
      have h2 : n0 < 4294967296 ^ 40 := T0
      rw [pow32] at h2
      have h3 := (Nat.pow_lt_pow_iff_right (by decide)).1 (Nat.lt_of_le_of_lt h1 h2)
      omega
    obtain ⟨B, hB⟩ : ∃ B, B = blen n0 := ⟨_, rfl⟩
    rw [← hB] at HLA HLS hbn hsm
    clear hB hbs
    have b1 : ((B : Int) == 0) = false := by simp; omega
    have b2 : (((B + N : Nat) : Int) == (B : Int) + (N : Int)) = true := by simp
    go_wp2_with fail
    refine HLA.out.mono ?_
    rintro e w' ⟨rfl, rfl⟩
    go_wp2_with fail
    refine HLS.out.mono ?_
    rintro e w' ⟨rfl, rfl⟩
    go_wp2_with fail
    refine HLA.out.mono ?_
    rintro e w' ⟨rfl, rfl⟩
    go_wp2
    go_ret
    exact ⟨by simp, HB.out⟩


theorem bigPowers_large (ad0 : Option Addr) (cap0 : Nat) (L0 : List Int) (b : Int) (m n : Int) (w : World)
    (h : 40 < L0.length ∨ m < 0 ∨ n < 0 ∨ 200 < m ∨ 200 < n) :
    Calls Try.prog 5 #[.slice ad0 L0.length cap0, .int .u32 b, .int .i64 m, .int .i64 n] w (TruePost w) := by
  by_cases l0 : (40 : Int) < (L0.length : Int)
  · have t0 : decide ((40 : Int) < (L0.length : Int)) = true := decide_eq_true l0
    clear h
    go_enter Try.func5, Try.ntmps5
    go_wp2_with (go_at_call 7; refine (bigs_any w).mono ?_; rintro e w1 ⟨rfl, hb⟩)
    go_ret
    exact ⟨rfl, hb⟩
  have t0 : decide ((40 : Int) < (L0.length : Int)) = false := decide_eq_false l0
  by_cases l1 : m < 0
  · have t1 : decide (m < 0) = true := decide_eq_true l1
    clear h
    go_enter Try.func5, Try.ntmps5
    go_wp2_with (go_at_call 7; refine (bigs_any w).mono ?_; rintro e w1 ⟨rfl, hb⟩)
    go_ret
    exact ⟨rfl, hb⟩
  have t1 : decide (m < 0) = false := decide_eq_false l1
  by_cases l2 : n < 0
  · have t2 : decide (n < 0) = true := decide_eq_true l2
    clear h
    go_enter Try.func5, Try.ntmps5
    go_wp2_with (go_at_call 7; refine (bigs_any w).mono ?_; rintro e w1 ⟨rfl, hb⟩)
    go_ret
    exact ⟨rfl, hb⟩
  have t2 : decide (n < 0) = false := decide_eq_false l2
  by_cases l3 : 200 < m
  · have t3 : decide (200 < m) = true := decide_eq_true l3
    clear h
    go_enter Try.func5, Try.ntmps5
    go_wp2_with (go_at_call 7; refine (bigs_any w).mono ?_; rintro e w1 ⟨rfl, hb⟩)
    go_ret
    exact ⟨rfl, hb⟩
  have t3 : decide (200 < m) = false := decide_eq_false l3
  have t4 : decide (200 < n) = true := decide_eq_true (by omega)
  clear h
  go_enter Try.func5, Try.ntmps5
  go_wp2_with (go_at_call 7; refine (bigs_any w).mono ?_; rintro e w1 ⟨rfl, hb⟩)
  go_ret
  exact ⟨rfl, hb⟩

theorem bigPowers_walk (ad0 : Option Addr) (cap0 : Nat) (L0 : List Int) (b : Int) (m n : Int) (w : World) (h0 : Rd .u32 w ad0 cap0 L0) (b0 : 0 ≤ b) (b1 : b ≤ 4294967295) :
    Calls Try.prog 5 #[.slice ad0 L0.length cap0, .int .u32 b, .int .i64 m, .int .i64 n] w (TruePost w) := by
  by_cases h : 40 < L0.length ∨ m < 0 ∨ n < 0 ∨ 200 < m ∨ 200 < n
  · exact bigPowers_large ad0 cap0 L0 b m n w h
  · obtain ⟨b, rfl⟩ := Int.eq_ofNat_of_zero_le b0
    obtain ⟨m, rfl⟩ := Int.eq_ofNat_of_zero_le (show 0 ≤ m by omega)
    obtain ⟨n, rfl⟩ := Int.eq_ofNat_of_zero_le (show 0 ≤ n by omega)
    exact bigPowers_small ad0 cap0 L0 b m n w h0 (by omega) (by omega) (by omega) (by omega)
end Go.Proofs.Ytfkboaflfabmlaa
