/-
  The walk of typecasekeep.BigLaws. No conditions.
-/
import Derived.Test.YtfkboaflfabmlaaBigSub2
import Derived.Test.YtfkboaflfabmlaaBigAdd2
namespace Go.Proofs.Ytfkboaflfabmlaa
open Go.RowKit Gx

def Fits (n k : Nat) : Prop := n < 4294967296 ^ k
theorem Fits.len {n k : Nat} (h : Fits n k) : (canon n).length ≤ k := canon_len_le n k h
theorem Fits.add {n m k : Nat} (h : Fits n k) (g : Fits m k) : Fits (n + m) (k + 1) := by
  unfold Fits at *
  rw [Nat.pow_succ]; omega
theorem Fits.mono {n k l : Nat} (h : Fits n k) (hl : k ≤ l) : Fits n l := Nat.lt_of_lt_of_le h (Nat.pow_le_pow_right (by decide) hl)
theorem Fits.mul {n m k l : Nat} (h : Fits n k) (g : Fits m l) : Fits (n * m) (k + l) := by
  unfold Fits at *
  rw [Nat.pow_add]
  exact Nat.mul_lt_mul'' h g
theorem Fits.sub {n m k : Nat} (h : Fits n k) : Fits (n - m) k := Nat.lt_of_le_of_lt (Nat.sub_le _ _) h
theorem Fits.words {l : List Int} (h : Words l) : Fits (bval l) l.length := bval_lt l h

section
variable (ad bd : Option Addr) (ca cb : Nat) (xs ys : List Int) (w : World)
theorem add_two (N M : Nat) (h : Rd .u32 w ad ca xs) (g : Rd .u32 w bd cb ys) (hx : bval xs = N) (hy : bval ys = M) (lx : xs.length ≤ 1048576) (ly : ys.length ≤ 1048576) :
    Calls Try.prog 13 #[.slice ad xs.length ca, .slice bd ys.length cb] w (WordsPost (N + M) w) := by
  subst hx; subst hy; exact bigAdd_any ad bd ca cb xs ys w h g (by omega) (by omega)
theorem mul_two (N M : Nat) (h : Rd .u32 w ad ca xs) (g : Rd .u32 w bd cb ys) (hx : bval xs = N) (hy : bval ys = M) (lx : xs.length ≤ 1048576) (ly : ys.length ≤ 1048576) :
    Calls Try.prog 15 #[.slice ad xs.length ca, .slice bd ys.length cb] w (WordsPost (N * M) w) := by
  subst hx; subst hy; exact bigMul_any ad bd ca cb xs ys w h g lx ly
theorem sub_two (N M : Nat) (h : Rd .u32 w ad ca xs) (g : Rd .u32 w bd cb ys) (hx : bval xs = N) (hy : bval ys = M) (lx : xs.length ≤ 1048576) (ly : ys.length ≤ 1048576) (hle : M ≤ N) :
    Calls Try.prog 14 #[.slice ad xs.length ca, .slice bd ys.length cb] w (SubPost (N - M) w) := by
  subst hx; subst hy; exact bigSub_yes ad bd ca cb xs ys w h g lx ly hle
theorem trim_one (N : Nat) (h : Rd .u32 w ad ca xs) (hx : bval xs = N) (lx : xs.length ≤ 1048576) :
    Calls Try.prog 11 #[.slice ad xs.length ca] w (WordsPost N w) := by
  subst hx; exact bigTrim_any ad ca xs w h (by omega)
theorem equal_two (h : Rd .u32 w ad ca xs) (g : Rd .u32 w bd cb ys) (e : xs = ys) :
    Calls Try.prog 10 #[.slice ad xs.length ca, .slice bd ys.length cb] w (EqualPost w) := by
  subst e; exact equal_any ad bd ca cb xs w h g
end

set_option maxHeartbeats 4000000 in
theorem bigLaws_small (ad0 : Option Addr) (cap0 : Nat) (L0 : List Int) (ad1 : Option Addr) (cap1 : Nat) (L1 : List Int) (ad2 : Option Addr) (cap2 : Nat) (L2 : List Int) (w : World)
    (h0 : Rd .u32 w ad0 cap0 L0) (h1 : Rd .u32 w ad1 cap1 L1) (h2 : Rd .u32 w ad2 cap2 L2) (l0 : L0.length ≤ 40) (l1 : L1.length ≤ 40) (l2 : L2.length ≤ 40) :
    Calls Try.prog 4 #[.slice ad0 L0.length cap0, .slice ad1 L1.length cap1, .slice ad2 L2.length cap2] w (TruePost w) := by
  have T0 : Fits (bval L0) 40 := (Fits.words (words_of_rd h0)).mono l0
  have F0 : Hid (L0.length ≤ 1048576) := Nat.le_trans l0 (by decide)
  have R0 := Lib.hid h0
  obtain ⟨n0, hn0⟩ : ∃ n, n = bval L0 := ⟨_, rfl⟩
  rw [← hn0] at T0
  have V0 : Hid (bval L0 = n0) := hn0.symm
  have t0 : decide ((40 : Int) < (L0.length : Int)) = false := by simp; omega
  clear h0 hn0
  have T1 : Fits (bval L1) 40 := (Fits.words (words_of_rd h1)).mono l1
  have F1 : Hid (L1.length ≤ 1048576) := Nat.le_trans l1 (by decide)
  have R1 := Lib.hid h1
  obtain ⟨n1, hn1⟩ : ∃ n, n = bval L1 := ⟨_, rfl⟩
  rw [← hn1] at T1
  have V1 : Hid (bval L1 = n1) := hn1.symm
  have t1 : decide ((40 : Int) < (L1.length : Int)) = false := by simp; omega
  clear h1 hn1
  have T2 : Fits (bval L2) 40 := (Fits.words (words_of_rd h2)).mono l2
  have F2 : Hid (L2.length ≤ 1048576) := Nat.le_trans l2 (by decide)
  have R2 := Lib.hid h2
  obtain ⟨n2, hn2⟩ : ∃ n, n = bval L2 := ⟨_, rfl⟩
  rw [← hn2] at T2
  have V2 : Hid (bval L2 = n2) := hn2.symm
  have t2 : decide ((40 : Int) < (L2.length : Int)) = false := by simp; omega
  clear h2 hn2
  go_enter Try.func4, Try.ntmps4
  go_wp2_with fail
  refine (bigs_any w).mono ?_
  rintro e w1 ⟨rfl, hb⟩
  replace R0 := Lib.hid (R0.out.keep hb)
  replace R1 := Lib.hid (R1.out.keep hb)
  replace R2 := Lib.hid (R2.out.keep hb)
  have HB := Lib.hid hb
  clear hb
  go_wp2_with fail
  refine (add_two ad0 ad1 cap0 cap1 L0 L1 w1 _ _ R0.out R1.out V0.out V1.out F0.out F1.out).mono ?_
  rintro e w2 ⟨ads, caps, rfl, rd, hb⟩
  replace R0 := Lib.hid (R0.out.keep hb)
  replace R1 := Lib.hid (R1.out.keep hb)
  replace R2 := Lib.hid (R2.out.keep hb)
  replace HB := Lib.hid (HB.out.trans (hb.mono HB.out.size))
  clear hb
  obtain ⟨Ls, eL⟩ : ∃ L, L = canon (n0 + n1) := ⟨_, rfl⟩
  rw [← eL] at rd ⊢
  have Es := Lib.hid eL
  have Vs : Hid (bval Ls = n0 + n1) := by show _ = _; rw [eL, bval_canon]
  have Fs : Hid (Ls.length ≤ 1048576) := by show _ ≤ _; rw [eL]; exact Nat.le_trans (Fits.len (T0.add T1)) (by decide)
  have Rs := Lib.hid rd
  clear eL rd
  go_wp2_with fail
  refine (sub_two ads ad1 caps cap1 Ls L1 w2 _ _ Rs.out R1.out Vs.out V1.out Fs.out F1.out (Nat.le_add_left _ _)).mono ?_
  rintro e w3 ⟨add_, capd, rfl, rd, hb⟩
  replace R0 := Lib.hid (R0.out.keep hb)
  replace R1 := Lib.hid (R1.out.keep hb)
  replace R2 := Lib.hid (R2.out.keep hb)
  replace Rs := Lib.hid (Rs.out.keep hb)
  replace HB := Lib.hid (HB.out.trans (hb.mono HB.out.size))
  clear hb
  obtain ⟨Ld, eL⟩ : ∃ L, L = canon (n0 + n1 - n1) := ⟨_, rfl⟩
  rw [← eL] at rd ⊢
  have Ed := Lib.hid eL
  have Rd_ := Lib.hid rd
  clear eL rd
  go_wp2_with fail
  refine (add_two ad1 ad0 cap1 cap0 L1 L0 w3 _ _ R1.out R0.out V1.out V0.out F1.out F0.out).mono ?_
  rintro e w4 ⟨adt, capt, rfl, rd, hb⟩
  replace R0 := Lib.hid (R0.out.keep hb)
  replace R1 := Lib.hid (R1.out.keep hb)
  replace R2 := Lib.hid (R2.out.keep hb)
  replace Rs := Lib.hid (Rs.out.keep hb)
  replace Rd_ := Lib.hid (Rd_.out.keep hb)
  replace HB := Lib.hid (HB.out.trans (hb.mono HB.out.size))
  clear hb
  obtain ⟨Lt, eL⟩ : ∃ L, L = canon (n1 + n0) := ⟨_, rfl⟩
  rw [← eL] at rd ⊢
  have Et := Lib.hid eL
  have Vt : Hid (bval Lt = n1 + n0) := by show _ = _; rw [eL, bval_canon]
  have Ft : Hid (Lt.length ≤ 1048576) := by show _ ≤ _; rw [eL]; exact Nat.le_trans (Fits.len (T1.add T0)) (by decide)
  have Rt := Lib.hid rd
  clear eL rd
  go_wp2_with fail
  refine (equal_two ads adt caps capt Ls Lt w4 Rs.out Rt.out (by rw [Es.out, Et.out]; congr 1; exact Nat.add_comm _ _)).mono ?_
  rintro e w5 ⟨rfl, hb⟩
  replace R0 := Lib.hid (R0.out.keep hb)
  replace R1 := Lib.hid (R1.out.keep hb)
  replace R2 := Lib.hid (R2.out.keep hb)
  replace Rs := Lib.hid (Rs.out.keep hb)
  replace Rd_ := Lib.hid (Rd_.out.keep hb)
  replace Rt := Lib.hid (Rt.out.keep hb)
  replace HB := Lib.hid (HB.out.trans (hb.mono HB.out.size))
  clear hb
  clear Et Vt Ft Rt
  go_wp2_with fail
  refine (add_two ads ad2 caps cap2 Ls L2 w5 _ _ Rs.out R2.out Vs.out V2.out Fs.out F2.out).mono ?_
  rintro e w6 ⟨adu, capu, rfl, rd, hb⟩
  replace R0 := Lib.hid (R0.out.keep hb)
  replace R1 := Lib.hid (R1.out.keep hb)
  replace R2 := Lib.hid (R2.out.keep hb)
  replace Rs := Lib.hid (Rs.out.keep hb)
  replace Rd_ := Lib.hid (Rd_.out.keep hb)
  replace HB := Lib.hid (HB.out.trans (hb.mono HB.out.size))
  clear hb
  obtain ⟨Lu, eL⟩ : ∃ L, L = canon (n0 + n1 + n2) := ⟨_, rfl⟩
  rw [← eL] at rd ⊢
  have Eu := Lib.hid eL
  have Vu : Hid (bval Lu = n0 + n1 + n2) := by show _ = _; rw [eL, bval_canon]
  have Fu : Hid (Lu.length ≤ 1048576) := by show _ ≤ _; rw [eL]; exact Nat.le_trans (Fits.len ((T0.add T1).add (T2.mono (by decide)))) (by decide)
  have Ru := Lib.hid rd
  clear eL rd
  go_wp2_with fail
  refine (add_two ad1 ad2 cap1 cap2 L1 L2 w6 _ _ R1.out R2.out V1.out V2.out F1.out F2.out).mono ?_
  rintro e w7 ⟨adx, capx, rfl, rd, hb⟩
  replace R0 := Lib.hid (R0.out.keep hb)
  replace R1 := Lib.hid (R1.out.keep hb)
  replace R2 := Lib.hid (R2.out.keep hb)
  replace Rs := Lib.hid (Rs.out.keep hb)
  replace Rd_ := Lib.hid (Rd_.out.keep hb)
  replace Ru := Lib.hid (Ru.out.keep hb)
  replace HB := Lib.hid (HB.out.trans (hb.mono HB.out.size))
  clear hb
  obtain ⟨Lx, eL⟩ : ∃ L, L = canon (n1 + n2) := ⟨_, rfl⟩
  rw [← eL] at rd ⊢
  have Ex := Lib.hid eL
  have Vx : Hid (bval Lx = n1 + n2) := by show _ = _; rw [eL, bval_canon]
  have Fx : Hid (Lx.length ≤ 1048576) := by show _ ≤ _; rw [eL]; exact Nat.le_trans (Fits.len (T1.add T2)) (by decide)
  have Rx := Lib.hid rd
  clear eL rd
  go_wp2_with fail
  refine (add_two ad0 adx cap0 capx L0 Lx w7 _ _ R0.out Rx.out V0.out Vx.out F0.out Fx.out).mono ?_
  rintro e w8 ⟨ady, capy, rfl, rd, hb⟩
  replace R0 := Lib.hid (R0.out.keep hb)
  replace R1 := Lib.hid (R1.out.keep hb)
  replace R2 := Lib.hid (R2.out.keep hb)
  replace Rs := Lib.hid (Rs.out.keep hb)
  replace Rd_ := Lib.hid (Rd_.out.keep hb)
  replace Ru := Lib.hid (Ru.out.keep hb)
  replace Rx := Lib.hid (Rx.out.keep hb)
  replace HB := Lib.hid (HB.out.trans (hb.mono HB.out.size))
  clear hb
  obtain ⟨Ly, eL⟩ : ∃ L, L = canon (n0 + (n1 + n2)) := ⟨_, rfl⟩
  rw [← eL] at rd ⊢
  have Ey := Lib.hid eL
  have Vy : Hid (bval Ly = n0 + (n1 + n2)) := by show _ = _; rw [eL, bval_canon]
  have Fy : Hid (Ly.length ≤ 1048576) := by show _ ≤ _; rw [eL]; exact Nat.le_trans (Fits.len ((T0.mono (by decide)).add (T1.add T2))) (by decide)
  have Ry := Lib.hid rd
  clear eL rd
  go_wp2_with fail
  refine (equal_two adu ady capu capy Lu Ly w8 Ru.out Ry.out (by rw [Eu.out, Ey.out]; congr 1; exact Nat.add_assoc _ _ _)).mono ?_
  rintro e w9 ⟨rfl, hb⟩
  replace R0 := Lib.hid (R0.out.keep hb)
  replace R1 := Lib.hid (R1.out.keep hb)
  replace R2 := Lib.hid (R2.out.keep hb)
  replace Rs := Lib.hid (Rs.out.keep hb)
  replace Rd_ := Lib.hid (Rd_.out.keep hb)
  replace Ru := Lib.hid (Ru.out.keep hb)
  replace Rx := Lib.hid (Rx.out.keep hb)
  replace Ry := Lib.hid (Ry.out.keep hb)
  replace HB := Lib.hid (HB.out.trans (hb.mono HB.out.size))
  clear hb
  clear Eu Vu Fu Ru
  clear Ex Vx Fx Rx
  clear Ey Vy Fy Ry
  go_wp2_with fail
  refine (mul_two ad0 ad1 cap0 cap1 L0 L1 w9 _ _ R0.out R1.out V0.out V1.out F0.out F1.out).mono ?_
  rintro e w10 ⟨adu, capu, rfl, rd, hb⟩
  replace R0 := Lib.hid (R0.out.keep hb)
  replace R1 := Lib.hid (R1.out.keep hb)
  replace R2 := Lib.hid (R2.out.keep hb)
  replace Rs := Lib.hid (Rs.out.keep hb)
  replace Rd_ := Lib.hid (Rd_.out.keep hb)
  replace HB := Lib.hid (HB.out.trans (hb.mono HB.out.size))
  clear hb
  obtain ⟨Lu, eL⟩ : ∃ L, L = canon (n0 * n1) := ⟨_, rfl⟩
  rw [← eL] at rd ⊢
  have Eu := Lib.hid eL
  have Vu : Hid (bval Lu = n0 * n1) := by show _ = _; rw [eL, bval_canon]
  have Fu : Hid (Lu.length ≤ 1048576) := by show _ ≤ _; rw [eL]; exact Nat.le_trans (Fits.len (T0.mul T1)) (by decide)
  have Ru := Lib.hid rd
  clear eL rd
  go_wp2_with fail
  refine (mul_two ad1 ad0 cap1 cap0 L1 L0 w10 _ _ R1.out R0.out V1.out V0.out F1.out F0.out).mono ?_
  rintro e w11 ⟨ady, capy, rfl, rd, hb⟩
  replace R0 := Lib.hid (R0.out.keep hb)
  replace R1 := Lib.hid (R1.out.keep hb)
  replace R2 := Lib.hid (R2.out.keep hb)
  replace Rs := Lib.hid (Rs.out.keep hb)
  replace Rd_ := Lib.hid (Rd_.out.keep hb)
  replace Ru := Lib.hid (Ru.out.keep hb)
  replace HB := Lib.hid (HB.out.trans (hb.mono HB.out.size))
  clear hb
  obtain ⟨Ly, eL⟩ : ∃ L, L = canon (n1 * n0) := ⟨_, rfl⟩
  rw [← eL] at rd ⊢
  have Ey := Lib.hid eL
  have Vy : Hid (bval Ly = n1 * n0) := by show _ = _; rw [eL, bval_canon]
  have Fy : Hid (Ly.length ≤ 1048576) := by show _ ≤ _; rw [eL]; exact Nat.le_trans (Fits.len (T1.mul T0)) (by decide)
  have Ry := Lib.hid rd
  clear eL rd
  go_wp2_with fail
  refine (equal_two adu ady capu capy Lu Ly w11 Ru.out Ry.out (by rw [Eu.out, Ey.out]; congr 1; exact Nat.mul_comm _ _)).mono ?_
  rintro e w12 ⟨rfl, hb⟩
  replace R0 := Lib.hid (R0.out.keep hb)
  replace R1 := Lib.hid (R1.out.keep hb)
  replace R2 := Lib.hid (R2.out.keep hb)
  replace Rs := Lib.hid (Rs.out.keep hb)
  replace Rd_ := Lib.hid (Rd_.out.keep hb)
  replace Ru := Lib.hid (Ru.out.keep hb)
  replace Ry := Lib.hid (Ry.out.keep hb)
  replace HB := Lib.hid (HB.out.trans (hb.mono HB.out.size))
  clear hb
  clear Eu Vu Fu Ru
  clear Ey Vy Fy Ry
  go_wp2_with fail
  refine (mul_two ad0 ad1 cap0 cap1 L0 L1 w12 _ _ R0.out R1.out V0.out V1.out F0.out F1.out).mono ?_
  rintro e w13 ⟨adu, capu, rfl, rd, hb⟩
  replace R0 := Lib.hid (R0.out.keep hb)
  replace R1 := Lib.hid (R1.out.keep hb)
  replace R2 := Lib.hid (R2.out.keep hb)
  replace Rs := Lib.hid (Rs.out.keep hb)
  replace Rd_ := Lib.hid (Rd_.out.keep hb)
  replace HB := Lib.hid (HB.out.trans (hb.mono HB.out.size))
  clear hb
  obtain ⟨Lu, eL⟩ : ∃ L, L = canon (n0 * n1) := ⟨_, rfl⟩
  rw [← eL] at rd ⊢
  have Eu := Lib.hid eL
  have Vu : Hid (bval Lu = n0 * n1) := by show _ = _; rw [eL, bval_canon]
  have Fu : Hid (Lu.length ≤ 1048576) := by show _ ≤ _; rw [eL]; exact Nat.le_trans (Fits.len (T0.mul T1)) (by decide)
  have Ru := Lib.hid rd
  clear eL rd
  go_wp2_with fail
  refine (mul_two adu ad2 capu cap2 Lu L2 w13 _ _ Ru.out R2.out Vu.out V2.out Fu.out F2.out).mono ?_
  rintro e w14 ⟨adx, capx, rfl, rd, hb⟩
  replace R0 := Lib.hid (R0.out.keep hb)
  replace R1 := Lib.hid (R1.out.keep hb)
  replace R2 := Lib.hid (R2.out.keep hb)
  replace Rs := Lib.hid (Rs.out.keep hb)
  replace Rd_ := Lib.hid (Rd_.out.keep hb)
  replace Ru := Lib.hid (Ru.out.keep hb)
  replace HB := Lib.hid (HB.out.trans (hb.mono HB.out.size))
  clear hb
  obtain ⟨Lx, eL⟩ : ∃ L, L = canon (n0 * n1 * n2) := ⟨_, rfl⟩
  rw [← eL] at rd ⊢
  have Ex := Lib.hid eL
  have Vx : Hid (bval Lx = n0 * n1 * n2) := by show _ = _; rw [eL, bval_canon]
  have Fx : Hid (Lx.length ≤ 1048576) := by show _ ≤ _; rw [eL]; exact Nat.le_trans (Fits.len ((T0.mul T1).mul T2)) (by decide)
  have Rx := Lib.hid rd
  clear eL rd
  go_wp2_with fail
  refine (mul_two ad1 ad2 cap1 cap2 L1 L2 w14 _ _ R1.out R2.out V1.out V2.out F1.out F2.out).mono ?_
  rintro e w15 ⟨ady, capy, rfl, rd, hb⟩
  replace R0 := Lib.hid (R0.out.keep hb)
  replace R1 := Lib.hid (R1.out.keep hb)
  replace R2 := Lib.hid (R2.out.keep hb)
  replace Rs := Lib.hid (Rs.out.keep hb)
  replace Rd_ := Lib.hid (Rd_.out.keep hb)
  replace Ru := Lib.hid (Ru.out.keep hb)
  replace Rx := Lib.hid (Rx.out.keep hb)
  replace HB := Lib.hid (HB.out.trans (hb.mono HB.out.size))
  clear hb
  obtain ⟨Ly, eL⟩ : ∃ L, L = canon (n1 * n2) := ⟨_, rfl⟩
  rw [← eL] at rd ⊢
  have Ey := Lib.hid eL
  have Vy : Hid (bval Ly = n1 * n2) := by show _ = _; rw [eL, bval_canon]
  have Fy : Hid (Ly.length ≤ 1048576) := by show _ ≤ _; rw [eL]; exact Nat.le_trans (Fits.len (T1.mul T2)) (by decide)
  have Ry := Lib.hid rd
  clear eL rd
  go_wp2_with fail
  refine (mul_two ad0 ady cap0 capy L0 Ly w15 _ _ R0.out Ry.out V0.out Vy.out F0.out Fy.out).mono ?_
  rintro e w16 ⟨adz, capz, rfl, rd, hb⟩
  replace R0 := Lib.hid (R0.out.keep hb)
  replace R1 := Lib.hid (R1.out.keep hb)
  replace R2 := Lib.hid (R2.out.keep hb)
  replace Rs := Lib.hid (Rs.out.keep hb)
  replace Rd_ := Lib.hid (Rd_.out.keep hb)
  replace Ru := Lib.hid (Ru.out.keep hb)
  replace Rx := Lib.hid (Rx.out.keep hb)
  replace Ry := Lib.hid (Ry.out.keep hb)
  replace HB := Lib.hid (HB.out.trans (hb.mono HB.out.size))
  clear hb
  obtain ⟨Lz, eL⟩ : ∃ L, L = canon (n0 * (n1 * n2)) := ⟨_, rfl⟩
  rw [← eL] at rd ⊢
  have Ez := Lib.hid eL
  have Vz : Hid (bval Lz = n0 * (n1 * n2)) := by show _ = _; rw [eL, bval_canon]
  have Fz : Hid (Lz.length ≤ 1048576) := by show _ ≤ _; rw [eL]; exact Nat.le_trans (Fits.len (T0.mul (T1.mul T2))) (by decide)
  have Rz := Lib.hid rd
  clear eL rd
  go_wp2_with fail
  refine (equal_two adx adz capx capz Lx Lz w16 Rx.out Rz.out (by rw [Ex.out, Ez.out]; congr 1; exact Nat.mul_assoc _ _ _)).mono ?_
  rintro e w17 ⟨rfl, hb⟩
  replace R0 := Lib.hid (R0.out.keep hb)
  replace R1 := Lib.hid (R1.out.keep hb)
  replace R2 := Lib.hid (R2.out.keep hb)
  replace Rs := Lib.hid (Rs.out.keep hb)
  replace Rd_ := Lib.hid (Rd_.out.keep hb)
  replace Ru := Lib.hid (Ru.out.keep hb)
  replace Rx := Lib.hid (Rx.out.keep hb)
  replace Ry := Lib.hid (Ry.out.keep hb)
  replace Rz := Lib.hid (Rz.out.keep hb)
  replace HB := Lib.hid (HB.out.trans (hb.mono HB.out.size))
  clear hb
  clear Eu Vu Fu Ru
  clear Ex Vx Fx Rx
  clear Ey Vy Fy Ry
  clear Ez Vz Fz Rz
  go_wp2_with fail
  refine (add_two ad1 ad2 cap1 cap2 L1 L2 w17 _ _ R1.out R2.out V1.out V2.out F1.out F2.out).mono ?_
  rintro e w18 ⟨adu, capu, rfl, rd, hb⟩
  replace R0 := Lib.hid (R0.out.keep hb)
  replace R1 := Lib.hid (R1.out.keep hb)
  replace R2 := Lib.hid (R2.out.keep hb)
  replace Rs := Lib.hid (Rs.out.keep hb)
  replace Rd_ := Lib.hid (Rd_.out.keep hb)
  replace HB := Lib.hid (HB.out.trans (hb.mono HB.out.size))
  clear hb
  obtain ⟨Lu, eL⟩ : ∃ L, L = canon (n1 + n2) := ⟨_, rfl⟩
  rw [← eL] at rd ⊢
  have Eu := Lib.hid eL
  have Vu : Hid (bval Lu = n1 + n2) := by show _ = _; rw [eL, bval_canon]
  have Fu : Hid (Lu.length ≤ 1048576) := by show _ ≤ _; rw [eL]; exact Nat.le_trans (Fits.len (T1.add T2)) (by decide)
  have Ru := Lib.hid rd
  clear eL rd
  go_wp2_with fail
  refine (mul_two ad0 adu cap0 capu L0 Lu w18 _ _ R0.out Ru.out V0.out Vu.out F0.out Fu.out).mono ?_
  rintro e w19 ⟨adx, capx, rfl, rd, hb⟩
  replace R0 := Lib.hid (R0.out.keep hb)
  replace R1 := Lib.hid (R1.out.keep hb)
  replace R2 := Lib.hid (R2.out.keep hb)
  replace Rs := Lib.hid (Rs.out.keep hb)
  replace Rd_ := Lib.hid (Rd_.out.keep hb)
  replace Ru := Lib.hid (Ru.out.keep hb)
  replace HB := Lib.hid (HB.out.trans (hb.mono HB.out.size))
  clear hb
  obtain ⟨Lx, eL⟩ : ∃ L, L = canon (n0 * (n1 + n2)) := ⟨_, rfl⟩
  rw [← eL] at rd ⊢
  have Ex := Lib.hid eL
  have Vx : Hid (bval Lx = n0 * (n1 + n2)) := by show _ = _; rw [eL, bval_canon]
  have Fx : Hid (Lx.length ≤ 1048576) := by show _ ≤ _; rw [eL]; exact Nat.le_trans (Fits.len (T0.mul (T1.add T2))) (by decide)
  have Rx := Lib.hid rd
  clear eL rd
  go_wp2_with fail
  refine (mul_two ad0 ad1 cap0 cap1 L0 L1 w19 _ _ R0.out R1.out V0.out V1.out F0.out F1.out).mono ?_
  rintro e w20 ⟨ady, capy, rfl, rd, hb⟩
  replace R0 := Lib.hid (R0.out.keep hb)
  replace R1 := Lib.hid (R1.out.keep hb)
  replace R2 := Lib.hid (R2.out.keep hb)
  replace Rs := Lib.hid (Rs.out.keep hb)
  replace Rd_ := Lib.hid (Rd_.out.keep hb)
  replace Ru := Lib.hid (Ru.out.keep hb)
  replace Rx := Lib.hid (Rx.out.keep hb)
  replace HB := Lib.hid (HB.out.trans (hb.mono HB.out.size))
  clear hb
  obtain ⟨Ly, eL⟩ : ∃ L, L = canon (n0 * n1) := ⟨_, rfl⟩
  rw [← eL] at rd ⊢
  have Ey := Lib.hid eL
  have Vy : Hid (bval Ly = n0 * n1) := by show _ = _; rw [eL, bval_canon]
  have Fy : Hid (Ly.length ≤ 1048576) := by show _ ≤ _; rw [eL]; exact Nat.le_trans (Fits.len (T0.mul T1)) (by decide)
  have Ry := Lib.hid rd
  clear eL rd
  go_wp2_with fail
  refine (mul_two ad0 ad2 cap0 cap2 L0 L2 w20 _ _ R0.out R2.out V0.out V2.out F0.out F2.out).mono ?_
  rintro e w21 ⟨adz, capz, rfl, rd, hb⟩
  replace R0 := Lib.hid (R0.out.keep hb)
  replace R1 := Lib.hid (R1.out.keep hb)
  replace R2 := Lib.hid (R2.out.keep hb)
  replace Rs := Lib.hid (Rs.out.keep hb)
  replace Rd_ := Lib.hid (Rd_.out.keep hb)
  replace Ru := Lib.hid (Ru.out.keep hb)
  replace Rx := Lib.hid (Rx.out.keep hb)
  replace Ry := Lib.hid (Ry.out.keep hb)
  replace HB := Lib.hid (HB.out.trans (hb.mono HB.out.size))
  clear hb
  obtain ⟨Lz, eL⟩ : ∃ L, L = canon (n0 * n2) := ⟨_, rfl⟩
  rw [← eL] at rd ⊢
  have Ez := Lib.hid eL
  have Vz : Hid (bval Lz = n0 * n2) := by show _ = _; rw [eL, bval_canon]
  have Fz : Hid (Lz.length ≤ 1048576) := by show _ ≤ _; rw [eL]; exact Nat.le_trans (Fits.len (T0.mul T2)) (by decide)
  have Rz := Lib.hid rd
  clear eL rd
  go_wp2_with fail
  refine (add_two ady adz capy capz Ly Lz w21 _ _ Ry.out Rz.out Vy.out Vz.out Fy.out Fz.out).mono ?_
  rintro e w22 ⟨adv, capv, rfl, rd, hb⟩
  replace R0 := Lib.hid (R0.out.keep hb)
  replace R1 := Lib.hid (R1.out.keep hb)
  replace R2 := Lib.hid (R2.out.keep hb)
  replace Rs := Lib.hid (Rs.out.keep hb)
  replace Rd_ := Lib.hid (Rd_.out.keep hb)
  replace Ru := Lib.hid (Ru.out.keep hb)
  replace Rx := Lib.hid (Rx.out.keep hb)
  replace Ry := Lib.hid (Ry.out.keep hb)
  replace Rz := Lib.hid (Rz.out.keep hb)
  replace HB := Lib.hid (HB.out.trans (hb.mono HB.out.size))
  clear hb
  obtain ⟨Lv, eL⟩ : ∃ L, L = canon (n0 * n1 + n0 * n2) := ⟨_, rfl⟩
  rw [← eL] at rd ⊢
  have Ev := Lib.hid eL
  have Vv : Hid (bval Lv = n0 * n1 + n0 * n2) := by show _ = _; rw [eL, bval_canon]
  have Fv : Hid (Lv.length ≤ 1048576) := by show _ ≤ _; rw [eL]; exact Nat.le_trans (Fits.len ((T0.mul T1).add (T0.mul T2))) (by decide)
  have Rv := Lib.hid rd
  clear eL rd
  go_wp2_with fail
  refine (equal_two adx adv capx capv Lx Lv w22 Rx.out Rv.out (by rw [Ex.out, Ev.out]; congr 1; exact Nat.mul_add _ _ _)).mono ?_
  rintro e w23 ⟨rfl, hb⟩
  replace R0 := Lib.hid (R0.out.keep hb)
  replace R1 := Lib.hid (R1.out.keep hb)
  replace R2 := Lib.hid (R2.out.keep hb)
  replace Rs := Lib.hid (Rs.out.keep hb)
  replace Rd_ := Lib.hid (Rd_.out.keep hb)
  replace Ru := Lib.hid (Ru.out.keep hb)
  replace Rx := Lib.hid (Rx.out.keep hb)
  replace Ry := Lib.hid (Ry.out.keep hb)
  replace Rz := Lib.hid (Rz.out.keep hb)
  replace Rv := Lib.hid (Rv.out.keep hb)
  replace HB := Lib.hid (HB.out.trans (hb.mono HB.out.size))
  clear hb
  clear Eu Vu Fu Ru
  clear Ex Vx Fx Rx
  clear Ey Vy Fy Ry
  clear Ez Vz Fz Rz
  clear Ev Vv Fv Rv
  go_wp2_with fail
  refine (trim_one ad0 cap0 L0 w23 _ R0.out V0.out F0.out).mono ?_
  rintro e w24 ⟨adt, capt, rfl, rd, hb⟩
  replace R0 := Lib.hid (R0.out.keep hb)
  replace R1 := Lib.hid (R1.out.keep hb)
  replace R2 := Lib.hid (R2.out.keep hb)
  replace Rs := Lib.hid (Rs.out.keep hb)
  replace Rd_ := Lib.hid (Rd_.out.keep hb)
  replace HB := Lib.hid (HB.out.trans (hb.mono HB.out.size))
  clear hb
  obtain ⟨Lt, eL⟩ : ∃ L, L = canon (n0) := ⟨_, rfl⟩
  rw [← eL] at rd ⊢
  have Et := Lib.hid eL
  have Vt : Hid (bval Lt = n0) := by show _ = _; rw [eL, bval_canon]
  have Ft : Hid (Lt.length ≤ 1048576) := by show _ ≤ _; rw [eL]; exact Nat.le_trans (Fits.len (T0)) (by decide)
  have Rt := Lib.hid rd
  clear eL rd
  go_wp2_with fail
  refine (equal_two add_ adt capd capt Ld Lt w24 Rd_.out Rt.out (by rw [Ed.out, Et.out, Nat.add_sub_cancel])).mono ?_
  rintro e w25 ⟨rfl, hb⟩
  replace R0 := Lib.hid (R0.out.keep hb)
  replace R1 := Lib.hid (R1.out.keep hb)
  replace R2 := Lib.hid (R2.out.keep hb)
  replace Rs := Lib.hid (Rs.out.keep hb)
  replace Rd_ := Lib.hid (Rd_.out.keep hb)
  replace Rt := Lib.hid (Rt.out.keep hb)
  replace HB := Lib.hid (HB.out.trans (hb.mono HB.out.size))
  clear hb
  go_wp2
  go_ret
  exact ⟨rfl, HB.out⟩


theorem bigLaws_large (ad0 : Option Addr) (cap0 : Nat) (L0 : List Int) (ad1 : Option Addr) (cap1 : Nat) (L1 : List Int) (ad2 : Option Addr) (cap2 : Nat) (L2 : List Int) (w : World)
    (h : 40 < L0.length ∨ 40 < L1.length ∨ 40 < L2.length) :
    Calls Try.prog 4 #[.slice ad0 L0.length cap0, .slice ad1 L1.length cap1, .slice ad2 L2.length cap2] w (TruePost w) := by
  by_cases l0 : 40 < L0.length
  · have t0 : decide ((40 : Int) < (L0.length : Int)) = true := by simp; omega
    clear h
    go_enter Try.func4, Try.ntmps4
    go_wp2_with (go_at_call 7; refine (bigs_any w).mono ?_; rintro e w1 ⟨rfl, hb⟩)
    go_ret
    exact ⟨rfl, hb⟩
  have t0 : decide ((40 : Int) < (L0.length : Int)) = false := by simp; omega
  by_cases l1 : 40 < L1.length
  · have t1 : decide ((40 : Int) < (L1.length : Int)) = true := by simp; omega
    clear h
    go_enter Try.func4, Try.ntmps4
    go_wp2_with (go_at_call 7; refine (bigs_any w).mono ?_; rintro e w1 ⟨rfl, hb⟩)
    go_ret
    exact ⟨rfl, hb⟩
  have t1 : decide ((40 : Int) < (L1.length : Int)) = false := by simp; omega
  have l2 : 40 < L2.length := by omega
  have t2 : decide ((40 : Int) < (L2.length : Int)) = true := by simp; omega
  clear h
  go_enter Try.func4, Try.ntmps4
  go_wp2_with (go_at_call 7; refine (bigs_any w).mono ?_; rintro e w1 ⟨rfl, hb⟩)
  go_ret
  exact ⟨rfl, hb⟩

theorem bigLaws_walk (ad0 : Option Addr) (cap0 : Nat) (L0 : List Int) (ad1 : Option Addr) (cap1 : Nat) (L1 : List Int) (ad2 : Option Addr) (cap2 : Nat) (L2 : List Int) (w : World)
    (h0 : Rd .u32 w ad0 cap0 L0) (h1 : Rd .u32 w ad1 cap1 L1) (h2 : Rd .u32 w ad2 cap2 L2) :
    Calls Try.prog 4 #[.slice ad0 L0.length cap0, .slice ad1 L1.length cap1, .slice ad2 L2.length cap2] w (TruePost w) := by
  by_cases h : 40 < L0.length ∨ 40 < L1.length ∨ 40 < L2.length
  · exact bigLaws_large ad0 cap0 L0 ad1 cap1 L1 ad2 cap2 L2 w h
  · exact bigLaws_small ad0 cap0 L0 ad1 cap1 L1 ad2 cap2 L2 w h0 h1 h2 (by omega) (by omega) (by omega)
end Go.Proofs.Ytfkboaflfabmlaa
