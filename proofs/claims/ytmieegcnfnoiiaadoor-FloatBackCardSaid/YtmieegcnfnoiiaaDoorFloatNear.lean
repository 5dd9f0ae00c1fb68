/-
  The walk of typecasekeep.FloatNear. No conditions.
-/
import Derived.Test.YtmieegcnfnoiiaaDoorExact
import Derived.Test.YtmieegcnfnoiiaaDoorFloatOrder
namespace Go.Proofs.YtmieegcnfnoiiaaDoor
open Go.RowKit Gx
set_option maxRecDepth 100000

theorem andnot_sign (b : Nat) (hb : b < 18446744073709551616) : bits BinOp.andNot IntKind.u64 (b : Int) 9223372036854775808 = ((b % 9223372036854775808 : Nat) : Int) := by
  have h1 : (BitVec.ofInt 64 (b : Int)).toNat = b := by
    rw [BitVec.ofInt_natCast, BitVec.toNat_ofNat]; exact Nat.mod_eq_of_lt (by omega)
  have h2 : (~~~ (BitVec.ofInt 64 9223372036854775808)).toNat = 2 ^ 63 - 1 := by decide
  show IntKind.u64.wrap ((BitVec.ofInt 64 (b : Int) &&& ~~~ (BitVec.ofInt 64 9223372036854775808)).toNat : Int) = _
  rw [BitVec.toNat_and, h1, h2, Nat.and_two_pow_sub_one_eq_mod, IntKind.wrap_u64]
  have h3 : (2 : Nat) ^ 63 = 9223372036854775808 := by decide
  rw [h3]
  omega

theorem pow_up (e : Int) (w : World) (h : e ≤ 1000) : Calls Tryd.prog 13 #[.int .u32 10, .int .i64 (max e 0)] w (SubPost (tenUp e) w) := by
  have h1 := bigPow_any 10 e.toNat w (by decide) (by omega)
  have h2 : max e 0 = ((e.toNat : Nat) : Int) := by omega
  rw [h2]
  exact h1
theorem pow_dn (e : Int) (w : World) (h : -1000 ≤ e) : Calls Tryd.prog 13 #[.int .u32 10, .int .i64 (max (-e) 0)] w (SubPost (tenDn e) w) := pow_up (-e) w (by omega)

def Lim : Nat := 18014398509481983 * 2 ^ 970
theorem lim_of (K : Nat) (h : K = 970) : Lim = 18014398509481983 * 2 ^ K := by rw [h]; rfl
theorem lim_fits : Fits Lim 33 := by
  obtain ⟨K, hK⟩ : ∃ K : Nat, K = 970 := ⟨_, rfl⟩
  rw [lim_of K hK]
  have h1 : Fits 18014398509481983 2 := by unfold Fits; decide
  exact h1.mul (two_fitsK K 31 (by omega))
theorem lim_shift (ad : Option Addr) (w : World) (h : Rd .u32 w ad 2 [4294967295, 4194303]) : Calls Tryd.prog 16 #[.slice ad 2 2, .int .i64 970] w (SubPost Lim w) := by
  obtain ⟨K, hK⟩ : ∃ K : Nat, K = 970 := ⟨_, rfl⟩
  have h1 := shift_left' ad 2 [4294967295, 4194303] K 18014398509481983 w h (by decide) (by decide) (by omega)
  rw [← lim_of K hK] at h1
  have h2 : (970 : Int) = (K : Int) := by omega
  rw [h2]
  exact h1
theorem lim_mid (K : Nat) (hK : K = 1075) : fmid 9218868437227405311 = Lim * 2 ^ K := by
  obtain ⟨E, hE⟩ : ∃ E : Nat, E = 2045 := ⟨_, rfl⟩
  obtain ⟨F, hF⟩ : ∃ F : Nat, F = 970 := ⟨_, rfl⟩
  have h1 : 9218868437227405311 = E * 4503599627370496 + 9007199254740991 := by omega
  rw [h1, fmid_of 9007199254740991 E (by omega) (.inr (by omega)), lim_of F hF, Nat.mul_assoc, ← Nat.pow_add, show F + K = E by omega]
theorem lim_le (N D : Nat) (h : Rnd (Y75 N) D 9218868437227405312) : Lim * D ≤ N := by
  obtain ⟨K, hK⟩ : ∃ K : Nat, K = 1075 := ⟨_, rfl⟩
  have h1 := h.lo.resolve_left (by omega)
  have h2 : D * fmid 9218868437227405311 ≤ Y75 N := by
    rcases h1 with h1 | h1
    · exact Nat.le_of_lt h1
    · exact Nat.le_of_eq h1.1
  rw [lim_mid K hK, y75_of N K hK, ← Nat.mul_assoc] at h2
  have h3 := Nat.le_of_mul_le_mul_right h2 (Nat.two_pow_pos K)
  rw [Nat.mul_comm]
  exact h3

theorem y75_x74 (N : Nat) : Y75 N = 2 * X74 N := by
  obtain ⟨K, hK⟩ : ∃ K : Nat, K = 1074 := ⟨_, rfl⟩
  rw [y75_of N (K + 1) (by omega), x74_of N K hK, Nat.pow_succ, ← Nat.mul_assoc, Nat.mul_comm]
theorem near_fin {N D b o A B C E X Y U V : Nat} (h : Rnd (Y75 N) D b) (hD : 0 < D) (hb : b < 9218868437227405312) (ho : o < 9218868437227405312) (hA : IsFrac b A B) (hC : IsFrac o C E) (hX : ApartIs N D A B X Y) (hU : ApartIs N D C E U V) (hne : b ≠ o) :
    X * V < U * Y ∨ (X * V = U * Y ∧ b % 2 = 0) := by
  obtain ⟨rfl, rfl⟩ := hX
  obtain ⟨rfl, rfl⟩ := hU
  obtain ⟨a1, a2⟩ := hA
  obtain ⟨c1, c2⟩ := hC
  obtain ⟨K, hK⟩ : ∃ K : Nat, K = 1074 := ⟨_, rfl⟩
  rw [Nat.mod_eq_of_lt (by omega), x74_of _ K hK] at a1 c1
  have h1 := near_far (y75_x74 N) h hD (by omega) hne
  rw [x74_of _ K hK] at h1
  have h2 := dist_parts (n := N) (D := D) (Nat.two_pow_pos K) a2 c2 a1 c1
  rcases h1 with h1 | h1
  · exact .inl ((h2.1 h1).resolve_right (by omega))
  · exact .inr ⟨h2.2 h1.1, h1.2⟩

set_option maxHeartbeats 4000000 in
theorem floatNear_out (ad : Option Addr) (ca n0 : Nat) (e : Int) (o : Nat) (w : World) (ho : o < 18446744073709551616) (h : 10 < n0 ∨ e < -400 ∨ 400 < e ∨ 9218868437227405312 ≤ o % 9223372036854775808) :
    Calls Tryd.prog 5 #[.slice ad n0 ca, .int .i64 e, .int .u64 o] w (TruePost2 w) := by
  have H := Lib.hid (floats_any w)
  have ha := andnot_sign o ho
  generalize o % 9223372036854775808 = p at *
  by_cases h0 : 10 < n0
  · have t0 : decide ((10 : Int) < (n0 : Int)) = true := decide_eq_true (by omega)
    clear h h0 ho
    go_enter Tryd.func5, Tryd.ntmps5
    go_wp2_with fail
    refine H.out.mono ?_
    rintro e w1 ⟨rfl, rfl⟩
    go_wp2
    go_ret
    exact ⟨rfl, Below.refl _ _⟩
  have t0 : decide ((10 : Int) < (n0 : Int)) = false := decide_eq_false (by omega)
  by_cases h2 : e < -400
  · have t2 : decide (e < -400) = true := decide_eq_true (by omega)
    clear h h0 h2 ho
    go_enter Tryd.func5, Tryd.ntmps5
    go_wp2_with fail
    refine H.out.mono ?_
    rintro e w1 ⟨rfl, rfl⟩
    go_wp2
    go_ret
    exact ⟨rfl, Below.refl _ _⟩
  have t2 : decide (e < -400) = false := decide_eq_false (by omega)
  by_cases h3 : 400 < e
  · have t3 : decide (400 < e) = true := decide_eq_true (by omega)
    clear h h0 h2 h3 ho
    go_enter Tryd.func5, Tryd.ntmps5
    go_wp2_with fail
    refine H.out.mono ?_
    rintro e w1 ⟨rfl, rfl⟩
    go_wp2
    go_ret
    exact ⟨rfl, Below.refl _ _⟩
  have t3 : decide (400 < e) = false := decide_eq_false (by omega)
  have t5 : decide ((9218868437227405312 : Int) ≤ (p : Int)) = true := decide_eq_true (by omega)
  clear h h0 h2 h3 ho
  go_enter Tryd.func5, Tryd.ntmps5
  go_wp2_with fail
  refine H.out.mono ?_
  rintro e w1 ⟨rfl, rfl⟩
  go_wp2
  go_ret
  exact ⟨rfl, Below.refl _ _⟩

set_option maxHeartbeats 4000000 in
theorem floatNear_in (ad : Option Addr) (ca : Nat) (xs : List Int) (e : Int) (o : Nat) (w : World) (h : Rd .u32 w ad ca xs) (l0 : xs.length ≤ 10) (e1 : -400 ≤ e) (e2 : e ≤ 400) (ho : o < 18446744073709551616) (ho2 : o % 9223372036854775808 < 9218868437227405312) :
    Calls Tryd.prog 5 #[.slice ad xs.length ca, .int .i64 e, .int .u64 o] w (TruePost2 w) := by
  have HF := Lib.hid (floats_any w)
  have ha := andnot_sign o ho
  obtain ⟨p, hp⟩ : ∃ p, p = o % 9223372036854775808 := ⟨_, rfl⟩
  rw [← hp] at ha ho2
  obtain ⟨x, hx⟩ : ∃ x, x = bval xs := ⟨_, rfl⟩
  have fx : Fits x 10 := by rw [hx]; exact (Fits.words (words_of_rd h)).mono l0
  have bx := blen_of_fits _ _ fx
  have fu : Fits (tenUp e) 51 := ten_fitsK _ 51 (by omega)
  have fd : Fits (tenDn e) 51 := ten_fitsK _ 51 (by omega)
  have lu := fu.len
  have ld := fd.len
  have lxu := (fx.mul fu).len
  have lL := lim_fits.len
  have lLd := (lim_fits.mul fd).len
  have H1 := fun w0 (hb : Below w.heap.size w w0) => near_two' ad ca xs w0 x e (h.keep hb) hx.symm (by omega) (by omega) (by omega) (by omega)
  have HU := fun w0 => pow_up e w0 (by omega)
  have HD := fun w0 => pow_dn e w0 (by omega)
  have HM := fun w0 (hb : Below w.heap.size w w0) po pc (hr : Rd .u32 w0 po pc (canon (tenUp e))) => mul_two ad po ca pc xs (canon (tenUp e)) w0 x (tenUp e) (h.keep hb) hr hx.symm (bval_canon _) (by omega) (by omega)
  have hd0 := tenDn_pos e
  generalize tenUp e = U at *
  generalize tenDn e = D at *
  have HL := fun w0 ad (hr : Rd .u32 w0 ad 2 [4294967295, 4194303]) => lim_shift ad w0 hr
  have HML := fun w0 po pc qo qc (hr : Rd .u32 w0 po pc (canon Lim)) (hq : Rd .u32 w0 qo qc (canon D)) => mul_two po qo pc qc (canon Lim) (canon D) w0 Lim D hr hq (bval_canon _) (bval_canon _) (by omega) (by omega)
  have HCL := fun w0 po pc qo qc (hr : Rd .u32 w0 po pc (canon (x * U))) (hq : Rd .u32 w0 qo qc (canon (Lim * D))) => cmp_two' po qo pc qc (canon (x * U)) (canon (Lim * D)) w0 (x * U) (Lim * D) hr hq (bval_canon _) (bval_canon _) (by omega) (by omega)
  have HE := fun b w0 (hb : b < 9218868437227405312) => exact_any b w0 (by omega) (by omega)
  have HA := fun w0 po pc qo qc ao ac bo bc (asl bsl : List Int) (hr : Rd .u32 w0 po pc (canon (x * U))) (hq : Rd .u32 w0 qo qc (canon D)) (ha : Rd .u32 w0 ao ac asl) (hb : Rd .u32 w0 bo bc bsl) (la : asl.length ≤ 40) (lb : bsl.length ≤ 40) =>
    apart_any po qo ao bo pc qc ac bc (canon (x * U)) (canon D) asl bsl (x * U) D (bval asl) (bval bsl) w0 hr hq ha hb (bval_canon _) (bval_canon _) rfl rfl (by omega) (by omega) (by omega) (by omega)
  have HM2 := fun w0 ao ac bo bc (asl bsl : List Int) (ha : Rd .u32 w0 ao ac asl) (hb : Rd .u32 w0 bo bc bsl) (la : asl.length ≤ 400) (lb : bsl.length ≤ 400) =>
    mul_two ao bo ac bc asl bsl w0 (bval asl) (bval bsl) ha hb rfl rfl (by omega) (by omega)
  have HC2 := fun w0 po pc qo qc (P Q : Nat) (hr : Rd .u32 w0 po pc (canon P)) (hq : Rd .u32 w0 qo qc (canon Q)) (lp : (canon P).length ≤ 1000000) (lq : (canon Q).length ≤ 1000000) => cmp_two' po qo pc qc (canon P) (canon Q) w0 P Q hr hq (bval_canon _) (bval_canon _) lp lq
  have hlim : ∀ b, 9218868437227405312 ≤ b → Rnd (Y75 (x * U)) D b → Lim * D ≤ x * U := by
    intro b hb h
    have := h.le
    obtain rfl : b = 9218868437227405312 := by omega
    exact lim_le _ _ h
  unfold NearPost at H1
  unfold SubPost at HU HD HL
  unfold WordsPost at HM HML HM2
  unfold CmpPost at HCL HC2
  unfold PairPost at HE HA
  generalize Lim = L at *
  obtain ⟨n0, hn0⟩ : ∃ n, n = xs.length := ⟨_, rfl⟩
  rw [← hn0] at H1 HM l0 ⊢
  replace H1 := Lib.hid H1
  replace HU := Lib.hid HU
  replace HD := Lib.hid HD
  replace HM := Lib.hid HM
  replace HL := Lib.hid HL
  replace HML := Lib.hid HML
  replace HCL := Lib.hid HCL
  replace HE := Lib.hid HE
  replace HA := Lib.hid HA
  replace HM2 := Lib.hid HM2
  replace HC2 := Lib.hid HC2
  replace hlim := Lib.hid hlim
  have t0 : decide ((10 : Int) < (n0 : Int)) = false := decide_eq_false (by omega)
  have t2 : decide (e < -400) = false := decide_eq_false (by omega)
  have t3 : decide (400 < e) = false := decide_eq_false (by omega)
  have t4 : decide ((9218868437227405312 : Int) ≤ (p : Int)) = false := decide_eq_false (by omega)
  have HD0 := Lib.hid hd0
  have HO2 := Lib.hid ho2
  clear h hx fx bx fu fd lu ld lxu lL lLd hn0 l0 hd0 hp ho2 ho
  go_enter Tryd.func5, Tryd.ntmps5
  go_wp2_with fail
  refine HF.out.mono ?_
  rintro e0 w1 ⟨rfl, rfl⟩
  go_wp2_with fail
  refine (H1.out w (Below.refl _ _)).mono ?_
  rintro e0 w1 ⟨b, rfl, hr, hb⟩
  have R1 := Lib.hid hr
  have B1 := Lib.hid hb
  clear hr hb
  by_cases hinf : 9218868437227405312 ≤ b
  · have t6 : decide ((9218868437227405312 : Int) ≤ (b : Int)) = true := decide_eq_true (by omega)
    have hle := hlim.out b hinf R1.out
    have HCC : decide (0 ≤ cmpOf (x * U) (L * D)) = true := by
      refine decide_eq_true ?_
      unfold cmpOf
      rw [if_neg (by omega)]
      split <;> decide
    have HCC2 := Lib.hid HCC
    clear hinf hle HCC
    have HLR := Lib.hid (pair_rd w1 4294967295 4194303 (by decide) (by decide))
    have BA := Lib.hid (B1.out.alloc B1.out.size (.cells #[.int .u32 4294967295, .int .u32 4194303] 27))
    go_wp2_with fail
    refine (HL.out _ _ HLR.out).mono ?_
    rintro e0 w2 ⟨lo, lc, rfl, hr, hb⟩
    have L2 := Lib.hid hr
    have B2 := Lib.hid (BA.out.trans (hb.mono BA.out.size))
    clear hr hb HLR BA B1
    go_wp2_with fail
    refine (HU.out w2).mono ?_
    rintro e0 w3 ⟨uo, uc, rfl, hr, hb⟩
    have U3 := Lib.hid hr
    have L3 := Lib.hid (L2.out.keep hb)
    have B3 := Lib.hid (B2.out.trans (hb.mono B2.out.size))
    clear hr hb B2 L2
    go_wp2_with fail
    refine (HD.out w3).mono ?_
    rintro e0 w4 ⟨dd, dc, rfl, hr, hb⟩
    have D4 := Lib.hid hr
    have L4 := Lib.hid (L3.out.keep hb)
    have U4 := Lib.hid (U3.out.keep hb)
    have B4 := Lib.hid (B3.out.trans (hb.mono B3.out.size))
    clear hr hb B3 L3 U3
    go_wp2_with fail
    refine (HM.out w4 B4.out _ _ U4.out).mono ?_
    rintro e0 w5 ⟨mo, mc, rfl, hr, hb⟩
    have M5 := Lib.hid hr
    have L5 := Lib.hid (L4.out.keep hb)
    have D5 := Lib.hid (D4.out.keep hb)
    have B5 := Lib.hid (B4.out.trans (hb.mono B4.out.size))
    clear hr hb B4 L4 U4 D4
    go_wp2_with fail
    refine (HML.out w5 _ _ _ _ L5.out D5.out).mono ?_
    rintro e0 w6 ⟨po, pc, rfl, hr, hb⟩
    have P6 := Lib.hid hr
    have M6 := Lib.hid (M5.out.keep hb)
    have B6 := Lib.hid (B5.out.trans (hb.mono B5.out.size))
    clear hr hb B5 L5 D5 M5
    go_wp2_with fail
    refine (HCL.out w6 _ _ _ _ M6.out P6.out).mono ?_
    rintro e0 w7 ⟨rfl, hb⟩
    have B7 := Lib.hid (B6.out.trans (hb.mono B6.out.size))
    clear hb B6 M6 P6
    have HCC := HCC2.out
    generalize cmpOf (x * U) (L * D) = cc at *
    go_wp2
    go_ret
    exact ⟨rfl, B7.out⟩
  · have t6 : decide ((9218868437227405312 : Int) ≤ (b : Int)) = false := decide_eq_false (by omega)
    have hb9 : b < 9218868437227405312 := by omega
    have HB9 := Lib.hid hb9
    clear hinf hb9
    go_wp2_with fail
    refine (HU.out w1).mono ?_
    rintro e0 w3 ⟨uo, uc, rfl, hr, hb⟩
    have U3 := Lib.hid hr
    have B3 := Lib.hid (B1.out.trans (hb.mono B1.out.size))
    clear hr hb B1
    go_wp2_with fail
    refine (HD.out w3).mono ?_
    rintro e0 w4 ⟨dd, dc, rfl, hr, hb⟩
    have D4 := Lib.hid hr
    have U4 := Lib.hid (U3.out.keep hb)
    have B4 := Lib.hid (B3.out.trans (hb.mono B3.out.size))
    clear hr hb B3 U3
    go_wp2_with fail
    refine (HM.out w4 B4.out _ _ U4.out).mono ?_
    rintro e0 w5 ⟨mo, mc, rfl, hr, hb⟩
    have M5 := Lib.hid hr
    have D5 := Lib.hid (D4.out.keep hb)
    have B5 := Lib.hid (B4.out.trans (hb.mono B4.out.size))
    clear hr hb B4 U4 D4
    go_wp2_with fail
    refine (HE.out b w5 HB9.out).mono ?_
    rintro e0 w6 ⟨ao, ac, asl, bo, bc, bsl, rfl, hr, hr2, l1, l2, hf, hb⟩
    have A6 := Lib.hid hr
    have C6 := Lib.hid hr2
    have M6 := Lib.hid (M5.out.keep hb)
    have D6 := Lib.hid (D5.out.keep hb)
    have B6 := Lib.hid (B5.out.trans (hb.mono B5.out.size))
    have LA := Lib.hid l1
    have LB := Lib.hid l2
    have FR := Lib.hid hf
    clear hr hr2 l1 l2 hf hb M5 D5 B5
    go_wp2_with fail
    refine (HE.out p w6 HO2.out).mono ?_
    rintro e0 w7 ⟨co, cc, csl, do_, dc2, dsl, rfl, hr, hr2, l1, l2, hf, hb⟩
    have E7 := Lib.hid hr
    have F7 := Lib.hid hr2
    have A7 := Lib.hid (A6.out.keep hb)
    have C7 := Lib.hid (C6.out.keep hb)
    have M7 := Lib.hid (M6.out.keep hb)
    have D7 := Lib.hid (D6.out.keep hb)
    have B7 := Lib.hid (B6.out.trans (hb.mono B6.out.size))
    have LC := Lib.hid l1
    have LD := Lib.hid l2
    have FO := Lib.hid hf
    clear hr hr2 l1 l2 hf hb M6 D6 B6 A6 C6
    go_wp2_with fail
    refine (HA.out w7 _ _ _ _ _ _ _ _ asl bsl M7.out D7.out A7.out C7.out LA.out LB.out).mono ?_
    rintro e0 w8 ⟨xo, xc, x2, yo, yc, y2, rfl, hr, hr2, l1, l2, hf, hb⟩
    have X8 := Lib.hid hr
    have Y8 := Lib.hid hr2
    have E8 := Lib.hid (E7.out.keep hb)
    have F8 := Lib.hid (F7.out.keep hb)
    have M8 := Lib.hid (M7.out.keep hb)
    have D8 := Lib.hid (D7.out.keep hb)
    have B8 := Lib.hid (B7.out.trans (hb.mono B7.out.size))
    have LX := Lib.hid l1
    have LY := Lib.hid l2
    have FX := Lib.hid hf
    clear hr hr2 l1 l2 hf hb M7 D7 B7 A7 C7 E7 F7
    go_wp2_with fail
    refine (HA.out w8 _ _ _ _ _ _ _ _ csl dsl M8.out D8.out E8.out F8.out LC.out LD.out).mono ?_
    rintro e0 w9 ⟨uo2, uc2, u2, vo, vc, v2, rfl, hr, hr2, l1, l2, hf, hb⟩
    have U9 := Lib.hid hr
    have V9 := Lib.hid hr2
    have X9 := Lib.hid (X8.out.keep hb)
    have Y9 := Lib.hid (Y8.out.keep hb)
    have B9 := Lib.hid (B8.out.trans (hb.mono B8.out.size))
    have hlaw : b ≠ p → bval x2 * bval v2 < bval u2 * bval y2 ∨ (bval x2 * bval v2 = bval u2 * bval y2 ∧ b % 2 = 0) :=
      near_fin R1.out HD0.out HB9.out HO2.out FR.out FO.out FX.out hf
    have HLAW := Lib.hid hlaw
    have q1 := ((Fits.words (words_of_rd X9.out)).mul (Fits.words (words_of_rd V9.out))).len
    have q2 := ((Fits.words (words_of_rd U9.out)).mul (Fits.words (words_of_rd Y9.out))).len
    have lx := LX.out
    have ly := LY.out
    have Q1 : Hid ((canon (bval x2 * bval v2)).length ≤ 1000000) := by show _ ≤ _; omega
    have Q2 : Hid ((canon (bval u2 * bval y2)).length ≤ 1000000) := by show _ ≤ _; omega
    have LU := Lib.hid l1
    have LV := Lib.hid l2
    clear hr hr2 l1 l2 hf hb M8 D8 B8 X8 Y8 E8 F8 hlaw q1 q2 lx ly
    go_wp2_with fail
    refine (HM2.out w9 _ _ _ _ _ _ X9.out V9.out LX.out LV.out).mono ?_
    rintro e0 wa ⟨ro, rc, rfl, hr, hb⟩
    have RA := Lib.hid hr
    have UA := Lib.hid (U9.out.keep hb)
    have YA := Lib.hid (Y9.out.keep hb)
    have BA := Lib.hid (B9.out.trans (hb.mono B9.out.size))
    clear hr hb B9 X9 Y9 U9 V9
    go_wp2_with fail
    refine (HM2.out wa _ _ _ _ _ _ UA.out YA.out LU.out LY.out).mono ?_
    rintro e0 wb ⟨so, sc, rfl, hr, hb⟩
    have SB := Lib.hid hr
    have RB := Lib.hid (RA.out.keep hb)
    have BB := Lib.hid (BA.out.trans (hb.mono BA.out.size))
    clear hr hb BA UA YA RA
    go_wp2_with fail
    refine (HC2.out wb _ _ _ _ _ _ RB.out SB.out Q1.out Q2.out).mono ?_
    rintro e0 wc ⟨rfl, hb⟩
    have BC := Lib.hid (BB.out.trans (hb.mono BB.out.size))
    clear hb BB RB SB
    have hand := and_one b (by have := HB9.out; omega)
    by_cases hbp : b = p
    · subst hbp
      generalize cmpOf (bval x2 * bval v2) (bval u2 * bval y2) = q at *
      by_cases hq : q < 0
      · have t7 : decide (q < 0) = true := decide_eq_true hq
        clear hq
        go_wp2
        go_ret
        exact ⟨rfl, BC.out⟩
      · have t7 : decide (q < 0) = false := decide_eq_false hq
        clear hq
        go_wp2
        go_ret
        exact ⟨rfl, BC.out⟩
    · rcases HLAW.out hbp with hl | ⟨hl, hl2⟩
      · rw [cmp_lt hl]
        clear hl hbp
        go_wp2
        go_ret
        exact ⟨rfl, BC.out⟩
      · rw [cmp_eq hl]
        rw [hl2] at hand
        have t8 : decide ((b : Int) = (p : Int)) = false := decide_eq_false (by omega)
        have t9 : ((b : Int) == (p : Int)) = false := by rw [beq_eq_false_iff_ne]; omega
        clear hl hl2 hbp
        go_wp2
        go_ret
        exact ⟨rfl, BC.out⟩

theorem floatNear_walk (ad : Option Addr) (ca : Nat) (xs : List Int) (e : Int) (o : Nat) (w : World) (h : Rd .u32 w ad ca xs) (ho : o < 18446744073709551616) :
    Calls Tryd.prog 5 #[.slice ad xs.length ca, .int .i64 e, .int .u64 o] w (TruePost2 w) := by
  by_cases hc : 10 < xs.length ∨ e < -400 ∨ 400 < e ∨ 9218868437227405312 ≤ o % 9223372036854775808
  · exact floatNear_out ad ca _ e o w ho hc
  · exact floatNear_in ad ca xs e o w h (by omega) (by omega) (by omega) ho (by omega)
end Go.Proofs.YtmieegcnfnoiiaaDoor
