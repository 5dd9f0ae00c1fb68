/-
  The walk of typecasekeep.BigBack. No conditions.
-/
import Derived.Test.YtfkboaflfabmlaaDivMod
import Derived.Test.YtfkboaflfabmlaaBigLawsWalk
namespace Go.Proofs.Ytfkboaflfabmlaa
open Go.RowKit Gx

section
variable (ad bd : Option Addr) (ca cb : Nat) (xs ys : List Int) (w : World)
theorem cmp_two (N M : Nat) (h : Rd .u32 w ad ca xs) (g : Rd .u32 w bd cb ys) (hx : bval xs = N) (hy : bval ys = M) (lx : xs.length ≤ 1000000) (ly : ys.length ≤ 1000000) :
    Calls Try.prog 12 #[.slice ad xs.length ca, .slice bd ys.length cb] w (CmpPost N M w) := by
  subst hx; subst hy; exact bigCmp_any ad bd ca cb xs ys w h g (by omega) (by omega)
theorem divMod_two (N M : Nat) (h : Rd .u32 w ad ca xs) (g : Rd .u32 w bd cb ys) (hx : bval xs = N) (hy : bval ys = M) (lx : xs.length ≤ 1000000) (ly : ys.length ≤ 1000000) (h0 : M ≠ 0) :
    Calls Try.prog 19 #[.slice ad xs.length ca, .slice bd ys.length cb] w (DivModPost (N / M) (N % M) w) := by
  subst hx; subst hy; exact divMod_any ad bd ca cb xs ys w h g lx ly h0
end

set_option maxHeartbeats 1000000 in
theorem bigBack_large (ad0 : Option Addr) (cap0 : Nat) (L0 : List Int) (ad1 : Option Addr) (cap1 : Nat) (L1 : List Int) (ad2 : Option Addr) (cap2 : Nat) (L2 : List Int) (w : World)
    (h : 40 < L0.length ∨ 40 < L1.length ∨ 40 < L2.length) :
    Calls Try.prog 6 #[.slice ad0 L0.length cap0, .slice ad1 L1.length cap1, .slice ad2 L2.length cap2] w (TruePost w) := by
  have H := Lib.hid (bigs_any w)
  by_cases h0 : 40 < L0.length
  · have t0 : decide ((40 : Int) < (L0.length : Int)) = true := decide_eq_true (by omega)
    clear h
    go_enter Try.func6, Try.ntmps6
    go_wp2_with fail
    refine H.out.mono ?_
    rintro e w1 ⟨rfl, hb⟩
    go_wp2
    go_ret
    exact ⟨rfl, hb⟩
  have t0 : decide ((40 : Int) < (L0.length : Int)) = false := decide_eq_false (by omega)
  by_cases h1 : 40 < L1.length
  · have t1 : decide ((40 : Int) < (L1.length : Int)) = true := decide_eq_true (by omega)
    clear h
    go_enter Try.func6, Try.ntmps6
    go_wp2_with fail
    refine H.out.mono ?_
    rintro e w1 ⟨rfl, hb⟩
    go_wp2
    go_ret
    exact ⟨rfl, hb⟩
  have t1 : decide ((40 : Int) < (L1.length : Int)) = false := decide_eq_false (by omega)
  have t2 : decide ((40 : Int) < (L2.length : Int)) = true := decide_eq_true (by omega)
  clear h
  go_enter Try.func6, Try.ntmps6
  go_wp2_with fail
  refine H.out.mono ?_
  rintro e w1 ⟨rfl, hb⟩
  go_wp2
  go_ret
  exact ⟨rfl, hb⟩

set_option maxHeartbeats 4000000 in
theorem bigBack_small (ad0 : Option Addr) (cap0 : Nat) (L0 : List Int) (ad1 : Option Addr) (cap1 : Nat) (L1 : List Int) (ad2 : Option Addr) (cap2 : Nat) (L2 : List Int) (w : World)
    (h0 : Rd .u32 w ad0 cap0 L0) (h1 : Rd .u32 w ad1 cap1 L1) (h2 : Rd .u32 w ad2 cap2 L2) (l0 : L0.length ≤ 40) (l1 : L1.length ≤ 40) (l2 : L2.length ≤ 40) :
    Calls Try.prog 6 #[.slice ad0 L0.length cap0, .slice ad1 L1.length cap1, .slice ad2 L2.length cap2] w (TruePost w) := by
  have HS := Lib.hid (bigs_any w)
  have t0 : decide ((40 : Int) < (L0.length : Int)) = false := decide_eq_false (by omega)
  have t1 : decide ((40 : Int) < (L1.length : Int)) = false := decide_eq_false (by omega)
  have t2 : decide ((40 : Int) < (L2.length : Int)) = false := decide_eq_false (by omega)
  have f0 : Fits (bval L0) 40 := (Fits.words (words_of_rd h0)).mono l0
  have f1 : Fits (bval L1) 40 := (Fits.words (words_of_rd h1)).mono l1
  have f2 : Fits (bval L2) 40 := (Fits.words (words_of_rd h2)).mono l2
  obtain ⟨x, hx⟩ : ∃ n, n = bval L0 := ⟨_, rfl⟩
  obtain ⟨y, hy⟩ : ∃ n, n = bval L1 := ⟨_, rfl⟩
  obtain ⟨z, hz⟩ : ∃ n, n = bval L2 := ⟨_, rfl⟩
  rw [← hx] at f0
  rw [← hy] at f1
  rw [← hz] at f2
  have V0 := Lib.hid hx.symm
  have V1 := Lib.hid hy.symm
  have V2 := Lib.hid hz.symm
  have R0 := Lib.hid h0
  have R1 := Lib.hid h1
  have R2 := Lib.hid h2
  obtain ⟨n0, hn0⟩ : ∃ n, n = L0.length := ⟨_, rfl⟩
  obtain ⟨n1, hn1⟩ : ∃ n, n = L1.length := ⟨_, rfl⟩
  obtain ⟨n2, hn2⟩ : ∃ n, n = L2.length := ⟨_, rfl⟩
  have N0 := Lib.hid hn0
  have N1 := Lib.hid hn1
  have N2 := Lib.hid hn2
  have M0 := Lib.hid l0
  have M1 := Lib.hid l1
  have M2 := Lib.hid l2
  rw [← hn0, ← hn1, ← hn2]
  rw [← hn0] at t0
  rw [← hn1] at t1
  rw [← hn2] at t2
  clear h0 h1 h2 hx hy hz hn0 hn1 hn2 l0 l1 l2
  by_cases hy0 : y = 0
  · have HD := Lib.hid (fun w0 (hb : Below w.heap.size w w0) => divMod_zero ad0 ad1 cap0 cap1 L0 L1 w0 (R1.out.keep hb) (by have := M1.out; omega) (V1.out.trans hy0))
    have HL := fun w0 (hb : Below w.heap.size w w0) => bigLen_any ad1 cap1 L1 w0 (R1.out.keep hb) (by have := M1.out; omega)
    unfold LenPost at HL
    rw [V1.out, (blen_zero y).2 hy0] at HL
    replace HL := Lib.hid HL
    rw [← N0.out, ← N1.out] at HD
    rw [← N1.out] at HL
    clear f0 f1 f2 hy0
    go_enter Try.func6, Try.ntmps6
    go_wp2_with fail
    refine HS.out.mono ?_
    rintro e w1 ⟨rfl, hb⟩
    have B1 := Lib.hid hb
    clear hb
    go_wp2_with fail
    refine (HD.out w1 B1.out).mono ?_
    rintro e w2 ⟨rfl, hb⟩
    have B2 := Lib.hid (B1.out.trans (hb.mono B1.out.size))
    clear hb B1
    go_wp2_with fail
    refine (HL.out w2 B2.out).mono ?_
    rintro e w' ⟨rfl, rfl⟩
    go_wp2
    go_ret
    exact ⟨rfl, B2.out⟩
  have fq : Fits (x / y) 40 := Nat.lt_of_le_of_lt (Nat.div_le_self _ _) f0
  have fr : Fits (x % y) 40 := Nat.lt_of_le_of_lt (Nat.mod_le _ _) f0
  have hrlt : x % y < y := Nat.mod_lt _ (by omega)
  have hxe : x / y * y + x % y = x := by rw [Nat.mul_comm]; exact Nat.div_add_mod x y
  have l80 := (fq.mul f1).len
  have l81 := ((fq.mul f1).add (fr.mono (show 40 ≤ 40 + 40 by decide))).len
  rw [hxe] at l81
  have lq := fq.len
  have lr := fr.len
  have l0 := f0.len
  have l1 := f1.len
  have l2 := f2.len
  have lab := (f0.mul f1).len
  have labr := ((f0.mul f1).add (f2.mono (show 40 ≤ 40 + 40 by decide))).len
  have HD := fun w0 (hb : Below w.heap.size w w0) => divMod_two ad0 ad1 cap0 cap1 L0 L1 w0 x y (R0.out.keep hb) (R1.out.keep hb) V0.out V1.out (by have := M0.out; omega) (by have := M1.out; omega) hy0
  have HL := fun w0 (hb : Below w.heap.size w w0) => bigLen_any ad1 cap1 L1 w0 (R1.out.keep hb) (by have := M1.out; omega)
  unfold LenPost at HL
  rw [V1.out] at HL
  have hbl : blen y ≠ 0 := fun h => hy0 ((blen_zero y).1 h)
  obtain ⟨bl, hble⟩ : ∃ b, b = blen y := ⟨_, rfl⟩
  rw [← hble] at HL hbl
  obtain ⟨e1, e2, e3⟩ := kcn hbl
  have HC1 := fun w0 (hb : Below w.heap.size w w0) ro rc (hr : Rd .u32 w0 ro rc (canon (x % y))) => cmp_two ro ad1 rc cap1 (canon (x % y)) L1 w0 (x % y) y hr (R1.out.keep hb) (bval_canon _) V1.out (by omega) (by have := M1.out; omega)
  unfold CmpPost at HC1
  rw [cmp_lt hrlt] at HC1
  have HM1 := fun w0 (hb : Below w.heap.size w w0) qo qc (hq : Rd .u32 w0 qo qc (canon (x / y))) => mul_two qo ad1 qc cap1 (canon (x / y)) L1 w0 (x / y) y hq (R1.out.keep hb) (bval_canon _) V1.out (by omega) (by have := M1.out; omega)
  have HA1 := fun w0 mo mc ro rc (hm : Rd .u32 w0 mo mc (canon (x / y * y))) (hr : Rd .u32 w0 ro rc (canon (x % y))) => add_two mo ro mc rc (canon (x / y * y)) (canon (x % y)) w0 (x / y * y) (x % y) hm hr (bval_canon _) (bval_canon _) (by omega) (by omega)
  rw [hxe] at HA1
  have HC2 := fun w0 (hb : Below w.heap.size w w0) so sc (hs : Rd .u32 w0 so sc (canon x)) => cmp_two so ad0 sc cap0 (canon x) L0 w0 x x hs (R0.out.keep hb) (bval_canon _) V0.out (by omega) (by have := M0.out; omega)
  unfold CmpPost at HC2
  rw [cmp_eq rfl] at HC2
  have HC3 := fun w0 (hb : Below w.heap.size w w0) => cmp_two ad2 ad1 cap2 cap1 L2 L1 w0 z y (R2.out.keep hb) (R1.out.keep hb) V2.out V1.out (by have := M2.out; omega) (by have := M1.out; omega)
  have HM2 := fun w0 (hb : Below w.heap.size w w0) => mul_two ad0 ad1 cap0 cap1 L0 L1 w0 x y (R0.out.keep hb) (R1.out.keep hb) V0.out V1.out (by have := M0.out; omega) (by have := M1.out; omega)
  have HA2 := fun w0 (hb : Below w.heap.size w w0) mo mc (hm : Rd .u32 w0 mo mc (canon (x * y))) => add_two mo ad2 mc cap2 (canon (x * y)) L2 w0 (x * y) z hm (R2.out.keep hb) (bval_canon _) V2.out (by omega) (by have := M2.out; omega)
  have HD2 := fun w0 (hb : Below w.heap.size w w0) so sc (hs : Rd .u32 w0 so sc (canon (x * y + z))) => divMod_two so ad1 sc cap1 (canon (x * y + z)) L1 w0 (x * y + z) y hs (R1.out.keep hb) (bval_canon _) V1.out (by omega) (by have := M1.out; omega) hy0
  have HT0 := fun w0 (hb : Below w.heap.size w w0) => trim_one ad0 cap0 L0 w0 x (R0.out.keep hb) V0.out (by have := M0.out; omega)
  have HT2 := fun w0 (hb : Below w.heap.size w w0) => trim_one ad2 cap2 L2 w0 z (R2.out.keep hb) V2.out (by have := M2.out; omega)
  have HE0 := fun w0 ao ac bo bc (ha : Rd .u32 w0 ao ac (canon x)) (hb : Rd .u32 w0 bo bc (canon x)) => equal_two ao bo ac bc (canon x) (canon x) w0 ha hb rfl
  have HE2 := fun w0 ao ac bo bc (ha : Rd .u32 w0 ao ac (canon z)) (hb : Rd .u32 w0 bo bc (canon z)) => equal_two ao bo ac bc (canon z) (canon z) w0 ha hb rfl
  have hqq : z < y → (x * y + z) / y = x ∧ (x * y + z) % y = z := fun h => ⟨by rw [Nat.mul_comm, Nat.mul_add_div (by omega), Nat.div_eq_of_lt h, Nat.add_zero], by rw [Nat.mul_comm, Nat.mul_add_mod, Nat.mod_eq_of_lt h]⟩
  rw [← N0.out] at HD HC2 HM2 HT0
  rw [← N1.out] at HD HL HC1 HM1 HC3 HM2 HD2
  rw [← N2.out] at HC3 HA2 HT2
  unfold DivModPost at HD HD2
  unfold WordsPost at HM1 HA1 HM2 HA2 HT0 HT2
  unfold EqualPost at HE0 HE2
  replace HD := Lib.hid HD
  replace HL := Lib.hid HL
  replace HC1 := Lib.hid HC1
  replace HM1 := Lib.hid HM1
  replace HA1 := Lib.hid HA1
  replace HC2 := Lib.hid HC2
  replace HC3 := Lib.hid HC3
  replace HM2 := Lib.hid HM2
  replace HA2 := Lib.hid HA2
  replace HD2 := Lib.hid HD2
  replace HT0 := Lib.hid HT0
  replace HT2 := Lib.hid HT2
  replace HE0 := Lib.hid HE0
  replace HE2 := Lib.hid HE2
  replace hqq := Lib.hid hqq
  clear f0 f1 f2 fq fr hrlt hxe l80 l81 lq lr l0 l1 l2 lab labr hbl hble hy0 V0 V1 V2 R0 R1 R2 N0 N1 N2 M0 M1 M2
  go_enter Try.func6, Try.ntmps6
  go_wp2_with fail
  refine HS.out.mono ?_
  rintro e w1 ⟨rfl, hb⟩
  have B1 := Lib.hid hb
  clear hb
  go_wp2_with fail
  refine (HD.out w1 B1.out).mono ?_
  rintro e w2 ⟨qo, qc, ro, rc, rfl, hq, hr, hb⟩
  have Q2 := Lib.hid hq
  have S2 := Lib.hid hr
  have B2 := Lib.hid (B1.out.trans (hb.mono B1.out.size))
  clear hb hq hr B1
  go_wp2_with fail
  refine (HL.out w2 B2.out).mono ?_
  rintro e w' ⟨rfl, rfl⟩
  go_wp2_with fail
  refine (HC1.out w2 B2.out _ _ S2.out).mono ?_
  rintro e w3 ⟨rfl, hb⟩
  have Q3 := Lib.hid (Q2.out.keep hb)
  have S3 := Lib.hid (S2.out.keep hb)
  have B3 := Lib.hid (B2.out.trans (hb.mono B2.out.size))
  clear hb B2 Q2 S2
  go_wp2_with fail
  refine (HM1.out w3 B3.out _ _ Q3.out).mono ?_
  rintro e w4 ⟨mo, mc, rfl, hm, hb⟩
  have M4 := Lib.hid hm
  have S4 := Lib.hid (S3.out.keep hb)
  have B4 := Lib.hid (B3.out.trans (hb.mono B3.out.size))
  clear hb hm B3 Q3 S3
  go_wp2_with fail
  refine (HA1.out w4 _ _ _ _ M4.out S4.out).mono ?_
  rintro e w5 ⟨so, sc, rfl, hs, hb⟩
  have T5 := Lib.hid hs
  have B5 := Lib.hid (B4.out.trans (hb.mono B4.out.size))
  clear hb hs B4 M4 S4
  go_wp2_with fail
  refine (HC2.out w5 B5.out _ _ T5.out).mono ?_
  rintro e w6 ⟨rfl, hb⟩
  have B6 := Lib.hid (B5.out.trans (hb.mono B5.out.size))
  clear hb B5 T5
  go_wp2_with fail
  refine (HC3.out w6 B6.out).mono ?_
  rintro e w7 ⟨rfl, hb⟩
  have B7 := Lib.hid (B6.out.trans (hb.mono B6.out.size))
  clear hb B6
  by_cases hzy : z < y
  · obtain ⟨q1, q2⟩ := hqq.out hzy
    rw [cmp_lt hzy]
    have HD3 := HD2.out
    rw [q1, q2] at HD3
    replace HD3 := Lib.hid HD3
    clear q1 q2 HD2 hqq hzy
    go_wp2_with fail
    refine (HM2.out w7 B7.out).mono ?_
    rintro e w8 ⟨mo, mc, rfl, hm, hb⟩
    have M8 := Lib.hid hm
    have B8 := Lib.hid (B7.out.trans (hb.mono B7.out.size))
    clear hb hm B7
    go_wp2_with fail
    refine (HA2.out w8 B8.out _ _ M8.out).mono ?_
    rintro e w9 ⟨so, sc, rfl, hs, hb⟩
    have T9 := Lib.hid hs
    have B9 := Lib.hid (B8.out.trans (hb.mono B8.out.size))
    clear hb hs B8 M8
    go_wp2_with fail
    refine (HD3.out w9 B9.out _ _ T9.out).mono ?_
    rintro e wa ⟨uo, uc, vo, vc, rfl, hu, hv, hb⟩
    have Ua := Lib.hid hu
    have Va := Lib.hid hv
    have Ba := Lib.hid (B9.out.trans (hb.mono B9.out.size))
    clear hb hu hv B9 T9
    go_wp2_with fail
    refine (HT0.out wa Ba.out).mono ?_
    rintro e wb ⟨so, sc, rfl, hs, hb⟩
    have Xb := Lib.hid hs
    have Ub := Lib.hid (Ua.out.keep hb)
    have Vb := Lib.hid (Va.out.keep hb)
    have Bb := Lib.hid (Ba.out.trans (hb.mono Ba.out.size))
    clear hb hs Ba Ua Va
    go_wp2_with fail
    refine (HE0.out wb _ _ _ _ Ub.out Xb.out).mono ?_
    rintro e wc ⟨rfl, hb⟩
    have Vc := Lib.hid (Vb.out.keep hb)
    have Bc := Lib.hid (Bb.out.trans (hb.mono Bb.out.size))
    clear hb Bb Ub Vb Xb
    go_wp2_with fail
    refine (HT2.out wc Bc.out).mono ?_
    rintro e wd ⟨so, sc, rfl, hs, hb⟩
    have Xd := Lib.hid hs
    have Vd := Lib.hid (Vc.out.keep hb)
    have Bd := Lib.hid (Bc.out.trans (hb.mono Bc.out.size))
    clear hb hs Bc Vc
    go_wp2_with fail
    refine (HE2.out wd _ _ _ _ Vd.out Xd.out).mono ?_
    rintro e we ⟨rfl, hb⟩
    have Be := Lib.hid (Bd.out.trans (hb.mono Bd.out.size))
    clear hb
    go_wp2
    go_ret
    exact ⟨rfl, Be.out⟩
  · have hcp : 0 ≤ cmpOf z y := by unfold cmpOf; rw [if_neg hzy]; split <;> omega
    generalize cmpOf z y = c at *
    clear hzy
    go_wp2
    go_ret
    exact ⟨rfl, B7.out⟩

theorem bigBack_walk (ad0 : Option Addr) (cap0 : Nat) (L0 : List Int) (ad1 : Option Addr) (cap1 : Nat) (L1 : List Int) (ad2 : Option Addr) (cap2 : Nat) (L2 : List Int) (w : World)
    (h0 : Rd .u32 w ad0 cap0 L0) (h1 : Rd .u32 w ad1 cap1 L1) (h2 : Rd .u32 w ad2 cap2 L2) :
    Calls Try.prog 6 #[.slice ad0 L0.length cap0, .slice ad1 L1.length cap1, .slice ad2 L2.length cap2] w (TruePost w) := by
  by_cases h : 40 < L0.length ∨ 40 < L1.length ∨ 40 < L2.length
  · exact bigBack_large ad0 cap0 L0 ad1 cap1 L1 ad2 cap2 L2 w h
  · exact bigBack_small ad0 cap0 L0 ad1 cap1 L1 ad2 cap2 L2 w h0 h1 h2 (by omega) (by omega) (by omega)
end Go.Proofs.Ytfkboaflfabmlaa
