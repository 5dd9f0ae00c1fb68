/-
  The contract of float.Short. Conditions: 64 bits.
  Plain law: how many digits are told; and the law of FloatShort. No conditions.
  Plain law: the digits without the noughts at the end, and how many these were, are the number. No conditions.
  The walk of typecasekeep.FloatNear, of any word. No conditions.
  The walk of typecasekeep.FloatShort. No conditions.
  The walk of typecasekeep.FloatBack. No conditions.
  Plain law: a fraction's digits with their point are read as they were told. No conditions.
  Plain law: which fraction a text tells; it is told as it was read. No conditions.
  The contracts of float.point and float.digits. Condition: the library's table of powers lies in the world.
  The contract of float.Text. Conditions: 64 bits; the library's table of powers lies in the world.
  What the row's list gives: the library's table of powers. No conditions.
-/
import Derived.Lib.ItoaNum
import Derived.Lib.TrimByte
import Derived.Lib.Strings
import Derived.Shelf.Unicode.PredsPay
import Derived.Lib.Repeat
import Derived.Lib.IndexBytes
import Derived.Test.YtmieegcnfnoiiaaDoorRows
import Derived.Lib.LaidTab
import Derived.Lib.LaidU8
import Derived.ProofKit
import Derived.Test.YtmieegcnfnoiiaaDoorFloatSameEndPartG
namespace Go.Proofs.YtmieegcnfnoiiaaDoor
open Go.RowKit Gx
set_option maxRecDepth 100000

/-- the fraction's two numbers -/
def eOf (B : Nat) : Nat := B / 4503599627370496 - 1
def mOf (B : Nat) : Nat := if B < 4503599627370496 then B else B % 4503599627370496 + 4503599627370496
def numOf (B : Nat) : Nat := mOf B * 2 ^ (eOf B - 1074)
def denOf (B : Nat) : Nat := 2 ^ (1074 - eOf B)
theorem parts_of {B m E : Nat} (hB : B = E * 4503599627370496 + m) (hm : m < 9007199254740992) (h2 : E = 0 ∨ 4503599627370496 ≤ m) : eOf B = E ∧ mOf B = m := by
  unfold eOf mOf
  rcases h2 with rfl | h2
  · refine ⟨by omega, ?_⟩
    by_cases h : B < 4503599627370496
    · rw [if_pos h]; omega
    · rw [if_neg h]; omega
  · rw [if_neg (by omega)]
    refine ⟨?_, by omega⟩
    have e0 : B = (m - 4503599627370496) + (E + 1) * 4503599627370496 := by rw [Nat.add_mul, Nat.one_mul]; omega
    rw [e0, Nat.add_mul_div_right _ _ (by decide : 0 < 4503599627370496), Nat.div_eq_of_lt (by omega)]; omega
theorem num_dn {B m E n : Nat} (hB : B = E * 4503599627370496 + m) (hm : m < 9007199254740992) (h2 : E = 0 ∨ 4503599627370496 ≤ m) (hn : E + n = 1074) : m = numOf B ∧ 2 ^ n = denOf B := by
  obtain ⟨e1, e2⟩ := parts_of hB hm h2
  unfold numOf denOf
  rw [e1, e2, show E - 1074 = 0 by omega, show 1074 - E = n by omega, Nat.pow_zero, Nat.mul_one]
  exact ⟨rfl, rfl⟩
theorem num_up {B m E n : Nat} (hB : B = E * 4503599627370496 + m) (hm : m < 9007199254740992) (h2 : E = 0 ∨ 4503599627370496 ≤ m) (hn : E = n + 1074) : m * 2 ^ n = numOf B ∧ 1 = denOf B := by
  obtain ⟨e1, e2⟩ := parts_of hB hm h2
  unfold numOf denOf
  rw [e1, e2, show E - 1074 = n by omega, show 1074 - E = 0 by omega, Nat.pow_zero]
  exact ⟨rfl, rfl⟩
/-- c * 10^k is what Short finds for the fraction B -/
def ShortIs (B c : Nat) (kk : Int) : Prop := ∃ (N D : Nat) (top : Int) (n0 : Nat), IsFrac B N D ∧ Bel N D top ∧ ¬ Bel N D (top - 1) ∧ 1 ≤ n0 ∧ n0 ≤ 17 ∧ (-400 ≤ top ∧ N = numOf B ∧ D = denOf B ∧ Pick (lowOf N D kk) (highOf N D kk) kk B (halfOf N D kk) c) ∧ top ≤ 400 ∧ kk = top - (n0 : Int) ∧
  (c = lowOf N D kk ∨ c = highOf N D kk) ∧ Hits c kk B ∧ ∀ i : Nat, 1 ≤ i → i < n0 → ¬ Hits (lowOf N D (top - (i : Int))) (top - (i : Int)) B ∧ ¬ Hits (highOf N D (top - (i : Int))) (top - (i : Int)) B
def ShortPost (b : Nat) (w : World) (e : Ending) (w' : World) : Prop :=
  ((b / 4503599627370496 % 2048 = 2047 ∨ b % 9223372036854775808 = 0) ∧ e = .returned (.tuple #[.string ⟨#[]⟩, .int .i64 0, .int .i64 1]) ∧ Below w.heap.size w w') ∨
  (b / 4503599627370496 % 2048 ≠ 2047 ∧ b % 9223372036854775808 ≠ 0 ∧ ∃ c kk, ShortIs (b % 9223372036854775808) c kk ∧ e = .returned (.tuple #[.string ⟨(shortOf c).toArray⟩, .int .i64 (kk + ((decText c).length : Int) - ((shortOf c).length : Int)), .int .i64 0]) ∧ Below w.heap.size w w')

theorem frac_mod {b A B : Nat} (h : IsFrac b A B) : IsFrac (b % 9223372036854775808) A B := by
  obtain ⟨h1, h2⟩ := h
  exact ⟨by rw [h1, Nat.mod_mod], h2⟩
theorem ten_big (n K : Nat) (h : K ≤ 3 * n) : 2 ^ K ≤ 10 ^ n := by
  have h1 : 2 ^ (3 * n) = 8 ^ n := by rw [Nat.pow_mul]
  have h2 := Nat.pow_le_pow_right (show 2 > 0 by decide) h
  have h3 := Nat.pow_le_pow_left (show 8 ≤ 10 by decide) n
  omega
theorem frac_bounds {B N D m E : Nat} (h : IsFrac B N D) (hB : B % 9223372036854775808 = E * 4503599627370496 + m) (hm : m < 9007199254740992) (hm0 : 0 < m) (hE : E ≤ 2045) (h2 : E = 0 ∨ 4503599627370496 ≤ m) : Bel N D 400 ∧ ¬ Bel N D (-400) := by
  obtain ⟨h1, hD⟩ := h
  obtain ⟨K, hK⟩ : ∃ K : Nat, K = 1074 := ⟨_, rfl⟩
  obtain ⟨n, hn⟩ : ∃ n : Nat, n = 400 := ⟨_, rfl⟩
  rw [x74_of N K hK, hB, fval_of m E hm h2] at h1
  have e1 : (400 : Int) = (n : Int) := by omega
  rw [e1]
  unfold Bel tenUp tenDn
  rw [show (-(n : Int)).toNat = 0 by omega, show (n : Int).toNat = n by omega, show (- -(n : Int)).toNat = n by omega]
  simp only [Nat.pow_zero, Nat.mul_one]
  refine ⟨?_, ?_⟩
  · have a1 : m * 2 ^ E < 2 ^ (53 + E) := by
      have h53 : (2 : Nat) ^ 53 = 9007199254740992 := by decide
      rw [Nat.pow_add, h53]
      exact Nat.mul_lt_mul_of_pos_right hm (Nat.two_pow_pos E)
    have a2 := Nat.pow_le_pow_right (show 2 > 0 by decide) (show 53 + E ≤ 1024 + K by omega)
    obtain ⟨J, hJ⟩ : ∃ J : Nat, J = 1024 := ⟨_, rfl⟩
    rw [← hJ, Nat.pow_add 2 J K] at a2
    have a3 := ten_big n J (by omega)
    have a4 : N * 2 ^ K < 10 ^ n * D * 2 ^ K := by
      rw [h1]
      have b1 : m * 2 ^ E * D < 2 ^ J * 2 ^ K * D := Nat.mul_lt_mul_of_pos_right (by omega) hD
      have b2 : 2 ^ J * 2 ^ K * D ≤ 10 ^ n * 2 ^ K * D := Nat.mul_le_mul_right _ (Nat.mul_le_mul_right _ a3)
      rw [Nat.mul_right_comm (10 ^ n)]
      omega
    have a5 := Nat.lt_of_mul_lt_mul_right a4
    rw [Nat.mul_comm]
    exact a5
  · have a3 := ten_big n K (by omega)
    have a1 : D ≤ N * 2 ^ K := by
      rw [h1]
      have := Nat.mul_le_mul_right D (Nat.mul_pos hm0 (Nat.two_pow_pos E))
      rw [Nat.succ_mul, Nat.zero_mul, Nat.zero_add] at this
      exact this
    have a2 := Nat.mul_le_mul_left N a3
    omega
theorem blen_shl (m n K : Nat) (hm : m < 9007199254740992) (h : 53 + n ≤ K) : blen (m * 2 ^ n) ≤ K := by
  refine blen_le _ _ ?_
  have h53 : (2 : Nat) ^ 53 = 9007199254740992 := by decide
  have a1 : m * 2 ^ n < 2 ^ (53 + n) := by
    rw [Nat.pow_add, h53]
    exact Nat.mul_lt_mul_of_pos_right hm (Nat.two_pow_pos n)
  have a2 := Nat.pow_le_pow_right (show 2 > 0 by decide) h
  omega
theorem low_small {N D : Nat} {top : Int} {n : Nat} (hD : 0 < D) (h : Bel N D top) (hn : n ≤ 17) : lowOf N D (top - (n : Int)) < 1000000000000000000 := by
  have h1 := low_lt (n := n) hD h
  have h2 := Nat.pow_le_pow_right (show 10 > 0 by decide) hn
  have h3 : (10 : Nat) ^ 17 = 100000000000000000 := by decide
  omega

set_option maxHeartbeats 4000000 in
theorem short_any (b : Nat) (w : World) (hb : b < 18446744073709551616) :
    Calls Tryd.prog 10 #[.int .u64 b] w (ShortPost b w) := by
  have hp := parts_any b w hb
  have ha := andnot_sign b hb
  have hfin : ∀ e w', ShortPost b w e w' → ShortPost b w e w' := fun _ _ h => h
  unfold PartsPost at hp
  by_cases hs : b / 4503599627370496 % 2048 = 2047
  · have hp2 := hp.mono (R' := fun e w' => ∃ x k : Int, 0 < k ∧ e = .returned (.tuple #[.int .u64 0, .int .i64 x, .int .i64 k]) ∧ w = w') (by
      rintro e w' ⟨m, x, k, rfl, ⟨-, rfl, h⟩ | ⟨h1, -⟩, rfl⟩
      · exact ⟨x, k, by omega, rfl, rfl⟩
      · exact absurd hs h1)
    have HP := Lib.hid hp2
    have hres := Lib.hid (show ShortPost b w (.returned (.tuple #[.string ⟨#[]⟩, .int .i64 0, .int .i64 1])) w from .inl ⟨.inl hs, rfl, Below.refl _ _⟩)
    generalize ShortPost b w = POST at *
    clear hp hp2 ha hfin hs hb
    go_enter Tryd.func10, Tryd.ntmps10
    go_wp2_with fail
    refine HP.out.mono ?_
    rintro e0 w1 ⟨x, k, hk, rfl, rfl⟩
    have t0 : decide (0 < k) = true := decide_eq_true hk
    go_wp2
    go_ret3
    exact hres.out
  by_cases hz : b % 9223372036854775808 = 0
  · have hp2 := hp.mono (R' := fun e w' => ∃ x : Int, e = .returned (.tuple #[.int .u64 0, .int .i64 x, .int .i64 0]) ∧ w = w') (by
      rintro e w' ⟨m, x, k, rfl, h | ⟨h1, rfl, h3, E, rfl, h5, h6, h7⟩, rfl⟩
      · exact absurd h.1 hs
      · obtain rfl : m = 0 := by omega
        exact ⟨_, rfl, rfl⟩)
    have HP := Lib.hid hp2
    have hres := Lib.hid (show ShortPost b w (.returned (.tuple #[.string ⟨#[]⟩, .int .i64 0, .int .i64 1])) w from .inl ⟨.inr hz, rfl, Below.refl _ _⟩)
    generalize ShortPost b w = POST at *
    clear hp hp2 ha hfin hs hz hb
    go_enter Tryd.func10, Tryd.ntmps10
    go_wp2_with fail
    refine HP.out.mono ?_
    rintro e0 w1 ⟨x, rfl, rfl⟩
    go_wp2
    go_ret3
    exact hres.out
  have hp3 := hp.mono (R' := fun e w' => ∃ m E : Nat, e = .returned (.tuple #[.int .u64 m, .int .i64 ((E : Int) - 1074), .int .i64 0]) ∧ m < 9007199254740992 ∧ E ≤ 2045 ∧ (E = 0 ∨ 4503599627370496 ≤ m) ∧ b % 9223372036854775808 = E * 4503599627370496 + m ∧ w = w') (by
    rintro e w' ⟨m, x, k, rfl, h | ⟨h1, rfl, h3, E, rfl, h5, h6, h7⟩, rfl⟩
    · exact absurd h.1 hs
    · exact ⟨m, E, rfl, h3, h5, h6, h7, rfl⟩)
  have HP := Lib.hid hp3
  have hB9 : b % 9223372036854775808 < 9218868437227405312 := by omega
  have HPOST := Lib.hid (show ∀ e w' c kk, ShortIs (b % 9223372036854775808) c kk → e = .returned (.tuple #[.string ⟨(shortOf c).toArray⟩, .int .i64 (kk + ((decText c).length : Int) - ((shortOf c).length : Int)), .int .i64 0]) → Below w.heap.size w w' → ShortPost b w e w' from
    fun e w' c kk h1 h2 h3 => .inr ⟨hs, hz, c, kk, h1, h2, h3⟩)
  generalize ShortPost b w = POST at *
  clear hp hp3 hfin hs hb
  obtain ⟨B, hB⟩ : ∃ B, B = b % 9223372036854775808 := ⟨_, rfl⟩
  have hfr : ∀ N D, IsFrac b N D → IsFrac B N D := fun N D h => by rw [hB]; exact frac_mod h
  rw [← hB] at ha hz hB9 HPOST
  have HFR := Lib.hid hfr
  have HB := Lib.hid hB
  have HZ := Lib.hid (Nat.pos_of_ne_zero hz)
  have HB9 := Lib.hid hB9
  clear hfr hB hz hB9
  go_enter Tryd.func10, Tryd.ntmps10
  go_wp2_with fail
  refine HP.out.mono ?_
  rintro e0 w1 ⟨m, E, rfl, hm, hE, h2, h7, rfl⟩
  have hm0 : 0 < m := by have := HZ.out; have := HB.out; omega
  have tm : ((m : Int) == 0) = false := by rw [beq_eq_false_iff_ne]; omega
  have tm2 : decide ((m : Int) = 0) = false := decide_eq_false (by omega)
  have HN := Lib.hid (nat_any m w (by omega))
  unfold WordsPost at HN
  go_wp2_with fail
  refine HN.out.mono ?_
  rintro e0 w2 ⟨mo, mc, rfl, hr, hb⟩
  have M2 := Lib.hid hr
  have B2 := Lib.hid hb
  clear hr hb HN HP
  have hal := (Below.refl w2.heap.size w2).alloc (Nat.le_refl _) (.cells #[.int .u32 1] 27)
  have hone := one_rd w2
  have hc1 : canon 1 = [1] := rfl
  rw [hc1] at hone
  have AL := Lib.hid hal
  have ONE := Lib.hid hone
  have M3 := Lib.hid (M2.out.keep hal)
  have B3 := Lib.hid (B2.out.trans (hal.mono B2.out.size))
  clear hal hone hc1 M2 B2
  rcases Int.lt_or_le (E : Int) 1074 with he | he
  · obtain ⟨n, hn⟩ : ∃ n : Nat, E + n = 1074 := ⟨1074 - E, by omega⟩
    have FRAC := Lib.hid (HFR.out _ _ (frac_dn b m E h7 hm h2 n hn))
    have ND := Lib.hid (num_dn (B := B) (HB.out.trans h7) hm h2 hn)
    have bnds := frac_bounds FRAC.out (by rw [HB.out, Nat.mod_mod]; exact h7) hm hm0 hE h2
    have HS := Lib.hid (shift_left' _ _ _ n 1 _ ONE.out rfl (by show 1 ≤ _; omega) (by omega))
    rw [Nat.one_mul] at HS
    unfold SubPost at HS
    have LX : Hid ((canon m).length ≤ 60) := Nat.le_trans (fits_two m hm).len (by decide)
    have LY : Hid ((canon (2 ^ n)).length ≤ 60) := (two_fitsK n 60 (by omega)).len
    have VX : Hid (bval (canon m) = m) := bval_canon _
    have VY : Hid (bval (canon (2 ^ n)) = 2 ^ n) := bval_canon _
    have MG0 := fun w0 xo xc yo yc (h : Rd .u32 w0 xo xc (canon m)) (g : Rd .u32 w0 yo yc (canon (2 ^ n))) => magnitude_any xo yo xc yc (canon m) (canon (2 ^ n)) m (2 ^ n) w0 h g VX.out VY.out LX.out LY.out (by have := blen_shl m 0 60 hm (by omega); rw [Nat.pow_zero, Nat.mul_one] at this; omega) (by exact Nat.le_trans (blen_le _ (n + 1) (Nat.pow_lt_pow_right (by decide) (by omega))) (by omega)) bnds.1 bnds.2
    unfold MagPost at MG0
    have MG1 := Lib.hid MG0
    have tE : decide (0 ≤ (E : Int) - 1074) = false := decide_eq_false (by omega)
    have eE : -((E : Int) - 1074) = (n : Int) := by omega
    have EE := Lib.hid eE
    clear hn h7 h2 hm hE MG0 bnds eE hm0
    go_wp2_with fail
    rw [EE.out]
    refine HS.out.mono ?_
    rintro e0 w4 ⟨so, sc, rfl, hr, hb⟩
    have Y4 := Lib.hid hr
    have X4 := Lib.hid (M3.out.keep hb)
    have B4 := Lib.hid (B3.out.trans (hb.mono B3.out.size))
    have MG := Lib.hid (MG1.out w4 _ _ _ _ X4.out Y4.out)
    clear hr hb M3 B3 HS MG1 AL ONE EE
    go_wp2_with fail
    refine MG.out.mono ?_
    rintro e0 w5 ⟨top, rfl, t1, t2, hbel, hnb, hb⟩
    have X5 := Lib.hid (X4.out.keep hb)
    have Y5 := Lib.hid (Y4.out.keep hb)
    have B5 := Lib.hid (B4.out.trans (hb.mono B4.out.size))
    have HNE := Lib.hid (fun w0 (hb : Below w5.heap.size w5 w0) (j : Nat) (g1 : 1 ≤ j) (g17 : j ≤ 17) => nearest_any mo so mc sc (canon m) (canon (2 ^ n)) m (2 ^ n) (top - (j : Int)) B w0 (X5.out.keep hb) (Y5.out.keep hb) VX.out VY.out LX.out LY.out (by omega) (by omega) (Nat.pos_iff_ne_zero.1 FRAC.out.2) (low_small FRAC.out.2 hbel g17))
    have SEV := Lib.hid (seventeen FRAC.out HB9.out HZ.out hnb)
    unfold NearestPost at HNE
    have HIN := Lib.hid (show ∀ (j : Nat) c, 1 ≤ j → j ≤ 17 → (c = lowOf m (2 ^ n) (top - (j : Int)) ∨ c = highOf m (2 ^ n) (top - (j : Int))) → Pick (lowOf m (2 ^ n) (top - (j : Int))) (highOf m (2 ^ n) (top - (j : Int))) (top - (j : Int)) B (halfOf m (2 ^ n) (top - (j : Int))) c → Hits c (top - (j : Int)) B → (∀ i : Nat, 1 ≤ i → i < j → ¬ Hits (lowOf m (2 ^ n) (top - (i : Int))) (top - (i : Int)) B ∧ ¬ Hits (highOf m (2 ^ n) (top - (i : Int))) (top - (i : Int)) B) → ShortIs B c (top - (j : Int)) from
      fun j c g1 g2 g3 gp g4 g5 => ⟨m, (2 ^ n), top, j, FRAC.out, hbel, hnb, g1, g2, ⟨t1, ND.out.1, ND.out.2, gp⟩, t2, rfl, g3, g4, g5⟩)
    obtain ⟨HI, hHI⟩ : ∃ HI : Int → Prop, HI = fun k => Hits (lowOf m (2 ^ n) k) k B := ⟨_, rfl⟩
    obtain ⟨HJ, hHJ⟩ : ∃ HJ : Int → Prop, HJ = fun k => Hits (highOf m (2 ^ n) k) k B := ⟨_, rfl⟩
    have i1 : ∀ k, HI k = Hits (lowOf m (2 ^ n) k) k B := fun k => by rw [hHI]
    have i2 : ∀ k, HJ k = Hits (highOf m (2 ^ n) k) k B := fun k => by rw [hHJ]
    simp only [← i1, ← i2] at HNE SEV HIN
    generalize lowOf m (2 ^ n) = LO at *
    generalize highOf m (2 ^ n) = HG at *
    clear hb X4 Y4 B4 MG hbel hnb X5 Y5 i1 i2 hHI hHJ VX VY LX LY FRAC ND
    go_wp2_with fail
    go_loopw [11, 12, 13, 14] (fun nv a1 a2 a3 wr => ∃ n : Nat, nv = .int .i64 n ∧ 1 ≤ n ∧ n ≤ 17 ∧ Hid (∀ i : Nat, 1 ≤ i → i < n → ¬ HI (top - (i : Int)) ∧ ¬ HJ (top - (i : Int))) ∧ Below w5.heap.size w5 wr) (fun nv _ _ _ _ => 18 - (intOf nv).toNat)
    case atStart => exact ⟨1, rfl, by omega, by omega, (fun i h1 h2 => absurd h1 (by omega)), Below.refl _ _⟩
    case round =>
      obtain ⟨n, rfl, n1, n2, hprev, hb⟩ := hrel
      have HC := Lib.hid (HNE.out wr hb n n1 n2)
      go_wp2_with fail
      refine HC.out.mono ?_
      rintro e0 w6 (⟨c, hc, hpk, hit, rfl, hb2⟩ | ⟨z1, z2, rfl, hb2⟩)
      · have B6 := Lib.hid (B5.out.trans ((hb.trans (hb2.mono hb.size)).mono B5.out.size))
        have IN := Lib.hid (HIN.out n c n1 n2 hc hpk hit hprev.out)
        clear hb hb2 hc hpk hit HC
        have hfin := Lib.hid (HPOST.out _ w6 c _ IN.out rfl B6.out)
        generalize shortOf c = st at *
        generalize decText c = dt at *
        go_wp2
        go_ret3
        exact hfin.out
      · have B6 := Lib.hid (hb.trans (hb2.mono hb.size))
        have hlt : n < 17 := by
          apply Classical.byContradiction
          intro hc
          obtain rfl : n = 17 := by omega
          exact SEV.out.elim z1 z2
        have HPR : Hid (∀ i : Nat, 1 ≤ i → i < n + 1 → ¬ HI (top - (i : Int)) ∧ ¬ HJ (top - (i : Int))) := by
          intro i g1 g2
          rcases Nat.lt_or_ge i n with g3 | g3
          · exact hprev.out i g1 g3
          · obtain rfl : i = n := by omega
            exact ⟨z1, z2⟩
        clear hb hb2 HC z1 z2 hprev
        go_wp2_with fail
        go_roundw
        case rel => exact ⟨n + 1, by congr 1 <;> omega, by omega, by omega, HPR, B6.out⟩
        case measure => simp [intOf]; omega
  · obtain ⟨n, hn⟩ : ∃ n : Nat, E = n + 1074 := ⟨E - 1074, by omega⟩
    have FRAC := Lib.hid (HFR.out _ _ (frac_up b m E h7 hm h2 n hn))
    have ND := Lib.hid (num_up (B := B) (HB.out.trans h7) hm h2 hn)
    have bnds := frac_bounds FRAC.out (by rw [HB.out, Nat.mod_mod]; exact h7) hm hm0 hE h2
    have HS := Lib.hid (shift_left' _ _ _ n m _ M3.out (bval_canon _) (Nat.le_trans (fits_two m hm).len (by decide)) (by omega))
    unfold SubPost at HS
    have LX : Hid ((canon (m * 2 ^ n)).length ≤ 60) := ((fits_two m hm).mul (two_fitsK n 58 (by omega))).len
    have LY : Hid (([1] : List Int).length ≤ 60) := by show 1 ≤ 60; omega
    have VX : Hid (bval (canon (m * 2 ^ n)) = m * 2 ^ n) := bval_canon _
    have VY : Hid (bval [1] = 1) := rfl
    have b1 : blen 1 ≤ 1100 := Nat.le_trans (blen_le 1 1 (by decide)) (by omega)
    have MG0 := fun w0 xo xc yo (h : Rd .u32 w0 xo xc (canon (m * 2 ^ n))) (g : Rd .u32 w0 yo 1 [1]) => magnitude_any xo yo xc 1 (canon (m * 2 ^ n)) [1] (m * 2 ^ n) 1 w0 h g VX.out VY.out LX.out LY.out (blen_shl m n 1100 hm (by omega)) b1 bnds.1 bnds.2
    unfold MagPost at MG0
    have MG1 := Lib.hid MG0
    have tE : decide (0 ≤ (E : Int) - 1074) = true := decide_eq_true (by omega)
    have eE : ((E : Int) - 1074) = (n : Int) := by omega
    have EE := Lib.hid eE
    clear hn h7 h2 hm hE MG0 bnds eE hm0 b1
    go_wp2_with fail
    rw [EE.out]
    refine HS.out.mono ?_
    rintro e0 w4 ⟨so, sc, rfl, hr, hb⟩
    have X4 := Lib.hid hr
    have Y4 := Lib.hid (ONE.out.keep hb)
    have B4 := Lib.hid (B3.out.trans (hb.mono B3.out.size))
    have MG := Lib.hid (MG1.out w4 _ _ _ X4.out Y4.out)
    clear hr hb M3 B3 HS MG1 AL ONE EE
    go_wp2_with fail
    refine MG.out.mono ?_
    rintro e0 w5 ⟨top, rfl, t1, t2, hbel, hnb, hb⟩
    have X5 := Lib.hid (X4.out.keep hb)
    have Y5 := Lib.hid (Y4.out.keep hb)
    have B5 := Lib.hid (B4.out.trans (hb.mono B4.out.size))
    have HNE := Lib.hid (fun w0 (hb : Below w5.heap.size w5 w0) (j : Nat) (g1 : 1 ≤ j) (g17 : j ≤ 17) => nearest_any so _ sc 1 (canon (m * 2 ^ n)) [1] (m * 2 ^ n) 1 (top - (j : Int)) B w0 (X5.out.keep hb) (Y5.out.keep hb) VX.out VY.out LX.out LY.out (by omega) (by omega) (Nat.pos_iff_ne_zero.1 FRAC.out.2) (low_small FRAC.out.2 hbel g17))
    have SEV := Lib.hid (seventeen FRAC.out HB9.out HZ.out hnb)
    unfold NearestPost at HNE
    have HIN := Lib.hid (show ∀ (j : Nat) c, 1 ≤ j → j ≤ 17 → (c = lowOf (m * 2 ^ n) 1 (top - (j : Int)) ∨ c = highOf (m * 2 ^ n) 1 (top - (j : Int))) → Pick (lowOf (m * 2 ^ n) 1 (top - (j : Int))) (highOf (m * 2 ^ n) 1 (top - (j : Int))) (top - (j : Int)) B (halfOf (m * 2 ^ n) 1 (top - (j : Int))) c → Hits c (top - (j : Int)) B → (∀ i : Nat, 1 ≤ i → i < j → ¬ Hits (lowOf (m * 2 ^ n) 1 (top - (i : Int))) (top - (i : Int)) B ∧ ¬ Hits (highOf (m * 2 ^ n) 1 (top - (i : Int))) (top - (i : Int)) B) → ShortIs B c (top - (j : Int)) from
      fun j c g1 g2 g3 gp g4 g5 => ⟨(m * 2 ^ n), 1, top, j, FRAC.out, hbel, hnb, g1, g2, ⟨t1, ND.out.1, ND.out.2, gp⟩, t2, rfl, g3, g4, g5⟩)
    obtain ⟨HI, hHI⟩ : ∃ HI : Int → Prop, HI = fun k => Hits (lowOf (m * 2 ^ n) 1 k) k B := ⟨_, rfl⟩
    obtain ⟨HJ, hHJ⟩ : ∃ HJ : Int → Prop, HJ = fun k => Hits (highOf (m * 2 ^ n) 1 k) k B := ⟨_, rfl⟩
    have i1 : ∀ k, HI k = Hits (lowOf (m * 2 ^ n) 1 k) k B := fun k => by rw [hHI]
    have i2 : ∀ k, HJ k = Hits (highOf (m * 2 ^ n) 1 k) k B := fun k => by rw [hHJ]
    simp only [← i1, ← i2] at HNE SEV HIN
    generalize lowOf (m * 2 ^ n) 1 = LO at *
    generalize highOf (m * 2 ^ n) 1 = HG at *
    clear hb X4 Y4 B4 MG hbel hnb X5 Y5 i1 i2 hHI hHJ VX VY LX LY FRAC ND
    go_wp2_with fail
    go_loopw [11, 12, 13, 14] (fun nv a1 a2 a3 wr => ∃ n : Nat, nv = .int .i64 n ∧ 1 ≤ n ∧ n ≤ 17 ∧ Hid (∀ i : Nat, 1 ≤ i → i < n → ¬ HI (top - (i : Int)) ∧ ¬ HJ (top - (i : Int))) ∧ Below w5.heap.size w5 wr) (fun nv _ _ _ _ => 18 - (intOf nv).toNat)
    case atStart => exact ⟨1, rfl, by omega, by omega, (fun i h1 h2 => absurd h1 (by omega)), Below.refl _ _⟩
    case round =>
      obtain ⟨n, rfl, n1, n2, hprev, hb⟩ := hrel
      have HC := Lib.hid (HNE.out wr hb n n1 n2)
      go_wp2_with fail
      refine HC.out.mono ?_
      rintro e0 w6 (⟨c, hc, hpk, hit, rfl, hb2⟩ | ⟨z1, z2, rfl, hb2⟩)
      · have B6 := Lib.hid (B5.out.trans ((hb.trans (hb2.mono hb.size)).mono B5.out.size))
        have IN := Lib.hid (HIN.out n c n1 n2 hc hpk hit hprev.out)
        clear hb hb2 hc hpk hit HC
        have hfin := Lib.hid (HPOST.out _ w6 c _ IN.out rfl B6.out)
        generalize shortOf c = st at *
        generalize decText c = dt at *
        go_wp2
        go_ret3
        exact hfin.out
      · have B6 := Lib.hid (hb.trans (hb2.mono hb.size))
        have hlt : n < 17 := by
          apply Classical.byContradiction
          intro hc
          obtain rfl : n = 17 := by omega
          exact SEV.out.elim z1 z2
        have HPR : Hid (∀ i : Nat, 1 ≤ i → i < n + 1 → ¬ HI (top - (i : Int)) ∧ ¬ HJ (top - (i : Int))) := by
          intro i g1 g2
          rcases Nat.lt_or_ge i n with g3 | g3
          · exact hprev.out i g1 g3
          · obtain rfl : i = n := by omega
            exact ⟨z1, z2⟩
        clear hb hb2 HC z1 z2 hprev
        go_wp2_with fail
        go_roundw
        case rel => exact ⟨n + 1, by congr 1 <;> omega, by omega, by omega, HPR, B6.out⟩
        case measure => simp [intOf]; omega
end Go.Proofs.YtmieegcnfnoiiaaDoor
namespace Go.Proofs.YtmieegcnfnoiiaaDoor
set_option maxRecDepth 100000

theorem dec_lt (n : Nat) : n < 10 ^ (decText n).length := by
  by_cases h : n = 0
  · subst h; decide
  · have h1 := dig_len_lt n
    have h2 : (decText n).length = (dig n).length := by
      unfold decText; rw [if_neg h, List.length_map, List.length_reverse]
    rw [h2]; exact h1
theorem trimRight_snoc (l : List UInt8) : Lib.trimRightB (l ++ [48]) 48 = Lib.trimRightB l 48 := by
  unfold Lib.trimRightB
  rw [List.reverse_append]
  simp
theorem shortOf_ten (c : Nat) (h : c ≠ 0) : shortOf (c * 10) = shortOf c := by
  unfold shortOf
  rw [text_big (c * 10) (by omega), show c * 10 / 10 = c by omega, show c * 10 % 10 = 0 by omega]
  exact trimRight_snoc _
theorem short_pow (n : Nat) : shortOf (10 ^ n) = shortOf 1 := by
  induction n with
  | zero => rfl
  | succ n ih => rw [Nat.pow_succ, shortOf_ten _ (Nat.pos_iff_ne_zero.1 (Nat.pow_pos (by decide))), ih]
theorem short_le (c n : Nat) (h : c ≤ 10 ^ n) (hn : 1 ≤ n) : (shortOf c).length ≤ n := by
  rcases Nat.lt_or_ge c (10 ^ n) with h1 | h1
  · exact Nat.le_trans (trimRight_len _ _) (decText_len c n h1 hn)
  · have : c = 10 ^ n := by omega
    rw [this, short_pow]
    have h2 := trimRight_len (decText 1) 48
    rw [text_small 1 (by decide)] at h2
    unfold shortOf
    rw [text_small 1 (by decide)]
    exact Nat.le_trans h2 hn
theorem high_le_low (N D : Nat) (k : Int) : highOf N D k ≤ lowOf N D k + 1 := by
  unfold highOf; split <;> omega
theorem shortIs_len {B c : Nat} {kk : Int} (h : ShortIs B c kk) : c ≤ 100000000000000000 ∧ (shortOf c).length ≤ 17 := by
  obtain ⟨N, D, top, n0, hF, hb, hnb, h1, h17, -, -, rfl, hc, -, -⟩ := h
  have a1 := low_lt (n := n0) hF.2 hb
  have a2 := high_le_low N D (top - (n0 : Int))
  have a3 : c ≤ 10 ^ n0 := by rcases hc with rfl | rfl <;> omega
  have a4 := Nat.pow_le_pow_right (show 10 > 0 by decide) h17
  have a5 : (10 : Nat) ^ 17 = 100000000000000000 := by decide
  have a6 := short_le c n0 a3 h1
  omega
theorem shortest {B c n : Nat} {kk k : Int} (h : ShortIs B c kk) (hB : B < 9218868437227405312) (hl : (decText n).length < (shortOf c).length) (hn : Hits n k B) : False := by
  obtain ⟨N, D, top, n0, hF, hb, hnb, h1, h17, -, -, rfl, hc, -, hprev⟩ := h
  have a1 := low_lt (n := n0) hF.2 hb
  have a2 := high_le_low N D (top - (n0 : Int))
  have a3 : c ≤ 10 ^ n0 := by rcases hc with rfl | rfl <;> omega
  have a6 := short_le c n0 a3 h1
  have a7 := dec_lt n
  have a8 := text_pos n
  obtain ⟨j, hj⟩ : ∃ j, (decText n).length = j + 1 := ⟨(decText n).length - 1, by omega⟩
  rw [hj] at a7 hl
  obtain ⟨p1, p2⟩ := hprev (j + 1) (by omega) (by omega)
  exact (shorter hF hB hnb a7 hn).elim p1 p2
end Go.Proofs.YtmieegcnfnoiiaaDoor
namespace Go.Proofs.YtmieegcnfnoiiaaDoor
set_option maxRecDepth 100000

theorem trimRight_other (l : List UInt8) (b : UInt8) (h : b ≠ 48) : Lib.trimRightB (l ++ [b]) 48 = l ++ [b] := by
  unfold Lib.trimRightB
  rw [List.reverse_append]
  simp [h]
theorem byteOf_ne (d : Nat) (h : d < 10) (h0 : d ≠ 0) : byteOf d ≠ 48 := by
  intro hc
  have h1 := byteOf_nat d h
  rw [hc] at h1
  have h2 : (48 : UInt8).toNat = 48 := rfl
  omega
/-- what is left, and so many noughts -/
theorem short_parts (c : Nat) (h : c ≠ 0) : ∃ (m z : Nat), c = m * 10 ^ z ∧ m % 10 ≠ 0 ∧ shortOf c = decText m ∧ (decText c).length = (decText m).length + z := by
  induction c using Nat.strongRecOn with
  | ind c ih =>
    by_cases h0 : c % 10 = 0
    · have hq : c / 10 ≠ 0 := by omega
      obtain ⟨m, z, h1, h2, h3, h4⟩ := ih (c / 10) (by omega) hq
      have hc : c = c / 10 * 10 := by omega
      refine ⟨m, z + 1, ?_, h2, ?_, ?_⟩
      · rw [Nat.pow_succ, ← Nat.mul_assoc, ← h1]; exact hc
      · rw [hc, shortOf_ten _ hq]; exact h3
      · rw [text_big c (by omega), List.length_append, h4]; simp; omega
    · refine ⟨c, 0, by simp, h0, ?_, by simp⟩
      have hb : byteOf (c % 10) ≠ 48 := byteOf_ne _ (by omega) h0
      unfold shortOf
      by_cases hs : c < 10
      · rw [text_small c hs]
        have e : c % 10 = c := Nat.mod_eq_of_lt hs
        rw [e] at hb
        exact trimRight_other [] _ hb
      · rw [text_big c (by omega)]
        exact trimRight_other _ _ hb
theorem shortIs_pos {B c : Nat} {kk : Int} (h : ShortIs B c kk) (hB : B ≠ 0) : c ≠ 0 := by
  obtain ⟨N, D, top, n0, hF, hb, hnb, h1, h17, -, -, rfl, hc, hit, -⟩ := h
  intro h0
  subst h0
  have h2 : Hits 0 (top - (n0 : Int)) 0 := by
    unfold Hits
    rw [Nat.zero_mul]
    exact rnd_zero75 _ (tenDn_pos _)
  exact hB (hit.uniq h2)
/-- the short digits tell the fraction -/
theorem hits_parts {c m z B : Nat} {kk : Int} (h : Hits c kk B) (hc : c = m * 10 ^ z) {b : Nat} (g : Hits m (kk + (z : Int)) b) : b = B := by
  refine Rnd.uniq g h (tenDn_pos _) (tenDn_pos _) (y75_mul _ _ _ _ ?_)
  have ht := ten_shift (kk + (z : Int)) z
  rw [show kk + (z : Int) - (z : Int) = kk by omega] at ht
  rw [hc, Nat.mul_assoc, ht]
  simp only [Nat.mul_assoc]
end Go.Proofs.YtmieegcnfnoiiaaDoor
namespace Go.Proofs.YtmieegcnfnoiiaaDoor
open Go.RowKit Gx
theorem nat_of_u64 (o : Int) (h : (Lit.int .u64 o).wf = true) : ∃ n : Nat, o = (n : Int) ∧ n < 18446744073709551616 := by
  simp [Lit.wf, IntKind.min, IntKind.max, IntKind.signed, IntKind.bits] at h
  exact ⟨o.toNat, by omega, by omega⟩
theorem floatNear_all (ad : Option Addr) (ca : Nat) (xs : List Int) (e o : Int) (w : World) (h : Rd .u32 w ad ca xs) (ho : (Lit.int .u64 o).wf = true) :
    Calls Tryd.prog 5 #[.slice ad xs.length ca, .int .i64 e, .int .u64 o] w (TruePost2 w) := by
  obtain ⟨n, rfl, hn⟩ := nat_of_u64 o ho
  exact floatNear_walk ad ca xs e n w h hn
end Go.Proofs.YtmieegcnfnoiiaaDoor
namespace Go.Proofs.YtmieegcnfnoiiaaDoor
open Go.RowKit Gx
set_option maxRecDepth 100000

set_option maxHeartbeats 400000 in
theorem bigText_any' (ad : Option Addr) (cap : Nat) (xs : List Int) (w : World) (h : Rd .u32 w ad cap xs) (hl : xs.length ≤ 1048576) :
    Calls Tryd.prog 11 #[.slice ad xs.length cap] w (TextPost (decText (bval xs)) w) := by
  by_cases h0 : bval xs = 0
  · have H := Lib.hid (trimmed_any ad cap xs w h (by omega))
    rw [h0]
    unfold TrimmedPost at H
    rw [h0] at H
    clear h h0
    go_enter Tryd.func11, Tryd.ntmps11
    go_wp2_with fail
    refine H.out.mono ?_
    rintro e w2 ⟨rfl, rfl⟩
    have hz : (canon 0).length = 0 := rfl
    rw [hz]
    clear hz
    go_wp2
    go_ret
    exact ⟨rfl, Below.refl _ _⟩
  · exact bigText_pos ad cap xs w h hl h0
theorem text_two' (ad : Option Addr) (cap : Nat) (xs : List Int) (N : Nat) (w : World) (h : Rd .u32 w ad cap xs) (hx : bval xs = N) (hl : xs.length ≤ 1048576) :
    Calls Tryd.prog 11 #[.slice ad xs.length cap] w (TextPost (decText N) w) := by
  subst hx; exact bigText_any' ad cap xs w h hl

set_option maxHeartbeats 4000000 in
theorem floatShort_walk (b n : Nat) (k : Int) (w : World) (hb : b < 18446744073709551616) (hn : n < 18446744073709551616) :
    Calls Tryd.prog 3 #[.int .u64 b, .int .u64 n, .int .i64 k] w (TruePost2 w) := by
  have HF := Lib.hid (floats_any w)
  have ha := andnot_sign b hb
  have hS := short_any b w hb
  have hx := halves n hn
  have hp := fun w0 => pair_rd w0 ((n % 4294967296 : Nat) : Int) ((n / 4294967296 : Nat) : Int) (wf32 _ (by omega)) (wf32 _ (by omega))
  have fx : Fits n 2 := fits_64 n hn
  have hbl := blen_of_fits _ _ fx
  obtain ⟨B, hB⟩ : ∃ B, B = b % 9223372036854775808 := ⟨_, rfl⟩
  have hfin : b / 4503599627370496 % 2048 ≠ 2047 → B < 9218868437227405312 := by omega
  unfold ShortPost at hS
  rw [← hB] at ha hS
  have HP := Lib.hid hp
  have HX := Lib.hid hx
  have HBL := Lib.hid hbl
  have HS := Lib.hid hS
  have HFIN := Lib.hid hfin
  have eS1 : ((n : Int) % 4294967296) = ((n % 4294967296 : Nat) : Int) := by omega
  have eS2 : ((n : Int) / 4294967296) = ((n / 4294967296 : Nat) : Int) := by omega
  have ES1 := Lib.hid eS1
  have ES2 := Lib.hid eS2
  clear hp hx fx hbl hS hfin hB hb eS1 eS2
  go_enter Tryd.func3, Tryd.ntmps3
  go_wp2_with fail
  refine HF.out.mono ?_
  rintro e0 w1 ⟨rfl, rfl⟩
  go_wp2_with fail
  refine HS.out.mono ?_
  rintro e0 w1 (⟨-, rfl, hb1⟩ | ⟨h1, h2, c, kk, hc, rfl, hb1⟩)
  · have B1 := Lib.hid hb1
    clear hb1
    go_wp2
    go_ret
    exact ⟨rfl, B1.out.alloc B1.out.size _⟩
  · have HC := Lib.hid hc
    have HB9 := Lib.hid (HFIN.out h1)
    have ln := (shortIs_len hc).2
    have al := (Below.refl w1.heap.size w1).alloc (Nat.le_refl _) (.cells #[.int .u32 ((n % 4294967296 : Nat) : Int), .int .u32 ((n / 4294967296 : Nat) : Int)] 27)
    have B2 := Lib.hid (hb1.trans (al.mono hb1.size))
    have R2 := Lib.hid (HP.out w1)
    have HT := Lib.hid (text_two' _ _ _ n _ R2.out HX.out (by show 2 ≤ _; omega))
    have hsh : ∀ k, (decText n).length < (shortOf c).length → Hits n k B → False := fun k h g => shortest HC.out HB9.out h g
    have HSH := Lib.hid hsh
    have hdl : (decText n).length ≤ 64 := decText_len n 64 (Nat.lt_trans hn (by decide)) (by decide)
    clear h1 h2 hc hb1 al hsh HS
    generalize shortOf c = st at *
    go_wp2_with fail
    refine HT.out.mono ?_
    rintro e0 w2 ⟨rfl, hb⟩
    have R3 := Lib.hid (R2.out.keep hb)
    have B3 := Lib.hid (B2.out.trans (hb.mono B2.out.size))
    have HLT := Lib.hid (show (decText n).length < st.length → Hits n k B → False from HSH.out k)
    clear hb R2 B2 HT HSH
    generalize decText n = dt at *
    by_cases hlt : dt.length < st.length
    · have t1 : decide ((st.length : Int) ≤ (dt.length : Int)) = false := decide_eq_false (by omega)
      have t2 : ¬ st.length ≤ dt.length := by omega
      have HLT2 := Lib.hid (HLT.out hlt)
      by_cases hk : k < -1000 ∨ 1000 < k
      · have HNL := Lib.hid (near_large (some ⟨w1.heap.size, 0, none⟩) 2 [((n % 4294967296 : Nat) : Int), ((n / 4294967296 : Nat) : Int)] k w2 R3.out (by show 2 ≤ _; omega) (.inr hk))
        clear hk hlt HLT R3
        go_wp2_with fail
        refine HNL.out.mono ?_
        rintro e0 w3 ⟨rfl, rfl⟩
        go_wp2
        go_ret
        exact ⟨rfl, B3.out⟩
      · have HNN := Lib.hid (near_two' (some ⟨w1.heap.size, 0, none⟩) 2 [((n % 4294967296 : Nat) : Int), ((n / 4294967296 : Nat) : Int)] w2 n k R3.out HX.out (by show 2 ≤ _; omega) (by omega) (by omega) (by have := HBL.out; omega))
        unfold NearPost at HNN
        clear hk hlt HLT R3
        go_wp2_with fail
        refine HNN.out.mono ?_
        rintro e0 w3 ⟨b2, rfl, hr, hb⟩
        have B4 := Lib.hid (B3.out.trans (hb.mono B3.out.size))
        have hne : b2 ≠ B := by
          intro h
          subst h
          exact HLT2.out hr
        have t3 : ((b2 : Int) != (B : Int)) = true := by rw [bne_iff_ne]; omega
        have t4 : ((b2 : Int) == (B : Int)) = false := by rw [beq_eq_false_iff_ne]; omega
        have t5 : decide ((b2 : Int) = (B : Int)) = false := decide_eq_false (by omega)
        clear hr hb HNN HLT2 B3
        go_wp2
        go_ret
        exact ⟨rfl, B4.out⟩
    · have t1 : decide ((st.length : Int) ≤ (dt.length : Int)) = true := decide_eq_true (by omega)
      have t2 : st.length ≤ dt.length := by omega
      clear hlt HLT R3
      go_wp2
      go_ret
      exact ⟨rfl, B3.out⟩

theorem floatShort_all (b n k : Int) (w : World) (hb : (Lit.int .u64 b).wf = true) (hn : (Lit.int .u64 n).wf = true) :
    Calls Tryd.prog 3 #[.int .u64 b, .int .u64 n, .int .i64 k] w (TruePost2 w) := by
  obtain ⟨x, rfl, hx⟩ := nat_of_u64 b hb
  obtain ⟨y, rfl, hy⟩ := nat_of_u64 n hn
  exact floatShort_walk x y k w hx hy
end Go.Proofs.YtmieegcnfnoiiaaDoor
namespace Go.Proofs.YtmieegcnfnoiiaaDoor
open Go.RowKit Gx
set_option maxRecDepth 100000

theorem dec_head (m : Nat) (h : m ≠ 0) : (decText m).head? ≠ some 48 := by
  intro hc
  have h1 := (decOk_text m).2.2 hc
  by_cases hs : m < 10
  · rw [text_small m hs] at hc
    exact byteOf_ne m hs h (by simpa using hc)
  · rw [text_big m (by omega), List.length_append] at h1
    have := text_pos (m / 10)
    simp only [List.length_cons, List.length_nil] at h1
    omega
theorem dec_last (m : Nat) (h : m % 10 ≠ 0) : (decText m).getLast? ≠ some 48 := by
  intro hc
  by_cases hs : m < 10
  · rw [text_small m hs] at hc
    exact byteOf_ne m hs (by omega) (by simpa using hc)
  · rw [text_big m (by omega)] at hc
    exact byteOf_ne (m % 10) (by omega) h (by simpa using hc)
theorem bytes_first (s : ByteArray) (l : List UInt8) (hs : s = ⟨l.toArray⟩) (h : 0 < s.size) (hl : l.head? ≠ some 48) : s[0] ≠ 48 := by
  subst hs
  intro hc
  apply hl
  have h1 : 0 < l.length := by simpa [ByteArray.size] using h
  cases l with
  | nil => simp at h1
  | cons a t =>
    have : a = 48 := hc
    simp [this]
theorem bytes_last (s : ByteArray) (l : List UInt8) (hs : s = ⟨l.toArray⟩) (i : Nat) (h : i < s.size) (hi : i = s.size - 1) (hl : l.getLast? ≠ some 48) : s[i] ≠ 48 := by
  subst hs
  intro hc
  apply hl
  have h2 : (⟨l.toArray⟩ : ByteArray).size = l.length := by simp [ByteArray.size]
  rw [h2] at hi h
  have h3 : l[i] = 48 := hc
  rw [List.getLast?_eq_getElem?, ← hi, List.getElem?_eq_getElem h, h3]

set_option maxHeartbeats 4000000 in
theorem floatBack_walk (b : Nat) (w : World) (hb : b < 18446744073709551616) :
    Calls Tryd.prog 6 #[.int .u64 b] w (TruePost2 w) := by
  have HF := Lib.hid (floats_any w)
  have ha := andnot_sign b hb
  have hS := short_any b w hb
  have HPA := Lib.hid (fun w0 => parts_any b w0 hb)
  obtain ⟨B, hB⟩ : ∃ B, B = b % 9223372036854775808 := ⟨_, rfl⟩
  have hdiv : b / 4503599627370496 % 2048 = 2047 ∨ B = 0 → ∀ (m : Nat) (x k : Int), ((b / 4503599627370496 % 2048 = 2047 ∧ m = 0 ∧ ((b % 4503599627370496 = 0 ∧ k = 1) ∨ (b % 4503599627370496 ≠ 0 ∧ k = 2))) ∨
     (b / 4503599627370496 % 2048 ≠ 2047 ∧ k = 0 ∧ m < 9007199254740992 ∧ ∃ E : Nat, x = (E : Int) - 1074 ∧ E ≤ 2045 ∧ (E = 0 ∨ 4503599627370496 ≤ m) ∧ b % 9223372036854775808 = E * 4503599627370496 + m)) → m = 0 ∧ 0 ≤ k ∧ k ≤ 2 := by
    rintro h m x k (⟨h1, h2, h3⟩ | ⟨h1, h2, h3, E, h4, h5, h6, h7⟩)
    · exact ⟨h2, by omega, by omega⟩
    · have hz : B = 0 := h.resolve_left h1
      exact ⟨by omega, by omega, by omega⟩
  have HDIV := Lib.hid hdiv
  unfold ShortPost at hS
  rw [← hB] at ha hS
  have HS := Lib.hid hS
  clear hS hB hb hdiv
  go_enter Tryd.func6, Tryd.ntmps6
  go_wp2_with fail
  refine HF.out.mono ?_
  rintro e0 w1 ⟨rfl, rfl⟩
  go_wp2_with fail
  refine HS.out.mono ?_
  rintro e0 w1 (⟨hor, rfl, hb1⟩ | ⟨h1, h2, c, kk, hc, rfl, hb1⟩)
  · have HP := HPA.out w1
    unfold PartsPost at HP
    have HP2 := Lib.hid (HP.mono (R' := fun e w' => ∃ x k : Int, 0 ≤ k ∧ k ≤ 2 ∧ e = .returned (.tuple #[.int .u64 0, .int .i64 x, .int .i64 k]) ∧ w1 = w') (by
      rintro e w' ⟨m, x, k, rfl, h, rfl⟩
      obtain ⟨rfl, h3, h4⟩ := HDIV.out hor m x k h
      exact ⟨x, k, h3, h4, rfl, rfl⟩))
    have B1 := Lib.hid hb1
    clear hb1 HP HPA HDIV HS hor
    go_wp2_with fail
    refine HP2.out.mono ?_
    rintro e0 w2 ⟨x, k, k1, k2, rfl, rfl⟩
    by_cases hk : 0 < k
    · have t0 : decide (0 < k) = true := decide_eq_true hk
      go_wp2
      go_ret
      exact ⟨rfl, B1.out⟩
    · have t0 : decide (0 < k) = false := decide_eq_false hk
      go_wp2
      go_ret
      exact ⟨rfl, B1.out⟩
  · have hc0 := shortIs_pos hc h2
    have hlen := shortIs_len hc
    obtain ⟨m, z, e1, e2, e3, e4⟩ := short_parts c hc0
    have hdl : (decText c).length ≤ 30 := dec_len c (by omega)
    have hm0 : m ≠ 0 := by intro h; rw [h, Nat.zero_mul] at e1; exact hc0 e1
    have hmc : m ≤ c := by rw [e1]; exact Nat.le_mul_of_pos_right m (Nat.pow_pos (by decide))
    have hpos := text_pos m
    have hkk : kk + ((decText c).length : Int) - ((shortOf c).length : Int) = kk + (z : Int) := by rw [e3, e4]; omega
    have hkr : -420 ≤ kk ∧ kk ≤ 400 := by
      obtain ⟨N, D, top, n0, -, -, -, g1, g2, g3, g4, rfl, -⟩ := hc
      omega
    have hit : Hits c kk B := by
      obtain ⟨N, D, top, n0, -, -, -, -, -, -, -, rfl, -, g, -⟩ := hc
      exact g
    obtain ⟨s, hs⟩ : ∃ s : ByteArray, s = ⟨(shortOf c).toArray⟩ := ⟨_, rfl⟩
    have hsl : s.data.toList = decText m := by rw [hs, e3]
    have hsz : s.size = (decText m).length := by rw [hs, e3]; simp [ByteArray.size]
    have hs17 : s.size ≤ 17 := by rw [hsz, ← e3]; exact hlen.2
    have hsp : 0 < s.size := by omega
    have hsi : s.size - 1 < s.size := Nat.sub_lt hsp (by decide)
    have hfst : s[0] ≠ 48 := bytes_first s (decText m) (by rw [hs, e3]) hsp (dec_head m hm0)
    have hlst : s[s.size - 1]'hsi ≠ 48 := bytes_last s (decText m) (by rw [hs, e3]) _ (by omega) rfl (dec_last m e2)
    rw [hkk, ← hs]
    have hR := fun w0 => bigRead_any s w0
    rw [hsl] at hR
    have hR2 := fun w0 => (hR w0).mono (R' := fun e w' => ∃ ad cap, e = .returned (.tuple #[.slice ad (canon m).length cap, .int .i64 0]) ∧ Rd .u32 w' ad cap (canon m) ∧ Below w0.heap.size w0 w') (by
      rintro e w' (⟨-, -, ad, cap, rfl, h2, h3⟩ | ⟨h, -⟩)
      · rw [decVal_text] at h2 ⊢
        exact ⟨ad, cap, rfl, h2, h3⟩
      · exact absurd ⟨decOk_text m, by omega⟩ h)
    have hm9 : m ≤ 1000000000000000000 := by omega
    have HNR := Lib.hid (fun w0 po pc (hr : Rd .u32 w0 po pc (canon m)) =>
      near_two' po pc (canon m) w0 m (kk + (z : Int)) hr (bval_canon _) (Nat.le_trans (fits_64 m (by omega)).len (by decide)) (by omega) (by omega) (Nat.le_trans (blen_of_fits _ _ (fits_64 m (by omega))) (by decide)))
    unfold NearPost at HNR
    have HEQ := Lib.hid (show ∀ x, Rnd (Y75 (m * tenUp (kk + (z : Int)))) (tenDn (kk + (z : Int))) x → x = B from fun x h => hits_parts hit e1 h)
    have HR := Lib.hid hR2
    have B1 := Lib.hid hb1
    obtain ⟨q, hq⟩ : ∃ q, q = kk + (z : Int) := ⟨_, rfl⟩
    rw [← hq] at HNR HEQ ⊢
    have tf : ((s[0].toNat : Int) != 48) = true := by
      rw [bne_iff_ne]
      intro h
      exact hfst (UInt8.toNat_inj.1 (by have : s[0].toNat = 48 := by omega
                                        rw [this]; rfl))
    have tl : (((s[s.size - 1]'hsi).toNat : Int) != 48) = true := by
      rw [bne_iff_ne]
      intro h
      exact hlst (UInt8.toNat_inj.1 (by have : (s[s.size - 1]'hsi).toNat = 48 := by omega
                                        rw [this]; rfl))
    have t17 : decide ((s.size : Int) ≤ 17) = true := decide_eq_true (by omega)
    clear hc hc0 hlen e1 e2 e3 e4 hdl hm0 hmc hpos hkk hkr hit hsl hsz hR hR2 hm9 hb1 hq hs hfst hlst HPA HDIV HS h1 h2
    go_wp2_with fail
    refine (HR.out w1).mono ?_
    rintro e0 w2 ⟨mo, mc, rfl, hr, hb⟩
    have B2 := Lib.hid (B1.out.trans (hb.mono B1.out.size))
    have HN := Lib.hid (HNR.out w2 mo mc hr)
    clear hr hb B1 HR
    go_wp2_with fail
    refine HN.out.mono ?_
    rintro e0 w3 ⟨x, rfl, hr, hb⟩
    obtain rfl := HEQ.out x hr
    have B3 := Lib.hid (B2.out.trans (hb.mono B2.out.size))
    clear hr hb B2 HN HEQ HNR
    go_wp2
    go_ret
    refine ⟨?_, B3.out⟩
    first | rfl | (congr 2) | (simp [tl, tf, t17])

theorem floatBack_all (b : Int) (w : World) (hb : (Lit.int .u64 b).wf = true) :
    Calls Tryd.prog 6 #[.int .u64 b] w (TruePost2 w) := by
  obtain ⟨x, rfl, hx⟩ := nat_of_u64 b hb
  exact floatBack_walk x w hx
end Go.Proofs.YtmieegcnfnoiiaaDoor
namespace Go.Proofs.YtmieegcnfnoiiaaDoor
open Go
set_option maxRecDepth 100000

theorem decDigits_text (u : Nat) : Lib.decDigits u = decText u := by
  induction u using Nat.strongRecOn with
  | ind u ih =>
    rw [Lib.decDigits]
    by_cases h : u < 10
    · rw [dif_pos h, text_small u h]; rfl
    · rw [dif_neg h, text_big u (by omega), ih (u / 10) (by omega)]; rfl

/-- the digits with their point -/
def pointOf (d : List UInt8) (k : Int) : List UInt8 :=
  if -3 ≤ (d.length : Int) + k ∧ (d.length : Int) + k ≤ 0 then [48, 46] ++ List.replicate (-((d.length : Int) + k)).toNat 48 ++ d
  else if 0 < (d.length : Int) + k ∧ (d.length : Int) + k < d.length then d.take ((d.length : Int) + k).toNat ++ 46 :: d.drop ((d.length : Int) + k).toNat
  else if (d.length : Int) ≤ (d.length : Int) + k ∧ (d.length : Int) + k ≤ 17 then d ++ List.replicate ((d.length : Int) + k - d.length).toNat 48 ++ [46, 48]
  else d.take 1 ++ (if 1 < d.length then 46 :: d.drop 1 else []) ++ 101 :: Lib.itoa ((d.length : Int) + k - 1)

def fracOf (s : List UInt8) : Option (List UInt8 × List UInt8) :=
  if s.head? = some 46 then
    if s.tail.takeWhile isDigit = [] then none else some (s.tail.takeWhile isDigit, s.tail.dropWhile isDigit)
  else some ([], s)
def expVal (e : List UInt8) : Nat := e.foldl (fun x b => min (x * 10 + (b.toNat - 48)) 100000) 0
def signOf (s : List UInt8) : Bool × List UInt8 := if s.head? = some 45 then (true, s.tail) else if s.head? = some 43 then (false, s.tail) else (false, s)
def expEnd (m : Bool × List UInt8) : Option Int :=
  if m.2.takeWhile isDigit = [] ∨ m.2.dropWhile isDigit ≠ [] then none
  else some (if m.1 then -(expVal (m.2.takeWhile isDigit) : Int) else (expVal (m.2.takeWhile isDigit) : Int))
def expOf (s : List UInt8) : Option Int := if s = [] then some 0 else if s.head? ≠ some 101 then none else expEnd (signOf s.tail)
def litEnd (whole : List UInt8) (f : List UInt8 × List UInt8) : Option (List UInt8 × Int) := (expOf f.2).map fun x => (whole ++ f.1, x - (f.1.length : Int))
/-- the digits and the exponent of a text without its sign -/
def litOf (s : List UInt8) : Option (List UInt8 × Int) :=
  if s.takeWhile isDigit = [] ∨ ((s.takeWhile isDigit).head? = some 48 ∧ 1 < (s.takeWhile isDigit).length) ∨ s.dropWhile isDigit = [] then none
  else (fracOf (s.dropWhile isDigit)).bind (litEnd (s.takeWhile isDigit))

theorem tw_split : ∀ (l r : List UInt8), (∀ b ∈ l, isDigit b = true) → (∀ b, r.head? = some b → isDigit b = false) → (l ++ r).takeWhile isDigit = l ∧ (l ++ r).dropWhile isDigit = r
  | [], r, _, hr => by
    cases r with
    | nil => exact ⟨rfl, rfl⟩
    | cons b t => have := hr b rfl; simp [this]
  | a :: l, r, h, hr => by
    have ha := h a (by simp)
    obtain ⟨e1, e2⟩ := tw_split l r (fun b hb => h b (by simp [hb])) hr
    simp [ha, e1, e2]
theorem tw_all (l : List UInt8) (h : ∀ b ∈ l, isDigit b = true) : l.takeWhile isDigit = l ∧ l.dropWhile isDigit = [] := by
  have := tw_split l [] h (by simp)
  simpa using this

theorem litOf_parts (whole rest f r : List UInt8) (x : Int) (h1 : ∀ b ∈ whole, isDigit b = true) (h2 : whole ≠ []) (h3 : whole.head? = some 48 → whole.length = 1)
    (h4 : ∀ b, rest.head? = some b → isDigit b = false) (h5 : rest ≠ []) (h6 : fracOf rest = some (f, r)) (h7 : expOf r = some x) :
    litOf (whole ++ rest) = some (whole ++ f, x - (f.length : Int)) := by
  obtain ⟨e1, e2⟩ := tw_split whole rest h1 h4
  unfold litOf
  rw [e1, e2, if_neg, h6]
  · simp [litEnd, h7]
  · rintro (h | ⟨h, h'⟩ | h)
    · exact h2 h
    · have := h3 h; omega
    · exact h5 h
theorem fracOf_dot (f r : List UInt8) (h1 : ∀ b ∈ f, isDigit b = true) (h2 : f ≠ []) (h3 : ∀ b, r.head? = some b → isDigit b = false) : fracOf (46 :: (f ++ r)) = some (f, r) := by
  obtain ⟨e1, e2⟩ := tw_split f r h1 h3
  unfold fracOf
  simp [e1, e2, h2]
theorem expF : ∀ (l : List UInt8) (a c : Nat), c = min a 100000 → l.foldl (fun x (b : UInt8) => min (x * 10 + (b.toNat - 48)) 100000) c = min (l.foldl (fun x (b : UInt8) => x * 10 + (b.toNat - 48)) a) 100000
  | [], a, c, h => h
  | b :: l, a, c, h => by
    rw [List.foldl_cons, List.foldl_cons]
    exact expF l _ _ (by subst h; omega)
theorem expVal_text (u : Nat) (h : u ≤ 100000) : expVal (decText u) = u := by
  have e := expF (decText u) 0 0 rfl
  have e2 := decVal_text u
  unfold decVal at e2
  unfold expVal
  rw [e, e2]; omega
theorem text_digits (m : Nat) : ∀ b ∈ decText m, isDigit b = true := (decOk_text m).2.1
theorem text_ne (m : Nat) : decText m ≠ [] := (decOk_text m).1
theorem expOf_itoa (y : Int) (h1 : -100000 ≤ y) (h2 : y ≤ 100000) : expOf (101 :: Lib.itoa y) = some y := by
  unfold expOf
  rw [if_neg (by simp), if_neg (by simp)]
  show expEnd (signOf (Lib.itoa y)) = _
  have hs : signOf (Lib.itoa y) = (decide (y < 0), decText y.natAbs) := by
    unfold Lib.itoa
    by_cases hy : y < 0
    · rw [if_pos hy, decDigits_text, decide_eq_true hy]; rfl
    · rw [if_neg hy, decDigits_text, decide_eq_false hy, show y.toNat = y.natAbs by omega]
      have hd := text_digits y.natAbs
      cases ht : decText y.natAbs with
      | nil => exact absurd ht (text_ne _)
      | cons a t =>
        rw [ht] at hd
        have ha := hd a (by simp)
        have n1 : a ≠ 45 := by intro h; subst h; exact absurd ha (by decide)
        have n2 : a ≠ 43 := by intro h; subst h; exact absurd ha (by decide)
        unfold signOf
        simp [n1, n2]
  rw [hs]
  obtain ⟨e1, e2⟩ := tw_all (decText y.natAbs) (text_digits _)
  unfold expEnd
  simp only
  rw [e1, e2, if_neg (by rintro (h | h); exact text_ne _ h; exact h rfl), expVal_text _ (by omega)]
  by_cases hy : y < 0
  · simp only [decide_eq_true hy, if_true]; congr 1; omega
  · rw [decide_eq_false hy]; simp; omega

theorem rep_digits (n : Nat) : ∀ b ∈ List.replicate n (48 : UInt8), isDigit b = true := by
  intro b hb
  rw [List.mem_replicate] at hb
  rw [hb.2]; decide
theorem head_take (l : List UInt8) (n : Nat) (hn : 0 < n) : (l.take n).head? = l.head? := by
  cases l with
  | nil => simp
  | cons a t => cases n with
    | zero => omega
    | succ n => rfl

theorem dot_head (t : List UInt8) : ∀ b, (46 :: t).head? = some b → isDigit b = false := by
  intro b hb
  have : b = 46 := by simpa using hb.symm
  subst this; decide
/-- what was told is read: noughts ahead, the digits, noughts behind -/
theorem lit_point (d : List UInt8) (k : Int) (h1 : ∀ b ∈ d, isDigit b = true) (h2 : d ≠ []) (h0 : d.head? ≠ some 48) (h3 : d.length ≤ 17) (h4 : -2000 ≤ k) (h5 : k ≤ 2000) :
    ∃ a z : Nat, litOf (pointOf d k) = some (List.replicate a 48 ++ d ++ List.replicate z 48, k - (z : Int)) ∧ z ≤ 18 := by
  have hl : 0 < d.length := List.length_pos_iff.2 h2
  obtain ⟨n, hn⟩ : ∃ n, n = d.length := ⟨_, rfl⟩
  unfold pointOf
  rw [← hn] at h3 hl ⊢
  by_cases c1 : -3 ≤ (n : Int) + k ∧ (n : Int) + k ≤ 0
  · rw [if_pos c1]
    obtain ⟨j, hj⟩ : ∃ j, j = (-((n : Int) + k)).toNat := ⟨_, rfl⟩
    rw [← hj]
    refine ⟨j + 1, 0, ?_, by omega⟩
    have e : [48, 46] ++ List.replicate j 48 ++ d = [48] ++ (46 :: ((List.replicate j 48 ++ d) ++ [])) := by simp
    have hf : ∀ b ∈ List.replicate j 48 ++ d, isDigit b = true := fun b hb => (List.mem_append.1 hb).elim (rep_digits j b) (h1 b)
    rw [e, litOf_parts [48] _ (List.replicate j 48 ++ d) [] 0 (by decide) (by decide) (by decide) (dot_head _) (by simp)
      (fracOf_dot _ _ hf (by simp [h2]) (by simp)) rfl]
    congr 1
    have e2 : [48] ++ (List.replicate j 48 ++ d) = List.replicate (j + 1) 48 ++ d ++ List.replicate 0 48 := by simp [List.replicate_succ]
    rw [e2]
    congr 1
    simp only [List.length_append, List.length_replicate, ← hn]
    omega
  rw [if_neg c1]
  by_cases c2 : 0 < (n : Int) + k ∧ (n : Int) + k < n
  · rw [if_pos c2]
    obtain ⟨p, hp⟩ : ∃ p, p = ((n : Int) + k).toNat := ⟨_, rfl⟩
    rw [← hp]
    refine ⟨0, 0, ?_, by omega⟩
    have e : d.take p ++ 46 :: d.drop p = d.take p ++ (46 :: (d.drop p ++ [])) := by simp
    rw [e, litOf_parts (d.take p) _ (d.drop p) [] 0 (fun b hb => h1 b (List.mem_of_mem_take hb)) (by intro h; have := congrArg List.length h; rw [List.length_take, List.length_nil] at this; omega)
      (by rw [head_take d p (by omega)]; exact fun h => absurd h h0) (dot_head _) (by simp)
      (fracOf_dot _ _ (fun b hb => h1 b (List.mem_of_mem_drop hb)) (by intro h; have := congrArg List.length h; rw [List.length_drop, List.length_nil] at this; omega) (by simp)) rfl]
    rw [List.take_append_drop]
    congr 1
    simp only [List.length_drop, ← hn, List.replicate_zero, List.nil_append, List.append_nil]
    congr 1
    omega
  rw [if_neg c2]
  by_cases c3 : (n : Int) ≤ (n : Int) + k ∧ (n : Int) + k ≤ 17
  · rw [if_pos c3]
    obtain ⟨j, hj⟩ : ∃ j, j = ((n : Int) + k - n).toNat := ⟨_, rfl⟩
    rw [← hj]
    refine ⟨0, j + 1, ?_, by omega⟩
    have e : d ++ List.replicate j 48 ++ [46, 48] = (d ++ List.replicate j 48) ++ (46 :: ([48] ++ [])) := by simp
    have hd : ∀ b ∈ d ++ List.replicate j 48, isDigit b = true := fun b hb => (List.mem_append.1 hb).elim (h1 b) (rep_digits j b)
    have hh : (d ++ List.replicate j 48).head? = d.head? := by
      cases d with
      | nil => exact absurd rfl h2
      | cons a t => rfl
    rw [e, litOf_parts (d ++ List.replicate j 48) _ [48] [] 0 hd (by simp [h2]) (by rw [hh]; exact fun h => absurd h h0) (dot_head _) (by simp)
      (fracOf_dot _ _ (by decide) (by decide) (by simp)) rfl]
    congr 1
    have e2 : d ++ List.replicate j 48 ++ [48] = List.replicate 0 48 ++ d ++ List.replicate (j + 1) 48 := by simp [List.replicate_succ']
    rw [e2]
    congr 1
    simp only [List.length_cons, List.length_nil]
    omega
  rw [if_neg c3]
  refine ⟨0, 0, ?_, by omega⟩
  have hex := expOf_itoa ((n : Int) + k - 1) (by omega) (by omega)
  have hne : ∀ b, (101 :: Lib.itoa ((n : Int) + k - 1)).head? = some b → isDigit b = false := by
    intro b hb; have : b = 101 := by simpa using hb.symm
    subst this; decide
  by_cases c4 : 1 < n
  · rw [if_pos c4]
    have e : d.take 1 ++ 46 :: d.drop 1 ++ 101 :: Lib.itoa ((n : Int) + k - 1) = d.take 1 ++ (46 :: (d.drop 1 ++ (101 :: Lib.itoa ((n : Int) + k - 1)))) := by simp
    rw [e, litOf_parts (d.take 1) _ (d.drop 1) _ _ (fun b hb => h1 b (List.mem_of_mem_take hb)) (by intro h; have := congrArg List.length h; rw [List.length_take, List.length_nil] at this; omega)
      (by rw [head_take d 1 (by omega)]; exact fun h => absurd h h0) (dot_head _) (by simp)
      (fracOf_dot _ _ (fun b hb => h1 b (List.mem_of_mem_drop hb)) (by intro h; have := congrArg List.length h; rw [List.length_drop, List.length_nil] at this; omega) hne) hex]
    rw [List.take_append_drop]
    congr 1
    simp only [List.length_drop, ← hn, List.replicate_zero, List.nil_append, List.append_nil]
    congr 1
    omega
  · rw [if_neg c4, List.append_nil]
    have e : d.take 1 = d := List.take_of_length_le (by omega)
    rw [e, litOf_parts d _ [] _ _ h1 h2 (fun h => absurd h h0) hne (by simp) (by unfold fracOf; rw [if_neg (by simp)]) hex]
    congr 1
    simp only [List.length_nil, List.replicate_zero, List.nil_append, List.append_nil]
    congr 1
    omega

theorem itoa_len (y : Int) (h1 : -10000 < y) (h2 : y < 10000) : (Lib.itoa y).length ≤ 5 := by
  unfold Lib.itoa
  split
  · rw [decDigits_text, List.length_cons]
    have := decText_len y.natAbs 4 (by omega) (by omega)
    omega
  · rw [decDigits_text]
    have := decText_len y.toNat 4 (by omega) (by omega)
    omega
theorem point_len (d : List UInt8) (k : Int) (h3 : d.length ≤ 17) (h4 : -2000 ≤ k) (h5 : k ≤ 2000) : (pointOf d k).length ≤ 29 := by
  unfold pointOf
  split
  · simp only [List.length_append, List.length_cons, List.length_nil, List.length_replicate]; omega
  split
  · simp only [List.length_append, List.length_cons, List.length_take, List.length_drop]; omega
  split
  · simp only [List.length_append, List.length_cons, List.length_nil, List.length_replicate]; omega
  · have := itoa_len ((d.length : Int) + k - 1) (by omega) (by omega)
    simp only [List.length_append, List.length_cons, List.length_take]
    split <;> simp <;> omega
/-- it begins with a digit -/
theorem point_head (d : List UInt8) (k : Int) (h1 : ∀ b ∈ d, isDigit b = true) (h2 : d ≠ []) : ∃ c t, pointOf d k = c :: t ∧ isDigit c = true := by
  cases d with
  | nil => exact absurd rfl h2
  | cons a t =>
    have ha := h1 a (by simp)
    unfold pointOf
    split
    · exact ⟨48, _, rfl, by decide⟩
    split
    · rename_i hc
      obtain ⟨p, hp⟩ : ∃ p, (((a :: t).length : Int) + k).toNat = p + 1 := ⟨_, (Nat.succ_pred_eq_of_pos (by omega)).symm⟩
      rw [hp]
      exact ⟨a, _, rfl, ha⟩
    split
    · exact ⟨a, _, rfl, ha⟩
    · exact ⟨a, _, rfl, ha⟩
theorem trimLeft_point (d : List UInt8) (a z : Nat) (h2 : d ≠ []) (h0 : d.head? ≠ some 48) : Lib.trimLeftB (List.replicate a 48 ++ d ++ List.replicate z 48) 48 = d ++ List.replicate z 48 := by
  unfold Lib.trimLeftB
  induction a with
  | zero =>
    cases d with
    | nil => exact absurd rfl h2
    | cons b t =>
      have : b ≠ 48 := by intro h; apply h0; simp [h]
      simp [this]
  | succ a ih => rw [List.replicate_succ]; simpa using ih
theorem decVal_noughts (d : List UInt8) (z : Nat) : decVal (d ++ List.replicate z 48) = decVal d * 10 ^ z := by
  induction z with
  | zero => simp
  | succ z ih =>
    rw [List.replicate_succ', ← List.append_assoc, decVal_snoc, ih, Nat.pow_succ, ← Nat.mul_assoc]
    simp
end Go.Proofs.YtmieegcnfnoiiaaDoor
namespace Go.Proofs.YtmieegcnfnoiiaaDoor
open Go.RowKit Gx
set_option maxRecDepth 100000

def infTxt : List UInt8 := [105, 110, 102]
def nanTxt : List UInt8 := [110, 97, 110]
def signBit (b : Bool) : Nat := if b then 9223372036854775808 else 0
def NumIs (l : List UInt8) (x : Nat) (er : Int) (m : Bool) : Prop :=
  (litOf l = none ∧ x = 0 ∧ er ≠ 0) ∨
  (∃ d e b, litOf l = some (d, e) ∧ Hits (decVal (Lib.trimLeftB d 48)) (max (min e 1000) (-1000)) b ∧ ((b = 9218868437227405312 ∧ x = 0 ∧ er ≠ 0) ∨ (b < 9218868437227405312 ∧ x = b + signBit m ∧ er = 0)))
/-- what is read of a text -/
def ReadIs (l : List UInt8) (x : Nat) (er : Int) : Prop :=
  (80 < l.length ∧ x = 0 ∧ er ≠ 0) ∨ (l.length ≤ 80 ∧
   ((l = nanTxt ∧ x = 9221120237041090561 ∧ er = 0) ∨ (l ≠ nanTxt ∧ Lib.trimPrefix l [45] = infTxt ∧ x = 9218868437227405312 + signBit (Lib.hasPrefix l [45]) ∧ er = 0) ∨
    (l ≠ nanTxt ∧ Lib.trimPrefix l [45] ≠ infTxt ∧ NumIs (Lib.trimPrefix l [45]) x er (Lib.hasPrefix l [45]))))

theorem tw_digs : ∀ (l : List UInt8), ∀ b ∈ l.takeWhile isDigit, isDigit b = true
  | [], b, hb => by simp at hb
  | a :: l, b, hb => by
    cases ha : isDigit a with
    | false => simp [ha] at hb
    | true =>
      rw [List.takeWhile_cons, if_pos ha] at hb
      rcases List.mem_cons.1 hb with rfl | hb
      · exact ha
      · exact tw_digs l b hb
theorem frac_some {s f r : List UInt8} (h : fracOf s = some (f, r)) : (∀ b ∈ f, isDigit b = true) ∧ f.length ≤ s.length := by
  unfold fracOf at h
  split at h
  · split at h
    · cases h
    · obtain ⟨rfl, rfl⟩ := Prod.mk.inj (Option.some.inj h)
      exact ⟨tw_digs _, by have := (List.takeWhile_sublist isDigit (l := s.tail)).length_le; rw [List.length_tail] at this; omega⟩
  · obtain ⟨rfl, rfl⟩ := Prod.mk.inj (Option.some.inj h)
    exact ⟨fun b hb => by simp at hb, by simp⟩
theorem litOf_some {l d : List UInt8} {x : Int} (h : litOf l = some (d, x)) : (∀ b ∈ d, isDigit b = true) ∧ d ≠ [] ∧ d.length ≤ 2 * l.length := by
  unfold litOf at h
  split at h
  · cases h
  · rename_i hc
    have hne : l.takeWhile isDigit ≠ [] := fun h => hc (.inl h)
    have l1 := (List.takeWhile_sublist isDigit (l := l)).length_le
    have l2 := (List.dropWhile_sublist isDigit (l := l)).length_le
    have htw := tw_digs l
    obtain ⟨⟨f, r⟩, hf, he⟩ := Option.bind_eq_some_iff.1 h
    unfold litEnd at he
    obtain ⟨a, -, ha⟩ := Option.map_eq_some_iff.1 he
    obtain ⟨rfl, -⟩ := Prod.mk.inj ha
    obtain ⟨g1, g2⟩ := frac_some hf
    refine ⟨fun b hb => (List.mem_append.1 hb).elim (htw b) (g1 b), fun h => hne (List.append_eq_nil_iff.1 h).1, ?_⟩
    show (l.takeWhile isDigit ++ f).length ≤ _
    rw [List.length_append]; omega
/-- digits without noughts ahead: they are a number's text -/
theorem trim_ok {d : List UInt8} (h : ∀ b ∈ d, isDigit b = true) (hne : Lib.trimLeftB d 48 ≠ []) : decOk (Lib.trimLeftB d 48) := by
  have hsub : ∀ b ∈ Lib.trimLeftB d 48, isDigit b = true := fun b hb => h b ((List.dropWhile_sublist _).subset hb)
  refine ⟨hne, hsub, ?_⟩
  intro hh
  exfalso
  unfold Lib.trimLeftB at hh
  have := List.head?_dropWhile_not (fun x : UInt8 => x == 48) d
  rw [hh] at this
  simp at this
theorem trim_len (d : List UInt8) : (Lib.trimLeftB d 48).length ≤ d.length := (List.dropWhile_sublist _).length_le
theorem decVal_lt {l : List UInt8} (h : decOk l) : decVal l < 10 ^ l.length := by
  have h1 := dec_lt (decVal l)
  rwa [text_decVal l h] at h1

def sgOf (b : Nat) : List UInt8 := if 9223372036854775808 ≤ b then [45] else []
/-- what the fraction's text is -/
def TextIs (b : Nat) (t : List UInt8) : Prop :=
  (b / 4503599627370496 % 2048 = 2047 ∧ b % 4503599627370496 ≠ 0 ∧ t = nanTxt) ∨ (b / 4503599627370496 % 2048 = 2047 ∧ b % 4503599627370496 = 0 ∧ t = sgOf b ++ infTxt) ∨
  (b / 4503599627370496 % 2048 ≠ 2047 ∧ b % 9223372036854775808 = 0 ∧ t = sgOf b ++ [48, 46, 48]) ∨
  (b / 4503599627370496 % 2048 ≠ 2047 ∧ b % 9223372036854775808 ≠ 0 ∧ ∃ (c m z : Nat) (kk : Int), ShortIs (b % 9223372036854775808) c kk ∧ c = m * 10 ^ z ∧ m % 10 ≠ 0 ∧ m ≠ 0 ∧ (decText m).length ≤ 17 ∧ -500 ≤ kk + (z : Int) ∧ kk + (z : Int) ≤ 500 ∧ t = sgOf b ++ pointOf (decText m) (kk + (z : Int)))

theorem same_num (m z y : Nat) (kk k : Int) (hk : k = kk + (z : Int)) : m * 10 ^ y * tenUp (k - (y : Int)) * tenDn kk = m * 10 ^ z * tenUp kk * tenDn (k - (y : Int)) := by
  have h1 := ten_shift k z
  have h2 := ten_shift k y
  rw [show k - (z : Int) = kk by omega] at h1
  have hp := tenDn_pos k
  generalize tenUp k = A at *
  generalize tenDn kk = B at *
  generalize tenUp kk = C at *
  generalize tenDn k = D at *
  generalize tenDn (k - (y : Int)) = E at *
  generalize tenUp (k - (y : Int)) = F at *
  generalize 10 ^ z = P at *
  generalize 10 ^ y = Q at *
  apply Nat.eq_of_mul_eq_mul_right hp
  calc m * Q * F * B * D = m * B * (Q * F * D) := by ac_rfl
    _ = m * B * (A * E) := by rw [h2]
    _ = m * E * (A * B) := by ac_rfl
    _ = m * E * (P * C * D) := by rw [h1]
    _ = m * P * C * E * D := by ac_rfl
theorem hits_same {c m z y B b : Nat} {kk k : Int} (h : Hits c kk B) (hc : c = m * 10 ^ z) (hk : k = kk + (z : Int)) (g : Hits (m * 10 ^ y) (k - (y : Int)) b) : b = B := by
  refine Rnd.uniq g h (tenDn_pos _) (tenDn_pos _) (y75_mul _ _ _ _ ?_)
  rw [hc]
  exact same_num m z y kk k hk

theorem sg_facts (b : Nat) (c : UInt8) (t : List UInt8) (hc : c ≠ 45) : Lib.hasPrefix (sgOf b ++ c :: t) [45] = decide (9223372036854775808 ≤ b) ∧ Lib.trimPrefix (sgOf b ++ c :: t) [45] = c :: t ∧ (c ≠ 110 → sgOf b ++ c :: t ≠ nanTxt) ∧ (sgOf b).length ≤ 1 := by
  have hp : ∀ a t, Lib.hasPrefix (a :: t) [45] = (45 == a) := fun a t => by unfold Lib.hasPrefix; simp [List.isPrefixOf]
  unfold sgOf
  by_cases h : 9223372036854775808 ≤ b
  · rw [if_pos h, decide_eq_true h]
    refine ⟨rfl, rfl, fun _ => ?_, by simp⟩
    intro h2
    cases h2
  · rw [if_neg h, decide_eq_false h]
    have e : Lib.hasPrefix (c :: t) [45] = false := by rw [hp]; simpa using fun h => hc h.symm
    refine ⟨e, ?_, fun h2 h3 => h2 (List.cons.inj h3).1, by simp⟩
    unfold Lib.trimPrefix
    rw [List.nil_append, e]; rfl

/-- what was told is read -/
theorem text_back {b x : Nat} {t : List UInt8} {er : Int} (hb : b < 18446744073709551616) (ht : TextIs b t) (hr : ReadIs t x er) (hn : ¬ (b / 4503599627370496 % 2048 = 2047 ∧ b % 4503599627370496 ≠ 0)) : x = b ∧ er = 0 ∧ t.length ≤ 30 := by
  have hs : b = b % 9223372036854775808 + signBit (decide (9223372036854775808 ≤ b)) := by
    unfold signBit
    by_cases h : 9223372036854775808 ≤ b
    · rw [decide_eq_true h, if_pos rfl]; omega
    · rw [decide_eq_false h, if_neg (by decide)]; omega
  rcases ht with ⟨h1, h2, -⟩ | ⟨h1, h2, rfl⟩ | ⟨h1, h2, rfl⟩ | ⟨h1, h2, c, m, z, kk, hS, hc, hm, hm0, hl, k1, k2, rfl⟩
  · exact absurd ⟨h1, h2⟩ hn
  · obtain ⟨f1, f2, f3, f4⟩ := sg_facts b 105 [110, 102] (by decide)
    have e : sgOf b ++ infTxt = sgOf b ++ 105 :: [110, 102] := rfl
    have hlen : (sgOf b ++ infTxt).length ≤ 30 := by rw [List.length_append]; have : infTxt.length = 3 := rfl; omega
    rcases hr with ⟨h, -⟩ | ⟨-, ⟨h, -⟩ | ⟨-, h3, h4, h5⟩ | ⟨-, h3, -⟩⟩
    · omega
    · rw [e] at h; exact absurd h (f3 (by decide))
    · rw [e, f1] at h4
      refine ⟨?_, h5, hlen⟩
      have : b % 9223372036854775808 = 9218868437227405312 := by omega
      omega
    · exact absurd (by rw [e, f2]; rfl) h3
  · obtain ⟨f1, f2, f3, f4⟩ := sg_facts b 48 [46, 48] (by decide)
    have hlen : (sgOf b ++ [48, 46, 48]).length ≤ 30 := by rw [List.length_append]; simp; omega
    rcases hr with ⟨h, -⟩ | ⟨-, ⟨h, -⟩ | ⟨-, h3, -⟩ | ⟨-, -, h6⟩⟩
    · omega
    · exact absurd h (f3 (by decide))
    · rw [f2] at h3; cases h3
    · rw [f1, f2] at h6
      have e : litOf [48, 46, 48] = some ([48, 48], -1) := rfl
      rcases h6 with ⟨h, -⟩ | ⟨d, ex, b', hd, hh, h7⟩
      · rw [e] at h; cases h
      · rw [e] at hd
        obtain ⟨rfl, rfl⟩ := Prod.mk.inj (Option.some.inj hd)
        have e2 : decVal (Lib.trimLeftB [48, 48] 48) = 0 := rfl
        rw [e2] at hh
        have h0 : Hits 0 (max (min (-1) 1000) (-1000)) 0 := by
          unfold Hits
          rw [Nat.zero_mul]
          exact rnd_zero75 _ (tenDn_pos _)
        obtain rfl := hh.uniq h0
        rcases h7 with ⟨h, -⟩ | ⟨-, h8, h9⟩
        · cases h
        · exact ⟨by omega, h9, hlen⟩
  · obtain ⟨hd, tl, hp, hdig⟩ := point_head (decText m) (kk + (z : Int)) (text_digits m) (text_ne m)
    have hpl := point_len (decText m) (kk + (z : Int)) hl (by omega) (by omega)
    obtain ⟨a, y, hlit, hy⟩ := lit_point (decText m) (kk + (z : Int)) (text_digits m) (text_ne m) (dec_head m hm0) hl (by omega) (by omega)
    have hd45 : hd ≠ 45 := by rintro rfl; revert hdig; decide
    have hd110 : hd ≠ 110 := by rintro rfl; revert hdig; decide
    have hd105 : hd ≠ 105 := by rintro rfl; revert hdig; decide
    obtain ⟨f1, f2, f3, f4⟩ := sg_facts b hd tl hd45
    have hlen : (sgOf b ++ pointOf (decText m) (kk + (z : Int))).length ≤ 30 := by rw [List.length_append]; omega
    refine ⟨?_, ?_, hlen⟩ <;> rw [hp] at hr hlen hlit
    all_goals
      rcases hr with ⟨h, -⟩ | ⟨-, ⟨h, -⟩ | ⟨-, h3, -⟩ | ⟨-, -, h6⟩⟩
      · omega
      · exact absurd h (f3 hd110)
      · rw [f2] at h3; exact absurd (List.cons.inj h3).1 hd105
      · rw [f1, f2] at h6
        rcases h6 with ⟨h, -⟩ | ⟨d, ex, b', hdd, hh, h7⟩
        · rw [hlit] at h; cases h
        · rw [hlit] at hdd
          obtain ⟨rfl, rfl⟩ := Prod.mk.inj (Option.some.inj hdd)
          rw [trimLeft_point _ _ _ (text_ne m) (dec_head m hm0), decVal_noughts, decVal_text, show max (min (kk + (z : Int) - (y : Int)) 1000) (-1000) = kk + (z : Int) - (y : Int) by omega] at hh
          have hit : Hits c kk (b % 9223372036854775808) := by
            obtain ⟨N, D, top, n0, -, -, -, -, -, -, -, rfl, -, g, -⟩ := hS
            exact g
          obtain rfl := hits_same hit hc rfl hh
          rcases h7 with ⟨h, -⟩ | ⟨-, h8, h9⟩
          · exfalso; omega
          · first | exact h9 | omega
/-- two texts of one number without its sign are the same -/
theorem shortIs_uniq {B c d : Nat} {kk jj : Int} (h : ShortIs B c kk) (g : ShortIs B d jj) : c = d ∧ kk = jj := by
  obtain ⟨N, D, top, n0, hF, hb, hnb, h1, h17, ⟨-, rfl, rfl, hp⟩, -, rfl, hc, hit, hprev⟩ := h
  obtain ⟨N', D', top', n0', hF', hb', hnb', h1', h17', ⟨-, rfl, rfl, hp'⟩, -, rfl, hc', hit', hprev'⟩ := g
  have ht : top = top' := by
    rcases Int.lt_trichotomy top top' with h | h | h
    · exact absurd (hb.mono (by omega)) hnb'
    · exact h
    · exact absurd (hb'.mono (by omega)) hnb
  subst ht
  have hn : n0 = n0' := by
    rcases Nat.lt_trichotomy n0 n0' with h | h | h
    · have := hprev' n0 h1 h
      rcases hc with rfl | rfl
      · exact absurd hit this.1
      · exact absurd hit this.2
    · exact h
    · have := hprev n0' h1' h
      rcases hc' with rfl | rfl
      · exact absurd hit' this.1
      · exact absurd hit' this.2
  subst hn
  exact ⟨hp.uniq hp', rfl⟩
theorem ten_free {m n z y : Nat} (h : m * 10 ^ z = n * 10 ^ y) (hm : m % 10 ≠ 0) (hn : n % 10 ≠ 0) : m = n ∧ z = y := by
  have key : ∀ (m n z y : Nat), m * 10 ^ z = n * 10 ^ y → m % 10 ≠ 0 → z ≤ y → m = n ∧ z = y := by
    intro m n z y h hm hzy
    obtain ⟨j, rfl⟩ : ∃ j, y = z + j := ⟨y - z, by omega⟩
    rw [Nat.pow_add, Nat.mul_comm (10 ^ z), ← Nat.mul_assoc] at h
    have h2 := Nat.eq_of_mul_eq_mul_right (Nat.pow_pos (show 0 < 10 by decide)) h
    cases j with
    | zero => simpa using h2
    | succ j =>
      exfalso
      rw [Nat.pow_succ, ← Nat.mul_assoc] at h2
      omega
  rcases Nat.le_total z y with h1 | h1
  · exact key m n z y h hm h1
  · obtain ⟨e1, e2⟩ := key n m y z h.symm hn h1
    exact ⟨e1.symm, e2.symm⟩
theorem text_sign {b d : Nat} {s t : List UInt8} (hb : TextIs b s) (hd : TextIs d t) (h : b % 9223372036854775808 = d % 9223372036854775808) (hs : 9223372036854775808 ≤ b ↔ ¬ 9223372036854775808 ≤ d) (hn : ¬ (b / 4503599627370496 % 2048 = 2047 ∧ b % 4503599627370496 ≠ 0)) : t = 45 :: s ∨ s = 45 :: t := by
  have e1 : b / 4503599627370496 % 2048 = d / 4503599627370496 % 2048 := by omega
  have e2 : b % 4503599627370496 = d % 4503599627370496 := by omega
  have core : ∃ u, s = sgOf b ++ u ∧ t = sgOf d ++ u := by
    rcases hb with ⟨h1, h2, -⟩ | ⟨h1, h2, rfl⟩ | ⟨h1, h2, rfl⟩ | ⟨h1, h2, c, m, z, kk, hS, hc, hm, hm0, hl, k1, k2, rfl⟩
    · exact absurd ⟨h1, h2⟩ hn
    · rcases hd with ⟨g1, g2, -⟩ | ⟨g1, g2, rfl⟩ | ⟨g1, g2, rfl⟩ | ⟨g1, g2, -⟩
      · omega
      · exact ⟨_, rfl, rfl⟩
      · omega
      · omega
    · rcases hd with ⟨g1, g2, -⟩ | ⟨g1, g2, rfl⟩ | ⟨g1, g2, rfl⟩ | ⟨g1, g2, -⟩
      · omega
      · omega
      · exact ⟨_, rfl, rfl⟩
      · omega
    · rcases hd with ⟨g1, g2, -⟩ | ⟨g1, g2, rfl⟩ | ⟨g1, g2, rfl⟩ | ⟨g1, g2, c', m', z', kk', hS', hc', hm', hm0', hl', k1', k2', rfl⟩
      · omega
      · omega
      · omega
      · rw [← h] at hS'
        obtain ⟨rfl, rfl⟩ := shortIs_uniq hS hS'
        obtain ⟨rfl, rfl⟩ := ten_free (hc.symm.trans hc') hm hm'
        exact ⟨_, rfl, rfl⟩
  obtain ⟨u, rfl, rfl⟩ := core
  unfold sgOf
  by_cases h1 : 9223372036854775808 ≤ b
  · right
    rw [if_pos h1, if_neg (hs.1 h1)]; rfl
  · left
    rw [if_neg h1, if_pos (by apply Classical.byContradiction; intro h2; exact h1 (hs.2 h2))]; rfl
theorem read_nan {x : Nat} {er : Int} (hr : ReadIs nanTxt x er) : x = 9221120237041090561 ∧ er = 0 := by
  rcases hr with ⟨h, -⟩ | ⟨-, ⟨-, h1, h2⟩ | ⟨h, -⟩ | ⟨h, -⟩⟩
  · exact absurd h (by decide)
  · exact ⟨h1, h2⟩
  · exact absurd rfl h
  · exact absurd rfl h
/-- what is read is of no other kind -/
theorem read_kind {l : List UInt8} {x : Nat} {er : Int} (hr : ReadIs l x er) : x < 18446744073709551616 ∧ (er ≠ 0 → x = 0) ∧ (x = 9221120237041090561 ∨ ¬ (x / 4503599627370496 % 2048 = 2047 ∧ x % 4503599627370496 ≠ 0)) := by
  have hsb : ∀ m, signBit m = 0 ∨ signBit m = 9223372036854775808 := fun m => by cases m; exact .inl rfl; exact .inr rfl
  rcases hr with ⟨-, rfl, h⟩ | ⟨-, ⟨-, rfl, h⟩ | ⟨-, -, rfl, h⟩ | ⟨-, -, ⟨-, rfl, h⟩ | ⟨d, e, b, -, -, ⟨-, rfl, h⟩ | ⟨hb, rfl, h⟩⟩⟩⟩
  · exact ⟨by omega, fun _ => rfl, .inr (by omega)⟩
  · exact ⟨by omega, fun h2 => absurd h h2, .inl rfl⟩
  · rcases hsb (Lib.hasPrefix l [45]) with h2 | h2 <;> rw [h2] <;> exact ⟨by omega, fun h2 => absurd h h2, .inr (by omega)⟩
  · exact ⟨by omega, fun _ => rfl, .inr (by omega)⟩
  · exact ⟨by omega, fun _ => rfl, .inr (by omega)⟩
  · rcases hsb (Lib.hasPrefix l [45]) with h2 | h2 <;> rw [h2] <;> exact ⟨by omega, fun h2 => absurd h h2, .inr (by omega)⟩
/-- what is read is told as a text that is read the same -/
theorem read_same {l t : List UInt8} {x y : Nat} {er f : Int} (hr : ReadIs l x er) (ht : TextIs x t) (hs : ReadIs t y f) : y = x ∧ f = 0 := by
  obtain ⟨k1, -, k2⟩ := read_kind hr
  by_cases hn : x / 4503599627370496 % 2048 = 2047 ∧ x % 4503599627370496 ≠ 0
  · obtain rfl : x = 9221120237041090561 := by
      rcases k2 with h | h
      · exact h
      · exact absurd hn h
    have e : t = nanTxt := by
      rcases ht with ⟨-, -, h⟩ | ⟨-, h, -⟩ | ⟨h, -⟩ | ⟨h, -⟩
      · exact h
      · exact absurd h hn.2
      · exact absurd hn.1 h
      · exact absurd hn.1 h
    subst e
    exact read_nan hs
  · have := text_back k1 ht hs hn
    exact ⟨this.1, this.2.1⟩
end Go.Proofs.YtmieegcnfnoiiaaDoor
namespace Go.Proofs.YtmieegcnfnoiiaaDoor
open Go.RowKit Gx
set_option maxRecDepth 100000

def FTab (w : World) : Prop := Lib.TabIs Tryd.prog w "internal/strconv.uint64pow10" .u64 Lib.pow10Tab
theorem FTab.keep {w w' : World} (h : FTab w) (hb : Below w.heap.size w w') : FTab w' := TabIs_below (g := 4) (by kernel_rfl) h hb
theorem below_grow (w : World) (k : Nat) (os : Array Obj) : Below w.heap.size w (Go.Sort.grow (w.drewN k) os) := by
  refine ⟨rfl, rfl, rfl, ?_, fun i hi => ?_⟩
  · show w.heap.size ≤ (w.heap ++ os).size
    simp
  · show (w.heap ++ os)[i]? = w.heap[i]?
    rw [Array.getElem?_append_left hi]
theorem ret_str {a b : ByteArray} (h : a.data.toList = b.data.toList) : Ending.returned (.string a) = .returned (.string b) := by
  rw [show a = b from ByteArray.ext (Array.toList_inj.1 h)]

def StrPost (x : List UInt8) (w : World) (e : Ending) (w' : World) : Prop := e = .returned (.string ⟨x.toArray⟩) ∧ Below w.heap.size w w'
theorem repeat_one (j : Nat) : Lib.repeatL [48] j = List.replicate j 48 := by
  induction j with
  | zero => rfl
  | succ j ih => rw [Lib.repeatL, ih]; rfl
theorem rep_any (j : Nat) (hj : j ≤ 100000) (w : World) : Calls Tryd.prog 47 #[.string ⟨#[48]⟩, .int .i64 j] w (StrPost (List.replicate j 48) w) := by
  have h := Tryd.strings_Repeat ⟨#[48]⟩ j w (by omega) (by show 1 * j ≤ _; omega)
  rw [show (⟨#[48]⟩ : ByteArray).data.toList = [48] from rfl, repeat_one] at h
  exact h
theorem itoa_any (y : Int) (h0 : -100000 ≤ y) (h1 : y ≤ 100000) (w : World) (hT : FTab w) : Calls Tryd.prog 48 #[.int .i64 y] w (StrPost (Lib.itoa y) w) := by
  refine (Tryd.strconv_Itoa y (by omega) (by omega) w hT).mono ?_
  rintro e w2 ⟨rfl, k, os, rfl⟩
  exact ⟨rfl, below_grow w k os⟩

set_option maxHeartbeats 2000000 in
theorem point_any (s : ByteArray) (k : Int) (w : World) (h1 : 1 ≤ s.size) (h2 : s.size ≤ 17) (h3 : -2000 ≤ k) (h4 : k ≤ 2000) (hT : FTab w) :
    Calls Tryd.prog 35 #[.string s, .int .i64 k] w (StrPost (pointOf s.data.toList k) w) := by
  have hL : s.data.toList.length = s.size := (Lib.size_eq s).symm
  have HT := Lib.hid hT
  clear hT
  by_cases c1 : -3 ≤ (s.size : Int) + k ∧ (s.size : Int) + k ≤ 0
  · obtain ⟨j, hj⟩ : ∃ j : Nat, (s.size : Int) + k = -(j : Int) := ⟨(-((s.size : Int) + k)).toNat, by omega⟩
    have e : pointOf s.data.toList k = [48, 46] ++ List.replicate j 48 ++ s.data.toList := by
      unfold pointOf
      rw [hL, if_pos c1, show (-((s.size : Int) + k)).toNat = j by omega]
    rw [e]
    have HL := Lib.hid hL
    have t1 : decide (-3 ≤ -(j : Int)) = true := decide_eq_true (by omega)
    have t2 : decide (-(j : Int) ≤ 0) = true := decide_eq_true (by omega)
    have HR := Lib.hid (fun w0 => rep_any j (by omega) w0)
    unfold StrPost at HR
    obtain ⟨j0, j1⟩ : 0 ≤ (j : Int) ∧ (j : Int) ≤ 3 := by omega
    clear e c1 hL
    go_enter Tryd.func35, Tryd.ntmps35
    go_wp2_with fail
    refine (HR.out w).mono ?_
    rintro e0 w1 ⟨rfl, hb⟩
    have B1 := Lib.hid hb
    clear hb
    go_wp2
    go_ret
    exact ⟨ret_str (by simp), B1.out⟩
  by_cases c2 : 0 < (s.size : Int) + k ∧ (s.size : Int) + k < s.size
  · obtain ⟨p, hp⟩ : ∃ p : Nat, (s.size : Int) + k = (p : Int) := ⟨((s.size : Int) + k).toNat, by omega⟩
    have e : pointOf s.data.toList k = s.data.toList.take p ++ 46 :: s.data.toList.drop p := by
      unfold pointOf
      rw [hL, if_neg c1, if_pos c2, show ((s.size : Int) + k).toNat = p by omega]
    rw [e]
    have HL := Lib.hid hL
    have t1 : decide (-3 ≤ (p : Int)) = true := decide_eq_true (by omega)
    have t2 : decide ((p : Int) ≤ 0) = false := decide_eq_false (by omega)
    have t3 : decide ((0 : Int) < (p : Int)) = true := decide_eq_true (by omega)
    have t3n : 0 < p := by omega
    have t4 : decide ((p : Int) < (s.size : Int)) = true := decide_eq_true (by omega)
    have t4n : p < s.size := by omega
    have t2n : p ≠ 0 := by omega
    obtain ⟨j0, j1⟩ : 0 ≤ (p : Int) ∧ (p : Int) ≤ (s.size : Int) := by omega
    clear e c1 c2 hL HT
    go_enter Tryd.func35, Tryd.ntmps35
    go_wp2_with fail
    go_quiet (fail)
    go_wp2
    go_ret
    have x1 : (s.extract 0 p).data.toList = s.data.toList.take p := by rw [Lib.extract_data, List.drop_zero, Nat.sub_zero]
    have x2 : (s.extract p s.size).data.toList = s.data.toList.drop p := Lib.extract_to_end s p
    exact ⟨ret_str (by simp only [ByteArray.data_append, Array.toList_append, x1, x2]; simp), Gx.drewN_below _ _ _⟩
  by_cases c3 : (s.size : Int) ≤ (s.size : Int) + k ∧ (s.size : Int) + k ≤ 17
  · obtain ⟨j, hj⟩ : ∃ j : Nat, k = (j : Int) := ⟨k.toNat, by omega⟩
    subst hj
    have e : pointOf s.data.toList (j : Int) = s.data.toList ++ List.replicate j 48 ++ [46, 48] := by
      unfold pointOf
      rw [hL, if_neg c1, if_neg c2, if_pos c3, show ((s.size : Int) + (j : Int) - (s.size : Int)).toNat = j by omega]
    rw [e]
    have HL := Lib.hid hL
    have HR := Lib.hid (fun w0 => rep_any j (by omega) w0)
    unfold StrPost at HR
    have t1 : decide (-3 ≤ (s.size : Int) + (j : Int)) = true := decide_eq_true (by omega)
    have t2 : decide ((s.size : Int) + (j : Int) ≤ 0) = false := decide_eq_false (by omega)
    have t3 : decide ((0 : Int) < (s.size : Int) + (j : Int)) = true := decide_eq_true (by omega)
    have t4 : decide ((s.size : Int) + (j : Int) < (s.size : Int)) = false := decide_eq_false (by omega)
    have t5 : decide ((s.size : Int) ≤ (s.size : Int) + (j : Int)) = true := decide_eq_true (by omega)
    have t6 : decide ((s.size : Int) + (j : Int) ≤ 17) = true := decide_eq_true (by omega)
    have ej : Hid ((s.size : Int) + (j : Int) - (s.size : Int) = (j : Int)) := by show _ = _; omega
    obtain ⟨j0, j1⟩ : 0 ≤ (j : Int) ∧ (s.size : Int) + (j : Int) ≤ 17 := by omega
    clear e c1 c2 c3 hL
    go_enter Tryd.func35, Tryd.ntmps35
    go_wp2_with fail
    try rw [ej.out]
    refine (HR.out w).mono ?_
    rintro e0 w1 ⟨rfl, hb⟩
    have B1 := Lib.hid hb
    clear hb
    go_wp2
    go_ret
    exact ⟨ret_str (by simp), B1.out⟩
  obtain ⟨p, hp⟩ : ∃ p : Int, (s.size : Int) + k = p := ⟨_, rfl⟩
  have t1 : decide (-3 ≤ p) = false ∨ (decide (-3 ≤ p) = true ∧ decide (p ≤ 0) = false) := by
    by_cases h : -3 ≤ p
    · exact .inr ⟨decide_eq_true h, decide_eq_false (by omega)⟩
    · exact .inl (decide_eq_false h)
  have t2 : decide (0 < p) = false ∨ (decide (0 < p) = true ∧ decide (p < (s.size : Int)) = false) := by
    by_cases h : 0 < p
    · exact .inr ⟨decide_eq_true h, decide_eq_false (by omega)⟩
    · exact .inl (decide_eq_false h)
  have t3 : decide ((s.size : Int) ≤ p) = false ∨ (decide ((s.size : Int) ≤ p) = true ∧ decide (p ≤ 17) = false) := by
    by_cases h : (s.size : Int) ≤ p
    · exact .inr ⟨decide_eq_true h, decide_eq_false (by omega)⟩
    · exact .inl (decide_eq_false h)
  obtain ⟨p0, p1⟩ : -2000 ≤ p ∧ p ≤ 2100 := by omega
  have HI := Lib.hid (itoa_any (p - 1) (by omega) (by omega) w HT.out)
  unfold StrPost at HI
  have hil := itoa_len (p - 1) (by omega) (by omega)
  obtain ⟨it, hit⟩ : ∃ it, it = Lib.itoa (p - 1) := ⟨_, rfl⟩
  rw [← hit] at HI hil
  have s1 : (1 : Int) ≤ (s.size : Int) := by omega
  by_cases c4 : 1 < s.size
  · have e : pointOf s.data.toList k = s.data.toList.take 1 ++ 46 :: s.data.toList.drop 1 ++ 101 :: it := by
      unfold pointOf
      rw [hL, if_neg c1, if_neg c2, if_neg c3, if_pos c4, hp, hit]
    rw [e]
    have HL := Lib.hid hL
    have c4d : decide ((1 : Int) < (s.size : Int)) = true := decide_eq_true (by omega)
    clear e c1 c2 c3 hL HT hit
    rcases t1 with t1 | ⟨t1, t1'⟩ <;> rcases t2 with t2 | ⟨t2, t2'⟩ <;> rcases t3 with t3 | ⟨t3, t3'⟩
    all_goals
      go_enter Tryd.func35, Tryd.ntmps35
      go_wp2_with fail
      refine HI.out.mono ?_
      rintro e0 w1 ⟨rfl, hb⟩
      have B1 := Lib.hid hb
      clear hb
      go_wp2
      go_ret
      have x1 : (s.extract 0 1).data.toList = s.data.toList.take 1 := by rw [Lib.extract_data, List.drop_zero, Nat.sub_zero]
      have x2 : (s.extract 1 s.size).data.toList = s.data.toList.drop 1 := Lib.extract_to_end s 1
      exact ⟨ret_str (by simp only [ByteArray.data_append, Array.toList_append, x1, x2]; simp), B1.out⟩
  · have e : pointOf s.data.toList k = s.data.toList ++ 101 :: it := by
      unfold pointOf
      rw [hL, if_neg c1, if_neg c2, if_neg c3, if_neg c4, hp, List.append_nil, List.take_of_length_le (by omega), hit]
    rw [e]
    have hx : s.extract 0 1 = s := by
      have : s.size = 1 := by omega
      rw [← this]; exact ByteArray.extract_zero_size
    have HX := Lib.hid hx
    have HL := Lib.hid hL
    have c4d : decide ((1 : Int) < (s.size : Int)) = false := decide_eq_false (by omega)
    clear e c1 c2 c3 hL HT hx hit
    rcases t1 with t1 | ⟨t1, t1'⟩ <;> rcases t2 with t2 | ⟨t2, t2'⟩ <;> rcases t3 with t3 | ⟨t3, t3'⟩
    all_goals
      go_enter Tryd.func35, Tryd.ntmps35
      go_wp2_with fail
      refine HI.out.mono ?_
      rintro e0 w1 ⟨rfl, hb⟩
      have B1 := Lib.hid hb
      clear hb
      go_wp2
      go_ret
      exact ⟨ret_str (by rw [HX.out]; simp), B1.out⟩
end Go.Proofs.YtmieegcnfnoiiaaDoor
namespace Go.Proofs.YtmieegcnfnoiiaaDoor
open Go.RowKit Gx
set_option maxRecDepth 100000

def TextPostF (b : Nat) (w : World) (e : Ending) (w' : World) : Prop := ∃ s : ByteArray, e = .returned (.string s) ∧ TextIs b s.data.toList ∧ s.size ≤ 100 ∧ Below w.heap.size w w'

set_option maxHeartbeats 4000000 in
theorem text_f (b : Nat) (w : World) (hb : b < 18446744073709551616) (hT : FTab w) : Calls Tryd.prog 21 #[.int .u64 b] w (TextPostF b w) := by
  have hsg : ∃ sg : ByteArray, sg.data.toList = sgOf b ∧ ((sg = ⟨#[45]⟩ ∧ decide ((9223372036854775808 : Int) ≤ (b : Int)) = true) ∨ (sg = ⟨#[]⟩ ∧ decide ((9223372036854775808 : Int) ≤ (b : Int)) = false)) := by
    unfold sgOf
    by_cases h : 9223372036854775808 ≤ b
    · exact ⟨⟨#[45]⟩, by rw [if_pos h], .inl ⟨rfl, decide_eq_true (by omega)⟩⟩
    · exact ⟨⟨#[]⟩, by rw [if_neg h], .inr ⟨rfl, decide_eq_false (by omega)⟩⟩
  obtain ⟨sg, hs0, hsg⟩ := hsg
  have HSG := Lib.hid hs0
  have hfin : ∀ (u : List UInt8) (s : ByteArray) w', s.data.toList = sg.data.toList ++ u → TextIs b (sgOf b ++ u) → u.length ≤ 30 → Below w.heap.size w w' → TextPostF b w (.returned (.string s)) w' := by
    intro u s w' h1 h2 h3 h4
    refine ⟨s, rfl, by rw [h1, hs0]; exact h2, ?_, h4⟩
    rw [Lib.size_eq, h1, List.length_append, ← Lib.size_eq]
    have : sg.size ≤ 1 := by rcases hsg with ⟨rfl, -⟩ | ⟨rfl, -⟩ <;> decide
    omega
  have hnan : b / 4503599627370496 % 2048 = 2047 → b % 4503599627370496 ≠ 0 → ∀ w', Below w.heap.size w w' → TextPostF b w (.returned (.string ⟨#[110, 97, 110]⟩)) w' := by
    intro h1 h2 w' h4
    exact ⟨_, rfl, .inl ⟨h1, h2, rfl⟩, by decide, h4⟩
  have HFIN := Lib.hid hfin
  have HNAN := Lib.hid hnan
  have hP := parts_any b w hb
  have hS := fun w0 => short_any b w0 hb
  unfold PartsPost at hP
  unfold ShortPost at hS
  have HP := Lib.hid hP
  have HS := Lib.hid hS
  have HT := Lib.hid hT
  have hI : b / 4503599627370496 % 2048 = 2047 → b % 4503599627370496 = 0 → TextIs b (sgOf b ++ infTxt) := fun h1 h2 => .inr (.inl ⟨h1, h2, rfl⟩)
  have hZ : b / 4503599627370496 % 2048 ≠ 2047 → b % 9223372036854775808 = 0 → TextIs b (sgOf b ++ [48, 46, 48]) := fun h1 h2 => .inr (.inr (.inl ⟨h1, h2, rfl⟩))
  have HI := Lib.hid hI
  have HZ := Lib.hid hZ
  have hN : b / 4503599627370496 % 2048 ≠ 2047 → b % 9223372036854775808 ≠ 0 → ∀ (c m z : Nat) (kk : Int), ShortIs (b % 9223372036854775808) c kk → c = m * 10 ^ z → m % 10 ≠ 0 → m ≠ 0 → (decText m).length ≤ 17 → -500 ≤ kk + (z : Int) → kk + (z : Int) ≤ 500 → TextIs b (sgOf b ++ pointOf (decText m) (kk + (z : Int))) :=
    fun h1 h2 c m z kk a1 a2 a3 a4 a5 a6 a7 => .inr (.inr (.inr ⟨h1, h2, c, m, z, kk, a1, a2, a3, a4, a5, a6, a7, rfl⟩))
  have HN := Lib.hid hN
  generalize TextPostF b w = POST at *
  have hq1 : ∃ q, q = b / 4503599627370496 % 2048 := ⟨_, rfl⟩
  obtain ⟨q, hq⟩ := hq1
  obtain ⟨f, hf⟩ : ∃ f, f = b % 4503599627370496 := ⟨_, rfl⟩
  obtain ⟨B, hB⟩ : ∃ B, B = b % 9223372036854775808 := ⟨_, rfl⟩
  rw [← hq] at HP HS HNAN HI HZ HN
  rw [← hf] at HP HNAN HI
  rw [← hB] at HP HS HZ HN
  clear hfin hnan hP hS hT hI hZ hN hs0 hq hf hB
  rcases hsg with ⟨rfl, hsd⟩ | ⟨rfl, hsd⟩
  all_goals
    go_enter Tryd.func21, Tryd.ntmps21
    go_wp2_with fail
    refine HP.out.mono ?_
    rintro e0 w1 ⟨m, x, k, rfl, hcase, rfl⟩
    rcases hcase with ⟨h1, rfl, ⟨h2, rfl⟩ | ⟨h2, rfl⟩⟩ | ⟨h1, rfl, h3, E, rfl, h5, h6, h7⟩
    · have N := Lib.hid (fun s hs => HFIN.out infTxt s w hs (HI.out h1 h2) (by decide) (Below.refl _ _))
      clear h1 h2
      go_wp2_with fail
      try go_ret
      exact N.out _ rfl
    · have N := Lib.hid (HNAN.out h1 h2 w (Below.refl _ _))
      clear h1 h2
      go_wp2_with fail
      try go_ret
      exact N.out
    · rcases Nat.eq_zero_or_pos m with rfl | hm
      · have hz : B = 0 := by omega
        have N := Lib.hid (fun s hs => HFIN.out [48, 46, 48] s w hs (HZ.out h1 hz) (by decide) (Below.refl _ _))
        clear h1 hz h3 h5 h6 h7
        go_wp2_with fail
        try go_ret
        exact N.out _ rfl
      · have hz : B ≠ 0 := by omega
        have tm : ((m : Int) == 0) = false := by rw [beq_eq_false_iff_ne]; omega
        have tm2 : decide ((m : Int) = 0) = false := decide_eq_false (by omega)
        have H1 := Lib.hid h1
        have H2 := Lib.hid hz
        have HS2 := Lib.hid (HS.out w)
        clear h1 hz h3 h5 h6 h7
        go_wp2_with fail
        refine HS2.out.mono ?_
        rintro e0 w2 (⟨hbad, -, -⟩ | ⟨-, -, c, kk, hc, rfl, hb2⟩)
        · exfalso
          rcases hbad with h | h
          · exact H1.out h
          · exact H2.out h
        · have hc0 := shortIs_pos hc H2.out
          have hlen := shortIs_len hc
          obtain ⟨M, z, e1, e2, e3, e4⟩ := short_parts c hc0
          have hdl : (decText c).length ≤ 30 := dec_len c (by omega)
          have hM0 : M ≠ 0 := by intro h; rw [h, Nat.zero_mul] at e1; exact hc0 e1
          have hpos := text_pos M
          have hkk : kk + ((decText c).length : Int) - ((shortOf c).length : Int) = kk + (z : Int) := by rw [e3, e4]; omega
          have hkr : -420 ≤ kk ∧ kk ≤ 400 := by
            obtain ⟨N, D, top, n0, -, -, -, g1, g2, ⟨g3, -⟩, g4, rfl, -⟩ := hc
            omega
          rw [e3] at hlen
          have TI := HN.out H1.out H2.out c M z kk hc e1 e2 hM0 hlen.2 (by omega) (by omega)
          obtain ⟨s, hs⟩ : ∃ s : ByteArray, s = ⟨(shortOf c).toArray⟩ := ⟨_, rfl⟩
          have hsl : s.data.toList = decText M := by rw [hs, e3]
          have hsz : s.size = (decText M).length := by rw [Lib.size_eq, hsl]
          rw [hkk, ← hs]
          have B2 := Lib.hid hb2
          have T2 := HT.out.keep hb2
          have hPT := point_any s (kk + (z : Int)) w2 (by omega) (by omega) (by omega) (by omega) T2
          rw [hsl] at hPT
          have hpl := point_len (decText M) (kk + (z : Int)) hlen.2 (by omega) (by omega)
          generalize pointOf (decText M) (kk + (z : Int)) = PT at *
          have HPT := Lib.hid hPT
          unfold StrPost at HPT
          have HTI := Lib.hid TI
          generalize kk + (z : Int) = K at *
          clear hc hc0 e1 e2 e3 e4 hdl hM0 hpos hkk hkr TI hsl hsz hb2 T2 hPT hs hlen
          go_wp2_with fail
          refine HPT.out.mono ?_
          rintro e0 w3 ⟨rfl, hb3⟩
          have N := Lib.hid (fun s hs => HFIN.out PT s w3 hs HTI.out (by omega) (B2.out.trans (hb3.mono B2.out.size)))
          clear hb3
          go_wp2_with fail
          try go_ret
          exact N.out _ (by simp)
end Go.Proofs.YtmieegcnfnoiiaaDoor
namespace Go.Proofs.YtmieegcnfnoiiaaDoor
open Go.RowKit Gx

theorem tab_of_reads {P : Program} {W : World} {name : String} {k : IntKind} {zs : List Int} {g : Nat} {t e : TypeId} {n : Nat}
    (hg : P.globalNamed name = some g) (hty : (P.globals[g]?).map (·.type) = some t) (ht : P.underlying t = some (.array n e)) (he : P.underlying e = some (.int k)) (hce : P.cellsOf e = 1) (hct : P.cellsOf t = n)
    (h : Lib.VarReads P W name (Lib.tabData k zs)) : Lib.TabIs P W name k zs := by
  obtain ⟨g', t', cs, fuel, p, hg', ht', hvar, hd⟩ := h
  obtain rfl := Option.some.inj (hg.symm.trans hg')
  obtain rfl := Option.some.inj (hty.symm.trans ht')
  unfold Lib.TabIs
  rw [hvar, ← Lib.cells_of_tab ht he hce hct hd]

theorem float_tabs {W : World} (hL : laidMetH Tryd.prog Rows.floatTextRow.laid W) : FTab W := by
  have h3 := Lib.laidMet.reads hL (.tail _ (.tail _ (.head _)))
  have e3 : Rows.laid_internal_strconv_uint64pow10 = Lib.tabData (H := Unit) .u64 Lib.pow10Tab := by kernel_rfl
  rw [e3] at h3
  exact tab_of_reads (g := 4) (t := (Tryd.prog.globals[4]!).type) (by kernel_rfl) (by kernel_rfl) (n := 20) (e := 22) (by kernel_rfl) (by kernel_rfl) (by kernel_rfl) (by kernel_rfl) h3
theorem float_tabs2 {W : World} (hL : laidMetH Tryd.prog Rows.floatSameRow.laid W) : FTab W := by
  have h3 := Lib.laidMet.reads hL (.tail _ (.tail _ (.head _)))
  have e3 : Rows.laid_internal_strconv_uint64pow10 = Lib.tabData (H := Unit) .u64 Lib.pow10Tab := by kernel_rfl
  rw [e3] at h3
  exact tab_of_reads (g := 4) (t := (Tryd.prog.globals[4]!).type) (by kernel_rfl) (by kernel_rfl) (n := 20) (e := 22) (by kernel_rfl) (by kernel_rfl) (by kernel_rfl) (by kernel_rfl) h3
end Go.Proofs.YtmieegcnfnoiiaaDoor
