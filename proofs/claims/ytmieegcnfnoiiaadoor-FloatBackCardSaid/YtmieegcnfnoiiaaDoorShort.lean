/-
  The contract of float.Short. Conditions: 64 bits.
-/
import Derived.Test.YtmieegcnfnoiiaaDoorShortLaw2
namespace Go.Proofs.YtmieegcnfnoiiaaDoor
open Go.RowKit Gx
set_option maxRecDepth 100000

/-- c * 10^k is what Short finds for the fraction B -/
def ShortIs (B c : Nat) (kk : Int) : Prop := ∃ (N D : Nat) (top : Int) (n0 : Nat), IsFrac B N D ∧ Bel N D top ∧ ¬ Bel N D (top - 1) ∧ 1 ≤ n0 ∧ n0 ≤ 17 ∧ -400 ≤ top ∧ top ≤ 400 ∧ kk = top - (n0 : Int) ∧
  (c = lowOf N D kk ∨ c = highOf N D kk) ∧ Hits c kk B ∧ ∀ i : Nat, 1 ≤ i → i < n0 → ¬ Hits (lowOf N D (top - (i : Int))) (top - (i : Int)) B ∧ ¬ Hits (highOf N D (top - (i : Int))) (top - (i : Int)) B
def ShortPost (b : Nat) (w : World) (e : Ending) (w' : World) : Prop :=
  ((b / 4503599627370496 % 2048 = 2047 ∨ b % 9223372036854775808 = 0) ∧ e = .returned (.tuple #[.string ⟨#[]⟩, .int .i64 0, .int .i64 1]) ∧ Below w.heap.size w w') ∨
  (b / 4503599627370496 % 2048 ≠ 2047 ∧ b % 9223372036854775808 ≠ 0 ∧ ∃ c kk, ShortIs (b % 9223372036854775808) c kk ∧ e = .returned (.tuple #[.string ⟨(shortOf c).toArray⟩, .int .i64 (kk + ((decText c).length : Int) - ((shortOf c).length : Int)), .int .i64 0]) ∧ Below w.heap.size w w')

theorem frac_mod {b A B : Nat} (h : IsFrac b A B) : IsFrac (b % 9223372036854775808) A B := by
  obtain ⟨h1, h2⟩ := h
  exact ⟨by rw [h1, Nat.mod_mod], h2⟩
theorem ten_big (n K : Nat) (h : K ≤ 3 * n) : 2 ^ K ≤ 10 ^ n := by
  have h1 : 2 ^ (3 * n) = 8 ^ n := by rw [Nat.pow_mul]
  have h2 := Nat.pow_le_pow_right (show 2 > 0 by decide) h
  have h3 := Nat.pow_le_pow_left (show 8 ≤ 10 by decide) n
  omega
theorem frac_bounds {B N D m E : Nat} (h : IsFrac B N D) (hB : B % 9223372036854775808 = E * 4503599627370496 + m) (hm : m < 9007199254740992) (hm0 : 0 < m) (hE : E ≤ 2045) (h2 : E = 0 ∨ 4503599627370496 ≤ m) : Bel N D 400 ∧ ¬ Bel N D (-400) := by
  obtain ⟨h1, hD⟩ := h
  obtain ⟨K, hK⟩ : ∃ K : Nat, K = 1074 := ⟨_, rfl⟩
  obtain ⟨n, hn⟩ : ∃ n : Nat, n = 400 := ⟨_, rfl⟩
  rw [x74_of N K hK, hB, fval_of m E hm h2] at h1
  have e1 : (400 : Int) = (n : Int) := by omega
  rw [e1]
  unfold Bel tenUp tenDn
  rw [show (-(n : Int)).toNat = 0 by omega, show (n : Int).toNat = n by omega, show (- -(n : Int)).toNat = n by omega]
  simp only [Nat.pow_zero, Nat.mul_one]
  refine ⟨?_, ?_⟩
  · have a1 : m * 2 ^ E < 2 ^ (53 + E) := by
      have h53 : (2 : Nat) ^ 53 = 9007199254740992 := by decide
      rw [Nat.pow_add, h53]
      exact Nat.mul_lt_mul_of_pos_right hm (Nat.two_pow_pos E)
    have a2 := Nat.pow_le_pow_right (show 2 > 0 by decide) (show 53 + E ≤ 1024 + K by omega)
    obtain ⟨J, hJ⟩ : ∃ J : Nat, J = 1024 := ⟨_, rfl⟩
    rw [← hJ, Nat.pow_add 2 J K] at a2
    have a3 := ten_big n J (by omega)
    have a4 : N * 2 ^ K < 10 ^ n * D * 2 ^ K := by
      rw [h1]
      have b1 : m * 2 ^ E * D < 2 ^ J * 2 ^ K * D := Nat.mul_lt_mul_of_pos_right (by omega) hD
      have b2 : 2 ^ J * 2 ^ K * D ≤ 10 ^ n * 2 ^ K * D := Nat.mul_le_mul_right _ (Nat.mul_le_mul_right _ a3)
      rw [Nat.mul_right_comm (10 ^ n)]
      omega
    have a5 := Nat.lt_of_mul_lt_mul_right a4
    rw [Nat.mul_comm]
    exact a5
  · have a3 := ten_big n K (by omega)
    have a1 : D ≤ N * 2 ^ K := by
      rw [h1]
      have := Nat.mul_le_mul_right D (Nat.mul_pos hm0 (Nat.two_pow_pos E))
      rw [Nat.succ_mul, Nat.zero_mul, Nat.zero_add] at this
      exact this
    have a2 := Nat.mul_le_mul_left N a3
    omega
theorem blen_shl (m n K : Nat) (hm : m < 9007199254740992) (h : 53 + n ≤ K) : blen (m * 2 ^ n) ≤ K := by
  refine blen_le _ _ ?_
  have h53 : (2 : Nat) ^ 53 = 9007199254740992 := by decide
  have a1 : m * 2 ^ n < 2 ^ (53 + n) := by
    rw [Nat.pow_add, h53]
    exact Nat.mul_lt_mul_of_pos_right hm (Nat.two_pow_pos n)
  have a2 := Nat.pow_le_pow_right (show 2 > 0 by decide) h
  omega
theorem low_small {N D : Nat} {top : Int} {n : Nat} (hD : 0 < D) (h : Bel N D top) (hn : n ≤ 17) : lowOf N D (top - (n : Int)) < 1000000000000000000 := by
  have h1 := low_lt (n := n) hD h
  have h2 := Nat.pow_le_pow_right (show 10 > 0 by decide) hn
  have h3 : (10 : Nat) ^ 17 = 100000000000000000 := by decide
  omega

set_option maxHeartbeats 4000000 in
theorem short_any (b : Nat) (w : World) (hb : b < 18446744073709551616) :
    Calls Tryd.prog 10 #[.int .u64 b] w (ShortPost b w) := by
  have hp := parts_any b w hb
  have ha := andnot_sign b hb
  have hfin : ∀ e w', ShortPost b w e w' → ShortPost b w e w' := fun _ _ h => h
  unfold PartsPost at hp
  by_cases hs : b / 4503599627370496 % 2048 = 2047
  · have hp2 := hp.mono (R' := fun e w' => ∃ x k : Int, 0 < k ∧ e = .returned (.tuple #[.int .u64 0, .int .i64 x, .int .i64 k]) ∧ w = w') (by
      rintro e w' ⟨m, x, k, rfl, ⟨-, rfl, h⟩ | ⟨h1, -⟩, rfl⟩
      · exact ⟨x, k, by omega, rfl, rfl⟩
      · exact absurd hs h1)
    have HP := Lib.hid hp2
    have hres := Lib.hid (show ShortPost b w (.returned (.tuple #[.string ⟨#[]⟩, .int .i64 0, .int .i64 1])) w from .inl ⟨.inl hs, rfl, Below.refl _ _⟩)
    generalize ShortPost b w = POST at *
    clear hp hp2 ha hfin hs hb
    go_enter Tryd.func10, Tryd.ntmps10
    go_wp2_with fail
    refine HP.out.mono ?_
    rintro e0 w1 ⟨x, k, hk, rfl, rfl⟩
    have t0 : decide (0 < k) = true := decide_eq_true hk
    go_wp2
    go_ret3
    exact hres.out
  by_cases hz : b % 9223372036854775808 = 0
  · have hp2 := hp.mono (R' := fun e w' => ∃ x : Int, e = .returned (.tuple #[.int .u64 0, .int .i64 x, .int .i64 0]) ∧ w = w') (by
      rintro e w' ⟨m, x, k, rfl, h | ⟨h1, rfl, h3, E, rfl, h5, h6, h7⟩, rfl⟩
      · exact absurd h.1 hs
      · obtain rfl : m = 0 := by omega
        exact ⟨_, rfl, rfl⟩)
    have HP := Lib.hid hp2
    have hres := Lib.hid (show ShortPost b w (.returned (.tuple #[.string ⟨#[]⟩, .int .i64 0, .int .i64 1])) w from .inl ⟨.inr hz, rfl, Below.refl _ _⟩)
    generalize ShortPost b w = POST at *
    clear hp hp2 ha hfin hs hz hb
    go_enter Tryd.func10, Tryd.ntmps10
    go_wp2_with fail
    refine HP.out.mono ?_
    rintro e0 w1 ⟨x, rfl, rfl⟩
    go_wp2
    go_ret3
    exact hres.out
  have hp3 := hp.mono (R' := fun e w' => ∃ m E : Nat, e = .returned (.tuple #[.int .u64 m, .int .i64 ((E : Int) - 1074), .int .i64 0]) ∧ m < 9007199254740992 ∧ E ≤ 2045 ∧ (E = 0 ∨ 4503599627370496 ≤ m) ∧ b % 9223372036854775808 = E * 4503599627370496 + m ∧ w = w') (by
    rintro e w' ⟨m, x, k, rfl, h | ⟨h1, rfl, h3, E, rfl, h5, h6, h7⟩, rfl⟩
    · exact absurd h.1 hs
    · exact ⟨m, E, rfl, h3, h5, h6, h7, rfl⟩)
  have HP := Lib.hid hp3
  have hB9 : b % 9223372036854775808 < 9218868437227405312 := by omega
  have HPOST := Lib.hid (show ∀ e w' c kk, ShortIs (b % 9223372036854775808) c kk → e = .returned (.tuple #[.string ⟨(shortOf c).toArray⟩, .int .i64 (kk + ((decText c).length : Int) - ((shortOf c).length : Int)), .int .i64 0]) → Below w.heap.size w w' → ShortPost b w e w' from
    fun e w' c kk h1 h2 h3 => .inr ⟨hs, hz, c, kk, h1, h2, h3⟩)
  generalize ShortPost b w = POST at *
  clear hp hp3 hfin hs hb
  obtain ⟨B, hB⟩ : ∃ B, B = b % 9223372036854775808 := ⟨_, rfl⟩
  have hfr : ∀ N D, IsFrac b N D → IsFrac B N D := fun N D h => by rw [hB]; exact frac_mod h
  rw [← hB] at ha hz hB9 HPOST
  have HFR := Lib.hid hfr
  have HB := Lib.hid hB
  have HZ := Lib.hid (Nat.pos_of_ne_zero hz)
  have HB9 := Lib.hid hB9
  clear hfr hB hz hB9
  go_enter Tryd.func10, Tryd.ntmps10
  go_wp2_with fail
  refine HP.out.mono ?_
  rintro e0 w1 ⟨m, E, rfl, hm, hE, h2, h7, rfl⟩
  have hm0 : 0 < m := by have := HZ.out; have := HB.out; omega
  have tm : ((m : Int) == 0) = false := by rw [beq_eq_false_iff_ne]; omega
  have tm2 : decide ((m : Int) = 0) = false := decide_eq_false (by omega)
  have HN := Lib.hid (nat_any m w (by omega))
  unfold WordsPost at HN
  go_wp2_with fail
  refine HN.out.mono ?_
  rintro e0 w2 ⟨mo, mc, rfl, hr, hb⟩
  have M2 := Lib.hid hr
  have B2 := Lib.hid hb
  clear hr hb HN HP
  have hal := (Below.refl w2.heap.size w2).alloc (Nat.le_refl _) (.cells #[.int .u32 1] 27)
  have hone := one_rd w2
  have hc1 : canon 1 = [1] := rfl
  rw [hc1] at hone
  have AL := Lib.hid hal
  have ONE := Lib.hid hone
  have M3 := Lib.hid (M2.out.keep hal)
  have B3 := Lib.hid (B2.out.trans (hal.mono B2.out.size))
  clear hal hone hc1 M2 B2
  rcases Int.lt_or_le (E : Int) 1074 with he | he
  · obtain ⟨n, hn⟩ : ∃ n : Nat, E + n = 1074 := ⟨1074 - E, by omega⟩
    have FRAC := Lib.hid (HFR.out _ _ (frac_dn b m E h7 hm h2 n hn))
    have bnds := frac_bounds FRAC.out (by rw [HB.out, Nat.mod_mod]; exact h7) hm hm0 hE h2
    have HS := Lib.hid (shift_left' _ _ _ n 1 _ ONE.out rfl (by show 1 ≤ _; omega) (by omega))
    rw [Nat.one_mul] at HS
    unfold SubPost at HS
    have LX : Hid ((canon m).length ≤ 60) := Nat.le_trans (fits_two m hm).len (by decide)
    have LY : Hid ((canon (2 ^ n)).length ≤ 60) := (two_fitsK n 60 (by omega)).len
    have VX : Hid (bval (canon m) = m) := bval_canon _
    have VY : Hid (bval (canon (2 ^ n)) = 2 ^ n) := bval_canon _
    have MG0 := fun w0 xo xc yo yc (h : Rd .u32 w0 xo xc (canon m)) (g : Rd .u32 w0 yo yc (canon (2 ^ n))) => magnitude_any xo yo xc yc (canon m) (canon (2 ^ n)) m (2 ^ n) w0 h g VX.out VY.out LX.out LY.out (by have := blen_shl m 0 60 hm (by omega); rw [Nat.pow_zero, Nat.mul_one] at this; omega) (by exact Nat.le_trans (blen_le _ (n + 1) (Nat.pow_lt_pow_right (by decide) (by omega))) (by omega)) bnds.1 bnds.2
    unfold MagPost at MG0
    have MG1 := Lib.hid MG0
    have tE : decide (0 ≤ (E : Int) - 1074) = false := decide_eq_false (by omega)
    have eE : -((E : Int) - 1074) = (n : Int) := by omega
    have EE := Lib.hid eE
    clear hn h7 h2 hm hE MG0 bnds eE hm0
    go_wp2_with fail
    rw [EE.out]
    refine HS.out.mono ?_
    rintro e0 w4 ⟨so, sc, rfl, hr, hb⟩
    have Y4 := Lib.hid hr
    have X4 := Lib.hid (M3.out.keep hb)
    have B4 := Lib.hid (B3.out.trans (hb.mono B3.out.size))
    have MG := Lib.hid (MG1.out w4 _ _ _ _ X4.out Y4.out)
    clear hr hb M3 B3 HS MG1 AL ONE EE
    go_wp2_with fail
    refine MG.out.mono ?_
    rintro e0 w5 ⟨top, rfl, t1, t2, hbel, hnb, hb⟩
    have X5 := Lib.hid (X4.out.keep hb)
    have Y5 := Lib.hid (Y4.out.keep hb)
    have B5 := Lib.hid (B4.out.trans (hb.mono B4.out.size))
    have HNE := Lib.hid (fun w0 (hb : Below w5.heap.size w5 w0) (j : Nat) (g1 : 1 ≤ j) (g17 : j ≤ 17) => nearest_any mo so mc sc (canon m) (canon (2 ^ n)) m (2 ^ n) (top - (j : Int)) B w0 (X5.out.keep hb) (Y5.out.keep hb) VX.out VY.out LX.out LY.out (by omega) (by omega) (Nat.pos_iff_ne_zero.1 FRAC.out.2) (low_small FRAC.out.2 hbel g17))
    have SEV := Lib.hid (seventeen FRAC.out HB9.out HZ.out hnb)
    unfold NearestPost at HNE
    have HIN := Lib.hid (show ∀ (j : Nat) c, 1 ≤ j → j ≤ 17 → (c = lowOf m (2 ^ n) (top - (j : Int)) ∨ c = highOf m (2 ^ n) (top - (j : Int))) → Hits c (top - (j : Int)) B → (∀ i : Nat, 1 ≤ i → i < j → ¬ Hits (lowOf m (2 ^ n) (top - (i : Int))) (top - (i : Int)) B ∧ ¬ Hits (highOf m (2 ^ n) (top - (i : Int))) (top - (i : Int)) B) → ShortIs B c (top - (j : Int)) from
      fun j c g1 g2 g3 g4 g5 => ⟨m, (2 ^ n), top, j, FRAC.out, hbel, hnb, g1, g2, t1, t2, rfl, g3, g4, g5⟩)
    obtain ⟨HI, hHI⟩ : ∃ HI : Int → Prop, HI = fun k => Hits (lowOf m (2 ^ n) k) k B := ⟨_, rfl⟩
    obtain ⟨HJ, hHJ⟩ : ∃ HJ : Int → Prop, HJ = fun k => Hits (highOf m (2 ^ n) k) k B := ⟨_, rfl⟩
    have i1 : ∀ k, HI k = Hits (lowOf m (2 ^ n) k) k B := fun k => by rw [hHI]
    have i2 : ∀ k, HJ k = Hits (highOf m (2 ^ n) k) k B := fun k => by rw [hHJ]
    simp only [← i1, ← i2] at HNE SEV HIN
    generalize lowOf m (2 ^ n) = LO at *
    generalize highOf m (2 ^ n) = HG at *
    clear hb X4 Y4 B4 MG hbel hnb X5 Y5 i1 i2 hHI hHJ VX VY LX LY FRAC
    go_wp2_with fail
    go_loopw [11, 12, 13, 14] (fun nv a1 a2 a3 wr => ∃ n : Nat, nv = .int .i64 n ∧ 1 ≤ n ∧ n ≤ 17 ∧ Hid (∀ i : Nat, 1 ≤ i → i < n → ¬ HI (top - (i : Int)) ∧ ¬ HJ (top - (i : Int))) ∧ Below w5.heap.size w5 wr) (fun nv _ _ _ _ => 18 - (intOf nv).toNat)
    case atStart => exact ⟨1, rfl, by omega, by omega, (fun i h1 h2 => absurd h1 (by omega)), Below.refl _ _⟩
    case round =>
      obtain ⟨n, rfl, n1, n2, hprev, hb⟩ := hrel
      have HC := Lib.hid (HNE.out wr hb n n1 n2)
      go_wp2_with fail
      refine HC.out.mono ?_
      rintro e0 w6 (⟨c, hc, hit, rfl, hb2⟩ | ⟨z1, z2, rfl, hb2⟩)
      · have B6 := Lib.hid (B5.out.trans ((hb.trans (hb2.mono hb.size)).mono B5.out.size))
        have IN := Lib.hid (HIN.out n c n1 n2 hc hit hprev.out)
        clear hb hb2 hc hit HC
        have hfin := Lib.hid (HPOST.out _ w6 c _ IN.out rfl B6.out)
        generalize shortOf c = st at *
        generalize decText c = dt at *
        go_wp2
        go_ret3
        exact hfin.out
      · have B6 := Lib.hid (hb.trans (hb2.mono hb.size))
        have hlt : n < 17 := by
          apply Classical.byContradiction
          intro hc
          obtain rfl : n = 17 := by omega
          exact SEV.out.elim z1 z2
        have HPR : Hid (∀ i : Nat, 1 ≤ i → i < n + 1 → ¬ HI (top - (i : Int)) ∧ ¬ HJ (top - (i : Int))) := by
          intro i g1 g2
          rcases Nat.lt_or_ge i n with g3 | g3
          · exact hprev.out i g1 g3
          · obtain rfl : i = n := by omega
            exact ⟨z1, z2⟩
        clear hb hb2 HC z1 z2 hprev
        go_wp2_with fail
        go_roundw
        case rel => exact ⟨n + 1, by congr 1 <;> omega, by omega, by omega, HPR, B6.out⟩
        case measure => simp [intOf]; omega
  · obtain ⟨n, hn⟩ : ∃ n : Nat, E = n + 1074 := ⟨E - 1074, by omega⟩
    have FRAC := Lib.hid (HFR.out _ _ (frac_up b m E h7 hm h2 n hn))
    have bnds := frac_bounds FRAC.out (by rw [HB.out, Nat.mod_mod]; exact h7) hm hm0 hE h2
    have HS := Lib.hid (shift_left' _ _ _ n m _ M3.out (bval_canon _) (Nat.le_trans (fits_two m hm).len (by decide)) (by omega))
    unfold SubPost at HS
    have LX : Hid ((canon (m * 2 ^ n)).length ≤ 60) := ((fits_two m hm).mul (two_fitsK n 58 (by omega))).len
    have LY : Hid (([1] : List Int).length ≤ 60) := by show 1 ≤ 60; omega
    have VX : Hid (bval (canon (m * 2 ^ n)) = m * 2 ^ n) := bval_canon _
    have VY : Hid (bval [1] = 1) := rfl
    have b1 : blen 1 ≤ 1100 := Nat.le_trans (blen_le 1 1 (by decide)) (by omega)
    have MG0 := fun w0 xo xc yo (h : Rd .u32 w0 xo xc (canon (m * 2 ^ n))) (g : Rd .u32 w0 yo 1 [1]) => magnitude_any xo yo xc 1 (canon (m * 2 ^ n)) [1] (m * 2 ^ n) 1 w0 h g VX.out VY.out LX.out LY.out (blen_shl m n 1100 hm (by omega)) b1 bnds.1 bnds.2
    unfold MagPost at MG0
    have MG1 := Lib.hid MG0
    have tE : decide (0 ≤ (E : Int) - 1074) = true := decide_eq_true (by omega)
    have eE : ((E : Int) - 1074) = (n : Int) := by omega
    have EE := Lib.hid eE
    clear hn h7 h2 hm hE MG0 bnds eE hm0 b1
    go_wp2_with fail
    rw [EE.out]
    refine HS.out.mono ?_
    rintro e0 w4 ⟨so, sc, rfl, hr, hb⟩
    have X4 := Lib.hid hr
    have Y4 := Lib.hid (ONE.out.keep hb)
    have B4 := Lib.hid (B3.out.trans (hb.mono B3.out.size))
    have MG := Lib.hid (MG1.out w4 _ _ _ X4.out Y4.out)
    clear hr hb M3 B3 HS MG1 AL ONE EE
    go_wp2_with fail
    refine MG.out.mono ?_
    rintro e0 w5 ⟨top, rfl, t1, t2, hbel, hnb, hb⟩
    have X5 := Lib.hid (X4.out.keep hb)
    have Y5 := Lib.hid (Y4.out.keep hb)
    have B5 := Lib.hid (B4.out.trans (hb.mono B4.out.size))
    have HNE := Lib.hid (fun w0 (hb : Below w5.heap.size w5 w0) (j : Nat) (g1 : 1 ≤ j) (g17 : j ≤ 17) => nearest_any so _ sc 1 (canon (m * 2 ^ n)) [1] (m * 2 ^ n) 1 (top - (j : Int)) B w0 (X5.out.keep hb) (Y5.out.keep hb) VX.out VY.out LX.out LY.out (by omega) (by omega) (Nat.pos_iff_ne_zero.1 FRAC.out.2) (low_small FRAC.out.2 hbel g17))
    have SEV := Lib.hid (seventeen FRAC.out HB9.out HZ.out hnb)
    unfold NearestPost at HNE
    have HIN := Lib.hid (show ∀ (j : Nat) c, 1 ≤ j → j ≤ 17 → (c = lowOf (m * 2 ^ n) 1 (top - (j : Int)) ∨ c = highOf (m * 2 ^ n) 1 (top - (j : Int))) → Hits c (top - (j : Int)) B → (∀ i : Nat, 1 ≤ i → i < j → ¬ Hits (lowOf (m * 2 ^ n) 1 (top - (i : Int))) (top - (i : Int)) B ∧ ¬ Hits (highOf (m * 2 ^ n) 1 (top - (i : Int))) (top - (i : Int)) B) → ShortIs B c (top - (j : Int)) from
      fun j c g1 g2 g3 g4 g5 => ⟨(m * 2 ^ n), 1, top, j, FRAC.out, hbel, hnb, g1, g2, t1, t2, rfl, g3, g4, g5⟩)
    obtain ⟨HI, hHI⟩ : ∃ HI : Int → Prop, HI = fun k => Hits (lowOf (m * 2 ^ n) 1 k) k B := ⟨_, rfl⟩
    obtain ⟨HJ, hHJ⟩ : ∃ HJ : Int → Prop, HJ = fun k => Hits (highOf (m * 2 ^ n) 1 k) k B := ⟨_, rfl⟩
    have i1 : ∀ k, HI k = Hits (lowOf (m * 2 ^ n) 1 k) k B := fun k => by rw [hHI]
    have i2 : ∀ k, HJ k = Hits (highOf (m * 2 ^ n) 1 k) k B := fun k => by rw [hHJ]
    simp only [← i1, ← i2] at HNE SEV HIN
    generalize lowOf (m * 2 ^ n) 1 = LO at *
    generalize highOf (m * 2 ^ n) 1 = HG at *
    clear hb X4 Y4 B4 MG hbel hnb X5 Y5 i1 i2 hHI hHJ VX VY LX LY FRAC
    go_wp2_with fail
    go_loopw [11, 12, 13, 14] (fun nv a1 a2 a3 wr => ∃ n : Nat, nv = .int .i64 n ∧ 1 ≤ n ∧ n ≤ 17 ∧ Hid (∀ i : Nat, 1 ≤ i → i < n → ¬ HI (top - (i : Int)) ∧ ¬ HJ (top - (i : Int))) ∧ Below w5.heap.size w5 wr) (fun nv _ _ _ _ => 18 - (intOf nv).toNat)
    case atStart => exact ⟨1, rfl, by omega, by omega, (fun i h1 h2 => absurd h1 (by omega)), Below.refl _ _⟩
    case round =>
      obtain ⟨n, rfl, n1, n2, hprev, hb⟩ := hrel
      have HC := Lib.hid (HNE.out wr hb n n1 n2)
      go_wp2_with fail
      refine HC.out.mono ?_
      rintro e0 w6 (⟨c, hc, hit, rfl, hb2⟩ | ⟨z1, z2, rfl, hb2⟩)
      · have B6 := Lib.hid (B5.out.trans ((hb.trans (hb2.mono hb.size)).mono B5.out.size))
        have IN := Lib.hid (HIN.out n c n1 n2 hc hit hprev.out)
        clear hb hb2 hc hit HC
        have hfin := Lib.hid (HPOST.out _ w6 c _ IN.out rfl B6.out)
        generalize shortOf c = st at *
        generalize decText c = dt at *
        go_wp2
        go_ret3
        exact hfin.out
      · have B6 := Lib.hid (hb.trans (hb2.mono hb.size))
        have hlt : n < 17 := by
          apply Classical.byContradiction
          intro hc
          obtain rfl : n = 17 := by omega
          exact SEV.out.elim z1 z2
        have HPR : Hid (∀ i : Nat, 1 ≤ i → i < n + 1 → ¬ HI (top - (i : Int)) ∧ ¬ HJ (top - (i : Int))) := by
          intro i g1 g2
          rcases Nat.lt_or_ge i n with g3 | g3
          · exact hprev.out i g1 g3
          · obtain rfl : i = n := by omega
            exact ⟨z1, z2⟩
        clear hb hb2 HC z1 z2 hprev
        go_wp2_with fail
        go_roundw
        case rel => exact ⟨n + 1, by congr 1 <;> omega, by omega, by omega, HPR, B6.out⟩
        case measure => simp [intOf]; omega
end Go.Proofs.YtmieegcnfnoiiaaDoor
