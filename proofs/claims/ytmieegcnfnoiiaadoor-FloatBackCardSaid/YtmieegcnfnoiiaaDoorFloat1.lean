/-
  The contracts of float's ratio and scaled. Conditions: canonical words, few of them.
-/
import Derived.Test.YtmieegcnfnoiiaaDoorNearLaw
import Derived.Test.YtmieegcnfnoiiaaDoorDivMod
import Derived.Test.YtmieegcnfnoiiaaDoorBigPow
import Derived.Test.YtmieegcnfnoiiaaDoorBigShift
import Derived.Test.YtmieegcnfnoiiaaDoorBigLawsWalk
namespace Go.Proofs.YtmieegcnfnoiiaaDoor
open Go.RowKit Gx
set_option maxRecDepth 100000

def tenUp (e : Int) : Nat := 10 ^ e.toNat
def tenDn (e : Int) : Nat := 10 ^ (-e).toNat
theorem tenDn_pos (e : Int) : 0 < tenDn e := Nat.pow_pos (by decide)
theorem tenUp_pos (e : Int) : 0 < tenUp e := Nat.pow_pos (by decide)
theorem ten_le (n : Nat) : 10 ^ n ≤ 2 ^ (4 * n) := by
  rw [Nat.pow_mul]
  exact Nat.pow_le_pow_left (by decide) n
theorem ten_fitsK (n K : Nat) (h : 4 * n < 32 * K) : Fits (10 ^ n) K := by
  unfold Fits
  rw [pow32]
  exact Nat.lt_of_le_of_lt (ten_le n) (Nat.pow_lt_pow_right (by decide) h)
theorem ten_fits (n : Nat) (h : n ≤ 1000) : Fits (10 ^ n) 126 := ten_fitsK n 126 (by omega)

theorem two_fitsK (n K : Nat) (h : n < 32 * K) : Fits (2 ^ n) K := by
  unfold Fits
  rw [pow32]
  exact Nat.pow_lt_pow_right (by decide) h

/-- two numbers, in canonical words -/
def TwoPost (N D : Nat) (w : World) (e : Ending) (w' : World) : Prop :=
  ∃ no nc dd dc, e = .returned (.tuple #[.slice no (canon N).length nc, .slice dd (canon D).length dc]) ∧ Rd .u32 w' no nc (canon N) ∧ Rd .u32 w' dd dc (canon D) ∧ Below w.heap.size w w'

theorem one_rd (w : World) : Rd .u32 (w.alloc (.cells #[.int .u32 1] 27)) (some ⟨w.heap.size, 0, none⟩) 1 (canon 1) := by
  have hc : canon 1 = [1] := rfl
  rw [hc]
  refine ⟨by simp, by decide, fun x hx => ?_, (fun h => by cases h), fun a ha _ => ?_⟩
  · simp at hx; subst hx
    simp [Lit.wf, IntKind.min, IntKind.max, IntKind.signed, IntKind.bits]
  · obtain rfl := Option.some.inj ha
    refine ⟨rfl, by simp, fun j hj => ?_⟩
    obtain rfl : j = 0 := by simp at hj; omega
    exact World.cell?_alloc_mark w _ _ (0, 0) 0

set_option maxHeartbeats 1000000 in
theorem ratio_any (ad : Option Addr) (ca M : Nat) (e : Int) (w : World) (h : Rd .u32 w ad ca (canon M)) (hl : (canon M).length ≤ 1000) (h1 : -1000 ≤ e) (h2 : e ≤ 1000) :
    Calls Tryd.prog 29 #[.slice ad (canon M).length ca, .int .i64 e] w (TwoPost (M * tenUp e) (tenDn e) w) := by
  by_cases he : e < 0
  · obtain ⟨n, rfl⟩ : ∃ n : Nat, e = -(n : Int) := ⟨(-e).toNat, by omega⟩
    have eu : M * tenUp (-(n : Int)) = M := by
      unfold tenUp
      rw [show (-(n : Int)).toNat = 0 by omega]; simp
    have ed : tenDn (-(n : Int)) = 10 ^ n := by
      unfold tenDn
      rw [show (- -(n : Int)).toNat = n by omega]
    rw [eu, ed]
    have H := Lib.hid h
    have hp := bigPow_any 10 n w (by decide) (by omega)
    unfold SubPost at hp
    have HP := Lib.hid hp
    have hn0 : 0 < n := by omega
    have hn1 : (0 : Int) < (n : Int) := by omega
    obtain ⟨k, hk⟩ : ∃ k, k = (canon M).length := ⟨_, rfl⟩
    have HK := Lib.hid hk
    rw [← hk]
    have hn : (n : Int) ≤ 1000 := by omega
    clear h hp eu ed hl he hk h1 h2
    go_enter Tryd.func29, Tryd.ntmps29
    go_wp2_with fail
    refine HP.out.mono ?_
    rintro e w1 ⟨po, pc, rfl, hr, hb⟩
    have HR := Lib.hid hr
    have H1 := Lib.hid (H.out.keep hb)
    have B1 := Lib.hid hb
    clear hr hb
    go_wp2
    go_ret2
    rw [HK.out]
    exact ⟨_, _, _, _, rfl, H1.out, HR.out, B1.out⟩
  · obtain ⟨n, rfl⟩ : ∃ n : Nat, e = (n : Int) := ⟨e.toNat, by omega⟩
    have eu : tenUp (n : Int) = 10 ^ n := by
      unfold tenUp
      rw [Int.toNat_natCast]
    have ed : tenDn (n : Int) = 1 := by
      unfold tenDn
      rw [show (-(n : Int)).toNat = 0 by omega, Nat.pow_zero]
    rw [eu, ed]
    have hf := (ten_fits n (by omega)).len
    have hp := bigPow_any 10 n w (by decide) (by omega)
    unfold SubPost at hp
    have HP := Lib.hid hp
    have HM := fun w0 (hb : Below w.heap.size w w0) po pc (hr : Rd .u32 w0 po pc (canon (10 ^ n))) => mul_two ad po ca pc (canon M) (canon (10 ^ n)) w0 M (10 ^ n) (h.keep hb) hr (bval_canon _) (bval_canon _) (by omega) (by omega)
    obtain ⟨k, hk⟩ : ∃ k, k = (canon M).length := ⟨_, rfl⟩
    rw [← hk] at HM ⊢
    replace HM := Lib.hid HM
    have t0 : decide ((n : Int) < 0) = false := decide_eq_false he
    have hn : (n : Int) ≤ 1000 := by omega
    clear h hp hf eu ed hl he hk h1 h2
    go_enter Tryd.func29, Tryd.ntmps29
    go_wp2_with fail
    refine HP.out.mono ?_
    rintro e w1 ⟨po, pc, rfl, hr, hb⟩
    have HR := Lib.hid hr
    have B1 := Lib.hid hb
    clear hr hb
    go_wp2_with fail
    refine (HM.out w1 B1.out _ _ HR.out).mono ?_
    rintro e w2 ⟨mo, mc, rfl, hr, hb⟩
    have HR2 := Lib.hid (hr.keep ((Below.refl w2.heap.size w2).alloc (Nat.le_refl _) (.cells #[.int .u32 1] 27)))
    have B2 := Lib.hid ((B1.out.trans (hb.mono B1.out.size)).alloc (Nat.le_trans B1.out.size hb.size) (.cells #[.int .u32 1] 27))
    have HO := Lib.hid (one_rd w2)
    clear hr hb
    go_wp2
    go_ret2
    exact ⟨_, _, _, _, rfl, HR2.out, HO.out, B2.out⟩

/-- rounded, of two as near the even one -/
def rheN (P Q : Nat) : Nat := P / Q + if Q < 2 * (P % Q) ∨ (2 * (P % Q) = Q ∧ P / Q % 2 = 1) then 1 else 0
def shNum (P : Nat) (e : Int) : Nat := P * 2 ^ (-e).toNat
def shDen (Q : Nat) (e : Int) : Nat := Q * 2 ^ e.toNat

def U64Post (n : Nat) (w : World) (e : Ending) (w' : World) : Prop := e = .returned (.int .u64 n) ∧ Below w.heap.size w w'

theorem and_one (o : Nat) (h : o < 18446744073709551616) : bits BinOp.and IntKind.u64 (o : Int) 1 = ((o % 2 : Nat) : Int) := by
  have := bits_and_u64_nat o 1 h (by decide)
  rw [Nat.and_one_is_mod] at this
  exact this

theorem bval_drop_le (xs : List Int) (hw : Words xs) (j : Nat) (hj : j ≤ xs.length) : bval (xs.drop j) ≤ bval xs := by
  rw [← bval_shr xs hw j hj]; exact Nat.div_le_self _ _
theorem bval_drop_32 (xs : List Int) (hw : Words xs) (j : Nat) (hj : j + 1 ≤ xs.length) : bval (xs.drop (j + 1)) * 4294967296 ≤ bval xs := by
  have h1 := bval_drop1 xs j (by omega)
  have h2 := bval_drop_le xs hw j (by omega)
  omega

set_option maxHeartbeats 4000000 in
theorem scaled_any (ad bd : Option Addr) (ca cb P0 Q0 : Nat) (e : Int) (w : World) (h : Rd .u32 w ad ca (canon P0)) (g : Rd .u32 w bd cb (canon Q0)) (hl : (canon P0).length ≤ 1000) (hl2 : (canon Q0).length ≤ 1000) (hQ : Q0 ≠ 0) (h1 : -1100 ≤ e) (h2 : e ≤ 1100)
    (hlt : shNum P0 e / shDen Q0 e < 72057594037927936) :
    Calls Tryd.prog 31 #[.slice ad (canon P0).length ca, .slice bd (canon Q0).length cb, .int .i64 e] w (U64Post (rheN (shNum P0 e) (shDen Q0 e)) w) := by
  obtain ⟨P, hP⟩ : ∃ P, P = shNum P0 e := ⟨_, rfl⟩
  obtain ⟨Q, hQe⟩ : ∃ P, P = shDen Q0 e := ⟨_, rfl⟩
  have hQ1 : Q ≠ 0 := by rw [hQe]; unfold shDen; exact Nat.mul_ne_zero hQ (Nat.ne_of_gt (Nat.two_pow_pos _))
  rw [← hP, ← hQe] at hlt ⊢
  have fP0 : Fits P0 1000 := by have := Fits.words (canon_words P0); rw [bval_canon] at this; exact this.mono hl
  have fQ0 : Fits Q0 1000 := by have := Fits.words (canon_words Q0); rw [bval_canon] at this; exact this.mono hl2
  have f2 : ∀ n : Nat, n ≤ 1100 → Fits (2 ^ n) 35 := fun n hn => two_fitsK n 35 (by omega)
  have lP : (canon P).length ≤ 2000 := by
    rw [hP]; unfold shNum
    have := (fP0.mul (f2 (-e).toNat (by omega))).len
    omega
  have lQ : (canon Q).length ≤ 2000 := by
    rw [hQe]; unfold shDen
    have := (fQ0.mul (f2 e.toNat (by omega))).len
    omega
  have lq : (canon (P / Q)).length ≤ 2 := canon_len_le _ 2 (by omega)
  have hRQ : P % Q < Q := Nat.mod_lt _ (by omega)
  have lR : (canon (P % Q)).length ≤ 2000 := by
    have f := Fits.words (canon_words Q)
    rw [bval_canon] at f
    have : Fits (P % Q) (canon Q).length := Nat.lt_trans hRQ f
    have := this.len
    omega
  have lRR : (canon (P % Q + P % Q)).length ≤ 2002 := by
    have f := Fits.words (canon_words (P % Q))
    rw [bval_canon] at f
    have := (f.add f).len
    omega
  have HD := fun (w1 : World) (ad bd : Option Addr) (ca cb : Nat) (hp : Rd .u32 w1 ad ca (canon P)) (hq : Rd .u32 w1 bd cb (canon Q)) => (by
    have := divMod_any ad bd ca cb (canon P) (canon Q) w1 hp hq (by omega) (by omega) (by rw [bval_canon]; exact hQ1)
    rwa [bval_canon, bval_canon] at this : Calls Tryd.prog 40 #[.slice ad (canon P).length ca, .slice bd (canon Q).length cb] w1 (DivModPost (P / Q) (P % Q) w1))
  have HA := fun (w1 : World) (ad : Option Addr) (ca : Nat) (hr : Rd .u32 w1 ad ca (canon (P % Q))) => add_two ad ad ca ca (canon (P % Q)) (canon (P % Q)) w1 (P % Q) (P % Q) hr hr (bval_canon _) (bval_canon _) (by omega) (by omega)
  have HC := fun (w1 : World) (ad bd : Option Addr) (ca cb : Nat) (hr : Rd .u32 w1 ad ca (canon (P % Q + P % Q))) (hq : Rd .u32 w1 bd cb (canon Q)) => (by
    have := bigCmp_any ad bd ca cb (canon (P % Q + P % Q)) (canon Q) w1 hr hq (by omega) (by omega)
    rwa [bval_canon, bval_canon] at this : Calls Tryd.prog 15 #[.slice ad (canon (P % Q + P % Q)).length ca, .slice bd (canon Q).length cb] w1 (CmpPost (P % Q + P % Q) Q w1))
  have hrhe : rheN P Q = P / Q + if Q < P % Q + P % Q ∨ (P % Q + P % Q = Q ∧ P / Q % 2 = 1) then 1 else 0 := by unfold rheN; rw [show 2 * (P % Q) = P % Q + P % Q by omega]
  unfold DivModPost at HD
  unfold WordsPost at HA
  unfold CmpPost at HC
  have hbq : bval (canon (P / Q)) = P / Q := bval_canon _
  have hwq := canon_words (P / Q)
  obtain ⟨q, hq⟩ : ∃ q, q = P / Q := ⟨_, rfl⟩
  obtain ⟨r, hr⟩ : ∃ q, q = P % Q := ⟨_, rfl⟩
  rw [← hq] at hlt lq hbq hwq
  rw [← hq, ← hr] at HD hrhe
  rw [← hr] at HA HC
  obtain ⟨qs, hqs⟩ : ∃ qs, qs = canon q := ⟨_, rfl⟩
  rw [← hqs] at lq hbq hwq HD
  have HQQ := Lib.hid hqs
  obtain ⟨kp, hkp⟩ : ∃ k, k = (canon P).length := ⟨_, rfl⟩
  obtain ⟨kq, hkq⟩ : ∃ k, k = (canon Q).length := ⟨_, rfl⟩
  obtain ⟨L, hL⟩ : ∃ k, k = qs.length := ⟨_, rfl⟩
  rw [← hkp, ← hkq, ← hL] at HD
  rw [← hkq] at HC
  rw [← hL] at lq
  have KP := Lib.hid hkp
  have KQ := Lib.hid hkq
  have KL := Lib.hid hL
  have HBQ := Lib.hid hbq
  have HWQ := Lib.hid hwq
  have HRH := Lib.hid hrhe
  replace HD := Lib.hid HD
  replace HA := Lib.hid HA
  replace HC := Lib.hid HC
  clear fP0 fQ0 f2 lP lQ hRQ lR lRR hq hr hbq hwq hrhe hQ1
  by_cases he : e < 0
  · obtain ⟨n, rfl⟩ : ∃ n : Nat, e = -(n : Int) := ⟨(-e).toNat, by omega⟩
    have eP : P = P0 * 2 ^ n := by rw [hP]; unfold shNum; rw [show (- -(n : Int)).toNat = n by omega]
    obtain rfl : Q = Q0 := by rw [hQe]; unfold shDen; rw [show (-(n : Int)).toNat = 0 by omega, Nat.pow_zero, Nat.mul_one]
    have hs := bigShift_left ad ca (canon P0) n w h (by omega) (by omega)
    unfold SubPost at hs
    rw [bval_canon, ← eP, ← hkp] at hs
    have HS := Lib.hid hs
    have G := Lib.hid g
    have hn0 : 0 < n := by omega
    have hn1 : (0 : Int) < (n : Int) := by omega
    have hn2 : (n : Int) ≤ 1100 := by omega
    obtain ⟨k0, hk0⟩ : ∃ k, k = (canon P0).length := ⟨_, rfl⟩
    rw [← hk0] at HS ⊢
    rw [← hkq]
    clear h g hs eP hP hQe he h1 h2 hl hl2 hQ hkp hkq hL hqs hk0
    go_enter Tryd.func31, Tryd.ntmps31
    go_wp2_with fail
    refine HS.out.mono ?_
    rintro e w1 ⟨pd, pc, rfl, hr, hb⟩
    have HP1 := Lib.hid hr
    have HQ1 := Lib.hid (G.out.keep hb)
    have B1 := Lib.hid hb
    clear hr hb
    go_wp2_with fail
    refine (HD.out w1 _ _ _ _ HP1.out HQ1.out).mono ?_
    rintro e w2 ⟨qo, qc, ro, rc, rfl, hq, hr, hb⟩
    have HQ2 := Lib.hid hq
    have HR2 := Lib.hid hr
    have HD2 := Lib.hid (HQ1.out.keep hb)
    have B2 := Lib.hid (B1.out.trans (hb.mono B1.out.size))
    clear hq hr hb HP1 HQ1 B1 HD
    go_wp2_with fail
    go_loop [10, 11] (fun o iv => ∃ (z : Int) (j : Nat), iv = .int .i64 z ∧ z + 1 = j ∧ j ≤ L ∧ o = .int .u64 (bval (qs.drop j) : Nat)) (fun _ iv => (intOf iv + 1).toNat)
    case atStart => exact ⟨_, L, rfl, by omega, Nat.le_refl _, by rw [List.drop_eq_nil_of_le (by rw [KL.out]; exact Nat.le_refl _)]; rfl⟩
    case round =>
      obtain ⟨z, j, rfl, hzj, hjL, rfl⟩ := hrel
      by_cases hj0 : j = 0
      · subst hj0
        obtain rfl : z = -1 := by omega
        rw [List.drop_zero, HBQ.out]
        have hand := and_one q (by omega)
        obtain ⟨m2, hm2⟩ : ∃ m, m = q % 2 := ⟨_, rfl⟩
        have hm3 : m2 < 2 := by omega
        rw [← hm2] at hand
        have HM2 := Lib.hid hm2
        clear hm2
        go_wp2_with fail
        refine (HA.out w2 _ _ HR2.out).mono ?_
        rintro e w3 ⟨so, sc, rfl, hs, hb⟩
        have HS3 := Lib.hid hs
        have HD3 := Lib.hid (HD2.out.keep hb)
        have B3 := Lib.hid (B2.out.trans (hb.mono B2.out.size))
        clear hs hb HD2 B2 HA
        go_wp2_with fail
        refine (HC.out w3 _ _ _ _ HS3.out HD3.out).mono ?_
        rintro e w4 ⟨rfl, hb⟩
        have B4 := Lib.hid (B3.out.trans (hb.mono B3.out.size))
        clear hb HS3 HD3 B3 HC
        rcases Nat.lt_trichotomy Q (r + r) with h1 | h1 | h1
        · rw [cmp_gt h1]
          have hv : rheN P Q = q + 1 := by rw [HRH.out, if_pos (.inl h1)]
          have HV := Lib.hid hv
          clear hv h1
          go_wp2
          go_ret
          exact ⟨by rw [HV.out]; congr 1, B4.out⟩
        · rw [cmp_eq h1.symm]
          rcases Nat.lt_or_ge m2 1 with h2 | h2
          · obtain rfl : m2 = 0 := by omega
            have hv : rheN P Q = q := by
              have := HM2.out
              rw [HRH.out, if_neg (by omega), Nat.add_zero]
            have HV := Lib.hid hv
            clear hv h1 h2
            go_wp2
            go_ret
            exact ⟨by rw [HV.out]; rfl, B4.out⟩
          · obtain rfl : m2 = 1 := by omega
            have hv : rheN P Q = q + 1 := by
              have := HM2.out
              rw [HRH.out, if_pos (by omega)]
            have HV := Lib.hid hv
            clear hv h1 h2
            go_wp2
            go_ret
            exact ⟨by rw [HV.out]; congr 1, B4.out⟩
        · rw [cmp_lt h1]
          have hv : rheN P Q = q := by rw [HRH.out, if_neg (by omega), Nat.add_zero]
          have HV := Lib.hid hv
          clear hv h1
          go_wp2
          go_ret
          exact ⟨by rw [HV.out]; rfl, B4.out⟩
      · obtain ⟨i, rfl⟩ : ∃ i : Nat, z = i := ⟨(j - 1 : Nat), by omega⟩
        obtain rfl : j = i + 1 := by omega
        obtain ⟨b1, o1, rfl, -, hcq⟩ := HQ2.out.addr (by have := KL.out; omega)
        have c0 := hcq i (by have := KL.out; omega)
        obtain ⟨x0, x1⟩ := words_getD HWQ.out i
        have hd1 := bval_drop1 qs i (by have := KL.out; omega)
        have hd2 := bval_drop_32 qs HWQ.out i (by have := KL.out; omega)
        rw [HBQ.out] at hd2
        obtain ⟨x, hx⟩ : ∃ x : Nat, (x : Int) = qs.getD i 0 := ⟨(qs.getD i 0).toNat, by omega⟩
        rw [← hx] at c0 x1
        obtain ⟨o, ho⟩ : ∃ o, o = bval (qs.drop (i + 1)) := ⟨_, rfl⟩
        rw [← ho] at hd1 hd2 ⊢
        have hor := or_word o x (by omega) (by omega) (by omega) x1
        have hn : (o : Int) * 4294967296 + (x : Int) = ((bval (qs.drop i) : Nat) : Int) := by
          rw [hd1, ← hx, Int.toNat_natCast]; omega
        rw [hn] at hor
        have ho2 : (o : Int) ≤ 4294967295 := by omega
        clear hcq hd1 hd2 hx ho hn hj0 hzj x0
        go_wp2
        go_round
        case rel => exact ⟨_, i, rfl, by omega, by omega, rfl⟩
        case measure => simp [intOf]
  · obtain ⟨n, rfl⟩ : ∃ n : Nat, e = (n : Int) := ⟨e.toNat, by omega⟩
    have eQ : Q = Q0 * 2 ^ n := by rw [hQe]; unfold shDen; rw [Int.toNat_natCast]
    obtain rfl : P = P0 := by rw [hP]; unfold shNum; rw [show (-(n : Int)).toNat = 0 by omega, Nat.pow_zero, Nat.mul_one]
    have hs := bigShift_left bd cb (canon Q0) n w g (by omega) (by omega)
    unfold SubPost at hs
    rw [bval_canon, ← eQ, ← hkq] at hs
    have HS := Lib.hid hs
    have G := Lib.hid h
    have hn2 : (n : Int) ≤ 1100 := by omega
    have hn3 : (0 : Int) ≤ (n : Int) := by omega
    obtain ⟨k0, hk0⟩ : ∃ k, k = (canon Q0).length := ⟨_, rfl⟩
    rw [← hk0] at HS ⊢
    rw [← hkp]
    clear h g hs eQ hP hQe he h1 h2 hl hl2 hQ hkp hkq hL hqs hk0
    go_enter Tryd.func31, Tryd.ntmps31
    go_wp2_with fail
    refine HS.out.mono ?_
    rintro e w1 ⟨pd, pc, rfl, hr, hb⟩
    have HQ1 := Lib.hid hr
    have HP1 := Lib.hid (G.out.keep hb)
    have B1 := Lib.hid hb
    clear hr hb
    go_wp2_with fail
    refine (HD.out w1 _ _ _ _ HP1.out HQ1.out).mono ?_
    rintro e w2 ⟨qo, qc, ro, rc, rfl, hq, hr, hb⟩
    have HQ2 := Lib.hid hq
    have HR2 := Lib.hid hr
    have HD2 := Lib.hid (HQ1.out.keep hb)
    have B2 := Lib.hid (B1.out.trans (hb.mono B1.out.size))
    clear hq hr hb HP1 HQ1 B1 HD
    go_wp2_with fail
    go_loop [10, 11] (fun o iv => ∃ (z : Int) (j : Nat), iv = .int .i64 z ∧ z + 1 = j ∧ j ≤ L ∧ o = .int .u64 (bval (qs.drop j) : Nat)) (fun _ iv => (intOf iv + 1).toNat)
    case atStart => exact ⟨_, L, rfl, by omega, Nat.le_refl _, by rw [List.drop_eq_nil_of_le (by rw [KL.out]; exact Nat.le_refl _)]; rfl⟩
    case round =>
      obtain ⟨z, j, rfl, hzj, hjL, rfl⟩ := hrel
      by_cases hj0 : j = 0
      · subst hj0
        obtain rfl : z = -1 := by omega
        rw [List.drop_zero, HBQ.out]
        have hand := and_one q (by omega)
        obtain ⟨m2, hm2⟩ : ∃ m, m = q % 2 := ⟨_, rfl⟩
        have hm3 : m2 < 2 := by omega
        rw [← hm2] at hand
        have HM2 := Lib.hid hm2
        clear hm2
        go_wp2_with fail
        refine (HA.out w2 _ _ HR2.out).mono ?_
        rintro e w3 ⟨so, sc, rfl, hs, hb⟩
        have HS3 := Lib.hid hs
        have HD3 := Lib.hid (HD2.out.keep hb)
        have B3 := Lib.hid (B2.out.trans (hb.mono B2.out.size))
        clear hs hb HD2 B2 HA
        go_wp2_with fail
        refine (HC.out w3 _ _ _ _ HS3.out HD3.out).mono ?_
        rintro e w4 ⟨rfl, hb⟩
        have B4 := Lib.hid (B3.out.trans (hb.mono B3.out.size))
        clear hb HS3 HD3 B3 HC
        rcases Nat.lt_trichotomy Q (r + r) with h1 | h1 | h1
        · rw [cmp_gt h1]
          have hv : rheN P Q = q + 1 := by rw [HRH.out, if_pos (.inl h1)]
          have HV := Lib.hid hv
          clear hv h1
          go_wp2
          go_ret
          exact ⟨by rw [HV.out]; congr 1, B4.out⟩
        · rw [cmp_eq h1.symm]
          rcases Nat.lt_or_ge m2 1 with h2 | h2
          · obtain rfl : m2 = 0 := by omega
            have hv : rheN P Q = q := by
              have := HM2.out
              rw [HRH.out, if_neg (by omega), Nat.add_zero]
            have HV := Lib.hid hv
            clear hv h1 h2
            go_wp2
            go_ret
            exact ⟨by rw [HV.out]; rfl, B4.out⟩
          · obtain rfl : m2 = 1 := by omega
            have hv : rheN P Q = q + 1 := by
              have := HM2.out
              rw [HRH.out, if_pos (by omega)]
            have HV := Lib.hid hv
            clear hv h1 h2
            go_wp2
            go_ret
            exact ⟨by rw [HV.out]; congr 1, B4.out⟩
        · rw [cmp_lt h1]
          have hv : rheN P Q = q := by rw [HRH.out, if_neg (by omega), Nat.add_zero]
          have HV := Lib.hid hv
          clear hv h1
          go_wp2
          go_ret
          exact ⟨by rw [HV.out]; rfl, B4.out⟩
      · obtain ⟨i, rfl⟩ : ∃ i : Nat, z = i := ⟨(j - 1 : Nat), by omega⟩
        obtain rfl : j = i + 1 := by omega
        obtain ⟨b1, o1, rfl, -, hcq⟩ := HQ2.out.addr (by have := KL.out; omega)
        have c0 := hcq i (by have := KL.out; omega)
        obtain ⟨x0, x1⟩ := words_getD HWQ.out i
        have hd1 := bval_drop1 qs i (by have := KL.out; omega)
        have hd2 := bval_drop_32 qs HWQ.out i (by have := KL.out; omega)
        rw [HBQ.out] at hd2
        obtain ⟨x, hx⟩ : ∃ x : Nat, (x : Int) = qs.getD i 0 := ⟨(qs.getD i 0).toNat, by omega⟩
        rw [← hx] at c0 x1
        obtain ⟨o, ho⟩ : ∃ o, o = bval (qs.drop (i + 1)) := ⟨_, rfl⟩
        rw [← ho] at hd1 hd2 ⊢
        have hor := or_word o x (by omega) (by omega) (by omega) x1
        have hn : (o : Int) * 4294967296 + (x : Int) = ((bval (qs.drop i) : Nat) : Int) := by
          rw [hd1, ← hx, Int.toNat_natCast]; omega
        rw [hn] at hor
        have ho2 : (o : Int) ≤ 4294967295 := by omega
        clear hcq hd1 hd2 hx ho hn hj0 hzj x0
        go_wp2
        go_round
        case rel => exact ⟨_, i, rfl, by omega, by omega, rfl⟩
        case measure => simp [intOf]
end Go.Proofs.YtmieegcnfnoiiaaDoor
