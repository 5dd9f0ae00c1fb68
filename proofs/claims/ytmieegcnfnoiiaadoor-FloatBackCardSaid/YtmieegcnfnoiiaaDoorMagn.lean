/-
  The contracts of float.below and float.magnitude. Conditions: not too long, of both ways a bound.
-/
import Derived.Test.YtmieegcnfnoiiaaDoorExact
namespace Go.Proofs.YtmieegcnfnoiiaaDoor
open Go.RowKit Gx
set_option maxRecDepth 100000

/-- N / D is less than 10^p -/
def Bel (N D : Nat) (p : Int) : Prop := N * tenDn p < D * tenUp p
instance (N D : Nat) (p : Int) : Decidable (Bel N D p) := inferInstanceAs (Decidable (_ < _))
theorem ten_mono {p q : Int} (h : p ≤ q) : tenUp p ≤ tenUp q ∧ tenDn q ≤ tenDn p := by
  unfold tenUp tenDn
  exact ⟨Nat.pow_le_pow_right (by omega) (by omega), Nat.pow_le_pow_right (by omega) (by omega)⟩
theorem Bel.mono {N D : Nat} {p q : Int} (h : Bel N D p) (hpq : p ≤ q) : Bel N D q := by
  obtain ⟨h1, h2⟩ := ten_mono hpq
  exact Nat.lt_of_le_of_lt (Nat.mul_le_mul_left N h2) (Nat.lt_of_lt_of_le h (Nat.mul_le_mul_left D h1))
theorem cmp_dec (a b : Nat) : decide (cmpOf a b < 0) = decide (a < b) := by
  unfold cmpOf
  by_cases h : a < b
  · rw [if_pos h]; simp [h]
  · rw [if_neg h]
    split <;> simp [h]

def BoolPost (b : Bool) (w : World) (e : Ending) (w' : World) : Prop := e = .returned (.bool b) ∧ Below w.heap.size w w'

set_option maxHeartbeats 2000000 in
theorem below_any (ad bd : Option Addr) (ca cb : Nat) (xs ys : List Int) (N D : Nat) (p : Int) (w : World) (h : Rd .u32 w ad ca xs) (g : Rd .u32 w bd cb ys) (hx : bval xs = N) (hy : bval ys = D) (lx : xs.length ≤ 60) (ly : ys.length ≤ 60) (h1 : -500 ≤ p) (h2 : p ≤ 500) :
    Calls Tryd.prog 39 #[.slice ad xs.length ca, .slice bd ys.length cb, .int .i64 p] w (BoolPost (decide (Bel N D p)) w) := by
  have fN : Fits N 60 := by rw [← hx]; exact (Fits.words (words_of_rd h)).mono lx
  have fD : Fits D 60 := by rw [← hy]; exact (Fits.words (words_of_rd g)).mono ly
  have fu : Fits (tenUp p) 63 := ten_fitsK _ 63 (by omega)
  have fd : Fits (tenDn p) 63 := ten_fitsK _ 63 (by omega)
  have lu := fu.len
  have ld := fd.len
  have l1 := (fN.mul fd).len
  have l2 := (fD.mul fu).len
  have HR := fun w0 ad (hr : Rd .u32 w0 ad 1 [1]) => ratio_any ad 1 1 p w0 hr (by decide) (by omega) (by omega)
  have HM1 := fun w0 (hb : Below w.heap.size w w0) po pc (hr : Rd .u32 w0 po pc (canon (tenDn p))) => mul_two ad po ca pc xs (canon (tenDn p)) w0 N (tenDn p) (h.keep hb) hr hx (bval_canon _) (by omega) (by omega)
  have HM2 := fun w0 (hb : Below w.heap.size w w0) po pc (hr : Rd .u32 w0 po pc (canon (tenUp p))) => mul_two bd po cb pc ys (canon (tenUp p)) w0 D (tenUp p) (g.keep hb) hr hy (bval_canon _) (by omega) (by omega)
  have HC := fun w0 po pc qo qc (hr : Rd .u32 w0 po pc (canon (N * tenDn p))) (hq : Rd .u32 w0 qo qc (canon (D * tenUp p))) => cmp_two' po qo pc qc (canon (N * tenDn p)) (canon (D * tenUp p)) w0 (N * tenDn p) (D * tenUp p) hr hq (bval_canon _) (bval_canon _) (by omega) (by omega)
  have e1 : 1 * tenUp p = tenUp p := Nat.one_mul _
  rw [e1] at HR
  have hres : decide (cmpOf (N * tenDn p) (D * tenUp p) < 0) = decide (Bel N D p) := cmp_dec _ _
  unfold TwoPost at HR
  unfold WordsPost at HM1 HM2
  unfold CmpPost at HC
  generalize tenUp p = U at *
  generalize tenDn p = V at *
  generalize decide (Bel N D p) = res at *
  obtain ⟨n0, hn0⟩ : ∃ n, n = xs.length := ⟨_, rfl⟩
  obtain ⟨n1, hn1⟩ : ∃ n, n = ys.length := ⟨_, rfl⟩
  rw [← hn0] at HM1 ⊢
  rw [← hn1] at HM2 ⊢
  replace HR := Lib.hid HR
  replace HM1 := Lib.hid HM1
  replace HM2 := Lib.hid HM2
  replace HC := Lib.hid HC
  have HRES := Lib.hid hres
  clear h g hx hy lx ly fN fD fu fd lu ld l1 l2 hn0 hn1 hres e1 h1 h2
  go_enter Tryd.func39, Tryd.ntmps39
  go_wp2_with fail
  have ho := one_rd w
  have hc1 : canon 1 = [1] := rfl
  rw [hc1] at ho
  have b0 := (Below.refl w.heap.size w).alloc (Nat.le_refl _) (.cells #[.int .u32 1] 27)
  refine (HR.out _ _ ho).mono ?_
  rintro e0 w1 ⟨no, nc, dd, dc, rfl, hr, hr2, hb⟩
  have U1 := Lib.hid hr
  have V1 := Lib.hid hr2
  have B1 := Lib.hid (b0.trans (hb.mono b0.size))
  clear hr hr2 hb b0 ho hc1
  go_wp2_with fail
  refine (HM1.out w1 B1.out _ _ V1.out).mono ?_
  rintro e0 w2 ⟨mo, mc, rfl, hr, hb⟩
  have M2 := Lib.hid hr
  have U2 := Lib.hid (U1.out.keep hb)
  have B2 := Lib.hid (B1.out.trans (hb.mono B1.out.size))
  clear hr hb B1 U1 V1
  go_wp2_with fail
  refine (HM2.out w2 B2.out _ _ U2.out).mono ?_
  rintro e0 w3 ⟨po, pc, rfl, hr, hb⟩
  have P3 := Lib.hid hr
  have M3 := Lib.hid (M2.out.keep hb)
  have B3 := Lib.hid (B2.out.trans (hb.mono B2.out.size))
  clear hr hb B2 U2 M2
  go_wp2_with fail
  refine (HC.out w3 _ _ _ _ M3.out P3.out).mono ?_
  rintro e0 w4 ⟨rfl, hb⟩
  have B4 := Lib.hid (B3.out.trans (hb.mono B3.out.size))
  clear hb B3 M3 P3
  have hres := HRES.out
  generalize cmpOf (N * V) (D * U) = cc at *
  subst hres
  clear HRES
  go_wp2
  go_ret
  exact ⟨rfl, B4.out⟩

theorem tdiv_bound (a : Int) (h1 : -3300 ≤ a) (h2 : a ≤ 3300) : -400 ≤ a.tdiv 10 ∧ a.tdiv 10 ≤ 400 := by
  rcases Int.le_total 0 a with h | h
  · rw [Int.tdiv_eq_ediv_of_nonneg h]; omega
  · obtain ⟨b, rfl⟩ : ∃ b, a = -b := ⟨-a, by omega⟩
    rw [Int.neg_tdiv, Int.tdiv_eq_ediv_of_nonneg (by omega)]; omega
def MagPost (N D : Nat) (w : World) (e : Ending) (w' : World) : Prop :=
  ∃ p : Int, e = .returned (.int .i64 p) ∧ -400 ≤ p ∧ p ≤ 400 ∧ Bel N D p ∧ ¬ Bel N D (p - 1) ∧ Below w.heap.size w w'

set_option maxHeartbeats 2000000 in
theorem magnitude_any (ad bd : Option Addr) (ca cb : Nat) (xs ys : List Int) (N D : Nat) (w : World) (h : Rd .u32 w ad ca xs) (g : Rd .u32 w bd cb ys) (hx : bval xs = N) (hy : bval ys = D) (lx : xs.length ≤ 60) (ly : ys.length ≤ 60)
    (bN : blen N ≤ 1100) (bD : blen D ≤ 1100) (hi : Bel N D 400) (lo : ¬ Bel N D (-400)) :
    Calls Tryd.prog 24 #[.slice ad xs.length ca, .slice bd ys.length cb] w (MagPost N D w) := by
  have HL1 := bigLen_any ad ca xs w h (by omega)
  have HL2 := bigLen_any bd cb ys w g (by omega)
  rw [hx] at HL1
  rw [hy] at HL2
  have HB := fun w0 (hb : Below w.heap.size w w0) p (h1 : -500 ≤ p) (h2 : p ≤ 500) => below_any ad bd ca cb xs ys N D p w0 (h.keep hb) (g.keep hb) hx hy lx ly h1 h2
  unfold LenPost at HL1 HL2
  unfold BoolPost at HB
  obtain ⟨n0, hn0⟩ : ∃ n, n = xs.length := ⟨_, rfl⟩
  obtain ⟨n1, hn1⟩ : ∃ n, n = ys.length := ⟨_, rfl⟩
  rw [← hn0] at HL1 HB ⊢
  rw [← hn1] at HL2 HB ⊢
  replace HL1 := Lib.hid HL1
  replace HL2 := Lib.hid HL2
  replace HB := Lib.hid HB
  have HI := Lib.hid hi
  have LO := Lib.hid lo
  generalize blen N = bn at *
  generalize blen D = bd' at *
  clear h g hx hy lx ly hn0 hn1 hi lo
  go_enter Tryd.func24, Tryd.ntmps24
  go_wp2_with fail
  refine HL1.out.mono ?_
  rintro e0 w1 ⟨rfl, rfl⟩
  go_wp2_with fail
  refine HL2.out.mono ?_
  rintro e0 w1 ⟨rfl, rfl⟩
  go_wp2_with fail
  go_loopw [5] (fun pv wr => ∃ p : Int, pv = .int .i64 p ∧ -400 ≤ p ∧ p ≤ 400 ∧ Below w.heap.size w wr) (fun pv _ => (400 - intOf pv).toNat)
  case atStart =>
    have := tdiv_bound (((bn : Int) - (bd' : Int)) * 3) (by omega) (by omega)
    exact ⟨_, rfl, this.1, this.2, Below.refl _ _⟩
  case round =>
    obtain ⟨p, rfl, h1, h2, hb⟩ := hrel
    have hB := Lib.hid (HB.out wr hb p (by omega) (by omega))
    by_cases hp : Bel N D p
    · rw [decide_eq_true hp] at hB
      have HP := Lib.hid hp
      clear hp
      go_wp2_with fail
      refine hB.out.mono ?_
      rintro e0 w2 ⟨rfl, hb2⟩
      have B2 := Lib.hid (hb.trans (hb2.mono hb.size))
      obtain ⟨wo, rfl⟩ : ∃ wo : World, wo = wr := ⟨_, rfl⟩
      clear hb hb2 hB
      go_wp2_with fail
      go_loopw [5] (fun pv wr => ∃ p : Int, pv = .int .i64 p ∧ -400 ≤ p ∧ p ≤ 400 ∧ Hid (Bel N D p) ∧ Below w.heap.size w wr) (fun pv _ => (intOf pv + 400).toNat)
      case atStart => exact ⟨p, rfl, h1, h2, HP, B2.out⟩
      case round =>
        clear HP B2 h1 h2
        obtain ⟨q, rfl, h1, h2, hq, hb⟩ := hrel
        have hB := Lib.hid (HB.out wr hb (q - 1) (by omega) (by omega))
        by_cases hp : Bel N D (q - 1)
        · have h3 : -400 < q - 1 := by
            apply Classical.byContradiction
            intro h
            exact LO.out (hp.mono (by omega))
          rw [decide_eq_true hp] at hB
          have HP := Lib.hid hp
          clear hp
          go_wp2_with fail
          refine hB.out.mono ?_
          rintro e0 w2 ⟨rfl, hb2⟩
          have B2 := Lib.hid (hb.trans (hb2.mono hb.size))
          clear hb hb2 hB
          go_wp2_with fail
          go_roundw
          case rel => exact ⟨q - 1, rfl, by omega, by omega, HP, B2.out⟩
          case measure => simp [intOf]; omega
        · rw [decide_eq_false hp] at hB
          have HP := Lib.hid hp
          clear hp
          go_wp2_with fail
          refine hB.out.mono ?_
          rintro e0 w2 ⟨rfl, hb2⟩
          have B2 := Lib.hid (hb.trans (hb2.mono hb.size))
          clear hb hb2 hB
          go_wp2
          go_ret
          exact ⟨q, rfl, h1, h2, hq.out, HP.out, B2.out⟩
    · have h3 : p < 400 := by
        apply Classical.byContradiction
        intro h
        exact hp (HI.out.mono (by omega))
      rw [decide_eq_false hp] at hB
      clear hp
      go_wp2_with fail
      refine hB.out.mono ?_
      rintro e0 w2 ⟨rfl, hb2⟩
      have B2 := Lib.hid (hb.trans (hb2.mono hb.size))
      clear hb hb2 hB
      go_wp2_with fail
      go_roundw
      case rel => exact ⟨p + 1, rfl, by omega, by omega, B2.out⟩
      case measure => simp [intOf]; omega
end Go.Proofs.YtmieegcnfnoiiaaDoor
