/-
  The contracts of typecasekeep.exact and apart. Conditions: 64 bits; not too long.
  The contracts of float.below and float.magnitude. Conditions: not too long, of both ways a bound.
  Plain facts on decimal digits. No conditions.
  The contract of big.Text. Condition: at most 2^20 words.
-/
import GoSem.Op.String
import Derived.BigRegion
import Derived.Test.YtldhmfkojaekfaaGreatDoorShowSameAllPartI
namespace Go.Proofs.YtldhmfkojaekfaaGreatDoor
open Go.RowKit Gx
set_option maxRecDepth 100000

def X74 (n : Nat) : Nat := n * 2 ^ 1074
theorem x74_of (N K : Nat) (h : K = 1074) : X74 N = N * 2 ^ K := by rw [h]; rfl

/-- two numbers in words -/
def PairPost (K : Nat) (P : Nat → Nat → Prop) (w : World) (e : Ending) (w' : World) : Prop :=
  ∃ no nc xs dd dc ys, e = .returned (.tuple #[.slice no (xs : List Int).length nc, .slice dd (ys : List Int).length dc]) ∧ Rd .u32 w' no nc xs ∧ Rd .u32 w' dd dc ys ∧ xs.length ≤ K ∧ ys.length ≤ K ∧ P (bval xs) (bval ys) ∧ Below w.heap.size w w'

theorem pair_rd (w : World) (a b : Int) (ha : (Lit.int .u32 a).wf = true) (hb : (Lit.int .u32 b).wf = true) : Rd .u32 (w.alloc (.cells #[.int .u32 a, .int .u32 b] 145)) (some ⟨w.heap.size, 0, none⟩) 2 [a, b] := by
  refine ⟨by simp, by decide, fun x hx => ?_, (fun h => by cases h), fun ad had _ => ?_⟩
  · simp at hx
    rcases hx with rfl | rfl
    · exact ha
    · exact hb
  · obtain rfl := Option.some.inj had
    refine ⟨rfl, by simp, fun j hj => ?_⟩
    rcases (show j = 0 ∨ j = 1 by simp at hj; omega) with rfl | rfl
    · exact World.cell?_alloc_mark w _ _ (0, 0) 0
    · exact World.cell?_alloc_mark w _ _ (0, 0) 1
theorem one_rd2 (w : World) (o : Obj) : Rd .u32 ((w.alloc o).alloc (.cells #[.int .u32 1] 145)) (some ⟨w.heap.size + 1, 0, none⟩) 1 [1] := by
  have h := one_rd (w.alloc o)
  have hs : (w.alloc o).heap.size = w.heap.size + 1 := World.size_alloc w o
  have hc : canon 1 = [1] := rfl
  rw [hs, hc] at h
  exact h
theorem wf32 (n : Nat) (h : n < 4294967296) : (Lit.int .u32 (n : Int)).wf = true := by
  simp [Lit.wf, IntKind.min, IntKind.max, IntKind.signed, IntKind.bits]; omega
theorem fits_two (m : Nat) (h : m < 9007199254740992) : Fits m 2 := by
  have h1 : (4294967296 : Nat) ^ 2 = 18446744073709551616 := by decide
  unfold Fits; rw [h1]; omega
theorem halves (m : Nat) (h : m < 18446744073709551616) : bval [((m % 4294967296 : Nat) : Int), ((m / 4294967296 : Nat) : Int)] = m := by
  simp [bval]; omega

/-- the fraction that the bits tell -/
def IsFrac (b A B : Nat) : Prop := X74 A = fval (b % 9223372036854775808) * B ∧ 0 < B

theorem frac_up (b m E : Nat) (h : b % 9223372036854775808 = E * 4503599627370496 + m) (hm : m < 9007199254740992) (h2 : E = 0 ∨ 4503599627370496 ≤ m) (n : Nat) (hE : E = n + 1074) : IsFrac b (m * 2 ^ n) 1 := by
  obtain ⟨K, hK⟩ : ∃ K : Nat, K = 1074 := ⟨_, rfl⟩
  refine ⟨?_, Nat.one_pos⟩
  rw [h, fval_of m E hm h2, x74_of _ K hK, hE, ← hK, Nat.pow_add, Nat.mul_assoc, Nat.mul_one]
theorem frac_dn (b m E : Nat) (h : b % 9223372036854775808 = E * 4503599627370496 + m) (hm : m < 9007199254740992) (h2 : E = 0 ∨ 4503599627370496 ≤ m) (n : Nat) (hE : E + n = 1074) : IsFrac b m (2 ^ n) := by
  obtain ⟨K, hK⟩ : ∃ K : Nat, K = 1074 := ⟨_, rfl⟩
  refine ⟨?_, Nat.two_pow_pos n⟩
  rw [h, fval_of m E hm h2, x74_of _ K hK, Nat.mul_assoc, ← Nat.pow_add, hE, hK]

theorem shift_left' (ad : Option Addr) (ca : Nat) (xs : List Int) (n N : Nat) (w : World) (h : Rd .u32 w ad ca xs) (hx : bval xs = N) (hl : xs.length ≤ 262144) (hn : n ≤ 4000) :
    Calls Tryz.prog 134 #[.slice ad xs.length ca, .int .i64 n] w (SubPost (N * 2 ^ n) w) := by
  subst hx; exact bigShift_left ad ca xs n w h hl hn

/-- how far two fractions are apart -/
def ApartIs (N D A B X Y : Nat) : Prop := X = dist (N * B) (A * D) ∧ Y = D * B

end Go.Proofs.YtldhmfkojaekfaaGreatDoor
namespace Go.Proofs.YtldhmfkojaekfaaGreatDoor
open Go.RowKit Gx
set_option maxRecDepth 100000

/-- N / D is less than 10^p -/
def Bel (N D : Nat) (p : Int) : Prop := N * tenDn p < D * tenUp p
instance (N D : Nat) (p : Int) : Decidable (Bel N D p) := inferInstanceAs (Decidable (_ < _))
theorem ten_mono {p q : Int} (h : p ≤ q) : tenUp p ≤ tenUp q ∧ tenDn q ≤ tenDn p := by
  unfold tenUp tenDn
  exact ⟨Nat.pow_le_pow_right (by omega) (by omega), Nat.pow_le_pow_right (by omega) (by omega)⟩
theorem Bel.mono {N D : Nat} {p q : Int} (h : Bel N D p) (hpq : p ≤ q) : Bel N D q := by
  obtain ⟨h1, h2⟩ := ten_mono hpq
  exact Nat.lt_of_le_of_lt (Nat.mul_le_mul_left N h2) (Nat.lt_of_lt_of_le h (Nat.mul_le_mul_left D h1))
theorem cmp_dec (a b : Nat) : decide (cmpOf a b < 0) = decide (a < b) := by
  unfold cmpOf
  by_cases h : a < b
  · rw [if_pos h]; simp [h]
  · rw [if_neg h]
    split <;> simp [h]

def BoolPost (b : Bool) (w : World) (e : Ending) (w' : World) : Prop := e = .returned (.bool b) ∧ Below w.heap.size w w'

set_option maxHeartbeats 2000000 in
theorem below_any (ad bd : Option Addr) (ca cb : Nat) (xs ys : List Int) (N D : Nat) (p : Int) (w : World) (h : Rd .u32 w ad ca xs) (g : Rd .u32 w bd cb ys) (hx : bval xs = N) (hy : bval ys = D) (lx : xs.length ≤ 60) (ly : ys.length ≤ 60) (h1 : -500 ≤ p) (h2 : p ≤ 500) :
    Calls Tryz.prog 160 #[.slice ad xs.length ca, .slice bd ys.length cb, .int .i64 p] w (BoolPost (decide (Bel N D p)) w) := by
  have fN : Fits N 60 := by rw [← hx]; exact (Fits.words (words_of_rd h)).mono lx
  have fD : Fits D 60 := by rw [← hy]; exact (Fits.words (words_of_rd g)).mono ly
  have fu : Fits (tenUp p) 63 := ten_fitsK _ 63 (by omega)
  have fd : Fits (tenDn p) 63 := ten_fitsK _ 63 (by omega)
  have lu := fu.len
  have ld := fd.len
  have l1 := (fN.mul fd).len
  have l2 := (fD.mul fu).len
  have HR := fun w0 ad (hr : Rd .u32 w0 ad 1 [1]) => ratio_any ad 1 1 p w0 hr (by decide) (by omega) (by omega)
  have HM1 := fun w0 (hb : Below w.heap.size w w0) po pc (hr : Rd .u32 w0 po pc (canon (tenDn p))) => mul_two ad po ca pc xs (canon (tenDn p)) w0 N (tenDn p) (h.keep hb) hr hx (bval_canon _) (by omega) (by omega)
  have HM2 := fun w0 (hb : Below w.heap.size w w0) po pc (hr : Rd .u32 w0 po pc (canon (tenUp p))) => mul_two bd po cb pc ys (canon (tenUp p)) w0 D (tenUp p) (g.keep hb) hr hy (bval_canon _) (by omega) (by omega)
  have HC := fun w0 po pc qo qc (hr : Rd .u32 w0 po pc (canon (N * tenDn p))) (hq : Rd .u32 w0 qo qc (canon (D * tenUp p))) => cmp_two' po qo pc qc (canon (N * tenDn p)) (canon (D * tenUp p)) w0 (N * tenDn p) (D * tenUp p) hr hq (bval_canon _) (bval_canon _) (by omega) (by omega)
  have e1 : 1 * tenUp p = tenUp p := Nat.one_mul _
  rw [e1] at HR
  have hres : decide (cmpOf (N * tenDn p) (D * tenUp p) < 0) = decide (Bel N D p) := cmp_dec _ _
  unfold TwoPost at HR
  unfold WordsPost at HM1 HM2
  unfold CmpPostFl at HC
  generalize tenUp p = U at *
  generalize tenDn p = V at *
  generalize decide (Bel N D p) = res at *
  obtain ⟨n0, hn0⟩ : ∃ n, n = xs.length := ⟨_, rfl⟩
  obtain ⟨n1, hn1⟩ : ∃ n, n = ys.length := ⟨_, rfl⟩
  rw [← hn0] at HM1 ⊢
  rw [← hn1] at HM2 ⊢
  replace HR := Lib.hid HR
  replace HM1 := Lib.hid HM1
  replace HM2 := Lib.hid HM2
  replace HC := Lib.hid HC
  have HRES := Lib.hid hres
  clear h g hx hy lx ly fN fD fu fd lu ld l1 l2 hn0 hn1 hres e1 h1 h2
  go_enter Tryz.func160, Tryz.ntmps160
  go_wp2_with fail
  have ho := one_rd w
  have hc1 : canon 1 = [1] := rfl
  rw [hc1] at ho
  have b0 := (Below.refl w.heap.size w).alloc (Nat.le_refl _) (.cells #[.int .u32 1] 145)
  refine (HR.out _ _ ho).mono ?_
  rintro e0 w1 ⟨no, nc, dd, dc, rfl, hr, hr2, hb⟩
  have U1 := Lib.hid hr
  have V1 := Lib.hid hr2
  have B1 := Lib.hid (b0.trans (hb.mono b0.size))
  clear hr hr2 hb b0 ho hc1
  go_wp2_with fail
  refine (HM1.out w1 B1.out _ _ V1.out).mono ?_
  rintro e0 w2 ⟨mo, mc, rfl, hr, hb⟩
  have M2 := Lib.hid hr
  have U2 := Lib.hid (U1.out.keep hb)
  have B2 := Lib.hid (B1.out.trans (hb.mono B1.out.size))
  clear hr hb B1 U1 V1
  go_wp2_with fail
  refine (HM2.out w2 B2.out _ _ U2.out).mono ?_
  rintro e0 w3 ⟨po, pc, rfl, hr, hb⟩
  have P3 := Lib.hid hr
  have M3 := Lib.hid (M2.out.keep hb)
  have B3 := Lib.hid (B2.out.trans (hb.mono B2.out.size))
  clear hr hb B2 U2 M2
  go_wp2_with fail
  refine (HC.out w3 _ _ _ _ M3.out P3.out).mono ?_
  rintro e0 w4 ⟨rfl, hb⟩
  have B4 := Lib.hid (B3.out.trans (hb.mono B3.out.size))
  clear hb B3 M3 P3
  have hres := HRES.out
  generalize cmpOf (N * V) (D * U) = cc at *
  subst hres
  clear HRES
  go_wp2
  go_ret
  exact ⟨rfl, B4.out⟩

theorem tdiv_bound (a : Int) (h1 : -3300 ≤ a) (h2 : a ≤ 3300) : -400 ≤ a.tdiv 10 ∧ a.tdiv 10 ≤ 400 := by
  rcases Int.le_total 0 a with h | h
  · rw [Int.tdiv_eq_ediv_of_nonneg h]; omega
  · obtain ⟨b, rfl⟩ : ∃ b, a = -b := ⟨-a, by omega⟩
    rw [Int.neg_tdiv, Int.tdiv_eq_ediv_of_nonneg (by omega)]; omega
def MagPost (N D : Nat) (w : World) (e : Ending) (w' : World) : Prop :=
  ∃ p : Int, e = .returned (.int .i64 p) ∧ -400 ≤ p ∧ p ≤ 400 ∧ Bel N D p ∧ ¬ Bel N D (p - 1) ∧ Below w.heap.size w w'

set_option maxHeartbeats 2000000 in
theorem magnitude_any (ad bd : Option Addr) (ca cb : Nat) (xs ys : List Int) (N D : Nat) (w : World) (h : Rd .u32 w ad ca xs) (g : Rd .u32 w bd cb ys) (hx : bval xs = N) (hy : bval ys = D) (lx : xs.length ≤ 60) (ly : ys.length ≤ 60)
    (bN : blen N ≤ 1100) (bD : blen D ≤ 1100) (hi : Bel N D 400) (lo : ¬ Bel N D (-400)) :
    Calls Tryz.prog 135 #[.slice ad xs.length ca, .slice bd ys.length cb] w (MagPost N D w) := by
  have HL1 := bigLen_any ad ca xs w h (by omega)
  have HL2 := bigLen_any bd cb ys w g (by omega)
  rw [hx] at HL1
  rw [hy] at HL2
  have HB := fun w0 (hb : Below w.heap.size w w0) p (h1 : -500 ≤ p) (h2 : p ≤ 500) => below_any ad bd ca cb xs ys N D p w0 (h.keep hb) (g.keep hb) hx hy lx ly h1 h2
  unfold LenPost at HL1 HL2
  unfold BoolPost at HB
  obtain ⟨n0, hn0⟩ : ∃ n, n = xs.length := ⟨_, rfl⟩
  obtain ⟨n1, hn1⟩ : ∃ n, n = ys.length := ⟨_, rfl⟩
  rw [← hn0] at HL1 HB ⊢
  rw [← hn1] at HL2 HB ⊢
  replace HL1 := Lib.hid HL1
  replace HL2 := Lib.hid HL2
  replace HB := Lib.hid HB
  have HI := Lib.hid hi
  have LO := Lib.hid lo
  generalize blen N = bn at *
  generalize blen D = bd' at *
  clear h g hx hy lx ly hn0 hn1 hi lo
  go_enter Tryz.func135, Tryz.ntmps135
  go_wp2_with fail
  refine HL1.out.mono ?_
  rintro e0 w1 ⟨rfl, rfl⟩
  go_wp2_with fail
  refine HL2.out.mono ?_
  rintro e0 w1 ⟨rfl, rfl⟩
  go_wp2_with fail
  go_loopw [5] (fun pv wr => ∃ p : Int, pv = .int .i64 p ∧ -400 ≤ p ∧ p ≤ 400 ∧ Below w.heap.size w wr) (fun pv _ => (400 - intOf pv).toNat)
  case atStart =>
    have := tdiv_bound (((bn : Int) - (bd' : Int)) * 3) (by omega) (by omega)
    exact ⟨_, rfl, this.1, this.2, Below.refl _ _⟩
  case round =>
    obtain ⟨p, rfl, h1, h2, hb⟩ := hrel
    have hB := Lib.hid (HB.out wr hb p (by omega) (by omega))
    by_cases hp : Bel N D p
    · rw [decide_eq_true hp] at hB
      have HP := Lib.hid hp
      clear hp
      go_wp2_with fail
      refine hB.out.mono ?_
      rintro e0 w2 ⟨rfl, hb2⟩
      have B2 := Lib.hid (hb.trans (hb2.mono hb.size))
      obtain ⟨wo, rfl⟩ : ∃ wo : World, wo = wr := ⟨_, rfl⟩
      clear hb hb2 hB
      go_wp2_with fail
      go_loopw [5] (fun pv wr => ∃ p : Int, pv = .int .i64 p ∧ -400 ≤ p ∧ p ≤ 400 ∧ Hid (Bel N D p) ∧ Below w.heap.size w wr) (fun pv _ => (intOf pv + 400).toNat)
      case atStart => exact ⟨p, rfl, h1, h2, HP, B2.out⟩
      case round =>
        clear HP B2 h1 h2
        obtain ⟨q, rfl, h1, h2, hq, hb⟩ := hrel
        have hB := Lib.hid (HB.out wr hb (q - 1) (by omega) (by omega))
        by_cases hp : Bel N D (q - 1)
        · have h3 : -400 < q - 1 := by
            apply Classical.byContradiction
            intro h
            exact LO.out (hp.mono (by omega))
          rw [decide_eq_true hp] at hB
          have HP := Lib.hid hp
          clear hp
          go_wp2_with fail
          refine hB.out.mono ?_
          rintro e0 w2 ⟨rfl, hb2⟩
          have B2 := Lib.hid (hb.trans (hb2.mono hb.size))
          clear hb hb2 hB
          go_wp2_with fail
          go_roundw
          case rel => exact ⟨q - 1, rfl, by omega, by omega, HP, B2.out⟩
          case measure => simp [intOf]; omega
        · rw [decide_eq_false hp] at hB
          have HP := Lib.hid hp
          clear hp
          go_wp2_with fail
          refine hB.out.mono ?_
          rintro e0 w2 ⟨rfl, hb2⟩
          have B2 := Lib.hid (hb.trans (hb2.mono hb.size))
          clear hb hb2 hB
          go_wp2
          go_ret
          exact ⟨q, rfl, h1, h2, hq.out, HP.out, B2.out⟩
    · have h3 : p < 400 := by
        apply Classical.byContradiction
        intro h
        exact hp (HI.out.mono (by omega))
      rw [decide_eq_false hp] at hB
      clear hp
      go_wp2_with fail
      refine hB.out.mono ?_
      rintro e0 w2 ⟨rfl, hb2⟩
      have B2 := Lib.hid (hb.trans (hb2.mono hb.size))
      clear hb hb2 hB
      go_wp2_with fail
      go_roundw
      case rel => exact ⟨p + 1, rfl, by omega, by omega, B2.out⟩
      case measure => simp [intOf]; omega
end Go.Proofs.YtldhmfkojaekfaaGreatDoor
namespace Go.Proofs.YtldhmfkojaekfaaGreatDoor

/-- the digits of a number, the last one first; none of nought -/
def dcF : Nat → Nat → List Nat
  | 0, _ => []
  | f + 1, n => if n = 0 then [] else n % 10 :: dcF f (n / 10)
def dig (n : Nat) : List Nat := dcF n n
theorem dcF_fuel : ∀ (f g n : Nat), n ≤ f → n ≤ g → dcF f n = dcF g n
  | 0, 0, _, _, _ => rfl
  | 0, g + 1, n, h, _ => by have : n = 0 := by omega
                            subst this; simp [dcF]
  | f + 1, 0, n, _, h => by have : n = 0 := by omega
                            subst this; simp [dcF]
  | f + 1, g + 1, n, h1, h2 => by
    unfold dcF
    by_cases h : n = 0
    · simp [h]
    · rw [if_neg h, if_neg h, dcF_fuel f g (n / 10) (by omega) (by omega)]
theorem dig_zero : dig 0 = [] := rfl
theorem dig_pos (n : Nat) (h : n ≠ 0) : dig n = n % 10 :: dig (n / 10) := by
  unfold dig
  obtain ⟨m, rfl⟩ : ∃ m, n = m + 1 := ⟨n - 1, by omega⟩
  conv => lhs; unfold dcF
  rw [if_neg (by omega), dcF_fuel m ((m + 1) / 10) _ (by omega) (Nat.le_refl _)]
theorem dig_lt : ∀ (n : Nat), ∀ d ∈ dig n, d < 10 := by
  intro n
  induction n using Nat.strongRecOn with
  | ind n ih =>
    by_cases h : n = 0
    · subst h; intro d hd; simp [dig_zero] at hd
    · rw [dig_pos n h]
      intro d hd
      rcases List.mem_cons.1 hd with rfl | hd
      · omega
      · exact ih _ (by omega) d hd
theorem dig_len_le (n k : Nat) (h : n < 10 ^ k) : (dig n).length ≤ k := by
  induction k generalizing n with
  | zero => simp at h; subst h; simp [dig_zero]
  | succ k ih =>
    by_cases h0 : n = 0
    · subst h0; simp [dig_zero]
    · rw [dig_pos n h0, List.length_cons]
      have := ih (n / 10) (by rw [Nat.pow_succ] at h; omega)
      omega
theorem dig_len_gt (n : Nat) (h : n ≠ 0) : 10 ^ ((dig n).length - 1) ≤ n := by
  induction n using Nat.strongRecOn with
  | ind n ih =>
    rw [dig_pos n h, List.length_cons]
    by_cases h2 : n / 10 = 0
    · rw [h2, dig_zero]; simp; omega
    · have h3 := ih (n / 10) (by omega) h2
      have h4 : 0 < (dig (n / 10)).length := by rw [dig_pos _ h2]; simp
      obtain ⟨m, hm⟩ : ∃ m, (dig (n / 10)).length = m + 1 := ⟨_, (Nat.succ_pred_eq_of_pos h4).symm⟩
      rw [hm] at h3 ⊢
      simp only [Nat.add_sub_cancel] at h3 ⊢
      rw [Nat.pow_succ]
      omega
theorem dig_len_lt (n : Nat) : n < 10 ^ (dig n).length := by
  induction n using Nat.strongRecOn with
  | ind n ih =>
    by_cases h : n = 0
    · subst h; simp [dig_zero]
    · rw [dig_pos n h, List.length_cons, Nat.pow_succ]
      have := ih (n / 10) (by omega)
      omega

def byteOf (d : Nat) : UInt8 := UInt8.ofNat (48 + d)
theorem byteOf_nat (d : Nat) (h : d < 10) : (byteOf d).toNat = 48 + d := by
  unfold byteOf
  rw [UInt8.toNat_ofNat']
  omega
/-- the text of a number -/
def decText (n : Nat) : List UInt8 := if n = 0 then [48] else (dig n).reverse.map byteOf
/-- the number that digits tell -/
def decVal (s : List UInt8) : Nat := s.foldl (fun a b => a * 10 + (b.toNat - 48)) 0
def isDigit (b : UInt8) : Bool := decide (48 ≤ b.toNat) && decide (b.toNat ≤ 57)
/-- a text of a number: digits, and no nought ahead of others -/
def decOk (s : List UInt8) : Prop := s ≠ [] ∧ (∀ b ∈ s, isDigit b = true) ∧ (s.head? = some 48 → s.length = 1)

theorem decVal_snoc (s : List UInt8) (b : UInt8) : decVal (s ++ [b]) = decVal s * 10 + (b.toNat - 48) := by
  simp [decVal, List.foldl_append]
theorem decVal_digs : ∀ (n : Nat), decVal ((dig n).reverse.map byteOf) = n := by
  intro n
  induction n using Nat.strongRecOn with
  | ind n ih =>
    by_cases h : n = 0
    · subst h; rfl
    · rw [dig_pos n h, List.reverse_cons, List.map_append, List.map_cons, List.map_nil, decVal_snoc, ih _ (by omega), byteOf_nat _ (by omega)]
      omega
theorem decVal_text (n : Nat) : decVal (decText n) = n := by
  unfold decText
  by_cases h : n = 0
  · subst h; rfl
  · rw [if_neg h]; exact decVal_digs n
theorem byteOf_digit (d : Nat) (h : d < 10) : isDigit (byteOf d) = true := by
  unfold isDigit
  rw [byteOf_nat d h]
  simp; omega
theorem digs_head : ∀ (n : Nat), n ≠ 0 → ∃ d l, (dig n).reverse = d :: l ∧ d ≠ 0 ∧ d < 10 := by
  intro n
  induction n using Nat.strongRecOn with
  | ind n ih =>
    intro h
    rw [dig_pos n h]
    by_cases h2 : n / 10 = 0
    · rw [h2, dig_zero]
      exact ⟨n % 10, [], rfl, by omega, by omega⟩
    · obtain ⟨d, l, e, hd⟩ := ih (n / 10) (by omega) h2
      exact ⟨d, l ++ [n % 10], by rw [List.reverse_cons, e]; rfl, hd⟩
theorem decOk_text (n : Nat) : decOk (decText n) := by
  unfold decText
  by_cases h : n = 0
  · subst h; exact ⟨by simp, by intro b hb; simp at hb; subst hb; decide, by simp⟩
  · rw [if_neg h]
    obtain ⟨d, l, e, hd0, hd1⟩ := digs_head n h
    refine ⟨by rw [e]; simp, fun b hb => ?_, fun hh => ?_⟩
    · obtain ⟨x, hx, rfl⟩ := List.mem_map.1 hb
      exact byteOf_digit x (dig_lt n x (List.mem_reverse.1 hx))
    · exfalso
      rw [e] at hh
      simp at hh
      have := byteOf_nat d hd1
      rw [hh] at this
      have h48 : (48 : UInt8).toNat = 48 := by decide
      omega
theorem decText_len (n k : Nat) (h : n < 10 ^ k) (hk : 1 ≤ k) : (decText n).length ≤ k := by
  unfold decText
  by_cases h0 : n = 0
  · simp [h0]; exact hk
  · rw [if_neg h0]; simp; exact dig_len_le n k h
theorem decVal_single (b : UInt8) : decVal [b] = b.toNat - 48 := by simp [decVal]
theorem digs_decVal : ∀ (k : Nat) (s : List UInt8), s.length = k → s ≠ [] → (∀ b ∈ s, isDigit b = true) → s.head? ≠ some 48 → decVal s ≠ 0 ∧ (dig (decVal s)).reverse.map byteOf = s := by
  intro k
  induction k with
  | zero => intro s hs hne; exact absurd (List.eq_nil_of_length_eq_zero hs) hne
  | succ k ih =>
    intro s hs hne hd hh
    have e := List.dropLast_concat_getLast hne
    obtain ⟨p, b, rfl⟩ : ∃ p b, s = p ++ [b] := ⟨_, _, e.symm⟩
    have hb := hd b (by simp)
    simp [isDigit] at hb
    have hback : byteOf (b.toNat - 48) = b := by
      apply UInt8.toNat_inj.1
      rw [byteOf_nat _ (by omega)]; omega
    by_cases hp : p = []
    · subst hp
      have hb0 : b.toNat ≠ 48 := by
        intro h0
        apply hh
        have : b = 48 := UInt8.toNat_inj.1 h0
        rw [this]; rfl
      have hv : decVal ([] ++ [b]) = b.toNat - 48 := by simp [decVal]
      rw [hv]
      refine ⟨by omega, ?_⟩
      rw [dig_pos _ (by omega), show (b.toNat - 48) / 10 = 0 by omega, dig_zero, show (b.toNat - 48) % 10 = b.toNat - 48 by omega]
      simp [hback]
    · obtain ⟨h1, h2⟩ := ih p (by simp at hs; exact hs) hp (fun x hx => hd x (by simp [hx])) (by
        intro h0; apply hh
        cases p with
        | nil => exact absurd rfl hp
        | cons x p => simpa using h0)
      rw [decVal_snoc]
      refine ⟨by omega, ?_⟩
      rw [dig_pos _ (by omega), show (decVal p * 10 + (b.toNat - 48)) / 10 = decVal p by omega, show (decVal p * 10 + (b.toNat - 48)) % 10 = b.toNat - 48 by omega, List.reverse_cons, List.map_append, h2]
      simp [hback]
/-- a text of a number is the text of its number -/
theorem text_decVal (s : List UInt8) (h : decOk s) : decText (decVal s) = s := by
  obtain ⟨h1, h2, h3⟩ := h
  by_cases hh : s.head? = some 48
  · have hl := h3 hh
    obtain ⟨x, rfl⟩ := List.length_eq_one_iff.1 hl
    simp at hh
    subst hh
    rfl
  · obtain ⟨h4, h5⟩ := digs_decVal s.length s rfl h1 h2 hh
    unfold decText
    rw [if_neg h4, h5]

theorem text_small (n : Nat) (h : n < 10) : decText n = [byteOf n] := by
  unfold decText
  by_cases h0 : n = 0
  · subst h0; rfl
  · rw [if_neg h0, dig_pos n h0, show n / 10 = 0 by omega, dig_zero, show n % 10 = n by omega]; rfl
theorem text_big (n : Nat) (h : 10 ≤ n) : decText n = decText (n / 10) ++ [byteOf (n % 10)] := by
  unfold decText
  rw [if_neg (by omega), if_neg (by omega), dig_pos n (by omega)]
  simp
theorem text_pos (n : Nat) : 1 ≤ (decText n).length := by
  have := (decOk_text n).1
  cases h : decText n with
  | nil => exact absurd h this
  | cons => simp
open Go.Op in
theorem less_snoc : ∀ (p q : List UInt8) (x y : UInt8), p.length = q.length → (bytesLess p q = true ∨ p = q ∧ x < y) → bytesLess (p ++ [x]) (q ++ [y]) = true
  | [], [], x, y, _, h => by
    rcases h with h | ⟨_, h⟩
    · simp [bytesLess] at h
    · simp [bytesLess, h]
  | [], _ :: _, _, _, h, _ => by simp at h
  | _ :: _, [], _, _, h, _ => by simp at h
  | a :: p, b :: q, x, y, hl, h => by
    have ih := less_snoc p q x y (by simpa using hl)
    simp only [List.cons_append, bytesLess, Bool.or_eq_true, decide_eq_true_eq, Bool.and_eq_true, beq_iff_eq] at h ⊢
    rcases h with (h | ⟨h1, h2⟩) | ⟨h1, h2⟩
    · exact .inl h
    · exact .inr ⟨h1, ih (.inl h2)⟩
    · simp only [List.cons.injEq] at h1
      exact .inr ⟨h1.1, ih (.inr ⟨h1.2, h2⟩)⟩
/-- a greater number has no shorter text, and of one length the greater -/
theorem text_order : ∀ (b a : Nat), a < b → (decText a).length < (decText b).length ∨ ((decText a).length = (decText b).length ∧ Go.Op.bytesLess (decText a) (decText b) = true) := by
  intro b
  induction b using Nat.strongRecOn with
  | ind b ih =>
    intro a hab
    have hlt : ∀ x y, x < 10 → y < 10 → x < y → byteOf x < byteOf y := by
      intro x y hx hy h
      rw [UInt8.lt_iff_toNat_lt, byteOf_nat _ hx, byteOf_nat _ hy]; omega
    by_cases hb : b < 10
    · rw [text_small b hb, text_small a (by omega)]
      refine .inr ⟨rfl, ?_⟩
      simp [Go.Op.bytesLess, hlt a b (by omega) hb hab]
    · by_cases ha : a < 10
      · rw [text_small a ha, text_big b (by omega)]
        have := text_pos (b / 10)
        left; simp; omega
      · rw [text_big a (by omega), text_big b (by omega)]
        simp only [List.length_append, List.length_cons, List.length_nil]
        by_cases h : a / 10 < b / 10
        · rcases ih (b / 10) (by omega) (a / 10) h with h1 | ⟨h1, h2⟩
          · exact .inl (by omega)
          · exact .inr ⟨by omega, less_snoc _ _ _ _ h1 (.inl h2)⟩
        · have e : a / 10 = b / 10 := by omega
          rw [e]
          exact .inr ⟨rfl, less_snoc _ _ _ _ rfl (.inr ⟨rfl, hlt _ _ (by omega) (by omega) (by omega)⟩)⟩
end Go.Proofs.YtldhmfkojaekfaaGreatDoor
namespace Go.Proofs.YtldhmfkojaekfaaGreatDoor
open Go.RowKit Gx
set_option maxRecDepth 100000

theorem Tryz.info_u8 : (Tryz.prog.info? 5).map (fun i => (i.zero, i.size, i.bytes)) = some (some (.int .u8 0), 1, 1) := by kernel_rfl

/-- what is left of the number when k digits of a piece have been told -/
theorem dig_step (M : Nat) (out : List Nat) (n : Nat) (h : dig n = out ++ dig M) (hM : M ≠ 0) : dig n = (out ++ [M % 10]) ++ dig (M / 10) := by
  rw [h, dig_pos M hM]; simp

def digInts (l : List Nat) : List Int := l.map (fun d => ((48 + d : Nat) : Int))
theorem digInts_snoc (l : List Nat) (d : Nat) : digInts (l ++ [d]) = digInts l ++ [((48 + d : Nat) : Int)] := by simp [digInts]
theorem digInts_len (l : List Nat) : (digInts l).length = l.length := by simp [digInts]

theorem dig_bound (xs : List Int) (h : Words xs) : (dig (bval xs)).length ≤ 10 * xs.length := by
  apply dig_len_le
  have h1 := bval_lt xs h
  have h2 : 4294967296 ^ xs.length ≤ (10 ^ 10) ^ xs.length := Nat.pow_le_pow_left (by decide) _
  rw [← Nat.pow_mul] at h2
  omega

/-- turned round from both ends, a places each -/
def RevTo (os cur : List Int) (L a : Nat) : Prop := ∀ j, j < L → cur.getD j 0 = if j < a ∨ L ≤ j + a then os.getD (L - 1 - j) 0 else os.getD j 0
theorem revTo_zero (os : List Int) (L : Nat) : RevTo os os L 0 := by
  intro j hj
  rw [if_neg (by omega)]
theorem getD_set (l : List Int) (i j : Nat) (v : Int) (h : i < l.length) : (l.set i v).getD j 0 = if i = j then v else l.getD j 0 := by
  by_cases e : i = j
  · subst e; simp [List.getD, List.getElem?_set, h]
  · rw [if_neg e, getD_set_ne _ _ _ _ e]
theorem revTo_step (os cur : List Int) (L a : Nat) (x y : Int) (h : RevTo os cur L a) (hl : cur.length = L) (ha : a + a + 1 < L) (hx : x = cur.getD a 0) (hy : y = cur.getD (L - 1 - a) 0) :
    RevTo os ((cur.set a y).set (L - 1 - a) x) L (a + 1) := by
  intro j hj
  rw [getD_set _ _ _ _ (by rw [List.length_set]; omega), getD_set _ _ _ _ (by omega)]
  have hxa := h a (by omega)
  rw [if_neg (by omega)] at hxa
  have hya := h (L - 1 - a) (by omega)
  rw [if_neg (by omega)] at hya
  by_cases h1 : L - 1 - a = j
  · rw [if_pos h1, if_pos (by omega), hx, hxa]
    congr 1; omega
  · rw [if_neg h1]
    by_cases h2 : a = j
    · rw [if_pos h2, if_pos (by omega), hy, hya]
      congr 1; omega
    · rw [if_neg h2, h j hj]
      by_cases h3 : j < a ∨ L ≤ j + a
      · rw [if_pos h3, if_pos (by omega)]
      · rw [if_neg h3, if_neg (by omega)]
theorem revTo_end (os cur : List Int) (L a : Nat) (h : RevTo os cur L a) (hl : cur.length = L) (ho : os.length = L) (ha : ¬ (a : Int) < (L : Int) - 1 - a) : cur = os.reverse := by
  apply List.ext_getElem
  · simp [hl, ho]
  · intro j h1 h2
    have := h j (by omega)
    rw [List.getElem_reverse]
    have e1 : cur.getD j 0 = cur[j] := by simp [List.getD, List.getElem?_eq_getElem h1]
    have e2 : os.getD (L - 1 - j) 0 = os[os.length - 1 - j]'(by omega) := by
      simp [List.getD, ho, List.getElem?_eq_getElem (show L - 1 - j < os.length by omega)]
    rw [← e1, ← e2, this]
    by_cases h3 : j < a ∨ L ≤ j + a
    · rw [if_pos h3]
    · rw [if_neg h3]
      congr 1; omega

set_option maxHeartbeats 1000000 in
theorem bigText_pos (ad : Option Addr) (cap : Nat) (xs : List Int) (w : World) (h : Rd .u32 w ad cap xs) (hl : xs.length ≤ 1048576) (hn0 : bval xs ≠ 0) :
    Calls Tryz.prog 166 #[.slice ad xs.length cap] w (TextPost (decText (bval xs)) w) := by
  have H := Lib.hid (trimmed_any ad cap xs w h (by omega))
  have hD := dig_bound xs (words_of_rd h)
  have hT := h.trim
  have hcl : (canon (bval xs)).length ≤ 1048576 := by
    have := canon_len_le (bval xs) xs.length (bval_lt _ (words_of_rd h)); omega
  have hcp : 0 < (canon (bval xs)).length := by rw [canon_pos _ hn0]; simp
  have hv : bval (canon (bval xs)) = bval xs := bval_canon _
  unfold TrimmedPost at H
  obtain ⟨n, hn⟩ : ∃ n, n = bval xs := ⟨_, rfl⟩
  rw [← hn] at H hD hT hcl hcp hv hn0 ⊢
  clear hn h
  obtain ⟨A, hA⟩ : ∃ A, A = canon n := ⟨_, rfl⟩
  rw [← hA] at H hT hcl hcp hv
  have HA := Lib.hid hA
  have HV := Lib.hid hv
  have HN0 := Lib.hid hn0
  have HD := Lib.hid hD
  clear hA hv hn0 hD
  have hb0 : ((A.length : Int) == 0) = false := by rw [beq_eq_false_iff_ne]; omega
  go_enter Tryz.func166, Tryz.ntmps166
  go_wp2_with fail
  refine H.out.mono ?_
  rintro e w2 ⟨rfl, rfl⟩
  clear H
  go_wp2
  clear hb0
  go_loopw [0, 3] (fun av v wr => ∃ (N : Nat) (ad' : Option Addr) (cap' : Nat) (B : List Int) (out : List Nat) (vo : Option Addr) (vc : Nat), av = .slice ad' B.length cap' ∧ Hid (B = canon N) ∧ Rd .u32 wr ad' cap' B ∧ B.length ≤ 1048576 ∧ v = .slice vo out.length vc ∧
      wr.ownsRow w.heap.size 5 1 (.slice vo out.length vc) out.length ((digInts out).map (Value.int .u8)) ∧ Hid (dig n = out ++ dig N) ∧ Below w.heap.size w wr)
    (fun _ v _ => (dig n).length - Gx.lenOf v)
  case atStart => exact ⟨n, ad, cap, A, [], none, 0, rfl, HA, hT, hcl, rfl, World.ownsRow_nil _ _ _ _, rfl, Below.refl _ _⟩
  case round =>
    obtain ⟨N, ad', cap', B, out, vo, vc, rfl, hB, hR, hBl, rfl, hown, hdig, hb⟩ := hrel
    by_cases hB0 : B.length = 0
    · have hN : dig n = out := by
        have h1 := hB.out
        have h2 : N = 0 := by
          have := bval_canon N
          rw [← h1, List.eq_nil_of_length_eq_zero hB0] at this
          exact this.symm
        rw [hdig.out, h2, dig_zero, List.append_nil]
      have hL0 : 0 < out.length := by
        rw [← hN, dig_pos n HN0.out]; simp
      have hL1 : out.length ≤ 10485760 := by rw [← hN]; have := HD.out; omega
      have HN := Lib.hid hN
      clear hN hB hR hdig
      obtain ⟨g, gc, he, hg1, hg2, hg3, -⟩ := Gx.own_cell hown hL0
      obtain ⟨rfl, rfl⟩ : vo = some ⟨g, 0, none⟩ ∧ vc = gc := by simpa using he
      clear he
      obtain ⟨L, hLe⟩ : ∃ L, L = out.length := ⟨_, rfl⟩
      obtain ⟨os, hos⟩ : ∃ os, os = digInts out := ⟨_, rfl⟩
      rw [← hLe] at hown hL0 hL1 hg2 ⊢
      rw [← hos] at hown
      have HOS := Lib.hid hos
      have hosl : os.length = L := by rw [hos, digInts_len, hLe]
      have HOSL := Lib.hid hosl
      have HLE := Lib.hid hLe
      clear hLe hos hosl
      go_wp2
      go_loopw [6, 7] (fun iv kv wr => ∃ (a : Nat) (cur : List Int), a ≤ L ∧ iv = .int .i64 a ∧ kv = .int .i64 ((L : Int) - 1 - a) ∧
          wr.ownsRow w.heap.size 5 1 (.slice (some ⟨g, 0, none⟩) L vc) L (cur.map (Value.int .u8)) ∧ Hid (cur.length = L) ∧ Hid (RevTo os cur L a) ∧ Below w.heap.size w wr)
        (fun iv _ _ => L - (intOf iv).toNat)
      case atStart => exact ⟨0, os, Nat.zero_le _, rfl, by simp, hown, HOSL, revTo_zero _ _, hb⟩
      case round =>
        clear hown hb
        obtain ⟨a, cur, ha, rfl, rfl, hown1, hcl, hrev, hb1⟩ := hrel
        by_cases hlt : (a : Int) < (L : Int) - 1 - a
        · have hcl' : cur.length = L := hcl.out
          have hi1 : ((L : Int) - 1 - a).toNat = L - 1 - a := by omega
          have hc1 : wr.cell? ⟨g, a, none⟩ = some (.int .u8 (cur.getD a 0)) := by
            rw [hown1.cellAt a (by omega)]
            simp [List.getD, List.getElem?_eq_getElem (show a < cur.length by omega)]
          have hc2 : wr.cell? ⟨g, L - 1 - a, none⟩ = some (.int .u8 (cur.getD (L - 1 - a) 0)) := by
            rw [hown1.cellAt (L - 1 - a) (by omega)]
            simp [List.getD, List.getElem?_eq_getElem (show L - 1 - a < cur.length by omega)]
          have hf1 : wr.frozen? ⟨g, a, none⟩ = false := hown1.frozenAt a
          have hf2 : wr.frozen? ⟨g, L - 1 - a, none⟩ = false := hown1.frozenAt (L - 1 - a)
          obtain ⟨x, hx⟩ : ∃ x, x = cur.getD a 0 := ⟨_, rfl⟩
          obtain ⟨y, hy⟩ : ∃ y, y = cur.getD (L - 1 - a) 0 := ⟨_, rfl⟩
          rw [← hx] at hc1
          rw [← hy] at hc2
          clear hcl'
          have hj0 : (0 : Int) ≤ (L : Int) - 1 - a := by omega
          have hj1 : (L : Int) - 1 - a < (L : Int) := by omega
          have hj2 : (0 : Int) ≤ (a : Int) := by omega
          have hj3 : (a : Int) < (L : Int) := by omega
          have hst1 := hown1.stored a (.int .u8 y)
          have hst2 := hst1.1.stored (L - 1 - a) (.int .u8 x)
          have hsz := hb1.size
          have hbn := (hb1.grown hst1.2 hsz (fun q e => by cases e; exact hg1)).grown hst2.2 (Nat.le_trans hsz hst1.2.size) (fun q e => by cases e; exact hg1)
          have hon : ((wr.setCell ⟨g, a, none⟩ (.int .u8 y)).setCell ⟨g, L - 1 - a, none⟩ (.int .u8 x)).ownsRow w.heap.size 5 1 (.slice (some ⟨g, 0, none⟩) L vc) L (((cur.set a y).set (L - 1 - a) x).map (Value.int .u8)) := by
            rw [List.map_set, List.map_set]; exact hst2.1
          have HON := Lib.hid hon
          have HBN := Lib.hid hbn
          have hT := Lib.hid (revTo_step os cur L a x y hrev.out hcl.out (by omega) hx hy)
          have hl3 : Hid (((cur.set a y).set (L - 1 - a) x).length = L) := by show _ = _; rw [List.length_set, List.length_set]; exact hcl.out
          clear hst1 hst2 hbn hon hown1 hx hy
          go_wp2
          go_region
          go_wp2
          go_roundw
          case rel => exact ⟨a + 1, (cur.set a y).set (L - 1 - a) x, by omega, by go_num, by congr 1 <;> omega, HON.out.drew, hl3, hT, HBN.out.drew⟩
          case measure => simp [intOf]; omega
        · have hfin : cur = os.reverse := revTo_end os cur L a hrev.out hcl.out HOSL.out (by omega)
          have HF := Lib.hid hfin
          have hdt : decText n = out.reverse.map byteOf := by unfold decText; rw [if_neg HN0.out, HN.out]
          have hLd : (decText n).length = L := by rw [hdt, HLE.out]; simp
          have hbytes : ∀ j (hj : j < (decText n).length), wr.cell? ((⟨g, 0, none⟩ : Addr).add j) = some (.int .u8 ((decText n)[j].toNat : Int)) := by
            intro j hj
            have hjL : j < L := by omega
            rw [Addr.add_lit, Nat.zero_add, hown1.cellAt j (by omega), HF.out, HOS.out]
            have hjo : j < out.reverse.length := by rw [List.length_reverse, ← HLE.out]; exact hjL
            have e1 : (decText n)[j] = byteOf (out.reverse[j]) := by simp [hdt]
            have hd10 : out.reverse[j] < 10 := dig_lt n _ (by rw [HN.out]; exact List.mem_reverse.1 (List.getElem_mem hjo))
            rw [e1, byteOf_nat _ hd10]
            have e2 : (digInts out).reverse = digInts out.reverse := by simp [digInts]
            rw [e2]
            unfold digInts
            rw [List.map_map, List.getElem?_map, List.getElem?_eq_getElem hjo]
            rfl
          have HCV := Lib.hid (run_convert_bytes_back (P := Tryz.prog) wr 72 9 5 ⟨g, 0, none⟩ vc (decText n) Tryz.underlying72 Tryz.underlying5 Tryz.underlying9 hbytes)
          rw [hLd] at HCV
          have hcv := HCV.out
          clear hbytes hLd HCV hown1
          go_wp2
          go_ret
          exact ⟨rfl, hb1⟩
    · have hC := Lib.hid (byWord_any ad' cap' B 1000000000 wr hR hBl (by omega) (by omega))
      have hvB : bval B = N := by rw [hB.out, bval_canon]
      have hN0 : N ≠ 0 := by intro h0; rw [h0] at hB; exact hB0 (by rw [hB.out]; rfl)
      unfold ByWordPost at hC
      rw [hvB] at hC
      have hNl : (canon (N / 1000000000)).length ≤ 1048576 := by
        have h1 := bval_lt B (words_of_rd hR)
        rw [hvB] at h1
        exact Nat.le_trans (canon_len_le _ _ (Nat.lt_of_le_of_lt (Nat.div_le_self _ _) h1)) hBl
      have HNl := Lib.hid hNl
      have HN0 := Lib.hid hN0
      clear hvB hR hB hNl hN0
      go_wp2_with fail
      refine hC.out.mono ?_
      rintro e w3 ⟨ad3, cap3, rfl, hr3, hb3, hfr3⟩
      clear hC
      obtain ⟨M, hM⟩ : ∃ M, M = N / 1000000000 := ⟨_, rfl⟩
      obtain ⟨C, hC⟩ : ∃ C, C = canon (N / 1000000000) := ⟨_, rfl⟩
      obtain ⟨r0, hr0⟩ : ∃ r0 : Int, r0 = ((N % 1000000000 : Nat) : Int) := ⟨_, rfl⟩
      have hr00 : 0 ≤ r0 := by omega
      have hr01 : r0 ≤ 999999999 := by omega
      have hsp : Hid (N = M * 1000000000 + r0.toNat) := by show _ = _; omega
      rw [show (1000000000 : Int).toNat = 1000000000 from rfl, ← hC, ← hr0]
      rw [show (1000000000 : Int).toNat = 1000000000 from rfl, ← hC] at hr3
      have HC : Hid (C = canon M) := by show _ = _; rw [hC, hM]
      have hCl : C.length ≤ 1048576 := by rw [hC]; exact HNl.out
      clear hM hC hr0 HNl
      have hne3 : Hid (∀ a, ad3 = some a → 0 < C.length → (Value.slice vo out.length vc).ownBlock ≠ some a.block) := by
        intro a ha _ e
        have h1 := hfr3 a ha
        have h2 := hown.lt a.block e
        omega
      clear hfr3
      have hown3 : w3.ownsRow w.heap.size 5 1 (.slice vo out.length vc) out.length ((digInts out).map (Value.int .u8)) := Gx.own_keep hown hb3
      have hb4 := hb.trans (hb3.mono hb.size)
      clear hown hb hb3
      go_wp2
      go_loopw [3, 4, 5] (fun v rv kv wr => ∃ (k P : Nat) (r : Int) (out2 : List Nat) (vo : Option Addr) (vc : Nat), k ≤ 9 ∧ kv = .int .i64 k ∧ rv = .int .u32 r ∧ 0 ≤ r ∧ r ≤ 999999999 ∧ v = .slice vo out2.length vc ∧ Hid (P = 10 ^ (9 - k)) ∧ Hid (r < P) ∧
          wr.ownsRow w.heap.size 5 1 (.slice vo out2.length vc) out2.length ((digInts out2).map (Value.int .u8)) ∧ Hid (out2.length = out.length + k) ∧ Hid (dig n = out2 ++ dig (M * P + r.toNat)) ∧ Below w.heap.size w wr ∧ Rd .u32 wr ad3 cap3 C ∧ Hid (∀ a, ad3 = some a → 0 < C.length → (Value.slice vo out2.length vc).ownBlock ≠ some a.block))
        (fun _ _ kv _ => 9 - (intOf kv).toNat)
      case atStart => exact ⟨0, 1000000000, r0, out, vo, vc, by omega, rfl, rfl, hr00, hr01, rfl, rfl, by show _ < _; omega, hown3, rfl, by show _ = _; rw [← hsp.out]; exact hdig.out, hb4, hr3, hne3⟩
      case round =>
        clear hown3 hb4 hr3 hr00 hr01
        obtain ⟨k, P, r, out2, vo2, vc2, hk, rfl, rfl, hr00, hr01, rfl, hP, hrP, hown2, hlen2, hdig2, hb2, hr2, hne2⟩ := hrel
        have hexit : (k = 9 ∨ (C.length = 0 ∧ r = 0)) → dig n = out2 ++ dig M ∧ out.length < out2.length := by
          intro hx
          have h1 := hP.out
          have h2 := hrP.out
          have h3 := hdig2.out
          have h4 := hlen2.out
          have hMr : M * P + r.toNat = M := by
            rcases hx with rfl | ⟨h5, rfl⟩
            · have : P = 1 := h1
              subst this
              omega
            · have h6 : M = 0 := by
                have := bval_canon M
                rw [← HC.out, List.eq_nil_of_length_eq_zero h5] at this
                exact this.symm
              subst h6
              simp
          rw [hMr] at h3
          refine ⟨h3, ?_⟩
          by_cases hk0 : k = 0
          · exfalso
            subst hk0
            have : P = 1000000000 := h1
            subst this
            have := hsp.out
            have h7 := HN0.out
            rcases hx with hx | ⟨h5, rfl⟩
            · omega
            · have h8 := HC.out
              have h6 : M = 0 := by
                have := bval_canon M
                rw [← HC.out, List.eq_nil_of_length_eq_zero h5] at this
                exact this.symm
              subst h6
              have h9 : dig n = out ++ dig N := hdig.out
              have h10 : out2.length = out.length := h4
              rw [h9, dig_pos N h7] at h3
              have h11 := congrArg List.length h3
              simp [dig_zero] at h11
              omega
          · omega
        have HX := Lib.hid hexit
        clear hexit
        by_cases hk9 : k = 9
        · subst hk9
          have hx := HX.out (.inl rfl)
          have HX1 := Lib.hid hx.1
          have hx2 := hx.2
          have hle : out2.length ≤ (dig n).length := by rw [hx.1]; simp
          clear hx HX
          go_wp2
          go_roundw
          case rel => exact ⟨M, ad3, cap3, C, out2, vo2, vc2, rfl, HC, hr2, hCl, rfl, hown2, HX1, hb2⟩
          case measure => simp [Gx.lenOf]; omega
        by_cases hx0 : C.length = 0 ∧ r = 0
        · obtain ⟨hc0, rfl⟩ := hx0
          have hx := HX.out (.inr ⟨hc0, rfl⟩)
          have HX1 := Lib.hid hx.1
          have hx2 := hx.2
          have hle : out2.length ≤ (dig n).length := by rw [hx.1]; simp
          clear hx HX
          have hb1 : decide ((0 : Int) < (C.length : Int)) = false := decide_eq_false (by omega)
          have hb1n : decide (0 < C.length) = false := decide_eq_false (by omega)
          clear hc0
          go_wp2
          go_roundw
          case rel => exact ⟨M, ad3, cap3, C, out2, vo2, vc2, rfl, HC, hr2, hCl, rfl, hown2, HX1, hb2⟩
          case measure => simp [Gx.lenOf]; omega
        clear HX
        have hk8 : k < 9 := by omega
        have hM0 : M * P + r.toNat ≠ 0 := by
          intro h0
          have hP0 : P ≠ 0 := by
            have := hP.out
            intro h1
            rw [h1] at this
            exact absurd this.symm (Nat.ne_of_gt (Nat.pow_pos (by decide)))
          have h1 : M * P = 0 := by omega
          have h2 : M = 0 := by
            rcases Nat.mul_eq_zero.1 h1 with h | h
            · exact h
            · exact absurd h hP0
          apply hx0
          refine ⟨?_, by omega⟩
          rw [HC.out, h2]; rfl
        obtain ⟨P', hP'⟩ : ∃ P', P = 10 * P' ∧ P' = 10 ^ (9 - (k + 1)) := by
          refine ⟨_, ?_, rfl⟩
          rw [hP.out, show 9 - k = 9 - (k + 1) + 1 by omega, Nat.pow_succ, Nat.mul_comm]
        have hsum : M * P + r.toNat = 10 * (M * P') + r.toNat := by rw [hP'.1, Nat.mul_left_comm]
        have hT : Hid (dig n = (out2 ++ [r.toNat % 10]) ++ dig (M * P' + (r / 10).toNat)) := by
          have := dig_step _ _ _ hdig2.out hM0
          rw [show (M * P + r.toNat) % 10 = r.toNat % 10 by omega, show (M * P + r.toNat) / 10 = M * P' + (r / 10).toNat by omega] at this
          exact this
        have hl2 : (out2 ++ [r.toNat % 10]).length ≤ (dig n).length := by rw [hT.out]; simp
        have hDl : (dig n).length ≤ 10485760 := by have := HD.out; omega
        have hol2 : out2.length < 10485760 := by simp at hl2; omega
        have hrP' : Hid (r / 10 < P') := by
          have h1 := hrP.out
          have h2 := hP'.1
          show _ < _
          omega
        have HP' : Hid (P' = 10 ^ (9 - (k + 1))) := hP'.2
        have hl3 : Hid ((out2 ++ [r.toNat % 10]).length = out.length + (k + 1)) := by
          show _ = _
          have := hlen2.out
          simp; omega
        have HI : Hid ((digInts out2).map (Value.int .u8) ++ [.int .u8 (48 + r % 10)] = (digInts (out2 ++ [r.toNat % 10])).map (Value.int .u8)) := by
          show _ = _
          rw [digInts_snoc, List.map_append]
          congr 2
          simp
          omega
        have hsz := hb2.size
        clear hM0 hP' hsum hl2 hDl hP hrP hdig2 hlen2
        have hcc : (0 < C.length) ∨ (C.length = 0 ∧ 0 < r) := by omega
        clear hx0
        rcases hcc with hcc | ⟨hcc, hrr⟩
        · have hb1 : decide ((0 : Int) < (C.length : Int)) = true := by simp; omega
          go_wp2_with (first
            | (at_builtin; refine Gx.wpList_push wr rfl _ _ 72 rfl w.heap.size 5 (.int .u8 0) 1 1 Tryz.underlying72 Tryz.info_u8 rfl (by decide) _ _ _ [.int .u8 (48 + r % 10)] _ rfl rfl (by exact hown2) rfl rfl ?a2 ?a3 ?a4 ?a5 ?_))
          case a2 => intro u hu; simp at hu; subst hu; rfl
          case a3 => omega
          case a4 => omega
          case a5 => omega
          intro v' w' hown5 hg5 hmv5 _
          have hb5 : Below w.heap.size w w' := hb2.grown hg5 hsz (fun k e => (hown2.lt k e).1)
          have hr5 : Rd .u32 w' ad3 cap3 C := Gx.Rd.grown hr2 hg5 (fun a ha hp e => hne2.out a ha hp e.symm)
          have hne5 : Hid (∀ a, ad3 = some a → 0 < C.length → v'.ownBlock ≠ some a.block) := by
            intro a ha hp
            exact hmv5.ne (hr2.at_ a ha hp).2.1 (hne2.out a ha hp)
          rw [HI.out] at hown5
          obtain ⟨vo5, vc5, rfl⟩ := Gx.own_form hown5
          have hown6 : w'.ownsRow w.heap.size 5 1 (.slice vo5 (out2 ++ [r.toNat % 10]).length vc5) (out2 ++ [r.toNat % 10]).length ((digInts (out2 ++ [r.toNat % 10])).map (Value.int .u8)) := by
            simpa using hown5
          have hfl : out2.length + 1 = (out2 ++ [r.toNat % 10]).length := by simp
          rw [hfl] at hne5
          rw [hfl]
          clear hown5 hown2 hg5 hr2 hb2 HI hfl
          go_wp2
          go_roundw
          case rel => exact ⟨k + 1, P', r / 10, out2 ++ [r.toNat % 10], vo5, vc5, by omega, by go_num, rfl, by omega, by omega, rfl, HP', hrP', hown6, hl3, hT, hb5, hr5, hne5⟩
          case measure => simp [intOf]; omega
        · have hb1 : decide ((0 : Int) < (C.length : Int)) = false := decide_eq_false (by omega)
          have hb1n : decide (0 < C.length) = false := decide_eq_false (by omega)
          have HCC := Lib.hid hcc
          clear hcc
          have hb2' : decide ((0 : Int) < r) = true := by simpa using hrr
          go_wp2_with (first
            | (at_builtin; refine Gx.wpList_push wr rfl _ _ 72 rfl w.heap.size 5 (.int .u8 0) 1 1 Tryz.underlying72 Tryz.info_u8 rfl (by decide) _ _ _ [.int .u8 (48 + r % 10)] _ rfl rfl (by exact hown2) rfl rfl ?b2 ?b3 ?b4 ?b5 ?_))
          case b2 => intro u hu; simp at hu; subst hu; rfl
          case b3 => omega
          case b4 => omega
          case b5 => omega
          intro v' w' hown5 hg5 hmv5 _
          have hb5 : Below w.heap.size w w' := hb2.grown hg5 hsz (fun k e => (hown2.lt k e).1)
          have hr5 : Rd .u32 w' ad3 cap3 C := Gx.Rd.grown hr2 hg5 (fun a ha hp e => hne2.out a ha hp e.symm)
          have hne5 : Hid (∀ a, ad3 = some a → 0 < C.length → v'.ownBlock ≠ some a.block) := by
            intro a ha hp
            exact hmv5.ne (hr2.at_ a ha hp).2.1 (hne2.out a ha hp)
          rw [HI.out] at hown5
          obtain ⟨vo5, vc5, rfl⟩ := Gx.own_form hown5
          have hown6 : w'.ownsRow w.heap.size 5 1 (.slice vo5 (out2 ++ [r.toNat % 10]).length vc5) (out2 ++ [r.toNat % 10]).length ((digInts (out2 ++ [r.toNat % 10])).map (Value.int .u8)) := by
            simpa using hown5
          have hfl : out2.length + 1 = (out2 ++ [r.toNat % 10]).length := by simp
          rw [hfl] at hne5
          rw [hfl]
          clear hown5 hown2 hg5 hr2 hb2 HI hfl
          go_wp2
          go_roundw
          case rel => exact ⟨k + 1, P', r / 10, out2 ++ [r.toNat % 10], vo5, vc5, by omega, by go_num, rfl, by omega, by omega, rfl, HP', hrP', hown6, hl3, hT, hb5, hr5, hne5⟩
          case measure => simp [intOf]; omega
end Go.Proofs.YtldhmfkojaekfaaGreatDoor
