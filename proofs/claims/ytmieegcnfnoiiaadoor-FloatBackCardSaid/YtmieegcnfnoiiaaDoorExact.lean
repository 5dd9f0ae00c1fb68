/-
  The contracts of typecasekeep.exact and apart. Conditions: 64 bits; not too long.
-/
import Derived.Test.YtmieegcnfnoiiaaDoorFloatOrder
import Derived.Test.YtmieegcnfnoiiaaDoorExactLaw
namespace Go.Proofs.YtmieegcnfnoiiaaDoor
open Go.RowKit Gx
set_option maxRecDepth 100000

def X74 (n : Nat) : Nat := n * 2 ^ 1074
theorem x74_of (N K : Nat) (h : K = 1074) : X74 N = N * 2 ^ K := by rw [h]; rfl

/-- two numbers in words -/
def PairPost (K : Nat) (P : Nat → Nat → Prop) (w : World) (e : Ending) (w' : World) : Prop :=
  ∃ no nc xs dd dc ys, e = .returned (.tuple #[.slice no (xs : List Int).length nc, .slice dd (ys : List Int).length dc]) ∧ Rd .u32 w' no nc xs ∧ Rd .u32 w' dd dc ys ∧ xs.length ≤ K ∧ ys.length ≤ K ∧ P (bval xs) (bval ys) ∧ Below w.heap.size w w'

theorem pair_rd (w : World) (a b : Int) (ha : (Lit.int .u32 a).wf = true) (hb : (Lit.int .u32 b).wf = true) : Rd .u32 (w.alloc (.cells #[.int .u32 a, .int .u32 b] 27)) (some ⟨w.heap.size, 0, none⟩) 2 [a, b] := by
  refine ⟨by simp, by decide, fun x hx => ?_, (fun h => by cases h), fun ad had _ => ?_⟩
  · simp at hx
    rcases hx with rfl | rfl
    · exact ha
    · exact hb
  · obtain rfl := Option.some.inj had
    refine ⟨rfl, by simp, fun j hj => ?_⟩
    rcases (show j = 0 ∨ j = 1 by simp at hj; omega) with rfl | rfl
    · exact World.cell?_alloc_mark w _ _ (0, 0) 0
    · exact World.cell?_alloc_mark w _ _ (0, 0) 1
theorem one_rd2 (w : World) (o : Obj) : Rd .u32 ((w.alloc o).alloc (.cells #[.int .u32 1] 27)) (some ⟨w.heap.size + 1, 0, none⟩) 1 [1] := by
  have h := one_rd (w.alloc o)
  have hs : (w.alloc o).heap.size = w.heap.size + 1 := World.size_alloc w o
  have hc : canon 1 = [1] := rfl
  rw [hs, hc] at h
  exact h
theorem wf32 (n : Nat) (h : n < 4294967296) : (Lit.int .u32 (n : Int)).wf = true := by
  simp [Lit.wf, IntKind.min, IntKind.max, IntKind.signed, IntKind.bits]; omega
theorem fits_two (m : Nat) (h : m < 9007199254740992) : Fits m 2 := by
  have h1 : (4294967296 : Nat) ^ 2 = 18446744073709551616 := by decide
  unfold Fits; rw [h1]; omega
theorem halves (m : Nat) (h : m < 18446744073709551616) : bval [((m % 4294967296 : Nat) : Int), ((m / 4294967296 : Nat) : Int)] = m := by
  simp [bval]; omega

/-- the fraction that the bits tell -/
def IsFrac (b A B : Nat) : Prop := X74 A = fval (b % 9223372036854775808) * B ∧ 0 < B

theorem frac_up (b m E : Nat) (h : b % 9223372036854775808 = E * 4503599627370496 + m) (hm : m < 9007199254740992) (h2 : E = 0 ∨ 4503599627370496 ≤ m) (n : Nat) (hE : E = n + 1074) : IsFrac b (m * 2 ^ n) 1 := by
  obtain ⟨K, hK⟩ : ∃ K : Nat, K = 1074 := ⟨_, rfl⟩
  refine ⟨?_, Nat.one_pos⟩
  rw [h, fval_of m E hm h2, x74_of _ K hK, hE, ← hK, Nat.pow_add, Nat.mul_assoc, Nat.mul_one]
theorem frac_dn (b m E : Nat) (h : b % 9223372036854775808 = E * 4503599627370496 + m) (hm : m < 9007199254740992) (h2 : E = 0 ∨ 4503599627370496 ≤ m) (n : Nat) (hE : E + n = 1074) : IsFrac b m (2 ^ n) := by
  obtain ⟨K, hK⟩ : ∃ K : Nat, K = 1074 := ⟨_, rfl⟩
  refine ⟨?_, Nat.two_pow_pos n⟩
  rw [h, fval_of m E hm h2, x74_of _ K hK, Nat.mul_assoc, ← Nat.pow_add, hE, hK]

theorem shift_left' (ad : Option Addr) (ca : Nat) (xs : List Int) (n N : Nat) (w : World) (h : Rd .u32 w ad ca xs) (hx : bval xs = N) (hl : xs.length ≤ 262144) (hn : n ≤ 4000) :
    Calls Tryd.prog 16 #[.slice ad xs.length ca, .int .i64 n] w (SubPost (N * 2 ^ n) w) := by
  subst hx; exact bigShift_left ad ca xs n w h hl hn

set_option maxHeartbeats 1000000 in
theorem exact_any (b : Nat) (w : World) (hb : b < 18446744073709551616) (hf : b / 4503599627370496 % 2048 ≠ 2047) :
    Calls Tryd.prog 17 #[.int .u64 b] w (PairPost 40 (IsFrac b) w) := by
  have hp := parts_any b w hb
  unfold PartsPost at hp
  replace hp := hp.mono (R' := fun e w' => ∃ m E : Nat, e = .returned (.tuple #[.int .u64 m, .int .i64 ((E : Int) - 1074), .int .i64 0]) ∧ m < 9007199254740992 ∧ E ≤ 2045 ∧ (E = 0 ∨ 4503599627370496 ≤ m) ∧ b % 9223372036854775808 = E * 4503599627370496 + m ∧ w = w') (by
    rintro e w' ⟨m, x, k, rfl, h | ⟨h1, rfl, h3, E, rfl, h5, h6, h7⟩, rfl⟩
    · exact absurd h.1 hf
    · exact ⟨m, E, rfl, h3, h5, h6, h7, rfl⟩)
  have HP := Lib.hid hp
  clear hp hf hb
  go_enter Tryd.func17, Tryd.ntmps17
  go_wp2_with fail
  refine HP.out.mono ?_
  rintro e w1 ⟨m, E, rfl, hm, hE, h2, h7, rfl⟩
  go_wp2_with fail
  · obtain ⟨n, hn⟩ : ∃ n : Nat, E = n + 1074 := ⟨E - 1074, by omega⟩
    have hf := Lib.hid (frac_up b m E h7 hm h2 n hn)
    have hx := halves m (by omega)
    have hp := pair_rd w ((m % 4294967296 : Nat) : Int) ((m / 4294967296 : Nat) : Int) (wf32 _ (by omega)) (wf32 _ (by omega))
    have b1 := (Below.refl w.heap.size w).alloc (Nat.le_refl _) (.cells #[.int .u32 ((m % 4294967296 : Nat) : Int), .int .u32 ((m / 4294967296 : Nat) : Int)] 27)
    have b2 := b1.alloc b1.size (.cells #[.int .u32 1] 27)
    have ho := one_rd2 w (.cells #[.int .u32 ((m % 4294967296 : Nat) : Int), .int .u32 ((m / 4294967296 : Nat) : Int)] 27)
    have hp2 := hp.keep ((Below.refl _ (w.alloc (.cells #[.int .u32 ((m % 4294967296 : Nat) : Int), .int .u32 ((m / 4294967296 : Nat) : Int)] 27))).alloc (Nat.le_refl _) (.cells #[.int .u32 1] 27))
    have hs := shift_left' _ _ _ n m _ hp2 hx (by show 2 ≤ _; omega) (by omega)
    have fl : (canon (m * 2 ^ n)).length ≤ 40 := ((fits_two m hm).mul (two_fitsK n 38 (by omega))).len
    rw [show ((E : Int) - 1074) = (n : Int) by omega]
    refine hs.mono ?_
    rintro e w2 ⟨so, sc, rfl, hr, hb⟩
    have S2 := Lib.hid hr
    have O2 := Lib.hid (ho.keep hb)
    have B2 := Lib.hid (b2.trans (hb.mono b2.size))
    have FL := Lib.hid fl
    clear hr hb b1 b2 hp hp2 hx ho hs h7 hm h2 hn fl
    go_wp2
    go_ret2
    have hv : bval [(1 : Int)] = 1 := rfl
    exact ⟨_, _, canon (m * 2 ^ n), _, _, [1], rfl, S2.out, O2.out, FL.out, (by decide), (by rw [bval_canon, hv]; exact hf.out), B2.out⟩
  · obtain ⟨n, hn⟩ : ∃ n : Nat, E + n = 1074 := ⟨1074 - E, by omega⟩
    have hf := Lib.hid (frac_dn b m E h7 hm h2 n hn)
    have hx := Lib.hid (halves m (by omega))
    have hp := pair_rd w ((m % 4294967296 : Nat) : Int) ((m / 4294967296 : Nat) : Int) (wf32 _ (by omega)) (wf32 _ (by omega))
    have b1 := (Below.refl w.heap.size w).alloc (Nat.le_refl _) (.cells #[.int .u32 ((m % 4294967296 : Nat) : Int), .int .u32 ((m / 4294967296 : Nat) : Int)] 27)
    have b2 := b1.alloc b1.size (.cells #[.int .u32 1] 27)
    have ho := one_rd2 w (.cells #[.int .u32 ((m % 4294967296 : Nat) : Int), .int .u32 ((m / 4294967296 : Nat) : Int)] 27)
    have hp2 := hp.keep ((Below.refl _ (w.alloc (.cells #[.int .u32 ((m % 4294967296 : Nat) : Int), .int .u32 ((m / 4294967296 : Nat) : Int)] 27))).alloc (Nat.le_refl _) (.cells #[.int .u32 1] 27))
    have hs := shift_left' _ _ _ n 1 _ ho rfl (by show 1 ≤ _; omega) (by omega)
    rw [Nat.one_mul] at hs
    have fl : (canon (2 ^ n)).length ≤ 40 := (two_fitsK n 40 (by omega)).len
    rw [show (-((E : Int) - 1074)) = (n : Int) by omega]
    refine hs.mono ?_
    rintro e w2 ⟨so, sc, rfl, hr, hb⟩
    have S2 := Lib.hid hr
    have P2 := Lib.hid (hp2.keep hb)
    have B2 := Lib.hid (b2.trans (hb.mono b2.size))
    have FL := Lib.hid fl
    clear hr hb b1 b2 hp hp2 ho hs h7 hm h2 hn fl
    go_wp2
    go_ret2
    exact ⟨_, _, [((m % 4294967296 : Nat) : Int), ((m / 4294967296 : Nat) : Int)], _, _, canon (2 ^ n), rfl, P2.out, S2.out, (by show 2 ≤ 40; omega), FL.out, (by rw [hx.out, bval_canon]; exact hf.out), B2.out⟩

/-- how far two fractions are apart -/
def ApartIs (N D A B X Y : Nat) : Prop := X = dist (N * B) (A * D) ∧ Y = D * B

set_option maxHeartbeats 2000000 in
theorem apart_any (a0 a1 a2 a3 : Option Addr) (c0 c1 c2 c3 : Nat) (x0 x1 x2 x3 : List Int) (N D A B : Nat) (w : World) (h0 : Rd .u32 w a0 c0 x0) (h1 : Rd .u32 w a1 c1 x1) (h2 : Rd .u32 w a2 c2 x2) (h3 : Rd .u32 w a3 c3 x3)
    (v0 : bval x0 = N) (v1 : bval x1 = D) (v2 : bval x2 = A) (v3 : bval x3 = B) (l0 : x0.length ≤ 200) (l1 : x1.length ≤ 200) (l2 : x2.length ≤ 200) (l3 : x3.length ≤ 200) :
    Calls Tryd.prog 18 #[.slice a0 x0.length c0, .slice a1 x1.length c1, .slice a2 x2.length c2, .slice a3 x3.length c3] w (PairPost 400 (ApartIs N D A B) w) := by
  have f0 : Fits N 200 := by rw [← v0]; exact (Fits.words (words_of_rd h0)).mono l0
  have f1 : Fits D 200 := by rw [← v1]; exact (Fits.words (words_of_rd h1)).mono l1
  have f2 : Fits A 200 := by rw [← v2]; exact (Fits.words (words_of_rd h2)).mono l2
  have f3 : Fits B 200 := by rw [← v3]; exact (Fits.words (words_of_rd h3)).mono l3
  have g0 := (f0.mul f3).len
  have g1 := (f2.mul f1).len
  have g2 := (f1.mul f3).len
  have H1 := fun w0 (hb : Below w.heap.size w w0) => mul_two a0 a3 c0 c3 x0 x3 w0 N B (h0.keep hb) (h3.keep hb) v0 v3 (by omega) (by omega)
  have H2 := fun w0 (hb : Below w.heap.size w w0) => mul_two a2 a1 c2 c1 x2 x1 w0 A D (h2.keep hb) (h1.keep hb) v2 v1 (by omega) (by omega)
  have H3 := fun w0 p q pc qc (hp : Rd .u32 w0 p pc (canon (N * B))) (hq : Rd .u32 w0 q qc (canon (A * D))) => cmp_two' p q pc qc (canon (N * B)) (canon (A * D)) w0 (N * B) (A * D) hp hq (bval_canon _) (bval_canon _) (by omega) (by omega)
  have H4 := fun w0 p q pc qc (hp : Rd .u32 w0 p pc (canon (N * B))) (hq : Rd .u32 w0 q qc (canon (A * D))) (hle : A * D ≤ N * B) => sub_two p q pc qc (canon (N * B)) (canon (A * D)) w0 (N * B) (A * D) hp hq (bval_canon _) (bval_canon _) (by omega) (by omega) hle
  have H4' := fun w0 p q pc qc (hp : Rd .u32 w0 p pc (canon (A * D))) (hq : Rd .u32 w0 q qc (canon (N * B))) (hle : N * B ≤ A * D) => sub_two p q pc qc (canon (A * D)) (canon (N * B)) w0 (A * D) (N * B) hp hq (bval_canon _) (bval_canon _) (by omega) (by omega) hle
  have H5 := fun w0 (hb : Below w.heap.size w w0) => mul_two a1 a3 c1 c3 x1 x3 w0 D B (h1.keep hb) (h3.keep hb) v1 v3 (by omega) (by omega)
  have d1 : (canon (N * B - A * D)).length ≤ 400 := (f0.mul f3).sub.len
  have d2 : (canon (A * D - N * B)).length ≤ 400 := (f2.mul f1).sub.len
  unfold WordsPost at H1 H2 H5
  unfold CmpPost at H3
  unfold SubPost at H4 H4'
  replace H1 := Lib.hid H1
  replace H2 := Lib.hid H2
  replace H3 := Lib.hid H3
  replace H4 := Lib.hid H4
  replace H4' := Lib.hid H4'
  replace H5 := Lib.hid H5
  have D1 := Lib.hid d1
  have D2 := Lib.hid d2
  have D3 := Lib.hid g2
  obtain ⟨n0, hn0⟩ : ∃ n, n = x0.length := ⟨_, rfl⟩
  obtain ⟨n1, hn1⟩ : ∃ n, n = x1.length := ⟨_, rfl⟩
  obtain ⟨n2, hn2⟩ : ∃ n, n = x2.length := ⟨_, rfl⟩
  obtain ⟨n3, hn3⟩ : ∃ n, n = x3.length := ⟨_, rfl⟩
  rw [← hn0, ← hn3] at H1
  rw [← hn2, ← hn1] at H2
  rw [← hn1, ← hn3] at H5
  rw [← hn0, ← hn1, ← hn2, ← hn3]
  clear h0 h1 h2 h3 v0 v1 v2 v3 l0 l1 l2 l3 f0 f1 f2 f3 g0 g1 g2 d1 d2 hn0 hn1 hn2 hn3
  go_enter Tryd.func18, Tryd.ntmps18
  go_wp2_with fail
  refine (H1.out w (Below.refl _ _)).mono ?_
  rintro e0 w1 ⟨po, pc, rfl, hr, hb⟩
  have P1 := Lib.hid hr
  have B1 := Lib.hid hb
  clear hr hb
  go_wp2_with fail
  refine (H2.out w1 B1.out).mono ?_
  rintro e0 w2 ⟨qo, qc, rfl, hr, hb⟩
  have Q2 := Lib.hid hr
  have P2 := Lib.hid (P1.out.keep hb)
  have B2 := Lib.hid (B1.out.trans (hb.mono B1.out.size))
  clear hr hb B1 P1
  go_wp2_with fail
  refine (H3.out w2 _ _ _ _ P2.out Q2.out).mono ?_
  rintro e0 w3 ⟨rfl, hb⟩
  have P3 := Lib.hid (P2.out.keep hb)
  have Q3 := Lib.hid (Q2.out.keep hb)
  have B3 := Lib.hid (B2.out.trans (hb.mono B2.out.size))
  clear hb B2 P2 Q2
  rcases Nat.lt_or_ge (N * B) (A * D) with hc | hc
  · rw [cmp_lt hc]
    have hle := Nat.le_of_lt hc
    have HS := Lib.hid (H4'.out w3 _ _ _ _ Q3.out P3.out hle)
    have hd : dist (N * B) (A * D) = A * D - N * B := by unfold dist; omega
    have HD := Lib.hid hd
    clear hc hle hd
    go_wp2_with fail
    refine HS.out.mono ?_
    rintro e0 w4 ⟨so, sc, rfl, hr, hb⟩
    have S4 := Lib.hid hr
    have B4 := Lib.hid (B3.out.trans (hb.mono B3.out.size))
    clear hr hb B3
    go_wp2_with fail
    refine (H5.out w4 B4.out).mono ?_
    rintro e0 w5 ⟨tto, tc, rfl, hr, hb⟩
    have T5 := Lib.hid hr
    have S5 := Lib.hid (S4.out.keep hb)
    have B5 := Lib.hid (B4.out.trans (hb.mono B4.out.size))
    clear hr hb B4
    go_wp2
    go_ret2
    exact ⟨_, _, _, _, _, _, rfl, S5.out, T5.out, D2.out, D3.out, ⟨by rw [bval_canon, HD.out], bval_canon _⟩, B5.out⟩
  · have hcc : decide (cmpOf (N * B) (A * D) < 0) = false := by
      refine decide_eq_false ?_
      unfold cmpOf
      rw [if_neg (by omega)]
      split <;> decide
    generalize cmpOf (N * B) (A * D) = cc at *
    have HS := Lib.hid (H4.out w3 _ _ _ _ P3.out Q3.out hc)
    have hd : dist (N * B) (A * D) = N * B - A * D := by unfold dist; omega
    have HD := Lib.hid hd
    clear hc hd
    go_wp2_with fail
    refine HS.out.mono ?_
    rintro e0 w4 ⟨so, sc, rfl, hr, hb⟩
    have S4 := Lib.hid hr
    have B4 := Lib.hid (B3.out.trans (hb.mono B3.out.size))
    clear hr hb B3
    go_wp2_with fail
    refine (H5.out w4 B4.out).mono ?_
    rintro e0 w5 ⟨tto, tc, rfl, hr, hb⟩
    have T5 := Lib.hid hr
    have S5 := Lib.hid (S4.out.keep hb)
    have B5 := Lib.hid (B4.out.trans (hb.mono B4.out.size))
    clear hr hb B4
    go_wp2
    go_ret2
    exact ⟨_, _, _, _, _, _, rfl, S5.out, T5.out, D1.out, D3.out, ⟨by rw [bval_canon, HD.out], bval_canon _⟩, B5.out⟩

end Go.Proofs.YtmieegcnfnoiiaaDoor
