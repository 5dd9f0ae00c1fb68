/-
  The contract of float.Near: the nearest fraction. Conditions: at most 1000 words.
-/
import Derived.Test.YtmieegcnfnoiiaaDoorFloat1
namespace Go.Proofs.YtmieegcnfnoiiaaDoor
open Go.RowKit Gx
set_option maxRecDepth 100000

/-- N, 2^1075 times -/
def Y75 (N : Nat) : Nat := N * 2 ^ 1075
theorem y75_of (N K : Nat) (h : K = 1075) : Y75 N = N * 2 ^ K := by rw [h]; rfl
theorem y75_zero : Y75 0 = 0 := by
  obtain ⟨K, hK⟩ : ∃ K : Nat, K = 1075 := ⟨_, rfl⟩
  rw [y75_of 0 K hK, Nat.zero_mul]
theorem rnd_zero75 (D : Nat) (hD : 0 < D) : Rnd (Y75 0) D 0 := by rw [y75_zero]; exact rnd_zero D hD
theorem sh_rel (P0 Q0 E : Nat) (e : Int) (h : (E : Int) = e + 1074) : 2 * shNum P0 e * (Q0 * 2 ^ E) = Y75 P0 * shDen Q0 e := by
  unfold shNum shDen Y75
  obtain ⟨K, hK⟩ : ∃ K : Nat, K = 1075 := ⟨_, rfl⟩
  rw [← hK]
  have e1 : 2 * (P0 * 2 ^ (-e).toNat) * (Q0 * 2 ^ E) = (P0 * Q0) * 2 ^ (1 + (-e).toNat + E) := by
    rw [Nat.pow_add, Nat.pow_add, Nat.pow_one]
    generalize 2 ^ (-e).toNat = u
    generalize 2 ^ E = v
    rw [Nat.mul_comm 2 (P0 * u), Nat.mul_assoc P0 u 2, Nat.mul_assoc P0 (u * 2), Nat.mul_assoc P0 Q0]
    congr 1
    rw [Nat.mul_comm u 2, Nat.mul_left_comm (2 * u) Q0 v]
  have e2 : P0 * 2 ^ K * (Q0 * 2 ^ e.toNat) = (P0 * Q0) * 2 ^ (K + e.toNat) := by
    rw [Nat.pow_add]
    generalize 2 ^ K = u
    generalize 2 ^ e.toNat = v
    rw [Nat.mul_assoc P0 u, Nat.mul_assoc P0 Q0, Nat.mul_left_comm u Q0 v]
  rw [e1, e2]
  congr 2
  omega
theorem fits_of_blen (n K : Nat) (h0 : n ≠ 0) (h : blen n ≤ 32 * K) : Fits n K := by
  unfold Fits
  rw [pow32]
  exact Nat.lt_of_lt_of_le (blen_bounds n h0).2.2 (Nat.pow_le_pow_right (by decide) h)
theorem blen_of_fits (n K : Nat) (h : Fits n K) : blen n ≤ 32 * K := by
  unfold Fits at h
  rw [pow32] at h
  rcases Nat.eq_zero_or_pos n with h0 | h0
  · rw [h0]; simp [blen]
  · obtain ⟨b1, b2, b3⟩ := blen_bounds n (by omega)
    apply Classical.byContradiction
    intro hc
    have := Nat.pow_le_pow_right (show 0 < 2 by decide) (show 32 * K ≤ blen n - 1 by omega)
    omega
theorem near_first' {num den E : Nat} (hn : num ≠ 0) (hd : den ≠ 0) (h1 : blen num + 1021 ≤ E + blen den) (h2 : E = 0 ∨ blen num + 1021 = E + blen den) :
    Y75 num < 36028797018963968 * (den * 2 ^ E) ∧ (E = 0 ∨ 2 * 4503599627370496 * (den * 2 ^ E) < Y75 num) := by
  have h := near_first hn hd h1 h2
  have n55 : (2 : Nat) ^ 55 = 36028797018963968 := by decide
  have n53 : (2 : Nat) ^ 53 = 2 * 4503599627370496 := by decide
  rw [n55, n53] at h
  exact h
theorem blen_le (n k : Nat) (h : n < 2 ^ k) : blen n ≤ k := by
  rcases Nat.eq_zero_or_pos n with h0 | h0
  · rw [h0]; simp [blen]
  · obtain ⟨b1, b2, b3⟩ := blen_bounds n (by omega)
    apply Classical.byContradiction
    intro hc
    have := Nat.pow_le_pow_right (show 0 < 2 by decide) (show k ≤ blen n - 1 by omega)
    omega

/-- the nearest fraction of N / D -/
def NearPost (N D : Nat) (w : World) (e : Ending) (w' : World) : Prop :=
  ∃ b : Nat, e = .returned (.tuple #[.int .u64 b, .int .i64 0]) ∧ Rnd (Y75 N) D b ∧ Below w.heap.size w w'

/-- what scaling by a power of 2 makes -/
theorem scale_step {P0 Q0 E : Nat} {e : Int} (hQ : Q0 ≠ 0) (h : (E : Int) = e + 1074) (ha : Y75 P0 < 36028797018963968 * (Q0 * 2 ^ E)) :
    shNum P0 e / shDen Q0 e < 72057594037927936 ∧ Step (Y75 P0) (Q0 * 2 ^ E) (rheN (shNum P0 e) (shDen Q0 e)) := by
  have hr := sh_rel P0 Q0 E e h
  have hQ1 : 0 < shDen Q0 e := Nat.mul_pos (by omega) (Nat.pow_pos (by decide))
  have hT : 0 < Q0 * 2 ^ E := Nat.mul_pos (by omega) (Nat.pow_pos (by decide))
  generalize Y75 P0 = Y at *
  generalize shNum P0 e = P at *
  generalize shDen Q0 e = Q at *
  generalize Q0 * 2 ^ E = T at *
  have hst := (rhe_of P Q hQ1).turn hQ1 hT hr
  refine ⟨?_, ⟨hst.1, hst.2⟩⟩
  rw [Nat.div_lt_iff_lt_mul hQ1]
  have h1 : 2 * P * T < (36028797018963968 * Q) * T := by
    rw [hr, Nat.mul_assoc, Nat.mul_comm Q T, ← Nat.mul_assoc]
    exact Nat.mul_lt_mul_of_pos_right ha hQ1
  have h2 := Nat.lt_of_mul_lt_mul_right h1
  omega

theorem fin_bits (e : Int) (E n : Nat) (he : e + 1075 = E + 1) (h1 : 4503599627370496 ≤ n) (h2 : n ≤ 9007199254740992) (hE : E ≤ 2047) :
    IntKind.u64.wrap ((e + 1075) * 4503599627370496 + IntKind.u64.wrap ((n : Int) - 4503599627370496)) = ((E * 4503599627370496 + n : Nat) : Int) := by
  rw [he, IntKind.wrap_u64, IntKind.wrap_u64]
  omega
theorem tup_bits {a b : Int} (h : a = b) : Ending.returned (Value.tuple #[Value.int .u64 a, Value.int .i64 0]) = Ending.returned (Value.tuple #[Value.int .u64 b, Value.int .i64 0]) := by rw [h]

variable (ad : Option Addr) (ca : Nat) (xs : List Int) (exp : Int) (w : World)

set_option maxHeartbeats 1000000 in
theorem near_large (h : Rd .u32 w ad ca xs) (hl : xs.length ≤ 1000) (hx : 1280 < blen (bval xs) ∨ exp < -1000 ∨ 1000 < exp) :
    Calls Tryd.prog 12 #[.slice ad xs.length ca, .int .i64 exp] w fun e w' => e = .returned (.tuple #[.int .u64 0, .int .i64 2]) ∧ w = w' := by
  have hL := bigLen_any ad ca xs w h (by omega)
  unfold LenPost at hL
  obtain ⟨ln, hln⟩ : ∃ n, n = blen (bval xs) := ⟨_, rfl⟩
  rw [← hln] at hL hx
  have HL := Lib.hid hL
  clear h hL hln
  by_cases h1 : 1280 < ln
  · have t1 : decide ((1280 : Int) < (ln : Int)) = true := decide_eq_true (by omega)
    clear hx
    go_enter Tryd.func12, Tryd.ntmps12
    go_wp2_with fail
    refine HL.out.mono ?_
    rintro e w' ⟨rfl, rfl⟩
    go_wp2
    go_ret2
    exact ⟨rfl, rfl⟩
  have t1 : decide ((1280 : Int) < (ln : Int)) = false := decide_eq_false (by omega)
  by_cases h2 : exp < -1000
  · have t2 : decide (exp < -1000) = true := decide_eq_true h2
    clear hx
    go_enter Tryd.func12, Tryd.ntmps12
    go_wp2_with fail
    refine HL.out.mono ?_
    rintro e w' ⟨rfl, rfl⟩
    go_wp2
    go_ret2
    exact ⟨rfl, rfl⟩
  have t2 : decide (exp < -1000) = false := decide_eq_false h2
  have t3 : decide (1000 < exp) = true := decide_eq_true (by omega)
  clear hx
  go_enter Tryd.func12, Tryd.ntmps12
  go_wp2_with fail
  refine HL.out.mono ?_
  rintro e w' ⟨rfl, rfl⟩
  go_wp2
  go_ret2
  exact ⟨rfl, rfl⟩

set_option maxHeartbeats 1000000 in
theorem near_zero (h : Rd .u32 w ad ca xs) (hl : xs.length ≤ 1000) (h1 : -1000 ≤ exp) (h2 : exp ≤ 1000) (hx : bval xs = 0) :
    Calls Tryd.prog 12 #[.slice ad xs.length ca, .int .i64 exp] w (NearPost (bval xs * tenUp exp) (tenDn exp) w) := by
  have hL := bigLen_any ad ca xs w h (by omega)
  unfold LenPost at hL
  rw [(blen_zero _).2 hx] at hL
  have HL := Lib.hid hL
  have hr := rnd_zero75 (tenDn exp) (tenDn_pos exp)
  rw [hx, Nat.zero_mul]
  have HR := Lib.hid hr
  have t2 : decide (exp < -1000) = false := decide_eq_false (by omega)
  have t3 : decide (1000 < exp) = false := decide_eq_false (by omega)
  clear h hL hx hr
  go_enter Tryd.func12, Tryd.ntmps12
  go_wp2_with fail
  refine HL.out.mono ?_
  rintro e w' ⟨rfl, rfl⟩
  go_wp2_with fail
  refine HL.out.mono ?_
  rintro e w' ⟨rfl, rfl⟩
  go_wp2
  go_ret2
  exact ⟨0, rfl, HR.out, Below.refl _ _⟩

set_option maxHeartbeats 4000000 in
theorem near_main (h : Rd .u32 w ad ca xs) (hl : xs.length ≤ 1000) (h1 : -1000 ≤ exp) (h2 : exp ≤ 1000) (hx : bval xs ≠ 0) (hb : blen (bval xs) ≤ 1280) :
    Calls Tryd.prog 12 #[.slice ad xs.length ca, .int .i64 exp] w (NearPost (bval xs * tenUp exp) (tenDn exp) w) := by
  have hL := bigLen_any ad ca xs w h (by omega)
  unfold LenPost at hL
  obtain ⟨m, hm⟩ : ∃ m, m = bval xs := ⟨_, rfl⟩
  have HT := fun w0 (hb : Below w.heap.size w w0) => trim_one ad ca xs w0 m (h.keep hb) hm.symm (by omega)
  rw [← hm] at hL hx hb ⊢
  have fm : Fits m 40 := fits_of_blen m 40 hx (by omega)
  have fu : Fits (tenUp exp) 126 := ten_fits _ (by omega)
  have fd : Fits (tenDn exp) 126 := ten_fits _ (by omega)
  have hup := tenUp_pos exp
  have hdn := tenDn_pos exp
  have lm := fm.len
  have HRT := fun w0 ao ac (hr : Rd .u32 w0 ao ac (canon m)) => ratio_any ao ac m exp w0 hr (by omega) h1 h2
  have fnum := fm.mul fu
  obtain ⟨num, hnum⟩ : ∃ n, n = m * tenUp exp := ⟨_, rfl⟩
  obtain ⟨den, hden⟩ : ∃ n, n = tenDn exp := ⟨_, rfl⟩
  rw [← hnum] at fnum
  rw [← hden] at fd hdn
  rw [← hnum, ← hden] at HRT ⊢
  have hn0 : num ≠ 0 := by rw [hnum]; exact Nat.mul_ne_zero hx (by omega)
  have hd0 : den ≠ 0 := by omega
  have lnum := fnum.len
  have lden := fd.len
  have bn : blen num ≤ 5312 := by have := blen_of_fits _ _ fnum; omega
  have bd : blen den ≤ 4032 := by have := blen_of_fits _ _ fd; omega
  have HLN := fun w0 ao ac (hr : Rd .u32 w0 ao ac (canon num)) => bigLen_any ao ac (canon num) w0 hr (by omega)
  have HLD := fun w0 ao ac (hr : Rd .u32 w0 ao ac (canon den)) => bigLen_any ao ac (canon den) w0 hr (by omega)
  unfold LenPost at HLN HLD
  rw [bval_canon] at HLN HLD
  have hS := fun (e : Int) (he1 : -1100 ≤ e) (he2 : e ≤ 1100) (hlt : shNum num e / shDen den e < 72057594037927936) w0 no nc dd dc (hn : Rd .u32 w0 no nc (canon num)) (hd : Rd .u32 w0 dd dc (canon den)) =>
    scaled_any no dd nc dc num den e w0 hn hd (by omega) (by omega) hd0 he1 he2 hlt
  unfold U64Post at hS
  obtain ⟨ln, hln⟩ : ∃ n, n = blen num := ⟨_, rfl⟩
  obtain ⟨ld, hld⟩ : ∃ n, n = blen den := ⟨_, rfl⟩
  obtain ⟨E, hE⟩ : ∃ E : Nat, (E : Int) = max ((ln : Int) - (ld : Int) - 53) (-1074) + 1074 := ⟨(max ((ln : Int) - (ld : Int) - 53) (-1074) + 1074).toNat, by omega⟩
  have hmax : max ((ln : Int) - (ld : Int) - 53) (-1074) = (E : Int) - 1074 := by omega
  obtain ⟨na, nb⟩ := near_first' (num := num) (den := den) (E := E) hn0 hd0 (by omega) (by omega)
  have hD : 0 < den := by omega
  rw [← hln] at HLN bn
  rw [← hld] at HLD bd
  have HSC := Lib.hid hS
  obtain ⟨bl, hbl⟩ : ∃ n, n = blen m := ⟨_, rfl⟩
  rw [← hbl] at hL hb
  have hbl0 : bl ≠ 0 := by rw [hbl]; exact fun h => hx ((blen_zero _).1 h)
  have t1 : decide ((1280 : Int) < (bl : Int)) = false := decide_eq_false (by omega)
  have t2 : decide (exp < -1000) = false := decide_eq_false (by omega)
  have t3 : decide (1000 < exp) = false := decide_eq_false (by omega)
  obtain ⟨z1, z2, z3⟩ := kcn hbl0
  have HL := Lib.hid hL
  have NA := Lib.hid na
  have NB := Lib.hid nb
  have HD := Lib.hid hD
  have HD0 := Lib.hid hd0
  have HMAX := Lib.hid hmax
  unfold WordsPost at HT
  unfold TwoPost at HRT
  replace HT := Lib.hid HT
  replace HRT := Lib.hid HRT
  replace HLN := Lib.hid HLN
  replace HLD := Lib.hid HLD
  clear h hL hm fm fu fd fnum hup hdn hnum hden hn0 hd0 lnum lden lm hS hE na nb hD hln hld hbl hbl0 hx hmax hb
  go_enter Tryd.func12, Tryd.ntmps12
  go_wp2_with fail
  refine HL.out.mono ?_
  rintro e w' ⟨rfl, rfl⟩
  go_wp2_with fail
  refine HL.out.mono ?_
  rintro e w' ⟨rfl, rfl⟩
  go_wp2_with fail
  clear t1 t2 t3 z1 z2 z3
  refine (HT.out w (Below.refl _ _)).mono ?_
  rintro e w1 ⟨mo, mc, rfl, hr, hb⟩
  have HM1 := Lib.hid hr
  have B1 := Lib.hid hb
  clear hr hb
  go_wp2_with fail
  refine (HRT.out w1 _ _ HM1.out).mono ?_
  rintro e w2 ⟨no, nc, dd, dc, rfl, hn, hd, hb⟩
  have HN2 := Lib.hid hn
  have HD2 := Lib.hid hd
  have B2 := Lib.hid (B1.out.trans (hb.mono B1.out.size))
  clear hn hd hb HM1 B1
  go_wp2_with fail
  refine (HLN.out w2 _ _ HN2.out).mono ?_
  rintro e w' ⟨rfl, rfl⟩
  go_wp2_with fail
  refine (HLD.out w2 _ _ HD2.out).mono ?_
  rintro e w' ⟨rfl, rfl⟩
  have hmax := HMAX.out
  by_cases hbig : 2046 ≤ E
  · have hr := near_hiE HD.out hbig (NB.out.resolve_left (by omega))
    have HR := Lib.hid hr
    have t1 : decide ((971 : Int) < (E : Int) - 1074) = true := decide_eq_true (by omega)
    clear hr
    go_wp2
    go_ret2
    exact ⟨9218868437227405312, rfl, HR.out, B2.out⟩
  obtain ⟨s1, s2⟩ := scale_step (P0 := num) (Q0 := den) (E := E) (e := (E : Int) - 1074) HD0.out (by omega) NA.out
  have hS1 := HSC.out ((E : Int) - 1074) (by omega) (by omega) s1
  obtain ⟨n, hn⟩ : ∃ n, n = rheN (shNum num ((E : Int) - 1074)) (shDen den ((E : Int) - 1074)) := ⟨_, rfl⟩
  rw [← hn] at hS1 s2
  have hn4 : n ≤ 18014398509481984 := s2.top (Nat.mul_pos HD.out (Nat.pow_pos (by decide))) (by have := NA.out; omega)
  have HS1 := Lib.hid hS1
  have ST := Lib.hid s2
  have t1 : decide ((971 : Int) < (E : Int) - 1074) = false := decide_eq_false (by omega)
  have hE5 : E ≤ 2045 := by omega
  clear s1 hS1 hn s2 hbig
  go_wp2_with fail
  refine (HS1.out w2 _ _ _ _ HN2.out HD2.out).mono ?_
  rintro e w3 ⟨rfl, hb⟩
  have B3 := Lib.hid (B2.out.trans (hb.mono B2.out.size))
  have HN3 := Lib.hid (HN2.out.keep hb)
  have HD3 := Lib.hid (HD2.out.keep hb)
  clear hb HN2 HD2 B2 hmax
  by_cases hn2 : n < 9007199254740992
  · obtain ⟨r1, r2⟩ := near_one HD.out ST.out hn2 NB.out (by omega)
    have hlt : E * 4503599627370496 + n < 9218868437227405312 := by omega
    rw [if_neg (by omega)] at r2
    have HR := Lib.hid r2
    have u2 : decide ((9007199254740992 : Int) ≤ (n : Int)) = false := decide_eq_false (by omega)
    have v2 : ((n : Int) == 9007199254740992) = false := by rw [beq_eq_false_iff_ne]; omega
    have v3 : decide ((n : Int) = 9007199254740992) = false := decide_eq_false (by omega)
    clear r2
    by_cases hH : n < 4503599627370496
    · obtain rfl : E = 0 := by omega
      have HH := Lib.hid hH
      have HN22 := Lib.hid hn2
      have x2 : decide ((n : Int) < 4503599627370496) = true := decide_eq_true (by omega)
      clear r1 hH hn2 hn4 hlt
      go_wp2
      go_ret2
      exact ⟨n, rfl, (by have h := HR.out; rw [Nat.zero_mul, Nat.zero_add] at h; exact h), B3.out⟩
    · have x1 : decide (n < 4503599627370496) = false := decide_eq_false hH
      have x2 : decide ((n : Int) < 4503599627370496) = false := decide_eq_false (by omega)
      have HH := Lib.hid hH
      have HN22 := Lib.hid hn2
      have HLT := Lib.hid hlt
      clear r1 hH hn2 hn4 hlt
      go_wp2
      go_ret2
      exact ⟨_, tup_bits (fin_bits ((E : Int) - 1074) E n (by omega) (Nat.le_of_not_lt HH.out) (Nat.le_of_lt HN22.out) (by omega)), HR.out, B3.out⟩
  · have HN22 : Hid (9007199254740992 ≤ n) := Nat.le_of_not_lt hn2
    have e2 : den * 2 ^ (E + 1) = 2 * (den * 2 ^ E) := by rw [Nat.pow_succ, ← Nat.mul_assoc, Nat.mul_comm]
    obtain ⟨s1, s2⟩ := scale_step (P0 := num) (Q0 := den) (E := E + 1) (e := (E : Int) - 1074 + 1) HD0.out (by omega) (by rw [e2]; have := NA.out; omega)
    have hS1 := HSC.out ((E : Int) - 1074 + 1) (by omega) (by omega) s1
    obtain ⟨m, hm⟩ : ∃ n, n = rheN (shNum num ((E : Int) - 1074 + 1)) (shDen den ((E : Int) - 1074 + 1)) := ⟨_, rfl⟩
    rw [← hm] at hS1 s2
    obtain ⟨m1, m2, m3, m4⟩ := near_two HD.out ST.out HN22.out NA.out s2 (by omega)
    have HS2 := Lib.hid hS1
    have M1 := Lib.hid m1
    have M3 := Lib.hid m3
    have M4 := Lib.hid m4
    have M2 := Lib.hid m2
    have u2 : decide ((9007199254740992 : Int) ≤ (n : Int)) = true := decide_eq_true (by omega)
    have hm5 : m ≤ 9007199254740992 := m2
    clear s1 hS1 hm s2 m1 m2 m3 m4 e2 hn2 hn4
    go_wp2_with fail
    refine (HS2.out w3 _ _ _ _ HN3.out HD3.out).mono ?_
    rintro e w4 ⟨rfl, hb⟩
    have B4 := Lib.hid (B3.out.trans (hb.mono B3.out.size))
    clear hb HN3 HD3 B3
    by_cases hm6 : m = 9007199254740992
    · have hr := M4.out hm6
      have v2 : ((m : Int) == 9007199254740992) = true := by rw [beq_iff_eq]; omega
      have v3 : decide ((m : Int) = 9007199254740992) = true := decide_eq_true (by omega)
      by_cases hbig : 2044 ≤ E
      · rw [if_pos (by omega)] at hr
        have HR := Lib.hid hr
        have x1 : decide ((971 : Int) < (E : Int) - 1074 + 1 + 1) = true := decide_eq_true (by omega)
        clear hr hm6 hm5
        go_wp2
        go_ret2
        exact ⟨9218868437227405312, rfl, HR.out, B4.out⟩
      · rw [if_neg (by omega)] at hr
        have HR := Lib.hid hr
        have x1 : decide ((971 : Int) < (E : Int) - 1074 + 1 + 1) = false := decide_eq_false (by omega)
        clear hr hm6 hm5
        go_wp2
        go_ret2
        exact ⟨(E + 2) * 4503599627370496 + 4503599627370496, tup_bits (by omega), HR.out, B4.out⟩
    · have hm7 : m < 9007199254740992 := by omega
      have hr := M3.out hm7
      have v2 : ((m : Int) == 9007199254740992) = false := by rw [beq_eq_false_iff_ne]; omega
      have v3 : decide ((m : Int) = 9007199254740992) = false := decide_eq_false (by omega)
      by_cases hbig : 2045 ≤ E
      · rw [if_pos (by have := M1.out; omega)] at hr
        have HR := Lib.hid hr
        have x1 : decide ((971 : Int) < (E : Int) - 1074 + 1) = true := decide_eq_true (by omega)
        clear hr hm6 hm5 hm7
        go_wp2
        go_ret2
        exact ⟨9218868437227405312, rfl, HR.out, B4.out⟩
      · rw [if_neg (by omega)] at hr
        have HR := Lib.hid hr
        have x1 : decide ((971 : Int) < (E : Int) - 1074 + 1) = false := decide_eq_false (by omega)
        have x2 : decide ((m : Int) < 4503599627370496) = false := decide_eq_false (by have := M1.out; omega)
        clear hr hm6 hm5 hm7
        go_wp2
        go_ret2
        exact ⟨_, tup_bits (fin_bits ((E : Int) - 1074 + 1) (E + 1) m (by omega) M1.out M2.out (by omega)), HR.out, B4.out⟩

/-- whatever is asked: the nearest fraction -/
theorem near_any (h : Rd .u32 w ad ca xs) (hl : xs.length ≤ 1000) (h1 : -1000 ≤ exp) (h2 : exp ≤ 1000) (hb : blen (bval xs) ≤ 1280) :
    Calls Tryd.prog 12 #[.slice ad xs.length ca, .int .i64 exp] w (NearPost (bval xs * tenUp exp) (tenDn exp) w) := by
  by_cases hx : bval xs = 0
  · exact near_zero ad ca xs exp w h hl h1 h2 hx
  · exact near_main ad ca xs exp w h hl h1 h2 hx hb
end Go.Proofs.YtmieegcnfnoiiaaDoor
