/-
  The contracts of float.nat, float.odd and float.nearest. Conditions: not too long.
-/
import Derived.Test.YtmieegcnfnoiiaaDoorNearest0
namespace Go.Proofs.YtmieegcnfnoiiaaDoor
open Go.RowKit Gx
set_option maxRecDepth 100000

theorem trim_two (ad : Option Addr) (cap : Nat) (xs : List Int) (N : Nat) (w : World) (h : Rd .u32 w ad cap xs) (hx : bval xs = N) (hl : xs.length ≤ 1073741824) :
    Calls Tryd.prog 30 #[.slice ad xs.length cap] w (WordsPost N w) := by
  subst hx; exact bigTrim_any ad cap xs w h hl

set_option maxHeartbeats 1000000 in
theorem nat_any (m : Nat) (w : World) (hm : m < 18446744073709551616) :
    Calls Tryd.prog 23 #[.int .u64 m] w (WordsPost m w) := by
  have hx := halves m hm
  have hp := pair_rd w ((m % 4294967296 : Nat) : Int) ((m / 4294967296 : Nat) : Int) (wf32 _ (by omega)) (wf32 _ (by omega))
  have b1 := (Below.refl w.heap.size w).alloc (Nat.le_refl _) (.cells #[.int .u32 ((m % 4294967296 : Nat) : Int), .int .u32 ((m / 4294967296 : Nat) : Int)] 27)
  have HT := Lib.hid (trim_two _ _ _ m _ hp hx (by show 2 ≤ _; omega))
  have B1 := Lib.hid b1
  clear hx hp b1
  go_enter Tryd.func23, Tryd.ntmps23
  go_wp2_with fail
  refine HT.out.mono ?_
  rintro e0 w1 ⟨no, nc, rfl, hr, hb⟩
  have R1 := Lib.hid hr
  have B2 := Lib.hid (B1.out.trans (hb.mono B1.out.size))
  clear hr hb B1
  go_wp2
  go_ret
  exact ⟨_, _, rfl, R1.out, B2.out⟩

def SomeBool (w : World) (e : Ending) (w' : World) : Prop := ∃ b, e = .returned (.bool b) ∧ w = w'
set_option maxHeartbeats 1000000 in
theorem odd_any (ad : Option Addr) (ca : Nat) (xs : List Int) (w : World) (h : Rd .u32 w ad ca xs) (hl : xs.length ≤ 1048576) :
    Calls Tryd.prog 42 #[.slice ad xs.length ca] w (SomeBool w) := by
  by_cases h0 : xs.length = 0
  · have t0 : decide ((0 : Int) < (xs.length : Int)) = false := decide_eq_false (by omega)
    generalize xs.length = n at *
    subst h0
    clear h hl
    go_enter Tryd.func42, Tryd.ntmps42
    go_wp2
    go_ret
    exact ⟨_, rfl, rfl⟩
  · obtain ⟨b, off, rfl, hb, hc⟩ := h.addr (by omega)
    have c0 := hc 0 (by omega)
    rw [Nat.add_zero] at c0
    have hw := h.wf (xs.getD 0 0) (by
      cases xs with
      | nil => simp at h0
      | cons a l => simp)
    obtain ⟨n, hn⟩ : ∃ n, n = xs.length := ⟨_, rfl⟩
    rw [← hn] at h0 hl ⊢
    obtain ⟨v, hv⟩ : ∃ v, v = xs.getD 0 0 := ⟨_, rfl⟩
    rw [← hv] at c0 hw
    have t0 : decide ((0 : Int) < (n : Int)) = true := decide_eq_true (by omega)
    have hpos : (0 : Int) < (n : Int) := by omega
    have hpos2 : 0 < n := by omega
    clear h hc hn hv h0
    go_enter Tryd.func42, Tryd.ntmps42
    go_wp2
    go_ret
    exact ⟨_, rfl, rfl⟩

/-- the number c * 10^k is the fraction b -/
def Hits (c : Nat) (k : Int) (b : Nat) : Prop := Rnd (Y75 (c * tenUp k)) (tenDn k) b
theorem Hits.uniq {c : Nat} {k : Int} {b d : Nat} (h : Hits c k b) (g : Hits c k d) : b = d := Rnd.uniq h g (tenDn_pos k) (tenDn_pos k) rfl
def lowOf (N D : Nat) (k : Int) : Nat := N * tenDn k / (D * tenUp k)
def highOf (N D : Nat) (k : Int) : Nat := if N * tenDn k % (D * tenUp k) = 0 then lowOf N D k else lowOf N D k + 1
/-- its digits, without the noughts at the end -/
def shortOf (c : Nat) : List UInt8 := Lib.trimRightB (decText c) 48
def NearestPost (N D : Nat) (k : Int) (b : Nat) (w : World) (e : Ending) (w' : World) : Prop :=
  (∃ c, (c = lowOf N D k ∨ c = highOf N D k) ∧ Hits c k b ∧ e = .returned (.tuple #[.string ⟨(shortOf c).toArray⟩, .int .i64 (k + ((decText c).length : Int) - ((shortOf c).length : Int)), .bool true]) ∧ Below w.heap.size w w') ∨
  (¬ Hits (lowOf N D k) k b ∧ ¬ Hits (highOf N D k) k b ∧ e = .returned (.tuple #[.string ⟨#[]⟩, .int .i64 0, .bool false]) ∧ Below w.heap.size w w')

theorem nearest_ok {N D : Nat} {k : Int} {b : Nat} {w w' : World} (c : Nat) (h : c = lowOf N D k ∨ c = highOf N D k) (g : Hits c k b) (hb : Below w.heap.size w w') :
    NearestPost N D k b w (.returned (.tuple #[.string ⟨(shortOf c).toArray⟩, .int .i64 (k + ((decText c).length : Int) - ((shortOf c).length : Int)), .bool true])) w' := .inl ⟨c, h, g, rfl, hb⟩

theorem cmp_range (a b : Nat) : -1 ≤ cmpOf a b ∧ cmpOf a b ≤ 1 := by
  unfold cmpOf; split
  · decide
  · split <;> decide

set_option maxHeartbeats 4000000 in
theorem nearest_any (ad bd : Option Addr) (ca cb : Nat) (xs ys : List Int) (N D : Nat) (k : Int) (b : Nat) (w : World) (h : Rd .u32 w ad ca xs) (g : Rd .u32 w bd cb ys) (hx : bval xs = N) (hy : bval ys = D) (lx : xs.length ≤ 60) (ly : ys.length ≤ 60) (h1 : -500 ≤ k) (h2 : k ≤ 500)
    (hD : D ≠ 0) (hlow : lowOf N D k < 1000000000000000000) :
    Calls Tryd.prog 25 #[.slice ad xs.length ca, .slice bd ys.length cb, .int .i64 k, .int .u64 b] w (NearestPost N D k b w) := by
  have fN : Fits N 60 := by rw [← hx]; exact (Fits.words (words_of_rd h)).mono lx
  have fD : Fits D 60 := by rw [← hy]; exact (Fits.words (words_of_rd g)).mono ly
  have fu : Fits (tenUp k) 63 := ten_fitsK _ 63 (by omega)
  have fd : Fits (tenDn k) 63 := ten_fitsK _ 63 (by omega)
  have lu := fu.len
  have ld := fd.len
  have l1 := (fN.mul fd).len
  have l2 := (fD.mul fu).len
  have hQ : D * tenUp k ≠ 0 := Nat.mul_ne_zero hD (Nat.pos_iff_ne_zero.1 (tenUp_pos k))
  have HR := fun w0 ad (hr : Rd .u32 w0 ad 1 [1]) => ratio_any ad 1 1 k w0 hr (by decide) (by omega) (by omega)
  have e1 : 1 * tenUp k = tenUp k := Nat.one_mul _
  rw [e1] at HR
  have HM1 := fun w0 (hb : Below w.heap.size w w0) po pc (hr : Rd .u32 w0 po pc (canon (tenDn k))) => mul_two ad po ca pc xs (canon (tenDn k)) w0 N (tenDn k) (h.keep hb) hr hx (bval_canon _) (by omega) (by omega)
  have HM2 := fun w0 (hb : Below w.heap.size w w0) po pc (hr : Rd .u32 w0 po pc (canon (tenUp k))) => mul_two bd po cb pc ys (canon (tenUp k)) w0 D (tenUp k) (g.keep hb) hr hy (bval_canon _) (by omega) (by omega)
  have HDM := fun w0 po pc qo qc (hr : Rd .u32 w0 po pc (canon (N * tenDn k))) (hq : Rd .u32 w0 qo qc (canon (D * tenUp k))) => divMod_two po qo pc qc (canon (N * tenDn k)) (canon (D * tenUp k)) w0 _ _ hr hq (bval_canon _) (bval_canon _) (by omega) (by omega) hQ
  have fr : Fits (N * tenDn k % (D * tenUp k)) 123 := Nat.lt_of_lt_of_le (Nat.mod_lt _ (Nat.pos_of_ne_zero hQ)) (Nat.le_of_lt (fD.mul fu))
  have lr := fr.len
  have lrr := (fr.add fr).len
  have hhigh : highOf N D k = if N * tenDn k % (D * tenUp k) = 0 then lowOf N D k else lowOf N D k + 1 := rfl
  have HNR := fun (c : Nat) (hc : c ≤ 1000000000000000000) w0 po pc (hr : Rd .u32 w0 po pc (canon c)) =>
    near_two' po pc (canon c) w0 c k hr (bval_canon _) (Nat.le_trans (fits_64 c (by omega)).len (by decide)) (by omega) (by omega) (Nat.le_trans (blen_of_fits _ _ (fits_64 c (by omega))) (by decide))
  have HTX := fun (c : Nat) (hc : c ≤ 1000000000000000000) w0 po pc (hr : Rd .u32 w0 po pc (canon c)) =>
    text_canon po pc c w0 hr (Nat.le_trans (fits_64 c (by omega)).len (by decide))
  have HOD := fun (c : Nat) (hc : c ≤ 1000000000000000000) w0 po pc (hr : Rd .u32 w0 po pc (canon c)) =>
    odd_any po pc (canon c) w0 hr (Nat.le_trans (fits_64 c (by omega)).len (by decide))
  have HTR := fun (c : Nat) (hc : c ≤ 1000000000000000000) (w0 : World) => trim_string (decText c) w0 (Nat.le_trans (dec_len c hc) (by decide))
  have HAD := fun (c : Nat) (hc : c ≤ 1000000000000000000) w0 po pc qo (hr : Rd .u32 w0 po pc (canon c)) (hq : Rd .u32 w0 qo 1 [1]) =>
    add_two po qo pc 1 (canon c) [1] w0 c 1 hr hq (bval_canon _) rfl (Nat.le_trans (fits_64 c (by omega)).len (by decide)) (by decide)
  have HA2 := fun w0 po pc (hr : Rd .u32 w0 po pc (canon (N * tenDn k % (D * tenUp k)))) => add_two po po pc pc (canon (N * tenDn k % (D * tenUp k))) (canon (N * tenDn k % (D * tenUp k))) w0 _ _ hr hr (bval_canon _) (bval_canon _) (by omega) (by omega)
  have HC := fun w0 po pc qo qc (hr : Rd .u32 w0 po pc (canon (N * tenDn k % (D * tenUp k) + N * tenDn k % (D * tenUp k)))) (hq : Rd .u32 w0 qo qc (canon (D * tenUp k))) => cmp_two' po qo pc qc (canon _) (canon _) w0 _ _ hr hq (bval_canon _) (bval_canon _) (by omega) (by omega)
  have HCR := cmp_range (N * tenDn k % (D * tenUp k) + N * tenDn k % (D * tenUp k)) (D * tenUp k)
  have HLEN := canon_len_zero (N * tenDn k % (D * tenUp k))
  have hlowe : N * tenDn k / (D * tenUp k) = lowOf N D k := rfl
  have hdl : ∀ c, c ≤ 1000000000000000000 → (decText c).length ≤ 30 := fun c hc => dec_len c hc
  have hsl : ∀ c, c ≤ 1000000000000000000 → (shortOf c).length ≤ 30 := fun c hc => Nat.le_trans (trimRight_len _ _) (dec_len c hc)
  unfold TwoPost at HR
  unfold WordsPost at HM1 HM2 HAD HA2
  unfold DivModPost at HDM
  unfold NearPost at HNR
  unfold TextPost at HTX
  unfold CmpPost at HC
  unfold SomeBool at HOD
  replace HTR := fun c hc w0 => (show Calls Tryd.prog 43 #[.string ⟨(decText c).toArray⟩, .string ⟨#[48]⟩] w0 fun e w' => e = .returned (.string ⟨(shortOf c).toArray⟩) ∧ w' = w0 from HTR c hc w0)
  rw [hlowe] at HDM
  generalize N * tenDn k % (D * tenUp k) = r at *
  generalize N * tenDn k = P at *
  generalize D * tenUp k = Q at *
  have hits : ∀ c x, Rnd (Y75 (c * tenUp k)) (tenDn k) x → Hits c k x := fun c x h => h
  have hok := fun (c : Nat) (h : c = lowOf N D k ∨ c = highOf N D k) (g : Hits c k b) (w' : World) (hb : Below w.heap.size w w') => nearest_ok (w := w) (w' := w') c h g hb
  have hno : ∀ w', Below w.heap.size w w' → ¬ Hits (lowOf N D k) k b → ¬ Hits (highOf N D k) k b → NearestPost N D k b w (.returned (.tuple #[.string ⟨#[]⟩, .int .i64 0, .bool false])) w' := fun w' hb n1 n2 => .inr ⟨n1, n2, rfl, hb⟩
  generalize NearestPost N D k b w = POST at *
  generalize lowOf N D k = low at *
  generalize highOf N D k = high at *
  have hlo9 : Hid (low ≤ 1000000000000000000) := by show _ ≤ _; omega
  have hhi9 : Hid (high ≤ 1000000000000000000) := by show _ ≤ _; rw [hhigh]; split <;> omega
  have HH := Lib.hid hhigh
  obtain ⟨n0, hn0⟩ : ∃ n, n = xs.length := ⟨_, rfl⟩
  obtain ⟨n1, hn1⟩ : ∃ n, n = ys.length := ⟨_, rfl⟩
  rw [← hn0] at HM1 ⊢
  rw [← hn1] at HM2 ⊢
  generalize tenUp k = U at *
  generalize tenDn k = V at *
  replace HR := Lib.hid HR
  replace HM1 := Lib.hid HM1
  replace HM2 := Lib.hid HM2
  replace HDM := Lib.hid HDM
  replace HNR := Lib.hid HNR
  replace HTX := Lib.hid HTX
  replace HOD := Lib.hid HOD
  replace HTR := Lib.hid HTR
  replace HAD := Lib.hid HAD
  replace HA2 := Lib.hid HA2
  replace HC := Lib.hid HC
  replace HLEN := Lib.hid HLEN
  replace hits := Lib.hid hits
  replace hok := Lib.hid hok
  replace hno := Lib.hid hno
  replace hdl := Lib.hid hdl
  replace hsl := Lib.hid hsl
  clear h g hx hy lx ly fN fD fu fd lu ld l1 l2 hn0 hn1 e1 hQ fr lr lrr hhigh hlowe hlow hD
  go_enter Tryd.func25, Tryd.ntmps25
  go_wp2_with fail
  have ho := one_rd w
  have hc1 : canon 1 = [1] := rfl
  rw [hc1] at ho
  have b0 := (Below.refl w.heap.size w).alloc (Nat.le_refl _) (.cells #[.int .u32 1] 27)
  refine (HR.out _ _ ho).mono ?_
  rintro e0 w1 ⟨no, nc, dd, dc, rfl, hr, hr2, hb⟩
  have U1 := Lib.hid hr
  have V1 := Lib.hid hr2
  have B1 := Lib.hid (b0.trans (hb.mono b0.size))
  clear hr hr2 hb b0 ho hc1
  go_wp2_with fail
  refine (HM1.out w1 B1.out _ _ V1.out).mono ?_
  rintro e0 w2 ⟨mo, mc, rfl, hr, hb⟩
  have M2 := Lib.hid hr
  have U2 := Lib.hid (U1.out.keep hb)
  have B2 := Lib.hid (B1.out.trans (hb.mono B1.out.size))
  clear hr hb B1 U1 V1
  go_wp2_with fail
  refine (HM2.out w2 B2.out _ _ U2.out).mono ?_
  rintro e0 w3 ⟨po, pc, rfl, hr, hb⟩
  have P3 := Lib.hid hr
  have M3 := Lib.hid (M2.out.keep hb)
  have B3 := Lib.hid (B2.out.trans (hb.mono B2.out.size))
  clear hr hb B2 U2 M2
  go_wp2_with fail
  refine (HDM.out w3 _ _ _ _ M3.out P3.out).mono ?_
  rintro e0 w4 ⟨qo, qc, ro, rc, rfl, hr, hr2, hb⟩
  have L4 := Lib.hid hr
  have R4 := Lib.hid hr2
  have P4 := Lib.hid (P3.out.keep hb)
  have B4 := Lib.hid (B3.out.trans (hb.mono B3.out.size))
  clear hr hr2 hb B3 M3 P3
  by_cases hr0 : r = 0
  · have hz := HLEN.out.1 hr0
    have he := HH.out
    rw [if_pos hr0] at he
    replace he := he.symm
    subst he
    have tz : decide ((0 : Int) < ((canon r).length : Int)) = false := decide_eq_false (by omega)
    have tz2 : ¬ 0 < (canon r).length := by omega
    obtain ⟨w5, rfl⟩ : ∃ w5 : World, w5 = w4 := ⟨_, rfl⟩
    have L5 := L4
    have H5 := L4
    have R5 := R4
    have P5 := P4
    have B5 := B4
    clear L4 R4 P4 B4 hr0 HH hz
    go_wp2_with fail
    refine (HNR.out low hlo9.out w5 _ _ L5.out).mono ?_
    rintro e0 w6 ⟨x, rfl, hr, hb⟩
    have X6 := Lib.hid (hits.out _ _ hr)
    have L6 := Lib.hid (L5.out.keep hb)
    have H6 := Lib.hid (H5.out.keep hb)
    have R6 := Lib.hid (R5.out.keep hb)
    have P6 := Lib.hid (P5.out.keep hb)
    have B6 := Lib.hid (B5.out.trans (hb.mono B5.out.size))
    clear hr hb B5 L5 H5 R5 P5
    go_wp2_with fail
    refine (HNR.out low hhi9.out w6 _ _ H6.out).mono ?_
    rintro e0 w7 ⟨y, rfl, hr, hb⟩
    have Y7 := Lib.hid (hits.out _ _ hr)
    have L7 := Lib.hid (L6.out.keep hb)
    have H7 := Lib.hid (H6.out.keep hb)
    have R7 := Lib.hid (R6.out.keep hb)
    have P7 := Lib.hid (P6.out.keep hb)
    have B7 := Lib.hid (B6.out.trans (hb.mono B6.out.size))
    clear hr hb B6 L6 H6 R6 P6
    go_wp2_with fail
    refine (HA2.out w7 _ _ R7.out).mono ?_
    rintro e0 w8 ⟨so, sc, rfl, hr, hb⟩
    have S8 := Lib.hid hr
    have L8 := Lib.hid (L7.out.keep hb)
    have H8 := Lib.hid (H7.out.keep hb)
    have P8 := Lib.hid (P7.out.keep hb)
    have B8 := Lib.hid (B7.out.trans (hb.mono B7.out.size))
    clear hr hb B7 L7 H7 R7 P7
    go_wp2_with fail
    refine (HC.out w8 _ _ _ _ S8.out P8.out).mono ?_
    rintro e0 w9 ⟨rfl, hb⟩
    have L9 := Lib.hid (L8.out.keep hb)
    have H9 := Lib.hid (H8.out.keep hb)
    have B9 := Lib.hid (B8.out.trans (hb.mono B8.out.size))
    clear hb B8 L8 H8 P8 S8
    generalize cmpOf (r + r) Q = cc at *
    by_cases hxb : x = b
    · subst hxb
      have tx : decide ((x : Int) = (x : Int)) = true := decide_eq_true rfl
      by_cases hyb : y = x
      · subst hyb
        rcases (show cc = -1 ∨ cc = 0 ∨ cc = 1 by omega) with rfl | rfl | rfl
        · -- nearer below
          go_wp2_with fail
          refine (HTX.out low hlo9.out _ _ _ L9.out).mono ?_
          rintro e0 wa ⟨rfl, hb⟩
          have BA := Lib.hid (B9.out.trans (hb.mono B9.out.size))
          clear hb B9
          have hd1 := hdl.out low hlo9.out
          have hd2 := hsl.out low hlo9.out
          have hfin := Lib.hid (hok.out low (.inl rfl) X6.out wa BA.out)
          have HTRc := Lib.hid (HTR.out low hlo9.out wa)
          generalize decText low = dt at *
          generalize shortOf low = st at *
          go_wp2_with fail
          refine HTRc.out.mono ?_
          rintro e0 wb ⟨rfl, rfl⟩
          go_wp2
          go_ret3
          exact hfin.out
        · -- half
          go_wp2_with fail
          refine (HOD.out low hlo9.out _ _ _ L9.out).mono ?_
          rintro e0 wz ⟨bo, rfl, rfl⟩
          cases bo
          · skip
            go_wp2_with fail
            refine (HTX.out low hlo9.out _ _ _ L9.out).mono ?_
            rintro e0 wa ⟨rfl, hb⟩
            have BA := Lib.hid (B9.out.trans (hb.mono B9.out.size))
            clear hb B9
            have hd1 := hdl.out low hlo9.out
            have hd2 := hsl.out low hlo9.out
            have hfin := Lib.hid (hok.out low (.inl rfl) X6.out wa BA.out)
            have HTRc := Lib.hid (HTR.out low hlo9.out wa)
            generalize decText low = dt at *
            generalize shortOf low = st at *
            go_wp2_with fail
            refine HTRc.out.mono ?_
            rintro e0 wb ⟨rfl, rfl⟩
            go_wp2
            go_ret3
            exact hfin.out
          · skip
            go_wp2_with fail
            refine (HTX.out low hhi9.out _ _ _ H9.out).mono ?_
            rintro e0 wa ⟨rfl, hb⟩
            have BA := Lib.hid (B9.out.trans (hb.mono B9.out.size))
            clear hb B9
            have hd1 := hdl.out low hhi9.out
            have hd2 := hsl.out low hhi9.out
            have hfin := Lib.hid (hok.out low (.inr rfl) Y7.out wa BA.out)
            have HTRc := Lib.hid (HTR.out low hhi9.out wa)
            generalize decText low = dt at *
            generalize shortOf low = st at *
            go_wp2_with fail
            refine HTRc.out.mono ?_
            rintro e0 wb ⟨rfl, rfl⟩
            go_wp2
            go_ret3
            exact hfin.out
        · -- nearer above
          go_wp2_with fail
          refine (HTX.out low hhi9.out _ _ _ H9.out).mono ?_
          rintro e0 wa ⟨rfl, hb⟩
          have BA := Lib.hid (B9.out.trans (hb.mono B9.out.size))
          clear hb B9
          have hd1 := hdl.out low hhi9.out
          have hd2 := hsl.out low hhi9.out
          have hfin := Lib.hid (hok.out low (.inr rfl) Y7.out wa BA.out)
          have HTRc := Lib.hid (HTR.out low hhi9.out wa)
          generalize decText low = dt at *
          generalize shortOf low = st at *
          go_wp2_with fail
          refine HTRc.out.mono ?_
          rintro e0 wb ⟨rfl, rfl⟩
          go_wp2
          go_ret3
          exact hfin.out
      · have ty : ((y : Int) == (x : Int)) = false := by rw [beq_eq_false_iff_ne]; omega
        have ty3 : ((y : Int) != (x : Int)) = true := by rw [bne_iff_ne]; omega
        have ty2 : decide ((y : Int) = (x : Int)) = false := decide_eq_false (by omega)
        go_wp2_with fail
        refine (HTX.out low hlo9.out _ _ _ L9.out).mono ?_
        rintro e0 wa ⟨rfl, hb⟩
        have BA := Lib.hid (B9.out.trans (hb.mono B9.out.size))
        clear hb B9
        have hd1 := hdl.out low hlo9.out
        have hd2 := hsl.out low hlo9.out
        have hfin := Lib.hid (hok.out low (.inl rfl) X6.out wa BA.out)
        have HTRc := Lib.hid (HTR.out low hlo9.out wa)
        generalize decText low = dt at *
        generalize shortOf low = st at *
        go_wp2_with fail
        refine HTRc.out.mono ?_
        rintro e0 wb ⟨rfl, rfl⟩
        go_wp2
        go_ret3
        exact hfin.out
    · have tx : ((x : Int) == (b : Int)) = false := by rw [beq_eq_false_iff_ne]; omega
      have tx3 : ((x : Int) != (b : Int)) = true := by rw [bne_iff_ne]; omega
      have tx2 : decide ((x : Int) = (b : Int)) = false := decide_eq_false (by omega)
      by_cases hyb : y = b
      · subst hyb
        go_wp2_with fail
        refine (HTX.out low hhi9.out _ _ _ H9.out).mono ?_
        rintro e0 wa ⟨rfl, hb⟩
        have BA := Lib.hid (B9.out.trans (hb.mono B9.out.size))
        clear hb B9
        have hd1 := hdl.out low hhi9.out
        have hd2 := hsl.out low hhi9.out
        have hfin := Lib.hid (hok.out low (.inr rfl) Y7.out wa BA.out)
        have HTRc := Lib.hid (HTR.out low hhi9.out wa)
        generalize decText low = dt at *
        generalize shortOf low = st at *
        go_wp2_with fail
        refine HTRc.out.mono ?_
        rintro e0 wb ⟨rfl, rfl⟩
        go_wp2
        go_ret3
        exact hfin.out
      · have ty : ((y : Int) == (b : Int)) = false := by rw [beq_eq_false_iff_ne]; omega
        have ty3 : ((y : Int) != (b : Int)) = true := by rw [bne_iff_ne]; omega
        have ty2 : decide ((y : Int) = (b : Int)) = false := decide_eq_false (by omega)
        have hfin := Lib.hid (hno.out w9 B9.out (fun h => hxb (X6.out.uniq h)) (fun h => hyb (Y7.out.uniq h)))
        go_wp2
        go_ret3
        exact hfin.out
  · have hz := HLEN.out.2 hr0
    have he := HH.out
    rw [if_neg hr0] at he
    have tz : decide ((0 : Int) < ((canon r).length : Int)) = true := decide_eq_true (by omega)
    have tz2 : 0 < (canon r).length := by omega
    have ho := Rd.keep R4.out ((Below.refl _ w4).alloc (Nat.le_refl _) (.cells #[.int .u32 1] 27))
    have b5 := (Below.refl w4.heap.size w4).alloc (Nat.le_refl _) (.cells #[.int .u32 1] 27)
    have h1' := one_rd w4
    have hc1 : canon 1 = [1] := rfl
    rw [hc1] at h1'
    have HA := Lib.hid (HAD.out low hlo9.out _ _ _ _ (L4.out.keep b5) h1')
    have B5' := Lib.hid b5
    rw [← he] at HA
    clear hr0 he hz ho b5 h1' hc1 HH
    go_wp2_with fail
    refine HA.out.mono ?_
    rintro e0 w5 ⟨ho, hc, rfl, hr, hb⟩
    have b6 := B5'.out.trans (hb.mono B5'.out.size)
    have H5 := Lib.hid hr
    have L5 := Lib.hid (L4.out.keep b6)
    have R5 := Lib.hid (R4.out.keep b6)
    have P5 := Lib.hid (P4.out.keep b6)
    have B5 := Lib.hid (B4.out.trans (b6.mono B4.out.size))
    clear hr hb b6 B5' L4 R4 P4 B4 HA
    go_wp2_with fail
    refine (HNR.out low hlo9.out w5 _ _ L5.out).mono ?_
    rintro e0 w6 ⟨x, rfl, hr, hb⟩
    have X6 := Lib.hid (hits.out _ _ hr)
    have L6 := Lib.hid (L5.out.keep hb)
    have H6 := Lib.hid (H5.out.keep hb)
    have R6 := Lib.hid (R5.out.keep hb)
    have P6 := Lib.hid (P5.out.keep hb)
    have B6 := Lib.hid (B5.out.trans (hb.mono B5.out.size))
    clear hr hb B5 L5 H5 R5 P5
    go_wp2_with fail
    refine (HNR.out high hhi9.out w6 _ _ H6.out).mono ?_
    rintro e0 w7 ⟨y, rfl, hr, hb⟩
    have Y7 := Lib.hid (hits.out _ _ hr)
    have L7 := Lib.hid (L6.out.keep hb)
    have H7 := Lib.hid (H6.out.keep hb)
    have R7 := Lib.hid (R6.out.keep hb)
    have P7 := Lib.hid (P6.out.keep hb)
    have B7 := Lib.hid (B6.out.trans (hb.mono B6.out.size))
    clear hr hb B6 L6 H6 R6 P6
    go_wp2_with fail
    refine (HA2.out w7 _ _ R7.out).mono ?_
    rintro e0 w8 ⟨so, sc, rfl, hr, hb⟩
    have S8 := Lib.hid hr
    have L8 := Lib.hid (L7.out.keep hb)
    have H8 := Lib.hid (H7.out.keep hb)
    have P8 := Lib.hid (P7.out.keep hb)
    have B8 := Lib.hid (B7.out.trans (hb.mono B7.out.size))
    clear hr hb B7 L7 H7 R7 P7
    go_wp2_with fail
    refine (HC.out w8 _ _ _ _ S8.out P8.out).mono ?_
    rintro e0 w9 ⟨rfl, hb⟩
    have L9 := Lib.hid (L8.out.keep hb)
    have H9 := Lib.hid (H8.out.keep hb)
    have B9 := Lib.hid (B8.out.trans (hb.mono B8.out.size))
    clear hb B8 L8 H8 P8 S8
    generalize cmpOf (r + r) Q = cc at *
    by_cases hxb : x = b
    · subst hxb
      have tx : decide ((x : Int) = (x : Int)) = true := decide_eq_true rfl
      by_cases hyb : y = x
      · subst hyb
        rcases (show cc = -1 ∨ cc = 0 ∨ cc = 1 by omega) with rfl | rfl | rfl
        · -- nearer below
          go_wp2_with fail
          refine (HTX.out low hlo9.out _ _ _ L9.out).mono ?_
          rintro e0 wa ⟨rfl, hb⟩
          have BA := Lib.hid (B9.out.trans (hb.mono B9.out.size))
          clear hb B9
          have hd1 := hdl.out low hlo9.out
          have hd2 := hsl.out low hlo9.out
          have hfin := Lib.hid (hok.out low (.inl rfl) X6.out wa BA.out)
          have HTRc := Lib.hid (HTR.out low hlo9.out wa)
          generalize decText low = dt at *
          generalize shortOf low = st at *
          go_wp2_with fail
          refine HTRc.out.mono ?_
          rintro e0 wb ⟨rfl, rfl⟩
          go_wp2
          go_ret3
          exact hfin.out
        · -- half
          go_wp2_with fail
          refine (HOD.out low hlo9.out _ _ _ L9.out).mono ?_
          rintro e0 wz ⟨bo, rfl, rfl⟩
          cases bo
          · skip
            go_wp2_with fail
            refine (HTX.out low hlo9.out _ _ _ L9.out).mono ?_
            rintro e0 wa ⟨rfl, hb⟩
            have BA := Lib.hid (B9.out.trans (hb.mono B9.out.size))
            clear hb B9
            have hd1 := hdl.out low hlo9.out
            have hd2 := hsl.out low hlo9.out
            have hfin := Lib.hid (hok.out low (.inl rfl) X6.out wa BA.out)
            have HTRc := Lib.hid (HTR.out low hlo9.out wa)
            generalize decText low = dt at *
            generalize shortOf low = st at *
            go_wp2_with fail
            refine HTRc.out.mono ?_
            rintro e0 wb ⟨rfl, rfl⟩
            go_wp2
            go_ret3
            exact hfin.out
          · skip
            go_wp2_with fail
            refine (HTX.out high hhi9.out _ _ _ H9.out).mono ?_
            rintro e0 wa ⟨rfl, hb⟩
            have BA := Lib.hid (B9.out.trans (hb.mono B9.out.size))
            clear hb B9
            have hd1 := hdl.out high hhi9.out
            have hd2 := hsl.out high hhi9.out
            have hfin := Lib.hid (hok.out high (.inr rfl) Y7.out wa BA.out)
            have HTRc := Lib.hid (HTR.out high hhi9.out wa)
            generalize decText high = dt at *
            generalize shortOf high = st at *
            go_wp2_with fail
            refine HTRc.out.mono ?_
            rintro e0 wb ⟨rfl, rfl⟩
            go_wp2
            go_ret3
            exact hfin.out
        · -- nearer above
          go_wp2_with fail
          refine (HTX.out high hhi9.out _ _ _ H9.out).mono ?_
          rintro e0 wa ⟨rfl, hb⟩
          have BA := Lib.hid (B9.out.trans (hb.mono B9.out.size))
          clear hb B9
          have hd1 := hdl.out high hhi9.out
          have hd2 := hsl.out high hhi9.out
          have hfin := Lib.hid (hok.out high (.inr rfl) Y7.out wa BA.out)
          have HTRc := Lib.hid (HTR.out high hhi9.out wa)
          generalize decText high = dt at *
          generalize shortOf high = st at *
          go_wp2_with fail
          refine HTRc.out.mono ?_
          rintro e0 wb ⟨rfl, rfl⟩
          go_wp2
          go_ret3
          exact hfin.out
      · have ty : ((y : Int) == (x : Int)) = false := by rw [beq_eq_false_iff_ne]; omega
        have ty3 : ((y : Int) != (x : Int)) = true := by rw [bne_iff_ne]; omega
        have ty2 : decide ((y : Int) = (x : Int)) = false := decide_eq_false (by omega)
        go_wp2_with fail
        refine (HTX.out low hlo9.out _ _ _ L9.out).mono ?_
        rintro e0 wa ⟨rfl, hb⟩
        have BA := Lib.hid (B9.out.trans (hb.mono B9.out.size))
        clear hb B9
        have hd1 := hdl.out low hlo9.out
        have hd2 := hsl.out low hlo9.out
        have hfin := Lib.hid (hok.out low (.inl rfl) X6.out wa BA.out)
        have HTRc := Lib.hid (HTR.out low hlo9.out wa)
        generalize decText low = dt at *
        generalize shortOf low = st at *
        go_wp2_with fail
        refine HTRc.out.mono ?_
        rintro e0 wb ⟨rfl, rfl⟩
        go_wp2
        go_ret3
        exact hfin.out
    · have tx : ((x : Int) == (b : Int)) = false := by rw [beq_eq_false_iff_ne]; omega
      have tx3 : ((x : Int) != (b : Int)) = true := by rw [bne_iff_ne]; omega
      have tx2 : decide ((x : Int) = (b : Int)) = false := decide_eq_false (by omega)
      by_cases hyb : y = b
      · subst hyb
        go_wp2_with fail
        refine (HTX.out high hhi9.out _ _ _ H9.out).mono ?_
        rintro e0 wa ⟨rfl, hb⟩
        have BA := Lib.hid (B9.out.trans (hb.mono B9.out.size))
        clear hb B9
        have hd1 := hdl.out high hhi9.out
        have hd2 := hsl.out high hhi9.out
        have hfin := Lib.hid (hok.out high (.inr rfl) Y7.out wa BA.out)
        have HTRc := Lib.hid (HTR.out high hhi9.out wa)
        generalize decText high = dt at *
        generalize shortOf high = st at *
        go_wp2_with fail
        refine HTRc.out.mono ?_
        rintro e0 wb ⟨rfl, rfl⟩
        go_wp2
        go_ret3
        exact hfin.out
      · have ty : ((y : Int) == (b : Int)) = false := by rw [beq_eq_false_iff_ne]; omega
        have ty3 : ((y : Int) != (b : Int)) = true := by rw [bne_iff_ne]; omega
        have ty2 : decide ((y : Int) = (b : Int)) = false := decide_eq_false (by omega)
        have hfin := Lib.hid (hno.out w9 B9.out (fun h => hxb (X6.out.uniq h)) (fun h => hyb (Y7.out.uniq h)))
        go_wp2
        go_ret3
        exact hfin.out
end Go.Proofs.YtmieegcnfnoiiaaDoor
