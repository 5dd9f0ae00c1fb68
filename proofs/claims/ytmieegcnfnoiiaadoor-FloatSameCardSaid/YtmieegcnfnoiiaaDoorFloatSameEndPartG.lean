/-
  What float.nearest's contract leans on. No conditions.
  The contracts of float.nat, float.odd and float.nearest. Conditions: not too long.
  The walk of typecasekeep.FloatNear. No conditions.
  Plain law: of a fraction's digits 17 are enough, and no fewer than the first that tell it. No conditions.
  Plain law: 17 digits; no fewer digits than the first that tell a fraction. No conditions.
-/
import Derived.Test.YtmieegcnfnoiiaaDoorFloatSameEndPartF
namespace Go.Proofs.YtmieegcnfnoiiaaDoor
open Go.RowKit Gx
set_option maxRecDepth 100000

theorem divMod_two (ad bd : Option Addr) (ca cb : Nat) (xs ys : List Int) (w : World) (N M : Nat) (h : Rd .u32 w ad ca xs) (g : Rd .u32 w bd cb ys) (hx : bval xs = N) (hy : bval ys = M) (hl : xs.length ≤ 1000000) (hl2 : ys.length ≤ 1000000) (h0 : M ≠ 0) :
    Calls Tryd.prog 40 #[.slice ad xs.length ca, .slice bd ys.length cb] w (DivModPost (N / M) (N % M) w) := by
  subst hx; subst hy; exact divMod_any ad bd ca cb xs ys w h g hl hl2 h0
theorem fits_64 (c : Nat) (h : c < 18446744073709551616) : Fits c 2 := by
  have h1 : (4294967296 : Nat) ^ 2 = 18446744073709551616 := by decide
  unfold Fits; rw [h1]; exact h
theorem text_canon (ad : Option Addr) (ca c : Nat) (w : World) (h : Rd .u32 w ad ca (canon c)) (hl : (canon c).length ≤ 1048576) :
    Calls Tryd.prog 11 #[.slice ad (canon c).length ca] w (TextPost (decText c) w) := by
  by_cases h0 : c = 0
  · subst h0
    have h1 : canon 0 = [] := rfl
    rw [h1] at h ⊢
    exact bigText_nil ad ca w h
  · have h1 := bigText_pos ad ca (canon c) w h hl (by rw [bval_canon]; exact h0)
    rw [bval_canon] at h1
    exact h1
theorem dec_len (c : Nat) (h : c ≤ 1000000000000000000) : (decText c).length ≤ 30 :=
  decText_len c 30 (Nat.lt_of_le_of_lt h (by decide)) (by decide)
theorem trimRight_len (l : List UInt8) (b : UInt8) : (Lib.trimRightB l b).length ≤ l.length := by
  unfold Lib.trimRightB
  rw [List.length_reverse]
  have := (List.dropWhile_sublist (l := l.reverse) (p := (· == b))).length_le
  rw [List.length_reverse] at this
  exact this
theorem trim_string (l : List UInt8) (w : World) (hl : l.length ≤ 1000) :
    Calls Tryd.prog 43 #[.string ⟨l.toArray⟩, .string ⟨#[48]⟩] w fun e w' => e = .returned (.string ⟨(Lib.trimRightB l 48).toArray⟩) ∧ w' = w := by
  have h := Tryd.strings_TrimRight_one ⟨l.toArray⟩ 48 (by decide) w (by show l.toArray.size ≤ _; rw [List.size_toArray]; omega)
  exact h
theorem canon_len_zero (n : Nat) : (n = 0 → (canon n).length = 0) ∧ (n ≠ 0 → 0 < (canon n).length) := by
  refine ⟨fun h => by subst h; rfl, fun h => ?_⟩
  rw [canon_pos n h]; simp
end Go.Proofs.YtmieegcnfnoiiaaDoor
namespace Go.Proofs.YtmieegcnfnoiiaaDoor
open Go.RowKit Gx
set_option maxRecDepth 100000

theorem trim_two (ad : Option Addr) (cap : Nat) (xs : List Int) (N : Nat) (w : World) (h : Rd .u32 w ad cap xs) (hx : bval xs = N) (hl : xs.length ≤ 1073741824) :
    Calls Tryd.prog 30 #[.slice ad xs.length cap] w (WordsPost N w) := by
  subst hx; exact bigTrim_any ad cap xs w h hl

set_option maxHeartbeats 1000000 in
theorem nat_any (m : Nat) (w : World) (hm : m < 18446744073709551616) :
    Calls Tryd.prog 23 #[.int .u64 m] w (WordsPost m w) := by
  have hx := halves m hm
  have hp := pair_rd w ((m % 4294967296 : Nat) : Int) ((m / 4294967296 : Nat) : Int) (wf32 _ (by omega)) (wf32 _ (by omega))
  have b1 := (Below.refl w.heap.size w).alloc (Nat.le_refl _) (.cells #[.int .u32 ((m % 4294967296 : Nat) : Int), .int .u32 ((m / 4294967296 : Nat) : Int)] 27)
  have HT := Lib.hid (trim_two _ _ _ m _ hp hx (by show 2 ≤ _; omega))
  have B1 := Lib.hid b1
  clear hx hp b1
  go_enter Tryd.func23, Tryd.ntmps23
  go_wp2_with fail
  refine HT.out.mono ?_
  rintro e0 w1 ⟨no, nc, rfl, hr, hb⟩
  have R1 := Lib.hid hr
  have B2 := Lib.hid (B1.out.trans (hb.mono B1.out.size))
  clear hr hb B1
  go_wp2
  go_ret
  exact ⟨_, _, rfl, R1.out, B2.out⟩

/-- whether a number is odd -/
def OddPost (n : Nat) (w : World) (e : Ending) (w' : World) : Prop := ∃ b, (b = true → n % 2 = 1) ∧ (b = false → n % 2 ≠ 1) ∧ e = .returned (.bool b) ∧ w = w'
theorem and_word (n : Nat) (h : n < 4294967296) : bits BinOp.and IntKind.u32 (n : Int) 1 = ((n % 2 : Nat) : Int) := by
  have hx : n &&& 1 < 2 ^ 32 := Nat.and_lt_two_pow _ (by omega)
  have h1 : (BitVec.ofInt 32 (n : Int)).toNat = n := by
    rw [BitVec.ofInt_natCast, BitVec.toNat_ofNat]; exact Nat.mod_eq_of_lt (by omega)
  have h2 : (BitVec.ofInt 32 ((1 : Nat) : Int)).toNat = 1 := by
    rw [BitVec.ofInt_natCast, BitVec.toNat_ofNat]
  show IntKind.u32.wrap ((BitVec.ofInt 32 (n : Int) &&& BitVec.ofInt 32 ((1 : Nat) : Int)).toNat : Int) = _
  rw [BitVec.toNat_and, h1, h2, IntKind.wrap_u32, ← Nat.and_one_is_mod]
  omega
theorem odd_word (x : Int) (h0 : 0 ≤ x) (h1 : x < 4294967296) : (bits BinOp.and IntKind.u32 x 1 == 1) = decide (x.toNat % 2 = 1) := by
  obtain ⟨n, rfl⟩ := Int.eq_ofNat_of_zero_le h0
  rw [and_word n (by omega), Bool.eq_iff_iff, beq_iff_eq, decide_eq_true_eq]
  omega
set_option maxHeartbeats 1000000 in
theorem odd_any (ad : Option Addr) (ca : Nat) (xs : List Int) (w : World) (h : Rd .u32 w ad ca xs) (hl : xs.length ≤ 1048576) :
    Calls Tryd.prog 42 #[.slice ad xs.length ca] w (OddPost (bval xs) w) := by
  by_cases h0 : xs.length = 0
  · have t0 : decide ((0 : Int) < (xs.length : Int)) = false := decide_eq_false (by omega)
    obtain rfl : xs = [] := List.eq_nil_of_length_eq_zero h0
    have hq : Hid (bval [] = 0) := rfl
    generalize bval [] = q at *
    generalize ([] : List Int).length = n at *
    subst h0
    clear h hl
    go_enter Tryd.func42, Tryd.ntmps42
    go_wp2
    go_ret
    exact ⟨_, fun h => by simp at h, fun _ => by rw [hq.out]; decide, rfl, rfl⟩
  · obtain ⟨b, off, rfl, hb, hc⟩ := h.addr (by omega)
    have c0 := hc 0 (by omega)
    rw [Nat.add_zero] at c0
    have hw := h.wf (xs.getD 0 0) (by
      cases xs with
      | nil => simp at h0
      | cons a l => simp)
    have hq : bval xs % 2 = (xs.getD 0 0).toNat % 2 := by
      cases xs with
      | nil => simp at h0
      | cons a l => simp only [bval, List.getD_cons_zero]; omega
    obtain ⟨n, hn⟩ : ∃ n, n = xs.length := ⟨_, rfl⟩
    rw [← hn] at h0 hl ⊢
    obtain ⟨v, hv⟩ : ∃ v, v = xs.getD 0 0 := ⟨_, rfl⟩
    rw [← hv] at c0 hw hq
    generalize bval xs = q at *
    have hwr : 0 ≤ v ∧ v < 4294967296 := by
      simp [Lit.wf, IntKind.min, IntKind.max, IntKind.signed, IntKind.bits] at hw
      omega
    have hov := odd_word v hwr.1 hwr.2
    rw [← hq] at hov
    have HOV := Lib.hid hov
    have t0 : decide ((0 : Int) < (n : Int)) = true := decide_eq_true (by omega)
    have hpos : (0 : Int) < (n : Int) := by omega
    have hpos2 : 0 < n := by omega
    clear h hc hn hv h0 hq hov hwr
    go_enter Tryd.func42, Tryd.ntmps42
    go_wp2
    go_ret
    exact ⟨_, fun h => by rw [HOV.out] at h; simpa using h, fun h => by rw [HOV.out] at h; simpa using h, rfl, rfl⟩

theorem odd_canon (ad : Option Addr) (ca : Nat) (c : Nat) (w : World) (h : Rd .u32 w ad ca (canon c)) (hl : (canon c).length ≤ 1048576) :
    Calls Tryd.prog 42 #[.slice ad (canon c).length ca] w (OddPost c w) := by
  have := odd_any ad ca (canon c) w h hl
  rwa [bval_canon] at this
/-- the number c * 10^k is the fraction b -/
def Hits (c : Nat) (k : Int) (b : Nat) : Prop := Rnd (Y75 (c * tenUp k)) (tenDn k) b
theorem Hits.uniq {c : Nat} {k : Int} {b d : Nat} (h : Hits c k b) (g : Hits c k d) : b = d := Rnd.uniq h g (tenDn_pos k) (tenDn_pos k) rfl
def lowOf (N D : Nat) (k : Int) : Nat := N * tenDn k / (D * tenUp k)
def highOf (N D : Nat) (k : Int) : Nat := if N * tenDn k % (D * tenUp k) = 0 then lowOf N D k else lowOf N D k + 1
/-- its digits, without the noughts at the end -/
def shortOf (c : Nat) : List UInt8 := Lib.trimRightB (decText c) 48
open Classical in
/-- which of the two is taken -/
def Pick (low high : Nat) (k : Int) (b : Nat) (cc : Int) (c : Nat) : Prop := c = if ¬ Hits low k b ∨ (Hits high k b ∧ (0 < cc ∨ (cc = 0 ∧ low % 2 = 1))) then high else low
theorem pick_below {low high : Nat} {k : Int} {b : Nat} (h : Hits low k b) : Pick low high k b (-1) low := by
  unfold Pick; rw [if_neg]; rintro (h1 | ⟨-, h1 | ⟨h1, -⟩⟩); exact h1 h; omega; omega
theorem pick_even {low high : Nat} {k : Int} {b : Nat} (h : Hits low k b) (ho : low % 2 ≠ 1) : Pick low high k b 0 low := by
  unfold Pick; rw [if_neg]; rintro (h1 | ⟨-, h1 | ⟨-, h1⟩⟩); exact h1 h; omega; omega
theorem pick_odd {low high : Nat} {k : Int} {b : Nat} (h : Hits high k b) (ho : low % 2 = 1) : Pick low high k b 0 high := by
  unfold Pick; rw [if_pos]; exact .inr ⟨h, .inr ⟨rfl, ho⟩⟩
theorem pick_above {low high : Nat} {k : Int} {b : Nat} (h : Hits high k b) : Pick low high k b 1 high := by
  unfold Pick; rw [if_pos]; exact .inr ⟨h, .inl (by omega)⟩
theorem pick_low {low high : Nat} {k : Int} {b : Nat} {cc : Int} (h : Hits low k b) (h2 : ¬ Hits high k b) : Pick low high k b cc low := by
  unfold Pick; rw [if_neg]; rintro (h1 | ⟨h1, -⟩); exact h1 h; exact h2 h1
theorem pick_high {low high : Nat} {k : Int} {b : Nat} {cc : Int} (h : ¬ Hits low k b) : Pick low high k b cc high := by
  unfold Pick; rw [if_pos]; exact .inl h
theorem Pick.uniq {low high : Nat} {k : Int} {b : Nat} {cc : Int} {c d : Nat} (h : Pick low high k b cc c) (g : Pick low high k b cc d) : c = d := by
  unfold Pick at h g; rw [h, g]
/-- on which side of the middle -/
def halfOf (N D : Nat) (k : Int) : Int := cmpOf (N * tenDn k % (D * tenUp k) + N * tenDn k % (D * tenUp k)) (D * tenUp k)
def NearestPost (N D : Nat) (k : Int) (b : Nat) (w : World) (e : Ending) (w' : World) : Prop :=
  (∃ c, (c = lowOf N D k ∨ c = highOf N D k) ∧ Pick (lowOf N D k) (highOf N D k) k b (halfOf N D k) c ∧ Hits c k b ∧ e = .returned (.tuple #[.string ⟨(shortOf c).toArray⟩, .int .i64 (k + ((decText c).length : Int) - ((shortOf c).length : Int)), .bool true]) ∧ Below w.heap.size w w') ∨
  (¬ Hits (lowOf N D k) k b ∧ ¬ Hits (highOf N D k) k b ∧ e = .returned (.tuple #[.string ⟨#[]⟩, .int .i64 0, .bool false]) ∧ Below w.heap.size w w')

theorem nearest_ok {N D : Nat} {k : Int} {b : Nat} {w w' : World} (c : Nat) (h : c = lowOf N D k ∨ c = highOf N D k) (hp : Pick (lowOf N D k) (highOf N D k) k b (halfOf N D k) c) (g : Hits c k b) (hb : Below w.heap.size w w') :
    NearestPost N D k b w (.returned (.tuple #[.string ⟨(shortOf c).toArray⟩, .int .i64 (k + ((decText c).length : Int) - ((shortOf c).length : Int)), .bool true])) w' := .inl ⟨c, h, hp, g, rfl, hb⟩

theorem cmp_range (a b : Nat) : -1 ≤ cmpOf a b ∧ cmpOf a b ≤ 1 := by
  unfold cmpOf; split
  · decide
  · split <;> decide

set_option maxHeartbeats 4000000 in
theorem nearest_any (ad bd : Option Addr) (ca cb : Nat) (xs ys : List Int) (N D : Nat) (k : Int) (b : Nat) (w : World) (h : Rd .u32 w ad ca xs) (g : Rd .u32 w bd cb ys) (hx : bval xs = N) (hy : bval ys = D) (lx : xs.length ≤ 60) (ly : ys.length ≤ 60) (h1 : -500 ≤ k) (h2 : k ≤ 500)
    (hD : D ≠ 0) (hlow : lowOf N D k < 1000000000000000000) :
    Calls Tryd.prog 25 #[.slice ad xs.length ca, .slice bd ys.length cb, .int .i64 k, .int .u64 b] w (NearestPost N D k b w) := by
  have fN : Fits N 60 := by rw [← hx]; exact (Fits.words (words_of_rd h)).mono lx
  have fD : Fits D 60 := by rw [← hy]; exact (Fits.words (words_of_rd g)).mono ly
  have fu : Fits (tenUp k) 63 := ten_fitsK _ 63 (by omega)
  have fd : Fits (tenDn k) 63 := ten_fitsK _ 63 (by omega)
  have lu := fu.len
  have ld := fd.len
  have l1 := (fN.mul fd).len
  have l2 := (fD.mul fu).len
  have hQ : D * tenUp k ≠ 0 := Nat.mul_ne_zero hD (Nat.pos_iff_ne_zero.1 (tenUp_pos k))
  have HR := fun w0 ad (hr : Rd .u32 w0 ad 1 [1]) => ratio_any ad 1 1 k w0 hr (by decide) (by omega) (by omega)
  have e1 : 1 * tenUp k = tenUp k := Nat.one_mul _
  rw [e1] at HR
  have HM1 := fun w0 (hb : Below w.heap.size w w0) po pc (hr : Rd .u32 w0 po pc (canon (tenDn k))) => mul_two ad po ca pc xs (canon (tenDn k)) w0 N (tenDn k) (h.keep hb) hr hx (bval_canon _) (by omega) (by omega)
  have HM2 := fun w0 (hb : Below w.heap.size w w0) po pc (hr : Rd .u32 w0 po pc (canon (tenUp k))) => mul_two bd po cb pc ys (canon (tenUp k)) w0 D (tenUp k) (g.keep hb) hr hy (bval_canon _) (by omega) (by omega)
  have HDM := fun w0 po pc qo qc (hr : Rd .u32 w0 po pc (canon (N * tenDn k))) (hq : Rd .u32 w0 qo qc (canon (D * tenUp k))) => divMod_two po qo pc qc (canon (N * tenDn k)) (canon (D * tenUp k)) w0 _ _ hr hq (bval_canon _) (bval_canon _) (by omega) (by omega) hQ
  have fr : Fits (N * tenDn k % (D * tenUp k)) 123 := Nat.lt_of_lt_of_le (Nat.mod_lt _ (Nat.pos_of_ne_zero hQ)) (Nat.le_of_lt (fD.mul fu))
  have lr := fr.len
  have lrr := (fr.add fr).len
  have hhigh : highOf N D k = if N * tenDn k % (D * tenUp k) = 0 then lowOf N D k else lowOf N D k + 1 := rfl
  have HNR := fun (c : Nat) (hc : c ≤ 1000000000000000000) w0 po pc (hr : Rd .u32 w0 po pc (canon c)) =>
    near_two' po pc (canon c) w0 c k hr (bval_canon _) (Nat.le_trans (fits_64 c (by omega)).len (by decide)) (by omega) (by omega) (Nat.le_trans (blen_of_fits _ _ (fits_64 c (by omega))) (by decide))
  have HTX := fun (c : Nat) (hc : c ≤ 1000000000000000000) w0 po pc (hr : Rd .u32 w0 po pc (canon c)) =>
    text_canon po pc c w0 hr (Nat.le_trans (fits_64 c (by omega)).len (by decide))
  have HOD := fun (c : Nat) (hc : c ≤ 1000000000000000000) w0 po pc (hr : Rd .u32 w0 po pc (canon c)) =>
    odd_canon po pc c w0 hr (Nat.le_trans (fits_64 c (by omega)).len (by decide))
  have HTR := fun (c : Nat) (hc : c ≤ 1000000000000000000) (w0 : World) => trim_string (decText c) w0 (Nat.le_trans (dec_len c hc) (by decide))
  have HAD := fun (c : Nat) (hc : c ≤ 1000000000000000000) w0 po pc qo (hr : Rd .u32 w0 po pc (canon c)) (hq : Rd .u32 w0 qo 1 [1]) =>
    add_two po qo pc 1 (canon c) [1] w0 c 1 hr hq (bval_canon _) rfl (Nat.le_trans (fits_64 c (by omega)).len (by decide)) (by decide)
  have HA2 := fun w0 po pc (hr : Rd .u32 w0 po pc (canon (N * tenDn k % (D * tenUp k)))) => add_two po po pc pc (canon (N * tenDn k % (D * tenUp k))) (canon (N * tenDn k % (D * tenUp k))) w0 _ _ hr hr (bval_canon _) (bval_canon _) (by omega) (by omega)
  have HC := fun w0 po pc qo qc (hr : Rd .u32 w0 po pc (canon (N * tenDn k % (D * tenUp k) + N * tenDn k % (D * tenUp k)))) (hq : Rd .u32 w0 qo qc (canon (D * tenUp k))) => cmp_two' po qo pc qc (canon _) (canon _) w0 _ _ hr hq (bval_canon _) (bval_canon _) (by omega) (by omega)
  have HCR := cmp_range (N * tenDn k % (D * tenUp k) + N * tenDn k % (D * tenUp k)) (D * tenUp k)
  have HLEN := canon_len_zero (N * tenDn k % (D * tenUp k))
  have hlowe : N * tenDn k / (D * tenUp k) = lowOf N D k := rfl
  have hdl : ∀ c, c ≤ 1000000000000000000 → (decText c).length ≤ 30 := fun c hc => dec_len c hc
  have hsl : ∀ c, c ≤ 1000000000000000000 → (shortOf c).length ≤ 30 := fun c hc => Nat.le_trans (trimRight_len _ _) (dec_len c hc)
  unfold TwoPost at HR
  unfold WordsPost at HM1 HM2 HAD HA2
  unfold DivModPost at HDM
  unfold NearPost at HNR
  unfold TextPost at HTX
  unfold CmpPost at HC
  unfold OddPost at HOD
  replace HTR := fun c hc w0 => (show Calls Tryd.prog 43 #[.string ⟨(decText c).toArray⟩, .string ⟨#[48]⟩] w0 fun e w' => e = .returned (.string ⟨(shortOf c).toArray⟩) ∧ w' = w0 from HTR c hc w0)
  rw [hlowe] at HDM
  have hits : ∀ c x, Rnd (Y75 (c * tenUp k)) (tenDn k) x → Hits c k x := fun c x h => h
  have hok := fun (c : Nat) (h : c = lowOf N D k ∨ c = highOf N D k) (hp : Pick (lowOf N D k) (highOf N D k) k b (cmpOf (N * tenDn k % (D * tenUp k) + N * tenDn k % (D * tenUp k)) (D * tenUp k)) c) (g : Hits c k b) (w' : World) (hb : Below w.heap.size w w') => nearest_ok (w := w) (w' := w') c h hp g hb
  have hno : ∀ w', Below w.heap.size w w' → ¬ Hits (lowOf N D k) k b → ¬ Hits (highOf N D k) k b → NearestPost N D k b w (.returned (.tuple #[.string ⟨#[]⟩, .int .i64 0, .bool false])) w' := fun w' hb n1 n2 => .inr ⟨n1, n2, rfl, hb⟩
  generalize N * tenDn k % (D * tenUp k) = r at *
  generalize N * tenDn k = P at *
  generalize D * tenUp k = Q at *
  generalize NearestPost N D k b w = POST at *
  generalize lowOf N D k = low at *
  generalize highOf N D k = high at *
  have hlo9 : Hid (low ≤ 1000000000000000000) := by show _ ≤ _; omega
  have hhi9 : Hid (high ≤ 1000000000000000000) := by show _ ≤ _; rw [hhigh]; split <;> omega
  have HH := Lib.hid hhigh
  obtain ⟨n0, hn0⟩ : ∃ n, n = xs.length := ⟨_, rfl⟩
  obtain ⟨n1, hn1⟩ : ∃ n, n = ys.length := ⟨_, rfl⟩
  rw [← hn0] at HM1 ⊢
  rw [← hn1] at HM2 ⊢
  generalize tenUp k = U at *
  generalize tenDn k = V at *
  replace HR := Lib.hid HR
  replace HM1 := Lib.hid HM1
  replace HM2 := Lib.hid HM2
  replace HDM := Lib.hid HDM
  replace HNR := Lib.hid HNR
  replace HTX := Lib.hid HTX
  replace HOD := Lib.hid HOD
  replace HTR := Lib.hid HTR
  replace HAD := Lib.hid HAD
  replace HA2 := Lib.hid HA2
  replace HC := Lib.hid HC
  replace HLEN := Lib.hid HLEN
  replace hits := Lib.hid hits
  replace hok := Lib.hid hok
  replace hno := Lib.hid hno
  replace hdl := Lib.hid hdl
  replace hsl := Lib.hid hsl
  clear h g hx hy lx ly fN fD fu fd lu ld l1 l2 hn0 hn1 e1 hQ fr lr lrr hhigh hlowe hlow hD
  go_enter Tryd.func25, Tryd.ntmps25
  go_wp2_with fail
  have ho := one_rd w
  have hc1 : canon 1 = [1] := rfl
  rw [hc1] at ho
  have b0 := (Below.refl w.heap.size w).alloc (Nat.le_refl _) (.cells #[.int .u32 1] 27)
  refine (HR.out _ _ ho).mono ?_
  rintro e0 w1 ⟨no, nc, dd, dc, rfl, hr, hr2, hb⟩
  have U1 := Lib.hid hr
  have V1 := Lib.hid hr2
  have B1 := Lib.hid (b0.trans (hb.mono b0.size))
  clear hr hr2 hb b0 ho hc1
  go_wp2_with fail
  refine (HM1.out w1 B1.out _ _ V1.out).mono ?_
  rintro e0 w2 ⟨mo, mc, rfl, hr, hb⟩
  have M2 := Lib.hid hr
  have U2 := Lib.hid (U1.out.keep hb)
  have B2 := Lib.hid (B1.out.trans (hb.mono B1.out.size))
  clear hr hb B1 U1 V1
  go_wp2_with fail
  refine (HM2.out w2 B2.out _ _ U2.out).mono ?_
  rintro e0 w3 ⟨po, pc, rfl, hr, hb⟩
  have P3 := Lib.hid hr
  have M3 := Lib.hid (M2.out.keep hb)
  have B3 := Lib.hid (B2.out.trans (hb.mono B2.out.size))
  clear hr hb B2 U2 M2
  go_wp2_with fail
  refine (HDM.out w3 _ _ _ _ M3.out P3.out).mono ?_
  rintro e0 w4 ⟨qo, qc, ro, rc, rfl, hr, hr2, hb⟩
  have L4 := Lib.hid hr
  have R4 := Lib.hid hr2
  have P4 := Lib.hid (P3.out.keep hb)
  have B4 := Lib.hid (B3.out.trans (hb.mono B3.out.size))
  clear hr hr2 hb B3 M3 P3
  by_cases hr0 : r = 0
  · have hz := HLEN.out.1 hr0
    have he := HH.out
    rw [if_pos hr0] at he
    replace he := he.symm
    subst he
    have tz : decide ((0 : Int) < ((canon r).length : Int)) = false := decide_eq_false (by omega)
    have tz2 : ¬ 0 < (canon r).length := by omega
    obtain ⟨w5, rfl⟩ : ∃ w5 : World, w5 = w4 := ⟨_, rfl⟩
    have L5 := L4
    have H5 := L4
    have R5 := R4
    have P5 := P4
    have B5 := B4
    clear L4 R4 P4 B4 hr0 HH hz
    go_wp2_with fail
    refine (HNR.out low hlo9.out w5 _ _ L5.out).mono ?_
    rintro e0 w6 ⟨x, rfl, hr, hb⟩
    have X6 := Lib.hid (hits.out _ _ hr)
    have L6 := Lib.hid (L5.out.keep hb)
    have H6 := Lib.hid (H5.out.keep hb)
    have R6 := Lib.hid (R5.out.keep hb)
    have P6 := Lib.hid (P5.out.keep hb)
    have B6 := Lib.hid (B5.out.trans (hb.mono B5.out.size))
    clear hr hb B5 L5 H5 R5 P5
    go_wp2_with fail
    refine (HNR.out low hhi9.out w6 _ _ H6.out).mono ?_
    rintro e0 w7 ⟨y, rfl, hr, hb⟩
    have Y7 := Lib.hid (hits.out _ _ hr)
    have L7 := Lib.hid (L6.out.keep hb)
    have H7 := Lib.hid (H6.out.keep hb)
    have R7 := Lib.hid (R6.out.keep hb)
    have P7 := Lib.hid (P6.out.keep hb)
    have B7 := Lib.hid (B6.out.trans (hb.mono B6.out.size))
    clear hr hb B6 L6 H6 R6 P6
    go_wp2_with fail
    refine (HA2.out w7 _ _ R7.out).mono ?_
    rintro e0 w8 ⟨so, sc, rfl, hr, hb⟩
    have S8 := Lib.hid hr
    have L8 := Lib.hid (L7.out.keep hb)
    have H8 := Lib.hid (H7.out.keep hb)
    have P8 := Lib.hid (P7.out.keep hb)
    have B8 := Lib.hid (B7.out.trans (hb.mono B7.out.size))
    clear hr hb B7 L7 H7 R7 P7
    go_wp2_with fail
    refine (HC.out w8 _ _ _ _ S8.out P8.out).mono ?_
    rintro e0 w9 ⟨rfl, hb⟩
    have L9 := Lib.hid (L8.out.keep hb)
    have H9 := Lib.hid (H8.out.keep hb)
    have B9 := Lib.hid (B8.out.trans (hb.mono B8.out.size))
    clear hb B8 L8 H8 P8 S8
    generalize cmpOf (r + r) Q = cc at *
    by_cases hxb : x = b
    · subst hxb
      have tx : decide ((x : Int) = (x : Int)) = true := decide_eq_true rfl
      by_cases hyb : y = x
      · subst hyb
        rcases (show cc = -1 ∨ cc = 0 ∨ cc = 1 by omega) with rfl | rfl | rfl
        · -- nearer below
          go_wp2_with fail
          refine (HTX.out low hlo9.out _ _ _ L9.out).mono ?_
          rintro e0 wa ⟨rfl, hb⟩
          have BA := Lib.hid (B9.out.trans (hb.mono B9.out.size))
          clear hb B9
          have hd1 := hdl.out low hlo9.out
          have hd2 := hsl.out low hlo9.out
          have hfin := Lib.hid (hok.out low (.inl rfl) (pick_below X6.out) X6.out wa BA.out)
          have HTRc := Lib.hid (HTR.out low hlo9.out wa)
          generalize decText low = dt at *
          generalize shortOf low = st at *
          go_wp2_with fail
          refine HTRc.out.mono ?_
          rintro e0 wb ⟨rfl, rfl⟩
          go_wp2
          go_ret3
          exact hfin.out
        · -- half
          go_wp2_with fail
          refine (HOD.out low hlo9.out _ _ _ L9.out).mono ?_
          rintro e0 wz ⟨bo, od1, od2, rfl, rfl⟩
          have OD1 := Lib.hid od1
          have OD2 := Lib.hid od2
          clear od1 od2
          cases bo
          · skip
            go_wp2_with fail
            refine (HTX.out low hlo9.out _ _ _ L9.out).mono ?_
            rintro e0 wa ⟨rfl, hb⟩
            have BA := Lib.hid (B9.out.trans (hb.mono B9.out.size))
            clear hb B9
            have hd1 := hdl.out low hlo9.out
            have hd2 := hsl.out low hlo9.out
            have hfin := Lib.hid (hok.out low (.inl rfl) (pick_even X6.out (by first | exact OD2.out rfl | exact OD2.out trivial)) X6.out wa BA.out)
            have HTRc := Lib.hid (HTR.out low hlo9.out wa)
            generalize decText low = dt at *
            generalize shortOf low = st at *
            go_wp2_with fail
            refine HTRc.out.mono ?_
            rintro e0 wb ⟨rfl, rfl⟩
            go_wp2
            go_ret3
            exact hfin.out
          · skip
            go_wp2_with fail
            refine (HTX.out low hhi9.out _ _ _ H9.out).mono ?_
            rintro e0 wa ⟨rfl, hb⟩
            have BA := Lib.hid (B9.out.trans (hb.mono B9.out.size))
            clear hb B9
            have hd1 := hdl.out low hhi9.out
            have hd2 := hsl.out low hhi9.out
            have hfin := Lib.hid (hok.out low (.inr rfl) (pick_odd Y7.out (by first | exact OD1.out rfl | exact OD1.out trivial)) Y7.out wa BA.out)
            have HTRc := Lib.hid (HTR.out low hhi9.out wa)
            generalize decText low = dt at *
            generalize shortOf low = st at *
            go_wp2_with fail
            refine HTRc.out.mono ?_
            rintro e0 wb ⟨rfl, rfl⟩
            go_wp2
            go_ret3
            exact hfin.out
        · -- nearer above
          go_wp2_with fail
          refine (HTX.out low hhi9.out _ _ _ H9.out).mono ?_
          rintro e0 wa ⟨rfl, hb⟩
          have BA := Lib.hid (B9.out.trans (hb.mono B9.out.size))
          clear hb B9
          have hd1 := hdl.out low hhi9.out
          have hd2 := hsl.out low hhi9.out
          have hfin := Lib.hid (hok.out low (.inr rfl) (pick_above Y7.out) Y7.out wa BA.out)
          have HTRc := Lib.hid (HTR.out low hhi9.out wa)
          generalize decText low = dt at *
          generalize shortOf low = st at *
          go_wp2_with fail
          refine HTRc.out.mono ?_
          rintro e0 wb ⟨rfl, rfl⟩
          go_wp2
          go_ret3
          exact hfin.out
      · have ty : ((y : Int) == (x : Int)) = false := by rw [beq_eq_false_iff_ne]; omega
        have ty3 : ((y : Int) != (x : Int)) = true := by rw [bne_iff_ne]; omega
        have ty2 : decide ((y : Int) = (x : Int)) = false := decide_eq_false (by omega)
        go_wp2_with fail
        refine (HTX.out low hlo9.out _ _ _ L9.out).mono ?_
        rintro e0 wa ⟨rfl, hb⟩
        have BA := Lib.hid (B9.out.trans (hb.mono B9.out.size))
        clear hb B9
        have hd1 := hdl.out low hlo9.out
        have hd2 := hsl.out low hlo9.out
        have hfin := Lib.hid (hok.out low (.inl rfl) (pick_low X6.out (fun h => hyb (Y7.out.uniq h))) X6.out wa BA.out)
        have HTRc := Lib.hid (HTR.out low hlo9.out wa)
        generalize decText low = dt at *
        generalize shortOf low = st at *
        go_wp2_with fail
        refine HTRc.out.mono ?_
        rintro e0 wb ⟨rfl, rfl⟩
        go_wp2
        go_ret3
        exact hfin.out
    · have tx : ((x : Int) == (b : Int)) = false := by rw [beq_eq_false_iff_ne]; omega
      have tx3 : ((x : Int) != (b : Int)) = true := by rw [bne_iff_ne]; omega
      have tx2 : decide ((x : Int) = (b : Int)) = false := decide_eq_false (by omega)
      by_cases hyb : y = b
      · subst hyb
        go_wp2_with fail
        refine (HTX.out low hhi9.out _ _ _ H9.out).mono ?_
        rintro e0 wa ⟨rfl, hb⟩
        have BA := Lib.hid (B9.out.trans (hb.mono B9.out.size))
        clear hb B9
        have hd1 := hdl.out low hhi9.out
        have hd2 := hsl.out low hhi9.out
        have hfin := Lib.hid (hok.out low (.inr rfl) (pick_high (fun h => hxb (X6.out.uniq h))) Y7.out wa BA.out)
        have HTRc := Lib.hid (HTR.out low hhi9.out wa)
        generalize decText low = dt at *
        generalize shortOf low = st at *
        go_wp2_with fail
        refine HTRc.out.mono ?_
        rintro e0 wb ⟨rfl, rfl⟩
        go_wp2
        go_ret3
        exact hfin.out
      · have ty : ((y : Int) == (b : Int)) = false := by rw [beq_eq_false_iff_ne]; omega
        have ty3 : ((y : Int) != (b : Int)) = true := by rw [bne_iff_ne]; omega
        have ty2 : decide ((y : Int) = (b : Int)) = false := decide_eq_false (by omega)
        have hfin := Lib.hid (hno.out w9 B9.out (fun h => hxb (X6.out.uniq h)) (fun h => hyb (Y7.out.uniq h)))
        go_wp2
        go_ret3
        exact hfin.out
  · have hz := HLEN.out.2 hr0
    have he := HH.out
    rw [if_neg hr0] at he
    have tz : decide ((0 : Int) < ((canon r).length : Int)) = true := decide_eq_true (by omega)
    have tz2 : 0 < (canon r).length := by omega
    have ho := Rd.keep R4.out ((Below.refl _ w4).alloc (Nat.le_refl _) (.cells #[.int .u32 1] 27))
    have b5 := (Below.refl w4.heap.size w4).alloc (Nat.le_refl _) (.cells #[.int .u32 1] 27)
    have h1' := one_rd w4
    have hc1 : canon 1 = [1] := rfl
    rw [hc1] at h1'
    have HA := Lib.hid (HAD.out low hlo9.out _ _ _ _ (L4.out.keep b5) h1')
    have B5' := Lib.hid b5
    rw [← he] at HA
    clear hr0 he hz ho b5 h1' hc1 HH
    go_wp2_with fail
    refine HA.out.mono ?_
    rintro e0 w5 ⟨ho, hc, rfl, hr, hb⟩
    have b6 := B5'.out.trans (hb.mono B5'.out.size)
    have H5 := Lib.hid hr
    have L5 := Lib.hid (L4.out.keep b6)
    have R5 := Lib.hid (R4.out.keep b6)
    have P5 := Lib.hid (P4.out.keep b6)
    have B5 := Lib.hid (B4.out.trans (b6.mono B4.out.size))
    clear hr hb b6 B5' L4 R4 P4 B4 HA
    go_wp2_with fail
    refine (HNR.out low hlo9.out w5 _ _ L5.out).mono ?_
    rintro e0 w6 ⟨x, rfl, hr, hb⟩
    have X6 := Lib.hid (hits.out _ _ hr)
    have L6 := Lib.hid (L5.out.keep hb)
    have H6 := Lib.hid (H5.out.keep hb)
    have R6 := Lib.hid (R5.out.keep hb)
    have P6 := Lib.hid (P5.out.keep hb)
    have B6 := Lib.hid (B5.out.trans (hb.mono B5.out.size))
    clear hr hb B5 L5 H5 R5 P5
    go_wp2_with fail
    refine (HNR.out high hhi9.out w6 _ _ H6.out).mono ?_
    rintro e0 w7 ⟨y, rfl, hr, hb⟩
    have Y7 := Lib.hid (hits.out _ _ hr)
    have L7 := Lib.hid (L6.out.keep hb)
    have H7 := Lib.hid (H6.out.keep hb)
    have R7 := Lib.hid (R6.out.keep hb)
    have P7 := Lib.hid (P6.out.keep hb)
    have B7 := Lib.hid (B6.out.trans (hb.mono B6.out.size))
    clear hr hb B6 L6 H6 R6 P6
    go_wp2_with fail
    refine (HA2.out w7 _ _ R7.out).mono ?_
    rintro e0 w8 ⟨so, sc, rfl, hr, hb⟩
    have S8 := Lib.hid hr
    have L8 := Lib.hid (L7.out.keep hb)
    have H8 := Lib.hid (H7.out.keep hb)
    have P8 := Lib.hid (P7.out.keep hb)
    have B8 := Lib.hid (B7.out.trans (hb.mono B7.out.size))
    clear hr hb B7 L7 H7 R7 P7
    go_wp2_with fail
    refine (HC.out w8 _ _ _ _ S8.out P8.out).mono ?_
    rintro e0 w9 ⟨rfl, hb⟩
    have L9 := Lib.hid (L8.out.keep hb)
    have H9 := Lib.hid (H8.out.keep hb)
    have B9 := Lib.hid (B8.out.trans (hb.mono B8.out.size))
    clear hb B8 L8 H8 P8 S8
    generalize cmpOf (r + r) Q = cc at *
    by_cases hxb : x = b
    · subst hxb
      have tx : decide ((x : Int) = (x : Int)) = true := decide_eq_true rfl
      by_cases hyb : y = x
      · subst hyb
        rcases (show cc = -1 ∨ cc = 0 ∨ cc = 1 by omega) with rfl | rfl | rfl
        · -- nearer below
          go_wp2_with fail
          refine (HTX.out low hlo9.out _ _ _ L9.out).mono ?_
          rintro e0 wa ⟨rfl, hb⟩
          have BA := Lib.hid (B9.out.trans (hb.mono B9.out.size))
          clear hb B9
          have hd1 := hdl.out low hlo9.out
          have hd2 := hsl.out low hlo9.out
          have hfin := Lib.hid (hok.out low (.inl rfl) (pick_below X6.out) X6.out wa BA.out)
          have HTRc := Lib.hid (HTR.out low hlo9.out wa)
          generalize decText low = dt at *
          generalize shortOf low = st at *
          go_wp2_with fail
          refine HTRc.out.mono ?_
          rintro e0 wb ⟨rfl, rfl⟩
          go_wp2
          go_ret3
          exact hfin.out
        · -- half
          go_wp2_with fail
          refine (HOD.out low hlo9.out _ _ _ L9.out).mono ?_
          rintro e0 wz ⟨bo, od1, od2, rfl, rfl⟩
          have OD1 := Lib.hid od1
          have OD2 := Lib.hid od2
          clear od1 od2
          cases bo
          · skip
            go_wp2_with fail
            refine (HTX.out low hlo9.out _ _ _ L9.out).mono ?_
            rintro e0 wa ⟨rfl, hb⟩
            have BA := Lib.hid (B9.out.trans (hb.mono B9.out.size))
            clear hb B9
            have hd1 := hdl.out low hlo9.out
            have hd2 := hsl.out low hlo9.out
            have hfin := Lib.hid (hok.out low (.inl rfl) (pick_even X6.out (by first | exact OD2.out rfl | exact OD2.out trivial)) X6.out wa BA.out)
            have HTRc := Lib.hid (HTR.out low hlo9.out wa)
            generalize decText low = dt at *
            generalize shortOf low = st at *
            go_wp2_with fail
            refine HTRc.out.mono ?_
            rintro e0 wb ⟨rfl, rfl⟩
            go_wp2
            go_ret3
            exact hfin.out
          · skip
            go_wp2_with fail
            refine (HTX.out high hhi9.out _ _ _ H9.out).mono ?_
            rintro e0 wa ⟨rfl, hb⟩
            have BA := Lib.hid (B9.out.trans (hb.mono B9.out.size))
            clear hb B9
            have hd1 := hdl.out high hhi9.out
            have hd2 := hsl.out high hhi9.out
            have hfin := Lib.hid (hok.out high (.inr rfl) (pick_odd Y7.out (by first | exact OD1.out rfl | exact OD1.out trivial)) Y7.out wa BA.out)
            have HTRc := Lib.hid (HTR.out high hhi9.out wa)
            generalize decText high = dt at *
            generalize shortOf high = st at *
            go_wp2_with fail
            refine HTRc.out.mono ?_
            rintro e0 wb ⟨rfl, rfl⟩
            go_wp2
            go_ret3
            exact hfin.out
        · -- nearer above
          go_wp2_with fail
          refine (HTX.out high hhi9.out _ _ _ H9.out).mono ?_
          rintro e0 wa ⟨rfl, hb⟩
          have BA := Lib.hid (B9.out.trans (hb.mono B9.out.size))
          clear hb B9
          have hd1 := hdl.out high hhi9.out
          have hd2 := hsl.out high hhi9.out
          have hfin := Lib.hid (hok.out high (.inr rfl) (pick_above Y7.out) Y7.out wa BA.out)
          have HTRc := Lib.hid (HTR.out high hhi9.out wa)
          generalize decText high = dt at *
          generalize shortOf high = st at *
          go_wp2_with fail
          refine HTRc.out.mono ?_
          rintro e0 wb ⟨rfl, rfl⟩
          go_wp2
          go_ret3
          exact hfin.out
      · have ty : ((y : Int) == (x : Int)) = false := by rw [beq_eq_false_iff_ne]; omega
        have ty3 : ((y : Int) != (x : Int)) = true := by rw [bne_iff_ne]; omega
        have ty2 : decide ((y : Int) = (x : Int)) = false := decide_eq_false (by omega)
        go_wp2_with fail
        refine (HTX.out low hlo9.out _ _ _ L9.out).mono ?_
        rintro e0 wa ⟨rfl, hb⟩
        have BA := Lib.hid (B9.out.trans (hb.mono B9.out.size))
        clear hb B9
        have hd1 := hdl.out low hlo9.out
        have hd2 := hsl.out low hlo9.out
        have hfin := Lib.hid (hok.out low (.inl rfl) (pick_low X6.out (fun h => hyb (Y7.out.uniq h))) X6.out wa BA.out)
        have HTRc := Lib.hid (HTR.out low hlo9.out wa)
        generalize decText low = dt at *
        generalize shortOf low = st at *
        go_wp2_with fail
        refine HTRc.out.mono ?_
        rintro e0 wb ⟨rfl, rfl⟩
        go_wp2
        go_ret3
        exact hfin.out
    · have tx : ((x : Int) == (b : Int)) = false := by rw [beq_eq_false_iff_ne]; omega
      have tx3 : ((x : Int) != (b : Int)) = true := by rw [bne_iff_ne]; omega
      have tx2 : decide ((x : Int) = (b : Int)) = false := decide_eq_false (by omega)
      by_cases hyb : y = b
      · subst hyb
        go_wp2_with fail
        refine (HTX.out high hhi9.out _ _ _ H9.out).mono ?_
        rintro e0 wa ⟨rfl, hb⟩
        have BA := Lib.hid (B9.out.trans (hb.mono B9.out.size))
        clear hb B9
        have hd1 := hdl.out high hhi9.out
        have hd2 := hsl.out high hhi9.out
        have hfin := Lib.hid (hok.out high (.inr rfl) (pick_high (fun h => hxb (X6.out.uniq h))) Y7.out wa BA.out)
        have HTRc := Lib.hid (HTR.out high hhi9.out wa)
        generalize decText high = dt at *
        generalize shortOf high = st at *
        go_wp2_with fail
        refine HTRc.out.mono ?_
        rintro e0 wb ⟨rfl, rfl⟩
        go_wp2
        go_ret3
        exact hfin.out
      · have ty : ((y : Int) == (b : Int)) = false := by rw [beq_eq_false_iff_ne]; omega
        have ty3 : ((y : Int) != (b : Int)) = true := by rw [bne_iff_ne]; omega
        have ty2 : decide ((y : Int) = (b : Int)) = false := decide_eq_false (by omega)
        have hfin := Lib.hid (hno.out w9 B9.out (fun h => hxb (X6.out.uniq h)) (fun h => hyb (Y7.out.uniq h)))
        go_wp2
        go_ret3
        exact hfin.out
end Go.Proofs.YtmieegcnfnoiiaaDoor
namespace Go.Proofs.YtmieegcnfnoiiaaDoor
open Go.RowKit Gx
set_option maxRecDepth 100000

theorem andnot_sign (b : Nat) (hb : b < 18446744073709551616) : bits BinOp.andNot IntKind.u64 (b : Int) 9223372036854775808 = ((b % 9223372036854775808 : Nat) : Int) := by
  have h1 : (BitVec.ofInt 64 (b : Int)).toNat = b := by
    rw [BitVec.ofInt_natCast, BitVec.toNat_ofNat]; exact Nat.mod_eq_of_lt (by omega)
  have h2 : (~~~ (BitVec.ofInt 64 9223372036854775808)).toNat = 2 ^ 63 - 1 := by decide
  show IntKind.u64.wrap ((BitVec.ofInt 64 (b : Int) &&& ~~~ (BitVec.ofInt 64 9223372036854775808)).toNat : Int) = _
  rw [BitVec.toNat_and, h1, h2, Nat.and_two_pow_sub_one_eq_mod, IntKind.wrap_u64]
  have h3 : (2 : Nat) ^ 63 = 9223372036854775808 := by decide
  rw [h3]
  omega

theorem pow_up (e : Int) (w : World) (h : e ≤ 1000) : Calls Tryd.prog 13 #[.int .u32 10, .int .i64 (max e 0)] w (SubPost (tenUp e) w) := by
  have h1 := bigPow_any 10 e.toNat w (by decide) (by omega)
  have h2 : max e 0 = ((e.toNat : Nat) : Int) := by omega
  rw [h2]
  exact h1
theorem pow_dn (e : Int) (w : World) (h : -1000 ≤ e) : Calls Tryd.prog 13 #[.int .u32 10, .int .i64 (max (-e) 0)] w (SubPost (tenDn e) w) := pow_up (-e) w (by omega)

def Lim : Nat := 18014398509481983 * 2 ^ 970
theorem lim_of (K : Nat) (h : K = 970) : Lim = 18014398509481983 * 2 ^ K := by rw [h]; rfl
theorem lim_fits : Fits Lim 33 := by
  obtain ⟨K, hK⟩ : ∃ K : Nat, K = 970 := ⟨_, rfl⟩
  rw [lim_of K hK]
  have h1 : Fits 18014398509481983 2 := by unfold Fits; decide
  exact h1.mul (two_fitsK K 31 (by omega))
theorem lim_shift (ad : Option Addr) (w : World) (h : Rd .u32 w ad 2 [4294967295, 4194303]) : Calls Tryd.prog 16 #[.slice ad 2 2, .int .i64 970] w (SubPost Lim w) := by
  obtain ⟨K, hK⟩ : ∃ K : Nat, K = 970 := ⟨_, rfl⟩
  have h1 := shift_left' ad 2 [4294967295, 4194303] K 18014398509481983 w h (by decide) (by decide) (by omega)
  rw [← lim_of K hK] at h1
  have h2 : (970 : Int) = (K : Int) := by omega
  rw [h2]
  exact h1
theorem lim_mid (K : Nat) (hK : K = 1075) : fmid 9218868437227405311 = Lim * 2 ^ K := by
  obtain ⟨E, hE⟩ : ∃ E : Nat, E = 2045 := ⟨_, rfl⟩
  obtain ⟨F, hF⟩ : ∃ F : Nat, F = 970 := ⟨_, rfl⟩
  have h1 : 9218868437227405311 = E * 4503599627370496 + 9007199254740991 := by omega
  rw [h1, fmid_of 9007199254740991 E (by omega) (.inr (by omega)), lim_of F hF, Nat.mul_assoc, ← Nat.pow_add, show F + K = E by omega]
theorem lim_le (N D : Nat) (h : Rnd (Y75 N) D 9218868437227405312) : Lim * D ≤ N := by
  obtain ⟨K, hK⟩ : ∃ K : Nat, K = 1075 := ⟨_, rfl⟩
  have h1 := h.lo.resolve_left (by omega)
  have h2 : D * fmid 9218868437227405311 ≤ Y75 N := by
    rcases h1 with h1 | h1
    · exact Nat.le_of_lt h1
    · exact Nat.le_of_eq h1.1
  rw [lim_mid K hK, y75_of N K hK, ← Nat.mul_assoc] at h2
  have h3 := Nat.le_of_mul_le_mul_right h2 (Nat.two_pow_pos K)
  rw [Nat.mul_comm]
  exact h3

theorem y75_x74 (N : Nat) : Y75 N = 2 * X74 N := by
  obtain ⟨K, hK⟩ : ∃ K : Nat, K = 1074 := ⟨_, rfl⟩
  rw [y75_of N (K + 1) (by omega), x74_of N K hK, Nat.pow_succ, ← Nat.mul_assoc, Nat.mul_comm]
theorem near_fin {N D b o A B C E X Y U V : Nat} (h : Rnd (Y75 N) D b) (hD : 0 < D) (hb : b < 9218868437227405312) (ho : o < 9218868437227405312) (hA : IsFrac b A B) (hC : IsFrac o C E) (hX : ApartIs N D A B X Y) (hU : ApartIs N D C E U V) (hne : b ≠ o) :
    X * V < U * Y ∨ (X * V = U * Y ∧ b % 2 = 0) := by
  obtain ⟨rfl, rfl⟩ := hX
  obtain ⟨rfl, rfl⟩ := hU
  obtain ⟨a1, a2⟩ := hA
  obtain ⟨c1, c2⟩ := hC
  obtain ⟨K, hK⟩ : ∃ K : Nat, K = 1074 := ⟨_, rfl⟩
  rw [Nat.mod_eq_of_lt (by omega), x74_of _ K hK] at a1 c1
  have h1 := near_far (y75_x74 N) h hD (by omega) hne
  rw [x74_of _ K hK] at h1
  have h2 := dist_parts (n := N) (D := D) (Nat.two_pow_pos K) a2 c2 a1 c1
  rcases h1 with h1 | h1
  · exact .inl ((h2.1 h1).resolve_right (by omega))
  · exact .inr ⟨h2.2 h1.1, h1.2⟩

set_option maxHeartbeats 4000000 in
theorem floatNear_out (ad : Option Addr) (ca n0 : Nat) (e : Int) (o : Nat) (w : World) (ho : o < 18446744073709551616) (h : 10 < n0 ∨ e < -400 ∨ 400 < e ∨ 9218868437227405312 ≤ o % 9223372036854775808) :
    Calls Tryd.prog 5 #[.slice ad n0 ca, .int .i64 e, .int .u64 o] w (TruePost2 w) := by
  have H := Lib.hid (floats_any w)
  have ha := andnot_sign o ho
  generalize o % 9223372036854775808 = p at *
  by_cases h0 : 10 < n0
  · have t0 : decide ((10 : Int) < (n0 : Int)) = true := decide_eq_true (by omega)
    clear h h0 ho
    go_enter Tryd.func5, Tryd.ntmps5
    go_wp2_with fail
    refine H.out.mono ?_
    rintro e w1 ⟨rfl, rfl⟩
    go_wp2
    go_ret
    exact ⟨rfl, Below.refl _ _⟩
  have t0 : decide ((10 : Int) < (n0 : Int)) = false := decide_eq_false (by omega)
  by_cases h2 : e < -400
  · have t2 : decide (e < -400) = true := decide_eq_true (by omega)
    clear h h0 h2 ho
    go_enter Tryd.func5, Tryd.ntmps5
    go_wp2_with fail
    refine H.out.mono ?_
    rintro e w1 ⟨rfl, rfl⟩
    go_wp2
    go_ret
    exact ⟨rfl, Below.refl _ _⟩
  have t2 : decide (e < -400) = false := decide_eq_false (by omega)
  by_cases h3 : 400 < e
  · have t3 : decide (400 < e) = true := decide_eq_true (by omega)
    clear h h0 h2 h3 ho
    go_enter Tryd.func5, Tryd.ntmps5
    go_wp2_with fail
    refine H.out.mono ?_
    rintro e w1 ⟨rfl, rfl⟩
    go_wp2
    go_ret
    exact ⟨rfl, Below.refl _ _⟩
  have t3 : decide (400 < e) = false := decide_eq_false (by omega)
  have t5 : decide ((9218868437227405312 : Int) ≤ (p : Int)) = true := decide_eq_true (by omega)
  clear h h0 h2 h3 ho
  go_enter Tryd.func5, Tryd.ntmps5
  go_wp2_with fail
  refine H.out.mono ?_
  rintro e w1 ⟨rfl, rfl⟩
  go_wp2
  go_ret
  exact ⟨rfl, Below.refl _ _⟩

set_option maxHeartbeats 4000000 in
theorem floatNear_in (ad : Option Addr) (ca : Nat) (xs : List Int) (e : Int) (o : Nat) (w : World) (h : Rd .u32 w ad ca xs) (l0 : xs.length ≤ 10) (e1 : -400 ≤ e) (e2 : e ≤ 400) (ho : o < 18446744073709551616) (ho2 : o % 9223372036854775808 < 9218868437227405312) :
    Calls Tryd.prog 5 #[.slice ad xs.length ca, .int .i64 e, .int .u64 o] w (TruePost2 w) := by
  have HF := Lib.hid (floats_any w)
  have ha := andnot_sign o ho
  obtain ⟨p, hp⟩ : ∃ p, p = o % 9223372036854775808 := ⟨_, rfl⟩
  rw [← hp] at ha ho2
  obtain ⟨x, hx⟩ : ∃ x, x = bval xs := ⟨_, rfl⟩
  have fx : Fits x 10 := by rw [hx]; exact (Fits.words (words_of_rd h)).mono l0
  have bx := blen_of_fits _ _ fx
  have fu : Fits (tenUp e) 51 := ten_fitsK _ 51 (by omega)
  have fd : Fits (tenDn e) 51 := ten_fitsK _ 51 (by omega)
  have lu := fu.len
  have ld := fd.len
  have lxu := (fx.mul fu).len
  have lL := lim_fits.len
  have lLd := (lim_fits.mul fd).len
  have H1 := fun w0 (hb : Below w.heap.size w w0) => near_two' ad ca xs w0 x e (h.keep hb) hx.symm (by omega) (by omega) (by omega) (by omega)
  have HU := fun w0 => pow_up e w0 (by omega)
  have HD := fun w0 => pow_dn e w0 (by omega)
  have HM := fun w0 (hb : Below w.heap.size w w0) po pc (hr : Rd .u32 w0 po pc (canon (tenUp e))) => mul_two ad po ca pc xs (canon (tenUp e)) w0 x (tenUp e) (h.keep hb) hr hx.symm (bval_canon _) (by omega) (by omega)
  have hd0 := tenDn_pos e
  generalize tenUp e = U at *
  generalize tenDn e = D at *
  have HL := fun w0 ad (hr : Rd .u32 w0 ad 2 [4294967295, 4194303]) => lim_shift ad w0 hr
  have HML := fun w0 po pc qo qc (hr : Rd .u32 w0 po pc (canon Lim)) (hq : Rd .u32 w0 qo qc (canon D)) => mul_two po qo pc qc (canon Lim) (canon D) w0 Lim D hr hq (bval_canon _) (bval_canon _) (by omega) (by omega)
  have HCL := fun w0 po pc qo qc (hr : Rd .u32 w0 po pc (canon (x * U))) (hq : Rd .u32 w0 qo qc (canon (Lim * D))) => cmp_two' po qo pc qc (canon (x * U)) (canon (Lim * D)) w0 (x * U) (Lim * D) hr hq (bval_canon _) (bval_canon _) (by omega) (by omega)
  have HE := fun b w0 (hb : b < 9218868437227405312) => exact_any b w0 (by omega) (by omega)
  have HA := fun w0 po pc qo qc ao ac bo bc (asl bsl : List Int) (hr : Rd .u32 w0 po pc (canon (x * U))) (hq : Rd .u32 w0 qo qc (canon D)) (ha : Rd .u32 w0 ao ac asl) (hb : Rd .u32 w0 bo bc bsl) (la : asl.length ≤ 40) (lb : bsl.length ≤ 40) =>
    apart_any po qo ao bo pc qc ac bc (canon (x * U)) (canon D) asl bsl (x * U) D (bval asl) (bval bsl) w0 hr hq ha hb (bval_canon _) (bval_canon _) rfl rfl (by omega) (by omega) (by omega) (by omega)
  have HM2 := fun w0 ao ac bo bc (asl bsl : List Int) (ha : Rd .u32 w0 ao ac asl) (hb : Rd .u32 w0 bo bc bsl) (la : asl.length ≤ 400) (lb : bsl.length ≤ 400) =>
    mul_two ao bo ac bc asl bsl w0 (bval asl) (bval bsl) ha hb rfl rfl (by omega) (by omega)
  have HC2 := fun w0 po pc qo qc (P Q : Nat) (hr : Rd .u32 w0 po pc (canon P)) (hq : Rd .u32 w0 qo qc (canon Q)) (lp : (canon P).length ≤ 1000000) (lq : (canon Q).length ≤ 1000000) => cmp_two' po qo pc qc (canon P) (canon Q) w0 P Q hr hq (bval_canon _) (bval_canon _) lp lq
  have hlim : ∀ b, 9218868437227405312 ≤ b → Rnd (Y75 (x * U)) D b → Lim * D ≤ x * U := by
    intro b hb h
    have := h.le
    obtain rfl : b = 9218868437227405312 := by omega
    exact lim_le _ _ h
  unfold NearPost at H1
  unfold SubPost at HU HD HL
  unfold WordsPost at HM HML HM2
  unfold CmpPost at HCL HC2
  unfold PairPost at HE HA
  generalize Lim = L at *
  obtain ⟨n0, hn0⟩ : ∃ n, n = xs.length := ⟨_, rfl⟩
  rw [← hn0] at H1 HM l0 ⊢
  replace H1 := Lib.hid H1
  replace HU := Lib.hid HU
  replace HD := Lib.hid HD
  replace HM := Lib.hid HM
  replace HL := Lib.hid HL
  replace HML := Lib.hid HML
  replace HCL := Lib.hid HCL
  replace HE := Lib.hid HE
  replace HA := Lib.hid HA
  replace HM2 := Lib.hid HM2
  replace HC2 := Lib.hid HC2
  replace hlim := Lib.hid hlim
  have t0 : decide ((10 : Int) < (n0 : Int)) = false := decide_eq_false (by omega)
  have t2 : decide (e < -400) = false := decide_eq_false (by omega)
  have t3 : decide (400 < e) = false := decide_eq_false (by omega)
  have t4 : decide ((9218868437227405312 : Int) ≤ (p : Int)) = false := decide_eq_false (by omega)
  have HD0 := Lib.hid hd0
  have HO2 := Lib.hid ho2
  clear h hx fx bx fu fd lu ld lxu lL lLd hn0 l0 hd0 hp ho2 ho
  go_enter Tryd.func5, Tryd.ntmps5
  go_wp2_with fail
  refine HF.out.mono ?_
  rintro e0 w1 ⟨rfl, rfl⟩
  go_wp2_with fail
  refine (H1.out w (Below.refl _ _)).mono ?_
  rintro e0 w1 ⟨b, rfl, hr, hb⟩
  have R1 := Lib.hid hr
  have B1 := Lib.hid hb
  clear hr hb
  by_cases hinf : 9218868437227405312 ≤ b
  · have t6 : decide ((9218868437227405312 : Int) ≤ (b : Int)) = true := decide_eq_true (by omega)
    have hle := hlim.out b hinf R1.out
    have HCC : decide (0 ≤ cmpOf (x * U) (L * D)) = true := by
      refine decide_eq_true ?_
      unfold cmpOf
      rw [if_neg (by omega)]
      split <;> decide
    have HCC2 := Lib.hid HCC
    clear hinf hle HCC
    have HLR := Lib.hid (pair_rd w1 4294967295 4194303 (by decide) (by decide))
    have BA := Lib.hid (B1.out.alloc B1.out.size (.cells #[.int .u32 4294967295, .int .u32 4194303] 27))
    go_wp2_with fail
    refine (HL.out _ _ HLR.out).mono ?_
    rintro e0 w2 ⟨lo, lc, rfl, hr, hb⟩
    have L2 := Lib.hid hr
    have B2 := Lib.hid (BA.out.trans (hb.mono BA.out.size))
    clear hr hb HLR BA B1
    go_wp2_with fail
    refine (HU.out w2).mono ?_
    rintro e0 w3 ⟨uo, uc, rfl, hr, hb⟩
    have U3 := Lib.hid hr
    have L3 := Lib.hid (L2.out.keep hb)
    have B3 := Lib.hid (B2.out.trans (hb.mono B2.out.size))
    clear hr hb B2 L2
    go_wp2_with fail
    refine (HD.out w3).mono ?_
    rintro e0 w4 ⟨dd, dc, rfl, hr, hb⟩
    have D4 := Lib.hid hr
    have L4 := Lib.hid (L3.out.keep hb)
    have U4 := Lib.hid (U3.out.keep hb)
    have B4 := Lib.hid (B3.out.trans (hb.mono B3.out.size))
    clear hr hb B3 L3 U3
    go_wp2_with fail
    refine (HM.out w4 B4.out _ _ U4.out).mono ?_
    rintro e0 w5 ⟨mo, mc, rfl, hr, hb⟩
    have M5 := Lib.hid hr
    have L5 := Lib.hid (L4.out.keep hb)
    have D5 := Lib.hid (D4.out.keep hb)
    have B5 := Lib.hid (B4.out.trans (hb.mono B4.out.size))
    clear hr hb B4 L4 U4 D4
    go_wp2_with fail
    refine (HML.out w5 _ _ _ _ L5.out D5.out).mono ?_
    rintro e0 w6 ⟨po, pc, rfl, hr, hb⟩
    have P6 := Lib.hid hr
    have M6 := Lib.hid (M5.out.keep hb)
    have B6 := Lib.hid (B5.out.trans (hb.mono B5.out.size))
    clear hr hb B5 L5 D5 M5
    go_wp2_with fail
    refine (HCL.out w6 _ _ _ _ M6.out P6.out).mono ?_
    rintro e0 w7 ⟨rfl, hb⟩
    have B7 := Lib.hid (B6.out.trans (hb.mono B6.out.size))
    clear hb B6 M6 P6
    have HCC := HCC2.out
    generalize cmpOf (x * U) (L * D) = cc at *
    go_wp2
    go_ret
    exact ⟨rfl, B7.out⟩
  · have t6 : decide ((9218868437227405312 : Int) ≤ (b : Int)) = false := decide_eq_false (by omega)
    have hb9 : b < 9218868437227405312 := by omega
    have HB9 := Lib.hid hb9
    clear hinf hb9
    go_wp2_with fail
    refine (HU.out w1).mono ?_
    rintro e0 w3 ⟨uo, uc, rfl, hr, hb⟩
    have U3 := Lib.hid hr
    have B3 := Lib.hid (B1.out.trans (hb.mono B1.out.size))
    clear hr hb B1
    go_wp2_with fail
    refine (HD.out w3).mono ?_
    rintro e0 w4 ⟨dd, dc, rfl, hr, hb⟩
    have D4 := Lib.hid hr
    have U4 := Lib.hid (U3.out.keep hb)
    have B4 := Lib.hid (B3.out.trans (hb.mono B3.out.size))
    clear hr hb B3 U3
    go_wp2_with fail
    refine (HM.out w4 B4.out _ _ U4.out).mono ?_
    rintro e0 w5 ⟨mo, mc, rfl, hr, hb⟩
    have M5 := Lib.hid hr
    have D5 := Lib.hid (D4.out.keep hb)
    have B5 := Lib.hid (B4.out.trans (hb.mono B4.out.size))
    clear hr hb B4 U4 D4
    go_wp2_with fail
    refine (HE.out b w5 HB9.out).mono ?_
    rintro e0 w6 ⟨ao, ac, asl, bo, bc, bsl, rfl, hr, hr2, l1, l2, hf, hb⟩
    have A6 := Lib.hid hr
    have C6 := Lib.hid hr2
    have M6 := Lib.hid (M5.out.keep hb)
    have D6 := Lib.hid (D5.out.keep hb)
    have B6 := Lib.hid (B5.out.trans (hb.mono B5.out.size))
    have LA := Lib.hid l1
    have LB := Lib.hid l2
    have FR := Lib.hid hf
    clear hr hr2 l1 l2 hf hb M5 D5 B5
    go_wp2_with fail
    refine (HE.out p w6 HO2.out).mono ?_
    rintro e0 w7 ⟨co, cc, csl, do_, dc2, dsl, rfl, hr, hr2, l1, l2, hf, hb⟩
    have E7 := Lib.hid hr
    have F7 := Lib.hid hr2
    have A7 := Lib.hid (A6.out.keep hb)
    have C7 := Lib.hid (C6.out.keep hb)
    have M7 := Lib.hid (M6.out.keep hb)
    have D7 := Lib.hid (D6.out.keep hb)
    have B7 := Lib.hid (B6.out.trans (hb.mono B6.out.size))
    have LC := Lib.hid l1
    have LD := Lib.hid l2
    have FO := Lib.hid hf
    clear hr hr2 l1 l2 hf hb M6 D6 B6 A6 C6
    go_wp2_with fail
    refine (HA.out w7 _ _ _ _ _ _ _ _ asl bsl M7.out D7.out A7.out C7.out LA.out LB.out).mono ?_
    rintro e0 w8 ⟨xo, xc, x2, yo, yc, y2, rfl, hr, hr2, l1, l2, hf, hb⟩
    have X8 := Lib.hid hr
    have Y8 := Lib.hid hr2
    have E8 := Lib.hid (E7.out.keep hb)
    have F8 := Lib.hid (F7.out.keep hb)
    have M8 := Lib.hid (M7.out.keep hb)
    have D8 := Lib.hid (D7.out.keep hb)
    have B8 := Lib.hid (B7.out.trans (hb.mono B7.out.size))
    have LX := Lib.hid l1
    have LY := Lib.hid l2
    have FX := Lib.hid hf
    clear hr hr2 l1 l2 hf hb M7 D7 B7 A7 C7 E7 F7
    go_wp2_with fail
    refine (HA.out w8 _ _ _ _ _ _ _ _ csl dsl M8.out D8.out E8.out F8.out LC.out LD.out).mono ?_
    rintro e0 w9 ⟨uo2, uc2, u2, vo, vc, v2, rfl, hr, hr2, l1, l2, hf, hb⟩
    have U9 := Lib.hid hr
    have V9 := Lib.hid hr2
    have X9 := Lib.hid (X8.out.keep hb)
    have Y9 := Lib.hid (Y8.out.keep hb)
    have B9 := Lib.hid (B8.out.trans (hb.mono B8.out.size))
    have hlaw : b ≠ p → bval x2 * bval v2 < bval u2 * bval y2 ∨ (bval x2 * bval v2 = bval u2 * bval y2 ∧ b % 2 = 0) :=
      near_fin R1.out HD0.out HB9.out HO2.out FR.out FO.out FX.out hf
    have HLAW := Lib.hid hlaw
    have q1 := ((Fits.words (words_of_rd X9.out)).mul (Fits.words (words_of_rd V9.out))).len
    have q2 := ((Fits.words (words_of_rd U9.out)).mul (Fits.words (words_of_rd Y9.out))).len
    have lx := LX.out
    have ly := LY.out
    have Q1 : Hid ((canon (bval x2 * bval v2)).length ≤ 1000000) := by show _ ≤ _; omega
    have Q2 : Hid ((canon (bval u2 * bval y2)).length ≤ 1000000) := by show _ ≤ _; omega
    have LU := Lib.hid l1
    have LV := Lib.hid l2
    clear hr hr2 l1 l2 hf hb M8 D8 B8 X8 Y8 E8 F8 hlaw q1 q2 lx ly
    go_wp2_with fail
    refine (HM2.out w9 _ _ _ _ _ _ X9.out V9.out LX.out LV.out).mono ?_
    rintro e0 wa ⟨ro, rc, rfl, hr, hb⟩
    have RA := Lib.hid hr
    have UA := Lib.hid (U9.out.keep hb)
    have YA := Lib.hid (Y9.out.keep hb)
    have BA := Lib.hid (B9.out.trans (hb.mono B9.out.size))
    clear hr hb B9 X9 Y9 U9 V9
    go_wp2_with fail
    refine (HM2.out wa _ _ _ _ _ _ UA.out YA.out LU.out LY.out).mono ?_
    rintro e0 wb ⟨so, sc, rfl, hr, hb⟩
    have SB := Lib.hid hr
    have RB := Lib.hid (RA.out.keep hb)
    have BB := Lib.hid (BA.out.trans (hb.mono BA.out.size))
    clear hr hb BA UA YA RA
    go_wp2_with fail
    refine (HC2.out wb _ _ _ _ _ _ RB.out SB.out Q1.out Q2.out).mono ?_
    rintro e0 wc ⟨rfl, hb⟩
    have BC := Lib.hid (BB.out.trans (hb.mono BB.out.size))
    clear hb BB RB SB
    have hand := and_one b (by have := HB9.out; omega)
    by_cases hbp : b = p
    · subst hbp
      generalize cmpOf (bval x2 * bval v2) (bval u2 * bval y2) = q at *
      by_cases hq : q < 0
      · have t7 : decide (q < 0) = true := decide_eq_true hq
        clear hq
        go_wp2
        go_ret
        exact ⟨rfl, BC.out⟩
      · have t7 : decide (q < 0) = false := decide_eq_false hq
        clear hq
        go_wp2
        go_ret
        exact ⟨rfl, BC.out⟩
    · rcases HLAW.out hbp with hl | ⟨hl, hl2⟩
      · rw [cmp_lt hl]
        clear hl hbp
        go_wp2
        go_ret
        exact ⟨rfl, BC.out⟩
      · rw [cmp_eq hl]
        rw [hl2] at hand
        have t8 : decide ((b : Int) = (p : Int)) = false := decide_eq_false (by omega)
        have t9 : ((b : Int) == (p : Int)) = false := by rw [beq_eq_false_iff_ne]; omega
        clear hl hl2 hbp
        go_wp2
        go_ret
        exact ⟨rfl, BC.out⟩

theorem floatNear_walk (ad : Option Addr) (ca : Nat) (xs : List Int) (e : Int) (o : Nat) (w : World) (h : Rd .u32 w ad ca xs) (ho : o < 18446744073709551616) :
    Calls Tryd.prog 5 #[.slice ad xs.length ca, .int .i64 e, .int .u64 o] w (TruePost2 w) := by
  by_cases hc : 10 < xs.length ∨ e < -400 ∨ 400 < e ∨ 9218868437227405312 ≤ o % 9223372036854775808
  · exact floatNear_out ad ca _ e o w ho hc
  · exact floatNear_in ad ca xs e o w h (by omega) (by omega) (by omega) ho (by omega)
end Go.Proofs.YtmieegcnfnoiiaaDoor
namespace Go.Proofs.YtmieegcnfnoiiaaDoor
set_option maxRecDepth 100000

theorem Rnd.between {Y D Z C W E b : Nat} (h : Rnd Y D b) (g : Rnd Z C b) (hD : 0 < D) (hC : 0 < C) (hE : 0 < E) (h1 : Y * E ≤ W * D) (h2 : W * C ≤ Z * E) : Rnd W E b := by
  refine ⟨h.le, ?_, ?_⟩
  · rcases h.lo with h0 | h0
    · exact .inl h0
    · generalize fmid (b - 1) = f at *
      have a1 : D * f ≤ Y := by omega
      have a2 : E * f * D ≤ W * D := by
        have := Nat.mul_le_mul_right E a1
        rw [show E * f * D = D * f * E by rw [Nat.mul_comm, Nat.mul_assoc, Nat.mul_comm E f]]
        omega
      have a3 := Nat.le_of_mul_le_mul_right a2 hD
      rcases Nat.lt_or_ge (E * f) W with h3 | h3
      · exact .inr (.inl h3)
      · have e3 : E * f = W := Nat.le_antisymm a3 h3
        rcases h0 with h0 | h0
        · exfalso
          have := Nat.mul_lt_mul_of_pos_right h0 hE
          have e4 : W * D = D * f * E := by rw [← e3, Nat.mul_comm, ← Nat.mul_assoc, Nat.mul_right_comm]
          omega
        · exact .inr (.inr ⟨e3, h0.2⟩)
  · rcases g.hi with h0 | h0
    · exact .inl h0
    · generalize fmid b = f at *
      have a1 : Z ≤ C * f := by omega
      have a2 : W * C ≤ E * f * C := by
        have := Nat.mul_le_mul_right E a1
        rw [show E * f * C = C * f * E by rw [Nat.mul_comm, Nat.mul_assoc, Nat.mul_comm E f]]
        omega
      have a3 := Nat.le_of_mul_le_mul_right a2 hC
      rcases Nat.lt_or_ge W (E * f) with h3 | h3
      · exact .inr (.inl h3)
      · have e3 : W = E * f := Nat.le_antisymm a3 h3
        rcases h0 with h0 | h0
        · exfalso
          have := Nat.mul_lt_mul_of_pos_right h0 hE
          have e4 : W * C = C * f * E := by rw [e3, Nat.mul_comm, ← Nat.mul_assoc, Nat.mul_right_comm]
          omega
        · exact .inr (.inr ⟨e3, h0.2⟩)

/-- of two steps beside a fraction neither is too small -/
theorem gap_lo (b : Nat) (h : 0 < b) : ∃ u, 0 < u ∧ fval b = fval (b - 1) + u ∧ fval b ≤ 9007199254740992 * u := by
  obtain ⟨n, E, hb, hn, hE, hv, he⟩ := fbits (b - 1)
  have h1 := fval_succ (b - 1)
  rw [show b - 1 + 1 = b by omega, ← he] at h1
  refine ⟨2 ^ E, Nat.two_pow_pos E, h1, ?_⟩
  rw [h1, hv]
  have := Nat.mul_le_mul_right (2 ^ E) (show n + 1 ≤ 9007199254740992 by omega)
  rw [Nat.add_mul, Nat.one_mul] at this
  exact this
theorem gap_hi (b : Nat) : ∃ u, 0 < u ∧ fval (b + 1) = fval b + u ∧ fval b ≤ 9007199254740992 * u := by
  obtain ⟨n, E, hb, hn, hE, hv, he⟩ := fbits b
  have h1 := fval_succ b
  rw [← he] at h1
  refine ⟨2 ^ E, Nat.two_pow_pos E, h1, ?_⟩
  rw [hv]
  exact Nat.mul_le_mul_right (2 ^ E) (by omega)

theorem self_rnd {b N D : Nat} (h : IsFrac b N D) (hb : b < 9218868437227405312) : Rnd (Y75 N) D b := by
  obtain ⟨h1, h2⟩ := h
  rw [Nat.mod_eq_of_lt (by omega)] at h1
  rw [y75_x74, h1]
  refine ⟨by omega, ?_, .inr (.inl ?_)⟩
  · by_cases h0 : b = 0
    · exact .inl h0
    · obtain ⟨u, hu, e, -⟩ := gap_lo b (by omega)
      refine .inr (.inl ?_)
      unfold fmid
      rw [show b - 1 + 1 = b by omega, e]
      have := Nat.mul_pos h2 hu
      have e2 : 2 * ((fval (b - 1) + u) * D) = D * (fval (b - 1) + (fval (b - 1) + u)) + D * u := by
        simp only [Nat.mul_add, Nat.add_mul, Nat.mul_comm D]; omega
      omega
  · obtain ⟨u, hu, e, -⟩ := gap_hi b
    unfold fmid
    rw [e]
    have := Nat.mul_pos h2 hu
    have e2 : D * (fval b + (fval b + u)) = 2 * (fval b * D) + D * u := by
      simp only [Nat.mul_add, Nat.add_mul, Nat.mul_comm D]; omega
    omega

theorem low_lt {N D n : Nat} {top : Int} (hD : 0 < D) (h : Bel N D top) : lowOf N D (top - (n : Int)) < 10 ^ n := by
  unfold Bel at h
  unfold lowOf
  have hs := ten_shift top n
  have p1 := tenUp_pos (top - (n : Int))
  have p2 := tenDn_pos (top - (n : Int))
  rw [Nat.div_lt_iff_lt_mul (Nat.mul_pos hD p1)]
  refine Nat.lt_of_mul_lt_mul_right (a := tenDn top) ?_
  have h1 := Nat.mul_lt_mul_of_pos_right h p2
  have e1 : N * tenDn (top - (n : Int)) * tenDn top = N * tenDn top * tenDn (top - (n : Int)) := Nat.mul_right_comm _ _ _
  have e2 : 10 ^ n * (D * tenUp (top - (n : Int))) * tenDn top = D * (10 ^ n * tenUp (top - (n : Int)) * tenDn top) := by
    rw [Nat.mul_left_comm, Nat.mul_assoc D]
  rw [e1, e2, ← hs, ← Nat.mul_assoc]
  exact h1
theorem low_ge {N D : Nat} {top : Int} (n : Nat) (hD : 0 < D) (h : ¬ Bel N D top) : 10 ^ n ≤ lowOf N D (top - (n : Int)) := by
  unfold Bel at h
  unfold lowOf
  have hs := ten_shift top n
  have p1 := tenUp_pos (top - (n : Int))
  rw [Nat.le_div_iff_mul_le (Nat.mul_pos hD p1)]
  refine Nat.le_of_mul_le_mul_right (c := tenDn top) ?_ (tenDn_pos top)
  have h1 := Nat.mul_le_mul_right (tenDn (top - (n : Int))) (Nat.le_of_not_lt h)
  have e1 : N * tenDn (top - (n : Int)) * tenDn top = N * tenDn top * tenDn (top - (n : Int)) := Nat.mul_right_comm _ _ _
  have e2 : 10 ^ n * (D * tenUp (top - (n : Int))) * tenDn top = D * (10 ^ n * tenUp (top - (n : Int)) * tenDn top) := by
    rw [Nat.mul_left_comm, Nat.mul_assoc D]
  rw [e1, e2, ← hs, ← Nat.mul_assoc]
  exact h1
theorem low_le (N D : Nat) (k : Int) : lowOf N D k * (D * tenUp k) ≤ N * tenDn k := Nat.div_mul_le_self _ _
theorem high_ge (N D : Nat) (k : Int) (hD : 0 < D) : N * tenDn k ≤ highOf N D k * (D * tenUp k) := by
  unfold highOf lowOf
  have hQ := Nat.mul_pos hD (tenUp_pos k)
  generalize N * tenDn k = P at *
  generalize D * tenUp k = Q at *
  have h1 := Nat.div_add_mod P Q
  have h2 := Nat.mod_lt P hQ
  split
  · rw [Nat.mul_comm]; omega
  · rw [Nat.add_mul, Nat.one_mul, Nat.mul_comm (P / Q)]; omega
theorem high_le {N D x : Nat} {k : Int} (hD : 0 < D) (h : N * tenDn k ≤ x * (D * tenUp k)) : highOf N D k ≤ x := by
  unfold highOf lowOf
  have hQ := Nat.mul_pos hD (tenUp_pos k)
  generalize N * tenDn k = P at *
  generalize D * tenUp k = Q at *
  have h1 := Nat.div_add_mod P Q
  have h2 := Nat.mod_lt P hQ
  have h3 : P / Q ≤ x := by
    refine Nat.le_of_mul_le_mul_right (c := Q) ?_ hQ
    rw [Nat.mul_comm (P / Q)]; omega
  split
  · exact h3
  · rcases Nat.lt_or_ge (P / Q) x with h4 | h4
    · exact h4
    · have : P / Q = x := by omega
      rw [this, Nat.mul_comm] at h1
      omega
theorem le_low {N D x : Nat} {k : Int} (hD : 0 < D) (h : x * (D * tenUp k) ≤ N * tenDn k) : x ≤ lowOf N D k := by
  unfold lowOf
  rw [Nat.le_div_iff_mul_le (Nat.mul_pos hD (tenUp_pos k))]; exact h
end Go.Proofs.YtmieegcnfnoiiaaDoor
namespace Go.Proofs.YtmieegcnfnoiiaaDoor
set_option maxRecDepth 100000

theorem ten_ge (N D b : Nat) (top : Int) (T : Nat) (h1 : N * T = fval b * D) (hD : 0 < D) (h : ¬ Bel N D (top - 1)) :
    10 ^ 16 * (tenUp (top - (17 : Nat)) * T) ≤ fval b * tenDn (top - (17 : Nat)) := by
  unfold Bel at h
  have hs := ten_shift (top - 1) 16
  rw [show top - 1 - ((16 : Nat) : Int) = top - ((17 : Nat) : Int) by omega] at hs
  obtain ⟨k, hk⟩ : ∃ k, k = top - ((17 : Nat) : Int) := ⟨_, rfl⟩
  rw [← hk] at hs ⊢
  have p0 := tenDn_pos (top - 1)
  have h2 := Nat.mul_le_mul_right (T * tenDn k) (Nat.le_of_not_lt h)
  generalize tenUp k = u at *
  generalize tenDn k = t at *
  generalize tenUp (top - 1) = U at *
  generalize tenDn (top - 1) = V at *
  generalize fval b = f at *
  generalize 10 ^ 16 = c at *
  have e1 : D * U * (T * t) = c * (u * T) * (V * D) := by
    have : D * U * (T * t) = D * T * (U * t) := by simp only [Nat.mul_assoc, Nat.mul_comm, Nat.mul_left_comm]
    rw [this, hs]
    simp only [Nat.mul_assoc, Nat.mul_comm, Nat.mul_left_comm]
  have e2 : N * V * (T * t) = f * t * (V * D) := by
    have : N * V * (T * t) = N * T * (V * t) := by simp only [Nat.mul_assoc, Nat.mul_comm, Nat.mul_left_comm]
    rw [this, h1]
    simp only [Nat.mul_assoc, Nat.mul_comm, Nat.mul_left_comm]
  rw [e1, e2] at h2
  exact Nat.le_of_mul_le_mul_right h2 (Nat.mul_pos p0 hD)

theorem ten_small {u t f g : Nat} (h : 10 ^ 16 * u ≤ f * t) (hf : f ≤ 9007199254740992 * g) (hg : 0 < g) (ht : 0 < t) : u < g * t := by
  have h1 : (10 : Nat) ^ 16 = 10000000000000000 := by decide
  rw [h1] at h
  have h2 := Nat.mul_le_mul_right t hf
  rw [Nat.mul_assoc] at h2
  have h3 := Nat.mul_pos hg ht
  omega

theorem near_side {c u t f D Q P T b : Nat} (hD : 0 < D) (hb0 : 0 < b) (hQ : Q * T = D * u) (hP : P * T = f * D * t) (hf : f = fval b) (hT : 0 < T) (ht : 0 < t)
    (h16 : 10 ^ 16 * u ≤ f * t) (h1 : 2 * (c * Q) ≤ 2 * P + Q) (h2 : 2 * P ≤ 2 * (c * Q) + Q) :
    t * fmid (b - 1) < 2 * (c * u) ∧ 2 * (c * u) < t * fmid b := by
  obtain ⟨g, hg, eg, lg⟩ := gap_lo b hb0
  obtain ⟨g', hg', eg', lg'⟩ := gap_hi b
  rw [← hf] at eg lg eg' lg'
  have s1 := ten_small h16 lg hg ht
  have s2 := ten_small h16 lg' hg' ht
  have a1 : 2 * (c * u) ≤ 2 * (f * t) + u := by
    have := Nat.mul_le_mul_right T h1
    have e1 : 2 * (c * Q) * T = D * (2 * (c * u)) := by
      have : 2 * (c * Q) * T = 2 * c * (Q * T) := by simp only [Nat.mul_assoc, Nat.mul_comm, Nat.mul_left_comm]
      rw [this, hQ]; simp only [Nat.mul_assoc, Nat.mul_comm, Nat.mul_left_comm]
    have e2 : (2 * P + Q) * T = D * (2 * (f * t) + u) := by
      rw [Nat.add_mul, hQ, Nat.mul_assoc, hP, Nat.mul_add]
      congr 1
      simp only [Nat.mul_assoc, Nat.mul_comm, Nat.mul_left_comm]
    rw [e1, e2] at this
    exact Nat.le_of_mul_le_mul_left this hD
  have a2 : 2 * (f * t) ≤ 2 * (c * u) + u := by
    have := Nat.mul_le_mul_right T h2
    have e1 : 2 * P * T = D * (2 * (f * t)) := by
      rw [Nat.mul_assoc, hP]
      simp only [Nat.mul_assoc, Nat.mul_comm, Nat.mul_left_comm]
    have e2 : (2 * (c * Q) + Q) * T = D * (2 * (c * u) + u) := by
      have : 2 * (c * Q) * T = 2 * c * (Q * T) := by simp only [Nat.mul_assoc, Nat.mul_comm, Nat.mul_left_comm]
      rw [Nat.add_mul, this, hQ, Nat.mul_add]
      congr 1
      simp only [Nat.mul_assoc, Nat.mul_comm, Nat.mul_left_comm]
    rw [e1, e2] at this
    exact Nat.le_of_mul_le_mul_left this hD
  refine ⟨?_, ?_⟩
  · unfold fmid
    rw [show b - 1 + 1 = b by omega, ← hf]
    have e : t * (fval (b - 1) + f) + g * t = 2 * (f * t) := by
      rw [eg]; simp only [Nat.mul_add, Nat.add_mul, Nat.mul_comm t]; omega
    omega
  · unfold fmid
    rw [← hf, eg']
    have e : t * (f + (f + g')) = 2 * (f * t) + g' * t := by
      simp only [Nat.mul_add, Nat.add_mul, Nat.mul_comm t]; omega
    omega

theorem seventeen {N D b : Nat} {top : Int} (hF : IsFrac b N D) (hb : b < 9218868437227405312) (hb0 : 0 < b) (h : ¬ Bel N D (top - 1)) :
    Hits (lowOf N D (top - (17 : Nat))) (top - (17 : Nat)) b ∨ Hits (highOf N D (top - (17 : Nat))) (top - (17 : Nat)) b := by
  obtain ⟨h1, hD⟩ := hF
  rw [Nat.mod_eq_of_lt (by omega)] at h1
  obtain ⟨K, hK⟩ : ∃ K : Nat, K = 1074 := ⟨_, rfl⟩
  rw [x74_of N K hK] at h1
  have h16 := ten_ge N D b top (2 ^ K) h1 hD h
  obtain ⟨k, hk⟩ : ∃ k, k = top - ((17 : Nat) : Int) := ⟨_, rfl⟩
  rw [← hk] at h16 ⊢
  have ht := tenDn_pos k
  have hQ0 := Nat.mul_pos hD (tenUp_pos k)
  have hQ : D * tenUp k * 2 ^ K = D * (tenUp k * 2 ^ K) := Nat.mul_assoc _ _ _
  have hP : N * tenDn k * 2 ^ K = fval b * D * tenDn k := by rw [Nat.mul_right_comm, h1]
  have key : ∀ c, 2 * (c * (D * tenUp k)) ≤ 2 * (N * tenDn k) + D * tenUp k → 2 * (N * tenDn k) ≤ 2 * (c * (D * tenUp k)) + D * tenUp k → Hits c k b := by
    intro c c1 c2
    obtain ⟨g1, g2⟩ := near_side hD hb0 hQ hP rfl (Nat.two_pow_pos K) ht h16 c1 c2
    have e : Y75 (c * tenUp k) = 2 * (c * (tenUp k * 2 ^ K)) := by rw [y75_x74, x74_of _ K hK, Nat.mul_assoc]
    unfold Hits
    rw [e]
    exact ⟨by omega, .inr (.inl g1), .inr (.inl g2)⟩
  unfold highOf
  have hl : lowOf N D k = N * tenDn k / (D * tenUp k) := rfl
  have m1 := Nat.div_add_mod (N * tenDn k) (D * tenUp k)
  have m2 := Nat.mod_lt (N * tenDn k) hQ0
  rw [← hl] at m1
  generalize lowOf N D k = low at *
  generalize N * tenDn k % (D * tenUp k) = r at *
  generalize N * tenDn k = P at *
  generalize D * tenUp k = Q at *
  rw [Nat.mul_comm] at m1
  rcases Nat.lt_or_ge Q (2 * r) with hc | hc
  · right
    rw [if_neg (by omega)]
    refine key _ ?_ ?_
    · rw [Nat.add_mul, Nat.one_mul]; omega
    · rw [Nat.add_mul, Nat.one_mul]; omega
  · left
    exact key _ (by omega) (by omega)

theorem shorter {N D b n j : Nat} {top k : Int} (hF : IsFrac b N D) (hb : b < 9218868437227405312) (hb1 : ¬ Bel N D (top - 1)) (hn : n < 10 ^ (j + 1)) (h : Hits n k b) :
    Hits (lowOf N D (top - ((j + 1 : Nat) : Int))) (top - ((j + 1 : Nat) : Int)) b ∨ Hits (highOf N D (top - ((j + 1 : Nat) : Int))) (top - ((j + 1 : Nat) : Int)) b := by
  have hR := self_rnd hF hb
  obtain ⟨-, hD⟩ := hF
  have hge := low_ge (D := D) j hD hb1
  rw [show top - 1 - (j : Int) = top - ((j + 1 : Nat) : Int) by omega] at hge
  obtain ⟨kk, hkk⟩ : ∃ kk, kk = top - ((j + 1 : Nat) : Int) := ⟨_, rfl⟩
  rw [← hkk] at hge ⊢
  have pk := tenDn_pos k
  have pkk := tenDn_pos kk
  rcases Nat.lt_or_ge (n * tenUp k * D) (N * tenDn k) with hc | hc
  · -- below the fraction
    left
    have hle : n * tenUp k * tenDn kk ≤ lowOf N D kk * tenUp kk * tenDn k := by
      rcases Int.lt_or_le k kk with hl | hl
      · obtain ⟨s, hs⟩ : ∃ s : Nat, k = kk - ((s + 1 : Nat) : Int) := ⟨(kk - k - 1).toNat, by omega⟩
        have ht := ten_shift kk (s + 1)
        rw [← hs] at ht
        have h1 : n ≤ lowOf N D kk * 10 ^ (s + 1) := by
          have a1 : n ≤ 10 ^ j * 10 := by rw [← Nat.pow_succ]; omega
          have a2 : 10 ^ j * 10 ≤ lowOf N D kk * 10 ^ (s + 1) := Nat.mul_le_mul hge (by
            have := Nat.pow_le_pow_right (show 10 > 0 by decide) (show 1 ≤ s + 1 by omega)
            rw [Nat.pow_one] at this; exact this)
          omega
        rw [Nat.mul_assoc (lowOf N D kk), ht]
        have e : lowOf N D kk * (10 ^ (s + 1) * tenUp k * tenDn kk) = lowOf N D kk * 10 ^ (s + 1) * tenUp k * tenDn kk := by simp only [Nat.mul_assoc]
        rw [e]
        exact Nat.mul_le_mul_right _ (Nat.mul_le_mul_right _ h1)
      · obtain ⟨s, hs⟩ : ∃ s : Nat, kk = k - (s : Int) := ⟨(k - kk).toNat, by omega⟩
        have ht := ten_shift k s
        rw [← hs] at ht
        have h1 : n * 10 ^ s ≤ lowOf N D kk := by
          refine le_low hD ?_
          refine Nat.le_of_mul_le_mul_right (c := tenDn k) ?_ pk
          have e : n * 10 ^ s * (D * tenUp kk) * tenDn k = n * tenUp k * D * tenDn kk := by
            have e1 : n * 10 ^ s * (D * tenUp kk) * tenDn k = n * D * (10 ^ s * tenUp kk * tenDn k) := by simp only [Nat.mul_assoc, Nat.mul_comm, Nat.mul_left_comm]
            rw [e1, ← ht]; simp only [Nat.mul_assoc, Nat.mul_comm, Nat.mul_left_comm]
          rw [e, Nat.mul_right_comm N]
          exact Nat.mul_le_mul_right _ (Nat.le_of_lt hc)
        have e : n * tenUp k * tenDn kk = n * 10 ^ s * tenUp kk * tenDn k := by
          rw [Nat.mul_assoc, ht]; simp only [Nat.mul_assoc]
        rw [e]
        exact Nat.mul_le_mul_right _ (Nat.mul_le_mul_right _ h1)
    exact Rnd.between h hR pk hD pkk (y75_le _ _ _ _ hle) (y75_le _ _ _ _ (by
      have := low_le N D kk
      rw [Nat.mul_assoc, Nat.mul_comm (tenUp kk)]; exact this))
  · right
    have hkl : kk ≤ k := by
      apply Classical.byContradiction
      intro hlt
      obtain ⟨s, hs⟩ : ∃ s : Nat, k = (top - 1) - ((j + 1 + s : Nat) : Int) := ⟨(top - 1 - k - (j + 1)).toNat, by omega⟩
      have ht := ten_shift (top - 1) (j + 1 + s)
      rw [← hs] at ht
      unfold Bel at hb1
      have h1 := Nat.mul_le_mul_right (tenDn k) (Nat.le_of_not_lt hb1)
      have h2 := Nat.mul_le_mul_right (tenDn (top - 1)) hc
      have e1 : D * tenUp (top - 1) * tenDn k = 10 ^ (j + 1 + s) * (D * tenUp k * tenDn (top - 1)) := by
        rw [Nat.mul_assoc, ht]; simp only [Nat.mul_assoc, Nat.mul_comm, Nat.mul_left_comm]
      have e2 : n * tenUp k * D * tenDn (top - 1) = n * (D * tenUp k * tenDn (top - 1)) := by simp only [Nat.mul_assoc, Nat.mul_comm, Nat.mul_left_comm]
      have e3 : N * tenDn (top - 1) * tenDn k = N * tenDn k * tenDn (top - 1) := Nat.mul_right_comm _ _ _
      have h3 : 10 ^ (j + 1 + s) * (D * tenUp k * tenDn (top - 1)) ≤ n * (D * tenUp k * tenDn (top - 1)) := by
        rw [← e1, ← e2]; omega
      have h4 := Nat.le_of_mul_le_mul_right h3 (Nat.mul_pos (Nat.mul_pos hD (tenUp_pos k)) (tenDn_pos (top - 1)))
      have h5 := Nat.pow_le_pow_right (show 10 > 0 by decide) (show j + 1 ≤ j + 1 + s by omega)
      omega
    obtain ⟨s, hs⟩ : ∃ s : Nat, kk = k - (s : Int) := ⟨(k - kk).toNat, by omega⟩
    have ht := ten_shift k s
    rw [← hs] at ht
    have h1 : highOf N D kk ≤ n * 10 ^ s := by
      refine high_le hD ?_
      refine Nat.le_of_mul_le_mul_right (c := tenDn k) ?_ pk
      have e : n * 10 ^ s * (D * tenUp kk) * tenDn k = n * tenUp k * D * tenDn kk := by
        have e1 : n * 10 ^ s * (D * tenUp kk) * tenDn k = n * D * (10 ^ s * tenUp kk * tenDn k) := by simp only [Nat.mul_assoc, Nat.mul_comm, Nat.mul_left_comm]
        rw [e1, ← ht]; simp only [Nat.mul_assoc, Nat.mul_comm, Nat.mul_left_comm]
      rw [e, Nat.mul_right_comm N]
      exact Nat.mul_le_mul_right _ hc
    have hle : highOf N D kk * tenUp kk * tenDn k ≤ n * tenUp k * tenDn kk := by
      have e : n * tenUp k * tenDn kk = n * 10 ^ s * tenUp kk * tenDn k := by
        rw [Nat.mul_assoc, ht]; simp only [Nat.mul_assoc]
      rw [e]
      exact Nat.mul_le_mul_right _ (Nat.mul_le_mul_right _ h1)
    exact Rnd.between hR h hD pk pkk (y75_le _ _ _ _ (by
      have := high_ge N D kk hD
      rw [Nat.mul_assoc, Nat.mul_comm (tenUp kk)]; exact this)) (y75_le _ _ _ _ hle)
end Go.Proofs.YtmieegcnfnoiiaaDoor
