/-
  The walk of typecasekeep.FloatOrder. No conditions.
-/
import Derived.Test.YtmieegcnfnoiiaaDoorParts
namespace Go.Proofs.YtmieegcnfnoiiaaDoor
open Go.RowKit Gx
set_option maxRecDepth 100000

def TruePost2 (w : World) (e : Ending) (w' : World) : Prop := e = .returned (.bool true) ∧ Below w.heap.size w w'

theorem ten_shift (e : Int) (k : Nat) : tenUp e * tenDn (e - (k : Int)) = 10 ^ k * tenUp (e - (k : Int)) * tenDn e := by
  unfold tenUp tenDn
  rw [← Nat.pow_add, ← Nat.pow_add, ← Nat.pow_add]
  congr 1
  omega
theorem y75_mul (N C M D : Nat) (h : N * C = M * D) : Y75 N * C = Y75 M * D := by
  unfold Y75
  obtain ⟨K, hK⟩ : ∃ K : Nat, K = 1075 := ⟨_, rfl⟩
  rw [← hK]
  generalize 2 ^ K = u
  rw [Nat.mul_right_comm, h, Nat.mul_right_comm]
theorem y75_le (N C M D : Nat) (h : N * C ≤ M * D) : Y75 N * C ≤ Y75 M * D := by
  unfold Y75
  obtain ⟨K, hK⟩ : ∃ K : Nat, K = 1075 := ⟨_, rfl⟩
  rw [← hK]
  generalize 2 ^ K = u
  rw [Nat.mul_right_comm, Nat.mul_right_comm M]
  exact Nat.mul_le_mul_right _ h

theorem cmp_two' (ad bd : Option Addr) (ca cb : Nat) (xs ys : List Int) (w : World) (N M : Nat) (h : Rd .u32 w ad ca xs) (g : Rd .u32 w bd cb ys) (hx : bval xs = N) (hy : bval ys = M) (lx : xs.length ≤ 1000000) (ly : ys.length ≤ 1000000) :
    Calls Tryd.prog 15 #[.slice ad xs.length ca, .slice bd ys.length cb] w (CmpPost N M w) := by
  subst hx; subst hy; exact bigCmp_any ad bd ca cb xs ys w h g (by omega) (by omega)
theorem near_two' (ad : Option Addr) (ca : Nat) (xs : List Int) (w : World) (N : Nat) (exp : Int) (h : Rd .u32 w ad ca xs) (hx : bval xs = N) (hl : xs.length ≤ 1000) (h1 : -1000 ≤ exp) (h2 : exp ≤ 1000) (hb : blen N ≤ 1280) :
    Calls Tryd.prog 12 #[.slice ad xs.length ca, .int .i64 exp] w (NearPost (N * tenUp exp) (tenDn exp) w) := by
  subst hx; exact near_any ad ca xs exp w h hl h1 h2 hb

set_option maxHeartbeats 4000000 in
theorem floatOrder_out (ad : Option Addr) (ca n0 : Nat) (bd : Option Addr) (cb n1 : Nat) (e k : Int) (w : World) (h : 10 < n0 ∨ 10 < n1 ∨ e < -400 ∨ 400 < e ∨ k < 0 ∨ 20 < k) :
    Calls Tryd.prog 4 #[.slice ad n0 ca, .slice bd n1 cb, .int .i64 e, .int .i64 k] w (TruePost2 w) := by
  have H := Lib.hid (floats_any w)
  by_cases h0 : 10 < n0
  · have t0 : decide ((10 : Int) < (n0 : Int)) = true := decide_eq_true (by omega)
    clear h h0
    go_enter Tryd.func4, Tryd.ntmps4
    go_wp2_with fail
    refine H.out.mono ?_
    rintro e w1 ⟨rfl, rfl⟩
    go_wp2
    go_ret
    exact ⟨rfl, Below.refl _ _⟩
  have t0 : decide ((10 : Int) < (n0 : Int)) = false := decide_eq_false (by omega)
  by_cases h1 : 10 < n1
  · have t1 : decide ((10 : Int) < (n1 : Int)) = true := decide_eq_true (by omega)
    clear h h0 h1
    go_enter Tryd.func4, Tryd.ntmps4
    go_wp2_with fail
    refine H.out.mono ?_
    rintro e w1 ⟨rfl, rfl⟩
    go_wp2
    go_ret
    exact ⟨rfl, Below.refl _ _⟩
  have t1 : decide ((10 : Int) < (n1 : Int)) = false := decide_eq_false (by omega)
  by_cases h2 : e < -400
  · have t2 : decide (e < -400) = true := decide_eq_true (by omega)
    clear h h0 h1 h2
    go_enter Tryd.func4, Tryd.ntmps4
    go_wp2_with fail
    refine H.out.mono ?_
    rintro e w1 ⟨rfl, rfl⟩
    go_wp2
    go_ret
    exact ⟨rfl, Below.refl _ _⟩
  have t2 : decide (e < -400) = false := decide_eq_false (by omega)
  by_cases h3 : 400 < e
  · have t3 : decide (400 < e) = true := decide_eq_true (by omega)
    clear h h0 h1 h2 h3
    go_enter Tryd.func4, Tryd.ntmps4
    go_wp2_with fail
    refine H.out.mono ?_
    rintro e w1 ⟨rfl, rfl⟩
    go_wp2
    go_ret
    exact ⟨rfl, Below.refl _ _⟩
  have t3 : decide (400 < e) = false := decide_eq_false (by omega)
  by_cases h4 : k < 0
  · have t4 : decide (k < 0) = true := decide_eq_true (by omega)
    clear h h0 h1 h2 h3 h4
    go_enter Tryd.func4, Tryd.ntmps4
    go_wp2_with fail
    refine H.out.mono ?_
    rintro e w1 ⟨rfl, rfl⟩
    go_wp2
    go_ret
    exact ⟨rfl, Below.refl _ _⟩
  have t4 : decide (k < 0) = false := decide_eq_false (by omega)
  have t5 : decide (20 < k) = true := decide_eq_true (by omega)
  clear h h0 h1 h2 h3 h4
  go_enter Tryd.func4, Tryd.ntmps4
  go_wp2_with fail
  refine H.out.mono ?_
  rintro e w1 ⟨rfl, rfl⟩
  go_wp2
  go_ret
  exact ⟨rfl, Below.refl _ _⟩

set_option maxHeartbeats 4000000 in
theorem floatOrder_in (ad : Option Addr) (ca : Nat) (xs : List Int) (bd : Option Addr) (cb : Nat) (ys : List Int) (e : Int) (k : Nat) (w : World) (h : Rd .u32 w ad ca xs) (g : Rd .u32 w bd cb ys) (l0 : xs.length ≤ 10) (l1 : ys.length ≤ 10) (e1 : -400 ≤ e) (e2 : e ≤ 400) (k1 : k ≤ 20) :
    Calls Tryd.prog 4 #[.slice ad xs.length ca, .slice bd ys.length cb, .int .i64 e, .int .i64 k] w (TruePost2 w) := by
  have HF := Lib.hid (floats_any w)
  obtain ⟨x, hx⟩ : ∃ x, x = bval xs := ⟨_, rfl⟩
  obtain ⟨y, hy⟩ : ∃ x, x = bval ys := ⟨_, rfl⟩
  have fx : Fits x 10 := by rw [hx]; exact (Fits.words (words_of_rd h)).mono l0
  have fy : Fits y 10 := by rw [hy]; exact (Fits.words (words_of_rd g)).mono l1
  have ft : Fits (10 ^ k) 3 := ten_fitsK k 3 (by omega)
  have fxt := fx.mul ft
  have bx := blen_of_fits _ _ fx
  have by' := blen_of_fits _ _ fy
  have bxt := blen_of_fits _ _ fxt
  have lt := ft.len
  have lxt := fxt.len
  have H1 := fun w0 (hb : Below w.heap.size w w0) => near_two' ad ca xs w0 x e (h.keep hb) hx.symm (by omega) (by omega) (by omega) (by omega)
  have H2 := fun w0 (hb : Below w.heap.size w w0) => near_two' bd cb ys w0 y e (g.keep hb) hy.symm (by omega) (by omega) (by omega) (by omega)
  have H3 := fun w0 => bigPow_any 10 k w0 (by decide) (by omega)
  have H4 := fun w0 (hb : Below w.heap.size w w0) po pc (hr : Rd .u32 w0 po pc (canon (10 ^ k))) => mul_two ad po ca pc xs (canon (10 ^ k)) w0 x (10 ^ k) (h.keep hb) hr hx.symm (bval_canon _) (by omega) (by omega)
  have H5 := fun w0 po pc (hr : Rd .u32 w0 po pc (canon (x * 10 ^ k))) => near_two' po pc (canon (x * 10 ^ k)) w0 (x * 10 ^ k) (e - (k : Int)) hr (bval_canon _) (by omega) (by omega) (by omega) (by omega)
  have H6 := fun w0 (hb : Below w.heap.size w w0) => cmp_two' ad bd ca cb xs ys w0 x y (h.keep hb) (g.keep hb) hx.symm hy.symm (by omega) (by omega)
  unfold NearPost at H1 H2 H5
  unfold SubPost at H3
  unfold WordsPost at H4
  unfold CmpPost at H6
  have hts := ten_shift e k
  have hd1 := tenDn_pos e
  have hd2 := tenDn_pos (e - (k : Int))
  have huniq : ∀ b c, Rnd (Y75 (x * tenUp e)) (tenDn e) b → Rnd (Y75 (x * 10 ^ k * tenUp (e - (k : Int)))) (tenDn (e - (k : Int))) c → b = c := by
    intro b c hb hc
    refine hb.uniq hc hd1 hd2 (y75_mul _ _ _ _ ?_)
    rw [Nat.mul_assoc, hts, Nat.mul_assoc, Nat.mul_assoc, Nat.mul_assoc]
  have hmono : x ≤ y → ∀ b c, Rnd (Y75 (x * tenUp e)) (tenDn e) b → Rnd (Y75 (y * tenUp e)) (tenDn e) c → b ≤ c := by
    intro hxy b c hb hc
    exact hb.mono hc hd1 hd1 (y75_le _ _ _ _ (Nat.mul_le_mul_right _ (Nat.mul_le_mul_right _ hxy)))
  obtain ⟨n0, hn0⟩ : ∃ n, n = xs.length := ⟨_, rfl⟩
  obtain ⟨n1, hn1⟩ : ∃ n, n = ys.length := ⟨_, rfl⟩
  rw [← hn0] at H1 H4 H6 l0 ⊢
  rw [← hn1] at H2 H6 l1 ⊢
  replace H1 := Lib.hid H1
  replace H2 := Lib.hid H2
  replace H3 := Lib.hid H3
  replace H4 := Lib.hid H4
  replace H5 := Lib.hid H5
  replace H6 := Lib.hid H6
  replace huniq := Lib.hid huniq
  replace hmono := Lib.hid hmono
  have t0 : decide ((10 : Int) < (n0 : Int)) = false := decide_eq_false (by omega)
  have t1 : decide ((10 : Int) < (n1 : Int)) = false := decide_eq_false (by omega)
  have t2 : decide (e < -400) = false := decide_eq_false (by omega)
  have t3 : decide (400 < e) = false := decide_eq_false (by omega)
  have t5 : decide ((20 : Int) < (k : Int)) = false := decide_eq_false (by omega)
  have k2 : (0 : Int) ≤ (k : Int) := by omega
  have k3 : (k : Int) ≤ 20 := by omega
  clear h g hx hy fx fy ft fxt bx by' bxt lt lxt hts hd1 hd2 hn0 hn1 l0 l1 k1
  go_enter Tryd.func4, Tryd.ntmps4
  go_wp2_with fail
  refine HF.out.mono ?_
  rintro e0 w1 ⟨rfl, rfl⟩
  go_wp2_with fail
  refine (H1.out w (Below.refl _ _)).mono ?_
  rintro e0 w1 ⟨b1, rfl, hr, hb⟩
  have R1 := Lib.hid hr
  have B1 := Lib.hid hb
  clear hr hb
  go_wp2_with fail
  refine (H2.out w1 B1.out).mono ?_
  rintro e0 w2 ⟨b2, rfl, hr, hb⟩
  have R2 := Lib.hid hr
  have B2 := Lib.hid (B1.out.trans (hb.mono B1.out.size))
  clear hr hb B1
  go_wp2_with fail
  refine (H3.out w2).mono ?_
  rintro e0 w3 ⟨po, pc, rfl, hr, hb⟩
  have P3 := Lib.hid hr
  have B3 := Lib.hid (B2.out.trans (hb.mono B2.out.size))
  clear hr hb B2
  go_wp2_with fail
  refine (H4.out w3 B3.out _ _ P3.out).mono ?_
  rintro e0 w4 ⟨mo, mc, rfl, hr, hb⟩
  have M4 := Lib.hid hr
  have B4 := Lib.hid (B3.out.trans (hb.mono B3.out.size))
  clear hr hb B3 P3
  go_wp2_with fail
  refine (H5.out w4 _ _ M4.out).mono ?_
  rintro e0 w5 ⟨b3, rfl, hr, hb⟩
  obtain rfl := huniq.out b1 b3 R1.out hr
  have B5 := Lib.hid (B4.out.trans (hb.mono B4.out.size))
  clear hr hb B4 M4
  go_wp2_with fail
  refine (H6.out w5 B5.out).mono ?_
  rintro e0 w6 ⟨rfl, hb⟩
  have B6 := Lib.hid (B5.out.trans (hb.mono B5.out.size))
  clear hb B5
  rcases Nat.lt_or_ge y x with h1 | h1
  · rw [cmp_gt h1]
    clear h1
    go_wp2
    go_ret
    exact ⟨rfl, B6.out⟩
  · have hle := hmono.out h1 b1 b2 R1.out R2.out
    have hc : cmpOf x y ≤ 0 := by unfold cmpOf; split; decide; rw [if_neg (by omega)]; decide
    generalize cmpOf x y = c at *
    have t6 : decide (0 < c) = false := decide_eq_false (by omega)
    have t7 : decide ((b1 : Int) ≤ (b2 : Int)) = true := decide_eq_true (by omega)
    have t8 : decide (b1 ≤ b2) = true := decide_eq_true hle
    clear h1 hle
    go_wp2
    go_ret
    exact ⟨rfl, B6.out⟩

theorem floatOrder_walk (ad : Option Addr) (ca : Nat) (xs : List Int) (bd : Option Addr) (cb : Nat) (ys : List Int) (e k : Int) (w : World) (h : Rd .u32 w ad ca xs) (g : Rd .u32 w bd cb ys) :
    Calls Tryd.prog 4 #[.slice ad xs.length ca, .slice bd ys.length cb, .int .i64 e, .int .i64 k] w (TruePost2 w) := by
  by_cases ho : 10 < xs.length ∨ 10 < ys.length ∨ e < -400 ∨ 400 < e ∨ k < 0 ∨ 20 < k
  · exact floatOrder_out ad ca _ bd cb _ e k w ho
  · obtain ⟨n, rfl⟩ : ∃ n : Nat, k = n := ⟨k.toNat, by omega⟩
    exact floatOrder_in ad ca xs bd cb ys e n w h g (by omega) (by omega) (by omega) (by omega) (by omega)
end Go.Proofs.YtmieegcnfnoiiaaDoor
