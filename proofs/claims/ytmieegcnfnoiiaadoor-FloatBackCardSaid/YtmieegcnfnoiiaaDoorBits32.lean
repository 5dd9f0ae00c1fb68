/-
  The contracts of bits.Add32 and bits.Sub32. Conditions: words of 32 bits; what is carried is 0 or 1.
-/
import Derived.Test.YtmieegcnfnoiiaaDoorProg
import Derived.WalkLawsBesides
import Derived.Deep.DeepFit
import Derived.Laws.BitsAllLaws
import Derived.Test.YtmieegcnfnoiiaaDoorRd
namespace Go.Proofs.YtmieegcnfnoiiaaDoor
open Go.RowKit Gx
set_option maxRecDepth 100000

def TwoWords (a b : Int) (w : World) (e : Ending) (w' : World) : Prop := e = .returned (.tuple #[.int .u32 a, .int .u32 b]) ∧ w = w'

def borrowOf (x y c : Int) : Int := if x < y + c then 1 else 0

theorem div31 (n : Nat) (h : n < 4294967296) : n / 2147483648 = if n.testBit 31 then 1 else 0 := by
  rw [Nat.testBit_eq_decide_div_mod_eq]
  have h2 : n / 2147483648 < 2 := by omega
  by_cases h1 : n / 2 ^ 31 % 2 = 1
  · simp only [h1, decide_true, if_true]
    have : (2 : Nat) ^ 31 = 2147483648 := by decide
    rw [this] at h1; omega
  · simp only [h1, decide_false]
    have : (2 : Nat) ^ 31 = 2147483648 := by decide
    rw [this] at h1; simp; omega
theorem top31 (n : Nat) (h : n < 4294967296) : n.testBit 31 = decide (2147483648 ≤ n) := by
  rw [Nat.testBit_eq_decide_div_mod_eq]
  have : (2 : Nat) ^ 31 = 2147483648 := by decide
  rw [this]
  by_cases h1 : 2147483648 ≤ n
  · simp [h1]; omega
  · simp [h1]; omega
theorem borrow_nat (x y c d : Nat) (hx : x < 4294967296) (hy : y < 4294967296) (hc : c ≤ 1) (hd : d < 4294967296) (e : (x + 8589934592 - y - c) % 4294967296 = d) :
    (((4294967295 ^^^ x) &&& y) ||| ((4294967295 ^^^ (x ^^^ y)) &&& d)) / 2147483648 = if x < y + c then 1 else 0 := by
  have h32 : (4294967296 : Nat) = 2 ^ 32 := by decide
  have hb : (((4294967295 ^^^ x) &&& y) ||| ((4294967295 ^^^ (x ^^^ y)) &&& d)) < 4294967296 := by
    rw [h32] at *
    exact Nat.or_lt_two_pow (Nat.lt_of_le_of_lt Nat.and_le_right hy) (Nat.lt_of_le_of_lt Nat.and_le_right hd)
  rw [div31 _ hb]
  have hm : Nat.testBit 4294967295 31 = true := by decide
  simp only [Nat.testBit_or, Nat.testBit_and, Nat.testBit_xor, hm, top31 x hx, top31 y hy, top31 d hd]
  by_cases h1 : 2147483648 ≤ x <;> by_cases h2 : 2147483648 ≤ y <;> by_cases h3 : 2147483648 ≤ d <;> by_cases h4 : x < y + c <;> simp [h1, h2, h3, h4] <;> omega

theorem borrow_word (x y c : Int) (hx : 0 ≤ x) (hx' : x ≤ 4294967295) (hy : 0 ≤ y) (hy' : y ≤ 4294967295) (hc : 0 ≤ c) (hc' : c ≤ 1) :
    bits BinOp.or IntKind.u32 (bits BinOp.and IntKind.u32 (bits BinOp.xor IntKind.u32 IntKind.u32.max x) y)
      (bits BinOp.and IntKind.u32 (bits BinOp.xor IntKind.u32 IntKind.u32.max (bits BinOp.xor IntKind.u32 x y)) ((x - y - c) % 4294967296)) / 2147483648 = borrowOf x y c := by
  obtain ⟨x, rfl⟩ := Int.eq_ofNat_of_zero_le hx
  obtain ⟨y, rfl⟩ := Int.eq_ofNat_of_zero_le hy
  obtain ⟨c, rfl⟩ := Int.eq_ofNat_of_zero_le hc
  obtain ⟨d, hd⟩ : ∃ d : Nat, d = (x + 8589934592 - y - c) % 4294967296 := ⟨_, rfl⟩
  have e : (((x : Int) - y - c) % 4294967296) = (d : Int) := by omega
  have em : IntKind.u32.max = ((4294967295 : Nat) : Int) := by decide
  have hd2 : d < 4294967296 := by omega
  have h32 : (4294967296 : Nat) = 2 ^ 32 := by decide
  have hM : (4294967295 : Nat) < 4294967296 := by decide
  have h1 : (4294967295 ^^^ x) < 4294967296 := by rw [h32]; exact Nat.xor_lt_two_pow (by decide) (by omega)
  have h2 : (x ^^^ y) < 4294967296 := by rw [h32]; exact Nat.xor_lt_two_pow (by omega) (by omega)
  have h3 : (4294967295 ^^^ (x ^^^ y)) < 4294967296 := by rw [h32]; exact Nat.xor_lt_two_pow (by decide) (by rw [← h32]; exact h2)
  have h4 : (4294967295 ^^^ x) &&& y < 4294967296 := Nat.lt_of_le_of_lt Nat.and_le_right (by omega)
  have h5 : (4294967295 ^^^ (x ^^^ y)) &&& d < 4294967296 := Nat.lt_of_le_of_lt Nat.and_le_right (by omega)
  rw [e, em, u32_xor_nat _ _ hM (by omega), u32_xor_nat _ _ (by omega) (by omega), u32_xor_nat _ _ hM h2, u32_and_nat _ _ h1 (by omega), u32_and_nat _ _ h3 hd2, u32_or_nat _ _ h4 h5]
  have := borrow_nat x y c d (by omega) (by omega) (by omega) hd2 hd.symm
  unfold borrowOf
  by_cases h : x < y + c
  · rw [if_pos h] at this; rw [if_pos (by omega)]; omega
  · rw [if_neg h] at this; rw [if_neg (by omega)]; omega

set_option maxHeartbeats 400000 in
theorem add32_any (x y c : Int) (w : World) (hx : 0 ≤ x) (hx' : x ≤ 4294967295) (hy : 0 ≤ y) (hy' : y ≤ 4294967295) (hc : 0 ≤ c) (hc' : c ≤ 1) :
    Calls Tryd.prog 57 #[.int .u32 x, .int .u32 y, .int .u32 c] w (TwoWords ((x + y + c) % 4294967296) ((x + y + c) / 4294967296) w) := by
  go_enter Tryd.func57, Tryd.ntmps57
  go_wp2
  go_ret2
  exact ⟨rfl, rfl⟩

set_option maxHeartbeats 400000 in
theorem sub32_any (x y c : Int) (w : World) (hx : 0 ≤ x) (hx' : x ≤ 4294967295) (hy : 0 ≤ y) (hy' : y ≤ 4294967295) (hc : 0 ≤ c) (hc' : c ≤ 1) :
    Calls Tryd.prog 61 #[.int .u32 x, .int .u32 y, .int .u32 c] w (TwoWords ((x - y - c) % 4294967296) (borrowOf x y c) w) := by
  have H := Lib.hid (borrow_word x y c hx hx' hy hy' hc hc')
  go_enter Tryd.func61, Tryd.ntmps61
  go_wp2
  go_ret2
  refine ⟨?_, rfl⟩
  rw [← H.out]; rfl
end Go.Proofs.YtmieegcnfnoiiaaDoor
