/-
  Plain facts on words that are moved by less than a word. No conditions.
-/
import Derived.Test.YtmieegcnfnoiiaaDoorBits32
namespace Go.Proofs.YtmieegcnfnoiiaaDoor
open Go.RowKit Gx

theorem two32 (n : Nat) (h : n ≤ 32) : 2 ^ n * 2 ^ (32 - n) = 4294967296 := by
  rw [← Nat.pow_add, show n + (32 - n) = 32 by omega]

/-- a word moved to the left, and what came out of the one before, as one word; and what comes out -/
theorem left_word (n x low : Nat) (hn : n ≤ 31) (hx : x < 4294967296) (hl : low < 2 ^ n) :
    bits BinOp.or IntKind.u32 ((x : Int) * 2 ^ n % 4294967296) (low : Int) = ((x * 2 ^ n % 4294967296 + low : Nat) : Int) ∧
    x / 2 ^ (32 - n) < 2 ^ n ∧ x * 2 ^ n % 4294967296 + low < 4294967296 ∧ x * 2 ^ n % 4294967296 + low + 4294967296 * (x / 2 ^ (32 - n)) = x * 2 ^ n + low := by
  have h2 := two32 n (by omega)
  have hP : 0 < 2 ^ n := Nat.two_pow_pos n
  have hR : 0 < 2 ^ (32 - n) := Nat.two_pow_pos _
  have hPle : 2 ^ n ≤ 2147483648 := by
    have := Nat.pow_le_pow_right (show 0 < 2 by decide) hn
    exact this
  have hshl : x % 2 ^ (32 - n) * 2 ^ n = x * 2 ^ n % 4294967296 := by
    rw [← h2, Nat.mul_comm (2 ^ n) (2 ^ (32 - n)), Nat.mul_mod_mul_right]
  have hor := Nat.shiftLeft_add_eq_or_of_lt (b := low) (i := n) hl (x % 2 ^ (32 - n))
  rw [Nat.shiftLeft_eq, hshl] at hor
  have hm : x % 2 ^ (32 - n) + 1 ≤ 2 ^ (32 - n) := Nat.mod_lt _ hR
  have hs : x * 2 ^ n % 4294967296 + low < 4294967296 := by
    have h3 := Nat.mul_le_mul_right (2 ^ n) hm
    rw [Nat.add_mul, Nat.one_mul, Nat.mul_comm (2 ^ (32 - n)) (2 ^ n), h2, hshl] at h3
    omega
  have hd : x / 2 ^ (32 - n) < 2 ^ n := by
    rw [Nat.div_lt_iff_lt_mul hR, h2]; exact hx
  refine ⟨?_, hd, hs, ?_⟩
  · have e : (x : Int) * 2 ^ n % 4294967296 = ((x * 2 ^ n % 4294967296 : Nat) : Int) := by
      rw [Int.natCast_emod, Int.natCast_mul, Int.natCast_pow]; rfl
    have hmw : x * 2 ^ n % 4294967296 < 4294967296 := Nat.mod_lt _ (by decide)
    rw [e, Go.u32_or _ _ (Int.natCast_nonneg _) (by omega) (Int.natCast_nonneg _) (by omega)]
    rw [Int.toNat_natCast, Int.toNat_natCast, hor]
  · have h4 := Nat.div_add_mod x (2 ^ (32 - n))
    have h5 : x * 2 ^ n = 4294967296 * (x / 2 ^ (32 - n)) + x % 2 ^ (32 - n) * 2 ^ n := by
      conv => lhs; rw [← h4]
      rw [Nat.add_mul, Nat.mul_comm (2 ^ (32 - n)) (x / 2 ^ (32 - n)), Nat.mul_assoc, Nat.mul_comm (2 ^ (32 - n)) (2 ^ n), h2, Nat.mul_comm (x / 2 ^ (32 - n))]
    rw [h5, hshl]; omega
end Go.Proofs.YtmieegcnfnoiiaaDoor
