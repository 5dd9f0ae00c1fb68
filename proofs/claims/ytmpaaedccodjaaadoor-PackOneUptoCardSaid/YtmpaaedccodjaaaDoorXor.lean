/-
  Numbers of 64 bits, turned over. No conditions.
-/
import Derived.Test.YtmpaaedccodjaaaDoorGx
import Derived.Laws.BitsAllLaws
namespace Go.Proofs.YtmpaaedccodjaaaDoor
open Go.RowKit Gx

theorem xor_top (b : Nat) (h : b < 18446744073709551616) : b ^^^ 9223372036854775808 = if b < 9223372036854775808 then b + 9223372036854775808 else b - 9223372036854775808 := by
  have e1 := Nat.xor_mod_two_pow (a := b) (b := 9223372036854775808) (n := 63)
  have e2 := Nat.xor_div_two_pow (a := b) (b := 9223372036854775808) (n := 63)
  rw [show (2 : Nat) ^ 63 = 9223372036854775808 from rfl] at e1 e2
  rw [show 9223372036854775808 % 9223372036854775808 = 0 from rfl, Nat.xor_zero] at e1
  rw [show 9223372036854775808 / 9223372036854775808 = 1 from rfl] at e2
  generalize b ^^^ 9223372036854775808 = c at e1 e2 ⊢
  have h2 : b / 9223372036854775808 = 0 ∨ b / 9223372036854775808 = 1 := by omega
  rcases h2 with h2 | h2
  · rw [h2] at e2
    rw [show (0 ^^^ 1 : Nat) = 1 from rfl] at e2
    rw [if_pos (by omega)]; omega
  · rw [h2] at e2
    rw [show (1 ^^^ 1 : Nat) = 0 from rfl] at e2
    rw [if_neg (by omega)]; omega
theorem xor_all (b : Nat) (h : b < 18446744073709551616) : 18446744073709551615 ^^^ b = 18446744073709551615 - b := by
  have h1 := congrArg BitVec.toNat (BitVec.allOnes_xor (x := BitVec.ofNat 64 b))
  rw [BitVec.toNat_xor, BitVec.toNat_not, BitVec.toNat_allOnes, BitVec.toNat_ofNat, Nat.mod_eq_of_lt (show b < 2 ^ 64 from h)] at h1
  exact h1
theorem ixor_top (f : Int) (h0 : 0 ≤ f) (h1 : f ≤ 18446744073709551615) : bits .xor .u64 f 9223372036854775808 = if f < 9223372036854775808 then f + 9223372036854775808 else f - 9223372036854775808 := by
  obtain ⟨b, rfl⟩ : ∃ b : Nat, f = (b : Int) := ⟨f.toNat, by omega⟩
  have := u64_xor_nat b 9223372036854775808 (by omega) (by omega)
  rw [show ((9223372036854775808 : Nat) : Int) = 9223372036854775808 from rfl] at this
  rw [this, xor_top b (by omega)]
  by_cases h : b < 9223372036854775808
  · rw [if_pos h, if_pos (by omega)]; omega
  · rw [if_neg h, if_neg (by omega)]; omega
theorem ixor_all (f : Int) (h0 : 0 ≤ f) (h1 : f ≤ 18446744073709551615) : bits .xor .u64 IntKind.u64.max f = 18446744073709551615 - f := by
  obtain ⟨b, rfl⟩ : ∃ b : Nat, f = (b : Int) := ⟨f.toNat, by omega⟩
  have := u64_xor_nat 18446744073709551615 b (by omega) (by omega)
  rw [show ((18446744073709551615 : Nat) : Int) = IntKind.u64.max from rfl] at this
  rw [this, xor_all b (by omega)]
  show _ = (18446744073709551615 : Int) - _
  omega
end Go.Proofs.YtmpaaedccodjaaaDoor
