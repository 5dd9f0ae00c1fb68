/-
  The contract of bits.Div32. Condition: the upper word is less than the divisor.
-/
import Derived.Test.YtmieegcnfnoiiaaDoorBits32
import Derived.Laws.Bits64b
namespace Go.Proofs.YtmieegcnfnoiiaaDoor
open Go.RowKit Gx
set_option maxRecDepth 100000

theorem or_word (hi lo : Int) (hh : 0 ≤ hi) (hh' : hi ≤ 4294967295) (hl : 0 ≤ lo) (hl' : lo ≤ 4294967295) : bits BinOp.or IntKind.u64 (hi * 4294967296) lo = hi * 4294967296 + lo := by
  obtain ⟨a, rfl⟩ := Int.eq_ofNat_of_zero_le hh
  obtain ⟨b, rfl⟩ := Int.eq_ofNat_of_zero_le hl
  have e : (a : Int) * 4294967296 = ((a * 4294967296 : Nat) : Int) := by omega
  rw [e, bits_or_u64_nat _ _ (by omega) (by omega)]
  have h := Nat.shiftLeft_add_eq_or_of_lt (b := b) (i := 32) (by omega) a
  rw [Nat.shiftLeft_eq] at h
  have h2 : (2 : Nat) ^ 32 = 4294967296 := by decide
  rw [h2] at h
  rw [← h]; omega

def DivPost (a b : Int) (w : World) (e : Ending) (w' : World) : Prop := e = .returned (.tuple #[.int .u32 a, .int .u32 b]) ∧ ∃ n, w' = w.drewN n

set_option maxHeartbeats 400000 in
theorem div32_any (hi lo y : Int) (w : World) (hh : 0 ≤ hi) (hl : 0 ≤ lo) (hl' : lo ≤ 4294967295) (hy' : y ≤ 4294967295) (hy : hi < y) :
    Calls Tryd.prog 44 #[.int .u32 hi, .int .u32 lo, .int .u32 y] w (DivPost ((hi * 4294967296 + lo) / y) ((hi * 4294967296 + lo) % y) w) := by
  have hb : ((y : Int) != 0) = true := by simp; omega
  have hb1 : decide (y ≤ hi) = false := by simp; omega
  have hor := or_word hi lo hh (by omega) hl hl'
  obtain ⟨z, hz⟩ : ∃ z, z = hi * 4294967296 + lo := ⟨_, rfl⟩
  have hz0 : 0 ≤ z := by omega
  have hz1 : z ≤ 18446744073709551615 := by omega
  have hq0 : 0 ≤ z / y := Int.ediv_nonneg hz0 (by omega)
  have hq1 : z / y ≤ 4294967295 := by
    have : z / y < 4294967296 := Int.ediv_lt_of_lt_mul (by omega) (by
      have : (hi + 1) * 4294967296 ≤ y * 4294967296 := Int.mul_le_mul_of_nonneg_right (by omega) (by decide)
      rw [Int.mul_comm 4294967296 y]; omega)
    omega
  have hr0 : 0 ≤ z % y := Int.emod_nonneg _ (by omega)
  have hr1 : z % y ≤ 4294967295 := by have := Int.emod_lt_of_pos z (show 0 < y by omega); omega
  rw [← hz] at hor ⊢
  clear hz
  have hy1 : 1 ≤ y := by omega
  have hd1 : z.tdiv y = z / y := Int.tdiv_eq_ediv_of_nonneg hz0
  have hd2 : z.tmod y = z % y := Int.tmod_eq_emod_of_nonneg hz0
  have hw1 : IntKind.u64.wrap (z / y) = z / y := by rw [IntKind.wrap_u64]; omega
  have hm1 : z / y % 4294967296 = z / y := by omega
  have hm2 : z % y % 4294967296 = z % y := by omega
  go_enter Tryd.func44, Tryd.ntmps44
  go_wp2
  go_quiet (fail)
  go_wp2
  go_ret2
  exact ⟨rfl, _, rfl⟩
end Go.Proofs.YtmieegcnfnoiiaaDoor
