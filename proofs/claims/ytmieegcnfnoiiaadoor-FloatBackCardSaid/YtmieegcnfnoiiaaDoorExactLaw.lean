/-
  Plain law: no other fraction is nearer than the nearest one; of two as near it is the even one. No conditions.
-/
import Derived.Test.YtmieegcnfnoiiaaDoorNearLaw
namespace Go.Proofs.YtmieegcnfnoiiaaDoor
set_option maxRecDepth 100000

/-- how far two numbers are apart -/
def dist (a b : Nat) : Nat := (a - b) + (b - a)

/-- the midpoints, without the sum's text -/
theorem fmid_up {b c : Nat} (h : b < c) : fmid b ≤ fval b + fval c := by
  have := fval_le (show b + 1 ≤ c by omega)
  unfold fmid; omega
theorem fmid_dn {b c : Nat} (h : c < b) : fval b + fval c ≤ fmid (b - 1) := by
  have := fval_le (show c ≤ b - 1 by omega)
  unfold fmid
  rw [show b - 1 + 1 = b by omega]; omega

theorem near_far {Z Y D b c : Nat} (hY : Y = 2 * Z) (h : Rnd Y D b) (hD : 0 < D) (hb : b ≠ 9218868437227405312) (hne : b ≠ c) :
    dist Z (D * fval b) < dist Z (D * fval c) ∨ (dist Z (D * fval b) = dist Z (D * fval c) ∧ b % 2 = 0) := by
  unfold dist
  rcases Nat.lt_or_ge b c with h1 | h1
  · have h2 := h.hi.resolve_left hb
    have h3 := Nat.mul_le_mul_left D (fmid_up h1)
    have h4 := Nat.mul_lt_mul_of_pos_left (fval_lt h1) hD
    rw [Nat.mul_add] at h3
    omega
  · have h1 : c < b := by omega
    have h2 := h.lo.resolve_left (by omega)
    have h3 := Nat.mul_le_mul_left D (fmid_dn h1)
    have h4 := Nat.mul_lt_mul_of_pos_left (fval_lt h1) hD
    rw [Nat.mul_add] at h3
    omega

theorem dist_mul (a b k : Nat) : dist a b * k = dist (a * k) (b * k) := by
  unfold dist
  rw [Nat.add_mul, Nat.sub_mul, Nat.sub_mul]

/-- the same of the two fractions' own parts: A / B = p / T, C / E = q / T -/
theorem dist_parts {n D A B C E p q T : Nat} (hT : 0 < T) (hB : 0 < B) (hE : 0 < E) (h1 : A * T = p * B) (h2 : C * T = q * E) :
    (dist (n * T) (D * p) < dist (n * T) (D * q) → dist (n * B) (A * D) * (D * E) < dist (n * E) (C * D) * (D * B) ∨ D = 0) ∧
    (dist (n * T) (D * p) = dist (n * T) (D * q) → dist (n * B) (A * D) * (D * E) = dist (n * E) (C * D) * (D * B)) := by
  have e1 : dist (n * B) (A * D) * (D * E) * T = dist (n * T) (D * p) * (B * E * D) := by
    rw [Nat.mul_assoc, dist_mul, dist_mul]
    congr 1
    · simp only [Nat.mul_assoc, Nat.mul_comm, Nat.mul_left_comm]
    · have : A * D * (D * E * T) = A * T * (D * (D * E)) := by simp only [Nat.mul_assoc, Nat.mul_comm, Nat.mul_left_comm]
      rw [this, h1]
      simp only [Nat.mul_assoc, Nat.mul_comm, Nat.mul_left_comm]
  have e2 : dist (n * E) (C * D) * (D * B) * T = dist (n * T) (D * q) * (B * E * D) := by
    rw [Nat.mul_assoc, dist_mul, dist_mul]
    congr 1
    · simp only [Nat.mul_assoc, Nat.mul_comm, Nat.mul_left_comm]
    · have : C * D * (D * B * T) = C * T * (D * (D * B)) := by simp only [Nat.mul_assoc, Nat.mul_comm, Nat.mul_left_comm]
      rw [this, h2]
      simp only [Nat.mul_assoc, Nat.mul_comm, Nat.mul_left_comm]
  refine ⟨fun h => ?_, fun h => ?_⟩
  · rcases Nat.eq_zero_or_pos D with hD | hD
    · exact .inr hD
    · refine .inl (Nat.lt_of_mul_lt_mul_right (a := T) ?_)
      rw [e1, e2]
      exact Nat.mul_lt_mul_of_pos_right h (Nat.mul_pos (Nat.mul_pos hB hE) hD)
  · refine Nat.eq_of_mul_eq_mul_right hT ?_
    rw [e1, e2, h]
end Go.Proofs.YtmieegcnfnoiiaaDoor
