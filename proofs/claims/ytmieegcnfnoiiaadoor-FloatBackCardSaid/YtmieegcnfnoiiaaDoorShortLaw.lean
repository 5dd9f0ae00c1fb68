/-
  Plain law: of a fraction's digits 17 are enough, and no fewer than the first that tell it. No conditions.
-/
import Derived.Test.YtmieegcnfnoiiaaDoorNearest
import Derived.Test.YtmieegcnfnoiiaaDoorFloatNear
namespace Go.Proofs.YtmieegcnfnoiiaaDoor
set_option maxRecDepth 100000

theorem Rnd.between {Y D Z C W E b : Nat} (h : Rnd Y D b) (g : Rnd Z C b) (hD : 0 < D) (hC : 0 < C) (hE : 0 < E) (h1 : Y * E ≤ W * D) (h2 : W * C ≤ Z * E) : Rnd W E b := by
  refine ⟨h.le, ?_, ?_⟩
  · rcases h.lo with h0 | h0
    · exact .inl h0
    · generalize fmid (b - 1) = f at *
      have a1 : D * f ≤ Y := by omega
      have a2 : E * f * D ≤ W * D := by
        have := Nat.mul_le_mul_right E a1
        rw [show E * f * D = D * f * E by rw [Nat.mul_comm, Nat.mul_assoc, Nat.mul_comm E f]]
        omega
      have a3 := Nat.le_of_mul_le_mul_right a2 hD
      rcases Nat.lt_or_ge (E * f) W with h3 | h3
      · exact .inr (.inl h3)
      · have e3 : E * f = W := Nat.le_antisymm a3 h3
        rcases h0 with h0 | h0
        · exfalso
          have := Nat.mul_lt_mul_of_pos_right h0 hE
          have e4 : W * D = D * f * E := by rw [← e3, Nat.mul_comm, ← Nat.mul_assoc, Nat.mul_right_comm]
          omega
        · exact .inr (.inr ⟨e3, h0.2⟩)
  · rcases g.hi with h0 | h0
    · exact .inl h0
    · generalize fmid b = f at *
      have a1 : Z ≤ C * f := by omega
      have a2 : W * C ≤ E * f * C := by
        have := Nat.mul_le_mul_right E a1
        rw [show E * f * C = C * f * E by rw [Nat.mul_comm, Nat.mul_assoc, Nat.mul_comm E f]]
        omega
      have a3 := Nat.le_of_mul_le_mul_right a2 hC
      rcases Nat.lt_or_ge W (E * f) with h3 | h3
      · exact .inr (.inl h3)
      · have e3 : W = E * f := Nat.le_antisymm a3 h3
        rcases h0 with h0 | h0
        · exfalso
          have := Nat.mul_lt_mul_of_pos_right h0 hE
          have e4 : W * C = C * f * E := by rw [e3, Nat.mul_comm, ← Nat.mul_assoc, Nat.mul_right_comm]
          omega
        · exact .inr (.inr ⟨e3, h0.2⟩)

/-- of two steps beside a fraction neither is too small -/
theorem gap_lo (b : Nat) (h : 0 < b) : ∃ u, 0 < u ∧ fval b = fval (b - 1) + u ∧ fval b ≤ 9007199254740992 * u := by
  obtain ⟨n, E, hb, hn, hE, hv, he⟩ := fbits (b - 1)
  have h1 := fval_succ (b - 1)
  rw [show b - 1 + 1 = b by omega, ← he] at h1
  refine ⟨2 ^ E, Nat.two_pow_pos E, h1, ?_⟩
  rw [h1, hv]
  have := Nat.mul_le_mul_right (2 ^ E) (show n + 1 ≤ 9007199254740992 by omega)
  rw [Nat.add_mul, Nat.one_mul] at this
  exact this
theorem gap_hi (b : Nat) : ∃ u, 0 < u ∧ fval (b + 1) = fval b + u ∧ fval b ≤ 9007199254740992 * u := by
  obtain ⟨n, E, hb, hn, hE, hv, he⟩ := fbits b
  have h1 := fval_succ b
  rw [← he] at h1
  refine ⟨2 ^ E, Nat.two_pow_pos E, h1, ?_⟩
  rw [hv]
  exact Nat.mul_le_mul_right (2 ^ E) (by omega)

theorem self_rnd {b N D : Nat} (h : IsFrac b N D) (hb : b < 9218868437227405312) : Rnd (Y75 N) D b := by
  obtain ⟨h1, h2⟩ := h
  rw [Nat.mod_eq_of_lt (by omega)] at h1
  rw [y75_x74, h1]
  refine ⟨by omega, ?_, .inr (.inl ?_)⟩
  · by_cases h0 : b = 0
    · exact .inl h0
    · obtain ⟨u, hu, e, -⟩ := gap_lo b (by omega)
      refine .inr (.inl ?_)
      unfold fmid
      rw [show b - 1 + 1 = b by omega, e]
      have := Nat.mul_pos h2 hu
      have e2 : 2 * ((fval (b - 1) + u) * D) = D * (fval (b - 1) + (fval (b - 1) + u)) + D * u := by
        simp only [Nat.mul_add, Nat.add_mul, Nat.mul_comm D]; omega
      omega
  · obtain ⟨u, hu, e, -⟩ := gap_hi b
    unfold fmid
    rw [e]
    have := Nat.mul_pos h2 hu
    have e2 : D * (fval b + (fval b + u)) = 2 * (fval b * D) + D * u := by
      simp only [Nat.mul_add, Nat.add_mul, Nat.mul_comm D]; omega
    omega

theorem low_lt {N D n : Nat} {top : Int} (hD : 0 < D) (h : Bel N D top) : lowOf N D (top - (n : Int)) < 10 ^ n := by
  unfold Bel at h
  unfold lowOf
  have hs := ten_shift top n
  have p1 := tenUp_pos (top - (n : Int))
  have p2 := tenDn_pos (top - (n : Int))
  rw [Nat.div_lt_iff_lt_mul (Nat.mul_pos hD p1)]
  refine Nat.lt_of_mul_lt_mul_right (a := tenDn top) ?_
  have h1 := Nat.mul_lt_mul_of_pos_right h p2
  have e1 : N * tenDn (top - (n : Int)) * tenDn top = N * tenDn top * tenDn (top - (n : Int)) := Nat.mul_right_comm _ _ _
  have e2 : 10 ^ n * (D * tenUp (top - (n : Int))) * tenDn top = D * (10 ^ n * tenUp (top - (n : Int)) * tenDn top) := by
    rw [Nat.mul_left_comm, Nat.mul_assoc D]
  rw [e1, e2, ← hs, ← Nat.mul_assoc]
  exact h1
theorem low_ge {N D : Nat} {top : Int} (n : Nat) (hD : 0 < D) (h : ¬ Bel N D top) : 10 ^ n ≤ lowOf N D (top - (n : Int)) := by
  unfold Bel at h
  unfold lowOf
  have hs := ten_shift top n
  have p1 := tenUp_pos (top - (n : Int))
  rw [Nat.le_div_iff_mul_le (Nat.mul_pos hD p1)]
  refine Nat.le_of_mul_le_mul_right (c := tenDn top) ?_ (tenDn_pos top)
  have h1 := Nat.mul_le_mul_right (tenDn (top - (n : Int))) (Nat.le_of_not_lt h)
  have e1 : N * tenDn (top - (n : Int)) * tenDn top = N * tenDn top * tenDn (top - (n : Int)) := Nat.mul_right_comm _ _ _
  have e2 : 10 ^ n * (D * tenUp (top - (n : Int))) * tenDn top = D * (10 ^ n * tenUp (top - (n : Int)) * tenDn top) := by
    rw [Nat.mul_left_comm, Nat.mul_assoc D]
  rw [e1, e2, ← hs, ← Nat.mul_assoc]
  exact h1
theorem low_le (N D : Nat) (k : Int) : lowOf N D k * (D * tenUp k) ≤ N * tenDn k := Nat.div_mul_le_self _ _
theorem high_ge (N D : Nat) (k : Int) (hD : 0 < D) : N * tenDn k ≤ highOf N D k * (D * tenUp k) := by
  unfold highOf lowOf
  have hQ := Nat.mul_pos hD (tenUp_pos k)
  generalize N * tenDn k = P at *
  generalize D * tenUp k = Q at *
  have h1 := Nat.div_add_mod P Q
  have h2 := Nat.mod_lt P hQ
  split
  · rw [Nat.mul_comm]; omega
  · rw [Nat.add_mul, Nat.one_mul, Nat.mul_comm (P / Q)]; omega
theorem high_le {N D x : Nat} {k : Int} (hD : 0 < D) (h : N * tenDn k ≤ x * (D * tenUp k)) : highOf N D k ≤ x := by
  unfold highOf lowOf
  have hQ := Nat.mul_pos hD (tenUp_pos k)
  generalize N * tenDn k = P at *
  generalize D * tenUp k = Q at *
  have h1 := Nat.div_add_mod P Q
  have h2 := Nat.mod_lt P hQ
  have h3 : P / Q ≤ x := by
    refine Nat.le_of_mul_le_mul_right (c := Q) ?_ hQ
    rw [Nat.mul_comm (P / Q)]; omega
  split
  · exact h3
  · rcases Nat.lt_or_ge (P / Q) x with h4 | h4
    · exact h4
    · have : P / Q = x := by omega
      rw [this, Nat.mul_comm] at h1
      omega
theorem le_low {N D x : Nat} {k : Int} (hD : 0 < D) (h : x * (D * tenUp k) ≤ N * tenDn k) : x ≤ lowOf N D k := by
  unfold lowOf
  rw [Nat.le_div_iff_mul_le (Nat.mul_pos hD (tenUp_pos k))]; exact h
end Go.Proofs.YtmieegcnfnoiiaaDoor
