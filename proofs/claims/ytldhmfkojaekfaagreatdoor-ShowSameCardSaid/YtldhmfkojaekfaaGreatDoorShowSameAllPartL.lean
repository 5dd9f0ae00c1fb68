/-
  Plain law: of a fraction's digits 17 are enough, and no fewer than the first that tell it. No conditions.
  Plain law: 17 digits; no fewer digits than the first that tell a fraction. No conditions.
  The contract of float.Short. Conditions: 64 bits.
  Plain law: how many digits are told; and the law of FloatShort. No conditions.
  Plain law: the digits without the noughts at the end, and how many these were, are the number. No conditions.
  The walk of typecasekeep.FloatBack. No conditions.
  Plain law: a fraction's digits with their point are read as they were told. No conditions.
-/
import Derived.Lib.ItoaNum
import Derived.Lib.TrimByte
import Derived.Test.YtldhmfkojaekfaaGreatDoorShowSameAllPartK
namespace Go.Proofs.YtldhmfkojaekfaaGreatDoor
set_option maxRecDepth 100000

theorem Rnd.between {Y D Z C W E b : Nat} (h : Rnd Y D b) (g : Rnd Z C b) (hD : 0 < D) (hC : 0 < C) (hE : 0 < E) (h1 : Y * E ≤ W * D) (h2 : W * C ≤ Z * E) : Rnd W E b := by
  refine ⟨h.le, ?_, ?_⟩
  · rcases h.lo with h0 | h0
    · exact .inl h0
    · generalize fmid (b - 1) = f at *
      have a1 : D * f ≤ Y := by omega
      have a2 : E * f * D ≤ W * D := by
        have := Nat.mul_le_mul_right E a1
        rw [show E * f * D = D * f * E by rw [Nat.mul_comm, Nat.mul_assoc, Nat.mul_comm E f]]
        omega
      have a3 := Nat.le_of_mul_le_mul_right a2 hD
      rcases Nat.lt_or_ge (E * f) W with h3 | h3
      · exact .inr (.inl h3)
      · have e3 : E * f = W := Nat.le_antisymm a3 h3
        rcases h0 with h0 | h0
        · exfalso
          have := Nat.mul_lt_mul_of_pos_right h0 hE
          have e4 : W * D = D * f * E := by rw [← e3, Nat.mul_comm, ← Nat.mul_assoc, Nat.mul_right_comm]
          omega
        · exact .inr (.inr ⟨e3, h0.2⟩)
  · rcases g.hi with h0 | h0
    · exact .inl h0
    · generalize fmid b = f at *
      have a1 : Z ≤ C * f := by omega
      have a2 : W * C ≤ E * f * C := by
        have := Nat.mul_le_mul_right E a1
        rw [show E * f * C = C * f * E by rw [Nat.mul_comm, Nat.mul_assoc, Nat.mul_comm E f]]
        omega
      have a3 := Nat.le_of_mul_le_mul_right a2 hC
      rcases Nat.lt_or_ge W (E * f) with h3 | h3
      · exact .inr (.inl h3)
      · have e3 : W = E * f := Nat.le_antisymm a3 h3
        rcases h0 with h0 | h0
        · exfalso
          have := Nat.mul_lt_mul_of_pos_right h0 hE
          have e4 : W * C = C * f * E := by rw [e3, Nat.mul_comm, ← Nat.mul_assoc, Nat.mul_right_comm]
          omega
        · exact .inr (.inr ⟨e3, h0.2⟩)

/-- of two steps beside a fraction neither is too small -/
theorem gap_lo (b : Nat) (h : 0 < b) : ∃ u, 0 < u ∧ fval b = fval (b - 1) + u ∧ fval b ≤ 9007199254740992 * u := by
  obtain ⟨n, E, hb, hn, hE, hv, he⟩ := fbitsFl (b - 1)
  have h1 := fval_succ (b - 1)
  rw [show b - 1 + 1 = b by omega, ← he] at h1
  refine ⟨2 ^ E, Nat.two_pow_pos E, h1, ?_⟩
  rw [h1, hv]
  have := Nat.mul_le_mul_right (2 ^ E) (show n + 1 ≤ 9007199254740992 by omega)
  rw [Nat.add_mul, Nat.one_mul] at this
  exact this
theorem gap_hi (b : Nat) : ∃ u, 0 < u ∧ fval (b + 1) = fval b + u ∧ fval b ≤ 9007199254740992 * u := by
  obtain ⟨n, E, hb, hn, hE, hv, he⟩ := fbitsFl b
  have h1 := fval_succ b
  rw [← he] at h1
  refine ⟨2 ^ E, Nat.two_pow_pos E, h1, ?_⟩
  rw [hv]
  exact Nat.mul_le_mul_right (2 ^ E) (by omega)

theorem self_rnd {b N D : Nat} (h : IsFrac b N D) (hb : b < 9218868437227405312) : Rnd (Y75 N) D b := by
  obtain ⟨h1, h2⟩ := h
  rw [Nat.mod_eq_of_lt (by omega)] at h1
  rw [y75_x74, h1]
  refine ⟨by omega, ?_, .inr (.inl ?_)⟩
  · by_cases h0 : b = 0
    · exact .inl h0
    · obtain ⟨u, hu, e, -⟩ := gap_lo b (by omega)
      refine .inr (.inl ?_)
      unfold fmid
      rw [show b - 1 + 1 = b by omega, e]
      have := Nat.mul_pos h2 hu
      have e2 : 2 * ((fval (b - 1) + u) * D) = D * (fval (b - 1) + (fval (b - 1) + u)) + D * u := by
        simp only [Nat.mul_add, Nat.add_mul, Nat.mul_comm D]; omega
      omega
  · obtain ⟨u, hu, e, -⟩ := gap_hi b
    unfold fmid
    rw [e]
    have := Nat.mul_pos h2 hu
    have e2 : D * (fval b + (fval b + u)) = 2 * (fval b * D) + D * u := by
      simp only [Nat.mul_add, Nat.add_mul, Nat.mul_comm D]; omega
    omega

theorem low_lt {N D n : Nat} {top : Int} (hD : 0 < D) (h : Bel N D top) : lowOf N D (top - (n : Int)) < 10 ^ n := by
  unfold Bel at h
  unfold lowOf
  have hs := ten_shift top n
  have p1 := tenUp_pos (top - (n : Int))
  have p2 := tenDn_pos (top - (n : Int))
  rw [Nat.div_lt_iff_lt_mul (Nat.mul_pos hD p1)]
  refine Nat.lt_of_mul_lt_mul_right (a := tenDn top) ?_
  have h1 := Nat.mul_lt_mul_of_pos_right h p2
  have e1 : N * tenDn (top - (n : Int)) * tenDn top = N * tenDn top * tenDn (top - (n : Int)) := Nat.mul_right_comm _ _ _
  have e2 : 10 ^ n * (D * tenUp (top - (n : Int))) * tenDn top = D * (10 ^ n * tenUp (top - (n : Int)) * tenDn top) := by
    rw [Nat.mul_left_comm, Nat.mul_assoc D]
  rw [e1, e2, ← hs, ← Nat.mul_assoc]
  exact h1
theorem low_ge {N D : Nat} {top : Int} (n : Nat) (hD : 0 < D) (h : ¬ Bel N D top) : 10 ^ n ≤ lowOf N D (top - (n : Int)) := by
  unfold Bel at h
  unfold lowOf
  have hs := ten_shift top n
  have p1 := tenUp_pos (top - (n : Int))
  rw [Nat.le_div_iff_mul_le (Nat.mul_pos hD p1)]
  refine Nat.le_of_mul_le_mul_right (c := tenDn top) ?_ (tenDn_pos top)
  have h1 := Nat.mul_le_mul_right (tenDn (top - (n : Int))) (Nat.le_of_not_lt h)
  have e1 : N * tenDn (top - (n : Int)) * tenDn top = N * tenDn top * tenDn (top - (n : Int)) := Nat.mul_right_comm _ _ _
  have e2 : 10 ^ n * (D * tenUp (top - (n : Int))) * tenDn top = D * (10 ^ n * tenUp (top - (n : Int)) * tenDn top) := by
    rw [Nat.mul_left_comm, Nat.mul_assoc D]
  rw [e1, e2, ← hs, ← Nat.mul_assoc]
  exact h1
theorem low_le (N D : Nat) (k : Int) : lowOf N D k * (D * tenUp k) ≤ N * tenDn k := Nat.div_mul_le_self _ _
theorem high_ge (N D : Nat) (k : Int) (hD : 0 < D) : N * tenDn k ≤ highOf N D k * (D * tenUp k) := by
  unfold highOf lowOf
  have hQ := Nat.mul_pos hD (tenUp_pos k)
  generalize N * tenDn k = P at *
  generalize D * tenUp k = Q at *
  have h1 := Nat.div_add_mod P Q
  have h2 := Nat.mod_lt P hQ
  split
  · rw [Nat.mul_comm]; omega
  · rw [Nat.add_mul, Nat.one_mul, Nat.mul_comm (P / Q)]; omega
theorem high_le {N D x : Nat} {k : Int} (hD : 0 < D) (h : N * tenDn k ≤ x * (D * tenUp k)) : highOf N D k ≤ x := by
  unfold highOf lowOf
  have hQ := Nat.mul_pos hD (tenUp_pos k)
  generalize N * tenDn k = P at *
  generalize D * tenUp k = Q at *
  have h1 := Nat.div_add_mod P Q
  have h2 := Nat.mod_lt P hQ
  have h3 : P / Q ≤ x := by
    refine Nat.le_of_mul_le_mul_right (c := Q) ?_ hQ
    rw [Nat.mul_comm (P / Q)]; omega
  split
  · exact h3
  · rcases Nat.lt_or_ge (P / Q) x with h4 | h4
    · exact h4
    · have : P / Q = x := by omega
      rw [this, Nat.mul_comm] at h1
      omega
theorem le_low {N D x : Nat} {k : Int} (hD : 0 < D) (h : x * (D * tenUp k) ≤ N * tenDn k) : x ≤ lowOf N D k := by
  unfold lowOf
  rw [Nat.le_div_iff_mul_le (Nat.mul_pos hD (tenUp_pos k))]; exact h
end Go.Proofs.YtldhmfkojaekfaaGreatDoor
namespace Go.Proofs.YtldhmfkojaekfaaGreatDoor
set_option maxRecDepth 100000

theorem ten_ge (N D b : Nat) (top : Int) (T : Nat) (h1 : N * T = fval b * D) (hD : 0 < D) (h : ¬ Bel N D (top - 1)) :
    10 ^ 16 * (tenUp (top - (17 : Nat)) * T) ≤ fval b * tenDn (top - (17 : Nat)) := by
  unfold Bel at h
  have hs := ten_shift (top - 1) 16
  rw [show top - 1 - ((16 : Nat) : Int) = top - ((17 : Nat) : Int) by omega] at hs
  obtain ⟨k, hk⟩ : ∃ k, k = top - ((17 : Nat) : Int) := ⟨_, rfl⟩
  rw [← hk] at hs ⊢
  have p0 := tenDn_pos (top - 1)
  have h2 := Nat.mul_le_mul_right (T * tenDn k) (Nat.le_of_not_lt h)
  generalize tenUp k = u at *
  generalize tenDn k = t at *
  generalize tenUp (top - 1) = U at *
  generalize tenDn (top - 1) = V at *
  generalize fval b = f at *
  generalize 10 ^ 16 = c at *
  have e1 : D * U * (T * t) = c * (u * T) * (V * D) := by
    have : D * U * (T * t) = D * T * (U * t) := by simp only [Nat.mul_assoc, Nat.mul_comm, Nat.mul_left_comm]
    rw [this, hs]
    simp only [Nat.mul_assoc, Nat.mul_comm, Nat.mul_left_comm]
  have e2 : N * V * (T * t) = f * t * (V * D) := by
    have : N * V * (T * t) = N * T * (V * t) := by simp only [Nat.mul_assoc, Nat.mul_comm, Nat.mul_left_comm]
    rw [this, h1]
    simp only [Nat.mul_assoc, Nat.mul_comm, Nat.mul_left_comm]
  rw [e1, e2] at h2
  exact Nat.le_of_mul_le_mul_right h2 (Nat.mul_pos p0 hD)

theorem ten_small {u t f g : Nat} (h : 10 ^ 16 * u ≤ f * t) (hf : f ≤ 9007199254740992 * g) (hg : 0 < g) (ht : 0 < t) : u < g * t := by
  have h1 : (10 : Nat) ^ 16 = 10000000000000000 := by decide
  rw [h1] at h
  have h2 := Nat.mul_le_mul_right t hf
  rw [Nat.mul_assoc] at h2
  have h3 := Nat.mul_pos hg ht
  omega

theorem near_side {c u t f D Q P T b : Nat} (hD : 0 < D) (hb0 : 0 < b) (hQ : Q * T = D * u) (hP : P * T = f * D * t) (hf : f = fval b) (hT : 0 < T) (ht : 0 < t)
    (h16 : 10 ^ 16 * u ≤ f * t) (h1 : 2 * (c * Q) ≤ 2 * P + Q) (h2 : 2 * P ≤ 2 * (c * Q) + Q) :
    t * fmid (b - 1) < 2 * (c * u) ∧ 2 * (c * u) < t * fmid b := by
  obtain ⟨g, hg, eg, lg⟩ := gap_lo b hb0
  obtain ⟨g', hg', eg', lg'⟩ := gap_hi b
  rw [← hf] at eg lg eg' lg'
  have s1 := ten_small h16 lg hg ht
  have s2 := ten_small h16 lg' hg' ht
  have a1 : 2 * (c * u) ≤ 2 * (f * t) + u := by
    have := Nat.mul_le_mul_right T h1
    have e1 : 2 * (c * Q) * T = D * (2 * (c * u)) := by
      have : 2 * (c * Q) * T = 2 * c * (Q * T) := by simp only [Nat.mul_assoc, Nat.mul_comm, Nat.mul_left_comm]
      rw [this, hQ]; simp only [Nat.mul_assoc, Nat.mul_comm, Nat.mul_left_comm]
    have e2 : (2 * P + Q) * T = D * (2 * (f * t) + u) := by
      rw [Nat.add_mul, hQ, Nat.mul_assoc, hP, Nat.mul_add]
      congr 1
      simp only [Nat.mul_assoc, Nat.mul_comm, Nat.mul_left_comm]
    rw [e1, e2] at this
    exact Nat.le_of_mul_le_mul_left this hD
  have a2 : 2 * (f * t) ≤ 2 * (c * u) + u := by
    have := Nat.mul_le_mul_right T h2
    have e1 : 2 * P * T = D * (2 * (f * t)) := by
      rw [Nat.mul_assoc, hP]
      simp only [Nat.mul_assoc, Nat.mul_comm, Nat.mul_left_comm]
    have e2 : (2 * (c * Q) + Q) * T = D * (2 * (c * u) + u) := by
      have : 2 * (c * Q) * T = 2 * c * (Q * T) := by simp only [Nat.mul_assoc, Nat.mul_comm, Nat.mul_left_comm]
      rw [Nat.add_mul, this, hQ, Nat.mul_add]
      congr 1
      simp only [Nat.mul_assoc, Nat.mul_comm, Nat.mul_left_comm]
    rw [e1, e2] at this
    exact Nat.le_of_mul_le_mul_left this hD
  refine ⟨?_, ?_⟩
  · unfold fmid
    rw [show b - 1 + 1 = b by omega, ← hf]
    have e : t * (fval (b - 1) + f) + g * t = 2 * (f * t) := by
      rw [eg]; simp only [Nat.mul_add, Nat.add_mul, Nat.mul_comm t]; omega
    omega
  · unfold fmid
    rw [← hf, eg']
    have e : t * (f + (f + g')) = 2 * (f * t) + g' * t := by
      simp only [Nat.mul_add, Nat.add_mul, Nat.mul_comm t]; omega
    omega

theorem seventeen {N D b : Nat} {top : Int} (hF : IsFrac b N D) (hb : b < 9218868437227405312) (hb0 : 0 < b) (h : ¬ Bel N D (top - 1)) :
    Hits (lowOf N D (top - (17 : Nat))) (top - (17 : Nat)) b ∨ Hits (highOf N D (top - (17 : Nat))) (top - (17 : Nat)) b := by
  obtain ⟨h1, hD⟩ := hF
  rw [Nat.mod_eq_of_lt (by omega)] at h1
  obtain ⟨K, hK⟩ : ∃ K : Nat, K = 1074 := ⟨_, rfl⟩
  rw [x74_of N K hK] at h1
  have h16 := ten_ge N D b top (2 ^ K) h1 hD h
  obtain ⟨k, hk⟩ : ∃ k, k = top - ((17 : Nat) : Int) := ⟨_, rfl⟩
  rw [← hk] at h16 ⊢
  have ht := tenDn_pos k
  have hQ0 := Nat.mul_pos hD (tenUp_pos k)
  have hQ : D * tenUp k * 2 ^ K = D * (tenUp k * 2 ^ K) := Nat.mul_assoc _ _ _
  have hP : N * tenDn k * 2 ^ K = fval b * D * tenDn k := by rw [Nat.mul_right_comm, h1]
  have key : ∀ c, 2 * (c * (D * tenUp k)) ≤ 2 * (N * tenDn k) + D * tenUp k → 2 * (N * tenDn k) ≤ 2 * (c * (D * tenUp k)) + D * tenUp k → Hits c k b := by
    intro c c1 c2
    obtain ⟨g1, g2⟩ := near_side hD hb0 hQ hP rfl (Nat.two_pow_pos K) ht h16 c1 c2
    have e : Y75 (c * tenUp k) = 2 * (c * (tenUp k * 2 ^ K)) := by rw [y75_x74, x74_of _ K hK, Nat.mul_assoc]
    unfold Hits
    rw [e]
    exact ⟨by omega, .inr (.inl g1), .inr (.inl g2)⟩
  unfold highOf
  have hl : lowOf N D k = N * tenDn k / (D * tenUp k) := rfl
  have m1 := Nat.div_add_mod (N * tenDn k) (D * tenUp k)
  have m2 := Nat.mod_lt (N * tenDn k) hQ0
  rw [← hl] at m1
  generalize lowOf N D k = low at *
  generalize N * tenDn k % (D * tenUp k) = r at *
  generalize N * tenDn k = P at *
  generalize D * tenUp k = Q at *
  rw [Nat.mul_comm] at m1
  rcases Nat.lt_or_ge Q (2 * r) with hc | hc
  · right
    rw [if_neg (by omega)]
    refine key _ ?_ ?_
    · rw [Nat.add_mul, Nat.one_mul]; omega
    · rw [Nat.add_mul, Nat.one_mul]; omega
  · left
    exact key _ (by omega) (by omega)

theorem shorter {N D b n j : Nat} {top k : Int} (hF : IsFrac b N D) (hb : b < 9218868437227405312) (hb1 : ¬ Bel N D (top - 1)) (hn : n < 10 ^ (j + 1)) (h : Hits n k b) :
    Hits (lowOf N D (top - ((j + 1 : Nat) : Int))) (top - ((j + 1 : Nat) : Int)) b ∨ Hits (highOf N D (top - ((j + 1 : Nat) : Int))) (top - ((j + 1 : Nat) : Int)) b := by
  have hR := self_rnd hF hb
  obtain ⟨-, hD⟩ := hF
  have hge := low_ge (D := D) j hD hb1
  rw [show top - 1 - (j : Int) = top - ((j + 1 : Nat) : Int) by omega] at hge
  obtain ⟨kk, hkk⟩ : ∃ kk, kk = top - ((j + 1 : Nat) : Int) := ⟨_, rfl⟩
  rw [← hkk] at hge ⊢
  have pk := tenDn_pos k
  have pkk := tenDn_pos kk
  rcases Nat.lt_or_ge (n * tenUp k * D) (N * tenDn k) with hc | hc
  · -- below the fraction
    left
    have hle : n * tenUp k * tenDn kk ≤ lowOf N D kk * tenUp kk * tenDn k := by
      rcases Int.lt_or_le k kk with hl | hl
      · obtain ⟨s, hs⟩ : ∃ s : Nat, k = kk - ((s + 1 : Nat) : Int) := ⟨(kk - k - 1).toNat, by omega⟩
        have ht := ten_shift kk (s + 1)
        rw [← hs] at ht
        have h1 : n ≤ lowOf N D kk * 10 ^ (s + 1) := by
          have a1 : n ≤ 10 ^ j * 10 := by rw [← Nat.pow_succ]; omega
          have a2 : 10 ^ j * 10 ≤ lowOf N D kk * 10 ^ (s + 1) := Nat.mul_le_mul hge (by
            have := Nat.pow_le_pow_right (show 10 > 0 by decide) (show 1 ≤ s + 1 by omega)
            rw [Nat.pow_one] at this; exact this)
          omega
        rw [Nat.mul_assoc (lowOf N D kk), ht]
        have e : lowOf N D kk * (10 ^ (s + 1) * tenUp k * tenDn kk) = lowOf N D kk * 10 ^ (s + 1) * tenUp k * tenDn kk := by simp only [Nat.mul_assoc]
        rw [e]
        exact Nat.mul_le_mul_right _ (Nat.mul_le_mul_right _ h1)
      · obtain ⟨s, hs⟩ : ∃ s : Nat, kk = k - (s : Int) := ⟨(k - kk).toNat, by omega⟩
        have ht := ten_shift k s
        rw [← hs] at ht
        have h1 : n * 10 ^ s ≤ lowOf N D kk := by
          refine le_low hD ?_
          refine Nat.le_of_mul_le_mul_right (c := tenDn k) ?_ pk
          have e : n * 10 ^ s * (D * tenUp kk) * tenDn k = n * tenUp k * D * tenDn kk := by
            have e1 : n * 10 ^ s * (D * tenUp kk) * tenDn k = n * D * (10 ^ s * tenUp kk * tenDn k) := by simp only [Nat.mul_assoc, Nat.mul_comm, Nat.mul_left_comm]
            rw [e1, ← ht]; simp only [Nat.mul_assoc, Nat.mul_comm, Nat.mul_left_comm]
          rw [e, Nat.mul_right_comm N]
          exact Nat.mul_le_mul_right _ (Nat.le_of_lt hc)
        have e : n * tenUp k * tenDn kk = n * 10 ^ s * tenUp kk * tenDn k := by
          rw [Nat.mul_assoc, ht]; simp only [Nat.mul_assoc]
        rw [e]
        exact Nat.mul_le_mul_right _ (Nat.mul_le_mul_right _ h1)
    exact Rnd.between h hR pk hD pkk (y75_le _ _ _ _ hle) (y75_le _ _ _ _ (by
      have := low_le N D kk
      rw [Nat.mul_assoc, Nat.mul_comm (tenUp kk)]; exact this))
  · right
    have hkl : kk ≤ k := by
      apply Classical.byContradiction
      intro hlt
      obtain ⟨s, hs⟩ : ∃ s : Nat, k = (top - 1) - ((j + 1 + s : Nat) : Int) := ⟨(top - 1 - k - (j + 1)).toNat, by omega⟩
      have ht := ten_shift (top - 1) (j + 1 + s)
      rw [← hs] at ht
      unfold Bel at hb1
      have h1 := Nat.mul_le_mul_right (tenDn k) (Nat.le_of_not_lt hb1)
      have h2 := Nat.mul_le_mul_right (tenDn (top - 1)) hc
      have e1 : D * tenUp (top - 1) * tenDn k = 10 ^ (j + 1 + s) * (D * tenUp k * tenDn (top - 1)) := by
        rw [Nat.mul_assoc, ht]; simp only [Nat.mul_assoc, Nat.mul_comm, Nat.mul_left_comm]
      have e2 : n * tenUp k * D * tenDn (top - 1) = n * (D * tenUp k * tenDn (top - 1)) := by simp only [Nat.mul_assoc, Nat.mul_comm, Nat.mul_left_comm]
      have e3 : N * tenDn (top - 1) * tenDn k = N * tenDn k * tenDn (top - 1) := Nat.mul_right_comm _ _ _
      have h3 : 10 ^ (j + 1 + s) * (D * tenUp k * tenDn (top - 1)) ≤ n * (D * tenUp k * tenDn (top - 1)) := by
        rw [← e1, ← e2]; omega
      have h4 := Nat.le_of_mul_le_mul_right h3 (Nat.mul_pos (Nat.mul_pos hD (tenUp_pos k)) (tenDn_pos (top - 1)))
      have h5 := Nat.pow_le_pow_right (show 10 > 0 by decide) (show j + 1 ≤ j + 1 + s by omega)
      omega
    obtain ⟨s, hs⟩ : ∃ s : Nat, kk = k - (s : Int) := ⟨(k - kk).toNat, by omega⟩
    have ht := ten_shift k s
    rw [← hs] at ht
    have h1 : highOf N D kk ≤ n * 10 ^ s := by
      refine high_le hD ?_
      refine Nat.le_of_mul_le_mul_right (c := tenDn k) ?_ pk
      have e : n * 10 ^ s * (D * tenUp kk) * tenDn k = n * tenUp k * D * tenDn kk := by
        have e1 : n * 10 ^ s * (D * tenUp kk) * tenDn k = n * D * (10 ^ s * tenUp kk * tenDn k) := by simp only [Nat.mul_assoc, Nat.mul_comm, Nat.mul_left_comm]
        rw [e1, ← ht]; simp only [Nat.mul_assoc, Nat.mul_comm, Nat.mul_left_comm]
      rw [e, Nat.mul_right_comm N]
      exact Nat.mul_le_mul_right _ hc
    have hle : highOf N D kk * tenUp kk * tenDn k ≤ n * tenUp k * tenDn kk := by
      have e : n * tenUp k * tenDn kk = n * 10 ^ s * tenUp kk * tenDn k := by
        rw [Nat.mul_assoc, ht]; simp only [Nat.mul_assoc]
      rw [e]
      exact Nat.mul_le_mul_right _ (Nat.mul_le_mul_right _ h1)
    exact Rnd.between hR h hD pk pkk (y75_le _ _ _ _ (by
      have := high_ge N D kk hD
      rw [Nat.mul_assoc, Nat.mul_comm (tenUp kk)]; exact this)) (y75_le _ _ _ _ hle)
end Go.Proofs.YtldhmfkojaekfaaGreatDoor
namespace Go.Proofs.YtldhmfkojaekfaaGreatDoor
open Go.RowKit Gx
set_option maxRecDepth 100000

/-- the fraction's two numbers -/
def eOf (B : Nat) : Nat := B / 4503599627370496 - 1
def mOf (B : Nat) : Nat := if B < 4503599627370496 then B else B % 4503599627370496 + 4503599627370496
def numOf (B : Nat) : Nat := mOf B * 2 ^ (eOf B - 1074)
def denOf (B : Nat) : Nat := 2 ^ (1074 - eOf B)
theorem parts_of {B m E : Nat} (hB : B = E * 4503599627370496 + m) (hm : m < 9007199254740992) (h2 : E = 0 ∨ 4503599627370496 ≤ m) : eOf B = E ∧ mOf B = m := by
  unfold eOf mOf
  rcases h2 with rfl | h2
  · refine ⟨by omega, ?_⟩
    by_cases h : B < 4503599627370496
    · rw [if_pos h]; omega
    · rw [if_neg h]; omega
  · rw [if_neg (by omega)]
    refine ⟨?_, by omega⟩
    have e0 : B = (m - 4503599627370496) + (E + 1) * 4503599627370496 := by rw [Nat.add_mul, Nat.one_mul]; omega
    rw [e0, Nat.add_mul_div_right _ _ (by decide : 0 < 4503599627370496), Nat.div_eq_of_lt (by omega)]; omega
theorem num_dn {B m E n : Nat} (hB : B = E * 4503599627370496 + m) (hm : m < 9007199254740992) (h2 : E = 0 ∨ 4503599627370496 ≤ m) (hn : E + n = 1074) : m = numOf B ∧ 2 ^ n = denOf B := by
  obtain ⟨e1, e2⟩ := parts_of hB hm h2
  unfold numOf denOf
  rw [e1, e2, show E - 1074 = 0 by omega, show 1074 - E = n by omega, Nat.pow_zero, Nat.mul_one]
  exact ⟨rfl, rfl⟩
theorem num_up {B m E n : Nat} (hB : B = E * 4503599627370496 + m) (hm : m < 9007199254740992) (h2 : E = 0 ∨ 4503599627370496 ≤ m) (hn : E = n + 1074) : m * 2 ^ n = numOf B ∧ 1 = denOf B := by
  obtain ⟨e1, e2⟩ := parts_of hB hm h2
  unfold numOf denOf
  rw [e1, e2, show E - 1074 = n by omega, show 1074 - E = 0 by omega, Nat.pow_zero]
  exact ⟨rfl, rfl⟩
/-- c * 10^k is what Short finds for the fraction B -/
def ShortIs (B c : Nat) (kk : Int) : Prop := ∃ (N D : Nat) (top : Int) (n0 : Nat), IsFrac B N D ∧ Bel N D top ∧ ¬ Bel N D (top - 1) ∧ 1 ≤ n0 ∧ n0 ≤ 17 ∧ (-400 ≤ top ∧ N = numOf B ∧ D = denOf B ∧ Pick (lowOf N D kk) (highOf N D kk) kk B (halfOf N D kk) c) ∧ top ≤ 400 ∧ kk = top - (n0 : Int) ∧
  (c = lowOf N D kk ∨ c = highOf N D kk) ∧ Hits c kk B ∧ ∀ i : Nat, 1 ≤ i → i < n0 → ¬ Hits (lowOf N D (top - (i : Int))) (top - (i : Int)) B ∧ ¬ Hits (highOf N D (top - (i : Int))) (top - (i : Int)) B
def ShortPost (b : Nat) (w : World) (e : Ending) (w' : World) : Prop :=
  ((b / 4503599627370496 % 2048 = 2047 ∨ b % 9223372036854775808 = 0) ∧ e = .returned (.tuple #[.string ⟨#[]⟩, .int .i64 0, .int .i64 1]) ∧ Below w.heap.size w w') ∨
  (b / 4503599627370496 % 2048 ≠ 2047 ∧ b % 9223372036854775808 ≠ 0 ∧ ∃ c kk, ShortIs (b % 9223372036854775808) c kk ∧ e = .returned (.tuple #[.string ⟨(shortOf c).toArray⟩, .int .i64 (kk + ((decText c).length : Int) - ((shortOf c).length : Int)), .int .i64 0]) ∧ Below w.heap.size w w')

theorem frac_mod {b A B : Nat} (h : IsFrac b A B) : IsFrac (b % 9223372036854775808) A B := by
  obtain ⟨h1, h2⟩ := h
  exact ⟨by rw [h1, Nat.mod_mod], h2⟩
theorem ten_big (n K : Nat) (h : K ≤ 3 * n) : 2 ^ K ≤ 10 ^ n := by
  have h1 : 2 ^ (3 * n) = 8 ^ n := by rw [Nat.pow_mul]
  have h2 := Nat.pow_le_pow_right (show 2 > 0 by decide) h
  have h3 := Nat.pow_le_pow_left (show 8 ≤ 10 by decide) n
  omega
theorem frac_bounds {B N D m E : Nat} (h : IsFrac B N D) (hB : B % 9223372036854775808 = E * 4503599627370496 + m) (hm : m < 9007199254740992) (hm0 : 0 < m) (hE : E ≤ 2045) (h2 : E = 0 ∨ 4503599627370496 ≤ m) : Bel N D 400 ∧ ¬ Bel N D (-400) := by
  obtain ⟨h1, hD⟩ := h
  obtain ⟨K, hK⟩ : ∃ K : Nat, K = 1074 := ⟨_, rfl⟩
  obtain ⟨n, hn⟩ : ∃ n : Nat, n = 400 := ⟨_, rfl⟩
  rw [x74_of N K hK, hB, fval_of m E hm h2] at h1
  have e1 : (400 : Int) = (n : Int) := by omega
  rw [e1]
  unfold Bel tenUp tenDn
  rw [show (-(n : Int)).toNat = 0 by omega, show (n : Int).toNat = n by omega, show (- -(n : Int)).toNat = n by omega]
  simp only [Nat.pow_zero, Nat.mul_one]
  refine ⟨?_, ?_⟩
  · have a1 : m * 2 ^ E < 2 ^ (53 + E) := by
      have h53 : (2 : Nat) ^ 53 = 9007199254740992 := by decide
      rw [Nat.pow_add, h53]
      exact Nat.mul_lt_mul_of_pos_right hm (Nat.two_pow_pos E)
    have a2 := Nat.pow_le_pow_right (show 2 > 0 by decide) (show 53 + E ≤ 1024 + K by omega)
    obtain ⟨J, hJ⟩ : ∃ J : Nat, J = 1024 := ⟨_, rfl⟩
    rw [← hJ, Nat.pow_add 2 J K] at a2
    have a3 := ten_big n J (by omega)
    have a4 : N * 2 ^ K < 10 ^ n * D * 2 ^ K := by
      rw [h1]
      have b1 : m * 2 ^ E * D < 2 ^ J * 2 ^ K * D := Nat.mul_lt_mul_of_pos_right (by omega) hD
      have b2 : 2 ^ J * 2 ^ K * D ≤ 10 ^ n * 2 ^ K * D := Nat.mul_le_mul_right _ (Nat.mul_le_mul_right _ a3)
      rw [Nat.mul_right_comm (10 ^ n)]
      omega
    have a5 := Nat.lt_of_mul_lt_mul_right a4
    rw [Nat.mul_comm]
    exact a5
  · have a3 := ten_big n K (by omega)
    have a1 : D ≤ N * 2 ^ K := by
      rw [h1]
      have := Nat.mul_le_mul_right D (Nat.mul_pos hm0 (Nat.two_pow_pos E))
      rw [Nat.succ_mul, Nat.zero_mul, Nat.zero_add] at this
      exact this
    have a2 := Nat.mul_le_mul_left N a3
    omega
theorem blen_shl (m n K : Nat) (hm : m < 9007199254740992) (h : 53 + n ≤ K) : blen (m * 2 ^ n) ≤ K := by
  refine blen_le _ _ ?_
  have h53 : (2 : Nat) ^ 53 = 9007199254740992 := by decide
  have a1 : m * 2 ^ n < 2 ^ (53 + n) := by
    rw [Nat.pow_add, h53]
    exact Nat.mul_lt_mul_of_pos_right hm (Nat.two_pow_pos n)
  have a2 := Nat.pow_le_pow_right (show 2 > 0 by decide) h
  omega
theorem low_small {N D : Nat} {top : Int} {n : Nat} (hD : 0 < D) (h : Bel N D top) (hn : n ≤ 17) : lowOf N D (top - (n : Int)) < 1000000000000000000 := by
  have h1 := low_lt (n := n) hD h
  have h2 := Nat.pow_le_pow_right (show 10 > 0 by decide) hn
  have h3 : (10 : Nat) ^ 17 = 100000000000000000 := by decide
  omega

set_option maxHeartbeats 4000000 in
theorem short_any (b : Nat) (w : World) (hb : b < 18446744073709551616) :
    Calls Tryz.prog 115 #[.int .u64 b] w (ShortPost b w) := by
  have hp := parts_anyFl b w hb
  have ha := andnot_sign b hb
  have hfin : ∀ e w', ShortPost b w e w' → ShortPost b w e w' := fun _ _ h => h
  unfold PartsPostFl at hp
  by_cases hs : b / 4503599627370496 % 2048 = 2047
  · have hp2 := hp.mono (R' := fun e w' => ∃ x k : Int, 0 < k ∧ e = .returned (.tuple #[.int .u64 0, .int .i64 x, .int .i64 k]) ∧ w = w') (by
      rintro e w' ⟨m, x, k, rfl, ⟨-, rfl, h⟩ | ⟨h1, -⟩, rfl⟩
      · exact ⟨x, k, by omega, rfl, rfl⟩
      · exact absurd hs h1)
    have HP := Lib.hid hp2
    have hres := Lib.hid (show ShortPost b w (.returned (.tuple #[.string ⟨#[]⟩, .int .i64 0, .int .i64 1])) w from .inl ⟨.inl hs, rfl, Below.refl _ _⟩)
    generalize ShortPost b w = POST at *
    clear hp hp2 ha hfin hs hb
    go_enter Tryz.func115, Tryz.ntmps115
    go_wp2_with fail
    refine HP.out.mono ?_
    rintro e0 w1 ⟨x, k, hk, rfl, rfl⟩
    have t0 : decide (0 < k) = true := decide_eq_true hk
    go_wp2
    go_ret3
    exact hres.out
  by_cases hz : b % 9223372036854775808 = 0
  · have hp2 := hp.mono (R' := fun e w' => ∃ x : Int, e = .returned (.tuple #[.int .u64 0, .int .i64 x, .int .i64 0]) ∧ w = w') (by
      rintro e w' ⟨m, x, k, rfl, h | ⟨h1, rfl, h3, E, rfl, h5, h6, h7⟩, rfl⟩
      · exact absurd h.1 hs
      · obtain rfl : m = 0 := by omega
        exact ⟨_, rfl, rfl⟩)
    have HP := Lib.hid hp2
    have hres := Lib.hid (show ShortPost b w (.returned (.tuple #[.string ⟨#[]⟩, .int .i64 0, .int .i64 1])) w from .inl ⟨.inr hz, rfl, Below.refl _ _⟩)
    generalize ShortPost b w = POST at *
    clear hp hp2 ha hfin hs hz hb
    go_enter Tryz.func115, Tryz.ntmps115
    go_wp2_with fail
    refine HP.out.mono ?_
    rintro e0 w1 ⟨x, rfl, rfl⟩
    go_wp2
    go_ret3
    exact hres.out
  have hp3 := hp.mono (R' := fun e w' => ∃ m E : Nat, e = .returned (.tuple #[.int .u64 m, .int .i64 ((E : Int) - 1074), .int .i64 0]) ∧ m < 9007199254740992 ∧ E ≤ 2045 ∧ (E = 0 ∨ 4503599627370496 ≤ m) ∧ b % 9223372036854775808 = E * 4503599627370496 + m ∧ w = w') (by
    rintro e w' ⟨m, x, k, rfl, h | ⟨h1, rfl, h3, E, rfl, h5, h6, h7⟩, rfl⟩
    · exact absurd h.1 hs
    · exact ⟨m, E, rfl, h3, h5, h6, h7, rfl⟩)
  have HP := Lib.hid hp3
  have hB9 : b % 9223372036854775808 < 9218868437227405312 := by omega
  have HPOST := Lib.hid (show ∀ e w' c kk, ShortIs (b % 9223372036854775808) c kk → e = .returned (.tuple #[.string ⟨(shortOf c).toArray⟩, .int .i64 (kk + ((decText c).length : Int) - ((shortOf c).length : Int)), .int .i64 0]) → Below w.heap.size w w' → ShortPost b w e w' from
    fun e w' c kk h1 h2 h3 => .inr ⟨hs, hz, c, kk, h1, h2, h3⟩)
  generalize ShortPost b w = POST at *
  clear hp hp3 hfin hs hb
  obtain ⟨B, hB⟩ : ∃ B, B = b % 9223372036854775808 := ⟨_, rfl⟩
  have hfr : ∀ N D, IsFrac b N D → IsFrac B N D := fun N D h => by rw [hB]; exact frac_mod h
  rw [← hB] at ha hz hB9 HPOST
  have HFR := Lib.hid hfr
  have HB := Lib.hid hB
  have HZ := Lib.hid (Nat.pos_of_ne_zero hz)
  have HB9 := Lib.hid hB9
  clear hfr hB hz hB9
  go_enter Tryz.func115, Tryz.ntmps115
  go_wp2_with fail
  refine HP.out.mono ?_
  rintro e0 w1 ⟨m, E, rfl, hm, hE, h2, h7, rfl⟩
  have hm0 : 0 < m := by have := HZ.out; have := HB.out; omega
  have tm : ((m : Int) == 0) = false := by rw [beq_eq_false_iff_ne]; omega
  have tm2 : decide ((m : Int) = 0) = false := decide_eq_false (by omega)
  have HN := Lib.hid (nat_any m w (by omega))
  unfold WordsPost at HN
  go_wp2_with fail
  refine HN.out.mono ?_
  rintro e0 w2 ⟨mo, mc, rfl, hr, hb⟩
  have M2 := Lib.hid hr
  have B2 := Lib.hid hb
  clear hr hb HN HP
  have hal := (Below.refl w2.heap.size w2).alloc (Nat.le_refl _) (.cells #[.int .u32 1] 145)
  have hone := one_rd w2
  have hc1 : canon 1 = [1] := rfl
  rw [hc1] at hone
  have AL := Lib.hid hal
  have ONE := Lib.hid hone
  have M3 := Lib.hid (M2.out.keep hal)
  have B3 := Lib.hid (B2.out.trans (hal.mono B2.out.size))
  clear hal hone hc1 M2 B2
  rcases Int.lt_or_le (E : Int) 1074 with he | he
  · obtain ⟨n, hn⟩ : ∃ n : Nat, E + n = 1074 := ⟨1074 - E, by omega⟩
    have FRAC := Lib.hid (HFR.out _ _ (frac_dn b m E h7 hm h2 n hn))
    have ND := Lib.hid (num_dn (B := B) (HB.out.trans h7) hm h2 hn)
    have bnds := frac_bounds FRAC.out (by rw [HB.out, Nat.mod_mod]; exact h7) hm hm0 hE h2
    have HS := Lib.hid (shift_left' _ _ _ n 1 _ ONE.out rfl (by show 1 ≤ _; omega) (by omega))
    rw [Nat.one_mul] at HS
    unfold SubPost at HS
    have LX : Hid ((canon m).length ≤ 60) := Nat.le_trans (fits_two m hm).len (by decide)
    have LY : Hid ((canon (2 ^ n)).length ≤ 60) := (two_fitsK n 60 (by omega)).len
    have VX : Hid (bval (canon m) = m) := bval_canon _
    have VY : Hid (bval (canon (2 ^ n)) = 2 ^ n) := bval_canon _
    have MG0 := fun w0 xo xc yo yc (h : Rd .u32 w0 xo xc (canon m)) (g : Rd .u32 w0 yo yc (canon (2 ^ n))) => magnitude_any xo yo xc yc (canon m) (canon (2 ^ n)) m (2 ^ n) w0 h g VX.out VY.out LX.out LY.out (by have := blen_shl m 0 60 hm (by omega); rw [Nat.pow_zero, Nat.mul_one] at this; omega) (by exact Nat.le_trans (blen_le _ (n + 1) (Nat.pow_lt_pow_right (by decide) (by omega))) (by omega)) bnds.1 bnds.2
    unfold MagPost at MG0
    have MG1 := Lib.hid MG0
    have tE : decide (0 ≤ (E : Int) - 1074) = false := decide_eq_false (by omega)
    have eE : -((E : Int) - 1074) = (n : Int) := by omega
    have EE := Lib.hid eE
    clear hn h7 h2 hm hE MG0 bnds eE hm0
    go_wp2_with fail
    rw [EE.out]
    refine HS.out.mono ?_
    rintro e0 w4 ⟨so, sc, rfl, hr, hb⟩
    have Y4 := Lib.hid hr
    have X4 := Lib.hid (M3.out.keep hb)
    have B4 := Lib.hid (B3.out.trans (hb.mono B3.out.size))
    have MG := Lib.hid (MG1.out w4 _ _ _ _ X4.out Y4.out)
    clear hr hb M3 B3 HS MG1 AL ONE EE
    go_wp2_with fail
    refine MG.out.mono ?_
    rintro e0 w5 ⟨top, rfl, t1, t2, hbel, hnb, hb⟩
    have X5 := Lib.hid (X4.out.keep hb)
    have Y5 := Lib.hid (Y4.out.keep hb)
    have B5 := Lib.hid (B4.out.trans (hb.mono B4.out.size))
    have HNE := Lib.hid (fun w0 (hb : Below w5.heap.size w5 w0) (j : Nat) (g1 : 1 ≤ j) (g17 : j ≤ 17) => nearest_any mo so mc sc (canon m) (canon (2 ^ n)) m (2 ^ n) (top - (j : Int)) B w0 (X5.out.keep hb) (Y5.out.keep hb) VX.out VY.out LX.out LY.out (by omega) (by omega) (Nat.pos_iff_ne_zero.1 FRAC.out.2) (low_small FRAC.out.2 hbel g17))
    have SEV := Lib.hid (seventeen FRAC.out HB9.out HZ.out hnb)
    unfold NearestPost at HNE
    have HIN := Lib.hid (show ∀ (j : Nat) c, 1 ≤ j → j ≤ 17 → (c = lowOf m (2 ^ n) (top - (j : Int)) ∨ c = highOf m (2 ^ n) (top - (j : Int))) → Pick (lowOf m (2 ^ n) (top - (j : Int))) (highOf m (2 ^ n) (top - (j : Int))) (top - (j : Int)) B (halfOf m (2 ^ n) (top - (j : Int))) c → Hits c (top - (j : Int)) B → (∀ i : Nat, 1 ≤ i → i < j → ¬ Hits (lowOf m (2 ^ n) (top - (i : Int))) (top - (i : Int)) B ∧ ¬ Hits (highOf m (2 ^ n) (top - (i : Int))) (top - (i : Int)) B) → ShortIs B c (top - (j : Int)) from
      fun j c g1 g2 g3 gp g4 g5 => ⟨m, (2 ^ n), top, j, FRAC.out, hbel, hnb, g1, g2, ⟨t1, ND.out.1, ND.out.2, gp⟩, t2, rfl, g3, g4, g5⟩)
    obtain ⟨HI, hHI⟩ : ∃ HI : Int → Prop, HI = fun k => Hits (lowOf m (2 ^ n) k) k B := ⟨_, rfl⟩
    obtain ⟨HJ, hHJ⟩ : ∃ HJ : Int → Prop, HJ = fun k => Hits (highOf m (2 ^ n) k) k B := ⟨_, rfl⟩
    have i1 : ∀ k, HI k = Hits (lowOf m (2 ^ n) k) k B := fun k => by rw [hHI]
    have i2 : ∀ k, HJ k = Hits (highOf m (2 ^ n) k) k B := fun k => by rw [hHJ]
    simp only [← i1, ← i2] at HNE SEV HIN
    generalize lowOf m (2 ^ n) = LO at *
    generalize highOf m (2 ^ n) = HG at *
    clear hb X4 Y4 B4 MG hbel hnb X5 Y5 i1 i2 hHI hHJ VX VY LX LY FRAC ND
    go_wp2_with fail
    go_loopw [11, 12, 13, 14] (fun nv a1 a2 a3 wr => ∃ n : Nat, nv = .int .i64 n ∧ 1 ≤ n ∧ n ≤ 17 ∧ Hid (∀ i : Nat, 1 ≤ i → i < n → ¬ HI (top - (i : Int)) ∧ ¬ HJ (top - (i : Int))) ∧ Below w5.heap.size w5 wr) (fun nv _ _ _ _ => 18 - (intOf nv).toNat)
    case atStart => exact ⟨1, rfl, by omega, by omega, (fun i h1 h2 => absurd h1 (by omega)), Below.refl _ _⟩
    case round =>
      obtain ⟨n, rfl, n1, n2, hprev, hb⟩ := hrel
      have HC := Lib.hid (HNE.out wr hb n n1 n2)
      go_wp2_with fail
      refine HC.out.mono ?_
      rintro e0 w6 (⟨c, hc, hpk, hit, rfl, hb2⟩ | ⟨z1, z2, rfl, hb2⟩)
      · have B6 := Lib.hid (B5.out.trans ((hb.trans (hb2.mono hb.size)).mono B5.out.size))
        have IN := Lib.hid (HIN.out n c n1 n2 hc hpk hit hprev.out)
        clear hb hb2 hc hpk hit HC
        have hfin := Lib.hid (HPOST.out _ w6 c _ IN.out rfl B6.out)
        generalize shortOf c = st at *
        generalize decText c = dt at *
        go_wp2
        go_ret3
        exact hfin.out
      · have B6 := Lib.hid (hb.trans (hb2.mono hb.size))
        have hlt : n < 17 := by
          apply Classical.byContradiction
          intro hc
          obtain rfl : n = 17 := by omega
          exact SEV.out.elim z1 z2
        have HPR : Hid (∀ i : Nat, 1 ≤ i → i < n + 1 → ¬ HI (top - (i : Int)) ∧ ¬ HJ (top - (i : Int))) := by
          intro i g1 g2
          rcases Nat.lt_or_ge i n with g3 | g3
          · exact hprev.out i g1 g3
          · obtain rfl : i = n := by omega
            exact ⟨z1, z2⟩
        clear hb hb2 HC z1 z2 hprev
        go_wp2_with fail
        go_roundw
        case rel => exact ⟨n + 1, by congr 1 <;> omega, by omega, by omega, HPR, B6.out⟩
        case measure => simp [intOf]; omega
  · obtain ⟨n, hn⟩ : ∃ n : Nat, E = n + 1074 := ⟨E - 1074, by omega⟩
    have FRAC := Lib.hid (HFR.out _ _ (frac_up b m E h7 hm h2 n hn))
    have ND := Lib.hid (num_up (B := B) (HB.out.trans h7) hm h2 hn)
    have bnds := frac_bounds FRAC.out (by rw [HB.out, Nat.mod_mod]; exact h7) hm hm0 hE h2
    have HS := Lib.hid (shift_left' _ _ _ n m _ M3.out (bval_canon _) (Nat.le_trans (fits_two m hm).len (by decide)) (by omega))
    unfold SubPost at HS
    have LX : Hid ((canon (m * 2 ^ n)).length ≤ 60) := ((fits_two m hm).mul (two_fitsK n 58 (by omega))).len
    have LY : Hid (([1] : List Int).length ≤ 60) := by show 1 ≤ 60; omega
    have VX : Hid (bval (canon (m * 2 ^ n)) = m * 2 ^ n) := bval_canon _
    have VY : Hid (bval [1] = 1) := rfl
    have b1 : blen 1 ≤ 1100 := Nat.le_trans (blen_le 1 1 (by decide)) (by omega)
    have MG0 := fun w0 xo xc yo (h : Rd .u32 w0 xo xc (canon (m * 2 ^ n))) (g : Rd .u32 w0 yo 1 [1]) => magnitude_any xo yo xc 1 (canon (m * 2 ^ n)) [1] (m * 2 ^ n) 1 w0 h g VX.out VY.out LX.out LY.out (blen_shl m n 1100 hm (by omega)) b1 bnds.1 bnds.2
    unfold MagPost at MG0
    have MG1 := Lib.hid MG0
    have tE : decide (0 ≤ (E : Int) - 1074) = true := decide_eq_true (by omega)
    have eE : ((E : Int) - 1074) = (n : Int) := by omega
    have EE := Lib.hid eE
    clear hn h7 h2 hm hE MG0 bnds eE hm0 b1
    go_wp2_with fail
    rw [EE.out]
    refine HS.out.mono ?_
    rintro e0 w4 ⟨so, sc, rfl, hr, hb⟩
    have X4 := Lib.hid hr
    have Y4 := Lib.hid (ONE.out.keep hb)
    have B4 := Lib.hid (B3.out.trans (hb.mono B3.out.size))
    have MG := Lib.hid (MG1.out w4 _ _ _ X4.out Y4.out)
    clear hr hb M3 B3 HS MG1 AL ONE EE
    go_wp2_with fail
    refine MG.out.mono ?_
    rintro e0 w5 ⟨top, rfl, t1, t2, hbel, hnb, hb⟩
    have X5 := Lib.hid (X4.out.keep hb)
    have Y5 := Lib.hid (Y4.out.keep hb)
    have B5 := Lib.hid (B4.out.trans (hb.mono B4.out.size))
    have HNE := Lib.hid (fun w0 (hb : Below w5.heap.size w5 w0) (j : Nat) (g1 : 1 ≤ j) (g17 : j ≤ 17) => nearest_any so _ sc 1 (canon (m * 2 ^ n)) [1] (m * 2 ^ n) 1 (top - (j : Int)) B w0 (X5.out.keep hb) (Y5.out.keep hb) VX.out VY.out LX.out LY.out (by omega) (by omega) (Nat.pos_iff_ne_zero.1 FRAC.out.2) (low_small FRAC.out.2 hbel g17))
    have SEV := Lib.hid (seventeen FRAC.out HB9.out HZ.out hnb)
    unfold NearestPost at HNE
    have HIN := Lib.hid (show ∀ (j : Nat) c, 1 ≤ j → j ≤ 17 → (c = lowOf (m * 2 ^ n) 1 (top - (j : Int)) ∨ c = highOf (m * 2 ^ n) 1 (top - (j : Int))) → Pick (lowOf (m * 2 ^ n) 1 (top - (j : Int))) (highOf (m * 2 ^ n) 1 (top - (j : Int))) (top - (j : Int)) B (halfOf (m * 2 ^ n) 1 (top - (j : Int))) c → Hits c (top - (j : Int)) B → (∀ i : Nat, 1 ≤ i → i < j → ¬ Hits (lowOf (m * 2 ^ n) 1 (top - (i : Int))) (top - (i : Int)) B ∧ ¬ Hits (highOf (m * 2 ^ n) 1 (top - (i : Int))) (top - (i : Int)) B) → ShortIs B c (top - (j : Int)) from
      fun j c g1 g2 g3 gp g4 g5 => ⟨(m * 2 ^ n), 1, top, j, FRAC.out, hbel, hnb, g1, g2, ⟨t1, ND.out.1, ND.out.2, gp⟩, t2, rfl, g3, g4, g5⟩)
    obtain ⟨HI, hHI⟩ : ∃ HI : Int → Prop, HI = fun k => Hits (lowOf (m * 2 ^ n) 1 k) k B := ⟨_, rfl⟩
    obtain ⟨HJ, hHJ⟩ : ∃ HJ : Int → Prop, HJ = fun k => Hits (highOf (m * 2 ^ n) 1 k) k B := ⟨_, rfl⟩
    have i1 : ∀ k, HI k = Hits (lowOf (m * 2 ^ n) 1 k) k B := fun k => by rw [hHI]
    have i2 : ∀ k, HJ k = Hits (highOf (m * 2 ^ n) 1 k) k B := fun k => by rw [hHJ]
    simp only [← i1, ← i2] at HNE SEV HIN
    generalize lowOf (m * 2 ^ n) 1 = LO at *
    generalize highOf (m * 2 ^ n) 1 = HG at *
    clear hb X4 Y4 B4 MG hbel hnb X5 Y5 i1 i2 hHI hHJ VX VY LX LY FRAC ND
    go_wp2_with fail
    go_loopw [11, 12, 13, 14] (fun nv a1 a2 a3 wr => ∃ n : Nat, nv = .int .i64 n ∧ 1 ≤ n ∧ n ≤ 17 ∧ Hid (∀ i : Nat, 1 ≤ i → i < n → ¬ HI (top - (i : Int)) ∧ ¬ HJ (top - (i : Int))) ∧ Below w5.heap.size w5 wr) (fun nv _ _ _ _ => 18 - (intOf nv).toNat)
    case atStart => exact ⟨1, rfl, by omega, by omega, (fun i h1 h2 => absurd h1 (by omega)), Below.refl _ _⟩
    case round =>
      obtain ⟨n, rfl, n1, n2, hprev, hb⟩ := hrel
      have HC := Lib.hid (HNE.out wr hb n n1 n2)
      go_wp2_with fail
      refine HC.out.mono ?_
      rintro e0 w6 (⟨c, hc, hpk, hit, rfl, hb2⟩ | ⟨z1, z2, rfl, hb2⟩)
      · have B6 := Lib.hid (B5.out.trans ((hb.trans (hb2.mono hb.size)).mono B5.out.size))
        have IN := Lib.hid (HIN.out n c n1 n2 hc hpk hit hprev.out)
        clear hb hb2 hc hpk hit HC
        have hfin := Lib.hid (HPOST.out _ w6 c _ IN.out rfl B6.out)
        generalize shortOf c = st at *
        generalize decText c = dt at *
        go_wp2
        go_ret3
        exact hfin.out
      · have B6 := Lib.hid (hb.trans (hb2.mono hb.size))
        have hlt : n < 17 := by
          apply Classical.byContradiction
          intro hc
          obtain rfl : n = 17 := by omega
          exact SEV.out.elim z1 z2
        have HPR : Hid (∀ i : Nat, 1 ≤ i → i < n + 1 → ¬ HI (top - (i : Int)) ∧ ¬ HJ (top - (i : Int))) := by
          intro i g1 g2
          rcases Nat.lt_or_ge i n with g3 | g3
          · exact hprev.out i g1 g3
          · obtain rfl : i = n := by omega
            exact ⟨z1, z2⟩
        clear hb hb2 HC z1 z2 hprev
        go_wp2_with fail
        go_roundw
        case rel => exact ⟨n + 1, by congr 1 <;> omega, by omega, by omega, HPR, B6.out⟩
        case measure => simp [intOf]; omega
end Go.Proofs.YtldhmfkojaekfaaGreatDoor
namespace Go.Proofs.YtldhmfkojaekfaaGreatDoor
set_option maxRecDepth 100000

theorem dec_lt (n : Nat) : n < 10 ^ (decText n).length := by
  by_cases h : n = 0
  · subst h; decide
  · have h1 := dig_len_lt n
    have h2 : (decText n).length = (dig n).length := by
      unfold decText; rw [if_neg h, List.length_map, List.length_reverse]
    rw [h2]; exact h1
theorem trimRight_snoc (l : List UInt8) : Lib.trimRightB (l ++ [48]) 48 = Lib.trimRightB l 48 := by
  unfold Lib.trimRightB
  rw [List.reverse_append]
  simp
theorem shortOf_ten (c : Nat) (h : c ≠ 0) : shortOf (c * 10) = shortOf c := by
  unfold shortOf
  rw [text_big (c * 10) (by omega), show c * 10 / 10 = c by omega, show c * 10 % 10 = 0 by omega]
  exact trimRight_snoc _
theorem short_pow (n : Nat) : shortOf (10 ^ n) = shortOf 1 := by
  induction n with
  | zero => rfl
  | succ n ih => rw [Nat.pow_succ, shortOf_ten _ (Nat.pos_iff_ne_zero.1 (Nat.pow_pos (by decide))), ih]
theorem short_le (c n : Nat) (h : c ≤ 10 ^ n) (hn : 1 ≤ n) : (shortOf c).length ≤ n := by
  rcases Nat.lt_or_ge c (10 ^ n) with h1 | h1
  · exact Nat.le_trans (trimRight_len _ _) (decText_len c n h1 hn)
  · have : c = 10 ^ n := by omega
    rw [this, short_pow]
    have h2 := trimRight_len (decText 1) 48
    rw [text_small 1 (by decide)] at h2
    unfold shortOf
    rw [text_small 1 (by decide)]
    exact Nat.le_trans h2 hn
theorem high_le_low (N D : Nat) (k : Int) : highOf N D k ≤ lowOf N D k + 1 := by
  unfold highOf; split <;> omega
theorem shortIs_len {B c : Nat} {kk : Int} (h : ShortIs B c kk) : c ≤ 100000000000000000 ∧ (shortOf c).length ≤ 17 := by
  obtain ⟨N, D, top, n0, hF, hb, hnb, h1, h17, -, -, rfl, hc, -, -⟩ := h
  have a1 := low_lt (n := n0) hF.2 hb
  have a2 := high_le_low N D (top - (n0 : Int))
  have a3 : c ≤ 10 ^ n0 := by rcases hc with rfl | rfl <;> omega
  have a4 := Nat.pow_le_pow_right (show 10 > 0 by decide) h17
  have a5 : (10 : Nat) ^ 17 = 100000000000000000 := by decide
  have a6 := short_le c n0 a3 h1
  omega
theorem shortest {B c n : Nat} {kk k : Int} (h : ShortIs B c kk) (hB : B < 9218868437227405312) (hl : (decText n).length < (shortOf c).length) (hn : Hits n k B) : False := by
  obtain ⟨N, D, top, n0, hF, hb, hnb, h1, h17, -, -, rfl, hc, -, hprev⟩ := h
  have a1 := low_lt (n := n0) hF.2 hb
  have a2 := high_le_low N D (top - (n0 : Int))
  have a3 : c ≤ 10 ^ n0 := by rcases hc with rfl | rfl <;> omega
  have a6 := short_le c n0 a3 h1
  have a7 := dec_lt n
  have a8 := text_pos n
  obtain ⟨j, hj⟩ : ∃ j, (decText n).length = j + 1 := ⟨(decText n).length - 1, by omega⟩
  rw [hj] at a7 hl
  obtain ⟨p1, p2⟩ := hprev (j + 1) (by omega) (by omega)
  exact (shorter hF hB hnb a7 hn).elim p1 p2
end Go.Proofs.YtldhmfkojaekfaaGreatDoor
namespace Go.Proofs.YtldhmfkojaekfaaGreatDoor
set_option maxRecDepth 100000

theorem trimRight_other (l : List UInt8) (b : UInt8) (h : b ≠ 48) : Lib.trimRightB (l ++ [b]) 48 = l ++ [b] := by
  unfold Lib.trimRightB
  rw [List.reverse_append]
  simp [h]
theorem byteOf_ne (d : Nat) (h : d < 10) (h0 : d ≠ 0) : byteOf d ≠ 48 := by
  intro hc
  have h1 := byteOf_nat d h
  rw [hc] at h1
  have h2 : (48 : UInt8).toNat = 48 := rfl
  omega
/-- what is left, and so many noughts -/
theorem short_parts (c : Nat) (h : c ≠ 0) : ∃ (m z : Nat), c = m * 10 ^ z ∧ m % 10 ≠ 0 ∧ shortOf c = decText m ∧ (decText c).length = (decText m).length + z := by
  induction c using Nat.strongRecOn with
  | ind c ih =>
    by_cases h0 : c % 10 = 0
    · have hq : c / 10 ≠ 0 := by omega
      obtain ⟨m, z, h1, h2, h3, h4⟩ := ih (c / 10) (by omega) hq
      have hc : c = c / 10 * 10 := by omega
      refine ⟨m, z + 1, ?_, h2, ?_, ?_⟩
      · rw [Nat.pow_succ, ← Nat.mul_assoc, ← h1]; exact hc
      · rw [hc, shortOf_ten _ hq]; exact h3
      · rw [text_big c (by omega), List.length_append, h4]; simp; omega
    · refine ⟨c, 0, by simp, h0, ?_, by simp⟩
      have hb : byteOf (c % 10) ≠ 48 := byteOf_ne _ (by omega) h0
      unfold shortOf
      by_cases hs : c < 10
      · rw [text_small c hs]
        have e : c % 10 = c := Nat.mod_eq_of_lt hs
        rw [e] at hb
        exact trimRight_other [] _ hb
      · rw [text_big c (by omega)]
        exact trimRight_other _ _ hb
theorem shortIs_pos {B c : Nat} {kk : Int} (h : ShortIs B c kk) (hB : B ≠ 0) : c ≠ 0 := by
  obtain ⟨N, D, top, n0, hF, hb, hnb, h1, h17, -, -, rfl, hc, hit, -⟩ := h
  intro h0
  subst h0
  have h2 : Hits 0 (top - (n0 : Int)) 0 := by
    unfold Hits
    rw [Nat.zero_mul]
    exact rnd_zero75 _ (tenDn_pos _)
  exact hB (hit.uniq h2)
/-- the short digits tell the fraction -/
theorem hits_parts {c m z B : Nat} {kk : Int} (h : Hits c kk B) (hc : c = m * 10 ^ z) {b : Nat} (g : Hits m (kk + (z : Int)) b) : b = B := by
  refine Rnd.uniq g h (tenDn_pos _) (tenDn_pos _) (y75_mul _ _ _ _ ?_)
  have ht := ten_shift (kk + (z : Int)) z
  rw [show kk + (z : Int) - (z : Int) = kk by omega] at ht
  rw [hc, Nat.mul_assoc, ht]
  simp only [Nat.mul_assoc]
end Go.Proofs.YtldhmfkojaekfaaGreatDoor
namespace Go.Proofs.YtldhmfkojaekfaaGreatDoor
open Go.RowKit Gx
set_option maxRecDepth 100000

theorem dec_head (m : Nat) (h : m ≠ 0) : (decText m).head? ≠ some 48 := by
  intro hc
  have h1 := (decOk_text m).2.2 hc
  by_cases hs : m < 10
  · rw [text_small m hs] at hc
    exact byteOf_ne m hs h (by simpa using hc)
  · rw [text_big m (by omega), List.length_append] at h1
    have := text_pos (m / 10)
    simp only [List.length_cons, List.length_nil] at h1
    omega
theorem dec_last (m : Nat) (h : m % 10 ≠ 0) : (decText m).getLast? ≠ some 48 := by
  intro hc
  by_cases hs : m < 10
  · rw [text_small m hs] at hc
    exact byteOf_ne m hs (by omega) (by simpa using hc)
  · rw [text_big m (by omega)] at hc
    exact byteOf_ne (m % 10) (by omega) h (by simpa using hc)
theorem bytes_first (s : ByteArray) (l : List UInt8) (hs : s = ⟨l.toArray⟩) (h : 0 < s.size) (hl : l.head? ≠ some 48) : s[0] ≠ 48 := by
  subst hs
  intro hc
  apply hl
  have h1 : 0 < l.length := by simpa [ByteArray.size] using h
  cases l with
  | nil => simp at h1
  | cons a t =>
    have : a = 48 := hc
    simp [this]
theorem bytes_last (s : ByteArray) (l : List UInt8) (hs : s = ⟨l.toArray⟩) (i : Nat) (h : i < s.size) (hi : i = s.size - 1) (hl : l.getLast? ≠ some 48) : s[i] ≠ 48 := by
  subst hs
  intro hc
  apply hl
  have h2 : (⟨l.toArray⟩ : ByteArray).size = l.length := by simp [ByteArray.size]
  rw [h2] at hi h
  have h3 : l[i] = 48 := hc
  rw [List.getLast?_eq_getElem?, ← hi, List.getElem?_eq_getElem h, h3]

end Go.Proofs.YtldhmfkojaekfaaGreatDoor
namespace Go.Proofs.YtldhmfkojaekfaaGreatDoor
open Go
set_option maxRecDepth 100000

theorem decDigits_text (u : Nat) : Lib.decDigits u = decText u := by
  induction u using Nat.strongRecOn with
  | ind u ih =>
    rw [Lib.decDigits]
    by_cases h : u < 10
    · rw [dif_pos h, text_small u h]; rfl
    · rw [dif_neg h, text_big u (by omega), ih (u / 10) (by omega)]; rfl

/-- the digits with their point -/
def pointOf (d : List UInt8) (k : Int) : List UInt8 :=
  if -3 ≤ (d.length : Int) + k ∧ (d.length : Int) + k ≤ 0 then [48, 46] ++ List.replicate (-((d.length : Int) + k)).toNat 48 ++ d
  else if 0 < (d.length : Int) + k ∧ (d.length : Int) + k < d.length then d.take ((d.length : Int) + k).toNat ++ 46 :: d.drop ((d.length : Int) + k).toNat
  else if (d.length : Int) ≤ (d.length : Int) + k ∧ (d.length : Int) + k ≤ 17 then d ++ List.replicate ((d.length : Int) + k - d.length).toNat 48 ++ [46, 48]
  else d.take 1 ++ (if 1 < d.length then 46 :: d.drop 1 else []) ++ 101 :: Lib.itoa ((d.length : Int) + k - 1)

def fracOf (s : List UInt8) : Option (List UInt8 × List UInt8) :=
  if s.head? = some 46 then
    if s.tail.takeWhile isDigit = [] then none else some (s.tail.takeWhile isDigit, s.tail.dropWhile isDigit)
  else some ([], s)
def expVal (e : List UInt8) : Nat := e.foldl (fun x b => min (x * 10 + (b.toNat - 48)) 100000) 0
def signOf (s : List UInt8) : Bool × List UInt8 := if s.head? = some 45 then (true, s.tail) else if s.head? = some 43 then (false, s.tail) else (false, s)
def expEnd (m : Bool × List UInt8) : Option Int :=
  if m.2.takeWhile isDigit = [] ∨ m.2.dropWhile isDigit ≠ [] then none
  else some (if m.1 then -(expVal (m.2.takeWhile isDigit) : Int) else (expVal (m.2.takeWhile isDigit) : Int))
def expOf (s : List UInt8) : Option Int := if s = [] then some 0 else if s.head? ≠ some 101 then none else expEnd (signOf s.tail)
def litEnd (whole : List UInt8) (f : List UInt8 × List UInt8) : Option (List UInt8 × Int) := (expOf f.2).map fun x => (whole ++ f.1, x - (f.1.length : Int))
/-- the digits and the exponent of a text without its sign -/
def litOf (s : List UInt8) : Option (List UInt8 × Int) :=
  if s.takeWhile isDigit = [] ∨ ((s.takeWhile isDigit).head? = some 48 ∧ 1 < (s.takeWhile isDigit).length) ∨ s.dropWhile isDigit = [] then none
  else (fracOf (s.dropWhile isDigit)).bind (litEnd (s.takeWhile isDigit))

theorem tw_split : ∀ (l r : List UInt8), (∀ b ∈ l, isDigit b = true) → (∀ b, r.head? = some b → isDigit b = false) → (l ++ r).takeWhile isDigit = l ∧ (l ++ r).dropWhile isDigit = r
  | [], r, _, hr => by
    cases r with
    | nil => exact ⟨rfl, rfl⟩
    | cons b t => have := hr b rfl; simp [this]
  | a :: l, r, h, hr => by
    have ha := h a (by simp)
    obtain ⟨e1, e2⟩ := tw_split l r (fun b hb => h b (by simp [hb])) hr
    simp [ha, e1, e2]
theorem tw_all (l : List UInt8) (h : ∀ b ∈ l, isDigit b = true) : l.takeWhile isDigit = l ∧ l.dropWhile isDigit = [] := by
  have := tw_split l [] h (by simp)
  simpa using this

theorem litOf_parts (whole rest f r : List UInt8) (x : Int) (h1 : ∀ b ∈ whole, isDigit b = true) (h2 : whole ≠ []) (h3 : whole.head? = some 48 → whole.length = 1)
    (h4 : ∀ b, rest.head? = some b → isDigit b = false) (h5 : rest ≠ []) (h6 : fracOf rest = some (f, r)) (h7 : expOf r = some x) :
    litOf (whole ++ rest) = some (whole ++ f, x - (f.length : Int)) := by
  obtain ⟨e1, e2⟩ := tw_split whole rest h1 h4
  unfold litOf
  rw [e1, e2, if_neg, h6]
  · simp [litEnd, h7]
  · rintro (h | ⟨h, h'⟩ | h)
    · exact h2 h
    · have := h3 h; omega
    · exact h5 h
theorem fracOf_dot (f r : List UInt8) (h1 : ∀ b ∈ f, isDigit b = true) (h2 : f ≠ []) (h3 : ∀ b, r.head? = some b → isDigit b = false) : fracOf (46 :: (f ++ r)) = some (f, r) := by
  obtain ⟨e1, e2⟩ := tw_split f r h1 h3
  unfold fracOf
  simp [e1, e2, h2]
theorem expF : ∀ (l : List UInt8) (a c : Nat), c = min a 100000 → l.foldl (fun x (b : UInt8) => min (x * 10 + (b.toNat - 48)) 100000) c = min (l.foldl (fun x (b : UInt8) => x * 10 + (b.toNat - 48)) a) 100000
  | [], a, c, h => h
  | b :: l, a, c, h => by
    rw [List.foldl_cons, List.foldl_cons]
    exact expF l _ _ (by subst h; omega)
theorem expVal_text (u : Nat) (h : u ≤ 100000) : expVal (decText u) = u := by
  have e := expF (decText u) 0 0 rfl
  have e2 := decVal_text u
  unfold decVal at e2
  unfold expVal
  rw [e, e2]; omega
theorem text_digits (m : Nat) : ∀ b ∈ decText m, isDigit b = true := (decOk_text m).2.1
theorem text_ne (m : Nat) : decText m ≠ [] := (decOk_text m).1
theorem expOf_itoa (y : Int) (h1 : -100000 ≤ y) (h2 : y ≤ 100000) : expOf (101 :: Lib.itoa y) = some y := by
  unfold expOf
  rw [if_neg (by simp), if_neg (by simp)]
  show expEnd (signOf (Lib.itoa y)) = _
  have hs : signOf (Lib.itoa y) = (decide (y < 0), decText y.natAbs) := by
    unfold Lib.itoa
    by_cases hy : y < 0
    · rw [if_pos hy, decDigits_text, decide_eq_true hy]; rfl
    · rw [if_neg hy, decDigits_text, decide_eq_false hy, show y.toNat = y.natAbs by omega]
      have hd := text_digits y.natAbs
      cases ht : decText y.natAbs with
      | nil => exact absurd ht (text_ne _)
      | cons a t =>
        rw [ht] at hd
        have ha := hd a (by simp)
        have n1 : a ≠ 45 := by intro h; subst h; exact absurd ha (by decide)
        have n2 : a ≠ 43 := by intro h; subst h; exact absurd ha (by decide)
        unfold signOf
        simp [n1, n2]
  rw [hs]
  obtain ⟨e1, e2⟩ := tw_all (decText y.natAbs) (text_digits _)
  unfold expEnd
  simp only
  rw [e1, e2, if_neg (by rintro (h | h); exact text_ne _ h; exact h rfl), expVal_text _ (by omega)]
  by_cases hy : y < 0
  · simp only [decide_eq_true hy, if_true]; congr 1; omega
  · rw [decide_eq_false hy]; simp; omega

theorem rep_digits (n : Nat) : ∀ b ∈ List.replicate n (48 : UInt8), isDigit b = true := by
  intro b hb
  rw [List.mem_replicate] at hb
  rw [hb.2]; decide
theorem head_take (l : List UInt8) (n : Nat) (hn : 0 < n) : (l.take n).head? = l.head? := by
  cases l with
  | nil => simp
  | cons a t => cases n with
    | zero => omega
    | succ n => rfl

theorem dot_head (t : List UInt8) : ∀ b, (46 :: t).head? = some b → isDigit b = false := by
  intro b hb
  have : b = 46 := by simpa using hb.symm
  subst this; decide
/-- what was told is read: noughts ahead, the digits, noughts behind -/
theorem lit_point (d : List UInt8) (k : Int) (h1 : ∀ b ∈ d, isDigit b = true) (h2 : d ≠ []) (h0 : d.head? ≠ some 48) (h3 : d.length ≤ 17) (h4 : -2000 ≤ k) (h5 : k ≤ 2000) :
    ∃ a z : Nat, litOf (pointOf d k) = some (List.replicate a 48 ++ d ++ List.replicate z 48, k - (z : Int)) ∧ z ≤ 18 := by
  have hl : 0 < d.length := List.length_pos_iff.2 h2
  obtain ⟨n, hn⟩ : ∃ n, n = d.length := ⟨_, rfl⟩
  unfold pointOf
  rw [← hn] at h3 hl ⊢
  by_cases c1 : -3 ≤ (n : Int) + k ∧ (n : Int) + k ≤ 0
  · rw [if_pos c1]
    obtain ⟨j, hj⟩ : ∃ j, j = (-((n : Int) + k)).toNat := ⟨_, rfl⟩
    rw [← hj]
    refine ⟨j + 1, 0, ?_, by omega⟩
    have e : [48, 46] ++ List.replicate j 48 ++ d = [48] ++ (46 :: ((List.replicate j 48 ++ d) ++ [])) := by simp
    have hf : ∀ b ∈ List.replicate j 48 ++ d, isDigit b = true := fun b hb => (List.mem_append.1 hb).elim (rep_digits j b) (h1 b)
    rw [e, litOf_parts [48] _ (List.replicate j 48 ++ d) [] 0 (by decide) (by decide) (by decide) (dot_head _) (by simp)
      (fracOf_dot _ _ hf (by simp [h2]) (by simp)) rfl]
    congr 1
    have e2 : [48] ++ (List.replicate j 48 ++ d) = List.replicate (j + 1) 48 ++ d ++ List.replicate 0 48 := by simp [List.replicate_succ]
    rw [e2]
    congr 1
    simp only [List.length_append, List.length_replicate, ← hn]
    omega
  rw [if_neg c1]
  by_cases c2 : 0 < (n : Int) + k ∧ (n : Int) + k < n
  · rw [if_pos c2]
    obtain ⟨p, hp⟩ : ∃ p, p = ((n : Int) + k).toNat := ⟨_, rfl⟩
    rw [← hp]
    refine ⟨0, 0, ?_, by omega⟩
    have e : d.take p ++ 46 :: d.drop p = d.take p ++ (46 :: (d.drop p ++ [])) := by simp
    rw [e, litOf_parts (d.take p) _ (d.drop p) [] 0 (fun b hb => h1 b (List.mem_of_mem_take hb)) (by intro h; have := congrArg List.length h; rw [List.length_take, List.length_nil] at this; omega)
      (by rw [head_take d p (by omega)]; exact fun h => absurd h h0) (dot_head _) (by simp)
      (fracOf_dot _ _ (fun b hb => h1 b (List.mem_of_mem_drop hb)) (by intro h; have := congrArg List.length h; rw [List.length_drop, List.length_nil] at this; omega) (by simp)) rfl]
    rw [List.take_append_drop]
    congr 1
    simp only [List.length_drop, ← hn, List.replicate_zero, List.nil_append, List.append_nil]
    congr 1
    omega
  rw [if_neg c2]
  by_cases c3 : (n : Int) ≤ (n : Int) + k ∧ (n : Int) + k ≤ 17
  · rw [if_pos c3]
    obtain ⟨j, hj⟩ : ∃ j, j = ((n : Int) + k - n).toNat := ⟨_, rfl⟩
    rw [← hj]
    refine ⟨0, j + 1, ?_, by omega⟩
    have e : d ++ List.replicate j 48 ++ [46, 48] = (d ++ List.replicate j 48) ++ (46 :: ([48] ++ [])) := by simp
    have hd : ∀ b ∈ d ++ List.replicate j 48, isDigit b = true := fun b hb => (List.mem_append.1 hb).elim (h1 b) (rep_digits j b)
    have hh : (d ++ List.replicate j 48).head? = d.head? := by
      cases d with
      | nil => exact absurd rfl h2
      | cons a t => rfl
    rw [e, litOf_parts (d ++ List.replicate j 48) _ [48] [] 0 hd (by simp [h2]) (by rw [hh]; exact fun h => absurd h h0) (dot_head _) (by simp)
      (fracOf_dot _ _ (by decide) (by decide) (by simp)) rfl]
    congr 1
    have e2 : d ++ List.replicate j 48 ++ [48] = List.replicate 0 48 ++ d ++ List.replicate (j + 1) 48 := by simp [List.replicate_succ']
    rw [e2]
    congr 1
    simp only [List.length_cons, List.length_nil]
    omega
  rw [if_neg c3]
  refine ⟨0, 0, ?_, by omega⟩
  have hex := expOf_itoa ((n : Int) + k - 1) (by omega) (by omega)
  have hne : ∀ b, (101 :: Lib.itoa ((n : Int) + k - 1)).head? = some b → isDigit b = false := by
    intro b hb; have : b = 101 := by simpa using hb.symm
    subst this; decide
  by_cases c4 : 1 < n
  · rw [if_pos c4]
    have e : d.take 1 ++ 46 :: d.drop 1 ++ 101 :: Lib.itoa ((n : Int) + k - 1) = d.take 1 ++ (46 :: (d.drop 1 ++ (101 :: Lib.itoa ((n : Int) + k - 1)))) := by simp
    rw [e, litOf_parts (d.take 1) _ (d.drop 1) _ _ (fun b hb => h1 b (List.mem_of_mem_take hb)) (by intro h; have := congrArg List.length h; rw [List.length_take, List.length_nil] at this; omega)
      (by rw [head_take d 1 (by omega)]; exact fun h => absurd h h0) (dot_head _) (by simp)
      (fracOf_dot _ _ (fun b hb => h1 b (List.mem_of_mem_drop hb)) (by intro h; have := congrArg List.length h; rw [List.length_drop, List.length_nil] at this; omega) hne) hex]
    rw [List.take_append_drop]
    congr 1
    simp only [List.length_drop, ← hn, List.replicate_zero, List.nil_append, List.append_nil]
    congr 1
    omega
  · rw [if_neg c4, List.append_nil]
    have e : d.take 1 = d := List.take_of_length_le (by omega)
    rw [e, litOf_parts d _ [] _ _ h1 h2 (fun h => absurd h h0) hne (by simp) (by unfold fracOf; rw [if_neg (by simp)]) hex]
    congr 1
    simp only [List.length_nil, List.replicate_zero, List.nil_append, List.append_nil]
    congr 1
    omega

theorem itoa_len (y : Int) (h1 : -10000 < y) (h2 : y < 10000) : (Lib.itoa y).length ≤ 5 := by
  unfold Lib.itoa
  split
  · rw [decDigits_text, List.length_cons]
    have := decText_len y.natAbs 4 (by omega) (by omega)
    omega
  · rw [decDigits_text]
    have := decText_len y.toNat 4 (by omega) (by omega)
    omega
theorem point_len (d : List UInt8) (k : Int) (h3 : d.length ≤ 17) (h4 : -2000 ≤ k) (h5 : k ≤ 2000) : (pointOf d k).length ≤ 29 := by
  unfold pointOf
  split
  · simp only [List.length_append, List.length_cons, List.length_nil, List.length_replicate]; omega
  split
  · simp only [List.length_append, List.length_cons, List.length_take, List.length_drop]; omega
  split
  · simp only [List.length_append, List.length_cons, List.length_nil, List.length_replicate]; omega
  · have := itoa_len ((d.length : Int) + k - 1) (by omega) (by omega)
    simp only [List.length_append, List.length_cons, List.length_take]
    split <;> simp <;> omega
/-- it begins with a digit -/
theorem point_head (d : List UInt8) (k : Int) (h1 : ∀ b ∈ d, isDigit b = true) (h2 : d ≠ []) : ∃ c t, pointOf d k = c :: t ∧ isDigit c = true := by
  cases d with
  | nil => exact absurd rfl h2
  | cons a t =>
    have ha := h1 a (by simp)
    unfold pointOf
    split
    · exact ⟨48, _, rfl, by decide⟩
    split
    · rename_i hc
      obtain ⟨p, hp⟩ : ∃ p, (((a :: t).length : Int) + k).toNat = p + 1 := ⟨_, (Nat.succ_pred_eq_of_pos (by omega)).symm⟩
      rw [hp]
      exact ⟨a, _, rfl, ha⟩
    split
    · exact ⟨a, _, rfl, ha⟩
    · exact ⟨a, _, rfl, ha⟩
theorem trimLeft_point (d : List UInt8) (a z : Nat) (h2 : d ≠ []) (h0 : d.head? ≠ some 48) : Lib.trimLeftB (List.replicate a 48 ++ d ++ List.replicate z 48) 48 = d ++ List.replicate z 48 := by
  unfold Lib.trimLeftB
  induction a with
  | zero =>
    cases d with
    | nil => exact absurd rfl h2
    | cons b t =>
      have : b ≠ 48 := by intro h; apply h0; simp [h]
      simp [this]
  | succ a ih => rw [List.replicate_succ]; simpa using ih
theorem decVal_noughts (d : List UInt8) (z : Nat) : decVal (d ++ List.replicate z 48) = decVal d * 10 ^ z := by
  induction z with
  | zero => simp
  | succ z ih =>
    rw [List.replicate_succ', ← List.append_assoc, decVal_snoc, ih, Nat.pow_succ, ← Nat.mul_assoc]
    simp
end Go.Proofs.YtldhmfkojaekfaaGreatDoor
