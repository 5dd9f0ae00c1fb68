/-
  Plain law: 17 digits; no fewer digits than the first that tell a fraction. No conditions.
-/
import Derived.Test.YtmieegcnfnoiiaaDoorShortLaw
namespace Go.Proofs.YtmieegcnfnoiiaaDoor
set_option maxRecDepth 100000

theorem ten_ge (N D b : Nat) (top : Int) (T : Nat) (h1 : N * T = fval b * D) (hD : 0 < D) (h : ¬ Bel N D (top - 1)) :
    10 ^ 16 * (tenUp (top - (17 : Nat)) * T) ≤ fval b * tenDn (top - (17 : Nat)) := by
  unfold Bel at h
  have hs := ten_shift (top - 1) 16
  rw [show top - 1 - ((16 : Nat) : Int) = top - ((17 : Nat) : Int) by omega] at hs
  obtain ⟨k, hk⟩ : ∃ k, k = top - ((17 : Nat) : Int) := ⟨_, rfl⟩
  rw [← hk] at hs ⊢
  have p0 := tenDn_pos (top - 1)
  have h2 := Nat.mul_le_mul_right (T * tenDn k) (Nat.le_of_not_lt h)
  generalize tenUp k = u at *
  generalize tenDn k = t at *
  generalize tenUp (top - 1) = U at *
  generalize tenDn (top - 1) = V at *
  generalize fval b = f at *
  generalize 10 ^ 16 = c at *
  have e1 : D * U * (T * t) = c * (u * T) * (V * D) := by
    have : D * U * (T * t) = D * T * (U * t) := by simp only [Nat.mul_assoc, Nat.mul_comm, Nat.mul_left_comm]
    rw [this, hs]
    simp only [Nat.mul_assoc, Nat.mul_comm, Nat.mul_left_comm]
  have e2 : N * V * (T * t) = f * t * (V * D) := by
    have : N * V * (T * t) = N * T * (V * t) := by simp only [Nat.mul_assoc, Nat.mul_comm, Nat.mul_left_comm]
    rw [this, h1]
    simp only [Nat.mul_assoc, Nat.mul_comm, Nat.mul_left_comm]
  rw [e1, e2] at h2
  exact Nat.le_of_mul_le_mul_right h2 (Nat.mul_pos p0 hD)

theorem ten_small {u t f g : Nat} (h : 10 ^ 16 * u ≤ f * t) (hf : f ≤ 9007199254740992 * g) (hg : 0 < g) (ht : 0 < t) : u < g * t := by
  have h1 : (10 : Nat) ^ 16 = 10000000000000000 := by decide
  rw [h1] at h
  have h2 := Nat.mul_le_mul_right t hf
  rw [Nat.mul_assoc] at h2
  have h3 := Nat.mul_pos hg ht
  omega

theorem near_side {c u t f D Q P T b : Nat} (hD : 0 < D) (hb0 : 0 < b) (hQ : Q * T = D * u) (hP : P * T = f * D * t) (hf : f = fval b) (hT : 0 < T) (ht : 0 < t)
    (h16 : 10 ^ 16 * u ≤ f * t) (h1 : 2 * (c * Q) ≤ 2 * P + Q) (h2 : 2 * P ≤ 2 * (c * Q) + Q) :
    t * fmid (b - 1) < 2 * (c * u) ∧ 2 * (c * u) < t * fmid b := by
  obtain ⟨g, hg, eg, lg⟩ := gap_lo b hb0
  obtain ⟨g', hg', eg', lg'⟩ := gap_hi b
  rw [← hf] at eg lg eg' lg'
  have s1 := ten_small h16 lg hg ht
  have s2 := ten_small h16 lg' hg' ht
  have a1 : 2 * (c * u) ≤ 2 * (f * t) + u := by
    have := Nat.mul_le_mul_right T h1
    have e1 : 2 * (c * Q) * T = D * (2 * (c * u)) := by
      have : 2 * (c * Q) * T = 2 * c * (Q * T) := by simp only [Nat.mul_assoc, Nat.mul_comm, Nat.mul_left_comm]
      rw [this, hQ]; simp only [Nat.mul_assoc, Nat.mul_comm, Nat.mul_left_comm]
    have e2 : (2 * P + Q) * T = D * (2 * (f * t) + u) := by
      rw [Nat.add_mul, hQ, Nat.mul_assoc, hP, Nat.mul_add]
      congr 1
      simp only [Nat.mul_assoc, Nat.mul_comm, Nat.mul_left_comm]
    rw [e1, e2] at this
    exact Nat.le_of_mul_le_mul_left this hD
  have a2 : 2 * (f * t) ≤ 2 * (c * u) + u := by
    have := Nat.mul_le_mul_right T h2
    have e1 : 2 * P * T = D * (2 * (f * t)) := by
      rw [Nat.mul_assoc, hP]
      simp only [Nat.mul_assoc, Nat.mul_comm, Nat.mul_left_comm]
    have e2 : (2 * (c * Q) + Q) * T = D * (2 * (c * u) + u) := by
      have : 2 * (c * Q) * T = 2 * c * (Q * T) := by simp only [Nat.mul_assoc, Nat.mul_comm, Nat.mul_left_comm]
      rw [Nat.add_mul, this, hQ, Nat.mul_add]
      congr 1
      simp only [Nat.mul_assoc, Nat.mul_comm, Nat.mul_left_comm]
    rw [e1, e2] at this
    exact Nat.le_of_mul_le_mul_left this hD
  refine ⟨?_, ?_⟩
  · unfold fmid
    rw [show b - 1 + 1 = b by omega, ← hf]
    have e : t * (fval (b - 1) + f) + g * t = 2 * (f * t) := by
      rw [eg]; simp only [Nat.mul_add, Nat.add_mul, Nat.mul_comm t]; omega
    omega
  · unfold fmid
    rw [← hf, eg']
    have e : t * (f + (f + g')) = 2 * (f * t) + g' * t := by
      simp only [Nat.mul_add, Nat.add_mul, Nat.mul_comm t]; omega
    omega

theorem seventeen {N D b : Nat} {top : Int} (hF : IsFrac b N D) (hb : b < 9218868437227405312) (hb0 : 0 < b) (h : ¬ Bel N D (top - 1)) :
    Hits (lowOf N D (top - (17 : Nat))) (top - (17 : Nat)) b ∨ Hits (highOf N D (top - (17 : Nat))) (top - (17 : Nat)) b := by
  obtain ⟨h1, hD⟩ := hF
  rw [Nat.mod_eq_of_lt (by omega)] at h1
  obtain ⟨K, hK⟩ : ∃ K : Nat, K = 1074 := ⟨_, rfl⟩
  rw [x74_of N K hK] at h1
  have h16 := ten_ge N D b top (2 ^ K) h1 hD h
  obtain ⟨k, hk⟩ : ∃ k, k = top - ((17 : Nat) : Int) := ⟨_, rfl⟩
  rw [← hk] at h16 ⊢
  have ht := tenDn_pos k
  have hQ0 := Nat.mul_pos hD (tenUp_pos k)
  have hQ : D * tenUp k * 2 ^ K = D * (tenUp k * 2 ^ K) := Nat.mul_assoc _ _ _
  have hP : N * tenDn k * 2 ^ K = fval b * D * tenDn k := by rw [Nat.mul_right_comm, h1]
  have key : ∀ c, 2 * (c * (D * tenUp k)) ≤ 2 * (N * tenDn k) + D * tenUp k → 2 * (N * tenDn k) ≤ 2 * (c * (D * tenUp k)) + D * tenUp k → Hits c k b := by
    intro c c1 c2
    obtain ⟨g1, g2⟩ := near_side hD hb0 hQ hP rfl (Nat.two_pow_pos K) ht h16 c1 c2
    have e : Y75 (c * tenUp k) = 2 * (c * (tenUp k * 2 ^ K)) := by rw [y75_x74, x74_of _ K hK, Nat.mul_assoc]
    unfold Hits
    rw [e]
    exact ⟨by omega, .inr (.inl g1), .inr (.inl g2)⟩
  unfold highOf
  have hl : lowOf N D k = N * tenDn k / (D * tenUp k) := rfl
  have m1 := Nat.div_add_mod (N * tenDn k) (D * tenUp k)
  have m2 := Nat.mod_lt (N * tenDn k) hQ0
  rw [← hl] at m1
  generalize lowOf N D k = low at *
  generalize N * tenDn k % (D * tenUp k) = r at *
  generalize N * tenDn k = P at *
  generalize D * tenUp k = Q at *
  rw [Nat.mul_comm] at m1
  rcases Nat.lt_or_ge Q (2 * r) with hc | hc
  · right
    rw [if_neg (by omega)]
    refine key _ ?_ ?_
    · rw [Nat.add_mul, Nat.one_mul]; omega
    · rw [Nat.add_mul, Nat.one_mul]; omega
  · left
    exact key _ (by omega) (by omega)

theorem shorter {N D b n j : Nat} {top k : Int} (hF : IsFrac b N D) (hb : b < 9218868437227405312) (hb1 : ¬ Bel N D (top - 1)) (hn : n < 10 ^ (j + 1)) (h : Hits n k b) :
    Hits (lowOf N D (top - ((j + 1 : Nat) : Int))) (top - ((j + 1 : Nat) : Int)) b ∨ Hits (highOf N D (top - ((j + 1 : Nat) : Int))) (top - ((j + 1 : Nat) : Int)) b := by
  have hR := self_rnd hF hb
  obtain ⟨-, hD⟩ := hF
  have hge := low_ge (D := D) j hD hb1
  rw [show top - 1 - (j : Int) = top - ((j + 1 : Nat) : Int) by omega] at hge
  obtain ⟨kk, hkk⟩ : ∃ kk, kk = top - ((j + 1 : Nat) : Int) := ⟨_, rfl⟩
  rw [← hkk] at hge ⊢
  have pk := tenDn_pos k
  have pkk := tenDn_pos kk
  rcases Nat.lt_or_ge (n * tenUp k * D) (N * tenDn k) with hc | hc
  · -- below the fraction
    left
    have hle : n * tenUp k * tenDn kk ≤ lowOf N D kk * tenUp kk * tenDn k := by
      rcases Int.lt_or_le k kk with hl | hl
      · obtain ⟨s, hs⟩ : ∃ s : Nat, k = kk - ((s + 1 : Nat) : Int) := ⟨(kk - k - 1).toNat, by omega⟩
        have ht := ten_shift kk (s + 1)
        rw [← hs] at ht
        have h1 : n ≤ lowOf N D kk * 10 ^ (s + 1) := by
          have a1 : n ≤ 10 ^ j * 10 := by rw [← Nat.pow_succ]; omega
          have a2 : 10 ^ j * 10 ≤ lowOf N D kk * 10 ^ (s + 1) := Nat.mul_le_mul hge (by
            have := Nat.pow_le_pow_right (show 10 > 0 by decide) (show 1 ≤ s + 1 by omega)
            rw [Nat.pow_one] at this; exact this)
          omega
        rw [Nat.mul_assoc (lowOf N D kk), ht]
        have e : lowOf N D kk * (10 ^ (s + 1) * tenUp k * tenDn kk) = lowOf N D kk * 10 ^ (s + 1) * tenUp k * tenDn kk := by simp only [Nat.mul_assoc]
        rw [e]
        exact Nat.mul_le_mul_right _ (Nat.mul_le_mul_right _ h1)
      · obtain ⟨s, hs⟩ : ∃ s : Nat, kk = k - (s : Int) := ⟨(k - kk).toNat, by omega⟩
        have ht := ten_shift k s
        rw [← hs] at ht
        have h1 : n * 10 ^ s ≤ lowOf N D kk := by
          refine le_low hD ?_
          refine Nat.le_of_mul_le_mul_right (c := tenDn k) ?_ pk
          have e : n * 10 ^ s * (D * tenUp kk) * tenDn k = n * tenUp k * D * tenDn kk := by
            have e1 : n * 10 ^ s * (D * tenUp kk) * tenDn k = n * D * (10 ^ s * tenUp kk * tenDn k) := by simp only [Nat.mul_assoc, Nat.mul_comm, Nat.mul_left_comm]
            rw [e1, ← ht]; simp only [Nat.mul_assoc, Nat.mul_comm, Nat.mul_left_comm]
          rw [e, Nat.mul_right_comm N]
          exact Nat.mul_le_mul_right _ (Nat.le_of_lt hc)
        have e : n * tenUp k * tenDn kk = n * 10 ^ s * tenUp kk * tenDn k := by
          rw [Nat.mul_assoc, ht]; simp only [Nat.mul_assoc]
        rw [e]
        exact Nat.mul_le_mul_right _ (Nat.mul_le_mul_right _ h1)
    exact Rnd.between h hR pk hD pkk (y75_le _ _ _ _ hle) (y75_le _ _ _ _ (by
      have := low_le N D kk
      rw [Nat.mul_assoc, Nat.mul_comm (tenUp kk)]; exact this))
  · right
    have hkl : kk ≤ k := by
      apply Classical.byContradiction
      intro hlt
      obtain ⟨s, hs⟩ : ∃ s : Nat, k = (top - 1) - ((j + 1 + s : Nat) : Int) := ⟨(top - 1 - k - (j + 1)).toNat, by omega⟩
      have ht := ten_shift (top - 1) (j + 1 + s)
      rw [← hs] at ht
      unfold Bel at hb1
      have h1 := Nat.mul_le_mul_right (tenDn k) (Nat.le_of_not_lt hb1)
      have h2 := Nat.mul_le_mul_right (tenDn (top - 1)) hc
      have e1 : D * tenUp (top - 1) * tenDn k = 10 ^ (j + 1 + s) * (D * tenUp k * tenDn (top - 1)) := by
        rw [Nat.mul_assoc, ht]; simp only [Nat.mul_assoc, Nat.mul_comm, Nat.mul_left_comm]
      have e2 : n * tenUp k * D * tenDn (top - 1) = n * (D * tenUp k * tenDn (top - 1)) := by simp only [Nat.mul_assoc, Nat.mul_comm, Nat.mul_left_comm]
      have e3 : N * tenDn (top - 1) * tenDn k = N * tenDn k * tenDn (top - 1) := Nat.mul_right_comm _ _ _
      have h3 : 10 ^ (j + 1 + s) * (D * tenUp k * tenDn (top - 1)) ≤ n * (D * tenUp k * tenDn (top - 1)) := by
        rw [← e1, ← e2]; omega
      have h4 := Nat.le_of_mul_le_mul_right h3 (Nat.mul_pos (Nat.mul_pos hD (tenUp_pos k)) (tenDn_pos (top - 1)))
      have h5 := Nat.pow_le_pow_right (show 10 > 0 by decide) (show j + 1 ≤ j + 1 + s by omega)
      omega
    obtain ⟨s, hs⟩ : ∃ s : Nat, kk = k - (s : Int) := ⟨(k - kk).toNat, by omega⟩
    have ht := ten_shift k s
    rw [← hs] at ht
    have h1 : highOf N D kk ≤ n * 10 ^ s := by
      refine high_le hD ?_
      refine Nat.le_of_mul_le_mul_right (c := tenDn k) ?_ pk
      have e : n * 10 ^ s * (D * tenUp kk) * tenDn k = n * tenUp k * D * tenDn kk := by
        have e1 : n * 10 ^ s * (D * tenUp kk) * tenDn k = n * D * (10 ^ s * tenUp kk * tenDn k) := by simp only [Nat.mul_assoc, Nat.mul_comm, Nat.mul_left_comm]
        rw [e1, ← ht]; simp only [Nat.mul_assoc, Nat.mul_comm, Nat.mul_left_comm]
      rw [e, Nat.mul_right_comm N]
      exact Nat.mul_le_mul_right _ hc
    have hle : highOf N D kk * tenUp kk * tenDn k ≤ n * tenUp k * tenDn kk := by
      have e : n * tenUp k * tenDn kk = n * 10 ^ s * tenUp kk * tenDn k := by
        rw [Nat.mul_assoc, ht]; simp only [Nat.mul_assoc]
      rw [e]
      exact Nat.mul_le_mul_right _ (Nat.mul_le_mul_right _ h1)
    exact Rnd.between hR h hD pk pkk (y75_le _ _ _ _ (by
      have := high_ge N D kk hD
      rw [Nat.mul_assoc, Nat.mul_comm (tenUp kk)]; exact this)) (y75_le _ _ _ _ hle)
end Go.Proofs.YtmieegcnfnoiiaaDoor
