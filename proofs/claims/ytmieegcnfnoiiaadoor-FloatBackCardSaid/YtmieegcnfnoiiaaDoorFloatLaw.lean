/-
  Plain law: fractions of 64 bits, without their sign, as natural numbers; the nearest one. No conditions.
-/
namespace Go.Proofs.YtmieegcnfnoiiaaDoor

/-- what a fraction's bits tell, times 2^1074 -/
def fval (b : Nat) : Nat := if b < 4503599627370496 then b else (b % 4503599627370496 + 4503599627370496) * 2 ^ (b / 4503599627370496 - 1)

theorem fval_of (n E : Nat) (h : n < 9007199254740992) (h2 : E = 0 ∨ 4503599627370496 ≤ n) : fval (E * 4503599627370496 + n) = n * 2 ^ E := by
  unfold fval
  rcases h2 with rfl | h2
  · by_cases hn : n < 4503599627370496
    · rw [if_pos (by omega)]; simp
    · rw [if_neg (by omega)]
      have e1 : (0 * 4503599627370496 + n) % 4503599627370496 + 4503599627370496 = n := by omega
      have e2 : (0 * 4503599627370496 + n) / 4503599627370496 - 1 = 0 := by omega
      rw [e1, e2]
  · rw [if_neg (by omega)]
    have e0 : E * 4503599627370496 + n = (n - 4503599627370496) + (E + 1) * 4503599627370496 := by rw [Nat.add_mul, Nat.one_mul]; omega
    have hlt : n - 4503599627370496 < 4503599627370496 := by omega
    have e1 : (E * 4503599627370496 + n) % 4503599627370496 + 4503599627370496 = n := by
      rw [e0, Nat.add_mul_mod_self_right, Nat.mod_eq_of_lt hlt]; omega
    have e2 : (E * 4503599627370496 + n) / 4503599627370496 - 1 = E := by
      rw [e0, Nat.add_mul_div_right _ _ (by decide : 0 < 4503599627370496), Nat.div_eq_of_lt hlt]; omega
    rw [e1, e2]
/-- each is such a one -/
theorem fbits (b : Nat) : ∃ n E, b = E * 4503599627370496 + n ∧ n < 9007199254740992 ∧ (E = 0 ∨ 4503599627370496 ≤ n) ∧ fval b = n * 2 ^ E ∧ (E = b / 4503599627370496 - 1) := by
  by_cases hb : b < 4503599627370496
  · exact ⟨b, 0, by simp, by omega, .inl rfl, by have h := fval_of b 0 (by omega) (.inl rfl); rw [Nat.zero_mul, Nat.zero_add] at h; exact h, by omega⟩
  · have h1 := Nat.div_add_mod b 4503599627370496
    have h2 := Nat.mod_lt b (show 4503599627370496 > 0 by decide)
    have h3 : 1 ≤ b / 4503599627370496 := by omega
    have e : b = (b / 4503599627370496 - 1) * 4503599627370496 + (b % 4503599627370496 + 4503599627370496) := by
      obtain ⟨q, hq⟩ : ∃ q, b / 4503599627370496 = q + 1 := ⟨b / 4503599627370496 - 1, by omega⟩
      rw [hq] at h1 ⊢
      rw [Nat.add_sub_cancel]
      rw [Nat.mul_add, Nat.mul_one, Nat.mul_comm] at h1
      omega
    refine ⟨b % 4503599627370496 + 4503599627370496, b / 4503599627370496 - 1, e, by omega, .inr (by omega), ?_, rfl⟩
    conv => lhs; rw [e]
    rw [fval_of _ _ (by omega) (.inr (by omega))]
theorem fval_succ (b : Nat) : fval (b + 1) = fval b + 2 ^ (b / 4503599627370496 - 1) := by
  obtain ⟨n, E, hb, hn, hE, hv, he⟩ := fbits b
  rw [hv, ← he]
  by_cases h : n + 1 < 9007199254740992
  · rw [show b + 1 = E * 4503599627370496 + (n + 1) by omega, fval_of (n + 1) E h (by omega), Nat.add_mul, Nat.one_mul]
  · have hn2 : n = 9007199254740991 := by omega
    have e : b + 1 = (E + 1) * 4503599627370496 + 4503599627370496 := by rw [Nat.add_mul, Nat.one_mul]; omega
    rw [e, fval_of 4503599627370496 (E + 1) (by decide) (.inr (Nat.le_refl _)), hn2, Nat.pow_succ]
    have : 4503599627370496 * (2 ^ E * 2) = 9007199254740992 * 2 ^ E := by
      rw [Nat.mul_comm (2 ^ E) 2, ← Nat.mul_assoc, Nat.mul_comm 4503599627370496 2]
    rw [this]
    have h3 : 9007199254740992 = 9007199254740991 + 1 := by decide
    conv => lhs; rw [h3]
    rw [Nat.add_mul, Nat.one_mul]
theorem fval_lt {a b : Nat} (h : a < b) : fval a < fval b := by
  induction b with
  | zero => omega
  | succ b ih =>
    have h1 := fval_succ b
    have h2 := Nat.two_pow_pos (b / 4503599627370496 - 1)
    rcases Nat.lt_or_ge a b with h3 | h3
    · have := ih h3; omega
    · have : a = b := by omega
      subst this; omega
theorem fval_le {a b : Nat} (h : a ≤ b) : fval a ≤ fval b := by
  rcases Nat.lt_or_ge a b with h1 | h1
  · exact Nat.le_of_lt (fval_lt h1)
  · rw [show a = b by omega]; exact Nat.le_refl _
/-- what lies between one and the next, times 2^1075 -/
def fmid (b : Nat) : Nat := fval b + fval (b + 1)
theorem fmid_lt {a b : Nat} (h : a < b) : fmid a < fmid b := by
  have h1 := fval_lt h
  have h2 := fval_lt (show a + 1 < b + 1 by omega)
  unfold fmid; omega
theorem fmid_le {a b : Nat} (h : a ≤ b) : fmid a ≤ fmid b := by
  rcases Nat.lt_or_ge a b with h1 | h1
  · exact Nat.le_of_lt (fmid_lt h1)
  · rw [show a = b by omega]; exact Nat.le_refl _
theorem fmid_of (n E : Nat) (h : n < 9007199254740992) (h2 : E = 0 ∨ 4503599627370496 ≤ n) : fmid (E * 4503599627370496 + n) = (2 * n + 1) * 2 ^ E := by
  obtain ⟨m, F, hb, hm, hF, hv, he⟩ := fbits (E * 4503599627370496 + n)
  have e1 : E = (E * 4503599627370496 + n) / 4503599627370496 - 1 := by
    rcases h2 with rfl | h2
    · omega
    · have e0 : E * 4503599627370496 + n = (n - 4503599627370496) + (E + 1) * 4503599627370496 := by rw [Nat.add_mul, Nat.one_mul]; omega
      rw [e0, Nat.add_mul_div_right _ _ (by decide : 0 < 4503599627370496), Nat.div_eq_of_lt (by omega)]; omega
  unfold fmid
  rw [fval_succ, ← e1, fval_of n E h h2, Nat.add_mul, Nat.one_mul]
  have : 2 * n * 2 ^ E = n * 2 ^ E + n * 2 ^ E := by rw [Nat.mul_assoc, Nat.two_mul]
  omega
/-- below it -/
theorem fmid_below (n E : Nat) (h : n < 9007199254740992) (h2 : E = 0 ∨ 4503599627370496 ≤ n) (h3 : 0 < E * 4503599627370496 + n) : fmid (E * 4503599627370496 + n - 1) = if E = 0 ∨ 4503599627370496 < n then (2 * n - 1) * 2 ^ E else 18014398509481983 * 2 ^ (E - 1) := by
  by_cases hc : E = 0 ∨ 4503599627370496 < n
  · rw [if_pos hc]
    have hn : 0 < n := by
      rcases hc with rfl | hc
      · simpa using h3
      · omega
    have e : E * 4503599627370496 + n - 1 = E * 4503599627370496 + (n - 1) := by omega
    rw [e, fmid_of (n - 1) E (by omega) (by omega)]
    congr 1
    omega
  · rw [if_neg hc]
    have hE : E ≠ 0 := fun h => hc (.inl h)
    have hn : n = 4503599627370496 := by
      have := h2.resolve_left hE
      have : ¬ 4503599627370496 < n := fun h => hc (.inr h)
      omega
    subst hn
    obtain ⟨k, rfl⟩ : ∃ k, E = k + 1 := ⟨E - 1, by omega⟩
    have e : (k + 1) * 4503599627370496 + 4503599627370496 - 1 = k * 4503599627370496 + 9007199254740991 := by rw [Nat.add_mul, Nat.one_mul]; omega
    rw [e, fmid_of 9007199254740991 k (by decide) (.inr (by decide)), Nat.add_sub_cancel]

/-- b is nearest to Y / (2^1075 * D); of two as near the even one -/
structure Rnd (Y D b : Nat) : Prop where
  le : b ≤ 9218868437227405312
  lo : b = 0 ∨ D * fmid (b - 1) < Y ∨ (D * fmid (b - 1) = Y ∧ b % 2 = 0)
  hi : b = 9218868437227405312 ∨ Y < D * fmid b ∨ (Y = D * fmid b ∧ b % 2 = 0)

theorem Rnd.mono {Y D b Z C c : Nat} (h : Rnd Y D b) (g : Rnd Z C c) (hD : 0 < D) (hC : 0 < C) (hle : Y * C ≤ Z * D) : b ≤ c := by
  apply Classical.byContradiction
  intro hcb
  have hb0 : b ≠ 0 := by omega
  have hc0 : c ≠ 9218868437227405312 := by have := h.le; omega
  have h1 := h.lo.resolve_left hb0
  have g1 := g.hi.resolve_left hc0
  have hm := fmid_le (show c ≤ b - 1 by omega)
  have a1 : D * fmid (b - 1) ≤ Y := by omega
  have a2 : Z ≤ C * fmid c := by omega
  have b1 : D * fmid (b - 1) * C ≤ Y * C := Nat.mul_le_mul_right _ a1
  have b2 : Z * D ≤ C * fmid c * D := Nat.mul_le_mul_right _ a2
  have b3 : C * fmid c * D ≤ C * fmid (b - 1) * D := Nat.mul_le_mul_right _ (Nat.mul_le_mul_left _ hm)
  have e : D * fmid (b - 1) * C = C * fmid (b - 1) * D := by rw [Nat.mul_comm D, Nat.mul_comm C, Nat.mul_assoc, Nat.mul_assoc, Nat.mul_comm D C]
  have c1 : D * fmid (b - 1) * C = Y * C := by omega
  have c2 : Z * D = C * fmid c * D := by omega
  have c3 : C * fmid c * D = C * fmid (b - 1) * D := by omega
  have d1 := Nat.eq_of_mul_eq_mul_right hC c1
  have d2 := Nat.eq_of_mul_eq_mul_right hD c2
  have d3 := Nat.eq_of_mul_eq_mul_left hC (Nat.eq_of_mul_eq_mul_right hD c3)
  have p1 : b % 2 = 0 := by rcases h1 with h1 | h1; omega; exact h1.2
  have p2 : c % 2 = 0 := by rcases g1 with g1 | g1; omega; exact g1.2
  rcases Nat.lt_or_ge c (b - 1) with h5 | h5
  · have := fmid_lt h5; omega
  · omega
theorem Rnd.uniq {Y D b Z C c : Nat} (h : Rnd Y D b) (g : Rnd Z C c) (hD : 0 < D) (hC : 0 < C) (he : Y * C = Z * D) : b = c :=
  Nat.le_antisymm (h.mono g hD hC (Nat.le_of_eq he)) (g.mono h hC hD (Nat.le_of_eq he.symm))
theorem rnd_zero (D : Nat) (hD : 0 < D) : Rnd 0 D 0 := by
  refine ⟨by decide, .inl rfl, .inr (.inl ?_)⟩
  have : fmid 0 = 1 := by decide
  rw [this]; omega

/-- n is nearest to P / Q; of two as near the even one -/
structure Rhe (P Q n : Nat) : Prop where
  lo : n = 0 ∨ (2 * n - 1) * Q < 2 * P ∨ ((2 * n - 1) * Q = 2 * P ∧ n % 2 = 0)
  hi : 2 * P < (2 * n + 1) * Q ∨ (2 * P = (2 * n + 1) * Q ∧ n % 2 = 0)
/-- from the quotient and what is left -/
theorem rhe_of (P Q : Nat) (hQ : 0 < Q) : Rhe P Q (P / Q + if Q < 2 * (P % Q) ∨ (2 * (P % Q) = Q ∧ P / Q % 2 = 1) then 1 else 0) := by
  have h1 := Nat.div_add_mod P Q
  have h2 := Nat.mod_lt P hQ
  generalize P / Q = q at *
  generalize P % Q = r at *
  have e1 : 2 * P = 2 * q * Q + 2 * r := by rw [← h1, Nat.mul_add, ← Nat.mul_assoc, Nat.mul_assoc, Nat.mul_comm Q q, ← Nat.mul_assoc]
  by_cases hc : Q < 2 * r ∨ (2 * r = Q ∧ q % 2 = 1)
  · rw [if_pos hc]
    have e2 : (2 * (q + 1) - 1) * Q = 2 * q * Q + Q := by rw [show 2 * (q + 1) - 1 = 2 * q + 1 by omega, Nat.add_mul, Nat.one_mul]
    have e3 : (2 * (q + 1) + 1) * Q = 2 * q * Q + 3 * Q := by rw [show 2 * (q + 1) + 1 = 2 * q + 3 by omega, Nat.add_mul]
    refine ⟨.inr ?_, .inl ?_⟩
    · rw [e1, e2]
      rcases hc with hc | hc
      · left; omega
      · right; exact ⟨by omega, by omega⟩
    · rw [e1, e3]; omega
  · rw [if_neg hc, Nat.add_zero]
    have hc1 : 2 * r < Q ∨ (2 * r = Q ∧ q % 2 = 0) := by
      rcases Nat.lt_or_ge (2 * r) Q with h | h
      · exact .inl h
      · right
        have h5 : ¬ Q < 2 * r := fun h => hc (.inl h)
        have h6 : 2 * r = Q := by omega
        exact ⟨h6, by have : ¬ q % 2 = 1 := fun h => hc (.inr ⟨h6, h⟩); omega⟩
    have e3 : (2 * q + 1) * Q = 2 * q * Q + Q := by rw [Nat.add_mul, Nat.one_mul]
    refine ⟨?_, ?_⟩
    · rcases Nat.eq_zero_or_pos q with h0 | h0
      · exact .inl h0
      · right; left
        have e2 : (2 * q - 1) * Q + Q = 2 * q * Q := by
          obtain ⟨k, rfl⟩ : ∃ k, q = k + 1 := ⟨q - 1, by omega⟩
          rw [show 2 * (k + 1) - 1 = 2 * k + 1 by omega, show 2 * (k + 1) = 2 * k + 1 + 1 by omega, Nat.add_mul (2 * k + 1), Nat.one_mul]
        rw [e1]; omega
    · rw [e1, e3]
      rcases hc1 with h | h
      · left; omega
      · right; exact ⟨by omega, h.2⟩
/-- the same fraction, otherwise told -/
theorem Rhe.turn {P Q Y T n : Nat} (h : Rhe P Q n) (hQ : 0 < Q) (hT : 0 < T) (he : 2 * P * T = Y * Q) :
    (n = 0 ∨ (2 * n - 1) * T < Y ∨ ((2 * n - 1) * T = Y ∧ n % 2 = 0)) ∧ (Y < (2 * n + 1) * T ∨ (Y = (2 * n + 1) * T ∧ n % 2 = 0)) := by
  have turn : ∀ k, (k * Q < 2 * P → k * T < Y) ∧ (k * Q = 2 * P → k * T = Y) ∧ (2 * P < k * Q → Y < k * T) := by
    intro k
    have e : k * T * Q = k * Q * T := by rw [Nat.mul_assoc, Nat.mul_comm T, Nat.mul_assoc]
    refine ⟨fun h => ?_, fun h => ?_, fun h => ?_⟩
    · have := Nat.mul_lt_mul_of_pos_right h hT
      rw [he, ← e] at this
      exact Nat.lt_of_mul_lt_mul_right this
    · have := congrArg (fun x => x * T) h
      rw [he, ← e] at this
      exact Nat.eq_of_mul_eq_mul_right hQ this
    · have := Nat.mul_lt_mul_of_pos_right h hT
      rw [he, ← e] at this
      exact Nat.lt_of_mul_lt_mul_right this
  refine ⟨?_, ?_⟩
  · rcases h.lo with h1 | h1 | h1
    · exact .inl h1
    · exact .inr (.inl ((turn _).1 h1))
    · exact .inr (.inr ⟨(turn _).2.1 h1.1, h1.2⟩)
  · rcases h.hi with h1 | h1
    · exact .inl ((turn _).2.2 h1)
    · exact .inr ⟨((turn _).2.1 h1.1.symm).symm, h1.2⟩

theorem turn4 (K P D : Nat) : K * (D * (P * 2)) = 2 * (D * (K * P)) := by
  rw [Nat.mul_left_comm K D, ← Nat.mul_assoc K P 2, Nat.mul_comm (K * P) 2, Nat.mul_left_comm D 2]
/-- steps of 2^E: what was rounded to them is the nearest fraction -/
theorem near_law {Y D n E : Nat} (hD : 0 < D) (hn : n < 9007199254740992) (hE : E = 0 ∨ 4503599627370496 ≤ n) (hE2 : E ≤ 2048)
    (hlo : n = 0 ∨ (2 * n - 1) * (D * 2 ^ E) < Y ∨ ((2 * n - 1) * (D * 2 ^ E) = Y ∧ n % 2 = 0)) (hhi : Y < (2 * n + 1) * (D * 2 ^ E) ∨ (Y = (2 * n + 1) * (D * 2 ^ E) ∧ n % 2 = 0))
    (hq : E = 0 ∨ 18014398509481983 * (D * 2 ^ E) ≤ 2 * Y) : Rnd Y D (if 9218868437227405312 ≤ E * 4503599627370496 + n then 9218868437227405312 else E * 4503599627370496 + n) := by
  have em : ∀ k, D * (k * 2 ^ E) = k * (D * 2 ^ E) := fun k => by rw [← Nat.mul_assoc, Nat.mul_comm D k, Nat.mul_assoc]
  have hpar : (E * 4503599627370496 + n) % 2 = n % 2 := by omega
  have hlow : E * 4503599627370496 + n = 0 ∨ D * fmid (E * 4503599627370496 + n - 1) < Y ∨ (D * fmid (E * 4503599627370496 + n - 1) = Y ∧ (E * 4503599627370496 + n) % 2 = 0) := by
    rcases Nat.eq_zero_or_pos (E * 4503599627370496 + n) with h0 | h0
    · exact .inl h0
    · right
      rw [fmid_below n E hn hE h0, hpar]
      by_cases hc : E = 0 ∨ 4503599627370496 < n
      · rw [if_pos hc, em]
        rcases hlo with h1 | h1 | h1
        · exfalso
          rcases hc with h2 | h2
          · subst h1 h2; simp at h0
          · omega
        · exact .inl h1
        · exact .inr h1
      · rw [if_neg hc]
        have hE0 : E ≠ 0 := fun h => hc (.inl h)
        have hnF : n = 4503599627370496 := by
          have h5 : ¬ 4503599627370496 < n := fun h => hc (.inr h)
          have := hE.resolve_left hE0
          omega
        have h6 := hq.resolve_left hE0
        have hpe : n % 2 = 0 := by omega
        obtain ⟨K, hK⟩ : ∃ K : Nat, K = 18014398509481983 := ⟨_, rfl⟩
        rw [← hK] at h6 ⊢
        clear hK hlo hhi hq em hpar
        obtain ⟨k, rfl⟩ : ∃ k, E = k + 1 := ⟨E - 1, by omega⟩
        rw [Nat.add_sub_cancel]
        have e2 : K * (D * 2 ^ (k + 1)) = 2 * (D * (K * 2 ^ k)) := by
          rw [Nat.pow_succ]; exact turn4 _ _ _
        rw [e2] at h6
        have h7 : D * (K * 2 ^ k) ≤ Y := Nat.le_of_mul_le_mul_left h6 (by decide)
        exact (Nat.lt_or_eq_of_le h7).imp id (fun h => ⟨h, hpe⟩)
  by_cases hinf : 9218868437227405312 ≤ E * 4503599627370496 + n
  · rw [if_pos hinf]
    refine ⟨Nat.le_refl _, ?_, .inl rfl⟩
    right
    have h1 := hlow.resolve_left (by omega)
    rcases Nat.lt_or_ge 9218868437227405312 (E * 4503599627370496 + n) with h2 | h2
    · left
      have h3 : fmid (9218868437227405312 - 1) < fmid (E * 4503599627370496 + n - 1) := fmid_lt (by omega)
      have h4 := Nat.mul_lt_mul_of_pos_left h3 hD
      omega
    · have h3 : E * 4503599627370496 + n = 9218868437227405312 := by omega
      rw [h3] at h1
      exact h1
  · rw [if_neg hinf]
    refine ⟨by omega, hlow, .inr ?_⟩
    rw [fmid_of n E hn hE, em, hpar]
    exact hhi
end Go.Proofs.YtmieegcnfnoiiaaDoor
