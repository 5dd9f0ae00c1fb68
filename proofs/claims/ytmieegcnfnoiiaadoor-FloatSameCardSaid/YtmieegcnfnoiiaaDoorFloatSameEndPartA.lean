/-
  Plain law: fractions of 64 bits, without their sign, as natural numbers; the nearest one. No conditions.
  Laws on appends, conversions and rows of memory, over any program: what a walk asks for where a call makes memory of its own. No conditions.
  Slices of integers that are read: what a walk asks of them, and how they come through calls that write nothing that was there. No conditions.
  Plain facts on whole numbers as lists of words of 32 bits, the least first. No conditions.
  The contracts of big.trimmed and slices.Equal at words. Condition: the slices have at most 2^40 words.
  The contracts of bits.Add32 and bits.Sub32. Conditions: words of 32 bits; what is carried is 0 or 1.
  The contracts of big.Trim and big.Add. Condition: the slices have at most 2^30 words.
  The contract of big.Mul. Condition: the slices have at most 2^20 words.
-/
import Derived.WalkKit
import Derived.WalkSpells
import Derived.Lib.Hide
import Derived.Deep.QuietTactic
import Derived.BigQuiet
import Derived.Test.YtmieegcnfnoiiaaDoorProg
import Derived.WalkLawsBesides
import Derived.Deep.DeepFit
import Derived.Laws.BitsAllLaws
namespace Go.Proofs.YtmieegcnfnoiiaaDoor

/-- what a fraction's bits tell, times 2^1074 -/
def fval (b : Nat) : Nat := if b < 4503599627370496 then b else (b % 4503599627370496 + 4503599627370496) * 2 ^ (b / 4503599627370496 - 1)

theorem fval_of (n E : Nat) (h : n < 9007199254740992) (h2 : E = 0 ∨ 4503599627370496 ≤ n) : fval (E * 4503599627370496 + n) = n * 2 ^ E := by
  unfold fval
  rcases h2 with rfl | h2
  · by_cases hn : n < 4503599627370496
    · rw [if_pos (by omega)]; simp
    · rw [if_neg (by omega)]
      have e1 : (0 * 4503599627370496 + n) % 4503599627370496 + 4503599627370496 = n := by omega
      have e2 : (0 * 4503599627370496 + n) / 4503599627370496 - 1 = 0 := by omega
      rw [e1, e2]
  · rw [if_neg (by omega)]
    have e0 : E * 4503599627370496 + n = (n - 4503599627370496) + (E + 1) * 4503599627370496 := by rw [Nat.add_mul, Nat.one_mul]; omega
    have hlt : n - 4503599627370496 < 4503599627370496 := by omega
    have e1 : (E * 4503599627370496 + n) % 4503599627370496 + 4503599627370496 = n := by
      rw [e0, Nat.add_mul_mod_self_right, Nat.mod_eq_of_lt hlt]; omega
    have e2 : (E * 4503599627370496 + n) / 4503599627370496 - 1 = E := by
      rw [e0, Nat.add_mul_div_right _ _ (by decide : 0 < 4503599627370496), Nat.div_eq_of_lt hlt]; omega
    rw [e1, e2]
/-- each is such a one -/
theorem fbits (b : Nat) : ∃ n E, b = E * 4503599627370496 + n ∧ n < 9007199254740992 ∧ (E = 0 ∨ 4503599627370496 ≤ n) ∧ fval b = n * 2 ^ E ∧ (E = b / 4503599627370496 - 1) := by
  by_cases hb : b < 4503599627370496
  · exact ⟨b, 0, by simp, by omega, .inl rfl, by have h := fval_of b 0 (by omega) (.inl rfl); rw [Nat.zero_mul, Nat.zero_add] at h; exact h, by omega⟩
  · have h1 := Nat.div_add_mod b 4503599627370496
    have h2 := Nat.mod_lt b (show 4503599627370496 > 0 by decide)
    have h3 : 1 ≤ b / 4503599627370496 := by omega
    have e : b = (b / 4503599627370496 - 1) * 4503599627370496 + (b % 4503599627370496 + 4503599627370496) := by
      obtain ⟨q, hq⟩ : ∃ q, b / 4503599627370496 = q + 1 := ⟨b / 4503599627370496 - 1, by omega⟩
      rw [hq] at h1 ⊢
      rw [Nat.add_sub_cancel]
      rw [Nat.mul_add, Nat.mul_one, Nat.mul_comm] at h1
      omega
    refine ⟨b % 4503599627370496 + 4503599627370496, b / 4503599627370496 - 1, e, by omega, .inr (by omega), ?_, rfl⟩
    conv => lhs; rw [e]
    rw [fval_of _ _ (by omega) (.inr (by omega))]
theorem fval_succ (b : Nat) : fval (b + 1) = fval b + 2 ^ (b / 4503599627370496 - 1) := by
  obtain ⟨n, E, hb, hn, hE, hv, he⟩ := fbits b
  rw [hv, ← he]
  by_cases h : n + 1 < 9007199254740992
  · rw [show b + 1 = E * 4503599627370496 + (n + 1) by omega, fval_of (n + 1) E h (by omega), Nat.add_mul, Nat.one_mul]
  · have hn2 : n = 9007199254740991 := by omega
    have e : b + 1 = (E + 1) * 4503599627370496 + 4503599627370496 := by rw [Nat.add_mul, Nat.one_mul]; omega
    rw [e, fval_of 4503599627370496 (E + 1) (by decide) (.inr (Nat.le_refl _)), hn2, Nat.pow_succ]
    have : 4503599627370496 * (2 ^ E * 2) = 9007199254740992 * 2 ^ E := by
      rw [Nat.mul_comm (2 ^ E) 2, ← Nat.mul_assoc, Nat.mul_comm 4503599627370496 2]
    rw [this]
    have h3 : 9007199254740992 = 9007199254740991 + 1 := by decide
    conv => lhs; rw [h3]
    rw [Nat.add_mul, Nat.one_mul]
theorem fval_lt {a b : Nat} (h : a < b) : fval a < fval b := by
  induction b with
  | zero => omega
  | succ b ih =>
    have h1 := fval_succ b
    have h2 := Nat.two_pow_pos (b / 4503599627370496 - 1)
    rcases Nat.lt_or_ge a b with h3 | h3
    · have := ih h3; omega
    · have : a = b := by omega
      subst this; omega
theorem fval_le {a b : Nat} (h : a ≤ b) : fval a ≤ fval b := by
  rcases Nat.lt_or_ge a b with h1 | h1
  · exact Nat.le_of_lt (fval_lt h1)
  · rw [show a = b by omega]; exact Nat.le_refl _
/-- what lies between one and the next, times 2^1075 -/
def fmid (b : Nat) : Nat := fval b + fval (b + 1)
theorem fmid_lt {a b : Nat} (h : a < b) : fmid a < fmid b := by
  have h1 := fval_lt h
  have h2 := fval_lt (show a + 1 < b + 1 by omega)
  unfold fmid; omega
theorem fmid_le {a b : Nat} (h : a ≤ b) : fmid a ≤ fmid b := by
  rcases Nat.lt_or_ge a b with h1 | h1
  · exact Nat.le_of_lt (fmid_lt h1)
  · rw [show a = b by omega]; exact Nat.le_refl _
theorem fmid_of (n E : Nat) (h : n < 9007199254740992) (h2 : E = 0 ∨ 4503599627370496 ≤ n) : fmid (E * 4503599627370496 + n) = (2 * n + 1) * 2 ^ E := by
  obtain ⟨m, F, hb, hm, hF, hv, he⟩ := fbits (E * 4503599627370496 + n)
  have e1 : E = (E * 4503599627370496 + n) / 4503599627370496 - 1 := by
    rcases h2 with rfl | h2
    · omega
    · have e0 : E * 4503599627370496 + n = (n - 4503599627370496) + (E + 1) * 4503599627370496 := by rw [Nat.add_mul, Nat.one_mul]; omega
      rw [e0, Nat.add_mul_div_right _ _ (by decide : 0 < 4503599627370496), Nat.div_eq_of_lt (by omega)]; omega
  unfold fmid
  rw [fval_succ, ← e1, fval_of n E h h2, Nat.add_mul, Nat.one_mul]
  have : 2 * n * 2 ^ E = n * 2 ^ E + n * 2 ^ E := by rw [Nat.mul_assoc, Nat.two_mul]
  omega
/-- below it -/
theorem fmid_below (n E : Nat) (h : n < 9007199254740992) (h2 : E = 0 ∨ 4503599627370496 ≤ n) (h3 : 0 < E * 4503599627370496 + n) : fmid (E * 4503599627370496 + n - 1) = if E = 0 ∨ 4503599627370496 < n then (2 * n - 1) * 2 ^ E else 18014398509481983 * 2 ^ (E - 1) := by
  by_cases hc : E = 0 ∨ 4503599627370496 < n
  · rw [if_pos hc]
    have hn : 0 < n := by
      rcases hc with rfl | hc
      · simpa using h3
      · omega
    have e : E * 4503599627370496 + n - 1 = E * 4503599627370496 + (n - 1) := by omega
    rw [e, fmid_of (n - 1) E (by omega) (by omega)]
    congr 1
    omega
  · rw [if_neg hc]
    have hE : E ≠ 0 := fun h => hc (.inl h)
    have hn : n = 4503599627370496 := by
      have := h2.resolve_left hE
      have : ¬ 4503599627370496 < n := fun h => hc (.inr h)
      omega
    subst hn
    obtain ⟨k, rfl⟩ : ∃ k, E = k + 1 := ⟨E - 1, by omega⟩
    have e : (k + 1) * 4503599627370496 + 4503599627370496 - 1 = k * 4503599627370496 + 9007199254740991 := by rw [Nat.add_mul, Nat.one_mul]; omega
    rw [e, fmid_of 9007199254740991 k (by decide) (.inr (by decide)), Nat.add_sub_cancel]

/-- b is nearest to Y / (2^1075 * D); of two as near the even one -/
structure Rnd (Y D b : Nat) : Prop where
  le : b ≤ 9218868437227405312
  lo : b = 0 ∨ D * fmid (b - 1) < Y ∨ (D * fmid (b - 1) = Y ∧ b % 2 = 0)
  hi : b = 9218868437227405312 ∨ Y < D * fmid b ∨ (Y = D * fmid b ∧ b % 2 = 0)

theorem Rnd.mono {Y D b Z C c : Nat} (h : Rnd Y D b) (g : Rnd Z C c) (hD : 0 < D) (hC : 0 < C) (hle : Y * C ≤ Z * D) : b ≤ c := by
  apply Classical.byContradiction
  intro hcb
  have hb0 : b ≠ 0 := by omega
  have hc0 : c ≠ 9218868437227405312 := by have := h.le; omega
  have h1 := h.lo.resolve_left hb0
  have g1 := g.hi.resolve_left hc0
  have hm := fmid_le (show c ≤ b - 1 by omega)
  have a1 : D * fmid (b - 1) ≤ Y := by omega
  have a2 : Z ≤ C * fmid c := by omega
  have b1 : D * fmid (b - 1) * C ≤ Y * C := Nat.mul_le_mul_right _ a1
  have b2 : Z * D ≤ C * fmid c * D := Nat.mul_le_mul_right _ a2
  have b3 : C * fmid c * D ≤ C * fmid (b - 1) * D := Nat.mul_le_mul_right _ (Nat.mul_le_mul_left _ hm)
  have e : D * fmid (b - 1) * C = C * fmid (b - 1) * D := by rw [Nat.mul_comm D, Nat.mul_comm C, Nat.mul_assoc, Nat.mul_assoc, Nat.mul_comm D C]
  have c1 : D * fmid (b - 1) * C = Y * C := by omega
  have c2 : Z * D = C * fmid c * D := by omega
  have c3 : C * fmid c * D = C * fmid (b - 1) * D := by omega
  have d1 := Nat.eq_of_mul_eq_mul_right hC c1
  have d2 := Nat.eq_of_mul_eq_mul_right hD c2
  have d3 := Nat.eq_of_mul_eq_mul_left hC (Nat.eq_of_mul_eq_mul_right hD c3)
  have p1 : b % 2 = 0 := by rcases h1 with h1 | h1; omega; exact h1.2
  have p2 : c % 2 = 0 := by rcases g1 with g1 | g1; omega; exact g1.2
  rcases Nat.lt_or_ge c (b - 1) with h5 | h5
  · have := fmid_lt h5; omega
  · omega
theorem Rnd.uniq {Y D b Z C c : Nat} (h : Rnd Y D b) (g : Rnd Z C c) (hD : 0 < D) (hC : 0 < C) (he : Y * C = Z * D) : b = c :=
  Nat.le_antisymm (h.mono g hD hC (Nat.le_of_eq he)) (g.mono h hC hD (Nat.le_of_eq he.symm))
theorem rnd_zero (D : Nat) (hD : 0 < D) : Rnd 0 D 0 := by
  refine ⟨by decide, .inl rfl, .inr (.inl ?_)⟩
  have : fmid 0 = 1 := by decide
  rw [this]; omega

/-- n is nearest to P / Q; of two as near the even one -/
structure Rhe (P Q n : Nat) : Prop where
  lo : n = 0 ∨ (2 * n - 1) * Q < 2 * P ∨ ((2 * n - 1) * Q = 2 * P ∧ n % 2 = 0)
  hi : 2 * P < (2 * n + 1) * Q ∨ (2 * P = (2 * n + 1) * Q ∧ n % 2 = 0)
/-- from the quotient and what is left -/
theorem rhe_of (P Q : Nat) (hQ : 0 < Q) : Rhe P Q (P / Q + if Q < 2 * (P % Q) ∨ (2 * (P % Q) = Q ∧ P / Q % 2 = 1) then 1 else 0) := by
  have h1 := Nat.div_add_mod P Q
  have h2 := Nat.mod_lt P hQ
  generalize P / Q = q at *
  generalize P % Q = r at *
  have e1 : 2 * P = 2 * q * Q + 2 * r := by rw [← h1, Nat.mul_add, ← Nat.mul_assoc, Nat.mul_assoc, Nat.mul_comm Q q, ← Nat.mul_assoc]
  by_cases hc : Q < 2 * r ∨ (2 * r = Q ∧ q % 2 = 1)
  · rw [if_pos hc]
    have e2 : (2 * (q + 1) - 1) * Q = 2 * q * Q + Q := by rw [show 2 * (q + 1) - 1 = 2 * q + 1 by omega, Nat.add_mul, Nat.one_mul]
    have e3 : (2 * (q + 1) + 1) * Q = 2 * q * Q + 3 * Q := by rw [show 2 * (q + 1) + 1 = 2 * q + 3 by omega, Nat.add_mul]
    refine ⟨.inr ?_, .inl ?_⟩
    · rw [e1, e2]
      rcases hc with hc | hc
      · left; omega
      · right; exact ⟨by omega, by omega⟩
    · rw [e1, e3]; omega
  · rw [if_neg hc, Nat.add_zero]
    have hc1 : 2 * r < Q ∨ (2 * r = Q ∧ q % 2 = 0) := by
      rcases Nat.lt_or_ge (2 * r) Q with h | h
      · exact .inl h
      · right
        have h5 : ¬ Q < 2 * r := fun h => hc (.inl h)
        have h6 : 2 * r = Q := by omega
        exact ⟨h6, by have : ¬ q % 2 = 1 := fun h => hc (.inr ⟨h6, h⟩); omega⟩
    have e3 : (2 * q + 1) * Q = 2 * q * Q + Q := by rw [Nat.add_mul, Nat.one_mul]
    refine ⟨?_, ?_⟩
    · rcases Nat.eq_zero_or_pos q with h0 | h0
      · exact .inl h0
      · right; left
        have e2 : (2 * q - 1) * Q + Q = 2 * q * Q := by
          obtain ⟨k, rfl⟩ : ∃ k, q = k + 1 := ⟨q - 1, by omega⟩
          rw [show 2 * (k + 1) - 1 = 2 * k + 1 by omega, show 2 * (k + 1) = 2 * k + 1 + 1 by omega, Nat.add_mul (2 * k + 1), Nat.one_mul]
        rw [e1]; omega
    · rw [e1, e3]
      rcases hc1 with h | h
      · left; omega
      · right; exact ⟨by omega, h.2⟩
/-- the same fraction, otherwise told -/
theorem Rhe.turn {P Q Y T n : Nat} (h : Rhe P Q n) (hQ : 0 < Q) (hT : 0 < T) (he : 2 * P * T = Y * Q) :
    (n = 0 ∨ (2 * n - 1) * T < Y ∨ ((2 * n - 1) * T = Y ∧ n % 2 = 0)) ∧ (Y < (2 * n + 1) * T ∨ (Y = (2 * n + 1) * T ∧ n % 2 = 0)) := by
  have turn : ∀ k, (k * Q < 2 * P → k * T < Y) ∧ (k * Q = 2 * P → k * T = Y) ∧ (2 * P < k * Q → Y < k * T) := by
    intro k
    have e : k * T * Q = k * Q * T := by rw [Nat.mul_assoc, Nat.mul_comm T, Nat.mul_assoc]
    refine ⟨fun h => ?_, fun h => ?_, fun h => ?_⟩
    · have := Nat.mul_lt_mul_of_pos_right h hT
      rw [he, ← e] at this
      exact Nat.lt_of_mul_lt_mul_right this
    · have := congrArg (fun x => x * T) h
      rw [he, ← e] at this
      exact Nat.eq_of_mul_eq_mul_right hQ this
    · have := Nat.mul_lt_mul_of_pos_right h hT
      rw [he, ← e] at this
      exact Nat.lt_of_mul_lt_mul_right this
  refine ⟨?_, ?_⟩
  · rcases h.lo with h1 | h1 | h1
    · exact .inl h1
    · exact .inr (.inl ((turn _).1 h1))
    · exact .inr (.inr ⟨(turn _).2.1 h1.1, h1.2⟩)
  · rcases h.hi with h1 | h1
    · exact .inl ((turn _).2.2 h1)
    · exact .inr ⟨((turn _).2.1 h1.1.symm).symm, h1.2⟩

theorem turn4 (K P D : Nat) : K * (D * (P * 2)) = 2 * (D * (K * P)) := by
  rw [Nat.mul_left_comm K D, ← Nat.mul_assoc K P 2, Nat.mul_comm (K * P) 2, Nat.mul_left_comm D 2]
/-- steps of 2^E: what was rounded to them is the nearest fraction -/
theorem near_law {Y D n E : Nat} (hD : 0 < D) (hn : n < 9007199254740992) (hE : E = 0 ∨ 4503599627370496 ≤ n) (hE2 : E ≤ 2048)
    (hlo : n = 0 ∨ (2 * n - 1) * (D * 2 ^ E) < Y ∨ ((2 * n - 1) * (D * 2 ^ E) = Y ∧ n % 2 = 0)) (hhi : Y < (2 * n + 1) * (D * 2 ^ E) ∨ (Y = (2 * n + 1) * (D * 2 ^ E) ∧ n % 2 = 0))
    (hq : E = 0 ∨ 18014398509481983 * (D * 2 ^ E) ≤ 2 * Y) : Rnd Y D (if 9218868437227405312 ≤ E * 4503599627370496 + n then 9218868437227405312 else E * 4503599627370496 + n) := by
  have em : ∀ k, D * (k * 2 ^ E) = k * (D * 2 ^ E) := fun k => by rw [← Nat.mul_assoc, Nat.mul_comm D k, Nat.mul_assoc]
  have hpar : (E * 4503599627370496 + n) % 2 = n % 2 := by omega
  have hlow : E * 4503599627370496 + n = 0 ∨ D * fmid (E * 4503599627370496 + n - 1) < Y ∨ (D * fmid (E * 4503599627370496 + n - 1) = Y ∧ (E * 4503599627370496 + n) % 2 = 0) := by
    rcases Nat.eq_zero_or_pos (E * 4503599627370496 + n) with h0 | h0
    · exact .inl h0
    · right
      rw [fmid_below n E hn hE h0, hpar]
      by_cases hc : E = 0 ∨ 4503599627370496 < n
      · rw [if_pos hc, em]
        rcases hlo with h1 | h1 | h1
        · exfalso
          rcases hc with h2 | h2
          · subst h1 h2; simp at h0
          · omega
        · exact .inl h1
        · exact .inr h1
      · rw [if_neg hc]
        have hE0 : E ≠ 0 := fun h => hc (.inl h)
        have hnF : n = 4503599627370496 := by
          have h5 : ¬ 4503599627370496 < n := fun h => hc (.inr h)
          have := hE.resolve_left hE0
          omega
        have h6 := hq.resolve_left hE0
        have hpe : n % 2 = 0 := by omega
        obtain ⟨K, hK⟩ : ∃ K : Nat, K = 18014398509481983 := ⟨_, rfl⟩
        rw [← hK] at h6 ⊢
        clear hK hlo hhi hq em hpar
        obtain ⟨k, rfl⟩ : ∃ k, E = k + 1 := ⟨E - 1, by omega⟩
        rw [Nat.add_sub_cancel]
        have e2 : K * (D * 2 ^ (k + 1)) = 2 * (D * (K * 2 ^ k)) := by
          rw [Nat.pow_succ]; exact turn4 _ _ _
        rw [e2] at h6
        have h7 : D * (K * 2 ^ k) ≤ Y := Nat.le_of_mul_le_mul_left h6 (by decide)
        exact (Nat.lt_or_eq_of_le h7).imp id (fun h => ⟨h, hpe⟩)
  by_cases hinf : 9218868437227405312 ≤ E * 4503599627370496 + n
  · rw [if_pos hinf]
    refine ⟨Nat.le_refl _, ?_, .inl rfl⟩
    right
    have h1 := hlow.resolve_left (by omega)
    rcases Nat.lt_or_ge 9218868437227405312 (E * 4503599627370496 + n) with h2 | h2
    · left
      have h3 : fmid (9218868437227405312 - 1) < fmid (E * 4503599627370496 + n - 1) := fmid_lt (by omega)
      have h4 := Nat.mul_lt_mul_of_pos_left h3 hD
      omega
    · have h3 : E * 4503599627370496 + n = 9218868437227405312 := by omega
      rw [h3] at h1
      exact h1
  · rw [if_neg hinf]
    refine ⟨by omega, hlow, .inr ?_⟩
    rw [fmid_of n E hn hE, em, hpar]
    exact hhi
end Go.Proofs.YtmieegcnfnoiiaaDoor
namespace Go.Proofs.YtmieegcnfnoiiaaDoor.Gx
open Go Go.RowKit

/-- what is owned, and where it went: the row is the same, or a new one -/
def Moved (v v' : Value) (lo : Nat) : Prop := v'.ownBlock = v.ownBlock ∨ ∃ g, v'.ownBlock = some g ∧ lo ≤ g

theorem Moved.ne {v v' : Value} {lo k : Nat} (h : Moved v v' lo) (hk : k < lo) (hne : v.ownBlock ≠ some k) : v'.ownBlock ≠ some k := by
  rcases h with h | ⟨g, h, hg⟩
  · rw [h]; exact hne
  · rw [h]; intro e; cases e; omega

section
variable {P : Program}

theorem run_append_moved (w : World) (base : Nat) (t ty e : TypeId) (i : TypeInfo) (z : Value) (size bytes : Nat) (ht : P.underlying t = some (.slice e)) (hi : P.info? e = some i) (hz : i.zero = some z)
    (hsize : i.size = size) (hby : i.bytes = bytes) (hzs : z.cells.size = size) (hsz : 0 < size)
    (v : Value) (n : Nat) (xs : List Value) (hown : w.ownsRow base e size v n xs)
    (a : Addr) (m c : Nat) (news : List Value) (hl : news.length = m * size) (hnews : ∀ j u, news[j]? = some u → w.cell? (a.add j) = some u) (h1 : ∀ u ∈ news, u.oneCell' = true)
    (hbytes : (n + m) * bytes ≤ 140737488355328) (h63 : n + m ≤ maxLen) (hbase : base ≤ w.heap.size) :
    ∃ v' w', (Builtin.append_ #[t, t] ty #[v, .slice (some a) m c]).run P w = .ok v' w' ∧ w'.ownsRow base e size v' (n + m) (xs ++ news) ∧ w.grownBy w' v.ownBlock ∧
      Moved v v' w.heap.size ∧ (v' = .slice none 0 0 ↔ v = .slice none 0 0 ∧ m = 0) := by
  obtain ⟨v', w', hr, ho, hg, hn⟩ := run_append_own (P := P) w base t ty e i z size bytes ht hi hz hsize hby hzs hsz v n xs hown a m c news hl hnews h1 h63 hbytes hbase
  refine ⟨v', w', hr, ho, hg, ?_, hn⟩
  subst hsize; subst hby
  have hsmall : n + m ≤ 9223372036854775807 := by simp only [maxLen] at h63; omega
  rcases hown.2 with ⟨rfl, rfl⟩ | ⟨g, cap, cur, rfl, hbg, hgg, hnc, hcm, hcs, htake⟩
  · have hx : xs = [] := List.eq_nil_of_length_eq_zero (by simpa using hown.1)
    subst hx
    by_cases hm : m = 0
    · exact .inl (by rw [hn.2 ⟨rfl, hm⟩])
    · have hr2 := run_append_nil (P := P) w t ty e i z ht hi hz a m c news hl hnews (by omega) (by omega) (by have hb := hbytes; simp only [Nat.zero_add] at hb; omega)
      rw [hr] at hr2
      obtain ⟨rfl, rfl⟩ := hr2
      exact .inr ⟨_, rfl, Nat.le_refl _⟩
  · by_cases hroom : n + m ≤ cap
    · have hfit : n * i.size + news.length ≤ cur.size := by rw [hl, hcs, ← Nat.add_mul]; exact Nat.mul_le_mul_right _ hroom
      have hr2 := run_append_room (P := P) w t ty e i ht hi g n cap cur hgg a m c news hl hnews h1 hroom hfit
      rw [hr] at hr2
      obtain ⟨rfl, rfl⟩ := hr2
      exact .inl rfl
    · have holds : ∀ j u, xs[j]? = some u → w.cell? ((⟨g, 0, none⟩ : Addr).add j) = some u := hown.cells (g := g) rfl
      have hr2 := run_append_grow (P := P) w t ty e i z ht hi hz ⟨g, 0, none⟩ n cap xs hown.1 holds a m c news hl hnews (by omega) (by omega) (growslice_fits (by omega) hbytes)
      rw [hr] at hr2
      obtain ⟨rfl, rfl⟩ := hr2
      exact .inr ⟨_, rfl, Nat.le_refl _⟩

/-- 'append(out, x)' of one element: the element lies in a new block of its own, laid just before. All is told of the world ahead of that block. -/
theorem wpList_push (w : World) {ops : Array Oper} {rest : List Oper} {o : Oper} {ac : Act} {Q : Exit → Act → World → Prop} (hgd : o.guard = none) (s x : Operand) (t : TypeId)
    (ho : o.op = .call { callee := .builtin .append, args := #[s, x], argTypes := #[t, t] })
    (base : Nat) (e : TypeId) (z : Value) (size bytes : Nat) (ht : P.underlying t = some (.slice e))
    (hinfo : (P.info? e).map (fun i => (i.zero, i.size, i.bytes)) = some (some z, size, bytes)) (hzs : z.cells.size = size) (hsz : 0 < size)
    (v : Value) (n : Nat) (xs : List Value) (news : List Value) (o' : Obj) (ho' : o' = .cells news.toArray e) (hs : ac.eval s = v) (hown : w.ownsRow base e size v n xs)
    (hx : ac.eval x = .slice (some ⟨w.heap.size, 0, none⟩) 1 1) (hl : news.length = size) (h1 : ∀ u ∈ news, u.oneCell' = true)
    (hbytes : (n + 1) * bytes ≤ 140737488355328) (h63 : n + 1 ≤ 9223372036854775807) (hbase : base ≤ w.heap.size)
    (h : ∀ v' w', w'.ownsRow base e size v' (n + 1) (xs ++ news) → w.grownBy w' v.ownBlock → Moved v v' w.heap.size → v' ≠ .slice none 0 0 → wpList P ops Q rest (ac.put o.dst v') w') :
    wpList P ops Q (o :: rest) ac (w.alloc o') := by
  subst ho'
  obtain ⟨i, hi, hz0, hz1, hz2⟩ := info_parts hinfo
  refine wpList_plain hgd fun K hK => ?_
  obtain ⟨v', w', hr, ho2, hg, hm, hn⟩ := run_append_moved (P := P) (w.alloc (.cells news.toArray e)) base t o.type e i z size bytes ht hi hz0 hz1 hz2 hzs hsz v n xs (hown.alloc _)
    ⟨w.heap.size, 0, none⟩ 1 1 news (by simpa using hl) (fun j u hj => by
      rw [Addr.add_lit]
      have := World.cell?_alloc_mark w news.toArray e (0, 0) (0 + j)
      rw [this]; simpa using hj) h1 hbytes (by unfold maxLen; omega) (by simp; omega)
  unfold Oper.wp execOp
  simp only [ho, resolve, invoke, builtin, Sem.run_bind, Sem.run_pure, Result.andThen_ok, List.map_toArray, List.map_cons, List.map_nil, hs, hx, hr]
  refine hK _ _ (h v' w' ho2 ?_ ?_ ?_)
  · refine ⟨hg.os, hg.tape, hg.output, Nat.le_trans (by simp) hg.size, fun k hk hne => ?_⟩
    rw [hg.block k (by simp; omega) hne]
    exact heap_alloc_old w _ hk
  · rcases hm with hm | ⟨g, hm, hgl⟩
    · exact .inl hm
    · exact .inr ⟨g, hm, by simp at hgl; omega⟩
  · intro hh
    have := hn.1 hh
    omega

/-- 'append(out, xs...)', whatever the source's address: nil, empty or not -/
theorem wpList_append_all (w : World) {ops : Array Oper} {rest : List Oper} {o : Oper} {ac : Act} {Q : Exit → Act → World → Prop} (hgd : o.guard = none) (s x : Operand) (t : TypeId)
    (ho : o.op = .call { callee := .builtin .append, args := #[s, x], argTypes := #[t, t] })
    (base : Nat) (e : TypeId) (z : Value) (size bytes : Nat) (ht : P.underlying t = some (.slice e))
    (hinfo : (P.info? e).map (fun i => (i.zero, i.size, i.bytes)) = some (some z, size, bytes)) (hzs : z.cells.size = size) (hsz : 0 < size)
    (v : Value) (n : Nat) (xs : List Value) (ad : Option Addr) (m c : Nat) (news : List Value) (hs : ac.eval s = v) (hx : ac.eval x = .slice ad m c) (hown : w.ownsRow base e size v n xs)
    (hl : news.length = m * size) (hn : ad = none → m = 0 ∧ c = 0) (hnews : ∀ a, ad = some a → ∀ j u, news[j]? = some u → w.cell? (a.add j) = some u) (h1 : ∀ u ∈ news, u.oneCell' = true)
    (hbytes : (n + m) * bytes ≤ 140737488355328) (h63 : n + m ≤ 9223372036854775807) (hbase : base ≤ w.heap.size)
    (h : ∀ v' w', w'.ownsRow base e size v' (n + m) (xs ++ news) → w.grownBy w' v.ownBlock → Moved v v' w.heap.size → wpList P ops Q rest (ac.put o.dst v') w') :
    wpList P ops Q (o :: rest) ac w := by
  obtain ⟨i, hi, hz0, hz1, hz2⟩ := info_parts hinfo
  refine wpList_plain hgd fun K hK => ?_
  cases ad with
  | some a =>
    obtain ⟨v', w', hr, ho2, hg, hm, -⟩ := run_append_moved (P := P) w base t o.type e i z size bytes ht hi hz0 hz1 hz2 hzs hsz v n xs hown a m c news hl (hnews a rfl) h1 hbytes (by unfold maxLen; omega) hbase
    unfold Oper.wp execOp
    simp only [ho, resolve, invoke, builtin, Sem.run_bind, Sem.run_pure, Result.andThen_ok, List.map_toArray, List.map_cons, List.map_nil, hs, hx, hr]
    exact hK _ _ (h v' w' ho2 hg hm)
  | none =>
    obtain ⟨rfl, rfl⟩ := hn rfl
    have hnews0 : news = [] := List.eq_nil_of_length_eq_zero (by simpa using hl)
    subst hnews0
    have hr := run_append_owned_none (P := P) w base t o.type e i size ht hi v n xs hown
    unfold Oper.wp execOp
    simp only [ho, resolve, invoke, builtin, Sem.run_bind, Sem.run_pure, Result.andThen_ok, List.map_toArray, List.map_cons, List.map_nil, hs, hx, hr]
    exact hK _ _ (h v w (by simpa using hown) (World.grownBy.refl _ _) (.inl rfl))

/-- '[]byte(s)': a new row of the string's bytes; the world is told as one that has grown. -/
theorem conv_bytes_run (w : World) (src dst e : TypeId) (s : ByteArray) (hs : P.underlying src = some .string) (hd : P.underlying dst = some (.slice e)) (he : P.underlying e = some (.int .u8)) :
    ∃ cap w', (convert src dst (.string s)).run P w = .ok (.slice (some ⟨w.heap.size, 0, none⟩) s.size cap) w' ∧ s.size ≤ cap ∧ w.heap.size < w'.heap.size ∧ w.grownBy w' none ∧
      ∀ j (h : j < s.data.size), w'.cell? ⟨w.heap.size, j, none⟩ = some (.int .u8 (s.data[j].toNat : Int)) := by
  refine ⟨_, _, run_bytes_of_string w src dst e s hs hd he, grownCap_ge _ _ _ _, by simp, ⟨rfl, rfl, rfl, by simp, fun k hk _ => heap_alloc_old w.drew _ hk⟩, fun j h => ?_⟩
  rw [← bytesRow_at s (grownCap w s.size 0 e) j h]
  exact World.cell?_alloc_mark w.drew _ _ _ j
end

/-- a row that a call made, read cell by cell -/
theorem own_cell {w : World} {base : Nat} {e : TypeId} {v : Value} {n : Nat} {xs : List Value} (h : w.ownsRow base e 1 v n xs) (hn : 0 < n) :
    ∃ g cap, v = .slice (some ⟨g, 0, none⟩) n cap ∧ base ≤ g ∧ n ≤ cap ∧ g < w.heap.size ∧ ∀ j u, xs[j]? = some u → w.cell? ⟨g, j, none⟩ = some u := by
  have hc := fun g => h.cells (g := g)
  have hlt := h.lt
  rcases h.2 with ⟨rfl, h0⟩ | ⟨g, cap, cur, rfl, hb, hg, hnc, _⟩
  · omega
  · refine ⟨g, cap, rfl, hb, hnc, (hlt g rfl).2, fun j u hj => ?_⟩
    have := hc g rfl j u hj
    rwa [Addr.add_lit, Nat.zero_add] at this

/-- how long a slice is -/
def lenOf : Value → Nat | .slice _ n _ => n | _ => 0

theorem own_form {w : World} {base : Nat} {e : TypeId} {size : Nat} {v : Value} {n : Nat} {xs : List Value} (h : w.ownsRow base e size v n xs) : ∃ vo vc, v = .slice vo n vc := by
  rcases h.2 with ⟨rfl, rfl⟩ | ⟨g, cap, cur, rfl, _⟩
  · exact ⟨none, 0, rfl⟩
  · exact ⟨_, cap, rfl⟩

/-- what is owned stays so through a call that writes nothing that was there -/
theorem own_keep {w w' : World} {base : Nat} {e : TypeId} {size : Nat} {v : Value} {n : Nat} {xs : List Value} (h : w.ownsRow base e size v n xs) (hb : Below w.heap.size w w') : w'.ownsRow base e size v n xs := by
  refine ⟨h.1, ?_⟩
  rcases h.2 with h2 | ⟨g, cap, cur, hv, hg, hh, r⟩
  · exact .inl h2
  · exact .inr ⟨g, cap, cur, hv, hg, by rw [hb.block g (Array.getElem?_eq_some_iff.1 hh).1]; exact hh, r⟩

theorem grown_below {w w' : World} {row : Option Nat} {B : Nat} (hg : w.grownBy w' row) (hB : B ≤ w.heap.size) (hr : ∀ k, row = some k → B ≤ k) : Below B w w' :=
  (Below.refl B w).grown hg hB hr

/-- a slice of integers that came in: it is nil; or it leads to a row of 'cap' cells, the numbers 'zs' (the first 'len' are its elements) -/
def IsRow (k : IntKind) (w : World) (a : Option Addr) (len cap : Nat) (zs : List Int) : Prop :=
  (a = none ∧ len = 0 ∧ cap = 0 ∧ zs = []) ∨
  ∃ x, a = some x ∧ len ≤ cap ∧ cap ≤ maxLen ∧ zs.length = cap ∧ (∀ i, i < zs.length → w.cell? (x.add i) = some (.int k (zs.getD i 0))) ∧ ∀ n ∈ zs, (Lit.int k n).wf = true

theorem drewN_below (w : World) (n B : Nat) : Below B w (w.drewN n) := ⟨rfl, rfl, rfl, Nat.le_refl _, fun _ _ => rfl⟩

end Go.Proofs.YtmieegcnfnoiiaaDoor.Gx
namespace Go.Proofs.YtmieegcnfnoiiaaDoor.Gx
open Go Go.RowKit

/-- the slice 'ad, xs.length, cap' reads as the numbers xs in the world w -/
structure Rd (k : IntKind) (w : World) (ad : Option Addr) (cap : Nat) (xs : List Int) : Prop where
  ncap : xs.length ≤ cap
  cap63 : cap ≤ 9223372036854775807
  wf : ∀ x ∈ xs, (Lit.int k x).wf = true
  none_ : ad = none → cap = 0
  at_ : ∀ a, ad = some a → 0 < xs.length → a.spot = none ∧ a.block < w.heap.size ∧ ∀ j, j < xs.length → w.cell? ⟨a.block, a.off + j, none⟩ = some (.int k (xs.getD j 0))

variable {k : IntKind} {w w' : World} {ad : Option Addr} {cap : Nat} {xs : List Int}

theorem Rd.keep (h : Rd k w ad cap xs) (hb : Below w.heap.size w w') : Rd k w' ad cap xs := by
  refine ⟨h.ncap, h.cap63, h.wf, h.none_, fun a ha hp => ?_⟩
  obtain ⟨h1, h2, h3⟩ := h.at_ a ha hp
  exact ⟨h1, Nat.lt_of_lt_of_le h2 hb.size, fun j hj => (hb.cell (p := ⟨a.block, a.off + j, none⟩) h2).trans (h3 j hj)⟩

theorem Rd.addr (h : Rd k w ad cap xs) (hp : 0 < xs.length) : ∃ b off, ad = some ⟨b, off, none⟩ ∧ b < w.heap.size ∧ ∀ j, j < xs.length → w.cell? ⟨b, off + j, none⟩ = some (.int k (xs.getD j 0)) := by
  cases ad with
  | none => have := h.none_ rfl; have := h.ncap; omega
  | some a =>
    obtain ⟨h1, h2, h3⟩ := h.at_ a rfl hp
    obtain ⟨b, off, spot⟩ := a
    simp only at h1
    subst h1
    exact ⟨b, off, rfl, h2, h3⟩

theorem getD_take (xs : List Int) (m j : Nat) (h : j < m) : (xs.take m).getD j 0 = xs.getD j 0 := by
  simp [List.getD, h]

/-- the first m of them -/
theorem Rd.front (h : Rd k w ad cap xs) (m : Nat) (hm : m ≤ xs.length) : Rd k w ad cap (xs.take m) := by
  have hl : (xs.take m).length = m := by simp; omega
  refine ⟨by rw [hl]; have := h.ncap; omega, h.cap63, fun x hx => h.wf x (List.mem_of_mem_take hx), h.none_, fun a ha hp => ?_⟩
  obtain ⟨h1, h2, h3⟩ := h.at_ a ha (by omega)
  refine ⟨h1, h2, fun j hj => ?_⟩
  rw [h3 j (by omega), getD_take xs m j (by omega)]

/-- none of them -/
theorem Rd.nil (k : IntKind) (w : World) (ad : Option Addr) (cap : Nat) (h1 : cap ≤ 9223372036854775807) (h2 : ad = none → cap = 0) : Rd k w ad cap [] :=
  ⟨by simp, h1, fun x hx => by simp at hx, h2, fun a _ hp => by simp at hp⟩

/-- what came in -/
theorem Rd.row {len : Nat} {zs : List Int} (h : IsRow k w ad len cap zs) : (zs.take len).length = len ∧ Rd k w ad cap (zs.take len) := by
  rcases h with ⟨rfl, rfl, rfl, rfl⟩ | ⟨x, rfl, hl, hm, hz, hc, hw⟩
  · exact ⟨rfl, Rd.nil _ _ _ _ (by omega) (fun _ => rfl)⟩
  · have hlen : (zs.take len).length = len := by simp; omega
    refine ⟨hlen, by omega, by unfold maxLen at hm; omega, fun y hy => hw y (List.mem_of_mem_take hy), fun h => by simp at h, fun a ha hp => ?_⟩
    obtain rfl := Option.some.inj ha
    have h0 := hc 0 (by omega)
    have hspot : x.spot = none := by
      have := World.cell?_spot h0
      simpa [Addr.add] using this
    obtain ⟨b, off, spot⟩ := x
    simp only at hspot
    subst hspot
    refine ⟨rfl, World.block_lt_of_cell? w ⟨b, off, none⟩ (by simpa [Addr.add] using h0), fun j hj => ?_⟩
    have := hc j (by omega)
    rw [Addr.add_lit] at this
    rw [this, getD_take zs len j (by omega)]

/-- what a call has made -/
theorem Rd.own {base : Nat} {e : TypeId} {v : Value} {n : Nat} (h : w.ownsRow base e 1 v n (xs.map (Value.int k))) (hw : ∀ x ∈ xs, (Lit.int k x).wf = true) :
    ∃ ad cap, v = .slice ad xs.length cap ∧ Rd k w ad cap xs := by
  have hn : xs.length = n := by have := h.1; simpa using this
  have hc := fun g => h.cells (g := g)
  rcases h.2 with ⟨rfl, rfl⟩ | ⟨g, cap, cur, rfl, hb, hg, hnc, hcm, _⟩
  · have : xs = [] := List.eq_nil_of_length_eq_zero hn
    subst this
    exact ⟨none, 0, rfl, Rd.nil _ _ _ _ (by omega) (fun _ => rfl)⟩
  · subst hn
    refine ⟨some ⟨g, 0, none⟩, cap, rfl, hnc, by unfold maxLen at hcm; omega, hw, fun h => by simp at h, fun a ha hp => ?_⟩
    obtain rfl := Option.some.inj ha
    refine ⟨rfl, (Array.getElem?_eq_some_iff.1 hg).1, fun j hj => ?_⟩
    have := hc g rfl j (.int k (xs.getD j 0)) (by simp [List.getD, List.getElem?_eq_getElem hj])
    rwa [Addr.add_lit] at this

/-- what a call has made lies in its own memory -/
theorem Rd.own' {base : Nat} {e : TypeId} {v : Value} {n : Nat} (h : w.ownsRow base e 1 v n (xs.map (Value.int k))) (hw : ∀ x ∈ xs, (Lit.int k x).wf = true) :
    ∃ ad cap, v = .slice ad xs.length cap ∧ Rd k w ad cap xs ∧ ∀ a, ad = some a → base ≤ a.block := by
  obtain ⟨ad, cap, rfl, hr⟩ := Rd.own h hw
  refine ⟨ad, cap, rfl, hr, fun a ha => ?_⟩
  subst ha
  exact (h.lt a.block rfl).1

/-- through a write to another row -/
theorem Rd.grown {row : Option Nat} (h : Rd k w ad cap xs) (hg : w.grownBy w' row) (hne : ∀ a, ad = some a → 0 < xs.length → some a.block ≠ row) : Rd k w' ad cap xs := by
  refine ⟨h.ncap, h.cap63, h.wf, h.none_, fun a ha hp => ?_⟩
  obtain ⟨h1, h2, h3⟩ := h.at_ a ha hp
  exact ⟨h1, Nat.lt_of_lt_of_le h2 hg.size, fun j hj => hg.cell (h3 j hj) (hne a ha hp)⟩

/-- what an append of such a slice asks -/
theorem Rd.src (h : Rd k w ad cap xs) : (xs.map (Value.int k)).length = xs.length * 1 ∧ (ad = none → xs.length = 0 ∧ cap = 0) ∧
    (∀ a, ad = some a → ∀ j u, (xs.map (Value.int k))[j]? = some u → w.cell? (a.add j) = some u) ∧ ∀ u ∈ xs.map (Value.int k), u.oneCell' = true := by
  refine ⟨by simp, fun e => ⟨by have := h.none_ e; have := h.ncap; omega, h.none_ e⟩, fun a ha j u hu => ?_, ints_oneCell k xs⟩
  have hj : j < xs.length := by
    have := (List.getElem?_eq_some_iff.1 hu).1
    simpa using this
  obtain ⟨h1, h2, h3⟩ := h.at_ a ha (by omega)
  obtain ⟨b, off, spot⟩ := a
  simp only at h1
  subst h1
  rw [Addr.add_lit, h3 j hj]
  simp [List.getElem?_eq_getElem hj] at hu
  simp [List.getD, List.getElem?_eq_getElem hj, hu]
end Go.Proofs.YtmieegcnfnoiiaaDoor.Gx
namespace Go.Proofs.YtmieegcnfnoiiaaDoor

/-- the number that the words tell -/
def bval : List Int → Nat
  | [] => 0
  | x :: l => x.toNat + 4294967296 * bval l
/-- words that are words -/
def Words (l : List Int) : Prop := ∀ x ∈ l, 0 ≤ x ∧ x < 4294967296
/-- the words of a number: none is a nought at the end -/
def canonF : Nat → Nat → List Int
  | 0, _ => []
  | f + 1, n => if n = 0 then [] else ((n % 4294967296 : Nat) : Int) :: canonF f (n / 4294967296)
def canon (n : Nat) : List Int := canonF n n

theorem canonF_fuel : ∀ (f g n : Nat), n ≤ f → n ≤ g → canonF f n = canonF g n
  | 0, 0, _, _, _ => rfl
  | 0, g + 1, n, h, _ => by have : n = 0 := by omega
                            subst this; simp [canonF]
  | f + 1, 0, n, _, h => by have : n = 0 := by omega
                            subst this; simp [canonF]
  | f + 1, g + 1, n, h1, h2 => by
    unfold canonF
    by_cases h : n = 0
    · simp [h]
    · rw [if_neg h, if_neg h, canonF_fuel f g (n / 4294967296) (by omega) (by omega)]
theorem canon_zero : canon 0 = [] := rfl
theorem canon_pos (n : Nat) (h : n ≠ 0) : canon n = ((n % 4294967296 : Nat) : Int) :: canon (n / 4294967296) := by
  unfold canon
  obtain ⟨m, rfl⟩ : ∃ m, n = m + 1 := ⟨n - 1, by omega⟩
  conv => lhs; unfold canonF
  rw [if_neg (by omega), canonF_fuel m ((m + 1) / 4294967296) _ (by omega) (Nat.le_refl _)]
theorem canon_words : ∀ (n : Nat), Words (canon n) := by
  intro n
  induction n using Nat.strongRecOn with
  | ind n ih =>
    by_cases h : n = 0
    · subst h; intro x hx; simp [canon_zero] at hx
    · rw [canon_pos n h]
      intro x hx
      rcases List.mem_cons.1 hx with rfl | hx
      · omega
      · exact ih _ (by omega) x hx
theorem bval_canon : ∀ (n : Nat), bval (canon n) = n := by
  intro n
  induction n using Nat.strongRecOn with
  | ind n ih =>
    by_cases h : n = 0
    · subst h; rfl
    · rw [canon_pos n h, bval, ih _ (by omega)]
      omega
theorem bval_append (a b : List Int) : bval (a ++ b) = bval a + 4294967296 ^ a.length * bval b := by
  induction a with
  | nil => simp [bval]
  | cons x a ih =>
    simp only [List.cons_append, bval, ih, List.length_cons, Nat.pow_succ]
    rw [Nat.mul_add, Nat.add_assoc, ← Nat.mul_assoc, Nat.mul_comm (4294967296 ^ a.length) 4294967296]
theorem bval_lt : ∀ (a : List Int), Words a → bval a < 4294967296 ^ a.length
  | [], _ => by simp [bval]
  | x :: a, h => by
    have h1 := h x (by simp)
    have h2 := bval_lt a (fun y hy => h y (by simp [hy]))
    simp only [bval, List.length_cons, Nat.pow_succ]
    omega
/-- words, of which the last is no nought, are those of their number -/
theorem canon_bval : ∀ (a : List Int), Words a → (∀ x, a.getLast? = some x → x ≠ 0) → canon (bval a) = a
  | [], _, _ => rfl
  | x :: a, h, hl => by
    have h1 := h x (by simp)
    have hw : Words a := fun y hy => h y (by simp [hy])
    have hl' : ∀ y, a.getLast? = some y → y ≠ 0 := by
      intro y hy
      refine hl y ?_
      cases a with
      | nil => simp at hy
      | cons z a => simpa [List.getLast?_cons_cons] using hy
    have ih := canon_bval a hw hl'
    have hne : bval (x :: a) ≠ 0 := by
      simp only [bval]
      intro h0
      have hx : x.toNat = 0 := by omega
      have ha : bval a = 0 := by omega
      rw [ha] at ih
      have : a = [] := by rw [← ih]; rfl
      subst this
      have := hl x (by simp)
      omega
    rw [canon_pos _ hne]
    simp only [bval]
    have e1 : (x.toNat + 4294967296 * bval a) % 4294967296 = x.toNat := by omega
    have e2 : (x.toNat + 4294967296 * bval a) / 4294967296 = bval a := by omega
    rw [e1, e2, ih]
    congr 1
    omega
/-- without noughts at the end -/
def trimTo : List Int → List Int
  | [] => []
  | x :: l => if trimTo l = [] ∧ x = 0 then [] else x :: trimTo l
theorem trimTo_canon : ∀ (a : List Int), Words a → trimTo a = canon (bval a)
  | [], _ => rfl
  | x :: a, h => by
    have h1 := h x (by simp)
    have ih := trimTo_canon a (fun y hy => h y (by simp [hy]))
    unfold trimTo
    rw [ih]
    simp only [bval]
    by_cases h0 : canon (bval a) = [] ∧ x = 0
    · rw [if_pos h0]
      have hb : bval a = 0 := by
        have := bval_canon (bval a)
        rw [h0.1] at this
        simpa [bval] using this.symm
      rw [hb, h0.2]; rfl
    · rw [if_neg h0]
      have hne : x.toNat + 4294967296 * bval a ≠ 0 := by
        intro h2
        apply h0
        have hb : bval a = 0 := by omega
        exact ⟨by rw [hb]; rfl, by omega⟩
      rw [canon_pos _ hne]
      have e1 : (x.toNat + 4294967296 * bval a) % 4294967296 = x.toNat := by omega
      have e2 : (x.toNat + 4294967296 * bval a) / 4294967296 = bval a := by omega
      rw [e1, e2]
      congr 1
      omega
theorem canon_inj {a b : Nat} (h : canon a = canon b) : a = b := by rw [← bval_canon a, h, bval_canon]
/-- how many words a number has -/
theorem canon_len_le (n k : Nat) (h : n < 4294967296 ^ k) : (canon n).length ≤ k := by
  induction k generalizing n with
  | zero => simp at h; subst h; simp [canon_zero]
  | succ k ih =>
    by_cases h0 : n = 0
    · subst h0; simp [canon_zero]
    · rw [canon_pos n h0, List.length_cons]
      have := ih (n / 4294967296) (by rw [Nat.pow_succ] at h; omega)
      omega
theorem canon_len_gt (n : Nat) (h : n ≠ 0) : 4294967296 ^ ((canon n).length - 1) ≤ n := by
  induction n using Nat.strongRecOn with
  | ind n ih =>
    rw [canon_pos n h, List.length_cons]
    by_cases h2 : n / 4294967296 = 0
    · rw [h2, canon_zero]; simp; omega
    · have h3 := ih (n / 4294967296) (by omega) h2
      have h4 : 0 < (canon (n / 4294967296)).length := by rw [canon_pos _ h2]; simp
      obtain ⟨m, hm⟩ : ∃ m, (canon (n / 4294967296)).length = m + 1 := ⟨_, (Nat.succ_pred_eq_of_pos h4).symm⟩
      rw [hm] at h3 ⊢
      simp only [Nat.add_sub_cancel] at h3 ⊢
      rw [Nat.pow_succ]
      omega
end Go.Proofs.YtmieegcnfnoiiaaDoor
namespace Go.Proofs.YtmieegcnfnoiiaaDoor
open Go.RowKit Gx
set_option maxRecDepth 100000

theorem words_of_rd {w : World} {ad : Option Addr} {cap : Nat} {xs : List Int} (h : Rd .u32 w ad cap xs) : Words xs := by
  intro x hx
  have := h.wf x hx
  simp [Lit.wf, IntKind.min, IntKind.max, IntKind.signed, IntKind.bits] at this
  omega

theorem bval_zeros (l : List Int) (h : ∀ x ∈ l, x = 0) : bval l = 0 := by
  induction l with
  | nil => rfl
  | cons x l ih => simp [bval, ih (fun y hy => h y (by simp [hy])), h x (by simp)]

/-- where trimming ends -/
theorem trim_done (xs : List Int) (hw : Words xs) (m : Nat) (hm : m ≤ xs.length) (hz : ∀ j, m ≤ j → j < xs.length → xs.getD j 0 = 0) (hl : m = 0 ∨ xs.getD (m - 1) 0 ≠ 0) :
    canon (bval xs) = xs.take m := by
  have h1 : bval xs = bval (xs.take m) := by
    conv => lhs; rw [← List.take_append_drop m xs]
    rw [bval_append, bval_zeros (xs.drop m)]
    · simp
    · intro x hx
      obtain ⟨i, hi, rfl⟩ := List.getElem_of_mem hx
      rw [List.getElem_drop]
      have := hz (m + i) (by omega) (by simp at hi; omega)
      simpa [List.getD, List.getElem?_eq_getElem (show m + i < xs.length by simp at hi; omega)] using this
  rw [h1]
  refine canon_bval _ (fun x hx => hw x (List.mem_of_mem_take hx)) ?_
  intro x hx
  rcases hl with rfl | hl
  · simp at hx
  · rw [List.getLast?_eq_getElem?] at hx
    have hlen : (xs.take m).length = m := by simp; omega
    rw [hlen] at hx
    by_cases h0 : m = 0
    · subst h0; simp at hx
    · rw [List.getElem?_take] at hx
      rw [if_pos (by omega)] at hx
      intro e
      apply hl
      simp [List.getD, hx, e]

theorem canon_take (xs : List Int) (hw : Words xs) : ∃ m, m ≤ xs.length ∧ canon (bval xs) = xs.take m := by
  have h : ∀ n m, m ≤ xs.length → (∀ j, m ≤ j → j < xs.length → xs.getD j 0 = 0) → m ≤ n → ∃ m, m ≤ xs.length ∧ canon (bval xs) = xs.take m := by
    intro n
    induction n with
    | zero => intro m hm hz hn; exact ⟨m, hm, trim_done xs hw m hm hz (.inl (by omega))⟩
    | succ n ih =>
      intro m hm hz hn
      by_cases h0 : m = 0
      · exact ⟨m, hm, trim_done xs hw m hm hz (.inl h0)⟩
      by_cases h1 : xs.getD (m - 1) 0 = 0
      · refine ih (m - 1) (by omega) (fun j h2 h3 => ?_) (by omega)
        by_cases h4 : j = m - 1
        · rw [h4]; exact h1
        · exact hz j (by omega) h3
      · exact ⟨m, hm, trim_done xs hw m hm hz (.inr h1)⟩
  exact h xs.length xs.length (Nat.le_refl _) (fun j h1 h2 => by omega) (Nat.le_refl _)

theorem Gx.Rd.trim {w : World} {ad : Option Addr} {cap : Nat} {xs : List Int} (h : Rd .u32 w ad cap xs) : Rd .u32 w ad cap (canon (bval xs)) := by
  obtain ⟨m, hm, e⟩ := canon_take xs (words_of_rd h)
  rw [e]; exact h.front m hm

def TrimmedPost (ad : Option Addr) (cap : Nat) (xs : List Int) (w : World) (e : Ending) (w' : World) : Prop :=
  e = .returned (.slice ad (canon (bval xs)).length cap) ∧ w = w'

set_option maxHeartbeats 400000 in
theorem trimmed_any (ad : Option Addr) (cap : Nat) (xs : List Int) (w : World) (h : Rd .u32 w ad cap xs) (hl : xs.length ≤ 1099511627776) :
    Calls Tryd.prog 26 #[.slice ad xs.length cap] w (TrimmedPost ad cap xs w) := by
  have hw := words_of_rd h
  by_cases h0 : xs.length = 0
  · obtain rfl : xs = [] := List.eq_nil_of_length_eq_zero h0
    go_enter Tryd.func26, Tryd.ntmps26
    go_wp2
    refine wp_loop_rounds 1 ?_
    rw [rounds_succ]
    go_wp2
    go_ret
    exact ⟨rfl, rfl⟩
  obtain ⟨b, off, rfl, -, hc⟩ := h.addr (by omega)
  have hnc := h.ncap
  have h63 := h.cap63
  have HC := Lib.hid hc
  have HW := Lib.hid hw
  clear hc hw h h0
  go_enter Tryd.func26, Tryd.ntmps26
  go_wp2
  go_loop [0] (fun v => ∃ m : Nat, m ≤ xs.length ∧ v = .slice (some ⟨b, off, none⟩) m cap ∧ Hid (∀ j, m ≤ j → j < xs.length → xs.getD j 0 = 0))
    (fun v => match v with | .slice _ n _ => n | _ => 0)
  case atStart => exact ⟨xs.length, Nat.le_refl _, rfl, fun j h1 h2 => by omega⟩
  case round =>
    obtain ⟨m, hm, rfl, hz⟩ := hrel
    by_cases hm0 : m = 0
    · subst hm0
      go_wp2
      go_ret
      have := trim_done xs HW.out 0 (by omega) hz.out (.inl rfl)
      exact ⟨by rw [this]; rfl, rfl⟩
    · have hc1 := HC.out (m - 1) (by omega)
      obtain ⟨x, hx⟩ : ∃ x, x = xs.getD (m - 1) 0 := ⟨_, rfl⟩
      rw [← hx] at hc1
      have HX := Lib.hid hx; clear hx
      have hpos : (0 : Int) < (m : Int) := by omega
      by_cases hx0 : x = 0
      · subst hx0
        have hb : ((0 : Int) == 0) = true := rfl
        go_wp2
        go_round
        case rel =>
          refine ⟨m - 1, by omega, rfl, fun j h1 h2 => ?_⟩
          by_cases h4 : j = m - 1
          · rw [h4]; exact HX.out.symm
          · exact hz.out j (by omega) h2
        case measure => simp; omega
      · have hb : (x == 0) = false := by simpa using hx0
        go_wp2
        go_ret
        have := trim_done xs HW.out m hm hz.out (.inr (by rw [← HX.out]; exact hx0))
        refine ⟨?_, rfl⟩
        rw [this, List.length_take, Nat.min_eq_left hm]; rfl
end Go.Proofs.YtmieegcnfnoiiaaDoor
namespace Go.Proofs.YtmieegcnfnoiiaaDoor
open Go.RowKit Gx
set_option maxRecDepth 100000

def TwoWords (a b : Int) (w : World) (e : Ending) (w' : World) : Prop := e = .returned (.tuple #[.int .u32 a, .int .u32 b]) ∧ w = w'

def borrowOf (x y c : Int) : Int := if x < y + c then 1 else 0

theorem div31 (n : Nat) (h : n < 4294967296) : n / 2147483648 = if n.testBit 31 then 1 else 0 := by
  rw [Nat.testBit_eq_decide_div_mod_eq]
  have h2 : n / 2147483648 < 2 := by omega
  by_cases h1 : n / 2 ^ 31 % 2 = 1
  · simp only [h1, decide_true, if_true]
    have : (2 : Nat) ^ 31 = 2147483648 := by decide
    rw [this] at h1; omega
  · simp only [h1, decide_false]
    have : (2 : Nat) ^ 31 = 2147483648 := by decide
    rw [this] at h1; simp; omega
theorem top31 (n : Nat) (h : n < 4294967296) : n.testBit 31 = decide (2147483648 ≤ n) := by
  rw [Nat.testBit_eq_decide_div_mod_eq]
  have : (2 : Nat) ^ 31 = 2147483648 := by decide
  rw [this]
  by_cases h1 : 2147483648 ≤ n
  · simp [h1]; omega
  · simp [h1]; omega
theorem borrow_nat (x y c d : Nat) (hx : x < 4294967296) (hy : y < 4294967296) (hc : c ≤ 1) (hd : d < 4294967296) (e : (x + 8589934592 - y - c) % 4294967296 = d) :
    (((4294967295 ^^^ x) &&& y) ||| ((4294967295 ^^^ (x ^^^ y)) &&& d)) / 2147483648 = if x < y + c then 1 else 0 := by
  have h32 : (4294967296 : Nat) = 2 ^ 32 := by decide
  have hb : (((4294967295 ^^^ x) &&& y) ||| ((4294967295 ^^^ (x ^^^ y)) &&& d)) < 4294967296 := by
    rw [h32] at *
    exact Nat.or_lt_two_pow (Nat.lt_of_le_of_lt Nat.and_le_right hy) (Nat.lt_of_le_of_lt Nat.and_le_right hd)
  rw [div31 _ hb]
  have hm : Nat.testBit 4294967295 31 = true := by decide
  simp only [Nat.testBit_or, Nat.testBit_and, Nat.testBit_xor, hm, top31 x hx, top31 y hy, top31 d hd]
  by_cases h1 : 2147483648 ≤ x <;> by_cases h2 : 2147483648 ≤ y <;> by_cases h3 : 2147483648 ≤ d <;> by_cases h4 : x < y + c <;> simp [h1, h2, h3, h4] <;> omega

theorem borrow_word (x y c : Int) (hx : 0 ≤ x) (hx' : x ≤ 4294967295) (hy : 0 ≤ y) (hy' : y ≤ 4294967295) (hc : 0 ≤ c) (hc' : c ≤ 1) :
    bits BinOp.or IntKind.u32 (bits BinOp.and IntKind.u32 (bits BinOp.xor IntKind.u32 IntKind.u32.max x) y)
      (bits BinOp.and IntKind.u32 (bits BinOp.xor IntKind.u32 IntKind.u32.max (bits BinOp.xor IntKind.u32 x y)) ((x - y - c) % 4294967296)) / 2147483648 = borrowOf x y c := by
  obtain ⟨x, rfl⟩ := Int.eq_ofNat_of_zero_le hx
  obtain ⟨y, rfl⟩ := Int.eq_ofNat_of_zero_le hy
  obtain ⟨c, rfl⟩ := Int.eq_ofNat_of_zero_le hc
  obtain ⟨d, hd⟩ : ∃ d : Nat, d = (x + 8589934592 - y - c) % 4294967296 := ⟨_, rfl⟩
  have e : (((x : Int) - y - c) % 4294967296) = (d : Int) := by omega
  have em : IntKind.u32.max = ((4294967295 : Nat) : Int) := by decide
  have hd2 : d < 4294967296 := by omega
  have h32 : (4294967296 : Nat) = 2 ^ 32 := by decide
  have hM : (4294967295 : Nat) < 4294967296 := by decide
  have h1 : (4294967295 ^^^ x) < 4294967296 := by rw [h32]; exact Nat.xor_lt_two_pow (by decide) (by omega)
  have h2 : (x ^^^ y) < 4294967296 := by rw [h32]; exact Nat.xor_lt_two_pow (by omega) (by omega)
  have h3 : (4294967295 ^^^ (x ^^^ y)) < 4294967296 := by rw [h32]; exact Nat.xor_lt_two_pow (by decide) (by rw [← h32]; exact h2)
  have h4 : (4294967295 ^^^ x) &&& y < 4294967296 := Nat.lt_of_le_of_lt Nat.and_le_right (by omega)
  have h5 : (4294967295 ^^^ (x ^^^ y)) &&& d < 4294967296 := Nat.lt_of_le_of_lt Nat.and_le_right (by omega)
  rw [e, em, u32_xor_nat _ _ hM (by omega), u32_xor_nat _ _ (by omega) (by omega), u32_xor_nat _ _ hM h2, u32_and_nat _ _ h1 (by omega), u32_and_nat _ _ h3 hd2, u32_or_nat _ _ h4 h5]
  have := borrow_nat x y c d (by omega) (by omega) (by omega) hd2 hd.symm
  unfold borrowOf
  by_cases h : x < y + c
  · rw [if_pos h] at this; rw [if_pos (by omega)]; omega
  · rw [if_neg h] at this; rw [if_neg (by omega)]; omega

set_option maxHeartbeats 400000 in
theorem add32_any (x y c : Int) (w : World) (hx : 0 ≤ x) (hx' : x ≤ 4294967295) (hy : 0 ≤ y) (hy' : y ≤ 4294967295) (hc : 0 ≤ c) (hc' : c ≤ 1) :
    Calls Tryd.prog 57 #[.int .u32 x, .int .u32 y, .int .u32 c] w (TwoWords ((x + y + c) % 4294967296) ((x + y + c) / 4294967296) w) := by
  go_enter Tryd.func57, Tryd.ntmps57
  go_wp2
  go_ret2
  exact ⟨rfl, rfl⟩

set_option maxHeartbeats 400000 in
theorem sub32_any (x y c : Int) (w : World) (hx : 0 ≤ x) (hx' : x ≤ 4294967295) (hy : 0 ≤ y) (hy' : y ≤ 4294967295) (hc : 0 ≤ c) (hc' : c ≤ 1) :
    Calls Tryd.prog 61 #[.int .u32 x, .int .u32 y, .int .u32 c] w (TwoWords ((x - y - c) % 4294967296) (borrowOf x y c) w) := by
  have H := Lib.hid (borrow_word x y c hx hx' hy hy' hc hc')
  go_enter Tryd.func61, Tryd.ntmps61
  go_wp2
  go_ret2
  refine ⟨?_, rfl⟩
  rw [← H.out]; rfl
end Go.Proofs.YtmieegcnfnoiiaaDoor
namespace Go.Proofs.YtmieegcnfnoiiaaDoor
open Go.RowKit Gx
set_option maxRecDepth 100000

theorem Tryd.info_u32 : (Tryd.prog.info? 27).map (fun i => (i.zero, i.size, i.bytes)) = some (some (.int .u32 0), 1, 4) := by kernel_rfl

theorem bval_take_succ (l : List Int) (k : Nat) : bval (l.take (k + 1)) = bval (l.take k) + 4294967296 ^ k * (l.getD k 0).toNat := by
  by_cases h : k < l.length
  · rw [List.take_succ_eq_append_getElem h, bval_append]
    simp [bval, List.getD, List.getElem?_eq_getElem h, Nat.min_eq_left (Nat.le_of_lt h)]
  · rw [List.take_of_length_le (by omega), List.take_of_length_le (by omega)]
    simp [List.getD, List.getElem?_eq_none (show l.length ≤ k by omega)]
theorem words_getD {l : List Int} (h : Words l) (k : Nat) : 0 ≤ l.getD k 0 ∧ l.getD k 0 ≤ 4294967295 := by
  by_cases hk : k < l.length
  · have := h _ (List.getElem_mem hk)
    simp [List.getD, List.getElem?_eq_getElem hk]; omega
  · simp [List.getD, List.getElem?_eq_none (show l.length ≤ k by omega)]
theorem wf_words {l : List Int} (h : Words l) : ∀ x ∈ l, (Lit.int .u32 x).wf = true := by
  intro x hx
  have := h x hx
  simp [Lit.wf, IntKind.min, IntKind.max, IntKind.signed, IntKind.bits]
  omega

/-- a call that hands back the words of n, in memory that is old or its own; what was there is as it was -/
def WordsPost (n : Nat) (w : World) (e : Ending) (w' : World) : Prop :=
  ∃ ad cap, e = .returned (.slice ad (canon n).length cap) ∧ Rd .u32 w' ad cap (canon n) ∧ Below w.heap.size w w'

set_option maxHeartbeats 400000 in
theorem bigTrim_any (ad : Option Addr) (cap : Nat) (xs : List Int) (w : World) (h : Rd .u32 w ad cap xs) (hl : xs.length ≤ 1073741824) :
    Calls Tryd.prog 30 #[.slice ad xs.length cap] w (WordsPost (bval xs) w) := by
  have hlen : (canon (bval xs)).length ≤ 1073741824 := by
    obtain ⟨m, hm, e⟩ := canon_take xs (words_of_rd h)
    rw [e]; simp; omega
  obtain ⟨s1, s2, s3, s4⟩ := h.trim.src
  have S2 := Lib.hid s2
  have S3 := Lib.hid s3
  have S4 := Lib.hid s4
  have H := Lib.hid h
  clear s1 s2 s3 s4 h
  go_enter Tryd.func30, Tryd.ntmps30
  go_wp2_with (first
    | (go_at_call 26; refine (trimmed_any ad cap xs w H.out (by omega)).mono ?_; rintro e w' ⟨rfl, rfl⟩)
    | (at_builtin; refine Gx.wpList_append_all w rfl _ _ 29 rfl w.heap.size 27 (.int .u32 0) 1 4 Tryd.underlying29 Tryd.info_u32 rfl (by decide) _ 0 [] ad _ cap ((canon (bval xs)).map (Value.int .u32)) rfl rfl (World.ownsRow_nil _ _ _ _) (by simp) S2.out S3.out S4.out ?_ ?_ (Nat.le_refl _) ?_))
  · omega
  · omega
  intro v' w' hown hg _
  have hb : Below w.heap.size w w' := Gx.grown_below hg (Nat.le_refl _) (by simp [Value.ownBlock])
  obtain ⟨ad', cap', rfl, hr⟩ := Gx.Rd.own (k := .u32) (xs := canon (bval xs)) (by simpa using hown) (wf_words (canon_words _))
  clear hown hg
  go_wp2
  go_ret
  exact ⟨ad', cap', rfl, hr, hb⟩
end Go.Proofs.YtmieegcnfnoiiaaDoor
namespace Go.Proofs.YtmieegcnfnoiiaaDoor
open Go.RowKit Gx
set_option maxRecDepth 100000

theorem bval_set : ∀ (l : List Int) (j : Nat) (v : Int), j < l.length → bval (l.set j v) + 4294967296 ^ j * (l.getD j 0).toNat = bval l + 4294967296 ^ j * v.toNat
  | [], j, v, h => by simp at h
  | x :: l, 0, v, _ => by simp [bval]; omega
  | x :: l, j + 1, v, h => by
    have ih := bval_set l j v (by simpa using h)
    simp only [List.set_cons_succ, bval, Nat.pow_succ]
    have e1 : (x :: l).getD (j + 1) 0 = l.getD j 0 := by simp [List.getD]
    rw [e1]
    have h1 : 4294967296 ^ j * 4294967296 * (l.getD j 0).toNat = 4294967296 * (4294967296 ^ j * (l.getD j 0).toNat) := by
      rw [Nat.mul_comm (4294967296 ^ j) 4294967296, Nat.mul_assoc]
    have h2 : 4294967296 ^ j * 4294967296 * v.toNat = 4294967296 * (4294967296 ^ j * v.toNat) := by
      rw [Nat.mul_comm (4294967296 ^ j) 4294967296, Nat.mul_assoc]
    rw [h1, h2]
    omega
theorem words_set {l : List Int} (h : Words l) (j : Nat) (v : Int) (h0 : 0 ≤ v) (h1 : v ≤ 4294967295) : Words (l.set j v) := by
  intro x hx
  rcases List.mem_or_eq_of_mem_set hx with hx | rfl
  · exact h x hx
  · omega
theorem getD_set_ne (l : List Int) (i j : Nat) (v : Int) (h : i ≠ j) : (l.set i v).getD j 0 = l.getD j 0 := by
  simp [List.getD, List.getElem?_set, h]
theorem bval_replicate (n : Nat) : bval (List.replicate n 0) = 0 := bval_zeros _ (fun x hx => (List.mem_replicate.1 hx).2)

theorem madeCells_one (k : IntKind) (n : Nat) : (madeCells #[Value.int k 0] n).toList = (List.replicate n (0 : Int)).map (Value.int k) := by
  apply List.ext_getElem
  · simp [madeCells]
  · intro i h1 h2
    simp [madeCells, Nat.mod_one]

theorem mul_bound {x y : Int} (hx : 0 ≤ x) (hx' : x ≤ 4294967295) (hy : 0 ≤ y) (hy' : y ≤ 4294967295) : 0 ≤ x * y ∧ x * y ≤ 18446744065119617025 := by
  refine ⟨Int.mul_nonneg hx hy, ?_⟩
  have h1 : x * y ≤ 4294967295 * y := Int.mul_le_mul_of_nonneg_right hx' hy
  have h2 : 4294967295 * y ≤ 4294967295 * 4294967295 := Int.mul_le_mul_of_nonneg_left hy' (by decide)
  omega

/-- a round of the inner loop, in numbers -/
theorem mul_step (out : List Int) (p q i k : Nat) (x y c o : Int) (hx : 0 ≤ x) (hy : 0 ≤ y) (hc : 0 ≤ c) (ho : 0 ≤ o) (hi : i + k < out.length) (eo : o = out.getD (i + k) 0) (ys : List Int) (ey : y = ys.getD k 0)
    (h : bval out + 4294967296 ^ (i + k) * c.toNat = p + 4294967296 ^ i * (x.toNat * bval (ys.take k))) (hq : q = 4294967296 ^ (i + k)) :
    bval (out.set (i + k) ((c + (x * y + o)) % 4294967296)) + 4294967296 ^ (i + (k + 1)) * ((c + (x * y + o)) / 4294967296).toNat = p + 4294967296 ^ i * (x.toNat * bval (ys.take (k + 1))) := by
  have hs := bval_set out (i + k) ((c + (x * y + o)) % 4294967296) hi
  rw [← eo, ← hq] at hs
  rw [← hq] at h
  rw [bval_take_succ, ← ey]
  have e1 : 4294967296 ^ (i + (k + 1)) = q * 4294967296 := by rw [hq, ← Nat.add_assoc, Nat.pow_succ]
  have e2 : 4294967296 ^ i * (x.toNat * (bval (ys.take k) + 4294967296 ^ k * y.toNat)) = 4294967296 ^ i * (x.toNat * bval (ys.take k)) + q * (x.toNat * y.toNat) := by
    rw [hq, Nat.mul_add, Nat.mul_add, Nat.pow_add]
    congr 1
    rw [Nat.mul_assoc]
    congr 1
    rw [← Nat.mul_assoc, Nat.mul_comm x.toNat, Nat.mul_assoc]
  rw [e1, e2]
  have hp : 0 ≤ x * y := Int.mul_nonneg hx hy
  have exy : (x * y).toNat = x.toNat * y.toNat := by
    obtain ⟨a, rfl⟩ := Int.eq_ofNat_of_zero_le hx
    obtain ⟨b, rfl⟩ := Int.eq_ofNat_of_zero_le hy
    simp only [Int.toNat_natCast]
    rw [← Int.natCast_mul, Int.toNat_natCast]
  rw [← exy]
  generalize x * y = z at *
  have e3 : ((c + (z + o)) % 4294967296).toNat + 4294967296 * ((c + (z + o)) / 4294967296).toNat = c.toNat + z.toNat + o.toNat := by omega
  have e4 : q * ((c + (z + o)) % 4294967296).toNat + q * 4294967296 * ((c + (z + o)) / 4294967296).toNat = q * c.toNat + q * z.toNat + q * o.toNat := by
    rw [Nat.mul_assoc, ← Nat.mul_add, e3, Nat.mul_add, Nat.mul_add]
  omega

set_option maxHeartbeats 1000000 in
theorem bigMul_any (ad bd : Option Addr) (ca cb : Nat) (xs ys : List Int) (w : World) (h : Rd .u32 w ad ca xs) (g : Rd .u32 w bd cb ys) (hl : xs.length ≤ 1048576) (hl2 : ys.length ≤ 1048576) :
    Calls Tryd.prog 14 #[.slice ad xs.length ca, .slice bd ys.length cb] w (WordsPost (bval xs * bval ys) w) := by
  have hwx := words_of_rd h
  have hwy := words_of_rd g
  have H := Lib.hid h
  have G := Lib.hid g
  have HWX := Lib.hid hwx
  have HWY := Lib.hid hwy
  clear h g hwx hwy
  go_enter Tryd.func14, Tryd.ntmps14
  obtain ⟨i0, hi, hz0, hz1, hz2⟩ := info_parts Tryd.info_u32
  have HI := Lib.hid hi
  have HZ0 := Lib.hid hz0
  have HZ1 := Lib.hid hz1
  clear hi hz0 hz1
  go_wp2_with (first
    | (at_make; refine wpList_make_full _ rfl _ _ 29 rfl w.heap.size 27 i0 (.int .u32 0) 1 Tryd.underlying29 HI.out HZ0.out HZ1.out .i64 .i64 _ _ (xs.length + ys.length) rfl rfl (by omega) (by omega) (by rw [hz2]; omega) (by unfold maxLen; omega) (Nat.le_refl _) ?_))
  intro w1 hown hg
  have hb : Below w.heap.size w w1 := Gx.grown_below hg (Nat.le_refl _) (by simp)
  rw [madeCells_one] at hown
  clear hg hz2 HI HZ0 HZ1
  obtain ⟨n, hn⟩ : ∃ n, n = xs.length + ys.length := ⟨_, rfl⟩
  obtain ⟨gb, hgb⟩ : ∃ gb, gb = w.heap.size := ⟨_, rfl⟩
  rw [← hn] at hown ⊢
  rw [show Value.slice (some ⟨w.heap.size, 0, none⟩) n n = Value.slice (some ⟨gb, 0, none⟩) n n from by rw [hgb]] at hown ⊢
  have HN := Lib.hid hn; clear hn
  have HGB := Lib.hid hgb; clear hgb
  have hnb : n ≤ 2097152 := by have := HN.out; omega
  go_wp2
  go_loopw [19] (fun i wr => ∃ (k : Nat) (out : List Int), k ≤ xs.length ∧ i = .int .i64 k ∧
      wr.ownsRow w.heap.size 27 1 (.slice (some ⟨gb, 0, none⟩) n n) n (out.map (Value.int .u32)) ∧ Hid (out.length = n) ∧ Words out ∧ Hid (bval out = bval (xs.take k) * bval ys) ∧
      Hid (∀ j, k + ys.length ≤ j → out.getD j 0 = 0) ∧ Below w.heap.size w wr)
    (fun i _ => xs.length - (intOf i).toNat)
  case atStart =>
    refine ⟨0, List.replicate n 0, Nat.zero_le _, rfl, hown, by simp [Hid], fun x hx => ?_, ?_, fun j _ => ?_, hb⟩
    · have := (List.mem_replicate.1 hx).2; omega
    · show _ = _
      rw [bval_replicate]; simp [bval]
    · simp [List.getD, List.getElem?_replicate]
      split <;> rfl
  case round =>
    obtain ⟨i, out, hk, rfl, hown1, hol, how, hval, hzer, hb1⟩ := hrel
    have HOW := Lib.hid how
    clear how hown hb
    by_cases hkx : i < xs.length
    · obtain ⟨b1, o1, rfl, -, hcx⟩ := (H.out.keep hb1).addr (by omega)
      have hx := hcx i hkx
      clear hcx
      have bx := words_getD HWX.out i
      obtain ⟨x, ex⟩ : ∃ x, x = xs.getD i 0 := ⟨_, rfl⟩
      rw [← ex] at hx bx
      have EX := Lib.hid ex; clear ex
      obtain ⟨bx0, bx1⟩ := bx
      go_wp2
      obtain ⟨wo, rfl⟩ : ∃ wo : World, wo = wr := ⟨_, rfl⟩
      clear hx
      go_loopw [8, 26] (fun c j wr => ∃ (k : Nat) (cr : Int) (out2 : List Int), k ≤ ys.length ∧ j = .int .i64 k ∧ c = .int .u64 cr ∧ 0 ≤ cr ∧ cr ≤ 4294967295 ∧
          wr.ownsRow w.heap.size 27 1 (.slice (some ⟨gb, 0, none⟩) n n) n (out2.map (Value.int .u32)) ∧ Hid (out2.length = n) ∧ Words out2 ∧
          Hid (bval out2 + 4294967296 ^ (i + k) * cr.toNat = bval out + 4294967296 ^ i * (x.toNat * bval (ys.take k))) ∧ Hid (∀ j, i + ys.length ≤ j → out2.getD j 0 = 0) ∧ Below w.heap.size w wr)
        (fun _ j _ => ys.length - (intOf j).toNat)
      case atStart => exact ⟨0, 0, out, Nat.zero_le _, rfl, rfl, by omega, by omega, hown1, hol, HOW.out, by simp [Hid, bval], hzer.out, hb1⟩
      case round =>
        clear hown1 hb1 hol HOW
        obtain ⟨k, cr, out2, hk2, rfl, rfl, hc0, hc1, hown2, hol2, how2, hval2, hzer2, hb2⟩ := hrel
        have hol2' : out2.length = n := hol2.out
        have HOW2 := Lib.hid how2
        clear how2
        have hlen : i + ys.length < n + 1 := by have := HN.out; omega
        by_cases hky : k < ys.length
        · obtain ⟨b2, o2, rfl, -, hcy⟩ := (G.out.keep hb2).addr (by omega)
          have hy := hcy k hky
          clear hcy
          have by_ := words_getD HWY.out k
          obtain ⟨y, ey⟩ : ∃ y, y = ys.getD k 0 := ⟨_, rfl⟩
          rw [← ey] at hy by_
          have EY := Lib.hid ey; clear ey
          obtain ⟨by0, by1⟩ := by_
          have hin : i + k < n := by have := HN.out; omega
          have bo := words_getD HOW2.out (i + k)
          have hcell : wr.cell? ⟨gb, i + k, none⟩ = some (.int .u32 (out2.getD (i + k) 0)) := by
            rw [hown2.cellAt (i + k) (by omega)]
            simp [List.getD, List.getElem?_eq_getElem (show i + k < out2.length by omega)]
          have hfz : wr.frozen? ⟨gb, i + k, none⟩ = false := hown2.frozenAt (i + k)
          obtain ⟨o, eo⟩ : ∃ o, o = out2.getD (i + k) 0 := ⟨_, rfl⟩
          rw [← eo] at hcell bo
          have EO := Lib.hid eo; clear eo
          obtain ⟨bo0, bo1⟩ := bo
          obtain ⟨mb0, mb1⟩ := mul_bound bx0 bx1 by0 by1
          have HT := Lib.hid (mul_step out2 (bval out) _ i k x y cr o bx0 by0 hc0 bo0 (by omega) EO.out ys EY.out hval2.out rfl)
          clear hol2'
          obtain ⟨m, hm⟩ : ∃ m, m = x * y := ⟨_, rfl⟩
          have hmul : x * y = m := hm.symm
          rw [← hm] at mb0 mb1
          clear hm
          have hb3 := hb2.size
          have hgb : w.heap.size ≤ gb := by rw [HGB.out]; exact Nat.le_refl _
          have hst := hown2.stored (i + k) (.int .u32 ((cr + (m + o)) % 4294967296))
          have hbn : Below w.heap.size w (wr.setCell ⟨gb, i + k, none⟩ (.int .u32 ((cr + (m + o)) % 4294967296))) := hb2.grown hst.2 hb3 (fun q e => by cases e; exact hgb)
          have hon : (wr.setCell ⟨gb, i + k, none⟩ (.int .u32 ((cr + (m + o)) % 4294967296))).ownsRow w.heap.size 27 1 (.slice (some ⟨gb, 0, none⟩) n n) n ((out2.set (i + k) ((cr + (m + o)) % 4294967296)).map (Value.int .u32)) := by
            rw [List.map_set]; exact hst.1
          have HON := Lib.hid hon
          have HBN := Lib.hid hbn
          have hw3 := Lib.hid (words_set HOW2.out (i + k) ((cr + (m + o)) % 4294967296) (by omega) (by omega))
          have hl3 : Hid ((out2.set (i + k) ((cr + (m + o)) % 4294967296)).length = n) := by show _ = _; rw [List.length_set]; exact hol2.out
          have hz3 : Hid (∀ j, i + ys.length ≤ j → (out2.set (i + k) ((cr + (m + o)) % 4294967296)).getD j 0 = 0) := by
            intro j hj
            have := hzer2.out j hj
            rw [getD_set_ne _ _ _ _ (by omega)]; exact this
          rw [hmul] at HT
          clear hst hbn hon hown2
          go_wp2
          go_roundw
          case rel => exact ⟨k + 1, (cr + (m + o)) / 4294967296, out2.set (i + k) ((cr + (m + o)) % 4294967296), by omega, by go_num, rfl, by omega, by omega, HON.out, hl3, hw3.out, HT, hz3, HBN.out⟩
          case measure => simp [intOf]; omega
        · obtain rfl : k = ys.length := by omega
          have hin : i + ys.length < n := by have := HN.out; omega
          have hcell : wr.cell? ⟨gb, i + ys.length, none⟩ = some (.int .u32 0) := by
            rw [hown2.cellAt (i + ys.length) (by omega)]
            have := hzer2.out (i + ys.length) (Nat.le_refl _)
            simp [List.getD, List.getElem?_eq_getElem (show i + ys.length < out2.length by omega)] at this
            simp [List.getElem?_eq_getElem (show i + ys.length < out2.length by omega), this]
          have hfz : wr.frozen? ⟨gb, i + ys.length, none⟩ = false := hown2.frozenAt (i + ys.length)
          have hb3 := hb2.size
          have hgb : w.heap.size ≤ gb := by rw [HGB.out]; exact Nat.le_refl _
          have hst := hown2.stored (i + ys.length) (.int .u32 cr)
          have hbn : Below w.heap.size w (wr.setCell ⟨gb, i + ys.length, none⟩ (.int .u32 cr)) := hb2.grown hst.2 hb3 (fun q e => by cases e; exact hgb)
          have hon : (wr.setCell ⟨gb, i + ys.length, none⟩ (.int .u32 cr)).ownsRow w.heap.size 27 1 (.slice (some ⟨gb, 0, none⟩) n n) n ((out2.set (i + ys.length) cr).map (Value.int .u32)) := by
            rw [List.map_set]; exact hst.1
          have HON := Lib.hid hon
          have HBN := Lib.hid hbn
          have hw3 := Lib.hid (words_set HOW2.out (i + ys.length) cr hc0 hc1)
          have hl3 : Hid ((out2.set (i + ys.length) cr).length = n) := by show _ = _; rw [List.length_set]; exact hol2.out
          have hz3 : Hid (∀ j, i + 1 + ys.length ≤ j → (out2.set (i + ys.length) cr).getD j 0 = 0) := by
            intro j hj
            have := hzer2.out j (by omega)
            rw [getD_set_ne _ _ _ _ (by omega)]; exact this
          have hv3 : Hid (bval (out2.set (i + ys.length) cr) = bval (xs.take (i + 1)) * bval ys) := by
            show _ = _
            have h1 := bval_set out2 (i + ys.length) cr (by omega)
            rw [hzer2.out (i + ys.length) (Nat.le_refl _)] at h1
            have h2 := hval2.out
            rw [List.take_of_length_le (Nat.le_refl _), hval.out] at h2
            rw [bval_take_succ, ← EX.out, Nat.add_mul]
            simp only [Int.toNat_zero, Nat.mul_zero, Nat.add_zero] at h1
            rw [h1, h2, Nat.mul_assoc]
          clear hst hbn hon hown2 hol2'
          go_wp2
          go_roundw
          case rel => exact ⟨i + 1, out2.set (i + ys.length) cr, by omega, by go_num, HON.out, hl3, hw3.out, hv3, hz3, HBN.out⟩
          case measure => simp [intOf]; omega
    · obtain rfl : i = xs.length := by omega
      have hown3 := hown1
      obtain ⟨ad', cap', he, hr⟩ := Gx.Rd.own (k := .u32) (xs := out) hown3 (wf_words HOW.out)
      have hln := hol.out
      obtain ⟨rfl, -, rfl⟩ : some ⟨gb, 0, none⟩ = ad' ∧ n = out.length ∧ n = cap' := by simpa using he
      have HR := Lib.hid hr
      clear hr hown1 hown3 he
      have hfin : bval out = bval xs * bval ys := by
        rw [hval.out, List.take_of_length_le (Nat.le_refl _)]
      have HF := Lib.hid hfin; clear hfin
      clear HN hol
      subst hln
      go_wp2_with (first
        | (go_at_call 26; refine (trimmed_any (some ⟨gb, 0, none⟩) out.length out _ HR.out (by omega)).mono ?_; rintro e w' ⟨rfl, rfl⟩))
      go_ret
      refine ⟨some ⟨gb, 0, none⟩, out.length, ?_, ?_, hb1⟩
      · rw [← HF.out]; rfl
      · rw [← HF.out]; exact HR.out.trim
end Go.Proofs.YtmieegcnfnoiiaaDoor
