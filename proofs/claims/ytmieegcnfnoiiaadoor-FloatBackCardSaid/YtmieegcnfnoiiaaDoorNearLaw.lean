/-
  Plain law: the steps of the nearest fraction: which power of 2, and what follows. No conditions.
-/
import Derived.Test.YtmieegcnfnoiiaaDoorFloatLaw
import Derived.Test.YtmieegcnfnoiiaaDoorBigLen
namespace Go.Proofs.YtmieegcnfnoiiaaDoor

theorem near_firstK (K : Nat) {num den E : Nat} (hn : num ≠ 0) (hd : den ≠ 0) (h1 : blen num + K ≤ E + blen den + 54) (h2 : E = 0 ∨ blen num + K = E + blen den + 54) :
    num * 2 ^ K < 2 ^ 55 * (den * 2 ^ E) ∧ (E = 0 ∨ 2 ^ 53 * (den * 2 ^ E) < num * 2 ^ K) := by
  obtain ⟨n1, n2, n3⟩ := blen_bounds num hn
  obtain ⟨d1, d2, d3⟩ := blen_bounds den hd
  generalize blen num = ln at *
  generalize blen den = ld at *
  constructor
  · have a1 : num * 2 ^ K < 2 ^ ln * 2 ^ K := Nat.mul_lt_mul_of_pos_right n3 (Nat.pow_pos (by decide))
    have a2 : 2 ^ ln * 2 ^ K ≤ 2 ^ 55 * (2 ^ (ld - 1) * 2 ^ E) := by
      rw [← Nat.pow_add, ← Nat.pow_add, ← Nat.pow_add]
      exact Nat.pow_le_pow_right (by decide) (by omega)
    have a3 : 2 ^ 55 * (2 ^ (ld - 1) * 2 ^ E) ≤ 2 ^ 55 * (den * 2 ^ E) := Nat.mul_le_mul_left _ (Nat.mul_le_mul_right _ d2)
    exact Nat.lt_of_lt_of_le a1 (Nat.le_trans a2 a3)
  · rcases h2 with h2 | h2
    · exact .inl h2
    · right
      have a1 : 2 ^ 53 * (den * 2 ^ E) < 2 ^ 53 * (2 ^ ld * 2 ^ E) := Nat.mul_lt_mul_of_pos_left (Nat.mul_lt_mul_of_pos_right d3 (Nat.two_pow_pos _)) (Nat.two_pow_pos _)
      have a2 : 2 ^ 53 * (2 ^ ld * 2 ^ E) = 2 ^ (ln - 1) * 2 ^ K := by
        rw [← Nat.pow_add, ← Nat.pow_add, ← Nat.pow_add]
        congr 1
        omega
      rw [a2] at a1
      exact Nat.lt_of_lt_of_le a1 (Nat.mul_le_mul_right _ n2)

theorem near_first {num den E : Nat} (hn : num ≠ 0) (hd : den ≠ 0) (h1 : blen num + 1021 ≤ E + blen den) (h2 : E = 0 ∨ blen num + 1021 = E + blen den) :
    num * 2 ^ 1075 < 2 ^ 55 * (den * 2 ^ E) ∧ (E = 0 ∨ 2 ^ 53 * (den * 2 ^ E) < num * 2 ^ 1075) :=
  near_firstK 1075 hn hd (by omega) (by omega)

/-- rounded to steps of 2^E: what is known of n -/
structure Step (Y T n : Nat) : Prop where
  lo : n = 0 ∨ (2 * n - 1) * T < Y ∨ ((2 * n - 1) * T = Y ∧ n % 2 = 0)
  hi : Y < (2 * n + 1) * T ∨ (Y = (2 * n + 1) * T ∧ n % 2 = 0)
theorem Step.up {Y T n : Nat} (h : Step Y T n) : Y ≤ (2 * n + 1) * T := by rcases h.hi with h | h; omega; omega
theorem Step.dn {Y T n : Nat} (h : Step Y T n) : (2 * n - 1) * T ≤ Y := by
  rcases h.lo with h | h | h
  · subst h; simp
  · omega
  · omega
theorem Step.top {Y T n K : Nat} (h : Step Y T n) (hT : 0 < T) (ha : Y < 2 * K * T) : n ≤ K := by
  apply Classical.byContradiction
  intro hc
  have h1 : 2 * K * T ≤ (2 * n - 1) * T := Nat.mul_le_mul_right _ (by omega)
  have := h.dn
  omega
theorem Step.bot {Y T n K : Nat} (h : Step Y T n) (hT : 0 < T) (ha : 2 * K * T < Y) : K ≤ n := by
  apply Classical.byContradiction
  intro hc
  have h1 : (2 * n + 1) * T ≤ 2 * K * T := Nat.mul_le_mul_right _ (by omega)
  have := h.up
  omega

variable {Y D E n m : Nat}
theorem near_hiE (hD : 0 < D) (hE : 2046 ≤ E) (hb : 2 * 4503599627370496 * (D * 2 ^ E) < Y) : Rnd Y D 9218868437227405312 := by
  refine ⟨Nat.le_refl _, .inr (.inl ?_), .inl rfl⟩
  obtain ⟨E0, hE0⟩ : ∃ E0 : Nat, E0 = 2046 := ⟨_, rfl⟩
  have hv : fval 9218868437227405312 = 4503599627370496 * 2 ^ E0 := by
    have := fval_of 4503599627370496 E0 (by omega) (.inr (by omega))
    rw [show E0 * 4503599627370496 + 4503599627370496 = 9218868437227405312 by omega] at this
    exact this
  have hm : fmid (9218868437227405312 - 1) < 2 * fval 9218868437227405312 := by
    have h1 : fmid (9218868437227405312 - 1) = fval (9218868437227405312 - 1) + fval (9218868437227405312 - 1 + 1) := rfl
    have h2 : fval (9218868437227405312 - 1) < fval 9218868437227405312 := fval_lt (by omega)
    rw [h1, show 9218868437227405312 - 1 + 1 = 9218868437227405312 by omega]
    omega
  have h3 : D * fmid (9218868437227405312 - 1) < D * (2 * fval 9218868437227405312) := Nat.mul_lt_mul_of_pos_left hm hD
  have h4 : D * (2 * fval 9218868437227405312) ≤ 2 * 4503599627370496 * (D * 2 ^ E) := by
    rw [hv, Nat.mul_left_comm D, Nat.mul_left_comm D, ← Nat.mul_assoc]
    exact Nat.mul_le_mul_left _ (Nat.mul_le_mul_left _ (Nat.pow_le_pow_right (by decide) (by omega)))
  omega

/-- the first rounding is good -/
theorem near_one (hD : 0 < D) (hs : Step Y (D * 2 ^ E) n) (hn : n < 9007199254740992) (hb : E = 0 ∨ 2 * 4503599627370496 * (D * 2 ^ E) < Y) (hE : E ≤ 2048) :
    (E = 0 ∨ 4503599627370496 ≤ n) ∧ Rnd Y D (if 9218868437227405312 ≤ E * 4503599627370496 + n then 9218868437227405312 else E * 4503599627370496 + n) := by
  have hT : 0 < D * 2 ^ E := Nat.mul_pos hD (Nat.two_pow_pos _)
  have h1 : E = 0 ∨ 4503599627370496 ≤ n := hb.imp id (fun h => hs.bot hT h)
  refine ⟨h1, near_law hD hn h1 hE hs.lo hs.hi (hb.imp id (fun h => ?_))⟩
  generalize D * 2 ^ E = T at *
  omega
/-- the second rounding -/
theorem near_two (hD : 0 < D) (hs : Step Y (D * 2 ^ E) n) (hn : 9007199254740992 ≤ n) (ha : Y < 36028797018963968 * (D * 2 ^ E)) (hs2 : Step Y (D * 2 ^ (E + 1)) m) (hE : E ≤ 2046) :
    4503599627370496 ≤ m ∧ m ≤ 9007199254740992 ∧ (m < 9007199254740992 → Rnd Y D (if 9218868437227405312 ≤ (E + 1) * 4503599627370496 + m then 9218868437227405312 else (E + 1) * 4503599627370496 + m)) ∧
      (m = 9007199254740992 → Rnd Y D (if 9218868437227405312 ≤ (E + 2) * 4503599627370496 + 4503599627370496 then 9218868437227405312 else (E + 2) * 4503599627370496 + 4503599627370496)) := by
  have hT : 0 < D * 2 ^ E := Nat.mul_pos hD (Nat.two_pow_pos _)
  have e1 : D * 2 ^ (E + 1) = 2 * (D * 2 ^ E) := by rw [Nat.pow_succ, ← Nat.mul_assoc, Nat.mul_comm]
  have e2 : D * 2 ^ (E + 2) = 4 * (D * 2 ^ E) := by rw [Nat.pow_succ, Nat.pow_succ, Nat.mul_assoc (2 ^ E) 2 2, ← Nat.mul_assoc, Nat.mul_comm]
  have hd := hs.dn
  have hq : 18014398509481983 * (D * 2 ^ E) ≤ Y := Nat.le_trans (Nat.mul_le_mul_right _ (by omega)) hd
  have hT2 : 0 < D * 2 ^ (E + 1) := Nat.mul_pos hD (Nat.two_pow_pos _)
  have hm1 : 4503599627370496 ≤ m := by
    apply Classical.byContradiction
    intro hc
    have h1 : (2 * m + 1) * (D * 2 ^ (E + 1)) ≤ 9007199254740991 * (D * 2 ^ (E + 1)) := Nat.mul_le_mul_right _ (by omega)
    have h2 := hs2.up
    rw [e1] at h1 h2
    generalize D * 2 ^ E = T at *
    omega
  have hm2 : m ≤ 9007199254740992 := by
    refine hs2.top hT2 ?_
    rw [e1]
    generalize D * 2 ^ E = T at *
    omega
  refine ⟨hm1, hm2, fun h => ?_, fun h => ?_⟩
  · refine near_law hD h (.inr hm1) (by omega) hs2.lo hs2.hi (.inr ?_)
    rw [e1]
    generalize D * 2 ^ E = T at *
    omega
  · refine near_law hD (by omega) (.inr (Nat.le_refl _)) (by omega) (.inr (.inl ?_)) (.inl ?_) (.inr ?_)
    · have h2 := hs2.dn
      rw [h, e1] at h2
      rw [e2]
      generalize D * 2 ^ E = T at *
      omega
    · rw [e2]
      generalize D * 2 ^ E = T at *
      omega
    · have h2 := hs2.dn
      rw [h, e1] at h2
      rw [e2]
      generalize D * 2 ^ E = T at *
      omega
end Go.Proofs.YtmieegcnfnoiiaaDoor
