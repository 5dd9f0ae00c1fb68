/-
  Plain law: how many digits are told; and the law of FloatShort. No conditions.
-/
import Derived.Test.YtmieegcnfnoiiaaDoorShort
namespace Go.Proofs.YtmieegcnfnoiiaaDoor
set_option maxRecDepth 100000

theorem dec_lt (n : Nat) : n < 10 ^ (decText n).length := by
  by_cases h : n = 0
  · subst h; decide
  · have h1 := dig_len_lt n
    have h2 : (decText n).length = (dig n).length := by
      unfold decText; rw [if_neg h, List.length_map, List.length_reverse]
    rw [h2]; exact h1
theorem trimRight_snoc (l : List UInt8) : Lib.trimRightB (l ++ [48]) 48 = Lib.trimRightB l 48 := by
  unfold Lib.trimRightB
  rw [List.reverse_append]
  simp
theorem shortOf_ten (c : Nat) (h : c ≠ 0) : shortOf (c * 10) = shortOf c := by
  unfold shortOf
  rw [text_big (c * 10) (by omega), show c * 10 / 10 = c by omega, show c * 10 % 10 = 0 by omega]
  exact trimRight_snoc _
theorem short_pow (n : Nat) : shortOf (10 ^ n) = shortOf 1 := by
  induction n with
  | zero => rfl
  | succ n ih => rw [Nat.pow_succ, shortOf_ten _ (Nat.pos_iff_ne_zero.1 (Nat.pow_pos (by decide))), ih]
theorem short_le (c n : Nat) (h : c ≤ 10 ^ n) (hn : 1 ≤ n) : (shortOf c).length ≤ n := by
  rcases Nat.lt_or_ge c (10 ^ n) with h1 | h1
  · exact Nat.le_trans (trimRight_len _ _) (decText_len c n h1 hn)
  · have : c = 10 ^ n := by omega
    rw [this, short_pow]
    have h2 := trimRight_len (decText 1) 48
    rw [text_small 1 (by decide)] at h2
    unfold shortOf
    rw [text_small 1 (by decide)]
    exact Nat.le_trans h2 hn
theorem high_le_low (N D : Nat) (k : Int) : highOf N D k ≤ lowOf N D k + 1 := by
  unfold highOf; split <;> omega
theorem shortIs_len {B c : Nat} {kk : Int} (h : ShortIs B c kk) : c ≤ 100000000000000000 ∧ (shortOf c).length ≤ 17 := by
  obtain ⟨N, D, top, n0, hF, hb, hnb, h1, h17, -, -, rfl, hc, -, -⟩ := h
  have a1 := low_lt (n := n0) hF.2 hb
  have a2 := high_le_low N D (top - (n0 : Int))
  have a3 : c ≤ 10 ^ n0 := by rcases hc with rfl | rfl <;> omega
  have a4 := Nat.pow_le_pow_right (show 10 > 0 by decide) h17
  have a5 : (10 : Nat) ^ 17 = 100000000000000000 := by decide
  have a6 := short_le c n0 a3 h1
  omega
theorem shortest {B c n : Nat} {kk k : Int} (h : ShortIs B c kk) (hB : B < 9218868437227405312) (hl : (decText n).length < (shortOf c).length) (hn : Hits n k B) : False := by
  obtain ⟨N, D, top, n0, hF, hb, hnb, h1, h17, -, -, rfl, hc, -, hprev⟩ := h
  have a1 := low_lt (n := n0) hF.2 hb
  have a2 := high_le_low N D (top - (n0 : Int))
  have a3 : c ≤ 10 ^ n0 := by rcases hc with rfl | rfl <;> omega
  have a6 := short_le c n0 a3 h1
  have a7 := dec_lt n
  have a8 := text_pos n
  obtain ⟨j, hj⟩ : ∃ j, (decText n).length = j + 1 := ⟨(decText n).length - 1, by omega⟩
  rw [hj] at a7 hl
  obtain ⟨p1, p2⟩ := hprev (j + 1) (by omega) (by omega)
  exact (shorter hF hB hnb a7 hn).elim p1 p2
end Go.Proofs.YtmieegcnfnoiiaaDoor
