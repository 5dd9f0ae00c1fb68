/-
  Plain law: the digits without the noughts at the end, and how many these were, are the number. No conditions.
-/
import Derived.Test.YtmieegcnfnoiiaaDoorShortLen
namespace Go.Proofs.YtmieegcnfnoiiaaDoor
set_option maxRecDepth 100000

theorem trimRight_other (l : List UInt8) (b : UInt8) (h : b ≠ 48) : Lib.trimRightB (l ++ [b]) 48 = l ++ [b] := by
  unfold Lib.trimRightB
  rw [List.reverse_append]
  simp [h]
theorem byteOf_ne (d : Nat) (h : d < 10) (h0 : d ≠ 0) : byteOf d ≠ 48 := by
  intro hc
  have h1 := byteOf_nat d h
  rw [hc] at h1
  have h2 : (48 : UInt8).toNat = 48 := rfl
  omega
/-- what is left, and so many noughts -/
theorem short_parts (c : Nat) (h : c ≠ 0) : ∃ (m z : Nat), c = m * 10 ^ z ∧ m % 10 ≠ 0 ∧ shortOf c = decText m ∧ (decText c).length = (decText m).length + z := by
  induction c using Nat.strongRecOn with
  | ind c ih =>
    by_cases h0 : c % 10 = 0
    · have hq : c / 10 ≠ 0 := by omega
      obtain ⟨m, z, h1, h2, h3, h4⟩ := ih (c / 10) (by omega) hq
      have hc : c = c / 10 * 10 := by omega
      refine ⟨m, z + 1, ?_, h2, ?_, ?_⟩
      · rw [Nat.pow_succ, ← Nat.mul_assoc, ← h1]; exact hc
      · rw [hc, shortOf_ten _ hq]; exact h3
      · rw [text_big c (by omega), List.length_append, h4]; simp; omega
    · refine ⟨c, 0, by simp, h0, ?_, by simp⟩
      have hb : byteOf (c % 10) ≠ 48 := byteOf_ne _ (by omega) h0
      unfold shortOf
      by_cases hs : c < 10
      · rw [text_small c hs]
        have e : c % 10 = c := Nat.mod_eq_of_lt hs
        rw [e] at hb
        exact trimRight_other [] _ hb
      · rw [text_big c (by omega)]
        exact trimRight_other _ _ hb
theorem shortIs_pos {B c : Nat} {kk : Int} (h : ShortIs B c kk) (hB : B ≠ 0) : c ≠ 0 := by
  obtain ⟨N, D, top, n0, hF, hb, hnb, h1, h17, -, -, rfl, hc, hit, -⟩ := h
  intro h0
  subst h0
  have h2 : Hits 0 (top - (n0 : Int)) 0 := by
    unfold Hits
    rw [Nat.zero_mul]
    exact rnd_zero75 _ (tenDn_pos _)
  exact hB (hit.uniq h2)
/-- the short digits tell the fraction -/
theorem hits_parts {c m z B : Nat} {kk : Int} (h : Hits c kk B) (hc : c = m * 10 ^ z) {b : Nat} (g : Hits m (kk + (z : Int)) b) : b = B := by
  refine Rnd.uniq g h (tenDn_pos _) (tenDn_pos _) (y75_mul _ _ _ _ ?_)
  have ht := ten_shift (kk + (z : Int)) z
  rw [show kk + (z : Int) - (z : Int) = kk by omega] at ht
  rw [hc, Nat.mul_assoc, ht]
  simp only [Nat.mul_assoc]
end Go.Proofs.YtmieegcnfnoiiaaDoor
