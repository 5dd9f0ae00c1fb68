/-
  Plain law: a number is read as it was told, to bases 2, 8, 10, 16. No conditions.
-/
import Derived.Test.YtpoagjiknmahiaaDoorNumDig
import Derived.Test.YtpoagjiknmahiaaDoorNumUnderLaw
namespace Go.Proofs.YtpoagjiknmahiaaDoor
open Go.RowKit Gx

def frontOf (b : Nat) : List UInt8 := if b = 16 then [48, 120] else if b = 8 then [48, 111] else if b = 2 then [48, 98] else []
def toldOf (neg : Bool) (b u : Nat) : List UInt8 := (if neg then [45] else []) ++ (frontOf b ++ digF (u + 1) b u)

theorem digB_ne (d : Nat) (h : d < 16) : digB d ≠ 45 ∧ (d ≠ 0 → digB d ≠ 48) := by
  have key : ∀ e : Fin 16, digB e.val ≠ 45 ∧ (e.val ≠ 0 → digB e.val ≠ 48) := by decide +kernel
  exact key ⟨d, h⟩

theorem digF_zero (b : Nat) (hb : 2 ≤ b) : digF (0 + 1) b 0 = [48] := by
  unfold digF
  rw [if_pos (by omega)]
  rfl

/-- the base is told -/
theorem base_told (b u : Nat) (hb : b = 2 ∨ b = 8 ∨ b = 10 ∨ b = 16) : baseOf (frontOf b ++ digF (u + 1) b u) = (b, digF (u + 1) b u) := by
  rcases hb with rfl | rfl | rfl | rfl
  · have e : frontOf 2 = [48, 98] := rfl
    rw [e]
    unfold baseOf Lib.trimPrefix
    simp [two_prefix]
  · have e : frontOf 8 = [48, 111] := rfl
    rw [e]
    unfold baseOf Lib.trimPrefix
    simp [two_prefix]
  · have e : frontOf 10 = [] := rfl
    rw [e, List.nil_append]
    have hno : ∀ c, Lib.hasPrefix (digF (u + 1) 10 u) [48, c] = false := by
      intro c
      rw [two_prefix]
      refine decide_eq_false ?_
      rintro ⟨h1, h2, -⟩
      by_cases hu : u = 0
      · subst hu
        rw [digF_zero 10 (by omega)] at h1
        simp at h1
      · obtain ⟨d, t, h3, h4, h5⟩ := digF_first 10 (by omega) (by omega) (u + 1) u (by omega) hu
        rw [h5] at h2
        exact (digB_ne d (by omega)).2 h3 h2
    unfold baseOf
    rw [hno, hno, hno]
    rfl
  · have e : frontOf 16 = [48, 120] := rfl
    rw [e]
    unfold baseOf Lib.trimPrefix
    simp [two_prefix]

theorem told_first (b u : Nat) (hb : b = 2 ∨ b = 8 ∨ b = 10 ∨ b = 16) : ∃ c t, c ≠ 45 ∧ frontOf b ++ digF (u + 1) b u = c :: t := by
  have h10 : ∃ c t, c ≠ 45 ∧ digF (u + 1) b u = c :: t := by
    by_cases hu : u = 0
    · subst hu
      rw [digF_zero b (by omega)]
      exact ⟨48, [], by decide, rfl⟩
    · obtain ⟨d, t, h3, h4, h5⟩ := digF_first b (by omega) (by omega) (u + 1) u (by omega) hu
      exact ⟨_, t, (digB_ne d (by omega)).1, h5⟩
  rcases hb with rfl | rfl | rfl | rfl
  · exact ⟨48, _, by decide, rfl⟩
  · exact ⟨48, _, by decide, rfl⟩
  · obtain ⟨c, t, h1, h2⟩ := h10
    exact ⟨c, t, h1, by rw [show frontOf 10 = [] from rfl, List.nil_append, h2]⟩
  · exact ⟨48, _, by decide, rfl⟩

theorem told_len (neg : Bool) (b u : Nat) (hb : b = 2 ∨ b = 8 ∨ b = 10 ∨ b = 16) (hu : u ≤ 9223372036854775808) : (toldOf neg b u).length ≤ 67 := by
  have hd : (digF (u + 1) b u).length ≤ 64 := by
    refine digF_len b 0 (by omega) (u + 1) u 64 (by omega) ?_ (by omega)
    have : 2 ^ 64 ≤ b ^ 64 := Nat.pow_le_pow_left (by omega) 64
    have h2 : (2 : Nat) ^ 64 = 18446744073709551616 := by decide
    omega
  have hf : (frontOf b).length ≤ 2 := by rcases hb with rfl | rfl | rfl | rfl <;> decide
  unfold toldOf
  rw [List.length_append, List.length_append]
  have : (if neg then ([45] : List UInt8) else []).length ≤ 1 := by cases neg <;> decide
  omega

theorem read_told (neg : Bool) (b u : Nat) (hb : b = 2 ∨ b = 8 ∨ b = 10 ∨ b = 16) (hu : u ≤ limitOf neg) : readOf (toldOf neg b u) = (if neg then -(u : Int) else u, 0) := by
  have hlim : u ≤ 9223372036854775808 := by cases neg <;> (unfold limitOf at hu; simp at hu; omega)
  have hlen := told_len neg b u hb hlim
  obtain ⟨c, t, hc, hct⟩ := told_first b u hb
  have hp : Lib.hasPrefix (toldOf neg b u) [45] = neg := by
    unfold toldOf
    rw [hct]
    cases neg with
    | true => simp [Lib.hasPrefix, List.isPrefixOf]
    | false =>
      simp [Lib.hasPrefix, List.isPrefixOf]
      intro e; exact hc e.symm
  have ht : Lib.trimPrefix (toldOf neg b u) [45] = frontOf b ++ digF (u + 1) b u := by
    unfold Lib.trimPrefix
    rw [hp]
    unfold toldOf
    cases neg <;> rfl
  unfold readOf
  rw [if_neg (by omega), hp, ht, base_told b u hb]
  unfold readBy
  simp only
  have hz : ¬ (b = 10 ∧ 1 < (digF (u + 1) b u).length ∧ (digF (u + 1) b u).getD 0 0 = 48) := by
    rintro ⟨rfl, h1, h2⟩
    by_cases hu0 : u = 0
    · subst hu0
      rw [digF_zero 10 (by omega)] at h1
      simp at h1
    · obtain ⟨d, t2, h3, h4, h5⟩ := digF_first 10 (by omega) (by omega) (u + 1) u (by omega) hu0
      rw [h5] at h2
      exact (digB_ne d (by omega)).2 h3 h2
  rw [if_neg hz]
  obtain ⟨y, hy, hl⟩ := loop_digits b (by omega) (by omega) (u + 1) u (by omega) (by omega)
  rw [hl]
  unfold readEnd
  simp only
  rw [if_neg hy, if_neg (by intro h; rcases h with h | h <;> omega)]

theorem itoa_told (n : Int) : Lib.itoa n = toldOf (decide (n < 0)) 10 n.natAbs := by
  unfold Lib.itoa toldOf
  by_cases h : n < 0
  · rw [if_pos h, decide_eq_true h, dec_digF (n.natAbs + 1) n.natAbs (by omega)]; rfl
  · rw [if_neg h, decide_eq_false h, dec_digF (n.natAbs + 1) n.toNat (by omega), show n.toNat = n.natAbs by omega]; rfl

theorem read_itoa (n : Int) (h0 : -9223372036854775808 ≤ n) (h1 : n ≤ 9223372036854775807) : readOf (Lib.itoa n) = (n, 0) := by
  rw [itoa_told]
  by_cases h : n < 0
  · rw [decide_eq_true h, read_told true 10 n.natAbs (by omega) (by show n.natAbs ≤ 9223372036854775808; omega)]
    show (-(n.natAbs : Int), (0 : Int)) = (n, 0)
    congr 1; omega
  · rw [decide_eq_false h, read_told false 10 n.natAbs (by omega) (by show n.natAbs ≤ 9223372036854775807; omega)]
    show ((n.natAbs : Int), (0 : Int)) = (n, 0)
    congr 1; omega
theorem itoa_inj {n m : Int} (h0 : -9223372036854775808 ≤ n) (h1 : n ≤ 9223372036854775807) (g0 : -9223372036854775808 ≤ m) (g1 : m ≤ 9223372036854775807) (h : Lib.itoa n = Lib.itoa m) : n = m := by
  have e1 := read_itoa n h0 h1
  have e2 := read_itoa m g0 g1
  rw [h, e2] at e1
  exact (Prod.mk.inj e1).1.symm
end Go.Proofs.YtpoagjiknmahiaaDoor
