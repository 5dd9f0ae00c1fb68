/-
  Plain law: the digits of a number to base 16. No conditions.
-/
import Derived.Lib.Bytealg
import Derived.Lib.Strings
namespace Go.Proofs.YtopfkelhgffomaaDoor
open Go

/-- a digit's byte -/
def digB (d : Nat) : UInt8 := if d < 10 then UInt8.ofNat (48 + d) else UInt8.ofNat (87 + d)
/-- the digits of u in base b, the first ahead -/
def digF : Nat → Nat → Nat → List UInt8
  | 0, _, _ => []
  | f + 1, b, u => if u < b then [digB u] else digF f b (u / b) ++ [digB (u % b)]

def ints (l : List UInt8) : List Int := l.map fun b => (b.toNat : Int)
theorem ints_append (a b : List UInt8) : ints (a ++ b) = ints a ++ ints b := by unfold ints; rw [List.map_append]
theorem digB_val (d : Nat) (h : d < 16) : (digB d).toNat < 256 := UInt8.toNat_lt _
theorem digF_pos (f b u : Nat) (h : u < f) : 1 ≤ (digF f b u).length := by
  cases f with
  | zero => omega
  | succ f =>
    unfold digF
    split
    · simp
    · simp
/-- what a byte is worth as a digit to base 16 -/
def hexOf (c : UInt8) : Option Nat := if 48 ≤ c.toNat ∧ c.toNat ≤ 57 then some (c.toNat - 48) else if 97 ≤ c.toNat ∧ c.toNat ≤ 102 then some (c.toNat - 87) else if 65 ≤ c.toNat ∧ c.toNat ≤ 70 then some (c.toNat - 55) else none
def hexVal : List UInt8 → Nat → Option Nat
  | [], n => some n
  | c :: t, n => match hexOf c with
    | none => none
    | some d => hexVal t (n * 16 + d)
theorem hexOf_lt {c : UInt8} {d : Nat} (h : hexOf c = some d) : d < 16 := by
  unfold hexOf at h
  split at h
  · have := Option.some.inj h; omega
  split at h
  · have := Option.some.inj h; omega
  split at h
  · have := Option.some.inj h; omega
  · cases h
theorem hexVal_lt : ∀ (l : List UInt8) (n v : Nat), hexVal l n = some v → v < (n + 1) * 16 ^ l.length
  | [], n, v, h => by
    have := Option.some.inj h
    simp; omega
  | c :: t, n, v, h => by
    unfold hexVal at h
    split at h
    · cases h
    · rename_i d hd
      have h1 := hexVal_lt t _ v h
      have h2 := hexOf_lt hd
      rw [List.length_cons, Nat.pow_succ, Nat.mul_comm (16 ^ t.length) 16, ← Nat.mul_assoc]
      exact Nat.lt_of_lt_of_le h1 (Nat.mul_le_mul_right _ (by omega))
/-- the digits of a small number -/
def hexText (n : Nat) : List UInt8 := digF (n + 1) 16 n
theorem hexText_facts (n : Nat) (h : n < 128) : hexVal (hexText n) 0 = some n ∧ 1 ≤ (hexText n).length ∧ (hexText n).length ≤ 2 ∧ (∀ c ∈ hexText n, c.toNat < 128 ∧ c ≠ 125 ∧ c ≠ 10) := by
  have key : ∀ e : Fin 128, hexVal (hexText e.val) 0 = some e.val ∧ 1 ≤ (hexText e.val).length ∧ (hexText e.val).length ≤ 2 ∧ (∀ c ∈ hexText e.val, c.toNat < 128 ∧ c ≠ 125 ∧ c ≠ 10) := by decide +kernel
  exact key ⟨n, h⟩
theorem indexByte_skip (c : UInt8) : ∀ (a y : List UInt8), (∀ x ∈ a, x ≠ c) → Lib.indexByte (a ++ c :: y) c = (a.length : Int)
  | [], y, _ => by simp [Lib.indexByte]
  | b :: a, y, h => by
    have hb : (b == c) = false := by simpa using h b (by simp)
    have ih := indexByte_skip c a y (fun x hx => h x (by simp [hx]))
    rw [List.cons_append, Lib.indexByte, hb, ih]
    have : (((a.length : Nat) : Int) == -1) = false := by rw [beq_eq_false_iff_ne]; omega
    rw [this]
    simp
theorem indexByte_bound (c : UInt8) : ∀ (l : List UInt8), -1 ≤ Lib.indexByte l c ∧ Lib.indexByte l c < l.length
  | [] => by simp [Lib.indexByte]
  | b :: l => by
    have ih := indexByte_bound c l
    unfold Lib.indexByte
    rw [List.length_cons]
    split
    · omega
    · split <;> omega
/-- the first one stays the first one -/
theorem indexByte_take (c : UInt8) : ∀ (l : List UInt8) (k m : Nat), Lib.indexByte l c = (k : Int) → k < m → Lib.indexByte (l.take m) c = (k : Int)
  | [], k, m, h, _ => by simp [Lib.indexByte] at h
  | b :: l, k, 0, h, hm => by omega
  | b :: l, k, m + 1, h, hm => by
    unfold Lib.indexByte at h
    rw [List.take_succ_cons, Lib.indexByte]
    by_cases hb : (b == c) = true
    · rw [if_pos hb] at h ⊢; exact h
    · rw [if_neg hb] at h ⊢
      have hbd := indexByte_bound c l
      by_cases h1 : (Lib.indexByte l c == -1) = true
      · rw [if_pos h1] at h; omega
      · rw [if_neg h1] at h
        have h2 : Lib.indexByte l c ≠ -1 := by simpa using h1
        have ih := indexByte_take c l (k - 1) m (by omega) (by omega)
        have h3 : (((k - 1 : Nat) : Int) == -1) = false := by rw [beq_eq_false_iff_ne]; omega
        rw [ih, h3]
        simp only [Bool.false_eq_true, if_false]
        omega
end Go.Proofs.YtopfkelhgffomaaDoor
