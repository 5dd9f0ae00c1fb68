/-
  Plain law: the digits of a number are read as it. No conditions.
-/
import Derived.Test.YtpoagjiknmahiaaDoorNumSign
namespace Go.Proofs.YtpoagjiknmahiaaDoor
open Go.RowKit Gx

/-- a digit's byte -/
def digB (d : Nat) : UInt8 := if d < 10 then UInt8.ofNat (48 + d) else UInt8.ofNat (87 + d)
/-- the digits of u in base b, the first ahead -/
def digF : Nat → Nat → Nat → List UInt8
  | 0, _, _ => []
  | f + 1, b, u => if u < b then [digB u] else digF f b (u / b) ++ [digB (u % b)]

theorem digB_val (d : Nat) (h : d < 16) : digitOf ((digB d).toNat : Int) = d ∧ ((digB d).toNat : Int) ≠ 95 ∧ (digB d).toNat < 256 := by
  have key : ∀ e : Fin 16, digitOf ((digB e.val).toNat : Int) = e.val ∧ ((digB e.val).toNat : Int) ≠ 95 ∧ (digB e.val).toNat < 256 := by decide +kernel
  exact key ⟨d, h⟩

theorem loop_append (b : Nat) : ∀ (A C : List Int) (y : Int) (n : Nat) (o : Int),
    numLoop b (A ++ C) y n o = match numLoop b A y n o with
      | none => none
      | some (y2, n2, o2) => numLoop b C y2 n2 o2
  | [], C, y, n, o => rfl
  | c :: A, C, y, n, o => by
    rw [List.cons_append, numLoop, numLoop]
    split
    · split
      · rfl
      · exact loop_append b A C _ _ _
    · split
      · rfl
      · exact loop_append b A C _ _ _

theorem step_fits (b n d : Nat) (hb : b ≤ 16) (h : n * b + d < 18446744073709551616) (hd : d < 16) : numStep b n 0 (d : Int) = (n * b + d, 0) := by
  have h1 : n * b / 18446744073709551616 = 0 := Nat.div_eq_of_lt (by omega)
  have h2 : n * b % 18446744073709551616 = n * b := Nat.mod_eq_of_lt (by omega)
  unfold numStep
  rw [h1, h2]
  have h3 : (((n * b : Nat) : Int) + (d : Int) + 0) / 18446744073709551616 = 0 := by
    generalize n * b = m at *
    omega
  have h4 : ((((n * b : Nat) : Int) + (d : Int) + 0) % 18446744073709551616).toNat = n * b + d := by
    generalize n * b = m at *
    omega
  rw [h3, h4]
  have h5 : bits BinOp.or IntKind.u64 0 (bits BinOp.or IntKind.u64 ((0 : Nat) : Int) 0) = 0 := by decide +kernel
  rw [h5]

/-- what was told is read: in whatever base -/
theorem loop_digits (b : Nat) (hb : 2 ≤ b) (hb16 : b ≤ 16) : ∀ (f u : Nat), u < f → u < 18446744073709551616 →
    ∃ y, y ≠ 95 ∧ numLoop b (ints (digF f b u)) 95 0 0 = some (y, u, 0)
  | 0, u, h, _ => by omega
  | f + 1, u, h, h64 => by
    unfold digF
    by_cases hu : u < b
    · rw [if_pos hu]
      obtain ⟨e1, e2, -⟩ := digB_val u (by omega)
      refine ⟨((digB u).toNat : Int), e2, ?_⟩
      show numLoop b [((digB u).toNat : Int)] 95 0 0 = _
      rw [numLoop, if_neg e2, e1, if_neg (by omega), step_fits b 0 u hb16 (by omega) (by omega)]
      simp [numLoop]
    · rw [if_neg hu]
      have hdiv : u / b < u := Nat.div_lt_self (by omega) (by omega)
      obtain ⟨y, hy, ih⟩ := loop_digits b hb hb16 f (u / b) (by omega) (by omega)
      have hm : u % b < b := Nat.mod_lt _ (by omega)
      have hdm : u / b * b + u % b = u := by rw [Nat.mul_comm]; exact Nat.div_add_mod u b
      obtain ⟨e1, e2, -⟩ := digB_val (u % b) (by omega)
      refine ⟨((digB (u % b)).toNat : Int), e2, ?_⟩
      have e3 : ints (digF f b (u / b) ++ [digB (u % b)]) = ints (digF f b (u / b)) ++ [((digB (u % b)).toNat : Int)] := by
        unfold ints; rw [List.map_append]; rfl
      rw [e3, loop_append, ih]
      simp only
      rw [numLoop, if_neg e2, e1, if_neg (by omega), step_fits b (u / b) (u % b) hb16 (by rw [hdm]; exact h64) (by omega), hdm]
      rfl

theorem digF_pos (f b u : Nat) (h : u < f) : 1 ≤ (digF f b u).length := by
  cases f with
  | zero => omega
  | succ f =>
    unfold digF
    split
    · simp
    · rw [List.length_append]; simp

/-- the first digit is a nought just of nought -/
theorem digF_first (b : Nat) (hb : 2 ≤ b) (hb16 : b ≤ 16) : ∀ (f u : Nat), u < f → u ≠ 0 → ∃ d t, d ≠ 0 ∧ d < b ∧ digF f b u = digB d :: t
  | 0, u, h, _ => by omega
  | f + 1, u, h, h0 => by
    unfold digF
    by_cases hu : u < b
    · rw [if_pos hu]; exact ⟨u, [], h0, hu, rfl⟩
    · rw [if_neg hu]
      have hdiv : u / b < u := Nat.div_lt_self (by omega) (by omega)
      have hpos : 1 ≤ u / b := (Nat.le_div_iff_mul_le (by omega)).2 (by omega)
      obtain ⟨d, t, h1, h2, h3⟩ := digF_first b hb hb16 f (u / b) (by omega) (by omega)
      exact ⟨d, t ++ [digB (u % b)], h1, h2, by rw [h3]; rfl⟩

/-- it has no more digits than so many -/
theorem digF_len (b k : Nat) (hb : 2 ≤ b) : ∀ (f u m : Nat), u < f → u < b ^ m → 1 ≤ m → (digF f b u).length ≤ m
  | 0, u, m, h, _, _ => by omega
  | f + 1, u, m, h, hm, h1 => by
    unfold digF
    by_cases hu : u < b
    · rw [if_pos hu]; simpa using h1
    · rw [if_neg hu, List.length_append]
      have hdiv : u / b < u := Nat.div_lt_self (by omega) (by omega)
      obtain ⟨j, rfl⟩ : ∃ j, m = j + 1 := ⟨m - 1, by omega⟩
      have hj : 1 ≤ j := by
        rcases Nat.eq_zero_or_pos j with h0 | h0
        · subst h0; rw [Nat.zero_add, Nat.pow_one] at hm; omega
        · exact h0
      have := digF_len b k hb f (u / b) j (by omega) (by rw [Nat.pow_succ, Nat.mul_comm] at hm; exact Nat.div_lt_of_lt_mul hm) hj
      simpa using this

theorem dec_digF : ∀ (f u : Nat), u < f → Lib.decDigits u = digF f 10 u
  | 0, u, h => by omega
  | f + 1, u, h => by
    rw [Lib.decDigits]
    unfold digF
    by_cases hu : u < 10
    · rw [dif_pos hu, if_pos hu]
      unfold digB; rw [if_pos hu]
    · rw [dif_neg hu, if_neg hu, dec_digF f (u / 10) (by omega)]
      have : u % 10 < 10 := Nat.mod_lt _ (by decide)
      unfold digB; rw [if_pos this]
end Go.Proofs.YtpoagjiknmahiaaDoor
