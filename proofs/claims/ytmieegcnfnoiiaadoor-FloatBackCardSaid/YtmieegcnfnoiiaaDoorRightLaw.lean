/-
  Plain facts on words that are moved to the right by less than a word. No conditions.
-/
import Derived.Test.YtmieegcnfnoiiaaDoorBigMul
import Derived.Test.YtmieegcnfnoiiaaDoorByWord
import Derived.Test.YtmieegcnfnoiiaaDoorShiftLaw
namespace Go.Proofs.YtmieegcnfnoiiaaDoor
open Go.RowKit Gx

theorem bval_split (xs : List Int) (j : Nat) (hj : j ≤ xs.length) : bval xs = bval (xs.take j) + 4294967296 ^ j * bval (xs.drop j) := by
  conv => lhs; rw [← List.take_append_drop j xs]
  rw [bval_append, List.length_take, Nat.min_eq_left hj]

theorem bval_shr (xs : List Int) (hw : Words xs) (j : Nat) (hj : j ≤ xs.length) : bval xs / 4294967296 ^ j = bval (xs.drop j) := by
  have hlt := bval_lt (xs.take j) (fun x hx => hw x (List.mem_of_mem_take hx))
  rw [List.length_take, Nat.min_eq_left hj] at hlt
  have hp : 0 < 4294967296 ^ j := Nat.pow_pos (by decide)
  rw [bval_split xs j hj, Nat.add_mul_div_left _ _ hp, Nat.div_eq_of_lt hlt, Nat.zero_add]

/-- words that are the digits of a number -/
theorem bval_digits : ∀ (out : List Int) (v : Nat), v < 4294967296 ^ out.length → (∀ j, j < out.length → (out.getD j 0).toNat = v / 4294967296 ^ j % 4294967296) → bval out = v
  | [], v, h, _ => by simp at h; simp [bval, h]
  | x :: l, v, h, hd => by
    have h0 := hd 0 (by simp)
    simp only [List.getD_cons_zero, Nat.pow_zero, Nat.div_one] at h0
    have ih := bval_digits l (v / 4294967296) (by rw [List.length_cons, Nat.pow_succ] at h; exact Nat.div_lt_of_lt_mul (by rw [Nat.mul_comm]; exact h)) (fun j hj => by
      have := hd (j + 1) (by simpa using hj)
      simp only [List.getD_cons_succ] at this
      rw [this, Nat.pow_succ, Nat.div_div_eq_div_mul, Nat.mul_comm])
    rw [bval, ih, h0]
    omega

/-- a word moved to the right, and what comes from the one above -/
theorem right_word (n x t : Nat) (hn : n ≤ 31) (hx : x < 4294967296) :
    (x + 4294967296 * t) / 2 ^ n % 4294967296 = x / 2 ^ n + t * 2 ^ (32 - n) % 4294967296 ∧ x / 2 ^ n + t * 2 ^ (32 - n) % 4294967296 < 4294967296 := by
  have h2 := two32 n (by omega)
  have hP : 0 < 2 ^ n := Nat.two_pow_pos n
  have hR : 0 < 2 ^ (32 - n) := Nat.two_pow_pos _
  have hq : x / 2 ^ n < 2 ^ (32 - n) := by rw [Nat.div_lt_iff_lt_mul hP, Nat.mul_comm, h2]; exact hx
  have e1 : (x + 4294967296 * t) / 2 ^ n = x / 2 ^ n + t * 2 ^ (32 - n) := by
    rw [← h2, Nat.mul_assoc, Nat.add_mul_div_left _ _ hP, Nat.mul_comm t]
  have e2 : t * 2 ^ (32 - n) % 4294967296 = t % 2 ^ n * 2 ^ (32 - n) := by
    rw [← h2, Nat.mul_mod_mul_right]
  have hm : t % 2 ^ n + 1 ≤ 2 ^ n := Nat.mod_lt _ hP
  have h3 : x / 2 ^ n + t * 2 ^ (32 - n) % 4294967296 < 4294967296 := by
    rw [e2]
    have h4 := Nat.mul_le_mul_right (2 ^ (32 - n)) hm
    rw [Nat.add_mul, Nat.one_mul, h2] at h4
    omega
  refine ⟨?_, h3⟩
  rw [e1]
  have hxl : x / 2 ^ n < 4294967296 := Nat.lt_of_le_of_lt (Nat.div_le_self _ _) hx
  conv => rhs; rw [← Nat.mod_eq_of_lt h3]
  rw [Nat.add_mod_mod]

theorem mod_of_next (n y r : Nat) (hn : n ≤ 31) : (y + 4294967296 * r) * 2 ^ (32 - n) % 4294967296 = y * 2 ^ (32 - n) % 4294967296 := by
  rw [Nat.add_mul, Nat.mul_assoc, Nat.add_mul_mod_self_left]

theorem right_wrap (n y : Nat) : (y : Int) * 2 ^ (32 - n) % 18446744073709551616 % 4294967296 = ((y * 2 ^ (32 - n) % 4294967296 : Nat) : Int) := by
  have e : (y : Int) * 2 ^ (32 - n) = ((y * 2 ^ (32 - n) : Nat) : Int) := by rw [Int.natCast_mul, Int.natCast_pow]; rfl
  rw [e]
  generalize y * 2 ^ (32 - n) = t
  omega

/-- the or of the two is their sum -/
theorem right_or (n x y : Nat) (hn : n ≤ 31) (hx : x < 4294967296) :
    bits BinOp.or IntKind.u32 ((x / 2 ^ n : Nat) : Int) ((y * 2 ^ (32 - n) % 4294967296 : Nat) : Int) = ((x / 2 ^ n + y * 2 ^ (32 - n) % 4294967296 : Nat) : Int) := by
  have h2 := two32 n (by omega)
  have hP : 0 < 2 ^ n := Nat.two_pow_pos n
  have hq : x / 2 ^ n < 2 ^ (32 - n) := by rw [Nat.div_lt_iff_lt_mul hP, Nat.mul_comm, h2]; exact hx
  have e2 : y * 2 ^ (32 - n) % 4294967296 = y % 2 ^ n * 2 ^ (32 - n) := by
    rw [← h2, Nat.mul_mod_mul_right]
  have hxl : x / 2 ^ n < 4294967296 := Nat.lt_of_le_of_lt (Nat.div_le_self _ _) hx
  have hyl : y * 2 ^ (32 - n) % 4294967296 < 4294967296 := Nat.mod_lt _ (by decide)
  have hor := Nat.shiftLeft_add_eq_or_of_lt (b := x / 2 ^ n) (i := 32 - n) hq (y % 2 ^ n)
  rw [Nat.shiftLeft_eq, ← e2] at hor
  rw [Go.u32_or _ _ (Int.natCast_nonneg _) (by omega) (Int.natCast_nonneg _) (by omega)]
  rw [Int.toNat_natCast, Int.toNat_natCast, Nat.or_comm, ← hor, Nat.add_comm]
theorem right_digit (xs : List Int) (hw : Words xs) (n k x : Nat) (hn : n ≤ 31) (hk : k < xs.length) (ex : (x : Int) = xs.getD k 0) :
    bval xs / 2 ^ n / 4294967296 ^ k % 4294967296 = x / 2 ^ n + bval (xs.drop (k + 1)) * 2 ^ (32 - n) % 4294967296 ∧ x / 2 ^ n + bval (xs.drop (k + 1)) * 2 ^ (32 - n) % 4294967296 < 4294967296 := by
  obtain ⟨b0, b1⟩ := words_getD hw k
  have hx : x < 4294967296 := by omega
  obtain ⟨e1, e2⟩ := right_word n x (bval (xs.drop (k + 1))) hn hx
  refine ⟨?_, e2⟩
  rw [← e1, Nat.div_div_eq_div_mul, Nat.mul_comm (2 ^ n), ← Nat.div_div_eq_div_mul, bval_shr xs hw k (by omega), bval_drop xs k hk, ← ex, Int.toNat_natCast]

/-- the last one -/
theorem right_digit_last (xs : List Int) (hw : Words xs) (n k x : Nat) (hn : n ≤ 31) (hk : k + 1 = xs.length) (ex : (x : Int) = xs.getD k 0) :
    bval xs / 2 ^ n / 4294967296 ^ k % 4294967296 = x / 2 ^ n := by
  rw [(right_digit xs hw n k x hn (by omega) ex).1, List.drop_eq_nil_of_le (by omega)]
  simp [bval]
theorem right_digit_next (xs : List Int) (hw : Words xs) (n k x y : Nat) (hn : n ≤ 31) (hk : k + 1 < xs.length) (ex : (x : Int) = xs.getD k 0) (ey : (y : Int) = xs.getD (k + 1) 0) :
    bval xs / 2 ^ n / 4294967296 ^ k % 4294967296 = x / 2 ^ n + y * 2 ^ (32 - n) % 4294967296 ∧ x / 2 ^ n + y * 2 ^ (32 - n) % 4294967296 < 4294967296 := by
  obtain ⟨e1, e2⟩ := right_digit xs hw n k x hn (by omega) ex
  rw [bval_drop xs (k + 1) hk, ← ey, Int.toNat_natCast, mod_of_next n y _ hn] at e1 e2
  exact ⟨e1, e2⟩

theorem digits_set (out : List Int) (k m : Nat) (v : Int) (D : Nat → Nat) (hl : out.length = m) (hk : k < m) (h : ∀ j, j < k → (out.getD j 0).toNat = D j) (hv : v.toNat = D k) :
    ∀ j, j < k + 1 → ((out.set k v).getD j 0).toNat = D j := by
  intro j hj
  by_cases hjk : j = k
  · subst hjk
    simp [List.getD, List.getElem?_set, show j < out.length by omega, hv]
  · rw [getD_set_ne _ _ _ _ (fun e => hjk e.symm)]
    exact h j (by omega)

theorem right_end (xs out : List Int) (hw : Words xs) (n : Nat) (hl : out.length = xs.length) (h : ∀ j, j < xs.length → (out.getD j 0).toNat = bval xs / 2 ^ n / 4294967296 ^ j % 4294967296) : bval out = bval xs / 2 ^ n := by
  refine bval_digits out _ ?_ (fun j hj => h j (by omega))
  rw [hl]
  exact Nat.lt_of_le_of_lt (Nat.div_le_self _ _) (bval_lt xs hw)
end Go.Proofs.YtmieegcnfnoiiaaDoor
