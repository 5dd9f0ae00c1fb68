/-
  Plain facts on whole numbers as lists of words of 32 bits, the least first. No conditions.
-/
namespace Go.Proofs.YtmieegcnfnoiiaaDoor

/-- the number that the words tell -/
def bval : List Int → Nat
  | [] => 0
  | x :: l => x.toNat + 4294967296 * bval l
/-- words that are words -/
def Words (l : List Int) : Prop := ∀ x ∈ l, 0 ≤ x ∧ x < 4294967296
/-- the words of a number: none is a nought at the end -/
def canonF : Nat → Nat → List Int
  | 0, _ => []
  | f + 1, n => if n = 0 then [] else ((n % 4294967296 : Nat) : Int) :: canonF f (n / 4294967296)
def canon (n : Nat) : List Int := canonF n n

theorem canonF_fuel : ∀ (f g n : Nat), n ≤ f → n ≤ g → canonF f n = canonF g n
  | 0, 0, _, _, _ => rfl
  | 0, g + 1, n, h, _ => by have : n = 0 := by omega
                            subst this; simp [canonF]
  | f + 1, 0, n, _, h => by have : n = 0 := by omega
                            subst this; simp [canonF]
  | f + 1, g + 1, n, h1, h2 => by
    unfold canonF
    by_cases h : n = 0
    · simp [h]
    · rw [if_neg h, if_neg h, canonF_fuel f g (n / 4294967296) (by omega) (by omega)]
theorem canon_zero : canon 0 = [] := rfl
theorem canon_pos (n : Nat) (h : n ≠ 0) : canon n = ((n % 4294967296 : Nat) : Int) :: canon (n / 4294967296) := by
  unfold canon
  obtain ⟨m, rfl⟩ : ∃ m, n = m + 1 := ⟨n - 1, by omega⟩
  conv => lhs; unfold canonF
  rw [if_neg (by omega), canonF_fuel m ((m + 1) / 4294967296) _ (by omega) (Nat.le_refl _)]
theorem canon_words : ∀ (n : Nat), Words (canon n) := by
  intro n
  induction n using Nat.strongRecOn with
  | ind n ih =>
    by_cases h : n = 0
    · subst h; intro x hx; simp [canon_zero] at hx
    · rw [canon_pos n h]
      intro x hx
      rcases List.mem_cons.1 hx with rfl | hx
      · omega
      · exact ih _ (by omega) x hx
theorem bval_canon : ∀ (n : Nat), bval (canon n) = n := by
  intro n
  induction n using Nat.strongRecOn with
  | ind n ih =>
    by_cases h : n = 0
    · subst h; rfl
    · rw [canon_pos n h, bval, ih _ (by omega)]
      omega
theorem bval_append (a b : List Int) : bval (a ++ b) = bval a + 4294967296 ^ a.length * bval b := by
  induction a with
  | nil => simp [bval]
  | cons x a ih =>
    simp only [List.cons_append, bval, ih, List.length_cons, Nat.pow_succ]
    rw [Nat.mul_add, Nat.add_assoc, ← Nat.mul_assoc, Nat.mul_comm (4294967296 ^ a.length) 4294967296]
theorem bval_lt : ∀ (a : List Int), Words a → bval a < 4294967296 ^ a.length
  | [], _ => by simp [bval]
  | x :: a, h => by
    have h1 := h x (by simp)
    have h2 := bval_lt a (fun y hy => h y (by simp [hy]))
    simp only [bval, List.length_cons, Nat.pow_succ]
    omega
/-- words, of which the last is no nought, are those of their number -/
theorem canon_bval : ∀ (a : List Int), Words a → (∀ x, a.getLast? = some x → x ≠ 0) → canon (bval a) = a
  | [], _, _ => rfl
  | x :: a, h, hl => by
    have h1 := h x (by simp)
    have hw : Words a := fun y hy => h y (by simp [hy])
    have hl' : ∀ y, a.getLast? = some y → y ≠ 0 := by
      intro y hy
      refine hl y ?_
      cases a with
      | nil => simp at hy
      | cons z a => simpa [List.getLast?_cons_cons] using hy
    have ih := canon_bval a hw hl'
    have hne : bval (x :: a) ≠ 0 := by
      simp only [bval]
      intro h0
      have hx : x.toNat = 0 := by omega
      have ha : bval a = 0 := by omega
      rw [ha] at ih
      have : a = [] := by rw [← ih]; rfl
      subst this
      have := hl x (by simp)
      omega
    rw [canon_pos _ hne]
    simp only [bval]
    have e1 : (x.toNat + 4294967296 * bval a) % 4294967296 = x.toNat := by omega
    have e2 : (x.toNat + 4294967296 * bval a) / 4294967296 = bval a := by omega
    rw [e1, e2, ih]
    congr 1
    omega
/-- without noughts at the end -/
def trimTo : List Int → List Int
  | [] => []
  | x :: l => if trimTo l = [] ∧ x = 0 then [] else x :: trimTo l
theorem trimTo_canon : ∀ (a : List Int), Words a → trimTo a = canon (bval a)
  | [], _ => rfl
  | x :: a, h => by
    have h1 := h x (by simp)
    have ih := trimTo_canon a (fun y hy => h y (by simp [hy]))
    unfold trimTo
    rw [ih]
    simp only [bval]
    by_cases h0 : canon (bval a) = [] ∧ x = 0
    · rw [if_pos h0]
      have hb : bval a = 0 := by
        have := bval_canon (bval a)
        rw [h0.1] at this
        simpa [bval] using this.symm
      rw [hb, h0.2]; rfl
    · rw [if_neg h0]
      have hne : x.toNat + 4294967296 * bval a ≠ 0 := by
        intro h2
        apply h0
        have hb : bval a = 0 := by omega
        exact ⟨by rw [hb]; rfl, by omega⟩
      rw [canon_pos _ hne]
      have e1 : (x.toNat + 4294967296 * bval a) % 4294967296 = x.toNat := by omega
      have e2 : (x.toNat + 4294967296 * bval a) / 4294967296 = bval a := by omega
      rw [e1, e2]
      congr 1
      omega
theorem canon_inj {a b : Nat} (h : canon a = canon b) : a = b := by rw [← bval_canon a, h, bval_canon]
/-- how many words a number has -/
theorem canon_len_le (n k : Nat) (h : n < 4294967296 ^ k) : (canon n).length ≤ k := by
  induction k generalizing n with
  | zero => simp at h; subst h; simp [canon_zero]
  | succ k ih =>
    by_cases h0 : n = 0
    · subst h0; simp [canon_zero]
    · rw [canon_pos n h0, List.length_cons]
      have := ih (n / 4294967296) (by rw [Nat.pow_succ] at h; omega)
      omega
theorem canon_len_gt (n : Nat) (h : n ≠ 0) : 4294967296 ^ ((canon n).length - 1) ≤ n := by
  induction n using Nat.strongRecOn with
  | ind n ih =>
    rw [canon_pos n h, List.length_cons]
    by_cases h2 : n / 4294967296 = 0
    · rw [h2, canon_zero]; simp; omega
    · have h3 := ih (n / 4294967296) (by omega) h2
      have h4 : 0 < (canon (n / 4294967296)).length := by rw [canon_pos _ h2]; simp
      obtain ⟨m, hm⟩ : ∃ m, (canon (n / 4294967296)).length = m + 1 := ⟨_, (Nat.succ_pred_eq_of_pos h4).symm⟩
      rw [hm] at h3 ⊢
      simp only [Nat.add_sub_cancel] at h3 ⊢
      rw [Nat.pow_succ]
      omega
end Go.Proofs.YtmieegcnfnoiiaaDoor
