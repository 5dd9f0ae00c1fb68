/-
  Plain facts on decimal digits. No conditions.
-/
import GoSem.Op.String
namespace Go.Proofs.YtopfkelhgffomaaDoor

/-- the digits of a number, the last one first; none of nought -/
def dcF : Nat → Nat → List Nat
  | 0, _ => []
  | f + 1, n => if n = 0 then [] else n % 10 :: dcF f (n / 10)
def dig (n : Nat) : List Nat := dcF n n
theorem dcF_fuel : ∀ (f g n : Nat), n ≤ f → n ≤ g → dcF f n = dcF g n
  | 0, 0, _, _, _ => rfl
  | 0, g + 1, n, h, _ => by have : n = 0 := by omega
                            subst this; simp [dcF]
  | f + 1, 0, n, _, h => by have : n = 0 := by omega
                            subst this; simp [dcF]
  | f + 1, g + 1, n, h1, h2 => by
    unfold dcF
    by_cases h : n = 0
    · simp [h]
    · rw [if_neg h, if_neg h, dcF_fuel f g (n / 10) (by omega) (by omega)]
theorem dig_zero : dig 0 = [] := rfl
theorem dig_pos (n : Nat) (h : n ≠ 0) : dig n = n % 10 :: dig (n / 10) := by
  unfold dig
  obtain ⟨m, rfl⟩ : ∃ m, n = m + 1 := ⟨n - 1, by omega⟩
  conv => lhs; unfold dcF
  rw [if_neg (by omega), dcF_fuel m ((m + 1) / 10) _ (by omega) (Nat.le_refl _)]
theorem dig_lt : ∀ (n : Nat), ∀ d ∈ dig n, d < 10 := by
  intro n
  induction n using Nat.strongRecOn with
  | ind n ih =>
    by_cases h : n = 0
    · subst h; intro d hd; simp [dig_zero] at hd
    · rw [dig_pos n h]
      intro d hd
      rcases List.mem_cons.1 hd with rfl | hd
      · omega
      · exact ih _ (by omega) d hd
theorem dig_len_le (n k : Nat) (h : n < 10 ^ k) : (dig n).length ≤ k := by
  induction k generalizing n with
  | zero => simp at h; subst h; simp [dig_zero]
  | succ k ih =>
    by_cases h0 : n = 0
    · subst h0; simp [dig_zero]
    · rw [dig_pos n h0, List.length_cons]
      have := ih (n / 10) (by rw [Nat.pow_succ] at h; omega)
      omega
theorem dig_len_gt (n : Nat) (h : n ≠ 0) : 10 ^ ((dig n).length - 1) ≤ n := by
  induction n using Nat.strongRecOn with
  | ind n ih =>
    rw [dig_pos n h, List.length_cons]
    by_cases h2 : n / 10 = 0
    · rw [h2, dig_zero]; simp; omega
    · have h3 := ih (n / 10) (by omega) h2
      have h4 : 0 < (dig (n / 10)).length := by rw [dig_pos _ h2]; simp
      obtain ⟨m, hm⟩ : ∃ m, (dig (n / 10)).length = m + 1 := ⟨_, (Nat.succ_pred_eq_of_pos h4).symm⟩
      rw [hm] at h3 ⊢
      simp only [Nat.add_sub_cancel] at h3 ⊢
      rw [Nat.pow_succ]
      omega
theorem dig_len_lt (n : Nat) : n < 10 ^ (dig n).length := by
  induction n using Nat.strongRecOn with
  | ind n ih =>
    by_cases h : n = 0
    · subst h; simp [dig_zero]
    · rw [dig_pos n h, List.length_cons, Nat.pow_succ]
      have := ih (n / 10) (by omega)
      omega

def byteOf (d : Nat) : UInt8 := UInt8.ofNat (48 + d)
theorem byteOf_nat (d : Nat) (h : d < 10) : (byteOf d).toNat = 48 + d := by
  unfold byteOf
  rw [UInt8.toNat_ofNat']
  omega
/-- the text of a number -/
def decText (n : Nat) : List UInt8 := if n = 0 then [48] else (dig n).reverse.map byteOf
/-- the number that digits tell -/
def decVal (s : List UInt8) : Nat := s.foldl (fun a b => a * 10 + (b.toNat - 48)) 0
def isDigit (b : UInt8) : Bool := decide (48 ≤ b.toNat) && decide (b.toNat ≤ 57)
/-- a text of a number: digits, and no nought ahead of others -/
def decOk (s : List UInt8) : Prop := s ≠ [] ∧ (∀ b ∈ s, isDigit b = true) ∧ (s.head? = some 48 → s.length = 1)

theorem decVal_snoc (s : List UInt8) (b : UInt8) : decVal (s ++ [b]) = decVal s * 10 + (b.toNat - 48) := by
  simp [decVal, List.foldl_append]
theorem decVal_digs : ∀ (n : Nat), decVal ((dig n).reverse.map byteOf) = n := by
  intro n
  induction n using Nat.strongRecOn with
  | ind n ih =>
    by_cases h : n = 0
    · subst h; rfl
    · rw [dig_pos n h, List.reverse_cons, List.map_append, List.map_cons, List.map_nil, decVal_snoc, ih _ (by omega), byteOf_nat _ (by omega)]
      omega
theorem decVal_text (n : Nat) : decVal (decText n) = n := by
  unfold decText
  by_cases h : n = 0
  · subst h; rfl
  · rw [if_neg h]; exact decVal_digs n
theorem byteOf_digit (d : Nat) (h : d < 10) : isDigit (byteOf d) = true := by
  unfold isDigit
  rw [byteOf_nat d h]
  simp; omega
theorem digs_head : ∀ (n : Nat), n ≠ 0 → ∃ d l, (dig n).reverse = d :: l ∧ d ≠ 0 ∧ d < 10 := by
  intro n
  induction n using Nat.strongRecOn with
  | ind n ih =>
    intro h
    rw [dig_pos n h]
    by_cases h2 : n / 10 = 0
    · rw [h2, dig_zero]
      exact ⟨n % 10, [], rfl, by omega, by omega⟩
    · obtain ⟨d, l, e, hd⟩ := ih (n / 10) (by omega) h2
      exact ⟨d, l ++ [n % 10], by rw [List.reverse_cons, e]; rfl, hd⟩
theorem decOk_text (n : Nat) : decOk (decText n) := by
  unfold decText
  by_cases h : n = 0
  · subst h; exact ⟨by simp, by intro b hb; simp at hb; subst hb; decide, by simp⟩
  · rw [if_neg h]
    obtain ⟨d, l, e, hd0, hd1⟩ := digs_head n h
    refine ⟨by rw [e]; simp, fun b hb => ?_, fun hh => ?_⟩
    · obtain ⟨x, hx, rfl⟩ := List.mem_map.1 hb
      exact byteOf_digit x (dig_lt n x (List.mem_reverse.1 hx))
    · exfalso
      rw [e] at hh
      simp at hh
      have := byteOf_nat d hd1
      rw [hh] at this
      have h48 : (48 : UInt8).toNat = 48 := by decide
      omega
theorem decText_len (n k : Nat) (h : n < 10 ^ k) (hk : 1 ≤ k) : (decText n).length ≤ k := by
  unfold decText
  by_cases h0 : n = 0
  · simp [h0]; exact hk
  · rw [if_neg h0]; simp; exact dig_len_le n k h
theorem decVal_single (b : UInt8) : decVal [b] = b.toNat - 48 := by simp [decVal]
theorem digs_decVal : ∀ (k : Nat) (s : List UInt8), s.length = k → s ≠ [] → (∀ b ∈ s, isDigit b = true) → s.head? ≠ some 48 → decVal s ≠ 0 ∧ (dig (decVal s)).reverse.map byteOf = s := by
  intro k
  induction k with
  | zero => intro s hs hne; exact absurd (List.eq_nil_of_length_eq_zero hs) hne
  | succ k ih =>
    intro s hs hne hd hh
    have e := List.dropLast_concat_getLast hne
    obtain ⟨p, b, rfl⟩ : ∃ p b, s = p ++ [b] := ⟨_, _, e.symm⟩
    have hb := hd b (by simp)
    simp [isDigit] at hb
    have hback : byteOf (b.toNat - 48) = b := by
      apply UInt8.toNat_inj.1
      rw [byteOf_nat _ (by omega)]; omega
    by_cases hp : p = []
    · subst hp
      have hb0 : b.toNat ≠ 48 := by
        intro h0
        apply hh
        have : b = 48 := UInt8.toNat_inj.1 h0
        rw [this]; rfl
      have hv : decVal ([] ++ [b]) = b.toNat - 48 := by simp [decVal]
      rw [hv]
      refine ⟨by omega, ?_⟩
      rw [dig_pos _ (by omega), show (b.toNat - 48) / 10 = 0 by omega, dig_zero, show (b.toNat - 48) % 10 = b.toNat - 48 by omega]
      simp [hback]
    · obtain ⟨h1, h2⟩ := ih p (by simp at hs; exact hs) hp (fun x hx => hd x (by simp [hx])) (by
        intro h0; apply hh
        cases p with
        | nil => exact absurd rfl hp
        | cons x p => simpa using h0)
      rw [decVal_snoc]
      refine ⟨by omega, ?_⟩
      rw [dig_pos _ (by omega), show (decVal p * 10 + (b.toNat - 48)) / 10 = decVal p by omega, show (decVal p * 10 + (b.toNat - 48)) % 10 = b.toNat - 48 by omega, List.reverse_cons, List.map_append, h2]
      simp [hback]
/-- a text of a number is the text of its number -/
theorem text_decVal (s : List UInt8) (h : decOk s) : decText (decVal s) = s := by
  obtain ⟨h1, h2, h3⟩ := h
  by_cases hh : s.head? = some 48
  · have hl := h3 hh
    obtain ⟨x, rfl⟩ := List.length_eq_one_iff.1 hl
    simp at hh
    subst hh
    rfl
  · obtain ⟨h4, h5⟩ := digs_decVal s.length s rfl h1 h2 hh
    unfold decText
    rw [if_neg h4, h5]

theorem text_small (n : Nat) (h : n < 10) : decText n = [byteOf n] := by
  unfold decText
  by_cases h0 : n = 0
  · subst h0; rfl
  · rw [if_neg h0, dig_pos n h0, show n / 10 = 0 by omega, dig_zero, show n % 10 = n by omega]; rfl
theorem text_big (n : Nat) (h : 10 ≤ n) : decText n = decText (n / 10) ++ [byteOf (n % 10)] := by
  unfold decText
  rw [if_neg (by omega), if_neg (by omega), dig_pos n (by omega)]
  simp
theorem text_pos (n : Nat) : 1 ≤ (decText n).length := by
  have := (decOk_text n).1
  cases h : decText n with
  | nil => exact absurd h this
  | cons => simp
open Go.Op in
theorem less_snoc : ∀ (p q : List UInt8) (x y : UInt8), p.length = q.length → (bytesLess p q = true ∨ p = q ∧ x < y) → bytesLess (p ++ [x]) (q ++ [y]) = true
  | [], [], x, y, _, h => by
    rcases h with h | ⟨_, h⟩
    · simp [bytesLess] at h
    · simp [bytesLess, h]
  | [], _ :: _, _, _, h, _ => by simp at h
  | _ :: _, [], _, _, h, _ => by simp at h
  | a :: p, b :: q, x, y, hl, h => by
    have ih := less_snoc p q x y (by simpa using hl)
    simp only [List.cons_append, bytesLess, Bool.or_eq_true, decide_eq_true_eq, Bool.and_eq_true, beq_iff_eq] at h ⊢
    rcases h with (h | ⟨h1, h2⟩) | ⟨h1, h2⟩
    · exact .inl h
    · exact .inr ⟨h1, ih (.inl h2)⟩
    · simp only [List.cons.injEq] at h1
      exact .inr ⟨h1.1, ih (.inr ⟨h1.2, h2⟩)⟩
/-- a greater number has no shorter text, and of one length the greater -/
theorem text_order : ∀ (b a : Nat), a < b → (decText a).length < (decText b).length ∨ ((decText a).length = (decText b).length ∧ Go.Op.bytesLess (decText a) (decText b) = true) := by
  intro b
  induction b using Nat.strongRecOn with
  | ind b ih =>
    intro a hab
    have hlt : ∀ x y, x < 10 → y < 10 → x < y → byteOf x < byteOf y := by
      intro x y hx hy h
      rw [UInt8.lt_iff_toNat_lt, byteOf_nat _ hx, byteOf_nat _ hy]; omega
    by_cases hb : b < 10
    · rw [text_small b hb, text_small a (by omega)]
      refine .inr ⟨rfl, ?_⟩
      simp [Go.Op.bytesLess, hlt a b (by omega) hb hab]
    · by_cases ha : a < 10
      · rw [text_small a ha, text_big b (by omega)]
        have := text_pos (b / 10)
        left; simp; omega
      · rw [text_big a (by omega), text_big b (by omega)]
        simp only [List.length_append, List.length_cons, List.length_nil]
        by_cases h : a / 10 < b / 10
        · rcases ih (b / 10) (by omega) (a / 10) h with h1 | ⟨h1, h2⟩
          · exact .inl (by omega)
          · exact .inr ⟨by omega, less_snoc _ _ _ _ h1 (.inl h2)⟩
        · have e : a / 10 = b / 10 := by omega
          rw [e]
          exact .inr ⟨rfl, less_snoc _ _ _ _ rfl (.inr ⟨rfl, hlt _ _ (by omega) (by omega) (by omega)⟩)⟩
end Go.Proofs.YtopfkelhgffomaaDoor
