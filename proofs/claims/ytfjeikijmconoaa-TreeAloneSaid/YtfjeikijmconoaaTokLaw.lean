/-
  Plain facts on tokens: what stands behind a token does not count for it. No conditions.
-/
import Derived.Test.YtfjeikijmconoaaTok4
namespace Go.Proofs.Ytfjeikijmconoaa
open Go.RowKit Gx

theorem isPrefixOf_take (sub l : List UInt8) (m : Nat) (h : sub.length ≤ m) : sub.isPrefixOf (l.take m) = sub.isPrefixOf l := by
  rw [Bool.eq_iff_iff, List.isPrefixOf_iff_prefix, List.isPrefixOf_iff_prefix]
  constructor
  · intro h1; exact h1.trans (List.take_prefix m l)
  · intro h1
    obtain ⟨t, rfl⟩ := h1
    exact ⟨t.take (m - sub.length), by rw [List.take_append, List.take_of_length_le h]⟩

theorem index_take (sub : List UInt8) : ∀ (l : List UInt8) (m : Nat), 0 ≤ Lib.index l sub → Lib.index l sub + sub.length ≤ m → Lib.index (l.take m) sub = Lib.index l sub := by
  intro l
  induction l with
  | nil => intro m _ _; rw [List.take_nil]
  | cons b l ih =>
    intro m h0 hm
    rw [index_cons] at h0 hm ⊢
    by_cases h1 : sub.isPrefixOf (b :: l) = true
    · rw [if_pos h1] at hm ⊢
      have h2 : sub.isPrefixOf ((b :: l).take m) = true := by rw [isPrefixOf_take _ _ _ (by omega)]; exact h1
      cases m with
      | zero =>
        have : sub = [] := List.eq_nil_of_length_eq_zero (by omega)
        subst this; rfl
      | succ m => rw [List.take_succ_cons, index_cons] ; rw [List.take_succ_cons] at h2; rw [if_pos h2]
    · rw [if_neg h1] at h0 hm ⊢
      by_cases h3 : Lib.index l sub = -1
      · rw [h3] at h0; simp at h0
      · have h4 : (Lib.index l sub == -1) = false := by simpa using h3
        rw [h4] at h0 hm ⊢
        simp only [Bool.false_eq_true, ↓reduceIte] at h0 hm ⊢
        have h5 := Lib.index_ge l sub
        obtain ⟨q, rfl⟩ : ∃ q, m = q + 1 := ⟨m - 1, by omega⟩
        have h6 := ih q (by omega) (by omega)
        have h7 : sub.isPrefixOf ((b :: l).take (q + 1)) = false := by
          rw [isPrefixOf_take _ _ _ (by omega)]; exact Bool.eq_false_iff.2 h1
        rw [List.take_succ_cons] at h7 ⊢
        rw [index_cons, h7, h6, h4]
        simp

/-- one byte: ahead of its first place it is not -/
theorem index_none (c : UInt8) : ∀ (l : List UInt8) (e : Nat), Lib.index l [c] = (e : Int) → Lib.index (l.take e) [c] = -1 := by
  intro l
  induction l with
  | nil => intro e h; rw [List.take_nil]; rfl
  | cons b l ih =>
    intro e h
    rw [index_cons] at h
    by_cases h1 : ([c] : List UInt8).isPrefixOf (b :: l) = true
    · rw [if_pos h1] at h
      have : e = 0 := by omega
      subst this
      rfl
    · rw [if_neg h1] at h
      by_cases h3 : Lib.index l [c] = -1
      · rw [h3] at h; simp at h
      · have h4 : (Lib.index l [c] == -1) = false := by simpa using h3
        rw [h4] at h
        simp only [Bool.false_eq_true, ↓reduceIte] at h
        have h5 := Lib.index_ge l [c]
        obtain ⟨q, rfl⟩ : ∃ q, e = q + 1 := ⟨e - 1, by omega⟩
        have h6 := ih q (by omega)
        have h7 : ([c] : List UInt8).isPrefixOf ((b :: l).take (q + 1)) = false := by
          rw [isPrefixOf_take _ _ _ (by simp)]; exact Bool.eq_false_iff.2 h1
        rw [List.take_succ_cons] at h7 ⊢
        rw [index_cons, h7, h6]
        rfl

theorem cut_take (l : List UInt8) (m : Nat) (h : (Lib.cut l [10]).1.length ≤ m) : (Lib.cut (l.take m) [10]).1.length = (Lib.cut l [10]).1.length := by
  have hlow := Lib.index_ge l [10]
  by_cases h0 : 0 ≤ Lib.index l [10]
  · obtain ⟨e, he⟩ := Int.eq_ofNat_of_zero_le h0
    have hfit := index_fits l [10] h0
    have hcl : (Lib.cut l [10]).1.length = e := by
      unfold Lib.cut
      rw [if_pos h0, he]
      simp
      simp at hfit; omega
    rw [hcl] at h ⊢
    by_cases hm : e + 1 ≤ m
    · have h2 := index_take [10] l m h0 (by simp; omega)
      unfold Lib.cut
      rw [h2, if_pos h0, he]
      simp
      simp at hfit; omega
    · have hme : m = e := by omega
      subst hme
      have h2 := index_none 10 l m he
      unfold Lib.cut
      rw [h2, if_neg (by decide)]
      simp
      simp at hfit; omega
  · have hcl : (Lib.cut l [10]).1 = l := by unfold Lib.cut; rw [if_neg h0]
    rw [hcl] at h ⊢
    rw [List.take_of_length_le h, hcl]

theorem noteLen_take (l : List UInt8) (m : Nat) (h0 : 0 < noteLen l) (h : noteLen l ≤ m) : noteLen (l.take m) = noteLen l := by
  have hm : 0 < m := by omega
  have hh : (l.take m).head? = l.head? := by
    cases l with
    | nil => simp
    | cons b r => obtain ⟨q, rfl⟩ : ∃ q, m = q + 1 := ⟨m - 1, by omega⟩; rfl
  unfold noteLen at h h0 ⊢
  rw [hh]
  by_cases h1 : l.head? = some 35
  · rw [if_pos h1] at h h0 ⊢
    rw [if_pos h1]
    exact cut_take l m h
  · rw [if_neg h1] at h h0 ⊢
    rw [if_neg h1]
    by_cases h2 : Lib.hasPrefix l [47, 42] = true
    · rw [if_pos h2] at h h0 ⊢
      by_cases h3 : Lib.index (l.drop 2) [42, 47] < 0
      · rw [if_pos h3] at h0; omega
      · rw [if_neg h3] at h h0 ⊢
        have h4 : Lib.hasPrefix (l.take m) [47, 42] = true := by
          show ([47, 42] : List UInt8).isPrefixOf (l.take m) = true
          rw [isPrefixOf_take _ _ _ (by simp; omega)]; exact h2
        have h5 : (l.take m).drop 2 = (l.drop 2).take (m - 2) := by rw [List.drop_take]
        have h6 := index_take [42, 47] (l.drop 2) (m - 2) (by omega) (by simp; omega)
        rw [if_pos h4, h5, h6, if_neg h3]
    · rw [if_neg h2] at h0; omega

theorem textScan_take : ∀ (l : List UInt8) (p : Bool) (i m : Nat), 0 < textScan l p i → textScan l p i ≤ i + m → textScan (l.take m) p i = textScan l p i
  | [], p, i, m, h0, _ => by simp [textScan] at h0
  | b :: r, p, i, m, h0, h => by
    have key : ∀ p2, 0 < textScan r p2 (i + 1) → i + 1 < textScan r p2 (i + 1) ∨ True := fun _ _ => .inr trivial
    unfold textScan at h0 h
    by_cases h1 : b = 10
    · rw [if_pos h1] at h0; omega
    · rw [if_neg h1] at h0 h
      by_cases h2 : p = true
      · rw [if_pos h2] at h0 h
        have hlow := textScan_low r false (i + 1) h0
        obtain ⟨q, rfl⟩ : ∃ q, m = q + 1 := ⟨m - 1, by omega⟩
        have ih := textScan_take r false (i + 1) q h0 (by omega)
        rw [List.take_succ_cons]
        unfold textScan
        rw [if_neg h1, if_neg h1, if_pos h2, if_pos h2, ih]
      · rw [if_neg h2] at h0 h
        by_cases h3 : b = 34
        · rw [if_pos h3] at h0 h
          obtain ⟨q, rfl⟩ : ∃ q, m = q + 1 := ⟨m - 1, by omega⟩
          rw [List.take_succ_cons]
          unfold textScan
          rw [if_neg h1, if_neg h1, if_neg h2, if_neg h2, if_pos h3, if_pos h3]
        · rw [if_neg h3] at h0 h
          have hlow := textScan_low r (b == 92) (i + 1) h0
          obtain ⟨q, rfl⟩ : ∃ q, m = q + 1 := ⟨m - 1, by omega⟩
          have ih := textScan_take r (b == 92) (i + 1) q h0 (by omega)
          rw [List.take_succ_cons]
          unfold textScan
          rw [if_neg h1, if_neg h1, if_neg h2, if_neg h2, if_neg h3, if_neg h3, ih]
where textScan_low : ∀ (l : List UInt8) (p : Bool) (i : Nat), 0 < textScan l p i → i < textScan l p i
  | [], p, i, h => by simp [textScan] at h
  | b :: r, p, i, h => by
    unfold textScan at h ⊢
    by_cases h1 : b = 10
    · rw [if_pos h1] at h; omega
    · rw [if_neg h1] at h ⊢
      by_cases h2 : p = true
      · rw [if_pos h2] at h ⊢
        have := textScan_low r false (i + 1) h
        omega
      · rw [if_neg h2] at h ⊢
        by_cases h3 : b = 34
        · rw [if_pos h3]; omega
        · rw [if_neg h3] at h ⊢
          have := textScan_low r (b == 92) (i + 1) h
          omega
theorem textLen_take (l : List UInt8) (m : Nat) (h0 : 0 < textLen l) (h : textLen l ≤ m) : textLen (l.take m) = textLen l := by
  unfold textLen at *
  rw [List.drop_take]
  exact textScan_take _ _ _ _ h0 (by omega)
theorem runLen_take (k : Int) : ∀ (r : List UInt8) (m : Nat), runLen k r ≤ m → runLen k (r.take m) = runLen k r := by
  intro r
  induction r with
  | nil => intro m _; rw [List.take_nil]
  | cons b r ih =>
    intro m h
    rw [runLen_cons] at h ⊢
    by_cases hc : classOf (b.toNat : Int) = k
    · rw [if_pos hc] at h ⊢
      obtain ⟨q, rfl⟩ : ∃ q, m = q + 1 := ⟨m - 1, by omega⟩
      rw [List.take_succ_cons, runLen_cons, if_pos hc, ih q (by omega)]
    · rw [if_neg hc]
      cases m with
      | zero => rfl
      | succ q => rw [List.take_succ_cons, runLen_cons, if_neg hc]

/-- what stands behind a good token does not count for it -/
theorem nextTok_take (l : List UInt8) (m : Nat) (hl : 0 < l.length) (hm : (nextTok l).2 ≤ m) (hk : (nextTok l).1 ≠ 7 ∨ m = (nextTok l).2) : nextTok (l.take m) = nextTok l := by
  have hn := nextTok_fits l hl
  cases l with
  | nil => simp at hl
  | cons b r =>
    obtain ⟨q, rfl⟩ : ∃ q, m = q + 1 := ⟨m - 1, by omega⟩
    have htk : (b :: r).take (q + 1) = b :: r.take q := List.take_succ_cons
    rw [htk]
    unfold nextTok at hm hk ⊢
    simp only [] at hm hk ⊢
    by_cases h1 : classOf (b.toNat : Int) = 1 ∨ classOf (b.toNat : Int) = 4
    · rw [if_pos h1] at hm ⊢
      rw [if_pos h1, runLen_take _ _ _ (by simp only [] at hm; omega)]
    · rw [if_neg h1] at hm hk ⊢
      rw [if_neg h1]
      by_cases h3 : classOf (b.toNat : Int) = 3
      · rw [if_pos h3] at hm hk ⊢
        rw [if_pos h3]
        by_cases hz : noteLen (b :: r) = 0
        · rw [if_pos hz] at hm hk ⊢
          rcases hk with hk | hk
          · exact absurd rfl hk
          · simp only [] at hk
            obtain rfl : q = 0 := by omega
            have h35 : b ≠ 35 := by
              intro h; subst h
              unfold noteLen at hz
              rw [if_pos (show (35 :: r).head? = some 35 from rfl)] at hz
              have := cut_len (35 :: r) [10]
              have hp : (0 : Nat) < (Lib.cut (35 :: r) [10]).1.length := by
                unfold Lib.cut
                rw [index_cons]
                have h4 : ([10] : List UInt8).isPrefixOf (35 :: r) = false := by simp [List.isPrefixOf]
                rw [h4]
                simp only [Bool.false_eq_true, ↓reduceIte]
                have h5 := Lib.index_ge r [10]
                by_cases h6 : Lib.index r [10] = -1
                · rw [h6]; simp
                · have h7 : (Lib.index r [10] == -1) = false := by simpa using h6
                  rw [h7]
                  simp only [Bool.false_eq_true, ↓reduceIte]
                  rw [if_pos (by omega)]
                  have h8 : (Lib.index r [10] + 1).toNat = (Lib.index r [10]).toNat + 1 := by omega
                  rw [h8]; simp
              omega
            have hz2 : noteLen [b] = 0 := by
              unfold noteLen
              rw [if_neg (by simpa using h35)]
              have h4 : Lib.hasPrefix [b] [47, 42] = false := by
                show ([47, 42] : List UInt8).isPrefixOf [b] = false
                simp [List.isPrefixOf]
              rw [h4]; rfl
            rw [List.take_zero, hz2]
            rfl
        · rw [if_neg hz] at hm ⊢
          have := noteLen_take (b :: r) (q + 1) (by omega) (by simp only [] at hm; exact hm)
          rw [htk] at this
          rw [this, if_neg hz]
      · rw [if_neg h3] at hm hk ⊢
        rw [if_neg h3]
        by_cases h5 : classOf (b.toNat : Int) = 5
        · rw [if_pos h5] at hm hk ⊢
          rw [if_pos h5]
          by_cases hz : textLen (b :: r) = 0
          · rw [if_pos hz] at hm hk ⊢
            rcases hk with hk | hk
            · exact absurd rfl hk
            · simp only [] at hk
              obtain rfl : q = 0 := by omega
              have hz2 : textLen [b] = 0 := rfl
              rw [List.take_zero, hz2]
              rfl
          · rw [if_neg hz] at hm ⊢
            have := textLen_take (b :: r) (q + 1) (by omega) (by simp only [] at hm; exact hm)
            rw [htk] at this
            rw [this, if_neg hz]
        · rw [if_neg h5]
          rw [if_neg h5]

/-- a token's text alone is cut into that token -/
theorem toks_alone (l : List UInt8) (at_ : Nat) (h : at_ < l.length) :
    toks ((l.drop at_).take (nextTok (l.drop at_)).2) = [((nextTok (l.drop at_)).1, 0, (nextTok (l.drop at_)).2)] := by
  have hl : 0 < (l.drop at_).length := by rw [List.length_drop]; omega
  have hn := nextTok_fits _ hl
  have ht := nextTok_take (l.drop at_) (nextTok (l.drop at_)).2 hl (Nat.le_refl _) (.inr rfl)
  generalize l.drop at_ = p at *
  have hlen : (p.take (nextTok p).2).length = (nextTok p).2 := by rw [List.length_take]; omega
  unfold toks
  rw [toksFrom_step _ 0 (by omega), List.drop_zero, ht, toksFrom_end _ _ (by rw [hlen]; omega)]
  simp
end Go.Proofs.Ytfjeikijmconoaa
