/-
  Plain facts on tokens: what is ahead of a token is cut as it was, and so is what stands behind it. No conditions.
-/
import Derived.Test.YtfjeikijmconoaaTokAlone
namespace Go.Proofs.Ytfjeikijmconoaa
open Go.RowKit Gx

/-- what stands behind a place is cut as it was, its places so many less -/
theorem toks_drop (l : List UInt8) (a : Nat) : ∀ (f j : Nat), l.length ≤ a + j + f →
    toksFrom (l.drop a) j = (toksFrom l (a + j)).map fun t => (t.1, t.2.1 - a, t.2.2 - a) := by
  intro f
  induction f with
  | zero =>
    intro j h
    rw [toksFrom_end _ _ (by rw [List.length_drop]; omega), toksFrom_end _ _ (by omega)]
    rfl
  | succ f ih =>
    intro j h
    by_cases hj : l.length ≤ a + j
    · rw [toksFrom_end _ _ (by rw [List.length_drop]; omega), toksFrom_end _ _ hj]
      rfl
    · have hn := nextTok_fits (l.drop (a + j)) (by rw [List.length_drop]; omega)
      rw [toksFrom_step _ j (by rw [List.length_drop]; omega), toksFrom_step l (a + j) (by omega), List.drop_drop, List.map_cons, ih _ (by omega)]
      rw [show a + (j + (nextTok (l.drop (a + j))).2) = a + j + (nextTok (l.drop (a + j))).2 by omega]
      congr 1
      refine Prod.ext rfl (Prod.ext ?_ ?_)
      · show j = a + j - a; omega
      · show j + _ = a + j + _ - a; omega

theorem toksFrom_low (l : List UInt8) : ∀ (f a : Nat), l.length ≤ a + f → ∀ t ∈ toksFrom l a, a ≤ t.2.1 ∧ t.2.1 < l.length := by
  intro f
  induction f with
  | zero => intro a h t ht; rw [toksFrom_end _ _ (by omega)] at ht; simp at ht
  | succ f ih =>
    intro a h t ht
    by_cases ha : l.length ≤ a
    · rw [toksFrom_end _ _ ha] at ht; simp at ht
    · have hn := nextTok_fits (l.drop a) (by rw [List.length_drop]; omega)
      rw [toksFrom_step _ a (by omega), List.mem_cons] at ht
      rcases ht with rfl | ht
      · exact ⟨Nat.le_refl _, by show a < _; omega⟩
      · have := ih _ (by omega) t ht
        omega

/-- what is ahead of a place where a token begins is cut as it was -/
theorem toks_take (l : List UInt8) (m : Nat) (hm : m ≤ l.length) : ∀ (P : List Tok) (a : Nat), a ≤ l.length → toksFrom l a = P ++ toksFrom l m → (∀ t ∈ P, t.1 ≠ 7) → toksFrom (l.take m) a = P := by
  have hlm : (l.take m).length = m := by rw [List.length_take]; omega
  intro P
  induction P with
  | nil =>
    intro a ha h _
    refine toksFrom_end _ _ ?_
    rw [hlm]
    rw [List.nil_append] at h
    apply Decidable.byContradiction
    intro hc
    have h1 := toksFrom_step l a (by omega)
    have h2 := (toksFrom_low l l.length m (by omega)) _ (by rw [← h, h1]; exact List.mem_cons_self)
    simp only [] at h2
    omega
  | cons t P ih =>
    intro a ha h hk
    have ha2 : a < l.length := by
      apply Decidable.byContradiction
      intro hc
      rw [toksFrom_end _ _ (by omega)] at h
      simp at h
    have hn := nextTok_fits (l.drop a) (by rw [List.length_drop]; omega)
    rw [List.length_drop] at hn
    rw [toksFrom_step _ a ha2, List.cons_append] at h
    obtain ⟨h1, h2⟩ := List.cons.inj h
    have hle : a + (nextTok (l.drop a)).2 ≤ m := by
      apply Decidable.byContradiction
      intro hc
      have h3 := toksFrom_step l m (by omega)
      have h4 := (toksFrom_low l l.length (a + (nextTok (l.drop a)).2) (by omega)) ((nextTok (l.drop m)).1, m, m + (nextTok (l.drop m)).2) (by rw [h2, h3]; simp)
      simp only [] at h4
      omega
    have h5 : (l.take m).drop a = (l.drop a).take (m - a) := by rw [List.drop_take]
    have h6 : nextTok ((l.take m).drop a) = nextTok (l.drop a) := by
      rw [h5]
      refine nextTok_take _ _ (by rw [List.length_drop]; omega) (by omega) (.inl ?_)
      have := hk t List.mem_cons_self
      rw [← h1] at this
      exact this
    rw [toksFrom_step _ a (by rw [hlm]; omega), h6, h1, ih _ (by omega) h2 (fun t ht => hk t (List.mem_cons_of_mem _ ht))]
end Go.Proofs.Ytfjeikijmconoaa
