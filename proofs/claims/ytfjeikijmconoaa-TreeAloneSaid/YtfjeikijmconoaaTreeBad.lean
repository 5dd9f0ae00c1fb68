/-
  Plain law: the reader of a tree never passes a token that is none. No conditions.
-/
import Derived.Test.YtfjeikijmconoaaTreeLaw
namespace Go.Proofs.Ytfjeikijmconoaa

/-- not past token j; or failed, but not at token i -/
def Short (X : TS) (i j : Nat) (s : PS) : Prop := (s.bad = 0 ∧ s.i ≤ j) ∨ (s.bad ≠ 0 ∧ s.wh ≠ X.pos i)
/-- token j is none, and lies ahead of token i -/
structure BadAt (X : TS) (i j : Nat) : Prop where
  row : Row X i
  lt : j < i
  bad : X.kind j = 7
variable {X : TS} {i j : Nat}
def Keeps (X : TS) (i j : Nat) (f : PS → PS) : Prop := ∀ s, Short X i j s → Short X i j (f s)
theorem keeps_of {f : PS → PS} (h1 : Stays f) (h2 : ∀ s, s.bad = 0 → s.i ≤ j → Short X i j (f s)) : Keeps X i j f := fun s h => by
  rcases h with ⟨h, h3⟩ | ⟨h, h3⟩
  · exact h2 s h h3
  · obtain ⟨g1, g2⟩ := h1 s h
    exact .inr ⟨by rw [g1]; exact h, by rw [g2]; exact h3⟩
theorem skipN_le : ∀ (L : List (Int × Nat × Nat)) (m : Nat) (t : Int × Nat × Nat), L[m]? = some t → solidK t.1 = true → skipN L ≤ m
  | [], m, t, h, _ => by simp at h
  | u :: L, 0, t, h, hs => by
    have : u = t := by simpa using h
    subst this
    unfold skipN
    rw [if_pos hs]
    exact Nat.le_refl _
  | u :: L, m + 1, t, h, hs => by
    unfold skipN
    have := skipN_le L m t (by simpa using h) hs
    split <;> omega
theorem skip_le (h : BadAt X i j) (s : PS) (hs : s.i ≤ j) : (s.skip X).i ≤ j := by
  have hj : j < X.T.length := Nat.lt_trans h.lt h.row.lt
  have hk : (X.T[j]).1 = 7 := by have := h.bad; unfold TS.kind at this; rw [List.getElem?_eq_getElem hj] at this; exact this
  have := skipN_le (X.T.drop s.i) (j - s.i) X.T[j] (by rw [List.getElem?_drop, show s.i + (j - s.i) = j by omega, List.getElem?_eq_getElem hj]) (by rw [hk]; decide)
  show s.i + skipN (X.T.drop s.i) ≤ j
  omega
theorem skip_keeps (h : BadAt X i j) : Keeps X i j (PS.skip X) := keeps_of (fun s _ => ⟨rfl, rfl⟩) fun s h1 h2 => .inl ⟨h1, skip_le h s h2⟩
theorem fail_keeps (h : BadAt X i j) (e : Int) (he : e ≠ 0) : Keeps X i j (PS.fail X e) := keeps_of (fail_stays X e) fun s h1 h2 => by
  unfold PS.fail
  rw [if_neg (fun h3 => h3 h1)]
  have := h.row.up s.i (Nat.lt_of_le_of_lt h2 h.lt)
  exact .inr ⟨he, Nat.ne_of_lt this⟩
theorem inc_keeps (s : PS) (hs : Short X i j s) (hne : s.bad = 0 → s.i ≠ j) : Short X i j s.inc := by
  rcases hs with ⟨h, h3⟩ | h
  · have := hne h
    exact .inl ⟨h, by show s.i + 1 ≤ j; omega⟩
  · exact .inr h
theorem mark_ne (h : BadAt X i j) (s : PS) (e : UInt8) (he : e ≠ 0) (hm : s.mark X = e) : s.i ≠ j := by
  rintro rfl
  unfold PS.mark at hm
  rw [h.bad, if_neg (by decide)] at hm
  exact he hm.symm
theorem leaf_keeps (h : BadAt X i j) (k : Int) : Keeps X i j fun s => (leafS X k s).1 := fun s hs => by
  have h1 := skip_keeps h s hs
  dsimp only
  unfold leafS
  split
  · rename_i hl
    refine inc_keeps _ h1 (fun _ e => ?_)
    rw [e, h.bad] at hl
    exact absurd hl (by decide)
  · exact fail_keeps h 4 (by decide) _ h1
theorem many_keeps (h : BadAt X i j) {kid : PS → PS × Nd} (hk : Keeps X i j fun s => (kid s).1) (e : UInt8) (he : e ≠ 0) : ∀ (f : Nat) (s : PS) (ks : List Nd), Short X i j s → Short X i j (manyS X kid e f s ks).1.inc
  | 0, s, ks, hs => by
    have h1 := fail_keeps h 4 (by decide) s hs
    refine inc_keeps _ h1 (fun hb => ?_)
    exfalso
    have : ((manyS X kid e 0 s ks).1).bad = (s.fail X 4).bad := rfl
    rw [this] at hb
    unfold PS.fail at hb
    split at hb
    · rename_i h2; exact h2 hb
    · exact absurd hb (by decide : ¬ (4 : Int) = 0)
  | f + 1, s, ks, hs => by
    have h1 := skip_keeps h s hs
    have h2 := skip_keeps h _ (hk _ h1)
    unfold manyS
    split
    · rename_i hc
      refine inc_keeps _ h1 (fun hb => ?_)
      rcases hc with hc | hc
      · exact mark_ne h _ e he hc
      · exact absurd hb hc
    · split
      · rename_i hm
        exact many_keeps h hk e he f _ _ (inc_keeps _ h2 (fun _ => mark_ne h _ 44 (by decide) hm))
      · split
        · exact many_keeps h hk e he f _ _ h2
        · exact many_keeps h hk e he f _ _ (fail_keeps h 4 (by decide) _ h2)
theorem manyN_keeps (h : BadAt X i j) {kid : PS → PS × Nd} (hk : Keeps X i j fun s => (kid s).1) (k : Int) (e : UInt8) (he : e ≠ 0) (s : PS) (hs : Short X i j s) (hne : s.bad = 0 → s.i ≠ j) : Short X i j (manyN X k e kid s).1 :=
  many_keeps h hk e he _ _ _ (inc_keeps _ hs hne)
theorem entry_keeps (h : BadAt X i j) {val : PS → PS × Nd} (hv : Keeps X i j fun s => (val s).1) : Keeps X i j fun s => (entryS X val s).1 := fun s hs => by
  have h1 := skip_keeps h _ (leaf_keeps h 2 _ hs)
  dsimp only at h1 ⊢
  rw [entry_eq]
  generalize PS.skip X (leafS X 2 s).1 = u at h1 ⊢
  unfold entryT
  by_cases hc : u.bad = 0 ∧ u.mark X ≠ 58 ∧ u.mark X ≠ 61
  · have e1 : colonS X u = u.fail X 4 := by unfold colonS; rw [if_pos hc]
    have e2 : (u.fail X 4).bad ≠ 0 := by unfold PS.fail; rw [if_neg (fun h => h hc.1)]; exact (by decide : (4 : Int) ≠ 0)
    rw [e1, if_pos e2]
    exact fail_keeps h 4 (by decide) _ h1
  · have e1 : colonS X u = u := by unfold colonS; rw [if_neg hc]
    rw [e1]
    split
    · exact h1
    · rename_i hb
      have hb0 : u.bad = 0 := Decidable.not_not.1 hb
      refine hv _ (inc_keeps _ h1 (fun _ => ?_))
      by_cases h58 : u.mark X = 58
      · exact mark_ne h _ 58 (by decide) h58
      · by_cases h61 : u.mark X = 61
        · exact mark_ne h _ 61 (by decide) h61
        · exact absurd ⟨hb0, h58, h61⟩ hc
theorem value_keeps (h : BadAt X i j) : ∀ r, Keeps X i j fun s => (valueS X r s).1
  | 0 => fun s hs => by
    have h1 := skip_keeps h s hs
    dsimp only
    unfold valueS
    split
    · exact fail_keeps h 5 (by decide) _ h1
    · exact leaf_keeps h 1 _ h1
  | r + 1 => fun s hs => by
    have h1 := skip_keeps h s hs
    dsimp only
    unfold valueS
    split
    · rename_i hm
      exact manyN_keeps h (entry_keeps h (value_keeps h r)) 3 125 (by decide) _ h1 (fun _ => mark_ne h _ 123 (by decide) hm)
    · split
      · rename_i hm
        exact manyN_keeps h (value_keeps h r) 5 93 (by decide) _ h1 (fun _ => mark_ne h _ 91 (by decide) hm)
      · exact leaf_keeps h 1 _ h1
/-- where it fails with form at token i, no token ahead of it is none -/
theorem first_good (h : BadAt X i j) : ¬ Here X i (parseS X) := fun hf => by
  have h1 := value_keeps h 20 ⟨0, 0, 0⟩ (.inl ⟨rfl, Nat.zero_le _⟩)
  dsimp only at h1
  unfold parseS at hf
  generalize (valueS X 20 ⟨0, 0, 0⟩).1 = u at h1 hf
  have h2 : Short X i j (endS X u) := by
    unfold endS
    split
    · exact fail_keeps h 4 (by decide) _ (skip_keeps h _ h1)
    · exact skip_keeps h _ h1
  rcases h2 with ⟨h2, -⟩ | ⟨-, h2⟩
  · rw [hf.1] at h2; exact absurd h2 (by decide)
  · exact h2 hf.2
end Go.Proofs.Ytfjeikijmconoaa
