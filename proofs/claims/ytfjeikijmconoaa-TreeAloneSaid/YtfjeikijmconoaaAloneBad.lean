/-
  Plain law: where a value was read no token is none. No conditions.
-/
import Derived.Test.YtfjeikijmconoaaCoverLaw
import Derived.Test.YtfjeikijmconoaaTreeFirstLaw
namespace Go.Proofs.Ytfjeikijmconoaa

/-- not past token j, or failed -/
def Short0 (X : TS) (j : Nat) (s : PS) : Prop := (s.bad = 0 ∧ s.i ≤ j) ∨ s.bad ≠ 0
structure BadAt0 (X : TS) (j : Nat) : Prop where
  lt : j < X.T.length
  bad : X.kind j = 7
variable {X : TS} {j : Nat}
def Keeps0 (X : TS) (j : Nat) (f : PS → PS) : Prop := ∀ s, Short0 X j s → Short0 X j (f s)
theorem keeps_of0 {f : PS → PS} (h1 : Stays f) (h2 : ∀ s, s.bad = 0 → s.i ≤ j → Short0 X j (f s)) : Keeps0 X j f := fun s h => by
  rcases h with ⟨h, h3⟩ | h
  · exact h2 s h h3
  · exact .inr (by rw [(h1 s h).1]; exact h)
theorem skip_le0 (h : BadAt0 X j) (s : PS) (hs : s.i ≤ j) : (s.skip X).i ≤ j := by
  have hj : j < X.T.length := h.lt
  have hk : (X.T[j]).1 = 7 := by have := h.bad; unfold TS.kind at this; rw [List.getElem?_eq_getElem hj] at this; exact this
  have := skipN_le (X.T.drop s.i) (j - s.i) X.T[j] (by rw [List.getElem?_drop, show s.i + (j - s.i) = j by omega, List.getElem?_eq_getElem hj]) (by rw [hk]; decide)
  show s.i + skipN (X.T.drop s.i) ≤ j
  omega
theorem skip_keeps0 (h : BadAt0 X j) : Keeps0 X j (PS.skip X) := keeps_of0 (fun s _ => ⟨rfl, rfl⟩) fun s h1 h2 => .inl ⟨h1, skip_le0 h s h2⟩
theorem fail_keeps0 (h : BadAt0 X j) (e : Int) (he : e ≠ 0) : Keeps0 X j (PS.fail X e) := keeps_of0 (fail_stays X e) fun s h1 h2 => by
  unfold PS.fail
  rw [if_neg (fun h3 => h3 h1)]
  exact .inr he
theorem inc_keeps0 (s : PS) (hs : Short0 X j s) (hne : s.bad = 0 → s.i ≠ j) : Short0 X j s.inc := by
  rcases hs with ⟨h, h3⟩ | h
  · have := hne h
    exact .inl ⟨h, by show s.i + 1 ≤ j; omega⟩
  · exact .inr h
theorem mark_ne0 (h : BadAt0 X j) (s : PS) (e : UInt8) (he : e ≠ 0) (hm : s.mark X = e) : s.i ≠ j := by
  rintro rfl
  unfold PS.mark at hm
  rw [h.bad, if_neg (by decide)] at hm
  exact he hm.symm
theorem leaf_keeps0 (h : BadAt0 X j) (k : Int) : Keeps0 X j fun s => (leafS X k s).1 := fun s hs => by
  have h1 := skip_keeps0 h s hs
  dsimp only
  unfold leafS
  split
  · rename_i hl
    refine inc_keeps0 _ h1 (fun _ e => ?_)
    rw [e, h.bad] at hl
    exact absurd hl (by decide)
  · exact fail_keeps0 h 4 (by decide) _ h1
theorem many_keeps0 (h : BadAt0 X j) {kid : PS → PS × Nd} (hk : Keeps0 X j fun s => (kid s).1) (e : UInt8) (he : e ≠ 0) : ∀ (f : Nat) (s : PS) (ks : List Nd), Short0 X j s → Short0 X j (manyS X kid e f s ks).1.inc
  | 0, s, ks, hs => by
    have h1 := fail_keeps0 h 4 (by decide) s hs
    refine inc_keeps0 _ h1 (fun hb => ?_)
    exfalso
    have : ((manyS X kid e 0 s ks).1).bad = (s.fail X 4).bad := rfl
    rw [this] at hb
    unfold PS.fail at hb
    split at hb
    · rename_i h2; exact h2 hb
    · exact absurd hb (by decide : ¬ (4 : Int) = 0)
  | f + 1, s, ks, hs => by
    have h1 := skip_keeps0 h s hs
    have h2 := skip_keeps0 h _ (hk _ h1)
    unfold manyS
    split
    · rename_i hc
      refine inc_keeps0 _ h1 (fun hb => ?_)
      rcases hc with hc | hc
      · exact mark_ne0 h _ e he hc
      · exact absurd hb hc
    · split
      · rename_i hm
        exact many_keeps0 h hk e he f _ _ (inc_keeps0 _ h2 (fun _ => mark_ne0 h _ 44 (by decide) hm))
      · split
        · exact many_keeps0 h hk e he f _ _ h2
        · exact many_keeps0 h hk e he f _ _ (fail_keeps0 h 4 (by decide) _ h2)
theorem manyN_keeps0 (h : BadAt0 X j) {kid : PS → PS × Nd} (hk : Keeps0 X j fun s => (kid s).1) (k : Int) (e : UInt8) (he : e ≠ 0) (s : PS) (hs : Short0 X j s) (hne : s.bad = 0 → s.i ≠ j) : Short0 X j (manyN X k e kid s).1 :=
  many_keeps0 h hk e he _ _ _ (inc_keeps0 _ hs hne)
theorem entry_keeps0 (h : BadAt0 X j) {val : PS → PS × Nd} (hv : Keeps0 X j fun s => (val s).1) : Keeps0 X j fun s => (entryS X val s).1 := fun s hs => by
  have h1 := skip_keeps0 h _ (leaf_keeps0 h 2 _ hs)
  dsimp only at h1 ⊢
  rw [entry_eq]
  generalize PS.skip X (leafS X 2 s).1 = u at h1 ⊢
  unfold entryT
  by_cases hc : u.bad = 0 ∧ u.mark X ≠ 58 ∧ u.mark X ≠ 61
  · have e1 : colonS X u = u.fail X 4 := by unfold colonS; rw [if_pos hc]
    have e2 : (u.fail X 4).bad ≠ 0 := by unfold PS.fail; rw [if_neg (fun h => h hc.1)]; exact (by decide : (4 : Int) ≠ 0)
    rw [e1, if_pos e2]
    exact fail_keeps0 h 4 (by decide) _ h1
  · have e1 : colonS X u = u := by unfold colonS; rw [if_neg hc]
    rw [e1]
    split
    · exact h1
    · rename_i hb
      have hb0 : u.bad = 0 := Decidable.not_not.1 hb
      refine hv _ (inc_keeps0 _ h1 (fun _ => ?_))
      by_cases h58 : u.mark X = 58
      · exact mark_ne0 h _ 58 (by decide) h58
      · by_cases h61 : u.mark X = 61
        · exact mark_ne0 h _ 61 (by decide) h61
        · exact absurd ⟨hb0, h58, h61⟩ hc
theorem value_keeps0 (h : BadAt0 X j) : ∀ r, Keeps0 X j fun s => (valueS X r s).1
  | 0 => fun s hs => by
    have h1 := skip_keeps0 h s hs
    dsimp only
    unfold valueS
    split
    · exact fail_keeps0 h 5 (by decide) _ h1
    · exact leaf_keeps0 h 1 _ h1
  | r + 1 => fun s hs => by
    have h1 := skip_keeps0 h s hs
    dsimp only
    unfold valueS
    split
    · rename_i hm
      exact manyN_keeps0 h (entry_keeps0 h (value_keeps0 h r)) 3 125 (by decide) _ h1 (fun _ => mark_ne0 h _ 123 (by decide) hm)
    · split
      · rename_i hm
        exact manyN_keeps0 h (value_keeps0 h r) 5 93 (by decide) _ h1 (fun _ => mark_ne0 h _ 91 (by decide) hm)
      · exact leaf_keeps0 h 1 _ h1
theorem value_good (X : TS) (r : Nat) (s : PS) (hs : s.bad = 0) (hb : (valueS X r s).1.bad = 0) (t : Nat) (h1 : s.i ≤ t) (h2 : t < (valueS X r s).1.i) (h3 : t < X.T.length) : X.kind t ≠ 7 := fun h7 => by
  have := value_keeps0 (X := X) (j := t) ⟨h3, h7⟩ r s (.inl ⟨hs, h1⟩)
  dsimp only at this
  rcases this with ⟨-, h⟩ | h
  · omega
  · exact h hb
end Go.Proofs.Ytfjeikijmconoaa
