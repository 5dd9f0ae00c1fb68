/-
  Plain facts on the places at which lines begin. No conditions.
-/
import Derived.Test.YtiklmgjacdoeoaaStarts
namespace Go.Proofs.Ytiklmgjacdoeoaa

def startsFrom (n : Nat) (l : List UInt8) : List Int := (l.zipIdx n).filterMap fun p => if p.1 = 10 then some ((p.2 : Int) + 1) else none
theorem startsOf_eq (l : List UInt8) : startsOf l = 0 :: startsFrom 0 l := rfl
theorem startsFrom_cons (n : Nat) (c : UInt8) (l : List UInt8) : startsFrom n (c :: l) = (if c = 10 then [(n : Int) + 1] else []) ++ startsFrom (n + 1) l := by
  unfold startsFrom
  rw [List.zipIdx_cons]
  by_cases h : c = 10 <;> simp [h]
theorem startsFrom_mem : ∀ (l : List UInt8) (n : Nat) (x : Int), x ∈ startsFrom n l → (n : Int) < x ∧ x ≤ n + l.length
  | [], n, x, h => by simp [startsFrom] at h
  | c :: l, n, x, h => by
    rw [startsFrom_cons, List.mem_append] at h
    simp only [List.length_cons]
    rcases h with h | h
    · split at h
      · simp at h; omega
      · simp at h
    · have := startsFrom_mem l (n + 1) x h
      omega
theorem startsFrom_sorted : ∀ (l : List UInt8) (n : Nat), (startsFrom n l).Pairwise (· < ·)
  | [], n => by simp [startsFrom]
  | c :: l, n => by
    rw [startsFrom_cons, List.pairwise_append]
    refine ⟨by split <;> simp, startsFrom_sorted l (n + 1), fun a ha b hb => ?_⟩
    have := startsFrom_mem l (n + 1) b hb
    split at ha
    · simp at ha; omega
    · simp at ha
theorem startsOf_strict (l : List UInt8) : (startsOf l).Pairwise (· < ·) := by
  rw [startsOf_eq, List.pairwise_cons]
  exact ⟨fun a ha => by have := startsFrom_mem l 0 a ha; omega, startsFrom_sorted l 0⟩
theorem startsOf_mem (l : List UInt8) (x : Int) (h : x ∈ startsOf l) : 0 ≤ x ∧ x ≤ l.length := by
  rw [startsOf_eq, List.mem_cons] at h
  rcases h with rfl | h
  · omega
  · have := startsFrom_mem l 0 x h; omega
theorem startsOf_lt (l : List UInt8) (i j : Nat) (h : i < j) (hj : j < (startsOf l).length) : (startsOf l).getD i 0 < (startsOf l).getD j 0 := by
  have := (List.pairwise_iff_getElem.1 (startsOf_strict l)) i j (by omega) hj h
  simpa [List.getD, List.getElem?_eq_getElem hj, List.getElem?_eq_getElem (show i < (startsOf l).length by omega)] using this
theorem startsOf_nn (l : List UInt8) (i : Nat) : 0 ≤ (startsOf l).getD i 0 := by
  by_cases h : i < (startsOf l).length
  · have := startsOf_mem l _ (List.getElem_mem h)
    simp [List.getD, List.getElem?_eq_getElem h]; omega
  · simp [List.getD, List.getElem?_eq_none (by omega : (startsOf l).length ≤ i)]
theorem startsOf_le (l : List UInt8) (i : Nat) : (startsOf l).getD i 0 ≤ l.length := by
  by_cases h : i < (startsOf l).length
  · have := startsOf_mem l _ (List.getElem_mem h)
    simp [List.getD, List.getElem?_eq_getElem h]; omega
  · simp [List.getD, List.getElem?_eq_none (by omega : (startsOf l).length ≤ i)]

theorem filter_take {α : Type} (p : α → Bool) (l : List α) (r : Nat) (h1 : ∀ i (h : i < l.length), i < r → p l[i] = true) (h2 : ∀ i (h : i < l.length), r ≤ i → p l[i] = false) :
    l.filter p = l.take r := by
  conv => lhs; rw [← List.take_append_drop r l]
  rw [List.filter_append, List.filter_eq_self.2, List.filter_eq_nil_iff.2, List.append_nil]
  · intro a ha
    obtain ⟨i, hi, rfl⟩ := List.getElem_of_mem ha
    rw [List.getElem_drop, h2 _ (by simp at hi; omega) (by omega)]; simp
  · intro a ha
    obtain ⟨i, hi, rfl⟩ := List.getElem_of_mem ha
    rw [List.getElem_take, h1 _ (by simp at hi; omega) (by simp at hi; omega)]

/-- the line and the column of a place: how many lines begin at it or ahead of it; how far it is behind the last one -/
def lineOf (l : List UInt8) (at_ : Int) : Nat := ((startsOf l).filter (fun x => decide (x ≤ at_))).length
def colOf (l : List UInt8) (at_ : Int) : Int := at_ - (startsOf l).getD (lineOf l at_ - 1) 0 + 1

theorem search_line (l : List UInt8) (at_ : Int) (r : Nat) (h0 : r ≤ (startsOf l).length) (h1 : ∀ i, i < r → (startsOf l).getD i 0 ≤ at_) (h2 : ∀ i, r ≤ i → i < (startsOf l).length → at_ < (startsOf l).getD i 0) : r = lineOf l at_ := by
  unfold lineOf
  rw [filter_take _ _ r, List.length_take]
  · omega
  · intro i h hi
    have := h1 i hi
    simpa [List.getD, List.getElem?_eq_getElem h] using this
  · intro i h hi
    have := h2 i hi h
    simpa [List.getD, List.getElem?_eq_getElem h] using this
theorem lineOf_pos (l : List UInt8) (at_ : Int) (h : 0 ≤ at_) : 1 ≤ lineOf l at_ := by
  unfold lineOf startsOf
  simp [h]
theorem lineOf_le (l : List UInt8) (at_ : Int) : lineOf l at_ ≤ (startsOf l).length := List.length_filter_le _ _
theorem lineOf_mono (l : List UInt8) (a b : Int) (h : a ≤ b) : lineOf l a ≤ lineOf l b := by
  unfold lineOf
  have : (startsOf l).filter (fun x => decide (x ≤ a)) = ((startsOf l).filter (fun x => decide (x ≤ b))).filter (fun x => decide (x ≤ a)) := by
    rw [List.filter_filter]
    congr 1
    funext x
    by_cases h1 : x ≤ a
    · simp [h1, show x ≤ b by omega]
    · simp [h1]
  rw [this]
  exact List.length_filter_le _ _
/-- what stands later has no lesser line, and in one line a greater column -/
theorem place_order (l : List UInt8) (a b : Int) (h : a < b) : lineOf l a < lineOf l b ∨ (lineOf l a = lineOf l b ∧ colOf l a < colOf l b) := by
  have h1 := lineOf_mono l a b (by omega)
  rcases Nat.lt_or_ge (lineOf l a) (lineOf l b) with h2 | h2
  · exact .inl h2
  · have e : lineOf l a = lineOf l b := by omega
    refine .inr ⟨e, ?_⟩
    unfold colOf
    rw [e]; omega
end Go.Proofs.Ytiklmgjacdoeoaa
