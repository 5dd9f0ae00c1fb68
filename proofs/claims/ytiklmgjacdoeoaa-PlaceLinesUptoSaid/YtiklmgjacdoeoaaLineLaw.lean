/-
  Plain laws on the lines of a text. No conditions.
-/
import Derived.Test.YtiklmgjacdoeoaaStartsLaw
import Derived.Lib.Join
import Derived.Lib.IndexLaws
namespace Go.Proofs.Ytiklmgjacdoeoaa

/-- the lines of a text -/
def linesOf : List UInt8 → List (List UInt8)
  | [] => [[]]
  | c :: t => if c = 10 then [] :: linesOf t else match linesOf t with
    | [] => [[c]]
    | x :: r => (c :: x) :: r

theorem linesOf_cons : ∀ l, ∃ x r, linesOf l = x :: r
  | [] => ⟨_, _, rfl⟩
  | c :: t => by
    obtain ⟨x, r, h⟩ := linesOf_cons t
    unfold linesOf
    by_cases hc : c = 10
    · rw [if_pos hc]; exact ⟨_, _, rfl⟩
    · rw [if_neg hc, h]; exact ⟨_, _, rfl⟩
theorem linesOf_no10 : ∀ l, ∀ x ∈ linesOf l, (10 : UInt8) ∉ x
  | [], x, hx => by simp [linesOf] at hx; subst hx; simp
  | c :: t, x, hx => by
    have ih := linesOf_no10 t
    obtain ⟨y, r, h⟩ := linesOf_cons t
    unfold linesOf at hx
    by_cases hc : c = 10
    · rw [if_pos hc] at hx
      rcases List.mem_cons.1 hx with rfl | hx
      · simp
      · exact ih x hx
    · rw [if_neg hc, h] at hx
      rw [h] at ih
      rcases List.mem_cons.1 hx with rfl | hx
      · intro h2
        rcases List.mem_cons.1 h2 with h2 | h2
        · exact hc h2.symm
        · exact ih y (by simp) h2
      · exact ih x (by simp [hx])

/-- where they begin -/
def startsL : Nat → List (List UInt8) → List Int
  | _, [] => []
  | n, x :: r => (n : Int) :: startsL (n + x.length + 1) r
theorem startsL_len : ∀ (L : List (List UInt8)) (n : Nat), (startsL n L).length = L.length
  | [], _ => rfl
  | x :: r, n => by rw [startsL, List.length_cons, startsL_len r, List.length_cons]
theorem starts_lines : ∀ (l : List UInt8) (n : Nat), (n : Int) :: startsFrom n l = startsL n (linesOf l)
  | [], n => rfl
  | c :: t, n => by
    have ih := starts_lines t (n + 1)
    obtain ⟨x, r, h⟩ := linesOf_cons t
    rw [startsFrom_cons]
    unfold linesOf
    by_cases hc : c = 10
    · rw [if_pos hc, if_pos hc, startsL, List.length_nil, Nat.add_zero, ← ih]
      rfl
    · rw [h, startsL] at ih
      have := (List.cons.inj ih).2
      rw [if_neg hc, if_neg hc, List.nil_append, h, startsL, this, List.length_cons, show n + (x.length + 1) + 1 = n + 1 + x.length + 1 by omega]
theorem startsOf_lines (l : List UInt8) : startsOf l = startsL 0 (linesOf l) := starts_lines l 0

/-- lines, with a byte 10 between -/
def joined : List (List UInt8) → List UInt8
  | [] => []
  | [x] => x
  | x :: y :: r => x ++ 10 :: joined (y :: r)
theorem joined_cons (x : List UInt8) (L : List (List UInt8)) (h : L ≠ []) : joined (x :: L) = x ++ 10 :: joined L := by
  cases L with
  | nil => exact absurd rfl h
  | cons y r => rfl
theorem joined_lines : ∀ l, joined (linesOf l) = l
  | [] => rfl
  | c :: t => by
    have ih := joined_lines t
    obtain ⟨x, r, h⟩ := linesOf_cons t
    unfold linesOf
    by_cases hc : c = 10
    · rw [if_pos hc, joined_cons _ _ (by rw [h]; simp), ih, hc]; rfl
    · rw [if_neg hc, h]
      rw [h] at ih
      cases r with
      | nil => show c :: x = _; rw [← ih]; rfl
      | cons y r => show (c :: x) ++ 10 :: joined (y :: r) = _; rw [← ih]; rfl
theorem joined_join : ∀ L, Lib.join L [10] = joined L
  | [] => rfl
  | [x] => Lib.join_one x _
  | x :: y :: r => by
    have ih := joined_join (y :: r)
    unfold Lib.join at ih ⊢
    rw [joined, ← ih]
    simp [List.intercalate, List.intersperse]

/-- how far line i is behind the first one -/
def posL : List (List UInt8) → Nat → Nat
  | [], _ => 0
  | _ :: _, 0 => 0
  | x :: r, i + 1 => x.length + 1 + posL r i
theorem startsL_at : ∀ (L : List (List UInt8)) (n i : Nat), i < L.length → (startsL n L).getD i 0 = ((n + posL L i : Nat) : Int)
  | [], _, _, h => by simp at h
  | x :: r, n, 0, _ => by simp [startsL, posL]
  | x :: r, n, i + 1, h => by
    rw [startsL, List.getD_cons_succ, startsL_at r _ i (by simpa using h), posL]
    congr 1; omega
theorem drop_pos : ∀ (L : List (List UInt8)) (i : Nat), i < L.length → (joined L).drop (posL L i) = joined (L.drop i)
  | [], _, h => by simp at h
  | x :: r, 0, _ => rfl
  | x :: r, i + 1, h => by
    have hr : r ≠ [] := by intro e; subst e; simp at h
    rw [joined_cons x r hr, posL, List.drop_succ_cons, ← drop_pos r i (by simpa using h), List.drop_append, List.drop_eq_nil_of_le (by omega), List.nil_append,
      show x.length + 1 + posL r i - x.length = posL r i + 1 by omega, List.drop_succ_cons]
theorem posL_succ : ∀ (L : List (List UInt8)) (i : Nat), i + 1 < L.length → posL L (i + 1) = posL L i + (L.getD i []).length + 1
  | [], _, h => by simp at h
  | [_], i, h => by simp at h
  | x :: y :: r, 0, h => by simp [posL]
  | x :: y :: r, i + 1, h => by
    have := posL_succ (y :: r) i (by simpa using h)
    rw [posL, this, List.getD_cons_succ, posL]; omega
/-- what stands at line i: its text, and behind it a byte 10 or nothing -/
theorem line_at (L : List (List UInt8)) (i : Nat) (h : i < L.length) :
    (joined L).drop (posL L i) = L.getD i [] ∧ i + 1 = L.length ∨ ∃ t, (joined L).drop (posL L i) = L.getD i [] ++ 10 :: t := by
  rw [drop_pos L i h, List.drop_eq_getElem_cons h]
  have e : L.getD i [] = L[i] := by simp [List.getD, List.getElem?_eq_getElem h]
  rw [e]
  by_cases hl : i + 1 = L.length
  · left
    rw [List.drop_eq_nil_of_le (by omega)]
    exact ⟨rfl, hl⟩
  · right
    refine ⟨_, joined_cons _ _ ?_⟩
    intro e
    have := congrArg List.length e
    simp at this
    omega
theorem posL_len (L : List (List UInt8)) (i : Nat) (h : i < L.length) : posL L i + (L.getD i []).length ≤ (joined L).length := by
  have hp : posL L i ≤ (joined L).length := by
    rcases Nat.lt_or_ge (joined L).length (posL L i) with hlt | hge
    · have h2 := drop_pos L i h
      rw [List.drop_eq_nil_of_le (by omega)] at h2
      rcases line_at L i h with ⟨h3, h4⟩ | ⟨t, h3⟩
      · exfalso
        -- the last line begins at most at the end
        have : ∀ (L : List (List UInt8)) (i : Nat), i < L.length → posL L i ≤ (joined L).length := by
          intro L
          induction L with
          | nil => intro i h; simp at h
          | cons x r ih =>
            intro i h
            cases i with
            | zero => simp [posL]
            | succ i =>
              have hr : r ≠ [] := by intro e; subst e; simp at h
              rw [posL, joined_cons x r hr, List.length_append, List.length_cons]
              have := ih i (by simpa using h)
              omega
        have := this L i h
        omega
      · rw [List.drop_eq_nil_of_le (by omega)] at h3
        simp at h3
    · exact hge
  rcases line_at L i h with ⟨h3, -⟩ | ⟨t, h3⟩
  · have := congrArg List.length h3
    rw [List.length_drop] at this
    omega
  · have := congrArg List.length h3
    rw [List.length_drop, List.length_append] at this
    omega

theorem find_start (S : List Int) (at_ : Int) (hs : ∀ i j, i < j → j < S.length → S.getD i 0 < S.getD j 0) : ∀ m, m ≤ S.length → ∃ r, r ≤ m ∧ (∀ i, i < r → S.getD i 0 ≤ at_) ∧ ∀ i, r ≤ i → i < m → at_ < S.getD i 0
  | 0, _ => ⟨0, Nat.le_refl _, fun i h => by omega, fun i _ h => by omega⟩
  | m + 1, hm => by
    obtain ⟨r, h1, h2, h3⟩ := find_start S at_ hs m (by omega)
    by_cases hr : r = m
    · subst hr
      by_cases hc : S.getD r 0 ≤ at_
      · refine ⟨r + 1, Nat.le_refl _, fun i hi => ?_, fun i hi hi2 => by omega⟩
        by_cases e : i = r
        · rw [e]; exact hc
        · exact h2 i (by omega)
      · refine ⟨r, by omega, h2, fun i hi hi2 => ?_⟩
        obtain rfl : i = r := by omega
        omega
    · refine ⟨r, by omega, h2, fun i hi hi2 => ?_⟩
      by_cases e : i = m
      · have := h3 r (Nat.le_refl _) (by omega)
        have := hs r m (by omega) (by omega)
        rw [e]; omega
      · exact h3 i hi (by omega)

/-- the line of a place -/
theorem line_spec (l : List UInt8) (p : Nat) (h : p ≤ l.length) : ∃ i c, i < (linesOf l).length ∧ c ≤ ((linesOf l).getD i []).length ∧ posL (linesOf l) i + c = p ∧ lineOf l p = i + 1 := by
  obtain ⟨r, h1, h2, h3⟩ := find_start (startsOf l) p (fun i j a b => startsOf_lt l i j a b) _ (Nat.le_refl _)
  have hr := search_line l p r h1 h2 h3
  have hp := lineOf_pos l p (by omega)
  have hlen : (startsOf l).length = (linesOf l).length := by rw [startsOf_lines, startsL_len]
  obtain ⟨i, rfl⟩ : ∃ i, r = i + 1 := ⟨r - 1, by omega⟩
  have hi : i < (linesOf l).length := by omega
  have hsi := h2 i (by omega)
  rw [startsOf_lines, startsL_at _ _ _ hi] at hsi
  refine ⟨i, p - posL (linesOf l) i, hi, ?_, by omega, hr.symm⟩
  by_cases hl : i + 1 < (linesOf l).length
  · have h4 := h3 (i + 1) (Nat.le_refl _) (by omega)
    rw [startsOf_lines, startsL_at _ _ _ hl, posL_succ _ _ hl] at h4
    omega
  · rcases line_at (linesOf l) i hi with ⟨h5, -⟩ | ⟨t, h5⟩
    · rw [joined_lines] at h5
      have := congrArg List.length h5
      rw [List.length_drop] at this
      omega
    · have h6 := drop_pos (linesOf l) i hi
      rw [h5, List.drop_eq_getElem_cons hi, List.drop_eq_nil_of_le (by omega)] at h6
      have e : (linesOf l).getD i [] = (linesOf l)[i] := by simp [List.getD, List.getElem?_eq_getElem hi]
      rw [e] at h6
      have := congrArg List.length h6
      simp [joined] at this
/-- a place by its line and column -/
theorem line_back (l : List UInt8) (i c : Nat) (hi : i < (linesOf l).length) (hc : c ≤ ((linesOf l).getD i []).length) :
    lineOf l ((posL (linesOf l) i + c : Nat) : Int) = i + 1 ∧ colOf l ((posL (linesOf l) i + c : Nat) : Int) = (c : Int) + 1 := by
  have hlen : (startsOf l).length = (linesOf l).length := by rw [startsOf_lines, startsL_len]
  have hsi : (startsOf l).getD i 0 = ((posL (linesOf l) i : Nat) : Int) := by rw [startsOf_lines, startsL_at _ _ _ hi, Nat.zero_add]
  have hr := search_line l ((posL (linesOf l) i + c : Nat) : Int) (i + 1) (by omega) (fun j hj => ?_) (fun j hj hj2 => ?_)
  · refine ⟨hr.symm, ?_⟩
    unfold colOf
    rw [← hr, Nat.add_sub_cancel, hsi]; omega
  · rcases Nat.lt_or_ge j i with h | h
    · have := startsOf_lt l j i h (by omega)
      omega
    · obtain rfl : j = i := by omega
      omega
  · have h4 : (startsOf l).getD (i + 1) 0 ≤ (startsOf l).getD j 0 := by
      rcases Nat.lt_or_ge (i + 1) j with h | h
      · exact Int.le_of_lt (startsOf_lt l (i + 1) j h hj2)
      · obtain rfl : j = i + 1 := by omega
        exact Int.le_refl _
    rw [startsOf_lines, startsL_at _ _ _ (by omega), posL_succ _ _ (by omega)] at h4
    rw [startsOf_lines]
    omega
end Go.Proofs.Ytiklmgjacdoeoaa
