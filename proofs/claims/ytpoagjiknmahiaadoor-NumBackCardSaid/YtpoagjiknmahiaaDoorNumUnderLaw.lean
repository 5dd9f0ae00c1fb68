/-
  Plain law: a stroke between two digits changes nothing. No conditions.
-/
import Derived.Test.YtpoagjiknmahiaaDoorNumSign
namespace Go.Proofs.YtpoagjiknmahiaaDoor
open Go.RowKit Gx

/-- a digit of whatever base -/
def hexB (c : Int) : Bool := decide (48 ≤ c ∧ c ≤ 57) || decide (97 ≤ c ∧ c ≤ 102) || decide (65 ≤ c ∧ c ≤ 70)
theorem hexB_ne {c : Int} (h : hexB c = true) : c ≠ 95 := by
  rintro rfl
  simp [hexB] at h

theorem loop_any_last (b : Nat) (z : Int) (C : List Int) (hz : z ≠ 95) (y y2 : Int) (n : Nat) (o : Int) : numLoop b (z :: C) y n o = numLoop b (z :: C) y2 n o := by
  rw [numLoop, numLoop, if_neg hz, if_neg hz]

theorem loop_stroke (b : Nat) (x z : Int) (hx : x ≠ 95) (hz : z ≠ 95) (C : List Int) : ∀ (A : List Int) (y : Int) (n : Nat) (o : Int),
    numLoop b (A ++ [x] ++ 95 :: z :: C) y n o = numLoop b (A ++ [x] ++ z :: C) y n o
  | [], y, n, o => by
    show numLoop b (x :: 95 :: z :: C) y n o = numLoop b (x :: z :: C) y n o
    simp [numLoop, hx, hz]
  | c :: A, y, n, o => by
    simp only [List.cons_append]
    rw [numLoop, numLoop, loop_stroke b x z hx hz C A, loop_stroke b x z hx hz C A]

theorem ints_append (a b : List UInt8) : ints (a ++ b) = ints a ++ ints b := by unfold ints; rw [List.map_append]

/-- behind what tells the base -/
theorem readBy_stroke (m : Bool) (b : Nat) (r : List UInt8) (k : Nat) (h1 : 1 ≤ k) (h2 : k < r.length) (hx : hexB ((r.getD (k - 1) 0).toNat : Int) = true) (hz : hexB ((r.getD k 0).toNat : Int) = true)
    (hok : (readBy m b r).2 = 0) : readBy m b (r.take k ++ 95 :: r.drop k) = readBy m b r := by
  have hx2 := hexB_ne hx
  have hz2 := hexB_ne hz
  have e1 : r.take k = r.take (k - 1) ++ [r.getD (k - 1) 0] := by
    obtain ⟨j, rfl⟩ : ∃ j, k = j + 1 := ⟨k - 1, by omega⟩
    rw [Nat.add_sub_cancel, List.take_succ_eq_append_getElem (by omega)]
    simp [List.getD, List.getElem?_eq_getElem (show j < r.length by omega)]
  have e2 : r.drop k = r.getD k 0 :: r.drop (k + 1) := by
    rw [List.drop_eq_getElem_cons h2]
    simp [List.getD, List.getElem?_eq_getElem h2]
  have e3 : r = r.take k ++ r.drop k := (List.take_append_drop k r).symm
  have hl : numLoop b (ints (r.take k ++ 95 :: r.drop k)) 95 0 0 = numLoop b (ints r) 95 0 0 := by
    conv => rhs; rw [e3]
    rw [ints_append, ints_append, e1, e2, ints_append]
    exact loop_stroke b _ _ hx2 hz2 _ _ _ _ _
  have h0 : (r.take k ++ 95 :: r.drop k).getD 0 0 = r.getD 0 0 := by
    cases r with
    | nil => simp at h2
    | cons c t =>
      obtain ⟨j, rfl⟩ : ∃ j, k = j + 1 := ⟨k - 1, by omega⟩
      rfl
  unfold readBy at hok ⊢
  by_cases hc : b = 10 ∧ 1 < r.length ∧ r.getD 0 0 = 48
  · rw [if_pos hc] at hok; simp at hok
  · rw [if_neg hc, if_neg (by rw [h0]; intro h; exact hc ⟨h.1, by omega, h.2.2⟩), hl]

/-- how many bytes tell the base -/
def preLen (l : List UInt8) : Nat := if 1 < l.length ∧ l.getD 0 0 = 48 ∧ (l.getD 1 0 = 120 ∨ l.getD 1 0 = 111 ∨ l.getD 1 0 = 98) then 2 else 0

theorem two_prefix (c d : UInt8) : ∀ l : List UInt8, Lib.hasPrefix l [c, d] = decide (1 < l.length ∧ l.getD 0 0 = c ∧ l.getD 1 0 = d)
  | [] => by simp [Lib.hasPrefix, List.isPrefixOf]
  | [a] => by simp [Lib.hasPrefix, List.isPrefixOf]
  | a :: b :: t => by
    unfold Lib.hasPrefix
    simp only [List.isPrefixOf]
    rw [Bool.eq_iff_iff]
    simp
    constructor
    · rintro ⟨rfl, rfl⟩; exact ⟨rfl, rfl⟩
    · rintro ⟨rfl, rfl⟩; exact ⟨rfl, rfl⟩

theorem baseOf_pre (l : List UInt8) : (baseOf l).2 = l.drop (preLen l) := by
  unfold baseOf Lib.trimPrefix preLen
  simp only [two_prefix, List.length_cons, List.length_nil]
  by_cases h1 : 1 < l.length ∧ l.getD 0 0 = 48 ∧ l.getD 1 0 = 120
  · rw [if_pos (by simpa using h1)]
    show (if decide (1 < l.length ∧ l.getD 0 0 = 48 ∧ l.getD 1 0 = 120) = true then _ else _) = _
    rw [if_pos (by simpa using h1), if_pos ⟨h1.1, h1.2.1, .inl h1.2.2⟩]
  · rw [if_neg (by simpa using h1)]
    by_cases h2 : 1 < l.length ∧ l.getD 0 0 = 48 ∧ l.getD 1 0 = 111
    · rw [if_pos (by simpa using h2)]
      show (if decide (1 < l.length ∧ l.getD 0 0 = 48 ∧ l.getD 1 0 = 111) = true then _ else _) = _
      rw [if_pos (by simpa using h2), if_pos ⟨h2.1, h2.2.1, .inr (.inl h2.2.2)⟩]
    · rw [if_neg (by simpa using h2)]
      by_cases h3 : 1 < l.length ∧ l.getD 0 0 = 48 ∧ l.getD 1 0 = 98
      · rw [if_pos (by simpa using h3)]
        show (if decide (1 < l.length ∧ l.getD 0 0 = 48 ∧ l.getD 1 0 = 98) = true then _ else _) = _
        rw [if_pos (by simpa using h3), if_pos ⟨h3.1, h3.2.1, .inr (.inr h3.2.2)⟩]
      · rw [if_neg (by simpa using h3), if_neg (by
          rintro ⟨a, b, c | c | c⟩
          · exact h1 ⟨a, b, c⟩
          · exact h2 ⟨a, b, c⟩
          · exact h3 ⟨a, b, c⟩)]
        rfl

/-- a list that begins with the same two bytes has the same base -/
theorem baseOf_same (l l2 : List UInt8) (h1 : 1 < l.length) (h2 : 1 < l2.length) (e0 : l.getD 0 0 = l2.getD 0 0) (e1 : l.getD 1 0 = l2.getD 1 0) : (baseOf l).1 = (baseOf l2).1 ∧ preLen l = preLen l2 := by
  constructor
  · unfold baseOf
    simp only [two_prefix, e0, e1, h1, h2]
    split
    · rfl
    · split
      · rfl
      · split <;> rfl
  · unfold preLen
    simp only [e0, e1, h1, h2]

/-- ahead of the base stands the sign alone -/
theorem stroke_base (m : Bool) (l : List UInt8) (k : Nat) (h1 : preLen l < k) (h2 : k < l.length) (hx : hexB ((l.getD (k - 1) 0).toNat : Int) = true) (hz : hexB ((l.getD k 0).toNat : Int) = true)
    (hok : (readBy m (baseOf l).1 (baseOf l).2).2 = 0) :
    readBy m (baseOf (l.take k ++ 95 :: l.drop k)).1 (baseOf (l.take k ++ 95 :: l.drop k)).2 = readBy m (baseOf l).1 (baseOf l).2 := by
  obtain ⟨l2, hl2⟩ : ∃ l2, l2 = l.take k ++ 95 :: l.drop k := ⟨_, rfl⟩
  have hlen : l2.length = l.length + 1 := by rw [hl2]; simp; omega
  have hget : ∀ j, j < k → l2.getD j 0 = l.getD j 0 := by
    intro j hj
    rw [hl2]
    simp [List.getD, List.getElem?_append_left (show j < (l.take k).length by simp; omega), hj]
  have hd : ∀ p, p ≤ k → l2.drop p = (l.drop p).take (k - p) ++ 95 :: (l.drop p).drop (k - p) := by
    intro p hp
    rw [hl2, List.drop_append_of_le_length (by simp; omega), List.drop_drop, List.drop_take, show p + (k - p) = k by omega]
  have key : (baseOf l2).1 = (baseOf l).1 ∧ preLen l2 = preLen l := by
    by_cases hk : 2 ≤ k
    · exact baseOf_same l2 l (by omega) (by omega) (hget 0 (by omega)) (hget 1 (by omega))
    · obtain rfl : k = 1 := by omega
      -- the stroke is the second byte: the first one is no nought
      have hp0 : preLen l = 0 := by omega
      have h48 : l.getD 0 0 ≠ 48 ∨ (baseOf l).1 ≠ 10 := by
        by_cases e : l.getD 0 0 = 48
        · right
          intro hb
          have h3 := baseOf_pre l
          rw [hp0, List.drop_zero] at h3
          rw [h3, hb] at hok
          unfold readBy at hok
          rw [if_pos ⟨rfl, h2, e⟩] at hok
          simp at hok
        · exact .inl e
      have hb10 : preLen l = 0 → (baseOf l).1 = 10 := by
        intro hp
        unfold preLen at hp
        have hn : ¬ (1 < l.length ∧ l.getD 0 0 = 48 ∧ (l.getD 1 0 = 120 ∨ l.getD 1 0 = 111 ∨ l.getD 1 0 = 98)) := by
          intro h; rw [if_pos h] at hp; simp at hp
        unfold baseOf
        simp only [two_prefix]
        rw [if_neg (by simp; intro a b c; exact hn ⟨a, b, .inl c⟩), if_neg (by simp; intro a b c; exact hn ⟨a, b, .inr (.inl c)⟩), if_neg (by simp; intro a b c; exact hn ⟨a, b, .inr (.inr c)⟩)]
      have h0 : l.getD 0 0 ≠ 48 := by
        rcases h48 with h | h
        · exact h
        · exact absurd (hb10 hp0) h
      have h02 : l2.getD 0 0 ≠ 48 := by rw [hget 0 (by omega)]; exact h0
      have hp2 : preLen l2 = 0 := by
        unfold preLen
        rw [if_neg (by intro h; exact h02 h.2.1)]
      refine ⟨?_, by rw [hp2, hp0]⟩
      rw [hb10 hp0]
      unfold baseOf
      simp only [two_prefix]
      rw [if_neg (by simp; intro a b; exact absurd b h02), if_neg (by simp; intro a b; exact absurd b h02), if_neg (by simp; intro a b; exact absurd b h02)]
  rw [← hl2, key.1, baseOf_pre l2, key.2, baseOf_pre l]
  rw [baseOf_pre l] at hok
  rw [hd _ (by omega)]
  have hg : ∀ j, (l.drop (preLen l)).getD j 0 = l.getD (preLen l + j) 0 := by
    intro j; simp [List.getD, List.getElem?_drop]
  refine readBy_stroke m _ _ (k - preLen l) (by omega) (by rw [List.length_drop]; omega) ?_ ?_ hok
  · rw [hg, show preLen l + (k - preLen l - 1) = k - 1 by omega]; exact hx
  · rw [hg, show preLen l + (k - preLen l) = k by omega]; exact hz

/-- where the digits begin -/
def signLen (l : List UInt8) : Nat := if l.getD 0 0 = 45 then 1 else 0
theorem stroke_law (l : List UInt8) (k : Nat) (hl : l.length < 80) (h1 : signLen l + preLen (l.drop (signLen l)) < k) (h2 : k < l.length) (hx : hexB ((l.getD (k - 1) 0).toNat : Int) = true) (hz : hexB ((l.getD k 0).toNat : Int) = true)
    (hok : (readOf l).2 = 0) : readOf (l.take k ++ 95 :: l.drop k) = readOf l := by
  have hone : ∀ l : List UInt8, 0 < l.length → Lib.hasPrefix l [45] = decide (l.getD 0 0 = 45) := by
    intro l h
    cases l with
    | nil => simp at h
    | cons c t =>
      unfold Lib.hasPrefix
      simp only [List.isPrefixOf, Bool.and_true, List.getD_cons_zero]
      rw [Bool.eq_iff_iff]
      simp
      exact ⟨fun e => e.symm, fun e => e.symm⟩
  have hlen : (l.take k ++ 95 :: l.drop k).length = l.length + 1 := by simp; omega
  have hk : 1 ≤ k := by omega
  have h0 : (l.take k ++ 95 :: l.drop k).getD 0 0 = l.getD 0 0 := by
    simp [List.getD, List.getElem?_append_left (show 0 < (l.take k).length by simp; omega), show 0 < k by omega]
  have t1 : Lib.trimPrefix l [45] = l.drop (signLen l) := by
    unfold Lib.trimPrefix signLen
    rw [hone l (by omega)]
    by_cases e : l.getD 0 0 = 45
    · rw [if_pos (by simpa using e), if_pos e]; rfl
    · rw [if_neg (by simpa using e), if_neg e]; rfl
  have t2 : Lib.trimPrefix (l.take k ++ 95 :: l.drop k) [45] = (l.drop (signLen l)).take (k - signLen l) ++ 95 :: (l.drop (signLen l)).drop (k - signLen l) := by
    have : Lib.trimPrefix (l.take k ++ 95 :: l.drop k) [45] = (l.take k ++ 95 :: l.drop k).drop (signLen l) := by
      unfold Lib.trimPrefix signLen
      rw [hone _ (by omega), h0]
      by_cases e : l.getD 0 0 = 45
      · rw [if_pos (by simpa using e), if_pos e]; rfl
      · rw [if_neg (by simpa using e), if_neg e]; rfl
    rw [this, List.drop_append_of_le_length (by simp; omega), List.drop_drop, List.drop_take, show signLen l + (k - signLen l) = k by omega]
  have p1 : Lib.hasPrefix (l.take k ++ 95 :: l.drop k) [45] = Lib.hasPrefix l [45] := by rw [hone _ (by omega), hone _ (by omega), h0]
  unfold readOf at hok ⊢
  rw [if_neg (by omega), t1] at hok
  rw [if_neg (by omega), if_neg (by omega), p1, t1, t2]
  have hg : ∀ j, (l.drop (signLen l)).getD j 0 = l.getD (signLen l + j) 0 := by
    intro j; simp [List.getD, List.getElem?_drop]
  refine stroke_base _ _ (k - signLen l) (by omega) (by rw [List.length_drop]; omega) ?_ ?_ hok
  · rw [hg, show signLen l + (k - signLen l - 1) = k - 1 by omega]; exact hx
  · rw [hg, show signLen l + (k - signLen l) = k by omega]; exact hz
end Go.Proofs.YtpoagjiknmahiaaDoor
