/-
  The contracts of stringslite.Cut and strings.Cut at the one byte 93. No conditions.
-/
import Derived.Test.YtopfkelhgffomaaDoorStepRow
import Derived.Test.YtopfkelhgffomaaDoorQuote
namespace Go.Proofs.YtopfkelhgffomaaDoor
open Go.RowKit Gx
set_option maxRecDepth 100000

/-- where Cut cuts -/
def cutP (l : List UInt8) (b : Bool) (w : World) (e : Ending) (w' : World) : Prop :=
  e = .returned (.tuple #[.string (bs (l.take (findB (· == 93) l))), .string (bs (l.drop (findB (· == 93) l + 1))), .bool b]) ∧ Below w.heap.size w w'
theorem indexByte_findB (c : UInt8) : ∀ l : List UInt8, Lib.indexByte l c = if findB (· == c) l < l.length then ((findB (· == c) l : Nat) : Int) else -1
  | [] => by simp [Lib.indexByte, findB]
  | a :: t => by
    have ih := indexByte_findB c t
    have hl := findB_le (· == c) t
    unfold Lib.indexByte findB
    rw [ih]
    by_cases h : (a == c) = true
    · rw [if_pos h]; simp [h]
    · rw [if_neg h]
      simp only [h, if_false, List.length_cons]
      by_cases h2 : findB (· == c) t < t.length
      · rw [if_pos h2]
        simp
        omega
      · rw [if_neg h2]
        simp
        omega
set_option maxHeartbeats 2000000 in
theorem cutLite_any (s : ByteArray) (w : World) (hs : s.size ≤ 4611686018427387904) : Calls Tryd.prog 27 #[.string s, .string ⟨#[93]⟩] w (cutP s.data.toList (decide (findB (· == 93) s.data.toList < s.data.toList.length)) w) := by
  have hsl := Lib.size_eq s
  have hI := fun w0 => Tryd.stringslite_Index_one s 93 w0
  have hix := indexByte_findB 93 s.data.toList
  have hle := findB_le (· == 93) s.data.toList
  unfold cutP
  have hx1 : (s.extract 0 (findB (· == 93) s.data.toList)).data.toList = s.data.toList.take (findB (· == 93) s.data.toList) := ext_front s _
  have hx2 : (s.extract (findB (· == 93) s.data.toList + 1) s.size).data.toList = s.data.toList.drop (findB (· == 93) s.data.toList + 1) := Lib.extract_to_end s _
  rw [← bytes_bs hx1, ← bytes_bs hx2]
  by_cases hlt : findB (· == 93) s.data.toList < s.data.toList.length
  · rw [decide_eq_true hlt]
    rw [if_pos hlt] at hix
    simp only [hix] at hI
    generalize findB (· == 93) s.data.toList = k at *
    have hk : k < s.size := by omega
    have HI := Lib.hid hI
    have g1 : (0 : Int) ≤ (k : Int) := by omega
    have g2 : (k : Int) ≤ (s.size : Int) := by omega
    have g3 : IntKind.i64.wrap ((k : Int) + 1) = (k : Int) + 1 := IntWalk.i64_in _ (by omega)
    have g4 : (0 : Int) ≤ (k : Int) + 1 := by omega
    have g5 : (k : Int) + 1 ≤ (s.size : Int) := by omega
    have g6 : ((k : Int) + 1).toNat = k + 1 := by omega
    clear hix hI hsl hle hx1 hx2 hlt
    go_enter Tryd.func27, Tryd.ntmps27
    go_wp2_with fail
    refine (HI.out _).mono ?_
    rintro e0 w1 ⟨rfl, rfl⟩
    go_wp2_with fail
    go_quiet (fail)
    clear g3 g4 g5 g6
    go_wp2_with fail
    try go_ret3
    exact ⟨rfl, Gx.drewN_below _ _ _⟩
  · rw [decide_eq_false hlt]
    rw [if_neg hlt] at hix
    simp only [hix] at hI
    have hk : findB (· == 93) s.data.toList = s.size := by omega
    rw [hk, show s.extract 0 s.size = s from by simp, show s.extract (s.size + 1) s.size = ⟨#[]⟩ from by
      apply bytes_nil; simp]
    have HI := Lib.hid hI
    clear hix hI hsl hle hx1 hx2 hlt hk
    go_enter Tryd.func27, Tryd.ntmps27
    go_wp2_with fail
    refine (HI.out _).mono ?_
    rintro e0 w1 ⟨rfl, rfl⟩
    go_wp2_with fail
    try go_ret3
    exact ⟨rfl, Below.refl _ _⟩
set_option maxHeartbeats 1000000 in
theorem cut_any (s : ByteArray) (w : World) (hs : s.size ≤ 4611686018427387904) : Calls Tryd.prog 17 #[.string s, .string ⟨#[93]⟩] w (cutP s.data.toList (decide (findB (· == 93) s.data.toList < s.data.toList.length)) w) := by
  have H := Lib.hid (cutLite_any s w hs)
  unfold cutP at H ⊢
  generalize bs (s.data.toList.take (findB (· == 93) s.data.toList)) = A at *
  generalize bs (s.data.toList.drop (findB (· == 93) s.data.toList + 1)) = B at *
  generalize (decide (findB (· == 93) s.data.toList < s.data.toList.length)) = b at *
  go_enter Tryd.func17, Tryd.ntmps17
  go_wp2_with fail
  refine H.out.mono ?_
  rintro e0 w1 ⟨rfl, hb⟩
  go_wp2_with fail
  try go_ret3
  exact ⟨rfl, hb⟩
end Go.Proofs.YtopfkelhgffomaaDoor
