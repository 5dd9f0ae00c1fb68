/-
  The contract of utf.Size. No conditions.
-/
import Derived.Shelf.Strings.BuilderRune
import Derived.Test.YtopfkelhgffomaaDoorProg
import Derived.Test.YtopfkelhgffomaaDoorRd
import Derived.WalkLawsBesides
import Derived.Deep.DeepFit
namespace Go.Proofs.YtopfkelhgffomaaDoor
open Go.RowKit Gx

/-- a scalar -/
def good (r : Int) : Bool := decide (0 ≤ r) && decide (r ≤ 1114111) && !(decide (55296 ≤ r) && decide (r ≤ 57343))
/-- how many bytes a rune's code has; 0: it has none -/
def runeSize (r : Int) : Int := if good r then (if r < 128 then 1 else if r < 2048 then 2 else if r < 65536 then 3 else 4) else 0

theorem good_iff (r : Int) : good r = true ↔ 0 ≤ r ∧ r ≤ 1114111 ∧ (r < 55296 ∨ 57343 < r) := by
  unfold good
  simp only [Bool.and_eq_true, Bool.not_eq_true', Bool.and_eq_false_iff, decide_eq_true_eq, decide_eq_false_iff_not]
  omega

def SizePost (r : Int) (w : World) (e : Ending) (w' : World) : Prop := e = .returned (.int .i64 (runeSize r)) ∧ w = w'

set_option maxHeartbeats 400000 in
theorem size_any (r : Int) (w : World) : Calls Tryd.prog 50 #[.int .i32 r] w (SizePost r w) := by
  by_cases h0 : r < 0
  · have e : runeSize r = 0 := by unfold runeSize; rw [if_neg (by rw [good_iff]; omega)]
    go_enter Tryd.func50, Tryd.ntmps50
    go_wp2
    go_ret
    exact ⟨by rw [e]; rfl, rfl⟩
  by_cases h1 : 1114111 < r
  · have e : runeSize r = 0 := by unfold runeSize; rw [if_neg (by rw [good_iff]; omega)]
    go_enter Tryd.func50, Tryd.ntmps50
    go_wp2
    go_ret
    exact ⟨by rw [e]; rfl, rfl⟩
  by_cases h2 : 55296 ≤ r ∧ r ≤ 57343
  · have e : runeSize r = 0 := by unfold runeSize; rw [if_neg (by rw [good_iff]; omega)]
    obtain ⟨h2, h3⟩ := h2
    go_enter Tryd.func50, Tryd.ntmps50
    go_wp2
    go_ret
    exact ⟨by rw [e]; rfl, rfl⟩
  have hg : good r = true := by rw [good_iff]; omega
  have e : runeSize r = if r < 128 then 1 else if r < 2048 then 2 else if r < 65536 then 3 else 4 := by unfold runeSize; rw [if_pos hg]
  have E := Lib.hid e
  clear e hg
  by_cases h3 : 55296 ≤ r
  · have h4 : 57343 < r := by omega
    clear h2
    by_cases h5 : r < 65536
    · have e : runeSize r = 3 := by rw [E.out, if_neg (by omega), if_neg (by omega), if_pos h5]
      go_enter Tryd.func50, Tryd.ntmps50
      go_wp2
      go_ret
      exact ⟨by rw [e]; rfl, rfl⟩
    · have e : runeSize r = 4 := by rw [E.out, if_neg (by omega), if_neg (by omega), if_neg h5]
      go_enter Tryd.func50, Tryd.ntmps50
      go_wp2
      go_ret
      exact ⟨by rw [e]; rfl, rfl⟩
  · clear h2
    by_cases h5 : r < 128
    · have e : runeSize r = 1 := by rw [E.out, if_pos h5]
      go_enter Tryd.func50, Tryd.ntmps50
      go_wp2
      go_ret
      exact ⟨by rw [e]; rfl, rfl⟩
    by_cases h6 : r < 2048
    · have e : runeSize r = 2 := by rw [E.out, if_neg h5, if_pos h6]
      go_enter Tryd.func50, Tryd.ntmps50
      go_wp2
      go_ret
      exact ⟨by rw [e]; rfl, rfl⟩
    · have e : runeSize r = 3 := by rw [E.out, if_neg h5, if_neg h6, if_pos (by omega)]
      go_enter Tryd.func50, Tryd.ntmps50
      go_wp2
      go_ret
      exact ⟨by rw [e]; rfl, rfl⟩

def TruePost (w : World) (e : Ending) (w' : World) : Prop := e = .returned (.bool true) ∧ Below w.heap.size w w'

/-- the text of runes -/
def encs (l : List Int) : List UInt8 := l.flatMap Lib.encodeRune
def textOf (l : List Int) : List UInt8 := if l.all good then encs l else []
def textErr (l : List Int) : Int := if l.all good then 0 else 3

theorem encs_le (l : List Int) : (encs l).length ≤ 4 * l.length := by
  induction l with
  | nil => simp [encs]
  | cons r l ih =>
    have h4 := Lib.runeCells_le r
    rw [Lib.runeCells_length] at h4
    simp only [encs, List.flatMap_cons, List.length_append, List.length_cons] at ih ⊢
    omega
theorem encs_take_succ (l : List Int) (k : Nat) (h : k < l.length) : encs (l.take (k + 1)) = encs (l.take k) ++ Lib.encodeRune (l.getD k 0) := by
  unfold encs
  rw [List.take_succ_eq_append_getElem h, List.flatMap_append]
  congr 1
  simp [List.getD, List.getElem?_eq_getElem h]

end Go.Proofs.YtopfkelhgffomaaDoor
