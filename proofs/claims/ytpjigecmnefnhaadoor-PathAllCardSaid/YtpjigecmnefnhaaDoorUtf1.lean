/-
  Scalars, and the text of runes. No conditions.
-/
import Derived.Shelf.Strings.BuilderRune
import Derived.Test.YtpjigecmnefnhaaDoorProg
import Derived.Test.YtpjigecmnefnhaaDoorRd
import Derived.WalkLawsBesides
import Derived.Deep.DeepFit
namespace Go.Proofs.YtpjigecmnefnhaaDoor
open Go.RowKit Gx

/-- a scalar -/
def good (r : Int) : Bool := decide (0 ≤ r) && decide (r ≤ 1114111) && !(decide (55296 ≤ r) && decide (r ≤ 57343))
/-- how many bytes a rune's code has; 0: it has none -/
def runeSize (r : Int) : Int := if good r then (if r < 128 then 1 else if r < 2048 then 2 else if r < 65536 then 3 else 4) else 0

theorem good_iff (r : Int) : good r = true ↔ 0 ≤ r ∧ r ≤ 1114111 ∧ (r < 55296 ∨ 57343 < r) := by
  unfold good
  simp only [Bool.and_eq_true, Bool.not_eq_true', Bool.and_eq_false_iff, decide_eq_true_eq, decide_eq_false_iff_not]
  omega

def TruePost (w : World) (e : Ending) (w' : World) : Prop := e = .returned (.bool true) ∧ Below w.heap.size w w'

/-- the text of runes -/
def encs (l : List Int) : List UInt8 := l.flatMap Lib.encodeRune
def textOf (l : List Int) : List UInt8 := if l.all good then encs l else []
def textErr (l : List Int) : Int := if l.all good then 0 else 3

theorem encs_le (l : List Int) : (encs l).length ≤ 4 * l.length := by
  induction l with
  | nil => simp [encs]
  | cons r l ih =>
    have h4 := Lib.runeCells_le r
    rw [Lib.runeCells_length] at h4
    simp only [encs, List.flatMap_cons, List.length_append, List.length_cons] at ih ⊢
    omega
theorem encs_take_succ (l : List Int) (k : Nat) (h : k < l.length) : encs (l.take (k + 1)) = encs (l.take k) ++ Lib.encodeRune (l.getD k 0) := by
  unfold encs
  rw [List.take_succ_eq_append_getElem h, List.flatMap_append]
  congr 1
  simp [List.getD, List.getElem?_eq_getElem h]

end Go.Proofs.YtpjigecmnefnhaaDoor
