/-
  The contract of val.own: what can be said of a value without its parts. Conditions: Go's two tables of utf8 lie in the world.
-/
import Derived.Test.YtpjigecmnefnhaaDoorUtf8Walk
import Derived.WalkLawsBesides
import Derived.Deep.DeepFit
import Derived.Outline
namespace Go.Proofs.YtpjigecmnefnhaaDoor
open Go.RowKit Gx
set_option maxRecDepth 100000

/-- the bits of a fraction that are no number's, and not the one that stands for it -/
def nanBad (f : Int) : Bool := (bits .and .u64 (f / 4503599627370496) 2047 == 2047) && (bits .and .u64 f 4503599627370495 != 0) && (f != 9221120237041090561)
def kindBad (k n f : Int) (s : ByteArray) (nl ne : Nat) : Bool :=
  decide (k < 0) || decide (6 < k) || (!(k == 1 || k == 2) && n != 0) || (k == 1 && n != 0 && n != 1) || (k != 3 && f != 0) || nanBad f ||
    (k != 4 && !s.toList.isEmpty) || (k != 5 && decide (0 < nl)) || (k != 6 && decide (0 < ne))
open Classical in
/-- what own says -/
noncomputable def ownE (k n f : Int) (s : ByteArray) (nl ne : Nat) : Nat :=
  if kindBad k n f s nl ne then 10 else if 4000 < s.size ∨ 200 < nl ∨ 200 < ne then 2 else if okText s.data.toList then 0 else 3
def OwnPost (r : Nat) (w : World) (e : Ending) (w' : World) : Prop := e = .returned (.int .i64 r) ∧ Below w.heap.size w w'
theorem nan0 : nanBad 0 = false := by decide
theorem nan_of {f E F : Int} (hE : bits .and .u64 (f / 4503599627370496) 2047 = E) (hF : bits .and .u64 f 4503599627370495 = F) : nanBad f = ((E == 2047) && (F != 0) && (f != 9221120237041090561)) := by unfold nanBad; rw [hE, hF]
theorem empty_of {s : ByteArray} (h : s.toList.isEmpty = true) : s = ⟨#[]⟩ := by
  have h1 : s.toList = [] := by simpa using h
  have h2 : s.data.toList = [] := by rw [← h1]; exact (ByteArray.toList_eq s).symm
  obtain ⟨a⟩ := s
  have : a = #[] := by simpa using h2
  rw [this]
theorem empty_size : (ByteArray.mk #[]).size = 0 := rfl
theorem empty_bad : (ByteArray.mk #[]).toList.isEmpty = true := by rw [ByteArray.toList_eq]; rfl


end Go.Proofs.YtpjigecmnefnhaaDoor
