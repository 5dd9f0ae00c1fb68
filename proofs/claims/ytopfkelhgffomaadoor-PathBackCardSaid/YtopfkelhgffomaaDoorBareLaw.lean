/-
  Plain law: which keys are bare. No conditions.
-/
import Derived.Test.YtopfkelhgffomaaDoorEscLaw
namespace Go.Proofs.YtopfkelhgffomaaDoor
open Go.RowKit Gx

def letterB (c : Nat) : Bool := (decide (97 ≤ c) && decide (c ≤ 122)) || (decide (65 ≤ c) && decide (c ≤ 90)) || decide (c = 95)
def moreB (c : Nat) : Bool := (decide (48 ≤ c) && decide (c ≤ 57)) || decide (c = 45)
def bareFrom : Bool → List UInt8 → Bool
  | _, [] => true
  | first, c :: t => (letterB c.toNat || (moreB c.toNat && !first)) && bareFrom false t
def wordB (l : List UInt8) : Bool := (l == [110, 117, 108, 108]) || (l == [116, 114, 117, 101]) || (l == [102, 97, 108, 115, 101]) || (l == [110, 97, 110]) || (l == [105, 110, 102])
/-- is it a bare key? -/
def bareOf (l : List UInt8) : Bool := decide (l ≠ []) && decide (l.length ≤ 100) && bareFrom true l && !wordB l
theorem bareFrom_ascii : ∀ (b : Bool) (l : List UInt8), bareFrom b l = true → ∀ c ∈ l, c.toNat < 128
  | _, [], _, c, hc => by simp at hc
  | b, a :: t, h, c, hc => by
    unfold bareFrom at h
    rw [Bool.and_eq_true] at h
    rcases List.mem_cons.1 hc with rfl | hc
    · have h1 := h.1
      unfold letterB moreB at h1
      simp only [Bool.or_eq_true, Bool.and_eq_true, decide_eq_true_eq] at h1
      omega
    · exact bareFrom_ascii false t h.2 c hc
theorem bare_ok {l : List UInt8} (h : bareOf l = true) : okText l := by
  unfold bareOf at h
  simp only [Bool.and_eq_true] at h
  have h2 := (okText_asciis l (bareFrom_ascii true l h.1.2) []).2 okText_nil
  rwa [List.append_nil] at h2

theorem bareFrom_bytes : ∀ (b : Bool) (l : List UInt8), bareFrom b l = true → ∀ c ∈ l, (letterB c.toNat || moreB c.toNat) = true
  | _, [], _, c, hc => by simp at hc
  | b, a :: t, h, c, hc => by
    unfold bareFrom at h
    rw [Bool.and_eq_true] at h
    rcases List.mem_cons.1 hc with rfl | hc
    · have h1 := h.1
      cases hl : letterB c.toNat with
      | true => rfl
      | false =>
        rw [hl] at h1
        simp only [Bool.false_or, Bool.and_eq_true] at h1
        rw [h1.1]; rfl
    · exact bareFrom_bytes false t h.2 c hc
theorem bare_bytes {l : List UInt8} (h : bareOf l = true) : ∀ c ∈ l, (letterB c.toNat || moreB c.toNat) = true := by
  unfold bareOf at h
  simp only [Bool.and_eq_true] at h
  exact bareFrom_bytes true l h.1.2
end Go.Proofs.YtopfkelhgffomaaDoor
