/-
  Plain laws on strings and bytes, in the walk's spelling. No conditions.
-/
import Derived.WalkKit
import Derived.Lib.Strings
import Derived.Lib.IndexBytes
import Derived.Lib.Bytealg
namespace Go.Proofs.YtpjigecmnefnhaaDoor
open Go Go.RowKit

theorem bytes_nil {s : ByteArray} (h : s.size = 0) : s = ⟨#[]⟩ := by
  apply ByteArray.ext
  apply Array.toList_inj.1
  exact List.eq_nil_of_length_eq_zero (by rw [← Lib.size_eq]; exact h)
theorem list_nil {s : ByteArray} (h : s.size = 0) : s.data.toList = [] := List.eq_nil_of_length_eq_zero (by rw [← Lib.size_eq]; exact h)
theorem list_ne {s : ByteArray} (h : 0 < s.size) : s.data.toList ≠ [] := by
  intro h2
  have := Lib.size_eq s
  rw [h2, List.length_nil] at this
  omega
theorem bytes_em {s : ByteArray} (h : 0 < s.size) : s.toList.isEmpty = false ∧ ¬ s.toList = [] := by
  have h3 : s.toList.length = s.size := by rw [Go.Lib.toList_data]; simp
  have : s.toList ≠ [] := by intro h4; rw [h4, List.length_nil] at h3; omega
  exact ⟨by cases h4 : s.toList with
    | nil => exact absurd h4 this
    | cons => rfl, this⟩
theorem byte_is (b c : UInt8) : ((b.toNat : Int) == (c.toNat : Int)) = decide (b = c) := by
  rw [Bool.eq_iff_iff, beq_iff_eq, decide_eq_true_eq]
  constructor
  · intro h; exact UInt8.toNat_inj.1 (by omega)
  · rintro rfl; rfl
theorem byte_n (b : UInt8) (c : UInt8) (n : Int) (hn : n = (c.toNat : Int)) (h : b ≠ c) : ((b.toNat : Int) == n) = false ∧ ((b.toNat : Int) != n) = true := by
  subst hn
  have := byte_is b c
  rw [decide_eq_false h] at this
  exact ⟨this, by unfold bne; rw [this]; rfl⟩
theorem byte_y (b : UInt8) (c : UInt8) (n : Int) (hn : n = (c.toNat : Int)) (h : b = c) : ((b.toNat : Int) == n) = true ∧ ((b.toNat : Int) != n) = false := by
  subst hn
  have := byte_is b c
  rw [decide_eq_true h] at this
  exact ⟨this, by unfold bne; rw [this]; rfl⟩
theorem hasPrefix_one (l : List UInt8) (c : UInt8) : Lib.hasPrefix l [c] = decide (l.head? = some c) := by
  unfold Lib.hasPrefix
  cases l with
  | nil => rfl
  | cons a t =>
    have h : List.isPrefixOf [c] (a :: t) = (c == a) := by simp [List.isPrefixOf]
    rw [h, Bool.eq_iff_iff, beq_iff_eq, decide_eq_true_eq]
    constructor
    · rintro rfl; rfl
    · intro h; exact (Option.some.inj h).symm
theorem head_of (s : ByteArray) (h : 0 < s.size) : s.data.toList.head? = some s[0] := by
  have : 0 < s.data.toList.length := by simpa using h
  rw [List.head?_eq_getElem?, List.getElem?_eq_getElem this]; rfl
theorem cons_of (s : ByteArray) (h : 0 < s.size) : s.data.toList = s[0] :: s.data.toList.drop 1 := by
  have h2 : 0 < s.data.toList.length := by simpa using h
  have e : s.data.toList.drop 0 = s.data.toList[0] :: s.data.toList.drop 1 := List.drop_eq_getElem_cons h2
  rw [List.drop_zero] at e
  exact e
theorem drop_cons (s : ByteArray) (k : Nat) (h : k < s.size) : s.data.toList.drop k = s[k] :: s.data.toList.drop (k + 1) := by
  have h2 : k < s.data.toList.length := by simpa using h
  exact List.drop_eq_getElem_cons h2
theorem ret_str {a b : ByteArray} (h : a.data.toList = b.data.toList) : Ending.returned (.string a) = .returned (.string b) := by
  rw [show a = b from ByteArray.ext (Array.toList_inj.1 h)]
theorem bytes_of {a b : ByteArray} (h : a.data.toList = b.data.toList) : a = b := ByteArray.ext (Array.toList_inj.1 h)
theorem ext_front (s : ByteArray) (k : Nat) : (s.extract 0 k).data.toList = s.data.toList.take k := by rw [Lib.extract_data, List.drop_zero, Nat.sub_zero]
end Go.Proofs.YtpjigecmnefnhaaDoor
