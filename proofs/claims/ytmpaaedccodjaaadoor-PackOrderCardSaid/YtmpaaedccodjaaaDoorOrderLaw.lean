/-
  Bytes stand in the order of their values. No conditions.
-/
import Derived.Test.YtmpaaedccodjaaaDoorCompare
import Derived.Test.YtmpaaedccodjaaaDoorPacked
import Derived.Lib.Bytealg
import Derived.Lib.Bytes
import Derived.Lib.Strings
namespace Go.Proofs.YtmpaaedccodjaaaDoor
open Go.RowKit Gx

/-- x and y part at a byte, by which o says who is less -/
def Dif (o : Int) (x y : List Int) : Prop := ∃ p a b s t, x = p ++ a :: s ∧ y = p ++ b :: t ∧ 0 ≤ a ∧ a ≤ 255 ∧ 0 ≤ b ∧ b ≤ 255 ∧ ((a < b ∧ o = -1) ∨ (b < a ∧ o = 1))
theorem Dif.pre {o : Int} {x y : List Int} (h : Dif o x y) (q : List Int) : Dif o (q ++ x) (q ++ y) := by
  obtain ⟨p, a, b, s, t, rfl, rfl, r⟩ := h
  exact ⟨q ++ p, a, b, s, t, by simp, by simp, r⟩
theorem Dif.cons {o : Int} {x y : List Int} (h : Dif o x y) (c : Int) : Dif o (c :: x) (c :: y) := h.pre [c]
theorem Dif.app {o : Int} {x y : List Int} (h : Dif o x y) (u v : List Int) : Dif o (x ++ u) (y ++ v) := by
  obtain ⟨p, a, b, s, t, rfl, rfl, r⟩ := h
  exact ⟨p, a, b, s ++ u, t ++ v, by simp, by simp, r⟩
theorem Dif.ne {o : Int} {x y : List Int} (h : Dif o x y) : o ≠ 0 := by
  obtain ⟨p, a, b, s, t, _, _, _, _, _, _, h | h⟩ := h <;> omega
theorem Dif.head {a b : Int} (s t : List Int) (ha : 0 ≤ a) (ha' : a ≤ 255) (hb : 0 ≤ b) (hb' : b ≤ 255) (hne : a ≠ b) : Dif (sgn a b) (a :: s) (b :: t) := by
  refine ⟨[], a, b, s, t, rfl, rfl, ha, ha', hb, hb', ?_⟩
  unfold sgn
  by_cases h : a < b
  · exact .inl ⟨h, if_pos h⟩
  · exact .inr ⟨by omega, by rw [if_neg h, if_pos (by omega)]⟩
theorem bytesOf_append (x y : List Int) : Lib.bytesOf (x ++ y) = Lib.bytesOf x ++ Lib.bytesOf y := by simp [Lib.bytesOf]
theorem cmp_same : ∀ (p x y : List UInt8), Lib.compareBytes (p ++ x) (p ++ y) = Lib.compareBytes x y
  | [], _, _ => rfl
  | c :: p, x, y => by
    have h : ¬ c < c := by simp
    rw [List.cons_append, List.cons_append, Lib.compareBytes, if_neg h, if_neg h, cmp_same p]
theorem u8_lt {a b : Int} (ha : 0 ≤ a) (ha' : a ≤ 255) (hb : 0 ≤ b) (hb' : b ≤ 255) : (UInt8.ofNat a.toNat < UInt8.ofNat b.toNat) ↔ a < b := by
  rw [UInt8.lt_iff_toNat_lt, UInt8.toNat_ofNat', UInt8.toNat_ofNat']
  omega
theorem Dif.cmp {o : Int} {x y : List Int} (h : Dif o x y) : Lib.compareBytes (Lib.bytesOf x) (Lib.bytesOf y) = o := by
  obtain ⟨p, a, b, s, t, rfl, rfl, h0, h1, h2, h3, h4⟩ := h
  rw [bytesOf_append, bytesOf_append, cmp_same]
  show Lib.compareBytes (UInt8.ofNat a.toNat :: Lib.bytesOf s) (UInt8.ofNat b.toNat :: Lib.bytesOf t) = o
  rw [Lib.compareBytes]
  rcases h4 with ⟨h4, rfl⟩ | ⟨h4, rfl⟩
  · rw [if_pos ((u8_lt h0 h1 h2 h3).2 h4)]
  · rw [if_neg (fun h => by have := (u8_lt h0 h1 h2 h3).1 h; omega), if_pos ((u8_lt h2 h3 h0 h1).2 h4)]
theorem cmp_refl : ∀ (x : List UInt8), Lib.compareBytes x x = 0
  | [] => rfl
  | c :: x => by
    have h : ¬ c < c := by simp
    rw [Lib.compareBytes, if_neg h, if_neg h, cmp_refl x]
theorem Dif.prefix {o : Int} {x y : List Int} (h : Dif o x y) : Lib.hasPrefix (Lib.bytesOf x) (Lib.bytesOf y) = false ∧ Lib.hasPrefix (Lib.bytesOf y) (Lib.bytesOf x) = false := by
  obtain ⟨p, a, b, s, t, rfl, rfl, h0, h1, h2, h3, h4⟩ := h
  have hne : UInt8.ofNat a.toNat ≠ UInt8.ofNat b.toNat := fun e => by
    have e1 := u8_lt h0 h1 h2 h3
    have e2 := u8_lt h2 h3 h0 h1
    rw [e] at e1 e2
    have : ¬ UInt8.ofNat b.toNat < UInt8.ofNat b.toNat := by simp
    rcases h4 with ⟨h4, _⟩ | ⟨h4, _⟩
    · exact this (e1.2 h4)
    · exact this (e2.2 h4)
  have key : ∀ (p : List UInt8) (a b : UInt8) (s t : List UInt8), a ≠ b → (p ++ b :: t).isPrefixOf (p ++ a :: s) = false := by
    intro p
    induction p with
    | nil => intro a b s t h; simp [List.isPrefixOf, Ne.symm h]
    | cons c p ih => intro a b s t h; simp only [List.cons_append, List.isPrefixOf, beq_self_eq_true, Bool.true_and]; exact ih a b s t h
  unfold Lib.hasPrefix
  rw [bytesOf_append, bytesOf_append]
  exact ⟨key _ _ _ _ _ hne, key _ _ _ _ _ hne.symm⟩

theorem sgn_self (x : Int) : sgn x x = 0 := by unfold sgn; rw [if_neg (by omega), if_neg (by omega)]
theorem sgn_zero {x y : Int} (h : sgn x y = 0) : x = y := by
  unfold sgn at h
  by_cases h1 : x < y
  · rw [if_pos h1] at h; cases h
  rw [if_neg h1] at h
  by_cases h2 : y < x
  · rw [if_pos h2] at h; cases h
  · omega
theorem wordB_dif {n m : Int} (h0 : 0 ≤ n) (h1 : n ≤ 18446744073709551615) (h2 : 0 ≤ m) (h3 : m ≤ 18446744073709551615) (hne : n ≠ m) : Dif (sgn n m) (wordB n) (wordB m) := by
  have go : ∀ {o a b : Int} {s t : List Int}, 0 ≤ a → a ≤ 255 → 0 ≤ b → b ≤ 255 → a ≠ b → (a < b ↔ n < m) → Dif (sgn n m) (a :: s) (b :: t) := by
    intro o a b s t ha ha' hb hb' hab hlt
    have := Dif.head s t ha ha' hb hb' hab
    rwa [show sgn a b = sgn n m by unfold sgn; by_cases h : a < b; rw [if_pos h, if_pos (hlt.1 h)]; rw [if_neg h, if_neg (fun g => h (hlt.2 g)), if_pos (by omega), if_pos (by omega)]] at this
  unfold wordB
  by_cases e1 : n / 72057594037927936 = m / 72057594037927936
  rotate_left
  · exact go (o := 0) (by omega) (by omega) (by omega) (by omega) e1 (by omega)
  rw [e1]; refine Dif.cons ?_ _
  by_cases e2 : n / 281474976710656 % 256 = m / 281474976710656 % 256
  rotate_left
  · exact go (o := 0) (by omega) (by omega) (by omega) (by omega) e2 (by omega)
  rw [e2]; refine Dif.cons ?_ _
  by_cases e3 : n / 1099511627776 % 256 = m / 1099511627776 % 256
  rotate_left
  · exact go (o := 0) (by omega) (by omega) (by omega) (by omega) e3 (by omega)
  rw [e3]; refine Dif.cons ?_ _
  by_cases e4 : n / 4294967296 % 256 = m / 4294967296 % 256
  rotate_left
  · exact go (o := 0) (by omega) (by omega) (by omega) (by omega) e4 (by omega)
  rw [e4]; refine Dif.cons ?_ _
  by_cases e5 : n / 16777216 % 256 = m / 16777216 % 256
  rotate_left
  · exact go (o := 0) (by omega) (by omega) (by omega) (by omega) e5 (by omega)
  rw [e5]; refine Dif.cons ?_ _
  by_cases e6 : n / 65536 % 256 = m / 65536 % 256
  rotate_left
  · exact go (o := 0) (by omega) (by omega) (by omega) (by omega) e6 (by omega)
  rw [e6]; refine Dif.cons ?_ _
  by_cases e7 : n / 256 % 256 = m / 256 % 256
  rotate_left
  · exact go (o := 0) (by omega) (by omega) (by omega) (by omega) e7 (by omega)
  rw [e7]; refine Dif.cons ?_ _
  by_cases e8 : n % 256 = m % 256
  · exfalso; apply hne; omega
  · exact go (o := 0) (by omega) (by omega) (by omega) (by omega) e8 (by omega)
end Go.Proofs.YtmpaaedccodjaaaDoor
