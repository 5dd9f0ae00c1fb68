/-
  Plain law: texts stand in the order of their scalars. No conditions.
-/
import Derived.Test.YtiklmgjacdoeoaaUtf1
import Derived.Lib.Bytealg
namespace Go.Proofs.Ytiklmgjacdoeoaa
open Go.RowKit Gx

/-- which of two lists stands first -/
def cmpInts : List Int → List Int → Int
  | [], [] => 0
  | [], _ :: _ => -1
  | _ :: _, [] => 1
  | a :: xs', b :: ys' => if a < b then -1 else if b < a then 1 else cmpInts xs' ys'

theorem cmpInts_anti : ∀ a b, cmpInts b a = - cmpInts a b
  | [], [] => rfl
  | [], _ :: _ => rfl
  | _ :: _, [] => rfl
  | a :: xs', b :: ys' => by
    unfold cmpInts
    rw [cmpInts_anti xs' ys']
    split <;> split <;> first | omega | rfl

theorem bytes_anti : ∀ a b, Lib.compareBytes b a = - Lib.compareBytes a b
  | [], [] => rfl
  | [], _ :: _ => rfl
  | _ :: _, [] => rfl
  | a :: xs', b :: ys' => by
    unfold Lib.compareBytes
    rw [bytes_anti xs' ys']
    by_cases h : a < b
    · have h2 : ¬ b < a := fun h3 => absurd (UInt8.lt_trans h h3) (UInt8.lt_irrefl a)
      rw [if_neg h2, if_pos h, if_pos h]; rfl
    · rw [if_neg h]
      by_cases h2 : b < a
      · rw [if_pos h2, if_neg h, if_pos h2]
      · rw [if_neg h2, if_neg h, if_neg h2]

theorem bytes_same : ∀ p x y, Lib.compareBytes (p ++ x) (p ++ y) = Lib.compareBytes x y
  | [], x, y => rfl
  | a :: p, x, y => by
    rw [List.cons_append, List.cons_append, Lib.compareBytes, if_neg (UInt8.lt_irrefl a), if_neg (UInt8.lt_irrefl a), bytes_same p x y]

theorem byte_lt (a b : Int) (ha : 0 ≤ a) (ha2 : a < 256) (hb : 0 ≤ b) (hb2 : b < 256) : a.toNat.toUInt8 < b.toNat.toUInt8 ↔ a < b := by
  rw [UInt8.lt_iff_toNat_lt]
  have e1 : a.toNat.toUInt8.toNat = a.toNat := by
    show a.toNat % 256 = a.toNat
    omega
  have e2 : b.toNat.toUInt8.toNat = b.toNat := by
    show b.toNat % 256 = b.toNat
    omega
  rw [e1, e2]
  omega

theorem step_lt (a b : Int) (u v : List UInt8) (ha : 0 ≤ a) (hab : a < b) (hb2 : b < 256) : Lib.compareBytes (a.toNat.toUInt8 :: u) (b.toNat.toUInt8 :: v) = -1 := by
  rw [Lib.compareBytes, if_pos ((byte_lt a b ha (by omega) (by omega) hb2).2 hab)]
theorem step_eq (a b : Int) (u v : List UInt8) (hab : a = b) : Lib.compareBytes (a.toNat.toUInt8 :: u) (b.toNat.toUInt8 :: v) = Lib.compareBytes u v := by
  subst hab
  rw [Lib.compareBytes, if_neg (UInt8.lt_irrefl _), if_neg (UInt8.lt_irrefl _)]

theorem enc_lt (r s : Int) (x y : List UInt8) (hr : good r = true) (hs : good s = true) (h : r < s) : Lib.compareBytes (Lib.encodeRune r ++ x) (Lib.encodeRune s ++ y) = -1 := by
  rw [good_iff] at hr hs
  unfold Lib.encodeRune
  by_cases r1 : r ≤ 127
  · rw [Lib.encodeRuneZ_one hr.1 r1]
    by_cases s1 : s ≤ 127
    · rw [Lib.encodeRuneZ_one hs.1 s1]; exact step_lt _ _ _ _ (by omega) (by omega) (by omega)
    by_cases s2 : s ≤ 2047
    · rw [Lib.encodeRuneZ_two (by omega) s2]; exact step_lt _ _ _ _ (by omega) (by omega) (by omega)
    by_cases s3 : s ≤ 65535
    · rw [Lib.encodeRuneZ_three (by omega)]; exact step_lt _ _ _ _ (by omega) (by omega) (by omega)
    · rw [Lib.encodeRuneZ_four (by omega) (by omega)]; exact step_lt _ _ _ _ (by omega) (by omega) (by omega)
  have s1 : ¬ s ≤ 127 := by omega
  by_cases r2 : r ≤ 2047
  · rw [Lib.encodeRuneZ_two (by omega) r2]
    by_cases s2 : s ≤ 2047
    · rw [Lib.encodeRuneZ_two (by omega) s2]
      by_cases e : r / 64 < s / 64
      · exact step_lt _ _ _ _ (by omega) (by omega) (by omega)
      · refine (step_eq _ _ _ _ (by omega)).trans ?_
        exact step_lt _ _ _ _ (by omega) (by omega) (by omega)
    by_cases s3 : s ≤ 65535
    · rw [Lib.encodeRuneZ_three (by omega)]; exact step_lt _ _ _ _ (by omega) (by omega) (by omega)
    · rw [Lib.encodeRuneZ_four (by omega) (by omega)]; exact step_lt _ _ _ _ (by omega) (by omega) (by omega)
  have s2 : ¬ s ≤ 2047 := by omega
  by_cases r3 : r ≤ 65535
  · rw [Lib.encodeRuneZ_three (by omega)]
    by_cases s3 : s ≤ 65535
    · rw [Lib.encodeRuneZ_three (by omega)]
      by_cases e : r / 4096 < s / 4096
      · exact step_lt _ _ _ _ (by omega) (by omega) (by omega)
      refine (step_eq _ _ _ _ (by omega)).trans ?_
      by_cases e : r / 64 % 64 < s / 64 % 64
      · exact step_lt _ _ _ _ (by omega) (by omega) (by omega)
      refine (step_eq _ _ _ _ (by omega)).trans ?_
      exact step_lt _ _ _ _ (by omega) (by omega) (by omega)
    · rw [Lib.encodeRuneZ_four (by omega) (by omega)]; exact step_lt _ _ _ _ (by omega) (by omega) (by omega)
  have s3 : ¬ s ≤ 65535 := by omega
  rw [Lib.encodeRuneZ_four (by omega) (by omega), Lib.encodeRuneZ_four (by omega) (by omega)]
  by_cases e : r / 262144 < s / 262144
  · exact step_lt _ _ _ _ (by omega) (by omega) (by omega)
  refine (step_eq _ _ _ _ (by omega)).trans ?_
  by_cases e : r / 4096 % 64 < s / 4096 % 64
  · exact step_lt _ _ _ _ (by omega) (by omega) (by omega)
  refine (step_eq _ _ _ _ (by omega)).trans ?_
  by_cases e : r / 64 % 64 < s / 64 % 64
  · exact step_lt _ _ _ _ (by omega) (by omega) (by omega)
  refine (step_eq _ _ _ _ (by omega)).trans ?_
  exact step_lt _ _ _ _ (by omega) (by omega) (by omega)

theorem enc_cons (r : Int) : ∃ b t, Lib.encodeRune r = b :: t := by
  have h := (Lib.encodeRuneZ_length r).1
  unfold Lib.encodeRune
  cases hz : Lib.encodeRuneZ r with
  | nil => rw [hz] at h; simp at h
  | cons b t => exact ⟨_, _, rfl⟩

theorem order_law : ∀ a b : List Int, a.all good = true → b.all good = true → Lib.compareBytes (encs a) (encs b) = cmpInts a b
  | [], [], _, _ => rfl
  | [], s :: ys', _, _ => by
    obtain ⟨b, t, e⟩ := enc_cons s
    unfold encs
    rw [List.flatMap_cons, e]; rfl
  | r :: xs', [], _, _ => by
    obtain ⟨b, t, e⟩ := enc_cons r
    unfold encs
    rw [List.flatMap_cons, e]; rfl
  | r :: xs', s :: ys', ha, hb => by
    rw [List.all_cons, Bool.and_eq_true] at ha hb
    have ih := order_law xs' ys' ha.2 hb.2
    unfold encs at ih ⊢
    rw [List.flatMap_cons, List.flatMap_cons, cmpInts]
    by_cases h1 : r < s
    · rw [if_pos h1, enc_lt r s _ _ ha.1 hb.1 h1]
    · rw [if_neg h1]
      by_cases h2 : s < r
      · rw [if_pos h2, bytes_anti, enc_lt s r _ _ hb.1 ha.1 h2]; rfl
      · rw [if_neg h2]
        obtain rfl : r = s := by omega
        rw [bytes_same, ih]
end Go.Proofs.Ytiklmgjacdoeoaa
