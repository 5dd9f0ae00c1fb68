/-
  The contract of NumUnder's own test on digits, and facts on bytes. No conditions.
-/
import Derived.Test.YtpoagjiknmahiaaDoorNumUnderLaw
namespace Go.Proofs.YtpoagjiknmahiaaDoor
open Go.RowKit Gx

def HexPost (c : Int) (w : World) (e : Ending) (w' : World) : Prop := e = .returned (.bool (hexB c)) ∧ w = w'

set_option maxHeartbeats 400000 in
theorem hex_any (c : Int) (w : World) : Calls Tryd.prog 8 #[.int .u8 c] w (HexPost c w) := by
  have c1 : (48 ≤ c ∧ c ≤ 57) ∨ (97 ≤ c ∧ c ≤ 102) ∨ (65 ≤ c ∧ c ≤ 70) ∨ c < 48 ∨ (57 < c ∧ c < 65) ∨ (70 < c ∧ c < 97) ∨ 102 < c := by omega
  have e : hexB c = (decide (48 ≤ c ∧ c ≤ 57) || decide (97 ≤ c ∧ c ≤ 102) || decide (65 ≤ c ∧ c ≤ 70)) := rfl
  rcases c1 with ⟨c1, c2⟩ | ⟨c1, c2⟩ | ⟨c1, c2⟩ | c1 | ⟨c1, c2⟩ | ⟨c1, c2⟩ | c1
  · have e : hexB c = true := by rw [e, decide_eq_true (show 48 ≤ c ∧ c ≤ 57 from ⟨c1, c2⟩)]; rfl
    have E := Lib.hid e
    clear e
    go_enter Tryd.func8, Tryd.ntmps8
    go_wp2
    go_ret
    exact ⟨by rw [E.out]; rfl, rfl⟩
  · have e : hexB c = true := by rw [e, decide_eq_true (show 97 ≤ c ∧ c ≤ 102 from ⟨c1, c2⟩), Bool.or_true]; rfl
    have E := Lib.hid e
    have c3 : ¬ c ≤ 57 := by omega
    clear e
    go_enter Tryd.func8, Tryd.ntmps8
    go_wp2
    go_ret
    exact ⟨by rw [E.out]; rfl, rfl⟩
  · have e : hexB c = true := by rw [e, decide_eq_true (show 65 ≤ c ∧ c ≤ 70 from ⟨c1, c2⟩), Bool.or_true]
    have E := Lib.hid e
    have c3 : ¬ c ≤ 57 := by omega
    have c4 : ¬ 97 ≤ c := by omega
    clear e
    go_enter Tryd.func8, Tryd.ntmps8
    go_wp2
    go_ret
    exact ⟨by rw [E.out]; rfl, rfl⟩
  · have e : hexB c = false := by
      rw [e, decide_eq_false (show ¬ (48 ≤ c ∧ c ≤ 57) by omega), decide_eq_false (show ¬ (97 ≤ c ∧ c ≤ 102) by omega), decide_eq_false (show ¬ (65 ≤ c ∧ c ≤ 70) by omega)]; rfl
    have E := Lib.hid e
    clear e
    go_enter Tryd.func8, Tryd.ntmps8
    go_wp2
    go_ret
    exact ⟨by rw [E.out]; rfl, rfl⟩
  · have e : hexB c = false := by
      rw [e, decide_eq_false (show ¬ (48 ≤ c ∧ c ≤ 57) by omega), decide_eq_false (show ¬ (97 ≤ c ∧ c ≤ 102) by omega), decide_eq_false (show ¬ (65 ≤ c ∧ c ≤ 70) by omega)]; rfl
    have E := Lib.hid e
    clear e
    have t0 : ¬ c ≤ 57 := by omega
    go_enter Tryd.func8, Tryd.ntmps8
    go_wp2
    go_ret
    exact ⟨by rw [E.out]; rfl, rfl⟩
  · have e : hexB c = false := by
      rw [e, decide_eq_false (show ¬ (48 ≤ c ∧ c ≤ 57) by omega), decide_eq_false (show ¬ (97 ≤ c ∧ c ≤ 102) by omega), decide_eq_false (show ¬ (65 ≤ c ∧ c ≤ 70) by omega)]; rfl
    have E := Lib.hid e
    clear e
    have t0 : ¬ c ≤ 57 := by omega
    have t1 : ¬ c ≤ 70 := by omega
    go_enter Tryd.func8, Tryd.ntmps8
    go_wp2
    go_ret
    exact ⟨by rw [E.out]; rfl, rfl⟩
  · have e : hexB c = false := by
      rw [e, decide_eq_false (show ¬ (48 ≤ c ∧ c ≤ 57) by omega), decide_eq_false (show ¬ (97 ≤ c ∧ c ≤ 102) by omega), decide_eq_false (show ¬ (65 ≤ c ∧ c ≤ 70) by omega)]; rfl
    have E := Lib.hid e
    clear e
    have t0 : ¬ c ≤ 57 := by omega
    have t1 : ¬ c ≤ 70 := by omega
    have t2 : ¬ c ≤ 102 := by omega
    go_enter Tryd.func8, Tryd.ntmps8
    go_wp2
    go_ret
    exact ⟨by rw [E.out]; rfl, rfl⟩

theorem byteI (s : ByteArray) (i : Nat) (h : i < s.size) : s[i]'h = s.data.toList.getD i 0 := by
  have h2 : i < s.data.size := h
  show s.data[i] = _
  simp [List.getD, Array.getElem?_eq_getElem h2]
theorem byte_eq (b d : UInt8) : ((b.toNat : Int) == (d.toNat : Int)) = decide (b = d) := by
  rw [Bool.eq_iff_iff]
  simp only [beq_iff_eq, decide_eq_true_eq]
  constructor
  · intro h; apply UInt8.toNat_inj.1; omega
  · rintro rfl; rfl
theorem byte_ne {b : UInt8} (h : ¬ b = 45) : ((b.toNat : Int) == 45) = false := by
  have := byte_eq b 45
  rw [decide_eq_false h] at this
  exact this
theorem byte_of (b : UInt8) : b.toNat.toUInt8 = b := by simp
theorem idx3 (b : UInt8) : 0 ≤ Lib.indexByte [120, 111, 98] b ↔ (b = 120 ∨ b = 111 ∨ b = 98) := by
  simp only [Lib.indexByte]
  by_cases h1 : (120 : UInt8) = b
  · subst h1; simp
  by_cases h2 : (111 : UInt8) = b
  · subst h2; simp
  by_cases h3 : (98 : UInt8) = b
  · subst h3; simp
  · have e1 : ((120 : UInt8) == b) = false := by simpa using h1
    have e2 : ((111 : UInt8) == b) = false := by simpa using h2
    have e3 : ((98 : UInt8) == b) = false := by simpa using h3
    simp only [e1, e2, e3]
    constructor
    · intro h; simp at h
    · rintro (h | h | h)
      · exact absurd h.symm h1
      · exact absurd h.symm h2
      · exact absurd h.symm h3
theorem getD_dropL (l : List UInt8) (p j : Nat) : (l.drop p).getD j 0 = l.getD (p + j) 0 := by simp [List.getD, List.getElem?_drop]

end Go.Proofs.YtpoagjiknmahiaaDoor
