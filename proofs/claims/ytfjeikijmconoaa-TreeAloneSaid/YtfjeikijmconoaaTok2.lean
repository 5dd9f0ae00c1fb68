/-
  The contracts of tok.text and tok.note. Condition of tok.note: the text has fewer than 2^31 bytes, and a variable of the library's holds some integer.
-/
import Derived.Test.YtfjeikijmconoaaTok1
import Derived.Lib.Strings
import Derived.Lib.IndexBytes
namespace Go.Proofs.Ytfjeikijmconoaa
open Go.RowKit Gx

def textScan : List UInt8 → Bool → Nat → Nat
  | [], _, _ => 0
  | b :: r, passed, i => if b = 10 then 0 else if passed = true then textScan r false (i + 1) else if b = 34 then i + 1 else textScan r (b == 92) (i + 1)
/-- how many bytes a text between quotes has, at the front; 0: there is none -/
def textLen (l : List UInt8) : Nat := textScan (l.drop 1) false 1

def IntPost (n : Int) (w : World) (e : Ending) (w' : World) : Prop := e = .returned (.int .i64 n) ∧ w = w'

theorem u8_beq (c m : UInt8) (n : Int) (h : (m.toNat : Int) = n) : ((c.toNat : Int) == n) = (c == m) := by
  rw [Bool.eq_iff_iff, beq_iff_eq, beq_iff_eq, ← h]
  constructor
  · intro h; apply UInt8.toNat_inj.1; omega
  · intro h; rw [h]
theorem drop_cons (l : List UInt8) (k : Nat) (h : k < l.length) : l.drop k = l[k] :: l.drop (k + 1) := List.drop_eq_getElem_cons h

set_option maxHeartbeats 1000000 in
theorem text_any (s : ByteArray) (w : World) (h0 : 0 < s.size) (hs : s.size ≤ 2147483648) :
    Calls Try.prog 24 #[.string s] w (IntPost (textLen s.data.toList) w) := by
  have hlen : s.data.toList.length = s.size := Array.length_toList
  have HL := Lib.hid hlen
  clear hlen
  go_enter Try.func24, Try.ntmps24
  go_wp2
  go_loop [3, 4] (fun p i => ∃ (k : Nat) (b : Bool), 1 ≤ k ∧ k ≤ s.size ∧ p = .bool b ∧ i = .int .i64 k ∧ Hid (textLen s.data.toList = textScan (s.data.toList.drop k) b k)) (fun _ i => s.size - (intOf i).toNat)
  case atStart => exact ⟨1, false, by omega, by omega, rfl, rfl, rfl⟩
  case round =>
    obtain ⟨k, b, hk1, hk, rfl, rfl, hv⟩ := hrel
    by_cases hlt : k < s.size
    · have hlt' : k < s.data.toList.length := by rw [HL.out]; exact hlt
      have hv2 := hv.out
      rw [drop_cons _ k hlt'] at hv2
      have eb : s.data.toList[k] = s[k]'hlt := rfl
      rw [eb] at hv2
      obtain ⟨c, hc⟩ : ∃ c, c = s[k]'hlt := ⟨_, rfl⟩
      rw [← hc] at hv2
      have hcs : ((s[k]'hlt).toNat : Int) = (c.toNat : Int) := by rw [hc]
      clear eb
      by_cases h10 : c = 10
      · have t1 : ((s[k].toNat : Int) == 10) = true := by rw [hcs, h10]; rfl
        have HV : Hid (textLen s.data.toList = 0) := by show _ = _; rw [hv2]; unfold textScan; rw [if_pos h10]
        clear hv2 hv hcs hc h10
        go_wp2
        go_ret
        exact ⟨by rw [HV.out]; rfl, rfl⟩
      · have t1 : ((s[k].toNat : Int) == 10) = false := by
          rw [hcs, u8_beq c 10 10 rfl]; simpa using h10
        cases b
        · by_cases h34 : c = 34
          · have t2 : ((s[k].toNat : Int) == 34) = true := by rw [hcs, h34]; rfl
            have HV : Hid (textLen s.data.toList = k + 1) := by
              show _ = _; rw [hv2]; unfold textScan; rw [if_neg h10, if_neg (by decide), if_pos h34]
            clear hv2 hv hcs hc h10 h34
            go_wp2
            go_ret
            refine ⟨?_, rfl⟩
            rw [HV.out, show ((k + 1 : Nat) : Int) = (k : Int) + 1 by omega]; rfl
          · have t2 : ((s[k].toNat : Int) == 34) = false := by
              rw [hcs, u8_beq c 34 34 rfl]; simpa using h34
            have t3 : ((s[k].toNat : Int) == 92) = (c == 92) := by rw [hcs]; exact u8_beq c 92 92 rfl
            have HV : Hid (textLen s.data.toList = textScan (s.data.toList.drop (k + 1)) (c == 92) (k + 1)) := by
              show _ = _; rw [hv2]; conv => lhs; unfold textScan
              rw [if_neg h10, if_neg (by decide), if_neg h34]
            clear hv2 hv hcs hc h10 h34
            go_wp2
            go_round
            case rel => exact ⟨k + 1, c == 92, by omega, by omega, by rfl, by go_num, HV⟩
            case measure => simp [intOf]; omega
        · have HV : Hid (textLen s.data.toList = textScan (s.data.toList.drop (k + 1)) false (k + 1)) := by
            show _ = _; rw [hv2]; conv => lhs; unfold textScan
            rw [if_neg h10, if_pos rfl]
          clear hv2 hv hcs hc h10
          go_wp2
          go_round
          case rel => exact ⟨k + 1, false, by omega, by omega, rfl, by go_num, HV⟩
          case measure => simp [intOf]; omega
    · obtain rfl : k = s.size := by omega
      have HV : Hid (textLen s.data.toList = 0) := by
        show _ = _
        rw [hv.out, List.drop_eq_nil_of_le (by rw [HL.out]; exact Nat.le_refl _)]; rfl
      clear hv
      go_wp2
      go_ret
      exact ⟨by rw [HV.out]; rfl, rfl⟩
end Go.Proofs.Ytfjeikijmconoaa
