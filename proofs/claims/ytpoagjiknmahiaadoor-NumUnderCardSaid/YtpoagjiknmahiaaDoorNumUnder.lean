/-
  The walk of typecasekeep.NumUnder. No conditions.
-/
import Derived.Test.YtpoagjiknmahiaaDoorNumHex
import Derived.Deep.RegionLaw
import Derived.Lib.IndexBytes
namespace Go.Proofs.YtpoagjiknmahiaaDoor
open Go.RowKit Gx

set_option maxRecDepth 4000 in
set_option maxHeartbeats 8000000 in
theorem numUnder_walk (s : ByteArray) (at_ : Int) (w : World) : Calls Tryd.prog 4 #[.string s, .int .i64 at_] w (TruePost w) := by
  have hr1 := fun w => read_any s w
  unfold ReadPost at hr1
  obtain ⟨l, hl⟩ : ∃ l, l = s.data.toList := ⟨_, rfl⟩
  rw [← hl] at hr1
  obtain ⟨n, hn⟩ : ∃ n, n = (readOf l).1 := ⟨_, rfl⟩
  obtain ⟨x, hx⟩ : ∃ x, x = (readOf l).2 := ⟨_, rfl⟩
  rw [← hn, ← hx] at hr1
  have HR1 := Lib.hid hr1
  have HSL : Hid (s.size = l.length) := by show _ = _; rw [hl]; exact Lib.size_eq s
  have HBY : Hid (∀ (i : Nat) (h : i < s.size), s[i]'h = l.getD i 0) := by intro i h; rw [hl]; exact byteI s i h
  have HL := Lib.hid hl
  have HN := Lib.hid hn
  have HX := Lib.hid hx
  clear hr1 hl hn hx
  go_enter Tryd.func4, Tryd.ntmps4
  go_wp2_with fail
  refine (nums_any w).mono ?_
  rintro e w1 ⟨rfl, hb1⟩
  go_wp2_with fail
  refine (HR1.out w1).mono ?_
  rintro e w2 ⟨rfl, hb⟩
  have hb2 : Below w.heap.size w w2 := hb1.trans (hb.mono hb1.size)
  clear hb hb1
  by_cases hx0 : x = 0
  · subst hx0
    by_cases h1 : at_ < 1
    · go_wp2
      go_ret
      exact ⟨rfl, hb2⟩
    by_cases h2 : (s.size : Int) ≤ at_
    · go_wp2
      go_ret
      exact ⟨rfl, hb2⟩
    by_cases h3 : (80 : Int) ≤ (s.size : Int)
    · go_wp2
      go_ret
      exact ⟨rfl, hb2⟩
    obtain ⟨k, rfl⟩ := Int.eq_ofNat_of_zero_le (show 0 ≤ at_ by omega)
    have hk1 : 1 ≤ k := by omega
    have hk2 : k < s.size := by omega
    have hpos : 0 < s.size := by omega
    have d1 : decide ((k : Int) < 1) = false := decide_eq_false h1
    have d2 : decide ((s.size : Int) ≤ (k : Int)) = false := decide_eq_false h2
    have d3 : decide ((80 : Int) ≤ (s.size : Int)) = false := decide_eq_false h3
    -- GENERATED
    by_cases h45 : l.getD 0 0 = 45
    · have hsg : signLen l = 1 := by
        unfold signLen; rw [if_pos h45]
      have hq : (((s[0]'hpos).toNat : Int) == 45) = true := by rw [HBY.out 0 hpos, h45]; rfl
      by_cases hlen : 2 < s.size
      · have hz0 : (((s[1]'(by omega)).toNat : Int) == 48) = decide (l.getD 1 0 = 48) := by rw [HBY.out 1 (by omega)]; exact byte_eq _ 48
        by_cases h48 : l.getD 1 0 = 48
        · rw [decide_eq_true h48] at hz0
          have hix := fun w => Tryd.strings_IndexByte ⟨#[120, 111, 98]⟩ ((s[2]'hlen).toNat : Int) w
          simp only [Int.toNat_natCast, byte_of] at hix
          have hi3 := idx3 (s[2]'hlen)
          rw [HBY.out 2 hlen] at hi3
          obtain ⟨v, hv⟩ : ∃ v, v = Lib.indexByte [120, 111, 98] (s[2]'hlen) := ⟨_, rfl⟩
          have hi4 : 0 ≤ v ↔ (l.getD 2 0 = 120 ∨ l.getD 2 0 = 111 ∨ l.getD 2 0 = 98) := by rw [hv, HBY.out 2 hlen]; exact hi3
          have hix2 : ∀ w, Calls Tryd.prog 9 #[.string ⟨#[120, 111, 98]⟩, .int .u8 ((s[2]'hlen).toNat : Int)] w fun e w' => e = .returned (.int .i64 v) ∧ w' = w := by
            intro w; rw [hv]; exact hix w
          have HIX := Lib.hid hix2
          have HI4 := Lib.hid hi4
          clear hix hix2 hi3 hv hi4
          by_cases hv0 : 0 ≤ v
          · have hp : preLen (l.drop 1) = 2 := by
              unfold preLen
              rw [if_pos ⟨by rw [List.length_drop, ← HSL.out]; omega, by rw [getD_dropL]; exact h48, by rw [getD_dropL]; exact HI4.out.1 hv0⟩]
            go_wp2_with fail
            refine (HIX.out w2).mono ?_
            rintro e w3 ⟨rfl, rfl⟩
            have hpre : preLen (l.drop (signLen l)) = 2 := by rw [hsg]; exact hp
            by_cases hkF : k ≤ 3
            · have t9 : decide ((k : Int) ≤ 3) = true := decide_eq_true (by omega)
              go_wp2
              go_ret
              exact ⟨rfl, hb2⟩
            have t9 : decide ((k : Int) ≤ 3) = false := decide_eq_false (by omega)
            cases hh1 : hexB ((s[k - 1]'(by omega)).toNat : Int) with
            | false =>
              go_wp2_with fail
              refine (hex_any _ _).mono ?_
              rintro e w3 ⟨rfl, rfl⟩
              rw [hh1]
              go_wp2
              go_ret
              exact ⟨rfl, hb2⟩
            | true =>
              cases hh2 : hexB ((s[k]'hk2).toNat : Int) with
              | false =>
                go_wp2_with fail
                refine (hex_any _ _).mono ?_
                rintro e w3 ⟨rfl, rfl⟩
                rw [hh1]
                go_wp2_with fail
                refine (hex_any _ _).mono ?_
                rintro e w3 ⟨rfl, rfl⟩
                rw [hh2]
                go_wp2
                go_ret
                exact ⟨rfl, hb2⟩
              | true =>
                have hst := stroke_law l k (by rw [← HSL.out]; omega) (by rw [hpre, hsg]; omega) (by rw [← HSL.out]; exact hk2) (by rw [← HBY.out (k - 1) (by omega)]; exact hh1) (by rw [← HBY.out k hk2]; exact hh2) HX.out.symm
                have hcat : (s.extract 0 k ++ ⟨#[95]⟩ ++ s.extract k s.size).data.toList = l.take k ++ 95 :: l.drop k := by
                  rw [ByteArray.data_append, ByteArray.data_append, Array.toList_append, Array.toList_append, Lib.extract_to_end, Lib.extract_data, List.drop_zero, Nat.sub_zero, ← HL.out]
                  simp
                have hr2 := fun w => read_any (s.extract 0 k ++ ⟨#[95]⟩ ++ s.extract k s.size) w
                unfold ReadPost at hr2
                rw [hcat, hst, ← HN.out, ← HX.out] at hr2
                have HR2 := Lib.hid hr2
                have i1 : (0 : Int) ≤ (k : Int) := by omega
                have i2 : (k : Int) ≤ (s.size : Int) := by omega
                have jm : min k s.size = k := by omega
                have j1 : ¬ (9223372036854775807 < k + 1) := by omega
                have j2 : ¬ (9223372036854775807 < k + 1 + (s.size - k)) := by omega
                clear hst hcat hr2
                go_wp2_with fail
                refine (hex_any _ _).mono ?_
                rintro e w3 ⟨rfl, rfl⟩
                rw [hh1]
                go_wp2_with fail
                refine (hex_any _ _).mono ?_
                rintro e w3 ⟨rfl, rfl⟩
                rw [hh2]
                go_wp2_with fail
                go_region_law (first | (go_simp; go_at_call 7; refine (HR2.out _).mono ?_; rintro e w3 ⟨rfl, hb⟩))
                have hb3 : Below w.heap.size w w3 := hb2.drew.trans (hb.mono hb2.drew.size)
                go_wp2
                go_ret
                exact ⟨by simp, hb3⟩
          · have hp : preLen (l.drop 1) = 0 := by
              unfold preLen
              rw [if_neg]
              rintro ⟨-, -, h⟩
              rw [getD_dropL] at h
              exact hv0 (HI4.out.2 h)
            have hvd : decide (0 ≤ v) = false := decide_eq_false hv0
            go_wp2_with fail
            refine (HIX.out w2).mono ?_
            rintro e w3 ⟨rfl, rfl⟩
            have hpre : preLen (l.drop (signLen l)) = 0 := by rw [hsg]; exact hp
            by_cases hkF : k ≤ 1
            · have t9 : decide ((k : Int) ≤ 1) = true := decide_eq_true (by omega)
              go_wp2
              go_ret
              exact ⟨rfl, hb2⟩
            have t9 : decide ((k : Int) ≤ 1) = false := decide_eq_false (by omega)
            cases hh1 : hexB ((s[k - 1]'(by omega)).toNat : Int) with
            | false =>
              go_wp2_with fail
              refine (hex_any _ _).mono ?_
              rintro e w3 ⟨rfl, rfl⟩
              rw [hh1]
              go_wp2
              go_ret
              exact ⟨rfl, hb2⟩
            | true =>
              cases hh2 : hexB ((s[k]'hk2).toNat : Int) with
              | false =>
                go_wp2_with fail
                refine (hex_any _ _).mono ?_
                rintro e w3 ⟨rfl, rfl⟩
                rw [hh1]
                go_wp2_with fail
                refine (hex_any _ _).mono ?_
                rintro e w3 ⟨rfl, rfl⟩
                rw [hh2]
                go_wp2
                go_ret
                exact ⟨rfl, hb2⟩
              | true =>
                have hst := stroke_law l k (by rw [← HSL.out]; omega) (by rw [hpre, hsg]; omega) (by rw [← HSL.out]; exact hk2) (by rw [← HBY.out (k - 1) (by omega)]; exact hh1) (by rw [← HBY.out k hk2]; exact hh2) HX.out.symm
                have hcat : (s.extract 0 k ++ ⟨#[95]⟩ ++ s.extract k s.size).data.toList = l.take k ++ 95 :: l.drop k := by
                  rw [ByteArray.data_append, ByteArray.data_append, Array.toList_append, Array.toList_append, Lib.extract_to_end, Lib.extract_data, List.drop_zero, Nat.sub_zero, ← HL.out]
                  simp
                have hr2 := fun w => read_any (s.extract 0 k ++ ⟨#[95]⟩ ++ s.extract k s.size) w
                unfold ReadPost at hr2
                rw [hcat, hst, ← HN.out, ← HX.out] at hr2
                have HR2 := Lib.hid hr2
                have i1 : (0 : Int) ≤ (k : Int) := by omega
                have i2 : (k : Int) ≤ (s.size : Int) := by omega
                have jm : min k s.size = k := by omega
                have j1 : ¬ (9223372036854775807 < k + 1) := by omega
                have j2 : ¬ (9223372036854775807 < k + 1 + (s.size - k)) := by omega
                clear hst hcat hr2
                go_wp2_with fail
                refine (hex_any _ _).mono ?_
                rintro e w3 ⟨rfl, rfl⟩
                rw [hh1]
                go_wp2_with fail
                refine (hex_any _ _).mono ?_
                rintro e w3 ⟨rfl, rfl⟩
                rw [hh2]
                go_wp2_with fail
                go_region_law (first | (go_simp; go_at_call 7; refine (HR2.out _).mono ?_; rintro e w3 ⟨rfl, hb⟩))
                have hb3 : Below w.heap.size w w3 := hb2.drew.trans (hb.mono hb2.drew.size)
                go_wp2
                go_ret
                exact ⟨by simp, hb3⟩
        · rw [decide_eq_false h48] at hz0
          have hp : preLen (l.drop 1) = 0 := by
            unfold preLen
            rw [if_neg]
            rintro ⟨-, h, -⟩
            rw [getD_dropL] at h
            exact h48 h
          have hpre : preLen (l.drop (signLen l)) = 0 := by rw [hsg]; exact hp
          by_cases hkF : k ≤ 1
          · have t9 : decide ((k : Int) ≤ 1) = true := decide_eq_true (by omega)
            go_wp2
            go_ret
            exact ⟨rfl, hb2⟩
          have t9 : decide ((k : Int) ≤ 1) = false := decide_eq_false (by omega)
          cases hh1 : hexB ((s[k - 1]'(by omega)).toNat : Int) with
          | false =>
            go_wp2_with fail
            refine (hex_any _ _).mono ?_
            rintro e w3 ⟨rfl, rfl⟩
            rw [hh1]
            go_wp2
            go_ret
            exact ⟨rfl, hb2⟩
          | true =>
            cases hh2 : hexB ((s[k]'hk2).toNat : Int) with
            | false =>
              go_wp2_with fail
              refine (hex_any _ _).mono ?_
              rintro e w3 ⟨rfl, rfl⟩
              rw [hh1]
              go_wp2_with fail
              refine (hex_any _ _).mono ?_
              rintro e w3 ⟨rfl, rfl⟩
              rw [hh2]
              go_wp2
              go_ret
              exact ⟨rfl, hb2⟩
            | true =>
              have hst := stroke_law l k (by rw [← HSL.out]; omega) (by rw [hpre, hsg]; omega) (by rw [← HSL.out]; exact hk2) (by rw [← HBY.out (k - 1) (by omega)]; exact hh1) (by rw [← HBY.out k hk2]; exact hh2) HX.out.symm
              have hcat : (s.extract 0 k ++ ⟨#[95]⟩ ++ s.extract k s.size).data.toList = l.take k ++ 95 :: l.drop k := by
                rw [ByteArray.data_append, ByteArray.data_append, Array.toList_append, Array.toList_append, Lib.extract_to_end, Lib.extract_data, List.drop_zero, Nat.sub_zero, ← HL.out]
                simp
              have hr2 := fun w => read_any (s.extract 0 k ++ ⟨#[95]⟩ ++ s.extract k s.size) w
              unfold ReadPost at hr2
              rw [hcat, hst, ← HN.out, ← HX.out] at hr2
              have HR2 := Lib.hid hr2
              have i1 : (0 : Int) ≤ (k : Int) := by omega
              have i2 : (k : Int) ≤ (s.size : Int) := by omega
              have jm : min k s.size = k := by omega
              have j1 : ¬ (9223372036854775807 < k + 1) := by omega
              have j2 : ¬ (9223372036854775807 < k + 1 + (s.size - k)) := by omega
              clear hst hcat hr2
              go_wp2_with fail
              refine (hex_any _ _).mono ?_
              rintro e w3 ⟨rfl, rfl⟩
              rw [hh1]
              go_wp2_with fail
              refine (hex_any _ _).mono ?_
              rintro e w3 ⟨rfl, rfl⟩
              rw [hh2]
              go_wp2_with fail
              go_region_law (first | (go_simp; go_at_call 7; refine (HR2.out _).mono ?_; rintro e w3 ⟨rfl, hb⟩))
              have hb3 : Below w.heap.size w w3 := hb2.drew.trans (hb.mono hb2.drew.size)
              go_wp2
              go_ret
              exact ⟨by simp, hb3⟩
      · have hp : preLen (l.drop 1) = 0 := by
          unfold preLen
          rw [if_neg]
          rintro ⟨h, -⟩
          rw [List.length_drop, ← HSL.out] at h
          omega
        have hlz : decide ((2 : Int) < (s.size : Int)) = false := decide_eq_false (by omega)
        have t9 : decide ((k : Int) ≤ 1) = true := decide_eq_true (by omega)
        clear hp
        go_wp2
        go_ret
        exact ⟨rfl, hb2⟩
    · have hsg : signLen l = 0 := by
        unfold signLen; rw [if_neg h45]
      have hq : (((s[0]'hpos).toNat : Int) == 45) = false := by rw [HBY.out 0 hpos]; exact byte_ne h45
      by_cases hlen : 1 < s.size
      · have hz0 : (((s[0]'(by omega)).toNat : Int) == 48) = decide (l.getD 0 0 = 48) := by rw [HBY.out 0 (by omega)]; exact byte_eq _ 48
        by_cases h48 : l.getD 0 0 = 48
        · rw [decide_eq_true h48] at hz0
          have hix := fun w => Tryd.strings_IndexByte ⟨#[120, 111, 98]⟩ ((s[1]'hlen).toNat : Int) w
          simp only [Int.toNat_natCast, byte_of] at hix
          have hi3 := idx3 (s[1]'hlen)
          rw [HBY.out 1 hlen] at hi3
          obtain ⟨v, hv⟩ : ∃ v, v = Lib.indexByte [120, 111, 98] (s[1]'hlen) := ⟨_, rfl⟩
          have hi4 : 0 ≤ v ↔ (l.getD 1 0 = 120 ∨ l.getD 1 0 = 111 ∨ l.getD 1 0 = 98) := by rw [hv, HBY.out 1 hlen]; exact hi3
          have hix2 : ∀ w, Calls Tryd.prog 9 #[.string ⟨#[120, 111, 98]⟩, .int .u8 ((s[1]'hlen).toNat : Int)] w fun e w' => e = .returned (.int .i64 v) ∧ w' = w := by
            intro w; rw [hv]; exact hix w
          have HIX := Lib.hid hix2
          have HI4 := Lib.hid hi4
          clear hix hix2 hi3 hv hi4
          by_cases hv0 : 0 ≤ v
          · have hp : preLen (l.drop 0) = 2 := by
              unfold preLen
              rw [if_pos ⟨by rw [List.length_drop, ← HSL.out]; omega, by rw [getD_dropL]; exact h48, by rw [getD_dropL]; exact HI4.out.1 hv0⟩]
            go_wp2_with fail
            refine (HIX.out w2).mono ?_
            rintro e w3 ⟨rfl, rfl⟩
            have hpre : preLen (l.drop (signLen l)) = 2 := by rw [hsg]; exact hp
            by_cases hkF : k ≤ 2
            · have t9 : decide ((k : Int) ≤ 2) = true := decide_eq_true (by omega)
              go_wp2
              go_ret
              exact ⟨rfl, hb2⟩
            have t9 : decide ((k : Int) ≤ 2) = false := decide_eq_false (by omega)
            cases hh1 : hexB ((s[k - 1]'(by omega)).toNat : Int) with
            | false =>
              go_wp2_with fail
              refine (hex_any _ _).mono ?_
              rintro e w3 ⟨rfl, rfl⟩
              rw [hh1]
              go_wp2
              go_ret
              exact ⟨rfl, hb2⟩
            | true =>
              cases hh2 : hexB ((s[k]'hk2).toNat : Int) with
              | false =>
                go_wp2_with fail
                refine (hex_any _ _).mono ?_
                rintro e w3 ⟨rfl, rfl⟩
                rw [hh1]
                go_wp2_with fail
                refine (hex_any _ _).mono ?_
                rintro e w3 ⟨rfl, rfl⟩
                rw [hh2]
                go_wp2
                go_ret
                exact ⟨rfl, hb2⟩
              | true =>
                have hst := stroke_law l k (by rw [← HSL.out]; omega) (by rw [hpre, hsg]; omega) (by rw [← HSL.out]; exact hk2) (by rw [← HBY.out (k - 1) (by omega)]; exact hh1) (by rw [← HBY.out k hk2]; exact hh2) HX.out.symm
                have hcat : (s.extract 0 k ++ ⟨#[95]⟩ ++ s.extract k s.size).data.toList = l.take k ++ 95 :: l.drop k := by
                  rw [ByteArray.data_append, ByteArray.data_append, Array.toList_append, Array.toList_append, Lib.extract_to_end, Lib.extract_data, List.drop_zero, Nat.sub_zero, ← HL.out]
                  simp
                have hr2 := fun w => read_any (s.extract 0 k ++ ⟨#[95]⟩ ++ s.extract k s.size) w
                unfold ReadPost at hr2
                rw [hcat, hst, ← HN.out, ← HX.out] at hr2
                have HR2 := Lib.hid hr2
                have i1 : (0 : Int) ≤ (k : Int) := by omega
                have i2 : (k : Int) ≤ (s.size : Int) := by omega
                have jm : min k s.size = k := by omega
                have j1 : ¬ (9223372036854775807 < k + 1) := by omega
                have j2 : ¬ (9223372036854775807 < k + 1 + (s.size - k)) := by omega
                clear hst hcat hr2
                go_wp2_with fail
                refine (hex_any _ _).mono ?_
                rintro e w3 ⟨rfl, rfl⟩
                rw [hh1]
                go_wp2_with fail
                refine (hex_any _ _).mono ?_
                rintro e w3 ⟨rfl, rfl⟩
                rw [hh2]
                go_wp2_with fail
                go_region_law (first | (go_simp; go_at_call 7; refine (HR2.out _).mono ?_; rintro e w3 ⟨rfl, hb⟩))
                have hb3 : Below w.heap.size w w3 := hb2.drew.trans (hb.mono hb2.drew.size)
                go_wp2
                go_ret
                exact ⟨by simp, hb3⟩
          · have hp : preLen (l.drop 0) = 0 := by
              unfold preLen
              rw [if_neg]
              rintro ⟨-, -, h⟩
              rw [getD_dropL] at h
              exact hv0 (HI4.out.2 h)
            have hvd : decide (0 ≤ v) = false := decide_eq_false hv0
            go_wp2_with fail
            refine (HIX.out w2).mono ?_
            rintro e w3 ⟨rfl, rfl⟩
            have hpre : preLen (l.drop (signLen l)) = 0 := by rw [hsg]; exact hp
            by_cases hkF : k ≤ 0
            · omega
            have t9 : decide ((k : Int) ≤ 0) = false := decide_eq_false (by omega)
            cases hh1 : hexB ((s[k - 1]'(by omega)).toNat : Int) with
            | false =>
              go_wp2_with fail
              refine (hex_any _ _).mono ?_
              rintro e w3 ⟨rfl, rfl⟩
              rw [hh1]
              go_wp2
              go_ret
              exact ⟨rfl, hb2⟩
            | true =>
              cases hh2 : hexB ((s[k]'hk2).toNat : Int) with
              | false =>
                go_wp2_with fail
                refine (hex_any _ _).mono ?_
                rintro e w3 ⟨rfl, rfl⟩
                rw [hh1]
                go_wp2_with fail
                refine (hex_any _ _).mono ?_
                rintro e w3 ⟨rfl, rfl⟩
                rw [hh2]
                go_wp2
                go_ret
                exact ⟨rfl, hb2⟩
              | true =>
                have hst := stroke_law l k (by rw [← HSL.out]; omega) (by rw [hpre, hsg]; omega) (by rw [← HSL.out]; exact hk2) (by rw [← HBY.out (k - 1) (by omega)]; exact hh1) (by rw [← HBY.out k hk2]; exact hh2) HX.out.symm
                have hcat : (s.extract 0 k ++ ⟨#[95]⟩ ++ s.extract k s.size).data.toList = l.take k ++ 95 :: l.drop k := by
                  rw [ByteArray.data_append, ByteArray.data_append, Array.toList_append, Array.toList_append, Lib.extract_to_end, Lib.extract_data, List.drop_zero, Nat.sub_zero, ← HL.out]
                  simp
                have hr2 := fun w => read_any (s.extract 0 k ++ ⟨#[95]⟩ ++ s.extract k s.size) w
                unfold ReadPost at hr2
                rw [hcat, hst, ← HN.out, ← HX.out] at hr2
                have HR2 := Lib.hid hr2
                have i1 : (0 : Int) ≤ (k : Int) := by omega
                have i2 : (k : Int) ≤ (s.size : Int) := by omega
                have jm : min k s.size = k := by omega
                have j1 : ¬ (9223372036854775807 < k + 1) := by omega
                have j2 : ¬ (9223372036854775807 < k + 1 + (s.size - k)) := by omega
                clear hst hcat hr2
                go_wp2_with fail
                refine (hex_any _ _).mono ?_
                rintro e w3 ⟨rfl, rfl⟩
                rw [hh1]
                go_wp2_with fail
                refine (hex_any _ _).mono ?_
                rintro e w3 ⟨rfl, rfl⟩
                rw [hh2]
                go_wp2_with fail
                go_region_law (first | (go_simp; go_at_call 7; refine (HR2.out _).mono ?_; rintro e w3 ⟨rfl, hb⟩))
                have hb3 : Below w.heap.size w w3 := hb2.drew.trans (hb.mono hb2.drew.size)
                go_wp2
                go_ret
                exact ⟨by simp, hb3⟩
        · rw [decide_eq_false h48] at hz0
          have hp : preLen (l.drop 0) = 0 := by
            unfold preLen
            rw [if_neg]
            rintro ⟨-, h, -⟩
            rw [getD_dropL] at h
            exact h48 h
          have hpre : preLen (l.drop (signLen l)) = 0 := by rw [hsg]; exact hp
          by_cases hkF : k ≤ 0
          · omega
          have t9 : decide ((k : Int) ≤ 0) = false := decide_eq_false (by omega)
          cases hh1 : hexB ((s[k - 1]'(by omega)).toNat : Int) with
          | false =>
            go_wp2_with fail
            refine (hex_any _ _).mono ?_
            rintro e w3 ⟨rfl, rfl⟩
            rw [hh1]
            go_wp2
            go_ret
            exact ⟨rfl, hb2⟩
          | true =>
            cases hh2 : hexB ((s[k]'hk2).toNat : Int) with
            | false =>
              go_wp2_with fail
              refine (hex_any _ _).mono ?_
              rintro e w3 ⟨rfl, rfl⟩
              rw [hh1]
              go_wp2_with fail
              refine (hex_any _ _).mono ?_
              rintro e w3 ⟨rfl, rfl⟩
              rw [hh2]
              go_wp2
              go_ret
              exact ⟨rfl, hb2⟩
            | true =>
              have hst := stroke_law l k (by rw [← HSL.out]; omega) (by rw [hpre, hsg]; omega) (by rw [← HSL.out]; exact hk2) (by rw [← HBY.out (k - 1) (by omega)]; exact hh1) (by rw [← HBY.out k hk2]; exact hh2) HX.out.symm
              have hcat : (s.extract 0 k ++ ⟨#[95]⟩ ++ s.extract k s.size).data.toList = l.take k ++ 95 :: l.drop k := by
                rw [ByteArray.data_append, ByteArray.data_append, Array.toList_append, Array.toList_append, Lib.extract_to_end, Lib.extract_data, List.drop_zero, Nat.sub_zero, ← HL.out]
                simp
              have hr2 := fun w => read_any (s.extract 0 k ++ ⟨#[95]⟩ ++ s.extract k s.size) w
              unfold ReadPost at hr2
              rw [hcat, hst, ← HN.out, ← HX.out] at hr2
              have HR2 := Lib.hid hr2
              have i1 : (0 : Int) ≤ (k : Int) := by omega
              have i2 : (k : Int) ≤ (s.size : Int) := by omega
              have jm : min k s.size = k := by omega
              have j1 : ¬ (9223372036854775807 < k + 1) := by omega
              have j2 : ¬ (9223372036854775807 < k + 1 + (s.size - k)) := by omega
              clear hst hcat hr2
              go_wp2_with fail
              refine (hex_any _ _).mono ?_
              rintro e w3 ⟨rfl, rfl⟩
              rw [hh1]
              go_wp2_with fail
              refine (hex_any _ _).mono ?_
              rintro e w3 ⟨rfl, rfl⟩
              rw [hh2]
              go_wp2_with fail
              go_region_law (first | (go_simp; go_at_call 7; refine (HR2.out _).mono ?_; rintro e w3 ⟨rfl, hb⟩))
              have hb3 : Below w.heap.size w w3 := hb2.drew.trans (hb.mono hb2.drew.size)
              go_wp2
              go_ret
              exact ⟨by simp, hb3⟩
      · have hp : preLen (l.drop 0) = 0 := by
          unfold preLen
          rw [if_neg]
          rintro ⟨h, -⟩
          rw [List.length_drop, ← HSL.out] at h
          omega
        omega
    -- END
  · have hxb : (x == 0) = false := by simpa using hx0
    go_wp2
    go_ret
    exact ⟨rfl, hb2⟩
end Go.Proofs.YtpoagjiknmahiaaDoor
