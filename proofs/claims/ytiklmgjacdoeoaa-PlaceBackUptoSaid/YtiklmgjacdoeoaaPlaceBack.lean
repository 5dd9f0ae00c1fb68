/-
  The walk of typecasekeep.PlaceBack. Condition: the text has at most 1048576 bytes.
-/
import Derived.Test.YtiklmgjacdoeoaaLine
import Derived.Test.YtiklmgjacdoeoaaPlaceOrderWalk
namespace Go.Proofs.Ytiklmgjacdoeoaa
open Go.RowKit

def OfAt (n c e0 : Int) (w : World) (e : Ending) (w' : World) : Prop := e = .returned (.tuple #[.int .i64 n, .int .i64 c, .int .i64 e0]) ∧ Below w.heap.size w w'

theorem of_ok (s : ByteArray) (i c : Nat) (w : World) (hs : s.size ≤ 1048576) (hi : i < (linesOf s.data.toList).length) (hc : c ≤ ((linesOf s.data.toList).getD i []).length) :
    Calls Try.prog 8 #[.string s, .int .i64 ((posL (linesOf s.data.toList) i + c : Nat) : Int)] w (OfAt ((i : Int) + 1) ((c : Int) + 1) 0 w) := by
  have hp := posL_len (linesOf s.data.toList) i hi
  rw [joined_lines, ← Lib.size_eq] at hp
  obtain ⟨h1, h2⟩ := line_back s.data.toList i c hi hc
  refine (of_in s _ w hs (by omega) (by omega)).mono ?_
  rintro e w2 ⟨rfl, hb⟩
  rw [h1, h2]
  exact ⟨rfl, hb⟩

set_option maxHeartbeats 400000 in
theorem of_out (s : ByteArray) (at_ : Int) (w : World) (h : at_ < 0 ∨ (s.size : Int) < at_) :
    Calls Try.prog 8 #[.string s, .int .i64 at_] w (OfAt 0 0 1 w) := by
  have hb : Below w.heap.size w (w.alloc (.cells #[.int .i64 at_] 3)) := (Below.refl _ _).alloc (Nat.le_refl _) _
  by_cases h1 : at_ < 0
  · go_enter Try.func8, Try.ntmps8
    go_wp2
    go_ret3
    exact ⟨rfl, hb⟩
  · have h2 : (s.size : Int) < at_ := by omega
    go_enter Try.func8, Try.ntmps8
    go_wp2
    go_ret3
    exact ⟨rfl, hb⟩

set_option maxRecDepth 4000 in
set_option maxHeartbeats 2000000 in
theorem placeBack_walk (s : ByteArray) (at_ line col : Int) (w : World) (hs : s.size ≤ 1048576) (hw : col ≤ 9223372036854775807) :
    Calls Try.prog 5 #[.string s, .int .i64 at_, .int .i64 line, .int .i64 col] w (TruePost w) := by
  go_enter Try.func5, Try.ntmps5
  go_wp2_with fail
  refine (places_any w).mono ?_
  rintro e w1 ⟨rfl, hb1⟩
  go_wp2_with fail
  by_cases hin : 0 ≤ at_ ∧ at_ ≤ s.size
  · obtain ⟨q, rfl⟩ := Int.eq_ofNat_of_zero_le hin.1
    obtain ⟨i0, c0, hi0, hc0, hp0, -⟩ := line_spec s.data.toList q (by rw [← Lib.size_eq]; omega)
    have h1 := of_ok s i0 c0 w1 hs hi0 hc0
    have h2 := fun w => at_ok s i0 c0 w hs hi0 hc0
    rw [hp0] at h1
    simp only [hp0] at h2
    have HA := Lib.hid h2
    unfold AtPost at HA
    refine h1.mono ?_
    rintro e w2 ⟨rfl, hb⟩
    have hb2 : Below w.heap.size w w2 := hb1.trans (hb.mono hb1.size)
    clear hb hb1 h1 h2 hi0 hc0 hp0 hin
    go_wp2_with fail
    refine (HA.out w2).mono ?_
    rintro e w3 ⟨rfl, hb⟩
    have hb3 : Below w.heap.size w w3 := hb2.trans (hb.mono hb2.size)
    clear hb hb2 HA
    go_wp2_with fail
    by_cases hok : ∃ i c : Nat, line = (i : Int) + 1 ∧ col = (c : Int) + 1 ∧ i < (linesOf s.data.toList).length ∧ c ≤ ((linesOf s.data.toList).getD i []).length
    · obtain ⟨i, c, rfl, rfl, hi, hc⟩ := hok
      have HO := Lib.hid (fun w => of_ok s i c w hs hi hc)
      unfold OfAt at HO
      refine (at_ok s i c w3 hs hi hc).mono ?_
      rintro e v1 ⟨rfl, hb⟩
      have hc1 : Below w.heap.size w v1 := hb3.trans (hb.mono hb3.size)
      obtain ⟨p, hp⟩ : ∃ p, p = posL (linesOf s.data.toList) i + c := ⟨_, rfl⟩
      rw [← hp] at HO ⊢
      clear hb hb3 hp hi hc
      go_wp2_with fail
      refine (HO.out v1).mono ?_
      rintro e v2 ⟨rfl, hb⟩
      have hc2 : Below w.heap.size w v2 := hc1.trans (hb.mono hc1.size)
      clear hb hc1
      go_wp2
      go_ret
      exact ⟨rfl, hc2⟩
    · refine (at_no s line col w3 hs hw hok).mono ?_
      rintro e v1 ⟨rfl, hb⟩
      have hc1 : Below w.heap.size w v1 := hb3.trans (hb.mono hb3.size)
      clear hb hb3 hok
      go_wp2
      go_ret
      exact ⟨rfl, hc1⟩
  · refine (of_out s at_ w1 (by omega)).mono ?_
    rintro e w2 ⟨rfl, hb⟩
    have hb2 : Below w.heap.size w w2 := hb1.trans (hb.mono hb1.size)
    clear hb hb1 hin
    go_wp2_with fail
    by_cases hok : ∃ i c : Nat, line = (i : Int) + 1 ∧ col = (c : Int) + 1 ∧ i < (linesOf s.data.toList).length ∧ c ≤ ((linesOf s.data.toList).getD i []).length
    · obtain ⟨i, c, rfl, rfl, hi, hc⟩ := hok
      have HO := Lib.hid (fun w => of_ok s i c w hs hi hc)
      unfold OfAt at HO
      refine (at_ok s i c w2 hs hi hc).mono ?_
      rintro e v1 ⟨rfl, hb⟩
      have hc1 : Below w.heap.size w v1 := hb2.trans (hb.mono hb2.size)
      obtain ⟨p, hp⟩ : ∃ p, p = posL (linesOf s.data.toList) i + c := ⟨_, rfl⟩
      rw [← hp] at HO ⊢
      clear hb hb2 hp hi hc
      go_wp2_with fail
      refine (HO.out v1).mono ?_
      rintro e v2 ⟨rfl, hb⟩
      have hc2 : Below w.heap.size w v2 := hc1.trans (hb.mono hc1.size)
      clear hb hc1
      go_wp2
      go_ret
      exact ⟨rfl, hc2⟩
    · refine (at_no s line col w2 hs hw hok).mono ?_
      rintro e v1 ⟨rfl, hb⟩
      have hc1 : Below w.heap.size w v1 := hb2.trans (hb.mono hb2.size)
      clear hb hb2 hok
      go_wp2
      go_ret
      exact ⟨rfl, hc1⟩
end Go.Proofs.Ytiklmgjacdoeoaa
