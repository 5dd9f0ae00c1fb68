/-
  The walk of typecasekeep.UtfOrder. Condition: each slice has at most 1048576 runes.
-/
import Derived.Test.YtiklmgjacdoeoaaUtfCmp
import Derived.Test.YtiklmgjacdoeoaaShelf
namespace Go.Proofs.Ytiklmgjacdoeoaa
open Go.RowKit Gx

set_option maxHeartbeats 1000000 in
theorem utfOrder_walk (ad0 : Option Addr) (cap0 : Nat) (L0 : List Int) (ad1 : Option Addr) (cap1 : Nat) (L1 : List Int) (w : World) (h0 : Rd .i32 w ad0 cap0 L0) (h1 : Rd .i32 w ad1 cap1 L1)
    (l0 : L0.length ≤ 1048576) (l1 : L1.length ≤ 1048576) :
    Calls Try.prog 4 #[.slice ad0 L0.length cap0, .slice ad1 L1.length cap1] w (TruePost w) := by
  have H0 := Lib.hid h0
  have H1 := Lib.hid h1
  have hlaw := order_law L0 L1
  have HLAW := Lib.hid hlaw
  clear h0 h1 hlaw
  go_enter Try.func4, Try.ntmps4
  go_wp2_with fail
  refine (utfs_any w).mono ?_
  rintro e w1 ⟨rfl, hb1⟩
  go_wp2_with fail
  refine (utfText_any ad0 cap0 L0 w1 (H0.out.keep hb1) (by omega)).mono ?_
  rintro e w2 ⟨rfl, hb⟩
  have hb2 : Below w.heap.size w w2 := hb1.trans (hb.mono hb1.size)
  clear hb hb1
  go_wp2_with fail
  refine (utfText_any ad1 cap1 L1 w2 (H1.out.keep hb2) (by omega)).mono ?_
  rintro e w3 ⟨rfl, hb⟩
  have hb3 : Below w.heap.size w w3 := hb2.trans (hb.mono hb2.size)
  clear hb hb2
  cases g0 : L0.all good with
  | false =>
    have e0 : textErr L0 = 3 := by unfold textErr; rw [g0]; rfl
    rw [e0]
    generalize textOf L0 = s at *
    generalize textErr L1 = y at *
    generalize textOf L1 = t at *
    clear HLAW
    go_wp2
    go_ret
    exact ⟨rfl, hb3⟩
  | true =>
    have e0 : textErr L0 = 0 := by unfold textErr; rw [g0]; rfl
    have f0 : textOf L0 = encs L0 := by unfold textOf; rw [g0]; rfl
    rw [e0, f0]
    cases g1 : L1.all good with
    | false =>
      have e1 : textErr L1 = 3 := by unfold textErr; rw [g1]; rfl
      rw [e1]
      generalize encs L0 = s at *
      generalize textOf L1 = t at *
      clear HLAW
      go_wp2
      go_ret
      exact ⟨rfl, hb3⟩
    | true =>
      have e1 : textErr L1 = 0 := by unfold textErr; rw [g1]; rfl
      have f1 : textOf L1 = encs L1 := by unfold textOf; rw [g1]; rfl
      rw [e1, f1]
      have hl := HLAW.out g0 g1
      have HS := Lib.hid (Try.strings_Compare ⟨(encs L0).toArray⟩ ⟨(encs L1).toArray⟩ w3)
      simp only [List.toList_toArray] at HS
      rw [hl] at HS
      have HC := Lib.hid (compare_any ad0 ad1 cap0 cap1 L0 L1 w3 (H0.out.keep hb3) (H1.out.keep hb3))
      unfold CmpPost at HC
      clear hl HLAW e0 f0 e1 f1 g0 g1
      generalize encs L0 = s at *
      generalize encs L1 = t at *
      generalize cmpInts L0 L1 = c at *
      go_wp2_with fail
      refine HS.out.mono ?_
      rintro e w4 ⟨rfl, rfl⟩
      go_wp2_with fail
      refine HC.out.mono ?_
      rintro e w5 ⟨rfl, rfl⟩
      go_wp2
      go_ret
      exact ⟨by simp, hb3⟩
end Go.Proofs.Ytiklmgjacdoeoaa
