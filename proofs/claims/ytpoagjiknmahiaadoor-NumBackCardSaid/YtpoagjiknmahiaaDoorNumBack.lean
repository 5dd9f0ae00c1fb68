/-
  The walk of typecasekeep.NumBack. Conditions: the library's tables lie in the world; the arguments are int64s.
-/
import Derived.Test.YtpoagjiknmahiaaDoorNumBase
namespace Go.Proofs.YtpoagjiknmahiaaDoor
open Go.RowKit Gx

set_option maxRecDepth 4000 in
set_option maxHeartbeats 4000000 in
theorem numBack_walk (n m base : Int) (w : World) (hT : NTabs w) (h0 : -9223372036854775808 ≤ n) (h1 : n ≤ 9223372036854775807) (g0 : -9223372036854775808 ≤ m) (g1 : m ≤ 9223372036854775807) :
    Calls Tryd.prog 5 #[.int .i64 n, .int .i64 m, .int .i64 base] w (TruePost w) := by
  have hn := fun w h => numText_any n h0 h1 w h
  have hm := fun w h => numText_any m g0 g1 w h
  have hr := fun w => read_any ⟨(Lib.itoa n).toArray⟩ w
  unfold ReadPost at hr
  simp only [List.toList_toArray] at hr
  rw [read_itoa n h0 h1] at hr
  unfold StrPost at hn hm
  have hinj := fun h : Lib.itoa n = Lib.itoa m => itoa_inj h0 h1 g0 g1 h
  obtain ⟨A, hA⟩ : ∃ A : ByteArray, A = ⟨(Lib.itoa n).toArray⟩ := ⟨_, rfl⟩
  obtain ⟨B, hB⟩ : ∃ B : ByteArray, B = ⟨(Lib.itoa m).toArray⟩ := ⟨_, rfl⟩
  rw [← hA] at hn hr
  rw [← hB] at hm
  have hAB2 : decide (A = B) = decide (n = m) := by
    by_cases h : n = m
    · subst h; rw [hA, hB]; simp
    · rw [decide_eq_false h]
      refine decide_eq_false ?_
      intro h2
      refine h (hinj ?_)
      have := congrArg (fun s : ByteArray => s.data.toList) h2
      simpa [hA, hB] using this
  have HN := Lib.hid hn
  have HM := Lib.hid hm
  have HR := Lib.hid hr
  have HT := Lib.hid hT
  have HAB := Lib.hid hAB2
  clear hn hm hr hA hB hinj hAB2 hT
  go_enter Tryd.func5, Tryd.ntmps5
  go_wp2_with fail
  refine (nums_any w).mono ?_
  rintro e w1 ⟨rfl, hb1⟩
  go_wp2_with fail
  refine (HN.out w1 (HT.out.keep hb1)).mono ?_
  rintro e w2 ⟨rfl, hb⟩
  have hb2 : Below w.heap.size w w2 := hb1.trans (hb.mono hb1.size)
  clear hb hb1
  go_wp2_with fail
  refine (HR.out w2).mono ?_
  rintro e w3 ⟨rfl, hb⟩
  have hb3 : Below w.heap.size w w3 := hb2.trans (hb.mono hb2.size)
  clear hb hb2
  go_wp2_with fail
  refine (HN.out w3 (HT.out.keep hb3)).mono ?_
  rintro e w4 ⟨rfl, hb⟩
  have hb4 : Below w.heap.size w w4 := hb3.trans (hb.mono hb3.size)
  clear hb hb3
  go_wp2_with fail
  refine (HM.out w4 (HT.out.keep hb4)).mono ?_
  rintro e w5 ⟨rfl, hb⟩
  have hb5 : Below w.heap.size w w5 := hb4.trans (hb.mono hb4.size)
  clear hb hb4
  by_cases hbs : base = 2 ∨ base = 8 ∨ base = 10 ∨ base = 16
  · obtain ⟨b, rfl⟩ : ∃ b : Nat, base = (b : Int) := ⟨base.toNat, by omega⟩
    have hb' : b = 2 ∨ b = 8 ∨ b = 10 ∨ b = 16 := by omega
    have hbase := fun w h => baseYes_any n h0 h1 b hb' w h
    have hlim : n.natAbs ≤ limitOf (decide (n < 0)) := by
      unfold limitOf
      by_cases h : n < 0
      · rw [decide_eq_true h]; simp; omega
      · rw [decide_eq_false h]; simp; omega
    have hrd := fun w => read_any ⟨(toldOf (decide (n < 0)) b n.natAbs).toArray⟩ w
    unfold ReadPost at hrd
    simp only [List.toList_toArray] at hrd
    rw [read_told (decide (n < 0)) b n.natAbs hb' hlim] at hrd
    have hval : (if decide (n < 0) = true then -((n.natAbs : Nat) : Int) else ((n.natAbs : Nat) : Int)) = n := by
      by_cases h : n < 0
      · rw [decide_eq_true h]; simp; omega
      · rw [decide_eq_false h]; simp; omega
    simp only [hval] at hrd
    have hlen := told_len (decide (n < 0)) b n.natAbs hb' (by omega)
    unfold BasePost2 at hbase
    obtain ⟨C, hC⟩ : ∃ C : ByteArray, C = ⟨(toldOf (decide (n < 0)) b n.natAbs).toArray⟩ := ⟨_, rfl⟩
    rw [← hC] at hbase hrd
    have hCs : C.size ≤ 67 := by rw [hC]; simpa [ByteArray.size] using hlen
    have HBS := Lib.hid hbase
    have HRD := Lib.hid hrd
    have t67 : decide ((C.size : Int) ≤ 67) = true := decide_eq_true (by omega)
    clear hbase hrd hlim hval hlen hC hbs hb'
    by_cases hnm : n = m
    · have hAB : A = B := by have := HAB.out; rw [decide_eq_true hnm] at this; exact of_decide_eq_true this
      subst hnm
      subst hAB
      clear HAB
      go_wp2_with fail
      refine (HBS.out w5 (HT.out.keep hb5)).mono ?_
      rintro e w6 ⟨rfl, hb⟩
      have hb6 : Below w.heap.size w w6 := hb5.trans (hb.mono hb5.size)
      clear hb
      go_wp2_with fail
      refine (HRD.out w6).mono ?_
      rintro e w7 ⟨rfl, hb⟩
      have hb7 : Below w.heap.size w w7 := hb6.trans (hb.mono hb6.size)
      clear hb
      go_wp2
      go_ret
      exact ⟨by simp, hb7⟩
    · have hAB : decide (A = B) = false := by have := HAB.out; rw [decide_eq_false hnm] at this; exact this
      have hnm2 : decide (n = m) = false := decide_eq_false hnm
      have hne : A ≠ B := of_decide_eq_false hAB
      have hAL : (A.toList == B.toList) = false := by
        rw [beq_eq_false_iff_ne]
        intro h
        rw [Lib.toList_data, Lib.toList_data] at h
        exact hne (bytes_ext _ _ h)
      have hnb : (n == m) = false := by simpa using hnm
      clear hAB hnm2 hne hnm
      clear HAB
      go_wp2_with fail
      refine (HBS.out w5 (HT.out.keep hb5)).mono ?_
      rintro e w6 ⟨rfl, hb⟩
      have hb6 : Below w.heap.size w w6 := hb5.trans (hb.mono hb5.size)
      clear hb
      go_wp2_with fail
      refine (HRD.out w6).mono ?_
      rintro e w7 ⟨rfl, hb⟩
      have hb7 : Below w.heap.size w w7 := hb6.trans (hb.mono hb6.size)
      clear hb
      go_wp2
      go_ret
      exact ⟨by simp, hb7⟩
  · have HNO := Lib.hid (fun w => baseNo_any n base (by omega) w)
    unfold BasePost2 at HNO
    clear hbs
    by_cases hnm : n = m
    · have hAB : A = B := by have := HAB.out; rw [decide_eq_true hnm] at this; exact of_decide_eq_true this
      subst hnm
      subst hAB
      clear HAB
      go_wp2_with fail
      refine (HNO.out w5).mono ?_
      rintro e w6 ⟨rfl, hb⟩
      have hb6 : Below w.heap.size w w6 := hb5.trans (hb.mono hb5.size)
      clear hb
      go_wp2
      go_ret
      exact ⟨by simp, hb6⟩
    · have hAB : decide (A = B) = false := by have := HAB.out; rw [decide_eq_false hnm] at this; exact this
      have hnm2 : decide (n = m) = false := decide_eq_false hnm
      have hne : A ≠ B := of_decide_eq_false hAB
      have hAL : (A.toList == B.toList) = false := by
        rw [beq_eq_false_iff_ne]
        intro h
        rw [Lib.toList_data, Lib.toList_data] at h
        exact hne (bytes_ext _ _ h)
      have hnb : (n == m) = false := by simpa using hnm
      clear hAB hnm2 hne hnm
      clear HAB
      go_wp2_with fail
      refine (HNO.out w5).mono ?_
      rintro e w6 ⟨rfl, hb⟩
      have hb6 : Below w.heap.size w w6 := hb5.trans (hb.mono hb5.size)
      clear hb
      go_wp2
      go_ret
      exact ⟨by simp, hb6⟩
end Go.Proofs.YtpoagjiknmahiaaDoor
