/-
  The walk of typecasekeep.UtfBack. Conditions: Go's two tables of utf8 lie in the world; the text has at most 1048576 bytes, the list as many runes.
-/
import Derived.Test.YtiklmgjacdoeoaaDoorUtfRunes
namespace Go.Proofs.YtiklmgjacdoeoaaDoor
open Go.RowKit Gx

set_option maxRecDepth 4000 in
set_option maxHeartbeats 4000000 in
theorem utfBack_walk (s : ByteArray) (ad1 : Option Addr) (cap1 : Nat) (L : List Int) (w : World) (hT : Tabs w) (h1 : Rd .i32 w ad1 cap1 L) (hs : s.size ≤ 1048576) (hL : L.length ≤ 1048576) :
    Calls Tryd.prog 6 #[.string s, .slice ad1 L.length cap1] w (TruePost w) := by
  have HT := Lib.hid hT
  have HL := Lib.hid h1
  obtain ⟨C, hC⟩ : ∃ C : ByteArray, C = ⟨(textOf L).toArray⟩ := ⟨_, rfl⟩
  have hCl : C.data.toList = textOf L := by rw [hC]
  have hCs : C.size ≤ 4194304 := by
    rw [Lib.size_eq, hCl]
    unfold textOf
    split
    · have := encs_le L; omega
    · simp
  have HC := Lib.hid hC
  have HCL := Lib.hid hCl
  clear hT h1 hC hCl
  go_enter Tryd.func6, Tryd.ntmps6
  go_wp2_with fail
  refine (utfs_any w).mono ?_
  rintro e w1 ⟨rfl, hb1⟩
  go_wp2_with fail
  by_cases hok : okText s.data.toList
  · obtain ⟨rs, hg, hl⟩ := hok
    have hrl : rs.length ≤ 1048576 := by
      have h2 := decF_len s.data.toList.length s.data.toList
      have h3 : decAll s.data.toList = rs := by rw [hl, decAll_encs rs hg]
      unfold decAll at h3
      rw [h3, ← Lib.size_eq] at h2
      omega
    have htx : (⟨(textOf rs).toArray⟩ : ByteArray) = s := by
      have : textOf rs = s.data.toList := by unfold textOf; rw [if_pos hg, hl]
      rw [this]
    have hte : textErr rs = 0 := by unfold textErr; rw [if_pos hg]
    have hok : okText s.data.toList := ⟨rs, hg, hl⟩
    have HG := Lib.hid hg
    have HSL := Lib.hid hl
    have HTX := Lib.hid htx
    have HTE := Lib.hid hte
    have HOK := Lib.hid hok
    clear hg hl htx hte hok
    refine (runes_yes s rs w1 (HT.out.keep hb1) (by omega) HG.out HSL.out).mono ?_
    rintro e w2 ⟨g, cap, rfl, hr, hb⟩
    have hb2 : Below w.heap.size w w2 := hb1.trans (hb.mono hb1.size)
    have HR := Lib.hid hr
    clear hb hb1 hr
    go_wp2_with fail
    refine (utfText_any (some ⟨g, 0, none⟩) cap rs w2 HR.out (by omega)).mono ?_
    rintro e w3 ⟨rfl, hb⟩
    have hb3 : Below w.heap.size w w3 := hb2.trans (hb.mono hb2.size)
    rw [HTX.out, HTE.out]
    clear hb hb2 HR
    go_wp2_with fail
    refine (bad_any s w3 (HT.out.keep hb3) (by omega)).mono ?_
    rintro e w4 ⟨i, rfl, hi, hb⟩
    have hb4 : Below w.heap.size w w4 := hb3.trans (hb.mono hb3.size)
    have h1 : i < 0 := hi.2 HOK.out
    have h1d : decide (0 ≤ i) = false := decide_eq_false (by omega)
    clear hb hb3 hi
    go_wp2_with fail
    refine (utfText_any ad1 cap1 L w4 (HL.out.keep hb4) (by omega)).mono ?_
    rintro e v1 ⟨rfl, hb⟩
    have hc1 : Below w.heap.size w v1 := hb4.trans (hb.mono hb4.size)
    clear hb hb4
    rw [← HC.out]
    cases g1 : L.all good with
    | false =>
      have e1 : textErr L = 3 := by unfold textErr; rw [g1]; rfl
      have e2 : C = ⟨#[]⟩ := by rw [HC.out]; unfold textOf; rw [g1]; rfl
      rw [e1]
      subst e2
      clear HC HCL
      go_wp2
      go_ret
      exact ⟨rfl, hc1⟩
    | true =>
      have e1 : textErr L = 0 := by unfold textErr; rw [g1]; rfl
      have hce : C.data.toList = encs L := by rw [HCL.out]; unfold textOf; rw [g1]; rfl
      have HCE := Lib.hid hce
      have HG1 := Lib.hid g1
      rw [e1]
      clear hce g1 e1
      go_wp2_with fail
      refine (runes_yes C L v1 (HT.out.keep hc1) (by omega) HG1.out HCE.out).mono ?_
      rintro e v2 ⟨q, capq, rfl, hr, hb⟩
      have hc2 : Below w.heap.size w v2 := hc1.trans (hb.mono hc1.size)
      have HQ := Lib.hid hr
      clear hb hc1 hr
      have HE := Lib.hid (runesEqual_any ad1 (some ⟨q, 0, none⟩) cap1 capq L v2 (HL.out.keep hc2) HQ.out)
      go_wp2_with fail
      refine HE.out.mono ?_
      rintro e v3 ⟨rfl, hb⟩
      have hc3 : Below w.heap.size w v3 := hc2.trans (hb.mono hc2.size)
      go_wp2
      go_ret
      exact ⟨rfl, hc3⟩
  · have HOK := Lib.hid hok
    clear hok
    refine (runes_no s w1 (HT.out.keep hb1) (by omega) HOK.out).mono ?_
    rintro e w2 ⟨rfl, hb⟩
    have hb2 : Below w.heap.size w w2 := hb1.trans (hb.mono hb1.size)
    clear hb hb1
    go_wp2_with fail
    refine (utfText_any ad1 cap1 L w2 (HL.out.keep hb2) (by omega)).mono ?_
    rintro e v1 ⟨rfl, hb⟩
    have hc1 : Below w.heap.size w v1 := hb2.trans (hb.mono hb2.size)
    clear hb hb2
    rw [← HC.out]
    cases g1 : L.all good with
    | false =>
      have e1 : textErr L = 3 := by unfold textErr; rw [g1]; rfl
      have e2 : C = ⟨#[]⟩ := by rw [HC.out]; unfold textOf; rw [g1]; rfl
      rw [e1]
      subst e2
      clear HC HCL
      go_wp2
      go_ret
      exact ⟨rfl, hc1⟩
    | true =>
      have e1 : textErr L = 0 := by unfold textErr; rw [g1]; rfl
      have hce : C.data.toList = encs L := by rw [HCL.out]; unfold textOf; rw [g1]; rfl
      have HCE := Lib.hid hce
      have HG1 := Lib.hid g1
      rw [e1]
      clear hce g1 e1
      go_wp2_with fail
      refine (runes_yes C L v1 (HT.out.keep hc1) (by omega) HG1.out HCE.out).mono ?_
      rintro e v2 ⟨q, capq, rfl, hr, hb⟩
      have hc2 : Below w.heap.size w v2 := hc1.trans (hb.mono hc1.size)
      have HQ := Lib.hid hr
      clear hb hc1 hr
      have HE := Lib.hid (runesEqual_any ad1 (some ⟨q, 0, none⟩) cap1 capq L v2 (HL.out.keep hc2) HQ.out)
      go_wp2_with fail
      refine HE.out.mono ?_
      rintro e v3 ⟨rfl, hb⟩
      have hc3 : Below w.heap.size w v3 := hc2.trans (hb.mono hc2.size)
      go_wp2
      go_ret
      exact ⟨rfl, hc3⟩
end Go.Proofs.YtiklmgjacdoeoaaDoor
