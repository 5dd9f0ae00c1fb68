/-
  The walk of typecasekeep.ShowAgain. Condition: the library's tables lie in the world.
  What the row of ShowAgain lists: the library's tables, an error in strconv.ErrSyntax; a variable of the library's that holds some integer. No conditions.
-/
import Derived.Test.YtldhmfkojaekfaaGreatDoorRows
import Derived.Lib.LaidTab
import Derived.Lib.LaidU8
import Derived.PinnedBridge
import Derived.ProofKit
import Derived.LaidLaws
import Derived.HandedShaped
import Derived.Test.YtldhmfkojaekfaaGreatDoorShowBackAllPartW
set_option linter.unusedVariables false
set_option linter.unusedSimpArgs false
namespace Go.Proofs.YtldhmfkojaekfaaGreatDoor
open Go.RowKit Gx
set_option maxRecDepth 100000
/-- what is too long is told so -/
theorem mean_large (S : ByteArray) (w : World) (hT : MTabs w) (h : 20000 < S.size) : Calls Tryz.prog 15 #[.string S] w (fun e w' => Below w.heap.size w w' ∧ e = .returned (.tuple #[.agg #[.int .i64 0, .int .i64 0, .int .u64 0, .string ⟨#[]⟩, .slice none 0 0, .slice none 0 0], .int .i64 0, .int .i64 2])) := by
  rw [Lib.size_eq] at h
  have hm := mean_any S w hT
  unfold MeanPost at hm
  refine hm.mono ?_
  rintro e w' ⟨hb, ⟨q, hq, rfl, hv⟩ | ⟨a, c, hbad, -, rfl⟩⟩
  · exact absurd hq.1 (by omega)
  · rcases hbad with ⟨-, rfl, rfl⟩ | ⟨h1, -⟩ | ⟨h1, -⟩
    · exact ⟨hb, rfl⟩
    · omega
    · omega
set_option maxHeartbeats 16000000 in
theorem showAgain_walk (s : ByteArray) (w : World) (hT : MTabs w) (hS : STabs w) : Calls Tryz.prog 7 #[.string s] w (BoolPostM true w) := by
  have HT := Lib.hid hT
  have HST := Lib.hid hS
  clear hT hS
  go_enter Tryz.func7, Tryz.ntmps7
  go_wp2_with fail
  (with_reducible refine (shows_any _ HST.out).mono ?_)
  rintro e w1 ⟨rfl, hb1⟩
  have HB1 := Lib.hid hb1
  have hm := mean_any s w1 (HT.out.keep hb1)
  unfold MeanPost at hm
  have HM := Lib.hid hm
  clear hm hb1
  go_wp2_with fail
  (with_reducible refine HM.out.mono ?_)
  rintro e w2 ⟨hb2, ⟨q, hq, rfl, hv⟩ | ⟨a, c, hbad, hc, rfl⟩⟩
  rotate_left
  · have HB3 := Lib.hid ((HB1.out.trans (hb2.mono HB1.out.size)).alloc (HB1.out.trans (hb2.mono HB1.out.size)).size (.cells #[.int .i64 0, .int .i64 0, .int .u64 0, .string ⟨#[]⟩, .slice none 0 0, .slice none 0 0] 26))
    have t1 : (c != 0) = true := by simpa using hc
    clear hb2 hbad hc HM HB1
    go_wp2_with fail
    try go_ret
    exact ⟨rfl, HB3.out⟩
  have HMB := Lib.hid (MB.after (v := q.v) (w := w) HB1.out hb2 rfl hv)
  have HQ := Lib.hid hq
  unfold Loc.val
  clear hb2 hq hv HM
  go_upto_region 4 with fail
  generalize hwx : World.alloc w2 _ = w3 at HMB ⊢
  generalize hqb : w2.heap.size = qb at HMB ⊢
  clear hwx hqb
  obtain ⟨a0, a1, a2, a3, a4, a5, -⟩ := six_cells HMB.out.box
  have h := show_any q w3 (HST.out.keep HMB.out.g) HMB.out.at_
  unfold Loc.val ShownPost at h
  have H := Lib.hid h
  clear h HB1
  go_wp2_with fail
  (with_reducible refine H.out.mono ?_)
  rintro e w4 ⟨⟨h1, -⟩ | ⟨h1, h2, rfl⟩, hb4⟩
  · exact absurd HQ.out.2.2.2 h1
  have hws := HMB.out.at_.wfAll
  obtain ⟨sa, hsa⟩ : ∃ s : ByteArray, (⟨(shwT true q.v).toArray⟩ : ByteArray) = s := ⟨_, rfl⟩
  have hsd : sa.data.toList = shwT true q.v := by rw [← hsa]
  have hsz : sa.size ≤ 80000001 := by
    rw [Lib.size_eq, hsd]; unfold shwT
    have := shwT_le (many := true) h1 hws
    rw [List.length_append]; simp; omega
  rw [hsa]
  have HSA := Lib.hid hsa
  have HSD := Lib.hid hsd
  have HCK := Lib.hid (And.intro h1 h2)
  have HB4 := Lib.hid (HMB.out.g.trans (hb4.mono HMB.out.g.size))
  clear h1 h2 hb4 H hws hsa hsd a0 a1 a2 a3 a4 a5
  by_cases hbig : 20000 < sa.size
  · have t1 : decide ((20000 : Int) < (sa.size : Int)) = true := decide_eq_true (by omega)
    have t1' : decide (20000 < sa.size) = true := decide_eq_true hbig
    have HML := Lib.hid (mean_large sa w4 (HT.out.keep HB4.out) hbig)
    go_wp2_with fail
    (with_reducible refine HML.out.mono ?_)
    rintro e w5 ⟨hb5, rfl⟩
    have HB5 := Lib.hid ((HB4.out.trans (hb5.mono HB4.out.size)).alloc (HB4.out.trans (hb5.mono HB4.out.size)).size (.cells #[.int .i64 0, .int .i64 0, .int .u64 0, .string ⟨#[]⟩, .slice none 0 0, .slice none 0 0] 26))
    clear hb5 HML HB4
    go_wp2_with fail
    try go_ret
    exact ⟨rfl, HB5.out⟩
  have t1 : decide ((20000 : Int) < (sa.size : Int)) = false := decide_eq_false (by omega)
  have t1' : decide (20000 < sa.size) = false := decide_eq_false hbig
  have m1 : MeanOk sa.data.toList q.v := by
    rw [HSD.out]
    exact shw_mean HCK.out.1 HCK.out.2 (by rw [← HSD.out, ← Lib.size_eq]; omega)
  have HM1 := Lib.hid (mean_calm sa q.v w4 (HT.out.keep HB4.out) m1)
  clear m1
  go_wp2_with fail
  (with_reducible refine HM1.out.mono ?_)
  rintro e w5 ⟨hb5, y, hy, hva, rfl⟩
  have HMY := Lib.hid (MB.after (v := q.v) HB4.out hb5 hy hva)
  unfold Loc.val
  clear hb5 hy hva HM1 HMB
  go_upto_region 10 with fail
  generalize hwx : World.alloc w5 _ = w6 at HMY ⊢
  generalize hyb : w5.heap.size = yb at HMY ⊢
  clear hwx hyb
  obtain ⟨a0, a1, a2, a3, a4, a5, -⟩ := six_cells HMY.out.box
  have h := show_any y w6 (HST.out.keep HMY.out.g) HMY.out.at_
  have hyv := HMY.out.v
  unfold Loc.val ShownPost at h
  rw [show chkV y.v = 0 by rw [hyv]; exact HCK.out.1, show shwT true y.v = shwT true q.v by rw [hyv], HSA.out] at h
  have H := Lib.hid h
  clear h hyv HB4
  go_wp2_with fail
  (with_reducible refine H.out.mono ?_)
  rintro e w7 ⟨⟨h1, -⟩ | ⟨-, -, rfl⟩, hb7⟩
  · exact absurd rfl h1
  have HGG := Lib.hid (HMY.out.keep' hb7).g
  have t2 : ((sa.toList == sa.toList) : Bool) = true := beq_self_eq_true _
  clear hb7 H HMY a0 a1 a2 a3 a4 a5
  go_wp2_with fail
  try go_ret
  exact ⟨rfl, HGG.out⟩
end Go.Proofs.YtldhmfkojaekfaaGreatDoor
namespace Go.Proofs.YtldhmfkojaekfaaGreatDoor
open Go.RowKit Gx
theorem showAgain_tabs {W : World} (hL : laidMetH Tryz.prog Rows.showAgainRow.laid W) (hsh : W.ShapedOpen Tryz.prog) : MTabs W := by
  have h2 := Lib.laidMet.reads hL (.tail _ (.head _))
  have h3 := Lib.laidMet.reads hL (.tail _ (.tail _ (.head _)))
  have h4 := Lib.laidMet.reads hL (.tail _ (.tail _ (.tail _ (.head _))))
  have h6 := Lib.laidMet.reads hL (.tail _ (.tail _ (.tail _ (.tail _ (.tail _ (.head _))))))
  have h7 := Lib.laidMet.reads hL (.tail _ (.tail _ (.tail _ (.tail _ (.tail _ (.tail _ (.head _)))))))
  have e2 : Rows.laid_math_bits_deBruijn64tab = Lib.tabData (H := Unit) .u8 deB64 := by kernel_rfl
  have e3 : Rows.laid_internal_strconv_uint64pow10 = Lib.tabData (H := Unit) .u64 Lib.pow10Tab := by kernel_rfl
  rw [e2] at h2
  rw [e3] at h3
  have t2 := tab_of_reads (g := 7) (t := (Tryz.prog.globals[7]!).type) (by kernel_rfl) (by kernel_rfl) (n := 64) (e := 5) (by kernel_rfl) (by kernel_rfl) (by kernel_rfl) (by kernel_rfl) h2
  have t3 := tab_of_reads (g := 3) (t := (Tryz.prog.globals[3]!).type) (by kernel_rfl) (by kernel_rfl) (n := 20) (e := 22) (by kernel_rfl) (by kernel_rfl) (by kernel_rfl) (by kernel_rfl) h3
  have hU := Go.Proofs.utf8Tabs_of_reads Tryz.lays260 ⟨by kernel_rfl, by kernel_rfl, by kernel_rfl, by kernel_rfl, by kernel_rfl, by kernel_rfl, by kernel_rfl⟩
    (w := W) (Pinned.utf8First_eq ▸ h7) ((show Rows.laid_unicode_utf8_acceptRanges = Lib.acceptData by kernel_rfl) ▸ h4)
  exact ⟨⟨hU, ⟨⟨t2.cell (g := 7) (by kernel_rfl) 1 (by decide), t2.cell (g := 7) (by kernel_rfl) 7 (by decide), t2.cell (g := 7) (by kernel_rfl) 15 (by decide)⟩, t3⟩,
    err_of_reads (t := (Tryz.prog.globals[4]!).type) (by kernel_rfl) (by kernel_rfl) Tryz.underlying79 h6⟩, Tryz.laysM143.s1_3 W hsh⟩
end Go.Proofs.YtldhmfkojaekfaaGreatDoor
