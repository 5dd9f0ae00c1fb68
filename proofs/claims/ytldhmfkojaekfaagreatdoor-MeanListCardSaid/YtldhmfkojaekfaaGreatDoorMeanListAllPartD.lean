/-
  The walk of typecasekeep.MeanList. Condition: the library's tables lie in the world.
  What the row of MeanList lists: the library's tables, an error in strconv.ErrSyntax; a variable of the library's that holds some integer. No conditions.
-/
import Derived.Test.YtldhmfkojaekfaaGreatDoorRows
import Derived.Lib.LaidTab
import Derived.Lib.LaidU8
import Derived.PinnedBridge
import Derived.ProofKit
import Derived.LaidLaws
import Derived.HandedShaped
import Derived.Test.YtldhmfkojaekfaaGreatDoorMeanListAllPartC
set_option linter.unusedVariables false
set_option linter.unusedSimpArgs false
namespace Go.Proofs.YtldhmfkojaekfaaGreatDoor
open Go.RowKit Gx
set_option maxRecDepth 100000
/-- the list of two, in its box -/
structure TB (w : World) (q u : Loc) (lb bb : Nat) (W : World) : Prop where
  box : W.heap[bb]? = some (.cells #[.int .i64 5, .int .i64 0, .int .u64 0, .string ⟨#[]⟩, .slice (some ⟨lb, 0, none⟩) 2 2, .slice none 0 0] 26)
  row : W.heap[lb]? = some (.cells #[.int .i64 q.v.k, .int .i64 q.v.n, .int .u64 q.v.f, .string q.v.s, .slice q.ad q.v.l.length q.cap, .slice q.bd q.v.e.length q.dap, .int .i64 u.v.k, .int .i64 u.v.n, .int .u64 u.v.f, .string u.v.s, .slice u.ad u.v.l.length u.cap, .slice u.bd u.v.e.length u.dap] 26)
  g : Below w.heap.size w W
theorem TB.keep {w W W' : World} {q u : Loc} {lb bb : Nat} (h : TB w q u lb bb W) (hb : Below W.heap.size W W') : TB w q u lb bb W' :=
  ⟨(hb.block _ (Array.getElem?_eq_some_iff.1 h.box).1).trans h.box, (hb.block _ (Array.getElem?_eq_some_iff.1 h.row).1).trans h.row, h.g.trans (hb.mono h.g.size)⟩
theorem TB.start (w : World) (q u : Loc) : TB w q u w.heap.size (w.heap.size + 1) ((w.alloc (.cells #[.int .i64 q.v.k, .int .i64 q.v.n, .int .u64 q.v.f, .string q.v.s, .slice q.ad q.v.l.length q.cap, .slice q.bd q.v.e.length q.dap, .int .i64 u.v.k, .int .i64 u.v.n, .int .u64 u.v.f, .string u.v.s, .slice u.ad u.v.l.length u.cap, .slice u.bd u.v.e.length u.dap] 26)).alloc (.cells #[.int .i64 5, .int .i64 0, .int .u64 0, .string ⟨#[]⟩, .slice (some ⟨w.heap.size, 0, none⟩) 2 2, .slice none 0 0] 26)) := by
  refine ⟨?_, ?_, ((Below.refl _ w).alloc (Nat.le_refl _) _).alloc (by simp) _⟩
  · rw [← World.size_alloc w]
    exact heap_alloc_new _ _
  · rw [alloc_old_gx _ _ (by simp)]
    exact heap_alloc_new _ _
/-- the table of two, in its box -/
structure TT (w : World) (q u : Loc) (lb bb : Nat) (W : World) : Prop where
  box : W.heap[bb]? = some (.cells #[.int .i64 6, .int .i64 0, .int .u64 0, .string ⟨#[]⟩, .slice none 0 0, .slice (some ⟨lb, 0, none⟩) 2 2] 26)
  row : W.heap[lb]? = some (.cells #[.string ⟨#[97]⟩, .int .i64 u.v.k, .int .i64 u.v.n, .int .u64 u.v.f, .string u.v.s, .slice u.ad u.v.l.length u.cap, .slice u.bd u.v.e.length u.dap, .string ⟨#[98]⟩, .int .i64 q.v.k, .int .i64 q.v.n, .int .u64 q.v.f, .string q.v.s, .slice q.ad q.v.l.length q.cap, .slice q.bd q.v.e.length q.dap] 44)
  g : Below w.heap.size w W
theorem TT.start (w : World) (q u : Loc) : TT w q u w.heap.size (w.heap.size + 1) ((w.alloc (.cells #[.string ⟨#[97]⟩, .int .i64 u.v.k, .int .i64 u.v.n, .int .u64 u.v.f, .string u.v.s, .slice u.ad u.v.l.length u.cap, .slice u.bd u.v.e.length u.dap, .string ⟨#[98]⟩, .int .i64 q.v.k, .int .i64 q.v.n, .int .u64 q.v.f, .string q.v.s, .slice q.ad q.v.l.length q.cap, .slice q.bd q.v.e.length q.dap] 44)).alloc (.cells #[.int .i64 6, .int .i64 0, .int .u64 0, .string ⟨#[]⟩, .slice none 0 0, .slice (some ⟨w.heap.size, 0, none⟩) 2 2] 26)) := by
  refine ⟨?_, ?_, ((Below.refl _ w).alloc (Nat.le_refl _) _).alloc (by simp) _⟩
  · rw [← World.size_alloc w]
    exact heap_alloc_new _ _
  · rw [alloc_old_gx _ _ (by simp)]
    exact heap_alloc_new _ _
set_option maxHeartbeats 16000000 in
theorem meanList_walk (s t : ByteArray) (w : World) (hT : MTabs w) : Calls Tryz.prog 6 #[.string s, .string t] w (BoolPostM true w) := by
  have HMS := Lib.hid (means_any w hT)
  have HT := Lib.hid hT
  clear hT
  unfold BoolPostM at HMS
  go_enter Tryz.func6, Tryz.ntmps6
  go_wp2_with fail
  (with_reducible refine HMS.out.mono ?_)
  rintro e w1 ⟨rfl, hb1⟩
  have hm := mean_any s w1 (HT.out.keep hb1)
  unfold MeanPost at hm
  have HM := Lib.hid hm
  have HB1 := Lib.hid hb1
  clear hm hb1 HMS
  go_wp2_with fail
  (with_reducible refine HM.out.mono ?_)
  rintro e w2 ⟨hb2, ⟨q, hq, rfl, hv⟩ | ⟨a, c, hbad, hc, rfl⟩⟩
  rotate_left
  · have hb3 := (HB1.out.trans (hb2.mono HB1.out.size)).alloc (HB1.out.trans (hb2.mono HB1.out.size)).size (.cells #[.int .i64 0, .int .i64 0, .int .u64 0, .string ⟨#[]⟩, .slice none 0 0, .slice none 0 0] 26)
    have HB3 := Lib.hid hb3
    have t1 : (c != 0) = true := by simpa using hc
    clear hb2 hb3 hbad hc HM HB1
    go_upto_region 4 with fail
    generalize World.alloc w2 _ = w3 at HB3 ⊢
    have hm2 := mean_any t w3 (HT.out.keep HB3.out)
    unfold MeanPost at hm2
    have HM2 := Lib.hid hm2
    clear hm2
    go_wp2_with fail
    (with_reducible refine HM2.out.mono ?_)
    rintro e w4 ⟨hb4, ⟨q, -, rfl, -⟩ | ⟨a, c, -, -, rfl⟩⟩
    · have HB4 := Lib.hid (HB3.out.trans (hb4.mono HB3.out.size))
      clear hb4 HM2
      unfold Loc.val
      go_wp2_with fail
      try go_ret
      exact ⟨rfl, HB4.out.alloc HB4.out.size _⟩
    · have HB4 := Lib.hid (HB3.out.trans (hb4.mono HB3.out.size))
      clear hb4 HM2
      go_wp2_with fail
      try go_ret
      exact ⟨rfl, HB4.out.alloc HB4.out.size _⟩
  have hb3 := hb2.alloc hb2.size (.cells #[.int .i64 q.v.k, .int .i64 q.v.n, .int .u64 q.v.f, .string q.v.s, .slice q.ad q.v.l.length q.cap, .slice q.bd q.v.e.length q.dap] 26)
  have HBX := Lib.hid (heap_alloc_new w2 (.cells #[.int .i64 q.v.k, .int .i64 q.v.n, .int .u64 q.v.f, .string q.v.s, .slice q.ad q.v.l.length q.cap, .slice q.bd q.v.e.length q.dap] 26))
  have HB3 := Lib.hid (HB1.out.trans (hb3.mono HB1.out.size))
  have HV3 := Lib.hid ((hv.weak (C := fun _ => True) (fun _ _ _ => trivial)).keep ((Below.refl w2.heap.size w2).alloc (Nat.le_refl _) (.cells #[.int .i64 q.v.k, .int .i64 q.v.n, .int .u64 q.v.f, .string q.v.s, .slice q.ad q.v.l.length q.cap, .slice q.bd q.v.e.length q.dap] 26)))
  have HQ := Lib.hid hq
  unfold Loc.val
  clear hb2 hb3 hv hq HM HB1
  go_upto_region 4 with fail
  generalize hwx : World.alloc w2 _ = w3 at HBX HB3 HV3 ⊢
  generalize hqb : w2.heap.size = qb at HBX ⊢
  clear hwx hqb
  have hm2 := mean_any t w3 (HT.out.keep HB3.out)
  unfold MeanPost at hm2
  have HM2 := Lib.hid hm2
  clear hm2
  go_wp2_with fail
  (with_reducible refine HM2.out.mono ?_)
  rintro e w4 ⟨hb4, ⟨u, hu, rfl, hv4⟩ | ⟨a, c, hbad, hc, rfl⟩⟩
  rotate_left
  · have HB4 := Lib.hid (HB3.out.trans (hb4.mono HB3.out.size))
    have t1 : (c != 0) = true := by simpa using hc
    clear hb4 HM2 hbad hc
    go_wp2_with fail
    try go_ret
    exact ⟨rfl, HB4.out.alloc HB4.out.size _⟩
  have hb5 := hb4.alloc hb4.size (.cells #[.int .i64 u.v.k, .int .i64 u.v.n, .int .u64 u.v.f, .string u.v.s, .slice u.ad u.v.l.length u.cap, .slice u.bd u.v.e.length u.dap] 26)
  have HBY := Lib.hid (heap_alloc_new w4 (.cells #[.int .i64 u.v.k, .int .i64 u.v.n, .int .u64 u.v.f, .string u.v.s, .slice u.ad u.v.l.length u.cap, .slice u.bd u.v.e.length u.dap] 26))
  have HB5 := Lib.hid (HB3.out.trans (hb5.mono HB3.out.size))
  have HBX5 := Lib.hid ((hb5.block qb (Array.getElem?_eq_some_iff.1 HBX.out).1).trans HBX.out)
  have HVQ := Lib.hid (HV3.out.keep hb5)
  have HVU := Lib.hid ((hv4.weak (C := fun _ => True) (fun _ _ _ => trivial)).keep ((Below.refl w4.heap.size w4).alloc (Nat.le_refl _) (.cells #[.int .i64 u.v.k, .int .i64 u.v.n, .int .u64 u.v.f, .string u.v.s, .slice u.ad u.v.l.length u.cap, .slice u.bd u.v.e.length u.dap] 26)))
  have HU := Lib.hid hu
  have HNE := Lib.hid (Nat.ne_of_lt (Nat.lt_of_lt_of_le (Array.getElem?_eq_some_iff.1 HBX.out).1 hb4.size))
  unfold Loc.val
  clear hb4 hb5 hv4 hu HM2 HBX HV3 HB3
  go_upto_region 5 with fail
  generalize hwx : World.alloc w4 _ = w5 at HBY HB5 HBX5 HVQ HVU ⊢
  generalize hub : w4.heap.size = ub at HBY HNE ⊢
  clear hwx hub
  have ls : s.size ≤ 20000 := by rw [Lib.size_eq s]; exact HQ.out.1
  have lt : t.size ≤ 20000 := by rw [Lib.size_eq t]; exact HU.out.1
  have t0 : ((0 : Int) != 0) = false := by decide
  by_cases hbig : 19980 < s.size + t.size
  · have t4 : decide ((19980 : Int) < (s.size : Int) + (t.size : Int)) = true := decide_eq_true (by omega)
    have t4' : decide (19980 < s.size + t.size) = true := decide_eq_true hbig
    go_wp2_with fail
    try go_ret
    exact ⟨rfl, HB5.out⟩
  have t4 : decide ((19980 : Int) < (s.size : Int) + (t.size : Int)) = false := decide_eq_false (by omega)
  have t4' : decide (19980 < s.size + t.size) = false := decide_eq_false hbig
  go_upto_region 7 with fail
  obtain ⟨a0, a1, a2, a3, a4, a5⟩ := six_cells HBX5.out
  obtain ⟨b0, b1, b2, b3, b4, b5⟩ := six_cells HBY.out
  go_cut [11] (fun v11 wx => ∃ lb bb : Nat, v11 = .pointer (some ⟨bb, 0, none⟩) ∧ Hid (TB w5 q u lb bb wx))
  case first =>
    go_wp2_with fail
    go_meet
    exact ⟨_, _, rfl, Lib.hid (TB.start w5 q u)⟩
  case rest =>
  obtain ⟨lb, bb, rfl, HTB⟩ := hcut
  go_upto_region 8 with fail
  have hle : s.size + t.size ≤ 19980 := by omega
  have HML : Hid (∀ W, Below w5.heap.size w5 W → Calls Tryz.prog 15 #[.string (⟨#[91]⟩ ++ s ++ ⟨#[10, 44]⟩ ++ t ++ ⟨#[10, 93]⟩)] W (fun e w' => Below W.heap.size W w' ∧ ∃ (y : Loc) (a c : Int), ListR q.v u.v y.v c ∧ VAt w' (fun b => W.heap.size ≤ b) y ∧ e = .returned (.tuple #[y.val, .int .i64 a, .int .i64 c]))) :=
    Lib.hid (fun W hW => list_told HQ.out HU.out hle (by simp [listText, ByteArray.data_append]) W (HT.out.keep (HB5.out.trans (hW.mono HB5.out.size))))
  have HTL : Hid (∀ W, Below w5.heap.size w5 W → Calls Tryz.prog 15 #[.string (⟨#[123, 98, 61]⟩ ++ s ++ ⟨#[10, 44, 32, 34, 97, 34, 58, 32]⟩ ++ t ++ ⟨#[10, 44, 125]⟩)] W (fun e w' => Below W.heap.size W w' ∧ ∃ (y : Loc) (a c : Int), TableR q.v u.v y.v c ∧ VAt w' (fun b => W.heap.size ≤ b) y ∧ e = .returned (.tuple #[y.val, .int .i64 a, .int .i64 c]))) :=
    Lib.hid (fun W hW => table_told HQ.out HU.out hle (by simp [tableText, ByteArray.data_append]) W (HT.out.keep (HB5.out.trans (hW.mono HB5.out.size))))
  obtain ⟨wa, hwa⟩ : ∃ wa, wc = wa := ⟨_, rfl⟩
  rw [hwa] at HTB ⊢
  have HGA : Hid (Below w5.heap.size w5 wa) := Lib.hid HTB.out.g
  have g1 : ¬ 9223372036854775807 < 1 + s.size := by omega
  have g2 : ¬ 9223372036854775807 < 1 + s.size + 2 := by omega
  have g3 : ¬ 9223372036854775807 < 1 + s.size + 2 + t.size := by omega
  have g4 : ¬ 9223372036854775807 < 1 + s.size + 2 + t.size + 2 := by omega
  clear a0 a1 a2 a3 a4 a5 b0 b1 b2 b3 b4 b5 hwa t4 t4' hle hbig
  go_cut [12, 13, 14] (fun v12 v13 v14 wx => ∃ (g : Nat) (y : Loc) (a c : Int), v12 = .pointer (some ⟨g, 0, none⟩) ∧ v13 = .int .i64 a ∧ v14 = .int .i64 c ∧ Hid (ListR q.v u.v y.v c) ∧ Hid (MB wa y.v g y wx))
  case first =>
    go_wp2_with fail
    (with_reducible refine (HML.out wa HGA.out).mono ?_)
    rintro e w6 ⟨hb6, y, a, c, hR, hy, rfl⟩
    have HB6 := Lib.hid hb6
    have HY := Lib.hid hy
    have HR := Lib.hid hR
    unfold Loc.val
    clear hb6 hy hR
    go_wp2_with fail
    go_meet
    exact ⟨_, _, _, _, rfl, rfl, rfl, HR, Lib.hid (MB.after (Below.refl _ wa) HB6.out rfl HY.out)⟩
  case rest =>
  obtain ⟨xb, x, xa, xc, rfl, rfl, rfl, HXR, HXB⟩ := hcut
  go_upto_region 9 with fail
  clear g1 g2 g3 g4
  have g1 : ¬ 9223372036854775807 < 3 + s.size := by omega
  have g2 : ¬ 9223372036854775807 < 3 + s.size + 8 := by omega
  have g3 : ¬ 9223372036854775807 < 3 + s.size + 8 + t.size := by omega
  have g4 : ¬ 9223372036854775807 < 3 + s.size + 8 + t.size + 3 := by omega
  obtain ⟨wb, hwb⟩ : ∃ wb, wc = wb := ⟨_, rfl⟩
  rw [hwb] at HXB ⊢
  have HGB : Hid (Below w5.heap.size w5 wb) := Lib.hid (HGA.out.trans (HXB.out.g.mono HGA.out.size))
  clear hwb
  go_cut [15, 16, 17] (fun v12 v13 v14 wx => ∃ (g : Nat) (y : Loc) (a c : Int), v12 = .pointer (some ⟨g, 0, none⟩) ∧ v13 = .int .i64 a ∧ v14 = .int .i64 c ∧ Hid (TableR q.v u.v y.v c) ∧ Hid (MB wb y.v g y wx))
  case first =>
    go_wp2_with fail
    (with_reducible refine (HTL.out wb HGB.out).mono ?_)
    rintro e w6 ⟨hb6, y, a, c, hR, hy, rfl⟩
    have HB6 := Lib.hid hb6
    have HY := Lib.hid hy
    have HR := Lib.hid hR
    unfold Loc.val
    clear hb6 hy hR
    go_wp2_with fail
    go_meet
    exact ⟨_, _, _, _, rfl, rfl, rfl, HR, Lib.hid (MB.after (Below.refl _ wb) HB6.out rfl HY.out)⟩
  case rest =>
  obtain ⟨yb, y, ya, yc, rfl, rfl, rfl, HYR, HYB⟩ := hcut
  go_upto_region 10 with fail
  obtain ⟨wd, hwd⟩ : ∃ wd, wc = wd := ⟨_, rfl⟩
  rw [hwd] at HYB ⊢
  clear hwd g1 g2 g3 g4
  have HTB' := Lib.hid (HTB.out.keep (HXB.out.g.trans (HYB.out.g.mono HXB.out.g.size)))
  have HGD : Hid (Below w5.heap.size w5 wd) := Lib.hid HTB'.out.g
  have HQD := Lib.hid (HVQ.out.keep HGD.out)
  have HUD := Lib.hid (HVU.out.keep HGD.out)
  have HP : Hid (VAt wd (fun _ => True) ⟨listV [q.v, u.v], some ⟨lb, 0, none⟩, 2, none, 0⟩) := Lib.hid (two_list HTB'.out.row HQD.out HUD.out)
  have HXD := Lib.hid (HXB.out.at_.keep HYB.out.g)
  have HXBX := Lib.hid ((HYB.out.g.block xb (Array.getElem?_eq_some_iff.1 HXB.out.box).1).trans HXB.out.box)
  have HQB := Lib.hid ((HGD.out.block qb (Array.getElem?_eq_some_iff.1 HBX5.out).1).trans HBX5.out)
  have HUB := Lib.hid ((HGD.out.block ub (Array.getElem?_eq_some_iff.1 HBY.out).1).trans HBY.out)
  have HWD : Hid (Below w.heap.size w wd) := Lib.hid (HB5.out.trans (HGD.out.mono HB5.out.size))
  have hck : Calls Tryz.prog 17 #[.agg #[.int .i64 5, .int .i64 0, .int .u64 0, .string ⟨#[]⟩, .slice (some ⟨lb, 0, none⟩) 2 2, .slice none 0 0]] wd (CheckPost (chkV (listV [q.v, u.v])) wd) := Check_any ⟨listV [q.v, u.v], some ⟨lb, 0, none⟩, 2, none, 0⟩ wd (HT.out.e.u.keep HWD.out) HP.out
  unfold CheckPost at hck
  have HCK := Lib.hid hck
  obtain ⟨p0, p1, p2, p3, p4, p5⟩ := six_cells HTB'.out.box
  clear hck
  go_wp2_with fail
  (with_reducible refine HCK.out.mono ?_)
  rintro e we ⟨rfl, hbe⟩
  have HBE := Lib.hid hbe
  have HWE : Hid (Below w.heap.size w we) := Lib.hid (HWD.out.trans (hbe.mono HWD.out.size))
  clear hbe HCK p0 p1 p2 p3 p4 p5
  by_cases h0 : chkV (listV [q.v, u.v]) = 0
  rotate_left
  · have t5 : ((chkV (listV [q.v, u.v]) : Int) != 0) = true := by simpa using h0
    have n1 := HXR.out.2 h0
    have n2 := HYR.out.2 h0
    have t6 : (xc != 0) = true := by simpa using n1
    have t7 : (yc != 0) = true := by simpa using n2
    clear h0 n1 n2
    go_wp2_with fail
    try go_ret
    exact ⟨rfl, HWE.out⟩
  have t5 : ((chkV (listV [q.v, u.v]) : Int) != 0) = false := by rw [h0]; rfl
  obtain ⟨hxv, rfl⟩ := HXR.out.1 h0
  obtain ⟨hyv, rfl⟩ := HYR.out.1 h0
  have HXV := Lib.hid hxv
  have HYV := Lib.hid hyv
  have HQE := Lib.hid ((HBE.out.block qb (Array.getElem?_eq_some_iff.1 HQB.out).1).trans HQB.out)
  have HUE := Lib.hid ((HBE.out.block ub (Array.getElem?_eq_some_iff.1 HUB.out).1).trans HUB.out)
  obtain ⟨a0, a1, a2, a3, a4, a5⟩ := six_cells HQE.out
  obtain ⟨b0, b1, b2, b3, b4, b5⟩ := six_cells HUE.out
  clear h0 hxv hyv
  go_upto_region 12 with fail
  go_cut [18] (fun v18 wx => ∃ lt bt : Nat, v18 = .pointer (some ⟨bt, 0, none⟩) ∧ Hid (TT we q u lt bt wx))
  case first =>
    go_wp2_with fail
    go_meet
    exact ⟨_, _, rfl, Lib.hid (TT.start we q u)⟩
  case rest =>
  obtain ⟨tr, bt, rfl, HTT⟩ := hcut
  obtain ⟨wf, hwf⟩ : ∃ wf, wc = wf := ⟨_, rfl⟩
  rw [hwf] at HTT ⊢
  have HEF : Hid (Below we.heap.size we wf) := Lib.hid HTT.out.g
  have HDF : Hid (Below wd.heap.size wd wf) := Lib.hid (HBE.out.trans (HEF.out.mono HBE.out.size))
  have HWF : Hid (Below w.heap.size w wf) := Lib.hid (HWE.out.trans (HEF.out.mono HWE.out.size))
  have HPF := Lib.hid (HP.out.keep HDF.out)
  have HXF := Lib.hid (HXD.out.keep HDF.out)
  have HYF := Lib.hid (HYB.out.at_.keep HDF.out)
  have HTF : Hid (VAt wf (fun _ => True) ⟨tableV [(keyA, u.v), (keyB, q.v)], none, 0, some ⟨tr, 0, none⟩, 2⟩) := Lib.hid (two_table (by decide) (by decide) HTT.out.row (HUD.out.keep HDF.out) (HQD.out.keep HDF.out))
  have hs1 : Calls Tryz.prog 13 #[x.val, .agg #[.int .i64 5, .int .i64 0, .int .u64 0, .string ⟨#[]⟩, .slice (some ⟨lb, 0, none⟩) 2 2, .slice none 0 0]] wf (BoolPostM true wf) := sameM_any x ⟨listV [q.v, u.v], some ⟨lb, 0, none⟩, 2, none, 0⟩ wf HXF.out HPF.out true ⟨fun _ => HXV.out, fun _ => rfl⟩
  have hs2 : ∀ W, Below wf.heap.size wf W → Calls Tryz.prog 13 #[y.val, .agg #[.int .i64 6, .int .i64 0, .int .u64 0, .string ⟨#[]⟩, .slice none 0 0, .slice (some ⟨tr, 0, none⟩) 2 2]] W (BoolPostM true W) := fun W hW => sameM_any y ⟨tableV [(keyA, u.v), (keyB, q.v)], none, 0, some ⟨tr, 0, none⟩, 2⟩ W (HYF.out.keep hW) (HTF.out.keep hW) true ⟨fun _ => HYV.out, fun _ => rfl⟩
  unfold BoolPostM Loc.val at hs1 hs2
  have HS1 := Lib.hid hs1
  have HS2 := Lib.hid hs2
  have HTBF := Lib.hid ((HDF.out.block bb (Array.getElem?_eq_some_iff.1 HTB'.out.box).1).trans HTB'.out.box)
  have HXBF := Lib.hid ((HDF.out.block xb (Array.getElem?_eq_some_iff.1 HXBX.out).1).trans HXBX.out)
  have HYBF := Lib.hid ((HDF.out.block yb (Array.getElem?_eq_some_iff.1 HYB.out.box).1).trans HYB.out.box)
  have HTBX := Lib.hid HTT.out.box
  obtain ⟨p0, p1, p2, p3, p4, p5⟩ := six_cells HTBF.out
  obtain ⟨x0, x1, x2, x3, x4, x5⟩ := six_cells HXBF.out
  clear hs1 hs2 hwf a0 a1 a2 a3 a4 a5 b0 b1 b2 b3 b4 b5
  go_wp2_with fail
  (with_reducible refine HS1.out.mono ?_)
  rintro e wg ⟨rfl, hbg⟩
  have hyg := (hbg.block yb (Array.getElem?_eq_some_iff.1 HYBF.out).1).trans HYBF.out
  have htg := (hbg.block bt (Array.getElem?_eq_some_iff.1 HTBX.out).1).trans HTBX.out
  have hs3 := HS2.out wg hbg
  have HS3 := Lib.hid hs3
  have HWG : Hid (Below w.heap.size w wg) := Lib.hid (HWF.out.trans (hbg.mono HWF.out.size))
  obtain ⟨y0, y1, y2, y3, y4, y5⟩ := six_cells hyg
  obtain ⟨q0, q1, q2, q3, q4, q5⟩ := six_cells htg
  clear hs3 hbg hyg htg p0 p1 p2 p3 p4 p5 x0 x1 x2 x3 x4 x5
  go_wp2_with fail
  (with_reducible refine HS3.out.mono ?_)
  rintro e wh ⟨rfl, hbh⟩
  have HWH : Hid (Below w.heap.size w wh) := Lib.hid (HWG.out.trans (hbh.mono HWG.out.size))
  clear hbh y0 y1 y2 y3 y4 y5 q0 q1 q2 q3 q4 q5
  go_wp2_with fail
  try go_ret
  exact ⟨rfl, HWH.out⟩
end Go.Proofs.YtldhmfkojaekfaaGreatDoor
namespace Go.Proofs.YtldhmfkojaekfaaGreatDoor
open Go.RowKit Gx
theorem meanList_tabs {W : World} (hL : laidMetH Tryz.prog Rows.meanListRow.laid W) (hsh : W.ShapedOpen Tryz.prog) : MTabs W := by
  have h2 := Lib.laidMet.reads hL (.tail _ (.head _))
  have h3 := Lib.laidMet.reads hL (.tail _ (.tail _ (.head _)))
  have h4 := Lib.laidMet.reads hL (.tail _ (.tail _ (.tail _ (.head _))))
  have h6 := Lib.laidMet.reads hL (.tail _ (.tail _ (.tail _ (.tail _ (.tail _ (.head _))))))
  have h7 := Lib.laidMet.reads hL (.tail _ (.tail _ (.tail _ (.tail _ (.tail _ (.tail _ (.head _)))))))
  have e2 : Rows.laid_math_bits_deBruijn64tab = Lib.tabData (H := Unit) .u8 deB64 := by kernel_rfl
  have e3 : Rows.laid_internal_strconv_uint64pow10 = Lib.tabData (H := Unit) .u64 Lib.pow10Tab := by kernel_rfl
  rw [e2] at h2
  rw [e3] at h3
  have t2 := tab_of_reads (g := 7) (t := (Tryz.prog.globals[7]!).type) (by kernel_rfl) (by kernel_rfl) (n := 64) (e := 5) (by kernel_rfl) (by kernel_rfl) (by kernel_rfl) (by kernel_rfl) h2
  have t3 := tab_of_reads (g := 3) (t := (Tryz.prog.globals[3]!).type) (by kernel_rfl) (by kernel_rfl) (n := 20) (e := 22) (by kernel_rfl) (by kernel_rfl) (by kernel_rfl) (by kernel_rfl) h3
  have hU := Go.Proofs.utf8Tabs_of_reads Tryz.lays260 ⟨by kernel_rfl, by kernel_rfl, by kernel_rfl, by kernel_rfl, by kernel_rfl, by kernel_rfl, by kernel_rfl⟩
    (w := W) (Pinned.utf8First_eq ▸ h7) ((show Rows.laid_unicode_utf8_acceptRanges = Lib.acceptData by kernel_rfl) ▸ h4)
  exact ⟨⟨hU, ⟨⟨t2.cell (g := 7) (by kernel_rfl) 1 (by decide), t2.cell (g := 7) (by kernel_rfl) 7 (by decide), t2.cell (g := 7) (by kernel_rfl) 15 (by decide)⟩, t3⟩,
    err_of_reads (t := (Tryz.prog.globals[4]!).type) (by kernel_rfl) (by kernel_rfl) Tryz.underlying79 h6⟩, Tryz.laysM143.s1_3 W hsh⟩
end Go.Proofs.YtldhmfkojaekfaaGreatDoor
