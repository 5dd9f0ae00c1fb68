/-
  The walk of typecasekeep.ShowSame. Conditions: two values lie in memory; the library's tables lie in the world.
  Values that came in. Conditions: they are within the form's reach.
  What the rows' lists give: the library's tables. No conditions.
-/
import Derived.Test.YtldhmfkojaekfaaGreatDoorProg
import Derived.Deep.Slices
import Derived.ChangeSame
import Derived.SizedLaws
import Derived.WideShapes
import Derived.Test.YtldhmfkojaekfaaGreatDoorRows
import Derived.Lib.LaidTab
import Derived.Lib.LaidU8
import Derived.PinnedBridge
import Derived.ProofKit
import Derived.LaidLaws
import Derived.Test.YtldhmfkojaekfaaGreatDoorShowSameAllPartT
namespace Go.Proofs.YtldhmfkojaekfaaGreatDoor
open Go.RowKit Gx
set_option maxRecDepth 100000

set_option maxHeartbeats 1000000 in
theorem line_any (q : Loc) (w : World) (hT : STabs w) (hq : VAt w (fun _ => True) q) : Calls Tryz.prog 11 #[q.val] w (ShownPost false q.v w) := by
  obtain ⟨wb, hwb⟩ : ∃ wb, wb = w.alloc (.cells #[.int .i64 q.v.k, .int .i64 q.v.n, .int .u64 q.v.f, .string q.v.s, .slice q.ad q.v.l.length q.cap, .slice q.bd q.v.e.length q.dap] 26) := ⟨_, rfl⟩
  have hb0 : Below w.heap.size w wb := by rw [hwb]; exact (Below.refl w.heap.size w).alloc (Nat.le_refl _) _
  have hc := CellsAt.box (q := q) (heap_alloc_new w (.cells #[.int .i64 q.v.k, .int .i64 q.v.n, .int .u64 q.v.f, .string q.v.s, .slice q.ad q.v.l.length q.cap, .slice q.bd q.v.e.length q.dap] 26))
  rw [← hwb] at hc
  have hs := shown_any false q wb (hT.keep hb0) (hq.keep hb0)
  unfold Loc.val at hs ⊢
  have HS := Lib.hid hs
  have HB0 := Lib.hid hb0
  have HWB := Lib.hid hwb
  obtain ⟨a0, a1, a2, a3, a4, a5⟩ := hc
  clear hs hb0 hwb hT hq
  go_enter Tryz.func11, Tryz.ntmps11
  go_upto_region 1 with fail
  rw [← HWB.out]
  clear HWB
  go_wp2_with fail
  (with_reducible refine HS.out.mono ?_)
  rintro e w1 ⟨hx, hb1⟩
  have HB := Lib.hid (HB0.out.trans (hb1.mono HB0.out.size))
  clear hb1 HS a0 a1 a2 a3 a4 a5
  rcases hx with ⟨h1, rfl⟩ | ⟨h1, h2, rfl⟩
  · have HR := Lib.hid h1
    clear h1
    go_wp2_with fail
    try go_ret2
    exact ⟨.inl ⟨HR.out, rfl⟩, HB.out⟩
  · have HR := Lib.hid (And.intro h1 h2)
    clear h1 h2
    go_wp2_with fail
    try go_ret2
    exact ⟨.inr ⟨HR.out.1, HR.out.2, rfl⟩, HB.out⟩
set_option maxHeartbeats 1000000 in
theorem show_any (q : Loc) (w : World) (hT : STabs w) (hq : VAt w (fun _ => True) q) : Calls Tryz.prog 12 #[q.val] w (ShownPost true q.v w) := by
  obtain ⟨wb, hwb⟩ : ∃ wb, wb = w.alloc (.cells #[.int .i64 q.v.k, .int .i64 q.v.n, .int .u64 q.v.f, .string q.v.s, .slice q.ad q.v.l.length q.cap, .slice q.bd q.v.e.length q.dap] 26) := ⟨_, rfl⟩
  have hb0 : Below w.heap.size w wb := by rw [hwb]; exact (Below.refl w.heap.size w).alloc (Nat.le_refl _) _
  have hc := CellsAt.box (q := q) (heap_alloc_new w (.cells #[.int .i64 q.v.k, .int .i64 q.v.n, .int .u64 q.v.f, .string q.v.s, .slice q.ad q.v.l.length q.cap, .slice q.bd q.v.e.length q.dap] 26))
  rw [← hwb] at hc
  have hs := shown_any true q wb (hT.keep hb0) (hq.keep hb0)
  unfold Loc.val at hs ⊢
  have HS := Lib.hid hs
  have HB0 := Lib.hid hb0
  have HWB := Lib.hid hwb
  obtain ⟨a0, a1, a2, a3, a4, a5⟩ := hc
  clear hs hb0 hwb hT hq
  go_enter Tryz.func12, Tryz.ntmps12
  go_upto_region 1 with fail
  rw [← HWB.out]
  clear HWB
  go_wp2_with fail
  (with_reducible refine HS.out.mono ?_)
  rintro e w1 ⟨hx, hb1⟩
  have HB := Lib.hid (HB0.out.trans (hb1.mono HB0.out.size))
  clear hb1 HS a0 a1 a2 a3 a4 a5
  rcases hx with ⟨h1, rfl⟩ | ⟨h1, h2, rfl⟩
  · have HR := Lib.hid h1
    clear h1
    go_wp2_with fail
    try go_ret2
    exact ⟨.inl ⟨HR.out, rfl⟩, HB.out⟩
  · have HR := Lib.hid (And.intro h1 h2)
    clear h1 h2
    go_wp2_with fail
    try go_ret2
    exact ⟨.inr ⟨HR.out.1, HR.out.2, rfl⟩, HB.out⟩
theorem own_zero : ownV V.zero = 0 := by
  unfold ownV ownE
  have h : kindBad 0 0 0 ⟨#[]⟩ 0 0 = false := by
    unfold kindBad nanBad
    rw [ByteArray.toList_eq]
    rfl
  have h1 : kindBad V.zero.k V.zero.n V.zero.f V.zero.s V.zero.l.length V.zero.e.length = false := h
  rw [h1, if_neg (by decide), if_neg (by show ¬ (4000 < 0 ∨ 200 < 0 ∨ 200 < 0); decide)]
  have h2 : okText V.zero.s.data.toList := okText_nil
  rw [if_pos h2]
theorem chk_zero : chkV V.zero = 0 := by
  unfold chkV
  have e : V.zero.parts = [] := rfl
  have e2 : keyE none V.zero.e = 0 := rfl
  simp only [chk]
  rw [if_neg (by decide), if_neg (by simp [own_zero]), if_neg (by simp [e2]), e]
  rfl
theorem shw_zero : shwT false V.zero = [110, 117, 108, 108] := by
  unfold shwT
  rw [shwD, if_neg (by decide), if_neg (by decide)]
  unfold leafT
  rw [if_pos (show V.zero.k = 0 from rfl)]; rfl
def BoolPostS (b : Bool) (w : World) (e : Ending) (w' : World) : Prop := e = .returned (.bool b) ∧ Below w.heap.size w w'
set_option maxHeartbeats 1000000 in
theorem shows_any (w : World) (hT : STabs w) : Calls Tryz.prog 10 #[] w (BoolPostS true w) := by
  have hl := line_any ⟨.zero, none, 0, none, 0⟩ w hT (VAt.zero w _ none none 0 0)
  have HL : Hid (Calls Tryz.prog 11 #[.agg #[.int .i64 0, .int .i64 0, .int .u64 0, .string ⟨#[]⟩, .slice none 0 0, .slice none 0 0]] w (ShownPost false V.zero w)) := Lib.hid hl
  clear hl hT
  go_enter Tryz.func10, Tryz.ntmps10
  go_wp2_with fail
  (with_reducible refine HL.out.mono ?_)
  rintro e w1 ⟨hx, hb1⟩
  have HB := Lib.hid hb1
  clear hb1 HL
  rcases hx with ⟨h1, -⟩ | ⟨-, -, rfl⟩
  · exact absurd chk_zero h1
  · rw [shw_zero]
    go_wp2_with fail
    try go_ret
    exact ⟨rfl, HB.out⟩
set_option maxHeartbeats 1000000 in
theorem same_any (q p : Loc) (w : World) (hq : VAt w (fun _ => True) q) (hp : VAt w (fun _ => True) p) (s : Bool) (hs : s = true ↔ q.v = p.v) : Calls Tryz.prog 13 #[q.val, p.val] w (BoolPostS s w) := by
  have HT := Lib.hid (Two.start q p w)
  obtain ⟨c, hc⟩ : ∃ c, cmpD (SizeOf.sizeOf q.v) q.v p.v = c := ⟨_, rfl⟩
  have hcz := cmp_zero _ q.v p.v (Nat.le_refl _) hq.wfAll hp.wfAll
  rw [hc] at hcz
  have h : ∀ W, Below w.heap.size w W → Calls Tryz.prog 23 #[q.val, p.val] W (IntPost c W) := fun W hW => by
    rw [← hc]
    exact Compare_any _ q p W (Nat.le_refl _) (hq.keep hW) (hp.keep hW)
  have hsc : (c == 0) = s := by
    rw [Bool.eq_iff_iff, beq_iff_eq, hcz, hs]
  subst hsc
  unfold Loc.val at h ⊢
  have H := Lib.hid h
  clear h hs hcz hc hq hp
  go_enter Tryz.func13, Tryz.ntmps13
  go_upto_region 1 with fail
  generalize hw2 : World.alloc (World.alloc w _) _ = w2 at HT ⊢
  clear hw2
  obtain ⟨a0, a1, a2, a3, a4, a5⟩ := HT.out.a
  obtain ⟨b0, b1, b2, b3, b4, b5⟩ := HT.out.b
  go_wp2_with fail
  (with_reducible refine (H.out _ HT.out.g).mono ?_)
  rintro e w' ⟨rfl, hb⟩
  have HB := Lib.hid (HT.out.g.trans (hb.mono HT.out.g.size))
  clear hb
  go_wp2_with fail
  try go_ret
  exact ⟨rfl, HB.out⟩
/-- what ShowSame lays -/
structure PO (w : World) (q p : Loc) (W : World) : Prop where
  two : Two w q p W
  hq : VAt W (fun _ => True) q
  hp : VAt W (fun _ => True) p
theorem PO.keep {w : World} {q p : Loc} {W W' : World} (h : PO w q p W) (hb : Below W.heap.size W W') : PO w q p W' := ⟨h.two.keep hb, h.hq.keep hb, h.hp.keep hb⟩
theorem ba_ne {a b : List UInt8} (h : a ≠ b) : (⟨a.toArray⟩ : ByteArray) ≠ ⟨b.toArray⟩ := by
  intro e
  apply h
  have := congrArg (fun x : ByteArray => x.data.toList) e
  simpa using this
theorem tl_ne {a b : ByteArray} (h : a ≠ b) : (a.toList == b.toList) = false := by
  rw [beq_eq_false_iff_ne]
  intro e
  rw [ByteArray.toList_eq, ByteArray.toList_eq] at e
  exact h (ByteArray.ext (Array.toList_inj.1 e))
set_option maxHeartbeats 16000000 in
theorem showSame_walk (q p : Loc) (w : World) (hT : STabs w) (hq : VAt w (fun _ => True) q) (hp : VAt w (fun _ => True) p) : Calls Tryz.prog 3 #[q.val, p.val] w (BoolPostS true w) := by
  have ht := Two.start q p w
  have HPO := Lib.hid (PO.mk ht (hq.keep (ht.g.mono (Nat.le_refl _))) (hp.keep ht.g))
  have HT := Lib.hid hT
  unfold Loc.val
  clear ht hq hp hT
  go_enter Tryz.func3, Tryz.ntmps3
  go_upto_region 1 with fail
  generalize hw2 : World.alloc (World.alloc w _) _ = w2 at HPO ⊢
  clear hw2
  go_wp2_with fail
  (with_reducible refine (shows_any _ (HT.out.keep HPO.out.two.g)).mono ?_)
  rintro e w3 ⟨rfl, hb3⟩
  have HP3 := Lib.hid (HPO.out.keep hb3)
  clear hb3 HPO
  obtain ⟨a0, a1, a2, a3, a4, a5⟩ := HP3.out.two.a
  have h := line_any q w3 (HT.out.keep HP3.out.two.g) HP3.out.hq
  unfold Loc.val at h
  have H := Lib.hid h
  clear h
  go_wp2_with fail
  (with_reducible refine H.out.mono ?_)
  rintro e w4 ⟨hx1, hb4⟩
  have HP4 := Lib.hid (HP3.out.keep hb4)
  clear hb4 H HP3 a0 a1 a2 a3 a4 a5
  obtain ⟨s1, c1, rfl, hy1⟩ : ∃ (s : ByteArray) (c : Nat), e = .returned (.tuple #[.string s, .int .i64 c]) ∧ ((chkV q.v ≠ 0 ∧ c = chkV q.v) ∨ (chkV q.v = 0 ∧ Tx 20 q.v ∧ c = 0 ∧ s = ⟨(shwT false q.v).toArray⟩)) := by
    rcases hx1 with ⟨h1, rfl⟩ | ⟨h1, h2, rfl⟩
    · exact ⟨_, _, rfl, .inl ⟨h1, rfl⟩⟩
    · exact ⟨_, 0, rfl, .inr ⟨h1, h2, rfl, rfl⟩⟩
  have HX1 := Lib.hid hy1
  clear hy1 hx1
  obtain ⟨a0, a1, a2, a3, a4, a5⟩ := HP4.out.two.b
  have h := line_any p w4 (HT.out.keep HP4.out.two.g) HP4.out.hp
  unfold Loc.val at h
  have H := Lib.hid h
  clear h
  go_wp2_with fail
  (with_reducible refine H.out.mono ?_)
  rintro e w5 ⟨hx2, hb5⟩
  have HP5 := Lib.hid (HP4.out.keep hb5)
  clear hb5 H HP4 a0 a1 a2 a3 a4 a5
  obtain ⟨s2, c2, rfl, hy2⟩ : ∃ (s : ByteArray) (c : Nat), e = .returned (.tuple #[.string s, .int .i64 c]) ∧ ((chkV p.v ≠ 0 ∧ c = chkV p.v) ∨ (chkV p.v = 0 ∧ Tx 20 p.v ∧ c = 0 ∧ s = ⟨(shwT false p.v).toArray⟩)) := by
    rcases hx2 with ⟨h1, rfl⟩ | ⟨h1, h2, rfl⟩
    · exact ⟨_, _, rfl, .inl ⟨h1, rfl⟩⟩
    · exact ⟨_, 0, rfl, .inr ⟨h1, h2, rfl, rfl⟩⟩
  have HX2 := Lib.hid hy2
  clear hy2 hx2
  obtain ⟨a0, a1, a2, a3, a4, a5⟩ := HP5.out.two.a
  have h := show_any q w5 (HT.out.keep HP5.out.two.g) HP5.out.hq
  unfold Loc.val at h
  have H := Lib.hid h
  clear h
  go_wp2_with fail
  (with_reducible refine H.out.mono ?_)
  rintro e w6 ⟨hx3, hb6⟩
  have HP6 := Lib.hid (HP5.out.keep hb6)
  clear hb6 H HP5 a0 a1 a2 a3 a4 a5
  obtain ⟨s3, c3, rfl, hy3⟩ : ∃ (s : ByteArray) (c : Nat), e = .returned (.tuple #[.string s, .int .i64 c]) ∧ c = c1 ∧ (chkV q.v = 0 → s = ⟨(shwT true q.v).toArray⟩) := by
    rcases hx3 with ⟨h1, rfl⟩ | ⟨h1, h2, rfl⟩
    · refine ⟨_, _, rfl, ?_, fun h => absurd h h1⟩
      rcases HX1.out with ⟨-, h⟩ | ⟨h, -⟩
      · exact h.symm
      · exact absurd h h1
    · refine ⟨_, 0, rfl, ?_, fun _ => rfl⟩
      rcases HX1.out with ⟨h, -⟩ | ⟨-, -, h, -⟩
      · exact absurd h1 h
      · exact h.symm
  obtain ⟨rfl, hy3⟩ := hy3
  have HX3 := Lib.hid hy3
  clear hy3 hx3
  obtain ⟨a0, a1, a2, a3, a4, a5⟩ := HP6.out.two.b
  have h := show_any p w6 (HT.out.keep HP6.out.two.g) HP6.out.hp
  unfold Loc.val at h
  have H := Lib.hid h
  clear h
  go_wp2_with fail
  (with_reducible refine H.out.mono ?_)
  rintro e w7 ⟨hx4, hb7⟩
  have HP7 := Lib.hid (HP6.out.keep hb7)
  clear hb7 H HP6 a0 a1 a2 a3 a4 a5
  obtain ⟨s4, c4, rfl, hy4⟩ : ∃ (s : ByteArray) (c : Nat), e = .returned (.tuple #[.string s, .int .i64 c]) ∧ c = c2 ∧ (chkV p.v = 0 → s = ⟨(shwT true p.v).toArray⟩) := by
    rcases hx4 with ⟨h1, rfl⟩ | ⟨h1, h2, rfl⟩
    · refine ⟨_, _, rfl, ?_, fun h => absurd h h1⟩
      rcases HX2.out with ⟨-, h⟩ | ⟨h, -⟩
      · exact h.symm
      · exact absurd h h1
    · refine ⟨_, 0, rfl, ?_, fun _ => rfl⟩
      rcases HX2.out with ⟨h, -⟩ | ⟨-, -, h, -⟩
      · exact absurd h1 h
      · exact h.symm
  obtain ⟨rfl, hy4⟩ := hy4
  have HX4 := Lib.hid hy4
  clear hy4 hx4
  by_cases h1 : c3 = 0
  rotate_left
  · have t1 : ((c3 : Int) != 0) = true := by simp; omega
    clear h1
    go_wp2_with fail
    try go_ret
    exact ⟨rfl, HP7.out.two.g⟩
  subst h1
  by_cases h2 : c4 = 0
  rotate_left
  · have t1 : ((c4 : Int) != 0) = true := by simp; omega
    clear h2
    rw [show ((0 : Nat) : Int) = 0 from rfl]
    go_wp2_with fail
    try go_ret
    exact ⟨rfl, HP7.out.two.g⟩
  subst h2
  obtain ⟨g1, tx1, e1⟩ : chkV q.v = 0 ∧ Tx 20 q.v ∧ s1 = ⟨(shwT false q.v).toArray⟩ := by
    rcases HX1.out with ⟨h, h'⟩ | ⟨h, h', -, h''⟩
    · exact absurd h'.symm h
    · exact ⟨h, h', h''⟩
  obtain ⟨g2, tx2, e2⟩ : chkV p.v = 0 ∧ Tx 20 p.v ∧ s2 = ⟨(shwT false p.v).toArray⟩ := by
    rcases HX2.out with ⟨h, h'⟩ | ⟨h, h', -, h''⟩
    · exact absurd h'.symm h
    · exact ⟨h, h', h''⟩
  have e3 := HX3.out g1
  have e4 := HX4.out g2
  rw [show ((0 : Nat) : Int) = 0 from rfl]
  by_cases hvu : q.v = p.v
  · have d1 : s1 = s2 := by rw [e1, e2, hvu]
    have d2 : s3 = s4 := by rw [e3, e4, hvu]
    subst d1
    subst d2
    have hsm : ∀ W, Below w7.heap.size w7 W → Calls Tryz.prog 13 #[q.val, p.val] W (BoolPostS true W) := fun W hW => same_any q p W (HP7.out.hq.keep hW) (HP7.out.hp.keep hW) true (by simp [hvu])
    unfold Loc.val at hsm
    have HS := Lib.hid hsm
    obtain ⟨a0, a1, a2, a3, a4, a5⟩ := HP7.out.two.a
    obtain ⟨b0, b1, b2, b3, b4, b5⟩ := HP7.out.two.b
    clear hsm hvu e1 e2 e3 e4 g1 g2 tx1 tx2 HX1 HX2 HX3 HX4
    go_wp2_with fail
    (with_reducible refine (HS.out _ (Below.refl _ _)).mono ?_)
    rintro e w8 ⟨rfl, hb8⟩
    have HP8 := Lib.hid (HP7.out.keep hb8)
    have HB8 := Lib.hid hb8
    clear hb8 a0 a1 a2 a3 a4 a5 b0 b1 b2 b3 b4 b5
    obtain ⟨a0, a1, a2, a3, a4, a5⟩ := HP8.out.two.a
    obtain ⟨b0, b1, b2, b3, b4, b5⟩ := HP8.out.two.b
    go_wp2_with fail
    (with_reducible refine (HS.out _ HB8.out).mono ?_)
    rintro e w9 ⟨rfl, hb9⟩
    have HG := Lib.hid (HP8.out.keep hb9).two.g
    clear hb9 a0 a1 a2 a3 a4 a5 b0 b1 b2 b3 b4 b5
    go_wp2_with fail
    try go_ret
    exact ⟨rfl, HG.out⟩
  · have d1 : s1 ≠ s2 := by rw [e1, e2]; exact ba_ne (fun e => hvu ((shwT_inj g1 g2 tx1 tx2).1 e))
    have d2 : s3 ≠ s4 := by rw [e3, e4]; exact ba_ne (fun e => hvu ((shwT_inj g1 g2 tx1 tx2).1 e))
    have d1b : (s1.toList == s2.toList) = false := tl_ne d1
    have d2b : (s3.toList == s4.toList) = false := tl_ne d2
    have hsm : ∀ W, Below w7.heap.size w7 W → Calls Tryz.prog 13 #[q.val, p.val] W (BoolPostS false W) := fun W hW => same_any q p W (HP7.out.hq.keep hW) (HP7.out.hp.keep hW) false (by simp [hvu])
    unfold Loc.val at hsm
    have HS := Lib.hid hsm
    obtain ⟨a0, a1, a2, a3, a4, a5⟩ := HP7.out.two.a
    obtain ⟨b0, b1, b2, b3, b4, b5⟩ := HP7.out.two.b
    clear hsm hvu e1 e2 e3 e4 g1 g2 tx1 tx2 HX1 HX2 HX3 HX4
    go_wp2_with fail
    (with_reducible refine (HS.out _ (Below.refl _ _)).mono ?_)
    rintro e w8 ⟨rfl, hb8⟩
    have HP8 := Lib.hid (HP7.out.keep hb8)
    have HB8 := Lib.hid hb8
    clear hb8 a0 a1 a2 a3 a4 a5 b0 b1 b2 b3 b4 b5
    obtain ⟨a0, a1, a2, a3, a4, a5⟩ := HP8.out.two.a
    obtain ⟨b0, b1, b2, b3, b4, b5⟩ := HP8.out.two.b
    go_wp2_with fail
    (with_reducible refine (HS.out _ HB8.out).mono ?_)
    rintro e w9 ⟨rfl, hb9⟩
    have HG := Lib.hid (HP8.out.keep hb9).two.g
    clear hb9 a0 a1 a2 a3 a4 a5 b0 b1 b2 b3 b4 b5
    go_wp2_with fail
    try go_ret
    exact ⟨rfl, HG.out⟩
end Go.Proofs.YtldhmfkojaekfaaGreatDoor
namespace Go.Proofs.YtldhmfkojaekfaaGreatDoor
open Go.RowKit Go.Deep Go.WideShapes
set_option maxRecDepth 100000

section
variable {H : Type} {enc : TypeId × Value → H} {w : World} {base : Nat} {spare : Nat → Bool} {held : Bool}
/-- within the reach -/
def wOk (t : TypeId) (d : DataW H) : Prop := ∀ k ∈ d.weights Tryz.prog t, k ≤ reachBytes
theorem weightsAll_in {e : TypeId} : ∀ {l : List (DataW H)} {d : DataW H}, d ∈ l → ∀ n ∈ d.weights Tryz.prog e, n ∈ DataW.weightsAll Tryz.prog e l
  | [], _, h, _, _ => by cases h
  | x :: l, d, h, n, hn => by
    unfold DataW.weightsAll
    rcases List.mem_cons.1 h with rfl | h
    · exact List.mem_append_left _ hn
    · exact List.mem_append_right _ (weightsAll_in h n hn)
theorem int_form {k : IntKind} {t : TypeId} (ht : Tryz.prog.underlying t = some (.int k)) {n : Nat} {c : Value} {x : DataW H × List MemPlace} (h : DataW.trod enc Tryz.prog w base spare held n t [c] = some x) : ∃ z, c = .int k z ∧ (Lit.int k z).wf = true := by
  obtain ⟨z, h1, -, h2⟩ := DataW.trod_int ht h
  exact ⟨z, by simpa using h1, h2⟩
theorem str_form {t : TypeId} (ht : Tryz.prog.underlying t = some .string) {n : Nat} {c : Value} {x : DataW H × List MemPlace} (h : DataW.trod enc Tryz.prog w base spare held n t [c] = some x) (hw : wOk t x.1) : ∃ s, c = .string s ∧ s.size ≤ 140737488351232 := by
  obtain ⟨s, h1, h2, -⟩ := DataW.trod_string ht h
  refine ⟨s, by simpa using h1, ?_⟩
  rw [h2] at hw
  unfold wOk DataW.weights at hw
  exact hw s.data.toList.length (by simp)

/-- a slice's elements, each opened by whatever opens one -/
theorem rows_open {t e : TypeId} {wd : Nat} (ht : Tryz.prog.underlying t = some (.slice e)) (hce : Tryz.prog.cellsOf e = wd) {n : Nat} {c : Value} {x : DataW H × List MemPlace} (h : DataW.trod enc Tryz.prog w base spare held n t [c] = some x) (hw : wOk t x.1)
    {α : Type} [Inhabited α] {R : List Value → α → Prop} (ih : ∀ m cs y, m < n → DataW.trod enc Tryz.prog w base spare held m e cs = some y → wOk e y.1 → ∃ a, R cs a) :
    ∃ (ad : Option Addr) (cap : Nat) (xs : List α), c = .slice ad xs.length cap ∧ xs.length * Tryz.prog.bytesOf e ≤ 140737488351232 ∧
      (xs ≠ [] → ∃ a : Addr, ad = some a ∧ ∀ i y, xs[i]? = some y → ∃ cs, R cs y ∧ cs.length = wd ∧ ∀ j u, cs[j]? = some u → w.cell? (a.add (i * wd + j)) = some u) := by
  rcases DataW.trod_slice ht h with ⟨h1, -⟩ | ⟨a, len, cap, elems, rest, m, rfl, h1, h2, -, hl, hm, hel, hi, -, -⟩
  · exact ⟨none, 0, [], by simpa using h1, by simp, fun h => absurd rfl h⟩
  · obtain rfl : c = .slice (some a) len cap := by simpa using h1
    have hw1 : ∀ k ∈ (elems.length + rest.length) * Tryz.prog.bytesOf e :: (DataW.weightsAll Tryz.prog e (elems.map (·.1)) ++ DataW.weightsAll Tryz.prog e (rest.map (·.1))), k ≤ reachBytes := by
      intro k hk
      refine hw k ?_
      rw [h2]
      unfold DataW.weights
      rw [ht]
      simpa using hk
    have hall : ∀ i, i < len → ∃ y : α, ∃ cs, R cs y ∧ cs.length = wd ∧ ∀ j u, cs[j]? = some u → w.cell? (a.add (i * wd + j)) = some u := by
      intro i hil
      have hb := hi i hil
      have hlt : i < elems.length := by omega
      rw [List.getElem?_eq_getElem hlt] at hb
      obtain ⟨cs, hcs, htr⟩ := Option.bind_eq_some_iff.1 hb
      obtain ⟨y, hy⟩ := ih m cs _ (by omega) htr (fun k hk => hw1 k (List.mem_cons_of_mem _ (List.mem_append_left _ (weightsAll_in (List.mem_map_of_mem (List.getElem_mem hlt)) k hk))))
      rw [hce] at hcs
      obtain ⟨_, hlen, hcell⟩ := World.cells?_some hcs
      refine ⟨y, cs, hy, hlen, fun j u hj => ?_⟩
      have hjl : j < cs.length := (List.getElem?_eq_some_iff.1 hj).1
      have := hcell j (by omega)
      rw [add_add] at this
      rw [this, hj]
    obtain ⟨F, hF⟩ := choose_lt hall
    have hg : ∀ j p, ((List.range len).map F)[j]? = some p → j < len ∧ p = F j := by
      intro j p hj
      rw [List.getElem?_map] at hj
      by_cases hjl : j < len
      · rw [List.getElem?_range hjl] at hj
        simp at hj
        exact ⟨hjl, hj.symm⟩
      · rw [List.getElem?_eq_none (by simp; omega)] at hj
        cases hj
    refine ⟨some a, cap, (List.range len).map F, by simp, ?_, fun _ => ⟨a, rfl, fun i y hy => ?_⟩⟩
    · have := hw1 _ (List.mem_cons_self)
      rw [List.length_map, List.length_range]
      have h3 : len * Tryz.prog.bytesOf e ≤ (elems.length + rest.length) * Tryz.prog.bytesOf e := Nat.mul_le_mul_right _ (by omega)
      have h4 : reachBytes = 140737488351232 := rfl
      omega
    · obtain ⟨h5, rfl⟩ := hg i y hy
      exact hF i h5
theorem Tryz.bytes_value : Tryz.prog.bytesOf 26 = 88 := by kernel_rfl
theorem Tryz.bytes_entry : Tryz.prog.bytesOf 44 = 104 := by kernel_rfl
/-- a value's six cells, opened, where its slices are -/
theorem val_struct {n : Nat} {cs : List Value} {x : DataW H × List MemPlace} (h : DataW.trod enc Tryz.prog w base spare held n 26 cs = some x) (hw : wOk 26 x.1) :
    ∃ (m : Nat) (k nn f : Int) (s : ByteArray) (cl ce : Value) (yl ye : DataW H × List MemPlace), n = m + 1 ∧ cs = [.int .i64 k, .int .i64 nn, .int .u64 f, .string s, cl, ce] ∧ (Lit.int .i64 k).wf = true ∧ (Lit.int .i64 nn).wf = true ∧ (Lit.int .u64 f).wf = true ∧ s.size ≤ 140737488351232 ∧
      DataW.trod enc Tryz.prog w base spare held m 23 [cl] = some yl ∧ wOk 23 yl.1 ∧ DataW.trod enc Tryz.prog w base spare held m 24 [ce] = some ye ∧ wOk 24 ye.1 := by
  obtain ⟨xs, m, rfl, hxy, hlen, hxl, hf⟩ := DataW.trod_struct Tryz.underlying26 h
  have c6 : Tryz.prog.cellsOf 26 = 6 := by kernel_rfl
  rw [c6] at hlen
  have k0 : Tryz.prog.cellsOf 3 = 1 := by kernel_rfl
  have k1 : Tryz.prog.cellsOf 2 = 1 := by kernel_rfl
  have k2 : Tryz.prog.cellsOf 22 = 1 := by kernel_rfl
  have k3 : Tryz.prog.cellsOf 9 = 1 := by kernel_rfl
  have k4 : Tryz.prog.cellsOf 23 = 1 := by kernel_rfl
  have k5 : Tryz.prog.cellsOf 24 = 1 := by kernel_rfl
  match xs, hxl, cs, hlen with
  | [y0, y1, y2, y3, y4, y5], _, [v0, v1, v2, v3, v4, v5], _ =>
    have g0 := hf 0 _ rfl
    have g1 := hf 1 _ rfl
    have g2 := hf 2 _ rfl
    have g3 := hf 3 _ rfl
    have g4 := hf 4 _ rfl
    have g5 := hf 5 _ rfl
    simp only [k0, k1, k2, k3, k4, k5, List.drop, List.take, List.getElem?_cons_zero, List.getElem?_cons_succ] at g0 g1 g2 g3 g4 g5
    have hx1 : x.1 = .agg [y0.1, y1.1, y2.1, y3.1, y4.1, y5.1] := by rw [hxy]; rfl
    have hww : ∀ k ∈ y0.1.weights Tryz.prog 3 ++ (y1.1.weights Tryz.prog 2 ++ (y2.1.weights Tryz.prog 22 ++ (y3.1.weights Tryz.prog 9 ++ (y4.1.weights Tryz.prog 23 ++ (y5.1.weights Tryz.prog 24 ++ []))))), k ≤ reachBytes := by
      intro k hk
      refine hw k ?_
      rw [hx1]
      unfold DataW.weights
      rw [Tryz.underlying26]
      exact hk
    obtain ⟨z0, rfl, w0⟩ := int_form Tryz.underlying3 g0
    obtain ⟨z1, rfl, w1⟩ := int_form Tryz.underlying2 g1
    obtain ⟨z2, rfl, w2⟩ := int_form Tryz.underlying22 g2
    obtain ⟨z3, rfl, w3⟩ := str_form Tryz.underlying9 g3 (fun k hk => hww k (by simp [hk]))
    exact ⟨m, z0, z1, z2, z3, v4, v5, y4, y5, rfl, rfl, w0, w1, w2, w3, g4, fun k hk => hww k (by simp [hk]), g5, fun k hk => hww k (by simp [hk])⟩
/-- an entry's seven cells -/
theorem ent_struct {n : Nat} {cs : List Value} {x : DataW H × List MemPlace} (h : DataW.trod enc Tryz.prog w base spare held n 44 cs = some x) (hw : wOk 44 x.1) :
    ∃ (m : Nat) (s : ByteArray) (cs' : List Value) (y : DataW H × List MemPlace), n = m + 1 ∧ cs = .string s :: cs' ∧ s.size ≤ 140737488351232 ∧ DataW.trod enc Tryz.prog w base spare held m 26 cs' = some y ∧ wOk 26 y.1 := by
  obtain ⟨xs, m, rfl, hxy, hlen, hxl, hf⟩ := DataW.trod_struct Tryz.underlying44 h
  have c7 : Tryz.prog.cellsOf 44 = 7 := by kernel_rfl
  rw [c7] at hlen
  have k3 : Tryz.prog.cellsOf 9 = 1 := by kernel_rfl
  have k6 : Tryz.prog.cellsOf 26 = 6 := by kernel_rfl
  match xs, hxl, cs, hlen with
  | [y0, y1], _, [v0, v1, v2, v3, v4, v5, v6], _ =>
    have g0 := hf 0 _ rfl
    have g1 := hf 1 _ rfl
    simp only [k3, k6, List.drop, List.take, List.getElem?_cons_zero, List.getElem?_cons_succ] at g0 g1
    have hx1 : x.1 = .agg [y0.1, y1.1] := by rw [hxy]; rfl
    have hww : ∀ k ∈ y0.1.weights Tryz.prog 9 ++ (y1.1.weights Tryz.prog 26 ++ []), k ≤ reachBytes := by
      intro k hk
      refine hw k ?_
      rw [hx1]
      unfold DataW.weights
      rw [Tryz.underlying44]
      exact hk
    obtain ⟨z3, rfl, w3⟩ := str_form Tryz.underlying9 g0 (fun k hk => hww k (by simp [hk]))
    exact ⟨m, z3, _, y1, rfl, rfl, w3, g1, fun k hk => hww k (by simp [hk])⟩
/-- what a row's cells are -/
theorem row_of {t : Bool} {ad : Option Addr} {cap : Nat} (xs : List (ByteArray × Loc)) (hb : xs.length * (st t * 16 - 8) ≤ 140737488351232)
    (h : xs ≠ [] → ∃ a : Addr, ad = some a ∧ ∀ i y, xs[i]? = some y → VAt w (fun _ => True) y.2 ∧ (t = true → y.1.size ≤ 140737488351232) ∧ ∀ j u, ((if t then [Value.string y.1] else []) ++ y.2.cs)[j]? = some u → w.cell? (a.add (i * st t + j)) = some u) :
    RowAt w (fun _ => True) t (xs.map fun y => (y.1, y.2.v)) (.slice ad xs.length cap) := by
  by_cases h0 : xs = []
  · subst h0; exact .nil _ _ _
  · obtain ⟨a, rfl, hall⟩ := h h0
    have hpos : 0 < xs.length := List.length_pos_iff.2 h0
    obtain ⟨y0, hy0⟩ : ∃ y0, xs[0]? = some y0 := ⟨_, List.getElem?_eq_getElem hpos⟩
    have hc0 : ∃ u, w.cell? (a.add (0 * st t + 0)) = some u := by
      cases t with
      | true => exact ⟨_, (hall 0 y0 hy0).2.2 0 (.string y0.1) rfl⟩
      | false => exact ⟨_, (hall 0 y0 hy0).2.2 0 (.int .i64 y0.2.v.k) rfl⟩
    obtain ⟨u0, hu0⟩ := hc0
    have hspot : a.spot = none := by
      have := World.cell?_spot hu0
      simpa [Addr.add] using this
    obtain ⟨b, off, spot⟩ := a
    simp only at hspot
    subst hspot
    have hlt : b < w.heap.size := World.block_lt_of_cell? w ⟨b, off + (0 * st t + 0), none⟩ (by rw [Addr.add_lit] at hu0; exact hu0)
    have hl : (xs.map fun y => (y.1, y.2.v)).length = xs.length := by simp
    rw [← hl]
    have hget : ∀ i x, (xs.map fun y => (y.1, y.2.v))[i]? = some x → ∃ y, xs[i]? = some y ∧ x = (y.1, y.2.v) ∧ (xs.getD i default) = y := fun i x hi => by
      rw [List.getElem?_map] at hi
      obtain ⟨y, h1, rfl⟩ := Option.map_eq_some_iff.1 hi
      exact ⟨y, h1, rfl, by simp [List.getD, h1]⟩
    refine .row t _ b off cap (fun i => (xs.getD i default).2.sl) (fun i => (xs.getD i default).2.se) (by simpa using h0) (by rw [hl]; exact hb) trivial hlt (fun ht i x hi => ?_) (fun i x hi => ?_) (fun i x hi => ?_) (fun i x hi => ?_)
    · obtain ⟨y, h1, rfl, -⟩ := hget i x hi
      subst ht
      obtain ⟨-, h2, h3⟩ := hall i y h1
      have := h3 0 (.string y.1) rfl
      rw [Addr.add_lit] at this
      exact ⟨this, h2 rfl⟩
    · obtain ⟨y, h1, rfl, h4⟩ := hget i x hi
      obtain ⟨hv, -, h3⟩ := hall i y h1
      have hcell : ∀ j u, y.2.cs[j]? = some u → w.cell? ⟨b, off + i * st t + fd t + j, none⟩ = some u := fun j u hj => by
        cases t with
        | true =>
          have := h3 (j + 1) u (by simpa using hj)
          rw [Addr.add_lit] at this
          rw [show off + i * st true + fd true + j = off + (i * st true + (j + 1)) by simp [fd]; omega]
          exact this
        | false =>
          have := h3 j u (by simpa using hj)
          rw [Addr.add_lit] at this
          rw [show off + i * st false + fd false + j = off + (i * st false + j) by simp [fd]; omega]
          exact this
      simp only [h4]
      exact ⟨hv.wf, hcell 0 _ rfl, hcell 1 _ rfl, hcell 2 _ rfl, hcell 3 _ rfl, hcell 4 _ rfl, hcell 5 _ rfl⟩
    · obtain ⟨y, h1, rfl, h4⟩ := hget i x hi
      simp only [h4]
      exact (hall i y h1).1.l
    · obtain ⟨y, h1, rfl, h4⟩ := hget i x hi
      simp only [h4]
      exact (hall i y h1).1.e
theorem wf_of {k nn f : Int} {s : ByteArray} {l : List V} {e : List (ByteArray × V)} (h1 : (Lit.int .i64 k).wf = true) (h2 : (Lit.int .i64 nn).wf = true) (h3 : (Lit.int .u64 f).wf = true) (h4 : s.size ≤ 140737488351232) : (V.mk k nn f s l e).wf := by
  simp [Lit.wf, IntKind.min, IntKind.max, IntKind.signed, IntKind.bits] at h1 h2 h3
  exact ⟨h1.1, h1.2, h2.1, h2.2, h3.1, h3.2, h4⟩
/-- a value, opened -/
theorem val_open : ∀ (n : Nat) (cs : List Value) (x : DataW H × List MemPlace), DataW.trod enc Tryz.prog w base spare held n 26 cs = some x → wOk 26 x.1 → ∃ q : Loc, cs = q.cs ∧ VAt w (fun _ => True) q := by
  intro n
  induction n using Nat.strongRecOn with
  | ind n ih =>
    intro cs x h hw
    obtain ⟨m, k, nn, f, s, cl, ce, yl, ye, rfl, rfl, w1, w2, w3, hs, hl, hwl, he, hwe⟩ := val_struct h hw
    obtain ⟨ad, cap, ls, rfl, hlb, hlc⟩ := rows_open (wd := 6) (R := fun cs (q : Loc) => cs = q.cs ∧ VAt w (fun _ => True) q) Tryz.underlying23 (by kernel_rfl) hl hwl (fun m' cs y hm h1 h2 => ih m' (by omega) cs y h1 h2)
    obtain ⟨bd, dap, es, rfl, heb, hec⟩ := rows_open (wd := 7) (R := fun cs (q : ByteArray × Loc) => cs = .string q.1 :: q.2.cs ∧ q.1.size ≤ 140737488351232 ∧ VAt w (fun _ => True) q.2) Tryz.underlying24 (by kernel_rfl) he hwe (fun m' cs y hm h1 h2 => by
      obtain ⟨m2, s2, cs2, y2, rfl, rfl, hs2, h3, h4⟩ := ent_struct h1 h2
      obtain ⟨q, rfl, hv⟩ := ih m2 (by omega) _ _ h3 h4
      exact ⟨(s2, q), rfl, hs2, hv⟩)
    rw [Tryz.bytes_value] at hlb
    rw [Tryz.bytes_entry] at heb
    have r1 := row_of (w := w) (t := false) (ad := ad) (cap := cap) (ls.map fun q => ((⟨#[]⟩ : ByteArray), q)) (by simpa [st] using hlb) (fun hne => by
      obtain ⟨a, rfl, hall⟩ := hlc (by intro e; rw [e] at hne; exact hne rfl)
      refine ⟨a, rfl, fun i y hi => ?_⟩
      rw [List.getElem?_map] at hi
      obtain ⟨q, hq, rfl⟩ := Option.map_eq_some_iff.1 hi
      obtain ⟨cs, ⟨rfl, hv⟩, -, hc⟩ := hall i q hq
      exact ⟨hv, (fun h => (by cases h)), fun j u hj => hc j u (by simpa using hj)⟩)
    have r2 := row_of (w := w) (t := true) (ad := bd) (cap := dap) es (by simp only [st, if_true]; omega) (fun hne => by
      obtain ⟨a, rfl, hall⟩ := hec hne
      refine ⟨a, rfl, fun i y hi => ?_⟩
      obtain ⟨cs, ⟨rfl, hk, hv⟩, -, hc⟩ := hall i y hi
      exact ⟨hv, fun _ => hk, fun j u hj => hc j u (by simpa using hj)⟩)
    rw [List.length_map, List.map_map] at r1
    refine ⟨⟨.mk k nn f s (ls.map (·.v)) (es.map fun y => (y.1, y.2.v)), ad, cap, bd, dap⟩, by simp [Loc.cs, V.k, V.n, V.f, V.s, V.l, V.e], wf_of w1 w2 w3 hs, ?_, ?_⟩
    · show RowAt w _ false (lp (ls.map (·.v))) (.slice ad (ls.map (·.v)).length cap)
      rw [List.length_map, lp, List.map_map]
      exact r1
    · show RowAt w _ true (es.map fun y => (y.1, y.2.v)) (.slice bd (es.map fun y => (y.1, y.2.v)).length dap)
      rw [List.length_map]
      exact r2
/-- an argument that is a value -/
theorem val_arg {r : Reach} {b0 : Nat} {v : Value} {d : DataW H} {p : List MemPlace} (hv : Value.okWide Tryz.prog w r b0 26 v) (h : DataW.Trod enc Tryz.prog w base spare held 26 v d p) (hw : wOk 26 d) :
    ∃ q : Loc, v = q.val ∧ VAt w (fun _ => True) q := by
  obtain ⟨cs, rfl, -⟩ := okWide_struct Tryz.underlying26 hv
  obtain ⟨n, hn⟩ := h
  obtain ⟨q, hq, hvq⟩ := val_open n _ _ hn hw
  refine ⟨q, ?_, hvq⟩
  have : cs.toList = q.cs := hq
  have e : cs = q.cs.toArray := by rw [← this]
  rw [e]; rfl
end
end Go.Proofs.YtldhmfkojaekfaaGreatDoor
namespace Go.Proofs.YtldhmfkojaekfaaGreatDoor
open Go.RowKit Gx

theorem tab_of_reads {P : Program} {W : World} {name : String} {k : IntKind} {zs : List Int} {g : Nat} {t e : TypeId} {n : Nat}
    (hg : P.globalNamed name = some g) (hty : (P.globals[g]?).map (·.type) = some t) (ht : P.underlying t = some (.array n e)) (he : P.underlying e = some (.int k)) (hce : P.cellsOf e = 1) (hct : P.cellsOf t = n)
    (h : Lib.VarReads P W name (Lib.tabData k zs)) : Lib.TabIs P W name k zs := by
  obtain ⟨g', t', cs, fuel, p, hg', ht', hvar, hd⟩ := h
  obtain rfl := Option.some.inj (hg.symm.trans hg')
  obtain rfl := Option.some.inj (hty.symm.trans ht')
  unfold Lib.TabIs
  rw [hvar, ← Lib.cells_of_tab ht he hce hct hd]

def deB64 : List Int := [0, 1, 56, 2, 57, 49, 28, 3, 61, 58, 42, 50, 38, 29, 17, 4, 62, 47, 59, 36, 45, 43, 51, 22, 53, 39, 33, 30, 24, 18, 12, 5, 63, 55, 48, 27, 60, 41, 37, 16, 46, 35, 44, 21, 52, 32, 23, 11, 54, 26, 40, 15, 34, 20, 31, 10, 25, 14, 19, 9, 13, 8, 7, 6]

theorem showSame_tabs {W : World} (hL : laidMetH Tryz.prog Rows.showSameRow.laid W) : STabs W := by
  have h2 := Lib.laidMet.reads hL (.tail _ (.head _))
  have h3 := Lib.laidMet.reads hL (.tail _ (.tail _ (.head _)))
  have h4 := Lib.laidMet.reads hL (.tail _ (.tail _ (.tail _ (.head _))))
  have h7 := Lib.laidMet.reads hL (.tail _ (.tail _ (.tail _ (.tail _ (.head _)))))
  have e2 : Rows.laid_math_bits_deBruijn64tab = Lib.tabData (H := Unit) .u8 deB64 := by kernel_rfl
  have e3 : Rows.laid_internal_strconv_uint64pow10 = Lib.tabData (H := Unit) .u64 Lib.pow10Tab := by kernel_rfl
  rw [e2] at h2
  rw [e3] at h3
  have t2 := tab_of_reads (g := 7) (t := (Tryz.prog.globals[7]!).type) (by kernel_rfl) (by kernel_rfl) (n := 64) (e := 5) (by kernel_rfl) (by kernel_rfl) (by kernel_rfl) (by kernel_rfl) h2
  have t3 := tab_of_reads (g := 3) (t := (Tryz.prog.globals[3]!).type) (by kernel_rfl) (by kernel_rfl) (n := 20) (e := 22) (by kernel_rfl) (by kernel_rfl) (by kernel_rfl) (by kernel_rfl) h3
  have hU := Go.Proofs.utf8Tabs_of_reads Tryz.lays260 ⟨by kernel_rfl, by kernel_rfl, by kernel_rfl, by kernel_rfl, by kernel_rfl, by kernel_rfl, by kernel_rfl⟩
    (w := W) (Pinned.utf8First_eq ▸ h7) ((show Rows.laid_unicode_utf8_acceptRanges = Lib.acceptData by kernel_rfl) ▸ h4)
  exact ⟨⟨hU, ⟨⟨t2.cell (g := 7) (by kernel_rfl) 1 (by decide), t2.cell (g := 7) (by kernel_rfl) 7 (by decide), t2.cell (g := 7) (by kernel_rfl) 15 (by decide)⟩, t3⟩⟩, t3⟩
end Go.Proofs.YtldhmfkojaekfaaGreatDoor
