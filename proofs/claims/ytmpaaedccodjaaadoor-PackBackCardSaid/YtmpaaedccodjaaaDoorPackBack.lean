/-
  PackBack's walk. Conditions: Go's two tables of utf8 lie in the world.
-/
import Derived.Test.YtmpaaedccodjaaaDoorPackBackLaw
import Derived.Test.YtmpaaedccodjaaaDoorAlike
namespace Go.Proofs.YtmpaaedccodjaaaDoor
open Go.RowKit Gx
set_option maxRecDepth 100000

/-- v, boxed -/
structure One (w : World) (q : Loc) (W : World) : Prop where
  b : CellsAt W w.heap.size 0 q
  lt : w.heap.size < W.heap.size
  g : Below w.heap.size w W
  hq : VAt W (fun _ => True) q
theorem One.keep {w : World} {q : Loc} {W W' : World} (h : One w q W) (hb : Below W.heap.size W W') : One w q W' :=
  ⟨h.b.through (hb.block _ h.lt), Nat.lt_of_lt_of_le h.lt hb.size, h.g.trans (hb.mono (Nat.le_of_lt h.lt)), h.hq.keep hb⟩
theorem One.start (w : World) (q : Loc) (hq : VAt w (fun _ => True) q) : One w q (w.alloc (.cells #[.int .i64 q.v.k, .int .i64 q.v.n, .int .u64 q.v.f, .string q.v.s, .slice q.ad q.v.l.length q.cap, .slice q.bd q.v.e.length q.dap] 26)) := by
  have hb := (Below.refl w.heap.size w).alloc (Nat.le_refl _) (.cells #[.int .i64 q.v.k, .int .i64 q.v.n, .int .u64 q.v.f, .string q.v.s, .slice q.ad q.v.l.length q.cap, .slice q.bd q.v.e.length q.dap] 26)
  exact ⟨CellsAt.box (q := q) (heap_alloc_new w _), by simp, hb, hq.keep hb⟩
def TrueBack (w : World) (e : Ending) (w' : World) : Prop := e = .returned (.bool true) ∧ Below w.heap.size w w'
set_option maxHeartbeats 16000000 in
theorem packBack_walk (q : Loc) (w : World) (hT : Tabs w) (hq : VAt w (fun _ => True) q) : Calls Tryd.prog 4 #[q.val] w (TrueBack w) := by
  have HPO := Lib.hid (One.start w q hq)
  have HT := Lib.hid hT
  unfold Loc.val
  clear hq hT
  go_enter Tryd.func4, Tryd.ntmps4
  go_upto_region 1 with fail
  generalize hw2 : World.alloc w _ = w2 at HPO ⊢
  clear hw2
  go_wp2_with fail
  (with_reducible refine (packs_any _ (HT.out.keep HPO.out.g)).mono ?_)
  rintro e w3 ⟨rfl, hb3⟩
  have HP3 := Lib.hid (HPO.out.keep hb3)
  clear hb3 HPO
  obtain ⟨a0, a1, a2, a3, a4, a5⟩ := HP3.out.b
  have hpk := Pack_any q w3 (HT.out.keep HP3.out.g) HP3.out.hq
  simp only [Loc.val] at hpk
  have HPK := Lib.hid hpk
  clear hpk
  go_wp2_with fail
  (with_reducible refine HPK.out.mono ?_)
  rintro e w4 ⟨ao, m, c, rfl, hb4, hno, hyes⟩
  have HP4 := Lib.hid (HP3.out.keep hb4)
  obtain ⟨r, hr⟩ : ∃ r, chkV q.v = r := ⟨_, rfl⟩
  rw [hr] at hno hyes ⊢
  have HR := Lib.hid hr
  have HN := Lib.hid hno
  have HY := Lib.hid hyes
  clear hb4 hno hyes hr a0 a1 a2 a3 a4 a5 HPK
  obtain ⟨a0, a1, a2, a3, a4, a5⟩ := HP4.out.b
  by_cases h1 : r = 0
  rotate_left
  · have t1 : ((r : Int) != 0) = true := by simp; omega
    obtain ⟨rfl, rfl⟩ := HN.out h1
    have hck := Check_any q w4 (HT.out.keep HP4.out.g) HP4.out.hq
    simp only [Loc.val, HR.out] at hck
    have HCK := Lib.hid hck
    clear h1 hck
    go_wp2_with fail
    (with_reducible refine HCK.out.mono ?_)
    rintro e w5 ⟨rfl, hb5⟩
    have HP5 := Lib.hid (HP4.out.keep hb5)
    clear hb5
    go_wp2_with fail
    try go_ret
    exact ⟨rfl, HP5.out.g⟩
  subst h1
  obtain ⟨rfl, ho⟩ := HY.out rfl
  have hgood := chkV_good HR.out
  have hwf := HP4.out.hq.wfAll
  obtain ⟨ao', c', hv, hrd⟩ := Rd.own ho (bytesL_wf (pk_bytes hgood.1 hwf))
  cases hv
  have hun := unpk_pk HR.out hwf
  have hup := Unpack_any ao c q.v.pk w4 (HT.out.keep HP4.out.g) hrd (by omega)
  obtain ⟨L, hL⟩ : ∃ L, q.v.pk.length = L := ⟨_, rfl⟩
  rw [hL] at hup ⊢
  have HUP := Lib.hid hup
  have HUN := Lib.hid hun
  clear hup hun hL hgood hwf hrd ho HN HY a0 a1 a2 a3 a4 a5
  go_wp2_with fail
  (with_reducible refine HUP.out.mono ?_)
  rintro e w5 ⟨p, rfl, hp, hb5, hpv⟩
  rw [HUN.out] at hpv ⊢
  have HP5 := Lib.hid (HP4.out.keep hb5)
  have hb6 := (Below.refl w5.heap.size w5).alloc (Nat.le_refl _) (.cells #[.int .i64 p.v.k, .int .i64 p.v.n, .int .u64 p.v.f, .string p.v.s, .slice p.ad p.v.l.length p.cap, .slice p.bd p.v.e.length p.dap] 26)
  have hbx := CellsAt.box (q := p) (heap_alloc_new w5 (.cells #[.int .i64 p.v.k, .int .i64 p.v.n, .int .u64 p.v.f, .string p.v.s, .slice p.ad p.v.l.length p.cap, .slice p.bd p.v.e.length p.dap] 26))
  have HPV := Lib.hid hpv
  have hp6 := (hp.weak (C := fun _ => True) (fun _ _ _ => trivial)).keep hb6
  have HP6 := Lib.hid (HP5.out.keep hb6)
  have hB := Lib.hid (by exact hb6)
  simp only [Loc.val]
  clear hpv hp hb5 hb6 HUP HP5 HP4
  go_upto_region 7 with fail
  generalize hw6 : World.alloc w5 _ = w6 at HP6 hp6 hbx ⊢
  generalize hvb : w5.heap.size = vb at hbx ⊢
  have HQ6 := Lib.hid hp6
  obtain ⟨a0, a1, a2, a3, a4, a5⟩ := HP6.out.b
  obtain ⟨b0, b1, b2, b3, b4, b5⟩ := hbx
  clear hw6 hvb hp6 hB
  have hal := alike_any q p w6 HP6.out.hq HQ6.out
  simp only [Loc.val] at hal
  have HAL := Lib.hid hal
  clear hal
  go_wp2_with fail
  (with_reducible refine HAL.out.mono ?_)
  rintro e w7 ⟨b, rfl, hbt, hb7⟩
  obtain rfl : b = true := hbt.2 HPV.out.symm
  have HP7 := Lib.hid (HP6.out.keep hb7)
  clear hbt hb7
  go_wp2_with fail
  try go_ret
  exact ⟨rfl, HP7.out.g⟩
end Go.Proofs.YtmpaaedccodjaaaDoor
