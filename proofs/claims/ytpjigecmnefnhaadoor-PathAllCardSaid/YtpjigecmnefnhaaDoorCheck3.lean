/-
  The contracts of val.check and val.Check, whatever is asked. Conditions: Go's two tables of utf8 lie in the world.
-/
import Derived.Test.YtpjigecmnefnhaaDoorCheck2
namespace Go.Proofs.YtpjigecmnefnhaaDoor
open Go.RowKit Go.Shelf Gx
set_option maxRecDepth 100000

theorem check_any : ∀ (d : Nat) (q : Loc) (m M : Nat) (w : World), d ≤ 20 → Boxed w M 3 (.int .i64 m) → m ≤ 2000 → Tabs w → VAt w (Bw w.heap.size M) q →
    Calls Tryd.prog 18 #[q.val, .int .i64 (20 - (d : Int)), .pointer (some ⟨M, 0, none⟩)] w (ChkPost (chk d q.v m) M w)
  | 0, q, m, M, w, _, hM, hm, hT, hv => by
    by_cases h : 2000 < m + 1
    · have := check_zero q 20 m (m + 1) M w hM hm rfl 2 (.inl ⟨h, rfl⟩)
      rw [show chk 0 q.v m = (2, m + 1) by simp only [chk]; rw [if_pos h]]
      exact this
    · have := check_zero q 20 m (m + 1) M w hM hm rfl 5 (.inr ⟨by omega, rfl, rfl⟩)
      rw [show chk 0 q.v m = (5, m + 1) by simp only [chk]; rw [if_neg h]]
      exact this
  | d + 1, q, m, M, w, hd, hM, hm, hT, hv => by
    by_cases h : 2000 < m + 1
    · have := check_zero q (20 - ((d + 1 : Nat) : Int)) m (m + 1) M w hM hm rfl 2 (.inl ⟨h, rfl⟩)
      rw [show chk (d + 1) q.v m = (2, m + 1) by simp only [chk]; rw [if_pos h]]
      exact this
    · refine check_more q (20 - ((d + 1 : Nat) : Int)) m (m + 1) M w hM rfl (by omega) (by omega) (by omega) hT hv (chk d) (chk_le d) (fun p m' M' w' h1 h2 h3 h4 => ?_) _ ?_
      · have := check_any d p m' M' w' (by omega) h1 h2 h3 h4
        rwa [show (20 - ((d + 1 : Nat) : Int)) + 1 = 20 - (d : Int) by omega]
      · simp only [chk]; rw [if_neg h]; rfl


def CheckPost (r : Nat) (w : World) (e : Ending) (w' : World) : Prop := e = .returned (.int .i64 r) ∧ Below w.heap.size w w'
set_option maxHeartbeats 1000000 in
theorem Check_any (q : Loc) (w : World) (hT : Tabs w) (hv : VAt w (fun _ => True) q) : Calls Tryd.prog 10 #[q.val] w (CheckPost (chkV q.v) w) := by
  have hb0 : Below w.heap.size w (w.alloc (.cells #[.int .i64 q.v.k, .int .i64 q.v.n, .int .u64 q.v.f, .string q.v.s, .slice q.ad q.v.l.length q.cap, .slice q.bd q.v.e.length q.dap] 26)) := (Below.refl w.heap.size w).alloc (Nat.le_refl _) _
  have hsz : (w.alloc (.cells #[.int .i64 q.v.k, .int .i64 q.v.n, .int .u64 q.v.f, .string q.v.s, .slice q.ad q.v.l.length q.cap, .slice q.bd q.v.e.length q.dap] 26)).heap.size = w.heap.size + 1 := by simp
  have hc := CellsAt.box (q := q) (heap_alloc_new w (.cells #[.int .i64 q.v.k, .int .i64 q.v.n, .int .u64 q.v.f, .string q.v.s, .slice q.ad q.v.l.length q.cap, .slice q.bd q.v.e.length q.dap] 26))
  unfold Loc.val
  have HT := Lib.hid hT
  have HV := Lib.hid hv
  clear hT hv
  go_enter Tryd.func10, Tryd.ntmps10
  go_upto_region 1 with fail
  generalize hw1 : World.alloc w _ = w1 at hb0 hsz hc ⊢
  clear hw1
  have hb1 : Below w.heap.size w (w1.alloc (.cells #[.int .i64 0] 3)) := hb0.alloc hb0.size _
  have hc1 : CellsAt (w1.alloc (.cells #[.int .i64 0] 3)) w.heap.size 0 q := hc.through (Below.heap_alloc w1 _ _ (by omega))
  have hbx : Boxed (w1.alloc (.cells #[.int .i64 0] 3)) w1.heap.size 3 (.int .i64 ((0 : Nat) : Int)) := Boxed.new w1 _ _
  rw [hsz] at hbx
  go_upto_region 2 with fail
  generalize hw2 : World.alloc w1 _ = w2 at hb1 hc1 hbx ⊢
  obtain ⟨c0, c1, c2, c3, c4, c5⟩ := hc1
  have HB1 := Lib.hid hb1
  have HBX := Lib.hid hbx
  clear hw2 hb0 hc hb1 hbx
  go_wp2_with fail
  have hck := check_any 20 q 0 (w.heap.size + 1) w2 (Nat.le_refl _) HBX.out (by decide) (HT.out.keep HB1.out) ((HV.out.through HB1.out.size (fun b _ hl => HB1.out.block b hl) (fun b _ hl => ⟨Nat.lt_of_lt_of_le hl HB1.out.size, by omega⟩)))
  simp only [Loc.val] at hck
  rw [show (20 - ((20 : Nat) : Int)) = 0 from rfl] at hck
  (with_reducible refine hck.mono ?_)
  clear hck
  rintro e w3 ⟨rfl, -, hg⟩
  go_wp2_with fail
  try go_ret
  exact ⟨rfl, HB1.out.trans ((Below.refl _ w2).grown hg HB1.out.size (fun k e => by cases e; omega))⟩
end Go.Proofs.YtpjigecmnefnhaaDoor
