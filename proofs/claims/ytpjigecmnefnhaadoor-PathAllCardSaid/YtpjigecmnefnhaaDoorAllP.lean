/-
  The contract of path.All. Conditions: the value is good, and has no more than 1000 nodes.
-/
import Derived.Test.YtpjigecmnefnhaaDoorAllW
import Derived.Laws.EntriesVeiled
namespace Go.Proofs.YtpjigecmnefnhaaDoor
open Go.RowKit Gx
set_option maxRecDepth 100000

/-- the rows of the paths of a value -/
def RowsPost (ps : List (List Step)) (w : World) (e : Ending) (w' : World) : Prop :=
  ∃ ao c rows, e = .returned (.slice ao ps.length c) ∧ OT w' (w.heap.size + 1) (fun _ => False) ps (.slice ao ps.length c) rows ∧ Below w.heap.size w w'
set_option maxHeartbeats 4000000 in
theorem all_any (q : Loc) (w : World) (hq : VAt w (fun _ => True) q) (hg : Gd 20 q.v) (hn : q.v.nodes ≤ 1000) : Calls Tryd.prog 12 #[q.val] w (RowsPost (pathsD 20 q.v []) w) := by
  obtain ⟨w1, hw1⟩ : ∃ w1, w1 = w.alloc (.cells #[.int .i64 q.v.k, .int .i64 q.v.n, .int .u64 q.v.f, .string q.v.s, .slice q.ad q.v.l.length q.cap, .slice q.bd q.v.e.length q.dap] 26) := ⟨_, rfl⟩
  have z1 : w1.heap.size = w.heap.size + 1 := by rw [hw1]; simp
  have b1 : Below w.heap.size w w1 := by rw [hw1]; exact (Below.refl _ w).alloc (Nat.le_refl _) _
  have x1 : w1.heap[w.heap.size]? = some (.cells #[.int .i64 q.v.k, .int .i64 q.v.n, .int .u64 q.v.f, .string q.v.s, .slice q.ad q.v.l.length q.cap, .slice q.bd q.v.e.length q.dap] 26) := by rw [hw1]; exact heap_alloc_new w _
  obtain ⟨w2, hw2⟩ : ∃ w2, w2 = w1.alloc (.cells #[.slice none 0 0] 40) := ⟨_, rfl⟩
  have z2 : w2.heap.size = w.heap.size + 1 + 1 := by rw [hw2]; simp [z1]
  have b2 : Below w.heap.size w w2 := by rw [hw2]; exact b1.alloc (by omega) _
  have o2 : w2.heap[w.heap.size + 1]? = some (.cells #[.slice none 0 0] 40) := by rw [hw2, ← z1]; exact heap_alloc_new w1 _
  have x2 : w2.heap[w.heap.size]? = w1.heap[w.heap.size]? := by rw [hw2]; exact Below.heap_alloc _ _ _ (by omega)
  have HQ := Lib.hid hq
  have HG := Lib.hid hg
  have HN := Lib.hid hn
  unfold Loc.val
  clear hq hg hn
  go_enter Tryd.func12, Tryd.ntmps12
  go_upto_region 2 with fail
  rw [← hw1, ← hw2]
  clear hw1 hw2
  go_upto_region 3 with fail
  obtain ⟨w3, hw3⟩ : ∃ w3, w3 = w2.alloc (.cells #[.nilFunc] 55) := ⟨_, rfl⟩
  have z3 : w3.heap.size = w.heap.size + 1 + 1 + 1 := by rw [hw3]; simp [z2]
  have b3 : Below w.heap.size w w3 := by rw [hw3]; exact b2.alloc (by omega) _
  have f3 : w3.heap[w.heap.size + 1 + 1]? = some (.cells #[.nilFunc] 55) := by rw [hw3, ← z2]; exact heap_alloc_new w2 _
  have o3 : w3.heap[w.heap.size + 1]? = some (.cells #[.slice none 0 0] 40) := by rw [hw3, Below.heap_alloc _ _ _ (by omega)]; exact o2
  have x3 : w3.heap[w.heap.size]? = some (.cells #[.int .i64 q.v.k, .int .i64 q.v.n, .int .u64 q.v.f, .string q.v.s, .slice q.ad q.v.l.length q.cap, .slice q.bd q.v.e.length q.dap] 26) := by rw [hw3, Below.heap_alloc _ _ _ (by omega), x2]; exact x1
  rw [← hw3]
  clear hw3 z2 b2 o2 x2 z1 b1 x1 w1 w2
  obtain ⟨w4, hw4⟩ : ∃ w4, w4 = w3.setCell ⟨w.heap.size + 1 + 1, 0, none⟩ (.func (.func 20) #[] #[.pointer (some ⟨w.heap.size + 1, 0, none⟩), .pointer (some ⟨w.heap.size + 1 + 1, 0, none⟩)]) := ⟨_, rfl⟩
  have hg4 := grown_cell w3 (w.heap.size + 1 + 1) 0 (.func (.func 20) #[] #[.pointer (some ⟨w.heap.size + 1, 0, none⟩), .pointer (some ⟨w.heap.size + 1 + 1, 0, none⟩)])
  rw [← hw4] at hg4
  have b4 : Below w.heap.size w w4 := by rw [hw4]; exact b3.setCell (Nat.le_trans (Nat.le_succ _) (Nat.le_succ _)) _
  have f4 : w4.cell? ⟨w.heap.size + 1 + 1, 0, none⟩ = some (.func (.func 20) #[] #[.pointer (some ⟨w.heap.size + 1, 0, none⟩), .pointer (some ⟨w.heap.size + 1 + 1, 0, none⟩)]) := by rw [hw4]; simp [World.cell?, World.setCell, Array.getElem?_modify, f3]
  have o4 : w4.heap[w.heap.size + 1]? = some (.cells #[.slice none 0 0] 40) := (hg4.block _ (by omega) (fun e => by have := Option.some.inj e; omega)).trans o3
  have x4 : CellsAt w4 w.heap.size 0 q := CellsAt.box ((hg4.block _ (by omega) (fun e => by have := Option.some.inj e; omega)).trans x3)
  have z4 : w4.heap.size = w.heap.size + 1 + 1 + 1 := by rw [hw4]; simp [World.setCell, z3]
  obtain ⟨k3, kf3⟩ := cell_one f3
  have HAI : Hid (AI w4 w.heap.size (w.heap.size + 1) (fun _ => False) [] (.slice none 0 0) [] (.slice none 0 0) []) := Lib.hid (AI.mk (by omega) (OT.mk o4 (World.ownsRow_nil _ _ _ _) (fun j p h => by simp at h) (fun b h => by cases h)) f4 (World.ownsRow_nil _ _ _ _) (fun b h => h.elim) (fun b h => by cases h) (fun x h => by cases h))
  have hc := all1_any 20 q w4 w.heap.size (w.heap.size + 1) _ [] _ [] _ [] HG.out ((HQ.out.weak (fun b _ hl => hl)).keep b4) HAI.out (by simpa using HN.out) (by simp)
  simp only [Loc.val] at hc
  have HC := Lib.hid hc
  have HB4 := Lib.hid b4
  have HZ4 := Lib.hid z4
  have HW4 := Lib.hid hw4
  clear hc b4 hg4 o4 x3 o3 f3 b3 z3 z4 hw4
  go_upto_region 4 with fail
  rw [← HW4.out]
  clear k3 kf3 HW4
  obtain ⟨a0, a1, a2, a3, a4, a5⟩ := x4
  go_wp2_with fail
  (with_reducible refine HC.out.mono ?_)
  rintro e w5 ⟨⟨rv, rfl⟩, vo', rows', hot, -, hfr, -⟩
  obtain ⟨ao, c, rfl⟩ := hot.form
  rw [List.nil_append] at hot
  have HOT := Lib.hid hot
  have HB5 : Hid (Below w.heap.size w w5) := Lib.hid (HB4.out.trans (hfr.below (n := w.heap.size) (by have := HZ4.out; omega) (fun b hb => by
    rcases hb with h | h | h
    · omega
    · cases h
    · cases h)))
  obtain ⟨o5, of5⟩ := cell_one hot.cell
  clear hot hfr a0 a1 a2 a3 a4 a5 f4
  go_wp2_with fail
  try go_ret
  exact ⟨ao, c, rows', rfl, HOT.out, HB5.out⟩
end Go.Proofs.YtpjigecmnefnhaaDoor
