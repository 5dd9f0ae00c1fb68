/-
  The contract of place.Of: a place's line and column. Condition: the text has at most 1048576 bytes.
-/
import Derived.Test.YtiklmgjacdoeoaaPlace
import Derived.Test.YtiklmgjacdoeoaaStartsLaw
namespace Go.Proofs.Ytiklmgjacdoeoaa
open Go.RowKit

theorem startsOf_sorted (l : List UInt8) : Sorted (startsOf l) := by
  intro i j hij hj
  rcases Nat.lt_or_ge i j with h | h
  · exact Int.le_of_lt (startsOf_lt l i j h hj)
  · obtain rfl : i = j := by omega
    exact Int.le_refl _

def OfPost (l : List UInt8) (at_ : Int) (w : World) (e : Ending) (w' : World) : Prop :=
  e = .returned (.tuple #[.int .i64 (lineOf l at_), .int .i64 (colOf l at_), .int .i64 0]) ∧ Below w.heap.size w w'

set_option maxHeartbeats 400000 in
theorem of_in (s : ByteArray) (at_ : Int) (w : World) (hs : s.size ≤ 1048576) (h0 : 0 ≤ at_) (h1 : at_ ≤ s.size) :
    Calls Try.prog 8 #[.string s, .int .i64 at_] w (OfPost s.data.toList at_ w) := by
  have hlen : (startsOf s.data.toList).length ≤ 1048577 := by have := startsOf_len s.data.toList; simp at this; omega
  go_enter Try.func8, Try.ntmps8
  go_wp2_with (go_at_call 14; refine (starts_any s _ hs).mono ?_; rintro e w1 ⟨g, cap, rfl, hg1, hg2, hg3, hg4, hb⟩; have HG := Lib.hid hg4; clear hg4)
  have hsz1 : w.heap.size < w1.heap.size := by have := hb.size; simp at this; omega
  have hsz2 : g < w1.heap.size := hg2
  have hc1 : (w1.alloc (.cells #[.slice (some ⟨g, 0, none⟩) (startsOf s.data.toList).length cap] 36)).cell? ⟨w1.heap.size, 0, none⟩ = some (.slice (some ⟨g, 0, none⟩) (startsOf s.data.toList).length cap) := by
    rw [World.cell?_alloc_mark]; rfl
  have hc2 : (w1.alloc (.cells #[.slice (some ⟨g, 0, none⟩) (startsOf s.data.toList).length cap] 36)).cell? ⟨w.heap.size, 0, none⟩ = some (.int .i64 at_) := by
    rw [World.cell?_alloc_lt _ _ _ hsz1, hb.cell (p := ⟨w.heap.size, 0, none⟩) (by simp)]
    rw [World.cell?_alloc_mark]; rfl
  have hc3 : ∀ i, i < (startsOf s.data.toList).length → (w1.alloc (.cells #[.slice (some ⟨g, 0, none⟩) (startsOf s.data.toList).length cap] 36)).cell? ⟨g, i, none⟩ = some (.int .i64 ((startsOf s.data.toList).getD i 0)) := by
    intro i hi
    rw [World.cell?_alloc_lt _ _ _ hg2]
    exact HG.out i hi
  have HS := Lib.hid (search_any w1.heap.size w.heap.size g cap (startsOf s.data.toList) at_ _ hlen (startsOf_sorted _) hc1 hc2 hc3)
  refine HS.out.mono ?_
  rintro e w2 ⟨r, rfl, hr0, hr1, hr2, m, rfl⟩
  obtain rfl := search_line _ _ _ hr0 hr1 hr2
  have hpos := lineOf_pos s.data.toList at_ h0
  have hc3 := hc3 (lineOf s.data.toList at_ - 1) (by omega)
  have hx1 := hr1 (lineOf s.data.toList at_ - 1) (by omega)
  have HB : Below w.heap.size w ((w1.alloc (.cells #[.slice (some ⟨g, 0, none⟩) (startsOf s.data.toList).length cap] 36)).drewN m) :=
    ((((Below.refl w.heap.size w).alloc (Nat.le_refl _) _).trans (hb.mono (by simp))).alloc (Nat.le_of_lt hsz1) _).trans (Gx.drewN_below _ _ _)
  rw [← World.cell?_drewN (n := m)] at hc1 hc2 hc3
  clear hr1 hr2 HG HS hb
  generalize ((w1.alloc (.cells #[.slice (some ⟨g, 0, none⟩) (startsOf s.data.toList).length cap] 36)).drewN m) = w2 at *
  have hcol : colOf s.data.toList at_ = at_ - (startsOf s.data.toList).getD (lineOf s.data.toList at_ - 1) 0 + 1 := rfl
  obtain ⟨x, hx⟩ : ∃ x, x = (startsOf s.data.toList).getD (lineOf s.data.toList at_ - 1) 0 := ⟨_, rfl⟩
  rw [← hx] at hc3 hcol hx1
  have hx0 : 0 ≤ x := by rw [hx]; exact startsOf_nn _ _
  have HCOL := Lib.hid hcol; clear hcol hx
  generalize hn : lineOf s.data.toList at_ = n at *
  generalize hq : (startsOf s.data.toList).length = q at *
  have HN := Lib.hid hn; have HQ := Lib.hid hq; clear hn hq
  have hi1 : IntKind.i64.wrap ((n : Int) - 1) = (n : Int) - 1 := IntWalk.i64_in _ (by omega)
  have hi2 : ((n : Int) - 1).toNat = n - 1 := by omega
  have hi3 : IntKind.i64.wrap (at_ - x) = at_ - x := IntWalk.i64_in _ (by omega)
  have hi4 : IntKind.i64.wrap (at_ - x + 1) = at_ - x + 1 := IntWalk.i64_in _ (by omega)
  have hi5 : (0 : Int) ≤ (n : Int) - 1 := by omega
  have hi6 : (n : Int) - 1 < (q : Int) := by omega
  go_wp2
  go_quiet (fail)
  clear hi1 hi2 hi3 hi4
  go_wp2
  go_ret3
  refine ⟨?_, HB.trans (Gx.drewN_below _ _ _)⟩
  rw [HN.out, HCOL.out]; rfl
end Go.Proofs.Ytiklmgjacdoeoaa
