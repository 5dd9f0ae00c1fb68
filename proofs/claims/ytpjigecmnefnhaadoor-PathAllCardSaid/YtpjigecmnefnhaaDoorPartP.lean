/-
  The contract of path.part. No conditions.
-/
import Derived.Test.YtpjigecmnefnhaaDoorFind
namespace Go.Proofs.YtpjigecmnefnhaaDoor
open Go.RowKit Gx
set_option maxRecDepth 100000

def PartPost (B : Nat → Prop) (v : V) (x : Step) (w : World) (e : Ending) (w' : World) : Prop :=
  ∃ p : Loc, e = .returned (.tuple #[p.val, .int .i64 (partV v x).2]) ∧ p.v = (partV v x).1 ∧ VAt w' B p ∧ Below w.heap.size w w'
/-- the boxes of the value and of the step; the result's -/
structure PT (w : World) (q : Loc) (s : ByteArray) (N : Int) (W : World) : Prop where
  a : CellsAt W w.heap.size 0 q
  s0 : W.cell? ⟨w.heap.size + 1, 0, none⟩ = some (.string s)
  s1 : W.cell? ⟨w.heap.size + 1, 1, none⟩ = some (.int .i64 N)
  res : W.heap[w.heap.size + 1 + 1]? = some (.cells #[.int .i64 0, .int .i64 0, .int .u64 0, .string ⟨#[]⟩, .slice none 0 0, .slice none 0 0] 26)
  g : Below w.heap.size w W
namespace PT
variable {w W W' : World} {q : Loc} {s : ByteArray} {N : Int}
theorem lt (h : PT w q s N W) : w.heap.size + 1 + 1 < W.heap.size := (Array.getElem?_eq_some_iff.1 h.res).1
theorem keep (h : PT w q s N W) (hb : Below W.heap.size W W') : PT w q s N W' := by
  have h1 := h.lt
  exact ⟨h.a.through (hb.block _ (by omega)), (hb.cell (p := ⟨_, 0, none⟩) (by show w.heap.size + 1 < _; omega)).trans h.s0, (hb.cell (p := ⟨_, 1, none⟩) (by show w.heap.size + 1 < _; omega)).trans h.s1, (hb.block _ h1).trans h.res, h.g.trans (hb.mono h.g.size)⟩
theorem start (w : World) (q : Loc) (s : ByteArray) (N : Int) : PT w q s N (((w.alloc (.cells #[.int .i64 q.v.k, .int .i64 q.v.n, .int .u64 q.v.f, .string q.v.s, .slice q.ad q.v.l.length q.cap, .slice q.bd q.v.e.length q.dap] 26)).alloc (.cells #[.string s, .int .i64 N] 33)).alloc (.cells #[.int .i64 0, .int .i64 0, .int .u64 0, .string ⟨#[]⟩, .slice none 0 0, .slice none 0 0] 26)) := by
  have e1 : (w.alloc (.cells #[.int .i64 q.v.k, .int .i64 q.v.n, .int .u64 q.v.f, .string q.v.s, .slice q.ad q.v.l.length q.cap, .slice q.bd q.v.e.length q.dap] 26)).heap.size = w.heap.size + 1 := World.size_alloc _ _
  have e2 : ((w.alloc (.cells #[.int .i64 q.v.k, .int .i64 q.v.n, .int .u64 q.v.f, .string q.v.s, .slice q.ad q.v.l.length q.cap, .slice q.bd q.v.e.length q.dap] 26)).alloc (.cells #[.string s, .int .i64 N] 33)).heap.size = w.heap.size + 1 + 1 := by rw [World.size_alloc, e1]
  have h1 := heap_alloc_new (w.alloc (.cells #[.int .i64 q.v.k, .int .i64 q.v.n, .int .u64 q.v.f, .string q.v.s, .slice q.ad q.v.l.length q.cap, .slice q.bd q.v.e.length q.dap] 26)) (.cells #[.string s, .int .i64 N] 33)
  have h2 := heap_alloc_new ((w.alloc (.cells #[.int .i64 q.v.k, .int .i64 q.v.n, .int .u64 q.v.f, .string q.v.s, .slice q.ad q.v.l.length q.cap, .slice q.bd q.v.e.length q.dap] 26)).alloc (.cells #[.string s, .int .i64 N] 33)) (.cells #[.int .i64 0, .int .i64 0, .int .u64 0, .string ⟨#[]⟩, .slice none 0 0, .slice none 0 0] 26)
  rw [e1] at h1
  rw [e2] at h2
  have h3 := (Below.heap_alloc ((w.alloc (.cells #[.int .i64 q.v.k, .int .i64 q.v.n, .int .u64 q.v.f, .string q.v.s, .slice q.ad q.v.l.length q.cap, .slice q.bd q.v.e.length q.dap] 26)).alloc (.cells #[.string s, .int .i64 N] 33)) (.cells #[.int .i64 0, .int .i64 0, .int .u64 0, .string ⟨#[]⟩, .slice none 0 0, .slice none 0 0] 26) (w.heap.size + 1) (by omega)).trans h1
  refine ⟨CellsAt.box (ty := 26) ?_, (two_cells h3).1, (two_cells h3).2, h2, (((Below.refl _ w).alloc (Nat.le_refl _) _).alloc (by omega) _).alloc (by omega) _⟩
  rw [Below.heap_alloc _ _ _ (by omega), Below.heap_alloc _ _ _ (by omega)]
  exact heap_alloc_new w _
end PT
theorem toNat_lt {N : Int} {n : Nat} (h0 : 0 ≤ N) (h1 : N < (n : Int)) : N.toNat < n := by omega
set_option maxHeartbeats 16000000 in
theorem part_any (B : Nat → Prop) (q : Loc) (p : List UInt8) (N : Int) (w : World) (hq : VAt w B q) (hB : ∀ b, B b → b < w.heap.size) :
    Calls Tryd.prog 16 #[q.val, .agg #[.string (bs p), .int .i64 N]] w (PartPost B q.v (p, N) w) := by
  have hpt := PT.start w q (bs p) N
  have HQ := Lib.hid hq
  have hl1 := hq.l.lbound
  have he1 := hq.e.ebound
  have HNB : Hid (¬ B (w.heap.size + 1 + 1)) := Lib.hid (fun h => by have := hB _ h; omega)
  unfold Loc.val
  obtain ⟨nl, hnl⟩ : ∃ nl, q.v.l.length = nl := ⟨_, rfl⟩
  obtain ⟨ne, hne⟩ : ∃ ne, q.v.e.length = ne := ⟨_, rfl⟩
  obtain ⟨u, hu⟩ : ∃ u, partV q.v (p, N) = u := ⟨_, rfl⟩
  have HU := Lib.hid hu
  unfold partV at hu
  simp only at hu
  have hfd := fun w1 hb => find_any q.bd q.dap q.v.e (bs p) w1 ((hq.e.keep hb).weak (fun _ _ _ => trivial))
  obtain ⟨i, hi⟩ : ∃ i, fidx (bs p) q.v.e = i := ⟨_, rfl⟩
  have hil := fidx_le (bs p) q.v.e
  rw [hi] at hu hfd hil
  rw [hnl] at hl1 ⊢
  rw [hne] at he1 hfd hil ⊢
  have HFD := Lib.hid hfd
  have HU2 := Lib.hid hu
  have HNL := Lib.hid hnl
  have HNE := Lib.hid hne
  clear hq hB hu hfd hi
  go_enter Tryd.func16, Tryd.ntmps16
  go_upto_region 1 with fail
  rw [← hnl, ← hne]
  generalize hw2 : World.alloc (World.alloc (World.alloc w _) _) _ = w2 at hpt ⊢
  have HPT := Lib.hid hpt
  clear hw2 hnl hne
  obtain ⟨a0, a1, a2, a3, a4, a5⟩ := hpt.a
  have s0 := hpt.s0
  have s1 := hpt.s1
  rw [HNL.out] at a4
  rw [HNE.out] at a5
  clear hpt
  rcases Int.lt_or_le N 0 with h1 | h1
  · have t1 : decide (N < 0) = true := decide_eq_true h1
    have HUA := HU2.out
    rw [if_pos h1] at HUA
    have HUB := Lib.hid HUA
    clear HUA h1 HU2
    go_wp2_with fail
    (with_reducible refine (HFD.out _ HPT.out.g).mono ?_)
    rintro e w3 ⟨rfl, hb3⟩
    have HP3 := Lib.hid (HPT.out.keep hb3)
    clear hb3 HPT a0 a1 a2 a3 a4 a5 s0 s1 HFD
    obtain ⟨a0, a1, a2, a3, a4, a5⟩ := HP3.out.a
    rw [HNE.out] at a5
    obtain ⟨I, hI⟩ : ∃ I : Int, (if i < ne then (i : Int) else -1) = I := ⟨_, rfl⟩
    rw [hI]
    by_cases h2 : q.v.k = 6
    rotate_left
    · have t2 : (q.v.k != 6) = true := by simpa using h2
      have hx := HUB.out
      rw [if_pos h2] at hx
      have HUZ : Hid (u = (.zero, 10)) := Lib.hid hx.symm
      clear h2 hx hI
      obtain ⟨p0, p1, p2, p3, p4, p5, pf⟩ := six_cells HP3.out.res
      have pf0 := pf 0
      have pf1 := pf 1
      have pf2 := pf 2
      have pf3 := pf 3
      have pf4 := pf 4
      have pf5 := pf 5
      obtain ⟨W9, hW9, hr9, -, -, hbw, hvw⟩ := six_all HP3.out.res (.int .i64 0) (.int .i64 0) (.int .u64 0) (.string ⟨#[]⟩) (.slice none 0 0) (.slice none 0 0)
      obtain ⟨q0, q1', q2, q3, q4, q5, -⟩ := six_cells hr9
      have HW9 := Lib.hid hW9
      have HPOST : Hid (PartPost B q.v (p, N) w (.returned (.tuple #[.agg #[.int .i64 0, .int .i64 0, .int .u64 0, .string ⟨#[]⟩, .slice none 0 0, .slice none 0 0], .int .i64 10])) W9) := Lib.hid ⟨⟨.zero, none, 0, none, 0⟩, by rw [HU.out, HUZ.out]; rfl, by rw [HU.out, HUZ.out], VAt.zero _ _ _ _ _ _, hbw _ _ HP3.out.g (by omega)⟩
      clear hW9 hr9 hbw hvw pf
      go_wp2_with fail
      rw [← HW9.out]
      exact bodyPost_ret (v := .tuple #[.agg #[.int .i64 0, .int .i64 0, .int .u64 0, .string ⟨#[]⟩, .slice none 0 0, .slice none 0 0], .int .i64 10]) (by simp [results, Tryd.results16, go_sem, q0, q1', q2, q3, q4, q5]) rfl HPOST.out
    have t2 : (q.v.k != 6) = false := by simp [h2]
    have HUA := HUB.out
    rw [if_neg (fun h => h h2)] at HUA
    by_cases hlt : i < ne
    rotate_left
    · have hx : q.v.e[i]? = none := List.getElem?_eq_none (by rw [HNE.out]; omega)
      rw [hx] at HUA
      have HUZ : Hid (u = (.zero, 8)) := Lib.hid HUA.symm
      obtain rfl : I = -1 := by rw [← hI, if_neg hlt]
      clear h2 hx HUA hlt hI
      obtain ⟨p0, p1, p2, p3, p4, p5, pf⟩ := six_cells HP3.out.res
      have pf0 := pf 0
      have pf1 := pf 1
      have pf2 := pf 2
      have pf3 := pf 3
      have pf4 := pf 4
      have pf5 := pf 5
      obtain ⟨W9, hW9, hr9, -, -, hbw, hvw⟩ := six_all HP3.out.res (.int .i64 0) (.int .i64 0) (.int .u64 0) (.string ⟨#[]⟩) (.slice none 0 0) (.slice none 0 0)
      obtain ⟨q0, q1', q2, q3, q4, q5, -⟩ := six_cells hr9
      have HW9 := Lib.hid hW9
      have HPOST : Hid (PartPost B q.v (p, N) w (.returned (.tuple #[.agg #[.int .i64 0, .int .i64 0, .int .u64 0, .string ⟨#[]⟩, .slice none 0 0, .slice none 0 0], .int .i64 8])) W9) := Lib.hid ⟨⟨.zero, none, 0, none, 0⟩, by rw [HU.out, HUZ.out]; rfl, by rw [HU.out, HUZ.out], VAt.zero _ _ _ _ _ _, hbw _ _ HP3.out.g (by omega)⟩
      clear hW9 hr9 hbw hvw pf
      go_wp2_with fail
      rw [← HW9.out]
      exact bodyPost_ret (v := .tuple #[.agg #[.int .i64 0, .int .i64 0, .int .u64 0, .string ⟨#[]⟩, .slice none 0 0, .slice none 0 0], .int .i64 8]) (by simp [results, Tryd.results16, go_sem, q0, q1', q2, q3, q4, q5]) rfl HPOST.out
    obtain ⟨x, hx⟩ : ∃ x, q.v.e[i]? = some x := ⟨_, List.getElem?_eq_getElem (by rw [HNE.out]; exact hlt)⟩
    rw [hx] at HUA
    obtain ⟨b1, o1, hd1, -, hbl1, hcs1⟩ := HQ.out.e.entry (by rw [HNE.out]; omega)
    obtain ⟨-, -, r, hr1, hv1, hg1⟩ := hcs1 i x hx
    have HUZ : Hid (u = (r.v, 0)) := Lib.hid (by rw [← HUA, hr1])
    have hg := HP3.out.g
    obtain ⟨d0, d1, d2, d3, d4, d5⟩ := (hg1.through (hg.block _ hbl1)).seven
    have HV1 := Lib.hid (hv1.keep hg)
    rw [hd1] at a5
    obtain rfl : I = (i : Int) := by rw [← hI, if_pos hlt]
    clear hI
    have r0 : decide ((i : Int) < 0) = false := decide_eq_false (by omega)
    have r1 : (0 : Int) ≤ (i : Int) := by omega
    have r2 : (i : Int) < (ne : Int) := by omega
    have r4 : (i : Int).toNat = i := rfl
    clear h2 hx HUA hcs1 hr1 hv1 hg1 hg hd1
    obtain ⟨p0, p1, p2, p3, p4, p5, pf⟩ := six_cells HP3.out.res
    have pf0 := pf 0
    have pf1 := pf 1
    have pf2 := pf 2
    have pf3 := pf 3
    have pf4 := pf 4
    have pf5 := pf 5
    obtain ⟨W9, hW9, hr9, -, -, hbw, hvw⟩ := six_all HP3.out.res (.int .i64 r.v.k) (.int .i64 r.v.n) (.int .u64 r.v.f) (.string r.v.s) (.slice r.ad r.v.l.length r.cap) (.slice r.bd r.v.e.length r.dap)
    obtain ⟨q0, q1', q2, q3, q4, q5, -⟩ := six_cells hr9
    have HW9 := Lib.hid hW9
    have HPOST : Hid (PartPost B q.v (p, N) w (.returned (.tuple #[.agg #[.int .i64 r.v.k, .int .i64 r.v.n, .int .u64 r.v.f, .string r.v.s, .slice r.ad r.v.l.length r.cap, .slice r.bd r.v.e.length r.dap], .int .i64 0])) W9) := Lib.hid ⟨r, by rw [HU.out, HUZ.out]; rfl, by rw [HU.out, HUZ.out], hvw _ _ HV1.out HNB.out, hbw _ _ HP3.out.g (by omega)⟩
    clear hW9 hr9 hbw hvw pf
    go_wp2_with fail
    rw [← HW9.out]
    exact bodyPost_ret (v := .tuple #[.agg #[.int .i64 r.v.k, .int .i64 r.v.n, .int .u64 r.v.f, .string r.v.s, .slice r.ad r.v.l.length r.cap, .slice r.bd r.v.e.length r.dap], .int .i64 0]) (by simp [results, Tryd.results16, go_sem, q0, q1', q2, q3, q4, q5]) rfl HPOST.out
  · have t1 : decide (N < 0) = false := decide_eq_false (by omega)
    have HUA := HU2.out
    rw [if_neg (by omega)] at HUA
    have HUB := Lib.hid HUA
    clear HUA HU2 HFD
    by_cases h2 : q.v.k = 5
    rotate_left
    · have t2 : (q.v.k != 5) = true := by simpa using h2
      have hx := HUB.out
      rw [if_pos h2] at hx
      have HUZ : Hid (u = (.zero, 10)) := Lib.hid hx.symm
      clear h2 hx
      obtain ⟨p0, p1, p2, p3, p4, p5, pf⟩ := six_cells HPT.out.res
      have pf0 := pf 0
      have pf1 := pf 1
      have pf2 := pf 2
      have pf3 := pf 3
      have pf4 := pf 4
      have pf5 := pf 5
      obtain ⟨W9, hW9, hr9, -, -, hbw, hvw⟩ := six_all HPT.out.res (.int .i64 0) (.int .i64 0) (.int .u64 0) (.string ⟨#[]⟩) (.slice none 0 0) (.slice none 0 0)
      obtain ⟨q0, q1', q2, q3, q4, q5, -⟩ := six_cells hr9
      have HW9 := Lib.hid hW9
      have HPOST : Hid (PartPost B q.v (p, N) w (.returned (.tuple #[.agg #[.int .i64 0, .int .i64 0, .int .u64 0, .string ⟨#[]⟩, .slice none 0 0, .slice none 0 0], .int .i64 10])) W9) := Lib.hid ⟨⟨.zero, none, 0, none, 0⟩, by rw [HU.out, HUZ.out]; rfl, by rw [HU.out, HUZ.out], VAt.zero _ _ _ _ _ _, hbw _ _ HPT.out.g (by omega)⟩
      clear hW9 hr9 hbw hvw pf
      go_wp2_with fail
      rw [← HW9.out]
      exact bodyPost_ret (v := .tuple #[.agg #[.int .i64 0, .int .i64 0, .int .u64 0, .string ⟨#[]⟩, .slice none 0 0, .slice none 0 0], .int .i64 10]) (by simp [results, Tryd.results16, go_sem, q0, q1', q2, q3, q4, q5]) rfl HPOST.out
    have t2 : (q.v.k != 5) = false := by simp [h2]
    have HUA := HUB.out
    rw [if_neg (fun h => h h2)] at HUA
    rcases Int.lt_or_le N (nl : Int) with hlt | hlt
    rotate_left
    · have hx : q.v.l[N.toNat]? = none := List.getElem?_eq_none (by rw [HNL.out]; omega)
      rw [hx] at HUA
      have HUZ : Hid (u = (.zero, 8)) := Lib.hid HUA.symm
      have t3 : decide ((nl : Int) ≤ N) = true := decide_eq_true hlt
      clear h2 hx HUA
      obtain ⟨p0, p1, p2, p3, p4, p5, pf⟩ := six_cells HPT.out.res
      have pf0 := pf 0
      have pf1 := pf 1
      have pf2 := pf 2
      have pf3 := pf 3
      have pf4 := pf 4
      have pf5 := pf 5
      obtain ⟨W9, hW9, hr9, -, -, hbw, hvw⟩ := six_all HPT.out.res (.int .i64 0) (.int .i64 0) (.int .u64 0) (.string ⟨#[]⟩) (.slice none 0 0) (.slice none 0 0)
      obtain ⟨q0, q1', q2, q3, q4, q5, -⟩ := six_cells hr9
      have HW9 := Lib.hid hW9
      have HPOST : Hid (PartPost B q.v (p, N) w (.returned (.tuple #[.agg #[.int .i64 0, .int .i64 0, .int .u64 0, .string ⟨#[]⟩, .slice none 0 0, .slice none 0 0], .int .i64 8])) W9) := Lib.hid ⟨⟨.zero, none, 0, none, 0⟩, by rw [HU.out, HUZ.out]; rfl, by rw [HU.out, HUZ.out], VAt.zero _ _ _ _ _ _, hbw _ _ HPT.out.g (by omega)⟩
      clear hW9 hr9 hbw hvw pf
      go_wp2_with fail
      rw [← HW9.out]
      exact bodyPost_ret (v := .tuple #[.agg #[.int .i64 0, .int .i64 0, .int .u64 0, .string ⟨#[]⟩, .slice none 0 0, .slice none 0 0], .int .i64 8]) (by simp [results, Tryd.results16, go_sem, q0, q1', q2, q3, q4, q5]) rfl HPOST.out
    obtain ⟨x, hx⟩ : ∃ x, q.v.l[N.toNat]? = some x := ⟨_, List.getElem?_eq_getElem (by rw [HNL.out]; omega)⟩
    rw [hx] at HUA
    obtain ⟨b1, o1, hd1, -, hbl1, hcs1⟩ := HQ.out.l.elem (by rw [HNL.out]; omega)
    obtain ⟨r, hr1, hv1, hg1⟩ := hcs1 N.toNat x hx
    have HUZ : Hid (u = (r.v, 0)) := Lib.hid (by rw [← HUA, hr1])
    have hg := HPT.out.g
    obtain ⟨M, hM⟩ : ∃ M, N.toNat = M := ⟨_, rfl⟩
    rw [hM] at hg1
    obtain ⟨d0, d1, d2, d3, d4, d5⟩ := hg1.through (hg.block _ hbl1)
    have HV1 := Lib.hid (hv1.keep hg)
    rw [hd1] at a4
    have t3 : decide ((nl : Int) ≤ N) = false := decide_eq_false (by omega)
    clear h2 hx HUA hcs1 hr1 hv1 hg1 hg hd1
    obtain ⟨p0, p1, p2, p3, p4, p5, pf⟩ := six_cells HPT.out.res
    have pf0 := pf 0
    have pf1 := pf 1
    have pf2 := pf 2
    have pf3 := pf 3
    have pf4 := pf 4
    have pf5 := pf 5
    obtain ⟨W9, hW9, hr9, -, -, hbw, hvw⟩ := six_all HPT.out.res (.int .i64 r.v.k) (.int .i64 r.v.n) (.int .u64 r.v.f) (.string r.v.s) (.slice r.ad r.v.l.length r.cap) (.slice r.bd r.v.e.length r.dap)
    obtain ⟨q0, q1', q2, q3, q4, q5, -⟩ := six_cells hr9
    have HW9 := Lib.hid hW9
    have HPOST : Hid (PartPost B q.v (p, N) w (.returned (.tuple #[.agg #[.int .i64 r.v.k, .int .i64 r.v.n, .int .u64 r.v.f, .string r.v.s, .slice r.ad r.v.l.length r.cap, .slice r.bd r.v.e.length r.dap], .int .i64 0])) W9) := Lib.hid ⟨r, by rw [HU.out, HUZ.out]; rfl, by rw [HU.out, HUZ.out], hvw _ _ HV1.out HNB.out, hbw _ _ HPT.out.g (by omega)⟩
    clear hW9 hr9 hbw hvw pf
    go_wp2_with fail
    rw [← HW9.out]
    exact bodyPost_ret (v := .tuple #[.agg #[.int .i64 r.v.k, .int .i64 r.v.n, .int .u64 r.v.f, .string r.v.s, .slice r.ad r.v.l.length r.cap, .slice r.bd r.v.e.length r.dap], .int .i64 0]) (by simp [results, Tryd.results16, go_sem, q0, q1', q2, q3, q4, q5]) rfl HPOST.out
end Go.Proofs.YtpjigecmnefnhaaDoor
