/-
  The contract of path.Get. Conditions: the path is right; Go's two tables of utf8 lie in the world.
-/
import Derived.Test.YtpjigecmnefnhaaDoorPartP
import Derived.Test.YtpjigecmnefnhaaDoorOwnV
import Derived.Test.YtpjigecmnefnhaaDoorPathChk
namespace Go.Proofs.YtpjigecmnefnhaaDoor
open Go.RowKit Gx
set_option maxRecDepth 100000

def GetPost (v : V) (l : List Step) (w : World) (e : Ending) (w' : World) : Prop :=
  ∃ p : Loc, e = .returned (.tuple #[p.val, .int .i64 (getV v l).2]) ∧ p.v = (getV v l).1 ∧ VAt w' (fun b => w.heap.size ≤ b) p ∧ Below w.heap.size w w'
/-- on the way: the value that was reached; the result's block -/
structure GS (w : World) (u : Loc) (W : World) : Prop where
  box : W.heap[w.heap.size]? = some (.cells #[.int .i64 u.v.k, .int .i64 u.v.n, .int .u64 u.v.f, .string u.v.s, .slice u.ad u.v.l.length u.cap, .slice u.bd u.v.e.length u.dap] 26)
  res : W.heap[w.heap.size + 1]? = some (.cells #[.int .i64 0, .int .i64 0, .int .u64 0, .string ⟨#[]⟩, .slice none 0 0, .slice none 0 0] 26)
  g : Below w.heap.size w W
  at_ : VAt W (fun b => b < w.heap.size) u
namespace GS
variable {w W W' : World} {u : Loc}
theorem vlt (h : GS w u W) : w.heap.size + 1 < W.heap.size := (Array.getElem?_eq_some_iff.1 h.res).1
theorem keep (h : GS w u W) (hb : Below W.heap.size W W') : GS w u W' := by
  have h1 := h.vlt
  exact ⟨(hb.block _ (by omega)).trans h.box, (hb.block _ h1).trans h.res, h.g.trans (hb.mono h.g.size), h.at_.keep hb⟩
theorem start (w : World) (q : Loc) (hq : VAt w (fun _ => True) q) : GS w q ((w.alloc (.cells #[.int .i64 q.v.k, .int .i64 q.v.n, .int .u64 q.v.f, .string q.v.s, .slice q.ad q.v.l.length q.cap, .slice q.bd q.v.e.length q.dap] 26)).alloc (.cells #[.int .i64 0, .int .i64 0, .int .u64 0, .string ⟨#[]⟩, .slice none 0 0, .slice none 0 0] 26)) := by
  have hb := ((Below.refl _ w).alloc (Nat.le_refl _) (.cells #[.int .i64 q.v.k, .int .i64 q.v.n, .int .u64 q.v.f, .string q.v.s, .slice q.ad q.v.l.length q.cap, .slice q.bd q.v.e.length q.dap] 26)).alloc (by simp) (.cells #[.int .i64 0, .int .i64 0, .int .u64 0, .string ⟨#[]⟩, .slice none 0 0, .slice none 0 0] 26)
  refine ⟨?_, ?_, hb, (hq.weak (fun b _ hl => hl)).keep hb⟩
  · rw [Below.heap_alloc _ _ _ (by simp)]
    exact heap_alloc_new w _
  · have := heap_alloc_new (w.alloc (.cells #[.int .i64 q.v.k, .int .i64 q.v.n, .int .u64 q.v.f, .string q.v.s, .slice q.ad q.v.l.length q.cap, .slice q.bd q.v.e.length q.dap] 26)) (.cells #[.int .i64 0, .int .i64 0, .int .u64 0, .string ⟨#[]⟩, .slice none 0 0, .slice none 0 0] 26)
    rwa [World.size_alloc] at this
/-- the value is gone on from -/
theorem next (h : GS w u W) (p : Loc) (hp : VAt W (fun b => b < w.heap.size) p) : ∃ W9, W9 = (((((W.setCell ⟨w.heap.size, 0, none⟩ (.int .i64 p.v.k)).setCell ⟨w.heap.size, 1, none⟩ (.int .i64 p.v.n)).setCell ⟨w.heap.size, 2, none⟩ (.int .u64 p.v.f)).setCell ⟨w.heap.size, 3, none⟩ (.string p.v.s)).setCell ⟨w.heap.size, 4, none⟩ (.slice p.ad p.v.l.length p.cap)).setCell ⟨w.heap.size, 5, none⟩ (.slice p.bd p.v.e.length p.dap) ∧ GS w p W9 := by
  obtain ⟨W9, hW9, hr9, ho, hz, hbw, hvw⟩ := six_all h.box (.int .i64 p.v.k) (.int .i64 p.v.n) (.int .u64 p.v.f) (.string p.v.s) (.slice p.ad p.v.l.length p.cap) (.slice p.bd p.v.e.length p.dap)
  exact ⟨W9, hW9, hr9, (ho _ (by omega)).trans h.res, hbw _ _ h.g (Nat.le_refl _), hvw _ _ hp (Nat.lt_irrefl _)⟩
end GS
set_option maxHeartbeats 16000000 in
theorem get_any (q : Loc) (ad : Option Addr) (cap : Nat) (l : List Step) (w : World) (hT : Tabs w) (hq : VAt w (fun _ => True) q) (h : SR w ad cap l) (hp : PathOk l) :
    Calls Tryd.prog 8 #[q.val, .slice ad l.length cap] w (GetPost q.v l w) := by
  have hgs := GS.start w q hq
  have hck := chkPath_any ad cap l _ (h.keep hgs.g) (hT.keep hgs.g)
  have H := Lib.hid h
  have HOK := Lib.hid hp
  have HCK := Lib.hid hck
  have hl20 := hp.1
  obtain ⟨n, hn⟩ : ∃ n, l.length = n := ⟨_, rfl⟩
  rw [hn] at hl20 HCK ⊢
  have HN := Lib.hid hn
  unfold Loc.val
  clear hT hq h hp hck hn
  go_enter Tryd.func8, Tryd.ntmps8
  go_upto_region 1 with fail
  generalize hw2 : World.alloc (World.alloc w _) _ = w2 at hgs HCK ⊢
  have HG2 := Lib.hid hgs
  clear hw2 hgs
  go_wp2_with fail
  (with_reducible refine HCK.out.mono ?_)
  rintro e w3 ⟨c, rfl, hc, hb3⟩
  obtain rfl : c = 0 := hc.2 HOK.out
  have HG3 := Lib.hid (HG2.out.keep hb3)
  clear hc hb3 HG2 HCK
  go_wp2_with fail
  go_loopw [18] (fun v18 wr => ∃ (j : Nat) (u : Loc), j ≤ n ∧ v18 = .int .i64 j ∧ Hid (GS w u wr) ∧ Hid (getV q.v (l.take j) = (u.v, 0))) (fun v18 _ => n - (intOf v18).toNat)
  case atStart => exact ⟨0, q, Nat.zero_le _, rfl, HG3, Lib.hid rfl⟩
  case round =>
    obtain ⟨j, u, hj, rfl, HG, HV⟩ := hrel
    clear HG3
    by_cases hlt : j < n
    · obtain ⟨x, hx⟩ : ∃ x, l[j]? = some x := ⟨_, List.getElem?_eq_getElem (by rw [HN.out]; exact hlt)⟩
      obtain ⟨b1, o1, rfl, hbl1, hcell⟩ := H.out.addr (by rw [HN.out]; omega)
      obtain ⟨c0, c1⟩ := hcell j x hx
      have hg := HG.out.g
      replace c0 := (hg.cell (p := ⟨b1, _, none⟩) hbl1).trans c0
      replace c1 := (hg.cell (p := ⟨b1, _, none⟩) hbl1).trans c1
      have HTK := Lib.hid (take_snoc hx)
      obtain ⟨s, N⟩ := x
      simp only at c0 c1
      have r1 : (0 : Int) ≤ (j : Int) := by omega
      have r2 : (j : Int) < (n : Int) := by omega
      have r4 : (j : Int).toNat = j := rfl
      have hba := (Below.refl wr.heap.size wr).alloc (Nat.le_refl _) (.cells #[.string (bs s), .int .i64 N] 33)
      have hgb := HG.out.keep hba
      have hxb := heap_alloc_new wr (.cells #[.string (bs s), .int .i64 N] 33)
      clear hx hcell hg hba HG
      go_upto_region 7 with fail
      generalize hwx : World.alloc wr _ = wx at hgb hxb ⊢
      generalize hxx : wr.heap.size = xb at hxb ⊢
      clear hwx hxx c0 c1
      have c0 : wx.cell? ⟨xb, 0, none⟩ = some (.string (bs s)) := by simp [World.cell?, hxb]
      have c1 : wx.cell? ⟨xb, 1, none⟩ = some (.int .i64 N) := by simp [World.cell?, hxb]
      obtain ⟨a0, a1, a2, a3, a4, a5, -⟩ := six_cells hgb.box
      have hpc := part_any (fun b => b < w.heap.size) u s N wx hgb.at_ (fun b hb => by have := hgb.vlt; omega)
      simp only [Loc.val] at hpc
      have HPC := Lib.hid hpc
      have HGB := Lib.hid hgb
      clear hxb hgb hpc
      go_wp2_with fail
      (with_reducible refine HPC.out.mono ?_)
      rintro e w5 ⟨p, rfl, hpv, hpa, hb5⟩
      have hg5 := HGB.out.keep hb5
      obtain ⟨z0, z1, z2, z3, z4, z5, zf⟩ := six_cells hg5.box
      have zf0 := zf 0
      have zf1 := zf 1
      have zf2 := zf 2
      have zf3 := zf 3
      have zf4 := zf 4
      have zf5 := zf 5
      obtain ⟨W9, hW9, hg9⟩ := hg5.next p hpa
      have HW9 := Lib.hid hW9
      have HG9 := Lib.hid hg9
      have hsn := getV_snoc (l.take j) (s, N) q.v
      rw [← HTK.out, HV.out] at hsn
      simp only [if_true] at hsn
      obtain ⟨pv, hpp⟩ : ∃ pv, partV u.v (s, N) = pv := ⟨_, rfl⟩
      rw [hpp] at hsn hpv ⊢
      obtain ⟨pv, c⟩ := pv
      simp only at hsn hpv ⊢
      clear zf hW9 hg9 hg5 hpa hb5 HPC HGB a0 a1 a2 a3 a4 a5 c0 c1 hpp
      by_cases h0 : c = 0
      · subst h0
        have HSN : Hid (getV q.v (l.take (j + 1)) = (p.v, 0)) := Lib.hid (by rw [hsn, if_pos rfl, hpv])
        clear hsn hpv
        simp only [Loc.val]
        go_upto_region 9 with fail
        rw [← HW9.out]
        clear z0 z1 z2 z3 z4 z5 zf0 zf1 zf2 zf3 zf4 zf5 HW9
        go_wp2_with fail
        go_roundw
        case rel => exact ⟨j + 1, p, by omega, by go_num, HG9, HSN⟩
        case measure => simp [intOf]; omega
      · have t0 : (c != 0) = true := by simpa using h0
        have HFIN : Hid (getV q.v l = (.zero, c)) := Lib.hid (by
          rw [if_neg h0] at hsn
          have := getV_take (p := l) (j := j + 1) (v := q.v) (by rw [hsn]; exact h0)
          rw [this, hsn])
        clear hsn hpv h0
        simp only [Loc.val]
        go_upto_region 9 with fail
        rw [← HW9.out]
        clear z0 z1 z2 z3 z4 z5 zf0 zf1 zf2 zf3 zf4 zf5 HW9
        obtain ⟨p0, p1, p2, p3, p4, p5, pf⟩ := six_cells HG9.out.res
        have pf0 := pf 0
        have pf1 := pf 1
        have pf2 := pf 2
        have pf3 := pf 3
        have pf4 := pf 4
        have pf5 := pf 5
        obtain ⟨W8, hW8, hr8, -, -, hbw, hvw⟩ := six_all HG9.out.res (.int .i64 0) (.int .i64 0) (.int .u64 0) (.string ⟨#[]⟩) (.slice none 0 0) (.slice none 0 0)
        obtain ⟨q0, q1, q2, q3, q4, q5, -⟩ := six_cells hr8
        have HW8 := Lib.hid hW8
        have HPOST : Hid (GetPost q.v l w (.returned (.tuple #[.agg #[.int .i64 0, .int .i64 0, .int .u64 0, .string ⟨#[]⟩, .slice none 0 0, .slice none 0 0], .int .i64 c])) W8) := Lib.hid ⟨⟨.zero, none, 0, none, 0⟩, by rw [HFIN.out]; rfl, by rw [HFIN.out], VAt.zero _ _ _ _ _ _, hbw _ _ HG9.out.g (by omega)⟩
        clear hW8 hr8 hbw hvw pf
        go_wp2_with fail
        rw [← HW8.out]
        exact bodyPost_ret (v := .tuple #[.agg #[.int .i64 0, .int .i64 0, .int .u64 0, .string ⟨#[]⟩, .slice none 0 0, .slice none 0 0], .int .i64 c]) (by simp [results, Tryd.results8, go_sem, q0, q1, q2, q3, q4, q5]) rfl HPOST.out
    · obtain rfl : j = n := by omega
      have HFIN : Hid (getV q.v l = (u.v, 0)) := Lib.hid (by have h := HV.out; rwa [← HN.out, List.take_length] at h)
      obtain ⟨a0, a1, a2, a3, a4, a5, -⟩ := six_cells HG.out.box
      have hoc := own_any' u wr (HG.out.at_.weak (fun _ _ _ => trivial))
      simp only [Loc.val] at hoc
      have HOC := Lib.hid hoc
      clear hoc HV
      go_wp2_with fail
      (with_reducible refine HOC.out.mono ?_)
      rintro e w5 ⟨p, rfl, hpv, hpa, hb5⟩
      have hg5 := HG.out.keep hb5
      obtain ⟨p0, p1, p2, p3, p4, p5, pf⟩ := six_cells hg5.res
      have pf0 := pf 0
      have pf1 := pf 1
      have pf2 := pf 2
      have pf3 := pf 3
      have pf4 := pf 4
      have pf5 := pf 5
      obtain ⟨W8, hW8, hr8, -, -, hbw, hvw⟩ := six_all hg5.res (.int .i64 p.v.k) (.int .i64 p.v.n) (.int .u64 p.v.f) (.string p.v.s) (.slice p.ad p.v.l.length p.cap) (.slice p.bd p.v.e.length p.dap)
      obtain ⟨q0, q1, q2, q3, q4, q5, -⟩ := six_cells hr8
      have HW8 := Lib.hid hW8
      have HPOST : Hid (GetPost q.v l w (.returned (.tuple #[.agg #[.int .i64 p.v.k, .int .i64 p.v.n, .int .u64 p.v.f, .string p.v.s, .slice p.ad p.v.l.length p.cap, .slice p.bd p.v.e.length p.dap], .int .i64 0])) W8) := Lib.hid ⟨p, by rw [HFIN.out]; rfl, by rw [HFIN.out, hpv], (hvw _ _ hpa (by have := HG.out.vlt; omega)).weak (fun b hb _ => by have := HG.out.vlt; omega), hbw _ _ hg5.g (by omega)⟩
      clear hW8 hr8 hbw hvw pf hpa hb5 hg5 hpv a0 a1 a2 a3 a4 a5 HOC
      simp only [Loc.val]
      go_wp2_with fail
      rw [← HW8.out]
      exact bodyPost_ret (v := .tuple #[.agg #[.int .i64 p.v.k, .int .i64 p.v.n, .int .u64 p.v.f, .string p.v.s, .slice p.ad p.v.l.length p.cap, .slice p.bd p.v.e.length p.dap], .int .i64 0]) (by simp [results, Tryd.results8, go_sem, q0, q1, q2, q3, q4, q5]) rfl HPOST.out
end Go.Proofs.YtpjigecmnefnhaaDoor
