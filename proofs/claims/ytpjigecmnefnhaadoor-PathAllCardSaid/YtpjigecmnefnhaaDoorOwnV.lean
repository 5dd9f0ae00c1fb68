/-
  The contract of val.Own: the same value, in new memory. No conditions.
-/
import Derived.Test.YtpjigecmnefnhaaDoorSix
namespace Go.Proofs.YtpjigecmnefnhaaDoor
open Go.RowKit Gx
set_option maxRecDepth 100000

def CopyPost (v : V) (w : World) (e : Ending) (w' : World) : Prop := ∃ p : Loc, e = .returned p.val ∧ p.v = v ∧ VAt w' (fun b => w.heap.size ≤ b) p ∧ Below w.heap.size w w'
/-- amid a copy: the value's box, the result's -/
structure OS (w : World) (k n f : Int) (s : ByteArray) (sl se : Value) (W : World) : Prop where
  box : W.heap[w.heap.size]? = some (.cells #[.int .i64 k, .int .i64 n, .int .u64 f, .string s, sl, se] 26)
  res : W.heap[w.heap.size + 1]? = some (.cells #[.int .i64 0, .int .i64 0, .int .u64 0, .string ⟨#[]⟩, .slice none 0 0, .slice none 0 0] 26)
  g : Below w.heap.size w W
namespace OS
variable {w W W' : World} {k n f : Int} {s : ByteArray} {sl se : Value}
theorem vlt (h : OS w k n f s sl se W) : w.heap.size + 1 < W.heap.size := (Array.getElem?_eq_some_iff.1 h.res).1
theorem grow (h : OS w k n f s sl se W) {r : Option Nat} (hg : W.grownBy W' r) (hr : ∀ b, r = some b → w.heap.size + 1 < b) : OS w k n f s sl se W' := by
  have h1 := h.vlt
  exact ⟨(hg.block _ (by omega) (fun e => by have := hr _ e.symm; omega)).trans h.box, (hg.block _ h1 (fun e => by have := hr _ e.symm; omega)).trans h.res,
    ⟨hg.os.trans h.g.os, hg.tape.trans h.g.tape, hg.output.trans h.g.output, Nat.le_trans h.g.size hg.size, fun i hi => (hg.block i (by omega) (fun e => by have := hr _ e.symm; omega)).trans (h.g.block i hi)⟩⟩
theorem keep (h : OS w k n f s sl se W) (hb : Below W.heap.size W W') : OS w k n f s sl se W' := h.grow (grown_none hb) (fun _ e => absurd e (by simp))
theorem setAll (h : OS w k n f s sl se W) (j : Nat) (u : Value) {sl' se' : Value} (he : #[Value.int .i64 k, .int .i64 n, .int .u64 f, .string s, sl, se].setIfInBounds j u = #[.int .i64 k, .int .i64 n, .int .u64 f, .string s, sl', se']) :
    OS w k n f s sl' se' (W.setCell ⟨w.heap.size, j, none⟩ u) := by
  have h1 := h.vlt
  exact ⟨by rw [six_store h.box j u, he], ((grown_cell W _ j u).block _ h1 (fun e => by have := Option.some.inj e; omega)).trans h.res, h.g.setCell (Nat.le_refl _) u⟩
theorem setL (h : OS w k n f s sl se W) (u : Value) : OS w k n f s u se (W.setCell ⟨w.heap.size, 4, none⟩ u) := h.setAll 4 u rfl
theorem setE (h : OS w k n f s sl se W) (u : Value) : OS w k n f s sl u (W.setCell ⟨w.heap.size, 5, none⟩ u) := h.setAll 5 u rfl
theorem cells (h : OS w k n f s sl se W) : W.cell? ⟨w.heap.size, 0, none⟩ = some (.int .i64 k) ∧ W.cell? ⟨w.heap.size, 1, none⟩ = some (.int .i64 n) ∧ W.cell? ⟨w.heap.size, 2, none⟩ = some (.int .u64 f) ∧ W.cell? ⟨w.heap.size, 3, none⟩ = some (.string s) ∧ W.cell? ⟨w.heap.size, 4, none⟩ = some sl ∧ W.cell? ⟨w.heap.size, 5, none⟩ = some se ∧ (∀ j, W.frozen? ⟨w.heap.size, j, none⟩ = false) := six_cells h.box
theorem start (w : World) (q : Loc) : OS w q.v.k q.v.n q.v.f q.v.s (.slice q.ad q.v.l.length q.cap) (.slice q.bd q.v.e.length q.dap) ((w.alloc (.cells #[.int .i64 q.v.k, .int .i64 q.v.n, .int .u64 q.v.f, .string q.v.s, .slice q.ad q.v.l.length q.cap, .slice q.bd q.v.e.length q.dap] 26)).alloc (.cells #[.int .i64 0, .int .i64 0, .int .u64 0, .string ⟨#[]⟩, .slice none 0 0, .slice none 0 0] 26)) := by
  refine ⟨?_, ?_, ((Below.refl _ w).alloc (Nat.le_refl _) _).alloc (by simp) _⟩
  · rw [Below.heap_alloc _ _ _ (by simp)]
    exact heap_alloc_new w _
  · have := heap_alloc_new (w.alloc (.cells #[.int .i64 q.v.k, .int .i64 q.v.n, .int .u64 q.v.f, .string q.v.s, .slice q.ad q.v.l.length q.cap, .slice q.bd q.v.e.length q.dap] 26)) (.cells #[.int .i64 0, .int .i64 0, .int .u64 0, .string ⟨#[]⟩, .slice none 0 0, .slice none 0 0] 26)
    rwa [World.size_alloc] at this
end OS
theorem take_snoc {α : Type} {l : List α} {j : Nat} {x : α} (h : l[j]? = some x) : l.take (j + 1) = l.take j ++ [x] := by
  obtain ⟨hj, rfl⟩ := List.getElem?_eq_some_iff.1 h
  exact List.take_succ_eq_append_getElem hj
set_option maxHeartbeats 16000000 in
theorem own_step (v : V) (ad bd : Option Addr) (cap dap : Nat) (w : World) (hq : VAt w (fun _ => True) ⟨v, ad, cap, bd, dap⟩)
    (ih : ∀ (q : Loc) (w : World), SizeOf.sizeOf q.v < SizeOf.sizeOf v → VAt w (fun _ => True) q → Calls Tryd.prog 17 #[q.val] w (CopyPost q.v w)) :
    Calls Tryd.prog 17 #[.agg #[.int .i64 v.k, .int .i64 v.n, .int .u64 v.f, .string v.s, .slice ad v.l.length cap, .slice bd v.e.length dap]] w (CopyPost v w) := by
  have hos := OS.start w ⟨v, ad, cap, bd, dap⟩
  have HQ := Lib.hid hq
  have IH := Lib.hid ih
  have hl1 := hq.l.lbound
  have he1 := hq.e.ebound
  simp only at hl1 he1 hos
  obtain ⟨nl, hnl⟩ : ∃ nl, v.l.length = nl := ⟨_, rfl⟩
  obtain ⟨ne, hne⟩ : ∃ ne, v.e.length = ne := ⟨_, rfl⟩
  rw [hnl, hne] at hos ⊢
  rw [hnl] at hl1
  rw [hne] at he1
  have HNL := Lib.hid hnl
  have HNE := Lib.hid hne
  clear hq ih hnl hne
  go_enter Tryd.func17, Tryd.ntmps17
  go_upto_region 1 with fail
  generalize hw2 : World.alloc (World.alloc w _) _ = w2 at hos ⊢
  obtain ⟨a0, a1, a2, a3, a4, a5, af⟩ := hos.cells
  have HOS := Lib.hid hos
  clear hw2 hos
  go_quiet (fail)
  have hos2 := (HOS.out.keep (Gx.drewN_below w2 nq _))
  generalize hw3 : w2.drewN nq = w3 at hos2 ⊢
  have hos3 := hos2.setL (.slice none 0 0)
  have hos4 := hos3.setE (.slice none 0 0)
  have af4 := hos2.cells.2.2.2.2.2.2 4
  have af5 := hos3.cells.2.2.2.2.2.2 5
  clear hw3 HOS a0 a1 a2 a3 a4 a5 af
  obtain ⟨a0, a1, a2, a3, a4, a5, af⟩ := hos2.cells
  obtain ⟨b0, b1, b2, b3, b4, b5, bf⟩ := hos3.cells
  have HOS := Lib.hid hos4
  clear hos2 hos3 hos4 af bf
  go_wp2_with fail
  clear a0 a1 a2 a3 a4 a5 b0 b1 b2 b3 b4 b5 af4 af5
  go_loopw [17] (fun v17 wr => ∃ (k : Nat) (ps : List (ByteArray × Loc)) (ao : Option Addr) (cp : Nat), k ≤ nl ∧ v17 = .int .i64 k ∧ Hid (ps.length = k) ∧ Hid (OS w v.k v.n v.f v.s (.slice ao k cp) (.slice none 0 0) wr) ∧ Hid (Acc wr (w.heap.size + 1) false 26 (.slice ao k cp) ps) ∧ Hid (∀ p ∈ ps, p.1 = ⟨#[]⟩) ∧ Hid (ps.map (·.2.v) = v.l.take k)) (fun v17 _ => nl - (intOf v17).toNat)
  case atStart => exact ⟨0, [], none, 0, Nat.zero_le _, rfl, Lib.hid rfl, HOS, Lib.hid (Acc.nil _ _ _ _), Lib.hid (fun _ h => absurd h List.not_mem_nil), Lib.hid rfl⟩
  case round =>
    obtain ⟨k, ps, ao, cp, hk, rfl, HN, HO, HA, HZ, HTK⟩ := hrel
    clear HOS
    by_cases hlt : k < nl
    · obtain ⟨x, hx⟩ : ∃ x, v.l[k]? = some x := ⟨_, List.getElem?_eq_getElem (by rw [HNL.out]; exact hlt)⟩
      obtain ⟨b1, o1, hd1, -, hbl1, hcs1⟩ := HQ.out.l.elem (by show 0 < v.l.length; rw [HNL.out]; omega)
      simp only at hd1
      subst hd1
      obtain ⟨q1, hq1, hv1, hg1⟩ := hcs1 k x hx
      clear hcs1
      have hg := HO.out.g
      obtain ⟨c0, c1, c2, c3, c4, c5⟩ := hg1.through (hg.block _ hbl1)
      have r1 : (0 : Int) ≤ (k : Int) := by omega
      have r2 : (k : Int) < (nl : Int) := by omega
      have r4 : (k : Int).toNat = k := rfl
      have hba := (Below.refl wr.heap.size wr).alloc (Nat.le_refl _) (.cells #[.int .i64 q1.v.k, .int .i64 q1.v.n, .int .u64 q1.v.f, .string q1.v.s, .slice q1.ad q1.v.l.length q1.cap, .slice q1.bd q1.v.e.length q1.dap] 26)
      have hob := HO.out.keep hba
      have hab := HA.out.grow (grown_none hba) (fun _ e => absurd e (by simp))
      have hvb := (hv1.keep hg).keep hba
      have hcb := CellsAt.box (q := q1) (heap_alloc_new wr (.cells #[.int .i64 q1.v.k, .int .i64 q1.v.n, .int .u64 q1.v.f, .string q1.v.s, .slice q1.ad q1.v.l.length q1.cap, .slice q1.bd q1.v.e.length q1.dap] 26))
      have hwl : wr.heap.size < (wr.alloc (.cells #[.int .i64 q1.v.k, .int .i64 q1.v.n, .int .u64 q1.v.f, .string q1.v.s, .slice q1.ad q1.v.l.length q1.cap, .slice q1.bd q1.v.e.length q1.dap] 26)).heap.size := by simp
      have HX : Hid (v.l[k]? = some q1.v) := Lib.hid (by rw [hx, hq1])
      have HSZ : Hid (SizeOf.sizeOf q1.v < SizeOf.sizeOf v) := Lib.hid (by rw [hq1]; exact V.lt_l (List.mem_of_getElem? hx))
      have HRA := Lib.hid (show w.heap.size + 1 < wr.heap.size from HO.out.vlt)
      clear hx hq1 hv1 hg1 hg hba HO HA
      go_upto_region 6 with fail
      generalize hwx : World.alloc wr _ = wx at hob hab hvb hcb hwl ⊢
      generalize hxb : wr.heap.size = xb at hcb hwl HRA ⊢
      have HOB := Lib.hid (hab.above)
      have HOd := Lib.hid (hob.keep (Gx.drewN_below wx 1 _))
      have HAd : Hid (Acc wx.drew (w.heap.size + 1) false 26 (.slice ao k cp) ps) := Lib.hid (hab.grow (r := none) ⟨rfl, rfl, rfl, Nat.le_refl _, fun _ _ _ => rfl⟩ (fun _ e => absurd e (by simp)))
      have hih := IH.out q1 wx.drew HSZ.out (hvb.keep (Gx.drewN_below wx 1 _))
      simp only [Loc.val] at hih
      have HCd := Lib.hid hih
      obtain ⟨e0, e1, e2, e3, e4, e5⟩ := hcb
      obtain ⟨-, -, -, -, k4, -, -⟩ := hob.cells
      clear hwx hxb c0 c1 c2 c3 c4 c5 hob hab hvb hih
      go_region_law (first
        | (go_simp; (with_reducible refine HCd.out.mono ?_); rintro e w5 ⟨p, rfl, hpv, hp, hb5⟩; have ho5 := HOd.out.keep hb5; obtain ⟨-, -, -, -, k5, -, -⟩ := ho5.cells; obtain ⟨-, -, -, -, k5a, -, -⟩ := (ho5.grow (World.grownBy_alloc w5 (.cells #[.int .i64 p.v.k, .int .i64 p.v.n, .int .u64 p.v.f, .string p.v.s, .slice p.ad p.v.l.length p.cap, .slice p.bd p.v.e.length p.dap] 26) none) (fun b e => absurd e (by simp))).cells; have HO5 := Lib.hid ho5; have HA5 := Lib.hid (HAd.out.grow (grown_none hb5) (fun _ e => absurd e (by simp))); have HQ5 := Lib.hid (HAd.out.fresh HOd.out.vlt hp); have HPV := Lib.hid hpv; clear hp hb5 hpv ho5; simp only [Loc.val])
        | (refine step_acc Tryd.underlying23 Tryd.info_val rfl (by decide) rfl (.tmp 22) (.tmp 25) rfl HA5.out HO5.out.vlt (⟨#[]⟩, p) HQ5.out (by show (0 : Nat) ≤ 140737488351232; decide) _ rfl rfl rfl k HN.out (by omega) (by omega) ?_; intro ao6 c6 w6 ha6 hg6; have ho6 := HO5.out.grow hg6 HOB.out; obtain ⟨-, -, -, -, k6, -, kf⟩ := ho6.cells; have kf6 := kf 4; have HO6 := Lib.hid ho6; have HA6 := Lib.hid ha6; clear ha6 hg6 ho6 kf))
      all_goals
        go_wp2_with fail
        obtain ⟨y, hy⟩ : ∃ y : ByteArray × Loc, (⟨#[]⟩, p) = y := ⟨_, rfl⟩
        have hy1 : y.1 = ⟨#[]⟩ := by rw [← hy]
        have hyv : y.2.v = q1.v := by rw [← hy]; exact HPV.out
        have ho := HO6.out.setL (.slice ao6 (k + 1) c6)
        have ha := HA6.out.grow (grown_cell w6 w.heap.size 4 (.slice ao6 (k + 1) c6)) (fun b e => by have := Option.some.inj e; omega)
        rw [hy] at ha
        have H1 := Lib.hid ho
        have H2 := Lib.hid ha
        have H3 : Hid ((ps ++ [y]).length = k + 1) := Lib.hid (by rw [List.length_append, HN.out]; rfl)
        have H4 : Hid (∀ z ∈ ps ++ [y], z.1 = ⟨#[]⟩) := Lib.hid (fun z hz => by
          rcases List.mem_append.1 hz with hz | hz
          · exact HZ.out z hz
          · obtain rfl : z = y := by simpa using hz
            exact hy1)
        have H5 : Hid ((ps ++ [y]).map (·.2.v) = v.l.take (k + 1)) := Lib.hid (by
          rw [List.map_append, HTK.out, take_snoc HX.out, ← hyv]; rfl)
        clear ho ha hy1 hyv hy HO6 HA6 HO5 HA5 HQ5 HPV HOd HAd
        go_roundw
        case rel => exact ⟨k + 1, ps ++ [y], ao6, c6, by omega, by go_num, H3, H1, H2, H4, H5⟩
        case measure => simp [intOf]; omega
    · obtain rfl : k = nl := by omega
      obtain ⟨wo, hwo⟩ : ∃ wo : World, wo = wr := ⟨_, rfl⟩
      rw [← hwo] at HO HA ⊢
      have hml := HO.out.vlt
      obtain ⟨M, hM⟩ : ∃ M, wo.heap.size = M + 1 := ⟨wo.heap.size - 1, by omega⟩
      have hrow := HA.out.row (xs := lp v.l) (by rw [HN.out]; simpa [st] using hl1) (by
        have h := HTK.out
        rw [← HNL.out, List.take_length] at h
        rw [← h]
        unfold lp
        rw [List.map_map]
        exact List.map_congr_left (fun p hp => by rw [HZ.out p hp]; rfl))
      have HRL : Hid (RowAt wo (fun b => w.heap.size + 1 < b ∧ b < M + 1) false (lp v.l) (.slice ao k cp)) := Lib.hid (hrow.weak (fun b hb hl => ⟨hb, by omega⟩))
      have hM1 : w.heap.size + 1 ≤ M := by omega
      clear hwo wr HA HZ HTK HN hlt hk hrow hml
      go_wp2_with fail
      go_loopw [31] (fun v31 wr => ∃ (j : Nat) (ps : List (ByteArray × Loc)) (bo : Option Addr) (cq : Nat), j ≤ ne ∧ v31 = .int .i64 j ∧ Hid (ps.length = j) ∧ Hid (OS w v.k v.n v.f v.s (.slice ao k cp) (.slice bo j cq) wr) ∧ Hid (Acc wr M true 50 (.slice bo j cq) ps) ∧ Hid (RowAt wr (fun b => w.heap.size + 1 < b ∧ b < M + 1) false (lp v.l) (.slice ao k cp)) ∧ Hid (ps.map (fun p => (p.1, p.2.v)) = v.e.take j) ∧ Hid (M + 1 ≤ wr.heap.size)) (fun v31 _ => ne - (intOf v31).toNat)
      case atStart => exact ⟨0, [], none, 0, Nat.zero_le _, rfl, Lib.hid rfl, HO, Lib.hid (Acc.nil _ _ _ _), HRL, Lib.hid rfl, Lib.hid (Nat.le_of_eq hM.symm)⟩
      case round =>
        obtain ⟨j, ps, bo, cq, hj, rfl, HN, HOq, HA, HR, HTK, HMl⟩ := hrel
        clear HO HRL
        by_cases hlt : j < ne
        · obtain ⟨x, hx⟩ : ∃ x, v.e[j]? = some x := ⟨_, List.getElem?_eq_getElem (by rw [HNE.out]; exact hlt)⟩
          obtain ⟨b1, o1, hd1, -, hbl1, hcs1⟩ := HQ.out.e.entry (by show 0 < v.e.length; rw [HNE.out]; omega)
          simp only at hd1
          subst hd1
          obtain ⟨hkl, gk1, q1, hq1, hv1, hg1⟩ := hcs1 j x hx
          clear hcs1
          have hg := HOq.out.g
          have k1 : wr.cell? ⟨b1, o1 + j * 7, none⟩ = some (.string x.1) := (hg.cell (p := ⟨b1, _, none⟩) hbl1).trans gk1
          obtain ⟨c0, c1, c2, c3, c4, c5⟩ := (hg1.through (hg.block _ hbl1)).seven
          have r1 : (0 : Int) ≤ (j : Int) := by omega
          have r2 : (j : Int) < (ne : Int) := by omega
          have r4 : (j : Int).toNat = j := rfl
          obtain ⟨s, hs⟩ : ∃ s, x.1 = s := ⟨_, rfl⟩
          have HX : Hid (v.e[j]? = some (s, q1.v)) := Lib.hid (by rw [hx, hq1, ← hs])
          have HSZ : Hid (SizeOf.sizeOf q1.v < SizeOf.sizeOf v) := Lib.hid (by rw [hq1]; exact V.lt_e (List.mem_of_getElem? hx))
          rw [hs] at hkl k1
          have hba := (Below.refl wr.heap.size wr).alloc (Nat.le_refl _) (.cells #[.string s, .int .i64 q1.v.k, .int .i64 q1.v.n, .int .u64 q1.v.f, .string q1.v.s, .slice q1.ad q1.v.l.length q1.cap, .slice q1.bd q1.v.e.length q1.dap] 50)
          have hob := HOq.out.keep hba
          have hab := HA.out.grow (grown_none hba) (fun _ e => absurd e (by simp))
          have hrb := HR.out.keep hba
          have hvb := (hv1.keep hg).keep hba
          have hcb := heap_alloc_new wr (.cells #[.string s, .int .i64 q1.v.k, .int .i64 q1.v.n, .int .u64 q1.v.f, .string q1.v.s, .slice q1.ad q1.v.l.length q1.cap, .slice q1.bd q1.v.e.length q1.dap] 50)
          have hml := Nat.le_trans HMl.out hba.size
          have hxl : wr.heap.size < (wr.alloc (.cells #[.string s, .int .i64 q1.v.k, .int .i64 q1.v.n, .int .u64 q1.v.f, .string q1.v.s, .slice q1.ad q1.v.l.length q1.cap, .slice q1.bd q1.v.e.length q1.dap] 50)).heap.size := by simp
          clear hx hq1 hv1 hg1 hg hba HOq HA HR gk1 hs
          go_upto_region 11 with fail
          generalize hwx : World.alloc wr _ = wx at hob hab hrb hvb hcb hml hxl ⊢
          generalize hxb : wr.heap.size = xb at hcb hxl ⊢
          have HOB := Lib.hid (hab.above)
          have HOd := Lib.hid (hob.keep (Gx.drewN_below wx 1 _))
          have HAd : Hid (Acc wx.drew M true 50 (.slice bo j cq) ps) := Lib.hid (hab.grow (r := none) ⟨rfl, rfl, rfl, Nat.le_refl _, fun _ _ _ => rfl⟩ (fun _ e => absurd e (by simp)))
          have HRd : Hid (RowAt wx.drew (fun b => w.heap.size + 1 < b ∧ b < M + 1) false (lp v.l) (.slice ao k cp)) := Lib.hid (hrb.keep (Gx.drewN_below wx 1 _))
          have HMd : Hid (M + 1 ≤ wx.drew.heap.size) := Lib.hid hml
          have hih := IH.out q1 wx.drew HSZ.out (hvb.keep (Gx.drewN_below wx 1 _))
          simp only [Loc.val] at hih
          have HCd := Lib.hid hih
          obtain ⟨e0, e1, e2, e3, e4, e5, e6⟩ := seven_cells hcb
          have HE0 : Hid (wx.drew.cell? ⟨xb, 0, none⟩ = some (.string s)) := Lib.hid e0
          have HXL : Hid (xb < wx.drew.heap.size) := Lib.hid hxl
          obtain ⟨-, -, -, -, -, k4, -⟩ := hob.cells
          clear hwx hxb c0 c1 c2 c3 c4 c5 k1 hob hab hrb hvb hcb hih hml hxl
          go_region_law (first
            | (go_simp; (with_reducible refine HCd.out.mono ?_); rintro e w5 ⟨p, rfl, hpv, hp, hb5⟩; have ho5 := HOd.out.keep hb5; have k5e := (hb5.cell (p := ⟨xb, 0, none⟩) HXL.out).trans HE0.out; obtain ⟨-, -, -, -, -, k5, -⟩ := ho5.cells; obtain ⟨-, -, -, -, -, k5a, -⟩ := (ho5.grow (World.grownBy_alloc w5 (.cells #[.string s, .int .i64 p.v.k, .int .i64 p.v.n, .int .u64 p.v.f, .string p.v.s, .slice p.ad p.v.l.length p.cap, .slice p.bd p.v.e.length p.dap] 50) none) (fun b e => absurd e (by simp))).cells; have HO5 := Lib.hid ho5; have HA5 := Lib.hid (HAd.out.grow (grown_none hb5) (fun _ e => absurd e (by simp))); have HR5 := Lib.hid (HRd.out.keep hb5); have HM5 := Lib.hid (Nat.le_trans HMd.out hb5.size); have HQ5 := Lib.hid (HAd.out.fresh HMd.out hp); have HPV := Lib.hid hpv; clear hp hb5 hpv ho5; simp only [Loc.val])
            | (refine step_acc Tryd.underlying24 Tryd.info_ent rfl (by decide) rfl (.tmp 36) (.tmp 43) rfl HA5.out HM5.out (s, p) HQ5.out hkl _ rfl rfl rfl j HN.out (by omega) (by omega) ?_; intro ao6 c6 w6 ha6 hg6; have ho6 := HO5.out.grow hg6 (fun b e => by have := HOB.out b e; omega); have hr6 := HR5.out.grow hg6 (fun b e hb => by have := HOB.out b e; omega); have hm6 := Nat.le_trans HM5.out hg6.size; obtain ⟨-, -, -, -, -, k6, kf⟩ := ho6.cells; have kf6 := kf 5; have HO6 := Lib.hid ho6; have HA6 := Lib.hid ha6; have HR6 := Lib.hid hr6; have HM6 := Lib.hid hm6; clear ha6 hg6 ho6 hr6 hm6 kf))
          all_goals
            go_wp2_with fail
            obtain ⟨y, hy⟩ : ∃ y : ByteArray × Loc, (s, p) = y := ⟨_, rfl⟩
            have hyv : (y.1, y.2.v) = (s, q1.v) := by rw [← hy]; exact Prod.ext rfl HPV.out
            have ho := HO6.out.setE (.slice ao6 (j + 1) c6)
            have ha := HA6.out.grow (grown_cell w6 w.heap.size 5 (.slice ao6 (j + 1) c6)) (fun b e => by have := Option.some.inj e; omega)
            rw [hy] at ha
            have H1 := Lib.hid ho
            have H2 := Lib.hid ha
            have H3 : Hid ((ps ++ [y]).length = j + 1) := Lib.hid (by rw [List.length_append, HN.out]; rfl)
            have H4 := Lib.hid (HR6.out.grow (grown_cell w6 w.heap.size 5 (.slice ao6 (j + 1) c6)) (fun b e hb => by have := Option.some.inj e; omega))
            have H5 : Hid ((ps ++ [y]).map (fun p => (p.1, p.2.v)) = v.e.take (j + 1)) := Lib.hid (by
              rw [List.map_append, HTK.out, take_snoc HX.out, ← hyv]; rfl)
            have H6 := Lib.hid (Nat.le_trans HM6.out (grown_cell w6 w.heap.size 5 (.slice ao6 (j + 1) c6)).size)
            clear ho ha hyv hy HO6 HA6 HO5 HA5 HQ5 HPV HOd HAd HR6 HR5 HRd HM6 HM5 HMd
            go_roundw
            case rel => exact ⟨j + 1, ps ++ [y], ao6, c6, by omega, by go_num, H3, H1, H2, H4, H5, H6⟩
            case measure => simp [intOf]; omega
        · obtain rfl : j = ne := by omega
          have hre := HA.out.row (xs := v.e) (by rw [HN.out]; simpa [st] using he1) (by
            have h := HTK.out
            rw [← HNE.out, List.take_length] at h
            exact h.symm)
          have hv : VAt wr (fun b => w.heap.size + 1 < b) ⟨v, ao, cp, bo, cq⟩ := ⟨HQ.out.wf, by
              have := HR.out.weak (C := fun b => w.heap.size + 1 < b) (fun b hb _ => hb.1)
              show RowAt wr _ false (lp v.l) (.slice ao v.l.length cp)
              rw [HNL.out]; exact this, by
              have := hre.weak (C := fun b => w.heap.size + 1 < b) (fun b hb _ => by omega)
              show RowAt wr _ true v.e (.slice bo v.e.length cq)
              rw [HNE.out]; exact this⟩
          obtain ⟨a0, a1, a2, a3, a4, a5, -⟩ := HOq.out.cells
          obtain ⟨p0, p1, p2, p3, p4, p5, pf⟩ := six_cells HOq.out.res
          have pf0 := pf 0
          have pf1 := pf 1
          have pf2 := pf 2
          have pf3 := pf 3
          have pf4 := pf 4
          have pf5 := pf 5
          obtain ⟨W9, hW9, hr9, -, -, hbw, hvw⟩ := six_all HOq.out.res (.int .i64 v.k) (.int .i64 v.n) (.int .u64 v.f) (.string v.s) (.slice ao k cp) (.slice bo j cq)
          obtain ⟨q0, q1, q2, q3, q4, q5, -⟩ := six_cells hr9
          have HW9 := Lib.hid hW9
          have HPOST : Hid (CopyPost v w (.returned (.agg #[.int .i64 v.k, .int .i64 v.n, .int .u64 v.f, .string v.s, .slice ao k cp, .slice bo j cq])) W9) := Lib.hid ⟨⟨v, ao, cp, bo, cq⟩, by rw [← HNL.out, ← HNE.out]; rfl, rfl, (hvw _ _ hv (Nat.lt_irrefl _)).weak (fun b hb _ => by omega), hbw _ _ HOq.out.g (by omega)⟩
          clear hW9 hr9 hbw hvw pf hv hre
          go_wp2_with fail
          rw [← HW9.out]
          exact bodyPost_ret (v := .agg #[.int .i64 v.k, .int .i64 v.n, .int .u64 v.f, .string v.s, .slice ao k cp, .slice bo j cq]) (by simp [results, Tryd.results17, go_sem, q0, q1, q2, q3, q4, q5]) rfl HPOST.out
/-- the same value, in new memory -/
theorem own_any' (q : Loc) (w : World) (hq : VAt w (fun _ => True) q) : Calls Tryd.prog 17 #[q.val] w (CopyPost q.v w) := by
  have key : ∀ (n : Nat) (q : Loc) (w : World), SizeOf.sizeOf q.v ≤ n → VAt w (fun _ => True) q → Calls Tryd.prog 17 #[q.val] w (CopyPost q.v w) := by
    intro n
    induction n with
    | zero => intro q w h; cases q with | mk v _ _ _ _ => cases v; simp at h
    | succ n ih => exact fun q w h hq => own_step q.v q.ad q.bd q.cap q.dap w hq (fun q' w' h' hq' => ih q' w' (by omega) hq')
  exact key _ q w (Nat.le_refl _) hq
end Go.Proofs.YtpjigecmnefnhaaDoor
