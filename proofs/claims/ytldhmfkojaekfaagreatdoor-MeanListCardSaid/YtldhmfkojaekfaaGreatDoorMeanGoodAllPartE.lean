/-
  The contracts of the tree reader's value and of its two closures. Conditions: as XTree2; rounds enough for the tokens.
  Plain law: the reader of a tree never passes a token that is none. No conditions.
  Plain law of TreeFirst: what is ahead of the place where a text fails. No conditions.
  The walk of typecasekeep.TokFront. Condition: a variable of the library's holds some integer.
-/
import Derived.Test.YtldhmfkojaekfaaGreatDoorMeanGoodAllPartD
set_option linter.unusedVariables false
namespace Go.Proofs.YtldhmfkojaekfaaGreatDoor
open Go.RowKit Gx
set_option maxRecDepth 100000
def EntOk (R : Nat) (ta : Option Addr) (tc : Nat) (S : ByteArray) (X : TS) (deep : Int) (val : PS → PS × Nd) : Prop :=
  ∀ (s : PS) (w : World), RS w R ta tc S X s → s.bad = 0 → s.i ≤ X.T.length → Calls Tryz.prog 71 #[.pointer (some ⟨R, 0, none⟩), .int .i64 deep] w (NP R ta tc S X (val s) w)
set_option maxHeartbeats 4000000 in
theorem clos_entry (b2 b3 : Nat) (deep : Int) (kid : PS → PS × Nd) (R : Nat) (ta : Option Addr) (tc : Nat) (S : ByteArray) (X : TS) (w0 : World) (h2 : w0.heap[b2]? = some (.cells #[.pointer (some ⟨R, 0, none⟩)] 90)) (h3 : w0.heap[b3]? = some (.cells #[.int .i64 deep] 3))
    (n2 : b2 ≠ R) (n3 : b3 ≠ R) (hd0 : 0 ≤ deep) (hd1 : deep ≤ 20) (hk : EntOk R ta tc S X (deep + 1) kid) : KidOk R ta tc S X w0 70 #[.pointer (some ⟨b2, 0, none⟩), .pointer (some ⟨b3, 0, none⟩)] kid := by
  intro s w hg h hb hi
  have hRl := h.lt
  have hz2 := (Array.getElem?_eq_some_iff.1 h2).1
  have hz3 := (Array.getElem?_eq_some_iff.1 h3).1
  have e2 : w.heap[b2]? = _ := (hg.block b2 hz2 (fun e => n2 (Option.some.inj e))).trans h2
  have e3 : w.heap[b3]? = _ := (hg.block b3 hz3 (fun e => n3 (Option.some.inj e))).trans h3
  have c2 : w.cell? ⟨b2, 0, none⟩ = some (.pointer (some ⟨R, 0, none⟩)) := by simp [World.cell?, e2]
  have c3 : w.cell? ⟨b3, 0, none⟩ = some (.int .i64 deep) := by simp [World.cell?, e3]
  have hl2 : b2 < w.heap.size := (Array.getElem?_eq_some_iff.1 e2).1
  have hl3 : b3 < w.heap.size := (Array.getElem?_eq_some_iff.1 e3).1
  have H0 := Lib.hid h
  have HC := Lib.hid (hk s _ (h.alloc (.cells #[.int .i64 0, .int .i64 0, .int .i64 0, .slice none 0 0] 53)) hb hi)
  clear hg h2 h3 e2 e3 h hk hb
  go_enter Tryz.func70, Tryz.ntmps70
  go_wp2_with fail
  refine HC.out.mono ?_
  rintro e w3 ⟨vs, rfl, hk3, hr3, hg3⟩
  obtain ⟨so, sc, rfl⟩ := hk3.form
  have hh3 : w3.heap[w.heap.size]? = some (.cells #[.int .i64 0, .int .i64 0, .int .i64 0, .slice none 0 0] 53) :=
    (hg3.block _ (by simp) (fun e => by have := Option.some.inj e; omega)).trans (heap_alloc_last w _)
  have hk4 := hk3.weak (C := fun b => w.heap.size < b) (fun b hb _ => by rw [World.size_alloc] at hb; omega)
  have hg4 := (grown_alloc w (.cells #[.int .i64 0, .int .i64 0, .int .i64 0, .slice none 0 0] 53) (some R)).trans hg3
  clear hk3 hg3 c2 c3
  obtain ⟨b0, b1, b2, b3, bf⟩ := node_cells hh3
  have bf0 := bf 0
  have bf1 := bf 1
  have bf2 := bf 2
  have bf3 := bf 3
  have HH3 := Lib.hid hh3
  have HR3 := Lib.hid hr3
  have HK4 := Lib.hid hk4
  have HG4 := Lib.hid hg4
  obtain ⟨nd, hnd⟩ : ∃ nd, (kid s).2 = nd := ⟨_, rfl⟩
  have HND := Lib.hid hnd
  rw [hnd] at HK4 ⊢
  clear bf hh3 hr3 hk4 hg4 hnd
  go_wp2_with fail
  obtain ⟨h7, g7⟩ := store4 HH3.out (.int .i64 nd.k) (.int .i64 nd.a) (.int .i64 nd.b) (.slice so nd.kids.length sc)
  generalize ((((w3.setCell ⟨w.heap.size, 0, none⟩ (.int .i64 nd.k)).setCell ⟨w.heap.size, 1, none⟩ (.int .i64 nd.a)).setCell ⟨w.heap.size, 2, none⟩ (.int .i64 nd.b)).setCell ⟨w.heap.size, 3, none⟩ (.slice so nd.kids.length sc)) = w7 at h7 g7 ⊢
  clear b0 b1 b2 b3 bf0 bf1 bf2 bf3
  obtain ⟨n0, n1, n2, n3, -⟩ := node_cells h7
  exact bodyPost_ret (v := .agg #[.int .i64 nd.k, .int .i64 nd.a, .int .i64 nd.b, .slice so nd.kids.length sc]) (by simp [results, Tryz.results70, go_sem, n0, n1, n2, n3]) rfl
    (by rw [← HND.out]; rw [← HND.out] at HK4; exact ⟨_, rfl, (HK4.out.grow g7 (fun b e hb => by have := Option.some.inj e; omega)).weak (fun b hb _ => by omega), RS.other H0.out HR3.out g7 (Nat.le_refl _), grown_fresh HG4.out g7 (Nat.le_refl _)⟩)
set_option maxHeartbeats 4000000 in
theorem clos_value (b2 b3 : Nat) (deep : Int) (kid : PS → PS × Nd) (R : Nat) (ta : Option Addr) (tc : Nat) (S : ByteArray) (X : TS) (w0 : World) (h2 : w0.heap[b2]? = some (.cells #[.pointer (some ⟨R, 0, none⟩)] 90)) (h3 : w0.heap[b3]? = some (.cells #[.int .i64 deep] 3))
    (n2 : b2 ≠ R) (n3 : b3 ≠ R) (hd0 : 0 ≤ deep) (hd1 : deep ≤ 20) (hk : ValOk R ta tc S X (deep + 1) kid) : KidOk R ta tc S X w0 72 #[.pointer (some ⟨b2, 0, none⟩), .pointer (some ⟨b3, 0, none⟩)] kid := by
  intro s w hg h hb hi
  have hRl := h.lt
  have hz2 := (Array.getElem?_eq_some_iff.1 h2).1
  have hz3 := (Array.getElem?_eq_some_iff.1 h3).1
  have e2 : w.heap[b2]? = _ := (hg.block b2 hz2 (fun e => n2 (Option.some.inj e))).trans h2
  have e3 : w.heap[b3]? = _ := (hg.block b3 hz3 (fun e => n3 (Option.some.inj e))).trans h3
  have c2 : w.cell? ⟨b2, 0, none⟩ = some (.pointer (some ⟨R, 0, none⟩)) := by simp [World.cell?, e2]
  have c3 : w.cell? ⟨b3, 0, none⟩ = some (.int .i64 deep) := by simp [World.cell?, e3]
  have hl2 : b2 < w.heap.size := (Array.getElem?_eq_some_iff.1 e2).1
  have hl3 : b3 < w.heap.size := (Array.getElem?_eq_some_iff.1 e3).1
  have H0 := Lib.hid h
  have HC := Lib.hid (hk s _ (h.alloc (.cells #[.int .i64 0, .int .i64 0, .int .i64 0, .slice none 0 0] 53)) hb hi)
  clear hg h2 h3 e2 e3 h hk hb
  go_enter Tryz.func72, Tryz.ntmps72
  go_wp2_with fail
  refine HC.out.mono ?_
  rintro e w3 ⟨vs, rfl, hk3, hr3, hg3⟩
  obtain ⟨so, sc, rfl⟩ := hk3.form
  have hh3 : w3.heap[w.heap.size]? = some (.cells #[.int .i64 0, .int .i64 0, .int .i64 0, .slice none 0 0] 53) :=
    (hg3.block _ (by simp) (fun e => by have := Option.some.inj e; omega)).trans (heap_alloc_last w _)
  have hk4 := hk3.weak (C := fun b => w.heap.size < b) (fun b hb _ => by rw [World.size_alloc] at hb; omega)
  have hg4 := (grown_alloc w (.cells #[.int .i64 0, .int .i64 0, .int .i64 0, .slice none 0 0] 53) (some R)).trans hg3
  clear hk3 hg3 c2 c3
  obtain ⟨b0, b1, b2, b3, bf⟩ := node_cells hh3
  have bf0 := bf 0
  have bf1 := bf 1
  have bf2 := bf 2
  have bf3 := bf 3
  have HH3 := Lib.hid hh3
  have HR3 := Lib.hid hr3
  have HK4 := Lib.hid hk4
  have HG4 := Lib.hid hg4
  obtain ⟨nd, hnd⟩ : ∃ nd, (kid s).2 = nd := ⟨_, rfl⟩
  have HND := Lib.hid hnd
  rw [hnd] at HK4 ⊢
  clear bf hh3 hr3 hk4 hg4 hnd
  go_wp2_with fail
  obtain ⟨h7, g7⟩ := store4 HH3.out (.int .i64 nd.k) (.int .i64 nd.a) (.int .i64 nd.b) (.slice so nd.kids.length sc)
  generalize ((((w3.setCell ⟨w.heap.size, 0, none⟩ (.int .i64 nd.k)).setCell ⟨w.heap.size, 1, none⟩ (.int .i64 nd.a)).setCell ⟨w.heap.size, 2, none⟩ (.int .i64 nd.b)).setCell ⟨w.heap.size, 3, none⟩ (.slice so nd.kids.length sc)) = w7 at h7 g7 ⊢
  clear b0 b1 b2 b3 bf0 bf1 bf2 bf3
  obtain ⟨n0, n1, n2, n3, -⟩ := node_cells h7
  exact bodyPost_ret (v := .agg #[.int .i64 nd.k, .int .i64 nd.a, .int .i64 nd.b, .slice so nd.kids.length sc]) (by simp [results, Tryz.results72, go_sem, n0, n1, n2, n3]) rfl
    (by rw [← HND.out]; rw [← HND.out] at HK4; exact ⟨_, rfl, (HK4.out.grow g7 (fun b e hb => by have := Option.some.inj e; omega)).weak (fun b hb _ => by omega), RS.other H0.out HR3.out g7 (Nat.le_refl _), grown_fresh HG4.out g7 (Nat.le_refl _)⟩)
/-- value's state in memory -/
structure VR (w : World) (R : Nat) (ta : Option Addr) (tc : Nat) (S : ByteArray) (X : TS) (deep : Int) (u : PS) (wx : World) : Prop where
  rs : RS wx R ta tc S X u
  bp : wx.heap[w.heap.size]? = some (.cells #[.pointer (some ⟨R, 0, none⟩)] 90)
  bd : wx.heap[w.heap.size + 1]? = some (.cells #[.int .i64 deep] 3)
  res : wx.heap[w.heap.size + 2]? = some (.cells #[.int .i64 0, .int .i64 0, .int .i64 0, .slice none 0 0] 53)
  gr : w.grownBy wx (some R)
section
variable {w : World} {R : Nat} {ta : Option Addr} {tc : Nat} {S : ByteArray} {X : TS} {deep : Int} {u u2 : PS} {wx w2 : World}
theorem VR.size (h : VR w R ta tc S X deep u wx) : w.heap.size + 3 ≤ wx.heap.size := by
  have := (Array.getElem?_eq_some_iff.1 h.res).1
  omega
theorem VR.cells (h : VR w R ta tc S X deep u wx) : wx.cell? ⟨w.heap.size, 0, none⟩ = some (.pointer (some ⟨R, 0, none⟩)) ∧ wx.cell? ⟨w.heap.size + 1, 0, none⟩ = some (.int .i64 deep) := by
  have h1 := h.bp
  have h2 := h.bd
  exact ⟨by simp [World.cell?, h1], by simp [World.cell?, h2]⟩
theorem VR.grow (hR : R < w.heap.size) (h : VR w R ta tc S X deep u wx) (hr : RS w2 R ta tc S X u2) (hg : wx.grownBy w2 (some R)) : VR w R ta tc S X deep u2 w2 := by
  have hs := h.size
  exact ⟨hr, (hg.block _ (by omega) (fun e => by have := Option.some.inj e; omega)).trans h.bp, (hg.block _ (by omega) (fun e => by have := Option.some.inj e; omega)).trans h.bd, (hg.block _ (by omega) (fun e => by have := Option.some.inj e; omega)).trans h.res, h.gr.trans hg⟩
theorem VR.drewN (hR : R < w.heap.size) (h : VR w R ta tc S X deep u wx) (n : Nat) : VR w R ta tc S X deep u (wx.drewN n) :=
  h.grow hR (h.rs.drewN n) (grown_drew _ _ _)
theorem VR.start (h : RS w R ta tc S X u) : VR w R ta tc S X deep u (((w.alloc (.cells #[.pointer (some ⟨R, 0, none⟩)] 90)).alloc (.cells #[.int .i64 deep] 3)).alloc (.cells #[.int .i64 0, .int .i64 0, .int .i64 0, .slice none 0 0] 53)) := by
  refine ⟨((h.alloc _).alloc _).alloc _, ?_, ?_, ?_, ((grown_alloc _ _ _).trans (grown_alloc _ _ _)).trans (grown_alloc _ _ _)⟩
  · exact (heap_alloc_old _ _ (by simp only [World.size_alloc]; omega)).trans ((heap_alloc_old _ _ (by simp only [World.size_alloc]; omega)).trans (heap_alloc_last w _))
  · refine (heap_alloc_old _ _ (by simp only [World.size_alloc]; omega)).trans ?_
    have := heap_alloc_last (w.alloc (.cells #[.pointer (some ⟨R, 0, none⟩)] 90)) (.cells #[.int .i64 deep] 3)
    rwa [World.size_alloc] at this
  · have := heap_alloc_last ((w.alloc (.cells #[.pointer (some ⟨R, 0, none⟩)] 90)).alloc (.cells #[.int .i64 deep] 3)) (.cells #[.int .i64 0, .int .i64 0, .int .i64 0, .slice none 0 0] 53)
    rwa [World.size_alloc, World.size_alloc] at this
theorem VR.fin {s0 : PS} {kids : List Nd} {vs : Value} {w7 : World} (h0 : RS w R ta tc S X s0) (h : VR w R ta tc S X deep u wx) (hn : KidsAt wx (fun b => w.heap.size + 3 ≤ b) kids vs) (hg : wx.grownBy w7 (some (w.heap.size + 2))) :
    KidsAt w7 (fun b => w.heap.size ≤ b) kids vs ∧ RS w7 R ta tc S X u ∧ w.grownBy w7 (some R) :=
  ⟨(hn.grow hg (fun b e hb => by have := Option.some.inj e; omega)).weak (fun b hb _ => by omega), RS.other h0 h.rs hg (by omega), grown_fresh h.gr hg (by omega)⟩
end
set_option maxHeartbeats 8000000 in
theorem value_zero (r : Nat) (deep : Int) (R : Nat) (ta : Option Addr) (tc : Nat) (S : ByteArray) (X : TS) (hT : X.T.length ≤ 20000) (hpos0 : ∀ j, j < X.T.length → X.pos j < X.l.length) (hr30 : r ≤ 20) (hd : deep = 20) :
    ValOk R ta tc S X deep (valueS X 0) := by
  intro s w h hb0 hi
  have hRl := h.lt
  have H0 := Lib.hid h
  obtain ⟨u, hu⟩ : ∃ u, s.skip X = u := ⟨_, rfl⟩
  obtain ⟨mv, hmv⟩ : ∃ mv : Int, ((u.mark X).toNat : Int) = mv := ⟨_, rfl⟩
  have hui : u.i ≤ X.T.length := by rw [← hu]; exact (skip_fine X _).2.1 hi
  have hb : u.bad = 0 := by rw [← hu]; exact hb0
  have HV1 := Lib.hid (VR.start (deep := deep) h)
  have HMk := Lib.hid (mark_of u mv R ta tc S X s _ HV1.out.rs hT (by omega) hpos0 hu hmv)
  have hpos := Lib.hid hpos0
  subst hd
  have hvs : valueS X 0 s = (if u.begins X then (u.fail X 5, .none) else leafS X 1 u) := by rw [← hu]; rfl
  have HVS := Lib.hid hvs
  have HFL : Hid (∀ wz, RS wz R ta tc S X u → Calls Tryz.prog 46 #[.pointer (some ⟨R, 0, none⟩), .int .i64 5] wz (RP R ta tc S X (u.fail X 5) wz)) := Lib.hid (fun wz hz => fail_any 5 R ta tc S X u wz hz hT (by omega))
  clear h hu hpos0 hb0 hvs
  by_cases h1 : u.mark X = 123
  · have e1 : mv = 123 := by rw [← hmv, h1]; rfl
    have t1 : (mv == 123) = true := by rw [e1]; rfl
    have hlt := mark_lt h1 (by decide)
    have HEQ := Lib.hid (show valueS X 0 s = (u.fail X 5, .none) from by rw [HVS.out, if_pos (by unfold PS.begins; rw [h1]; rfl)])
    clear hmv HVS hb
    go_enter Tryz.func44, Tryz.ntmps44
    go_wp2_with fail
    refine HMk.out.mono ?_
    rintro e w2 ⟨rfl, hr2, hg2⟩
    have HV2 := Lib.hid (HV1.out.grow hRl hr2 hg2)
    clear hr2 hg2 HMk HV1
    obtain ⟨v0, v1⟩ := HV2.out.cells
    obtain ⟨c0, c1, c2, c3, c4, fz⟩ := HV2.out.rs.cells
    go_wp2_with fail
    go_quiet (fail)
    clear h1 e1
    have HV3 := Lib.hid (HV2.out.drewN hRl nq)
    clear HV2 c0 c1 c2 c3 c4 fz v0 v1
    obtain ⟨v0, v1⟩ := HV3.out.cells
    go_wp2_with fail
    refine HFL.out (w2.drewN nq) HV3.out.rs |>.mono ?_
    rintro e w4 ⟨rfl, hr4, hg4⟩
    have HV4 := Lib.hid (HV3.out.grow hRl hr4 hg4)
    clear hr4 hg4 v0 v1
    obtain ⟨b0, b1, b2, b3, bf⟩ := node_cells HV4.out.res
    have bf0 := bf 0
    have bf1 := bf 1
    have bf2 := bf 2
    have bf3 := bf 3
    clear bf
    go_wp2_with fail
    obtain ⟨h7, g7⟩ := store4 HV4.out.res (.int .i64 0) (.int .i64 0) (.int .i64 0) (.slice none 0 0)
    generalize ((((w4.setCell ⟨w.heap.size + 2, 0, none⟩ (.int .i64 0)).setCell ⟨w.heap.size + 2, 1, none⟩ (.int .i64 0)).setCell ⟨w.heap.size + 2, 2, none⟩ (.int .i64 0)).setCell ⟨w.heap.size + 2, 3, none⟩ (.slice none 0 0)) = w7 at h7 g7 ⊢
    obtain ⟨f0, f1, f2⟩ := HV4.out.fin H0.out .nil g7
    clear b0 b1 b2 b3 bf0 bf1 bf2 bf3
    obtain ⟨n0, n1, n2, n3, -⟩ := node_cells h7
    exact bodyPost_ret (v := .agg #[.int .i64 0, .int .i64 0, .int .i64 0, .slice none 0 0]) (by simp [results, Tryz.results44, go_sem, n0, n1, n2, n3]) rfl
      (by rw [HEQ.out]; exact ⟨_, rfl, f0, f1, f2⟩)
  · have n1 : ¬ mv = 123 := fun e => h1 (UInt8.toNat_inj.1 (by have h2 := hmv.trans e; exact_mod_cast h2))
    have t1 : (mv == 123) = false := by simpa using n1
    by_cases h2 : u.mark X = 91
    · have e1 : mv = 91 := by rw [← hmv, h2]; rfl
      have t2 : (mv == 91) = true := by rw [e1]; rfl
      have hlt := mark_lt h2 (by decide)
      clear n1
      have HEQ := Lib.hid (show valueS X 0 s = (u.fail X 5, .none) from by rw [HVS.out, if_pos (by unfold PS.begins; rw [h2]; rfl)])
      clear hmv HVS hb
      go_enter Tryz.func44, Tryz.ntmps44
      go_wp2_with fail
      refine HMk.out.mono ?_
      rintro e w2 ⟨rfl, hr2, hg2⟩
      have HV2 := Lib.hid (HV1.out.grow hRl hr2 hg2)
      clear hr2 hg2 HMk HV1
      obtain ⟨v0, v1⟩ := HV2.out.cells
      obtain ⟨c0, c1, c2, c3, c4, fz⟩ := HV2.out.rs.cells
      go_wp2_with fail
      go_quiet (fail)
      clear h1 h2 e1
      have HV3 := Lib.hid (HV2.out.drewN hRl nq)
      clear HV2 c0 c1 c2 c3 c4 fz v0 v1
      obtain ⟨v0, v1⟩ := HV3.out.cells
      go_wp2_with fail
      refine HFL.out (w2.drewN nq) HV3.out.rs |>.mono ?_
      rintro e w4 ⟨rfl, hr4, hg4⟩
      have HV4 := Lib.hid (HV3.out.grow hRl hr4 hg4)
      clear hr4 hg4 v0 v1
      obtain ⟨b0, b1, b2, b3, bf⟩ := node_cells HV4.out.res
      have bf0 := bf 0
      have bf1 := bf 1
      have bf2 := bf 2
      have bf3 := bf 3
      clear bf
      go_wp2_with fail
      obtain ⟨h7, g7⟩ := store4 HV4.out.res (.int .i64 0) (.int .i64 0) (.int .i64 0) (.slice none 0 0)
      generalize ((((w4.setCell ⟨w.heap.size + 2, 0, none⟩ (.int .i64 0)).setCell ⟨w.heap.size + 2, 1, none⟩ (.int .i64 0)).setCell ⟨w.heap.size + 2, 2, none⟩ (.int .i64 0)).setCell ⟨w.heap.size + 2, 3, none⟩ (.slice none 0 0)) = w7 at h7 g7 ⊢
      obtain ⟨f0, f1, f2⟩ := HV4.out.fin H0.out .nil g7
      clear b0 b1 b2 b3 bf0 bf1 bf2 bf3
      obtain ⟨n0, n1, n2, n3, -⟩ := node_cells h7
      exact bodyPost_ret (v := .agg #[.int .i64 0, .int .i64 0, .int .i64 0, .slice none 0 0]) (by simp [results, Tryz.results44, go_sem, n0, n1, n2, n3]) rfl
        (by rw [HEQ.out]; exact ⟨_, rfl, f0, f1, f2⟩)
    · have n2 : ¬ mv = 91 := fun e => h2 (UInt8.toNat_inj.1 (by have h3 := hmv.trans e; exact_mod_cast h3))
      have t2 : (mv == 91) = false := by simpa using n2
      clear n1 n2
      by_cases hlt : u.i < X.T.length
      · have t3 : decide ((u.i : Int) < (X.T.length : Int)) = true := decide_eq_true (by omega)
        have t3n : decide (u.i < X.T.length) = true := decide_eq_true hlt
        have hi1 : (0 : Int) ≤ (u.i : Int) := by omega
        have hi2 : (u.i : Int) < (X.T.length : Int) := by omega
        have hkn : (u.i : Int).toNat = u.i := rfl
        by_cases hk4 : X.kind u.i = 4
        · have hkk := hk4
          have HEQ := Lib.hid (show valueS X 0 s = (u.fail X 5, .none) from by rw [HVS.out, if_pos (by unfold PS.begins; rw [hk4]; exact Bool.or_true _)])
          clear hmv HVS hb
          go_enter Tryz.func44, Tryz.ntmps44
          go_wp2_with fail
          refine HMk.out.mono ?_
          rintro e w2 ⟨rfl, hr2, hg2⟩
          have HV2 := Lib.hid (HV1.out.grow hRl hr2 hg2)
          clear hr2 hg2 HMk HV1
          obtain ⟨v0, v1⟩ := HV2.out.cells
          obtain ⟨c0, c1, c2, c3, c4, fz⟩ := HV2.out.rs.cells
          obtain ⟨tb, rfl, d0, d1⟩ := HV2.out.rs.tok3 u.i hlt
          rw [hkk] at d0
          clear hkk d1
          go_wp2_with fail
          go_quiet (fail)
          clear h1 h2 hk4
          have HV3 := Lib.hid (HV2.out.drewN hRl nq)
          clear HV2 c0 c1 c2 c3 c4 fz v0 v1
          obtain ⟨v0, v1⟩ := HV3.out.cells
          go_wp2_with fail
          refine HFL.out (w2.drewN nq) HV3.out.rs |>.mono ?_
          rintro e w4 ⟨rfl, hr4, hg4⟩
          have HV4 := Lib.hid (HV3.out.grow hRl hr4 hg4)
          clear hr4 hg4 v0 v1
          obtain ⟨b0, b1, b2, b3, bf⟩ := node_cells HV4.out.res
          have bf0 := bf 0
          have bf1 := bf 1
          have bf2 := bf 2
          have bf3 := bf 3
          clear bf
          go_wp2_with fail
          obtain ⟨h7, g7⟩ := store4 HV4.out.res (.int .i64 0) (.int .i64 0) (.int .i64 0) (.slice none 0 0)
          generalize ((((w4.setCell ⟨w.heap.size + 2, 0, none⟩ (.int .i64 0)).setCell ⟨w.heap.size + 2, 1, none⟩ (.int .i64 0)).setCell ⟨w.heap.size + 2, 2, none⟩ (.int .i64 0)).setCell ⟨w.heap.size + 2, 3, none⟩ (.slice none 0 0)) = w7 at h7 g7 ⊢
          obtain ⟨f0, f1, f2⟩ := HV4.out.fin H0.out .nil g7
          clear b0 b1 b2 b3 bf0 bf1 bf2 bf3
          obtain ⟨n0, n1, n2, n3, -⟩ := node_cells h7
          exact bodyPost_ret (v := .agg #[.int .i64 0, .int .i64 0, .int .i64 0, .slice none 0 0]) (by simp [results, Tryz.results44, go_sem, n0, n1, n2, n3]) rfl
            (by rw [HEQ.out]; exact ⟨_, rfl, f0, f1, f2⟩)
        · by_cases hk5 : X.kind u.i = 5
          · have hkk := hk5
            have HEQ := Lib.hid (show valueS X 0 s = (u.fail X 5, .none) from by rw [HVS.out, if_pos (by unfold PS.begins; rw [hk5]; exact Bool.or_true _)])
            clear hmv HVS hb
            go_enter Tryz.func44, Tryz.ntmps44
            go_wp2_with fail
            refine HMk.out.mono ?_
            rintro e w2 ⟨rfl, hr2, hg2⟩
            have HV2 := Lib.hid (HV1.out.grow hRl hr2 hg2)
            clear hr2 hg2 HMk HV1
            obtain ⟨v0, v1⟩ := HV2.out.cells
            obtain ⟨c0, c1, c2, c3, c4, fz⟩ := HV2.out.rs.cells
            obtain ⟨tb, rfl, d0, d1⟩ := HV2.out.rs.tok3 u.i hlt
            rw [hkk] at d0
            clear hkk d1
            go_wp2_with fail
            go_quiet (fail)
            clear h1 h2 hk4 hk5
            have HV3 := Lib.hid (HV2.out.drewN hRl nq)
            clear HV2 c0 c1 c2 c3 c4 fz v0 v1
            obtain ⟨v0, v1⟩ := HV3.out.cells
            go_wp2_with fail
            refine HFL.out (w2.drewN nq) HV3.out.rs |>.mono ?_
            rintro e w4 ⟨rfl, hr4, hg4⟩
            have HV4 := Lib.hid (HV3.out.grow hRl hr4 hg4)
            clear hr4 hg4 v0 v1
            obtain ⟨b0, b1, b2, b3, bf⟩ := node_cells HV4.out.res
            have bf0 := bf 0
            have bf1 := bf 1
            have bf2 := bf 2
            have bf3 := bf 3
            clear bf
            go_wp2_with fail
            obtain ⟨h7, g7⟩ := store4 HV4.out.res (.int .i64 0) (.int .i64 0) (.int .i64 0) (.slice none 0 0)
            generalize ((((w4.setCell ⟨w.heap.size + 2, 0, none⟩ (.int .i64 0)).setCell ⟨w.heap.size + 2, 1, none⟩ (.int .i64 0)).setCell ⟨w.heap.size + 2, 2, none⟩ (.int .i64 0)).setCell ⟨w.heap.size + 2, 3, none⟩ (.slice none 0 0)) = w7 at h7 g7 ⊢
            obtain ⟨f0, f1, f2⟩ := HV4.out.fin H0.out .nil g7
            clear b0 b1 b2 b3 bf0 bf1 bf2 bf3
            obtain ⟨n0, n1, n2, n3, -⟩ := node_cells h7
            exact bodyPost_ret (v := .agg #[.int .i64 0, .int .i64 0, .int .i64 0, .slice none 0 0]) (by simp [results, Tryz.results44, go_sem, n0, n1, n2, n3]) rfl
              (by rw [HEQ.out]; exact ⟨_, rfl, f0, f1, f2⟩)
          · obtain ⟨kk, hkk⟩ : ∃ kk, X.kind u.i = kk := ⟨_, rfl⟩
            have t4 : (kk == 4) = false := by rw [← hkk]; simpa using hk4
            have t5 : (kk == 5) = false := by rw [← hkk]; simpa using hk5
            have HEQ := Lib.hid (show valueS X 0 s = leafS X 1 u from by rw [HVS.out, if_neg (by unfold PS.begins isLeaf; simp [h1, h2, hk4, hk5])])
            clear hmv HVS hb
            go_enter Tryz.func44, Tryz.ntmps44
            go_wp2_with fail
            refine HMk.out.mono ?_
            rintro e w2 ⟨rfl, hr2, hg2⟩
            have HV2 := Lib.hid (HV1.out.grow hRl hr2 hg2)
            clear hr2 hg2 HMk HV1
            obtain ⟨v0, v1⟩ := HV2.out.cells
            obtain ⟨c0, c1, c2, c3, c4, fz⟩ := HV2.out.rs.cells
            obtain ⟨tb, rfl, d0, d1⟩ := HV2.out.rs.tok3 u.i hlt
            rw [hkk] at d0
            clear hkk d1
            go_wp2_with fail
            go_quiet (fail)
            clear h1 h2 hk4 hk5
            have HV3 := Lib.hid (HV2.out.drewN hRl nq)
            clear HV2 c0 c1 c2 c3 c4 fz v0 v1
            obtain ⟨v0, v1⟩ := HV3.out.cells
            have HC := Lib.hid (leaf_any 1 R _ tc S X u (w2.drewN nq) HV3.out.rs hT (by omega))
            go_wp2_with fail
            refine HC.out.mono ?_
            rintro e w4 ⟨vs, rfl, hk4, hr4, hg4⟩
            have hs3 := HV3.out.size
            have HV4 := Lib.hid (HV3.out.grow hRl hr4 hg4)
            have HK4 := Lib.hid (hk4.weak (C := fun b => w.heap.size + 3 ≤ b) (fun b hb _ => by omega))
            obtain ⟨so, sc, rfl⟩ := hk4.form
            clear hr4 hg4 hk4 v0 v1 hs3 HC
            obtain ⟨nd, hnd⟩ : ∃ nd, (leafS X 1 u).2 = nd := ⟨_, rfl⟩
            have HND := Lib.hid hnd
            rw [hnd] at HK4 ⊢
            clear hnd
            obtain ⟨b0, b1, b2, b3, bf⟩ := node_cells HV4.out.res
            have bf0 := bf 0
            have bf1 := bf 1
            have bf2 := bf 2
            have bf3 := bf 3
            clear bf
            go_wp2_with fail
            obtain ⟨h7, g7⟩ := store4 HV4.out.res (.int .i64 nd.k) (.int .i64 nd.a) (.int .i64 nd.b) (.slice so nd.kids.length sc)
            generalize ((((w4.setCell ⟨w.heap.size + 2, 0, none⟩ (.int .i64 nd.k)).setCell ⟨w.heap.size + 2, 1, none⟩ (.int .i64 nd.a)).setCell ⟨w.heap.size + 2, 2, none⟩ (.int .i64 nd.b)).setCell ⟨w.heap.size + 2, 3, none⟩ (.slice so nd.kids.length sc)) = w7 at h7 g7 ⊢
            obtain ⟨f0, f1, f2⟩ := HV4.out.fin H0.out HK4.out g7
            clear b0 b1 b2 b3 bf0 bf1 bf2 bf3
            obtain ⟨n0, n1, n2, n3, -⟩ := node_cells h7
            exact bodyPost_ret (v := .agg #[.int .i64 nd.k, .int .i64 nd.a, .int .i64 nd.b, .slice so nd.kids.length sc]) (by simp [results, Tryz.results44, go_sem, n0, n1, n2, n3]) rfl
              (by rw [HEQ.out]; rw [← HND.out] at f0 ⊢; exact ⟨_, rfl, f0, f1, f2⟩)
      · have t3 : decide ((u.i : Int) < (X.T.length : Int)) = false := decide_eq_false (by omega)
        have t3n : decide (u.i < X.T.length) = false := decide_eq_false hlt
        have hk0 : X.kind u.i = 0 := by unfold TS.kind; rw [List.getElem?_eq_none (by omega)]
        have HEQ := Lib.hid (show valueS X 0 s = leafS X 1 u from by rw [HVS.out, if_neg (by unfold PS.begins isLeaf; simp [h1, h2, hk0])])
        clear hmv HVS hb
        go_enter Tryz.func44, Tryz.ntmps44
        go_wp2_with fail
        refine HMk.out.mono ?_
        rintro e w2 ⟨rfl, hr2, hg2⟩
        have HV2 := Lib.hid (HV1.out.grow hRl hr2 hg2)
        clear hr2 hg2 HMk HV1
        obtain ⟨v0, v1⟩ := HV2.out.cells
        obtain ⟨c0, c1, c2, c3, c4, fz⟩ := HV2.out.rs.cells
        go_wp2_with fail
        go_quiet (fail)
        clear h1 h2 hk0
        have HV3 := Lib.hid (HV2.out.drewN hRl nq)
        clear HV2 c0 c1 c2 c3 c4 fz v0 v1
        obtain ⟨v0, v1⟩ := HV3.out.cells
        have HC := Lib.hid (leaf_any 1 R _ tc S X u (w2.drewN nq) HV3.out.rs hT (by omega))
        go_wp2_with fail
        refine HC.out.mono ?_
        rintro e w4 ⟨vs, rfl, hk4, hr4, hg4⟩
        have hs3 := HV3.out.size
        have HV4 := Lib.hid (HV3.out.grow hRl hr4 hg4)
        have HK4 := Lib.hid (hk4.weak (C := fun b => w.heap.size + 3 ≤ b) (fun b hb _ => by omega))
        obtain ⟨so, sc, rfl⟩ := hk4.form
        clear hr4 hg4 hk4 v0 v1 hs3 HC
        obtain ⟨nd, hnd⟩ : ∃ nd, (leafS X 1 u).2 = nd := ⟨_, rfl⟩
        have HND := Lib.hid hnd
        rw [hnd] at HK4 ⊢
        clear hnd
        obtain ⟨b0, b1, b2, b3, bf⟩ := node_cells HV4.out.res
        have bf0 := bf 0
        have bf1 := bf 1
        have bf2 := bf 2
        have bf3 := bf 3
        clear bf
        go_wp2_with fail
        obtain ⟨h7, g7⟩ := store4 HV4.out.res (.int .i64 nd.k) (.int .i64 nd.a) (.int .i64 nd.b) (.slice so nd.kids.length sc)
        generalize ((((w4.setCell ⟨w.heap.size + 2, 0, none⟩ (.int .i64 nd.k)).setCell ⟨w.heap.size + 2, 1, none⟩ (.int .i64 nd.a)).setCell ⟨w.heap.size + 2, 2, none⟩ (.int .i64 nd.b)).setCell ⟨w.heap.size + 2, 3, none⟩ (.slice so nd.kids.length sc)) = w7 at h7 g7 ⊢
        obtain ⟨f0, f1, f2⟩ := HV4.out.fin H0.out HK4.out g7
        clear b0 b1 b2 b3 bf0 bf1 bf2 bf3
        obtain ⟨n0, n1, n2, n3, -⟩ := node_cells h7
        exact bodyPost_ret (v := .agg #[.int .i64 nd.k, .int .i64 nd.a, .int .i64 nd.b, .slice so nd.kids.length sc]) (by simp [results, Tryz.results44, go_sem, n0, n1, n2, n3]) rfl
          (by rw [HEQ.out]; rw [← HND.out] at f0 ⊢; exact ⟨_, rfl, f0, f1, f2⟩)
set_option maxHeartbeats 8000000 in
theorem value_succ (r : Nat) (deep : Int) (R : Nat) (ta : Option Addr) (tc : Nat) (S : ByteArray) (X : TS) (hT : X.T.length ≤ 20000) (hpos0 : ∀ j, j < X.T.length → X.pos j < X.l.length) (hr30 : r ≤ 20) (hd : 0 ≤ deep ∧ deep < 20) (hF : X.T.length + 2 ≤ X.F) (hF2 : X.F ≤ 100000) (hIV : ValOk R ta tc S X (deep + 1) (valueS X r)) (hIE : EntOk R ta tc S X (deep + 1) (entryS X (valueS X r))) :
    ValOk R ta tc S X deep (valueS X (r + 1)) := by
  intro s w h hb0 hi
  have hRl := h.lt
  have H0 := Lib.hid h
  obtain ⟨u, hu⟩ : ∃ u, s.skip X = u := ⟨_, rfl⟩
  obtain ⟨mv, hmv⟩ : ∃ mv : Int, ((u.mark X).toNat : Int) = mv := ⟨_, rfl⟩
  have hui : u.i ≤ X.T.length := by rw [← hu]; exact (skip_fine X _).2.1 hi
  have hb : u.bad = 0 := by rw [← hu]; exact hb0
  have HV1 := Lib.hid (VR.start (deep := deep) h)
  have HMk := Lib.hid (mark_of u mv R ta tc S X s _ HV1.out.rs hT (by omega) hpos0 hu hmv)
  have hpos := Lib.hid hpos0
  obtain ⟨hd0, hd1⟩ := hd
  have td : decide (20 ≤ deep) = false := decide_eq_false (by omega)
  have HIV := Lib.hid hIV
  have HIE := Lib.hid hIE
  clear hIV hIE
  have hvs : valueS X (r + 1) s = (if u.mark X = 123 then manyN X 3 125 (entryS X (valueS X r)) u else if u.mark X = 91 then manyN X 5 93 (valueS X r) u else leafS X 1 u) := by rw [← hu]; rfl
  have HVS := Lib.hid hvs

  clear h hu hpos0 hb0 hvs
  by_cases h1 : u.mark X = 123
  · have e1 : mv = 123 := by rw [← hmv, h1]; rfl
    have t1 : (mv == 123) = true := by rw [e1]; rfl
    have hlt := mark_lt h1 (by decide)
    have HEQ := Lib.hid (show valueS X (r + 1) s = manyN X 3 125 (entryS X (valueS X r)) u from by rw [HVS.out, if_pos h1])
    clear hmv HVS
    go_enter Tryz.func44, Tryz.ntmps44
    go_wp2_with fail
    refine HMk.out.mono ?_
    rintro e w2 ⟨rfl, hr2, hg2⟩
    have HV2 := Lib.hid (HV1.out.grow hRl hr2 hg2)
    clear hr2 hg2 HMk HV1
    obtain ⟨v0, v1⟩ := HV2.out.cells
    obtain ⟨c0, c1, c2, c3, c4, fz⟩ := HV2.out.rs.cells
    go_wp2_with fail
    go_quiet (fail)
    clear h1 e1
    have HV3 := Lib.hid (HV2.out.drewN hRl nq)
    clear HV2 c0 c1 c2 c3 c4 fz v0 v1
    obtain ⟨v0, v1⟩ := HV3.out.cells
    have HC := Lib.hid (many_entry ⟨w.heap.size, 0, none⟩ ⟨w.heap.size + 1, 0, none⟩ 3 125 (by decide) (by decide) _ (entryS X (valueS X r)) R ta tc S X (entry_fine (value_fine X r)) (by omega) u (w2.drewN nq) HV3.out.rs hT hF hF2 hlt hb hpos.out (clos_entry _ _ deep _ R ta tc S X _ HV3.out.bp HV3.out.bd (by omega) (by omega) hd0 (by omega) HIE.out))
    go_wp2_with fail
    refine HC.out.mono ?_
    rintro e w4 ⟨vs, rfl, hk4, hr4, hg4⟩
    have hs3 := HV3.out.size
    have HV4 := Lib.hid (HV3.out.grow hRl hr4 hg4)
    have HK4 := Lib.hid (hk4.weak (C := fun b => w.heap.size + 3 ≤ b) (fun b hb _ => by omega))
    obtain ⟨so, sc, rfl⟩ := hk4.form
    clear hr4 hg4 hk4 v0 v1 hs3 HC
    obtain ⟨nd, hnd⟩ : ∃ nd, (manyN X 3 125 (entryS X (valueS X r)) u).2 = nd := ⟨_, rfl⟩
    have HND := Lib.hid hnd
    rw [hnd] at HK4 ⊢
    clear hnd
    obtain ⟨b0, b1, b2, b3, bf⟩ := node_cells HV4.out.res
    have bf0 := bf 0
    have bf1 := bf 1
    have bf2 := bf 2
    have bf3 := bf 3
    clear bf
    go_wp2_with fail
    obtain ⟨h7, g7⟩ := store4 HV4.out.res (.int .i64 nd.k) (.int .i64 nd.a) (.int .i64 nd.b) (.slice so nd.kids.length sc)
    generalize ((((w4.setCell ⟨w.heap.size + 2, 0, none⟩ (.int .i64 nd.k)).setCell ⟨w.heap.size + 2, 1, none⟩ (.int .i64 nd.a)).setCell ⟨w.heap.size + 2, 2, none⟩ (.int .i64 nd.b)).setCell ⟨w.heap.size + 2, 3, none⟩ (.slice so nd.kids.length sc)) = w7 at h7 g7 ⊢
    obtain ⟨f0, f1, f2⟩ := HV4.out.fin H0.out HK4.out g7
    clear b0 b1 b2 b3 bf0 bf1 bf2 bf3
    obtain ⟨n0, n1, n2, n3, -⟩ := node_cells h7
    exact bodyPost_ret (v := .agg #[.int .i64 nd.k, .int .i64 nd.a, .int .i64 nd.b, .slice so nd.kids.length sc]) (by simp [results, Tryz.results44, go_sem, n0, n1, n2, n3]) rfl
      (by rw [HEQ.out]; rw [← HND.out] at f0 ⊢; exact ⟨_, rfl, f0, f1, f2⟩)
  · have n1 : ¬ mv = 123 := fun e => h1 (UInt8.toNat_inj.1 (by have h2 := hmv.trans e; exact_mod_cast h2))
    have t1 : (mv == 123) = false := by simpa using n1
    by_cases h2 : u.mark X = 91
    · have e1 : mv = 91 := by rw [← hmv, h2]; rfl
      have t2 : (mv == 91) = true := by rw [e1]; rfl
      have hlt := mark_lt h2 (by decide)
      clear n1
      have HEQ := Lib.hid (show valueS X (r + 1) s = manyN X 5 93 (valueS X r) u from by rw [HVS.out, if_neg h1, if_pos h2])
      clear hmv HVS
      go_enter Tryz.func44, Tryz.ntmps44
      go_wp2_with fail
      refine HMk.out.mono ?_
      rintro e w2 ⟨rfl, hr2, hg2⟩
      have HV2 := Lib.hid (HV1.out.grow hRl hr2 hg2)
      clear hr2 hg2 HMk HV1
      obtain ⟨v0, v1⟩ := HV2.out.cells
      obtain ⟨c0, c1, c2, c3, c4, fz⟩ := HV2.out.rs.cells
      go_wp2_with fail
      go_quiet (fail)
      clear h1 h2 e1
      have HV3 := Lib.hid (HV2.out.drewN hRl nq)
      clear HV2 c0 c1 c2 c3 c4 fz v0 v1
      obtain ⟨v0, v1⟩ := HV3.out.cells
      have HC := Lib.hid (many_value ⟨w.heap.size, 0, none⟩ ⟨w.heap.size + 1, 0, none⟩ 5 93 (by decide) (by decide) _ (valueS X r) R ta tc S X (value_fine X r) (by omega) u (w2.drewN nq) HV3.out.rs hT hF hF2 hlt hb hpos.out (clos_value _ _ deep _ R ta tc S X _ HV3.out.bp HV3.out.bd (by omega) (by omega) hd0 (by omega) HIV.out))
      go_wp2_with fail
      refine HC.out.mono ?_
      rintro e w4 ⟨vs, rfl, hk4, hr4, hg4⟩
      have hs3 := HV3.out.size
      have HV4 := Lib.hid (HV3.out.grow hRl hr4 hg4)
      have HK4 := Lib.hid (hk4.weak (C := fun b => w.heap.size + 3 ≤ b) (fun b hb _ => by omega))
      obtain ⟨so, sc, rfl⟩ := hk4.form
      clear hr4 hg4 hk4 v0 v1 hs3 HC
      obtain ⟨nd, hnd⟩ : ∃ nd, (manyN X 5 93 (valueS X r) u).2 = nd := ⟨_, rfl⟩
      have HND := Lib.hid hnd
      rw [hnd] at HK4 ⊢
      clear hnd
      obtain ⟨b0, b1, b2, b3, bf⟩ := node_cells HV4.out.res
      have bf0 := bf 0
      have bf1 := bf 1
      have bf2 := bf 2
      have bf3 := bf 3
      clear bf
      go_wp2_with fail
      obtain ⟨h7, g7⟩ := store4 HV4.out.res (.int .i64 nd.k) (.int .i64 nd.a) (.int .i64 nd.b) (.slice so nd.kids.length sc)
      generalize ((((w4.setCell ⟨w.heap.size + 2, 0, none⟩ (.int .i64 nd.k)).setCell ⟨w.heap.size + 2, 1, none⟩ (.int .i64 nd.a)).setCell ⟨w.heap.size + 2, 2, none⟩ (.int .i64 nd.b)).setCell ⟨w.heap.size + 2, 3, none⟩ (.slice so nd.kids.length sc)) = w7 at h7 g7 ⊢
      obtain ⟨f0, f1, f2⟩ := HV4.out.fin H0.out HK4.out g7
      clear b0 b1 b2 b3 bf0 bf1 bf2 bf3
      obtain ⟨n0, n1, n2, n3, -⟩ := node_cells h7
      exact bodyPost_ret (v := .agg #[.int .i64 nd.k, .int .i64 nd.a, .int .i64 nd.b, .slice so nd.kids.length sc]) (by simp [results, Tryz.results44, go_sem, n0, n1, n2, n3]) rfl
        (by rw [HEQ.out]; rw [← HND.out] at f0 ⊢; exact ⟨_, rfl, f0, f1, f2⟩)
    · have n2 : ¬ mv = 91 := fun e => h2 (UInt8.toNat_inj.1 (by have h3 := hmv.trans e; exact_mod_cast h3))
      have t2 : (mv == 91) = false := by simpa using n2
      clear n1 n2
      by_cases hlt : u.i < X.T.length
      · have t3 : decide ((u.i : Int) < (X.T.length : Int)) = true := decide_eq_true (by omega)
        have t3n : decide (u.i < X.T.length) = true := decide_eq_true hlt
        have hi1 : (0 : Int) ≤ (u.i : Int) := by omega
        have hi2 : (u.i : Int) < (X.T.length : Int) := by omega
        have hkn : (u.i : Int).toNat = u.i := rfl
        by_cases hk4 : X.kind u.i = 4
        · have hkk := hk4
          have HEQ := Lib.hid (show valueS X (r + 1) s = leafS X 1 u from by rw [HVS.out, if_neg h1, if_neg h2])
          clear hmv HVS hb
          go_enter Tryz.func44, Tryz.ntmps44
          go_wp2_with fail
          refine HMk.out.mono ?_
          rintro e w2 ⟨rfl, hr2, hg2⟩
          have HV2 := Lib.hid (HV1.out.grow hRl hr2 hg2)
          clear hr2 hg2 HMk HV1
          obtain ⟨v0, v1⟩ := HV2.out.cells
          obtain ⟨c0, c1, c2, c3, c4, fz⟩ := HV2.out.rs.cells
          obtain ⟨tb, rfl, d0, d1⟩ := HV2.out.rs.tok3 u.i hlt
          rw [hkk] at d0
          clear hkk d1
          go_wp2_with fail
          go_quiet (fail)
          clear h1 h2 hk4
          have HV3 := Lib.hid (HV2.out.drewN hRl nq)
          clear HV2 c0 c1 c2 c3 c4 fz v0 v1
          obtain ⟨v0, v1⟩ := HV3.out.cells
          have HC := Lib.hid (leaf_any 1 R _ tc S X u (w2.drewN nq) HV3.out.rs hT (by omega))
          go_wp2_with fail
          refine HC.out.mono ?_
          rintro e w4 ⟨vs, rfl, hk4, hr4, hg4⟩
          have hs3 := HV3.out.size
          have HV4 := Lib.hid (HV3.out.grow hRl hr4 hg4)
          have HK4 := Lib.hid (hk4.weak (C := fun b => w.heap.size + 3 ≤ b) (fun b hb _ => by omega))
          obtain ⟨so, sc, rfl⟩ := hk4.form
          clear hr4 hg4 hk4 v0 v1 hs3 HC
          obtain ⟨nd, hnd⟩ : ∃ nd, (leafS X 1 u).2 = nd := ⟨_, rfl⟩
          have HND := Lib.hid hnd
          rw [hnd] at HK4 ⊢
          clear hnd
          obtain ⟨b0, b1, b2, b3, bf⟩ := node_cells HV4.out.res
          have bf0 := bf 0
          have bf1 := bf 1
          have bf2 := bf 2
          have bf3 := bf 3
          clear bf
          go_wp2_with fail
          obtain ⟨h7, g7⟩ := store4 HV4.out.res (.int .i64 nd.k) (.int .i64 nd.a) (.int .i64 nd.b) (.slice so nd.kids.length sc)
          generalize ((((w4.setCell ⟨w.heap.size + 2, 0, none⟩ (.int .i64 nd.k)).setCell ⟨w.heap.size + 2, 1, none⟩ (.int .i64 nd.a)).setCell ⟨w.heap.size + 2, 2, none⟩ (.int .i64 nd.b)).setCell ⟨w.heap.size + 2, 3, none⟩ (.slice so nd.kids.length sc)) = w7 at h7 g7 ⊢
          obtain ⟨f0, f1, f2⟩ := HV4.out.fin H0.out HK4.out g7
          clear b0 b1 b2 b3 bf0 bf1 bf2 bf3
          obtain ⟨n0, n1, n2, n3, -⟩ := node_cells h7
          exact bodyPost_ret (v := .agg #[.int .i64 nd.k, .int .i64 nd.a, .int .i64 nd.b, .slice so nd.kids.length sc]) (by simp [results, Tryz.results44, go_sem, n0, n1, n2, n3]) rfl
            (by rw [HEQ.out]; rw [← HND.out] at f0 ⊢; exact ⟨_, rfl, f0, f1, f2⟩)
        · by_cases hk5 : X.kind u.i = 5
          · have hkk := hk5
            have HEQ := Lib.hid (show valueS X (r + 1) s = leafS X 1 u from by rw [HVS.out, if_neg h1, if_neg h2])
            clear hmv HVS hb
            go_enter Tryz.func44, Tryz.ntmps44
            go_wp2_with fail
            refine HMk.out.mono ?_
            rintro e w2 ⟨rfl, hr2, hg2⟩
            have HV2 := Lib.hid (HV1.out.grow hRl hr2 hg2)
            clear hr2 hg2 HMk HV1
            obtain ⟨v0, v1⟩ := HV2.out.cells
            obtain ⟨c0, c1, c2, c3, c4, fz⟩ := HV2.out.rs.cells
            obtain ⟨tb, rfl, d0, d1⟩ := HV2.out.rs.tok3 u.i hlt
            rw [hkk] at d0
            clear hkk d1
            go_wp2_with fail
            go_quiet (fail)
            clear h1 h2 hk4 hk5
            have HV3 := Lib.hid (HV2.out.drewN hRl nq)
            clear HV2 c0 c1 c2 c3 c4 fz v0 v1
            obtain ⟨v0, v1⟩ := HV3.out.cells
            have HC := Lib.hid (leaf_any 1 R _ tc S X u (w2.drewN nq) HV3.out.rs hT (by omega))
            go_wp2_with fail
            refine HC.out.mono ?_
            rintro e w4 ⟨vs, rfl, hk4, hr4, hg4⟩
            have hs3 := HV3.out.size
            have HV4 := Lib.hid (HV3.out.grow hRl hr4 hg4)
            have HK4 := Lib.hid (hk4.weak (C := fun b => w.heap.size + 3 ≤ b) (fun b hb _ => by omega))
            obtain ⟨so, sc, rfl⟩ := hk4.form
            clear hr4 hg4 hk4 v0 v1 hs3 HC
            obtain ⟨nd, hnd⟩ : ∃ nd, (leafS X 1 u).2 = nd := ⟨_, rfl⟩
            have HND := Lib.hid hnd
            rw [hnd] at HK4 ⊢
            clear hnd
            obtain ⟨b0, b1, b2, b3, bf⟩ := node_cells HV4.out.res
            have bf0 := bf 0
            have bf1 := bf 1
            have bf2 := bf 2
            have bf3 := bf 3
            clear bf
            go_wp2_with fail
            obtain ⟨h7, g7⟩ := store4 HV4.out.res (.int .i64 nd.k) (.int .i64 nd.a) (.int .i64 nd.b) (.slice so nd.kids.length sc)
            generalize ((((w4.setCell ⟨w.heap.size + 2, 0, none⟩ (.int .i64 nd.k)).setCell ⟨w.heap.size + 2, 1, none⟩ (.int .i64 nd.a)).setCell ⟨w.heap.size + 2, 2, none⟩ (.int .i64 nd.b)).setCell ⟨w.heap.size + 2, 3, none⟩ (.slice so nd.kids.length sc)) = w7 at h7 g7 ⊢
            obtain ⟨f0, f1, f2⟩ := HV4.out.fin H0.out HK4.out g7
            clear b0 b1 b2 b3 bf0 bf1 bf2 bf3
            obtain ⟨n0, n1, n2, n3, -⟩ := node_cells h7
            exact bodyPost_ret (v := .agg #[.int .i64 nd.k, .int .i64 nd.a, .int .i64 nd.b, .slice so nd.kids.length sc]) (by simp [results, Tryz.results44, go_sem, n0, n1, n2, n3]) rfl
              (by rw [HEQ.out]; rw [← HND.out] at f0 ⊢; exact ⟨_, rfl, f0, f1, f2⟩)
          · obtain ⟨kk, hkk⟩ : ∃ kk, X.kind u.i = kk := ⟨_, rfl⟩
            have t4 : (kk == 4) = false := by rw [← hkk]; simpa using hk4
            have t5 : (kk == 5) = false := by rw [← hkk]; simpa using hk5
            have HEQ := Lib.hid (show valueS X (r + 1) s = leafS X 1 u from by rw [HVS.out, if_neg h1, if_neg h2])
            clear hmv HVS hb
            go_enter Tryz.func44, Tryz.ntmps44
            go_wp2_with fail
            refine HMk.out.mono ?_
            rintro e w2 ⟨rfl, hr2, hg2⟩
            have HV2 := Lib.hid (HV1.out.grow hRl hr2 hg2)
            clear hr2 hg2 HMk HV1
            obtain ⟨v0, v1⟩ := HV2.out.cells
            obtain ⟨c0, c1, c2, c3, c4, fz⟩ := HV2.out.rs.cells
            obtain ⟨tb, rfl, d0, d1⟩ := HV2.out.rs.tok3 u.i hlt
            rw [hkk] at d0
            clear hkk d1
            go_wp2_with fail
            go_quiet (fail)
            clear h1 h2 hk4 hk5
            have HV3 := Lib.hid (HV2.out.drewN hRl nq)
            clear HV2 c0 c1 c2 c3 c4 fz v0 v1
            obtain ⟨v0, v1⟩ := HV3.out.cells
            have HC := Lib.hid (leaf_any 1 R _ tc S X u (w2.drewN nq) HV3.out.rs hT (by omega))
            go_wp2_with fail
            refine HC.out.mono ?_
            rintro e w4 ⟨vs, rfl, hk4, hr4, hg4⟩
            have hs3 := HV3.out.size
            have HV4 := Lib.hid (HV3.out.grow hRl hr4 hg4)
            have HK4 := Lib.hid (hk4.weak (C := fun b => w.heap.size + 3 ≤ b) (fun b hb _ => by omega))
            obtain ⟨so, sc, rfl⟩ := hk4.form
            clear hr4 hg4 hk4 v0 v1 hs3 HC
            obtain ⟨nd, hnd⟩ : ∃ nd, (leafS X 1 u).2 = nd := ⟨_, rfl⟩
            have HND := Lib.hid hnd
            rw [hnd] at HK4 ⊢
            clear hnd
            obtain ⟨b0, b1, b2, b3, bf⟩ := node_cells HV4.out.res
            have bf0 := bf 0
            have bf1 := bf 1
            have bf2 := bf 2
            have bf3 := bf 3
            clear bf
            go_wp2_with fail
            obtain ⟨h7, g7⟩ := store4 HV4.out.res (.int .i64 nd.k) (.int .i64 nd.a) (.int .i64 nd.b) (.slice so nd.kids.length sc)
            generalize ((((w4.setCell ⟨w.heap.size + 2, 0, none⟩ (.int .i64 nd.k)).setCell ⟨w.heap.size + 2, 1, none⟩ (.int .i64 nd.a)).setCell ⟨w.heap.size + 2, 2, none⟩ (.int .i64 nd.b)).setCell ⟨w.heap.size + 2, 3, none⟩ (.slice so nd.kids.length sc)) = w7 at h7 g7 ⊢
            obtain ⟨f0, f1, f2⟩ := HV4.out.fin H0.out HK4.out g7
            clear b0 b1 b2 b3 bf0 bf1 bf2 bf3
            obtain ⟨n0, n1, n2, n3, -⟩ := node_cells h7
            exact bodyPost_ret (v := .agg #[.int .i64 nd.k, .int .i64 nd.a, .int .i64 nd.b, .slice so nd.kids.length sc]) (by simp [results, Tryz.results44, go_sem, n0, n1, n2, n3]) rfl
              (by rw [HEQ.out]; rw [← HND.out] at f0 ⊢; exact ⟨_, rfl, f0, f1, f2⟩)
      · have t3 : decide ((u.i : Int) < (X.T.length : Int)) = false := decide_eq_false (by omega)
        have t3n : decide (u.i < X.T.length) = false := decide_eq_false hlt
        have hk0 : X.kind u.i = 0 := by unfold TS.kind; rw [List.getElem?_eq_none (by omega)]
        have HEQ := Lib.hid (show valueS X (r + 1) s = leafS X 1 u from by rw [HVS.out, if_neg h1, if_neg h2])
        clear hmv HVS hb
        go_enter Tryz.func44, Tryz.ntmps44
        go_wp2_with fail
        refine HMk.out.mono ?_
        rintro e w2 ⟨rfl, hr2, hg2⟩
        have HV2 := Lib.hid (HV1.out.grow hRl hr2 hg2)
        clear hr2 hg2 HMk HV1
        obtain ⟨v0, v1⟩ := HV2.out.cells
        obtain ⟨c0, c1, c2, c3, c4, fz⟩ := HV2.out.rs.cells
        go_wp2_with fail
        go_quiet (fail)
        clear h1 h2 hk0
        have HV3 := Lib.hid (HV2.out.drewN hRl nq)
        clear HV2 c0 c1 c2 c3 c4 fz v0 v1
        obtain ⟨v0, v1⟩ := HV3.out.cells
        have HC := Lib.hid (leaf_any 1 R _ tc S X u (w2.drewN nq) HV3.out.rs hT (by omega))
        go_wp2_with fail
        refine HC.out.mono ?_
        rintro e w4 ⟨vs, rfl, hk4, hr4, hg4⟩
        have hs3 := HV3.out.size
        have HV4 := Lib.hid (HV3.out.grow hRl hr4 hg4)
        have HK4 := Lib.hid (hk4.weak (C := fun b => w.heap.size + 3 ≤ b) (fun b hb _ => by omega))
        obtain ⟨so, sc, rfl⟩ := hk4.form
        clear hr4 hg4 hk4 v0 v1 hs3 HC
        obtain ⟨nd, hnd⟩ : ∃ nd, (leafS X 1 u).2 = nd := ⟨_, rfl⟩
        have HND := Lib.hid hnd
        rw [hnd] at HK4 ⊢
        clear hnd
        obtain ⟨b0, b1, b2, b3, bf⟩ := node_cells HV4.out.res
        have bf0 := bf 0
        have bf1 := bf 1
        have bf2 := bf 2
        have bf3 := bf 3
        clear bf
        go_wp2_with fail
        obtain ⟨h7, g7⟩ := store4 HV4.out.res (.int .i64 nd.k) (.int .i64 nd.a) (.int .i64 nd.b) (.slice so nd.kids.length sc)
        generalize ((((w4.setCell ⟨w.heap.size + 2, 0, none⟩ (.int .i64 nd.k)).setCell ⟨w.heap.size + 2, 1, none⟩ (.int .i64 nd.a)).setCell ⟨w.heap.size + 2, 2, none⟩ (.int .i64 nd.b)).setCell ⟨w.heap.size + 2, 3, none⟩ (.slice so nd.kids.length sc)) = w7 at h7 g7 ⊢
        obtain ⟨f0, f1, f2⟩ := HV4.out.fin H0.out HK4.out g7
        clear b0 b1 b2 b3 bf0 bf1 bf2 bf3
        obtain ⟨n0, n1, n2, n3, -⟩ := node_cells h7
        exact bodyPost_ret (v := .agg #[.int .i64 nd.k, .int .i64 nd.a, .int .i64 nd.b, .slice so nd.kids.length sc]) (by simp [results, Tryz.results44, go_sem, n0, n1, n2, n3]) rfl
          (by rw [HEQ.out]; rw [← HND.out] at f0 ⊢; exact ⟨_, rfl, f0, f1, f2⟩)
theorem value_any (R : Nat) (ta : Option Addr) (tc : Nat) (S : ByteArray) (X : TS) (hT : X.T.length ≤ 20000) (hpos : ∀ j, j < X.T.length → X.pos j < X.l.length) (hF : X.T.length + 2 ≤ X.F) (hF2 : X.F ≤ 100000) : ∀ (r : Nat) (deep : Int), deep + r = 20 → r ≤ 20 → ValOk R ta tc S X deep (valueS X r)
  | 0, deep, h, _ => value_zero 0 deep R ta tc S X hT hpos (by omega) (by omega)
  | r + 1, deep, h, hr => by
    have ih := value_any R ta tc S X hT hpos hF hF2 r (deep + 1) (by omega) (by omega)
    exact value_succ r deep R ta tc S X hT hpos (by omega) (by omega) hF hF2 ih (fun s w h hb hi => entry_any (deep + 1) _ R ta tc S X ih s w h hT hb hi hpos)
end Go.Proofs.YtldhmfkojaekfaaGreatDoor
namespace Go.Proofs.YtldhmfkojaekfaaGreatDoor
/-- not past token j; or failed, but not at token i -/
def Short (X : TS) (i j : Nat) (s : PS) : Prop := (s.bad = 0 ∧ s.i ≤ j) ∨ (s.bad ≠ 0 ∧ s.wh ≠ X.pos i)
/-- token j is none, and lies ahead of token i -/
structure BadAt (X : TS) (i j : Nat) : Prop where
  row : Row X i
  lt : j < i
  bad : X.kind j = 7
variable {X : TS} {i j : Nat}
def Keeps (X : TS) (i j : Nat) (f : PS → PS) : Prop := ∀ s, Short X i j s → Short X i j (f s)
end Go.Proofs.YtldhmfkojaekfaaGreatDoor
namespace Go.Proofs.YtldhmfkojaekfaaGreatDoor
/-- the tokens of a text, for the reader -/
def treeOf (l : List UInt8) (F : Nat) : TS := ⟨l, toksFrom l 0, F⟩
end Go.Proofs.YtldhmfkojaekfaaGreatDoor
namespace Go.Proofs.YtldhmfkojaekfaaGreatDoor
open Go.RowKit Gx
theorem TokAt.of_own {w : World} {g n b : Nat} {vo : Option Addr} {vc : Nat} {l : List Tok} (h : w.ownsRow b 40 3 (.slice vo n vc) n (tokCells l)) (hn : l.length = n) : TokAt w vo l := by
  by_cases h0 : n = 0
  · exact .inl (List.eq_nil_of_length_eq_zero (by omega))
  · obtain ⟨g, gc, he, hg⟩ : ∃ g gc, Value.slice vo n vc = .slice (some ⟨g, 0, none⟩) n gc ∧ g < w.heap.size := by
      rcases h.2 with ⟨h1, h2⟩ | ⟨g, cap, cur, h1, h2, h3, _⟩
      · omega
      · exact ⟨g, cap, h1, (Array.getElem?_eq_some_iff.1 h3).1⟩
    obtain ⟨rfl, rfl⟩ : vo = some ⟨g, 0, none⟩ ∧ vc = gc := by simpa using he
    refine .inr ⟨g, rfl, hg, fun k v hv => ?_⟩
    have hk : k < n * 3 := by
      have h1 := tokCells_len l
      have h2 := (List.getElem?_eq_some_iff.1 hv).1
      omega
    rw [h.cellAt k hk]; exact hv

theorem tokCells_take (l : List Tok) (k j : Nat) (h : j < k * 3) : (tokCells (l.take k))[j]? = (tokCells l)[j]? ∨ l.length * 3 ≤ j := by
  by_cases hj : l.length * 3 ≤ j
  · exact .inr hj
  · refine .inl ?_
    have h1 : tokCells l = tokCells (l.take k) ++ tokCells (l.drop k) := by
      conv => lhs; rw [← List.take_append_drop k l]
      simp only [tokCells, List.flatMap_append]
    rw [h1, List.getElem?_append_left]
    rw [tokCells_len, List.length_take]; omega

theorem TokAt.take {w : World} {ad : Option Addr} {l : List Tok} (h : TokAt w ad l) (k : Nat) : TokAt w ad (l.take k) := by
  rcases h with rfl | ⟨b, h1, h2, h3⟩
  · exact .inl (by simp)
  · refine .inr ⟨b, h1, h2, fun j v hv => h3 j v ?_⟩
    have h4 := (List.getElem?_eq_some_iff.1 hv).1
    rw [tokCells_len, List.length_take] at h4
    rcases tokCells_take l k j (by omega) with h5 | h5
    · rw [← h5]; exact hv
    · omega

end Go.Proofs.YtldhmfkojaekfaaGreatDoor
