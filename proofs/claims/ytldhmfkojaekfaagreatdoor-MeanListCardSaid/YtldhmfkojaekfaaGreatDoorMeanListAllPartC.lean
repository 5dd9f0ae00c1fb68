/-
  The contract of val.Compare. No conditions.
  Numbers of values that lie in memory. No conditions.
  Compare answers nought just for the same value, plainly. No conditions.
  Plain law: what a text means hangs on its solid tokens alone; blanks, lines and notes between two tokens mean nothing. No conditions.
  The contract of typecasekeep.same; what Mean says is said once. No conditions.
  Plain law: the grammar tells one value; more tokens behind, and more fuel, change nothing. No conditions.
  Plain law of MeanList: a list of two documents means the list of what they mean, a table of them has them at their keys; and if those are too great, neither means anything. No conditions.
  A row of two values, and of two entries, as they were built. No conditions.
-/
import Derived.Test.YtldhmfkojaekfaaGreatDoorMeanListAllPartB
set_option linter.unusedVariables false
set_option linter.unusedSimpArgs false
namespace Go.Proofs.YtldhmfkojaekfaaGreatDoor
open Go.RowKit Gx
set_option maxRecDepth 100000
def cmpEn (f : V → V → Int) (x y : ByteArray × V) : Int := orL [sgnB x.1 y.1, f x.2 y.2]
def cmpD : Nat → V → V → Int
  | 0, _, _ => 0
  | n + 1, v, u => orL [sgn v.k u.k, sgn v.n u.n, sgn (fbits v.f) (fbits u.f), sgnB v.s u.s, cmpL (cmpD n) v.l u.l, cmpL (cmpEn (cmpD n)) v.e u.e]

/-- two boxes of entries -/
structure TwoE (w : World) (x y : ByteArray) (q p : Loc) (W : World) : Prop where
  a : SevAt W w.heap.size x q
  b : SevAt W (w.heap.size + 1) y p
  g : Below w.heap.size w W
  s : w.heap.size + 2 ≤ W.heap.size
theorem TwoE.start (x y : ByteArray) (q p : Loc) (w : World) : TwoE w x y q p ((w.alloc (.cells #[.string x, .int .i64 q.v.k, .int .i64 q.v.n, .int .u64 q.v.f, .string q.v.s, .slice q.ad q.v.l.length q.cap, .slice q.bd q.v.e.length q.dap] 44)).alloc
    (.cells #[.string y, .int .i64 p.v.k, .int .i64 p.v.n, .int .u64 p.v.f, .string p.v.s, .slice p.ad p.v.l.length p.cap, .slice p.bd p.v.e.length p.dap] 44)) := by
  refine ⟨?_, ?_, ((Below.refl _ w).alloc (Nat.le_refl _) _).alloc (by simp) _, by simp⟩
  · refine SevAt.box (ty := 44) ?_
    rw [Below.heap_alloc _ _ _ (by simp)]
    exact heap_alloc_new w _
  · refine SevAt.box (ty := 44) ?_
    have := heap_alloc_new (w.alloc (.cells #[.string x, .int .i64 q.v.k, .int .i64 q.v.n, .int .u64 q.v.f, .string q.v.s, .slice q.ad q.v.l.length q.cap, .slice q.bd q.v.e.length q.dap] 44)) (.cells #[.string y, .int .i64 p.v.k, .int .i64 p.v.n, .int .u64 p.v.f, .string p.v.s, .slice p.ad p.v.l.length p.cap, .slice p.bd p.v.e.length p.dap] 44)
    rwa [World.size_alloc] at this
theorem TwoE.keep {w : World} {x y : ByteArray} {q p : Loc} {W W' : World} (h : TwoE w x y q p W) (hb : Below W.heap.size W W') : TwoE w x y q p W' := by
  have hs := h.s
  exact ⟨h.a.through (hb.block _ (by omega)), h.b.through (hb.block _ (by omega)), h.g.trans (hb.mono h.g.size), by have := hb.size; omega⟩
theorem ints_at (W : World) (zs : List Int) (ty : TypeId) : ∀ k x, zs[k]? = some x → (W.alloc (.cells (zs.map (Value.int .i64)).toArray ty)).cell? ⟨W.heap.size, k, none⟩ = some (.int .i64 x) := fun k x h => by
  have := World.cell?_alloc_mark W (zs.map (Value.int .i64)).toArray ty (0, 0) k
  rw [this]; simpa using h

/-- what the entries' comparison lays, told one by one -/
def SevTwo (w : World) (a b : Nat) (x y : ByteArray) (q p : Loc) : Prop :=
  w.cell? ⟨a, 0, none⟩ = some (.string x) ∧ w.cell? ⟨a, 1, none⟩ = some (.int .i64 q.v.k) ∧ w.cell? ⟨a, 2, none⟩ = some (.int .i64 q.v.n) ∧ w.cell? ⟨a, 3, none⟩ = some (.int .u64 q.v.f) ∧ w.cell? ⟨a, 4, none⟩ = some (.string q.v.s) ∧ w.cell? ⟨a, 5, none⟩ = some (.slice q.ad q.v.l.length q.cap) ∧ w.cell? ⟨a, 6, none⟩ = some (.slice q.bd q.v.e.length q.dap) ∧ w.cell? ⟨b, 0, none⟩ = some (.string y) ∧ w.cell? ⟨b, 1, none⟩ = some (.int .i64 p.v.k) ∧ w.cell? ⟨b, 2, none⟩ = some (.int .i64 p.v.n) ∧ w.cell? ⟨b, 3, none⟩ = some (.int .u64 p.v.f) ∧ w.cell? ⟨b, 4, none⟩ = some (.string p.v.s) ∧ w.cell? ⟨b, 5, none⟩ = some (.slice p.ad p.v.l.length p.cap) ∧ w.cell? ⟨b, 6, none⟩ = some (.slice p.bd p.v.e.length p.dap)
theorem TwoE.cells {w : World} {x y : ByteArray} {q p : Loc} {W : World} (h : TwoE w x y q p W) : SevTwo W w.heap.size (w.heap.size + 1) x y q p :=
  ⟨h.a.k, h.a.c0, h.a.c1, h.a.c2, h.a.c3, h.a.c4, h.a.c5, h.b.k, h.b.c0, h.b.c1, h.b.c2, h.b.c3, h.b.c4, h.b.c5⟩

set_option maxHeartbeats 8000000 in
theorem cmpEnt_any (x y : ByteArray) (q p : Loc) (r : Int) (w : World) (hq : VAt w (fun _ => True) q) (hp : VAt w (fun _ => True) p)
    (ih : ∀ W, Below w.heap.size w W → Calls Tryz.prog 23 #[.agg #[.int .i64 q.v.k, .int .i64 q.v.n, .int .u64 q.v.f, .string q.v.s, .slice q.ad q.v.l.length q.cap, .slice q.bd q.v.e.length q.dap], .agg #[.int .i64 p.v.k, .int .i64 p.v.n, .int .u64 p.v.f, .string p.v.s, .slice p.ad p.v.l.length p.cap, .slice p.bd p.v.e.length p.dap]] W (IntPost r W)) :
    Calls Tryz.prog 43 #[.agg #[.string x, .int .i64 q.v.k, .int .i64 q.v.n, .int .u64 q.v.f, .string q.v.s, .slice q.ad q.v.l.length q.cap, .slice q.bd q.v.e.length q.dap], .agg #[.string y, .int .i64 p.v.k, .int .i64 p.v.n, .int .u64 p.v.f, .string p.v.s, .slice p.ad p.v.l.length p.cap, .slice p.bd p.v.e.length p.dap]] w (IntPost (orL [sgnB x y, r]) w) := by
  have HT := Lib.hid (TwoE.start x y q p w)
  have IH := Lib.hid ih
  clear hq hp ih
  go_enter Tryz.func43, Tryz.ntmps43
  go_upto_region 1 with fail
  generalize hw2 : World.alloc (World.alloc w _) _ = w2 at HT ⊢
  clear hw2
  have HTd := Lib.hid (HT.out.keep (Gx.drewN_below w2 1 _))
  have hk2 : SevTwo w2.drew w.heap.size (w.heap.size + 1) x y q p := HTd.out.cells
  unfold SevTwo at hk2
  obtain ⟨s1, hs1⟩ : ∃ s1, sgnB x y = s1 := ⟨_, rfl⟩
  have HS1 := Lib.hid hs1
  clear hs1
  have hst : ∀ W, Calls Tryz.prog 40 #[.string x, .string y] W (CmpPost s1 W) := fun W => by have := cmpStr_any x y W; rwa [HS1.out] at this
  have HST := Lib.hid hst
  clear hst
  go_region_held3 (fun w' => w'.cell? ⟨w.heap.size, 0, none⟩ = some (.string x) ∧ w'.cell? ⟨w.heap.size, 1, none⟩ = some (.int .i64 q.v.k) ∧ w'.cell? ⟨w.heap.size, 2, none⟩ = some (.int .i64 q.v.n) ∧ w'.cell? ⟨w.heap.size, 3, none⟩ = some (.int .u64 q.v.f) ∧ w'.cell? ⟨w.heap.size, 4, none⟩ = some (.string q.v.s) ∧ w'.cell? ⟨w.heap.size, 5, none⟩ = some (.slice q.ad q.v.l.length q.cap) ∧ w'.cell? ⟨w.heap.size, 6, none⟩ = some (.slice q.bd q.v.e.length q.dap) ∧ w'.cell? ⟨w.heap.size + 1, 0, none⟩ = some (.string y) ∧ w'.cell? ⟨w.heap.size + 1, 1, none⟩ = some (.int .i64 p.v.k) ∧ w'.cell? ⟨w.heap.size + 1, 2, none⟩ = some (.int .i64 p.v.n) ∧ w'.cell? ⟨w.heap.size + 1, 3, none⟩ = some (.int .u64 p.v.f) ∧ w'.cell? ⟨w.heap.size + 1, 4, none⟩ = some (.string p.v.s) ∧ w'.cell? ⟨w.heap.size + 1, 5, none⟩ = some (.slice p.ad p.v.l.length p.cap) ∧ w'.cell? ⟨w.heap.size + 1, 6, none⟩ = some (.slice p.bd p.v.e.length p.dap)) (first | exact hk2 | exact hk3 | exact hk4 | go_keep)
    (first
      | (go_simp; refine (HST.out _).mono ?_; rintro e w' ⟨rfl, rfl⟩)
      | (go_simp; refine (IH.out _ HTd.out.g).mono ?_; rintro e w3 ⟨rfl, hb3⟩; have hT3 := HTd.out.keep (W' := w3) (hb3); have hk3 := hT3.cells; unfold SevTwo at hk3; have HT3 := Lib.hid hT3; have hT4 := hT3.keep ((Below.refl _ w3).alloc (Nat.le_refl _) (.cells #[.int .i64 s1, .int .i64 r] 3)); have hk4 := hT4.cells; unfold SevTwo at hk4; have HT4 := Lib.hid hT4; clear hb3 hT3 hT4)
      | (go_simp; refine (or_any _ 2 [s1, r] _ (ints_at w3 [s1, r] 3) (by simp)).mono ?_; rintro e w' ⟨rfl, rfl⟩))
  go_wp2_with fail
  try go_ret
  exact ⟨by rw [HS1.out]; rfl, HT4.out.g⟩

def SixTwo (w : World) (a b : Nat) (q p : Loc) : Prop :=
  w.cell? ⟨a, 0, none⟩ = some (.int .i64 q.v.k) ∧ w.cell? ⟨a, 1, none⟩ = some (.int .i64 q.v.n) ∧ w.cell? ⟨a, 2, none⟩ = some (.int .u64 q.v.f) ∧ w.cell? ⟨a, 3, none⟩ = some (.string q.v.s) ∧ w.cell? ⟨a, 4, none⟩ = some (.slice q.ad q.v.l.length q.cap) ∧ w.cell? ⟨a, 5, none⟩ = some (.slice q.bd q.v.e.length q.dap) ∧ w.cell? ⟨b, 0, none⟩ = some (.int .i64 p.v.k) ∧ w.cell? ⟨b, 1, none⟩ = some (.int .i64 p.v.n) ∧ w.cell? ⟨b, 2, none⟩ = some (.int .u64 p.v.f) ∧ w.cell? ⟨b, 3, none⟩ = some (.string p.v.s) ∧ w.cell? ⟨b, 4, none⟩ = some (.slice p.ad p.v.l.length p.cap) ∧ w.cell? ⟨b, 5, none⟩ = some (.slice p.bd p.v.e.length p.dap)
theorem Two.cells {w : World} {q p : Loc} {W : World} (h : Two w q p W) : SixTwo W w.heap.size (w.heap.size + 1) q p :=
  ⟨h.a.c0, h.a.c1, h.a.c2, h.a.c3, h.a.c4, h.a.c5, h.b.c0, h.b.c1, h.b.c2, h.b.c3, h.b.c4, h.b.c5⟩

set_option maxHeartbeats 16000000 in
theorem compare_step (q p : Loc) (w : World) (r5 r6 : Int) (hq : q.v.wf) (hp : p.v.wf)
    (ih5 : ∀ W, Below w.heap.size w W → Calls Tryz.prog 41 #[.slice q.ad q.v.l.length q.cap, .slice p.ad p.v.l.length p.cap, .func (.func 23) #[] #[]] W (IntPost r5 W))
    (ih6 : ∀ W, Below w.heap.size w W → Calls Tryz.prog 42 #[.slice q.bd q.v.e.length q.dap, .slice p.bd p.v.e.length p.dap, .func (.func 43) #[] #[]] W (IntPost r6 W)) :
    Calls Tryz.prog 23 #[.agg #[.int .i64 q.v.k, .int .i64 q.v.n, .int .u64 q.v.f, .string q.v.s, .slice q.ad q.v.l.length q.cap, .slice q.bd q.v.e.length q.dap], .agg #[.int .i64 p.v.k, .int .i64 p.v.n, .int .u64 p.v.f, .string p.v.s, .slice p.ad p.v.l.length p.cap, .slice p.bd p.v.e.length p.dap]] w
      (IntPost (orL [sgn q.v.k p.v.k, sgn q.v.n p.v.n, sgn (fbits q.v.f) (fbits p.v.f), sgnB q.v.s p.v.s, r5, r6]) w) := by
  have HT := Lib.hid (Two.start q p w)
  have IH5 := Lib.hid ih5
  have IH6 := Lib.hid ih6
  obtain ⟨g1, hg1⟩ : ∃ g, fbits q.v.f = g := ⟨_, rfl⟩
  obtain ⟨g2, hg2⟩ : ∃ g, fbits p.v.f = g := ⟨_, rfl⟩
  obtain ⟨s1, hs1⟩ : ∃ s, sgn q.v.k p.v.k = s := ⟨_, rfl⟩
  obtain ⟨s2, hs2⟩ : ∃ s, sgn q.v.n p.v.n = s := ⟨_, rfl⟩
  rw [hg1, hg2, hs1, hs2]
  obtain ⟨s3, hs3⟩ : ∃ s, sgn g1 g2 = s := ⟨_, rfl⟩
  obtain ⟨s4, hs4⟩ : ∃ s, sgnB q.v.s p.v.s = s := ⟨_, rfl⟩
  rw [hs3, hs4]
  obtain ⟨rr, hrr⟩ : ∃ rr, orL [s1, s2, s3, s4, r5, r6] = rr := ⟨_, rfl⟩
  rw [hrr]
  have HRR := Lib.hid hrr
  clear hrr
  have C1 : Hid (∀ W, Calls Tryz.prog 36 #[.int .i64 q.v.k, .int .i64 p.v.k] W (CmpPost s1 W)) := Lib.hid (fun W => by have := cmpInt_any q.v.k p.v.k W; rwa [hs1] at this)
  have C2 : Hid (∀ W, Calls Tryz.prog 37 #[.int .i64 q.v.n, .int .i64 p.v.n] W (CmpPost s2 W)) := Lib.hid (fun W => by have := cmpI64_any q.v.n p.v.n W; rwa [hs2] at this)
  have C3 : Hid (∀ W, Calls Tryz.prog 38 #[.int .u64 g1, .int .u64 g2] W (CmpPost s3 W)) := Lib.hid (fun W => by have := cmpU64_any g1 g2 W; rwa [hs3] at this)
  have C4 : Hid (∀ W, Calls Tryz.prog 40 #[.string q.v.s, .string p.v.s] W (CmpPost s4 W)) := Lib.hid (fun W => by have := cmpStr_any q.v.s p.v.s W; rwa [hs4] at this)
  have R1 : Hid (∀ W, Calls Tryz.prog 39 #[.int .u64 q.v.f] W (RankPost g1 W)) := Lib.hid (fun W => by have := rank_any q.v.f W hq.f0 hq.f1; rwa [hg1] at this)
  have R2 : Hid (∀ W, Calls Tryz.prog 39 #[.int .u64 p.v.f] W (RankPost g2 W)) := Lib.hid (fun W => by have := rank_any p.v.f W hp.f0 hp.f1; rwa [hg2] at this)
  clear hg1 hg2 hs1 hs2 hs3 hs4 hq hp ih5 ih6
  go_enter Tryz.func23, Tryz.ntmps23
  go_upto_region 1 with fail
  generalize hw2 : World.alloc (World.alloc w _) _ = w2 at HT ⊢
  clear hw2
  have HTd := Lib.hid (HT.out.keep (Gx.drewN_below w2 1 _))
  have hk2 : SixTwo w2.drew w.heap.size (w.heap.size + 1) q p := HTd.out.cells
  unfold SixTwo at hk2
  go_region_held3 (fun w' => w'.cell? ⟨w.heap.size, 0, none⟩ = some (.int .i64 q.v.k) ∧ w'.cell? ⟨w.heap.size, 1, none⟩ = some (.int .i64 q.v.n) ∧ w'.cell? ⟨w.heap.size, 2, none⟩ = some (.int .u64 q.v.f) ∧ w'.cell? ⟨w.heap.size, 3, none⟩ = some (.string q.v.s) ∧ w'.cell? ⟨w.heap.size, 4, none⟩ = some (.slice q.ad q.v.l.length q.cap) ∧ w'.cell? ⟨w.heap.size, 5, none⟩ = some (.slice q.bd q.v.e.length q.dap) ∧ w'.cell? ⟨w.heap.size + 1, 0, none⟩ = some (.int .i64 p.v.k) ∧ w'.cell? ⟨w.heap.size + 1, 1, none⟩ = some (.int .i64 p.v.n) ∧ w'.cell? ⟨w.heap.size + 1, 2, none⟩ = some (.int .u64 p.v.f) ∧ w'.cell? ⟨w.heap.size + 1, 3, none⟩ = some (.string p.v.s) ∧ w'.cell? ⟨w.heap.size + 1, 4, none⟩ = some (.slice p.ad p.v.l.length p.cap) ∧ w'.cell? ⟨w.heap.size + 1, 5, none⟩ = some (.slice p.bd p.v.e.length p.dap)) (first | exact hk2 | exact hk3 | exact hk4 | exact hk5 | go_keep)
    (first
      | (go_simp; (with_reducible refine (C1.out _).mono ?_); rintro e w' ⟨rfl, rfl⟩)
      | (go_simp; (with_reducible refine (C2.out _).mono ?_); rintro e w' ⟨rfl, rfl⟩)
      | (go_simp; (with_reducible refine (R1.out _).mono ?_); rintro e w' ⟨rfl, rfl⟩)
      | (go_simp; (with_reducible refine (R2.out _).mono ?_); rintro e w' ⟨rfl, rfl⟩)
      | (go_simp; (with_reducible refine (C3.out _).mono ?_); rintro e w' ⟨rfl, rfl⟩)
      | (go_simp; (with_reducible refine (C4.out _).mono ?_); rintro e w' ⟨rfl, rfl⟩)
      | (go_simp; refine (IH5.out _ HTd.out.g).mono ?_; rintro e w3 ⟨rfl, hb3⟩; have hT3 := HTd.out.keep (W' := w3) (hb3); have hk3 := hT3.cells; unfold SixTwo at hk3; have HT3 := Lib.hid hT3; clear hb3 hT3)
      | (go_simp; refine (IH6.out _ HT3.out.g).mono ?_; rintro e w4 ⟨rfl, hb4⟩; have hT4 := HT3.out.keep (W' := w4) (hb4); have hk4 := hT4.cells; unfold SixTwo at hk4; have HT4 := Lib.hid hT4; have hT5 := hT4.keep ((Below.refl _ w4).alloc (Nat.le_refl _) (.cells #[.int .i64 s1, .int .i64 s2, .int .i64 s3, .int .i64 s4, .int .i64 r5, .int .i64 r6] 3)); have hk5 := hT5.cells; unfold SixTwo at hk5; have HT5 := Lib.hid hT5; clear hb4 hT4 hT5)
      | (go_simp; refine (or_any _ 6 [s1, s2, s3, s4, r5, r6] _ (ints_at w4 [s1, s2, s3, s4, r5, r6] 3) (by simp)).mono ?_; rintro e w' ⟨rfl, rfl⟩))
  go_wp2_with fail
  try go_ret
  exact ⟨by rw [← HRR.out]; rfl, HT5.out.g⟩
/-- Compare, whatever two -/
theorem Compare_any : ∀ (n : Nat) (q p : Loc) (w : World), SizeOf.sizeOf q.v ≤ n → VAt w (fun _ => True) q → VAt w (fun _ => True) p → Calls Tryz.prog 23 #[q.val, p.val] w (IntPost (cmpD n q.v p.v) w)
  | 0, q, p, w, h, _, _ => by cases q with | mk v _ _ _ _ => cases v; simp at h
  | n + 1, q, p, w, h, hq, hp => by
    have ih := Compare_any n
    refine compare_step q p w _ _ hq.wf hp.wf (fun W hW => ?_) (fun W hW => ?_)
    · exact cmpVals_any (cmpD n) q.v.l p.v.l q.ad p.ad q.cap p.cap W (hq.l.keep hW) (hp.l.keep hW) (fun q' p' w' hm h1 h2 => ih q' p' w' (by have := V.lt_l hm; omega) h1 h2)
    · refine cmpEnts_any (cmpEn (cmpD n)) q.v.e p.v.e q.bd p.bd q.dap p.dap W (hq.e.keep hW) (hp.e.keep hW) (fun x y q' p' w' hm e1 e2 h1 h2 => ?_)
      have hlt := V.lt_e hm
      have := cmpEnt_any x.1 y.1 q' p' (cmpD n q'.v p'.v) w' h1 h2 (fun W' hW' => ih q' p' W' (by rw [e1]; omega) (h1.keep hW') (h2.keep hW'))
      rw [e1, e2] at this ⊢
      exact this
end Go.Proofs.YtldhmfkojaekfaaGreatDoor
namespace Go.Proofs.YtldhmfkojaekfaaGreatDoor
open Go.RowKit Gx
/-- whether a value's own numbers are such, all through -/
inductive WfAll : V → Prop
  | mk (v : V) (h : v.wf) (hl : ∀ x ∈ v.l, WfAll x) (he : ∀ x ∈ v.e, WfAll x.2) : WfAll v
theorem WfAll.own {v : V} (h : WfAll v) : v.wf := by cases h; assumption
theorem WfAll.l {v : V} (h : WfAll v) : ∀ x ∈ v.l, WfAll x := by cases h; assumption
theorem WfAll.e {v : V} (h : WfAll v) : ∀ x ∈ v.e, WfAll x.2 := by cases h; assumption
theorem RowAt.wfAll {w : World} {B : Nat → Prop} {t : Bool} {xs : List (ByteArray × V)} {v : Value} (h : RowAt w B t xs v) : ∀ x ∈ xs, WfAll x.2 := by
  induction h with
  | nil => intro x hx; cases hx
  | row t xs blk off cap sl se hne hn hB hlt hk hc hl he ihl ihe =>
    intro x hx
    obtain ⟨i, hi, rfl⟩ := List.getElem_of_mem hx
    have hi' : xs[i]? = some xs[i] := List.getElem?_eq_getElem hi
    refine .mk _ (hc i _ hi').1 (fun y hy => ?_) (fun y hy => ihe i _ hi' y hy)
    exact ihl i _ hi' (⟨#[]⟩, y) (by simp [lp]; exact hy)
theorem VAt.wfAll {w : World} {B : Nat → Prop} {q : Loc} (h : VAt w B q) : WfAll q.v :=
  .mk _ h.wf (fun x hx => h.l.wfAll (⟨#[]⟩, x) (by simp [lp]; exact hx)) (fun x hx => h.e.wfAll x hx)
end Go.Proofs.YtldhmfkojaekfaaGreatDoor
namespace Go.Proofs.YtldhmfkojaekfaaGreatDoor
open Go.RowKit Gx
theorem sgn_zero (x y : Int) : sgn x y = 0 ↔ x = y := by
  unfold sgn
  split
  · simp; omega
  split
  · simp; omega
  · simp; omega
theorem sgnB_zero (a b : ByteArray) : sgnB a b = 0 ↔ a = b := by
  unfold sgnB
  constructor
  · intro h
    by_cases h1 : Op.bytesLess a.toList b.toList = true
    · rw [if_pos h1] at h; cases h
    rw [if_neg h1] at h
    by_cases h2 : (Op.bytesLess a.toList b.toList || a.toList == b.toList) = true
    · have h3 : a.toList = b.toList := by simpa [h1] using h2
      rw [ByteArray.toList_eq, ByteArray.toList_eq] at h3
      exact ByteArray.ext (Array.toList_inj.1 h3)
    · rw [if_neg h2] at h; cases h
  · rintro rfl
    have h1 : ∀ l : List UInt8, Op.bytesLess l l = false := by
      intro l
      induction l with
      | nil => rfl
      | cons a l ih => simp [Op.bytesLess, ih]
    rw [h1]; simp
theorem fbits_inj {a b : Int} (h0 : 0 ≤ a) (h1 : a ≤ 18446744073709551615) (g0 : 0 ≤ b) (g1 : b ≤ 18446744073709551615) (h : fbits a = fbits b) : a = b := by
  unfold fbits at h
  split at h <;> split at h <;> omega
theorem cmpL_zero {α : Type} {f : α → α → Int} : ∀ (l m : List α), (∀ x ∈ l, ∀ y ∈ m, f x y = 0 ↔ x = y) → (cmpL f l m = 0 ↔ l = m)
  | [], [], _ => by simp [cmpL]
  | [], _ :: _, _ => by simp [cmpL]
  | _ :: _, [], _ => by simp [cmpL]
  | x :: l, y :: m, h => by
    have h1 := h x (by simp) y (by simp)
    have h2 := cmpL_zero l m (fun a ha b hb => h a (by simp [ha]) b (by simp [hb]))
    rw [cmpL]
    by_cases hf : f x y = 0
    · rw [if_neg (by simpa using hf), h2, h1.1 hf]; simp
    · rw [if_pos hf]
      exact ⟨fun e => absurd e hf, fun e => absurd (h1.2 (List.cons.inj e).1) hf⟩
theorem orL_zero : ∀ l : List Int, orL l = 0 ↔ ∀ x ∈ l, x = 0
  | [] => by simp [orL]
  | x :: l => by
    rw [orL]
    by_cases h : x = 0
    · rw [if_neg (by simpa using h), orL_zero l]; simp [h]
    · rw [if_pos h]; simp [h]
theorem cmp_zero : ∀ (n : Nat) (v u : V), SizeOf.sizeOf v ≤ n → WfAll v → WfAll u → (cmpD n v u = 0 ↔ v = u)
  | 0, v, u, h, _, _ => by cases v; simp at h
  | n + 1, v, u, h, hv, hu => by
    have wv := hv.own
    have wu := hu.own
    rw [cmpD, orL_zero]
    have hl := cmpL_zero (f := cmpD n) v.l u.l (fun x hx y hy => cmp_zero n x y (by have := V.lt_l hx; omega) (hv.l x hx) (hu.l y hy))
    have he := cmpL_zero (f := cmpEn (cmpD n)) v.e u.e (fun x hx y hy => by
      have h1 := cmp_zero n x.2 y.2 (by have := V.lt_e hx; omega) (hv.e x hx) (hu.e y hy)
      unfold cmpEn
      rw [orL_zero]
      simp only [List.mem_cons, List.not_mem_nil, or_false, forall_eq_or_imp, forall_eq]
      rw [sgnB_zero, h1]
      constructor
      · rintro ⟨a, b⟩; exact Prod.ext a b
      · rintro rfl; exact ⟨rfl, rfl⟩)
    simp only [List.mem_cons, List.not_mem_nil, or_false, forall_eq_or_imp, forall_eq]
    rw [sgn_zero, sgn_zero, sgn_zero, sgnB_zero, hl, he]
    constructor
    · rintro ⟨a, b, c, d, e, f⟩
      exact V.ext' a b (fbits_inj wv.f0 wv.f1 wu.f0 wu.f1 c) d e f
    · rintro rfl; exact ⟨rfl, rfl, rfl, rfl, rfl, rfl⟩
end Go.Proofs.YtldhmfkojaekfaaGreatDoor
namespace Go.Proofs.YtldhmfkojaekfaaGreatDoor
open Go.RowKit Gx
def kbOf (t : Tk) : Kb := (t.1, t.2.2)
/-- the solid tokens of a text, without their places -/
def kbs (l : List UInt8) : List Kb := kbX (treeX l) 0
theorem kbs_sol (l : List UInt8) (o : Nat) : (solO l o).map kbOf = kbs l := by
  unfold solO kbs kbX
  rw [List.map_map]
  rfl
theorem ok_G {l : List UInt8} {v : V} (hl : l.length ≤ 20000) : ((parseS (treeX l)).bad = 0 ∧ meanN (treeX l) 21 (rootN l) = .ok v) ↔ G 20 (kbs l) v [] := by
  constructor
  · rintro ⟨h1, h2⟩
    have h := run_G (treeX_mark l) 20 ⟨0, 0, 0⟩ v (Nat.zero_le _) (parse_bad h1) h2
    have he : kbX (treeX l) (valueS (treeX l) 20 ⟨0, 0, 0⟩).1.i = [] := by
      unfold parseS endS at h1
      split at h1
      · exact (fail_not (by decide) h1).elim
      · rename_i hn
        rcases skip_kb (treeX l) (valueS (treeX l) 20 ⟨0, 0, 0⟩).1 with ⟨-, g⟩ | ⟨g, -⟩
        · exact g
        · exact absurd g hn
    rw [he] at h
    exact h
  · intro h
    have hT : (treeX l).T.length ≤ 20000 := Nat.le_trans (toks_len l) hl
    obtain ⟨h1, h2, h3, h4, h5⟩ := G_run (treeX_mark l) (show (treeX l).T.length + 2 ≤ 30000 by omega) 20 _ v [] ⟨0, 0, 0⟩ h rfl (Nat.zero_le _) rfl
    refine ⟨?_, h5⟩
    unfold parseS endS
    rcases skip_kb (treeX l) (valueS (treeX l) 20 ⟨0, 0, 0⟩).1 with ⟨g, -⟩ | ⟨-, -, g⟩
    · rw [if_neg (by omega)]; exact h1
    · rw [h2] at g; cases g
theorem meanOk_iff {l : List UInt8} {v : V} : MeanOk l v ↔ l.length ≤ 20000 ∧ G 20 (kbs l) v [] ∧ chkV v = 0 := by
  constructor
  · rintro ⟨h1, h2, h3, h4⟩
    exact ⟨h1, (ok_G h1).1 ⟨h2, h3⟩, h4⟩
  · rintro ⟨h1, h2, h3⟩
    have := (ok_G h1).2 h2
    exact ⟨h1, this.1, this.2, h3⟩
/-- a document has no bad tokens -/
def kindOk (t : Kb) : Prop := t.1 = 4 ∨ t.1 = 5 ∨ t.1 = 6
theorem items_kinds {α : Type} {K : List Kb → α → List Kb → Prop} {e : UInt8} (hK : ∀ ts a r, K ts a r → ∀ t ∈ ts, t ∈ r ∨ kindOk t) {ts r : List Kb} {l : List α} (h : Items K e ts l r) : ∀ t ∈ ts, t ∈ r ∨ kindOk t := by
  induction h with
  | nil r =>
    intro t ht
    rcases List.mem_cons.1 ht with rfl | ht
    · exact .inr (.inr (.inr rfl))
    · exact .inl ht
  | last ts a r h =>
    intro t ht
    rcases hK _ _ _ h t ht with ht | ht
    · rcases List.mem_cons.1 ht with rfl | ht
      · exact .inr (.inr (.inr rfl))
      · exact .inl ht
    · exact .inr ht
  | more ts a ts' l r h hl ih =>
    intro t ht
    rcases hK _ _ _ h t ht with ht | ht
    · rcases List.mem_cons.1 ht with rfl | ht
      · exact .inr (.inr (.inr rfl))
      · exact ih t ht
    · exact .inr ht
theorem G_kinds : ∀ (d : Nat) (ts : List Kb) (v : V) (r : List Kb), G d ts v r → ∀ t ∈ ts, t ∈ r ∨ kindOk t
  | 0, ts, v, r, h => h.elim
  | d + 1, ts, v, r, h => by
    rcases h with ⟨u, rfl, h1, -⟩ | ⟨ts', l, rfl, h1, -⟩ | ⟨ts', l, rfl, h1, -⟩
    · intro t ht
      rcases List.mem_cons.1 ht with rfl | ht
      · exact .inr (h1.elim .inl (fun h => .inr (.inl h)))
      · exact .inl ht
    · intro t ht
      rcases List.mem_cons.1 ht with rfl | ht
      · exact .inr (.inr (.inr rfl))
      · exact items_kinds (fun ts a r h => G_kinds d ts a r h) h1 t ht
    · intro t ht
      rcases List.mem_cons.1 ht with rfl | ht
      · exact .inr (.inr (.inr rfl))
      · refine items_kinds (fun ts a r h => ?_) h1 t ht
        obtain ⟨u, c, ts', rfl, g1, g2, g3, g4⟩ := h
        intro t ht
        rcases List.mem_cons.1 ht with rfl | ht
        · exact .inr (g1.elim .inl (fun h => .inr (.inl h)))
        · rcases List.mem_cons.1 ht with rfl | ht
          · exact .inr (.inr (.inr rfl))
          · exact G_kinds d _ _ _ g4 t ht
theorem no_bad {l : List UInt8} {d : Nat} {v : V} (h : G d (kbs l) v []) : ∀ t ∈ toksFrom l 0, t.1 ≠ 7 := by
  intro t ht h7
  have hm : (t.1, (l.drop t.2.1).take (t.2.2 - t.2.1)) ∈ kbs l := by
    unfold kbs kbX
    rw [List.drop_zero]
    exact List.mem_map.2 ⟨t, List.mem_filter.2 ⟨ht, by rw [h7]; decide⟩, rfl⟩
  rcases G_kinds d _ v [] h _ hm with h1 | h1 | h1 | h1
  · cases h1
  · rw [h7] at h1; exact absurd h1 (by decide)
  · rw [h7] at h1; exact absurd h1 (by decide)
  · rw [h7] at h1; exact absurd h1 (by decide)

def blanks5 : List (List UInt8) := [[32], [10], [9, 13], [47, 42, 32, 44, 32, 42, 47], [35, 32, 125, 10]]
end Go.Proofs.YtldhmfkojaekfaaGreatDoor
namespace Go.Proofs.YtldhmfkojaekfaaGreatDoor
open Go.RowKit Gx
set_option maxRecDepth 100000
set_option maxHeartbeats 1000000 in
theorem sameM_any (q p : Loc) (w : World) (hq : VAt w (fun _ => True) q) (hp : VAt w (fun _ => True) p) (s : Bool) (hs : s = true ↔ q.v = p.v) : Calls Tryz.prog 13 #[q.val, p.val] w (BoolPostM s w) := by
  have HT := Lib.hid (Two.start q p w)
  obtain ⟨c, hc⟩ : ∃ c, cmpD (SizeOf.sizeOf q.v) q.v p.v = c := ⟨_, rfl⟩
  have hcz := cmp_zero _ q.v p.v (Nat.le_refl _) hq.wfAll hp.wfAll
  rw [hc] at hcz
  have h : ∀ W, Below w.heap.size w W → Calls Tryz.prog 23 #[q.val, p.val] W (IntPost c W) := fun W hW => by
    rw [← hc]
    exact Compare_any _ q p W (Nat.le_refl _) (hq.keep hW) (hp.keep hW)
  have hsc : (c == 0) = s := by
    rw [Bool.eq_iff_iff, beq_iff_eq, hcz, hs]
  subst hsc
  unfold Loc.val at h ⊢
  have H := Lib.hid h
  clear h hs hcz hc hq hp
  go_enter Tryz.func13, Tryz.ntmps13
  go_upto_region 1 with fail
  generalize hw2 : World.alloc (World.alloc w _) _ = w2 at HT ⊢
  clear hw2
  obtain ⟨a0, a1, a2, a3, a4, a5⟩ := HT.out.a
  obtain ⟨b0, b1, b2, b3, b4, b5⟩ := HT.out.b
  go_wp2_with fail
  (with_reducible refine (H.out _ HT.out.g).mono ?_)
  rintro e w' ⟨rfl, hb⟩
  have HB := Lib.hid (HT.out.g.trans (hb.mono HT.out.g.size))
  clear hb
  go_wp2_with fail
  try go_ret
  exact ⟨rfl, HB.out⟩
theorem ok_not_bad {l : List UInt8} {v : V} {a : Nat} {c : Int} (h : MeanOk l v) (g : MeanBad l a c) : False := by
  obtain ⟨h1, h2, h3, h4⟩ := h
  rcases g with ⟨g, -⟩ | ⟨-, g, -⟩ | ⟨-, -, ⟨f, g, -⟩ | ⟨u, g, g2, -⟩⟩
  · omega
  · exact g h2
  · rw [h3] at g; cases g
  · rw [h3] at g
    rw [← Except.ok.inj g] at g2
    exact g2 h4
theorem ok_same {l : List UInt8} {v u : V} (h : MeanOk l v) (g : MeanOk l u) : v = u := Except.ok.inj (h.2.2.1.symm.trans g.2.2.1)
/-- the box of a value behind a call -/
structure MB (w : World) (v : V) (g : Nat) (y : Loc) (W : World) : Prop where
  v : y.v = v
  box : W.heap[g]? = some (.cells #[.int .i64 y.v.k, .int .i64 y.v.n, .int .u64 y.v.f, .string y.v.s, .slice y.ad y.v.l.length y.cap, .slice y.bd y.v.e.length y.dap] 26)
  at_ : VAt W (fun _ => True) y
  g : Below w.heap.size w W
theorem MB.after {w w5 w6 : World} {v : V} {y : Loc} (h5 : Below w.heap.size w w5) (h6 : Below w5.heap.size w5 w6) (hv : y.v = v) (hy : VAt w6 (fun b => w5.heap.size ≤ b) y) : MB w v w6.heap.size y (w6.alloc (.cells #[.int .i64 y.v.k, .int .i64 y.v.n, .int .u64 y.v.f, .string y.v.s, .slice y.ad y.v.l.length y.cap, .slice y.bd y.v.e.length y.dap] 26)) :=
  ⟨hv, heap_alloc_new w6 _, (hy.weak (fun _ _ _ => trivial)).keep ((Below.refl w6.heap.size w6).alloc (Nat.le_refl _) _), (h5.trans (h6.mono h5.size)).alloc (Nat.le_trans h5.size h6.size) _⟩
def zero6 : Obj := .cells #[.int .i64 0, .int .i64 0, .int .u64 0, .string ⟨#[]⟩, .slice none 0 0, .slice none 0 0] 26
theorem MB.before {w w5 w6 : World} {v : V} {y : Loc} (h5 : Below w.heap.size w w5) (h6 : Below (w5.alloc zero6).drew.heap.size (w5.alloc zero6).drew w6) (hv : y.v = v) (hy : VAt w6 (fun b => (w5.alloc zero6).drew.heap.size ≤ b) y) :
    MB w v w5.heap.size y ((((((w6.setCell ⟨w5.heap.size, 0, none⟩ (.int .i64 y.v.k)).setCell ⟨w5.heap.size, 1, none⟩ (.int .i64 y.v.n)).setCell ⟨w5.heap.size, 2, none⟩ (.int .u64 y.v.f)).setCell ⟨w5.heap.size, 3, none⟩ (.string y.v.s)).setCell ⟨w5.heap.size, 4, none⟩ (.slice y.ad y.v.l.length y.cap)).setCell ⟨w5.heap.size, 5, none⟩ (.slice y.bd y.v.e.length y.dap)) := by
  have hn := heap_alloc_new w5 zero6
  have hz : (w5.alloc zero6).heap.size = w5.heap.size + 1 := World.size_alloc _ _
  have h7 := (h6.block w5.heap.size (by show w5.heap.size < (w5.alloc zero6).heap.size; omega)).trans hn
  obtain ⟨W9, hW9, hr9, ho, hz9, hbw, hvw⟩ := six_all h7 (.int .i64 y.v.k) (.int .i64 y.v.n) (.int .u64 y.v.f) (.string y.v.s) (.slice y.ad y.v.l.length y.cap) (.slice y.bd y.v.e.length y.dap)
  rw [← hW9]
  have h5a : Below w.heap.size w (w5.alloc zero6).drew := (h5.alloc h5.size zero6).drew
  refine ⟨hv, hr9, (hvw _ _ hy ?_).weak (fun _ _ _ => trivial), hbw _ _ (h5a.trans (h6.mono h5a.size)) h5.size⟩
  show ¬ (w5.alloc zero6).heap.size ≤ w5.heap.size
  omega
end Go.Proofs.YtldhmfkojaekfaaGreatDoor
namespace Go.Proofs.YtldhmfkojaekfaaGreatDoor
open Go.RowKit Gx
theorem items_ext {α : Type} {K K' : List Kb → α → List Kb → Prop} {e : UInt8} {z : List Kb} (hK : ∀ ts a r, K ts a r → K' (ts ++ z) a (r ++ z)) {ts r : List Kb} {l : List α} (h : Items K e ts l r) : Items K' e (ts ++ z) l (r ++ z) := by
  induction h with
  | nil r => exact .nil _
  | last ts a r h => exact .last _ a _ (hK _ _ _ h)
  | more ts a ts' l r h hl ih => exact .more _ a (ts' ++ z) l _ (hK _ _ _ h) ih
theorem ent_ext {K K' : List Kb → V → List Kb → Prop} {z : List Kb} (hK : ∀ ts a r, K ts a r → K' (ts ++ z) a (r ++ z)) (ts : List Kb) (a : ByteArray × V) (r : List Kb) (h : EntK K ts a r) : EntK K' (ts ++ z) a (r ++ z) := by
  obtain ⟨t, c, ts', rfl, h1, h2, h3, h4⟩ := h
  exact ⟨t, c, ts' ++ z, rfl, h1, h2, h3, hK _ _ _ h4⟩
theorem G_ext (z : List Kb) : ∀ (d : Nat) (ts : List Kb) (v : V) (r : List Kb), G d ts v r → G d (ts ++ z) v (r ++ z)
  | 0, _, _, _, h => h.elim
  | d + 1, ts, v, r, h => by
    rcases h with ⟨t, rfl, h1, h2⟩ | ⟨ts', l, rfl, h1, rfl⟩ | ⟨ts', l, rfl, h1, h2, rfl⟩
    · exact .inl ⟨t, rfl, h1, h2⟩
    · exact .inr (.inl ⟨ts' ++ z, l, rfl, items_ext (G_ext z d) h1, rfl⟩)
    · exact .inr (.inr ⟨ts' ++ z, l, rfl, items_ext (ent_ext (G_ext z d)) h1, h2, rfl⟩)
theorem items_up {α : Type} {K K' : List Kb → α → List Kb → Prop} {e : UInt8} (hK : ∀ ts a r, K ts a r → K' ts a r) {ts r : List Kb} {l : List α} (h : Items K e ts l r) : Items K' e ts l r := by
  induction h with
  | nil r => exact .nil _
  | last ts a r h => exact .last _ a _ (hK _ _ _ h)
  | more ts a ts' l r h hl ih => exact .more _ a ts' l _ (hK _ _ _ h) ih
theorem ent_up {K K' : List Kb → V → List Kb → Prop} (hK : ∀ ts a r, K ts a r → K' ts a r) (ts : List Kb) (a : ByteArray × V) (r : List Kb) (h : EntK K ts a r) : EntK K' ts a r := by
  obtain ⟨t, c, ts', rfl, h1, h2, h3, h4⟩ := h
  exact ⟨t, c, ts', rfl, h1, h2, h3, hK _ _ _ h4⟩
theorem G_up : ∀ (d : Nat) (ts : List Kb) (v : V) (r : List Kb), G d ts v r → G (d + 1) ts v r
  | 0, _, _, _, h => h.elim
  | d + 1, ts, v, r, h => by
    rcases h with h | ⟨ts', l, rfl, h1, rfl⟩ | ⟨ts', l, rfl, h1, h2, rfl⟩
    · exact .inl h
    · exact .inr (.inl ⟨ts', l, rfl, items_up (G_up d) h1, rfl⟩)
    · exact .inr (.inr ⟨ts', l, rfl, items_up (ent_up (G_up d)) h1, h2, rfl⟩)
theorem G_ups {d : Nat} {ts : List Kb} {v : V} {r : List Kb} (h : G d ts v r) : ∀ k, G (d + k) ts v r
  | 0 => h
  | k + 1 => G_up _ _ _ _ (G_ups h k)
theorem items_det {α : Type} {K : List Kb → α → List Kb → Prop} {e : UInt8} (he : e ≠ 44) (hhd : ∀ ts a r, K ts a r → ts.head? ≠ some (6, [e])) (hK : ∀ ts a r b q, K ts a r → K ts b q → a = b ∧ r = q) {ts r : List Kb} {l : List α} (h : Items K e ts l r) :
    ∀ {m : List α} {q : List Kb}, Items K e ts m q → l = m ∧ r = q := by
  induction h with
  | nil r =>
    intro m q g
    cases g with
    | nil _ => exact ⟨rfl, rfl⟩
    | last _ a _ g => exact absurd rfl (hhd _ _ _ g)
    | more _ a ts' l _ g gl => exact absurd rfl (hhd _ _ _ g)
  | last ts a r h =>
    intro m q g
    cases g with
    | nil _ => exact absurd rfl (hhd _ _ _ h)
    | last _ b _ g =>
      obtain ⟨rfl, h2⟩ := hK _ _ _ _ _ h g
      exact ⟨rfl, (List.cons.inj h2).2⟩
    | more _ b ts' l _ g gl =>
      obtain ⟨rfl, h2⟩ := hK _ _ _ _ _ h g
      exact absurd (List.cons.inj (Prod.mk.inj (List.cons.inj h2).1).2).1 he
  | more ts a ts' l r h hl ih =>
    intro m q g
    cases g with
    | nil _ => exact absurd rfl (hhd _ _ _ h)
    | last _ b _ g =>
      obtain ⟨rfl, h2⟩ := hK _ _ _ _ _ h g
      exact absurd (List.cons.inj (Prod.mk.inj (List.cons.inj h2).1).2).1.symm he
    | more _ b us m _ g gl =>
      obtain ⟨rfl, h2⟩ := hK _ _ _ _ _ h g
      obtain rfl := (List.cons.inj h2).2
      obtain ⟨rfl, rfl⟩ := ih gl
      exact ⟨rfl, rfl⟩
theorem ent_det {K : List Kb → V → List Kb → Prop} (hK : ∀ ts a r b q, K ts a r → K ts b q → a = b ∧ r = q) (ts : List Kb) (a : ByteArray × V) (r : List Kb) (b : ByteArray × V) (q : List Kb) (h : EntK K ts a r) (g : EntK K ts b q) : a = b ∧ r = q := by
  obtain ⟨t, c, ts', rfl, h1, h2, h3, h4⟩ := h
  obtain ⟨u, d, us, e, g1, g2, g3, g4⟩ := g
  obtain ⟨rfl, e2⟩ := List.cons.inj e
  obtain ⟨-, rfl⟩ := List.cons.inj e2
  obtain ⟨e1, rfl⟩ := hK _ _ _ _ _ h4 g4
  rw [h3] at g3
  exact ⟨Prod.ext (Option.some.inj g3) e1, rfl⟩
theorem G_det : ∀ (d : Nat) (ts : List Kb) (v : V) (r : List Kb) (w : V) (q : List Kb), G d ts v r → G d ts w q → v = w ∧ r = q
  | 0, _, _, _, _, _, h, _ => h.elim
  | d + 1, ts, v, r, w, q, h, g => by
    rcases h with ⟨t, rfl, h1, h2⟩ | ⟨ts', l, rfl, h1, rfl⟩ | ⟨ts', l, rfl, h1, h2, rfl⟩
    · rcases g with ⟨u, e, g1, g2⟩ | ⟨us, m, e, g1, rfl⟩ | ⟨us, m, e, g1, g2, rfl⟩
      · obtain ⟨rfl, rfl⟩ := List.cons.inj e
        rw [h2] at g2
        exact ⟨Option.some.inj g2, rfl⟩
      · obtain ⟨rfl, -⟩ := List.cons.inj e
        exact absurd h1 (by simp)
      · obtain ⟨rfl, -⟩ := List.cons.inj e
        exact absurd h1 (by simp)
    · rcases g with ⟨u, e, g1, g2⟩ | ⟨us, m, e, g1, rfl⟩ | ⟨us, m, e, g1, g2, rfl⟩
      · obtain ⟨rfl, -⟩ := List.cons.inj e
        exact absurd g1 (by simp)
      · obtain ⟨-, rfl⟩ := List.cons.inj e
        obtain ⟨rfl, rfl⟩ := items_det (by decide) (fun ts a r h => G_head h 93 (.inl rfl)) (fun ts a r b q => G_det d ts a r b q) h1 g1
        exact ⟨rfl, rfl⟩
      · exact absurd (List.cons.inj (Prod.mk.inj (List.cons.inj e).1).2).1 (by decide)
    · rcases g with ⟨u, e, g1, g2⟩ | ⟨us, m, e, g1, rfl⟩ | ⟨us, m, e, g1, g2, rfl⟩
      · obtain ⟨rfl, -⟩ := List.cons.inj e
        exact absurd g1 (by simp)
      · exact absurd (List.cons.inj (Prod.mk.inj (List.cons.inj e).1).2).1 (by decide)
      · obtain ⟨-, rfl⟩ := List.cons.inj e
        obtain ⟨rfl, rfl⟩ := items_det (by decide) (fun ts a r h => EntK_head h 125) (ent_det (fun ts a r b q => G_det d ts a r b q)) h1 g1
        exact ⟨rfl, rfl⟩
theorem G_same {d e : Nat} {ts : List Kb} {v : V} {r : List Kb} {w : V} {q : List Kb} (h : G d ts v r) (g : G e ts w q) : v = w ∧ r = q := by
  have h' := G_ups h e
  have g' := G_ups g d
  rw [Nat.add_comm] at g'
  exact G_det _ _ _ _ _ _ h' g'
theorem chkAll_each {f : V → Nat → Nat × Nat} : ∀ (xs : List V) (m : Nat), (chkAll f xs m).1 = 0 → ∀ x ∈ xs, ∃ k, (f x k).1 = 0
  | [], _, _, x, hx => absurd hx List.not_mem_nil
  | y :: xs, m, h, x, hx => by
    simp only [chkAll] at h
    split at h
    · rename_i h1
      rcases List.mem_cons.1 hx with rfl | hx
      · exact ⟨m, h1⟩
      · exact chkAll_each xs _ h x hx
    · rename_i h1; exact absurd h h1
theorem chk_parts {d : Nat} {v : V} {m : Nat} (h : (chk (d + 1) v m).1 = 0) : ∀ x ∈ v.parts, ∃ k, (chk d x k).1 = 0 := by
  simp only [chk] at h
  split at h
  · cases h
  · split at h
    · rename_i h1; exact absurd h h1
    · split at h
      · rename_i h1; exact absurd h h1
      · exact chkAll_each _ _ h
theorem chk_none {v : V} {m : Nat} : (chk 0 v m).1 ≠ 0 := by
  simp only [chk]
  split <;> simp
theorem items_low {α : Type} {K K' : List Kb → α → List Kb → Prop} {e : UInt8} {P : α → Prop} (hK : ∀ ts a r, P a → K ts a r → K' ts a r) {ts r : List Kb} {l : List α} (h : Items K e ts l r) : (∀ a ∈ l, P a) → Items K' e ts l r := by
  induction h with
  | nil r => exact fun _ => .nil _
  | last ts a r h => exact fun hp => .last _ a _ (hK _ _ _ (hp a (List.mem_cons_self)) h)
  | more ts a ts' l r h hl ih => exact fun hp => .more _ a ts' l _ (hK _ _ _ (hp a (List.mem_cons_self)) h) (ih (fun x hx => hp x (List.mem_cons_of_mem _ hx)))
theorem once_in : ∀ (l acc : List (ByteArray × V)) (ks : List ByteArray), Once ks l → (∀ x ∈ acc, x.1 ∈ ks) → ∀ x, x ∈ acc ∨ x ∈ l → x ∈ putAll acc l
  | [], acc, ks, _, _, x, hx => hx.resolve_right List.not_mem_nil
  | y :: l, acc, ks, ho, hk, x, hx => by
    show x ∈ putAll (putL acc y.1 y.2) l
    refine once_in l _ (y.1 :: ks) ho.2 (fun z hz => ?_) x ?_
    · rcases put_mem.1 hz with rfl | ⟨h1, -⟩
      · exact List.mem_cons_self
      · exact List.mem_cons_of_mem _ (hk z h1)
    · rcases hx with hx | hx
      · exact .inl (put_mem.2 (.inr ⟨hx, fun e => ho.1 (e ▸ hk x hx)⟩))
      · rcases List.mem_cons.1 hx with rfl | hx
        · exact .inl (put_mem.2 (.inl rfl))
        · exact .inr hx
theorem G_low : ∀ (d : Nat) (ts : List Kb) (v : V) (r : List Kb) (m : Nat), G (d + 1) ts v r → (chk d v m).1 = 0 → G d ts v r
  | 0, ts, v, r, m, h, hc => absurd hc chk_none
  | d + 1, ts, v, r, m, h, hc => by
    have hp := chk_parts hc
    have ent_low : ∀ {ts : List Kb} {a : ByteArray × V} {r : List Kb}, (∃ k, (chk d a.2 k).1 = 0) → EntK (G (d + 1)) ts a r → EntK (G d) ts a r := by
      rintro ts a r ⟨k, hk⟩ ⟨t, c, us, rfl, g1, g2, g3, g4⟩
      exact ⟨t, c, us, rfl, g1, g2, g3, G_low d _ _ _ k g4 hk⟩
    rcases h with h | ⟨ts', l, rfl, h1, rfl⟩ | ⟨ts', l, rfl, h1, h2, rfl⟩
    · exact .inl h
    · refine .inr (.inl ⟨ts', l, rfl, items_low (P := fun a => ∃ k, (chk d a k).1 = 0) (fun ts a r ⟨k, hk⟩ g => G_low d ts a r k g hk) h1 (fun a ha => hp a (List.mem_append_left _ ha)), rfl⟩)
    · refine .inr (.inr ⟨ts', l, rfl, items_low (P := fun a => ∃ k, (chk d a.2 k).1 = 0) (fun ts a r hk g => ent_low hk g) h1 (fun a ha => hp a.2 (List.mem_append_right _ (List.mem_map.2 ⟨a, once_in l [] [] h2 (fun x hx => absurd hx List.not_mem_nil) a (.inr ha), rfl⟩))), h2, rfl⟩)
end Go.Proofs.YtldhmfkojaekfaaGreatDoor
namespace Go.Proofs.YtldhmfkojaekfaaGreatDoor
open Go.RowKit Gx
/-- a document with a line behind it -/
theorem kb_doc {s : List UInt8} {v : V} (h : G 20 (kbs s) v []) (z : List UInt8) (o : Nat) : (solO (s ++ 10 :: z) o).map kbOf = kbs s ++ kbs z := by
  rw [(tokSeq_line z s.length s (Nat.le_refl _) (no_bad h)).sol o, List.map_append, kbs_sol, solO_line, kbs_sol]
theorem kb_mark (c : UInt8) (z : List UInt8) (hc : classOf (c.toNat : Int) = 6) : kbs (c :: z) = (6, [c]) :: kbs z := by
  rw [← kbs_sol (c :: z) 0, solO_mark c z 0 hc, List.map_cons, kbs_sol]; rfl
theorem kb_doc0 {s : List UInt8} {v : V} (h : G 20 (kbs s) v []) (z : List UInt8) : kbs (s ++ 10 :: z) = kbs s ++ kbs z := by
  rw [← kbs_sol (s ++ 10 :: z) 0, kb_doc h]
def listText (s t : List UInt8) : List UInt8 := 91 :: (s ++ 10 :: 44 :: (t ++ [10, 93]))
theorem kbs_list {s t : List UInt8} {v w : V} (h : G 20 (kbs s) v []) (g : G 20 (kbs t) w []) : kbs (listText s t) = (6, [91]) :: (kbs s ++ (6, [44]) :: (kbs t ++ [(6, [93])])) := by
  unfold listText
  rw [kb_mark 91 _ (by decide), kb_doc0 h, kb_mark 44 _ (by decide), kb_doc0 g, kb_mark 93 _ (by decide)]
  rfl
theorem list_G {d : Nat} {a b : List Kb} {v w : V} (h : G d a v []) (g : G d b w []) : G (d + 1) ((6, [91]) :: (a ++ (6, [44]) :: (b ++ [(6, [93])]))) (listV [v, w]) [] := by
  refine .inr (.inl ⟨_, [v, w], rfl, .more _ v (b ++ [(6, [93])]) [w] [] ?_ (.last _ w [] ?_), rfl⟩)
  · exact G_ext _ _ _ _ _ h
  · exact G_ext _ _ _ _ _ g
theorem list_part {v w x : V} (h : chkV (listV [v, w]) = 0) (hx : x ∈ [v, w]) : ∃ k, (chk 19 x k).1 = 0 := chk_parts h x (List.mem_append_left _ hx)
theorem list_ok {s t : List UInt8} {v w : V} (hs : MeanOk s v) (ht : MeanOk t w) (hl : s.length + t.length ≤ 19980) (hc : chkV (listV [v, w]) = 0) : MeanOk (listText s t) (listV [v, w]) := by
  obtain ⟨-, h, -⟩ := meanOk_iff.1 hs
  obtain ⟨-, g, -⟩ := meanOk_iff.1 ht
  obtain ⟨k1, hk1⟩ := list_part hc List.mem_cons_self
  obtain ⟨k2, hk2⟩ := list_part hc (List.mem_cons_of_mem _ List.mem_cons_self)
  refine meanOk_iff.2 ⟨by unfold listText; simp; omega, ?_, hc⟩
  rw [kbs_list h g]
  exact list_G (G_low 19 _ _ _ _ h hk1) (G_low 19 _ _ _ _ g hk2)
theorem list_no {s t : List UInt8} {v w x : V} (hs : MeanOk s v) (ht : MeanOk t w) (hc : chkV (listV [v, w]) ≠ 0) (hx : MeanOk (listText s t) x) : False := by
  obtain ⟨-, h, -⟩ := meanOk_iff.1 hs
  obtain ⟨-, g, -⟩ := meanOk_iff.1 ht
  obtain ⟨-, f, hx0⟩ := meanOk_iff.1 hx
  rw [kbs_list h g] at f
  obtain ⟨rfl, -⟩ := G_same f (list_G h g)
  exact hc hx0
/-- the table of them -/
def tableText (s t : List UInt8) : List UInt8 := 123 :: 98 :: 61 :: (s ++ 10 :: 44 :: 32 :: 34 :: 97 :: 34 :: 58 :: 32 :: (t ++ [10, 44, 125]))
def keyA : ByteArray := ⟨#[97]⟩
def keyB : ByteArray := ⟨#[98]⟩
theorem kbs_table {s t : List UInt8} {v w : V} (h : G 20 (kbs s) v []) (g : G 20 (kbs t) w []) : kbs (tableText s t) = (6, [123]) :: (4, [98]) :: (6, [61]) :: (kbs s ++ (6, [44]) :: (5, [34, 97, 34]) :: (6, [58]) :: (kbs t ++ [(6, [44]), (6, [125])])) := by
  have hw : ∀ z, kbs (98 :: 61 :: z) = (4, [98]) :: kbs (61 :: z) := fun z => by
    rw [← kbs_sol (98 :: 61 :: z) 0, show (98 :: 61 :: z : List UInt8) = [98] ++ 61 :: z from rfl, solO_word (p := [98]) 0 (by decide) (by decide) (fun c hc => by obtain rfl := Option.some.inj hc; decide), List.map_cons, kbs_sol]; rfl
  have hq : ∀ z, kbs (34 :: 97 :: 34 :: 58 :: z) = (5, [34, 97, 34]) :: kbs (58 :: z) := fun z => by
    rw [← kbs_sol (34 :: 97 :: 34 :: 58 :: z) 0, show (34 :: 97 :: 34 :: 58 :: z : List UInt8) = [34, 97, 34] ++ 58 :: z from rfl, solO_tok (p := [34, 97, 34]) (k := 5) 0 (by decide) (next_app (by decide) (by decide) (by decide) ⟨fun h => absurd h (by decide), fun h => absurd h (by decide)⟩), List.map_append, kbs_sol]; rfl
  have hb : ∀ z, kbs (32 :: z) = kbs z := fun z => by rw [← kbs_sol (32 :: z) 0, solO_blank 32 z 0 (by decide), kbs_sol]
  unfold tableText
  rw [kb_mark 123 _ (by decide), hw, kb_mark 61 _ (by decide), kb_doc0 h, kb_mark 44 _ (by decide), hb, hq, kb_mark 58 _ (by decide), hb, kb_doc0 g, kb_mark 44 _ (by decide), kb_mark 125 _ (by decide)]
  rfl
theorem chkAll_shift {f : V → Nat → Nat × Nat} (hf : ∀ x m, (f x m).1 = 0 → ∃ n, (f x m).2 = m + n ∧ m + n ≤ 2000 ∧ ∀ k, k + n ≤ 2000 → f x k = (0, k + n)) : ∀ (xs : List V) (m : Nat), m ≤ 2000 → (chkAll f xs m).1 = 0 → ∃ n, (chkAll f xs m).2 = m + n ∧ m + n ≤ 2000 ∧ ∀ k, k + n ≤ 2000 → chkAll f xs k = (0, k + n)
  | [], m, hm, _ => ⟨0, rfl, hm, fun k _ => rfl⟩
  | x :: xs, m, hm, h => by
    simp only [chkAll] at h ⊢
    split at h
    · rename_i h1
      obtain ⟨n, h2, h3, h4⟩ := hf x m h1
      rw [h2] at h
      obtain ⟨j, g2, g3, g4⟩ := chkAll_shift hf xs (m + n) h3 h
      refine ⟨n + j, ?_, by omega, fun k hk => ?_⟩
      · rw [if_pos h1, h2, g2]; omega
      · rw [h4 k (by omega)]
        show (if (0 : Nat) = 0 then chkAll f xs (k + n) else _) = _
        rw [if_pos rfl, g4 (k + n) (by omega), Nat.add_assoc]
    · rename_i h1; exact absurd h h1
theorem chk_shift : ∀ (d : Nat) (v : V) (m : Nat), (chk d v m).1 = 0 → ∃ n, (chk d v m).2 = m + n ∧ m + n ≤ 2000 ∧ ∀ k, k + n ≤ 2000 → chk d v k = (0, k + n)
  | 0, v, m, h => absurd h chk_none
  | d + 1, v, m, h => by
    simp only [chk] at h
    split at h
    · cases h
    · rename_i h0
      split at h
      · rename_i h1; exact absurd h h1
      · rename_i h1
        split at h
        · rename_i h2; exact absurd h h2
        · rename_i h2
          obtain ⟨n, g1, g2, g3⟩ := chkAll_shift (chk_shift d) v.parts (m + 1) (by omega) h
          refine ⟨n + 1, ?_, by omega, fun k hk => ?_⟩
          · simp only [chk]
            rw [if_neg h0, if_neg h1, if_neg h2, g1]; omega
          · simp only [chk]
            rw [if_neg (by omega), if_neg h1, if_neg h2, g3 (k + 1) (by omega), Nat.add_right_comm, Nat.add_assoc]
theorem chk_two {d : Nat} {u : V} {a b : V} (hp : u.parts = [a, b]) (ho : ownV u = 0) (hk : keyE none u.e = 0) : (chk (d + 1) u 0).1 = 0 ↔ ∃ n j, 1 + n + j ≤ 2000 ∧ (∀ k, k + n ≤ 2000 → chk d a k = (0, k + n)) ∧ ∀ k, k + j ≤ 2000 → chk d b k = (0, k + j) := by
  simp only [chk]
  rw [if_neg (by omega), if_neg (by simp [ho]), if_neg (by simp [hk]), hp]
  simp only [chkAll]
  constructor
  · intro h
    split at h
    · rename_i h1
      obtain ⟨n, h2, h3, h4⟩ := chk_shift d a _ h1
      rw [h2] at h
      split at h
      · rename_i g1
        obtain ⟨j, g2, g3, g4⟩ := chk_shift d b _ g1
        exact ⟨n, j, by omega, h4, g4⟩
      · rename_i g1; exact absurd h g1
    · rename_i h1; exact absurd h h1
  · rintro ⟨n, j, h1, h2, h3⟩
    rw [h2 (0 + 1) (by omega)]
    show (if (0 : Nat) = 0 then _ else _ : Nat × Nat).1 = 0
    rw [if_pos rfl, h3 (0 + 1 + n) (by omega)]
    rfl
theorem own_list {v w : V} : ownV (listV [v, w]) = 0 := by
  show ownE 5 0 0 ⟨#[]⟩ 2 0 = 0
  unfold ownE
  rw [if_neg (by unfold kindBad; rw [empty_bad]; decide), if_neg (by decide), if_pos okText_nil]
theorem own_table {v w : ByteArray × V} : ownV (tableV [v, w]) = 0 := by
  show ownE 6 0 0 ⟨#[]⟩ 0 2 = 0
  unfold ownE
  rw [if_neg (by unfold kindBad; rw [empty_bad]; decide), if_neg (by decide), if_pos okText_nil]
theorem chk_table {v w : V} : chkV (tableV [(keyA, w), (keyB, v)]) = 0 ↔ chkV (listV [v, w]) = 0 := by
  have h1 : okText [97] := (okText_asciis [97] (by decide) []).2 okText_nil
  have h2 : okText [98] := (okText_asciis [98] (by decide) []).2 okText_nil
  have h3 : keyBad (some keyA) keyB = false := by
    unfold keyBad keyA keyB
    simp only [ByteArray.toList_eq]
    decide
  have ek : keyE none [(keyA, w), (keyB, v)] = 0 := by
    simp only [keyE]
    rw [if_neg (by decide), if_neg (by exact not_not_intro h1), if_neg (by decide), if_neg (by decide), if_neg (by exact not_not_intro h2), if_neg (by rw [h3]; decide)]
  unfold chkV
  rw [chk_two (u := tableV [(keyA, w), (keyB, v)]) (a := w) (b := v) rfl own_table ek, chk_two (u := listV [v, w]) (a := v) (b := w) rfl own_list rfl]
  constructor
  · rintro ⟨n, j, g1, g2, g3⟩
    exact ⟨j, n, by omega, g3, g2⟩
  · rintro ⟨n, j, g1, g2, g3⟩
    exact ⟨j, n, by omega, g3, g2⟩
theorem key_b : keyOf 4 [98] = some keyB := by
  unfold keyOf
  rw [if_neg (by decide), if_pos (by decide)]; rfl
theorem key_a : keyOf 5 [34, 97, 34] = some keyA := by
  unfold keyOf
  rw [if_pos rfl]; rfl
theorem key_ne : keyB ≠ keyA := fun e => absurd (congrArg ByteArray.data e) (by decide)
theorem put_ab {v w : V} : putAll [] [(keyB, v), (keyA, w)] = [(keyA, w), (keyB, v)] := by
  have h1 : isK keyA (keyB, v) = false := by rw [Bool.eq_false_iff, ne_eq, isK_iff]; exact key_ne
  have h2 : gtK keyA (keyB, v) = true := by
    unfold gtK keyA keyB
    simp only [ByteArray.toList_eq]
    decide
  have e1 : putL [] keyB v = [(keyB, v)] := rfl
  show putL (putL [] keyB v) keyA w = _
  rw [e1]
  have e2 : dropL [(keyB, v)] keyA = [(keyB, v)] := by unfold dropL; simp [h1]
  have e3 : gidx keyA [(keyB, v)] = 0 := by unfold gidx; simp [List.findIdx_cons, h2]
  unfold putL
  rw [e2]
  unfold insL
  rw [e3]; rfl
theorem table_G {d : Nat} {a b : List Kb} {v w : V} (h : G d a v []) (g : G d b w []) : G (d + 1) ((6, [123]) :: (4, [98]) :: (6, [61]) :: (a ++ (6, [44]) :: (5, [34, 97, 34]) :: (6, [58]) :: (b ++ [(6, [44]), (6, [125])]))) (tableV [(keyA, w), (keyB, v)]) [] := by
  refine .inr (.inr ⟨_, [(keyB, v), (keyA, w)], rfl, .more _ _ ((5, [34, 97, 34]) :: (6, [58]) :: (b ++ [(6, [44]), (6, [125])])) _ _ ?_ (.more _ _ [(6, [125])] _ _ ?_ (.nil _)), ?_, by rw [put_ab]⟩)
  · exact ⟨(4, [98]), 61, _, rfl, .inl rfl, .inr rfl, key_b, G_ext _ _ _ _ _ h⟩
  · exact ⟨(5, [34, 97, 34]), 58, _, rfl, .inr rfl, .inl rfl, key_a, G_ext _ _ _ _ _ g⟩
  · exact ⟨List.not_mem_nil, by show keyA ∉ [keyB]; rw [List.mem_singleton]; exact fun e => key_ne e.symm, trivial⟩
theorem table_ok {s t : List UInt8} {v w : V} (hs : MeanOk s v) (ht : MeanOk t w) (hl : s.length + t.length ≤ 19980) (hc : chkV (listV [v, w]) = 0) : MeanOk (tableText s t) (tableV [(keyA, w), (keyB, v)]) := by
  obtain ⟨-, h, -⟩ := meanOk_iff.1 hs
  obtain ⟨-, g, -⟩ := meanOk_iff.1 ht
  obtain ⟨k1, hk1⟩ := list_part hc List.mem_cons_self
  obtain ⟨k2, hk2⟩ := list_part hc (List.mem_cons_of_mem _ List.mem_cons_self)
  refine meanOk_iff.2 ⟨by unfold tableText; simp; omega, ?_, chk_table.2 hc⟩
  rw [kbs_table h g]
  exact table_G (G_low 19 _ _ _ _ h hk1) (G_low 19 _ _ _ _ g hk2)
theorem table_no {s t : List UInt8} {v w x : V} (hs : MeanOk s v) (ht : MeanOk t w) (hc : chkV (listV [v, w]) ≠ 0) (hx : MeanOk (tableText s t) x) : False := by
  obtain ⟨-, h, -⟩ := meanOk_iff.1 hs
  obtain ⟨-, g, -⟩ := meanOk_iff.1 ht
  obtain ⟨-, f, hx0⟩ := meanOk_iff.1 hx
  rw [kbs_table h g] at f
  obtain ⟨rfl, -⟩ := G_same f (table_G h g)
  exact hc (chk_table.1 hx0)
end Go.Proofs.YtldhmfkojaekfaaGreatDoor
namespace Go.Proofs.YtldhmfkojaekfaaGreatDoor
open Go.RowKit Gx
theorem wf_plain {k : Int} {L : List V} {E : List (ByteArray × V)} (h0 : 0 ≤ k) (h1 : k ≤ 6) : (V.mk k 0 0 ⟨#[]⟩ L E).wf :=
  ⟨by show -9223372036854775808 ≤ k; omega, by show k ≤ 9223372036854775807; omega, (by decide : (-9223372036854775808 : Int) ≤ 0), (by decide : (0 : Int) ≤ 9223372036854775807), (by decide : (0 : Int) ≤ 0), (by decide : (0 : Int) ≤ 18446744073709551615), by show ByteArray.size ⟨#[]⟩ ≤ _; decide⟩
theorem two_list {W : World} {b : Nat} {q u : Loc} (hb : W.heap[b]? = some (.cells #[.int .i64 q.v.k, .int .i64 q.v.n, .int .u64 q.v.f, .string q.v.s, .slice q.ad q.v.l.length q.cap, .slice q.bd q.v.e.length q.dap, .int .i64 u.v.k, .int .i64 u.v.n, .int .u64 u.v.f, .string u.v.s, .slice u.ad u.v.l.length u.cap, .slice u.bd u.v.e.length u.dap] 26))
    (hq : VAt W (fun _ => True) q) (hu : VAt W (fun _ => True) u) : VAt W (fun _ => True) ⟨listV [q.v, u.v], some ⟨b, 0, none⟩, 2, none, 0⟩ := by
  refine ⟨wf_plain (by decide) (by decide), ?_, .nil _ _ _⟩
  refine .row false [(⟨#[]⟩, q.v), (⟨#[]⟩, u.v)] b 0 2 (fun i => if i = 0 then .slice q.ad q.v.l.length q.cap else .slice u.ad u.v.l.length u.cap) (fun i => if i = 0 then .slice q.bd q.v.e.length q.dap else .slice u.bd u.v.e.length u.dap) (by simp) (by simp [st]) trivial (Array.getElem?_eq_some_iff.1 hb).1 (fun h => by cases h) ?_ ?_ ?_
  · intro i x hx
    match i, hx with
    | 0, hx =>
      obtain rfl := Option.some.inj hx
      refine ⟨hq.wf, ?_⟩
      simp [World.cell?, hb, st, fd]
    | 1, hx =>
      obtain rfl := Option.some.inj hx
      refine ⟨hu.wf, ?_⟩
      simp [World.cell?, hb, st, fd]
    | i + 2, hx => simp at hx
  · intro i x hx
    match i, hx with
    | 0, hx => obtain rfl := Option.some.inj hx; exact hq.l
    | 1, hx => obtain rfl := Option.some.inj hx; exact hu.l
    | i + 2, hx => simp at hx
  · intro i x hx
    match i, hx with
    | 0, hx => obtain rfl := Option.some.inj hx; exact hq.e
    | 1, hx => obtain rfl := Option.some.inj hx; exact hu.e
    | i + 2, hx => simp at hx
theorem two_table {W : World} {b : Nat} {e : TypeId} {q u : Loc} {k1 k2 : ByteArray} (h1 : k1.size ≤ 100) (h2 : k2.size ≤ 100) (hb : W.heap[b]? = some (.cells #[.string k1, .int .i64 q.v.k, .int .i64 q.v.n, .int .u64 q.v.f, .string q.v.s, .slice q.ad q.v.l.length q.cap, .slice q.bd q.v.e.length q.dap, .string k2, .int .i64 u.v.k, .int .i64 u.v.n, .int .u64 u.v.f, .string u.v.s, .slice u.ad u.v.l.length u.cap, .slice u.bd u.v.e.length u.dap] e))
    (hq : VAt W (fun _ => True) q) (hu : VAt W (fun _ => True) u) : VAt W (fun _ => True) ⟨tableV [(k1, q.v), (k2, u.v)], none, 0, some ⟨b, 0, none⟩, 2⟩ := by
  refine ⟨wf_plain (by decide) (by decide), .nil _ _ _, ?_⟩
  refine .row true [(k1, q.v), (k2, u.v)] b 0 2 (fun i => if i = 0 then .slice q.ad q.v.l.length q.cap else .slice u.ad u.v.l.length u.cap) (fun i => if i = 0 then .slice q.bd q.v.e.length q.dap else .slice u.bd u.v.e.length u.dap) (by simp) (by simp [st]) trivial (Array.getElem?_eq_some_iff.1 hb).1 (fun _ => ?_) ?_ ?_ ?_
  · intro i x hx
    match i, hx with
    | 0, hx =>
      obtain rfl := Option.some.inj hx
      exact ⟨by simp [World.cell?, hb], by show k1.size ≤ _; omega⟩
    | 1, hx =>
      obtain rfl := Option.some.inj hx
      exact ⟨by simp [World.cell?, hb], by show k2.size ≤ _; omega⟩
    | i + 2, hx => simp at hx
  · intro i x hx
    match i, hx with
    | 0, hx =>
      obtain rfl := Option.some.inj hx
      refine ⟨hq.wf, ?_⟩
      simp [World.cell?, hb, st, fd]
    | 1, hx =>
      obtain rfl := Option.some.inj hx
      refine ⟨hu.wf, ?_⟩
      simp [World.cell?, hb, st, fd]
    | i + 2, hx => simp at hx
  · intro i x hx
    match i, hx with
    | 0, hx => obtain rfl := Option.some.inj hx; exact hq.l
    | 1, hx => obtain rfl := Option.some.inj hx; exact hu.l
    | i + 2, hx => simp at hx
  · intro i x hx
    match i, hx with
    | 0, hx => obtain rfl := Option.some.inj hx; exact hq.e
    | 1, hx => obtain rfl := Option.some.inj hx; exact hu.e
    | i + 2, hx => simp at hx
/-- what mean.Mean answers, by what is known of it -/
theorem mean_told (S : ByteArray) (w : World) (hT : MTabs w) (R : V → Int → Prop) (hok : ∀ v, MeanOk S.data.toList v → R v 0) (hbad : ∀ a c, MeanBad S.data.toList a c → c ≠ 0 → R .zero c) :
    Calls Tryz.prog 15 #[.string S] w (fun e w' => Below w.heap.size w w' ∧ ∃ (y : Loc) (a c : Int), R y.v c ∧ VAt w' (fun b => w.heap.size ≤ b) y ∧ e = .returned (.tuple #[y.val, .int .i64 a, .int .i64 c])) := by
  have hm := mean_any S w hT
  unfold MeanPost at hm
  refine hm.mono ?_
  rintro e w' ⟨hb, ⟨q, hq, rfl, hv⟩ | ⟨a, c, hbd, hc, rfl⟩⟩
  · exact ⟨hb, q, 0, 0, hok _ hq, hv, rfl⟩
  · exact ⟨hb, ⟨.zero, none, 0, none, 0⟩, a, c, hbad _ _ hbd hc, VAt.zero _ _ _ _ _ _, rfl⟩
def ListR (v w : V) (x : V) (c : Int) : Prop := (chkV (listV [v, w]) = 0 → x = listV [v, w] ∧ c = 0) ∧ (chkV (listV [v, w]) ≠ 0 → c ≠ 0)
def TableR (v w : V) (x : V) (c : Int) : Prop := (chkV (listV [v, w]) = 0 → x = tableV [(keyA, w), (keyB, v)] ∧ c = 0) ∧ (chkV (listV [v, w]) ≠ 0 → c ≠ 0)
theorem list_told {s t S : ByteArray} {v w : V} (hs : MeanOk s.data.toList v) (ht : MeanOk t.data.toList w) (hl : s.size + t.size ≤ 19980) (hS : S.data.toList = listText s.data.toList t.data.toList) (W : World) (hT : MTabs W) :
    Calls Tryz.prog 15 #[.string S] W (fun e w' => Below W.heap.size W w' ∧ ∃ (y : Loc) (a c : Int), ListR v w y.v c ∧ VAt w' (fun b => W.heap.size ≤ b) y ∧ e = .returned (.tuple #[y.val, .int .i64 a, .int .i64 c])) := by
  rw [Lib.size_eq s, Lib.size_eq t] at hl
  refine mean_told S W hT _ (fun x hx => ?_) (fun a c hx hc => ⟨fun h0 => ?_, fun _ => hc⟩)
  · rw [hS] at hx
    exact ⟨fun h0 => ⟨ok_same hx (list_ok hs ht hl h0), rfl⟩, fun h0 => (list_no hs ht h0 hx).elim⟩
  · rw [hS] at hx
    exact (ok_not_bad (list_ok hs ht hl h0) hx).elim
theorem table_told {s t S : ByteArray} {v w : V} (hs : MeanOk s.data.toList v) (ht : MeanOk t.data.toList w) (hl : s.size + t.size ≤ 19980) (hS : S.data.toList = tableText s.data.toList t.data.toList) (W : World) (hT : MTabs W) :
    Calls Tryz.prog 15 #[.string S] W (fun e w' => Below W.heap.size W w' ∧ ∃ (y : Loc) (a c : Int), TableR v w y.v c ∧ VAt w' (fun b => W.heap.size ≤ b) y ∧ e = .returned (.tuple #[y.val, .int .i64 a, .int .i64 c])) := by
  rw [Lib.size_eq s, Lib.size_eq t] at hl
  refine mean_told S W hT _ (fun x hx => ?_) (fun a c hx hc => ⟨fun h0 => ?_, fun _ => hc⟩)
  · rw [hS] at hx
    exact ⟨fun h0 => ⟨ok_same hx (table_ok hs ht hl h0), rfl⟩, fun h0 => (table_no hs ht h0 hx).elim⟩
  · rw [hS] at hx
    exact (ok_not_bad (table_ok hs ht hl h0) hx).elim
end Go.Proofs.YtldhmfkojaekfaaGreatDoor
